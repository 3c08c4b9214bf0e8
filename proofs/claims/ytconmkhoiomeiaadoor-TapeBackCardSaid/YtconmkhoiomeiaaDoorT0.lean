/- The plain law of a line of the tape: words, numbers, what is right, what is written is read as it was. -/
import Derived.Lib.Split
import Derived.Lib.Join
import Derived.Lib.AtoiAll
import Derived.Lib.ItoaNum
import Derived.Lib.SlicesS
namespace Go.Proofs.YtconmkhoiomeiaaDoor
open Go.Lib

/-- the words of a text. -/
def wordsL : List UInt8 → List (List UInt8)
  | [] => [[]]
  | c :: r => if c = 32 then [] :: wordsL r else (c :: (wordsL r).headD []) :: (wordsL r).tail
theorem wordsL_ne (s : List UInt8) : wordsL s ≠ [] := by cases s <;> simp [wordsL]; split <;> simp
theorem wordsL_eq (s : List UInt8) : wordsL s = (wordsL s).headD [] :: (wordsL s).tail := by
  cases h : wordsL s with
  | nil => exact absurd h (wordsL_ne s)
  | cons w ws => rfl

theorem join_cons2 (x y : List UInt8) (r : List (List UInt8)) (sep : List UInt8) : join (x :: y :: r) sep = x ++ sep ++ join (y :: r) sep := by
  rw [join_cons, join_cons]
  simp [joinTail]
theorem join_words (s : List UInt8) : join (wordsL s) [32] = s := by
  induction s with
  | nil => rfl
  | cons c r ih =>
    unfold wordsL
    split
    · rename_i h
      rw [wordsL_eq r, join_cons2, ← wordsL_eq r, ih, h]; rfl
    · rw [wordsL_eq r] at ih
      rw [join_cons] at ih ⊢
      rw [List.cons_append, ih]
theorem words_noSpace (w : List UInt8) (h : ∀ c ∈ w, c ≠ 32) : wordsL w = [w] := by
  induction w with
  | nil => rfl
  | cons c r ih =>
    rw [wordsL, if_neg (h c (by simp)), ih fun d hd => h d (by simp [hd])]
    rfl
theorem words_app (w r : List UInt8) (h : ∀ c ∈ w, c ≠ 32) : wordsL (w ++ 32 :: r) = w :: wordsL r := by
  induction w with
  | nil => simp [wordsL]
  | cons c w ih =>
    rw [List.cons_append, wordsL, if_neg (h c (by simp)), ih fun d hd => h d (by simp [hd])]
    rfl
theorem words_join : ∀ (ws : List (List UInt8)), ws ≠ [] → (∀ w ∈ ws, ∀ c ∈ w, c ≠ 32) → wordsL (join ws [32]) = ws
  | [], h, _ => absurd rfl h
  | [w], _, h => by rw [join_one]; exact words_noSpace w (h w (by simp))
  | w :: x :: r, _, h => by
    rw [join_cons2, List.append_assoc, List.singleton_append, words_app w _ (h w (by simp)), words_join (x :: r) (by simp) fun y hy => h y (by simp [hy])]

/-- the digits of a number. -/
theorem dec_bytes (n : Nat) : ∀ c ∈ decDigits n, 48 ≤ c.toNat ∧ c.toNat ≤ 57 := by
  induction n using Nat.strongRecOn with
  | ind n ih =>
    intro c hc
    rw [decDigits] at hc
    split at hc
    · rename_i h
      simp only [List.mem_singleton] at hc
      subst hc
      have : (UInt8.ofNat (48 + n)).toNat = 48 + n := by simp [UInt8.toNat_ofNat']; omega
      omega
    · rename_i h
      rcases List.mem_append.1 hc with hc | hc
      · exact ih (n / 10) (by omega) c hc
      · simp only [List.mem_singleton] at hc
        subst hc
        have : (UInt8.ofNat (48 + n % 10)).toNat = 48 + n % 10 := by simp [UInt8.toNat_ofNat']; omega
        omega
theorem dec_noSpace (n : Nat) : ∀ c ∈ decDigits n, c ≠ 32 := by
  intro c hc h
  have := dec_bytes n c hc
  rw [h] at this
  simp at this
theorem dec_ne (n : Nat) : decDigits n ≠ [] := by
  rw [decDigits]; split <;> simp

/-- what a row of digits spells, behind what comes ahead. -/
def stepD (a : Nat) (c : UInt8) : Nat := a * 10 + (c.toNat - 48)
def valD (acc : Nat) (l : List UInt8) : Nat := l.foldl stepD acc
theorem valD_append (a b : List UInt8) (acc : Nat) : valD acc (a ++ b) = valD (valD acc a) b := List.foldl_append
theorem dec_step (n : Nat) (h : ¬ n < 10) : decDigits n = decDigits (n / 10) ++ [UInt8.ofNat (48 + n % 10)] := by
  conv => lhs; rw [decDigits]
  rw [dif_neg h]
theorem dec_digit (n : Nat) (h : n < 10) : (UInt8.ofNat (48 + n)).toNat - 48 = n := by
  have : (UInt8.ofNat (48 + n)).toNat = 48 + n := by simp [UInt8.toNat_ofNat']; omega
  omega
theorem valD_one (acc : Nat) (c : UInt8) : valD acc [c] = acc * 10 + (c.toNat - 48) := rfl
theorem valD_snoc (l : List UInt8) (c : UInt8) (v : Nat) (h : valD 0 l = v) : valD 0 (l ++ [c]) = v * 10 + (c.toNat - 48) := by
  rw [valD_append, h, valD_one]
theorem ten (n : Nat) : n / 10 * 10 + n % 10 = n := by omega
theorem valD_dec (n : Nat) : valD 0 (decDigits n) = n := by
  induction n using Nat.strongRecOn with
  | ind n ih =>
    by_cases h : n < 10
    · rw [decDigits, dif_pos h, valD_one, dec_digit n h, Nat.zero_mul, Nat.zero_add]
    · have h1 := ih (n / 10) (by omega)
      have h2 := dec_digit (n % 10) (Nat.mod_lt n (by decide))
      have h3 := dec_step n h
      generalize hl : decDigits (n / 10) = l at h1 h3
      rw [h3]
      have h4 := valD_snoc l (UInt8.ofNat (48 + n % 10)) (n / 10) h1
      rw [h2, ten] at h4
      exact h4
theorem valD_cons (acc : Nat) (c : UInt8) (r : List UInt8) : valD acc (c :: r) = valD (stepD acc c) r := List.foldl_cons ..
theorem stepD_eq (acc : Nat) (c : UInt8) : stepD acc c = acc * 10 + (c.toNat - 48) := rfl
theorem valD_ge (l : List UInt8) : ∀ acc, acc ≤ valD acc l := by
  induction l with
  | nil => intro acc; exact Nat.le_refl _
  | cons c l ih =>
    intro acc
    rw [valD_cons]
    refine Nat.le_trans ?_ (ih _)
    rw [stepD_eq]; omega
theorem dec_inj {a b : Nat} (h : decDigits a = decDigits b) : a = b := by rw [← valD_dec a, ← valD_dec b, h]
theorem parse10 : ∀ (l : List UInt8) (acc : Nat), (∀ c ∈ l, 48 ≤ c.toNat ∧ c.toNat ≤ 57) → valD acc l ≤ 999999999 → parseUint10 acc l = .ok (valD acc l)
  | [], _, _, _ => rfl
  | c :: r, acc, h, hv => by
    have h1 := h c (by simp)
    have h2 := valD_ge r (stepD acc c)
    rw [stepD_eq] at h2
    rw [valD_cons, stepD_eq] at hv
    have h3 : ¬ 1844674407370955162 ≤ acc := by omega
    have h4 : ¬ 18446744073709551616 ≤ acc * 10 + (c.toNat - 48) := by omega
    simp only [parseUint10, valD_cons, stepD_eq, h1, h3, h4, and_self, if_true, if_false]
    exact parse10 r _ (fun d hd => h d (by simp [hd])) hv
theorem atoi_mag (c : UInt8) (r : List UInt8) (u : Nat) (h : ¬ (c.toNat = 43 ∨ c.toNat = 45)) (hm : parseMag (c :: r) = .ok u) (hu : ¬ 9223372036854775808 ≤ u) : atoiAll (c :: r) = .ok (u : Int) := by
  have h2 : ¬ c.toNat = 45 := fun e => h (Or.inr e)
  have h1 : ¬ c.toNat = 43 := fun e => h (Or.inl e)
  simp only [atoiAll, h1, h2, hm, hu, not_false_eq_true, true_and, false_and, if_false, or_self]
theorem atoi_dec (n : Nat) (h : n ≤ 999999999) : atoiAll (decDigits n) = .ok (n : Int) := by
  have hb := dec_bytes n
  have hp : parseUint10 0 (decDigits n) = .ok n := by
    have := parse10 (decDigits n) 0 hb (by rw [valD_dec]; exact h)
    rwa [valD_dec] at this
  have hm : parseMag (decDigits n) = .ok n := by
    unfold parseMag
    rw [if_neg (dec_ne n)]; exact hp
  have hne := dec_ne n
  generalize decDigits n = l at hb hm hne
  cases l with
  | nil => exact absurd rfl hne
  | cons c r =>
    have hc := hb c (by simp)
    exact atoi_mag c r n (by omega) hm (by omega)

/-- the ops' words. -/
def names : List (List UInt8) := [[], [115, 116, 101, 112], [100, 114, 97, 105, 110], [115, 101, 110, 100], [114, 101, 99, 118], [114, 101, 108, 101, 97, 115, 101], [104, 111, 108, 100], [115, 116, 97, 114, 116], [119, 114, 105, 116, 101], [114, 117, 110], [114, 101, 115, 116], [100, 105, 97, 114, 121], [113, 117, 101, 117, 101], [115, 108, 111, 116, 115], [99, 111, 114, 101], [119, 111, 114, 100]]
/-- an op's word. -/
def nam (op : Int) : List UInt8 := if 0 ≤ op ∧ op ≤ 15 then names.getD op.toNat [] else []
/-- how many numbers an op has, at least. -/
def least (op : Int) : Int := if op = 3 then 2 else if op = 5 ∨ op = 8 then 3 else if op = 4 ∨ op = 12 ∨ op = 13 then 2 else if op = 1 ∨ op = 2 ∨ op = 6 ∨ op = 7 ∨ op = 9 ∨ op = 14 ∨ op = 15 then 1 else 0
/-- how many numbers an op has, at most. -/
def most (op : Int) : Int := if op = 3 then 10 else least op
/-- may a line's head be? -/
def HeadOk (op : Int) (n : Nat) : Prop := 0 ≤ op ∧ op ≤ 15 ∧ least op ≤ n ∧ (n : Int) ≤ most op
instance (op : Int) (n : Nat) : Decidable (HeadOk op n) := by unfold HeadOk; infer_instance
/-- is a number out of bounds? -/
def outN (z : Int) : Bool := decide (z < 0) || decide (999999999 < z)
/-- is a line right? -/
def rightP (op : Int) (l : List Int) : Bool := decide (HeadOk op l.length) && !l.any outN
/-- a line's words. -/
def wordsP (op : Int) (l : List Int) : List (List UInt8) := nam op :: l.map fun z => decDigits z.toNat
/-- a line's text. -/
def printP (op : Int) (l : List Int) : List UInt8 := join (wordsP op l) [32]

theorem least_le (op : Int) : 0 ≤ least op ∧ least op ≤ 3 := by unfold least; split <;> (try split) <;> (try split) <;> (try split) <;> omega
theorem most_le (op : Int) : most op ≤ 10 := by unfold most; split; omega; exact Int.le_trans (least_le op).2 (by omega)

theorem nam_cases (op : Int) (h0 : 0 ≤ op) (h1 : op ≤ 15) : ∃ k : Nat, op = k ∧ k < 16 ∧ nam op = names.getD k [] := by
  obtain ⟨k, rfl⟩ := Int.eq_ofNat_of_zero_le h0
  exact ⟨k, rfl, by omega, by unfold nam; rw [if_pos ⟨h0, h1⟩]; simp⟩
theorem names_noSpace : ∀ w ∈ names, ∀ c ∈ w, c ≠ 32 := by decide
theorem nam_noSpace (op : Int) : ∀ c ∈ nam op, c ≠ 32 := by
  unfold nam
  split
  · rename_i h
    intro c hc
    have hm : names.getD op.toNat [] ∈ names := by
      have : op.toNat < names.length := by show _ < 16; omega
      rw [List.getD_eq_getElem?_getD, List.getElem?_eq_getElem this]
      exact List.getElem_mem this
    exact names_noSpace _ hm c hc
  · intro c hc; cases hc
theorem names_inj : ∀ a : Nat, a < 16 → ∀ b : Nat, b < 16 → names.getD a [] = names.getD b [] → a = b := by decide

theorem wordsP_noSpace (op : Int) (l : List Int) : ∀ w ∈ wordsP op l, ∀ c ∈ w, c ≠ 32 := by
  intro w hw
  rcases List.mem_cons.1 hw with rfl | hw
  · exact nam_noSpace op
  · obtain ⟨z, _, rfl⟩ := List.mem_map.1 hw
    exact dec_noSpace _
theorem words_print (op : Int) (l : List Int) : wordsL (printP op l) = wordsP op l := words_join _ (by simp [wordsP]) (wordsP_noSpace op l)

/-- what Atoi hands back of a word. -/
def av (w : List UInt8) : Int := match atoiAll w with
  | .ok v => v
  | .range => atoiSat w
  | _ => 0
/-- where a word stands among the ops' words; -1. -/
def idxL (w : List UInt8) : List (List UInt8) → Int
  | [] => -1
  | x :: r => if x = w then 0 else if idxL w r < 0 then -1 else idxL w r + 1
theorem idxL_names : ∀ k : Nat, k < 16 → idxL (names.getD k []) names = (k : Int) := by decide

theorem right_args {op : Int} {l : List Int} (h : rightP op l = true) : (0 ≤ op ∧ op ≤ 15) ∧ ∀ z ∈ l, 0 ≤ z ∧ z ≤ 999999999 := by
  simp only [rightP, Bool.and_eq_true, decide_eq_true_eq, Bool.not_eq_true', List.any_eq_false] at h
  refine ⟨⟨h.1.1, h.1.2.1⟩, fun z hz => ?_⟩
  have := h.2 z hz
  simp [outN] at this
  omega

/-- the line that the words of a text tell. -/
def lineOp (s : List UInt8) : Int := idxL ((wordsL s).headD []) names
def lineArgs (s : List UInt8) : List Int := (wordsL s).tail.map av
/-- what is written is read as it was. -/
theorem line_print {op : Int} {l : List Int} (h : rightP op l = true) : lineOp (printP op l) = op ∧ lineArgs (printP op l) = l := by
  obtain ⟨⟨h0, h1⟩, ha⟩ := right_args h
  unfold lineOp lineArgs
  rw [words_print]
  constructor
  · obtain ⟨k, rfl, hk, hn⟩ := nam_cases op h0 h1
    show idxL (nam _) names = _
    rw [hn]; exact idxL_names k hk
  · show (l.map fun z => decDigits z.toNat).map av = l
    rw [List.map_map]
    conv => rhs; rw [← List.map_id l]
    apply List.map_congr_left
    intro z hz
    have := ha z hz
    show av (decDigits z.toNat) = z
    unfold av
    rw [atoi_dec z.toNat (by omega)]
    simp only; omega

/-- is a text a line's? -/
def okP (s : List UInt8) : Bool := rightP (lineOp s) (lineArgs s) && decide (printP (lineOp s) (lineArgs s) = s)
theorem okP_iff (s : List UInt8) : okP s = true ↔ ∃ op l, rightP op l = true ∧ printP op l = s := by
  constructor
  · intro h
    simp only [okP, Bool.and_eq_true, decide_eq_true_eq] at h
    exact ⟨_, _, h.1, h.2⟩
  · rintro ⟨op, l, h, rfl⟩
    obtain ⟨h1, h2⟩ := line_print h
    simp only [okP, h1, h2, h, Bool.true_and, decide_eq_true_eq]

/-- is a word a number's? -/
def isNum (w : List UInt8) : Prop := ∃ n : Nat, n ≤ 999999999 ∧ w = decDigits n

theorem print_nil {op : Int} {l : List Int} (h : rightP op l = true) (hs : printP op l ≠ []) : op ≠ 0 := by
  rintro rfl
  have hr := h
  simp only [rightP, Bool.and_eq_true, decide_eq_true_eq] at hr
  obtain ⟨h1, h2, h3, h4⟩ := hr.1
  have : l.length = 0 := by have : most 0 = 0 := by decide
                            omega
  have hl : l = [] := List.eq_nil_of_length_eq_zero this
  subst hl
  exact hs (by decide)

/-- when the reference takes a text. -/
theorem okP_ref (s : List UInt8) (hs : s ≠ []) : okP s = true ↔ ∃ k : Nat, 1 ≤ k ∧ k < 16 ∧ (wordsL s).headD [] = names.getD k [] ∧ (∀ w ∈ (wordsL s).tail, isNum w) ∧ rightP k (lineArgs s) = true := by
  constructor
  · intro h
    have h' := h
    simp only [okP, Bool.and_eq_true, decide_eq_true_eq] at h'
    obtain ⟨hr, hp⟩ := h'
    obtain ⟨⟨h0, h1⟩, ha⟩ := right_args hr
    have hne : lineOp s ≠ 0 := print_nil hr (by rw [hp]; exact hs)
    obtain ⟨k, hk, hk2, hn⟩ := nam_cases _ h0 h1
    have hw := words_print (lineOp s) (lineArgs s)
    rw [hp] at hw
    refine ⟨k, by omega, hk2, ?_, ?_, by rw [← hk]; exact hr⟩
    · rw [hw]; exact hn
    · intro w hwm
      rw [hw] at hwm
      obtain ⟨z, hz, rfl⟩ := List.mem_map.1 (show w ∈ (lineArgs s).map _ from hwm)
      have := ha z hz
      exact ⟨z.toNat, by omega, rfl⟩
  · rintro ⟨k, hk1, hk2, hn, hnum, hr⟩
    have hop : lineOp s = k := by unfold lineOp; rw [hn]; exact idxL_names k hk2
    have hw : wordsP k (lineArgs s) = wordsL s := by
      rw [wordsL_eq s]
      unfold wordsP
      congr 1
      · rw [hn]
        obtain ⟨k', hk', _, hn'⟩ := nam_cases (k : Int) (by omega) (by omega)
        rw [hn']; congr 1; omega
      · unfold lineArgs
        rw [List.map_map]
        conv => rhs; rw [← List.map_id (wordsL s).tail]
        apply List.map_congr_left
        intro w hwm
        obtain ⟨n, hn1, rfl⟩ := hnum w hwm
        show decDigits (av (decDigits n)).toNat = _
        unfold av
        rw [atoi_dec n hn1]; simp
    simp only [okP, hop, Bool.and_eq_true, decide_eq_true_eq]
    refine ⟨hr, ?_⟩
    unfold printP
    rw [hw, join_words]

/-- unlike lines have unlike texts. -/
theorem print_inj {op op' : Int} {l l' : List Int} (h : rightP op l = true) (h' : rightP op' l' = true) (he : printP op l = printP op' l') : op = op' ∧ l = l' := by
  obtain ⟨a1, a2⟩ := line_print h
  obtain ⟨b1, b2⟩ := line_print h'
  rw [he] at a1 a2
  exact ⟨a1.symm.trans b1, a2.symm.trans b2⟩
end Go.Proofs.YtconmkhoiomeiaaDoor
