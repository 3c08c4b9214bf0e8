/- What a right diary is: the plain law, and each entry's walk. -/
import Derived.Test.YtbfpaemaiaeljaaDoorD5
import Derived.Deep.RegionHeld3
import Derived.Deep.RegionWith
namespace Go.Proofs.YtbfpaemaiaeljaaDoor
open Go.RowKit

/-- may the head of an entry stand in a diary? -/
def headOk (x : En) : Prop := 0 ≤ x.core ∧ x.core < 8 ∧ 0 ≤ x.peer ∧ x.peer < 8 ∧ x.core ≠ x.peer ∧ 1 ≤ x.kind ∧ x.kind ≤ 3 ∧ 1 ≤ x.bg ∧ x.len ≤ 8 ∧ (x.nd = 0 → x.err = 0) ∧ (x.nd ≠ 0 → x.bg ≤ x.nd)
instance (x : En) : Decidable (headOk x) := by unfold headOk; infer_instance
/-- may an entry stand in a diary? -/
def oneP (x : En) : Bool := decide (headOk x) && x.load.all fun z => decide (0 ≤ z ∧ z < 65536)
/-- does an entry stand behind another one, if it is of the same core? -/
def Behind (x y : En) : Prop := x.core = y.core → x.bg < y.bg ∧ (x.nd ≠ 0 → x.nd < y.bg)
/-- is a diary right, where of each core something has been told? -/
def rightR : List Int → List En → Bool
  | _, [] => true
  | last, x :: l => oneP x && decide (last.getD x.core.toNat 0 < x.bg) && rightR (last.set x.core.toNat (max x.bg x.nd)) l

theorem oneP_head {x : En} (h : oneP x = true) : headOk x := by simp [oneP] at h; exact h.1

theorem getD_set (l : List Int) (i j : Nat) (z : Int) (hi : i < l.length) : (l.set i z).getD j 0 = if i = j then z else l.getD j 0 := by
  by_cases h : i = j
  · subst h; simp [List.getD_eq_getElem?_getD, hi]
  · simp [List.getD_eq_getElem?_getD, h]

theorem rightR_iff : ∀ (l : List En) (last : List Int), last.length = 8 → (rightR last l = true ↔ (∀ x ∈ l, oneP x = true ∧ last.getD x.core.toNat 0 < x.bg) ∧ l.Pairwise Behind)
  | [], _, _ => by simp [rightR]
  | x :: l, last, hl => by
    simp only [rightR, Bool.and_eq_true, decide_eq_true_eq, List.mem_cons, forall_eq_or_imp, List.pairwise_cons]
    rw [rightR_iff l _ (by simpa using hl)]
    constructor
    · rintro ⟨⟨h1, h2⟩, h3, h4⟩
      have hx := oneP_head h1
      unfold headOk at hx
      have hlx : x.core.toNat < last.length := by omega
      have key : ∀ y ∈ l, oneP y = true ∧ last.getD y.core.toNat 0 < y.bg ∧ Behind x y := by
        intro y hy
        obtain ⟨a, b⟩ := h3 y hy
        have hyo := oneP_head a
        unfold headOk at hyo
        rw [getD_set _ _ _ _ hlx] at b
        by_cases hc : x.core = y.core
        · have e : x.core.toNat = y.core.toNat := by rw [hc]
          rw [if_pos e] at b
          refine ⟨a, ?_, fun _ => ⟨by omega, fun _ => by omega⟩⟩
          rw [← e]; omega
        · have e : x.core.toNat ≠ y.core.toNat := by omega
          rw [if_neg e] at b
          exact ⟨a, b, fun h => absurd h hc⟩
      exact ⟨⟨⟨h1, h2⟩, fun y hy => ⟨(key y hy).1, (key y hy).2.1⟩⟩, ⟨fun y hy => (key y hy).2.2, h4⟩⟩
    · rintro ⟨⟨⟨h1, h2⟩, h3⟩, h4, h5⟩
      have hx := oneP_head h1
      unfold headOk at hx
      have hlx : x.core.toNat < last.length := by omega
      refine ⟨⟨h1, h2⟩, fun y hy => ?_, h5⟩
      obtain ⟨a, b⟩ := h3 y hy
      have hyo := oneP_head a
      unfold headOk at hyo
      have hs := h4 y hy
      unfold Behind at hs
      refine ⟨a, ?_⟩
      rw [getD_set _ _ _ _ hlx]
      by_cases hc : x.core = y.core
      · have e : x.core.toNat = y.core.toNat := by rw [hc]
        rw [if_pos e]
        obtain ⟨c, d⟩ := hs hc
        by_cases hn : x.nd = 0
        · omega
        · have := d hn; omega
      · have e : x.core.toNat ≠ y.core.toNat := by omega
        rw [if_neg e]
        exact b

/-- is a diary right? -/
def RightQ (l : List En) : Prop := (∀ x ∈ l, oneP x = true) ∧ l.Pairwise Behind
theorem rightR_zero (l : List En) : rightR (List.replicate 8 0) l = true ↔ RightQ l := by
  rw [rightR_iff l _ (by simp)]
  unfold RightQ
  constructor
  · rintro ⟨h, h2⟩
    exact ⟨fun x hx => (h x hx).1, h2⟩
  · rintro ⟨h, h2⟩
    refine ⟨fun x hx => ⟨h x hx, ?_⟩, h2⟩
    have hx' := oneP_head (h x hx)
    unfold headOk at hx'
    have e : (List.replicate 8 (0 : Int)).getD x.core.toNat 0 = 0 := by
      simp only [List.getD_eq_getElem?_getD, List.getElem?_replicate]
      split <;> rfl
    rw [e]; omega
theorem RightQ.filter {l : List En} (h : RightQ l) (p : En → Bool) : RightQ (l.filter p) :=
  ⟨fun x hx => h.1 x (List.mem_filter.1 hx).1, h.2.sublist List.filter_sublist⟩

/-- the channel of an entry comes ahead of a channel. -/
def ahead (a b : Int) (x : En) : Bool := if x.kind == 1 then decide (x.core < a ∨ x.core = a ∧ x.peer < b) else decide (x.peer < a ∨ x.peer = a ∧ x.core < b)
theorem count_step (l : List En) (h : ∀ x ∈ l, oneP x = true) (a b : Int) : (l.filter (ahead a (b + 1))).length = (l.filter (ahead a b)).length + (l.filter (sentP a b)).length + (l.filter (takenP a b)).length := by
  induction l with
  | nil => rfl
  | cons x l ih =>
    have hx := oneP_head (h x (by simp))
    unfold headOk at hx
    have ih := ih fun y hy => h y (by simp [hy])
    simp only [List.filter_cons]
    have key : (if ahead a (b + 1) x then 1 else 0) = (if ahead a b x then 1 else 0) + (if sentP a b x then 1 else 0) + (if takenP a b x then 1 else 0) := by
      by_cases k : x.kind = 1
      · by_cases c : x.core = a
        · by_cases d : x.peer = b
          · simp [ahead, sentP, takenP, k, c, d]; try omega
          · have e : (x.peer < b + 1) ↔ (x.peer < b) := by omega
            simp [ahead, sentP, takenP, k, c, d, e]
        · simp [ahead, sentP, takenP, k, c]
      · have k23 : x.kind = 2 ∨ x.kind = 3 := by omega
        have k23' : (x.kind == 2 || x.kind == 3) = true := by simpa using k23
        by_cases c : x.peer = a
        · by_cases d : x.core = b
          · simp [ahead, sentP, takenP, k, c, d, k23]; try omega
          · have e : (x.core < b + 1) ↔ (x.core < b) := by omega
            simp [ahead, sentP, takenP, k, c, d, e]
        · simp [ahead, sentP, takenP, k, c]
    revert key
    cases ahead a (b + 1) x <;> cases ahead a b x <;> cases sentP a b x <;> cases takenP a b x <;> simp <;> omega
theorem count_row (l : List En) (h : ∀ x ∈ l, oneP x = true) (a : Int) : l.filter (ahead a 8) = l.filter (ahead (a + 1) 0) := by
  apply List.filter_congr
  intro x hx
  have hx := oneP_head (h x hx)
  unfold headOk at hx
  simp only [ahead]
  split <;> rw [Bool.eq_iff_iff] <;> simp <;> omega
theorem count_none (l : List En) (h : ∀ x ∈ l, oneP x = true) : l.filter (ahead 0 0) = [] := by
  rw [List.filter_eq_nil_iff]
  intro x hx
  have hx := oneP_head (h x hx)
  unfold headOk at hx
  simp only [ahead]
  split <;> simp <;> omega
theorem count_all (l : List En) (h : ∀ x ∈ l, oneP x = true) : l.filter (ahead 8 0) = l := by
  rw [List.filter_eq_self]
  intro x hx
  have hx := oneP_head (h x hx)
  unfold headOk at hx
  simp only [ahead]
  split <;> simp <;> omega
theorem self_none (l : List En) (h : ∀ x ∈ l, oneP x = true) (a : Int) : l.filter (sentP a a) = [] ∧ l.filter (takenP a a) = [] := by
  constructor <;> rw [List.filter_eq_nil_iff] <;> intro x hx <;> have hx := oneP_head (h x hx) <;> unfold headOk at hx
  · simp only [sentP, Bool.and_eq_true, beq_iff_eq]; omega
  · simp only [takenP, Bool.and_eq_true, beq_iff_eq]; omega

theorem word_i64 (a : Int) : bits .and .i64 a 65535 = a % 65536 := by
  show IntKind.i64.wrap ((BitVec.ofInt 64 a &&& BitVec.ofInt 64 65535).toNat : Int) = _
  have h : (BitVec.ofInt 64 (65535 : Int)).toNat = 2 ^ 16 - 1 := by decide
  rw [BitVec.toNat_and, h, Nat.and_two_pow_sub_one_eq_mod, BitVec.toNat_ofInt, IntKind.wrap_i64]
  simp only [Nat.reducePow]
  omega

theorem word_any (w : World) (z : Int) : Calls Tryd.prog 37 #[.int .i64 z] w fun e w' => e = .returned (.int .i64 (z % 65536)) ∧ w = w' := by
  have h := word_i64 z
  go_enter Tryd.func37, Tryd.ntmps37
  go_wp2
  go_ret
  exact ⟨by simp, rfl⟩

/-- is a number no word? -/
def noWord (z : Int) : Bool := z != z % 65536
theorem right1_any (w : World) (z : Int) : Calls Tryd.prog 36 #[.int .i64 z] w fun e w' => e = .returned (.bool (noWord z)) ∧ w = w' := by
  go_enter Tryd.func36, Tryd.ntmps36
  go_wp2_with fail
  refine (word_any w z).mono ?_
  rintro e w1 ⟨rfl, rfl⟩
  generalize hm : z % 65536 = m
  have HM := Lib.hid hm
  clear hm
  go_wp2
  go_ret
  exact ⟨ret_bool (by unfold noWord; rw [HM.out]), rfl⟩

/-- the first place of which something is true; -1. -/
def idxP (p : Int → Bool) : List Int → Int
  | [] => -1
  | y :: l => if p y then 0 else if idxP p l < 0 then -1 else idxP p l + 1
theorem idxP_take (p : Int → Bool) (l : List Int) : ∀ k, k ≤ l.length → (∀ j, j < k → p (l.getD j 0) = false) → (k < l.length → p (l.getD k 0) = true) → idxP p l = if k < l.length then (k : Int) else -1 := by
  induction l with
  | nil => intro k hk _ _; simp [idxP]
  | cons y l ih =>
    intro k hk hn hp
    cases k with
    | zero =>
      have := hp (by simp)
      simp at this
      simp [idxP, this]
    | succ k =>
      have h0 := hn 0 (by omega)
      simp at h0
      have := ih k (by simpa using hk) (fun j hj => by simpa using hn (j + 1) (by omega)) (fun h => by simpa using hp (by simpa using h))
      simp only [idxP, h0, this, List.length_cons]
      by_cases hk' : k < l.length
      · simp [hk']; omega
      · simp [hk']
theorem idxP_nonneg (p : Int → Bool) (l : List Int) : decide (0 ≤ idxP p l) = l.any p := by
  induction l with
  | nil => simp [idxP]
  | cons y l ih =>
    cases hy : p y
    · simp only [idxP, hy, List.any_cons, Bool.false_or, ← ih]
      by_cases h : idxP p l < 0
      · simp [h]
      · simp [h]; omega
    · simp [idxP, hy]

theorem indexW_any (w : World) (A : Option Addr) (c : Nat) (l : List Int) (hr : ReadsI w A l) (n : Nat) (hn : l.length = n) (hl : n ≤ 1000) :
    Calls Tryd.prog 39 #[.slice A n c, .func (.func 36) #[] #[]] w fun e w' => e = .returned (.int .i64 (idxP noWord l)) ∧ w = w' := by
  subst hn
  have HR := Lib.hid hr
  have eg := @enters_fn Tryd.prog 36 _ Tryd.func36 (by kernel_rfl) rfl
  clear hr
  go_enter Tryd.func39, Tryd.ntmps39
  go_wp2
  go_loopg [8] l.length (fun n i wr => ∃ k : Nat, i = .int .i64 k ∧ k + n = l.length ∧ w = wr ∧ (∀ j, j < k → noWord (l.getD j 0) = false))
  case atStart => exact ⟨0, rfl, by omega, rfl, by intro j hj; omega⟩
  case round =>
    obtain ⟨k, rfl, hk, rfl, hn⟩ := hrel
    have HN := Lib.hid hn
    have HK := Lib.hid hk
    clear hn hk
    by_cases hlt : k < l.length
    · obtain ⟨b, o, rfl, hc⟩ := reads_at HR.out hlt
      generalize he : l.getD k 0 = y at *
      have HY := Lib.hid he
      clear he
      go_wp2_with fail
      refine (right1_any w y).mono ?_
      rintro e w1 ⟨rfl, rfl⟩
      cases hpy : noWord y
      · go_wp2
        go_roundg (gk - 1)
        case measure => have := HK.out; omega
        case rel =>
          refine ⟨k + 1, by simp, by have := HK.out; omega, rfl, ?_⟩
          intro j hj
          by_cases hjk : j = k
          · subst hjk; rw [HY.out]; exact hpy
          · exact HN.out j (by omega)
      · go_wp2
        go_ret
        refine ⟨?_, rfl⟩
        rw [idxP_take noWord l k (by omega) HN.out (fun _ => by rw [HY.out]; exact hpy), if_pos hlt]; rfl
    · go_wp2
      go_ret
      refine ⟨?_, rfl⟩
      rw [idxP_take noWord l k (by have := HK.out; omega) HN.out (fun h => absurd h hlt), if_neg hlt]; rfl

theorem containsW_any (w : World) (A : Option Addr) (c : Nat) (l : List Int) (hr : ReadsI w A l) (n : Nat) (hn : l.length = n) (hl : n ≤ 1000) :
    Calls Tryd.prog 35 #[.slice A n c, .func (.func 36) #[] #[]] w fun e w' => e = .returned (.bool (l.any noWord)) ∧ w = w' := by
  have HN := Lib.hid hn
  clear hn
  go_enter Tryd.func35, Tryd.ntmps35
  go_wp2_with fail
  refine (indexW_any w A c l hr n HN.out hl).mono ?_
  rintro e w1 ⟨rfl, rfl⟩
  go_wp2
  go_ret
  exact ⟨ret_bool (idxP_nonneg noWord l), rfl⟩

theorem core_yes (w : World) (z : Int) (h0 : 0 ≤ z) (h1 : z < 8) : Calls Tryd.prog 34 #[.int .i64 z] w fun e w' => e = .returned (.bool true) ∧ w = w' := by
  go_enter Tryd.func34, Tryd.ntmps34
  go_wp2
  go_ret
  exact ⟨by simp, rfl⟩
theorem core_no (w : World) (z : Int) (h0 : z < 0 ∨ 8 ≤ z) : Calls Tryd.prog 34 #[.int .i64 z] w fun e w' => e = .returned (.bool false) ∧ w = w' := by
  by_cases h : z < 0
  · go_enter Tryd.func34, Tryd.ntmps34
    go_wp2
    go_ret
    exact ⟨by simp, rfl⟩
  · have h2 : 8 ≤ z := by omega
    have h3 : 0 ≤ z := by omega
    clear h0 h
    go_enter Tryd.func34, Tryd.ntmps34
    go_wp2
    go_ret
    exact ⟨by simp; omega, rfl⟩

theorem any_noWord (l : List Int) : (!l.any noWord) = l.all fun z => decide (0 ≤ z ∧ z < 65536) := by
  induction l with
  | nil => rfl
  | cons z l ih =>
    simp only [List.any_cons, List.all_cons, Bool.not_or, ih]
    congr 1
    by_cases h : 0 ≤ z ∧ z < 65536
    · have : z % 65536 = z := by omega
      simp [noWord, this, h]
    · have : ¬ z = z % 65536 := by omega
      simp only [noWord, h, decide_false]
      simpa using this

set_option maxHeartbeats 1600000 in
theorem right_any (w : World) (x : En) (lx : x.load.length = x.len) (mx : x.len ≤ 1000) (rx : ReadsI w x.adr x.load) :
    Calls Tryd.prog 30 #[.agg x.cells] w fun e w' => e = .returned (.bool (oneP x)) ∧ Below w.heap.size w w' := by
  have HX := Lib.hid lx
  have RX := Lib.hid rx
  clear lx rx
  by_cases h1 : x.core < 0 ∨ 8 ≤ x.core
  · have HF : Hid (oneP x = false) := by
      show _ = _
      have : ¬ headOk x := by unfold headOk; omega
      simp [oneP, this]
    unfold En.cells
    go_enter Tryd.func30, Tryd.ntmps30
    go_wp2_with fail
    refine (core_no _ _ (by omega)).mono ?_
    rintro e w1 ⟨rfl, rfl⟩
    go_wp2
    go_ret
    exact ⟨ret_bool (by rw [HF.out]), one_al _ _⟩
  by_cases h2 : x.peer < 0 ∨ 8 ≤ x.peer
  · have HF : Hid (oneP x = false) := by
      show _ = _
      have : ¬ headOk x := by unfold headOk; omega
      simp [oneP, this]
    unfold En.cells
    go_enter Tryd.func30, Tryd.ntmps30
    go_wp2_with fail
    refine (core_yes _ _ (by omega) (by omega)).mono ?_
    rintro e w1 ⟨rfl, rfl⟩
    go_wp2_with fail
    refine (core_no _ _ (by omega)).mono ?_
    rintro e w1 ⟨rfl, rfl⟩
    go_wp2
    go_ret
    exact ⟨ret_bool (by rw [HF.out]), one_al _ _⟩
  have h1a : 0 ≤ x.core := by omega
  have h1b : x.core < 8 := by omega
  have h2a : 0 ≤ x.peer := by omega
  have h2b : x.peer < 8 := by omega
  clear h1 h2
  by_cases h3 : x.core = x.peer
  · have q : (x.core == x.peer) = true := by simpa using h3
    have HF : Hid (oneP x = false) := by
      show _ = _
      have : ¬ headOk x := by unfold headOk; omega
      simp [oneP, this]
    clear h3
    unfold En.cells
    go_enter Tryd.func30, Tryd.ntmps30
    go_wp2_with fail
    refine (core_yes _ _ (by omega) (by omega)).mono ?_
    rintro e w1 ⟨rfl, rfl⟩
    go_wp2_with fail
    refine (core_yes _ _ (by omega) (by omega)).mono ?_
    rintro e w1 ⟨rfl, rfl⟩
    go_wp2
    go_ret
    exact ⟨ret_bool (by rw [HF.out]), one_al _ _⟩
  have q3 : (x.core == x.peer) = false := by simpa using h3
  by_cases h4 : x.kind < 1
  · have HF : Hid (oneP x = false) := by
      show _ = _
      have : ¬ headOk x := by unfold headOk; omega
      simp [oneP, this]
    unfold En.cells
    go_enter Tryd.func30, Tryd.ntmps30
    go_wp2_with fail
    refine (core_yes _ _ (by omega) (by omega)).mono ?_
    rintro e w1 ⟨rfl, rfl⟩
    go_wp2_with fail
    refine (core_yes _ _ (by omega) (by omega)).mono ?_
    rintro e w1 ⟨rfl, rfl⟩
    go_wp2
    go_ret
    exact ⟨ret_bool (by rw [HF.out]), one_al _ _⟩
  by_cases h5 : 3 < x.kind
  · have HF : Hid (oneP x = false) := by
      show _ = _
      have : ¬ headOk x := by unfold headOk; omega
      simp [oneP, this]
    unfold En.cells
    go_enter Tryd.func30, Tryd.ntmps30
    go_wp2_with fail
    refine (core_yes _ _ (by omega) (by omega)).mono ?_
    rintro e w1 ⟨rfl, rfl⟩
    go_wp2_with fail
    refine (core_yes _ _ (by omega) (by omega)).mono ?_
    rintro e w1 ⟨rfl, rfl⟩
    go_wp2
    go_ret
    exact ⟨ret_bool (by rw [HF.out]), one_al _ _⟩
  by_cases h6 : x.bg < 1
  · have HF : Hid (oneP x = false) := by
      show _ = _
      have : ¬ headOk x := by unfold headOk; omega
      simp [oneP, this]
    unfold En.cells
    go_enter Tryd.func30, Tryd.ntmps30
    go_wp2_with fail
    refine (core_yes _ _ (by omega) (by omega)).mono ?_
    rintro e w1 ⟨rfl, rfl⟩
    go_wp2_with fail
    refine (core_yes _ _ (by omega) (by omega)).mono ?_
    rintro e w1 ⟨rfl, rfl⟩
    go_wp2
    go_ret
    exact ⟨ret_bool (by rw [HF.out]), one_al _ _⟩
  by_cases h7 : 8 < x.len
  · have q7 : (8 : Int) < (x.len : Int) := by omega
    have HF : Hid (oneP x = false) := by
      show _ = _
      have : ¬ headOk x := by unfold headOk; omega
      simp [oneP, this]
    unfold En.cells
    go_enter Tryd.func30, Tryd.ntmps30
    go_wp2_with fail
    refine (core_yes _ _ (by omega) (by omega)).mono ?_
    rintro e w1 ⟨rfl, rfl⟩
    go_wp2_with fail
    refine (core_yes _ _ (by omega) (by omega)).mono ?_
    rintro e w1 ⟨rfl, rfl⟩
    go_wp2
    go_ret
    exact ⟨ret_bool (by rw [HF.out]), one_al _ _⟩
  have q7 : ¬ (8 : Int) < (x.len : Int) := by omega
  by_cases h8 : x.nd = 0 ∧ x.err ≠ 0
  · obtain ⟨h8a, h8b⟩ := h8
    have q : (x.nd == 0) = true := by simpa using h8a
    have q2 : (x.err != 0) = true := by simpa using h8b
    have HF : Hid (oneP x = false) := by
      show _ = _
      have : ¬ headOk x := by unfold headOk; omega
      simp [oneP, this]
    unfold En.cells
    go_enter Tryd.func30, Tryd.ntmps30
    go_wp2_with fail
    refine (core_yes _ _ (by omega) (by omega)).mono ?_
    rintro e w1 ⟨rfl, rfl⟩
    go_wp2_with fail
    refine (core_yes _ _ (by omega) (by omega)).mono ?_
    rintro e w1 ⟨rfl, rfl⟩
    go_wp2
    go_ret
    exact ⟨ret_bool (by rw [HF.out]), one_al _ _⟩
  by_cases h9 : x.nd ≠ 0 ∧ x.nd < x.bg
  · obtain ⟨h9a, h9b⟩ := h9
    have q : (x.nd == 0) = false := by simpa using h9a
    have q2 : (x.nd != 0) = true := by simpa using h9a
    have HF : Hid (oneP x = false) := by
      show _ = _
      have : ¬ headOk x := by unfold headOk; omega
      simp [oneP, this]
    unfold En.cells
    go_enter Tryd.func30, Tryd.ntmps30
    go_wp2_with fail
    refine (core_yes _ _ (by omega) (by omega)).mono ?_
    rintro e w1 ⟨rfl, rfl⟩
    go_wp2_with fail
    refine (core_yes _ _ (by omega) (by omega)).mono ?_
    rintro e w1 ⟨rfl, rfl⟩
    go_wp2
    go_ret
    exact ⟨ret_bool (by rw [HF.out]), one_al _ _⟩
  have HO : Hid (oneP x = !x.load.any noWord) := by
    show _ = _
    have : headOk x := by unfold headOk; omega
    rw [any_noWord]
    simp [oneP, this]
  by_cases h0 : x.nd = 0
  · have q : (x.nd == 0) = true := by simpa using h0
    have q1 : (x.nd != 0) = false := by simpa using h0
    have q2 : (x.err != 0) = false := by
      have : x.err = 0 := by omega
      simpa using this
    clear h8 h9 h0
    unfold En.cells
    go_enter Tryd.func30, Tryd.ntmps30
    go_wp2_with fail
    refine (core_yes _ _ (by omega) (by omega)).mono ?_
    rintro e w1 ⟨rfl, rfl⟩
    go_wp2_with fail
    refine (core_yes _ _ (by omega) (by omega)).mono ?_
    rintro e w1 ⟨rfl, rfl⟩
    go_wp2_with fail
    refine (containsW_any (w.alloc (.cells x.cells 28)) x.adr x.cap x.load (RX.out.below (one_al _ _)) x.len HX.out mx).mono ?_
    rintro e w1 ⟨rfl, rfl⟩
    go_wp2
    go_ret
    exact ⟨ret_bool (by rw [HO.out]), one_al _ _⟩
  · have q : (x.nd == 0) = false := by simpa using h0
    have q1 : (x.nd != 0) = true := by simpa using h0
    have q2 : ¬ x.nd < x.bg := by omega
    clear h8 h9 h0
    unfold En.cells
    go_enter Tryd.func30, Tryd.ntmps30
    go_wp2_with fail
    refine (core_yes _ _ (by omega) (by omega)).mono ?_
    rintro e w1 ⟨rfl, rfl⟩
    go_wp2_with fail
    refine (core_yes _ _ (by omega) (by omega)).mono ?_
    rintro e w1 ⟨rfl, rfl⟩
    go_wp2_with fail
    refine (containsW_any (w.alloc (.cells x.cells 28)) x.adr x.cap x.load (RX.out.below (one_al _ _)) x.len HX.out mx).mono ?_
    rintro e w1 ⟨rfl, rfl⟩
    go_wp2
    go_ret
    exact ⟨ret_bool (by rw [HO.out]), one_al _ _⟩

end Go.Proofs.YtbfpaemaiaeljaaDoor
