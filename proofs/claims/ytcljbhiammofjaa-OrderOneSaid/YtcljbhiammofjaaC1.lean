/- The plain law of calls that are made one after another. -/
import Derived.Test.YtcljbhiammofjaaB6
namespace Go.Proofs.Ytcljbhiammofjaa
open Go.RowKit

/-- is it a Send? -/
def En.isS (x : En) : Bool := x.kind == 1
/-- the counts behind calls that were made one after another. -/
def doesAll (room : Int) (loads : List (List Int)) : Cn → List En → Option Cn
  | n, [] => some n
  | n, e :: E => if (doesP room loads n e).2 then doesAll room loads (doesP room loads n e).1 E else none
/-- the names of calls. -/
def namesP (ns : Nat) : Nat → Nat → List En → List Int
  | _, _, [] => []
  | i, k, e :: E => if e.isS then (i : Int) :: namesP ns (i + 1) k E else ((ns + k : Nat) : Int) :: namesP ns i (k + 1) E
/-- one after another. -/
def Chron (E : List En) : Prop := E.Pairwise (fun a b => a.nd < b.bg) ∧ ∀ e ∈ E, e.nd ≠ 0

theorem drop_filter {p : En → Bool} {S : List En} {i : Nat} {e : En} {E : List En} (h : S.drop i = ((e :: E).filter p)) (hp : p e = true) : i < S.length ∧ S.getD i default = e ∧ S.drop (i + 1) = E.filter p := by
  rw [List.filter_cons, if_pos hp] at h
  have hi : i < S.length := by
    apply Classical.byContradiction
    intro hn
    rw [List.drop_eq_nil_of_le (by omega)] at h
    exact absurd h (by simp)
  rw [List.drop_eq_getElem_cons hi] at h
  injection h with h1 h2
  exact ⟨hi, by simp [List.getD_eq_getElem?_getD, hi, h1], h2⟩
theorem not_done {S : List En} {i : Nat} (h : i < S.length) (h0 : (S.getD i default).nd ≠ 0) : doneP S i = false := by
  have : i ≠ S.length := by omega
  simp only [doneP, Bool.or_eq_false_iff, beq_eq_false_iff_ne, Bool.and_eq_false_iff]
  exact ⟨this, .inr h0⟩

theorem free_of {l : List En} {k : Nat} {x : En} (h : ∀ y ∈ l.drop k, x.bg ≤ y.nd) : freeP l k x = true := by
  simp only [freeP, Bool.not_eq_true', List.any_eq_false, Bool.and_eq_true, decide_eq_true_eq, not_and]
  intro y hy _
  have := h y hy
  omega
theorem not_free {l : List En} {k : Nat} {x y : En} (hy : y ∈ l.drop k) (h : y.nd < x.bg) (h0 : y.nd ≠ 0) : freeP l k x = false := by
  simp only [freeP, Bool.not_eq_false', List.any_eq_true, Bool.and_eq_true, decide_eq_true_eq, bne_iff_ne]
  exact ⟨y, hy, h0, h⟩

theorem getD_mem_drop {S : List En} {i : Nat} (h : i < S.length) : S.getD i default ∈ S.drop i := by
  have e : S.getD i default = S[i] := by simp [List.getD_eq_getElem?_getD, h]
  rw [e, List.drop_eq_getElem_cons h]
  exact List.mem_cons_self ..
/-- of calls one after another the search finds that very order, or none. -/
theorem search_chron (S T : List En) (room : Int) (loads : List (List Int)) : ∀ (E : List En) (f i k : Nat) (n : Cn) (t : Tr), Chron E → (∀ e ∈ E, e.bg ≤ e.nd) → S.drop i = E.filter En.isS → T.drop k = E.filter (fun e => !e.isS) →
    i ≤ S.length → k ≤ T.length → (∀ p ∈ t, p.1 + p.2 < i + k) → E.length < f → (searchP S T room loads f i k n t).1 = (doesAll room loads n E).map fun _ => (namesP S.length i k E).reverse := by
  intro E
  induction E with
  | nil =>
    intro f i k n t _ _ hS hT hi hk ht hf
    obtain ⟨f, rfl⟩ : ∃ g, f = g + 1 := ⟨f - 1, by simp at hf; omega⟩
    have h1 : i = S.length := by have := congrArg List.length hS; simp at this; omega
    have h2 : k = T.length := by have := congrArg List.length hT; simp at this; omega
    simp [searchP, doneP, h1, h2, doesAll, namesP]
  | cons e E ih =>
    intro f i k n t hc hb hS hT hi hk ht hf
    obtain ⟨f, rfl⟩ : ∃ g, f = g + 1 := ⟨f - 1, by simp at hf; omega⟩
    have hcE : Chron E := ⟨(List.pairwise_cons.1 hc.1).2, fun x hx => hc.2 x (List.mem_cons_of_mem _ hx)⟩
    have hlater : ∀ x ∈ E, e.nd < x.bg := (List.pairwise_cons.1 hc.1).1
    have hbE : ∀ x ∈ E, x.bg ≤ x.nd := fun x hx => hb x (List.mem_cons_of_mem _ hx)
    have he0 := hc.2 e (List.mem_cons_self ..)
    have hbe := hb e (List.mem_cons_self ..)
    have htc : t.contains (i, k) = false := by
      rw [List.contains_eq_any_beq, List.any_eq_false]
      intro p hp
      have := ht p hp
      intro h
      have : p = (i, k) := by simpa using (beq_iff_eq.1 h).symm
      subst this
      simp at this
    have hlen : E.length < f := by simp at hf; omega
    cases hs : e.isS
    · -- taken
      have hs' : (!e.isS) = true := by rw [hs]; rfl
      obtain ⟨hk1, hk2, hk3⟩ := drop_filter hT hs'
      have hS' : S.drop i = E.filter En.isS := by rw [hS, List.filter_cons, hs]; rfl
      have hd : (doneP S i && doneP T k) = false := by rw [not_done hk1 (by rw [hk2]; exact he0), Bool.and_false]
      have hf1 : (decide (i < S.length) && (freeP T k (S.getD i default) && freeP S (i + 1) (S.getD i default))) = false := by
        by_cases hi1 : i < S.length
        · have hm : S.getD i default ∈ E := by
            have : S.getD i default ∈ S.drop i := getD_mem_drop hi1
            rw [hS'] at this
            exact (List.mem_filter.1 this).1
          have : freeP T k (S.getD i default) = false := not_free (y := e) (by rw [hT]; exact List.mem_filter.2 ⟨List.mem_cons_self .., hs'⟩) (hlater _ hm) he0
          rw [this]; simp
        · simp [hi1]
      have hf2 : (decide (k < T.length) && (freeP S i (T.getD k default) && freeP T (k + 1) (T.getD k default))) = true := by
        rw [hk2]
        have h1 : freeP S i e = true := free_of fun y hy => by
          rw [hS'] at hy
          have h1 := (List.mem_filter.1 hy).1
          have := hlater y h1
          have := hbE y h1
          omega
        have h2 : freeP T (k + 1) e = true := free_of fun y hy => by
          rw [hk3] at hy
          have h1 := (List.mem_filter.1 hy).1
          have := hlater y h1
          have := hbE y h1
          omega
        rw [h1, h2]; simpa using hk1
      rw [searchP]
      simp only [hd, htc, hf1, hf2, if_true, if_false, Bool.false_eq_true]
      rw [hk2]
      unfold goP
      have hI := ih f i (k + 1) (doesP room loads n e).1 (t ++ [(i, k)]) hcE hbE hS' hk3 hi (by omega) (by
        intro p hp
        rcases List.mem_append.1 hp with h | h
        · have := ht p h; omega
        · simp at h; subst h; simp) hlen
      cases hdo : (doesP room loads n e).2
      · simp [doesAll, hdo]
      · simp only [if_true]
        simp only [doesAll, hdo, namesP, hs, if_true, Bool.false_eq_true, if_false]
        rcases hr : searchP S T room loads f i (k + 1) (doesP room loads n e).1 (t ++ [(i, k)]) with ⟨r, t'⟩
        rw [hr] at hI
        simp only at hI
        cases hda : doesAll room loads (doesP room loads n e).1 E
        · rw [hda] at hI
          simp at hI
          subst hI
          simp
        · rw [hda] at hI
          simp at hI
          subst hI
          simp
    · obtain ⟨hk1, hk2, hk3⟩ := drop_filter hS hs
      have hT' : T.drop k = E.filter (fun e => !e.isS) := by rw [hT, List.filter_cons, hs]; rfl
      have hd : (doneP S i && doneP T k) = false := by rw [not_done hk1 (by rw [hk2]; exact he0), Bool.false_and]
      have hf1 : (decide (i < S.length) && (freeP T k (S.getD i default) && freeP S (i + 1) (S.getD i default))) = true := by
        rw [hk2]
        have h1 : freeP T k e = true := free_of fun y hy => by
          rw [hT'] at hy
          have h1 := (List.mem_filter.1 hy).1
          have := hlater y h1
          have := hbE y h1
          omega
        have h2 : freeP S (i + 1) e = true := free_of fun y hy => by
          rw [hk3] at hy
          have h1 := (List.mem_filter.1 hy).1
          have := hlater y h1
          have := hbE y h1
          omega
        rw [h1, h2]; simpa using hk1
      have hf2 : (decide (k < T.length) && (freeP S i (T.getD k default) && freeP T (k + 1) (T.getD k default))) = false := by
        by_cases hi1 : k < T.length
        · have hm : T.getD k default ∈ E := by
            have : T.getD k default ∈ T.drop k := getD_mem_drop hi1
            rw [hT'] at this
            exact (List.mem_filter.1 this).1
          have : freeP S i (T.getD k default) = false := not_free (y := e) (by rw [hS]; exact List.mem_filter.2 ⟨List.mem_cons_self .., hs⟩) (hlater _ hm) he0
          rw [this]; simp
        · simp [hi1]
      rw [searchP]
      simp only [hd, htc, hf1, hf2, if_true, if_false, Bool.false_eq_true]
      rw [hk2]
      unfold goP
      have hI := ih f (i + 1) k (doesP room loads n e).1 (t ++ [(i, k)]) hcE hbE hk3 hT' (by omega) hk (by
        intro p hp
        rcases List.mem_append.1 hp with h | h
        · have := ht p h; omega
        · simp at h; subst h; simp) hlen
      cases hdo : (doesP room loads n e).2
      · simp [doesAll, hdo]
      · simp only [if_true]
        simp only [doesAll, hdo, namesP, hs, if_true]
        rcases hr : searchP S T room loads f (i + 1) k (doesP room loads n e).1 (t ++ [(i, k)]) with ⟨r, t'⟩
        rw [hr] at hI
        simp only at hI
        cases hda : doesAll room loads (doesP room loads n e).1 E
        · rw [hda] at hI
          simp at hI
          subst hI
          simp
        · rw [hda] at hI
          simp at hI
          subst hI
          simp

theorem shaped_of {ks : List Int} {l : List En} (h : ∀ e ∈ l, e.kind ∈ ks ∧ e.nd ≠ 0) : shapedP ks l = true := by
  simp only [shapedP, List.all_eq_true, List.mem_range]
  intro i hi
  have : l.getD i default ∈ l := by
    rw [List.getD_eq_getElem?_getD, List.getElem?_eq_getElem hi]
    exact List.getElem_mem hi
  have h1 := h _ this
  generalize l.getD i default = y at *
  simp [h1.1, h1.2]

theorem wit_chron (S T E : List En) (room : Int) (hc : Chron E) (hb : ∀ e ∈ E, e.bg ≤ e.nd) (hS : S = E.filter En.isS) (hT : T = E.filter (fun e => !e.isS)) (hk : ∀ e ∈ E, e.kind = 1 ∨ e.kind = 2 ∨ e.kind = 3) (hr : 0 ≤ room) :
    witP S T room = (doesAll room ((S.filter En.fine).map (·.load)) ⟨0, 0, 0⟩ E).map fun _ => namesP S.length 0 0 E := by
  have h1 : shapedP [1] S = true := shaped_of fun e he => by
    rw [hS] at he
    obtain ⟨h1, h2⟩ := List.mem_filter.1 he
    exact ⟨by simpa [En.isS] using h2, hc.2 e h1⟩
  have h2 : shapedP [2, 3] T = true := shaped_of fun e he => by
    rw [hT] at he
    obtain ⟨h1, h2⟩ := List.mem_filter.1 he
    have h3 : e.kind ≠ 1 := by simpa [En.isS] using h2
    rcases hk e h1 with h | h | h
    · exact absurd h h3
    · exact ⟨by simp [h], hc.2 e h1⟩
    · exact ⟨by simp [h], hc.2 e h1⟩
  have h3 : ¬ room < 0 := by omega
  have hl : E.length < S.length + T.length + 1 := by
    have : S.length + T.length = E.length := by
      rw [hS, hT]
      clear hS hT hc hb hk h1 h2
      induction E with
      | nil => rfl
      | cons e E ih => cases hs : e.isS <;> simp [hs] <;> omega
    omega
  have := search_chron S T room ((S.filter En.fine).map (·.load)) E (S.length + T.length + 1) 0 0 ⟨0, 0, 0⟩ [] hc hb (by simpa using hS) (by simpa using hT) (by omega) (by omega) (by simp) hl
  simp only [witP, h1, h2, h3, decide_false, Bool.not_true, Bool.or_self, Bool.false_eq_true, if_false]
  rw [this]
  cases doesAll room ((S.filter En.fine).map (·.load)) ⟨0, 0, 0⟩ E <;> simp

theorem doesAll_append (room : Int) (loads : List (List Int)) : ∀ (E F : List En) (n : Cn), doesAll room loads n (E ++ F) = (doesAll room loads n E).bind fun m => doesAll room loads m F
  | [], F, n => by simp [doesAll]
  | e :: E, F, n => by
    simp only [List.cons_append, doesAll]
    split
    · exact doesAll_append room loads E F _
    · rfl
theorem does_one (room : Int) (loads loads' : List (List Int)) (n : Cn) (e : En) : (doesP room loads n e).1 = (doesP room loads' n e).1 ∧ (doesP room loads n e).1.put = n.put + (if e.isS && e.fine then 1 else 0) ∧ n.got ≤ (doesP room loads n e).1.got := by
  unfold doesP En.isS
  refine ⟨?_, ?_, ?_⟩ <;> (repeat' split) <;> simp_all <;> omega
theorem does_put (room : Int) (loads : List (List Int)) : ∀ (E : List En) (n m : Cn), doesAll room loads n E = some m → m.put = n.put + ((E.filter En.isS).filter En.fine).length
  | [], n, m, h => by simp [doesAll] at h; subst h; simp
  | e :: E, n, m, h => by
    simp only [doesAll] at h
    split at h
    · have h1 := does_put room loads E _ m h
      have h2 := (does_one room loads loads n e).2.1
      rw [h1, h2]
      cases hs : e.isS <;> cases hf : e.fine <;> simp [hs, hf] <;> omega
    · exact absurd h (by simp)
theorem does_congr (room : Int) (loads loads' : List (List Int)) : ∀ (E : List En) (n m : Cn), doesAll room loads n E = some m → 0 ≤ n.got → (∀ j : Nat, (j : Int) < m.put → loads'.getD j [] = loads.getD j []) → doesAll room loads' n E = some m
  | [], n, m, h, _, _ => by simpa [doesAll] using h
  | e :: E, n, m, h, h0, hl => by
    simp only [doesAll] at h
    split at h
    · rename_i hd
      have h1 := does_put room loads E _ m h
      obtain ⟨e1, e2, e3⟩ := does_one room loads loads' n e
      have hmp : n.put ≤ m.put := by rw [h1, e2]; split <;> omega
      have hd' : (doesP room loads' n e).2 = (doesP room loads n e).2 := by
        unfold doesP at hd ⊢
        by_cases c1 : (e.kind == 1 && e.fine) = true
        · simp [c1]
        · by_cases c2 : (e.kind == 1 && e.err == 5) = true
          · simp only [c1, c2]; simp
          · by_cases c3 : (e.kind == 2 && e.fine) = true
            · simp only [c1, c2, c3, if_true, if_false, Bool.false_eq_true] at hd ⊢
              have hg : n.got + 1 ≤ n.put := by
                simp only [Bool.and_eq_true, decide_eq_true_eq] at hd
                exact hd.1
              rw [hl n.got.toNat (by omega)]
            · simp only [c1, c2, c3, if_false, Bool.false_eq_true]
      simp only [doesAll]
      rw [hd', if_pos hd, ← e1]
      exact does_congr room loads loads' E _ m h (by omega) hl
    · exact absurd h (by simp)

/-- a call that is asked for. -/
structure Ask where
  kind : Int
  ld : Ld
  deriving Inhabited
/-- the names as they are first laid: a Send's is below zero. -/
def rawsP : Nat → Nat → List En → List Int
  | _, _, [] => []
  | i, k, e :: E => if e.isS then (-(i : Int) - 1) :: rawsP (i + 1) k E else (k : Int) :: rawsP i (k + 1) E
def convP (ns : Nat) (n : Int) : Int := if n < 0 then -n - 1 else ns + n
theorem raws_conv (ns : Nat) : ∀ (E : List En) (i k : Nat), (rawsP i k E).map (convP ns) = namesP ns i k E
  | [], _, _ => rfl
  | e :: E, i, k => by
    simp only [rawsP, namesP]
    split
    · simp only [List.map_cons, raws_conv ns E]
      congr 1
      unfold convP
      split <;> omega
    · simp only [List.map_cons, raws_conv ns E]
      congr 1
theorem raws_append : ∀ (E : List En) (i k : Nat) (e : En), rawsP i k (E ++ [e]) = rawsP i k E ++ [if e.isS then -((i + (E.filter En.isS).length : Nat) : Int) - 1 else ((k + (E.filter fun e => !e.isS).length : Nat) : Int)]
  | [], i, k, e => by cases hs : e.isS <;> simp [rawsP, hs]
  | x :: E, i, k, e => by
    cases hs : x.isS
    · simp only [List.cons_append, rawsP, hs, raws_append E, List.filter_cons, Bool.not_false, if_true, Bool.false_eq_true, if_false, List.length_cons]
      congr 2
      split <;> congr 1 <;> omega
    · simp only [List.cons_append, rawsP, hs, raws_append E, List.filter_cons, Bool.not_true, if_true, Bool.false_eq_true, if_false, List.length_cons]
      congr 2
      split <;> congr 1 <;> omega

/-- calls that were made one after another, and what was laid beside them. -/
structure Run where
  E : List En
  L : List Ld
  got : Nat
  back : Nat
def Run.S (r : Run) : List En := r.E.filter En.isS
def Run.T (r : Run) : List En := r.E.filter fun e => !e.isS
def Run.W (r : Run) : List Int := rawsP 0 0 r.E

/-- the call itself, as it is laid at first. -/
def blank (q : Int) (i : Nat) : En := ⟨0, 0, 1 + q, 2 * i + 1, 2 * i + 2, 0, none, 0, 0, 0, []⟩
def En.with (e : En) (l : Ld) : En := { e with adr := l.adr, len := l.len, cap := l.cap, load := l.load }
def En.fail (e : En) (c : Int) : En := { e with err := c }
/-- one call more. -/
def stepP (room : Int) (r : Run) (i : Nat) (a : Ask) : Run :=
  let q := a.kind.tmod 3
  if q = 0 then
    if room ≤ (r.L.length : Int) - r.back then ⟨r.E ++ [((blank q i).with a.ld).fail 5], r.L, r.got, r.back⟩
    else ⟨r.E ++ [(blank q i).with a.ld], r.L ++ [a.ld], r.got, r.back⟩
  else if q = 1 ∧ r.got < r.L.length then ⟨r.E ++ [(blank q i).with (r.L.getD r.got default)], r.L, r.got + 1, r.back⟩
  else if q = 1 then ⟨r.E ++ [(blank q i).fail 6], r.L, r.got, r.back⟩
  else if q = 2 ∧ r.back < r.got then ⟨r.E ++ [blank q i], r.L, r.got, r.back + 1⟩
  else r

structure Fair (room : Int) (r : Run) (i : Nat) : Prop where
  does : doesAll room (r.L.map (·.load)) ⟨0, 0, 0⟩ r.E = some ⟨r.L.length, r.got, r.back⟩
  bg : r.back ≤ r.got
  gl : r.got ≤ r.L.length
  lb : (r.L.length : Int) - r.back ≤ room
  ld : r.L = (r.S.filter En.fine).map En.ld
  chron : Chron r.E
  nd : ∀ e ∈ r.E, e.bg ≤ e.nd ∧ e.nd ≤ 2 * i
  kind : ∀ e ∈ r.E, (e.kind = 1 ∧ (e.err = 0 ∨ e.err = 5)) ∨ e.kind = 2 ∨ e.kind = 3
  len : r.E.length ≤ i

theorem Fair.zero (room : Int) (h : 0 ≤ room) : Fair room ⟨[], [], 0, 0⟩ 0 :=
  ⟨rfl, Nat.le_refl _, Nat.le_refl _, by simpa using h, rfl, ⟨List.Pairwise.nil, by simp⟩, by simp, by simp, by simp⟩

theorem Fair.add {room : Int} {r : Run} {i : Nat} (h : Fair room r i) (e : En) (L : List Ld) (g b : Nat) (he : e.bg = 2 * i + 1 ∧ e.nd = 2 * i + 2) (hk : (e.kind = 1 ∧ (e.err = 0 ∨ e.err = 5)) ∨ e.kind = 2 ∨ e.kind = 3)
    (hL : L = r.L ++ (if e.isS && e.fine then [e.ld] else [])) (hd : (doesP room (L.map (·.load)) ⟨r.L.length, r.got, r.back⟩ e) = (⟨L.length, g, b⟩, true)) (h1 : b ≤ g) (h2 : g ≤ L.length) (h3 : (L.length : Int) - b ≤ room) :
    Fair room ⟨r.E ++ [e], L, g, b⟩ (i + 1) where
  does := by
    rw [doesAll_append]
    have := does_congr room (r.L.map (·.load)) (L.map (·.load)) r.E _ _ h.does (by simp) (by
      intro j hj
      simp only at hj
      subst hL
      simp [List.getD_eq_getElem?_getD, List.getElem?_append, show j < r.L.length by omega])
    rw [this]
    simp [doesAll, hd]
  bg := h1
  gl := h2
  lb := h3
  ld := by
    show L = ((r.E ++ [e]).filter En.isS |>.filter En.fine).map En.ld
    rw [hL, List.filter_append, List.filter_append, List.map_append]
    have := h.ld
    unfold Run.S at this
    rw [← this]
    congr 1
    cases hs : e.isS <;> cases hf : e.fine <;> simp [hs, hf]
  chron := by
    refine ⟨?_, ?_⟩
    · rw [List.pairwise_append]
      refine ⟨h.chron.1, List.pairwise_singleton _ _, ?_⟩
      intro a ha b hb
      simp at hb; subst hb
      have := (h.nd a ha).2
      omega
    · intro x hx
      rcases List.mem_append.1 hx with hx | hx
      · exact h.chron.2 x hx
      · simp at hx; subst hx; omega
  nd := by
    intro x hx
    rcases List.mem_append.1 hx with hx | hx
    · have := h.nd x hx; omega
    · simp at hx; subst hx; omega
  kind := by
    intro x hx
    rcases List.mem_append.1 hx with hx | hx
    · exact h.kind x hx
    · simp at hx; subst hx; exact hk
  len := by have := h.len; simp; omega

theorem Fair.more {room : Int} {r : Run} {i : Nat} (h : Fair room r i) : Fair room r (i + 1) :=
  ⟨h.does, h.bg, h.gl, h.lb, h.ld, h.chron, fun e he => by have := h.nd e he; omega, h.kind, by have := h.len; omega⟩

theorem Fair.step {room : Int} {r : Run} {i : Nat} (h : Fair room r i) (a : Ask) : Fair room (stepP room r i a) (i + 1) := by
  have hbg := h.bg
  have hgl := h.gl
  have hlb := h.lb
  unfold stepP
  dsimp only
  by_cases q0 : a.kind.tmod 3 = 0
  · rw [if_pos q0, q0]
    by_cases hf : room ≤ (r.L.length : Int) - r.back
    · rw [if_pos hf]
      refine h.add _ _ _ _ ⟨rfl, rfl⟩ (.inl ⟨rfl, .inr rfl⟩) ?_ ?_ hbg hgl hlb
      · have : (((blank 0 i).with a.ld).fail 5).fine = false := by simp [En.fine, blank, En.with, En.fail]; omega
        simp [this]
      · have : ((2 : Int) * i + 2 == 0) = false := by simp; omega
        simp [doesP, blank, En.with, En.fail, En.fine, this]
        omega
    · rw [if_neg hf]
      have hfi : ((blank 0 i).with a.ld).fine = true := by simp [En.fine, blank, En.with]
      refine h.add _ _ _ _ ⟨rfl, rfl⟩ (.inl ⟨rfl, .inl rfl⟩) ?_ ?_ hbg (by simp; omega) (by simp; omega)
      · have : ((blank 0 i).with a.ld).isS = true := by simp [En.isS, blank, En.with]
        rw [hfi, this]; rfl
      · simp [doesP, blank, En.with, En.fine]
        omega
  · rw [if_neg q0]
    by_cases q1 : a.kind.tmod 3 = 1
    · by_cases hg : r.got < r.L.length
      · rw [if_pos ⟨q1, hg⟩, q1]
        refine h.add _ _ _ _ ⟨rfl, rfl⟩ (.inr (.inl rfl)) ?_ ?_ (by omega) (by omega) hlb
        · have : ((blank 1 i).with (r.L.getD r.got default)).isS = false := by simp [En.isS, blank, En.with]
          rw [this]; simp
        · simp [doesP, blank, En.with, En.fine, List.getD_eq_getElem?_getD, hg]
          omega
      · rw [if_neg (by omega), if_pos q1, q1]
        have : ((2 : Int) * i + 2 == 0) = false := by simp; omega
        refine h.add _ _ _ _ ⟨rfl, rfl⟩ (.inr (.inl rfl)) ?_ ?_ hbg hgl hlb
        · have : ((blank 1 i).fail 6).isS = false := by simp [En.isS, blank, En.fail]
          simp [this]
        · simp [doesP, blank, En.fail, En.fine, this]
          omega
    · rw [if_neg (by omega), if_neg q1]
      by_cases q2 : a.kind.tmod 3 = 2 ∧ r.back < r.got
      · rw [if_pos q2, q2.1]
        refine h.add _ _ _ _ ⟨rfl, rfl⟩ (.inr (.inr rfl)) ?_ ?_ (by omega) hgl (by omega)
        · have : (blank 2 i).isS = false := by simp [En.isS, blank]
          simp [this]
        · simp [doesP, blank, En.fine]
          omega
      · rw [if_neg q2]
        exact h.more

theorem Fair.wit {room : Int} {r : Run} {i : Nat} (h : Fair room r i) (hr : 0 ≤ room) : witP r.S r.T room = some (r.W.map (convP r.S.length)) := by
  rw [wit_chron r.S r.T r.E room h.chron (fun e he => (h.nd e he).1) rfl rfl (fun e he => by rcases h.kind e he with h | h | h <;> simp [h]) hr]
  have : (r.S.filter En.fine).map (·.load) = r.L.map (·.load) := by
    rw [h.ld, List.map_map]; rfl
  rw [this, h.does]
  simp [Run.W, raws_conv]

def flipE (e : En) : En := if e.err = 0 then e.fail 5 else e.fail 0

theorem split_at : ∀ (E : List En) (k : Nat), k < (E.filter En.isS).length → ∃ E1 s E2, E = E1 ++ s :: E2 ∧ s.isS = true ∧ (E1.filter En.isS).length = k
  | [], k, h => by simp at h
  | e :: E, k, h => by
    cases hs : e.isS
    · rw [List.filter_cons, hs] at h
      obtain ⟨E1, s, E2, h1, h2, h3⟩ := split_at E k h
      exact ⟨e :: E1, s, E2, by rw [h1]; rfl, h2, by rw [List.filter_cons, hs]; exact h3⟩
    · cases k with
      | zero => exact ⟨[], e, E, rfl, hs, rfl⟩
      | succ k =>
        rw [List.filter_cons, hs] at h
        obtain ⟨E1, s, E2, h1, h2, h3⟩ := split_at E k (by simpa using h)
        exact ⟨e :: E1, s, E2, by rw [h1]; rfl, h2, by rw [List.filter_cons, hs]; simpa using h3⟩

theorem Fair.spoilt {room : Int} {r : Run} {i : Nat} (h : Fair room r i) (hr : 0 ≤ room) (k : Nat) (hk : k < r.S.length) : witP (r.S.set k (flipE (r.S.getD k default))) r.T room = none := by
  obtain ⟨E1, s, E2, hE, hs, hl⟩ := split_at r.E k hk
  have hS : r.S = E1.filter En.isS ++ s :: E2.filter En.isS := by
    unfold Run.S
    rw [hE, List.filter_append, List.filter_cons, hs]; rfl
  have hg : r.S.getD k default = s := by
    rw [hS, List.getD_eq_getElem?_getD, ← hl]
    simp
  rw [hg]
  have hfs : (flipE s).isS = true := by unfold flipE; split <;> exact hs
  have hset : r.S.set k (flipE s) = E1.filter En.isS ++ flipE s :: E2.filter En.isS := by
    rw [hS, ← hl]
    simp
  have hflip : (flipE s).bg = s.bg ∧ (flipE s).nd = s.nd ∧ (flipE s).kind = s.kind := by unfold flipE; split <;> exact ⟨rfl, rfl, rfl⟩
  have hsm : s ∈ r.E := by rw [hE]; simp
  have hmem : ∀ e ∈ E1 ++ flipE s :: E2, e ∈ r.E ∨ e = flipE s := by
    intro e he
    rw [hE]
    simp only [List.mem_append, List.mem_cons] at he ⊢
    rcases he with he | he | he
    · exact .inl (.inl he)
    · exact .inr he
    · exact .inl (.inr (.inr he))
  have hc : Chron (E1 ++ flipE s :: E2) := by
    refine ⟨?_, ?_⟩
    · have := h.chron.1
      rw [hE, List.pairwise_append, List.pairwise_cons] at this
      rw [List.pairwise_append, List.pairwise_cons]
      refine ⟨this.1, ⟨fun a ha => by rw [hflip.2.1]; exact this.2.1.1 a ha, this.2.1.2⟩, ?_⟩
      intro a ha b hb
      rcases List.mem_cons.1 hb with rfl | hb
      · rw [hflip.1]; exact this.2.2 a ha s (List.mem_cons_self ..)
      · exact this.2.2 a ha b (List.mem_cons_of_mem _ hb)
    · intro e he
      rcases hmem e he with he | rfl
      · exact h.chron.2 e he
      · rw [hflip.2.1]; exact h.chron.2 s hsm
  have hT : r.T = (E1 ++ flipE s :: E2).filter (fun e => !e.isS) := by
    unfold Run.T
    rw [hE, List.filter_append, List.filter_append, List.filter_cons, List.filter_cons, hs, hfs]; rfl
  have hS2 : E1.filter En.isS ++ flipE s :: E2.filter En.isS = (E1 ++ flipE s :: E2).filter En.isS := by
    rw [List.filter_append, List.filter_cons, hfs]; rfl
  rw [hset, wit_chron _ r.T (E1 ++ flipE s :: E2) room hc ?_ hS2 hT ?_ hr]
  · have hd := h.does
    rw [hE, doesAll_append] at hd
    cases hm : doesAll room (r.L.map (·.load)) ⟨0, 0, 0⟩ E1 with
    | none => rw [hm] at hd; simp at hd
    | some m =>
      rw [hm] at hd
      simp only [Option.bind_some, doesAll] at hd
      have hds : (doesP room (r.L.map (·.load)) m s).2 = true := by
        apply Classical.byContradiction
        intro hn
        rw [if_neg hn] at hd
        exact absurd hd (by simp)
      have hput := does_put room _ E1 _ m hm
      simp only [Int.zero_add] at hput
      have hc2 := does_congr room (r.L.map (·.load)) (((E1.filter En.isS ++ flipE s :: E2.filter En.isS).filter En.fine).map (·.load)) E1 _ m hm (by simp) (by
        intro j hj
        rw [hput] at hj
        have e1 : r.L.map (·.load) = ((r.S.filter En.fine).map (·.load)) := by rw [h.ld, List.map_map]; rfl
        rw [e1, hS, List.filter_append, List.filter_append, List.map_append, List.map_append]
        have hj' : j < (((E1.filter En.isS).filter En.fine).map (fun x : En => x.load)).length := by rw [List.length_map]; omega
        rw [List.getD_eq_getElem?_getD, List.getD_eq_getElem?_getD, List.getElem?_append_left hj', List.getElem?_append_left hj'])
      have hbad : (doesP room (((E1.filter En.isS ++ flipE s :: E2.filter En.isS).filter En.fine).map (·.load)) m (flipE s)).2 = false := by
        have hk1 : s.kind = 1 := by simpa [En.isS] using hs
        have hnd := h.chron.2 s hsm
        have hnd' : (s.nd == 0) = false := by simpa using hnd
        rcases h.kind s hsm with hks | hks | hks
        · rcases hks.2 with he | he
          · have e1 : flipE s = s.fail 5 := by simp [flipE, he]
            rw [e1]
            simp [doesP, En.fine, En.fail, hk1, hnd', he] at hds ⊢
            omega
          · have e1 : flipE s = s.fail 0 := by simp [flipE, he]
            rw [e1]
            simp [doesP, En.fine, En.fail, hk1, hnd', he] at hds ⊢
            omega
        · omega
        · omega
      rw [doesAll_append, hc2]
      simp only [Option.bind_some, doesAll, hbad]
      rfl
  · intro e he
    rcases hmem e he with he | rfl
    · exact (h.nd e he).1
    · rw [hflip.1, hflip.2.1]; exact (h.nd s hsm).1
  · intro e he
    rcases hmem e he with he | rfl
    · rcases h.kind e he with h | h | h <;> simp [h]
    · rw [hflip.2.2]
      rcases h.kind s hsm with h | h | h <;> simp [h]

end Go.Proofs.Ytcljbhiammofjaa
