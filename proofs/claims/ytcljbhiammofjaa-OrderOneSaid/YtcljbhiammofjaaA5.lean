/- What a search tells, as plain functions; what it lies in. -/
import Derived.Test.YtcljbhiammofjaaA4
namespace Go.Proofs.Ytcljbhiammofjaa
open Go.RowKit

abbrev Tr := List (Nat × Nat)
abbrev Found := Option (List Int) × Tr

/-- a call is made, and what is left is searched. -/
def goP (room : Int) (loads : List (List Int)) (rec : Nat → Nat → Cn → Tr → Found) (n : Cn) (x : En) (i k : Nat) (t : Tr) (name : Int) : Found :=
  if (doesP room loads n x).2 then
    match rec i k (doesP room loads n x).1 t with
    | (some l, t') => (some (l ++ [name]), t')
    | (none, t') => (none, t')
  else (none, t)

/-- the order (the last call first) from a place in both lists on. -/
def searchP (S T : List En) (room : Int) (loads : List (List Int)) : Nat → Nat → Nat → Cn → Tr → Found
  | 0, _, _, _, t => (none, t)
  | f + 1, i, k, n, t =>
    if doneP S i && doneP T k then (some [], t)
    else if t.contains (i, k) then (none, t)
    else
      match (if decide (i < S.length) && (freeP T k (S.getD i default) && freeP S (i + 1) (S.getD i default)) then goP room loads (searchP S T room loads f) n (S.getD i default) (i + 1) k (t ++ [(i, k)]) i else (none, t ++ [(i, k)])) with
      | (some l, t') => (some l, t')
      | (none, t') => if decide (k < T.length) && (freeP S i (T.getD k default) && freeP T (k + 1) (T.getD k default)) then goP room loads (searchP S T room loads f) n (T.getD k default) i (k + 1) t' (S.length + k) else (none, t')

theorem searchP_len (S T : List En) (room : Int) (loads : List (List Int)) : ∀ (f i k : Nat) (n : Cn) (t : Tr) (l : List Int) (t' : Tr), searchP S T room loads f i k n t = (some l, t') → l.length ≤ f := by
  intro f
  induction f with
  | zero => intro i k n t l t' h; simp [searchP] at h
  | succ f ih =>
    have hgo : ∀ n x i k t name l t', goP room loads (searchP S T room loads f) n x i k t name = (some l, t') → l.length ≤ f + 1 := by
      intro n x i k t name l t' h
      unfold goP at h
      split at h
      · split at h
        · rename_i l1 t1 h1
          have := ih _ _ _ _ _ _ h1
          simp only [Prod.mk.injEq, Option.some.injEq] at h
          rw [← h.1]
          simp
          exact this
        · simp at h
      · simp at h
    intro i k n t l t' h
    unfold searchP at h
    split at h
    · simp only [Prod.mk.injEq, Option.some.injEq] at h
      rw [← h.1]; simp
    · split at h
      · simp at h
      · split at h
        · rename_i l1 t1 h1
          simp only [Prod.mk.injEq, Option.some.injEq] at h
          rw [← h.1]
          split at h1
          · exact hgo _ _ _ _ _ _ _ _ h1
          · simp at h1
        · split at h
          · exact hgo _ _ _ _ _ _ _ _ h
          · simp at h

/-- the words of each entry can be read. -/
def LoadsOk (w : World) (S : List En) : Prop := ∀ i, i < S.length → (S.getD i default).load.length = (S.getD i default).len ∧ (S.getD i default).len ≤ 1000 ∧ ReadsI w (S.getD i default).adr (S.getD i default).load

/-- what a search lies in. -/
structure Env (w : World) (p r : Nat) (AS AT AL : Option Addr) (cS cT cL : Nat) (S T : List En) (L : List Ld) (room : Int) : Prop where
  hp : w.heap[p]? = some (.cells #[.slice AS S.length cS, .slice AT T.length cT, .int .i64 room, .slice AL L.length cL, .map (some r)] 45 (0, 0))
  hS : ReadsE w AS S
  hT : ReadsE w AT T
  hL : ReadsL w AL L
  oS : LoadsOk w S
  oT : LoadsOk w T
  lS : S.length ≤ 1000
  lT : T.length ≤ 1000
  lL : L.length ≤ 1000
  kS : S.length ≤ cS
  kT : T.length ≤ cT
  nS : AS = none → cS = 0
  nT : AT = none → cT = 0

/-- what stands in a row stands there still where a map alone has turned. -/
theorem cell_only {w w' : World} {r : Nat} {o : Obj} (hm : w.heap[r]? = some o) (hno : ∀ c e f, o ≠ .cells c e f) (hg : w.grownBy w' (some r)) {a : Addr} {v : Value} (h : w.cell? a = some v) : w'.cell? a = some v := by
  have hne : a.block ≠ r := by
    rintro rfl
    unfold World.cell? at h
    rw [hm] at h
    cases o with
    | cells c e f => exact hno c e f rfl
    | _ => simp at h
  rw [World.cell?_of_block (hg.block _ (World.block_lt_of_cell? w a h) (fun e => hne (by injection e)))]
  exact h

theorem ReadsE.only {w w' : World} {r : Nat} {o : Obj} (hm : w.heap[r]? = some o) (hno : ∀ c e f, o ≠ .cells c e f) (hg : w.grownBy w' (some r)) {A : Option Addr} {l : List En} (h : ReadsE w A l) : ReadsE w' A l := by
  rcases h with h | ⟨b, o, h, hr⟩
  · exact .inl h
  · refine .inr ⟨b, o, h, fun i hi j hj => ?_⟩
    have := hr i hi j hj
    have hs : ∃ v, (l.getD i default).cells[j]? = some v := ⟨(l.getD i default).cells[j]'(by simp [En.cells]; omega), by simp [En.cells, hj]⟩
    obtain ⟨v, hv⟩ := hs
    rw [hv] at this ⊢
    exact cell_only hm hno hg this
theorem ReadsI.only {w w' : World} {r : Nat} {o : Obj} (hm : w.heap[r]? = some o) (hno : ∀ c e f, o ≠ .cells c e f) (hg : w.grownBy w' (some r)) {A : Option Addr} {l : List Int} (h : ReadsI w A l) : ReadsI w' A l := by
  rcases h with h | ⟨b, o, h, hr⟩
  · exact .inl h
  · exact .inr ⟨b, o, h, fun i hi => cell_only hm hno hg (hr i hi)⟩
theorem ReadsL.only {w w' : World} {r : Nat} {o : Obj} (hm : w.heap[r]? = some o) (hno : ∀ c e f, o ≠ .cells c e f) (hg : w.grownBy w' (some r)) {A : Option Addr} {L : List Ld} (h : ReadsL w A L) : ReadsL w' A L := by
  rcases h with h | ⟨b, o, h, hr⟩
  · exact .inl h
  · exact .inr ⟨b, o, h, fun i hi => ⟨cell_only hm hno hg (hr i hi).1, (hr i hi).2.1, (hr i hi).2.2.1, (hr i hi).2.2.2.only hm hno hg⟩⟩
theorem LoadsOk.only {w w' : World} {r : Nat} {o : Obj} (hm : w.heap[r]? = some o) (hno : ∀ c e f, o ≠ .cells c e f) (hg : w.grownBy w' (some r)) {S : List En} (h : LoadsOk w S) : LoadsOk w' S :=
  fun i hi => ⟨(h i hi).1, (h i hi).2.1, (h i hi).2.2.only hm hno hg⟩

theorem Env.only {w w' : World} {p r : Nat} {AS AT AL : Option Addr} {cS cT cL : Nat} {S T : List En} {L : List Ld} {room : Int} {t : Tr} (h : Env w p r AS AT AL cS cT cL S T L room) (ht : TriedAt w r t) (hg : w.grownBy w' (some r)) : Env w' p r AS AT AL cS cT cL S T L room := by
  obtain ⟨es, ck, hm, _, _⟩ := ht
  have hno : ∀ c e f, Obj.map es ck ≠ .cells c e f := fun _ _ _ => by simp
  have hne : p ≠ r := by
    rintro rfl
    rw [h.hp] at hm
    simp at hm
  exact { h with
    hp := (hg.block p (lt_of_block h.hp) (fun e => hne (by injection e))).trans h.hp
    hS := h.hS.only hm hno hg
    hT := h.hT.only hm hno hg
    hL := h.hL.only hm hno hg
    oS := h.oS.only hm hno hg
    oT := h.oT.only hm hno hg }
theorem TriedAt.below {w w' : World} {r : Nat} {t : Tr} (h : TriedAt w r t) (hb : Below w.heap.size w w') : TriedAt w' r t := by
  obtain ⟨es, ck, hm, h2⟩ := h
  exact ⟨es, ck, (hb.block r (lt_of_block hm)).trans hm, h2⟩
theorem grown_of_below {w w' : World} (h : Below w.heap.size w w') (r : Option Nat) : w.grownBy w' r := ⟨h.os, h.tape, h.output, h.size, fun i hi _ => h.block i hi⟩

/-- the calls of a list that put. -/
def cnt (S : List En) : Nat := (S.filter En.fine).length
/-- the counts are such as they may be. -/
structure Good (S : List En) (L : List Ld) (n : Cn) (i : Nat) : Prop where
  back : 0 ≤ n.back
  got : n.back ≤ n.got
  put : n.got ≤ n.put
  left : n.put + cnt (S.drop i) ≤ L.length

theorem cnt_drop (S : List En) (i : Nat) (hi : i < S.length) : cnt (S.drop i) = (if (S.getD i default).fine then 1 else 0) + cnt (S.drop (i + 1)) := by
  rw [List.drop_eq_getElem_cons hi]
  have : S.getD i default = S[i] := by simp [List.getD_eq_getElem?_getD, hi]
  rw [this]
  generalize S.drop (i + 1) = R
  unfold cnt
  by_cases h : S[i].fine = true
  · simp [List.filter_cons, h]; omega
  · simp [List.filter_cons, h]

theorem Good.sent {S : List En} {L : List Ld} {n : Cn} {i : Nat} (h : Good S L n i) (hi : i < S.length) (room : Int) (loads : List (List Int)) (hk : (S.getD i default).kind = 1) : Good S L (doesP room loads n (S.getD i default)).1 (i + 1) := by
  have hc := cnt_drop S i hi
  obtain ⟨h1, h2, h3, h4⟩ := h
  generalize S.getD i default = x at *
  unfold doesP
  by_cases hf : x.fine = true
  · simp [hk, hf]
    rw [if_pos hf] at hc
    exact ⟨h1, h2, by simp; omega, by simp; omega⟩
  · rw [if_neg hf] at hc
    simp [hk, hf]
    split
    · exact ⟨h1, h2, h3, by show n.put + _ ≤ _; omega⟩
    · exact ⟨h1, h2, h3, by show n.put + _ ≤ _; omega⟩

theorem Good.took {S : List En} {L : List Ld} {n : Cn} {i : Nat} (h : Good S L n i) (room : Int) (loads : List (List Int)) (x : En) (hk : x.kind = 2 ∨ x.kind = 3) (hok : (doesP room loads n x).2 = true) : Good S L (doesP room loads n x).1 i := by
  obtain ⟨h1, h2, h3, h4⟩ := h
  unfold doesP at *
  rcases hk with hk | hk
  · by_cases hf : x.fine = true
    · simp [hk, hf] at hok ⊢
      exact ⟨h1, by simp; omega, by simp; omega, by simp; omega⟩
    · simp [hk, hf] at hok ⊢
      split <;> exact ⟨h1, h2, h3, h4⟩
  · by_cases hf : x.fine = true
    · simp [hk, hf] at hok ⊢
      exact ⟨by simp; omega, by simp; omega, by simp; omega, by simp; omega⟩
    · simp [hk, hf]
      exact ⟨h1, h2, h3, h4⟩

end Go.Proofs.Ytcljbhiammofjaa
