/- The map of the places that were tried, and what a search lies in. -/
import Derived.Test.YtcljbhiammofjaaA3
namespace Go.Proofs.Ytcljbhiammofjaa
open Go.RowKit

/-- a place in both lists, as a key. -/
def pairV (x : Nat × Nat) : Value := .agg #[.int .i64 x.1, .int .i64 x.2]
/-- the map of the places that were tried. -/
def TriedAt (w : World) (r : Nat) (t : List (Nat × Nat)) : Prop := ∃ es ck, w.heap[r]? = some (.map es ck) ∧ es.toList.map (·.key) = t.map pairV ∧ ∀ e ∈ es.toList, e.val = .agg #[]

theorem equal_pair (a b : Nat × Nat) (w : World) : (Op.equal 48 (pairV a) (pairV b)).run Try.prog w = .ok (a == b) w := by
  obtain ⟨a1, a2⟩ := a
  obtain ⟨b1, b2⟩ := b
  by_cases h1 : a1 = b1
  · by_cases h2 : a2 = b2
    · simp [Op.equal, Op.maxDepth, pairV, go_sem, h1, h2]
    · have h3 : ¬ (a2 : Int) = (b2 : Int) := by omega
      have h4 : ((b1, a2) == (b1, b2)) = false := by simpa using h2
      simp [Op.equal, Op.maxDepth, pairV, go_sem, h1, h3, h4]
  · have h3 : ¬ (a1 : Int) = (b1 : Int) := by omega
    have h4 : ((a1, a2) == (b1, b2)) = false := by simp [h1]
    simp [Op.equal, Op.maxDepth, pairV, go_sem, h3, h4]

theorem findNow_agg (fs : TypeDesc) (x : Nat × Nat) (es : List MapEntry) (t : List (Nat × Nat)) (h : es.map (·.key) = t.map pairV) (i : Nat) : Instr.findNow fs (pairV x) es i = if es = [] then some none else none := by
  cases es with
  | nil => rfl
  | cons e es =>
    cases t with
    | nil => simp at h
    | cons y t =>
      simp only [List.map_cons, List.cons.injEq] at h
      simp only [Instr.findNow, h.1]
      cases fs <;> rfl

theorem find_pair (x : Nat × Nat) (w : World) : ∀ (es : List MapEntry) (t : List (Nat × Nat)) (i : Nat), es.map (·.key) = t.map pairV → (∀ e ∈ es, e.val = .agg #[]) →
    ∃ o, (Instr.findAsking 48 (pairV x) es i).run Try.prog w = .ok o w ∧ (if t.contains x then ∃ j, o = some (j, .agg #[]) else o = none) := by
  intro es
  induction es with
  | nil =>
    intro t i h _
    cases t with
    | nil => exact ⟨none, rfl, by simp⟩
    | cons y t => simp at h
  | cons e es ih =>
    intro t i h hv
    cases t with
    | nil => simp at h
    | cons y t =>
      simp only [List.map_cons, List.cons.injEq] at h
      by_cases hxy : x = y
      · subst hxy
        refine ⟨some (i, .agg #[]), ?_, by simp⟩
        simp only [Instr.findAsking, Sem.run_bind, h.1, equal_pair, Result.andThen_ok]
        simp [hv e (by simp)]
      · obtain ⟨o, h1, h2⟩ := ih t (i + 1) h.2 (fun e he => hv e (by simp [he]))
        refine ⟨o, ?_, ?_⟩
        · simp only [Instr.findAsking, Sem.run_bind, h.1, equal_pair, Result.andThen_ok]
          have : (x == y) = false := by simpa using hxy
          simp [this, h1]
        · simpa [hxy] using h2

theorem checkKey_int (b : Bool) (n : Nat) (x : Int) (w : World) : (Instr.checkKey b (n + 1) 3 (.int .i64 x)).run Try.prog w = .ok () w := by
  simp [Instr.checkKey, go_sem]
theorem checkKey_pair (b : Bool) (n : Nat) (x : Nat × Nat) (w : World) : (Instr.checkKey b (n + 1 + 1) 48 (pairV x)).run Try.prog w = .ok () w := by
  rw [Instr.checkKey, Sem.run_bind, run_underlying Try.underlying48, Result.andThen_ok]
  simp [pairV, go_sem, checkKey_int]

theorem findKey_pair (x : Nat × Nat) (w : World) (es : List MapEntry) (t : List (Nat × Nat)) (h : es.map (·.key) = t.map pairV) (hv : ∀ e ∈ es, e.val = .agg #[]) :
    ∃ o, (Instr.findKey 48 (pairV x) es).run Try.prog w = .ok o w ∧ (if t.contains x then ∃ j, o = some (j, .agg #[]) else o = none) := by
  obtain ⟨o, h1, h2⟩ := find_pair x w es t 0 h hv
  refine ⟨o, ?_, h2⟩
  unfold Instr.findKey
  rw [Sem.run_bind, run_underlying Try.underlying48, Result.andThen_ok, findNow_agg _ x es t h]
  cases es with
  | nil =>
    cases t with
    | nil => simp at h2; simp [h2]
    | cons y t => simp at h
  | cons e es => simpa using h1

theorem run_lookup_pair (w : World) (r : Nat) (t : List (Nat × Nat)) (h : TriedAt w r t) (x : Nat × Nat) :
    (Instr.lookup 43 (.map (some r)) (pairV x) true).run Try.prog w = .ok (.tuple #[.agg #[], .bool (t.contains x)]) w := by
  obtain ⟨es, ck, hb, hk, hv⟩ := h
  obtain ⟨o, h1, h2⟩ := findKey_pair x w es.toList t hk hv
  unfold Instr.lookup
  rw [Sem.run_bind, run_underlying Try.underlying43, Result.andThen_ok]
  simp only [Sem.run_bind, getObj, Sem.run, hb, Result.andThen_ok, Sem.run_pure]
  rw [checkKey_pair _ 9998, Result.andThen_ok, h1, Result.andThen_ok]
  by_cases hc : t.contains x
  · simp only [hc, if_true] at h2
    obtain ⟨j, rfl⟩ := h2
    simpa using hc
  · simp only [hc] at h2
    simp at h2
    subst h2
    simpa [go_sem] using hc

/-- the world with another map. -/
def setMap (w : World) (r : Nat) (o : Obj) : World := { w with heap := w.heap.setIfInBounds r o }

theorem run_update_pair (w : World) (r : Nat) (t : List (Nat × Nat)) (h : TriedAt w r t) (x : Nat × Nat) (hx : t.contains x = false) :
    ∃ o, (Instr.mapUpdate 43 (.map (some r)) (pairV x) (.agg #[])).run Try.prog w = .ok () (setMap w r o) ∧ TriedAt (setMap w r o) r (t ++ [x]) ∧ w.grownBy (setMap w r o) (some r) := by
  obtain ⟨es, ck, hb, hk, hv⟩ := h
  obtain ⟨o, h1, h2⟩ := findKey_pair x w es.toList t hk hv
  rw [hx] at h2
  simp at h2
  subst h2
  refine ⟨.map (es.push { key := pairV x, val := .agg #[], born := ck }) (ck + 1), ?_, ⟨es.push { key := pairV x, val := .agg #[], born := ck }, ck + 1, ?_, ?_, ?_⟩, ⟨rfl, rfl, rfl, by simp [setMap], ?_⟩⟩
  · unfold Instr.mapUpdate
    rw [Sem.run_bind, run_underlying Try.underlying43, Result.andThen_ok]
    simp only [Sem.run_bind, getObj, Sem.run, hb, Result.andThen_ok, Sem.run_pure]
    rw [checkKey_pair _ 9998, Result.andThen_ok, h1, Result.andThen_ok]
    simp only [setObj, Sem.run, hb]
    rfl
  · have := lt_of_block hb
    simp [setMap, this]
  · simp [hk]
  · intro e he
    simp at he
    rcases he with he | rfl
    · exact hv e (by simpa using he)
    · rfl
  · intro k hk hne
    have : r ≠ k := fun h => hne (by rw [h])
    simp [setMap, this]

end Go.Proofs.Ytcljbhiammofjaa
