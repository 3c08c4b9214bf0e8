/- The entries of a channel, by the program: on their own. -/
import Derived.Test.YtbfpaemaiaeljaaDoorD3
namespace Go.Proofs.YtbfpaemaiaeljaaDoor
open Go.RowKit

/-- what a predicate over entries tells, in any later world; it makes blocks of its own. -/
def Pred (w : World) (g : Nat) (cap : Array Value) (p : En → Bool) : Prop :=
  ∀ W, Below w.heap.size w W → ∀ y : En, Calls Tryd.prog g (#[.agg y.cells] ++ cap) W fun e w' => e = .returned (.bool (p y)) ∧ Below W.heap.size W w'

theorem one_al (w : World) (o : Obj) : Below w.heap.size w (w.alloc o) := below_al (Below.refl _ _) _

theorem of1_any (w : World) (f t : Int) (y : En) (F T : Nat) (hf : w.heap[F]? = some (.cells #[.int .i64 f] 3 (0,0))) (ht : w.heap[T]? = some (.cells #[.int .i64 t] 3 (0,0))) :
    Calls Tryd.prog 21 #[.agg y.cells, .pointer (some ⟨F, 0, none⟩), .pointer (some ⟨T, 0, none⟩)] w fun e w' => e = .returned (.bool (sentP f t y)) ∧ Below w.heap.size w w' := by
  have c1 : w.cell? ⟨F, 0, none⟩ = some (.int .i64 f) := by simp [World.cell?, hf]
  have c2 : w.cell? ⟨T, 0, none⟩ = some (.int .i64 t) := by simp [World.cell?, ht]
  have hF := lt_of_block hf
  have hT := lt_of_block ht
  have n1 : ¬ w.heap.size = F := by omega
  have n2 : ¬ w.heap.size = T := by omega
  clear hf ht
  unfold En.cells
  cases a : (y.kind == 1)
  · go_enter Tryd.func21, Tryd.ntmps21
    go_wp2
    go_ret
    exact ⟨ret_bool (by simp [sentP, a]), one_al _ _⟩
  · cases b : (y.core == f)
    · go_enter Tryd.func21, Tryd.ntmps21
      go_wp2
      go_ret
      exact ⟨ret_bool (by simp [sentP, a, b]), one_al _ _⟩
    · go_enter Tryd.func21, Tryd.ntmps21
      go_wp2
      go_ret
      exact ⟨ret_bool (by simp [sentP, a, b]), one_al _ _⟩

theorem of2_any (w : World) (f t : Int) (y : En) (F T : Nat) (hf : w.heap[F]? = some (.cells #[.int .i64 f] 3 (0,0))) (ht : w.heap[T]? = some (.cells #[.int .i64 t] 3 (0,0))) :
    Calls Tryd.prog 22 #[.agg y.cells, .pointer (some ⟨T, 0, none⟩), .pointer (some ⟨F, 0, none⟩)] w fun e w' => e = .returned (.bool (takenP f t y)) ∧ Below w.heap.size w w' := by
  have c1 : w.cell? ⟨F, 0, none⟩ = some (.int .i64 f) := by simp [World.cell?, hf]
  have c2 : w.cell? ⟨T, 0, none⟩ = some (.int .i64 t) := by simp [World.cell?, ht]
  have hF := lt_of_block hf
  have hT := lt_of_block ht
  have n1 : ¬ w.heap.size = F := by omega
  have n2 : ¬ w.heap.size = T := by omega
  clear hf ht
  unfold En.cells
  cases a : (y.kind == 2)
  · cases a2 : (y.kind == 3)
    · go_enter Tryd.func22, Tryd.ntmps22
      go_wp2
      go_ret
      exact ⟨ret_bool (by simp [takenP, a, a2]), one_al _ _⟩
    · cases b : (y.core == t)
      · go_enter Tryd.func22, Tryd.ntmps22
        go_wp2
        go_ret
        exact ⟨ret_bool (by simp [takenP, a, a2, b]), one_al _ _⟩
      · go_enter Tryd.func22, Tryd.ntmps22
        go_wp2
        go_ret
        exact ⟨ret_bool (by simp [takenP, a, a2, b]), one_al _ _⟩
  · cases b : (y.core == t)
    · go_enter Tryd.func22, Tryd.ntmps22
      go_wp2
      go_ret
      exact ⟨ret_bool (by simp [takenP, a, b]), one_al _ _⟩
    · go_enter Tryd.func22, Tryd.ntmps22
      go_wp2
      go_ret
      exact ⟨ret_bool (by simp [takenP, a, b]), one_al _ _⟩

theorem clone_any (w : World) (A : Option Addr) (n c : Nat) (l : List Int) (hr : ReadsI w A l) (hn : l.length = n) (hl : n ≤ 1000) :
    Calls Tryd.prog 32 #[.slice A n c] w fun e w' => ∃ A' c', e = .returned (.slice A' n c') ∧ OwnI w' w.heap.size (.slice A' n c') l ∧ Below w.heap.size w w' := by
  subst hn
  cases A with
  | none =>
    have : l = [] := by
      rcases hr with h | ⟨_, _, h, _⟩
      · exact h
      · cases h
    subst this
    refine (Tryd.slices_Clone_int_nil 0 c w).mono ?_
    rintro e w' ⟨rfl, rfl⟩
    exact ⟨none, 0, rfl, ⟨rfl, .inl ⟨rfl, rfl⟩⟩, Below.refl _ _⟩
  | some a =>
    rcases hr with h | ⟨b, o, h, hr⟩
    · subst h
      refine (Tryd.slices_Clone_int_zero a c w).mono ?_
      rintro e w' ⟨v, rfl, ho, _, hb⟩
      obtain ⟨A', c', rfl⟩ := own_slice ho
      exact ⟨A', c', rfl, ho, hb⟩
    · injection h with h
      subst h
      refine (Tryd.slices_Clone_int b o l.length c l w (Nat.le_refl _) (by omega) hr).mono ?_
      rintro e w' ⟨v, rfl, ho, _, hb⟩
      rw [List.take_length] at ho
      obtain ⟨A', c', rfl⟩ := own_slice ho
      exact ⟨A', c', rfl, ho, hb⟩

theorem own_types {w : World} {b1 b2 n1 n2 s1 s2 : Nat} {e1 e2 : TypeId} {v1 v2 : Value} {x1 x2 : List Value} (h1 : w.ownsRow b1 e1 s1 v1 n1 x1) (h2 : w.ownsRow b2 e2 s2 v2 n2 x2) (hne : e1 ≠ e2) : Apart v1 v2 := by
  rcases h1.2 with ⟨rfl, _⟩ | ⟨g1, cap1, cur1, rfl, _, k1, _⟩
  · exact .inl rfl
  · rcases h2.2 with ⟨rfl, _⟩ | ⟨g2, cap2, cur2, rfl, _, k2, _⟩
    · exact .inr (by simp [Value.ownBlock])
    · refine .inr fun h => ?_
      have : g1 = g2 := by simpa [Value.ownBlock] using h
      subst this
      rw [k1] at k2
      injection k2 with k2
      injection k2 with _ k2
      exact hne k2

/-- an entry that is another one's copy, its load on its own. -/
structure Copy (w : World) (B : Nat) (x y : En) : Prop where
  same : y = { x with adr := y.adr, cap := y.cap }
  len : x.load.length = x.len
  own : OwnI w B (.slice y.adr y.len y.cap) y.load
/-- a row of copies. -/
def Copies (w : World) (B : Nat) (F L : List En) : Prop := L.length = F.length ∧ ∀ i, i < F.length → Copy w B (F.getD i default) (L.getD i default)

theorem Copy.kept {w w' : World} {B base n size : Nat} {e : TypeId} {x y : En} {v : Value} {xs : List Value} (h : Copy w B x y) (ho : w.ownsRow base e size v n xs) (he : e ≠ 3) (hg : w.grownBy w' v.ownBlock) : Copy w' B x y :=
  ⟨h.same, h.len, h.own.kept hg (own_types h.own ho (fun e => he e.symm))⟩
theorem Copy.below {w w' : World} {B : Nat} {x y : En} (h : Copy w B x y) (hb : Below w.heap.size w w') : Copy w' B x y := ⟨h.same, h.len, own_below h.own hb⟩
theorem Copies.kept {w w' : World} {B base n size : Nat} {e : TypeId} {F L : List En} {v : Value} {xs : List Value} (h : Copies w B F L) (ho : w.ownsRow base e size v n xs) (he : e ≠ 3) (hg : w.grownBy w' v.ownBlock) : Copies w' B F L :=
  ⟨h.1, fun i hi => (h.2 i hi).kept ho he hg⟩
theorem Copies.below {w w' : World} {B : Nat} {F L : List En} (h : Copies w B F L) (hb : Below w.heap.size w w') : Copies w' B F L := ⟨h.1, fun i hi => (h.2 i hi).below hb⟩
theorem Copies.snoc {w : World} {B : Nat} {F L : List En} {x y : En} (h : Copies w B F L) (hx : Copy w B x y) : Copies w B (F ++ [x]) (L ++ [y]) := by
  refine ⟨by simp [h.1], fun i hi => ?_⟩
  simp only [List.length_append, List.length_cons, List.length_nil] at hi
  by_cases hlt : i < F.length
  · have := h.2 i hlt
    have hl : i < L.length := by rw [h.1]; exact hlt
    simpa [List.getD_eq_getElem?_getD, List.getElem?_append_left hlt, List.getElem?_append_left hl] using this
  · have : i = F.length := by omega
    subst this
    have h2 : (L ++ [y])[F.length]? = some y := by rw [← h.1]; simp
    simpa [List.getD_eq_getElem?_getD, h2] using hx
theorem Copies.loads {w : World} {B : Nat} {F L : List En} (h : Copies w B F L) (hl : ∀ x ∈ F, x.len ≤ 1000) : LoadsOk w L := by
  intro i hi
  rw [h.1] at hi
  have hc := h.2 i hi
  have hm : F.getD i default ∈ F := by
    rw [List.getD_eq_getElem?_getD, List.getElem?_eq_getElem hi]
    exact List.getElem_mem hi
  have hx := hl _ hm
  generalize F.getD i default = x at *
  generalize L.getD i default = y at *
  have e1 : y.len = x.len := by rw [hc.same]
  have e2 : y.load = x.load := by rw [hc.same]
  refine ⟨by rw [e1, e2]; exact hc.len, by rw [e1]; exact hx, ?_⟩
  obtain ⟨A, c, h1, h2⟩ := own_readsI hc.own
  injection h1 with h1
  rw [h1]
  exact h2

/-- what a round of some has come to, ahead of its append. -/
theorem some_step {w wr w1 w2 : World} {F L : List En} {s : Value} {y : En} {A' : Option Addr} {c' : Nat} (ho : OwnE 28 wr w.heap.size s L) (hc : Copies wr w.heap.size F L) (hb : Below w.heap.size w wr)
    (hb1 : Below (wr.heap.size + 1) (wr.alloc (.cells y.cells 28)) w1) (hl : y.load.length = y.len) (h2 : OwnI w2 w1.heap.size (.slice A' y.len c') y.load) (hb2 : Below w1.heap.size w1 w2) :
    let W := (w2.setCell ⟨wr.heap.size, 6, none⟩ (.slice A' y.len c')).alloc (.cells (En.cells { y with adr := A', cap := c' }) 28)
    OwnE 28 W w.heap.size s L ∧ Copies W w.heap.size F L ∧ Copy W w.heap.size y { y with adr := A', cap := c' } ∧ Below w.heap.size w W := by
  intro W
  have hs1 : wr.heap.size + 1 ≤ w1.heap.size := by have := hb1.size; simpa using this
  have z := hb.size
  have hA : Below wr.heap.size wr w2 := ((one_al wr _).trans (hb1.mono (by omega))).trans (hb2.mono (by omega))
  have hB : Below wr.heap.size wr W := (hA.setCell (p := ⟨wr.heap.size, 6, none⟩) (Nat.le_refl _) _).alloc (by simp; exact hA.size) _
  have hg : w2.grownBy W (some wr.heap.size) := by
    refine ⟨rfl, rfl, rfl, by simp [W], fun k hk hne => ?_⟩
    show ((w2.setCell ⟨wr.heap.size, 6, none⟩ _).alloc _).heap[k]? = _
    rw [Below.heap_alloc _ _ _ (by simpa using hk), Below.heap_setCell _ _ _ _ (fun e => hne (by rw [e]))]
  refine ⟨own_below ho hB, hc.below hB, ⟨rfl, hl, ?_⟩, hb.trans (hB.mono z)⟩
  have h3 : OwnI W w1.heap.size (.slice A' y.len c') y.load := h2.kept hg (.inr fun e => by have := own_ge h2 e; omega)
  exact ownsRow_mono h3 (by omega)

end Go.Proofs.YtbfpaemaiaeljaaDoor
