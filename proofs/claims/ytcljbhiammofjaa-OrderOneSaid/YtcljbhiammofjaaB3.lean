/- Two lists of numbers compared; the chapter's example. -/
import Derived.Test.YtcljbhiammofjaaB2
namespace Go.Proofs.Ytcljbhiammofjaa
open Go.RowKit

set_option maxHeartbeats 800000 in
theorem same_any (w : World) (A B : Option Addr) (cA cB : Nat) (l k : List Int) (hr : ReadsI w A l) (hs : ReadsI w B k) (n : Nat) (hn : l.length = n) (hl : n ≤ 10000) (m : Nat) (hm : k.length = m) (hm2 : m ≤ 10000) :
    Calls Try.prog 7 #[.slice A n cA, .slice B m cB] w fun e w' => e = .returned (.bool (l == k)) ∧ ∃ q, w' = w.drewN q := by
  by_cases hnm : n = m
  · subst hnm
    subst hn
    have HR := Lib.hid hr
    have HS := Lib.hid hs
    have HM := Lib.hid hm
    clear hr hs hm
    go_enter Try.func7, Try.ntmps7
    go_wp2
    go_loopg [5] l.length (fun n i wr => ∃ j : Nat, i = .int .i64 j ∧ j + n = l.length ∧ (∃ q, wr = w.drewN q) ∧ (∀ i, i < j → l.getD i 0 = k.getD i 0))
    case atStart => exact ⟨0, rfl, by omega, ⟨0, rfl⟩, by intro j hj; omega⟩
    case round =>
      obtain ⟨j, rfl, hk, ⟨q, rfl⟩, hn⟩ := hrel
      have HN := Lib.hid hn
      have HK := Lib.hid hk
      clear hn hk
      by_cases hlt : j < l.length
      · rcases HR.out with h0 | ⟨b, o, rfl, hr⟩
        · rw [h0] at hlt; exact absurd hlt (by simp)
        rcases HS.out with h0 | ⟨b2, o2, rfl, hs⟩
        · rw [← HM.out, h0] at hlt; exact absurd hlt (by simp)
        have hc := hr j hlt
        have hc2 := hs j (by rw [HM.out]; exact hlt)
        generalize hx : l.getD j 0 = x at *
        generalize hy : k.getD j 0 = y at *
        have HX := Lib.hid hx
        have HY := Lib.hid hy
        clear hx hy hr hs
        by_cases hxy : x = y
        · have hxy' : (x != y) = false := by simp [hxy]
          go_wp2
          go_quiet (fail)
          go_wp2
          go_roundg (gk - 1)
          case measure => have := HK.out; omega
          case rel =>
            refine ⟨j + 1, by simp, by have := HK.out; omega, ⟨_, rfl⟩, ?_⟩
            intro i hi
            by_cases hij : i = j
            · subst hij; rw [HX.out, HY.out]; exact hxy
            · exact HN.out i (by omega)
        · have hxy' : (x != y) = true := by simp [hxy]
          go_wp2
          go_quiet (fail)
          go_wp2
          go_ret
          refine ⟨ret_bool ?_, _, World.drewN_drewN _ _ _⟩
          rw [eq_comm, beq_eq_false_iff_ne]
          intro hlk
          exact hxy (HX.out.symm.trans ((congrArg (fun l => List.getD l j 0) hlk).trans HY.out))
      · go_wp2
        go_ret
        refine ⟨ret_bool ?_, _, rfl⟩
        rw [eq_comm, beq_iff_eq]
        apply List.ext_getElem (by rw [HM.out])
        intro i h1 h2
        have := HN.out i (by have := HK.out; omega)
        simpa [List.getD_eq_getElem?_getD, h1, h2] using this
  · go_enter Try.func7, Try.ntmps7
    go_wp2
    go_ret
    refine ⟨ret_bool ?_, 0, rfl⟩
    rw [eq_comm, beq_eq_false_iff_ne]
    rintro rfl
    exact hnm (hn.symm.trans hm)

theorem own_readsI {w : World} {base : Nat} {v : Value} {l : List Int} (h : OwnI w base v l) : ∃ A c, v = .slice A l.length c ∧ ReadsI w A l := by
  obtain ⟨A, c, rfl⟩ := own_slice h
  refine ⟨A, c, rfl, ?_⟩
  cases l with
  | nil => exact .inl rfl
  | cons x l =>
    rcases h.2 with ⟨_, h0⟩ | ⟨g, cap, cur, e1, _⟩
    · simp at h0
    · have hA : A = some ⟨g, 0, none⟩ := by injection e1
      subst hA
      refine .inr ⟨g, 0, rfl, fun i hi => ?_⟩
      rw [Nat.zero_add]
      exact (own_at h i hi).1

theorem reads_one (w : World) (x : En) : ReadsE (w.alloc (.cells x.cells 32)) (some ⟨w.heap.size, 0, none⟩) [x] := by
  refine .inr ⟨w.heap.size, 0, rfl, fun i hi j hj => ?_⟩
  have hi0 : i = 0 := by simp at hi; omega
  subst hi0
  simp only [World.cell?, new_block]
  simp
theorem loads_nil (w : World) (S : List En) (h : ∀ x ∈ S, x.load = [] ∧ x.len = 0) : LoadsOk w S := LoadsOk.of_mem fun x hx => by
  obtain ⟨h1, h2⟩ := h x hx
  exact ⟨by rw [h1, h2]; rfl, by omega, .inl h1⟩

def ex1 : En := ⟨0, 1, 1, 1, 5, 0, none, 0, 0, 0, []⟩
def ex2 : En := ⟨1, 0, 2, 2, 3, 6, none, 0, 0, 0, []⟩
def ex3 : En := ⟨1, 0, 2, 6, 7, 6, none, 0, 0, 0, []⟩
theorem ex12 : witP [ex1] [ex2] 2 = some [1, 0] := by decide
theorem ex13 : witP [ex1] [ex3] 2 = none := by decide

set_option maxHeartbeats 1600000 in
theorem alive_any (w : World) : Calls Try.prog 5 #[] w fun e w' => e = .returned (.bool true) ∧ Below w.heap.size w w' := by
  go_enter Try.func5, Try.ntmps5
  go_wp2_with fail
  generalize hwA : w.alloc (Obj.cells #[Value.int IntKind.i64 0, Value.int IntKind.i64 1, Value.int IntKind.i64 1, Value.int IntKind.i64 1, Value.int IntKind.i64 5, Value.int IntKind.i64 0, Value.slice none 0 0, Value.int IntKind.i64 0] 32) = wA
  generalize hwB : wA.alloc (Obj.cells #[Value.int IntKind.i64 1, Value.int IntKind.i64 0, Value.int IntKind.i64 2, Value.int IntKind.i64 2, Value.int IntKind.i64 3, Value.int IntKind.i64 6, Value.slice none 0 0, Value.int IntKind.i64 0] 32) = wB
  change w.alloc (Obj.cells ex1.cells 32) = wA at hwA
  change wA.alloc (Obj.cells ex2.cells 32) = wB at hwB
  have sA : wA.heap.size = w.heap.size + 1 := by rw [← hwA]; simp
  have sB : wB.heap.size = w.heap.size + 2 := by rw [← hwB]; simp [sA]
  have bA : Below w.heap.size w wA := by rw [← hwA]; exact below_al (Below.refl _ _) _
  have bB : Below wA.heap.size wA wB := by rw [← hwB]; exact below_al (Below.refl _ _) _
  have r1 : ReadsE wB (some ⟨w.heap.size, 0, none⟩) [ex1] := (by rw [← hwA]; exact reads_one w ex1 : ReadsE wA (some ⟨w.heap.size, 0, none⟩) [ex1]).below bB
  have r2 : ReadsE wB (some ⟨w.heap.size + 1, 0, none⟩) [ex2] := by rw [← sA, ← hwB]; exact reads_one wA ex2
  have bW : Below w.heap.size w wB := bA.trans (bB.mono (by omega))
  have l1 : LoadsOk wB [ex1] := loads_nil _ _ (by simp [ex1])
  have l2 : LoadsOk wB [ex2] := loads_nil _ _ (by simp [ex2])
  have R1 := Lib.hid r1
  have BW := Lib.hid bW
  have SB := Lib.hid sB
  clear bA bB bW hwA hwB sA sB r1
  refine (witness_any wB (some ⟨w.heap.size, 0, none⟩) (some ⟨w.heap.size + 1, 0, none⟩) 1 1 [ex1] [ex2] 2 R1.out r2 l1 l2 1 1 rfl rfl (by omega) (by omega) (by omega) (by omega) (by simp) (by simp)).mono ?_
  clear r2 l1 l2
  rw [ex12]
  rintro e w1 ⟨v, rfl, ho, hb⟩
  obtain ⟨A, c, rfl, hr⟩ := own_readsI ho
  have HR := Lib.hid hr
  have HB := Lib.hid hb
  clear hr hb ho
  go_wp2_with fail
  generalize hwC : w1.alloc (Obj.cells #[Value.int IntKind.i64 1, Value.int IntKind.i64 0, Value.int IntKind.i64 2, Value.int IntKind.i64 6, Value.int IntKind.i64 7, Value.int IntKind.i64 6, Value.slice none 0 0, Value.int IntKind.i64 0] 32) = wC
  generalize hwD : wC.alloc (Obj.cells #[Value.int IntKind.i64 1, Value.int IntKind.i64 0] 3) = wD
  change w1.alloc (Obj.cells ex3.cells 32) = wC at hwC
  have sC : wC.heap.size = w1.heap.size + 1 := by rw [← hwC]; simp
  have bC : Below w1.heap.size w1 wC := by rw [← hwC]; exact below_al (Below.refl _ _) _
  have bD : Below wC.heap.size wC wD := by rw [← hwD]; exact below_al (Below.refl _ _) _
  have bCD : Below w1.heap.size w1 wD := bC.trans (bD.mono (by omega))
  have r3 : ReadsE wD (some ⟨w1.heap.size, 0, none⟩) [ex3] := (by rw [← hwC]; exact reads_one w1 ex3 : ReadsE wC (some ⟨w1.heap.size, 0, none⟩) [ex3]).below bD
  have r4 : ReadsI wD (some ⟨w1.heap.size + 1, 0, none⟩) [1, 0] := by
    refine .inr ⟨w1.heap.size + 1, 0, rfl, fun i hi => ?_⟩
    rw [← sC, ← hwD]
    have : i = 0 ∨ i = 1 := by simp at hi; omega
    rcases this with rfl | rfl <;> simp
  have R3 := Lib.hid r3
  have BD := Lib.hid bCD
  have SW := Lib.hid HB.out.size
  clear bC bD bCD hwC hwD sC r3
  refine (same_any wD A (some ⟨w1.heap.size + 1, 0, none⟩) c 2 [1, 0] [1, 0] (HR.out.below BD.out) r4 2 rfl (by omega) 2 rfl (by omega)).mono ?_
  clear r4
  rintro e w2 ⟨rfl, q, rfl⟩
  go_wp2_with fail
  have hS : ReadsE (wD.drewN q) (some ⟨w.heap.size, 0, none⟩) [ex1] := ((R1.out.below HB.out).below BD.out).below (below_drewN (Below.refl _ _) _)
  have hT : ReadsE (wD.drewN q) (some ⟨w1.heap.size, 0, none⟩) [ex3] := R3.out.below (below_drewN (Below.refl _ _) _)
  refine (fits_any (wD.drewN q) (some ⟨w.heap.size, 0, none⟩) (some ⟨w1.heap.size, 0, none⟩) 1 1 [ex1] [ex3] 2 hS hT (loads_nil _ _ (by simp [ex1])) (loads_nil _ _ (by simp [ex3])) 1 1 rfl rfl (by omega) (by omega) (by omega) (by omega) (by simp) (by simp)).mono ?_
  clear hS hT
  rw [ex13]
  rintro e w3 ⟨rfl, hb⟩
  have HF := Lib.hid hb
  clear hb
  go_wp2
  go_ret
  refine ⟨rfl, ?_⟩
  have h1 := BW.out
  have h2 := HB.out
  have h3 := BD.out
  have h4 := HF.out
  have z1 := SB.out
  have z2 := h2.size
  have z3 := h3.size
  have h5 : Below wD.heap.size wD w3 := by
    have := (below_drewN (Below.refl wD.heap.size wD) _ : Below wD.heap.size wD (wD.drewN q))
    exact this.trans (by simpa using h4)
  exact h1.trans ((h2.mono (by omega)).trans ((h3.mono (by omega)).trans (h5.mono (by omega))))

end Go.Proofs.Ytcljbhiammofjaa
