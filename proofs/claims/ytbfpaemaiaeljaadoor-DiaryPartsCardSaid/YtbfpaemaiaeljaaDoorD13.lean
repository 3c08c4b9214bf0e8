/- Whether a diary is right, by the program. -/
import Derived.Test.YtbfpaemaiaeljaaDoorD12
import Derived.Test.YtbfpaemaiaeljaaDoorD7
import Derived.Lib.QuietBelow
namespace Go.Proofs.YtbfpaemaiaeljaaDoor
open Go.RowKit Go.Sort

/-- a block of eight numbers. -/
def Eight (w : World) (g : Nat) (last : List Int) : Prop := w.heap[g]? = some (.cells (last.map (Value.int .i64)).toArray 53 (0, 0))
theorem Eight.cell {w : World} {g : Nat} {last : List Int} (h : Eight w g last) {i : Nat} (hi : i < last.length) : w.cell? ⟨g, i, none⟩ = some (.int .i64 (last.getD i 0)) ∧ w.frozen? ⟨g, i, none⟩ = false := by
  unfold Eight at h
  refine ⟨?_, by simp [World.frozen?, h]⟩
  simp [World.cell?, h, List.getD_eq_getElem?_getD, hi]
theorem Eight.set {w : World} {g : Nat} {last : List Int} (h : Eight w g last) (i : Nat) (z : Int) : Eight (w.setCell ⟨g, i, none⟩ (.int .i64 z)) g (last.set i z) := by
  unfold Eight at *
  rw [set_cells h]
  simp [List.map_set]
theorem Eight.below {w w' : World} {g : Nat} {last : List Int} (h : Eight w g last) (hb : Below w.heap.size w w') : Eight w' g last := (hb.block g (lt_of_block h)).trans h

set_option maxHeartbeats 3200000 in
theorem right18_any (w : World) (A : Option Addr) (c : Nat) (l : List En) (hr : ReadsE w A l) (ho : LoadsOk w l) (n : Nat) (hn : l.length = n) (hl : n ≤ 1000) :
    Calls Tryd.prog 18 #[.slice A n c] w fun e w' => e = .returned (.bool (rightB l)) ∧ Below w.heap.size w w' := by
  subst hn
  have HR := Lib.hid hr
  have HO := Lib.hid ho
  clear hr ho
  have hz8 : Eight (w.alloc (.cells #[.int .i64 0, .int .i64 0, .int .i64 0, .int .i64 0, .int .i64 0, .int .i64 0, .int .i64 0, .int .i64 0] 53)) w.heap.size (List.replicate 8 0) := new_block _ _
  have HZ8 := Lib.hid hz8
  clear hz8
  go_enter Tryd.func18, Tryd.ntmps18
  go_wp2
  go_loopg [8] l.length (fun q s8 wr => ∃ (k : Nat) (last : List Int), s8 = .int .i64 k ∧ k + q = l.length ∧ last.length = 8 ∧ Eight wr w.heap.size last ∧ Below w.heap.size w wr ∧ rightB l = rightR last (l.drop k))
  case atStart => exact ⟨0, _, rfl, by omega, by simp, HZ8.out, one_al _ _, rfl⟩
  case round =>
    obtain ⟨k, last, rfl, hk, hll, he, hb, hn⟩ := hrel
    have HK := Lib.hid hk
    have HN := Lib.hid hn
    have HB := Lib.hid hb
    have HE := Lib.hid he
    have HLL := Lib.hid hll
    clear hk hn hb he hll
    by_cases hlt : k < l.length
    · rcases HR.out with h0 | ⟨b, o, rfl, hr⟩
      · rw [h0] at hlt; exact absurd hlt (by simp)
      obtain ⟨c0, c1, c2, c3, c4, c5, c6, c7⟩ := (hr.below HB.out).at k hlt _ rfl
      have hbb := World.block_lt_of_cell? wr _ c0
      simp only at hbb
      have ka := (HO.out.below HB.out) k hlt
      have hdrop : l.drop k = l.getD k default :: l.drop (k + 1) := by
        rw [List.getD_eq_getElem?_getD, List.getElem?_eq_getElem hlt]
        exact List.drop_eq_getElem_cons hlt
      generalize hy : l.getD k default = y at *
      have KA := Lib.hid ka
      have HD := Lib.hid hdrop
      clear hy hr ka hdrop
      have hlt8 := lt_of_block HE.out
      have q1 : IntKind.i64.wrap ((k : Int) + 1) = (k : Int) + 1 := IntWalk.i64_in _ (by omega)
      cases hp : oneP y
      · have HP := Lib.hid hp
        have HF : Hid (rightB l = false) := by show _ = _; rw [HN.out, HD.out, rightR, HP.out]; rfl
        clear hp
        obtain ⟨W0, hW0⟩ : ∃ W0 : World, W0 = wr.alloc (.cells y.cells 28) := ⟨_, rfl⟩
        have hal : Below wr.heap.size wr W0 := by rw [hW0]; exact one_al _ _
        have hsz : W0.heap.size = wr.heap.size + 1 := by rw [hW0]; simp
        have hbx : W0.heap[wr.heap.size]? = some (.cells y.cells 28 (0, 0)) := by rw [hW0]; exact new_block _ _
        have hcl30 : ∀ d os, Calls Tryd.prog 30 #[.agg y.cells] (grow (redrawn W0 d) os) fun e w'' => e = .returned (.bool (oneP y)) ∧ ∃ p : Regrown, w'' = grow (redrawn W0 p.d) p.os := fun d os =>
          Calls.regrown_of (right_any _ y KA.out.1 KA.out.2.1 (KA.out.2.2.below (hal.trans ((below_regrown _ d os).mono (by omega)))))
        rw [HP.out] at hcl30
        obtain ⟨e0, e1, e2, e3, e4, e5, e6, e7⟩ := entry_cells hbx
        have k0 := cell_regrown e0
        have k1 := cell_regrown e1
        have k2 := cell_regrown e2
        have k3 := cell_regrown e3
        have k4 := cell_regrown e4
        have k5 := cell_regrown e5
        have k6 := cell_regrown e6
        have k7 := cell_regrown e7
        have HBX := Lib.hid hbx
        have HAL := Lib.hid hal
        have HSZ := Lib.hid hsz
        unfold En.cells at hW0
        have HW0 := Lib.hid hW0
        clear hbx hal hsz hW0 e0 e1 e2 e3 e4 e5 e6 e7
        go_wp2_with fail
        rw [← HW0.out]
        refine wp_region_quiet_below (by kernel_rfl) (by kernel_rfl) ?_
        repeat (quiet_step ((go_at_call 30; exact hcl30 _ _)))
        refine wpQuiet_nil ?_
        intro _ hw'
        obtain ⟨⟨dq, osq⟩, hw''⟩ := hw'
        subst hw''
        have HRG := Lib.hid (below_regrown W0 dq osq)
        clear k0 k1 k2 k3 k4 k5 k6 k7 hcl30
        go_wp2
        go_ret
        exact ⟨ret_bool (by rw [HF.out]), HB.out.trans ((HAL.out.trans (HRG.out.mono (by have := HSZ.out; omega))).mono HB.out.size)⟩
      · have HP := Lib.hid hp
        have hho := oneP_head hp
        unfold headOk at hho
        have q2 : 0 ≤ y.core := by omega
        have q3 : y.core < 8 := by omega
        have hcl : y.core.toNat < last.length := by rw [HLL.out]; omega
        have HRN : Hid (rightB l = (decide (last.getD y.core.toNat 0 < y.bg) && rightR (last.set y.core.toNat (max y.bg y.nd)) (l.drop (k + 1)))) := by
          show _ = _
          rw [HN.out, HD.out, rightR, HP.out]; simp
        clear hp hho
        generalize hlc : last.getD y.core.toNat 0 = z at *
        have HLC := Lib.hid hlc
        clear hlc
        obtain ⟨W0, hW0⟩ : ∃ W0 : World, W0 = wr.alloc (.cells y.cells 28) := ⟨_, rfl⟩
        have hal : Below wr.heap.size wr W0 := by rw [hW0]; exact one_al _ _
        have hsz : W0.heap.size = wr.heap.size + 1 := by rw [hW0]; simp
        have hbx : W0.heap[wr.heap.size]? = some (.cells y.cells 28 (0, 0)) := by rw [hW0]; exact new_block _ _
        have hcl30 : ∀ d os, Calls Tryd.prog 30 #[.agg y.cells] (grow (redrawn W0 d) os) fun e w'' => e = .returned (.bool (oneP y)) ∧ ∃ p : Regrown, w'' = grow (redrawn W0 p.d) p.os := fun d os =>
          Calls.regrown_of (right_any _ y KA.out.1 KA.out.2.1 (KA.out.2.2.below (hal.trans ((below_regrown _ d os).mono (by omega)))))
        rw [HP.out] at hcl30
        obtain ⟨e0, e1, e2, e3, e4, e5, e6, e7⟩ := entry_cells hbx
        have k0 := cell_regrown e0
        have k1 := cell_regrown e1
        have k2 := cell_regrown e2
        have k3 := cell_regrown e3
        have k4 := cell_regrown e4
        have k5 := cell_regrown e5
        have k6 := cell_regrown e6
        have k7 := cell_regrown e7
        have h8 := ((HE.out.below hal).cell hcl).1
        rw [HLC.out] at h8
        have k8 := cell_regrown h8
        clear h8
        have HBX := Lib.hid hbx
        have HAL := Lib.hid hal
        have HSZ := Lib.hid hsz
        unfold En.cells at hW0
        have HW0 := Lib.hid hW0
        clear hbx hal hsz hW0 e0 e1 e2 e3 e4 e5 e6 e7
        by_cases hbg : y.bg ≤ z
        · go_wp2_with fail
          rw [← HW0.out]
          refine wp_region_quiet_below (by kernel_rfl) (by kernel_rfl) ?_
          repeat (quiet_step ((go_at_call 30; exact hcl30 _ _)))
          refine wpQuiet_nil ?_
          intro _ hw'
          obtain ⟨⟨dq, osq⟩, hw''⟩ := hw'
          subst hw''
          have HRG := Lib.hid (below_regrown W0 dq osq)
          clear k0 k1 k2 k3 k4 k5 k6 k7 k8 hcl30
          go_wp2
          go_ret
          refine ⟨ret_bool ?_, HB.out.trans ((HAL.out.trans (HRG.out.mono (by have := HSZ.out; omega))).mono HB.out.size)⟩
          rw [HRN.out, decide_eq_false (by omega)]; rfl
        · go_wp2_with fail
          rw [← HW0.out]
          refine wp_region_quiet_below (by kernel_rfl) (by kernel_rfl) ?_
          repeat (quiet_step ((go_at_call 30; exact hcl30 _ _)))
          refine wpQuiet_nil ?_
          intro _ hw'
          obtain ⟨⟨dq, osq⟩, hw''⟩ := hw'
          subst hw''
          have HRG := Lib.hid (below_regrown W0 dq osq)
          have hw8 : Below wr.heap.size wr (grow (redrawn W0 dq) osq) := HAL.out.trans (HRG.out.mono (by have := HSZ.out; omega))
          have HW8 := Lib.hid hw8
          have h9 := (HE.out.below hw8).cell hcl
          obtain ⟨h9a, h9b⟩ := h9
          rw [HLC.out] at h9a
          have H9 := Lib.hid (HE.out.below hw8)
          clear k0 k1 k2 k3 k4 k5 k6 k7 k8 hcl30 hw8 c0 c1 c2 c3 c4 c5 c6 c7
          have hbx2 : (grow (redrawn W0 dq) osq).heap[wr.heap.size]? = some (.cells y.cells 28 (0, 0)) := (HRG.out.block _ (by have := HSZ.out; omega)).trans HBX.out
          obtain ⟨e0, e1, e2, e3, e4, e5, e6, e7⟩ := entry_cells hbx2
          generalize grow (redrawn W0 dq) osq = wg at *
          clear hbx2
          have hdb : decide (z < y.bg) = true := decide_eq_true (by omega)
          have HDB := Lib.hid hdb
          clear hdb
          go_wp2
          go_roundg (gk - 1)
          case measure => have := HK.out; omega
          case rel =>
            refine ⟨k + 1, last.set y.core.toNat (max y.bg y.nd), by simp, by have := HK.out; omega, by simpa using HLL.out, H9.out.set _ _, (HB.out.trans (HW8.out.mono HB.out.size)).setCell (Nat.le_refl _) _, ?_⟩
            rw [HRN.out, HDB.out]; rfl
    · have hke : k = l.length := by have := HK.out; omega
      subst hke
      go_wp2
      go_ret
      refine ⟨ret_bool ?_, HB.out⟩
      rw [HN.out, List.drop_length]; rfl

end Go.Proofs.YtbfpaemaiaeljaaDoor
