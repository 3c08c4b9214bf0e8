/- one of the reference, and whether a diary is right, of both. -/
import Derived.Test.YtbfpaemaiaeljaaDoorD10
namespace Go.Proofs.YtbfpaemaiaeljaaDoor
open Go.RowKit

theorem box_at (w : World) (x : En) (e : TypeId) : (w.alloc (.cells x.cells e)).heap[w.heap.size]? = some (.cells x.cells e (0, 0)) := new_block _ _

set_option maxHeartbeats 3200000 in
theorem one_any (w : World) (x : En) (lx : x.load.length = x.len) (mx : x.len ≤ 1000) (rx : ReadsI w x.adr x.load) :
    Calls Tryd.prog 31 #[.agg x.cells] w fun e w' => e = .returned (.bool (oneP x)) ∧ Below w.heap.size w w' := by
  have HX := Lib.hid lx
  have RX := Lib.hid rx
  clear lx rx
  by_cases h1 : x.core < 0
  · have HF : Hid (oneP x = false) := by
      show _ = _
      have : ¬ headOk x := by unfold headOk; omega
      simp [oneP, this]
    unfold En.cells
    go_enter Tryd.func31, Tryd.ntmps31
    go_wp2
    go_ret
    exact ⟨ret_bool (by rw [HF.out]), one_al _ _⟩
  by_cases h1b : 7 < x.core
  · have HF : Hid (oneP x = false) := by
      show _ = _
      have : ¬ headOk x := by unfold headOk; omega
      simp [oneP, this]
    unfold En.cells
    go_enter Tryd.func31, Tryd.ntmps31
    go_wp2
    go_ret
    exact ⟨ret_bool (by rw [HF.out]), one_al _ _⟩
  by_cases h2 : x.peer < 0
  · have HF : Hid (oneP x = false) := by
      show _ = _
      have : ¬ headOk x := by unfold headOk; omega
      simp [oneP, this]
    unfold En.cells
    go_enter Tryd.func31, Tryd.ntmps31
    go_wp2
    go_ret
    exact ⟨ret_bool (by rw [HF.out]), one_al _ _⟩
  by_cases h2b : 7 < x.peer
  · have HF : Hid (oneP x = false) := by
      show _ = _
      have : ¬ headOk x := by unfold headOk; omega
      simp [oneP, this]
    unfold En.cells
    go_enter Tryd.func31, Tryd.ntmps31
    go_wp2
    go_ret
    exact ⟨ret_bool (by rw [HF.out]), one_al _ _⟩
  by_cases h3 : x.core = x.peer
  · have q : (x.core == x.peer) = true := by simpa using h3
    have HF : Hid (oneP x = false) := by
      show _ = _
      have : ¬ headOk x := by unfold headOk; omega
      simp [oneP, this]
    clear h3
    unfold En.cells
    go_enter Tryd.func31, Tryd.ntmps31
    go_wp2
    go_ret
    exact ⟨ret_bool (by rw [HF.out]), one_al _ _⟩
  have q3 : (x.core == x.peer) = false := by simpa using h3
  by_cases h4 : x.kind < 1
  · have HF : Hid (oneP x = false) := by
      show _ = _
      have : ¬ headOk x := by unfold headOk; omega
      simp [oneP, this]
    unfold En.cells
    go_enter Tryd.func31, Tryd.ntmps31
    go_wp2
    go_ret
    exact ⟨ret_bool (by rw [HF.out]), one_al _ _⟩
  by_cases h5 : 3 < x.kind
  · have HF : Hid (oneP x = false) := by
      show _ = _
      have : ¬ headOk x := by unfold headOk; omega
      simp [oneP, this]
    unfold En.cells
    go_enter Tryd.func31, Tryd.ntmps31
    go_wp2
    go_ret
    exact ⟨ret_bool (by rw [HF.out]), one_al _ _⟩
  by_cases h6 : x.bg < 1
  · have HF : Hid (oneP x = false) := by
      show _ = _
      have : ¬ headOk x := by unfold headOk; omega
      simp [oneP, this]
    unfold En.cells
    go_enter Tryd.func31, Tryd.ntmps31
    go_wp2
    go_ret
    exact ⟨ret_bool (by rw [HF.out]), one_al _ _⟩
  by_cases h7 : 8 < x.len
  · have q7 : (8 : Int) < (x.len : Int) := by omega
    have HF : Hid (oneP x = false) := by
      show _ = _
      have : ¬ headOk x := by unfold headOk; omega
      simp [oneP, this]
    unfold En.cells
    go_enter Tryd.func31, Tryd.ntmps31
    go_wp2
    go_ret
    exact ⟨ret_bool (by rw [HF.out]), one_al _ _⟩
  have q7 : ¬ (8 : Int) < (x.len : Int) := by omega
  by_cases h8 : x.nd = 0 ∧ x.err ≠ 0
  · obtain ⟨h8a, h8b⟩ := h8
    have q : (x.nd == 0) = true := by simpa using h8a
    have q2 : (x.err != 0) = true := by simpa using h8b
    have HF : Hid (oneP x = false) := by
      show _ = _
      have : ¬ headOk x := by unfold headOk; omega
      simp [oneP, this]
    unfold En.cells
    go_enter Tryd.func31, Tryd.ntmps31
    go_wp2
    go_ret
    exact ⟨ret_bool (by rw [HF.out]), one_al _ _⟩
  by_cases h9 : x.nd ≠ 0 ∧ x.nd < x.bg
  · obtain ⟨h9a, h9b⟩ := h9
    have q : (x.nd == 0) = false := by simpa using h9a
    have q2 : (x.nd != 0) = true := by simpa using h9a
    have HF : Hid (oneP x = false) := by
      show _ = _
      have : ¬ headOk x := by unfold headOk; omega
      simp [oneP, this]
    unfold En.cells
    go_enter Tryd.func31, Tryd.ntmps31
    go_wp2
    go_ret
    exact ⟨ret_bool (by rw [HF.out]), one_al _ _⟩
  have HO : Hid (oneP x = x.load.all fun z => decide (0 ≤ z ∧ z < 65536)) := by
    show _ = _
    have : headOk x := by unfold headOk; omega
    simp [oneP, this]
  by_cases h0 : x.nd = 0
  · have q : (x.nd == 0) = true := by simpa using h0
    have q1 : (x.nd != 0) = false := by simpa using h0
    have q2 : (x.err != 0) = false := by
      have : x.err = 0 := by omega
      simpa using this
    clear h8 h9 h0
    have HW := Lib.hid (box_at w x 39)
    unfold En.cells
    go_enter Tryd.func31, Tryd.ntmps31
    go_wp2
    clear q q1 q2
    go_loopg [3] x.len (fun q s3 wr => ∃ j : Nat, s3 = .int .i64 j ∧ j + q = x.len ∧ Below w.heap.size w wr ∧ wr.heap[w.heap.size]? = (w.alloc (.cells x.cells 39)).heap[w.heap.size]? ∧ ∀ i, i < j → 0 ≤ x.load.getD i 0 ∧ x.load.getD i 0 < 65536)
    case atStart => exact ⟨0, rfl, by omega, one_al _ _, rfl, by intro i hi; omega⟩
    case round =>
      obtain ⟨j, rfl, hj, hb, hbx, hn⟩ := hrel
      have HJ := Lib.hid hj
      have HN := Lib.hid hn
      have HB := Lib.hid hb
      have hbx2 := hbx.trans HW.out
      have HBX := Lib.hid hbx
      obtain ⟨_, _, _, _, _, _, a6, _⟩ := entry_cells hbx2
      clear hj hn hb hbx hbx2
      by_cases hlt : j < x.len
      · obtain ⟨b, o, hA, hc⟩ := reads_at (RX.out.below HB.out) (by rw [HX.out]; exact hlt)
        rw [hA] at a6
        generalize he : x.load.getD j 0 = z at *
        have HZ := Lib.hid he
        clear he hA
        by_cases hz : z < 0
        · go_wp2
          go_ret
          refine ⟨ret_bool ?_, HB.out⟩
          rw [HO.out, eq_comm, List.all_eq_false]
          refine ⟨z, ?_, by simp; omega⟩
          rw [← HZ.out, List.getD_eq_getElem?_getD, List.getElem?_eq_getElem (by rw [HX.out]; exact hlt)]
          exact List.getElem_mem _
        · by_cases hz2 : 65535 < z
          · go_wp2
            go_ret
            refine ⟨ret_bool ?_, HB.out⟩
            rw [HO.out, eq_comm, List.all_eq_false]
            refine ⟨z, ?_, by simp; omega⟩
            rw [← HZ.out, List.getD_eq_getElem?_getD, List.getElem?_eq_getElem (by rw [HX.out]; exact hlt)]
            exact List.getElem_mem _
          · go_wp2
            go_roundg (gk - 1)
            case measure => have := HJ.out; omega
            case rel =>
              refine ⟨j + 1, by simp, by have := HJ.out; omega, HB.out, HBX.out, ?_⟩
              intro i hi
              by_cases hij : i = j
              · subst hij; rw [HZ.out]; omega
              · exact HN.out i (by omega)
      · go_wp2
        go_ret
        refine ⟨ret_bool ?_, HB.out⟩
        rw [HO.out, eq_comm, List.all_eq_true]
        intro z hz
        obtain ⟨i, hi, rfl⟩ := List.getElem_of_mem hz
        have := HN.out i (by have := HJ.out; have := HX.out; omega)
        simpa [List.getD_eq_getElem?_getD, hi] using this
  · have q : (x.nd == 0) = false := by simpa using h0
    have q1 : (x.nd != 0) = true := by simpa using h0
    have q2 : ¬ x.nd < x.bg := by omega
    clear h8 h9 h0
    have HW := Lib.hid (box_at w x 39)
    unfold En.cells
    go_enter Tryd.func31, Tryd.ntmps31
    go_wp2
    clear q q1 q2
    go_loopg [3] x.len (fun q s3 wr => ∃ j : Nat, s3 = .int .i64 j ∧ j + q = x.len ∧ Below w.heap.size w wr ∧ wr.heap[w.heap.size]? = (w.alloc (.cells x.cells 39)).heap[w.heap.size]? ∧ ∀ i, i < j → 0 ≤ x.load.getD i 0 ∧ x.load.getD i 0 < 65536)
    case atStart => exact ⟨0, rfl, by omega, one_al _ _, rfl, by intro i hi; omega⟩
    case round =>
      obtain ⟨j, rfl, hj, hb, hbx, hn⟩ := hrel
      have HJ := Lib.hid hj
      have HN := Lib.hid hn
      have HB := Lib.hid hb
      have hbx2 := hbx.trans HW.out
      have HBX := Lib.hid hbx
      obtain ⟨_, _, _, _, _, _, a6, _⟩ := entry_cells hbx2
      clear hj hn hb hbx hbx2
      by_cases hlt : j < x.len
      · obtain ⟨b, o, hA, hc⟩ := reads_at (RX.out.below HB.out) (by rw [HX.out]; exact hlt)
        rw [hA] at a6
        generalize he : x.load.getD j 0 = z at *
        have HZ := Lib.hid he
        clear he hA
        by_cases hz : z < 0
        · go_wp2
          go_ret
          refine ⟨ret_bool ?_, HB.out⟩
          rw [HO.out, eq_comm, List.all_eq_false]
          refine ⟨z, ?_, by simp; omega⟩
          rw [← HZ.out, List.getD_eq_getElem?_getD, List.getElem?_eq_getElem (by rw [HX.out]; exact hlt)]
          exact List.getElem_mem _
        · by_cases hz2 : 65535 < z
          · go_wp2
            go_ret
            refine ⟨ret_bool ?_, HB.out⟩
            rw [HO.out, eq_comm, List.all_eq_false]
            refine ⟨z, ?_, by simp; omega⟩
            rw [← HZ.out, List.getD_eq_getElem?_getD, List.getElem?_eq_getElem (by rw [HX.out]; exact hlt)]
            exact List.getElem_mem _
          · go_wp2
            go_roundg (gk - 1)
            case measure => have := HJ.out; omega
            case rel =>
              refine ⟨j + 1, by simp, by have := HJ.out; omega, HB.out, HBX.out, ?_⟩
              intro i hi
              by_cases hij : i = j
              · subst hij; rw [HZ.out]; omega
              · exact HN.out i (by omega)
      · go_wp2
        go_ret
        refine ⟨ret_bool ?_, HB.out⟩
        rw [HO.out, eq_comm, List.all_eq_true]
        intro z hz
        obtain ⟨i, hi, rfl⟩ := List.getElem_of_mem hz
        have := HN.out i (by have := HJ.out; have := HX.out; omega)
        simpa [List.getD_eq_getElem?_getD, hi] using this

end Go.Proofs.YtbfpaemaiaeljaaDoor
