/- TapeParses: the law's walk. -/
import Derived.Test.YtconmkhoiomeiaaDoorT9
namespace Go.Proofs.YtconmkhoiomeiaaDoor
open Go.RowKit Go.Sort

theorem parArgs_few (t : List UInt8) : (parArgs t).length ≤ 1000 := by
  unfold parArgs
  split
  · rename_i h
    have hl : t.length ≤ 400 := by simp [goes, isText] at h; omega
    unfold lineArgs
    rw [List.length_map, List.length_tail]
    have := (words_le t).1
    omega
  · simp

set_option maxRecDepth 100000 in
set_option maxHeartbeats 6400000 in
theorem parses_any (w : World) (s : ByteArray) (ht : Ties w) : Calls Tryd.prog 4 #[.string s] w fun e w' => e = .returned (.bool true) ∧ Below w.heap.size w w' := by
  have HT := Lib.hid ht
  clear ht
  by_cases hl : 1000 < s.size
  · go_enter Tryd.func4, Tryd.ntmps4
    go_wp2_with fail
    refine (alive_any w HT.out).mono ?_
    rintro e w1 ⟨rfl, hb⟩
    have HB := Lib.hid hb
    clear hb
    go_wp2
    go_ret
    exact ⟨rfl, HB.out⟩
  have hp := parse_any w s HT.out
  have HFEW := Lib.hid (parArgs_few s.data.toList)
  go_enter Tryd.func4, Tryd.ntmps4
  go_wp2_with fail
  refine hp.mono ?_
  rintro e w1 ⟨⟨v, rfl, ho⟩, hb⟩
  obtain ⟨A, c, rfl, hr⟩ := own_readsI ho
  have hp2 : ∀ W, Calls Tryd.prog 16 #[.string s] W fun e w' => ParR W w' s.data.toList e (W.heap.size + 1) := fun W => refParse_any W s
  have HP2 := Lib.hid hp2
  have HBX1 : Hid ((w1.alloc (.cells #[.int .i64 (parOp s.data.toList), .slice A (parArgs s.data.toList).length c] 24)).heap[w1.heap.size]? = some (.cells #[.int .i64 (parOp s.data.toList), .slice A (parArgs s.data.toList).length c] 24 (0, 0))) := box_cells w1 _ A _ c 24
  have HU1 : Hid (Below w.heap.size w (w1.alloc (.cells #[.int .i64 (parOp s.data.toList), .slice A (parArgs s.data.toList).length c] 24))) := hb.trans ((one_al _ _).mono hb.size)
  have HR1 : Hid (ReadsI (w1.alloc (.cells #[.int .i64 (parOp s.data.toList), .slice A (parArgs s.data.toList).length c] 24)) A (parArgs s.data.toList)) := hr.below (one_al _ _)
  clear hp hp2 ho hb hr
  go_wp2_with fail
  refine (HP2.out _).mono ?_
  rintro e w2 ⟨⟨v2, rfl, ho2⟩, hb2⟩
  obtain ⟨A2, c2, rfl, hr2⟩ := own_readsI ho2
  have hbx : (w2.alloc (.cells #[.int .i64 (parOp s.data.toList), .slice A2 (parArgs s.data.toList).length c2] 31)).heap[w1.heap.size]? = some (.cells #[.int .i64 (parOp s.data.toList), .slice A (parArgs s.data.toList).length c] 24 (0, 0)) :=
    (Below.heap_alloc _ _ _ (Nat.lt_of_lt_of_le (lt_of_block HBX1.out) hb2.size)).trans ((hb2.block _ (lt_of_block HBX1.out)).trans HBX1.out)
  have HU2 : Hid (Below w.heap.size w (w2.alloc (.cells #[.int .i64 (parOp s.data.toList), .slice A2 (parArgs s.data.toList).length c2] 31))) := (HU1.out.trans (hb2.mono HU1.out.size)).trans ((one_al _ _).mono (Nat.le_trans HU1.out.size hb2.size))
  have HRA : Hid (ReadsI (w2.alloc (.cells #[.int .i64 (parOp s.data.toList), .slice A2 (parArgs s.data.toList).length c2] 31)) A (parArgs s.data.toList)) := (HR1.out.below hb2).below (one_al _ _)
  have HRB : Hid (ReadsI (w2.alloc (.cells #[.int .i64 (parOp s.data.toList), .slice A2 (parArgs s.data.toList).length c2] 31)) A2 (parArgs s.data.toList)) := hr2.below (one_al _ _)
  have hsz : w1.heap.size < w2.heap.size := Nat.lt_of_lt_of_le (by simp) hb2.size
  clear hr2 ho2 hb2 HP2 HBX1 HU1 HR1
  generalize hop : parOp s.data.toList = op at *
  generalize hL : parArgs s.data.toList = L at *
  generalize her : parE s.data.toList = er at *
  clear hop hL her
  have hcall := refSame_any (w2.alloc (.cells #[.int .i64 op, .slice A2 L.length c2] 31)) op op A A2 c c2 L L HRA.out HRB.out L.length L.length rfl rfl HFEW.out HFEW.out
  have hsm : sameP op L op L = true := by simp [sameP]
  rw [hsm] at hcall
  obtain ⟨d0, d1, d2, d3, dl⟩ := box_any hbx
  have q1 : (er == er) = true := by simp
  go_wp2_with fail
  refine hcall.mono ?_
  rintro e w3 ⟨rfl, hb3⟩
  have HU3 : Hid (Below w.heap.size w w3) := HU2.out.trans (hb3.mono HU2.out.size)
  clear hb3 hcall d0 d1 d2 d3 dl hbx
  go_wp2_with fail
  refine (alive_any w3 (HT.out.below HU3.out)).mono ?_
  rintro e w4 ⟨rfl, hb4⟩
  have HU4 : Hid (Below w.heap.size w w4) := HU3.out.trans (hb4.mono HU3.out.size)
  clear hb4
  go_wp2
  go_ret
  exact ⟨rfl, HU4.out⟩
end Go.Proofs.YtconmkhoiomeiaaDoor
