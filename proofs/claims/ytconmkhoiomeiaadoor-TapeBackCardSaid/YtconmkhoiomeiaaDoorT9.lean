/- TapePrints and TapeParses: the laws' walks. -/
import Derived.Test.YtconmkhoiomeiaaDoorT8
namespace Go.Proofs.YtconmkhoiomeiaaDoor
open Go.RowKit Go.Sort

theorem name_b (w : World) (op : Int) (ht : Ties w) : Calls Tryd.prog 9 #[.int .i64 op] w fun e w' => e = .returned (.string (B (nam op))) ∧ Below w.heap.size w w' := by
  refine (name_any w op ht).mono ?_
  rintro e w' ⟨rfl, rfl⟩
  exact ⟨rfl, Below.refl _ _⟩

set_option maxRecDepth 100000 in
set_option maxHeartbeats 6400000 in
theorem prints_any (w : World) (o1 o2 k : Int) (A1 A2 : Option Addr) (c1 c2 : Nat) (l1 l2 : List Int) (h1 : ReadsI w A1 l1) (h2 : ReadsI w A2 l2) (n1 n2 : Nat) (hn1 : l1.length = n1) (hn2 : l2.length = n2) (b1 : n1 ≤ 9223372036854775807) (b2 : n2 ≤ 9223372036854775807) (ht : Ties w) :
    Calls Tryd.prog 3 #[.agg #[.int .i64 o1, .slice A1 n1 c1], .agg #[.int .i64 o2, .slice A2 n2 c2], .int .i64 k] w fun e w' => e = .returned (.bool true) ∧ Below w.heap.size w w' := by
  have H1 := Lib.hid h1
  have H2 := Lib.hid h2
  have N1 := Lib.hid hn1
  have N2 := Lib.hid hn2
  have HT := Lib.hid ht
  clear h1 h2 hn1 hn2 ht
  have HTW := Lib.hid (twoL_below w o1 A1 n1 c1 o2 A2 n2 c2 24)
  have hal := alive_any (twoL w o1 A1 n1 c1 o2 A2 n2 c2 24) (HT.out.below HTW.out)
  have HS := Lib.hid (twoL_size w o1 A1 n1 c1 o2 A2 n2 c2 24)
  by_cases q1 : 100 < n1
  · unfold twoL at hal
    go_enter Tryd.func3, Tryd.ntmps3
    go_wp2_with fail
    refine hal.mono ?_
    rintro e w1 ⟨rfl, hb⟩
    have HB : Hid (Below w.heap.size w w1) := HTW.out.trans (RowKit.Below.mono hb (by simp; omega))
    clear hal hb
    go_wp2
    go_ret
    exact ⟨rfl, HB.out⟩
  by_cases q2 : 100 < n2
  · unfold twoL at hal
    go_enter Tryd.func3, Tryd.ntmps3
    go_wp2_with fail
    refine hal.mono ?_
    rintro e w1 ⟨rfl, hb⟩
    have HB : Hid (Below w.heap.size w w1) := HTW.out.trans (RowKit.Below.mono hb (by simp; omega))
    clear hal hb
    go_wp2
    go_ret
    exact ⟨rfl, HB.out⟩
  have m1 : n1 ≤ 1000 := by omega
  have m2 : n2 ≤ 1000 := by omega
  clear hal
  have hW : Hid (((w.alloc (.cells #[.int .i64 o1, .slice A1 n1 c1] 24)).alloc (.cells #[.int .i64 o2, .slice A2 n2 c2] 24)) = twoL w o1 A1 n1 c1 o2 A2 n2 c2 24) := rfl
  have hp1 := print_any (twoL w o1 A1 n1 c1 o2 A2 n2 c2 24) o1 A1 c1 l1 (H1.out.below HTW.out) n1 N1.out m1 (HT.out.below HTW.out)
  unfold twoL at hp1
  go_enter Tryd.func3, Tryd.ntmps3
  go_wp2_with fail
  refine hp1.mono ?_
  rintro e w1 ⟨rfl, hb⟩
  have hb0 : Below (w.heap.size + 2) (twoL w o1 A1 n1 c1 o2 A2 n2 c2 24) w1 := by rw [← HS.out]; exact hb
  have HX1 : Hid (w1.heap[w.heap.size]? = some (.cells #[.int .i64 o1, .slice A1 n1 c1] 24 (0, 0))) := (hb0.block w.heap.size (by omega)).trans (twoL_one w o1 A1 n1 c1 o2 A2 n2 c2 24)
  have HX2 : Hid (w1.heap[w.heap.size + 1]? = some (.cells #[.int .i64 o2, .slice A2 n2 c2] 24 (0, 0))) := (hb0.block (w.heap.size + 1) (by omega)).trans (twoL_two w o1 A1 n1 c1 o2 A2 n2 c2 24)
  have HB1 : Hid (Below w.heap.size w w1) := HTW.out.trans (hb0.mono (by omega))
  clear hp1 hb hb0 hW
  obtain ⟨x0, x1⟩ := line_cells HX1.out
  have hx1 := HX1.out
  go_wp2_with fail
  refine (refPrint_any w1 o1 A1 c1 l1 (H1.out.below HB1.out) n1 N1.out m1).mono ?_
  rintro e W0 ⟨rfl, hb⟩
  have HY1 : Hid (W0.heap[w.heap.size]? = some (.cells #[.int .i64 o1, .slice A1 n1 c1] 24 (0, 0))) := (hb.block _ (lt_of_block HX1.out)).trans HX1.out
  have HY2 : Hid (W0.heap[w.heap.size + 1]? = some (.cells #[.int .i64 o2, .slice A2 n2 c2] 24 (0, 0))) := (hb.block _ (lt_of_block HX2.out)).trans HX2.out
  have HB2 : Hid (Below w.heap.size w W0) := HB1.out.trans (hb.mono HB1.out.size)
  clear hb x0 x1 hx1
  have hrg : ∀ d os, Below w.heap.size w (grow (redrawn W0 d) os) := fun d os => HB2.out.trans ((below_regrown W0 d os).mono HB2.out.size)
  have c9 : ∀ d os, Calls Tryd.prog 9 #[.int .i64 k] (grow (redrawn W0 d) os) fun e w'' => e = .returned (.string (B (nam k))) ∧ ∃ p : Regrown, w'' = grow (redrawn W0 p.d) p.os := fun d os => Calls.regrown_of (name_b _ k (HT.out.below (hrg d os)))
  have c10 : ∀ d os, Calls Tryd.prog 10 #[.int .i64 k] (grow (redrawn W0 d) os) fun e w'' => e = .returned (.string (B (nam k))) ∧ ∃ p : Regrown, w'' = grow (redrawn W0 p.d) p.os := fun d os => Calls.regrown_of (refName_any _ k)
  have c11 : ∀ d os, Calls Tryd.prog 11 #[.agg #[.int .i64 o1, .slice A1 n1 c1]] (grow (redrawn W0 d) os) fun e w'' => e = .returned (.bool (rightP o1 l1)) ∧ ∃ p : Regrown, w'' = grow (redrawn W0 p.d) p.os := fun d os => Calls.regrown_of (right_any _ o1 A1 c1 l1 (H1.out.below (hrg d os)) n1 N1.out m1)
  have c12 : ∀ d os, Calls Tryd.prog 12 #[.agg #[.int .i64 o1, .slice A1 n1 c1]] (grow (redrawn W0 d) os) fun e w'' => e = .returned (.bool (rightP o1 l1)) ∧ ∃ p : Regrown, w'' = grow (redrawn W0 p.d) p.os := fun d os => Calls.regrown_of (refRight_any _ o1 A1 c1 l1 (H1.out.below (hrg d os)) n1 N1.out m1)
  have c13 : ∀ d os, Calls Tryd.prog 13 #[.agg #[.int .i64 o1, .slice A1 n1 c1], .agg #[.int .i64 o2, .slice A2 n2 c2]] (grow (redrawn W0 d) os) fun e w'' => e = .returned (.bool (sameP o1 l1 o2 l2)) ∧ ∃ p : Regrown, w'' = grow (redrawn W0 p.d) p.os := fun d os => Calls.regrown_of (same_any _ o1 o2 A1 A2 c1 c2 l1 l2 (H1.out.below (hrg d os)) (H2.out.below (hrg d os)) n1 n2 N1.out N2.out m1 m2)
  have c14 : ∀ d os, Calls Tryd.prog 14 #[.agg #[.int .i64 o1, .slice A1 n1 c1], .agg #[.int .i64 o2, .slice A2 n2 c2]] (grow (redrawn W0 d) os) fun e w'' => e = .returned (.bool (sameP o1 l1 o2 l2)) ∧ ∃ p : Regrown, w'' = grow (redrawn W0 p.d) p.os := fun d os => Calls.regrown_of (refSame_any _ o1 o2 A1 A2 c1 c2 l1 l2 (H1.out.below (hrg d os)) (H2.out.below (hrg d os)) n1 n2 N1.out N2.out m1 m2)
  have hsm : sameP o1 l1 o1 l1 = true := by simp [sameP]
  have c13b : ∀ d os, Calls Tryd.prog 13 #[.agg #[.int .i64 o1, .slice A1 n1 c1], .agg #[.int .i64 o1, .slice A1 n1 c1]] (grow (redrawn W0 d) os) fun e w'' => e = .returned (.bool (sameP o1 l1 o1 l1)) ∧ ∃ p : Regrown, w'' = grow (redrawn W0 p.d) p.os := fun d os => Calls.regrown_of (same_any _ o1 o1 A1 A1 c1 c1 l1 l1 (H1.out.below (hrg d os)) (H1.out.below (hrg d os)) n1 n1 N1.out N1.out m1 m1)
  rw [hsm] at c13b
  have c6 : ∀ d os, Calls Tryd.prog 6 #[] (grow (redrawn W0 d) os) fun e w'' => e = .returned (.bool true) ∧ ∃ p : Regrown, w'' = grow (redrawn W0 p.d) p.os := fun d os => Calls.regrown_of (alive_any _ (HT.out.below (hrg d os)))
  obtain ⟨e0, e1⟩ := line_cells HY1.out
  obtain ⟨e2, e3⟩ := line_cells HY2.out
  have f0 := cell_regrown e0
  have f1 := cell_regrown e1
  have f2 := cell_regrown e2
  have f3 := cell_regrown e3
  clear e0 e1 e2 e3 hsm hrg
  generalize nam k = nk at *
  generalize hsv : sameP o1 l1 o2 l2 = sv at *
  generalize hrv : rightP o1 l1 = rv at *
  generalize hpt : prT o1 l1 = pt at *
  generalize hpe : prE o1 l1 = pe at *
  clear hsv hrv hpt hpe
  generalize B pt = bt at *
  generalize B nk = bk at *
  have g1 : (bk.toList == bk.toList) = true := by simp
  have g2 : (bt.toList == bt.toList) = true := by simp
  have g3 : (pe == pe) = true := by simp
  have g4 : (sv == sv) = true := by simp
  have g5 : (rv == rv) = true := by simp
  clear q1 q2 b1 b2
  go_wp2_with fail
  refine wp_region_quiet_below (by kernel_rfl) (by kernel_rfl) ?_
  repeat (go_big_quiet_step (first | (go_at_call 9; with_reducible exact c9 _ _) | (go_at_call 10; with_reducible exact c10 _ _) | (go_at_call 11; with_reducible exact c11 _ _) | (go_at_call 12; with_reducible exact c12 _ _) | (go_at_call 13; first | with_reducible exact c13 _ _ | with_reducible exact c13b _ _) | (go_at_call 14; with_reducible exact c14 _ _) | (go_at_call 6; with_reducible exact c6 _ _)))
  refine wpQuiet_nil ?_
  intro _ hw'
  obtain ⟨⟨dq, osq⟩, hw''⟩ := hw'
  subst hw''
  have HRG := Lib.hid (HB2.out.trans ((below_regrown W0 dq osq).mono HB2.out.size))
  clear c9 c10 c11 c12 c13 c13b c14 c6 f0 f1 f2 f3
  go_wp2
  go_ret
  exact ⟨by first | rfl | simp, HRG.out⟩
end Go.Proofs.YtconmkhoiomeiaaDoor
