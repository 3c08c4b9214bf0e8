/- The statement DiaryTells, walked. -/
import Derived.Test.YtbfpaemaiaeljaaDoorD20
namespace Go.Proofs.YtbfpaemaiaeljaaDoor
open Go.RowKit Go.Sort

theorem refSame_own (w : World) (v1 v2 : Value) (b1 b2 : Nat) (a b : List En) (h1 : OwnE 39 w b1 v1 a) (h2 : OwnE 39 w b2 v2 b) (o1 : LoadsOk w a) (o2 : LoadsOk w b) (l1 : a.length ≤ 1000) (l2 : b.length ≤ 1000) :
    Calls Tryd.prog 12 #[v1, v2] w fun e w' => e = .returned (.bool (sameP a b)) ∧ Below w.heap.size w w' := by
  obtain ⟨A, c, rfl, hr, _, _⟩ := own_readsE h1
  obtain ⟨B, d, rfl, hq, _, _⟩ := own_readsE h2
  exact refSame_any w A B c d a b hr hq o1 o2 _ _ rfl rfl l1 l2
theorem refCount_own (w : World) (v : Value) (base : Nat) (l : List En) (k er : Int) (h : OwnE 39 w base v l) (hl : l.length ≤ 1000) :
    Calls Tryd.prog 17 #[v, .int .i64 k, .int .i64 er] w fun e w' => e = .returned (.int .i64 ((l.filter (cntP k er)).length : Nat)) ∧ w = w' := by
  obtain ⟨A, c, rfl, hr, _, _⟩ := own_readsE h
  exact refCount_any w A c l k er hr _ rfl hl

set_option maxHeartbeats 6400000 in
theorem dt_any (w : World) (A B : Option Addr) (c d : Nat) (a b : List En) (k er : Int) (hA : ReadsE w A a) (hB : ReadsE w B b) (oA : fewP a 100 = true → LoadsOk w a) (oB : fewP b 100 = true → LoadsOk w b) (n m : Nat) (hn : a.length = n) (hm : b.length = m)
    (bn : n ≤ 9223372036854775807) (bm : m ≤ 9223372036854775807) (ma : ∀ x ∈ a, x.len ≤ 9223372036854775807) (mb : ∀ x ∈ b, x.len ≤ 9223372036854775807) (hw : ∀ x ∈ a, Wide x) (ht : Tab w) :
    Calls Tryd.prog 4 #[.slice A n c, .slice B m d, .int .i64 k, .int .i64 er] w fun e w' => e = .returned (.bool true) ∧ RowKit.Below w.heap.size w w' := by
  subst hn
  subst hm
  have HA := Lib.hid hA
  have HB := Lib.hid hB
  have OA := Lib.hid oA
  have OB := Lib.hid oB
  have MA := Lib.hid ma
  have MB := Lib.hid mb
  have HW := Lib.hid hw
  have HT := Lib.hid ht
  clear hA hB oA oB ma mb hw ht
  have hfA := few_any w A c a 100 HA.out a.length rfl bn (by omega) (by omega) MA.out
  cases fA : fewP a 100
  · rw [fA] at hfA
    clear fA
    go_enter Tryd.func4, Tryd.ntmps4
    go_wp2_with fail
    refine hfA.mono ?_
    rintro e w1 ⟨rfl, hb⟩
    have HB1 := Lib.hid hb
    clear hb hfA
    go_wp2_with fail
    refine (alive_any w1).mono ?_
    rintro e w2 ⟨rfl, hb⟩
    have HB2 := Lib.hid hb
    clear hb
    go_wp2
    go_ret
    exact ⟨rfl, HB1.out.trans (HB2.out.mono HB1.out.size)⟩
  rw [fA] at hfA
  have oS := Lib.hid (OA.out fA)
  have lA : a.length ≤ 100 := by have := fA; simp [fewP] at this; omega
  clear OA fA MA
  cases fB : fewP b 100
  · have FB := Lib.hid fB
    clear fB
    go_enter Tryd.func4, Tryd.ntmps4
    go_wp2_with fail
    refine hfA.mono ?_
    rintro e w1 ⟨rfl, hb⟩
    have HB1 := Lib.hid hb
    clear hb hfA
    go_wp2_with fail
    refine (few_any w1 B d b 100 (HB.out.below HB1.out) b.length rfl bm (by omega) (by omega) MB.out).mono ?_
    rw [FB.out]
    rintro e w3 ⟨rfl, hb⟩
    have HB3 := Lib.hid (HB1.out.trans (hb.mono HB1.out.size))
    clear hb
    go_wp2_with fail
    refine (alive_any w3).mono ?_
    rintro e w2 ⟨rfl, hb⟩
    have HB2 := Lib.hid hb
    clear hb
    go_wp2
    go_ret
    exact ⟨rfl, HB3.out.trans (HB2.out.mono HB3.out.size)⟩
  have oT := Lib.hid (OB.out fB)
  have lB : b.length ≤ 100 := by have := fB; simp [fewP] at this; omega
  have FB := Lib.hid fB
  clear OB fB
  go_enter Tryd.func4, Tryd.ntmps4
  go_wp2_with fail
  refine hfA.mono ?_
  rintro e w1 ⟨rfl, hb⟩
  have HB1 := Lib.hid hb
  clear hb hfA
  go_wp2_with fail
  refine (few_any w1 B d b 100 (HB.out.below HB1.out) b.length rfl bm (by omega) (by omega) MB.out).mono ?_
  rw [FB.out]
  rintro e w3 ⟨rfl, hb⟩
  have HB3 := Lib.hid (HB1.out.trans (hb.mono HB1.out.size))
  clear hb HB1 FB MB
  go_wp2
  go_loopg [22] a.length (fun q s22 wr => ∃ j : Nat, s22 = .int .i64 j ∧ j + q = a.length ∧ RowKit.Below w.heap.size w wr)
  case atStart => exact ⟨0, rfl, by omega, HB3.out⟩
  case round =>
    obtain ⟨j, rfl, hj, hb⟩ := hrel
    have HJ := Lib.hid hj
    have HR := Lib.hid hb
    clear hj hb
    by_cases hjt : j < a.length
    · rcases HA.out with h0 | ⟨b2, o2, rfl, hr⟩
      · rw [h0] at hjt; exact absurd hjt (by simp)
      obtain ⟨d0, d1, d2, d3, d4, d5, d6, d7⟩ := (hr.below HR.out).at j hjt _ rfl
      have hbb2 := World.block_lt_of_cell? wr _ d0
      simp only at hbb2
      have hym : a.getD j default ∈ a := by
        rw [List.getD_eq_getElem?_getD, List.getElem?_eq_getElem hjt]
        exact List.getElem_mem hjt
      have hwy := HW.out _ hym
      generalize hy : a.getD j default = y at *
      clear hy hr hym
      have q1 : IntKind.i64.wrap ((j : Int) + 1) = (j : Int) + 1 := IntWalk.i64_in _ (by omega)
      obtain ⟨W0, hW0⟩ : ∃ W0 : World, W0 = wr.alloc (.cells y.cells 28) := ⟨_, rfl⟩
      have hal : RowKit.Below wr.heap.size wr W0 := by rw [hW0]; exact one_al _ _
      have hbx : W0.heap[wr.heap.size]? = some (.cells y.cells 28 (0, 0)) := by rw [hW0]; exact new_block _ _
      have hal2 : RowKit.Below w.heap.size w W0 := HR.out.trans (hal.mono HR.out.size)
      have c13 : ∀ d os, Calls Tryd.prog 13 #[.agg y.cells] (grow (redrawn W0 d) os) fun e w'' => e = .returned (.string (textB y)) ∧ ∃ p : Regrown, w'' = grow (redrawn W0 p.d) p.os := fun d os =>
        Calls.regrown_of (text_any _ y hwy (HT.out.below (hal2.trans ((below_regrown W0 d os).mono hal2.size))))
      have c14 : ∀ d os, Calls Tryd.prog 14 #[.agg y.cells] (grow (redrawn W0 d) os) fun e w'' => e = .returned (.string (textB y)) ∧ ∃ p : Regrown, w'' = grow (redrawn W0 p.d) p.os := fun d os =>
        Calls.regrown_of (refText_any _ y hwy)
      obtain ⟨e0, e1, e2, e3, e4, e5, e6, e7⟩ := entry_cells hbx
      have f0 := cell_regrown e0
      have f1 := cell_regrown e1
      have f2 := cell_regrown e2
      have f3 := cell_regrown e3
      have f4 := cell_regrown e4
      have f5 := cell_regrown e5
      have f6 := cell_regrown e6
      have f7 := cell_regrown e7
      have HAL := Lib.hid hal2
      unfold En.cells at hW0 c13 c14
      have HW0 := Lib.hid hW0
      generalize textB y = S at *
      clear hbx hal hal2 hW0 e0 e1 e2 e3 e4 e5 e6 e7 hwy
      go_wp2_with fail
      rw [← HW0.out]
      refine wp_region_quiet_below (by kernel_rfl) (by kernel_rfl) ?_
      repeat (go_big_quiet_step (first | (go_at_call 13; exact c13 _ _) | (go_at_call 14; exact c14 _ _)))
      refine wpQuiet_nil ?_
      intro _ hw'
      obtain ⟨⟨dq, osq⟩, hw''⟩ := hw'
      subst hw''
      have HRG := Lib.hid (HAL.out.trans ((below_regrown W0 dq osq).mono HAL.out.size))
      clear c13 c14 f0 f1 f2 f3 f4 f5 f6 f7 d0 d1 d2 d3 d4 d5 d6 d7
      have hss : (!S.toList == S.toList) = false := by simp
      go_wp2
      go_roundg (gk - 1)
      case measure => have := HJ.out; omega
      case rel => exact ⟨j + 1, by simp, by have := HJ.out; omega, HRG.out⟩
    · clear HJ
      go_wp2_with fail
      refine (same_any wr A B c d a b (HA.out.below HR.out) (HB.out.below HR.out) (oS.out.below HR.out) (oT.out.below HR.out) _ _ rfl rfl (by omega) (by omega)).mono ?_
      rintro e w4 ⟨rfl, hb⟩
      have HB4 := Lib.hid (HR.out.trans (hb.mono HR.out.size))
      clear hb
      go_wp2_with fail
      refine (plain_any w4 A c a (HA.out.below HB4.out) _ rfl (by omega)).mono ?_
      rintro e w5 ⟨va, rfl, hva, hb⟩
      have HVA := Lib.hid hva
      have HB5 := Lib.hid (HB4.out.trans (hb.mono HB4.out.size))
      clear hb hva
      go_wp2_with fail
      refine (plain_any w5 B d b (HB.out.below HB5.out) _ rfl (by omega)).mono ?_
      rintro e w6 ⟨vb, rfl, hvb, hb⟩
      have HVB := Lib.hid hvb
      have HVA2 := Lib.hid (own_below HVA.out hb)
      have HB6 := Lib.hid (HB5.out.trans (hb.mono HB5.out.size))
      clear hb hvb HVA
      go_wp2_with fail
      refine (refSame_own w6 va vb _ _ a b HVA2.out HVB.out (oS.out.below HB6.out) (oT.out.below HB6.out) (by omega) (by omega)).mono ?_
      rintro e w7 ⟨rfl, hb⟩
      have HB7 := Lib.hid (HB6.out.trans (hb.mono HB6.out.size))
      clear hb HVA2 HVB
      generalize sameP a b = sp at *
      have hsp : (sp == sp) = true := by simp
      have haa : Hid (sameP a a = true) := (sameP_iff a a).2 rfl
      go_wp2_with fail
      refine (same_any w7 A A c c a a (HA.out.below HB7.out) (HA.out.below HB7.out) (oS.out.below HB7.out) (oS.out.below HB7.out) _ _ rfl rfl (by omega) (by omega)).mono ?_
      rw [haa.out]
      rintro e w8 ⟨rfl, hb⟩
      have HB8 := Lib.hid (HB7.out.trans (hb.mono HB7.out.size))
      clear hb
      go_wp2_with fail
      refine (count_any w8 A c a k er (HA.out.below HB8.out) (oS.out.below HB8.out) _ rfl (by omega)).mono ?_
      rintro e w9 ⟨rfl, hb⟩
      have HB9 := Lib.hid (HB8.out.trans (hb.mono HB8.out.size))
      clear hb
      go_wp2_with fail
      refine (plain_any w9 A c a (HA.out.below HB9.out) _ rfl (by omega)).mono ?_
      rintro e w10 ⟨vc, rfl, hvc, hb⟩
      have HVC := Lib.hid hvc
      have HB10 := Lib.hid (HB9.out.trans (hb.mono HB9.out.size))
      clear hb hvc
      go_wp2_with fail
      refine (refCount_own w10 vc _ a k er HVC.out (by omega)).mono ?_
      rintro e w11 ⟨rfl, rfl⟩
      generalize (a.filter (cntP k er)).length = ct at *
      have hct : ((ct : Int) == (ct : Int)) = true := by simp
      go_wp2_with fail
      refine (alive_any w10).mono ?_
      rintro e w12 ⟨rfl, hb⟩
      have HB12 := Lib.hid (HB10.out.trans (hb.mono HB10.out.size))
      clear hb
      go_wp2
      go_ret
      exact ⟨rfl, HB12.out⟩

end Go.Proofs.YtbfpaemaiaeljaaDoor
