/- The statements DiaryRight and DiaryParts, walked. -/
import Derived.Test.YtbfpaemaiaeljaaDoorD13
import Derived.Test.YtbfpaemaiaeljaaDoorD8
namespace Go.Proofs.YtbfpaemaiaeljaaDoor
open Go.RowKit

theorem refRight_own (w : World) (v : Value) (base : Nat) (l : List En) (h : OwnE 39 w base v l) (ho : LoadsOk w l) (hl : l.length ≤ 1000) :
    Calls Tryd.prog 19 #[v] w fun e w' => e = .returned (.bool (rightB l)) ∧ Below w.heap.size w w' := by
  obtain ⟨A, c, rfl, hr, _, _⟩ := own_readsE h
  exact refRight_any w A c l hr ho _ rfl hl
theorem right18_own (w : World) (v : Value) (base : Nat) (l : List En) (h : OwnE 28 w base v l) (ho : LoadsOk w l) (hl : l.length ≤ 1000) :
    Calls Tryd.prog 18 #[v] w fun e w' => e = .returned (.bool (rightB l)) ∧ Below w.heap.size w w' := by
  obtain ⟨A, c, rfl, hr, _, _⟩ := own_readsE h
  exact right18_any w A c l hr ho _ rfl hl

set_option maxHeartbeats 3200000 in
theorem dr_any (w : World) (A : Option Addr) (c : Nat) (l : List En) (f t : Int) (hr : ReadsE w A l) (ol : fewP l 100 = true → LoadsOk w l) (n : Nat) (hn : l.length = n) (hl : n ≤ 9223372036854775807) (hml : ∀ x ∈ l, x.len ≤ 9223372036854775807) :
    Calls Tryd.prog 5 #[.slice A n c, .int .i64 f, .int .i64 t] w fun e w' => e = .returned (.bool true) ∧ Below w.heap.size w w' := by
  subst hn
  have HR := Lib.hid hr
  have HOL := Lib.hid ol
  have HML := Lib.hid hml
  clear hr ol hml
  have hfS := few_any w A c l 100 HR.out l.length rfl hl (by omega) (by omega) HML.out
  cases fS : fewP l 100
  · rw [fS] at hfS
    clear fS
    go_enter Tryd.func5, Tryd.ntmps5
    go_wp2_with fail
    refine hfS.mono ?_
    rintro e w1 ⟨rfl, hb⟩
    have HB := Lib.hid hb
    clear hb hfS
    go_wp2_with fail
    refine (alive_any w1).mono ?_
    rintro e w2 ⟨rfl, hb⟩
    have HB2 := Lib.hid hb
    clear hb
    go_wp2
    go_ret
    exact ⟨rfl, HB.out.trans (HB2.out.mono HB.out.size)⟩
  rw [fS] at hfS
  have oS := Lib.hid (HOL.out fS)
  have lS : l.length ≤ 100 := by have := fS; simp [fewP] at this; omega
  clear HOL fS HML
  go_enter Tryd.func5, Tryd.ntmps5
  go_wp2_with fail
  refine hfS.mono ?_
  rintro e wo ⟨rfl, hb⟩
  have HB5 := Lib.hid hb
  clear hb hfS
  go_wp2_with fail
  refine (of_any wo A c l f t (HR.out.below HB5.out) (oS.out.below HB5.out) l.length rfl (by omega)).mono ?_
  rintro e w6 ⟨v1, v2, N1, N2, rfl, ho1, ho2, hc1, hc2, hb6⟩
  have HP1 := Lib.hid ho1
  have HP2 := Lib.hid ho2
  have HD1 := Lib.hid hc1
  have HD2 := Lib.hid hc2
  have HB6 := Lib.hid (HB5.out.trans (hb6.mono HB5.out.size))
  have hn1 : N1.length ≤ 100 := by rw [hc1.1]; exact Nat.le_trans (List.length_filter_le _ _) lS
  have hn2 : N2.length ≤ 100 := by rw [hc2.1]; exact Nat.le_trans (List.length_filter_le _ _) lS
  clear ho1 ho2 hc1 hc2 hb6
  go_wp2_with fail
  refine (plain_any w6 A c l (HR.out.below HB6.out) _ rfl (by omega)).mono ?_
  rintro e w7 ⟨v7, rfl, ho7, hb7⟩
  have HO7 := Lib.hid ho7
  have HB7 := Lib.hid hb7
  clear ho7 hb7
  go_wp2_with fail
  refine (refOf_own w7 v7 _ l f t HO7.out (by omega)).mono ?_
  rintro e w8 ⟨v17, v18, rfl, htwo⟩
  have HT8 := Lib.hid htwo
  clear htwo
  have hb68 : Below w6.heap.size w6 w8 := HB7.out.trans (HT8.out.bel.mono HB7.out.size)
  have HR8 := Lib.hid (HR.out.below (HB6.out.trans (hb68.mono HB6.out.size)))
  have HL8 := Lib.hid (oS.out.below (HB6.out.trans (hb68.mono HB6.out.size)))
  have HBW8 := Lib.hid (HB6.out.trans (hb68.mono HB6.out.size))
  have HP18 := Lib.hid (own_below HP1.out hb68)
  have HP28 := Lib.hid (own_below HP2.out hb68)
  have HD18 := Lib.hid (HD1.out.below hb68)
  have HD28 := Lib.hid (HD2.out.below hb68)
  have HLN1 := Lib.hid (HD18.out.loads fun y hy => oS.out.len y (List.mem_filter.1 hy).1)
  have HLN2 := Lib.hid (HD28.out.loads fun y hy => oS.out.len y (List.mem_filter.1 hy).1)
  have n1 : Hid (N1.map En.nf = (l.filter (sentP f t)).map En.nf) := HD18.out.nf
  have n2 : Hid (N2.map En.nf = (l.filter (takenP f t)).map En.nf) := HD28.out.nf
  clear hb68 HB7 HP1 HP2 HD1 HD2 HB6 HO7
  have hf1 : (l.filter (sentP f t)).length ≤ 100 := Nat.le_trans (List.length_filter_le _ _) lS
  have hf2 : (l.filter (takenP f t)).length ≤ 100 := Nat.le_trans (List.length_filter_le _ _) lS
  have hrb := right18_any w8 A c l HR8.out HL8.out _ rfl (by omega)
  go_wp2_with fail
  refine hrb.mono ?_
  rintro e w9 ⟨rfl, hb9⟩
  have HB9 := Lib.hid hb9
  clear hb9 hrb
  go_wp2_with fail
  refine (plain_any w9 A c l (HR8.out.below HB9.out) _ rfl (by omega)).mono ?_
  rintro e w10 ⟨vb, rfl, hvb, hb10⟩
  have HVB := Lib.hid hvb
  have HB10 := Lib.hid (HB9.out.trans (hb10.mono HB9.out.size))
  clear hvb hb10 HB9
  go_wp2_with fail
  refine (refRight_own w10 vb _ l HVB.out (HL8.out.below HB10.out) (by omega)).mono ?_
  rintro e w11 ⟨rfl, hb11⟩
  have HB11 := Lib.hid (HB10.out.trans (hb11.mono HB10.out.size))
  clear hb11 HVB HB10
  generalize rightB l = rb at *
  have hbb : (rb == rb) = true := by simp
  go_wp2_with fail
  refine (plain_own w11 v1 _ N1 (own_below HP18.out HB11.out) (by omega)).mono ?_
  rintro e w12 ⟨vc, rfl, hvc, hb12⟩
  have HVC := Lib.hid hvc
  have HB12 := Lib.hid (HB11.out.trans (hb12.mono HB11.out.size))
  clear hvc hb12 HB11
  go_wp2_with fail
  refine (same_own w12 vc v17 _ _ N1 (l.filter (sentP f t)) HVC.out (own_below HT8.out.os HB12.out) (HLN1.out.below HB12.out) ((HL8.out.below HB12.out).sub fun _ h => (List.mem_filter.1 h).1) (by omega) (by omega) n1.out).mono ?_
  rintro e w13 ⟨rfl, hb13⟩
  have HB13 := Lib.hid (HB12.out.trans (hb13.mono HB12.out.size))
  clear hb13 HVC HB12
  go_wp2_with fail
  refine (plain_own w13 v2 _ N2 (own_below HP28.out HB13.out) (by omega)).mono ?_
  rintro e w14 ⟨vd, rfl, hvd, hb14⟩
  have HVD := Lib.hid hvd
  have HB14 := Lib.hid (HB13.out.trans (hb14.mono HB13.out.size))
  clear hvd hb14 HB13
  go_wp2_with fail
  refine (same_own w14 vd v18 _ _ N2 (l.filter (takenP f t)) HVD.out (own_below HT8.out.ot HB14.out) (HLN2.out.below HB14.out) ((HL8.out.below HB14.out).sub fun _ h => (List.mem_filter.1 h).1) (by omega) (by omega) n2.out).mono ?_
  rintro e w15 ⟨rfl, hb15⟩
  have HB15 := Lib.hid (HB14.out.trans (hb15.mono HB14.out.size))
  clear hb15 HVD HB14
  go_wp2_with fail
  refine (alive_any w15).mono ?_
  rintro e w16 ⟨rfl, hb16⟩
  have HB16 := Lib.hid (HB15.out.trans (hb16.mono HB15.out.size))
  clear hb16
  go_wp2
  go_ret
  exact ⟨rfl, HBW8.out.trans (HB16.out.mono HBW8.out.size)⟩

theorem rightB_filter {l : List En} (h : rightB l = true) (p : En → Bool) : rightB (l.filter p) = true := by
  unfold rightB at *
  rw [rightR_zero] at *
  exact h.filter p
theorem headOk_nf (x : En) : headOk x.nf ↔ headOk x := Iff.rfl
theorem oneP_nf (x : En) : oneP x.nf = oneP x := rfl
theorem rightR_nf : ∀ (l : List En) (last : List Int), rightR last (l.map En.nf) = rightR last l
  | [], _ => rfl
  | x :: l, last => by
    simp only [List.map_cons, rightR, oneP_nf]
    rw [rightR_nf l]
    rfl
theorem rightB_nf {a b : List En} (h : a.map En.nf = b.map En.nf) : rightB a = rightB b := by
  unfold rightB
  rw [← rightR_nf a, ← rightR_nf b, h]
theorem rightB_ones {l : List En} (h : rightB l = true) : ∀ x ∈ l, oneP x = true := by
  unfold rightB at h
  rw [rightR_zero] at h
  exact h.1

end Go.Proofs.YtbfpaemaiaeljaaDoor
