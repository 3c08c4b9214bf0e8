/- The statement DiaryParts, walked. -/
import Derived.Test.YtbfpaemaiaeljaaDoorD14
namespace Go.Proofs.YtbfpaemaiaeljaaDoor
open Go.RowKit

/-- how many entries stand in channels ahead of one. -/
def cnt (l : List En) (a b : Nat) : Nat := (l.filter (ahead (a : Int) (b : Int))).length
theorem cnt_step (l : List En) (h : ∀ x ∈ l, oneP x = true) (a b : Nat) : cnt l a (b + 1) = cnt l a b + (l.filter (sentP a b)).length + (l.filter (takenP a b)).length := by
  have := count_step l h a b
  unfold cnt
  rw [← this]
  rfl
theorem cnt_row (l : List En) (h : ∀ x ∈ l, oneP x = true) (a : Nat) : cnt l a 8 = cnt l (a + 1) 0 := by
  unfold cnt
  have := count_row l h a
  rw [show ((8 : Nat) : Int) = 8 from rfl, this]
  rfl
theorem cnt_zero (l : List En) (h : ∀ x ∈ l, oneP x = true) : cnt l 0 0 = 0 := by
  unfold cnt
  have := count_none l h
  rw [show ((0 : Nat) : Int) = 0 from rfl, this]
  rfl
theorem cnt_all (l : List En) (h : ∀ x ∈ l, oneP x = true) : cnt l 8 0 = l.length := by
  unfold cnt
  have := count_all l h
  rw [show ((8 : Nat) : Int) = 8 from rfl, show ((0 : Nat) : Int) = 0 from rfl, this]
theorem cnt_le (l : List En) (a b : Nat) : cnt l a b ≤ l.length := List.length_filter_le _ _

set_option maxHeartbeats 3200000 in
theorem dp_any (w : World) (A : Option Addr) (c : Nat) (l : List En) (hr : ReadsE w A l) (ol : fewP l 60 = true → LoadsOk w l) (n : Nat) (hn : l.length = n) (hl : n ≤ 9223372036854775807) (hml : ∀ x ∈ l, x.len ≤ 9223372036854775807) :
    Calls Tryd.prog 6 #[.slice A n c] w fun e w' => e = .returned (.bool true) ∧ Below w.heap.size w w' := by
  subst hn
  have HR := Lib.hid hr
  have HOL := Lib.hid ol
  have HML := Lib.hid hml
  clear hr ol hml
  have hfS := few_any w A c l 60 HR.out l.length rfl hl (by omega) (by omega) HML.out
  cases fS : fewP l 60
  · rw [fS] at hfS
    clear fS
    go_enter Tryd.func6, Tryd.ntmps6
    go_wp2_with fail
    refine hfS.mono ?_
    rintro e w1 ⟨rfl, hb⟩
    have HB := Lib.hid hb
    clear hb hfS
    go_wp2_with fail
    refine (alive_any w1).mono ?_
    rintro e w2 ⟨rfl, hb⟩
    have HB2 := Lib.hid hb
    clear hb
    go_wp2
    go_ret
    exact ⟨rfl, HB.out.trans (HB2.out.mono HB.out.size)⟩
  rw [fS] at hfS
  have oS := Lib.hid (HOL.out fS)
  have lS : l.length ≤ 60 := by have := fS; simp [fewP] at this; omega
  clear HOL fS HML
  cases hrb : rightB l
  · have HRB := Lib.hid hrb
    clear hrb
    go_enter Tryd.func6, Tryd.ntmps6
    go_wp2_with fail
    refine hfS.mono ?_
    rintro e w1 ⟨rfl, hb⟩
    have HB := Lib.hid hb
    clear hb hfS
    go_wp2_with fail
    refine (right18_any w1 A c l (HR.out.below HB.out) (oS.out.below HB.out) _ rfl (by omega)).mono ?_
    rw [HRB.out]
    rintro e w3 ⟨rfl, hb⟩
    have HB3 := Lib.hid (HB.out.trans (hb.mono HB.out.size))
    clear hb
    go_wp2_with fail
    refine (alive_any w3).mono ?_
    rintro e w2 ⟨rfl, hb⟩
    have HB2 := Lib.hid hb
    clear hb
    go_wp2
    go_ret
    exact ⟨rfl, HB3.out.trans (HB2.out.mono HB3.out.size)⟩
  have HRB := Lib.hid hrb
  have H1 := Lib.hid (rightB_ones hrb)
  clear hrb
  have HZ : Hid ((0 : Int) = ((cnt l 0 0 : Nat) : Int)) := by show _ = _; rw [cnt_zero l H1.out]; rfl
  go_enter Tryd.func6, Tryd.ntmps6
  go_wp2_with fail
  refine hfS.mono ?_
  rintro e w1 ⟨rfl, hb⟩
  have HB := Lib.hid hb
  clear hb hfS
  go_wp2_with fail
  refine (right18_any w1 A c l (HR.out.below HB.out) (oS.out.below HB.out) _ rfl (by omega)).mono ?_
  rw [HRB.out]
  rintro e w3 ⟨rfl, hb⟩
  have HB3 := Lib.hid (HB.out.trans (hb.mono HB.out.size))
  clear hb HB
  go_wp2
  go_loopg [3, 4] 8 (fun q s3 s4 wr => ∃ a : Nat, s4 = .int .i64 a ∧ a + q = 8 ∧ s3 = .int .i64 (cnt l a 0 : Nat) ∧ Below w.heap.size w wr)
  case atStart => exact ⟨0, rfl, rfl, by rw [← HZ.out], HB3.out⟩
  case round =>
    obtain ⟨a, rfl, ha, rfl, hb⟩ := hrel
    have HA := Lib.hid ha
    have HB := Lib.hid hb
    clear ha hb
    have ca := cnt_le l a 0
    by_cases hlt : a < 8
    · have ta : decide ((a : Int) < 8) = true := decide_eq_true (by omega)
      go_wp2
      go_loopg [3, 5] 8 (fun q s3 s5 wq => ∃ b : Nat, s5 = .int .i64 b ∧ b + q = 8 ∧ s3 = .int .i64 (cnt l a b : Nat) ∧ Below w.heap.size w wq)
      case atStart => exact ⟨0, rfl, rfl, rfl, HB.out⟩
      case round =>
        obtain ⟨b, rfl, hb', rfl, hb⟩ := hrel
        have HBB := Lib.hid hb'
        have HBW := Lib.hid hb
        clear hb hb'
        have cb := cnt_le l a b
        by_cases hbl : b < 8
        · go_wp2_with fail
          refine (of_any wr A c l a b (HR.out.below HBW.out) (oS.out.below HBW.out) _ rfl (by omega)).mono ?_
          rintro e w6 ⟨v1, v2, N1, N2, rfl, ho1, ho2, hc1, hc2, hb6⟩
          obtain ⟨A1, c1, rfl⟩ := own_slice ho1
          obtain ⟨A2, c2, rfl⟩ := own_slice ho2
          have hn1 : N1.length ≤ 60 := by rw [hc1.1]; exact Nat.le_trans (List.length_filter_le _ _) lS
          have hn2 : N2.length ≤ 60 := by rw [hc2.1]; exact Nat.le_trans (List.length_filter_le _ _) lS
          have hst : cnt l a (b + 1) = cnt l a b + N1.length + N2.length := by rw [hc1.1, hc2.1]; exact cnt_step l H1.out a b
          have r1 : rightB N1 = true := by rw [rightB_nf hc1.nf]; exact rightB_filter HRB.out _
          have r2 : rightB N2 = true := by rw [rightB_nf hc2.nf]; exact rightB_filter HRB.out _
          have hs := self_none l H1.out a
          have hab0 : a = b → N1.length = 0 ∧ N2.length = 0 := by
            rintro rfl
            rw [hc1.1, hc2.1, hs.1, hs.2]
            exact ⟨rfl, rfl⟩
          have HO1 := Lib.hid ho1
          have HO2 := Lib.hid ho2
          have HLN1 := Lib.hid (hc1.loads fun y hy => oS.out.len y (List.mem_filter.1 hy).1)
          have HLN2 := Lib.hid (hc2.loads fun y hy => oS.out.len y (List.mem_filter.1 hy).1)
          have HB6 := Lib.hid (HBW.out.trans (hb6.mono HBW.out.size))
          have HST := Lib.hid hst
          have R1 := Lib.hid r1
          have R2 := Lib.hid r2
          have HAB := Lib.hid hab0
          clear ho1 ho2 hc1 hc2 hb6 hst r1 r2 hs hab0
          generalize hm : cnt l a b = m at *
          have HM := Lib.hid hm
          clear hm
          by_cases hab : a = b
          · have q : ((a : Int) == (b : Int)) = true := by simp [hab]
            have z1 : N1 = [] := List.eq_nil_of_length_eq_zero (HAB.out hab).1
            have z2 : N2 = [] := List.eq_nil_of_length_eq_zero (HAB.out hab).2
            subst z1 z2
            clear hab
            go_wp2_with fail
            refine (right18_own w6 _ _ [] HO1.out HLN1.out (by simp)).mono ?_
            rw [R1.out]
            rintro e w7 ⟨rfl, hb7⟩
            have HB7 := Lib.hid hb7
            clear hb7
            go_wp2_with fail
            refine (right18_own w7 _ _ [] (own_below HO2.out HB7.out) (HLN2.out.below HB7.out) (by simp)).mono ?_
            rw [R2.out]
            rintro e w8 ⟨rfl, hb8⟩
            have HB8 := Lib.hid (HB6.out.trans ((HB7.out.trans (hb8.mono HB7.out.size)).mono HB6.out.size))
            clear hb8
            go_wp2
            go_roundg (8 - b - 1)
            case measure => have := HBB.out; omega
            case rel => exact ⟨b + 1, by simp, by omega, by rw [HST.out]; simp, HB8.out⟩
          · have q : ((a : Int) == (b : Int)) = false := by simp; omega
            go_wp2_with fail
            refine (right18_own w6 _ _ N1 HO1.out HLN1.out (by omega)).mono ?_
            rw [R1.out]
            rintro e w7 ⟨rfl, hb7⟩
            have HB7 := Lib.hid hb7
            clear hb7
            go_wp2_with fail
            refine (right18_own w7 _ _ N2 (own_below HO2.out HB7.out) (HLN2.out.below HB7.out) (by omega)).mono ?_
            rw [R2.out]
            rintro e w8 ⟨rfl, hb8⟩
            have HB8 := Lib.hid (HB6.out.trans ((HB7.out.trans (hb8.mono HB7.out.size)).mono HB6.out.size))
            clear hb8
            go_wp2
            go_roundg (8 - b - 1)
            case measure => have := HBB.out; omega
            case rel => exact ⟨b + 1, by simp, by omega, by rw [HST.out]; simp, HB8.out⟩
        · have hbe : b = 8 := by have := HBB.out; omega
          subst hbe
          have HRW := Lib.hid (cnt_row l H1.out a)
          go_wp2
          go_roundg (8 - a - 1)
          case measure => have := HA.out; omega
          case rel => exact ⟨a + 1, by simp, by omega, by rw [HRW.out], HBW.out⟩
    · have hae : a = 8 := by have := HA.out; omega
      subst hae
      rw [cnt_all l H1.out]
      go_wp2_with fail
      refine (alive_any wr).mono ?_
      rintro e w2 ⟨rfl, hb⟩
      have HB2 := Lib.hid (HB.out.trans (hb.mono HB.out.size))
      clear hb
      go_wp2
      go_ret
      exact ⟨rfl, HB2.out⟩

end Go.Proofs.YtbfpaemaiaeljaaDoor
