/- The statement of Longest, walked. -/
import Derived.Test.YtcljbhiammofjaaB3
namespace Go.Proofs.Ytcljbhiammofjaa
open Go.RowKit

theorem keep_next (a : Int) (T : List En) (j : Nat) (h : j < T.length) : keep a (T.take (j + 1)) = if decide ((T.getD j default).bg ≤ a) then keep a (T.take j) ++ [T.getD j default] else keep a (T.take j) := by
  have : T.getD j default = T[j] := by simp [List.getD_eq_getElem?_getD, h]
  rw [this]
  unfold keep
  rw [List.take_succ_eq_append_getElem h, List.filter_append]
  by_cases hf : T[j].bg ≤ a
  · have : ¬ a < T[j].bg := by omega
    simp [hf, this]
  · have : a < T[j].bg := by omega
    simp [hf, this]

set_option maxHeartbeats 3200000 in
theorem ol_any (w : World) (AS AT : Option Addr) (cS cT : Nat) (S T : List En) (room : Int) (hS : ReadsE w AS S) (hT : ReadsE w AT T) (oS : fewP S 12 = true → LoadsOk w S) (oT : fewP T 12 = true → LoadsOk w T) (nS nT : Nat) (eS : S.length = nS) (eT : T.length = nT)
    (bS : nS ≤ 9223372036854775807) (bT : nT ≤ 9223372036854775807) (mS : ∀ x ∈ S, x.len ≤ 9223372036854775807) (mT : ∀ x ∈ T, x.len ≤ 9223372036854775807) (kS : nS ≤ cS) (kT : nT ≤ cT) (zS : AS = none → cS = 0) (zT : AT = none → cT = 0) :
    Calls Try.prog 4 #[.slice AS nS cS, .slice AT nT cT, .int .i64 room] w fun e w' => e = .returned (.bool true) ∧ Below w.heap.size w w' := by
  subst eS
  subst eT
  have HS := Lib.hid hS
  have HT := Lib.hid hT
  have HoS := Lib.hid oS
  have HoT := Lib.hid oT
  have HmS := Lib.hid mS
  have HmT := Lib.hid mT
  clear hS hT oS oT mS mT
  have hfS := few_any w AS cS S 12 HS.out S.length rfl bS (by omega) (by omega) HmS.out
  cases fS : fewP S 12
  · rw [fS] at hfS
    clear fS
    go_enter Try.func4, Try.ntmps4
    go_wp2_with fail
    refine hfS.mono ?_
    rintro e w1 ⟨rfl, hb⟩
    have HB := Lib.hid hb
    clear hb hfS
    go_wp2_with fail
    refine (alive_any w1).mono ?_
    rintro e w2 ⟨rfl, hb⟩
    have HB2 := Lib.hid hb
    clear hb
    go_wp2
    go_ret
    exact ⟨rfl, HB.out.trans (HB2.out.mono HB.out.size)⟩
  rw [fS] at hfS
  have HfS := Lib.hid fS
  clear fS
  cases fT : fewP T 12
  · have HfT := Lib.hid fT
    clear fT
    go_enter Try.func4, Try.ntmps4
    go_wp2_with fail
    refine hfS.mono ?_
    rintro e w1 ⟨rfl, hb⟩
    have HB := Lib.hid hb
    clear hb hfS
    go_wp2_with fail
    refine (few_any w1 AT cT T 12 (HT.out.below HB.out) T.length rfl bT (by omega) (by omega) HmT.out).mono ?_
    rw [HfT.out]
    rintro e w3 ⟨rfl, hb⟩
    have HB3 := Lib.hid (HB.out.trans (hb.mono HB.out.size))
    clear hb
    go_wp2_with fail
    refine (alive_any w3).mono ?_
    rintro e w2 ⟨rfl, hb⟩
    have HB2 := Lib.hid hb
    clear hb
    go_wp2
    go_ret
    exact ⟨rfl, HB3.out.trans (HB2.out.mono HB3.out.size)⟩
  have HfT := Lib.hid fT
  clear fT
  have oS := Lib.hid (HoS.out HfS.out)
  have oT := Lib.hid (HoT.out HfT.out)
  have lS : S.length ≤ 12 := by have := HfS.out; simp [fewP] at this; omega
  have lT : T.length ≤ 12 := by have := HfT.out; simp [fewP] at this; omega
  clear HoS HoT
  go_enter Try.func4, Try.ntmps4
  go_wp2_with fail
  refine hfS.mono ?_
  rintro e w1 ⟨rfl, hb⟩
  have HB := Lib.hid hb
  clear hb hfS HfS HmS
  go_wp2_with fail
  refine (few_any w1 AT cT T 12 (HT.out.below HB.out) T.length rfl bT (by omega) (by omega) HmT.out).mono ?_
  rw [HfT.out]
  clear HfT HmT
  rintro e w3 ⟨rfl, hb⟩
  have HB3 := Lib.hid (HB.out.trans (hb.mono HB.out.size))
  clear hb HB
  go_wp2
  go_loopg [7, 8] S.length (fun q s7 s8 wr => ∃ k : Nat, s8 = .int .i64 ((k : Int) + 1) ∧ s7 = .int .i64 (bestP S T room k) ∧ k + q = S.length ∧ Below w.heap.size w wr)
  case atStart => exact ⟨0, rfl, rfl, by omega, HB3.out⟩
  case round =>
    obtain ⟨k, rfl, rfl, hq, hb⟩ := hrel
    have HQ := Lib.hid hq
    have HB := Lib.hid hb
    clear hq hb
    by_cases hlt : k < S.length
    · rcases HS.out with h0 | ⟨b, o, rfl, hr⟩
      · rw [h0] at hlt; exact absurd hlt (by simp)
      obtain ⟨c0, c1, c2, c3, c4, c5, c6, c7⟩ := (hr.below HB.out).at k hlt _ rfl
      have hbb := World.block_lt_of_cell? wr _ c0
      simp only at hbb
      generalize hx : S.getD k default = x at *
      have HX := Lib.hid hx
      clear hx hr
      have q1 : IntKind.i64.wrap ((k : Int) + 1) = (k : Int) + 1 := IntWalk.i64_in _ (by omega)
      have q2 : IntKind.i64.wrap ((k : Int) + 1 + 1) = (k : Int) + 1 + 1 := IntWalk.i64_in _ (by omega)
      have q3 : IntKind.i64.wrap ((k : Int) + 1 - 1) = (k : Int) := by rw [IntWalk.i64_in _ (by omega)]; omega
      have hkc : (k : Int) + 1 ≤ (cS : Int) := by omega
      have g0 : decide ((k : Int) + 1 ≤ (S.length : Int)) = true := decide_eq_true (by omega)
      go_upto_if 37 with fail
      go_cut [10] (fun s wx => Below w.heap.size w wx ∧ s = .int .i64 (atP x))
      case first =>
        have hb2 : Below w.heap.size w (wr.alloc (.cells x.cells 32)) := HB.out.trans ((below_al (Below.refl _ _) _).mono HB.out.size)
        have HB2 := Lib.hid hb2
        clear hb2
        by_cases hnd : x.nd = 0
        · have g1 : (x.nd == 0) = true := by simpa using hnd
          have HA : Hid (atP x = x.bg) := by show _ = _; simp [atP, g1]
          go_wp2
          go_meet
          rw [HA.out]
          refine ⟨?_, rfl⟩
          exact HB.out.trans ((below_al (Below.refl _ _) _).mono HB.out.size)
        · have g1 : (x.nd == 0) = false := by simpa using hnd
          have HA : Hid (atP x = x.nd) := by show _ = _; simp [atP, g1]
          go_wp2
          go_meet
          rw [HA.out]
          exact ⟨HB2.out, rfl⟩
      case rest =>
        obtain ⟨hb3, rfl⟩ := hcut
        have HB4 := Lib.hid hb3
        clear hb3 c0 c1 c2 c3 c4 c5 c6 c7
        go_wp2
        obtain ⟨i0, hi0, hz0, hz1', hz2'⟩ := info_parts Try.info32
        go_loopg [11, 42] T.length (fun q s11 s42 wq => ∃ j : Nat, s42 = .int .i64 j ∧ j + q = T.length ∧ OwnE wq wc.heap.size s11 (keep (atP x) (T.take j)) ∧ Below wc.heap.size wc wq)
        case atStart => exact ⟨0, rfl, by omega, ⟨rfl, .inl ⟨rfl, rfl⟩⟩, Below.refl _ _⟩
        case round =>
          obtain ⟨j, rfl, hj, ho, hb⟩ := hrel
          have HJ := Lib.hid hj
          have HO := Lib.hid ho
          have HBq := Lib.hid hb
          have hbw : Below w.heap.size w wr := HB4.out.trans (hb.mono HB4.out.size)
          have HBw := Lib.hid hbw
          clear hj ho hb hbw
          by_cases hjt : j < T.length
          · rcases HT.out with h0 | ⟨b2, o2, rfl, hr⟩
            · rw [h0] at hjt; exact absurd hjt (by simp)
            have hkn := keep_next (atP x) T j hjt
            obtain ⟨d0, d1, d2, d3, d4, d5, d6, d7⟩ := (hr.below HBw.out).at j hjt _ rfl
            have hbb2 := World.block_lt_of_cell? wr _ d0
            simp only at hbb2
            generalize hy : T.getD j default = y at *
            have HY := Lib.hid hy
            have HK := Lib.hid hkn
            clear hy hr hkn
            have q4 : IntKind.i64.wrap ((j : Int) + 1) = (j : Int) + 1 := IntWalk.i64_in _ (by omega)
            have hkl : (keep (atP x) (T.take j)).length ≤ j := Nat.le_trans (List.length_filter_le _ _) (by simp; omega)
            by_cases hyx : y.bg ≤ atP x
            · have g2 : decide (y.bg ≤ atP x) = true := by simpa using hyx
              go_upto_region 16 with fail
              go_wp2_with (at_builtin; refine wpList_append_own_at _ rfl _ _ 25 rfl wc.heap.size 32 i0 _ 8 80 Try.underlying25 hi0 hz0 hz1' hz2' rfl (by decide) u11 (keep (atP x) (T.take j)).length (flat (keep (atP x) (T.take j))) rfl ?c0 ⟨wr.heap.size + 1, 0, none⟩ 1 1 (flat [y]) rfl ?c1 ?c2 ?c3 ?c4 ?c5 ?c6 ?_)
              case c0 => exact (HO.out.alloc _).alloc _
              case c1 => rfl
              case c2 =>
                have hnr : Reads ((wr.alloc (.cells y.cells 32)).alloc (.cells y.cells 32)) (wr.heap.size + 1) 0 [y] := by
                  rcases reads_one (wr.alloc (.cells y.cells 32)) y with h | ⟨b', o', h, hr'⟩
                  · simp at h
                  · have h1 : b' = wr.heap.size + 1 := by injection h with h; injection h with h; rw [← h]; simp
                    have h2 : o' = 0 := by injection h with h; injection h with _ h; exact h.symm
                    rw [h1, h2] at hr'
                    exact hr'
                exact reads_news hnr
              case c3 => exact oneCell_flat _
              case c4 => unfold maxLen; omega
              case c5 => omega
              case c6 => have := HBq.out.size; simp; omega
              intro v' w4 ho4 hg4 _ _
              have HO4 := Lib.hid ho4
              have HG4 := Lib.hid hg4
              clear ho4 hg4
              have HN : Hid (keep (atP x) (T.take (j + 1)) = keep (atP x) (T.take j) ++ [y]) := by show _ = _; rw [HK.out, g2]; rfl
              go_wp2
              go_roundg (gk - 1)
              case measure => have := HJ.out; omega
              case rel =>
                refine ⟨j + 1, by simp, by have := HJ.out; omega, ?_, ?_⟩
                · rw [HN.out]
                  have := HO4.out
                  unfold OwnE
                  rw [flat_append, List.length_append]
                  exact this
                · have h1 : Below wr.heap.size wr ((wr.alloc (.cells y.cells 32)).alloc (.cells y.cells 32)) := below_al (below_al (Below.refl _ _) _) _
                  have hz := HBq.out.size
                  have h2 : Below wc.heap.size wc ((wr.alloc (.cells y.cells 32)).alloc (.cells y.cells 32)) := HBq.out.trans (h1.mono hz)
                  exact h2.trans ⟨HG4.out.os, HG4.out.tape, HG4.out.output, HG4.out.size, fun q hq => HG4.out.block q (by simp; omega) (fun e => by have := own_ge HO.out e.symm; omega)⟩
            · have g2 : decide (y.bg ≤ atP x) = false := by simpa using hyx
              have HN : Hid (keep (atP x) (T.take (j + 1)) = keep (atP x) (T.take j)) := by show _ = _; rw [HK.out, g2]; rfl
              go_wp2
              go_roundg (gk - 1)
              case measure => have := HJ.out; omega
              case rel =>
                refine ⟨j + 1, by simp, by have := HJ.out; omega, ?_, HBq.out.alloc HBq.out.size _⟩
                rw [HN.out]
                exact HO.out.alloc _
          · have hjl : j = T.length := by have := HJ.out; omega
            subst hjl
            obtain ⟨A2, c2, rfl, hr2, hc2, hA2⟩ := own_readsE HO.out
            rw [List.take_length] at hr2 hc2
            have hkl : (keep (atP x) T).length ≤ 1000 := Nat.le_trans (List.length_filter_le _ _) (by omega)
            have HR2 := Lib.hid hr2
            have HA2 := Lib.hid hA2
            have hkt : keep (atP x) (T.take T.length) = keep (atP x) T := by rw [List.take_length]
            rw [hkt]
            clear hr2 hA2 hkt
            go_wp2_with fail
            have hF := fits_any wr (some ⟨b, o, none⟩) A2 cS c2 (S.take (k + 1)) (keep (atP x) T) room ((HS.out.below HBw.out).take (k + 1)) HR2.out ((oS.out.below HBw.out).sub fun _ h => List.mem_of_mem_take h) ((oT.out.below HBw.out).sub (keep_sub _ _)) (k + 1) _ (by simp; omega) rfl (by omega) hkl (by omega) hc2 (fun h => by simp at h) HA2.out
            refine hF.mono ?_
            rintro e w3 ⟨rfl, hb5⟩
            clear hF
            have hb6 : Below w.heap.size w w3 := HBw.out.trans (hb5.mono HBw.out.size)
            have HB6 := Lib.hid hb6
            clear hb5 hb6
            have HP : Hid (bestP S T room (k + 1) = if (witP (S.take (k + 1)) (keep (atP x) T) room).isSome then (k : Int) + 1 else bestP S T room k) := by
              show _ = _
              simp only [bestP, HX.out]
            cases hw : (witP (S.take (k + 1)) (keep (atP x) T) room).isSome
            · have HW := Lib.hid hw
              clear hw
              go_wp2
              go_roundg (S.length - k - 1)
              case measure => have := HQ.out; omega
              case rel => exact ⟨k + 1, by simp, by rw [HP.out, HW.out]; rfl, by omega, HB6.out⟩
            · have HW := Lib.hid hw
              clear hw
              go_wp2
              go_roundg (S.length - k - 1)
              case measure => have := HQ.out; omega
              case rel => exact ⟨k + 1, by simp, by rw [HP.out, HW.out]; rfl, by omega, HB6.out⟩
    · have hk : k = S.length := by have := HQ.out; omega
      subst hk
      have g0 : decide ((S.length : Int) + 1 ≤ (S.length : Int)) = false := decide_eq_false (by omega)
      go_wp2_with fail
      refine (longest_any wr AS AT cS cT S T room (HS.out.below HB.out) (HT.out.below HB.out) (oS.out.below HB.out) (oT.out.below HB.out) S.length T.length rfl rfl (by omega) (by omega) kS kT zS zT).mono ?_
      rintro e w4 ⟨rfl, hb⟩
      have HB4 := Lib.hid (HB.out.trans (hb.mono HB.out.size))
      clear hb
      go_wp2_with fail
      refine (alive_any w4).mono ?_
      rintro e w2 ⟨rfl, hb⟩
      have HB2 := Lib.hid hb
      clear hb
      go_wp2
      go_ret
      exact ⟨rfl, HB4.out.trans (HB2.out.mono HB4.out.size)⟩

end Go.Proofs.Ytcljbhiammofjaa
