/- The statement DiaryOwn, walked. -/
import Derived.Test.YtbfpaemaiaeljaaDoorD7
namespace Go.Proofs.YtbfpaemaiaeljaaDoor
open Go.RowKit

theorem rdw_of {W : World} {A : Option Addr} {l : List Int} (h : ReadsI W A l) (n : Nat) (hn : l.length = n) : RdW W W.heap.size 1 A n (l.map (Value.int .i64)) := by
  subst hn
  refine ⟨by simp, fun h0 => ?_⟩
  rcases h with h | ⟨b, o, rfl, hr⟩
  · rw [h] at h0; exact absurd h0 (by simp)
  · refine ⟨_, rfl, World.block_lt_of_cell? W _ (hr 0 h0), fun j u hu => ?_⟩
    have hj : j < l.length := by simpa using (List.getElem?_eq_some_iff.1 hu).1
    have e : (⟨b, o, none⟩ : Addr).add j = ⟨b, o + j, none⟩ := by
      unfold Addr.add
      split
      · rename_i h; simp [h]
      · rfl
    rw [e, hr j hj, ← hu]
    simp [List.getD_eq_getElem?_getD, hj]
theorem rdw_own {w : World} {base n c size : Nat} {e : TypeId} {A : Option Addr} {xs : List Value} (h : w.ownsRow base e size (.slice A n c) n xs) : RdW w w.heap.size size A n xs := by
  refine ⟨h.1, fun hn => ?_⟩
  obtain ⟨g, cap, hv, _, hlt⟩ := h.form hn
  have hA : A = some ⟨g, 0, none⟩ := by injection hv
  subst hA
  exact ⟨_, rfl, hlt, h.cells (g := g) rfl⟩
theorem own_empty (w : World) (base : Nat) (hb : base ≤ w.heap.size) : (w.alloc (.cells #[] 3)).ownsRow base 3 1 (.slice (some ⟨w.heap.size, 0, none⟩) 0 0) 0 [] := by
  refine ⟨rfl, .inr ⟨w.heap.size, 0, #[], rfl, hb, new_block _ _, ?_⟩⟩
  simp

theorem plain_own (w : World) (v : Value) (base : Nat) (l : List En) (h : OwnE 28 w base v l) (hl : l.length ≤ 1000) :
    Calls Tryd.prog 11 #[v] w fun e w' => ∃ v, e = .returned v ∧ OwnE 39 w' w.heap.size v l ∧ Below w.heap.size w w' := by
  obtain ⟨A, c, rfl, hr, _, _⟩ := own_readsE h
  exact plain_any w A c l hr _ rfl hl
theorem refOf_own (w : World) (v : Value) (base : Nat) (l : List En) (f t : Int) (h : OwnE 39 w base v l) (hl : l.length ≤ 1000) :
    Calls Tryd.prog 10 #[v, .int .i64 f, .int .i64 t] w fun e w' => ∃ v1 v2, e = .returned (.tuple #[v1, v2]) ∧ Two 39 w w' (l.filter (sentP f t)) (l.filter (takenP f t)) v1 v2 := by
  obtain ⟨A, c, rfl, hr, _, _⟩ := own_readsE h
  exact refOf_any w A c l f t hr _ rfl hl
theorem same_own (w : World) (v1 v2 : Value) (b1 b2 : Nat) (a b : List En) (h1 : OwnE 39 w b1 v1 a) (h2 : OwnE 39 w b2 v2 b) (o1 : LoadsOk w a) (o2 : LoadsOk w b) (l1 : a.length ≤ 1000) (l2 : b.length ≤ 1000) (hs : a.map En.nf = b.map En.nf) :
    Calls Tryd.prog 12 #[v1, v2] w fun e w' => e = .returned (.bool true) ∧ Below w.heap.size w w' := by
  obtain ⟨A, c, rfl, hr, _, _⟩ := own_readsE h1
  obtain ⟨B, d, rfl, hq, _, _⟩ := own_readsE h2
  have h := refSame_any w A B c d a b hr hq o1 o2 _ _ rfl rfl l1 l2
  rw [(sameP_iff a b).2 hs] at h
  exact h

/-- what a round of the copies has come to, ahead of its append to what is kept. -/
theorem kept_step {w wr w2 : World} {F L : List En} {s : Value} {y : En} {A' : Option Addr} {c' : Nat} (ho : OwnE 28 wr w.heap.size s L) (hc : Copies wr w.heap.size F L) (hb : Below w.heap.size w wr)
    (hl : y.load.length = y.len) (h2 : OwnI w2 (wr.heap.size + 1) (.slice A' y.len c') y.load) (hg : ((wr.alloc (.cells y.cells 28)).alloc (.cells #[] 3)).grownBy w2 (some (wr.heap.size + 1))) :
    let W := (w2.setCell ⟨wr.heap.size, 6, none⟩ (.slice A' y.len c')).alloc (.cells (En.cells { y with adr := A', cap := c' }) 28)
    (w2.heap[wr.heap.size]? = some (.cells y.cells 28 (0, 0)) ∧ wr.heap.size < w2.heap.size) ∧ OwnE 28 W w.heap.size s L ∧ Copies W w.heap.size F L ∧ Copy W w.heap.size y { y with adr := A', cap := c' } ∧ Below w.heap.size w W := by
  intro W
  have hb2 : Below (wr.heap.size + 1) (wr.alloc (.cells y.cells 28)) w2 := by
    refine ((Below.refl _ _).alloc (by simp) (.cells #[] 3)).trans ⟨hg.os, hg.tape, hg.output, hg.size, fun k hk => hg.block k (by simp; omega) (fun e => by injection e; omega)⟩
  have h3 := some_step (w1 := wr.alloc (.cells y.cells 28)) ho hc hb (Below.refl _ _) hl (by simpa using h2) (by simpa using hb2)
  refine ⟨⟨?_, ?_⟩, h3⟩
  · exact (hb2.block _ (by omega)).trans (new_block _ _)
  · have := hb2.size; simp at this; omega

theorem own_readsE' {e : TypeId} {w : World} {base n c : Nat} {A : Option Addr} {l : List En} (h : OwnE e w base (.slice A n c) l) : ReadsE w A l := by
  obtain ⟨A', c', h1, h2, _, _⟩ := own_readsE h
  injection h1 with h1
  rw [h1]
  exact h2

theorem LoadsOk.len {w : World} {S : List En} (h : LoadsOk w S) : ∀ x ∈ S, x.len ≤ 1000 := fun x hx => (h.mem x hx).2.1

set_option maxHeartbeats 6400000 in
theorem do_any (w : World) (A : Option Addr) (c : Nat) (l : List En) (f t : Int) (hr : ReadsE w A l) (ol : fewP l 60 = true → LoadsOk w l) (n : Nat) (hn : l.length = n) (hl : n ≤ 9223372036854775807) (hml : ∀ x ∈ l, x.len ≤ 9223372036854775807) :
    Calls Tryd.prog 3 #[.slice A n c, .int .i64 f, .int .i64 t] w fun e w' => e = .returned (.bool true) ∧ Below w.heap.size w w' := by
  subst hn
  have HR := Lib.hid hr
  have HOL := Lib.hid ol
  have HML := Lib.hid hml
  clear hr ol hml
  have hfS := few_any w A c l 60 HR.out l.length rfl hl (by omega) (by omega) HML.out
  cases fS : fewP l 60
  · rw [fS] at hfS
    clear fS
    go_enter Tryd.func3, Tryd.ntmps3
    go_wp2_with fail
    refine hfS.mono ?_
    rintro e w1 ⟨rfl, hb⟩
    have HB := Lib.hid hb
    clear hb hfS
    go_wp2_with fail
    refine (alive_any w1).mono ?_
    rintro e w2 ⟨rfl, hb⟩
    have HB2 := Lib.hid hb
    clear hb
    go_wp2
    go_ret
    exact ⟨rfl, HB.out.trans (HB2.out.mono HB.out.size)⟩
  rw [fS] at hfS
  have oS := Lib.hid (HOL.out fS)
  have lS : l.length ≤ 60 := by have := fS; simp [fewP] at this; omega
  clear HOL fS HML
  obtain ⟨i0, hi0, hz0, hz1', hz2'⟩ := info_parts Tryd.info28
  obtain ⟨k0, hk0, kz0, kz1', kz2'⟩ := info_parts Tryd.info3
  go_enter Tryd.func3, Tryd.ntmps3
  go_wp2_with fail
  refine hfS.mono ?_
  rintro e w1 ⟨rfl, hb⟩
  have HB := Lib.hid hb
  clear hb hfS
  go_wp2
  go_loopg [7, 25] l.length (fun q s7 s25 wr => ∃ (j : Nat) (L : List En), s25 = .int .i64 j ∧ j + q = l.length ∧ OwnE 28 wr w1.heap.size s7 L ∧ Copies wr w1.heap.size (l.take j) L ∧ Below w1.heap.size w1 wr)
  case atStart => exact ⟨0, [], rfl, by omega, ⟨rfl, .inl ⟨rfl, rfl⟩⟩, ⟨rfl, fun i hi => by simp at hi⟩, Below.refl _ _⟩
  case round =>
    obtain ⟨j, L, rfl, hj, ho, hc, hb⟩ := hrel
    have HJ := Lib.hid hj
    have HO := Lib.hid ho
    have HC := Lib.hid hc
    have HBr := Lib.hid hb
    clear hj ho hc hb
    by_cases hjt : j < l.length
    · rcases HR.out with h0 | ⟨b2, o2, rfl, hr⟩
      · rw [h0] at hjt; exact absurd hjt (by simp)
      have hb0 : Below w.heap.size w wr := HB.out.trans (HBr.out.mono HB.out.size)
      obtain ⟨d0, d1, d2, d3, d4, d5, d6, d7⟩ := (hr.below hb0).at j hjt _ rfl
      have hbb2 := World.block_lt_of_cell? wr _ d0
      simp only at hbb2
      have hk1 := take_next l j hjt
      have hlj := (oS.out.below hb0) j hjt
      have HB0 := Lib.hid hb0
      generalize hy : l.getD j default = y at *
      have HY := Lib.hid hy
      have HK1 := Lib.hid hk1
      have HLJ := Lib.hid hlj
      clear hy hr hk1 hlj hb0
      have hLl : L.length ≤ j := by have := HC.out.1; rw [List.length_take] at this; omega
      have hws : w1.heap.size ≤ wr.heap.size := HBr.out.size
      have hrdw : RdW ((wr.alloc (.cells y.cells 28)).alloc (.cells #[] 3)) ((wr.alloc (.cells y.cells 28)).alloc (.cells #[] 3)).heap.size 1 y.adr y.len (y.load.map (Value.int .i64)) := rdw_of (HLJ.out.2.2.below (below_al (one_al _ _) _)) _ HLJ.out.1
      have hemp := own_empty (wr.alloc (.cells y.cells 28)) (wr.heap.size + 1) (by simp)
      have hyl := HLJ.out.2.1
      have HRD := Lib.hid hrdw
      have HEM := Lib.hid hemp
      clear hrdw hemp
      rw [show (wr.alloc (.cells y.cells 28)).heap.size = wr.heap.size + 1 from by simp] at HEM
      go_wp2_with (at_builtin; refine wpList_append_any _ rfl (.tmp 29) (.tmp 31) _ rfl (wr.heap.size + 1) 3 k0 _ 1 8 Tryd.underlying26 hk0 kz0 kz1' kz2' rfl (by decide) (.slice (some ⟨wr.heap.size + 1, 0, none⟩) 0 0) 0 [] rfl ?c0 ((wr.alloc (.cells y.cells 28)).alloc (.cells #[] 3)).heap.size y.adr y.len y.cap (y.load.map (Value.int .i64)) rfl ?c1 ?c3 ?c4 ?c5 ?c6 ?_)
      case c0 => exact HEM.out
      case c1 => exact HRD.out
      case c3 => intro u hu; simp at hu; obtain ⟨a, _, rfl⟩ := hu; rfl
      case c4 => unfold maxLen; omega
      case c5 => omega
      case c6 => simp
      intro v' w2 ho2 hg2 _
      have hex := own_slice ho2
      obtain ⟨A', c', hv⟩ := hex
      rw [hv] at ho2
      rw [hv]
      have hst := kept_step HO.out HC.out HBr.out HLJ.out.1 (by unfold OwnI; rw [HLJ.out.1]; exact ho2) hg2
      have HST := Lib.hid hst
      have hsz2 := HST.out.1.2
      have fz := box_facts HST.out.1.1
      obtain ⟨a0, a1, a2, a3, a4, a5, a6, a7⟩ := entry_cells HST.out.1.1
      clear ho2 hg2 hst hv d0 d1 d2 d3 d4 d5 d6 d7
      go_wp2_with (at_builtin; refine wpList_append_own_at _ rfl _ _ 22 rfl w1.heap.size 28 i0 _ 8 80 Tryd.underlying22 hi0 hz0 hz1' hz2' rfl (by decide) u7 L.length (flat L) rfl ?e0 ⟨w2.heap.size, 0, none⟩ 1 1 (flat [{ y with adr := A', cap := c' }]) rfl ?e1 ?e2 ?e3 ?e4 ?e5 ?e6 ?_)
      case e0 => exact HST.out.2.1
      case e1 => rfl
      case e2 => exact fun j u h => by simpa [flat, En.cells] using h
      case e3 => exact oneCell_flat _
      case e4 => unfold maxLen; omega
      case e5 => omega
      case e6 => have := HST.out.2.2.2.2.size; simpa using this
      intro v4 w4 ho4 hg4 _ _
      have HO4 := Lib.hid ho4
      have HG4 := Lib.hid hg4
      clear ho4 hg4
      go_wp2
      go_roundg (gk - 1)
      case measure => have := HJ.out; omega
      case rel =>
        obtain ⟨_, s1, s2, s3, s4⟩ := HST.out
        refine ⟨j + 1, L ++ [{ y with adr := A', cap := c' }], by simp, by have := HJ.out; omega, ?_, ?_, ?_⟩
        · unfold OwnE; rw [flat_append, List.length_append]; exact HO4.out
        · rw [HK1.out]
          exact (s2.snoc s3).kept s1 (by decide) HG4.out
        · exact below_row s4 s1 HG4.out s4.size
    · have hjl : j = l.length := by have := HJ.out; omega
      subst hjl
      have hck : Copies wr w1.heap.size l L := by have := HC.out; rwa [List.take_length] at this
      have HCK := Lib.hid hck
      have hLl : L.length = l.length := hck.1
      have HLL := Lib.hid hLl
      clear hck hLl
      have hbw : Below w.heap.size w wr := HB.out.trans (HBr.out.mono HB.out.size)
      have HBW := Lib.hid hbw
      clear hbw
      obtain ⟨wK, rfl⟩ : ∃ wK : World, wK = wr := ⟨_, rfl⟩
      go_wp2_with fail
      refine (of_any wK A c l f t (HR.out.below HBW.out) (oS.out.below HBW.out) l.length rfl (by omega)).mono ?_
      rintro e w3 ⟨v1, v2, L1, L2, rfl, ho1, ho2, hc1, hc2, hb3⟩
      obtain ⟨A1, c1, rfl⟩ := own_slice ho1
      obtain ⟨A2, c2, rfl⟩ := own_slice ho2
      have hl1 : L1.length ≤ 60 := by rw [hc1.1]; exact Nat.le_trans (List.length_filter_le _ _) lS
      have hl2 : L2.length ≤ 60 := by rw [hc2.1]; exact Nat.le_trans (List.length_filter_le _ _) lS
      have HO1 := Lib.hid ho1
      have HO2 := Lib.hid ho2
      have HC1 := Lib.hid hc1
      have HC2 := Lib.hid hc2
      have HB3 := Lib.hid hb3
      clear ho1 ho2 hc1 hc2 hb3
      go_wp2_with (at_builtin; refine wpList_append_any _ rfl (.tmp 46) (.tmp 47) _ rfl wK.heap.size 28 i0 _ 8 80 Tryd.underlying22 hi0 hz0 hz1' hz2' rfl (by decide) (.slice A1 L1.length c1) L1.length (flat L1) rfl ?f0 w3.heap.size A2 L2.length c2 (flat L2) rfl ?f1 ?f3 ?f4 ?f5 ?f6 ?_)
      case f0 => exact HO1.out
      case f1 => exact rdw_own HO2.out
      case f3 => exact oneCell_flat _
      case f4 => unfold maxLen; omega
      case f5 => omega
      case f6 => exact HB3.out.size
      intro v3 w4 ho4 hg4 _
      have hown4 : OwnE 28 w4 wK.heap.size v3 (L1 ++ L2) := by unfold OwnE; rw [flat_append, List.length_append]; exact ho4
      have hmut : Mut wK w4 v3 (L1 ++ L2) := by
        refine ⟨hown4, fun x hx => ?_, below_row HB3.out HO1.out hg4 HB3.out.size⟩
        rcases List.mem_append.1 hx with hx | hx
        · obtain ⟨i, hi, rfl⟩ := List.getElem_of_mem hx
          have := ((HC1.out.kept HO1.out (by decide) hg4).2 i (by rw [← HC1.out.1]; exact hi)).soft
          simpa [List.getD_eq_getElem?_getD, hi] using this
        · obtain ⟨i, hi, rfl⟩ := List.getElem_of_mem hx
          have := ((HC2.out.kept HO1.out (by decide) hg4).2 i (by rw [← HC2.out.1]; exact hi)).soft
          simpa [List.getD_eq_getElem?_getD, hi] using this
      have hml4 : ∀ x ∈ L1 ++ L2, x.len ≤ 1000 := by
        intro x hx
        rcases List.mem_append.1 hx with hx | hx
        · exact (HC1.out.loads fun y hy => oS.out.len y (List.mem_filter.1 hy).1).len x hx
        · exact (HC2.out.loads fun y hy => oS.out.len y (List.mem_filter.1 hy).1).len x hx
      have hlen4 : (L1 ++ L2).length = L1.length + L2.length := List.length_append
      have hl4 : (L1 ++ L2).length ≤ 120 := by rw [hlen4]; omega
      have hex := own_slice hown4
      rw [hlen4] at hex
      obtain ⟨A3, c3, hv⟩ := hex
      rw [hv] at hmut
      rw [hv]
      rw [← hlen4] at hmut
      rw [← hlen4]
      clear hown4 ho4 hg4 hv hlen4
      generalize hM : L1 ++ L2 = M at *
      have HMU := Lib.hid hmut
      have HM := Lib.hid hM
      have HML := Lib.hid hml4
      clear hmut hM hml4 HC1 HC2 HO1 HO2
      go_wp2
      go_loopg [50] M.length (fun q s50 wr => ∃ j : Nat, s50 = .int .i64 j ∧ j + q = M.length ∧ Mut wK wr (.slice A3 M.length c3) M)
      case atStart => exact ⟨0, rfl, by omega, HMU.out⟩
      case round =>
        obtain ⟨j, rfl, hj, hmu⟩ := hrel
        have HJ2 := Lib.hid hj
        have HM2 := Lib.hid hmu
        clear hj hmu
        obtain ⟨wo, rfl⟩ : ∃ wo : World, wo = wr := ⟨_, rfl⟩
        by_cases hjt : j < M.length
        · rcases own_readsE' HM2.out.own with h0 | ⟨b3, o3, rfl, hr3⟩
          · rw [h0] at hjt; exact absurd hjt (by simp)
          obtain ⟨d0, d1, d2, d3, d4, d5, d6, d7⟩ := hr3.at j hjt _ rfl
          have hbb3 := World.block_lt_of_cell? wo _ d0
          simp only at hbb3
          have hym : M.getD j default ∈ M := by
            rw [List.getD_eq_getElem?_getD, List.getElem?_eq_getElem hjt]
            exact List.getElem_mem hjt
          generalize hy : M.getD j default = y at *
          have HY := Lib.hid hy
          have HYM := Lib.hid hym
          clear hy hr3 hym
          have q1 : IntKind.i64.wrap ((j : Int) + 1) = (j : Int) + 1 := IntWalk.i64_in _ (by omega)
          have hyl := HML.out y HYM.out
          have hM5 : Mut wK (wo.alloc (.cells y.cells 28)) (.slice (some ⟨b3, o3, none⟩) M.length c3) M := HM2.out.below (one_al _ _)
          have HM5 := Lib.hid hM5
          have HBX := Lib.hid (new_block wo (.cells y.cells 28))
          clear hM5
          go_wp2_with fail
          clear d0 d1 d2 d3 d4 d5 d6 d7
          go_loopg [57] y.len (fun q s57 wq => ∃ i : Nat, s57 = .int .i64 i ∧ i + q = y.len ∧ Mut wK wq (.slice (some ⟨b3, o3, none⟩) M.length c3) M ∧ wq.heap[wo.heap.size]? = some (.cells y.cells 28 (0, 0)))
          case atStart => exact ⟨0, rfl, by omega, HM5.out, HBX.out⟩
          case round =>
            obtain ⟨i, rfl, hi, hmu, hbx⟩ := hrel
            have HI := Lib.hid hi
            have HM6 := Lib.hid hmu
            have HB6 := Lib.hid hbx
            clear hi hmu
            by_cases hit : i < y.len
            · obtain ⟨g, cur, z, hA, hBg, hcur, hics, hcz, hfz⟩ := (HM6.out.soft y HYM.out).at hit
              obtain ⟨_, _, _, _, _, _, a6, _⟩ := entry_cells hbx
              rw [hA] at a6
              have HCUR := Lib.hid hcur
              have HBG := Lib.hid hBg
              have q2 : IntKind.i64.wrap ((i : Int) + 1) = (i : Int) + 1 := IntWalk.i64_in _ (by omega)
              clear hA hcur hbx hBg
              go_wp2
              go_roundg (gk - 1)
              case measure => have := HI.out; omega
              case rel => exact ⟨i + 1, by simp, by have := HI.out; omega, HM6.out.set HCUR.out HBG.out, box_set HB6.out HCUR.out⟩
            · clear hbx
              go_wp2
              go_roundg (M.length - j - 1)
              case measure => have := HJ2.out; omega
              case rel => exact ⟨j + 1, by simp, by have := HJ2.out; omega, HM6.out⟩
        · have HMw := Lib.hid HM2.out.bel
          clear HM2 HML HMU HM HJ2
          have hz0 := HMw.out.size
          have z1 : w1.heap.size ≤ wK.heap.size := HBr.out.size
          have HB5 := Lib.hid (HBW.out.trans (HMw.out.mono HBW.out.size))
          have HO5 := Lib.hid (own_below HO.out HMw.out)
          have HC5 := Lib.hid (HCK.out.below HMw.out)
          clear HO HC HCK HBr HMw
          have hLs : L.length ≤ 60 := by have := HLL.out; omega
          go_wp2_with fail
          refine (of_any wo A c l f t (HR.out.below HB5.out) (oS.out.below HB5.out) l.length rfl (by omega)).mono ?_
          rintro e w6 ⟨v1, v2, N1, N2, rfl, ho1, ho2, hc1, hc2, hb6⟩
          have HP1 := Lib.hid ho1
          have HP2 := Lib.hid ho2
          have HD1 := Lib.hid hc1
          have HD2 := Lib.hid hc2
          have HB6 := Lib.hid (HB5.out.trans (hb6.mono HB5.out.size))
          have HO6 := Lib.hid (own_below HO5.out hb6)
          have HC6 := Lib.hid (HC5.out.below hb6)
          have hn1 : N1.length ≤ 60 := by rw [hc1.1]; exact Nat.le_trans (List.length_filter_le _ _) lS
          have hn2 : N2.length ≤ 60 := by rw [hc2.1]; exact Nat.le_trans (List.length_filter_le _ _) lS
          clear ho1 ho2 hc1 hc2 hb6 HO5 HC5
          go_wp2_with fail
          refine (plain_own w6 u7 _ L HO6.out (by omega)).mono ?_
          rintro e w7 ⟨v7, rfl, ho7, hb7⟩
          have HO7 := Lib.hid ho7
          have HB7 := Lib.hid hb7
          clear ho7 hb7
          go_wp2_with fail
          refine (refOf_own w7 v7 _ L f t HO7.out (by omega)).mono ?_
          rintro e w8 ⟨v17, v18, rfl, htwo⟩
          have HT8 := Lib.hid htwo
          clear htwo
          have hb68 : Below w6.heap.size w6 w8 := HB7.out.trans (HT8.out.bel.mono HB7.out.size)
          have HR8 := Lib.hid (HR.out.below (HB6.out.trans (hb68.mono HB6.out.size)))
          have HL8 := Lib.hid (oS.out.below (HB6.out.trans (hb68.mono HB6.out.size)))
          have HBW8 := Lib.hid (HB6.out.trans (hb68.mono HB6.out.size))
          have HO8 := Lib.hid (own_below HO6.out hb68)
          have HC8 := Lib.hid (HC6.out.below hb68)
          have HP18 := Lib.hid (own_below HP1.out hb68)
          have HP28 := Lib.hid (own_below HP2.out hb68)
          have HD18 := Lib.hid (HD1.out.below hb68)
          have HD28 := Lib.hid (HD2.out.below hb68)
          have HLL8 := Lib.hid (HC8.out.loads oS.out.len)
          have HLN1 := Lib.hid (HD18.out.loads fun y hy => oS.out.len y (List.mem_filter.1 hy).1)
          have HLN2 := Lib.hid (HD28.out.loads fun y hy => oS.out.len y (List.mem_filter.1 hy).1)
          have n0 := Lib.hid HC8.out.nf.symm
          have n1 : Hid (N1.map En.nf = (L.filter (sentP f t)).map En.nf) := by show _ = _; rw [HD18.out.nf]; exact filter_nf _ (fun _ => rfl) n0.out
          have n2 : Hid (N2.map En.nf = (L.filter (takenP f t)).map En.nf) := by show _ = _; rw [HD28.out.nf]; exact filter_nf _ (fun _ => rfl) n0.out
          clear hb68 HB7 HO6 HC6 HP1 HP2 HD1 HD2 HB6 HO7
          have hf1 : (L.filter (sentP f t)).length ≤ 60 := Nat.le_trans (List.length_filter_le _ _) hLs
          have hf2 : (L.filter (takenP f t)).length ≤ 60 := Nat.le_trans (List.length_filter_le _ _) hLs
          go_wp2_with fail
          refine (plain_any w8 A c l HR8.out _ rfl (by omega)).mono ?_
          rintro e w9 ⟨va, rfl, hva, hb9⟩
          have HVA := Lib.hid hva
          have HB9 := Lib.hid hb9
          clear hva hb9
          go_wp2_with fail
          refine (plain_own w9 u7 _ L (own_below HO8.out HB9.out) (by omega)).mono ?_
          rintro e w10 ⟨vb, rfl, hvb, hb10⟩
          have HVB := Lib.hid hvb
          have HVA2 := Lib.hid (own_below HVA.out hb10)
          have HB10 := Lib.hid (HB9.out.trans (hb10.mono HB9.out.size))
          clear hvb hb10 HVA HB9
          go_wp2_with fail
          refine (same_own w10 va vb _ _ l L HVA2.out HVB.out (HL8.out.below HB10.out) (HLL8.out.below HB10.out) (by omega) (by omega) n0.out).mono ?_
          rintro e w11 ⟨rfl, hb11⟩
          have HB11 := Lib.hid (HB10.out.trans (hb11.mono HB10.out.size))
          clear hb11 HVA2 HVB HB10
          go_wp2_with fail
          refine (plain_own w11 v1 _ N1 (own_below HP18.out HB11.out) (by omega)).mono ?_
          rintro e w12 ⟨vc, rfl, hvc, hb12⟩
          have HVC := Lib.hid hvc
          have HB12 := Lib.hid (HB11.out.trans (hb12.mono HB11.out.size))
          clear hvc hb12 HB11
          go_wp2_with fail
          refine (same_own w12 vc v17 _ _ N1 (L.filter (sentP f t)) HVC.out (own_below HT8.out.os HB12.out) (HLN1.out.below HB12.out) ((HLL8.out.below HB12.out).sub fun _ h => (List.mem_filter.1 h).1) (by omega) (by omega) n1.out).mono ?_
          rintro e w13 ⟨rfl, hb13⟩
          have HB13 := Lib.hid (HB12.out.trans (hb13.mono HB12.out.size))
          clear hb13 HVC HB12
          go_wp2_with fail
          refine (plain_own w13 v2 _ N2 (own_below HP28.out HB13.out) (by omega)).mono ?_
          rintro e w14 ⟨vd, rfl, hvd, hb14⟩
          have HVD := Lib.hid hvd
          have HB14 := Lib.hid (HB13.out.trans (hb14.mono HB13.out.size))
          clear hvd hb14 HB13
          go_wp2_with fail
          refine (same_own w14 vd v18 _ _ N2 (L.filter (takenP f t)) HVD.out (own_below HT8.out.ot HB14.out) (HLN2.out.below HB14.out) ((HLL8.out.below HB14.out).sub fun _ h => (List.mem_filter.1 h).1) (by omega) (by omega) n2.out).mono ?_
          rintro e w15 ⟨rfl, hb15⟩
          have HB15 := Lib.hid (HB14.out.trans (hb15.mono HB14.out.size))
          clear hb15 HVD HB14
          go_wp2_with fail
          refine (alive_any w15).mono ?_
          rintro e w16 ⟨rfl, hb16⟩
          have HB16 := Lib.hid (HB15.out.trans (hb16.mono HB15.out.size))
          clear hb16
          go_wp2
          go_ret
          exact ⟨rfl, HBW8.out.trans (HB16.out.mono HBW8.out.size)⟩

end Go.Proofs.YtbfpaemaiaeljaaDoor
