/- Longest, and how many may be tried. -/
import Derived.Test.YtcljbhiammofjaaB1
namespace Go.Proofs.Ytcljbhiammofjaa
open Go.RowKit

theorem ReadsE.take {w : World} {A : Option Addr} {l : List En} (h : ReadsE w A l) (k : Nat) : ReadsE w A (l.take k) := by
  rcases h with rfl | ⟨b, o, rfl, h⟩
  · exact .inl (by simp)
  · refine .inr ⟨b, o, rfl, fun i hi j hj => ?_⟩
    rw [List.length_take] at hi
    rw [h i (by omega) j hj]
    simp [List.getD_eq_getElem?_getD, List.getElem?_take, show i < k by omega]
theorem LoadsOk.mem {w : World} {S : List En} (h : LoadsOk w S) : ∀ x ∈ S, x.load.length = x.len ∧ x.len ≤ 1000 ∧ ReadsI w x.adr x.load := by
  intro x hx
  obtain ⟨i, hi, rfl⟩ := List.getElem_of_mem hx
  have := h i hi
  rwa [List.getD_eq_getElem?_getD, List.getElem?_eq_getElem hi] at this
theorem LoadsOk.of_mem {w : World} {S : List En} (h : ∀ x ∈ S, x.load.length = x.len ∧ x.len ≤ 1000 ∧ ReadsI w x.adr x.load) : LoadsOk w S := by
  intro i hi
  rw [List.getD_eq_getElem?_getD, List.getElem?_eq_getElem hi]
  exact h _ (List.getElem_mem hi)
theorem LoadsOk.sub {w : World} {S S' : List En} (h : LoadsOk w S) (hs : ∀ x ∈ S', x ∈ S) : LoadsOk w S' := LoadsOk.of_mem fun x hx => h.mem x (hs x hx)
theorem keep_sub (a : Int) (l : List En) : ∀ x ∈ keep a l, x ∈ l := fun _ hx => (List.mem_filter.1 hx).1

/-- what began in time is told by this. -/
def atP (x : En) : Int := if x.nd == 0 then x.bg else x.nd
/-- the greatest number of sent ones that have an order, of the first n. -/
def bestP (S T : List En) (room : Int) : Nat → Int
  | 0 => 0
  | n + 1 => if (witP (S.take (n + 1)) (keep (atP (S.getD n default)) T) room).isSome then (n : Int) + 1 else bestP S T room n

set_option maxHeartbeats 1600000 in
theorem longest_any (w : World) (AS AT : Option Addr) (cS cT : Nat) (S T : List En) (room : Int) (hS : ReadsE w AS S) (hT : ReadsE w AT T) (oS : LoadsOk w S) (oT : LoadsOk w T) (nS nT : Nat) (eS : S.length = nS) (eT : T.length = nT)
    (lS : nS ≤ 1000) (lT : nT ≤ 1000) (kS : nS ≤ cS) (kT : nT ≤ cT) (zS : AS = none → cS = 0) (zT : AT = none → cT = 0) :
    Calls Try.prog 11 #[.slice AS nS cS, .slice AT nT cT, .int .i64 room] w fun e w' => e = .returned (.int .i64 (bestP S T room S.length)) ∧ Below w.heap.size w w' := by
  subst eS
  subst eT
  have HS := Lib.hid hS
  have HT := Lib.hid hT
  have HoS := Lib.hid oS
  have HoT := Lib.hid oT
  clear hS hT oS oT
  go_enter Try.func11, Try.ntmps11
  go_wp2
  go_loopg [7, 14] S.length (fun q s7 s14 wr => ∃ k : Nat, s14 = .int .i64 k ∧ s7 = .int .i64 (bestP S T room k) ∧ k + q = S.length ∧ Below w.heap.size w wr)
  case atStart => exact ⟨0, rfl, rfl, by omega, Below.refl _ _⟩
  case round =>
    obtain ⟨k, rfl, rfl, hq, hb⟩ := hrel
    have HQ := Lib.hid hq
    have HB := Lib.hid hb
    clear hq hb
    by_cases hlt : k < S.length
    · rcases HS.out with h0 | ⟨b, o, rfl, hr⟩
      · rw [h0] at hlt; exact absurd hlt (by simp)
      obtain ⟨c0, c1, c2, c3, c4, c5, c6, c7⟩ := (hr.below HB.out).at k hlt _ rfl
      have hbb := World.block_lt_of_cell? wr _ c0
      simp only at hbb
      generalize hx : S.getD k default = x at *
      have HX := Lib.hid hx
      clear hx hr
      have q1 : IntKind.i64.wrap ((k : Int) + 1) = (k : Int) + 1 := IntWalk.i64_in _ (by omega)
      have hkc : (k : Int) + 1 ≤ (cS : Int) := by omega
      go_upto_if 22 with fail
      go_cut [] (fun wx => Below w.heap.size w wx ∧ wx.heap[wr.heap.size + 1]? = some (.cells #[.int .i64 (atP x)] 3 (0, 0)))
      case first =>
        have hb2 : Below w.heap.size w ((wr.alloc (.cells x.cells 32)).alloc (.cells #[.int .i64 x.nd] 3)) := HB.out.trans ((below_al (below_al (Below.refl _ _) _) _).mono HB.out.size)
        have HB2 := Lib.hid hb2
        have hnw : ((wr.alloc (.cells x.cells 32)).alloc (.cells #[.int .i64 x.nd] 3)).heap[wr.heap.size + 1]? = some (.cells #[.int .i64 x.nd] 3 (0, 0)) := by
          have := new_block (wr.alloc (.cells x.cells 32)) (.cells #[.int .i64 x.nd] 3)
          simpa using this
        have HNW := Lib.hid hnw
        clear hb2 hnw
        by_cases hnd : x.nd = 0
        · have g1 : (x.nd == 0) = true := by simpa using hnd
          have HA : Hid (atP x = x.bg) := by show _ = _; simp [atP, g1]
          go_wp2
          go_meet
          rw [HA.out]
          refine ⟨HB.out.trans ((below_al (below_al (Below.refl _ _) _) _).mono HB.out.size), ?_⟩
          have := new_block (wr.alloc (.cells #[.int .i64 x.core, .int .i64 x.peer, .int .i64 x.kind, .int .i64 x.bg, .int .i64 0, .int .i64 x.err, .slice x.adr x.len x.cap, .int .i64 x.handle] 32)) (.cells #[.int .i64 x.bg] 3)
          simpa using this
        · have g1 : (x.nd == 0) = false := by simpa using hnd
          have HA : Hid (atP x = x.nd) := by show _ = _; simp [atP, g1]
          go_wp2
          go_meet
          rw [HA.out]
          exact ⟨HB2.out, HNW.out⟩
      case rest =>
        obtain ⟨hb3, hat⟩ := hcut
        have HB3 := Lib.hid hb3
        have HAT := Lib.hid hat
        clear hb3 hat c0 c1 c2 c3 c4 c5 c6 c7
        go_wp2_with fail
        refine (clone_any wc AT cT T (HT.out.below HB3.out) (fun h => List.eq_nil_of_length_eq_zero (by have := zT h; omega)) T.length rfl lT).mono ?_
        rintro e w1 ⟨v1, rfl, ho1, hb1⟩
        have HO1 := Lib.hid ho1
        have HB1 := Lib.hid hb1
        clear ho1 hb1
        go_wp2_with fail
        refine (deleteFunc_any w1 _ v1 T (wr.heap.size + 1) (atP x) HO1.out ((HB1.out.block _ (lt_of_block HAT.out)).trans HAT.out) lT).mono ?_
        rintro e w2 ⟨A2, c2, rfl, hr2, hc2, hA2, hg2⟩
        have hb2 : Below wc.heap.size wc w2 := HB1.out.trans ⟨hg2.os, hg2.tape, hg2.output, hg2.size, fun q hq => hg2.block q (by have := HB1.out.size; omega) (fun e => by have := own_ge HO1.out e.symm; omega)⟩
        have hb4 : Below w.heap.size w w2 := HB3.out.trans (hb2.mono HB3.out.size)
        have HR2 := Lib.hid hr2
        have HA2 := Lib.hid hA2
        have HB4 := Lib.hid hb4
        clear hr2 hA2 hg2 hb2 hb4
        have hkl : (keep (atP x) T).length ≤ 1000 := Nat.le_trans (List.length_filter_le _ _) lT
        go_wp2_with fail
        have hF := fits_any w2 (some ⟨b, o, none⟩) A2 cS c2 (S.take (k + 1)) (keep (atP x) T) room ((HS.out.below HB4.out).take (k + 1)) HR2.out ((HoS.out.below HB4.out).sub fun _ h => List.mem_of_mem_take h) ((HoT.out.below HB4.out).sub (keep_sub _ _)) (k + 1) _ (by simp; omega) rfl (by omega) hkl (by omega) hc2 (fun h => by simp at h) HA2.out
        refine hF.mono ?_
        rintro e w3 ⟨rfl, hb5⟩
        clear hF
        have hb6 : Below w.heap.size w w3 := HB4.out.trans (hb5.mono HB4.out.size)
        have HB6 := Lib.hid hb6
        clear hb5 hb6
        have HP : Hid (bestP S T room (k + 1) = if (witP (S.take (k + 1)) (keep (atP x) T) room).isSome then (k : Int) + 1 else bestP S T room k) := by
          show _ = _
          simp only [bestP, HX.out]
        cases hw : (witP (S.take (k + 1)) (keep (atP x) T) room).isSome
        · have HW := Lib.hid hw
          clear hw
          go_wp2
          go_roundg (gk - 1)
          case measure => have := HQ.out; omega
          case rel => exact ⟨k + 1, by simp, by rw [HP.out, HW.out]; rfl, by have := HQ.out; omega, HB6.out⟩
        · have HW := Lib.hid hw
          clear hw
          go_wp2
          go_roundg (gk - 1)
          case measure => have := HQ.out; omega
          case rel => exact ⟨k + 1, by simp, by rw [HP.out, HW.out]; rfl, by have := HQ.out; omega, HB6.out⟩
    · have hk : k = S.length := by have := HQ.out; omega
      subst hk
      go_wp2
      go_ret
      exact ⟨rfl, HB.out⟩

/-- may it be tried? -/
def fewP (l : List En) (most : Int) : Bool := decide ((l.length : Int) ≤ most) && l.all fun x => decide (x.len ≤ 100)

theorem few_any (w : World) (A : Option Addr) (c : Nat) (l : List En) (most : Int) (hr : ReadsE w A l) (n : Nat) (hn : l.length = n) (hl : n ≤ 9223372036854775807) (hm : 0 ≤ most) (hm2 : most ≤ 1000) (hll : ∀ x ∈ l, x.len ≤ 9223372036854775807) :
    Calls Try.prog 9 #[.slice A n c, .int .i64 most] w fun e w' => e = .returned (.bool (fewP l most)) ∧ Below w.heap.size w w' := by
  subst hn
  have HR := Lib.hid hr
  have HLL := Lib.hid hll
  clear hr hll
  by_cases hlm : (l.length : Int) ≤ most
  · have HP : Hid (fewP l most = l.all fun x => decide (x.len ≤ 100)) := by show _ = _; simp [fewP, hlm]
    have hB : decide (most < (l.length : Int)) = false := by simpa using hlm
    go_enter Try.func9, Try.ntmps9
    go_wp2
    go_loopg [13] l.length (fun q i wr => ∃ k : Nat, i = .int .i64 k ∧ k + q = l.length ∧ Below w.heap.size w wr ∧ (∀ j, j < k → (l.getD j default).len ≤ 100))
    case atStart => exact ⟨0, rfl, by omega, Below.refl _ _, by intro j hj; omega⟩
    case round =>
      obtain ⟨k, rfl, hk, hb, hn⟩ := hrel
      have HN := Lib.hid hn
      have HK := Lib.hid hk
      clear hn hk
      by_cases hlt : k < l.length
      · rcases HR.out with h0 | ⟨b, o, rfl, hr⟩
        · rw [h0] at hlt; exact absurd hlt (by simp)
        obtain ⟨c0, c1, c2, c3, c4, c5, c6, c7⟩ := (hr.below hb).at k hlt _ rfl
        have hml : l.getD k default ∈ l := by
          rw [List.getD_eq_getElem?_getD, List.getElem?_eq_getElem hlt]
          exact List.getElem_mem hlt
        have hyl := HLL.out _ hml
        generalize hy : l.getD k default = y at *
        have HY := Lib.hid hy
        have HM := Lib.hid hml
        clear hy hr hml
        by_cases h1 : y.len ≤ 100
        · have hd : decide (100 < y.len) = false := by simpa using h1
          have hd2 : decide ((100 : Int) < (y.len : Int)) = false := by simp; omega
          go_wp2
          go_roundg (gk - 1)
          case measure => have := HK.out; omega
          case rel =>
            refine ⟨k + 1, by simp, by have := HK.out; omega, hb.alloc hb.size _, ?_⟩
            intro j hj
            by_cases hjk : j = k
            · subst hjk; rw [HY.out]; exact h1
            · exact HN.out j (by omega)
        · have hd : decide (100 < y.len) = true := by simp; omega
          have hd2 : decide ((100 : Int) < (y.len : Int)) = true := by simp; omega
          have HF : Hid (fewP l most = false) := by
            show _ = _
            rw [HP.out, List.all_eq_false]
            exact ⟨y, HM.out, by simpa using h1⟩
          go_wp2
          go_ret
          exact ⟨ret_bool (by rw [HF.out]), hb.alloc hb.size _⟩
      · have HT : Hid (fewP l most = true) := by
          show _ = _
          rw [HP.out, List.all_eq_true]
          intro x hx
          obtain ⟨i, hi, rfl⟩ := List.getElem_of_mem hx
          have := HN.out i (by have := HK.out; omega)
          simpa [List.getD_eq_getElem?_getD, hi] using this
        go_wp2
        go_ret
        exact ⟨ret_bool (by rw [HT.out]), hb⟩
  · have HP : Hid (fewP l most = false) := by show _ = _; simp [fewP, hlm]
    have hB : decide (most < (l.length : Int)) = true := by simp; omega
    go_enter Try.func9, Try.ntmps9
    go_wp2
    go_ret
    exact ⟨ret_bool (by rw [HP.out]), Below.refl _ _⟩

end Go.Proofs.Ytcljbhiammofjaa
