/- One answer changed: walked. -/
import Derived.Test.YtcljbhiammofjaaC1
namespace Go.Proofs.Ytcljbhiammofjaa
open Go.RowKit

theorem flat_fail (l : List En) (i : Nat) (c : Int) (hi : i < l.length) : (flat l).set (i * 8 + 5) (.int .i64 c) = flat (l.set i ((l.getD i default).fail c)) := by
  apply List.ext_getElem?
  intro k
  have hl := flat_len l
  rw [flat_get]
  simp only [List.getElem?_set]
  rw [flat_get]
  have hg : l.getD i default = l[i] := by simp [List.getD_eq_getElem?_getD, hi]
  by_cases hk : k / 8 = i
  · have h : k = i * 8 ∨ k = i * 8 + 1 ∨ k = i * 8 + 2 ∨ k = i * 8 + 3 ∨ k = i * 8 + 4 ∨ k = i * 8 + 5 ∨ k = i * 8 + 6 ∨ k = i * 8 + 7 := by omega
    obtain ⟨g0, g1, g2, g3, g4, g5, g6, g7⟩ := cells_get (l[i].fail c)
    obtain ⟨d0, d1, d2, d3, d4, d5, d6, d7⟩ := cells_get l[i]
    have e2 : i * 8 + 5 < (flat l).length := by omega
    rw [hk, hg, if_pos rfl, if_pos hi, List.getElem?_eq_getElem hi]
    rcases h with rfl | rfl | rfl | rfl | rfl | rfl | rfl | rfl
    · have e : (i * 8) % 8 = 0 := by omega
      rw [if_neg (by omega), e]; simp only [Option.bind_some]; rw [g0, d0]; rfl
    · have e : (i * 8 + 1) % 8 = 1 := by omega
      rw [if_neg (by omega), e]; simp only [Option.bind_some]; rw [g1, d1]; rfl
    · have e : (i * 8 + 2) % 8 = 2 := by omega
      rw [if_neg (by omega), e]; simp only [Option.bind_some]; rw [g2, d2]; rfl
    · have e : (i * 8 + 3) % 8 = 3 := by omega
      rw [if_neg (by omega), e]; simp only [Option.bind_some]; rw [g3, d3]; rfl
    · have e : (i * 8 + 4) % 8 = 4 := by omega
      rw [if_neg (by omega), e]; simp only [Option.bind_some]; rw [g4, d4]; rfl
    · have e : (i * 8 + 5) % 8 = 5 := by omega
      rw [if_pos rfl, if_pos e2, e]; simp only [Option.bind_some]; rw [g5]; rfl
    · have e : (i * 8 + 6) % 8 = 6 := by omega
      rw [if_neg (by omega), e]; simp only [Option.bind_some]; rw [g6, d6]; rfl
    · have e : (i * 8 + 7) % 8 = 7 := by omega
      rw [if_neg (by omega), e]; simp only [Option.bind_some]; rw [g7, d7]; rfl
  · rw [if_neg (by omega), if_neg (fun e => hk e.symm)]

theorem LoadsOk.flip {w : World} {S : List En} (h : LoadsOk w S) (k : Nat) (hk : k < S.length) : LoadsOk w (S.set k (flipE (S.getD k default))) := LoadsOk.of_mem fun x hx => by
  rcases List.mem_or_eq_of_mem_set hx with hx | rfl
  · exact h.mem x hx
  · have := h k hk
    unfold flipE
    split <;> exact this

theorem below_row {w W w' : World} {base n size : Nat} {e : TypeId} {v : Value} {xs : List Value} (hb : Below base w W) (ho : W.ownsRow base e size v n xs) (hg : W.grownBy w' v.ownBlock) (hs : base ≤ W.heap.size) : Below base w w' :=
  hb.trans ⟨hg.os, hg.tape, hg.output, hg.size, fun q hq => hg.block q (by omega) (fun e => by have := own_ge ho e.symm; omega)⟩

/-- is there none? -/
def spoiltP (S T : List En) (room : Int) (k : Nat) : Bool := if S.length = 0 then true else !(witP (S.set k (flipE (S.getD k default))) T room).isSome

set_option maxHeartbeats 1600000 in
theorem spoilt_any (w : World) (AS AT : Option Addr) (cS cT : Nat) (S T : List En) (room which : Int) (hS : ReadsE w AS S) (hT : ReadsE w AT T) (oS : LoadsOk w S) (oT : LoadsOk w T) (nS nT : Nat) (eS : S.length = nS) (eT : T.length = nT)
    (lS : nS ≤ 1000) (lT : nT ≤ 1000) (kT : nT ≤ cT) (zT : AT = none → cT = 0) (k : Nat) (hk : nS ≠ 0 → which.tmod nS = k ∧ k < nS) :
    Calls Try.prog 8 #[.slice AS nS cS, .slice AT nT cT, .int .i64 room, .int .u64 which] w fun e w' => e = .returned (.bool (spoiltP S T room k)) ∧ Below w.heap.size w w' := by
  subst eS
  subst eT
  by_cases h0 : S.length = 0
  · have HP : Hid (spoiltP S T room k = true) := by show _ = _; simp [spoiltP, h0]
    have HS := Lib.hid h0
    clear hS hT oS oT h0
    have e0 : ((S.length : Int) == 0) = true := by rw [HS.out]; rfl
    go_enter Try.func8, Try.ntmps8
    go_wp2
    go_ret
    exact ⟨ret_bool (by rw [HP.out]), Below.refl _ _⟩
  obtain ⟨hk1, hk2⟩ := hk h0
  have HP : Hid (spoiltP S T room k = !(witP (S.set k (flipE (S.getD k default))) T room).isSome) := by show _ = _; simp only [spoiltP, if_neg h0]
  have e0 : ((S.length : Int) == 0) = false := by rw [beq_eq_false_iff_ne]; omega
  have q1 : IntKind.u64.wrap (S.length : Int) = (S.length : Int) := IntWalk.u64_in _ (by omega)
  have q2 : IntKind.i64.wrap (k : Int) = (k : Int) := IntWalk.i64_in _ (by omega)
  rcases hS with h1 | ⟨b, o, rfl, hr⟩
  · rw [h1] at h0; exact absurd rfl h0
  have HN := Lib.hid (reads_news hr)
  have HT := Lib.hid hT
  have HoS := Lib.hid oS
  have HoT := Lib.hid oT
  clear hT oS oT hr h0
  obtain ⟨i0, hi0, hz0, hz1', hz2'⟩ := info_parts Try.info32
  go_enter Try.func8, Try.ntmps8
  go_wp2_with (at_builtin; refine wpList_append_own_at _ rfl _ _ 25 rfl w.heap.size 32 i0 _ 8 80 Try.underlying25 hi0 hz0 hz1' hz2' rfl (by decide) (.slice (some ⟨w.heap.size, 0, none⟩) 0 0) 0 [] rfl (World.ownsRow_lit w #[] 0 (Nat.le_refl _) (by decide) rfl) ⟨b, o, none⟩ S.length cS (flat S) rfl ?c1 ?c2 ?c3 ?c4 ?c5 ?c6 ?_)
  case c1 => exact flat_len S
  case c2 => intro j u hu; have := HN.out j u hu; exact ((below_al (Below.refl _ _) _).cell (World.block_lt_of_cell? w _ this)).trans this
  case c3 => exact oneCell_flat S
  case c4 => unfold maxLen; omega
  case c5 => omega
  case c6 => simp
  intro v' w3 ho3 hg3 _ _
  have hb3 : Below w.heap.size w w3 := by
    have h1 : Below w.heap.size w (w.alloc (.cells #[] 32)) := below_al (Below.refl _ _) _
    exact h1.trans ⟨hg3.os, hg3.tape, hg3.output, hg3.size, fun q hq => hg3.block q (by simp; omega) (fun e => by simp [Value.ownBlock] at e; omega)⟩
  replace ho3 : w3.ownsRow w.heap.size 32 8 v' S.length (flat S) := by simpa using ho3
  obtain ⟨A, c, rfl⟩ := own_slice ho3
  have hA : ∃ g, A = some ⟨g, 0, none⟩ := by
    rcases ho3.2 with ⟨_, h0⟩ | ⟨g, cap, cur, e1, _⟩
    · omega
    · exact ⟨g, by injection e1⟩
  obtain ⟨g, rfl⟩ := hA
  have hc5 := (own_entry ho3 k hk2).2.2.2.2.2.1
  have HB3 := Lib.hid hb3
  have HO3 := Lib.hid ho3
  clear ho3 hg3 hb3
  generalize hx : S.getD k default = x at *
  have HX := Lib.hid hx
  clear hx
  have hgf : ∀ o, w3.frozen? ⟨g, o, none⟩ = false := by
    rcases HO3.out.2 with ⟨h0, _⟩ | ⟨g', cap, cur, e1, _, e3, _⟩
    · cases h0
    · have : g = g' := by injection e1 with e1; injection e1 with e1; injection e1
      subst this
      intro o
      simp [World.frozen?, e3]
  have hgf := hgf (k * 8 + 5)
  by_cases he : x.err = 0
  · have e1 : (x.err == 0) = true := by rw [he]; rfl
    go_wp2_with fail
    have hfl : flipE x = x.fail 5 := by simp [flipE, he]
    obtain ⟨hst, hgr⟩ := HO3.out.stored (k * 8 + 5) (.int .i64 5)
    rw [flat_fail S k 5 hk2, HX.out, ← hfl] at hst
    have hbf : Below w.heap.size w (w3.setCell ⟨g, k * 8 + 5, none⟩ (.int .i64 5)) := below_row HB3.out HO3.out (by simpa [Value.ownBlock] using hgr) HB3.out.size
    have hOE : OwnE (w3.setCell ⟨g, k * 8 + 5, none⟩ (.int .i64 5)) w.heap.size (.slice (some ⟨g, 0, none⟩) S.length c) (S.set k (flipE x)) := by
      unfold OwnE
      rw [List.length_set]
      exact hst
    obtain ⟨A2, c2, ea, hr2, hc2, _⟩ := own_readsE hOE
    rw [List.length_set] at ea hc2
    injection ea with ea1 _ ea2
    subst ea1 ea2
    have hfl2 := (HoS.out.flip k hk2).below hbf
    rw [HX.out] at hfl2
    refine (fits_any _ (some ⟨g, 0, none⟩) AT c cT (S.set k (flipE x)) T room hr2 (HT.out.below hbf) hfl2 (HoT.out.below hbf) S.length T.length (by simp) rfl lS lT hc2 kT (by simp) zT).mono ?_
    rintro e w4 ⟨rfl, hb⟩
    have HB4 := Lib.hid (hbf.trans (hb.mono hbf.size))
    clear hb hbf hOE hr2 hfl2 hst hgr hfl
    go_wp2
    go_ret
    exact ⟨ret_bool (by rw [HP.out]; cases witP (S.set k (flipE x)) T room <;> rfl), HB4.out⟩
  · have e1 : (x.err == 0) = false := by simpa using he
    go_wp2_with fail
    have hfl : flipE x = x.fail 0 := by simp [flipE, he]
    obtain ⟨hst, hgr⟩ := HO3.out.stored (k * 8 + 5) (.int .i64 0)
    rw [flat_fail S k 0 hk2, HX.out, ← hfl] at hst
    have hbf : Below w.heap.size w (w3.setCell ⟨g, k * 8 + 5, none⟩ (.int .i64 0)) := below_row HB3.out HO3.out (by simpa [Value.ownBlock] using hgr) HB3.out.size
    have hOE : OwnE (w3.setCell ⟨g, k * 8 + 5, none⟩ (.int .i64 0)) w.heap.size (.slice (some ⟨g, 0, none⟩) S.length c) (S.set k (flipE x)) := by
      unfold OwnE
      rw [List.length_set]
      exact hst
    obtain ⟨A2, c2, ea, hr2, hc2, _⟩ := own_readsE hOE
    rw [List.length_set] at ea hc2
    injection ea with ea1 _ ea2
    subst ea1 ea2
    have hfl2 := (HoS.out.flip k hk2).below hbf
    rw [HX.out] at hfl2
    refine (fits_any _ (some ⟨g, 0, none⟩) AT c cT (S.set k (flipE x)) T room hr2 (HT.out.below hbf) hfl2 (HoT.out.below hbf) S.length T.length (by simp) rfl lS lT hc2 kT (by simp) zT).mono ?_
    rintro e w4 ⟨rfl, hb⟩
    have HB4 := Lib.hid (hbf.trans (hb.mono hbf.size))
    clear hb hbf hOE hr2 hfl2 hst hgr hfl
    go_wp2
    go_ret
    exact ⟨ret_bool (by rw [HP.out]; cases witP (S.set k (flipE x)) T room <;> rfl), HB4.out⟩

end Go.Proofs.Ytcljbhiammofjaa
