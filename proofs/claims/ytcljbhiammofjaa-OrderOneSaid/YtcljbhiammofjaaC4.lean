/- The statement of one after another, walked. -/
import Derived.Test.YtcljbhiammofjaaC3
import Derived.Deep.CutBlock
import Derived.BigFrame
namespace Go.Proofs.Ytcljbhiammofjaa
open Go.RowKit

theorem Try.info27 : (Try.prog.info? 27).map (fun i => (i.zero, i.size, i.bytes)) = some (some (.slice none 0 0), 1, 24) := by kernel_rfl

theorem tmod3 (a : Int) : -2 ≤ a.tmod 3 ∧ a.tmod 3 ≤ 2 := by
  have := Int.natAbs_tmod a 3
  have h2 : (3 : Int).natAbs = 3 := rfl
  rw [h2] at this
  omega
theorem ReadsA.at {w wr : World} {b o : Nat} {l : List Ask} (h : ∀ i, i < l.length → w.cell? ⟨b, o + i * 2, none⟩ = some (.int .i64 (l.getD i default).kind) ∧ w.cell? ⟨b, o + i * 2 + 1, none⟩ = some (l.getD i default).ld.val) (hb : Below w.heap.size w wr) (j : Nat) (hj : j < l.length) (a : Ask) (ha : l.getD j default = a) :
    wr.cell? ⟨b, o + j * 2, none⟩ = some (.int .i64 a.kind) ∧ wr.cell? ⟨b, o + j * 2 + 1, none⟩ = some (.slice a.ld.adr a.ld.len a.ld.cap) := by
  subst ha
  obtain ⟨h1, h2⟩ := h j hj
  have hlt := World.block_lt_of_cell? w _ h1
  exact ⟨(hb.cell hlt).trans h1, (hb.cell (World.block_lt_of_cell? w _ h2)).trans h2⟩

theorem Four.putW {w W w' : World} {S T : List En} {N N' : List Int} {L : List Ld} {a b c d c' : Value} (h : Four w W S T N L a b c d) (ho : OwnI w' w.heap.size c' N') (hg : W.grownBy w' c.ownBlock) (hn : c'.ownBlock = c.ownBlock ∨ c'.ownBlock = some W.heap.size) :
    Four w w' S T N' L a b c' d where
  os := h.os.kept hg h.ac
  ot := h.ot.kept hg h.bc
  ow := ho
  ol := h.ol.kept hg h.cd.symm
  bel := below_row h.bel h.ow hg h.bel.size
  ab := h.ab
  ac := h.ac.grown h.os hn
  ad := h.ad
  bc := h.bc.grown h.ot hn
  bd := h.bd
  cd := (h.cd.symm.grown h.ol hn).symm
theorem raws_bound : ∀ (E : List En) (i k : Nat), ∀ x ∈ rawsP i k E, -((i + E.length : Nat) : Int) - 1 ≤ x ∧ x ≤ ((k + E.length : Nat) : Int)
  | [], _, _, x, hx => by simp [rawsP] at hx
  | e :: E, i, k, x, hx => by
    simp only [rawsP] at hx
    split at hx
    · rcases List.mem_cons.1 hx with rfl | hx
      · simp only [List.length_cons]; omega
      · have := raws_bound E (i + 1) k x hx
        simp only [List.length_cons]; omega
    · rcases List.mem_cons.1 hx with rfl | hx
      · simp only [List.length_cons]; omega
      · have := raws_bound E i (k + 1) x hx
        simp only [List.length_cons]; omega
/-- the names, the first k of which are as they shall be. -/
def halfP (ns : Nat) (l : List Int) (k : Nat) : List Int := (l.take k).map (convP ns) ++ l.drop k
theorem half_len (ns : Nat) (l : List Int) (k : Nat) : (halfP ns l k).length = l.length := by simp [halfP]; omega
theorem half_get (ns : Nat) (l : List Int) (k : Nat) (h : k < l.length) : (halfP ns l k)[k]? = some (l.getD k 0) := by
  unfold halfP
  rw [List.getElem?_append_right (by simp; omega)]
  simp [List.getElem?_drop, List.getD_eq_getElem?_getD, h, Nat.min_eq_left (Nat.le_of_lt h)]
theorem half_set (ns : Nat) (l : List Int) (k : Nat) (h : k < l.length) : (halfP ns l k).set k (convP ns (l.getD k 0)) = halfP ns l (k + 1) := by
  unfold halfP
  have hl : ((l.take k).map (convP ns)).length = k := by simp; omega
  have e1 : l.drop k = l[k] :: l.drop (k + 1) := List.drop_eq_getElem_cons h
  have e2 : l.getD k 0 = l[k] := by simp [List.getD_eq_getElem?_getD, h]
  rw [List.set_append_right _ _ (by omega), hl, Nat.sub_self, e1, e2, List.take_succ_eq_append_getElem h]
  simp only [List.set_cons_zero, List.map_append, List.map_cons, List.map_nil, List.append_assoc, List.cons_append, List.nil_append]
theorem half_all (ns : Nat) (l : List Int) : halfP ns l l.length = l.map (convP ns) := by simp [halfP]
theorem raws_len : ∀ (E : List En) (i k : Nat), (rawsP i k E).length = E.length
  | [], _, _ => rfl
  | e :: E, i, k => by
    simp only [rawsP]
    split <;> simp [raws_len E]
theorem Run.add {r r' : Run} {e : En} (h : r'.E = r.E ++ [e]) : (e.isS = true → r'.S = r.S ++ [e] ∧ r'.T = r.T ∧ r'.W = r.W ++ [-(r.S.length : Int) - 1]) ∧ (e.isS = false → r'.S = r.S ∧ r'.T = r.T ++ [e] ∧ r'.W = r.W ++ [(r.T.length : Int)]) := by
  unfold Run.S Run.T Run.W
  rw [h, raws_append, List.filter_append, List.filter_append]
  refine ⟨fun hs => ?_, fun hs => ?_⟩ <;> simp [hs]

set_option maxHeartbeats 16000000 in
set_option maxRecDepth 100000 in
theorem oo_any (w : World) (room which : Int) (A : Option Addr) (n c : Nat) (l : List Ask) (hA : ReadsA w A l) (hl : l.length = n) (hn : n ≤ 9223372036854775807) (hx : ∀ x ∈ l, x.ld.load.length = x.ld.len ∧ x.ld.len ≤ 9223372036854775807 ∧ ReadsI w x.ld.adr x.ld.load)
    (hw : 0 ≤ which) :
    Calls Try.prog 3 #[.int .i64 room, .slice A n c, .int .u64 which] w fun e w' => e = .returned (.bool true) ∧ Below w.heap.size w w' := by
  subst hl
  by_cases hg : room < 0 ∨ 20 < room ∨ 40 < (l.length : Int)
  · have g1 : decide (room < 0) = true ∨ (decide (room < 0) = false ∧ decide ((20 : Int) < room) = true) ∨ (decide (room < 0) = false ∧ decide ((20 : Int) < room) = false ∧ decide ((40 : Int) < (l.length : Int)) = true) := by
      simp only [decide_eq_true_eq, decide_eq_false_iff_not]; omega
    clear hA hx hg
    rcases g1 with g1 | ⟨g1, g2⟩ | ⟨g1, g2, g3⟩
    all_goals
      go_enter Try.func3, Try.ntmps3
      go_wp2_with fail
      refine (alive_any w).mono ?_
      rintro e w2 ⟨rfl, hb⟩
      have HB2 := Lib.hid hb
      clear hb
      go_wp2
      go_ret
      exact ⟨rfl, HB2.out⟩
  have g1 : decide (room < 0) = false := by simp only [decide_eq_false_iff_not]; omega
  have g2 : decide ((20 : Int) < room) = false := by simp only [decide_eq_false_iff_not]; omega
  have g3 : decide ((40 : Int) < (l.length : Int)) = false := by simp only [decide_eq_false_iff_not]; omega
  have hr0 : 0 ≤ room := by omega
  have hr20 : room ≤ 20 := by omega
  have hl40 : l.length ≤ 40 := by omega
  have HA := Lib.hid hA
  have HX := Lib.hid hx
  clear hA hx hg
  go_enter Try.func3, Try.ntmps3
  go_wp2_with fail
  go_loopg [7, 8, 9, 10, 11, 12, 34] l.length (fun q s7 s8 s9 s10 s11 s12 s34 wr => ∃ j : Nat, s34 = .int .i64 j ∧ j + q = l.length ∧ s11 = .int .i64 (runP room l j).got ∧ s12 = .int .i64 (runP room l j).back ∧
    Oks w (runP room l j) ∧ Four w wr (runP room l j).S (runP room l j).T (runP room l j).W (runP room l j).L s7 s8 s9 s10)
  case atStart => exact ⟨0, rfl, by omega, rfl, rfl, ⟨by simp [runP], by simp [runP]⟩, Four.zero w⟩
  case round =>
    obtain ⟨j, rfl, hj, rfl, rfl, hok, hfo⟩ := hrel
    have HJ := Lib.hid hj
    have HO := Lib.hid hok
    have HF := Lib.hid hfo
    have HR := Lib.hid (runP_fair room hr0 l j)
    clear hj hok hfo
    by_cases hlt : j < l.length
    · rcases HA.out with h0 | ⟨b, o, rfl, hr⟩
      · rw [h0] at hlt; exact absurd hlt (by simp)
      obtain ⟨c0, c1⟩ := ReadsA.at hr HF.out.bel j hlt _ rfl
      have hbb := World.block_lt_of_cell? wr _ c0
      simp only at hbb
      have hxa := HX.out (l.getD j default) (by rw [List.getD_eq_getElem?_getD, List.getElem?_eq_getElem hlt]; exact List.getElem_mem hlt)
      have hS : runP room l (j + 1) = stepP room (runP room l j) j (l.getD j default) := rfl
      generalize l.getD j default = a at *
      generalize hrr : runP room l j = r at *
      have HS := Lib.hid hS
      have HXA := Lib.hid hxa
      have hlen := hxa.2.1
      clear hr hS hxa
      by_cases h8 : 8 < a.ld.len
      · have d8 : decide ((8 : Int) < (a.ld.len : Int)) = true := by simp only [decide_eq_true_eq]; omega
        go_wp2_with fail
        refine (alive_any _).mono ?_
        rintro e w2 ⟨rfl, hb⟩
        have hb1 : Below w.heap.size w (wr.alloc (.cells #[.int .i64 a.kind, .slice a.ld.adr a.ld.len a.ld.cap] 29)) := HF.out.bel.alloc HF.out.bel.size _
        have HB2 := Lib.hid (hb1.trans (hb.mono hb1.size))
        clear hb hb1
        go_wp2
        go_ret
        exact ⟨rfl, HB2.out⟩
      · have d8 : decide ((8 : Int) < (a.ld.len : Int)) = false := by simp only [decide_eq_false_iff_not]; omega
        have hq2 := tmod3 a.kind
        obtain ⟨q, hq⟩ : ∃ q, a.kind.tmod 3 = q := ⟨_, rfl⟩
        rw [hq] at hq2
        have q1 : IntKind.i64.wrap (1 + q) = 1 + q := IntWalk.i64_in _ (by omega)
        have q2 : IntKind.i64.wrap (2 * (j : Int)) = 2 * (j : Int) := IntWalk.i64_in _ (by omega)
        have q3 : IntKind.i64.wrap (2 * (j : Int) + 1) = 2 * (j : Int) + 1 := IntWalk.i64_in _ (by omega)
        have q4 : IntKind.i64.wrap (2 * (j : Int) + 2) = 2 * (j : Int) + 2 := IntWalk.i64_in _ (by omega)
        go_upto_block 2 with fail
        generalize hW0 : wr.alloc (.cells #[.int .i64 a.kind, .slice a.ld.adr a.ld.len a.ld.cap] 29) = W0
        generalize hW1 : W0.alloc (.cells #[.int .i64 0, .int .i64 0, .int .i64 (1 + q), .int .i64 (2 * j + 1), .int .i64 (2 * j + 2), .int .i64 0, .slice none 0 0, .int .i64 0] 32) = W1
        change W0.alloc (.cells (blank q j).cells 32) = W1 at hW1
        have s0 : W0.heap.size = wr.heap.size + 1 := by rw [← hW0]; simp
        have n1 : W1.heap[wr.heap.size + 1]? = some (.cells (blank q j).cells 32 (0, 0)) := by rw [← s0, ← hW1]; exact new_block _ _
        have n0 : W1.heap[wr.heap.size]? = some (.cells #[.int .i64 a.kind, .slice a.ld.adr a.ld.len a.ld.cap] 29 (0, 0)) := by
          rw [← hW1, (below_al (Below.refl _ _) _).block _ (by omega), ← hW0]; exact new_block _ _
        have b1 : Below wr.heap.size wr W1 := by rw [← hW1, ← hW0]; exact below_al (below_al (Below.refl _ _) _) _
        have s1 : W1.heap.size = wr.heap.size + 2 := by rw [← hW1]; simp [s0]
        have f0 := HF.out.below b1
        have k0 : W1.cell? ⟨wr.heap.size, 0, none⟩ = some (.int .i64 a.kind) := by simp [World.cell?, n0]
        have k1 : W1.cell? ⟨wr.heap.size, 1, none⟩ = some (.slice a.ld.adr a.ld.len a.ld.cap) := by simp [World.cell?, n0]
        have k5 : W1.frozen? ⟨wr.heap.size + 1, 5, none⟩ = false := by simp [World.frozen?, n1, blank, En.cells]
        have k6 : W1.frozen? ⟨wr.heap.size + 1, 6, none⟩ = false := by simp [World.frozen?, n1, blank, En.cells]
        have m5 : W1.cell? ⟨wr.heap.size + 1, 5, none⟩ = some (.int .i64 0) := by simp [World.cell?, n1, blank, En.cells]
        have m6 : W1.cell? ⟨wr.heap.size + 1, 6, none⟩ = some (.slice none 0 0) := by simp [World.cell?, n1, blank, En.cells]
        have HW := Lib.hid f0
        have N1 := Lib.hid n1
        have S1 := Lib.hid s1
        have HB1 := Lib.hid b1
        clear n0 n1 b1 f0 hW0 hW1 s0 s1 c0 c1 W0
        obtain ⟨A7, e7, rfl⟩ := own_slice HW.out.os
        obtain ⟨A8, e8, rfl⟩ := own_slice HW.out.ot
        obtain ⟨A9, e9, rfl⟩ := own_slice HW.out.ow
        obtain ⟨A10, e10, rfl⟩ := own_slice HW.out.ol
        have HFS := HR.out.step a
        have HOS := Lib.hid (HO.out.step (room := room) (i := j) (a := a) ⟨HXA.out.1, by omega, HXA.out.2.2⟩ HR.out.gl)
        have hgl := HR.out.gl
        have hbg := HR.out.bg
        have hEl := HR.out.len
        have hLl : r.L.length ≤ 40 := by
          have h1 := congrArg List.length HR.out.ld
          rw [List.length_map] at h1
          have h2 : (r.S.filter En.fine).length ≤ r.E.length := Nat.le_trans (List.length_filter_le _ _) (List.length_filter_le _ _)
          omega
        have HG := Lib.hid hgl
        have HBG := Lib.hid hbg
        have HEL := Lib.hid hEl
        have HFS := Lib.hid HFS
        go_cut [10, 11, 12] (fun s10 s11 s12 wx => ∃ (r' : Run) (e : En), stepP room r j a = r' ∧ r'.E = r.E ++ [e] ∧ s11 = .int .i64 r'.got ∧ s12 = .int .i64 r'.back ∧
          Four w wx r.S r.T r.W r'.L (.slice A7 r.S.length e7) (.slice A8 r.T.length e8) (.slice A9 r.W.length e9) s10 ∧ wx.heap[wr.heap.size + 1]? = some (.cells e.cells 32 (0, 0)))
        case first =>
          have hB1 : wr.heap.size ≤ wr.heap.size + 1 := by omega
          have hk : q = 0 ∨ q = 1 ∨ (q = 2 ∧ r.back < r.got) ∨ (q ≠ 0 ∧ q ≠ 1 ∧ ¬ (q = 2 ∧ r.back < r.got)) := by omega
          rcases hk with q0 | q0 | ⟨q0, hbk⟩ | ⟨n0, n1, n2⟩
          · subst q0
            have p1 : IntKind.i64.wrap ((r.L.length : Int) - (r.back : Int)) = (r.L.length : Int) - (r.back : Int) := IntWalk.i64_in _ (by omega)
            by_cases hf : room ≤ (r.L.length : Int) - r.back
            · have d1 : decide (room ≤ (r.L.length : Int) - r.back) = true := decide_eq_true hf
              have HP : Hid (stepP room r j a = ⟨r.E ++ [((blank 0 j).with a.ld).fail 5], r.L, r.got, r.back⟩) := by show _ = _; simp [stepP, hq, hf]
              clear hf
              go_wp2
              go_meet
              refine ⟨_, _, HP.out, rfl, rfl, rfl, HF.out.below (below_set (below_set HB1.out hB1 _) hB1 _), ?_⟩
              have h1 := heap_setCell_same W1 (wr.heap.size + 1) 6 _ 32 (.slice a.ld.adr a.ld.len a.ld.cap) N1.out
              have h2 := heap_setCell_same _ (wr.heap.size + 1) 5 _ 32 (.int .i64 5) h1
              simpa [blank, En.cells, En.with, En.fail] using h2
            · have d1 : decide (room ≤ (r.L.length : Int) - r.back) = false := decide_eq_false hf
              have HP : Hid (stepP room r j a = ⟨r.E ++ [(blank 0 j).with a.ld], r.L ++ [a.ld], r.got, r.back⟩) := by show _ = _; simp [stepP, hq, hf]
              clear hf
              have hb2 : Below wr.heap.size wr ((W1.setCell ⟨wr.heap.size + 1, 6, none⟩ (.slice a.ld.adr a.ld.len a.ld.cap)).alloc (.cells #[.slice a.ld.adr a.ld.len a.ld.cap] 26)) := below_al (below_set HB1.out hB1 _) _
              have HF2 := Lib.hid (HF.out.below hb2)
              have h1 := heap_setCell_same W1 (wr.heap.size + 1) 6 _ 32 (.slice a.ld.adr a.ld.len a.ld.cap) N1.out
              have HN2 := Lib.hid h1
              clear hb2 h1
              obtain ⟨i0, hi0, hz0, hz1', hz2'⟩ := info_parts Try.info26
              go_wp2_with (at_builtin; refine wpList_append_own_at _ rfl _ _ 27 rfl w.heap.size 26 i0 (.slice none 0 0) 1 24 Try.underlying27 hi0 hz0 hz1' hz2' rfl (by decide) (.slice A10 r.L.length e10) r.L.length (r.L.map Ld.val) rfl HF2.out.ol ⟨W1.heap.size, 0, none⟩ 1 1 [.slice a.ld.adr a.ld.len a.ld.cap] rfl rfl ?c2 ?c3 ?c4 ?c5 ?c6 ?_)
              case c2 => exact news_one (by have := new_block (W1.setCell ⟨wr.heap.size + 1, 6, none⟩ (.slice a.ld.adr a.ld.len a.ld.cap)) (.cells #[.slice a.ld.adr a.ld.len a.ld.cap] 26); simp at this; simp [World.cell?, this])
              case c3 => intro u hu; simp at hu; subst hu; rfl
              case c4 => unfold maxLen; omega
              case c5 => omega
              case c6 => exact HF2.out.bel.size
              intro v' w4 ho4 hg4 _ hv4
              have HF4 := Lib.hid (HF2.out.addL (e := a.ld) ho4 hg4 (by simpa using hv4))
              have hne : ∀ q, (Value.slice A10 r.L.length e10).ownBlock = some q → q < wr.heap.size := fun q hq => own_lt HF.out.ol hq
              have h5 := hg4.block (wr.heap.size + 1) (by simp; have := S1.out; omega) (fun e => by have := hne _ e.symm; omega)
              rw [(below_al (Below.refl _ _) _).block _ (by simp; have := S1.out; omega), HN2.out] at h5
              have HN4 := Lib.hid h5
              clear ho4 hg4 hv4 hne h5
              go_wp2
              go_meet
              refine ⟨_, _, HP.out, rfl, rfl, rfl, HF4.out, ?_⟩
              rw [HN4.out]
              simp [blank, En.cells, En.with]
          · subst q0
            by_cases hf : r.got < r.L.length
            · have d1 : decide ((r.got : Int) < (r.L.length : Int)) = true := decide_eq_true (by omega)
              have d2 : decide (r.got < r.L.length) = true := decide_eq_true (by omega)
              have HP : Hid (stepP room r j a = ⟨r.E ++ [(blank 1 j).with (r.L.getD r.got default)], r.L, r.got + 1, r.back⟩) := by show _ = _; simp [stepP, hq, hf]
              have p2 : IntKind.i64.wrap ((r.got : Int) + 1) = (r.got : Int) + 1 := IntWalk.i64_in _ (by omega)
              have hA10 : ∃ g, A10 = some ⟨g, 0, none⟩ := by
                rcases HW.out.ol.2 with ⟨_, h0⟩ | ⟨g, cap, cur, e1, _⟩
                · omega
                · exact ⟨g, by injection e1⟩
              obtain ⟨g, rfl⟩ := hA10
              have cL : W1.cell? ⟨g, r.got, none⟩ = some (.slice (r.L.getD r.got default).adr (r.L.getD r.got default).len (r.L.getD r.got default).cap) := by
                rw [own_cell HW.out.ol r.got (by simpa using hf), List.getElem?_map, List.getD_eq_getElem?_getD, List.getElem?_eq_getElem hf]
                rfl
              generalize r.L.getD r.got default = y at *
              go_wp2
              go_meet
              refine ⟨_, _, HP.out, rfl, by simp, rfl, HF.out.below (below_set HB1.out hB1 _), ?_⟩
              have h1 := heap_setCell_same W1 (wr.heap.size + 1) 6 _ 32 (.slice y.adr y.len y.cap) N1.out
              simpa [blank, En.cells, En.with, En.fail] using h1
            · have d1 : decide ((r.got : Int) < (r.L.length : Int)) = false := decide_eq_false (by omega)
              have d2 : decide (r.got < r.L.length) = false := decide_eq_false (by omega)
              have HP : Hid (stepP room r j a = ⟨r.E ++ [(blank 1 j).fail 6], r.L, r.got, r.back⟩) := by show _ = _; simp [stepP, hq, hf]
              clear hf
              go_wp2
              go_meet
              refine ⟨_, _, HP.out, rfl, rfl, rfl, HF.out.below (below_set HB1.out hB1 _), ?_⟩
              have h1 := heap_setCell_same W1 (wr.heap.size + 1) 5 _ 32 (.int .i64 6) N1.out
              simpa [blank, En.cells, En.with, En.fail] using h1
          · subst q0
            have d1 : decide ((r.back : Int) < (r.got : Int)) = true := decide_eq_true (by omega)
            have d2 : decide (r.back < r.got) = true := decide_eq_true (by omega)
            have HP : Hid (stepP room r j a = ⟨r.E ++ [blank 2 j], r.L, r.got, r.back + 1⟩) := by show _ = _; simp [stepP, hq, hbk]
            have p2 : IntKind.i64.wrap ((r.back : Int) + 1) = (r.back : Int) + 1 := IntWalk.i64_in _ (by omega)
            clear hbk
            go_wp2
            go_meet
            exact ⟨_, _, HP.out, rfl, rfl, by simp, HW.out, N1.out⟩
          · have HP : Hid (stepP room r j a = r) := by
              show _ = _
              unfold stepP
              simp only [hq]
              rw [if_neg n0, if_neg (by omega), if_neg n1, if_neg n2]
            have t0 : (q == 0) = false := by simpa using n0
            have t1 : (q == 1) = false := by simpa using n1
            have p3 : IntKind.i64.wrap ((j : Int) + 1) = (j : Int) + 1 := IntWalk.i64_in _ (by omega)
            by_cases h2 : q = 2
            · have t2 : (q == 2) = true := by simpa using h2
              have d1 : decide ((r.back : Int) < (r.got : Int)) = false := decide_eq_false (by omega)
              have d2 : decide (r.back < r.got) = false := decide_eq_false (by omega)
              clear n0 n1 n2 h2
              go_wp2
              go_roundg (gk - 1)
              case measure => have := HJ.out; omega
              case rel => exact ⟨j + 1, by simp, by have := HJ.out; omega, by rw [HS.out, HP.out], by rw [HS.out, HP.out], by rw [HS.out, HP.out]; exact HO.out, by rw [HS.out, HP.out]; exact HW.out⟩
            · have t2 : (q == 2) = false := by simpa using h2
              clear n0 n1 n2 h2
              go_wp2
              go_roundg (gk - 1)
              case measure => have := HJ.out; omega
              case rel => exact ⟨j + 1, by simp, by have := HJ.out; omega, by rw [HS.out, HP.out], by rw [HS.out, HP.out], by rw [HS.out, HP.out]; exact HO.out, by rw [HS.out, HP.out]; exact HW.out⟩
        case rest =>
          obtain ⟨r', e, hr1, hr2, rfl, rfl, hfo, hen⟩ := hcut
          have hS1 : runP room l (j + 1) = r' := HS.out.trans hr1
          obtain ⟨A11, e11, rfl⟩ := own_slice hfo.ol
          have hWl : r.W.length ≤ r.E.length := Nat.le_of_eq (raws_len _ _ _)
          have hSl : r.S.length ≤ r.E.length := List.length_filter_le _ _
          have hTl : r.T.length ≤ r.E.length := List.length_filter_le _ _
          have hB := lt_of_block hen
          have HS1 := Lib.hid hS1
          have HR1 := Lib.hid hr1
          have HF5 := Lib.hid hfo
          have HN5 := Lib.hid hen
          have HA1 := Lib.hid (Run.add hr2)
          have cE : ∀ W : World, W.heap[wr.heap.size + 1]? = some (.cells e.cells 32 (0, 0)) → W.cell? ⟨wr.heap.size + 1, 0, none⟩ = some (.int .i64 e.core) ∧ W.cell? ⟨wr.heap.size + 1, 1, none⟩ = some (.int .i64 e.peer) ∧ W.cell? ⟨wr.heap.size + 1, 2, none⟩ = some (.int .i64 e.kind) ∧ W.cell? ⟨wr.heap.size + 1, 3, none⟩ = some (.int .i64 e.bg)
              ∧ W.cell? ⟨wr.heap.size + 1, 4, none⟩ = some (.int .i64 e.nd) ∧ W.cell? ⟨wr.heap.size + 1, 5, none⟩ = some (.int .i64 e.err) ∧ W.cell? ⟨wr.heap.size + 1, 6, none⟩ = some (.slice e.adr e.len e.cap) ∧ W.cell? ⟨wr.heap.size + 1, 7, none⟩ = some (.int .i64 e.handle) := by
            intro W hW
            simp [World.cell?, hW, En.cells]
          have k2 := (cE wc hen).2.2.1
          have HCE := Lib.hid cE
          have p3 : IntKind.i64.wrap ((j : Int) + 1) = (j : Int) + 1 := IntWalk.i64_in _ (by omega)
          clear hS1 hr1 hr2 hfo hen k0 k1 k5 k6 m5 m6 cE N1 S1 HB1 HW HR
          obtain ⟨i3, hi3, hy0, hy1, hy2⟩ := info_parts Try.info3
          obtain ⟨i0, hi0, hz0, hz1', hz2'⟩ := info_parts Try.info32
          by_cases hk1 : e.kind = 1
          · have t1 : (e.kind == 1) = true := by simpa using hk1
            have p4 : IntKind.i64.wrap (-(r.S.length : Int)) = -(r.S.length : Int) := IntWalk.i64_in _ (by omega)
            have p5 : IntKind.i64.wrap (-(r.S.length : Int) - 1) = -(r.S.length : Int) - 1 := IntWalk.i64_in _ (by omega)
            obtain ⟨g1, g2, g3⟩ := HA1.out.1 t1
            have G1 := Lib.hid g1
            have G2 := Lib.hid g2
            have G3 := Lib.hid g3
            clear g1 g2 g3 hk1
            have HF6 := Lib.hid (HF5.out.below (below_al (Below.refl _ _) (.cells #[.int .i64 (-(r.S.length : Int) - 1)] 3)))
            go_wp2_with (at_builtin; refine wpList_append_own_at _ rfl _ _ 26 rfl w.heap.size 3 i3 (.int .i64 0) 1 8 Try.underlying26 hi3 hy0 hy1 hy2 rfl (by decide) (.slice A9 r.W.length e9) r.W.length (r.W.map (Value.int .i64)) rfl HF6.out.ow ⟨wc.heap.size, 0, none⟩ 1 1 [.int .i64 (-(r.S.length : Int) - 1)] rfl rfl ?c2 ?c3 ?c4 ?c5 ?c6 ?_)
            case c2 => exact news_one (by have := new_block wc (.cells #[.int .i64 (-(r.S.length : Int) - 1)] 3); simp only [World.cell?, this]; rfl)
            case c3 => intro u hu; simp at hu; subst hu; rfl
            case c4 => unfold maxLen; omega
            case c5 => omega
            case c6 => exact HF6.out.bel.size
            intro v9 w4 ho4 hg4 _ hv4
            have hFF := HF6.out.addW ho4 hg4 (by simpa using hv4)
            have hne : ∀ q, (Value.slice A9 r.W.length e9).ownBlock = some q → q < wr.heap.size := fun q hq => own_lt HF.out.ow hq
            have h5 := hg4.block (wr.heap.size + 1) (by simp; omega) (fun e => by have := hne _ e.symm; omega)
            rw [(below_al (Below.refl _ _) _).block _ hB, HN5.out] at h5
            have hB4 := lt_of_block h5
            obtain ⟨d0, d1, d2, d3, d4, d5, d6, d7⟩ := HCE.out w4 h5
            have HF7 := Lib.hid (hFF.below (below_al (Below.refl _ _) (.cells e.cells 32)))
            clear ho4 hg4 hv4 hne h5 k2 hFF
            go_wp2_with (at_builtin; refine wpList_append_own_at _ rfl _ _ 25 rfl w.heap.size 32 i0 _ 8 80 Try.underlying25 hi0 hz0 hz1' hz2' rfl (by decide) (.slice A7 r.S.length e7) r.S.length (flat r.S) rfl HF7.out.os ⟨w4.heap.size, 0, none⟩ 1 1 (flat [e]) rfl ?d1 ?d2 ?d3 ?d4 ?d5 ?d6 ?_)
            case d1 => rfl
            case d2 =>
              have hnr : Reads (w4.alloc (.cells e.cells 32)) w4.heap.size 0 [e] := by
                rcases reads_one w4 e with h | ⟨b', o', h, hr'⟩
                · simp at h
                · have h1 : b' = w4.heap.size := by injection h with h; injection h with h; exact h.symm
                  have h2 : o' = 0 := by injection h with h; injection h with _ h; exact h.symm
                  rw [h1, h2] at hr'
                  exact hr'
              exact reads_news hnr
            case d3 => exact oneCell_flat _
            case d4 => unfold maxLen; omega
            case d5 => omega
            case d6 => exact HF7.out.bel.size
            intro v7 w5 ho5 hg5 _ hv5
            have HF8 := Lib.hid (HF7.out.addS ho5 hg5 (by simpa using hv5))
            clear ho5 hg5 hv5
            go_wp2
            go_roundg (gk - 1)
            case measure => have := HJ.out; omega
            case rel =>
              refine ⟨j + 1, by simp, by have := HJ.out; omega, by rw [HS1.out], by rw [HS1.out], by rw [HS1.out, ← HR1.out]; exact HOS.out, ?_⟩
              rw [HS1.out, G1.out, G2.out, G3.out]
              exact HF8.out
          · have t1 : (e.kind == 1) = false := by simpa using hk1
            obtain ⟨g1, g2, g3⟩ := HA1.out.2 t1
            have G1 := Lib.hid g1
            have G2 := Lib.hid g2
            have G3 := Lib.hid g3
            clear g1 g2 g3 hk1
            have HF6 := Lib.hid (HF5.out.below (below_al (Below.refl _ _) (.cells #[.int .i64 ((r.T.length : Int))] 3)))
            go_wp2_with (at_builtin; refine wpList_append_own_at _ rfl _ _ 26 rfl w.heap.size 3 i3 (.int .i64 0) 1 8 Try.underlying26 hi3 hy0 hy1 hy2 rfl (by decide) (.slice A9 r.W.length e9) r.W.length (r.W.map (Value.int .i64)) rfl HF6.out.ow ⟨wc.heap.size, 0, none⟩ 1 1 [.int .i64 ((r.T.length : Int))] rfl rfl ?c2 ?c3 ?c4 ?c5 ?c6 ?_)
            case c2 => exact news_one (by have := new_block wc (.cells #[.int .i64 ((r.T.length : Int))] 3); simp only [World.cell?, this]; rfl)
            case c3 => intro u hu; simp at hu; subst hu; rfl
            case c4 => unfold maxLen; omega
            case c5 => omega
            case c6 => exact HF6.out.bel.size
            intro v9 w4 ho4 hg4 _ hv4
            have hFF := HF6.out.addW ho4 hg4 (by simpa using hv4)
            have hne : ∀ q, (Value.slice A9 r.W.length e9).ownBlock = some q → q < wr.heap.size := fun q hq => own_lt HF.out.ow hq
            have h5 := hg4.block (wr.heap.size + 1) (by simp; omega) (fun e => by have := hne _ e.symm; omega)
            rw [(below_al (Below.refl _ _) _).block _ hB, HN5.out] at h5
            have hB4 := lt_of_block h5
            obtain ⟨d0, d1, d2, d3, d4, d5, d6, d7⟩ := HCE.out w4 h5
            have HF7 := Lib.hid (hFF.below (below_al (Below.refl _ _) (.cells e.cells 32)))
            clear ho4 hg4 hv4 hne h5 k2 hFF
            go_wp2_with (at_builtin; refine wpList_append_own_at _ rfl _ _ 25 rfl w.heap.size 32 i0 _ 8 80 Try.underlying25 hi0 hz0 hz1' hz2' rfl (by decide) (.slice A8 r.T.length e8) r.T.length (flat r.T) rfl HF7.out.ot ⟨w4.heap.size, 0, none⟩ 1 1 (flat [e]) rfl ?d1 ?d2 ?d3 ?d4 ?d5 ?d6 ?_)
            case d1 => rfl
            case d2 =>
              have hnr : Reads (w4.alloc (.cells e.cells 32)) w4.heap.size 0 [e] := by
                rcases reads_one w4 e with h | ⟨b', o', h, hr'⟩
                · simp at h
                · have h1 : b' = w4.heap.size := by injection h with h; injection h with h; exact h.symm
                  have h2 : o' = 0 := by injection h with h; injection h with _ h; exact h.symm
                  rw [h1, h2] at hr'
                  exact hr'
              exact reads_news hnr
            case d3 => exact oneCell_flat _
            case d4 => unfold maxLen; omega
            case d5 => omega
            case d6 => exact HF7.out.bel.size
            intro v7 w5 ho5 hg5 _ hv5
            have HF8 := Lib.hid (HF7.out.addT ho5 hg5 (by simpa using hv5))
            clear ho5 hg5 hv5
            go_wp2
            go_roundg (gk - 1)
            case measure => have := HJ.out; omega
            case rel =>
              refine ⟨j + 1, by simp, by have := HJ.out; omega, by rw [HS1.out], by rw [HS1.out], by rw [HS1.out, ← HR1.out]; exact HOS.out, ?_⟩
              rw [HS1.out, G1.out, G2.out, G3.out]
              exact HF8.out
    · obtain rfl : j = l.length := by have := HJ.out; omega
      generalize runP room l l.length = r at *
      have hWl : r.W.length ≤ r.E.length := Nat.le_of_eq (raws_len _ _ _)
      have hSl : r.S.length ≤ r.E.length := List.length_filter_le _ _
      have hTl : r.T.length ≤ r.E.length := List.length_filter_le _ _
      have hEl := HR.out.len
      have hwb : ∀ x ∈ r.W, -42 ≤ x ∧ x ≤ 42 := fun x hx => by have := raws_bound r.E 0 0 x hx; omega
      have HWB := Lib.hid hwb
      have HW0 := Lib.hid (HR.out.wit hr0)
      have hsp : spoiltP r.S r.T room (which.tmod r.S.length).toNat = true := by
        unfold spoiltP
        split
        · rfl
        · rename_i h0
          have h1 : 0 ≤ which.tmod r.S.length := Int.tmod_nonneg _ hw
          have h2 : which.tmod r.S.length < r.S.length := Int.tmod_lt_of_pos _ (by omega)
          rw [HR.out.spoilt hr0 _ (by omega)]; rfl
      have HSP := Lib.hid hsp
      clear hwb hsp
      obtain ⟨A7, e7, rfl⟩ := own_slice HF.out.os
      obtain ⟨A8, e8, rfl⟩ := own_slice HF.out.ot
      obtain ⟨A9, e9, rfl⟩ := own_slice HF.out.ow
      go_wp2_with fail
      go_loopg [137] r.W.length (fun q s137 wx => ∃ k : Nat, s137 = .int .i64 k ∧ k + q = r.W.length ∧ Four w wx r.S r.T (halfP r.S.length r.W k) r.L (.slice A7 r.S.length e7) (.slice A8 r.T.length e8) (.slice A9 r.W.length e9) u10)
      case atStart => exact ⟨0, rfl, by omega, by simpa [halfP] using HF.out⟩
      case round =>
        obtain ⟨k, rfl, hk, hfo⟩ := hrel
        have HK := Lib.hid hk
        have HF2 := Lib.hid hfo
        clear hk hfo
        by_cases hlk : k < r.W.length
        · have hA9 : ∃ g, A9 = some ⟨g, 0, none⟩ := by
            rcases HF2.out.ow.2 with ⟨_, h0⟩ | ⟨g, cap, cur, e1, _⟩
            · rw [half_len] at h0; omega
            · exact ⟨g, by injection e1⟩
          obtain ⟨g, rfl⟩ := hA9
          have how := HF2.out.ow
          unfold OwnI at how
          rw [half_len] at how
          have cW : wr.cell? ⟨g, k, none⟩ = some (.int .i64 (r.W.getD k 0)) := by
            rw [own_cell how k (by simp [half_len]; exact hlk), List.getElem?_map, half_get _ _ _ hlk]; rfl
          have fW : wr.frozen? ⟨g, k, none⟩ = false := by
            rcases how.2 with ⟨h0, _⟩ | ⟨g', cap, cur, e1, _, e3, _⟩
            · cases h0
            · have : g = g' := by injection e1 with e1; injection e1 with e1; injection e1
              subst this
              simp [World.frozen?, e3]
          have hbx := HWB.out (r.W.getD k 0) (by rw [List.getD_eq_getElem?_getD, List.getElem?_eq_getElem hlk]; exact List.getElem_mem hlk)
          have hst := half_set r.S.length r.W k hlk
          obtain ⟨hs1, hs2⟩ := how.stored k (.int .i64 (convP r.S.length (r.W.getD k 0)))
          rw [← List.map_set, hst] at hs1
          have hnew := HF2.out.putW (N' := halfP r.S.length r.W (k + 1)) (c' := .slice (some ⟨g, 0, none⟩) r.W.length e9) (by unfold OwnI; rw [half_len]; exact hs1) (by simpa [Value.ownBlock] using hs2) (.inl rfl)
          have HNEW := Lib.hid hnew
          generalize r.W.getD k 0 = x at *
          clear hst hs1 hs2 hnew how
          have q5 : IntKind.i64.wrap ((k : Int) + 1) = (k : Int) + 1 := IntWalk.i64_in _ (by omega)
          by_cases hx0 : x < 0
          · have d1 : decide (x < 0) = true := decide_eq_true hx0
            have q6 : IntKind.i64.wrap (-x) = -x := IntWalk.i64_in _ (by omega)
            have q7 : IntKind.i64.wrap (-x - 1) = -x - 1 := IntWalk.i64_in _ (by omega)
            have hcv : convP r.S.length x = -x - 1 := by simp [convP, hx0]
            rw [hcv] at HNEW
            clear hcv hx0
            go_wp2
            go_roundg (gk - 1)
            case measure => have := HK.out; omega
            case rel => exact ⟨k + 1, by simp, by have := HK.out; omega, HNEW.out⟩
          · have d1 : decide (x < 0) = false := decide_eq_false hx0
            have q6 : IntKind.i64.wrap ((r.S.length : Int) + x) = (r.S.length : Int) + x := IntWalk.i64_in _ (by omega)
            have hcv : convP r.S.length x = (r.S.length : Int) + x := by simp [convP, hx0]
            rw [hcv] at HNEW
            clear hcv hx0
            go_wp2
            go_roundg (gk - 1)
            case measure => have := HK.out; omega
            case rel => exact ⟨k + 1, by simp, by have := HK.out; omega, HNEW.out⟩
        · obtain rfl : k = r.W.length := by have := HK.out; omega
          go_wp2_with fail
          have hrS := own_readsE HF2.out.os
          have hrT := own_readsE HF2.out.ot
          obtain ⟨A7', c7', ea7, hr7, hc7, hz7⟩ := hrS
          obtain ⟨A8', c8', ea8, hr8, hc8, hz8⟩ := hrT
          injection ea7 with x1 y1 x2
          injection ea8 with x3 y2 x4
          clear y1 y2
          subst x1 x2 x3 x4
          have hlo : ∀ L : List En, (∀ x ∈ L, x ∈ r.E) → LoadsOk wr L := fun L hL => LoadsOk.of_mem fun x hx => by
            have := HO.out.e x (hL x hx)
            exact ⟨this.1, by have := this.2.1; show x.ld.len ≤ 1000; omega, this.2.2.below HF2.out.bel⟩
          have lS := hlo r.S fun x hx => (List.mem_filter.1 hx).1
          have lT := hlo r.T fun x hx => (List.mem_filter.1 hx).1
          have how := HF2.out.ow
          rw [half_all] at how
          obtain ⟨A9', c9', ea9, hr9⟩ := own_readsI how
          injection ea9 with x5 y3 x6
          clear y3
          subst x5 x6
          have HR7 := Lib.hid hr7
          have HR8 := Lib.hid hr8
          have HR9 := Lib.hid hr9
          have HLS := Lib.hid lS
          have HLT := Lib.hid lT
          have HC7 := Lib.hid hc7
          have HC8 := Lib.hid hc8
          have HZ7 := Lib.hid hz7
          have HZ8 := Lib.hid hz8
          clear hlo how hr7 hr8 hr9 lS lT hc7 hc8 hz7 hz8
          refine (witness_any wr A7 A8 e7 e8 r.S r.T room HR7.out HR8.out HLS.out HLT.out _ _ rfl rfl (by omega) (by omega) HC7.out HC8.out HZ7.out HZ8.out).mono ?_
          rw [HW0.out]
          rintro e w1 ⟨v, rfl, ho, hb⟩
          obtain ⟨A1, c1, rfl, hr1⟩ := own_readsI ho
          have hb1 : Below w.heap.size w w1 := HF2.out.bel.trans (hb.mono HF2.out.bel.size)
          have HRR := Lib.hid hr1
          have HBB := Lib.hid hb
          have HB1 := Lib.hid hb1
          clear hr1 hb hb1 ho
          have hwl : ((some (r.W.map (convP r.S.length))).getD []).length = r.W.length := by simp
          rw [hwl]
          clear hwl
          go_big_wp2_with fail
          refine (same_any w1 A1 A9 c1 e9 (r.W.map (convP r.S.length)) (r.W.map (convP r.S.length)) HRR.out (HR9.out.below HBB.out) r.W.length (by simp) (by omega) r.W.length (by simp) (by omega)).mono ?_
          rw [beq_self_eq_true]
          rintro e w2 ⟨rfl, q, rfl⟩
          have hbq : Below wr.heap.size wr (w1.drewN q) := below_drewN HBB.out _
          have HBQ := Lib.hid hbq
          clear hbq
          go_big_wp2_with fail
          refine (spoilt_any (w1.drewN q) A7 A8 e7 e8 r.S r.T room which (HR7.out.below HBQ.out) (HR8.out.below HBQ.out) (HLS.out.below HBQ.out) (HLT.out.below HBQ.out) r.S.length r.T.length rfl rfl (by omega) (by omega) HC8.out HZ8.out (which.tmod r.S.length).toNat (fun h0 => by
            have h1 : 0 ≤ which.tmod r.S.length := Int.tmod_nonneg _ hw
            have h2 : which.tmod r.S.length < r.S.length := Int.tmod_lt_of_pos _ (by omega)
            exact ⟨by omega, by omega⟩)).mono ?_
          rw [HSP.out]
          rintro e w3 ⟨rfl, hb3⟩
          have hb4 : Below w.heap.size w w3 := (HF2.out.bel.trans (HBQ.out.mono HF2.out.bel.size)).trans (hb3.mono (by have := HF2.out.bel.size; have := HBQ.out.size; omega))
          have HB4 := Lib.hid hb4
          clear hb3 hb4
          go_big_wp2_with fail
          refine (alive_any w3).mono ?_
          rintro e w4 ⟨rfl, hb5⟩
          have HB5 := Lib.hid (HB4.out.trans (hb5.mono HB4.out.size))
          clear hb5
          go_wp2
          go_ret
          exact ⟨rfl, HB5.out⟩

end Go.Proofs.Ytcljbhiammofjaa
