/- some, Of and Count of the program; Count of the reference. -/
import Derived.Test.YtbfpaemaiaeljaaDoorD4
namespace Go.Proofs.YtbfpaemaiaeljaaDoor
open Go.RowKit

theorem below_cellsD {w w1 : World} {B : Nat} (hb : Below B w w1) : (∀ b o, b < B → w1.cell? ⟨b, o, none⟩ = w.cell? ⟨b, o, none⟩) ∧ (∀ b o, b < B → w1.frozen? ⟨b, o, none⟩ = w.frozen? ⟨b, o, none⟩) :=
  ⟨fun b o h => hb.cell (p := ⟨b, o, none⟩) h, fun b o h => hb.frozen (p := ⟨b, o, none⟩) h⟩

theorem box_facts {w : World} {g : Nat} {e : TypeId} {x : En} (h : w.heap[g]? = some (.cells x.cells e (0, 0))) : ∀ t, w.frozen? ⟨g, t, none⟩ = false := by
  intro t
  simp [World.frozen?, h]

set_option maxHeartbeats 3200000 in
theorem some_any (w : World) (A : Option Addr) (c : Nat) (l : List En) (g : Nat) (cap : Array Value) (p : En → Bool) (hp : Pred w g cap p) (eg : ∀ args w, (callFunc g args).run Tryd.prog w = .ok (.enter g args) w) (hr : ReadsE w A l) (hlo : LoadsOk w l) (n : Nat) (hn : l.length = n) (hl : n ≤ 1000) :
    Calls Tryd.prog 20 #[.slice A n c, .func (.func g) #[] cap] w fun e w' => ∃ v L, e = .returned v ∧ OwnE 28 w' w.heap.size v L ∧ Copies w' w.heap.size (l.filter p) L ∧ Below w.heap.size w w' := by
  subst hn
  have HR := Lib.hid hr
  have HLO := Lib.hid hlo
  have HP := Lib.hid hp
  have HE := Lib.hid eg
  clear hr hlo hp eg
  obtain ⟨i0, hi0, hz0, hz1', hz2'⟩ := info_parts Tryd.info28
  go_enter Tryd.func20, Tryd.ntmps20
  go_wp2
  go_loopg [5, 10] l.length (fun q s5 s10 wr => ∃ (j : Nat) (L : List En), s10 = .int .i64 j ∧ j + q = l.length ∧ OwnE 28 wr w.heap.size s5 L ∧ Copies wr w.heap.size ((l.take j).filter p) L ∧ Below w.heap.size w wr)
  case atStart => exact ⟨0, [], rfl, by omega, ⟨rfl, .inl ⟨rfl, rfl⟩⟩, ⟨rfl, fun i hi => by simp at hi⟩, Below.refl _ _⟩
  case round =>
    obtain ⟨j, L, rfl, hj, ho, hc, hb⟩ := hrel
    have HJ := Lib.hid hj
    have HO := Lib.hid ho
    have HC := Lib.hid hc
    have HB := Lib.hid hb
    clear hj ho hc hb
    by_cases hjt : j < l.length
    · rcases HR.out with h0 | ⟨b2, o2, rfl, hr⟩
      · rw [h0] at hjt; exact absurd hjt (by simp)
      obtain ⟨d0, d1, d2, d3, d4, d5, d6, d7⟩ := (hr.below HB.out).at j hjt _ rfl
      have hbb2 := World.block_lt_of_cell? wr _ d0
      simp only at hbb2
      have hk1 := filter_next p l j hjt
      have l1 := filter_len p l j
      have hlj := (HLO.out.below HB.out) j hjt
      generalize hy : l.getD j default = y at *
      have HY := Lib.hid hy
      have HK1 := Lib.hid hk1
      have HLJ := Lib.hid hlj
      clear hy hr hk1 hlj
      have q1 : IntKind.i64.wrap ((j : Int) + 1) = (j : Int) + 1 := IntWalk.i64_in _ (by omega)
      generalize hF : (l.take j).filter p = F at *
      have HF := Lib.hid hF
      clear hF
      have hLl : L.length ≤ j := by have := HC.out.1; omega
      have hws : w.heap.size ≤ wr.heap.size := HB.out.size
      have e0 := HE.out
      go_wp2_with fail
      have hpr := HP.out (wr.alloc (.cells y.cells 28)) (HB.out.alloc HB.out.size _) y
      refine hpr.mono ?_
      rintro e w1 ⟨rfl, hb1⟩
      rw [show (wr.alloc (.cells y.cells 28)).heap.size = wr.heap.size + 1 from by simp] at hb1
      have hbox1 : w1.heap[wr.heap.size]? = some (.cells y.cells 28 (0, 0)) := (hb1.block _ (by omega)).trans (new_block _ _)
      have hsz1 : wr.heap.size < w1.heap.size := by have := hb1.size; simp at this; omega
      obtain ⟨a0, a1, a2, a3, a4, a5, a6, a7⟩ := entry_cells hbox1
      have HB1 := Lib.hid hb1
      have HX1 := Lib.hid hbox1
      clear hb1 hbox1 hpr d0 d1 d2 d3 d4 d5 d6 d7 e0
      have hbw : Below wr.heap.size wr w1 := (one_al wr _).trans (HB1.out.mono (by omega))
      have HBW := Lib.hid hbw
      clear hbw
      cases hpy : p y
      · have HPY := Lib.hid hpy
        clear hpy
        go_wp2
        go_roundg (gk - 1)
        case measure => have := HJ.out; omega
        case rel =>
          refine ⟨j + 1, L, by simp, by have := HJ.out; omega, own_below HO.out HBW.out, ?_, HB.out.trans (HBW.out.mono hws)⟩
          rw [HK1.out, HPY.out]
          exact HC.out.below HBW.out
      · have HPY := Lib.hid hpy
        clear hpy
        go_wp2_with fail
        refine (clone_any w1 y.adr y.len y.cap y.load (HLJ.out.2.2.below HBW.out) HLJ.out.1 HLJ.out.2.1).mono ?_
        rintro e w2 ⟨A', c', rfl, ho2, hb2⟩
        have hbox2 : w2.heap[wr.heap.size]? = some (.cells y.cells 28 (0, 0)) := (hb2.block _ hsz1).trans HX1.out
        have hsz2 : wr.heap.size < w2.heap.size := by have := hb2.size; omega
        have hst := some_step HO.out HC.out HB.out HB1.out HLJ.out.1 ho2 hb2
        have fz := box_facts hbox2
        clear a0 a1 a2 a3 a4 a5 a6 a7
        obtain ⟨a0, a1, a2, a3, a4, a5, a6, a7⟩ := entry_cells hbox2
        have HB2 := Lib.hid hb2
        have HST := Lib.hid hst
        clear hb2 hbox2 ho2 hst
        go_wp2_with (at_builtin; refine wpList_append_own_at _ rfl _ _ 22 rfl w.heap.size 28 i0 _ 8 80 Tryd.underlying22 hi0 hz0 hz1' hz2' rfl (by decide) u5 L.length (flat L) rfl ?c0 ⟨w2.heap.size, 0, none⟩ 1 1 (flat [{ y with adr := A', cap := c' }]) rfl ?c1 ?c2 ?c3 ?c4 ?c5 ?c6 ?_)
        case c0 => exact HST.out.1
        case c1 => rfl
        case c2 =>
          refine news_entry (e := 28) (y := { y with adr := A', cap := c' }) ?_
          have := new_block (w2.setCell ⟨wr.heap.size, 6, none⟩ (.slice A' y.len c')) (.cells (En.cells { y with adr := A', cap := c' }) 28)
          rw [show (w2.setCell ⟨wr.heap.size, 6, none⟩ (.slice A' y.len c')).heap.size = w2.heap.size from by simp] at this
          exact this
        case c3 => exact oneCell_flat _
        case c4 => unfold maxLen; omega
        case c5 => omega
        case c6 => have := HST.out.2.2.2.size; simpa using this
        intro v' w4 ho4 hg4 _ _
        have HO4 := Lib.hid ho4
        have HG4 := Lib.hid hg4
        clear ho4 hg4
        go_wp2
        go_roundg (gk - 1)
        case measure => have := HJ.out; omega
        case rel =>
          obtain ⟨s1, s2, s3, s4⟩ := HST.out
          refine ⟨j + 1, L ++ [{ y with adr := A', cap := c' }], by simp, by have := HJ.out; omega, ?_, ?_, ?_⟩
          · unfold OwnE; rw [flat_append, List.length_append]; exact HO4.out
          · rw [HK1.out, HPY.out]
            exact (s2.snoc s3).kept s1 (by decide) HG4.out
          · exact below_row s4 s1 HG4.out s4.size
    · have hjl : j = l.length := by have := HJ.out; omega
      subst hjl
      go_wp2
      go_ret
      refine ⟨_, L, rfl, HO.out, ?_, HB.out⟩
      have := HC.out
      rwa [List.take_length] at this

theorem cap_kept {w W : World} {o o' : Obj} (hb : Below ((w.alloc o).alloc o').heap.size ((w.alloc o).alloc o') W) : W.heap[w.heap.size]? = some o ∧ W.heap[w.heap.size + 1]? = some o' := by
  refine ⟨(hb.block _ (by simp; omega)).trans ?_, (hb.block _ (by simp)).trans (new_block2 w o o')⟩
  rw [Below.heap_alloc _ _ _ (by simp)]
  exact new_block _ _

set_option maxHeartbeats 1600000 in
theorem of_any (w : World) (A : Option Addr) (c : Nat) (l : List En) (f t : Int) (hr : ReadsE w A l) (hlo : LoadsOk w l) (n : Nat) (hn : l.length = n) (hl : n ≤ 1000) :
    Calls Tryd.prog 9 #[.slice A n c, .int .i64 f, .int .i64 t] w fun e w' => ∃ v1 v2 L1 L2, e = .returned (.tuple #[v1, v2]) ∧ OwnE 28 w' w.heap.size v1 L1 ∧ OwnE 28 w' w.heap.size v2 L2 ∧
      Copies w' w.heap.size (l.filter (sentP f t)) L1 ∧ Copies w' w.heap.size (l.filter (takenP f t)) L2 ∧ Below w.heap.size w w' := by
  have HR := Lib.hid hr
  have HLO := Lib.hid hlo
  have HN := Lib.hid hn
  have e1 := Lib.hid (@enters_fn Tryd.prog 21 _ Tryd.func21 (by kernel_rfl) rfl)
  have e2 := Lib.hid (@enters_fn Tryd.prog 22 _ Tryd.func22 (by kernel_rfl) rfl)
  clear hr hlo hn
  have hp1 : Hid (Pred ((w.alloc (.cells #[.int .i64 f] 3)).alloc (.cells #[.int .i64 t] 3)) 21 #[.pointer (some ⟨w.heap.size, 0, none⟩), .pointer (some ⟨w.heap.size + 1, 0, none⟩)] (sentP f t)) := by
    intro W hb y
    exact of1_any W f t y _ _ (cap_kept hb).1 (cap_kept hb).2
  have hp2 : Hid (Pred ((w.alloc (.cells #[.int .i64 f] 3)).alloc (.cells #[.int .i64 t] 3)) 22 #[.pointer (some ⟨w.heap.size + 1, 0, none⟩), .pointer (some ⟨w.heap.size, 0, none⟩)] (takenP f t)) := by
    intro W hb y
    exact of2_any W f t y _ _ (cap_kept hb).1 (cap_kept hb).2
  go_enter Tryd.func9, Tryd.ntmps9
  go_wp2_with fail
  have hb0 : Below w.heap.size w ((w.alloc (.cells #[.int .i64 f] 3)).alloc (.cells #[.int .i64 t] 3)) := below_al (one_al _ _) _
  have h1 := some_any _ A c l 21 _ _ hp1.out e1.out (HR.out.below hb0) (HLO.out.below hb0) n HN.out hl
  refine h1.mono ?_
  rintro e w1 ⟨v1, L1, rfl, ho1, hc1, hb1⟩
  have HB0 := Lib.hid hb0
  have HO1 := Lib.hid ho1
  have HC1 := Lib.hid hc1
  have HB1 := Lib.hid hb1
  clear hb0 h1 ho1 hc1 hb1
  go_wp2_with fail
  have hp3 : Pred w1 22 #[.pointer (some ⟨w.heap.size + 1, 0, none⟩), .pointer (some ⟨w.heap.size, 0, none⟩)] (takenP f t) := fun W hb y => hp2.out W (HB1.out.trans (hb.mono HB1.out.size)) y
  have hb2 : Below w.heap.size w w1 := HB0.out.trans (HB1.out.mono HB0.out.size)
  have h2 := some_any w1 A c l 22 _ _ hp3 e2.out (HR.out.below hb2) (HLO.out.below hb2) n HN.out hl
  refine h2.mono ?_
  rintro e w2 ⟨v2, L2, rfl, ho2, hc2, hb3⟩
  have HB2 := Lib.hid hb2
  have HO2 := Lib.hid ho2
  have HC2 := Lib.hid hc2
  have HB3 := Lib.hid hb3
  clear hb2 h2 ho2 hc2 hb3 hp3
  go_wp2
  go_ret2
  have z1 := HB0.out.size
  have z2 := HB2.out.size
  refine ⟨v1, v2, L1, L2, rfl, ?_, ?_, ?_, ?_, HB2.out.trans (HB3.out.mono z2)⟩
  · exact ownsRow_mono (own_below HO1.out HB3.out) z1
  · exact ownsRow_mono HO2.out z2
  · have h := HC1.out.below HB3.out
    exact ⟨h.1, fun i hi => ⟨(h.2 i hi).same, (h.2 i hi).len, ownsRow_mono (h.2 i hi).own z1⟩⟩
  · have h := HC2.out
    exact ⟨h.1, fun i hi => ⟨(h.2 i hi).same, (h.2 i hi).len, ownsRow_mono (h.2 i hi).own z2⟩⟩

/-- does an entry count? -/
def cntP (k e : Int) (x : En) : Bool := x.kind == k && x.nd != 0 && x.err == e

theorem cnt1_any (w : World) (f t : Int) (y : En) (F T : Nat) (hf : w.heap[F]? = some (.cells #[.int .i64 f] 3 (0,0))) (ht : w.heap[T]? = some (.cells #[.int .i64 t] 25 (0,0))) :
    Calls Tryd.prog 29 #[.agg y.cells, .pointer (some ⟨F, 0, none⟩), .pointer (some ⟨T, 0, none⟩)] w fun e w' => e = .returned (.bool (cntP f t y)) ∧ Below w.heap.size w w' := by
  have c1 : w.cell? ⟨F, 0, none⟩ = some (.int .i64 f) := by simp [World.cell?, hf]
  have c2 : w.cell? ⟨T, 0, none⟩ = some (.int .i64 t) := by simp [World.cell?, ht]
  have hF := lt_of_block hf
  have hT := lt_of_block ht
  have n1 : ¬ w.heap.size = F := by omega
  have n2 : ¬ w.heap.size = T := by omega
  clear hf ht
  unfold En.cells
  cases a : (y.kind == f)
  · go_enter Tryd.func29, Tryd.ntmps29
    go_wp2
    go_ret
    exact ⟨ret_bool (by simp [cntP, a]), one_al _ _⟩
  · cases b : (y.nd != 0)
    · go_enter Tryd.func29, Tryd.ntmps29
      go_wp2
      go_ret
      exact ⟨ret_bool (by simp [cntP, a, b]), one_al _ _⟩
    · go_enter Tryd.func29, Tryd.ntmps29
      go_wp2
      go_ret
      exact ⟨ret_bool (by simp [cntP, a, b]), one_al _ _⟩

set_option maxHeartbeats 1600000 in
theorem count_any (w : World) (A : Option Addr) (c : Nat) (l : List En) (k er : Int) (hr : ReadsE w A l) (hlo : LoadsOk w l) (n : Nat) (hn : l.length = n) (hl : n ≤ 1000) :
    Calls Tryd.prog 16 #[.slice A n c, .int .i64 k, .int .i64 er] w fun e w' => e = .returned (.int .i64 ((l.filter (cntP k er)).length : Nat)) ∧ Below w.heap.size w w' := by
  have HR := Lib.hid hr
  have HLO := Lib.hid hlo
  have HN := Lib.hid hn
  have e1 := Lib.hid (@enters_fn Tryd.prog 29 _ Tryd.func29 (by kernel_rfl) rfl)
  clear hr hlo hn
  have hp1 : Hid (Pred ((w.alloc (.cells #[.int .i64 k] 3)).alloc (.cells #[.int .i64 er] 25)) 29 #[.pointer (some ⟨w.heap.size, 0, none⟩), .pointer (some ⟨w.heap.size + 1, 0, none⟩)] (cntP k er)) := by
    intro W hb y
    exact cnt1_any W k er y _ _ (cap_kept hb).1 (cap_kept hb).2
  go_enter Tryd.func16, Tryd.ntmps16
  go_wp2_with fail
  have hb0 : Below w.heap.size w ((w.alloc (.cells #[.int .i64 k] 3)).alloc (.cells #[.int .i64 er] 25)) := below_al (one_al _ _) _
  have h1 := some_any _ A c l 29 _ _ hp1.out e1.out (HR.out.below hb0) (HLO.out.below hb0) n HN.out hl
  refine h1.mono ?_
  rintro e w1 ⟨v1, L1, rfl, ho1, hc1, hb1⟩
  obtain ⟨A1, c1, rfl, _, _, _⟩ := own_readsE ho1
  have hlen : (L1.length : Int) = ((l.filter (cntP k er)).length : Nat) := by rw [hc1.1]
  have HL := Lib.hid hlen
  have HB := Lib.hid (hb0.trans (hb1.mono hb0.size))
  clear hb0 h1 ho1 hc1 hb1 hlen
  go_wp2
  go_ret
  exact ⟨ret_int HL.out, HB.out⟩

end Go.Proofs.YtbfpaemaiaeljaaDoor
