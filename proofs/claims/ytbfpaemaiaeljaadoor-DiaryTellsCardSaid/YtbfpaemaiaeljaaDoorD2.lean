/- Few, Plain, alike and Same of the reference, walked. -/
import Derived.Test.YtbfpaemaiaeljaaDoorD1
import Derived.StillTailTactics
import Derived.Deep.Draws
namespace Go.Proofs.YtbfpaemaiaeljaaDoor
open Go.RowKit

/-- may it be tried? -/
def fewP (l : List En) (most : Int) : Bool := decide ((l.length : Int) ≤ most) && l.all fun x => decide (x.len ≤ 100)

theorem few_any (w : World) (A : Option Addr) (c : Nat) (l : List En) (most : Int) (hr : ReadsE w A l) (n : Nat) (hn : l.length = n) (hl : n ≤ 9223372036854775807) (hm : 0 ≤ most) (hm2 : most ≤ 1000) (hll : ∀ x ∈ l, x.len ≤ 9223372036854775807) :
    Calls Tryd.prog 7 #[.slice A n c, .int .i64 most] w fun e w' => e = .returned (.bool (fewP l most)) ∧ Below w.heap.size w w' := by
  subst hn
  have HR := Lib.hid hr
  have HLL := Lib.hid hll
  clear hr hll
  by_cases hlm : (l.length : Int) ≤ most
  · have HP : Hid (fewP l most = l.all fun x => decide (x.len ≤ 100)) := by show _ = _; simp [fewP, hlm]
    have hB : decide (most < (l.length : Int)) = false := by simpa using hlm
    go_enter Tryd.func7, Tryd.ntmps7
    go_wp2
    go_loopg [13] l.length (fun q i wr => ∃ k : Nat, i = .int .i64 k ∧ k + q = l.length ∧ Below w.heap.size w wr ∧ (∀ j, j < k → (l.getD j default).len ≤ 100))
    case atStart => exact ⟨0, rfl, by omega, Below.refl _ _, by intro j hj; omega⟩
    case round =>
      obtain ⟨k, rfl, hk, hb, hn⟩ := hrel
      have HN := Lib.hid hn
      have HK := Lib.hid hk
      clear hn hk
      by_cases hlt : k < l.length
      · rcases HR.out with h0 | ⟨b, o, rfl, hr⟩
        · rw [h0] at hlt; exact absurd hlt (by simp)
        obtain ⟨c0, c1, c2, c3, c4, c5, c6, c7⟩ := (hr.below hb).at k hlt _ rfl
        have hml : l.getD k default ∈ l := by
          rw [List.getD_eq_getElem?_getD, List.getElem?_eq_getElem hlt]
          exact List.getElem_mem hlt
        have hyl := HLL.out _ hml
        generalize hy : l.getD k default = y at *
        have HY := Lib.hid hy
        have HM := Lib.hid hml
        clear hy hr hml
        by_cases h1 : y.len ≤ 100
        · have hd : decide (100 < y.len) = false := by simpa using h1
          have hd2 : decide ((100 : Int) < (y.len : Int)) = false := by simp; omega
          go_wp2
          go_roundg (gk - 1)
          case measure => have := HK.out; omega
          case rel =>
            refine ⟨k + 1, by simp, by have := HK.out; omega, hb.alloc hb.size _, ?_⟩
            intro j hj
            by_cases hjk : j = k
            · subst hjk; rw [HY.out]; exact h1
            · exact HN.out j (by omega)
        · have hd : decide (100 < y.len) = true := by simp; omega
          have hd2 : decide ((100 : Int) < (y.len : Int)) = true := by simp; omega
          have HF : Hid (fewP l most = false) := by
            show _ = _
            rw [HP.out, List.all_eq_false]
            exact ⟨y, HM.out, by simpa using h1⟩
          go_wp2
          go_ret
          exact ⟨ret_bool (by rw [HF.out]), hb.alloc hb.size _⟩
      · have HT : Hid (fewP l most = true) := by
          show _ = _
          rw [HP.out, List.all_eq_true]
          intro x hx
          obtain ⟨i, hi, rfl⟩ := List.getElem_of_mem hx
          have := HN.out i (by have := HK.out; omega)
          simpa [List.getD_eq_getElem?_getD, hi] using this
        go_wp2
        go_ret
        exact ⟨ret_bool (by rw [HT.out]), hb⟩
  · have HP : Hid (fewP l most = false) := by show _ = _; simp [fewP, hlm]
    have hB : decide (most < (l.length : Int)) = true := by simp; omega
    go_enter Tryd.func7, Tryd.ntmps7
    go_wp2
    go_ret
    exact ⟨ret_bool (by rw [HP.out]), Below.refl _ _⟩

theorem below_dr {B : Nat} {a w : World} (h : Below B a w) (n : Nat) : Below B a (w.drewN n) := ⟨h.os, h.tape, h.output, h.size, h.block⟩

theorem take_next (l : List En) (j : Nat) (h : j < l.length) : l.take (j + 1) = l.take j ++ [l.getD j default] := by
  have : l.getD j default = l[j] := by simp [List.getD_eq_getElem?_getD, h]
  rw [this, List.take_succ_eq_append_getElem h]

set_option maxHeartbeats 1600000 in
theorem plain_any (w : World) (A : Option Addr) (c : Nat) (l : List En) (hr : ReadsE w A l) (n : Nat) (hn : l.length = n) (hl : n ≤ 1000) :
    Calls Tryd.prog 11 #[.slice A n c] w fun e w' => ∃ v, e = .returned v ∧ OwnE 39 w' w.heap.size v l ∧ Below w.heap.size w w' := by
  subst hn
  have HR := Lib.hid hr
  clear hr
  obtain ⟨i0, hi0, hz0, hz1', hz2'⟩ := info_parts Tryd.info39
  go_enter Tryd.func11, Tryd.ntmps11
  go_wp2
  go_loopg [3, 8] l.length (fun q s3 s8 wr => ∃ j : Nat, s8 = .int .i64 j ∧ j + q = l.length ∧ OwnE 39 wr w.heap.size s3 (l.take j) ∧ Below w.heap.size w wr)
  case atStart => exact ⟨0, rfl, by omega, ⟨rfl, .inl ⟨rfl, rfl⟩⟩, Below.refl _ _⟩
  case round =>
    obtain ⟨j, rfl, hj, ho, hb⟩ := hrel
    have HJ := Lib.hid hj
    have HO := Lib.hid ho
    have HB := Lib.hid hb
    clear hj ho hb
    by_cases hjt : j < l.length
    · rcases HR.out with h0 | ⟨b2, o2, rfl, hr⟩
      · rw [h0] at hjt; exact absurd hjt (by simp)
      obtain ⟨d0, d1, d2, d3, d4, d5, d6, d7⟩ := (hr.below HB.out).at j hjt _ rfl
      have hbb2 := World.block_lt_of_cell? wr _ d0
      simp only at hbb2
      have hkn := take_next l j hjt
      generalize hy : l.getD j default = y at *
      have HY := Lib.hid hy
      have HK := Lib.hid hkn
      clear hy hr hkn
      have hkl : (l.take j).length ≤ j := by simp; omega
      go_wp2_with (at_builtin; refine wpList_append_own_at _ rfl _ _ 31 rfl w.heap.size 39 i0 _ 8 80 Tryd.underlying31 hi0 hz0 hz1' hz2' rfl (by decide) u3 (l.take j).length (flat (l.take j)) rfl ?c0 ⟨wr.heap.size + 1, 0, none⟩ 1 1 (flat [y]) rfl ?c1 ?c2 ?c3 ?c4 ?c5 ?c6 ?_)
      case c0 => exact (HO.out.alloc _).alloc _
      case c1 => rfl
      case c2 =>
        have hnr : Reads ((wr.alloc (.cells y.cells 28)).alloc (.cells y.cells 39)) (wr.heap.size + 1) 0 [y] := by
          rcases reads_one 39 (wr.alloc (.cells y.cells 28)) y with h | ⟨b', o', h, hr'⟩
          · simp at h
          · have h1 : b' = wr.heap.size + 1 := by injection h with h; injection h with h; rw [← h]; simp
            have h2 : o' = 0 := by injection h with h; injection h with _ h; exact h.symm
            rw [h1, h2] at hr'
            exact hr'
        exact reads_news hnr
      case c3 => exact oneCell_flat _
      case c4 => unfold maxLen; omega
      case c5 => omega
      case c6 => have := HB.out.size; simp; omega
      intro v' w4 ho4 hg4 _ _
      have HO4 := Lib.hid ho4
      have HG4 := Lib.hid hg4
      clear ho4 hg4
      go_wp2
      go_roundg (gk - 1)
      case measure => have := HJ.out; omega
      case rel =>
        refine ⟨j + 1, by simp, by have := HJ.out; omega, ?_, ?_⟩
        · rw [HK.out]
          have := HO4.out
          unfold OwnE
          rw [flat_append, List.length_append, List.length_take]
          exact this
        · have h1 : Below wr.heap.size wr ((wr.alloc (.cells y.cells 28)).alloc (.cells y.cells 39)) := below_al (below_al (Below.refl _ _) _) _
          have hz := HB.out.size
          have h2 : Below w.heap.size w ((wr.alloc (.cells y.cells 28)).alloc (.cells y.cells 39)) := HB.out.trans (h1.mono hz)
          exact h2.trans ⟨HG4.out.os, HG4.out.tape, HG4.out.output, HG4.out.size, fun q hq => HG4.out.block q (by simp; omega) (fun e => by have := own_ge HO.out e.symm; omega)⟩
    · have hjl : j = l.length := by have := HJ.out; omega
      subst hjl
      go_wp2
      go_ret
      refine ⟨_, rfl, ?_, HB.out⟩
      have := HO.out
      rwa [List.take_length] at this

/-- the heads of two entries differ. -/
def headN (x y : En) : Bool := x.core != y.core || x.peer != y.peer || x.kind != y.kind || x.bg != y.bg || x.nd != y.nd || x.err != y.err || x.handle != y.handle || (x.len : Int) != (y.len : Int)
/-- the same entries? -/
def alikeP (x y : En) : Bool := !headN x y && x.load == y.load

theorem list_getD_ext {a b : List Int} (h : a.length = b.length) (hj : ∀ j, j < a.length → a.getD j 0 = b.getD j 0) : a = b := by
  apply List.ext_getElem h
  intro i h1 h2
  have := hj i h1
  simpa [List.getD_eq_getElem?_getD, h1, h2] using this

theorem reads_at {w : World} {A : Option Addr} {l : List Int} (h : ReadsI w A l) {k : Nat} (hk : k < l.length) : ∃ b o, A = some ⟨b, o, none⟩ ∧ w.cell? ⟨b, o + k, none⟩ = some (.int .i64 (l.getD k 0)) := by
  rcases h with h0 | ⟨b, o, rfl, hr⟩
  · rw [h0] at hk; exact absurd hk (by simp)
  · exact ⟨b, o, rfl, hr k hk⟩

theorem entry_cells {w : World} {g : Nat} {e : TypeId} {x : En} (h : w.heap[g]? = some (.cells x.cells e (0, 0))) :
    w.cell? ⟨g, 0, none⟩ = some (.int .i64 x.core) ∧ w.cell? ⟨g, 1, none⟩ = some (.int .i64 x.peer) ∧ w.cell? ⟨g, 2, none⟩ = some (.int .i64 x.kind) ∧ w.cell? ⟨g, 3, none⟩ = some (.int .i64 x.bg)
    ∧ w.cell? ⟨g, 4, none⟩ = some (.int .i64 x.nd) ∧ w.cell? ⟨g, 5, none⟩ = some (.int .i64 x.err) ∧ w.cell? ⟨g, 6, none⟩ = some (.slice x.adr x.len x.cap) ∧ w.cell? ⟨g, 7, none⟩ = some (.int .i64 x.handle) := by
  refine ⟨?_, ?_, ?_, ?_, ?_, ?_, ?_, ?_⟩ <;> simp [World.cell?, h, En.cells]

/-- two boxes of a call's own. -/
def two (w : World) (x y : En) (e : TypeId) : World := (w.alloc (.cells x.cells e)).alloc (.cells y.cells e)
theorem two_size (w : World) (x y : En) (e : TypeId) : (two w x y e).heap.size = w.heap.size + 2 := by simp [two]
theorem two_below (w : World) (x y : En) (e : TypeId) : Below w.heap.size w (two w x y e) := below_al (below_al (Below.refl _ _) _) _
theorem two_one (w : World) (x y : En) (e : TypeId) : (two w x y e).heap[w.heap.size]? = some (.cells x.cells e (0, 0)) := by
  unfold two
  rw [Below.heap_alloc _ _ _ (by simp)]
  exact new_block _ _
theorem two_two (w : World) (x y : En) (e : TypeId) : (two w x y e).heap[w.heap.size + 1]? = some (.cells y.cells e (0, 0)) := by
  have := new_block (w.alloc (.cells x.cells e)) (.cells y.cells e)
  simpa [two] using this

set_option maxHeartbeats 3200000 in
theorem alike_any (w : World) (x y : En) (lx : x.load.length = x.len) (ly : y.load.length = y.len) (mx : x.len ≤ 1000) (my : y.len ≤ 1000) (rx : ReadsI w x.adr x.load) (ry : ReadsI w y.adr y.load) :
    Calls Tryd.prog 23 #[.agg x.cells, .agg y.cells] w fun e w' => e = .returned (.bool (alikeP x y)) ∧ Below w.heap.size w w' := by
  have HX := Lib.hid lx
  have HY := Lib.hid ly
  have RX := Lib.hid rx
  have RY := Lib.hid ry
  clear lx ly rx ry
  cases q0 : (x.core != y.core)
  rotate_left
  · have HF : Hid (alikeP x y = false) := by show _ = _; simp [alikeP, headN, q0]
    unfold En.cells
    go_enter Tryd.func23, Tryd.ntmps23
    go_wp2
    go_ret
    exact ⟨ret_bool (by rw [HF.out]), two_below w x y 39⟩
  cases q1 : (x.peer != y.peer)
  rotate_left
  · have HF : Hid (alikeP x y = false) := by show _ = _; simp [alikeP, headN, q0, q1]
    unfold En.cells
    go_enter Tryd.func23, Tryd.ntmps23
    go_wp2
    go_ret
    exact ⟨ret_bool (by rw [HF.out]), two_below w x y 39⟩
  cases q2 : (x.kind != y.kind)
  rotate_left
  · have HF : Hid (alikeP x y = false) := by show _ = _; simp [alikeP, headN, q0, q1, q2]
    unfold En.cells
    go_enter Tryd.func23, Tryd.ntmps23
    go_wp2
    go_ret
    exact ⟨ret_bool (by rw [HF.out]), two_below w x y 39⟩
  cases q3 : (x.bg != y.bg)
  rotate_left
  · have HF : Hid (alikeP x y = false) := by show _ = _; simp [alikeP, headN, q0, q1, q2, q3]
    unfold En.cells
    go_enter Tryd.func23, Tryd.ntmps23
    go_wp2
    go_ret
    exact ⟨ret_bool (by rw [HF.out]), two_below w x y 39⟩
  cases q4 : (x.nd != y.nd)
  rotate_left
  · have HF : Hid (alikeP x y = false) := by show _ = _; simp [alikeP, headN, q0, q1, q2, q3, q4]
    unfold En.cells
    go_enter Tryd.func23, Tryd.ntmps23
    go_wp2
    go_ret
    exact ⟨ret_bool (by rw [HF.out]), two_below w x y 39⟩
  cases q5 : (x.err != y.err)
  rotate_left
  · have HF : Hid (alikeP x y = false) := by show _ = _; simp [alikeP, headN, q0, q1, q2, q3, q4, q5]
    unfold En.cells
    go_enter Tryd.func23, Tryd.ntmps23
    go_wp2
    go_ret
    exact ⟨ret_bool (by rw [HF.out]), two_below w x y 39⟩
  cases q6 : (x.handle != y.handle)
  rotate_left
  · have HF : Hid (alikeP x y = false) := by show _ = _; simp [alikeP, headN, q0, q1, q2, q3, q4, q5, q6]
    unfold En.cells
    go_enter Tryd.func23, Tryd.ntmps23
    go_wp2
    go_ret
    exact ⟨ret_bool (by rw [HF.out]), two_below w x y 39⟩
  cases q7 : ((x.len : Int) != (y.len : Int))
  rotate_left
  · have HF : Hid (alikeP x y = false) := by show _ = _; simp [alikeP, headN, q0, q1, q2, q3, q4, q5, q6, q7]
    unfold En.cells
    go_enter Tryd.func23, Tryd.ntmps23
    go_wp2
    go_ret
    exact ⟨ret_bool (by rw [HF.out]), two_below w x y 39⟩
  have hlen : x.len = y.len := by have := q7; simp at this; omega
  have HE : Hid (headN x y = false) := by show _ = _; simp only [headN, q0, q1, q2, q3, q4, q5, q6, q7]; rfl
  have HL := Lib.hid hlen
  clear hlen
  have hW : Hid (((w.alloc (.cells x.cells 39)).alloc (.cells y.cells 39)) = two w x y 39) := rfl
  unfold En.cells at hW
  unfold En.cells
  go_enter Tryd.func23, Tryd.ntmps23
  go_wp2
  rw [hW.out]
  clear q0 q1 q2 q3 q4 q5 q6 q7 hW
  go_loopg [5] x.len (fun q s5 wr => ∃ j : Nat, s5 = .int .i64 j ∧ j + q = x.len ∧ Below (w.heap.size + 2) (two w x y 39) wr ∧ ∀ i, i < j → x.load.getD i 0 = y.load.getD i 0)
  case atStart => exact ⟨0, rfl, by omega, Below.refl _ _, by intro i hi; omega⟩
  case round =>
    obtain ⟨j, rfl, hj, hb, hn⟩ := hrel
    have HJ := Lib.hid hj
    have HN := Lib.hid hn
    have hb0 : Below w.heap.size w wr := (two_below w x y 39).trans (hb.mono (by omega))
    have HB := Lib.hid hb
    have HB0 := Lib.hid hb0
    obtain ⟨_, _, _, _, _, _, x6, _⟩ := entry_cells ((hb.block w.heap.size (by omega)).trans (two_one w x y 39))
    obtain ⟨_, _, _, _, _, _, y6, _⟩ := entry_cells ((hb.block (w.heap.size + 1) (by omega)).trans (two_two w x y 39))
    clear hj hn hb hb0
    by_cases hlt : j < x.len
    · obtain ⟨bx, ox, hax, cx⟩ := reads_at (RX.out.below HB0.out) (k := j) (by rw [HX.out]; exact hlt)
      obtain ⟨bY, oy, hay, cy⟩ := reads_at (RY.out.below HB0.out) (k := j) (by rw [HY.out, ← HL.out]; exact hlt)
      rw [hax] at x6
      rw [hay] at y6
      have hly : j < y.len := by have := HL.out; omega
      generalize hgx : x.load.getD j 0 = gx at *
      generalize hgy : y.load.getD j 0 = gy at *
      have HGX := Lib.hid hgx
      have HGY := Lib.hid hgy
      clear hgx hgy hax hay
      cases hne : (gx != gy)
      · go_wp2_with fail
        go_quiet (fail)
        go_wp2
        go_roundg (gk - 1)
        case measure => have := HJ.out; omega
        case rel =>
          refine ⟨j + 1, by simp, by have := HJ.out; omega, below_dr HB.out _, ?_⟩
          intro i hi
          by_cases hij : i = j
          · subst hij; rw [HGX.out, HGY.out]; simpa using hne
          · exact HN.out i (by omega)
      · go_wp2_with fail
        go_quiet (fail)
        go_wp2
        go_ret
        refine ⟨ret_bool ?_, below_dr HB0.out _⟩
        have hll : x.load ≠ y.load := by
          intro h
          have h1 := HGX.out
          rw [h, HGY.out] at h1
          simp [h1] at hne
        simp [alikeP, HE.out, hll]
    · go_wp2
      go_ret
      refine ⟨ret_bool ?_, HB0.out⟩
      have hll : x.load = y.load := list_getD_ext (by rw [HX.out, HY.out, HL.out]) fun i hi => HN.out i (by have := HJ.out; have := HX.out; omega)
      simp [alikeP, HE.out, hll]

/-- the same diaries? -/
def sameP (a b : List En) : Bool := a.length == b.length && (List.range a.length).all fun i => alikeP (a.getD i default) (b.getD i default)

set_option maxHeartbeats 1600000 in
theorem refSame_any (w : World) (A B : Option Addr) (cA cB : Nat) (a b : List En) (ha : ReadsE w A a) (hb : ReadsE w B b) (oa : LoadsOk w a) (ob : LoadsOk w b) (n m : Nat) (hn : a.length = n) (hm : b.length = m) (bn : n ≤ 1000) (bm : m ≤ 1000) :
    Calls Tryd.prog 12 #[.slice A n cA, .slice B m cB] w fun e w' => e = .returned (.bool (sameP a b)) ∧ Below w.heap.size w w' := by
  subst hn
  subst hm
  have HA := Lib.hid ha
  have HB := Lib.hid hb
  have OA := Lib.hid oa
  have OB := Lib.hid ob
  clear ha hb oa ob
  cases q0 : ((a.length : Int) != (b.length : Int))
  rotate_left
  · have HF : Hid (sameP a b = false) := by
      show _ = _
      have h0 : a.length ≠ b.length := by intro h; simp [h] at q0
      simp [sameP, h0]
    go_enter Tryd.func12, Tryd.ntmps12
    go_wp2
    go_ret
    exact ⟨ret_bool (by rw [HF.out]), Below.refl _ _⟩
  have hlen : a.length = b.length := by have := q0; simp at this; omega
  have HL := Lib.hid hlen
  clear hlen
  go_enter Tryd.func12, Tryd.ntmps12
  go_wp2
  go_loopg [5] a.length (fun q s5 wr => ∃ j : Nat, s5 = .int .i64 j ∧ j + q = a.length ∧ Below w.heap.size w wr ∧ ∀ i, i < j → alikeP (a.getD i default) (b.getD i default) = true)
  case atStart => exact ⟨0, rfl, by omega, Below.refl _ _, by intro i hi; omega⟩
  case round =>
    obtain ⟨j, rfl, hj, hb, hn⟩ := hrel
    have HJ := Lib.hid hj
    have HN := Lib.hid hn
    have HW := Lib.hid hb
    clear hj hn hb
    by_cases hlt : j < a.length
    · rcases HA.out with h0 | ⟨b1, o1, rfl, hra⟩
      · rw [h0] at hlt; exact absurd hlt (by simp)
      have hlb : j < b.length := by have := HL.out; omega
      rcases HB.out with h0 | ⟨b2, o2, rfl, hrb⟩
      · rw [h0] at hlb; exact absurd hlb (by simp)
      obtain ⟨c0, c1, c2, c3, c4, c5, c6, c7⟩ := (hra.below HW.out).at j hlt _ rfl
      obtain ⟨d0, d1, d2, d3, d4, d5, d6, d7⟩ := (hrb.below HW.out).at j hlb _ rfl
      have ka := (OA.out.below HW.out) j hlt
      have kb := (OB.out.below HW.out) j hlb
      generalize hx : a.getD j default = x at *
      generalize hy : b.getD j default = y at *
      have HX := Lib.hid hx
      have HY := Lib.hid hy
      have KA := Lib.hid ka
      have KB := Lib.hid kb
      clear hx hy hra hrb ka kb
      go_wp2_with fail
      go_still_tail 8, (by kernel_rfl)
      change wpList _ _ _ _ _ wr.drew
      have hbd : Below w.heap.size w wr.drew := below_dr HW.out 1
      have HBD := Lib.hid hbd
      clear hbd c0 c1 c2 c3 c4 c5 c6 c7 d0 d1 d2 d3 d4 d5 d6 d7
      go_wp2_with fail
      refine (alike_any wr.drew x y KA.out.1 KB.out.1 KA.out.2.1 KB.out.2.1 KA.out.2.2 KB.out.2.2).mono ?_
      rintro e w1 ⟨rfl, hb1⟩
      have HB1 := Lib.hid (HBD.out.trans (hb1.mono HBD.out.size))
      clear hb1
      cases hp : alikeP x y
      · go_wp2
        go_ret
        refine ⟨ret_bool ?_, HB1.out⟩
        have : ¬ sameP a b = true := by
          intro h
          simp only [sameP, Bool.and_eq_true, List.all_eq_true] at h
          have := h.2 j (by simpa using hlt)
          rw [HX.out, HY.out, hp] at this
          cases this
        simpa using this
      · go_wp2
        go_roundg (gk - 1)
        case measure => have := HJ.out; omega
        case rel =>
          refine ⟨j + 1, by simp, by have := HJ.out; omega, HB1.out, ?_⟩
          intro i hi
          by_cases hij : i = j
          · subst hij; rw [HX.out, HY.out]; exact hp
          · exact HN.out i (by omega)
    · have HT : Hid (sameP a b = true) := by
        show _ = _
        simp only [sameP, Bool.and_eq_true, beq_iff_eq, List.all_eq_true]
        exact ⟨HL.out, fun i hi => HN.out i (by simp at hi; have := HJ.out; omega)⟩
      go_wp2
      go_ret
      exact ⟨ret_bool (by rw [HT.out]), HW.out⟩

end Go.Proofs.YtbfpaemaiaeljaaDoor
