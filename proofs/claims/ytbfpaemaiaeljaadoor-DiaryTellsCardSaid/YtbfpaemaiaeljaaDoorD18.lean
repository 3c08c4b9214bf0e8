/- Count of the reference; Same of the program. -/
import Derived.Test.YtbfpaemaiaeljaaDoorD8
namespace Go.Proofs.YtbfpaemaiaeljaaDoor
open Go.RowKit

set_option maxHeartbeats 1600000 in
theorem refCount_any (w : World) (A : Option Addr) (c : Nat) (l : List En) (k er : Int) (hr : ReadsE w A l) (n : Nat) (hn : l.length = n) (hl : n ≤ 1000) :
    Calls Tryd.prog 17 #[.slice A n c, .int .i64 k, .int .i64 er] w fun e w' => e = .returned (.int .i64 ((l.filter (cntP k er)).length : Nat)) ∧ w = w' := by
  subst hn
  have HR := Lib.hid hr
  clear hr
  go_enter Tryd.func17, Tryd.ntmps17
  go_wp2
  go_loopg [7, 8] l.length (fun q s7 s8 wr => ∃ j : Nat, s8 = .int .i64 j ∧ j + q = l.length ∧ s7 = .int .i64 (((l.take j).filter (cntP k er)).length : Nat) ∧ w = wr)
  case atStart => exact ⟨0, rfl, by omega, rfl, rfl⟩
  case round =>
    obtain ⟨j, rfl, hj, rfl, rfl⟩ := hrel
    have HJ := Lib.hid hj
    clear hj
    by_cases hjt : j < l.length
    · rcases HR.out with h0 | ⟨b2, o2, rfl, hr⟩
      · rw [h0] at hjt; exact absurd hjt (by simp)
      obtain ⟨d0, d1, d2, d3, d4, d5, d6, d7⟩ := hr.at j hjt _ rfl
      have hk1 := filter_next (cntP k er) l j hjt
      have l1 := filter_len (cntP k er) l j
      generalize hy : l.getD j default = y at *
      have HY := Lib.hid hy
      have HK1 := Lib.hid hk1
      clear hy hr hk1
      generalize hF : (l.take j).filter (cntP k er) = F at *
      have HF := Lib.hid hF
      clear hF
      have q1 : IntKind.i64.wrap ((j : Int) + 1) = (j : Int) + 1 := IntWalk.i64_in _ (by omega)
      cases t1 : (y.kind == k)
      · have P : Hid (cntP k er y = false) := by show _ = _; simp [cntP, t1]
        go_wp2
        go_roundg (gk - 1)
        case measure => have := HJ.out; omega
        case rel => exact ⟨j + 1, by simp, by have := HJ.out; omega, by rw [HK1.out, P.out]; rfl, rfl⟩
      · cases t2 : (y.nd != 0)
        · have P : Hid (cntP k er y = false) := by show _ = _; simp [cntP, t2]
          go_wp2
          go_roundg (gk - 1)
          case measure => have := HJ.out; omega
          case rel => exact ⟨j + 1, by simp, by have := HJ.out; omega, by rw [HK1.out, P.out]; rfl, rfl⟩
        · cases t3 : (y.err == er)
          · have P : Hid (cntP k er y = false) := by show _ = _; simp [cntP, t3]
            go_wp2
            go_roundg (gk - 1)
            case measure => have := HJ.out; omega
            case rel => exact ⟨j + 1, by simp, by have := HJ.out; omega, by rw [HK1.out, P.out]; rfl, rfl⟩
          · have P : Hid (cntP k er y = true) := by show _ = _; simp only [cntP, t1, t2, t3]; rfl
            go_wp2
            go_roundg (gk - 1)
            case measure => have := HJ.out; omega
            case rel => exact ⟨j + 1, by simp, by have := HJ.out; omega, by rw [HK1.out, P.out]; simp, rfl⟩
    · have hjl : j = l.length := by have := HJ.out; omega
      subst hjl
      rw [List.take_length]
      go_wp2
      go_ret
      exact ⟨rfl, rfl⟩

theorem equal_any (w : World) (A B : Option Addr) (n m c d : Nat) (xs ys : List Int) (hx : ReadsI w A xs) (hy : ReadsI w B ys) (hn : xs.length = n) (hm : ys.length = m) (bn : n ≤ 1000) (bm : m ≤ 1000) :
    Calls Tryd.prog 28 #[.slice A n c, .slice B m d] w fun e w' => e = .returned (.bool (xs == ys)) ∧ Below w.heap.size w w' := by
  subst hn
  subst hm
  by_cases hl : xs.length = ys.length
  · rcases hx with h | ⟨b1, o1, rfl, h1⟩
    · subst h
      have : ys = [] := List.eq_nil_of_length_eq_zero hl.symm
      subst this
      refine (Tryd.slices_Equal_int_empty A B c 0 d w (by omega)).mono ?_
      rintro e w' ⟨rfl, rfl⟩
      exact ⟨rfl, Below.refl _ _⟩
    · rcases hy with h | ⟨b2, o2, rfl, h2⟩
      · subst h
        have : xs = [] := List.eq_nil_of_length_eq_zero hl
        subst this
        refine (Tryd.slices_Equal_int_empty _ B c 0 d w (by omega)).mono ?_
        rintro e w' ⟨rfl, rfl⟩
        exact ⟨rfl, Below.refl _ _⟩
      · refine (Tryd.slices_Equal_int b1 o1 xs.length c b2 o2 ys.length d xs ys w (Nat.le_refl _) (Nat.le_refl _) (by omega) (by omega) h1 h2).mono ?_
        rintro e w' ⟨rfl, q, rfl⟩
        rw [List.take_length, List.take_length]
        exact ⟨rfl, below_dr (Below.refl _ _) _⟩
  · refine (Tryd.slices_Equal_int_lens A B xs.length c ys.length d w hl).mono ?_
    rintro e w' ⟨rfl, rfl⟩
    refine ⟨ret_bool ?_, Below.refl _ _⟩
    have : xs ≠ ys := fun h => hl (by rw [h])
    simpa using this

theorem two_cells (w : World) (x y : En) (e : TypeId) : (two w x y e).heap[w.heap.size]? = some (.cells x.cells e (0, 0)) ∧ (two w x y e).heap[w.heap.size + 1]? = some (.cells y.cells e (0, 0)) := ⟨two_one w x y e, two_two w x y e⟩

set_option maxHeartbeats 3200000 in
theorem same1_any (w : World) (x y : En) (lx : x.load.length = x.len) (ly : y.load.length = y.len) (mx : x.len ≤ 1000) (my : y.len ≤ 1000) (rx : ReadsI w x.adr x.load) (ry : ReadsI w y.adr y.load) :
    Calls Tryd.prog 27 #[.agg x.cells, .agg y.cells] w fun e w' => e = .returned (.bool (alikeP x y)) ∧ Below w.heap.size w w' := by
  have HX := Lib.hid lx
  have HY := Lib.hid ly
  have RX := Lib.hid rx
  have RY := Lib.hid ry
  clear lx ly rx ry
  cases q0 : (x.core == y.core)
  · have HF : Hid (alikeP x y = false) := by show _ = _; simp [alikeP, headN, bne, q0]
    unfold En.cells
    go_enter Tryd.func27, Tryd.ntmps27
    go_wp2
    go_ret
    exact ⟨ret_bool (by rw [HF.out]), two_below w x y 28⟩
  cases q1 : (x.peer == y.peer)
  · have HF : Hid (alikeP x y = false) := by show _ = _; simp [alikeP, headN, bne, q0, q1]
    unfold En.cells
    go_enter Tryd.func27, Tryd.ntmps27
    go_wp2
    go_ret
    exact ⟨ret_bool (by rw [HF.out]), two_below w x y 28⟩
  cases q2 : (x.kind == y.kind)
  · have HF : Hid (alikeP x y = false) := by show _ = _; simp [alikeP, headN, bne, q0, q1, q2]
    unfold En.cells
    go_enter Tryd.func27, Tryd.ntmps27
    go_wp2
    go_ret
    exact ⟨ret_bool (by rw [HF.out]), two_below w x y 28⟩
  cases q3 : (x.bg == y.bg)
  · have HF : Hid (alikeP x y = false) := by show _ = _; simp [alikeP, headN, bne, q0, q1, q2, q3]
    unfold En.cells
    go_enter Tryd.func27, Tryd.ntmps27
    go_wp2
    go_ret
    exact ⟨ret_bool (by rw [HF.out]), two_below w x y 28⟩
  cases q4 : (x.nd == y.nd)
  · have HF : Hid (alikeP x y = false) := by show _ = _; simp [alikeP, headN, bne, q0, q1, q2, q3, q4]
    unfold En.cells
    go_enter Tryd.func27, Tryd.ntmps27
    go_wp2
    go_ret
    exact ⟨ret_bool (by rw [HF.out]), two_below w x y 28⟩
  cases q5 : (x.err == y.err)
  · have HF : Hid (alikeP x y = false) := by show _ = _; simp [alikeP, headN, bne, q0, q1, q2, q3, q4, q5]
    unfold En.cells
    go_enter Tryd.func27, Tryd.ntmps27
    go_wp2
    go_ret
    exact ⟨ret_bool (by rw [HF.out]), two_below w x y 28⟩
  cases q6 : (x.handle == y.handle)
  · have HF : Hid (alikeP x y = false) := by show _ = _; simp [alikeP, headN, bne, q0, q1, q2, q3, q4, q5, q6]
    unfold En.cells
    go_enter Tryd.func27, Tryd.ntmps27
    go_wp2
    go_ret
    exact ⟨ret_bool (by rw [HF.out]), two_below w x y 28⟩
  have HE : Hid (alikeP x y = (x.load == y.load)) := by
    show _ = _
    by_cases hl : x.load = y.load
    · have hlen : x.len = y.len := by rw [← HX.out, ← HY.out, hl]
      simp [alikeP, headN, q0, q1, q2, q3, q4, q5, q6, bne, hl, hlen]
    · simp [alikeP, hl]
  have hq := equal_any (two w x y 28) x.adr y.adr x.len y.len x.cap y.cap x.load y.load (RX.out.below (two_below w x y 28)) (RY.out.below (two_below w x y 28)) HX.out HY.out mx my
  unfold two En.cells at hq
  unfold En.cells
  go_enter Tryd.func27, Tryd.ntmps27
  go_wp2_with fail
  refine hq.mono ?_
  rintro e w1 ⟨rfl, hb1⟩
  have HB1 := Lib.hid ((two_below w x y 28).trans (RowKit.Below.mono hb1 (by simp [two]; omega)))
  clear hb1 hq
  go_wp2
  go_ret
  exact ⟨ret_bool (by rw [HE.out]), HB1.out⟩

set_option maxHeartbeats 1600000 in
theorem equalFunc_any (w : World) (A B : Option Addr) (cA cB : Nat) (a b : List En) (ha : ReadsE w A a) (hb : ReadsE w B b) (oa : LoadsOk w a) (ob : LoadsOk w b) (n m : Nat) (hn : a.length = n) (hm : b.length = m) (bn : n ≤ 1000) (bm : m ≤ 1000) :
    Calls Tryd.prog 26 #[.slice A n cA, .slice B m cB, .func (.func 27) #[] #[]] w fun e w' => e = .returned (.bool (sameP a b)) ∧ Below w.heap.size w w' := by
  subst hn
  subst hm
  have HA := Lib.hid ha
  have HB := Lib.hid hb
  have OA := Lib.hid oa
  have OB := Lib.hid ob
  have eg := @enters_fn Tryd.prog 27 _ Tryd.func27 (by kernel_rfl) rfl
  clear ha hb oa ob
  cases q0 : ((a.length : Int) != (b.length : Int))
  rotate_left
  · have HF : Hid (sameP a b = false) := by
      show _ = _
      have h0 : a.length ≠ b.length := by intro h; simp [h] at q0
      simp [sameP, h0]
    go_enter Tryd.func26, Tryd.ntmps26
    go_wp2
    go_ret
    exact ⟨ret_bool (by rw [HF.out]), Below.refl _ _⟩
  have hlen : a.length = b.length := by have := q0; simp at this; omega
  have HL := Lib.hid hlen
  clear hlen
  go_enter Tryd.func26, Tryd.ntmps26
  go_wp2
  go_loopg [17] a.length (fun q s17 wr => ∃ j : Nat, s17 = .int .i64 j ∧ j + q = a.length ∧ Below w.heap.size w wr ∧ ∀ i, i < j → alikeP (a.getD i default) (b.getD i default) = true)
  case atStart => exact ⟨0, rfl, by omega, Below.refl _ _, by intro i hi; omega⟩
  case round =>
    obtain ⟨j, rfl, hj, hb, hn⟩ := hrel
    have HJ := Lib.hid hj
    have HN := Lib.hid hn
    have HW := Lib.hid hb
    clear hj hn hb
    by_cases hlt : j < a.length
    · rcases HA.out with h0 | ⟨b1, o1, rfl, hra⟩
      · rw [h0] at hlt; exact absurd hlt (by simp)
      have hlb : j < b.length := by have := HL.out; omega
      rcases HB.out with h0 | ⟨b2, o2, rfl, hrb⟩
      · rw [h0] at hlb; exact absurd hlb (by simp)
      obtain ⟨c0, c1, c2, c3, c4, c5, c6, c7⟩ := (hra.below HW.out).at j hlt _ rfl
      obtain ⟨d0, d1, d2, d3, d4, d5, d6, d7⟩ := (hrb.below HW.out).at j hlb _ rfl
      have hbb1 := World.block_lt_of_cell? wr _ c0
      have hbb2 := World.block_lt_of_cell? wr _ d0
      simp only at hbb1 hbb2
      have ka := (OA.out.below HW.out) j hlt
      have kb := (OB.out.below HW.out) j hlb
      generalize hx : a.getD j default = x at *
      generalize hy : b.getD j default = y at *
      have HX := Lib.hid hx
      have HY := Lib.hid hy
      have KA := Lib.hid ka
      have KB := Lib.hid kb
      clear hx hy hra hrb ka kb
      have hz1 : b1 < wr.heap.size + 1 := by omega
      have hz2 : b2 < wr.heap.size + 1 := by omega
      have hs := same1_any (two wr x y 28) x y KA.out.1 KB.out.1 KA.out.2.1 KB.out.2.1 (KA.out.2.2.below (two_below wr x y 28)) (KB.out.2.2.below (two_below wr x y 28))
      unfold two En.cells at hs
      have HS := Lib.hid hs
      clear hs
      go_wp2_with fail
      refine HS.out.mono ?_
      rintro e w1 ⟨rfl, hb1⟩
      have HB1 := Lib.hid (HW.out.trans (((two_below wr x y 28).trans (RowKit.Below.mono hb1 (by simp [two]; omega))).mono HW.out.size))
      clear hb1 HS c0 c1 c2 c3 c4 c5 c6 c7 d0 d1 d2 d3 d4 d5 d6 d7
      cases hp : alikeP x y
      · go_wp2
        go_ret
        refine ⟨ret_bool ?_, HB1.out⟩
        have : ¬ sameP a b = true := by
          intro h
          simp only [sameP, Bool.and_eq_true, List.all_eq_true] at h
          have := h.2 j (by simpa using hlt)
          rw [HX.out, HY.out, hp] at this
          cases this
        simpa using this
      · go_wp2
        go_roundg (gk - 1)
        case measure => have := HJ.out; omega
        case rel =>
          refine ⟨j + 1, by simp, by have := HJ.out; omega, HB1.out, ?_⟩
          intro i hi
          by_cases hij : i = j
          · subst hij; rw [HX.out, HY.out]; exact hp
          · exact HN.out i (by omega)
    · have HT : Hid (sameP a b = true) := by
        show _ = _
        simp only [sameP, Bool.and_eq_true, beq_iff_eq, List.all_eq_true]
        exact ⟨HL.out, fun i hi => HN.out i (by simp at hi; have := HJ.out; omega)⟩
      go_wp2
      go_ret
      exact ⟨ret_bool (by rw [HT.out]), HW.out⟩

theorem same_any (w : World) (A B : Option Addr) (cA cB : Nat) (a b : List En) (ha : ReadsE w A a) (hb : ReadsE w B b) (oa : LoadsOk w a) (ob : LoadsOk w b) (n m : Nat) (hn : a.length = n) (hm : b.length = m) (bn : n ≤ 1000) (bm : m ≤ 1000) :
    Calls Tryd.prog 15 #[.slice A n cA, .slice B m cB] w fun e w' => e = .returned (.bool (sameP a b)) ∧ Below w.heap.size w w' := by
  have hq := equalFunc_any w A B cA cB a b ha hb oa ob n m hn hm bn bm
  have HQ := Lib.hid hq
  clear hq hn hm
  go_enter Tryd.func15, Tryd.ntmps15
  go_wp2_with fail
  refine HQ.out.mono ?_
  rintro e w1 ⟨rfl, hb1⟩
  have HB1 := Lib.hid hb1
  clear hb1
  go_wp2
  go_ret
  exact ⟨rfl, HB1.out⟩

end Go.Proofs.YtbfpaemaiaeljaaDoor
