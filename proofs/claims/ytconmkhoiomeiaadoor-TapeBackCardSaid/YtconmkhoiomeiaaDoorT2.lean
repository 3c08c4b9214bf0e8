/- Whether a line is right, whether two lines are alike, a number's digits: the program's and the reference's. -/
import Derived.Test.YtconmkhoiomeiaaDoorT1
namespace Go.Proofs.YtconmkhoiomeiaaDoor
open Go.RowKit Go.Sort

/-- a line, as it lies: two cells. -/
structure Ln where
  op : Int
  adr : Option Addr
  len : Nat
  cap : Nat
  args : List Int
/-- the two cells of a line. -/
def Ln.cells (x : Ln) : Array Value := #[.int .i64 x.op, .slice x.adr x.len x.cap]
/-- the numbers of a line can be read. -/
structure LnOk (w : World) (x : Ln) : Prop where
  len : x.args.length = x.len
  few : x.len ≤ 1000
  reads : ReadsI w x.adr x.args
theorem LnOk.below {w w' : World} {x : Ln} (h : LnOk w x) (hb : Below w.heap.size w w') : LnOk w' x := ⟨h.len, h.few, h.reads.below hb⟩

theorem right_no {op : Int} {l : List Int} (h : ¬ HeadOk op l.length) : rightP op l = false := by simp [rightP, h]
theorem right_yes {op : Int} {l : List Int} (h : HeadOk op l.length) : rightP op l = !l.any outN := by simp [rightP, h]

theorem box_cells (w : World) (op : Int) (A : Option Addr) (n c : Nat) (e : TypeId) : (w.alloc (.cells #[.int .i64 op, .slice A n c] e)).heap[w.heap.size]? = some (.cells #[.int .i64 op, .slice A n c] e (0, 0)) := new_block _ _
theorem line_cells {w : World} {g : Nat} {e : TypeId} {op : Int} {A : Option Addr} {n c : Nat} (h : w.heap[g]? = some (.cells #[.int .i64 op, .slice A n c] e (0, 0))) :
    w.cell? ⟨g, 0, none⟩ = some (.int .i64 op) ∧ w.cell? ⟨g, 1, none⟩ = some (.slice A n c) := by
  simp [World.cell?, h]

set_option maxHeartbeats 3200000 in
theorem right_any (w : World) (op : Int) (A : Option Addr) (c : Nat) (l : List Int) (hr : ReadsI w A l) (n : Nat) (hn : l.length = n) (hl : n ≤ 1000) :
    Calls Tryd.prog 11 #[.agg #[.int .i64 op, .slice A n c]] w fun e w' => e = .returned (.bool (rightP op l)) ∧ Below w.heap.size w w' := by
  have HR := Lib.hid hr
  have HN := Lib.hid hn
  clear hr hn
  have hneeds : ∀ W, Calls Tryd.prog 20 #[.int .i64 op] W fun e w' => e = .returned (.tuple #[.int .i64 (least op), .int .i64 (most op)]) ∧ W = w' := fun W => needs_any W op
  have HNEEDS := Lib.hid hneeds
  clear hneeds
  have HH : Hid (HeadOk op n ↔ (0 ≤ op ∧ op ≤ 15 ∧ least op ≤ (n : Int) ∧ (n : Int) ≤ most op)) := Iff.rfl
  obtain ⟨m1, m2⟩ := least_le op
  have m3 := most_le op
  generalize least op = lo at *
  generalize most op = mo at *

  by_cases h1 : op < 0
  · have HF : Hid (rightP op l = false) := right_no (by rw [HN.out, HH.out]; omega)
    go_enter Tryd.func11, Tryd.ntmps11
    go_wp2_with fail
    refine (HNEEDS.out _).mono ?_
    rintro e w1 ⟨rfl, rfl⟩
    go_wp2
    go_ret
    exact ⟨ret_bool (by rw [HF.out]), one_al _ _⟩

  by_cases h2 : 15 < op
  · have HF : Hid (rightP op l = false) := right_no (by rw [HN.out, HH.out]; omega)
    go_enter Tryd.func11, Tryd.ntmps11
    go_wp2_with fail
    refine (HNEEDS.out _).mono ?_
    rintro e w1 ⟨rfl, rfl⟩
    go_wp2
    go_ret
    exact ⟨ret_bool (by rw [HF.out]), one_al _ _⟩

  by_cases h3 : (n : Int) < lo
  · have HF : Hid (rightP op l = false) := right_no (by rw [HN.out, HH.out]; omega)
    go_enter Tryd.func11, Tryd.ntmps11
    go_wp2_with fail
    refine (HNEEDS.out _).mono ?_
    rintro e w1 ⟨rfl, rfl⟩
    go_wp2
    go_ret
    exact ⟨ret_bool (by rw [HF.out]), one_al _ _⟩

  by_cases h4 : mo < (n : Int)
  · have HF : Hid (rightP op l = false) := right_no (by rw [HN.out, HH.out]; omega)
    go_enter Tryd.func11, Tryd.ntmps11
    go_wp2_with fail
    refine (HNEEDS.out _).mono ?_
    rintro e w1 ⟨rfl, rfl⟩
    go_wp2
    go_ret
    exact ⟨ret_bool (by rw [HF.out]), one_al _ _⟩

  have k1 : 0 ≤ op := by omega
  have k2 : op ≤ 15 := by omega
  have k3 : lo ≤ (n : Int) := by omega
  have k4 : (n : Int) ≤ mo := by omega
  have HT : Hid (rightP op l = !l.any outN) := right_yes (by rw [HN.out, HH.out]; omega)
  clear h1 h2 h3 h4
  have hc := containsF_any (w.alloc (.cells #[.int .i64 op, .slice A n c] 24)) A c l (HR.out.below (one_al _ _)) n HN.out hl
  go_enter Tryd.func11, Tryd.ntmps11
  go_wp2_with fail
  refine (HNEEDS.out _).mono ?_
  rintro e w1 ⟨rfl, rfl⟩
  go_wp2_with fail
  refine hc.mono ?_
  rintro e w2 ⟨rfl, rfl⟩
  go_wp2
  go_ret
  exact ⟨ret_bool (by rw [HT.out]), one_al _ _⟩

theorem any_of {l : List Int} {k : Nat} (hk : k < l.length) (h : outN (l.getD k 0) = true) : l.any outN = true := by
  rw [List.any_eq_true]
  refine ⟨l[k], List.getElem_mem hk, ?_⟩
  rwa [List.getD_eq_getElem?_getD, List.getElem?_eq_getElem hk] at h
theorem any_none {l : List Int} (h : ∀ k, k < l.length → outN (l.getD k 0) = false) : l.any outN = false := by
  rw [List.any_eq_false]
  intro x hx
  obtain ⟨i, hi, rfl⟩ := List.getElem_of_mem hx
  have := h i hi
  rw [List.getD_eq_getElem?_getD, List.getElem?_eq_getElem hi] at this
  simpa using this

set_option maxHeartbeats 3200000 in
theorem refRight_any (w : World) (op : Int) (A : Option Addr) (c : Nat) (l : List Int) (hr : ReadsI w A l) (n : Nat) (hn : l.length = n) (hl : n ≤ 1000) :
    Calls Tryd.prog 12 #[.agg #[.int .i64 op, .slice A n c]] w fun e w' => e = .returned (.bool (rightP op l)) ∧ Below w.heap.size w w' := by
  have HR := Lib.hid hr
  have HN := Lib.hid hn
  clear hr hn
  by_cases h1 : op < 0
  · have HF : Hid (rightP op l = false) := right_no (by unfold HeadOk; omega)
    go_enter Tryd.func12, Tryd.ntmps12
    go_wp2
    go_ret
    exact ⟨ret_bool (by rw [HF.out]), one_al _ _⟩
  by_cases h2 : 15 < op
  · have HF : Hid (rightP op l = false) := right_no (by unfold HeadOk; omega)
    go_enter Tryd.func12, Tryd.ntmps12
    go_wp2
    go_ret
    exact ⟨ret_bool (by rw [HF.out]), one_al _ _⟩
  have k1 : 0 ≤ op := by omega
  have k2 : op ≤ 15 := by omega
  clear h1 h2
  have hneeds : ∀ W, Calls Tryd.prog 23 #[.int .i64 op] W fun e w' => e = .returned (.tuple #[.int .i64 (least op), .int .i64 (most op)]) ∧ Below W.heap.size W w' := fun W => refNeeds_any W op k1 k2
  have HNEEDS := Lib.hid hneeds
  clear hneeds
  have HH : Hid (HeadOk op n ↔ (0 ≤ op ∧ op ≤ 15 ∧ least op ≤ (n : Int) ∧ (n : Int) ≤ most op)) := Iff.rfl
  obtain ⟨m1, m2⟩ := least_le op
  have m3 := most_le op
  generalize least op = lo at *
  generalize most op = mo at *
  go_enter Tryd.func12, Tryd.ntmps12
  go_wp2_with fail
  refine (HNEEDS.out _).mono ?_
  rintro e w1 ⟨rfl, hb⟩
  have hbox := (hb.block w.heap.size (by simp)).trans (box_cells w op A n c 31)
  obtain ⟨c0, c1⟩ := line_cells hbox
  have HBOX := Lib.hid hbox
  have HB : Hid (Below w.heap.size w w1) := (one_al w _).trans (hb.mono (by simp))
  clear hbox hb
  by_cases h3 : (n : Int) < lo
  · have HF : Hid (rightP op l = false) := right_no (by rw [HN.out, HH.out]; omega)
    go_wp2
    go_ret
    exact ⟨ret_bool (by rw [HF.out]), HB.out⟩
  by_cases h4 : mo < (n : Int)
  · have HF : Hid (rightP op l = false) := right_no (by rw [HN.out, HH.out]; omega)
    go_wp2
    go_ret
    exact ⟨ret_bool (by rw [HF.out]), HB.out⟩
  have k3 : lo ≤ (n : Int) := by omega
  have k4 : (n : Int) ≤ mo := by omega
  have HT : Hid (rightP op l = !l.any outN) := right_yes (by rw [HN.out, HH.out]; omega)
  clear h3 h4
  go_wp2
  clear k1 k2 k3 k4 m1 m2 m3
  go_loopg [5] n (fun q s5 wr => ∃ k : Nat, s5 = .int .i64 k ∧ k + q = n ∧ wr = w1 ∧ (∀ j, j < k → outN (l.getD j 0) = false))
  case atStart => exact ⟨0, rfl, by omega, rfl, by intro j hj; omega⟩
  case round =>
    obtain ⟨k, rfl, hk, rfl, hno⟩ := hrel
    have HNO := Lib.hid hno
    have HK := Lib.hid hk
    clear hno hk
    by_cases hlt : k < n
    · obtain ⟨b, o, rfl, hc⟩ := reads_at (HR.out.below HB.out) (k := k) (by rw [HN.out]; exact hlt)
      generalize he : l.getD k 0 = y at *
      have HY := Lib.hid he
      clear he
      by_cases hy0 : y < 0
      · go_wp2
        go_ret
        refine ⟨ret_bool ?_, HB.out⟩
        rw [HT.out, any_of (k := k) (by rw [HN.out]; exact hlt) (by rw [HY.out]; simp [outN, hy0])]; rfl
      by_cases hy1 : 999999999 < y
      · have hy2 : 0 ≤ y := by omega
        clear hy0
        go_wp2
        go_ret
        refine ⟨ret_bool ?_, HB.out⟩
        rw [HT.out, any_of (k := k) (by rw [HN.out]; exact hlt) (by rw [HY.out]; simp [outN, hy1])]; rfl
      · have hy2 : 0 ≤ y := by omega
        have hy3 : y ≤ 999999999 := by omega
        clear hy0 hy1
        go_wp2
        go_roundg (gk - 1)
        case measure => have := HK.out; omega
        case rel =>
          refine ⟨k + 1, by simp, by have := HK.out; omega, rfl, ?_⟩
          intro j hj
          by_cases hjk : j = k
          · subst hjk; rw [HY.out]; simp [outN]; omega
          · exact HNO.out j (by omega)
    · go_wp2
      go_ret
      refine ⟨ret_bool ?_, HB.out⟩
      rw [HT.out, any_none fun j hj => HNO.out j (by have := HK.out; have := HN.out; omega)]; rfl

theorem equal_any (w : World) (A B : Option Addr) (n m c d : Nat) (xs ys : List Int) (hx : ReadsI w A xs) (hy : ReadsI w B ys) (hn : xs.length = n) (hm : ys.length = m) (bn : n ≤ 1000) (bm : m ≤ 1000) :
    Calls Tryd.prog 24 #[.slice A n c, .slice B m d] w fun e w' => e = .returned (.bool (xs == ys)) ∧ Below w.heap.size w w' := by
  subst hn
  subst hm
  by_cases hl : xs.length = ys.length
  · rcases hx with h | ⟨b1, o1, rfl, h1⟩
    · subst h
      have : ys = [] := List.eq_nil_of_length_eq_zero hl.symm
      subst this
      refine (Tryd.slices_Equal_int_empty A B c 0 d w (by omega)).mono ?_
      rintro e w' ⟨rfl, rfl⟩
      exact ⟨rfl, Below.refl _ _⟩
    · rcases hy with h | ⟨b2, o2, rfl, h2⟩
      · subst h
        have : xs = [] := List.eq_nil_of_length_eq_zero hl
        subst this
        refine (Tryd.slices_Equal_int_empty _ B c 0 d w (by omega)).mono ?_
        rintro e w' ⟨rfl, rfl⟩
        exact ⟨rfl, Below.refl _ _⟩
      · refine (Tryd.slices_Equal_int b1 o1 xs.length c b2 o2 ys.length d xs ys w (Nat.le_refl _) (Nat.le_refl _) (by omega) (by omega) h1 h2).mono ?_
        rintro e w' ⟨rfl, q, rfl⟩
        rw [List.take_length, List.take_length]
        exact ⟨rfl, below_dr (Below.refl _ _) _⟩
  · refine (Tryd.slices_Equal_int_lens A B xs.length c ys.length d w hl).mono ?_
    rintro e w' ⟨rfl, rfl⟩
    refine ⟨ret_bool ?_, Below.refl _ _⟩
    have : xs ≠ ys := fun h => hl (by rw [h])
    simpa using this


/-- are two lines alike? -/
def sameP (o1 : Int) (l1 : List Int) (o2 : Int) (l2 : List Int) : Bool := o1 == o2 && l1 == l2
def twoL (w : World) (o1 : Int) (A1 : Option Addr) (n1 c1 : Nat) (o2 : Int) (A2 : Option Addr) (n2 c2 : Nat) (e : TypeId) : World := (w.alloc (.cells #[.int .i64 o1, .slice A1 n1 c1] e)).alloc (.cells #[.int .i64 o2, .slice A2 n2 c2] e)
section
variable (w : World) (o1 : Int) (A1 : Option Addr) (n1 c1 : Nat) (o2 : Int) (A2 : Option Addr) (n2 c2 : Nat) (e : TypeId)
theorem twoL_size : (twoL w o1 A1 n1 c1 o2 A2 n2 c2 e).heap.size = w.heap.size + 2 := by simp [twoL]
theorem twoL_below : Below w.heap.size w (twoL w o1 A1 n1 c1 o2 A2 n2 c2 e) := below_al (below_al (Below.refl _ _) _) _
theorem twoL_one : (twoL w o1 A1 n1 c1 o2 A2 n2 c2 e).heap[w.heap.size]? = some (.cells #[.int .i64 o1, .slice A1 n1 c1] e (0, 0)) := by
  show (Array.push (Array.push _ _) _)[_]? = _
  simp [Array.getElem?_push]
theorem twoL_two : (twoL w o1 A1 n1 c1 o2 A2 n2 c2 e).heap[w.heap.size + 1]? = some (.cells #[.int .i64 o2, .slice A2 n2 c2] e (0, 0)) := by
  have := new_block (w.alloc (.cells #[.int .i64 o1, .slice A1 n1 c1] e)) (.cells #[.int .i64 o2, .slice A2 n2 c2] e)
  simpa [twoL] using this
end

set_option maxHeartbeats 1600000 in
theorem same_any (w : World) (o1 o2 : Int) (A1 A2 : Option Addr) (c1 c2 : Nat) (l1 l2 : List Int) (h1 : ReadsI w A1 l1) (h2 : ReadsI w A2 l2) (n1 n2 : Nat) (hn1 : l1.length = n1) (hn2 : l2.length = n2) (b1 : n1 ≤ 1000) (b2 : n2 ≤ 1000) :
    Calls Tryd.prog 13 #[.agg #[.int .i64 o1, .slice A1 n1 c1], .agg #[.int .i64 o2, .slice A2 n2 c2]] w fun e w' => e = .returned (.bool (sameP o1 l1 o2 l2)) ∧ Below w.heap.size w w' := by
  have H1 := Lib.hid h1
  have H2 := Lib.hid h2
  have N1 := Lib.hid hn1
  have N2 := Lib.hid hn2
  clear h1 h2 hn1 hn2
  cases q : (o1 == o2)
  · have HF : Hid (sameP o1 l1 o2 l2 = false) := by show _ = _; simp [sameP, q]
    go_enter Tryd.func13, Tryd.ntmps13
    go_wp2
    go_ret
    exact ⟨ret_bool (by rw [HF.out]), twoL_below w o1 A1 n1 c1 o2 A2 n2 c2 24⟩
  · have HT : Hid (sameP o1 l1 o2 l2 = (l1 == l2)) := by show _ = _; simp [sameP, q]
    have hb2 := twoL_below w o1 A1 n1 c1 o2 A2 n2 c2 24
    have hq := equal_any (twoL w o1 A1 n1 c1 o2 A2 n2 c2 24) A1 A2 n1 n2 c1 c2 l1 l2 (H1.out.below hb2) (H2.out.below hb2) N1.out N2.out b1 b2
    unfold twoL at hq
    clear hb2
    go_enter Tryd.func13, Tryd.ntmps13
    go_wp2_with fail
    refine hq.mono ?_
    rintro e w1 ⟨rfl, hb1⟩
    have HB1 := Lib.hid ((twoL_below w o1 A1 n1 c1 o2 A2 n2 c2 24).trans (RowKit.Below.mono hb1 (by simp; omega)))
    clear hb1 hq
    go_wp2
    go_ret
    exact ⟨ret_bool (by rw [HT.out]), HB1.out⟩

theorem list_getD_ext {a b : List Int} (h : a.length = b.length) (hj : ∀ j, j < a.length → a.getD j 0 = b.getD j 0) : a = b := by
  apply List.ext_getElem h
  intro j h1 h2
  have := hj j h1
  simpa [List.getD_eq_getElem?_getD, h1, h2] using this

set_option maxHeartbeats 3200000 in
theorem refSame_any (w : World) (o1 o2 : Int) (A1 A2 : Option Addr) (c1 c2 : Nat) (l1 l2 : List Int) (h1 : ReadsI w A1 l1) (h2 : ReadsI w A2 l2) (n1 n2 : Nat) (hn1 : l1.length = n1) (hn2 : l2.length = n2) (b1 : n1 ≤ 1000) (_ : n2 ≤ 1000) :
    Calls Tryd.prog 14 #[.agg #[.int .i64 o1, .slice A1 n1 c1], .agg #[.int .i64 o2, .slice A2 n2 c2]] w fun e w' => e = .returned (.bool (sameP o1 l1 o2 l2)) ∧ Below w.heap.size w w' := by
  have H1 := Lib.hid h1
  have H2 := Lib.hid h2
  have N1 := Lib.hid hn1
  have N2 := Lib.hid hn2
  clear h1 h2 hn1 hn2
  cases q : (o1 != o2)
  rotate_left
  · have HF : Hid (sameP o1 l1 o2 l2 = false) := by show _ = _; have : (o1 == o2) = false := by simpa using q
                                                    simp [sameP, this]
    go_enter Tryd.func14, Tryd.ntmps14
    go_wp2
    go_ret
    exact ⟨ret_bool (by rw [HF.out]), twoL_below w o1 A1 n1 c1 o2 A2 n2 c2 31⟩
  cases q7 : ((n1 : Int) != (n2 : Int))
  rotate_left
  · have HF : Hid (sameP o1 l1 o2 l2 = false) := by
      show _ = _
      have : ¬ l1 = l2 := by
        intro h
        have a := N1.out; have b := N2.out
        rw [h, b] at a
        simp [a] at q7
      simp [sameP, this]
    go_enter Tryd.func14, Tryd.ntmps14
    go_wp2
    go_ret
    exact ⟨ret_bool (by rw [HF.out]), twoL_below w o1 A1 n1 c1 o2 A2 n2 c2 31⟩
  have hlen : n1 = n2 := by have := q7; simp at this; omega
  have HE : Hid (sameP o1 l1 o2 l2 = (l1 == l2)) := by show _ = _; have : (o1 == o2) = true := by simpa using q
                                                       simp [sameP, this]
  have HL := Lib.hid hlen
  clear hlen
  have hW : Hid (((w.alloc (.cells #[.int .i64 o1, .slice A1 n1 c1] 31)).alloc (.cells #[.int .i64 o2, .slice A2 n2 c2] 31)) = twoL w o1 A1 n1 c1 o2 A2 n2 c2 31) := rfl
  go_enter Tryd.func14, Tryd.ntmps14
  go_wp2
  rw [hW.out]
  clear q q7 hW
  go_loopg [5] n1 (fun q s5 wr => ∃ j : Nat, s5 = .int .i64 j ∧ j + q = n1 ∧ Below (w.heap.size + 2) (twoL w o1 A1 n1 c1 o2 A2 n2 c2 31) wr ∧ ∀ i, i < j → l1.getD i 0 = l2.getD i 0)
  case atStart => exact ⟨0, rfl, by omega, Below.refl _ _, by intro i hi; omega⟩
  case round =>
    obtain ⟨j, rfl, hj, hb, hn⟩ := hrel
    have HJ := Lib.hid hj
    have HN := Lib.hid hn
    have hb0 : Below w.heap.size w wr := (twoL_below w o1 A1 n1 c1 o2 A2 n2 c2 31).trans (hb.mono (by omega))
    have HB := Lib.hid hb
    have HB0 := Lib.hid hb0
    obtain ⟨x0, x1⟩ := line_cells ((hb.block w.heap.size (by omega)).trans (twoL_one w o1 A1 n1 c1 o2 A2 n2 c2 31))
    obtain ⟨y0, y1⟩ := line_cells ((hb.block (w.heap.size + 1) (by omega)).trans (twoL_two w o1 A1 n1 c1 o2 A2 n2 c2 31))
    clear hj hn hb hb0
    by_cases hlt : j < n1
    · obtain ⟨bx, ox, hax, cx⟩ := reads_at (H1.out.below HB0.out) (k := j) (by rw [N1.out]; exact hlt)
      obtain ⟨bY, oy, hay, cy⟩ := reads_at (H2.out.below HB0.out) (k := j) (by rw [N2.out, ← HL.out]; exact hlt)
      rw [hax] at x1
      rw [hay] at y1
      have hly : j < n2 := by have := HL.out; omega
      generalize hgx : l1.getD j 0 = gx at *
      generalize hgy : l2.getD j 0 = gy at *
      have HGX := Lib.hid hgx
      have HGY := Lib.hid hgy
      clear hgx hgy hax hay
      cases hne : (gx != gy)
      · go_wp2_with fail
        go_quiet (fail)
        go_wp2
        go_roundg (gk - 1)
        case measure => have := HJ.out; omega
        case rel =>
          refine ⟨j + 1, by simp, by have := HJ.out; omega, below_dr HB.out _, ?_⟩
          intro i hi
          by_cases hij : i = j
          · subst hij; rw [HGX.out, HGY.out]; simpa using hne
          · exact HN.out i (by omega)
      · go_wp2_with fail
        go_quiet (fail)
        go_wp2
        go_ret
        refine ⟨ret_bool ?_, below_dr HB0.out _⟩
        have hll : l1 ≠ l2 := by
          intro h
          have h1 := HGX.out
          rw [h, HGY.out] at h1
          simp [h1] at hne
        simp [HE.out, hll]
    · go_wp2
      go_ret
      refine ⟨ret_bool ?_, HB0.out⟩
      have hll : l1 = l2 := list_getD_ext (by rw [N1.out, N2.out, HL.out]) fun i hi => HN.out i (by have := HJ.out; have := N1.out; omega)
      rw [HE.out, hll]; simp

/-- a number's digits, as a string. -/
def dec (n : Int) : ByteArray := ⟨(Lib.itoa n).toArray⟩
/-- one digit. -/
def dig1 (d : Nat) : ByteArray := ⟨#[UInt8.ofNat (48 + d)]⟩
theorem dig_piece : ∀ d : Nat, d < 10 → (ByteArray.mk #[48, 49, 50, 51, 52, 53, 54, 55, 56, 57]).extract d (d + 1) = dig1 d := by
  intro d hd
  have h : d = 0 ∨ d = 1 ∨ d = 2 ∨ d = 3 ∨ d = 4 ∨ d = 5 ∨ d = 6 ∨ d = 7 ∨ d = 8 ∨ d = 9 := by omega
  rcases h with rfl | rfl | rfl | rfl | rfl | rfl | rfl | rfl | rfl | rfl <;> rfl
theorem dig_step (u : Nat) (h : ¬ u / 10 = 0) : Lib.decDigits u = Lib.decDigits (u / 10) ++ [UInt8.ofNat (48 + u % 10)] := by
  rw [Lib.decDigits, dif_neg (by omega)]
theorem dec_last (u : Nat) (h : u / 10 = 0) : Lib.decDigits u = [UInt8.ofNat (48 + u % 10)] := by
  rw [Lib.decDigits, dif_pos (by omega), Nat.mod_eq_of_lt (by omega)]
theorem ba_append (d : Nat) (l : List UInt8) : dig1 d ++ ⟨l.toArray⟩ = (⟨(UInt8.ofNat (48 + d) :: l).toArray⟩ : ByteArray) := by
  apply ByteArray.ext
  simp [dig1]
theorem ba_size (l : List UInt8) : (⟨l.toArray⟩ : ByteArray).size = l.length := rfl
theorem ba_minus (l : List UInt8) : (⟨#[45]⟩ : ByteArray) ++ ⟨l.toArray⟩ = ⟨(45 :: l).toArray⟩ := by
  apply ByteArray.ext
  simp
theorem decDigits_pos (u : Nat) : 1 ≤ (Lib.decDigits u).length := by
  rw [Lib.decDigits]
  split <;> simp

theorem decDigits_le (u : Nat) (h : u ≤ 9223372036854775808) : (Lib.decDigits u).length ≤ 21 := by
  have := Lib.itoa_length_le (-(u : Int)) (by omega) (by omega)
  by_cases h0 : u = 0
  · subst h0
    rw [Lib.decDigits_one (by omega)]; simp
  · rw [Lib.itoa_neg u (by omega)] at this
    simp at this
    omega

set_option maxHeartbeats 1600000 in
theorem digits_pos (w : World) (n : Nat) (hn : n ≤ 9223372036854775807) :
    Calls Tryd.prog 19 #[.int .i64 n] w fun e w' => e = .returned (.string (dec n)) ∧ w = w' := by
  have hD : dec (n : Int) = ⟨(Lib.decDigits n).toArray⟩ := by unfold dec; rw [Lib.itoa_nonneg]
  have HD := Lib.hid hD
  have HLE := Lib.hid (decDigits_le n (by omega))
  clear hD
  have hng : decide ((n : Int) < 0) = false := decide_eq_false (by omega)
  go_enter Tryd.func19, Tryd.ntmps19
  go_wp2
  go_loopg [4, 5] n (fun q s4 s5 wr => ∃ (u : Nat) (l : List UInt8), s5 = .int .i64 u ∧ u = q ∧ u ≤ 9223372036854775807 ∧ s4 = .string ⟨l.toArray⟩ ∧ Lib.decDigits n = Lib.decDigits u ++ l ∧ w = wr)
  case atStart => exact ⟨n, [], rfl, rfl, hn, rfl, by simp, rfl⟩
  case round =>
    obtain ⟨u, l, rfl, hu, hu2, rfl, hd, rfl⟩ := hrel
    have HU := Lib.hid hu
    have HDD := Lib.hid hd
    have hll : l.length ≤ 21 := by have := HLE.out; rw [hd, List.length_append] at this; omega
    clear hu hd
    have hm : ((u : Int) % 10) = ((u % 10 : Nat) : Int) := by omega
    have hq : ((u : Int) / 10) = ((u / 10 : Nat) : Int) := by omega
    have hp := dig_piece (u % 10) (Nat.mod_lt _ (by omega))
    generalize hmd : u % 10 = d at *
    generalize hqd : u / 10 = v at *
    have hd10 : d < 10 := by omega
    have HMD := Lib.hid hmd
    have HQD := Lib.hid hqd
    clear hmd hqd
    have hszf : ¬ 9223372036854775807 < (dig1 d).size + l.length := by
      have : (dig1 d).size = 1 := rfl
      omega
    rw [← ba_size l] at hszf
    have HB : Hid (dig1 d ++ ⟨l.toArray⟩ = (⟨(UInt8.ofNat (48 + d) :: l).toArray⟩ : ByteArray)) := ba_append d l
    by_cases hv : v = 0
    · have tv : ((v : Int) == 0) = true := by simp [hv]
      have HR : Hid (dec (n : Int) = dig1 d ++ ⟨l.toArray⟩) := by
        show _ = _
        rw [HB.out, HD.out, HDD.out, dec_last u (by rw [HQD.out]; exact hv), HMD.out]; rfl
      clear hv
      go_wp2
      go_ret
      exact ⟨by rw [HR.out]; rfl, rfl⟩
    · have tv : ((v : Int) == 0) = false := by simpa using hv
      go_wp2
      go_roundg v
      case measure => have := HU.out; have := HQD.out; omega
      case rel =>
        refine ⟨v, UInt8.ofNat (48 + d) :: l, rfl, rfl, by have := HQD.out; omega, by rw [HB.out], ?_, rfl⟩
        rw [HDD.out, dig_step u (by rw [HQD.out]; exact hv), HMD.out, HQD.out]; simp


end Go.Proofs.YtconmkhoiomeiaaDoor