/- TapeBack: the law's walk. -/
import Derived.Test.YtconmkhoiomeiaaDoorT10
namespace Go.Proofs.YtconmkhoiomeiaaDoor
open Go.RowKit Go.Sort
open Go.Lib (join join_one join_cons joinTail)

theorem front_ok {t : List UInt8} (he : parE t = 0) (h : t = [] ∨ t.head? ≠ some 35) : rightP (parOp t) (parArgs t) = true ∧ printP (parOp t) (parArgs t) = t := by
  by_cases hn : t = []
  · subst hn
    obtain ⟨h1, h2, _⟩ := par_none (t := []) (by decide) (by decide)
    rw [h1, h2]
    decide
  · have h35 : t.head? ≠ some 35 := by
      rcases h with h | h
      · exact absurd h hn
      · exact h
    by_cases hl : 400 < t.length
    · obtain ⟨_, _, h3⟩ := par_long hl
      rw [h3] at he
      exact absurd he (by decide)
    · have hi : isText t = true := by
        cases t with
        | nil => exact absurd rfl hn
        | cons c r =>
          simp only [List.head?_cons, ne_eq, Option.some.injEq] at h35
          simp only [isText, List.isEmpty_cons, List.head?_cons]
          have : ((some c == some (35 : UInt8)) = false) := by simpa using h35
          rw [this]
          simp
          simp at hl; omega
      cases hk : okP t
      · obtain ⟨_, _, h3⟩ := par_form hi hk
        rw [h3] at he
        exact absurd he (by decide)
      · obtain ⟨h1, h2, _⟩ := par_text hi hk
        rw [h1, h2]
        simp only [okP, Bool.and_eq_true, decide_eq_true_eq] at hk
        exact hk
theorem names_head : ∀ k : Nat, k < 16 → 1 ≤ k → names.getD k [] ≠ [] ∧ (names.getD k []).head? ≠ some 35 := by decide
theorem back_text {op : Int} {l : List Int} (h : rightP op l = true) : parE (printP op l) = 0 ∧ parOp (printP op l) = op ∧ parArgs (printP op l) = l := by
  have ha := right_args h
  have hlen : l.length ≤ 10 := by
    have := h
    simp only [rightP, Bool.and_eq_true, decide_eq_true_eq] at this
    have h1 := this.1.2.2.2
    have h2 := most_le op
    omega
  have hl : ¬ 400 < (printP op l).length := by
    have h1 := join_len 21 (wordsP op l) (words_few (op := op) ha.2)
    have h2 : (wordsP op l).length = l.length + 1 := by simp [wordsP]
    have h3 : (printP op l).length ≤ 22 * (wordsP op l).length := h1
    omega
  by_cases hn : printP op l = []
  · have h0 : printP 0 [] = [] := by decide
    obtain ⟨e1, e2⟩ := print_inj h (show rightP 0 [] = true by decide) (by rw [hn, h0])
    subst e1 e2
    obtain ⟨h1, h2, h3⟩ := par_none (t := printP 0 []) (by decide) (by decide)
    exact ⟨h3, h1, h2⟩
  · have hop := print_nil h hn
    obtain ⟨k, rfl, hk, hnam⟩ := nam_cases op ha.1.1 ha.1.2
    have hk1 : 1 ≤ k := by omega
    obtain ⟨n1, n2⟩ := names_head k hk hk1
    have hhd : (printP k l).head? ≠ some 35 := by
      unfold printP wordsP
      rw [join_cons, hnam]
      cases hq : names.getD k [] with
      | nil => exact absurd hq n1
      | cons c r =>
        rw [hq] at n2
        simpa using n2
    have hok : okP (printP k l) = true := (okP_iff _).2 ⟨k, l, h, rfl⟩
    have hi : isText (printP k l) = true := by
      have e1 : (printP k l).isEmpty = false := by
        rw [Bool.eq_false_iff]
        intro h
        exact hn (List.isEmpty_iff.1 h)
      have e2 : ((printP k l).head? == some 35) = false := by
        rw [beq_eq_false_iff_ne]; exact hhd
      unfold isText
      rw [e1, e2]
      simp; omega
    obtain ⟨h1, h2, h3⟩ := par_text hi hok
    obtain ⟨e1, e2⟩ := line_print h
    exact ⟨h3, by rw [h1, e1], by rw [h2, e2]⟩
theorem same_iff (o1 : Int) (l1 : List Int) (o2 : Int) (l2 : List Int) : sameP o1 l1 o2 l2 = true ↔ o1 = o2 ∧ l1 = l2 := by simp [sameP]
theorem texts_same {o1 : Int} {l1 : List Int} {o2 : Int} {l2 : List Int} (h1 : rightP o1 l1 = true) (h2 : rightP o2 l2 = true) : ((B (printP o1 l1)).toList == (B (printP o2 l2)).toList) = sameP o1 l1 o2 l2 := by
  rw [Bool.eq_iff_iff, beqS, B_inj, same_iff]
  constructor
  · exact print_inj h1 h2
  · rintro ⟨rfl, rfl⟩; rfl


set_option maxRecDepth 100000 in
set_option maxHeartbeats 12800000 in
theorem back_any (w : World) (o1 o2 : Int) (s : ByteArray) (A1 A2 : Option Addr) (c1 c2 : Nat) (l1 l2 : List Int) (h1 : ReadsI w A1 l1) (h2 : ReadsI w A2 l2) (n1 n2 : Nat) (hn1 : l1.length = n1) (hn2 : l2.length = n2) (b1 : n1 ≤ 9223372036854775807) (b2 : n2 ≤ 9223372036854775807) (ht : Ties w) :
    Calls Tryd.prog 5 #[.agg #[.int .i64 o1, .slice A1 n1 c1], .agg #[.int .i64 o2, .slice A2 n2 c2], .string s] w fun e w' => e = .returned (.bool true) ∧ Below w.heap.size w w' := by
  have H1 := Lib.hid h1
  have H2 := Lib.hid h2
  have N1 := Lib.hid hn1
  have N2 := Lib.hid hn2
  have HT := Lib.hid ht
  clear h1 h2 hn1 hn2 ht
  have HTW := Lib.hid (twoL_below w o1 A1 n1 c1 o2 A2 n2 c2 24)
  have hal0 := alive_any (twoL w o1 A1 n1 c1 o2 A2 n2 c2 24) (HT.out.below HTW.out)
  have HS := Lib.hid (twoL_size w o1 A1 n1 c1 o2 A2 n2 c2 24)
  by_cases q1 : 100 < n1
  · unfold twoL at hal0
    go_enter Tryd.func5, Tryd.ntmps5
    go_wp2_with fail
    refine hal0.mono ?_
    rintro e w1 ⟨rfl, hb⟩
    have HB : Hid (Below w.heap.size w w1) := HTW.out.trans (RowKit.Below.mono hb (by simp; omega))
    clear hal0 hb
    go_wp2
    go_ret
    exact ⟨rfl, HB.out⟩
  by_cases q2 : 100 < n2
  · unfold twoL at hal0
    go_enter Tryd.func5, Tryd.ntmps5
    go_wp2_with fail
    refine hal0.mono ?_
    rintro e w1 ⟨rfl, hb⟩
    have HB : Hid (Below w.heap.size w w1) := HTW.out.trans (RowKit.Below.mono hb (by simp; omega))
    clear hal0 hb
    go_wp2
    go_ret
    exact ⟨rfl, HB.out⟩
  by_cases q3 : 1000 < s.size
  · unfold twoL at hal0
    go_enter Tryd.func5, Tryd.ntmps5
    go_wp2_with fail
    refine hal0.mono ?_
    rintro e w1 ⟨rfl, hb⟩
    have HB : Hid (Below w.heap.size w w1) := HTW.out.trans (RowKit.Below.mono hb (by simp; omega))
    clear hal0 hb
    go_wp2
    go_ret
    exact ⟨rfl, HB.out⟩
  have m1 : n1 ≤ 1000 := by omega
  have m2 : n2 ≤ 1000 := by omega
  clear hal0
  have hp := parse_any (twoL w o1 A1 n1 c1 o2 A2 n2 c2 24) s (HT.out.below HTW.out)
  have HFEW := Lib.hid (parArgs_few s.data.toList)
  unfold twoL at hp
  go_enter Tryd.func5, Tryd.ntmps5
  go_wp2_with fail
  refine hp.mono ?_
  rintro e w1 ⟨⟨v, rfl, ho⟩, hb⟩
  have hb0 : Below (w.heap.size + 2) (twoL w o1 A1 n1 c1 o2 A2 n2 c2 24) w1 := by rw [← HS.out]; exact hb
  have hs1 : w.heap.size + 2 ≤ w1.heap.size := by have := hb0.size; rw [HS.out] at this; exact this
  obtain ⟨A, c, rfl, hr⟩ := own_readsI ho
  have hx : ∃ W1, W1 = w1.alloc (.cells #[.int .i64 (parOp s.data.toList), .slice A (parArgs s.data.toList).length c] 24) := ⟨_, rfl⟩
  obtain ⟨W1, hW1⟩ := hx
  have HBX1 : Hid (W1.heap[w1.heap.size]? = some (.cells #[.int .i64 (parOp s.data.toList), .slice A (parArgs s.data.toList).length c] 24 (0, 0))) := by show _ = _; rw [hW1]; exact box_cells w1 _ A _ c 24
  have HXA0 : Hid (W1.heap[w.heap.size]? = some (.cells #[.int .i64 o1, .slice A1 n1 c1] 24 (0, 0))) := by
    show _ = _
    rw [hW1]
    exact (Below.heap_alloc _ _ _ (by omega)).trans ((hb0.block w.heap.size (by omega)).trans (twoL_one w o1 A1 n1 c1 o2 A2 n2 c2 24))
  have HXB0 : Hid (W1.heap[w.heap.size + 1]? = some (.cells #[.int .i64 o2, .slice A2 n2 c2] 24 (0, 0))) := by
    show _ = _
    rw [hW1]
    exact (Below.heap_alloc _ _ _ (by omega)).trans ((hb0.block (w.heap.size + 1) (by omega)).trans (twoL_two w o1 A1 n1 c1 o2 A2 n2 c2 24))
  have HU1 : Hid (Below w.heap.size w W1) := by
    show Below _ _ _
    rw [hW1]
    exact (HTW.out.trans (hb0.mono (by omega))).trans ((one_al _ _).mono (by omega))
  have HR1 : Hid (ReadsI W1 A (parArgs s.data.toList)) := by
    show ReadsI _ _ _
    rw [hW1]
    exact hr.below (one_al _ _)
  have HW1 := Lib.hid hW1
  clear hp ho hb hb0 hr hW1 q1 q2 q3 b1 b2 hs1
  by_cases he : parE s.data.toList = 0
  · have HPE := Lib.hid he
    have q0 : (parE s.data.toList == 0) = true := by simp [he]
    clear he
    by_cases hz : s.size = 0
    · have hnil : s.data.toList = [] := List.eq_nil_of_length_eq_zero (by rw [size_list]; exact hz)
      have HFR : Hid (s.data.toList = [] ∨ s.data.toList.head? ≠ some 35) := .inl hnil
      have hem : s.toList.isEmpty = true := by rw [ByteArray.toList_eq, hnil]; rfl
      have hem2 : s.toList = [] := by rw [ByteArray.toList_eq, hnil]
      clear hnil hz
      go_upto_region 5 with fail
      rw [← HW1.out]
      have hfo := front_ok HPE.out HFR.out
      have FO := Lib.hid hfo
      clear hfo
      have e1 : prE (parOp s.data.toList) (parArgs s.data.toList) = 0 := by unfold prE; rw [FO.out.1]; rfl
      have e2 : B (prT (parOp s.data.toList) (parArgs s.data.toList)) = s := by unfold prT; rw [FO.out.1, if_pos rfl, FO.out.2, B_eta]
      have hpl := print_any W1 (parOp s.data.toList) A c (parArgs s.data.toList) HR1.out _ rfl HFEW.out (HT.out.below HU1.out)
      rw [e1, e2] at hpl
      obtain ⟨x0, x1⟩ := line_cells HBX1.out
      have hx1 := HBX1.out
      clear e1 e2
      rw [HPE.out]
      have hsse : (s.toList != s.toList) = false := by simp
      go_wp2_with fail
      refine hpl.mono ?_
      rintro e w2 ⟨rfl, hbq⟩
      have HU2 : Hid (Below w.heap.size w w2) := HU1.out.trans (hbq.mono HU1.out.size)
      have HBX2 : Hid (w2.heap[w1.heap.size]? = some (.cells #[.int .i64 (parOp s.data.toList), .slice A (parArgs s.data.toList).length c] 24 (0, 0))) := (hbq.block _ (lt_of_block HBX1.out)).trans HBX1.out
      have HXA1 : Hid (w2.heap[w.heap.size]? = some (.cells #[.int .i64 o1, .slice A1 n1 c1] 24 (0, 0))) := (hbq.block _ (lt_of_block HXA0.out)).trans HXA0.out
      have HXB1 : Hid (w2.heap[w.heap.size + 1]? = some (.cells #[.int .i64 o2, .slice A2 n2 c2] 24 (0, 0))) := (hbq.block _ (lt_of_block HXB0.out)).trans HXB0.out
      have hrc := right_any w2 (parOp s.data.toList) A c (parArgs s.data.toList) (HR1.out.below hbq) _ rfl HFEW.out
      rw [FO.out.1] at hrc
      clear hpl hbq x0 x1 hx1
      obtain ⟨x0, x1⟩ := line_cells HBX2.out
      have hx1 := HBX2.out
      go_wp2_with fail
      refine hrc.mono ?_
      rintro e WT ⟨rfl, hbq⟩
      have HBT : Hid (Below w.heap.size w WT) := HU2.out.trans (hbq.mono HU2.out.size)
      have HXA : Hid (WT.heap[w.heap.size]? = some (.cells #[.int .i64 o1, .slice A1 n1 c1] 24 (0, 0))) := (hbq.block _ (lt_of_block HXA1.out)).trans HXA1.out
      have HXB : Hid (WT.heap[w.heap.size + 1]? = some (.cells #[.int .i64 o2, .slice A2 n2 c2] 24 (0, 0))) := (hbq.block _ (lt_of_block HXB1.out)).trans HXB1.out
      clear hrc hbq x0 x1 hx1
      have hal : ∀ W, Below w.heap.size w W → Calls Tryd.prog 6 #[] W fun e w' => e = .returned (.bool true) ∧ Below W.heap.size W w' := fun W h => alive_any W (HT.out.below h)
      obtain ⟨x0, x1⟩ := line_cells HXA.out
      have hx1 := HXA.out
      have hpa := print_any WT o1 A1 c1 l1 (H1.out.below HBT.out) n1 N1.out m1 (HT.out.below HBT.out)
      cases r1 : rightP o1 l1
      · have e1 : prE o1 l1 = 2 := by unfold prE; rw [r1]; rfl
        have e2 : prT o1 l1 = [] := by unfold prT; rw [r1]; rfl
        rw [e1, e2] at hpa
        clear e1 e2 r1
        go_wp2_with fail
        refine hpa.mono ?_
        rintro e wa ⟨rfl, hbq⟩
        have HA : Hid (Below w.heap.size w wa) := HBT.out.trans (hbq.mono HBT.out.size)
        have HXB2 : Hid (wa.heap[w.heap.size + 1]? = some (.cells #[.int .i64 o2, .slice A2 n2 c2] 24 (0, 0))) := (hbq.block _ (lt_of_block HXB.out)).trans HXB.out
        clear hpa hbq x0 x1 hx1
        obtain ⟨y0, y1⟩ := line_cells HXB2.out
        have hy1 := HXB2.out
        go_wp2_with fail
        refine (print_any wa o2 A2 c2 l2 (H2.out.below HA.out) n2 N2.out m2 (HT.out.below HA.out)).mono ?_
        rintro e wb ⟨rfl, hbq⟩
        have HB' : Hid (Below w.heap.size w wb) := HA.out.trans (hbq.mono HA.out.size)
        clear hbq y0 y1 hy1
        go_wp2_with fail
        refine (hal wb HB'.out).mono ?_
        rintro e wz ⟨rfl, hbz⟩
        have HZ : Hid (Below w.heap.size w wz) := HB'.out.trans (hbz.mono HB'.out.size)
        clear hbz
        go_wp2
        go_ret
        exact ⟨rfl, HZ.out⟩
      · have e1 : prE o1 l1 = 0 := by unfold prE; rw [r1]; rfl
        have e2 : prT o1 l1 = printP o1 l1 := by unfold prT; rw [r1]; rfl
        rw [e1, e2] at hpa
        clear e1 e2
        have R1 := Lib.hid r1
        clear r1
        have BT := Lib.hid (back_text R1.out)
        go_wp2_with fail
        refine hpa.mono ?_
        rintro e wa ⟨rfl, hbq⟩
        have HA : Hid (Below w.heap.size w wa) := HBT.out.trans (hbq.mono HBT.out.size)
        have HXA2 : Hid (wa.heap[w.heap.size]? = some (.cells #[.int .i64 o1, .slice A1 n1 c1] 24 (0, 0))) := (hbq.block _ (lt_of_block HXA.out)).trans HXA.out
        have HXB2 : Hid (wa.heap[w.heap.size + 1]? = some (.cells #[.int .i64 o2, .slice A2 n2 c2] 24 (0, 0))) := (hbq.block _ (lt_of_block HXB.out)).trans HXB.out
        clear hpa hbq x0 x1 hx1
        obtain ⟨y0, y1⟩ := line_cells HXB2.out
        have hy1 := HXB2.out
        go_wp2_with fail
        refine (print_any wa o2 A2 c2 l2 (H2.out.below HA.out) n2 N2.out m2 (HT.out.below HA.out)).mono ?_
        rintro e wb ⟨rfl, hbq⟩
        have HB' : Hid (Below w.heap.size w wb) := HA.out.trans (hbq.mono HA.out.size)
        have HXA3 : Hid (wb.heap[w.heap.size]? = some (.cells #[.int .i64 o1, .slice A1 n1 c1] 24 (0, 0))) := (hbq.block _ (lt_of_block HXA2.out)).trans HXA2.out
        have HXB3 : Hid (wb.heap[w.heap.size + 1]? = some (.cells #[.int .i64 o2, .slice A2 n2 c2] 24 (0, 0))) := (hbq.block _ (lt_of_block HXB2.out)).trans HXB2.out
        clear hbq y0 y1 hy1
        have hpar := parse_any wb (B (printP o1 l1)) (HT.out.below HB'.out)
        go_wp2_with fail
        refine hpar.mono ?_
        rintro e wc ⟨⟨v, rfl, ho⟩, hbq⟩
        rw [B_data] at ho ⊢
        rw [BT.out.1, BT.out.2.1]
        rw [BT.out.2.2] at ho
        obtain ⟨A3, c3, rfl, hr3⟩ := own_readsI ho
        have HC : Hid (Below w.heap.size w (wc.alloc (.cells #[.int .i64 o1, .slice A3 l1.length c3] 24))) := (HB'.out.trans (hbq.mono HB'.out.size)).trans ((one_al _ _).mono (Nat.le_trans HB'.out.size hbq.size))
        have HXA4 : Hid ((wc.alloc (.cells #[.int .i64 o1, .slice A3 l1.length c3] 24)).heap[w.heap.size]? = some (.cells #[.int .i64 o1, .slice A1 n1 c1] 24 (0, 0))) := (Below.heap_alloc _ _ _ (Nat.lt_of_lt_of_le (lt_of_block HXA3.out) hbq.size)).trans ((hbq.block _ (lt_of_block HXA3.out)).trans HXA3.out)
        have HXB4 : Hid ((wc.alloc (.cells #[.int .i64 o1, .slice A3 l1.length c3] 24)).heap[w.heap.size + 1]? = some (.cells #[.int .i64 o2, .slice A2 n2 c2] 24 (0, 0))) := (Below.heap_alloc _ _ _ (Nat.lt_of_lt_of_le (lt_of_block HXB3.out) hbq.size)).trans ((hbq.block _ (lt_of_block HXB3.out)).trans HXB3.out)
        have hl1 : l1.length ≤ 1000 := by rw [N1.out]; exact m1
        have hsmc := same_any (wc.alloc (.cells #[.int .i64 o1, .slice A3 l1.length c3] 24)) o1 o1 A3 A1 c3 c1 l1 l1 (hr3.below (one_al _ _)) (H1.out.below HC.out) l1.length n1 rfl N1.out hl1 m1
        have hss : sameP o1 l1 o1 l1 = true := (same_iff _ _ _ _).2 ⟨rfl, rfl⟩
        rw [hss] at hsmc
        have hltw : w.heap.size < wc.heap.size := Nat.lt_of_lt_of_le (lt_of_block HXA3.out) hbq.size
        clear hpar ho hr3 hbq hss
        obtain ⟨y0, y1⟩ := line_cells HXA4.out
        have hy1 := HXA4.out
        go_wp2_with fail
        refine hsmc.mono ?_
        rintro e wd ⟨rfl, hbq⟩
        have HD : Hid (Below w.heap.size w wd) := HC.out.trans (hbq.mono HC.out.size)
        have HXA5 : Hid (wd.heap[w.heap.size]? = some (.cells #[.int .i64 o1, .slice A1 n1 c1] 24 (0, 0))) := (hbq.block _ (lt_of_block HXA4.out)).trans HXA4.out
        have HXB5 : Hid (wd.heap[w.heap.size + 1]? = some (.cells #[.int .i64 o2, .slice A2 n2 c2] 24 (0, 0))) := (hbq.block _ (lt_of_block HXB4.out)).trans HXB4.out
        clear hsmc hbq y0 y1 hy1 hltw
        cases r2 : rightP o2 l2
        · have e1 : prE o2 l2 = 2 := by unfold prE; rw [r2]; rfl
          rw [e1]
          clear e1 r2
          go_wp2_with fail
          refine (hal wd HD.out).mono ?_
          rintro e wz ⟨rfl, hbz⟩
          have HZ : Hid (Below w.heap.size w wz) := HD.out.trans (hbz.mono HD.out.size)
          clear hbz
          go_wp2
          go_ret
          exact ⟨rfl, HZ.out⟩
        · have e1 : prE o2 l2 = 0 := by unfold prE; rw [r2]; rfl
          have e2 : prT o2 l2 = printP o2 l2 := by unfold prT; rw [r2]; rfl
          rw [e1, e2]
          have hts := texts_same R1.out r2
          have hsab := same_any wd o1 o2 A1 A2 c1 c2 l1 l2 (H1.out.below HD.out) (H2.out.below HD.out) n1 n2 N1.out N2.out m1 m2
          generalize sameP o1 l1 o2 l2 = sv at *
          clear e1 e2 r2
          generalize B (printP o1 l1) = p1 at *
          generalize B (printP o2 l2) = p2 at *
          have hsv : (sv == sv) = true := by simp
          obtain ⟨y0, y1⟩ := line_cells HXA5.out
          obtain ⟨z0, z1⟩ := line_cells HXB5.out
          have hy1 := HXA5.out
          have hz1 := HXB5.out
          go_wp2_with fail
          refine hsab.mono ?_
          rintro e we ⟨rfl, hbq⟩
          have HE : Hid (Below w.heap.size w we) := HD.out.trans (hbq.mono HD.out.size)
          clear hsab hbq y0 y1 z0 z1 hy1 hz1
          go_wp2_with fail
          refine (hal we HE.out).mono ?_
          rintro e wz ⟨rfl, hbz⟩
          have HZ : Hid (Below w.heap.size w wz) := HE.out.trans (hbz.mono HE.out.size)
          clear hbz
          go_wp2
          go_ret
          exact ⟨rfl, HZ.out⟩
    · have hpos : 0 < s.size := by omega
      have hnp : ¬ s.toList = [] := by
        rw [ByteArray.toList_eq]
        intro h
        rw [← size_list, h] at hpos
        exact absurd hpos (by decide)
      have hne : s.toList.isEmpty = false := by
        rw [Bool.eq_false_iff]
        intro h
        exact hnp (List.isEmpty_iff.1 h)
      have HHD : Hid (s.data.toList.head? = some s[0]) := by
        show _ = _
        rw [List.head?_eq_getElem?, List.getElem?_eq_getElem (by rw [size_list]; exact hpos)]; rfl
      clear hz
      by_cases h35 : s[0].toNat = 35
      · have q35 : ((s[0].toNat : Int) != 35) = false := by simp [h35]
        have q35' : ((s[0].toNat : Int) == 35) = true := by simp [h35]
        clear h35
        go_upto_region 8 with fail
        rw [← HW1.out]
        have hwt : ∃ WT, WT = W1 := ⟨_, rfl⟩
        obtain ⟨WT, rfl⟩ := hwt
        have HBT := HU1
        have HXA := HXA0
        have HXB := HXB0
        have hal : ∀ W, Below w.heap.size w W → Calls Tryd.prog 6 #[] W fun e w' => e = .returned (.bool true) ∧ Below W.heap.size W w' := fun W h => alive_any W (HT.out.below h)
        obtain ⟨x0, x1⟩ := line_cells HXA.out
        have hx1 := HXA.out
        have hpa := print_any WT o1 A1 c1 l1 (H1.out.below HBT.out) n1 N1.out m1 (HT.out.below HBT.out)
        cases r1 : rightP o1 l1
        · have e1 : prE o1 l1 = 2 := by unfold prE; rw [r1]; rfl
          have e2 : prT o1 l1 = [] := by unfold prT; rw [r1]; rfl
          rw [e1, e2] at hpa
          clear e1 e2 r1
          go_wp2_with fail
          refine hpa.mono ?_
          rintro e wa ⟨rfl, hbq⟩
          have HA : Hid (Below w.heap.size w wa) := HBT.out.trans (hbq.mono HBT.out.size)
          have HXB2 : Hid (wa.heap[w.heap.size + 1]? = some (.cells #[.int .i64 o2, .slice A2 n2 c2] 24 (0, 0))) := (hbq.block _ (lt_of_block HXB.out)).trans HXB.out
          clear hpa hbq x0 x1 hx1
          obtain ⟨y0, y1⟩ := line_cells HXB2.out
          have hy1 := HXB2.out
          go_wp2_with fail
          refine (print_any wa o2 A2 c2 l2 (H2.out.below HA.out) n2 N2.out m2 (HT.out.below HA.out)).mono ?_
          rintro e wb ⟨rfl, hbq⟩
          have HB' : Hid (Below w.heap.size w wb) := HA.out.trans (hbq.mono HA.out.size)
          clear hbq y0 y1 hy1
          go_wp2_with fail
          refine (hal wb HB'.out).mono ?_
          rintro e wz ⟨rfl, hbz⟩
          have HZ : Hid (Below w.heap.size w wz) := HB'.out.trans (hbz.mono HB'.out.size)
          clear hbz
          go_wp2
          go_ret
          exact ⟨rfl, HZ.out⟩
        · have e1 : prE o1 l1 = 0 := by unfold prE; rw [r1]; rfl
          have e2 : prT o1 l1 = printP o1 l1 := by unfold prT; rw [r1]; rfl
          rw [e1, e2] at hpa
          clear e1 e2
          have R1 := Lib.hid r1
          clear r1
          have BT := Lib.hid (back_text R1.out)
          go_wp2_with fail
          refine hpa.mono ?_
          rintro e wa ⟨rfl, hbq⟩
          have HA : Hid (Below w.heap.size w wa) := HBT.out.trans (hbq.mono HBT.out.size)
          have HXA2 : Hid (wa.heap[w.heap.size]? = some (.cells #[.int .i64 o1, .slice A1 n1 c1] 24 (0, 0))) := (hbq.block _ (lt_of_block HXA.out)).trans HXA.out
          have HXB2 : Hid (wa.heap[w.heap.size + 1]? = some (.cells #[.int .i64 o2, .slice A2 n2 c2] 24 (0, 0))) := (hbq.block _ (lt_of_block HXB.out)).trans HXB.out
          clear hpa hbq x0 x1 hx1
          obtain ⟨y0, y1⟩ := line_cells HXB2.out
          have hy1 := HXB2.out
          go_wp2_with fail
          refine (print_any wa o2 A2 c2 l2 (H2.out.below HA.out) n2 N2.out m2 (HT.out.below HA.out)).mono ?_
          rintro e wb ⟨rfl, hbq⟩
          have HB' : Hid (Below w.heap.size w wb) := HA.out.trans (hbq.mono HA.out.size)
          have HXA3 : Hid (wb.heap[w.heap.size]? = some (.cells #[.int .i64 o1, .slice A1 n1 c1] 24 (0, 0))) := (hbq.block _ (lt_of_block HXA2.out)).trans HXA2.out
          have HXB3 : Hid (wb.heap[w.heap.size + 1]? = some (.cells #[.int .i64 o2, .slice A2 n2 c2] 24 (0, 0))) := (hbq.block _ (lt_of_block HXB2.out)).trans HXB2.out
          clear hbq y0 y1 hy1
          have hpar := parse_any wb (B (printP o1 l1)) (HT.out.below HB'.out)
          go_wp2_with fail
          refine hpar.mono ?_
          rintro e wc ⟨⟨v, rfl, ho⟩, hbq⟩
          rw [B_data] at ho ⊢
          rw [BT.out.1, BT.out.2.1]
          rw [BT.out.2.2] at ho
          obtain ⟨A3, c3, rfl, hr3⟩ := own_readsI ho
          have HC : Hid (Below w.heap.size w (wc.alloc (.cells #[.int .i64 o1, .slice A3 l1.length c3] 24))) := (HB'.out.trans (hbq.mono HB'.out.size)).trans ((one_al _ _).mono (Nat.le_trans HB'.out.size hbq.size))
          have HXA4 : Hid ((wc.alloc (.cells #[.int .i64 o1, .slice A3 l1.length c3] 24)).heap[w.heap.size]? = some (.cells #[.int .i64 o1, .slice A1 n1 c1] 24 (0, 0))) := (Below.heap_alloc _ _ _ (Nat.lt_of_lt_of_le (lt_of_block HXA3.out) hbq.size)).trans ((hbq.block _ (lt_of_block HXA3.out)).trans HXA3.out)
          have HXB4 : Hid ((wc.alloc (.cells #[.int .i64 o1, .slice A3 l1.length c3] 24)).heap[w.heap.size + 1]? = some (.cells #[.int .i64 o2, .slice A2 n2 c2] 24 (0, 0))) := (Below.heap_alloc _ _ _ (Nat.lt_of_lt_of_le (lt_of_block HXB3.out) hbq.size)).trans ((hbq.block _ (lt_of_block HXB3.out)).trans HXB3.out)
          have hl1 : l1.length ≤ 1000 := by rw [N1.out]; exact m1
          have hsmc := same_any (wc.alloc (.cells #[.int .i64 o1, .slice A3 l1.length c3] 24)) o1 o1 A3 A1 c3 c1 l1 l1 (hr3.below (one_al _ _)) (H1.out.below HC.out) l1.length n1 rfl N1.out hl1 m1
          have hss : sameP o1 l1 o1 l1 = true := (same_iff _ _ _ _).2 ⟨rfl, rfl⟩
          rw [hss] at hsmc
          have hltw : w.heap.size < wc.heap.size := Nat.lt_of_lt_of_le (lt_of_block HXA3.out) hbq.size
          clear hpar ho hr3 hbq hss
          obtain ⟨y0, y1⟩ := line_cells HXA4.out
          have hy1 := HXA4.out
          go_wp2_with fail
          refine hsmc.mono ?_
          rintro e wd ⟨rfl, hbq⟩
          have HD : Hid (Below w.heap.size w wd) := HC.out.trans (hbq.mono HC.out.size)
          have HXA5 : Hid (wd.heap[w.heap.size]? = some (.cells #[.int .i64 o1, .slice A1 n1 c1] 24 (0, 0))) := (hbq.block _ (lt_of_block HXA4.out)).trans HXA4.out
          have HXB5 : Hid (wd.heap[w.heap.size + 1]? = some (.cells #[.int .i64 o2, .slice A2 n2 c2] 24 (0, 0))) := (hbq.block _ (lt_of_block HXB4.out)).trans HXB4.out
          clear hsmc hbq y0 y1 hy1 hltw
          cases r2 : rightP o2 l2
          · have e1 : prE o2 l2 = 2 := by unfold prE; rw [r2]; rfl
            rw [e1]
            clear e1 r2
            go_wp2_with fail
            refine (hal wd HD.out).mono ?_
            rintro e wz ⟨rfl, hbz⟩
            have HZ : Hid (Below w.heap.size w wz) := HD.out.trans (hbz.mono HD.out.size)
            clear hbz
            go_wp2
            go_ret
            exact ⟨rfl, HZ.out⟩
          · have e1 : prE o2 l2 = 0 := by unfold prE; rw [r2]; rfl
            have e2 : prT o2 l2 = printP o2 l2 := by unfold prT; rw [r2]; rfl
            rw [e1, e2]
            have hts := texts_same R1.out r2
            have hsab := same_any wd o1 o2 A1 A2 c1 c2 l1 l2 (H1.out.below HD.out) (H2.out.below HD.out) n1 n2 N1.out N2.out m1 m2
            generalize sameP o1 l1 o2 l2 = sv at *
            clear e1 e2 r2
            generalize B (printP o1 l1) = p1 at *
            generalize B (printP o2 l2) = p2 at *
            have hsv : (sv == sv) = true := by simp
            obtain ⟨y0, y1⟩ := line_cells HXA5.out
            obtain ⟨z0, z1⟩ := line_cells HXB5.out
            have hy1 := HXA5.out
            have hz1 := HXB5.out
            go_wp2_with fail
            refine hsab.mono ?_
            rintro e we ⟨rfl, hbq⟩
            have HE : Hid (Below w.heap.size w we) := HD.out.trans (hbq.mono HD.out.size)
            clear hsab hbq y0 y1 z0 z1 hy1 hz1
            go_wp2_with fail
            refine (hal we HE.out).mono ?_
            rintro e wz ⟨rfl, hbz⟩
            have HZ : Hid (Below w.heap.size w wz) := HE.out.trans (hbz.mono HE.out.size)
            clear hbz
            go_wp2
            go_ret
            exact ⟨rfl, HZ.out⟩
      · have HFR : Hid (s.data.toList = [] ∨ s.data.toList.head? ≠ some 35) := by
          refine .inr ?_
          rw [HHD.out]
          intro h
          injection h with h
          exact h35 (by rw [h]; rfl)
        have q35 : ((s[0].toNat : Int) != 35) = true := by simp; omega
        have q35' : ((s[0].toNat : Int) == 35) = false := by simp; omega
        clear h35
        go_upto_region 5 with fail
        rw [← HW1.out]
        have hfo := front_ok HPE.out HFR.out
        have FO := Lib.hid hfo
        clear hfo
        have e1 : prE (parOp s.data.toList) (parArgs s.data.toList) = 0 := by unfold prE; rw [FO.out.1]; rfl
        have e2 : B (prT (parOp s.data.toList) (parArgs s.data.toList)) = s := by unfold prT; rw [FO.out.1, if_pos rfl, FO.out.2, B_eta]
        have hpl := print_any W1 (parOp s.data.toList) A c (parArgs s.data.toList) HR1.out _ rfl HFEW.out (HT.out.below HU1.out)
        rw [e1, e2] at hpl
        obtain ⟨x0, x1⟩ := line_cells HBX1.out
        have hx1 := HBX1.out
        clear e1 e2
        rw [HPE.out]
        have hsse : (s.toList != s.toList) = false := by simp
        go_wp2_with fail
        refine hpl.mono ?_
        rintro e w2 ⟨rfl, hbq⟩
        have HU2 : Hid (Below w.heap.size w w2) := HU1.out.trans (hbq.mono HU1.out.size)
        have HBX2 : Hid (w2.heap[w1.heap.size]? = some (.cells #[.int .i64 (parOp s.data.toList), .slice A (parArgs s.data.toList).length c] 24 (0, 0))) := (hbq.block _ (lt_of_block HBX1.out)).trans HBX1.out
        have HXA1 : Hid (w2.heap[w.heap.size]? = some (.cells #[.int .i64 o1, .slice A1 n1 c1] 24 (0, 0))) := (hbq.block _ (lt_of_block HXA0.out)).trans HXA0.out
        have HXB1 : Hid (w2.heap[w.heap.size + 1]? = some (.cells #[.int .i64 o2, .slice A2 n2 c2] 24 (0, 0))) := (hbq.block _ (lt_of_block HXB0.out)).trans HXB0.out
        have hrc := right_any w2 (parOp s.data.toList) A c (parArgs s.data.toList) (HR1.out.below hbq) _ rfl HFEW.out
        rw [FO.out.1] at hrc
        clear hpl hbq x0 x1 hx1
        obtain ⟨x0, x1⟩ := line_cells HBX2.out
        have hx1 := HBX2.out
        go_wp2_with fail
        refine hrc.mono ?_
        rintro e WT ⟨rfl, hbq⟩
        have HBT : Hid (Below w.heap.size w WT) := HU2.out.trans (hbq.mono HU2.out.size)
        have HXA : Hid (WT.heap[w.heap.size]? = some (.cells #[.int .i64 o1, .slice A1 n1 c1] 24 (0, 0))) := (hbq.block _ (lt_of_block HXA1.out)).trans HXA1.out
        have HXB : Hid (WT.heap[w.heap.size + 1]? = some (.cells #[.int .i64 o2, .slice A2 n2 c2] 24 (0, 0))) := (hbq.block _ (lt_of_block HXB1.out)).trans HXB1.out
        clear hrc hbq x0 x1 hx1
        have hal : ∀ W, Below w.heap.size w W → Calls Tryd.prog 6 #[] W fun e w' => e = .returned (.bool true) ∧ Below W.heap.size W w' := fun W h => alive_any W (HT.out.below h)
        obtain ⟨x0, x1⟩ := line_cells HXA.out
        have hx1 := HXA.out
        have hpa := print_any WT o1 A1 c1 l1 (H1.out.below HBT.out) n1 N1.out m1 (HT.out.below HBT.out)
        cases r1 : rightP o1 l1
        · have e1 : prE o1 l1 = 2 := by unfold prE; rw [r1]; rfl
          have e2 : prT o1 l1 = [] := by unfold prT; rw [r1]; rfl
          rw [e1, e2] at hpa
          clear e1 e2 r1
          go_wp2_with fail
          refine hpa.mono ?_
          rintro e wa ⟨rfl, hbq⟩
          have HA : Hid (Below w.heap.size w wa) := HBT.out.trans (hbq.mono HBT.out.size)
          have HXB2 : Hid (wa.heap[w.heap.size + 1]? = some (.cells #[.int .i64 o2, .slice A2 n2 c2] 24 (0, 0))) := (hbq.block _ (lt_of_block HXB.out)).trans HXB.out
          clear hpa hbq x0 x1 hx1
          obtain ⟨y0, y1⟩ := line_cells HXB2.out
          have hy1 := HXB2.out
          go_wp2_with fail
          refine (print_any wa o2 A2 c2 l2 (H2.out.below HA.out) n2 N2.out m2 (HT.out.below HA.out)).mono ?_
          rintro e wb ⟨rfl, hbq⟩
          have HB' : Hid (Below w.heap.size w wb) := HA.out.trans (hbq.mono HA.out.size)
          clear hbq y0 y1 hy1
          go_wp2_with fail
          refine (hal wb HB'.out).mono ?_
          rintro e wz ⟨rfl, hbz⟩
          have HZ : Hid (Below w.heap.size w wz) := HB'.out.trans (hbz.mono HB'.out.size)
          clear hbz
          go_wp2
          go_ret
          exact ⟨rfl, HZ.out⟩
        · have e1 : prE o1 l1 = 0 := by unfold prE; rw [r1]; rfl
          have e2 : prT o1 l1 = printP o1 l1 := by unfold prT; rw [r1]; rfl
          rw [e1, e2] at hpa
          clear e1 e2
          have R1 := Lib.hid r1
          clear r1
          have BT := Lib.hid (back_text R1.out)
          go_wp2_with fail
          refine hpa.mono ?_
          rintro e wa ⟨rfl, hbq⟩
          have HA : Hid (Below w.heap.size w wa) := HBT.out.trans (hbq.mono HBT.out.size)
          have HXA2 : Hid (wa.heap[w.heap.size]? = some (.cells #[.int .i64 o1, .slice A1 n1 c1] 24 (0, 0))) := (hbq.block _ (lt_of_block HXA.out)).trans HXA.out
          have HXB2 : Hid (wa.heap[w.heap.size + 1]? = some (.cells #[.int .i64 o2, .slice A2 n2 c2] 24 (0, 0))) := (hbq.block _ (lt_of_block HXB.out)).trans HXB.out
          clear hpa hbq x0 x1 hx1
          obtain ⟨y0, y1⟩ := line_cells HXB2.out
          have hy1 := HXB2.out
          go_wp2_with fail
          refine (print_any wa o2 A2 c2 l2 (H2.out.below HA.out) n2 N2.out m2 (HT.out.below HA.out)).mono ?_
          rintro e wb ⟨rfl, hbq⟩
          have HB' : Hid (Below w.heap.size w wb) := HA.out.trans (hbq.mono HA.out.size)
          have HXA3 : Hid (wb.heap[w.heap.size]? = some (.cells #[.int .i64 o1, .slice A1 n1 c1] 24 (0, 0))) := (hbq.block _ (lt_of_block HXA2.out)).trans HXA2.out
          have HXB3 : Hid (wb.heap[w.heap.size + 1]? = some (.cells #[.int .i64 o2, .slice A2 n2 c2] 24 (0, 0))) := (hbq.block _ (lt_of_block HXB2.out)).trans HXB2.out
          clear hbq y0 y1 hy1
          have hpar := parse_any wb (B (printP o1 l1)) (HT.out.below HB'.out)
          go_wp2_with fail
          refine hpar.mono ?_
          rintro e wc ⟨⟨v, rfl, ho⟩, hbq⟩
          rw [B_data] at ho ⊢
          rw [BT.out.1, BT.out.2.1]
          rw [BT.out.2.2] at ho
          obtain ⟨A3, c3, rfl, hr3⟩ := own_readsI ho
          have HC : Hid (Below w.heap.size w (wc.alloc (.cells #[.int .i64 o1, .slice A3 l1.length c3] 24))) := (HB'.out.trans (hbq.mono HB'.out.size)).trans ((one_al _ _).mono (Nat.le_trans HB'.out.size hbq.size))
          have HXA4 : Hid ((wc.alloc (.cells #[.int .i64 o1, .slice A3 l1.length c3] 24)).heap[w.heap.size]? = some (.cells #[.int .i64 o1, .slice A1 n1 c1] 24 (0, 0))) := (Below.heap_alloc _ _ _ (Nat.lt_of_lt_of_le (lt_of_block HXA3.out) hbq.size)).trans ((hbq.block _ (lt_of_block HXA3.out)).trans HXA3.out)
          have HXB4 : Hid ((wc.alloc (.cells #[.int .i64 o1, .slice A3 l1.length c3] 24)).heap[w.heap.size + 1]? = some (.cells #[.int .i64 o2, .slice A2 n2 c2] 24 (0, 0))) := (Below.heap_alloc _ _ _ (Nat.lt_of_lt_of_le (lt_of_block HXB3.out) hbq.size)).trans ((hbq.block _ (lt_of_block HXB3.out)).trans HXB3.out)
          have hl1 : l1.length ≤ 1000 := by rw [N1.out]; exact m1
          have hsmc := same_any (wc.alloc (.cells #[.int .i64 o1, .slice A3 l1.length c3] 24)) o1 o1 A3 A1 c3 c1 l1 l1 (hr3.below (one_al _ _)) (H1.out.below HC.out) l1.length n1 rfl N1.out hl1 m1
          have hss : sameP o1 l1 o1 l1 = true := (same_iff _ _ _ _).2 ⟨rfl, rfl⟩
          rw [hss] at hsmc
          have hltw : w.heap.size < wc.heap.size := Nat.lt_of_lt_of_le (lt_of_block HXA3.out) hbq.size
          clear hpar ho hr3 hbq hss
          obtain ⟨y0, y1⟩ := line_cells HXA4.out
          have hy1 := HXA4.out
          go_wp2_with fail
          refine hsmc.mono ?_
          rintro e wd ⟨rfl, hbq⟩
          have HD : Hid (Below w.heap.size w wd) := HC.out.trans (hbq.mono HC.out.size)
          have HXA5 : Hid (wd.heap[w.heap.size]? = some (.cells #[.int .i64 o1, .slice A1 n1 c1] 24 (0, 0))) := (hbq.block _ (lt_of_block HXA4.out)).trans HXA4.out
          have HXB5 : Hid (wd.heap[w.heap.size + 1]? = some (.cells #[.int .i64 o2, .slice A2 n2 c2] 24 (0, 0))) := (hbq.block _ (lt_of_block HXB4.out)).trans HXB4.out
          clear hsmc hbq y0 y1 hy1 hltw
          cases r2 : rightP o2 l2
          · have e1 : prE o2 l2 = 2 := by unfold prE; rw [r2]; rfl
            rw [e1]
            clear e1 r2
            go_wp2_with fail
            refine (hal wd HD.out).mono ?_
            rintro e wz ⟨rfl, hbz⟩
            have HZ : Hid (Below w.heap.size w wz) := HD.out.trans (hbz.mono HD.out.size)
            clear hbz
            go_wp2
            go_ret
            exact ⟨rfl, HZ.out⟩
          · have e1 : prE o2 l2 = 0 := by unfold prE; rw [r2]; rfl
            have e2 : prT o2 l2 = printP o2 l2 := by unfold prT; rw [r2]; rfl
            rw [e1, e2]
            have hts := texts_same R1.out r2
            have hsab := same_any wd o1 o2 A1 A2 c1 c2 l1 l2 (H1.out.below HD.out) (H2.out.below HD.out) n1 n2 N1.out N2.out m1 m2
            generalize sameP o1 l1 o2 l2 = sv at *
            clear e1 e2 r2
            generalize B (printP o1 l1) = p1 at *
            generalize B (printP o2 l2) = p2 at *
            have hsv : (sv == sv) = true := by simp
            obtain ⟨y0, y1⟩ := line_cells HXA5.out
            obtain ⟨z0, z1⟩ := line_cells HXB5.out
            have hy1 := HXA5.out
            have hz1 := HXB5.out
            go_wp2_with fail
            refine hsab.mono ?_
            rintro e we ⟨rfl, hbq⟩
            have HE : Hid (Below w.heap.size w we) := HD.out.trans (hbq.mono HD.out.size)
            clear hsab hbq y0 y1 z0 z1 hy1 hz1
            go_wp2_with fail
            refine (hal we HE.out).mono ?_
            rintro e wz ⟨rfl, hbz⟩
            have HZ : Hid (Below w.heap.size w wz) := HE.out.trans (hbz.mono HE.out.size)
            clear hbz
            go_wp2
            go_ret
            exact ⟨rfl, HZ.out⟩
  · have q0 : (parE s.data.toList == 0) = false := by simpa using he
    clear he
    go_upto_region 8 with fail
    rw [← HW1.out]
    have hwt : ∃ WT, WT = W1 := ⟨_, rfl⟩
    obtain ⟨WT, rfl⟩ := hwt
    have HBT := HU1
    have HXA := HXA0
    have HXB := HXB0
    have hal : ∀ W, Below w.heap.size w W → Calls Tryd.prog 6 #[] W fun e w' => e = .returned (.bool true) ∧ Below W.heap.size W w' := fun W h => alive_any W (HT.out.below h)
    obtain ⟨x0, x1⟩ := line_cells HXA.out
    have hx1 := HXA.out
    have hpa := print_any WT o1 A1 c1 l1 (H1.out.below HBT.out) n1 N1.out m1 (HT.out.below HBT.out)
    cases r1 : rightP o1 l1
    · have e1 : prE o1 l1 = 2 := by unfold prE; rw [r1]; rfl
      have e2 : prT o1 l1 = [] := by unfold prT; rw [r1]; rfl
      rw [e1, e2] at hpa
      clear e1 e2 r1
      go_wp2_with fail
      refine hpa.mono ?_
      rintro e wa ⟨rfl, hbq⟩
      have HA : Hid (Below w.heap.size w wa) := HBT.out.trans (hbq.mono HBT.out.size)
      have HXB2 : Hid (wa.heap[w.heap.size + 1]? = some (.cells #[.int .i64 o2, .slice A2 n2 c2] 24 (0, 0))) := (hbq.block _ (lt_of_block HXB.out)).trans HXB.out
      clear hpa hbq x0 x1 hx1
      obtain ⟨y0, y1⟩ := line_cells HXB2.out
      have hy1 := HXB2.out
      go_wp2_with fail
      refine (print_any wa o2 A2 c2 l2 (H2.out.below HA.out) n2 N2.out m2 (HT.out.below HA.out)).mono ?_
      rintro e wb ⟨rfl, hbq⟩
      have HB' : Hid (Below w.heap.size w wb) := HA.out.trans (hbq.mono HA.out.size)
      clear hbq y0 y1 hy1
      go_wp2_with fail
      refine (hal wb HB'.out).mono ?_
      rintro e wz ⟨rfl, hbz⟩
      have HZ : Hid (Below w.heap.size w wz) := HB'.out.trans (hbz.mono HB'.out.size)
      clear hbz
      go_wp2
      go_ret
      exact ⟨rfl, HZ.out⟩
    · have e1 : prE o1 l1 = 0 := by unfold prE; rw [r1]; rfl
      have e2 : prT o1 l1 = printP o1 l1 := by unfold prT; rw [r1]; rfl
      rw [e1, e2] at hpa
      clear e1 e2
      have R1 := Lib.hid r1
      clear r1
      have BT := Lib.hid (back_text R1.out)
      go_wp2_with fail
      refine hpa.mono ?_
      rintro e wa ⟨rfl, hbq⟩
      have HA : Hid (Below w.heap.size w wa) := HBT.out.trans (hbq.mono HBT.out.size)
      have HXA2 : Hid (wa.heap[w.heap.size]? = some (.cells #[.int .i64 o1, .slice A1 n1 c1] 24 (0, 0))) := (hbq.block _ (lt_of_block HXA.out)).trans HXA.out
      have HXB2 : Hid (wa.heap[w.heap.size + 1]? = some (.cells #[.int .i64 o2, .slice A2 n2 c2] 24 (0, 0))) := (hbq.block _ (lt_of_block HXB.out)).trans HXB.out
      clear hpa hbq x0 x1 hx1
      obtain ⟨y0, y1⟩ := line_cells HXB2.out
      have hy1 := HXB2.out
      go_wp2_with fail
      refine (print_any wa o2 A2 c2 l2 (H2.out.below HA.out) n2 N2.out m2 (HT.out.below HA.out)).mono ?_
      rintro e wb ⟨rfl, hbq⟩
      have HB' : Hid (Below w.heap.size w wb) := HA.out.trans (hbq.mono HA.out.size)
      have HXA3 : Hid (wb.heap[w.heap.size]? = some (.cells #[.int .i64 o1, .slice A1 n1 c1] 24 (0, 0))) := (hbq.block _ (lt_of_block HXA2.out)).trans HXA2.out
      have HXB3 : Hid (wb.heap[w.heap.size + 1]? = some (.cells #[.int .i64 o2, .slice A2 n2 c2] 24 (0, 0))) := (hbq.block _ (lt_of_block HXB2.out)).trans HXB2.out
      clear hbq y0 y1 hy1
      have hpar := parse_any wb (B (printP o1 l1)) (HT.out.below HB'.out)
      go_wp2_with fail
      refine hpar.mono ?_
      rintro e wc ⟨⟨v, rfl, ho⟩, hbq⟩
      rw [B_data] at ho ⊢
      rw [BT.out.1, BT.out.2.1]
      rw [BT.out.2.2] at ho
      obtain ⟨A3, c3, rfl, hr3⟩ := own_readsI ho
      have HC : Hid (Below w.heap.size w (wc.alloc (.cells #[.int .i64 o1, .slice A3 l1.length c3] 24))) := (HB'.out.trans (hbq.mono HB'.out.size)).trans ((one_al _ _).mono (Nat.le_trans HB'.out.size hbq.size))
      have HXA4 : Hid ((wc.alloc (.cells #[.int .i64 o1, .slice A3 l1.length c3] 24)).heap[w.heap.size]? = some (.cells #[.int .i64 o1, .slice A1 n1 c1] 24 (0, 0))) := (Below.heap_alloc _ _ _ (Nat.lt_of_lt_of_le (lt_of_block HXA3.out) hbq.size)).trans ((hbq.block _ (lt_of_block HXA3.out)).trans HXA3.out)
      have HXB4 : Hid ((wc.alloc (.cells #[.int .i64 o1, .slice A3 l1.length c3] 24)).heap[w.heap.size + 1]? = some (.cells #[.int .i64 o2, .slice A2 n2 c2] 24 (0, 0))) := (Below.heap_alloc _ _ _ (Nat.lt_of_lt_of_le (lt_of_block HXB3.out) hbq.size)).trans ((hbq.block _ (lt_of_block HXB3.out)).trans HXB3.out)
      have hl1 : l1.length ≤ 1000 := by rw [N1.out]; exact m1
      have hsmc := same_any (wc.alloc (.cells #[.int .i64 o1, .slice A3 l1.length c3] 24)) o1 o1 A3 A1 c3 c1 l1 l1 (hr3.below (one_al _ _)) (H1.out.below HC.out) l1.length n1 rfl N1.out hl1 m1
      have hss : sameP o1 l1 o1 l1 = true := (same_iff _ _ _ _).2 ⟨rfl, rfl⟩
      rw [hss] at hsmc
      have hltw : w.heap.size < wc.heap.size := Nat.lt_of_lt_of_le (lt_of_block HXA3.out) hbq.size
      clear hpar ho hr3 hbq hss
      obtain ⟨y0, y1⟩ := line_cells HXA4.out
      have hy1 := HXA4.out
      go_wp2_with fail
      refine hsmc.mono ?_
      rintro e wd ⟨rfl, hbq⟩
      have HD : Hid (Below w.heap.size w wd) := HC.out.trans (hbq.mono HC.out.size)
      have HXA5 : Hid (wd.heap[w.heap.size]? = some (.cells #[.int .i64 o1, .slice A1 n1 c1] 24 (0, 0))) := (hbq.block _ (lt_of_block HXA4.out)).trans HXA4.out
      have HXB5 : Hid (wd.heap[w.heap.size + 1]? = some (.cells #[.int .i64 o2, .slice A2 n2 c2] 24 (0, 0))) := (hbq.block _ (lt_of_block HXB4.out)).trans HXB4.out
      clear hsmc hbq y0 y1 hy1 hltw
      cases r2 : rightP o2 l2
      · have e1 : prE o2 l2 = 2 := by unfold prE; rw [r2]; rfl
        rw [e1]
        clear e1 r2
        go_wp2_with fail
        refine (hal wd HD.out).mono ?_
        rintro e wz ⟨rfl, hbz⟩
        have HZ : Hid (Below w.heap.size w wz) := HD.out.trans (hbz.mono HD.out.size)
        clear hbz
        go_wp2
        go_ret
        exact ⟨rfl, HZ.out⟩
      · have e1 : prE o2 l2 = 0 := by unfold prE; rw [r2]; rfl
        have e2 : prT o2 l2 = printP o2 l2 := by unfold prT; rw [r2]; rfl
        rw [e1, e2]
        have hts := texts_same R1.out r2
        have hsab := same_any wd o1 o2 A1 A2 c1 c2 l1 l2 (H1.out.below HD.out) (H2.out.below HD.out) n1 n2 N1.out N2.out m1 m2
        generalize sameP o1 l1 o2 l2 = sv at *
        clear e1 e2 r2
        generalize B (printP o1 l1) = p1 at *
        generalize B (printP o2 l2) = p2 at *
        have hsv : (sv == sv) = true := by simp
        obtain ⟨y0, y1⟩ := line_cells HXA5.out
        obtain ⟨z0, z1⟩ := line_cells HXB5.out
        have hy1 := HXA5.out
        have hz1 := HXB5.out
        go_wp2_with fail
        refine hsab.mono ?_
        rintro e we ⟨rfl, hbq⟩
        have HE : Hid (Below w.heap.size w we) := HD.out.trans (hbq.mono HD.out.size)
        clear hsab hbq y0 y1 z0 z1 hy1 hz1
        go_wp2_with fail
        refine (hal we HE.out).mono ?_
        rintro e wz ⟨rfl, hbz⟩
        have HZ : Hid (Below w.heap.size w wz) := HE.out.trans (hbz.mono HE.out.size)
        clear hbz
        go_wp2
        go_ret
        exact ⟨rfl, HZ.out⟩
end Go.Proofs.YtconmkhoiomeiaaDoor
