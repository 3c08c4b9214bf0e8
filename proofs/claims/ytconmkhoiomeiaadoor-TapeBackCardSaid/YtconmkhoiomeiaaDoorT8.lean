/- The law's own probe: alive. -/
import Derived.Test.YtconmkhoiomeiaaDoorT7
namespace Go.Proofs.YtconmkhoiomeiaaDoor
open Go.RowKit Go.Sort
open Go.Lib (join join_one join_cons)

theorem dec0 : Lib.decDigits 0 = [48] := by rw [Lib.decDigits_one (by omega)]; rfl
theorem dec1 : Lib.decDigits 1 = [49] := by rw [Lib.decDigits_one (by omega)]; rfl
theorem dec7 : Lib.decDigits 7 = [55] := by rw [Lib.decDigits_one (by omega)]; rfl
theorem print_send : printP 3 [0, 1, 7] = [115, 101, 110, 100, 32, 48, 32, 49, 32, 55] := by
  unfold printP wordsP
  simp only [List.map_cons, List.map_nil]
  rw [show ((0 : Int).toNat) = 0 from rfl, show ((1 : Int).toNat) = 1 from rfl, show ((7 : Int).toNat) = 7 from rfl, dec0, dec1, dec7]
  decide
theorem right_send : rightP 3 [0, 1, 7] = true := by decide
theorem not_num01 : ¬ isNum [48, 49] := by
  rintro ⟨n, _, e⟩
  have h : valD 0 [48, 49] = valD 0 (Lib.decDigits n) := by rw [e]
  rw [valD_dec] at h
  have h1 : n = 1 := h.symm
  subst h1
  rw [dec1] at e
  exact absurd e (by decide)
theorem par1 : parOp [115, 101, 110, 100, 32, 48, 32, 49, 32, 55] = 3 ∧ parArgs [115, 101, 110, 100, 32, 48, 32, 49, 32, 55] = [0, 1, 7] ∧ parE [115, 101, 110, 100, 32, 48, 32, 49, 32, 55] = 0 := by
  have hl := line_print right_send
  rw [print_send] at hl
  have := par_text (t := [115, 101, 110, 100, 32, 48, 32, 49, 32, 55]) (by decide) ((okP_iff _).2 ⟨3, [0, 1, 7], right_send, print_send⟩)
  rw [hl.1, hl.2] at this
  exact this
theorem par2 : parOp [115, 116, 101, 112, 32, 48, 49] = 0 ∧ parArgs [115, 116, 101, 112, 32, 48, 49] = [] ∧ parE [115, 116, 101, 112, 32, 48, 49] = 14 := par_form (by decide) (ok_no_num (by decide) (x := [48, 49]) (by decide) not_num01)
theorem par3 : parOp [115, 116, 101, 112, 32, 32, 49] = 0 ∧ parArgs [115, 116, 101, 112, 32, 32, 49] = [] ∧ parE [115, 116, 101, 112, 32, 32, 49] = 14 := par_form (by decide) (ok_no_num (by decide) (x := []) (by decide) num_no_nil)
theorem par4 : parOp [114, 101, 115, 116, 32] = 0 ∧ parArgs [114, 101, 115, 116, 32] = [] ∧ parE [114, 101, 115, 116, 32] = 14 := par_form (by decide) (ok_no_num (by decide) (x := []) (by decide) num_no_nil)

set_option maxHeartbeats 1600000 in
theorem alive_any (w : World) (ht : Ties w) : Calls Tryd.prog 6 #[] w fun e w' => e = .returned (.bool true) ∧ Below w.heap.size w w' := by
  have HT := Lib.hid ht
  have hc1 := parse_any w ⟨#[115, 101, 110, 100, 32, 48, 32, 49, 32, 55]⟩ ht
  clear ht
  go_enter Tryd.func6, Tryd.ntmps6
  go_wp2_with fail
  refine hc1.mono ?_
  rintro e w1 ⟨⟨v1, rfl, ho1⟩, hb1⟩
  have p1 : parOp [115, 101, 110, 100, 32, 48, 32, 49, 32, 55] = 3 ∧ parArgs [115, 101, 110, 100, 32, 48, 32, 49, 32, 55] = [0, 1, 7] ∧ parE [115, 101, 110, 100, 32, 48, 32, 49, 32, 55] = 0 := par1
  simp only [p1.1, p1.2.1, p1.2.2] at ho1 ⊢
  obtain ⟨A, c, rfl, hr1⟩ := own_readsI ho1
  have HB1 := Lib.hid hb1
  have HR1 := Lib.hid hr1
  have hbx1 : (w1.alloc (.cells #[.int .i64 3, .slice A 3 c] 24)).heap[w1.heap.size]? = some (.cells #[.int .i64 3, .slice A 3 c] 24 (0, 0)) := box_cells w1 3 A 3 c 24
  have HBX1 := Lib.hid hbx1
  have HU1 : Hid (Below w.heap.size w (w1.alloc (.cells #[.int .i64 3, .slice A 3 c] 24))) := HB1.out.trans ((one_al _ _).mono HB1.out.size)
  have HR1 : Hid (ReadsI (w1.alloc (.cells #[.int .i64 3, .slice A 3 c] 24)) A [0, 1, 7]) := hr1.below (one_al _ _)
  clear hc1 ho1 hb1 hr1 p1 hbx1

  go_wp2_with fail
  refine (parse_any (w1.alloc (.cells #[.int .i64 3, .slice A 3 c] 24)) ⟨#[115, 116, 101, 112, 32, 48, 49]⟩ (HT.out.below HU1.out)).mono ?_
  rintro e w2 ⟨⟨v2, rfl, ho2⟩, hb2⟩
  have p2 : parOp [115, 116, 101, 112, 32, 48, 49] = 0 ∧ parArgs [115, 116, 101, 112, 32, 48, 49] = [] ∧ parE [115, 116, 101, 112, 32, 48, 49] = 14 := par2
  simp only [p2.1, p2.2.1, p2.2.2] at ho2 ⊢
  obtain ⟨A2, c2, rfl, _⟩ := own_readsI ho2
  have HU2 : Hid (Below w.heap.size w (w2.alloc (.cells #[.int .i64 0, .slice A2 0 c2] 24))) := (HU1.out.trans (hb2.mono HU1.out.size)).trans ((one_al _ _).mono (Nat.le_trans HU1.out.size hb2.size))
  have HBX2 : Hid ((w2.alloc (.cells #[.int .i64 0, .slice A2 0 c2] 24)).heap[w1.heap.size]? = some (.cells #[.int .i64 3, .slice A 3 c] 24 (0, 0))) := (Below.heap_alloc _ _ _ (Nat.lt_of_lt_of_le (lt_of_block HBX1.out) hb2.size)).trans ((hb2.block _ (lt_of_block HBX1.out)).trans HBX1.out)
  have HR2 : Hid (ReadsI (w2.alloc (.cells #[.int .i64 0, .slice A2 0 c2] 24)) A [0, 1, 7]) := (HR1.out.below hb2).below (one_al _ _)
  clear ho2 hb2 p2

  go_wp2_with fail
  refine (parse_any (w2.alloc (.cells #[.int .i64 0, .slice A2 0 c2] 24)) ⟨#[115, 116, 101, 112, 32, 32, 49]⟩ (HT.out.below HU2.out)).mono ?_
  rintro e w3 ⟨⟨v3, rfl, ho3⟩, hb3⟩
  have p3 : parOp [115, 116, 101, 112, 32, 32, 49] = 0 ∧ parArgs [115, 116, 101, 112, 32, 32, 49] = [] ∧ parE [115, 116, 101, 112, 32, 32, 49] = 14 := par3
  simp only [p3.1, p3.2.1, p3.2.2] at ho3 ⊢
  obtain ⟨A3, c3, rfl, _⟩ := own_readsI ho3
  have HU3 : Hid (Below w.heap.size w (w3.alloc (.cells #[.int .i64 0, .slice A3 0 c3] 24))) := (HU2.out.trans (hb3.mono HU2.out.size)).trans ((one_al _ _).mono (Nat.le_trans HU2.out.size hb3.size))
  have HBX3 : Hid ((w3.alloc (.cells #[.int .i64 0, .slice A3 0 c3] 24)).heap[w1.heap.size]? = some (.cells #[.int .i64 3, .slice A 3 c] 24 (0, 0))) := (Below.heap_alloc _ _ _ (Nat.lt_of_lt_of_le (lt_of_block HBX2.out) hb3.size)).trans ((hb3.block _ (lt_of_block HBX2.out)).trans HBX2.out)
  have HR3 : Hid (ReadsI (w3.alloc (.cells #[.int .i64 0, .slice A3 0 c3] 24)) A [0, 1, 7]) := (HR2.out.below hb3).below (one_al _ _)
  clear ho3 hb3 p3

  go_wp2_with fail
  refine (parse_any (w3.alloc (.cells #[.int .i64 0, .slice A3 0 c3] 24)) ⟨#[114, 101, 115, 116, 32]⟩ (HT.out.below HU3.out)).mono ?_
  rintro e w4 ⟨⟨v4, rfl, ho4⟩, hb4⟩
  have p4 : parOp [114, 101, 115, 116, 32] = 0 ∧ parArgs [114, 101, 115, 116, 32] = [] ∧ parE [114, 101, 115, 116, 32] = 14 := par4
  simp only [p4.1, p4.2.1, p4.2.2] at ho4 ⊢
  obtain ⟨A4, c4, rfl, _⟩ := own_readsI ho4
  have HU4 : Hid (Below w.heap.size w (w4.alloc (.cells #[.int .i64 0, .slice A4 0 c4] 24))) := (HU3.out.trans (hb4.mono HU3.out.size)).trans ((one_al _ _).mono (Nat.le_trans HU3.out.size hb4.size))
  have HBX4 : Hid ((w4.alloc (.cells #[.int .i64 0, .slice A4 0 c4] 24)).heap[w1.heap.size]? = some (.cells #[.int .i64 3, .slice A 3 c] 24 (0, 0))) := (Below.heap_alloc _ _ _ (Nat.lt_of_lt_of_le (lt_of_block HBX3.out) hb4.size)).trans ((hb4.block _ (lt_of_block HBX3.out)).trans HBX3.out)
  have HR4 : Hid (ReadsI (w4.alloc (.cells #[.int .i64 0, .slice A4 0 c4] 24)) A [0, 1, 7]) := (HR3.out.below hb4).below (one_al _ _)
  clear ho4 hb4 p4

  obtain ⟨d0, d1, d2, d3, dl⟩ := box_any HBX4.out
  have hbx := HBX4.out
  generalize hW : (w4.alloc (.cells #[.int .i64 0, .slice A4 0 c4] 24)) = W at *
  have hrs : ReadsI (W.alloc (.cells #[.int .i64 0, .int .i64 1, .int .i64 7] 3)) (some ⟨W.heap.size, 0, none⟩) [0, 1, 7] := by
    refine .inr ⟨W.heap.size, 0, rfl, fun i hi => ?_⟩
    simp only [World.cell?, new_block]
    have : i = 0 ∨ i = 1 ∨ i = 2 := by simp at hi; omega
    rcases this with rfl | rfl | rfl <;> rfl
  have hcall := same_any (W.alloc (.cells #[.int .i64 0, .int .i64 1, .int .i64 7] 3)) 3 3 A (some ⟨W.heap.size, 0, none⟩) c 3 [0, 1, 7] [0, 1, 7] (HR4.out.below (one_al _ _)) hrs 3 3 rfl rfl (by omega) (by omega)
  have hsm : sameP 3 [0, 1, 7] 3 [0, 1, 7] = true := by decide
  rw [hsm] at hcall
  clear hrs hsm
  go_wp2_with fail
  refine hcall.mono ?_
  rintro e w5 ⟨rfl, hb5⟩
  have HB5 : Hid (Below w.heap.size w w5) := (HU4.out.trans ((one_al _ _).mono HU4.out.size)).trans (hb5.mono (by have := HU4.out.size; simp; omega))
  clear hcall hb5
  go_wp2
  go_ret
  exact ⟨rfl, HB5.out⟩
end Go.Proofs.YtconmkhoiomeiaaDoor
