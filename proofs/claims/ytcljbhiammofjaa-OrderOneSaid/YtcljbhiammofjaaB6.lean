/- For every input the statement of Longest returns true: switchyardlaw21.OrderLongest, without a condition. -/
import Derived.Test.YtcljbhiammofjaaB5
namespace Go.Proofs.Ytcljbhiammofjaa
open Go.ChangeShapes Go.WideShapes Go.ChangeAt Go.RowKit Go.Deep

set_option maxRecDepth 100000 in
theorem ol_lifted (os : Os) (started : os.Started) (H : Type) (enc : TypeId × Value → H) :
    ReturnsInHanded {} Try.checked os 4 .any (Rows.orderLongestSpec.pre6 enc Try.prog Try.f4 Rows.orderLongestRow.domain false) (Rows.orderLongestSpec.post enc Try.prog Try.f4 false true false false) := by
  refine returnsInHanded_of_change (C := Try.checked) Try.own started (by kernel_rfl) Try.func4
    (ChangeSpec.witness6 (enc := enc) (C := Try.checked) false ⟨#[], #[.slice none 0 0, .slice none 0 0, .int .i64 0], []⟩ 8 (by kernel_rfl) (by kernel_rfl) (by kernel_rfl) (by kernel_rfl)) ?_
  intro W base args ds gs before hval0 hW hcnd _
  have hval : ∀ (j : Nat) t v, Try.f4.params[j]? = some t → args[j]? = some v → Value.okWide Try.prog W .any base t v := hval0
  have hW' := hW
  obtain ⟨p, q, hA0, hV, rfl, hfz, hnd⟩ := hW
  have hA : DataW.TrodAll enc Try.prog W 0 (fun _ => true) true Try.f4.params.toList args.toList ds p := hA0
  rw [Try.params4] at hA hval
  obtain ⟨v0, v1, v2, d0, d1, d2, p0, p1, p2, rfl, rfl, rfl, h0, h1, h2⟩ := trodAll_three hA
  obtain ⟨rfl, rfl⟩ := trodVars_none hV
  have h0k := h0
  have h1k := h1
  have hlt : ∀ x ∈ p0 ++ p1 ++ p2, x.block < W.heap.size := fun x hx => hW'.lt x (by simpa using hx)
  obtain ⟨a, rfl, rfl, rfl, wa⟩ := open_int Try.underlying3 (hval 2 3 v2 rfl rfl) h2
  obtain ⟨a0, len0, cap0, rfl⟩ := okWide_slice Try.underlying25 (hval 0 25 v0 rfl rfl)
  obtain ⟨a1, len1, cap1, rfl⟩ := okWide_slice Try.underlying25 (hval 1 25 v1 rfl rfl)
  obtain ⟨fuel0, hf0⟩ := h0
  obtain ⟨fuel1, hf1⟩ := h1
  obtain ⟨A, n, c, S, e0, hS1, hS2, hS3, hS4, hS5, hS6⟩ := open_entries hf0
  obtain ⟨B, m, b, T, e1, hT1, hT2, hT3, hT4, hT5, hT6⟩ := open_entries hf1
  simp only [Value.cells, List.cons.injEq, and_true, Value.slice.injEq] at e0 e1
  obtain ⟨rfl, rfl, rfl⟩ := e0
  obtain ⟨rfl, rfl, rfl⟩ := e1
  clear hA0 hval0
  refine (ol_any W a0 a1 cap0 cap1 S T a hS5 hT5 ?_ ?_ len0 len1 hS1 hT1 hS3 hT3 (fun x hx => (hS6 x hx).2.1) (fun x hx => (hT6 x hx).2.1) hS2 hT2 hS4 hT4).mono fun e W' ⟨he, hb⟩ => ?_
  · intro hf
    have := hf
    simp only [fewP, Bool.and_eq_true, List.all_eq_true, decide_eq_true_eq] at this
    exact LoadsOk.of_mem fun x hx => ⟨(hS6 x hx).1, by have := this.2 x hx; omega, (hS6 x hx).2.2⟩
  · intro hf
    have := hf
    simp only [fewP, Bool.and_eq_true, List.all_eq_true, decide_eq_true_eq] at this
    exact LoadsOk.of_mem fun x hx => ⟨(hT6 x hx).1, by have := this.2 x hx; omega, (hT6 x hx).2.2⟩
  subst he
  refine ⟨_, rfl, _, _, _, [], p0 ++ (p1 ++ []), [], hW', ?_, ?_, rfl, hb.frame _, fun h => by cases h⟩
  · exact trodAll_mk1 (shut_bool Try.underlying4 true)
  · exact trodAll_mk3 (Below.trod Try.laidOut (by kernel_rfl) (of_decide_eq_true (by kernel_rfl)) h0k hb fun x hx => hlt x (by simp [hx])) (Below.trod Try.laidOut (by kernel_rfl) (of_decide_eq_true (by kernel_rfl)) h1k hb fun x hx => hlt x (by simp [hx])) (shut_int Try.underlying3 wa)

theorem ol_holds : Rows.OrderLongestSaid :=
  OpenClaim.holds_of_wide 4 Try.f4 rfl rfl rfl rfl rfl rfl rfl ⟨rfl, rfl, rfl, rfl, rfl⟩ rfl rfl rfl rfl rfl (by kernel_rfl) Try.func4 (by kernel_rfl)
    (of_decide_eq_true (by kernel_rfl)) (by unfold Func.isWrapper; first | (rw [if_pos (by decide +kernel)]; kernel_rfl) | (rw [if_neg (by decide +kernel)]; exact ⟨rfl, rfl⟩))
    (fun os started H enc _ => ol_lifted os started H enc)
#print axioms ol_holds

end Go.Proofs.Ytcljbhiammofjaa
