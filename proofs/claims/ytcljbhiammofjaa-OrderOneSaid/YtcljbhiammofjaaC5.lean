/- For every input the statement of calls one after another returns true: switchyardlaw21.OrderOne, without a condition. -/
import Derived.Test.YtcljbhiammofjaaC4
namespace Go.Proofs.Ytcljbhiammofjaa
open Go.ChangeShapes Go.WideShapes Go.ChangeAt Go.RowKit Go.Deep

theorem Try.cells29 : Try.prog.cellsOf 29 = 2 := by kernel_rfl
section
variable {H : Type} {enc : TypeId × Value → H} {w : World} {base : Nat} {spare : Nat → Bool} {held : Bool}
theorem open_asks {fuel : Nat} {cs : List Value} {x : DataW H × List MemPlace} (h : DataW.trod enc Try.prog w base spare held fuel 22 cs = some x) :
    ∃ (A : Option Addr) (n c : Nat) (l : List Ask), cs = [.slice A n c] ∧ l.length = n ∧ n ≤ 9223372036854775807 ∧ ReadsA w A l ∧ ∀ x ∈ l, x.ld.load.length = x.ld.len ∧ x.ld.len ≤ 9223372036854775807 ∧ ReadsI w x.ld.adr x.ld.load := by
  rcases open_slice_fields Try.underlying22 Try.underlying29 (by kernel_rfl) Try.cells29 h with ⟨rfl, -⟩ | ⟨a, len, cap, m, D, Pl, rfl, _, hl, hm, hmm, -, hi⟩
  · exact ⟨none, 0, 0, [], rfl, rfl, by omega, .inl rfl, by simp⟩
  · have hml : len ≤ m := by rw [hmm]; split <;> omega
    have hex : ∀ i, i < len → ∃ e : Ask, (w.cell? (a.add (i * 2)) = some (.int .i64 e.kind) ∧ w.cell? (a.add (i * 2 + 1)) = some e.ld.val) ∧ e.ld.load.length = e.ld.len ∧ e.ld.len ≤ 9223372036854775807 ∧ ReadsI w e.ld.adr e.ld.load := by
      intro i hil
      obtain ⟨ys, n, -, -, -, hf⟩ := hi i (by omega)
      obtain ⟨v0, y0, k0, -, t0⟩ := hf 0 _ rfl
      obtain ⟨v1, y1, k1, -, t1⟩ := hf 1 _ rfl
      obtain ⟨a0, e0, -, -⟩ := DataW.trod_int Try.underlying3 t0
      obtain ⟨A6, n6, c6, l6, e6, h61, h62, h63⟩ := open_load t1
      simp only [List.cons.injEq, and_true] at e0
      subst e0 e6
      exact ⟨⟨a0, ⟨A6, n6, c6, l6⟩⟩, ⟨k0, k1⟩, h61, h62, h63⟩
    obtain ⟨l, hll, hlx⟩ : ∃ l : List Ask, l.length = len ∧ ∀ i, i < len → (w.cell? (a.add (i * 2)) = some (.int .i64 (l.getD i default).kind) ∧ w.cell? (a.add (i * 2 + 1)) = some (l.getD i default).ld.val) ∧ (l.getD i default).ld.load.length = (l.getD i default).ld.len ∧ (l.getD i default).ld.len ≤ 9223372036854775807 ∧ ReadsI w (l.getD i default).ld.adr (l.getD i default).ld.load := by
      refine ⟨(List.range len).map fun i => if h : i < len then (hex i h).choose else default, by simp, fun i hil => ?_⟩
      have hg : ((List.range len).map fun i => if h : i < len then (hex i h).choose else default).getD i default = (hex i hil).choose := by
        simp [List.getD_eq_getElem?_getD, hil]
      rw [hg]
      exact (hex i hil).choose_spec
    refine ⟨some a, len, cap, l, rfl, hll, by unfold maxLen at hm; omega, ?_, ?_⟩
    · by_cases h0 : len = 0
      · exact .inl (List.eq_nil_of_length_eq_zero (by omega))
      · obtain ⟨b, off, spot⟩ := a
        have hspot : spot = none := by
          have := (hlx 0 (by omega)).1.1
          have e : (⟨b, off, spot⟩ : Addr).add (0 * 2) = ⟨b, off, spot⟩ := by simp [Addr.add]
          rw [e] at this
          exact World.cell?_spot this
        subst hspot
        refine .inr ⟨b, off, rfl, fun i hi => ?_⟩
        have := (hlx i (by omega)).1
        rw [add_plain, add_plain] at this
        rw [Nat.add_assoc]
        exact this
    · intro x hx
      obtain ⟨i, hi, rfl⟩ := List.getElem_of_mem hx
      have := (hlx i (by omega)).2
      rw [List.getD_eq_getElem?_getD, List.getElem?_eq_getElem hi] at this
      exact this
end

set_option maxRecDepth 100000 in
theorem oo_lifted (os : Os) (started : os.Started) (H : Type) (enc : TypeId × Value → H) :
    ReturnsInHanded {} Try.checked os 3 .any (Rows.orderOneSpec.pre6 enc Try.prog Try.f3 Rows.orderOneRow.domain false) (Rows.orderOneSpec.post enc Try.prog Try.f3 false true false false) := by
  refine returnsInHanded_of_change (C := Try.checked) Try.own started (by kernel_rfl) Try.func3
    (ChangeSpec.witness6 (enc := enc) (C := Try.checked) false ⟨#[], #[.int .i64 0, .slice none 0 0, .int .u64 0], []⟩ 8 (by kernel_rfl) (by kernel_rfl) (by kernel_rfl) (by kernel_rfl)) ?_
  intro W base args ds gs before hval0 hW hcnd _
  have hval : ∀ (j : Nat) t v, Try.f3.params[j]? = some t → args[j]? = some v → Value.okWide Try.prog W .any base t v := hval0
  have hW' := hW
  obtain ⟨p, q, hA0, hV, rfl, hfz, hnd⟩ := hW
  have hA : DataW.TrodAll enc Try.prog W 0 (fun _ => true) true Try.f3.params.toList args.toList ds p := hA0
  rw [Try.params3] at hA hval
  obtain ⟨v0, v1, v2, d0, d1, d2, p0, p1, p2, rfl, rfl, rfl, h0, h1, h2⟩ := trodAll_three hA
  obtain ⟨rfl, rfl⟩ := trodVars_none hV
  have h1k := h1
  have hlt : ∀ x ∈ p0 ++ p1 ++ p2, x.block < W.heap.size := fun x hx => hW'.lt x (by simpa using hx)
  obtain ⟨room, rfl, rfl, rfl, wr⟩ := open_int Try.underlying3 (hval 0 3 v0 rfl rfl) h0
  obtain ⟨which, rfl, rfl, rfl, ww⟩ := open_int Try.underlying23 (hval 2 23 v2 rfl rfl) h2
  obtain ⟨a1, len1, cap1, rfl⟩ := okWide_slice Try.underlying22 (hval 1 22 v1 rfl rfl)
  obtain ⟨fuel1, hf1⟩ := h1
  obtain ⟨A, n, c, l, e1, hS1, hS2, hS3, hS4⟩ := open_asks hf1
  simp only [Value.cells, List.cons.injEq, and_true, Value.slice.injEq] at e1
  obtain ⟨rfl, rfl, rfl⟩ := e1
  clear hA0 hval0
  have hw0 : 0 ≤ which := by
    have := ww
    simp only [Lit.wf, IntKind.has, Bool.and_eq_true, decide_eq_true_eq] at this
    exact this.1
  refine (oo_any W room which a1 len1 cap1 l hS3 hS1 hS2 hS4 hw0).mono fun e W' ⟨he, hb⟩ => ?_
  subst he
  refine ⟨_, rfl, _, _, _, [], [] ++ (p1 ++ []), [], hW', ?_, ?_, rfl, hb.frame _, fun h => by cases h⟩
  · exact trodAll_mk1 (shut_bool Try.underlying4 true)
  · exact trodAll_mk3 (shut_int Try.underlying3 wr) (Below.trod Try.laidOut (by kernel_rfl) (of_decide_eq_true (by kernel_rfl)) h1k hb fun x hx => hlt x (by simp [hx])) (shut_int Try.underlying23 ww)

theorem oo_holds : Rows.OrderOneSaid :=
  OpenClaim.holds_of_wide 3 Try.f3 rfl rfl rfl rfl rfl rfl rfl ⟨rfl, rfl, rfl, rfl, rfl⟩ rfl rfl rfl rfl rfl (by kernel_rfl) Try.func3 (by kernel_rfl)
    (of_decide_eq_true (by kernel_rfl)) (by unfold Func.isWrapper; first | (rw [if_pos (by decide +kernel)]; kernel_rfl) | (rw [if_neg (by decide +kernel)]; exact ⟨rfl, rfl⟩))
    (fun os started H enc _ => oo_lifted os started H enc)
#print axioms oo_holds

end Go.Proofs.Ytcljbhiammofjaa
