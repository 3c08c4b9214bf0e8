/- For every input the statement DiaryTells returns true: switchyardlaw19.DiaryTells; the three listed tables of Go's library are tied to the program's text. -/
import Derived.Test.YtbfpaemaiaeljaaDoorD9
import Derived.Test.YtbfpaemaiaeljaaDoorD21
import Derived.Stop.LaidErr
import Derived.MakeChecks
namespace Go.Proofs.YtbfpaemaiaeljaaDoor
open Go.ChangeShapes Go.WideShapes Go.ChangeAt Go.RowKit Go.Deep

theorem in64_of {n : Int} (h : (Lit.int .i64 n).wf = true) : In64 n := by
  simp only [Lit.wf, IntKind.has, Bool.and_eq_true, decide_eq_true_eq] at h
  exact ⟨h.1, h.2⟩

section
variable {H : Type} {enc : TypeId × Value → H} {w : World} {base : Nat} {spare : Nat → Bool} {held : Bool}
theorem open_wide {fuel : Nat} {cs : List Value} {x : DataW H × List MemPlace} (h : DataW.trod enc Tryd.prog w base spare held fuel 22 cs = some x) :
    ∃ (A : Option Addr) (n c : Nat) (l : List En), cs = [.slice A n c] ∧ l.length = n ∧ n ≤ c ∧ n ≤ 9223372036854775807 ∧ (A = none → c = 0) ∧ ReadsE w A l ∧ ∀ x ∈ l, x.load.length = x.len ∧ x.len ≤ 9223372036854775807 ∧ ReadsI w x.adr x.load ∧ Wide x := by
  rcases open_slice_fields Tryd.underlying22 Tryd.underlying28 (by kernel_rfl) Tryd.cells28 h with ⟨rfl, -⟩ | ⟨a, len, cap, m, D, Pl, rfl, _, hl, hm, hmm, -, hi⟩
  · exact ⟨none, 0, 0, [], rfl, rfl, by omega, by omega, fun _ => rfl, .inl rfl, by simp⟩
  · have hml : len ≤ m := by rw [hmm]; split <;> omega
    have hex : ∀ i, i < len → ∃ e : En, (∀ j, j < 8 → w.cell? (a.add (i * 8 + j)) = e.cells[j]?) ∧ e.load.length = e.len ∧ e.len ≤ 9223372036854775807 ∧ ReadsI w e.adr e.load ∧ Wide e := by
      intro i hil
      obtain ⟨ys, n, -, -, -, hf⟩ := hi i (by omega)
      obtain ⟨v0, y0, k0, -, t0⟩ := hf 0 _ rfl
      obtain ⟨v1, y1, k1, -, t1⟩ := hf 1 _ rfl
      obtain ⟨v2, y2, k2, -, t2⟩ := hf 2 _ rfl
      obtain ⟨v3, y3, k3, -, t3⟩ := hf 3 _ rfl
      obtain ⟨v4, y4, k4, -, t4⟩ := hf 4 _ rfl
      obtain ⟨v5, y5, k5, -, t5⟩ := hf 5 _ rfl
      obtain ⟨v6, y6, k6, -, t6⟩ := hf 6 _ rfl
      obtain ⟨v7, y7, k7, -, t7⟩ := hf 7 _ rfl
      obtain ⟨a0, e0, -, z0⟩ := DataW.trod_int Tryd.underlying3 t0
      obtain ⟨a1, e1, -, z1⟩ := DataW.trod_int Tryd.underlying3 t1
      obtain ⟨a2, e2, -, -⟩ := DataW.trod_int Tryd.underlying3 t2
      obtain ⟨a3, e3, -, z3⟩ := DataW.trod_int Tryd.underlying3 t3
      obtain ⟨a4, e4, -, z4⟩ := DataW.trod_int Tryd.underlying3 t4
      obtain ⟨a5, e5, -, z5⟩ := DataW.trod_int Tryd.underlying25 t5
      obtain ⟨A6, n6, c6, l6, e6, h61, h62, h63⟩ := open_load t6
      obtain ⟨a7, e7, -, -⟩ := DataW.trod_int Tryd.underlying3 t7
      simp only [List.cons.injEq, and_true] at e0 e1 e2 e3 e4 e5 e7
      subst e0 e1 e2 e3 e4 e5 e6 e7
      refine ⟨⟨a0, a1, a2, a3, a4, a5, A6, n6, c6, a7, l6⟩, ?_, h61, h62, h63, ⟨in64_of z0, in64_of z1, in64_of z3, in64_of z4, in64_of z5⟩⟩
      intro j hj
      have : j = 0 ∨ j = 1 ∨ j = 2 ∨ j = 3 ∨ j = 4 ∨ j = 5 ∨ j = 6 ∨ j = 7 := by omega
      rcases this with rfl | rfl | rfl | rfl | rfl | rfl | rfl | rfl
      · exact k0
      · exact k1
      · exact k2
      · exact k3
      · exact k4
      · exact k5
      · exact k6
      · exact k7
    obtain ⟨l, hll, hlx⟩ : ∃ l : List En, l.length = len ∧ ∀ i, i < len → (∀ j, j < 8 → w.cell? (a.add (i * 8 + j)) = (l.getD i default).cells[j]?) ∧ (l.getD i default).load.length = (l.getD i default).len ∧ (l.getD i default).len ≤ 9223372036854775807 ∧ ReadsI w (l.getD i default).adr (l.getD i default).load ∧ Wide (l.getD i default) := by
      refine ⟨(List.range len).map fun i => if h : i < len then (hex i h).choose else default, by simp, fun i hil => ?_⟩
      have hg : ((List.range len).map fun i => if h : i < len then (hex i h).choose else default).getD i default = (hex i hil).choose := by
        simp [List.getD_eq_getElem?_getD, hil]
      rw [hg]
      exact (hex i hil).choose_spec
    refine ⟨some a, len, cap, l, rfl, hll, hl, by unfold maxLen at hm; omega, by simp, ?_, ?_⟩
    · by_cases h0 : len = 0
      · exact .inl (List.eq_nil_of_length_eq_zero (by omega))
      · obtain ⟨b, off, spot⟩ := a
        have hspot : spot = none := by
          have := (hlx 0 (by omega)).1 0 (by omega)
          have this2 : w.cell? ⟨b, off, spot⟩ = some (.int .i64 (l.getD 0 default).core) := by
            have e : (⟨b, off, spot⟩ : Addr).add (0 * 8 + 0) = ⟨b, off, spot⟩ := by simp [Addr.add]
            rw [e] at this
            exact this
          exact World.cell?_spot this2
        subst hspot
        refine .inr ⟨b, off, rfl, fun i hi j hj => ?_⟩
        have := (hlx i (by omega)).1 j hj
        rw [add_plain] at this
        rw [Nat.add_assoc]
        exact this
    · intro x hx
      obtain ⟨i, hi, rfl⟩ := List.getElem_of_mem hx
      have := (hlx i (by omega)).2
      rw [List.getD_eq_getElem?_getD, List.getElem?_eq_getElem hi] at this
      exact this

end

theorem pow_eq : (Rows.laid_internal_strconv_uint64pow10 : DataW Unit) = Lib.tabData .u64 Lib.pow10Tab := by kernel_rfl
theorem tab_of_laid {W : World} (h : laidMetH Tryd.prog laid3 W) : Tab W := by
  rw [MakeChecks.laidMetH_plain _ _ _ (by kernel_rfl)] at h
  have h2 := h.tail.tail
  rw [pow_eq] at h2
  exact Lib.tabIs_of_head Tryd.pow10 (t := 69) (by kernel_rfl) Tryd.underlying69 Tryd.underlying62 (by kernel_rfl) (by kernel_rfl) h2

set_option maxRecDepth 100000 in
theorem dt_lifted (os : Os) (started : os.Started) (H : Type) (enc : TypeId × Value → H) :
    ReturnsInHanded {} Tryd.checked os 4 .any (fun w args => (Rows.diaryTellsSpec.pre enc Tryd.prog Tryd.f4 [] false w args ∧ laidMetH Tryd.prog laid3 w) ∧ sizedMet enc Tryd.prog Tryd.f4 (OpenSpec.ofChange Rows.diaryTellsSpec) false w args)
      (Rows.diaryTellsSpec.post enc Tryd.prog Tryd.f4 false true false false) := by
  refine returnsInHanded_of_change_and (C := Tryd.checked) (X := fun w _ => laidMetH Tryd.prog laid3 w) (fun _ _ _ hh h => h.of_heap hh) Tryd.own started (by kernel_rfl) Tryd.func4
    (ChangeSpec.witness_shaped (enc := enc) (C := Tryd.checked) (os := os) (X := fun w _ => laidMetH Tryd.prog laid3 w) false (World.doorLaid Tryd.prog 400 os) #[.slice none 0 0, .slice none 0 0, .int .i64 0, .int .i64 0] 8 rfl (World.shaped_of_RefB (by kernel_rfl) (by kernel_rfl)) (by kernel_rfl) (by kernel_rfl) (by kernel_rfl) (door_met os _)) ?_
  intro W base args ds gs before hval0 hW _ _ hL _
  have hval : ∀ (j : Nat) t v, Tryd.f4.params[j]? = some t → args[j]? = some v → Value.okWide Tryd.prog W .any base t v := hval0
  have hW' := hW
  obtain ⟨p, q, hA0, hV, rfl, hfz, hnd⟩ := hW
  have hA : DataW.TrodAll enc Tryd.prog W 0 (fun _ => true) true Tryd.f4.params.toList args.toList ds p := hA0
  rw [Tryd.params4] at hA hval
  obtain ⟨v0, v1, v2, v3, d0, d1, d2, d3, p0, p1, p2, p3, rfl, rfl, rfl, h0, h1, h2, h3⟩ := trodAll_four hA
  obtain ⟨rfl, rfl⟩ := trodVars_none hV
  have h0k := h0
  have h1k := h1
  have hlt : ∀ x ∈ p0 ++ p1 ++ p2 ++ p3, x.block < W.heap.size := fun x hx => hW'.lt x (by simpa using hx)
  obtain ⟨k, rfl, rfl, rfl, wk⟩ := open_int Tryd.underlying3 (hval 2 3 v2 rfl rfl) h2
  obtain ⟨er, rfl, rfl, rfl, we⟩ := open_int Tryd.underlying25 (hval 3 25 v3 rfl rfl) h3
  obtain ⟨a0, len0, cap0, rfl⟩ := okWide_slice Tryd.underlying22 (hval 0 22 v0 rfl rfl)
  obtain ⟨a1, len1, cap1, rfl⟩ := okWide_slice Tryd.underlying22 (hval 1 22 v1 rfl rfl)
  obtain ⟨fuel0, hf0⟩ := h0
  obtain ⟨fuel1, hf1⟩ := h1
  obtain ⟨A, n, c, S, e0, hS1, hS2, hS3, hS4, hS5, hS6⟩ := open_wide hf0
  obtain ⟨B, m, b, T, e1, hT1, hT2, hT3, hT4, hT5, hT6⟩ := open_wide hf1
  simp only [Value.cells, List.cons.injEq, and_true, Value.slice.injEq] at e0 e1
  obtain ⟨rfl, rfl, rfl⟩ := e0
  obtain ⟨rfl, rfl, rfl⟩ := e1
  clear hA0 hval0
  refine (dt_any W a0 a1 cap0 cap1 S T k er hS5 hT5 (fun hf => loadsOk_of hf fun x hx => ⟨(hS6 x hx).1, (hS6 x hx).2.1, (hS6 x hx).2.2.1⟩) (fun hf => loadsOk_of hf fun x hx => ⟨(hT6 x hx).1, (hT6 x hx).2.1, (hT6 x hx).2.2.1⟩) len0 len1 hS1 hT1 hS3 hT3 (fun x hx => (hS6 x hx).2.1) (fun x hx => (hT6 x hx).2.1) (fun x hx => (hS6 x hx).2.2.2) (tab_of_laid hL)).mono fun e W' ⟨he, hb⟩ => ?_
  subst he
  refine ⟨_, rfl, _, _, _, [], p0 ++ (p1 ++ ([] ++ [])), [], hW', ?_, ?_, rfl, hb.frame _, fun h => by cases h⟩
  · exact trodAll_mk1 (shut_bool Tryd.underlying4 true)
  · exact trodAll_mk4 (Below.trod Tryd.laidOut (by kernel_rfl) (of_decide_eq_true (by kernel_rfl)) h0k hb fun x hx => hlt x (by simp [hx])) (Below.trod Tryd.laidOut (by kernel_rfl) (of_decide_eq_true (by kernel_rfl)) h1k hb fun x hx => hlt x (by simp [hx])) (shut_int Tryd.underlying3 wk) (shut_int Tryd.underlying25 we)

theorem dt_holds : Rows.DiaryTellsSaid :=
  OpenClaim.holds_of_wide 4 Tryd.f4 rfl rfl rfl rfl rfl rfl rfl ⟨rfl, rfl, rfl, rfl, rfl⟩ rfl rfl rfl rfl rfl (by kernel_rfl) Tryd.func4 (by kernel_rfl)
    (of_decide_eq_true (by kernel_rfl)) (by unfold Func.isWrapper; rw [if_neg (of_decide_eq_false (by kernel_rfl))]; exact ⟨rfl, rfl⟩)
    (fun os started H enc _ => dt_lifted os started H enc)

theorem dt_card : Rows.DiaryTellsCardSaid :=
  Claim7.holds_tied_plain_at .later [] [.data, .data, .data] true (true, "183c8db35b960dd9238bc6d828277e7013ba6e5395117e0ed65dd0f49d517505") false
    dt_holds (fun _ h => by cases h) (by kernel_rfl) (fun _ h => by cases h) diaryTells_row_tie rfl ⟨rfl, rfl⟩ (by kernel_rfl) rfl
    (fun f fn hf hfn => by
      obtain rfl : f = 4 := Option.some.inj ((show Tryd.prog.funcNamed "switchyard/switchyardlaw19.DiaryTells" = some 4 by kernel_rfl).symm.trans hf) |>.symm
      obtain rfl : fn = Tryd.f4 := (Option.some.inj (Tryd.func4.symm.trans hfn)).symm
      exact ⟨by kernel_rfl, fun j t ht => by
        rw [Tryd.params4] at ht
        have hm : t ∈ [22, 22, 3, 25] := by simpa using Array.mem_of_getElem? ht
        have hall : ([22, 22, 3, 25].all fun u => !Tryd.prog.wantsStandIn u) = true := by kernel_rfl
        exact (show Tryd.prog.wantsStandIn t = false by simpa using List.all_eq_true.1 hall t hm)⟩)
    (by kernel_rfl)
#print axioms dt_card

end Go.Proofs.YtbfpaemaiaeljaaDoor
