/- The arguments of the statements, opened: a slice of entries. -/
import Derived.Test.YtcljbhiammofjaaB4
import Derived.ProofKit
import Derived.Deep.Slices
import Derived.Deep.Fields
import Derived.ChangeSame
import Derived.OpenShut
namespace Go.Proofs.Ytcljbhiammofjaa
open Go.ChangeShapes Go.WideShapes Go.ChangeAt Go.RowKit Go.Deep

theorem Try.own : ownKnob Try.prog.godebug = none := by kernel_rfl
theorem Try.laidOut : laidOutB Try.prog = true := by kernel_rfl
theorem Try.cells3 : Try.prog.cellsOf 3 = 1 := by kernel_rfl
theorem Try.cells32 : Try.prog.cellsOf 32 = 8 := by kernel_rfl
section
variable {H : Type} {enc : TypeId × Value → H} {P : Program} {w : World} {base : Nat} {spare : Nat → Bool} {held : Bool}
theorem open_slice_fields {t e : TypeId} {fs : Array Field} {fuel : Nat} {cs : List Value} {x : DataW H × List MemPlace} (ht : P.underlying t = some (.slice e)) (he : P.underlying e = some (.struct fs))
    (hone : oneCellFields P fs = true) (hC : P.cellsOf e = fs.size) (h : DataW.trod enc P w base spare held fuel t cs = some x) :
    (cs = [.slice none 0 0] ∧ x = (.nil, [])) ∨
    ∃ (a : Addr) (len cap m : Nat) (D : Nat → DataW H) (Pl : Nat → List MemPlace), cs = [.slice (some a) len cap] ∧ base ≤ a.block ∧ len ≤ cap ∧ cap ≤ maxLen ∧ m = (if spare a.block then cap else len) ∧
      x = (.slice ((List.range len).map D) ((List.range (m - len)).map fun j => D (len + j)), MemPlace.row a (m * fs.size) ++ (List.range m).flatMap Pl) ∧
      ∀ i, i < m → ∃ (ys : List (DataW H × List MemPlace)) (n : Nat), D i = .agg (ys.map (·.1)) ∧ Pl i = ys.flatMap (·.2) ∧ ys.length = fs.size ∧
        ∀ (j : Nat) (f : Field), fs[j]? = some f → ∃ (v : Value) (y : DataW H × List MemPlace), w.cell? (a.add (i * fs.size + j)) = some v ∧ ys[j]? = some y ∧ DataW.trod enc P w base spare held n f.type [v] = some y := by
  rcases open_slice ht h with h0 | ⟨a, len, cap, m, n, D, Pl, hcs, hb, hl, hm, hmm, hx, hi⟩
  · exact .inl h0
  · refine .inr ⟨a, len, cap, m, D, Pl, hcs, hb, hl, hm, hmm, by rw [hC] at hx; exact hx, fun i him => ?_⟩
    obtain ⟨cs', hc, ht'⟩ := hi i him
    rw [hC] at hc
    obtain ⟨ys, n', hn', hy, hlen, hyl, hf⟩ := DataW.trod_struct he ht'
    obtain ⟨_, hcl, hat⟩ := World.cells?_some hc
    simp only [Prod.mk.injEq] at hy
    refine ⟨ys, n', hy.1, hy.2, hyl, fun j f hj => ?_⟩
    obtain ⟨ho, hk⟩ := hone_of hone j f hj
    have hjl : j < fs.size := (Array.getElem?_eq_some_iff.1 hj).1
    have hcell := hat j hjl
    have hv : cs'[j]? = some (cs'[j]'(by omega)) := List.getElem?_eq_getElem (by omega)
    have h1 := hf j f hj
    rw [ho, hk] at h1
    have hone' : (cs'.drop j).take 1 = [cs'[j]'(by omega)] := by
      rw [List.drop_eq_getElem_cons (by omega)]
      rfl
    rw [hone'] at h1
    have hys : ys[j]? = some (ys[j]'(by omega)) := List.getElem?_eq_getElem (by omega)
    refine ⟨_, _, ?_, hys, h1.trans hys⟩
    rw [← Go.Deep.add_add, hcell, hv]
end

section
variable {H : Type} {enc : TypeId × Value → H} {w : World} {base : Nat} {spare : Nat → Bool} {held : Bool}
theorem open_load {fuel : Nat} {v : Value} {x : DataW H × List MemPlace} (h : DataW.trod enc Try.prog w base spare held fuel 26 [v] = some x) :
    ∃ (A : Option Addr) (n c : Nat) (l : List Int), v = .slice A n c ∧ l.length = n ∧ n ≤ 9223372036854775807 ∧ ReadsI w A l := by
  rcases open_ints Try.underlying26 Try.underlying3 Try.cells3 h with ⟨hcs, -⟩ | ⟨a, len, cap, zs, hcs, _, hl, hm, hz, _, hc, _⟩
  · exact ⟨none, 0, 0, [], by simpa using hcs, rfl, by omega, .inl rfl⟩
  · have hzl : len ≤ zs.length := by rw [hz]; split <;> omega
    refine ⟨some a, len, cap, zs.take len, by simpa using hcs, by simp; omega, by unfold maxLen at hm; omega, ?_⟩
    by_cases h0 : len = 0
    · exact .inl (by simp [h0])
    · obtain ⟨b, off, rfl, hc'⟩ := ints_at hc (by omega)
      refine .inr ⟨b, off, rfl, fun i hi => ?_⟩
      rw [List.length_take] at hi
      rw [hc' i (by omega)]
      simp [List.getD_eq_getElem?_getD, List.getElem?_take, show i < len by omega]

theorem open_entries {fuel : Nat} {cs : List Value} {x : DataW H × List MemPlace} (h : DataW.trod enc Try.prog w base spare held fuel 25 cs = some x) :
    ∃ (A : Option Addr) (n c : Nat) (l : List En), cs = [.slice A n c] ∧ l.length = n ∧ n ≤ c ∧ n ≤ 9223372036854775807 ∧ (A = none → c = 0) ∧ ReadsE w A l ∧ ∀ x ∈ l, x.load.length = x.len ∧ x.len ≤ 9223372036854775807 ∧ ReadsI w x.adr x.load := by
  rcases open_slice_fields Try.underlying25 Try.underlying32 (by kernel_rfl) Try.cells32 h with ⟨rfl, -⟩ | ⟨a, len, cap, m, D, Pl, rfl, _, hl, hm, hmm, -, hi⟩
  · exact ⟨none, 0, 0, [], rfl, rfl, by omega, by omega, fun _ => rfl, .inl rfl, by simp⟩
  · have hml : len ≤ m := by rw [hmm]; split <;> omega
    have hex : ∀ i, i < len → ∃ e : En, (∀ j, j < 8 → w.cell? (a.add (i * 8 + j)) = e.cells[j]?) ∧ e.load.length = e.len ∧ e.len ≤ 9223372036854775807 ∧ ReadsI w e.adr e.load := by
      intro i hil
      obtain ⟨ys, n, -, -, -, hf⟩ := hi i (by omega)
      obtain ⟨v0, y0, k0, -, t0⟩ := hf 0 _ rfl
      obtain ⟨v1, y1, k1, -, t1⟩ := hf 1 _ rfl
      obtain ⟨v2, y2, k2, -, t2⟩ := hf 2 _ rfl
      obtain ⟨v3, y3, k3, -, t3⟩ := hf 3 _ rfl
      obtain ⟨v4, y4, k4, -, t4⟩ := hf 4 _ rfl
      obtain ⟨v5, y5, k5, -, t5⟩ := hf 5 _ rfl
      obtain ⟨v6, y6, k6, -, t6⟩ := hf 6 _ rfl
      obtain ⟨v7, y7, k7, -, t7⟩ := hf 7 _ rfl
      obtain ⟨a0, e0, -, -⟩ := DataW.trod_int Try.underlying3 t0
      obtain ⟨a1, e1, -, -⟩ := DataW.trod_int Try.underlying3 t1
      obtain ⟨a2, e2, -, -⟩ := DataW.trod_int Try.underlying3 t2
      obtain ⟨a3, e3, -, -⟩ := DataW.trod_int Try.underlying3 t3
      obtain ⟨a4, e4, -, -⟩ := DataW.trod_int Try.underlying3 t4
      obtain ⟨a5, e5, -, -⟩ := DataW.trod_int Try.underlying30 t5
      obtain ⟨A6, n6, c6, l6, e6, h61, h62, h63⟩ := open_load t6
      obtain ⟨a7, e7, -, -⟩ := DataW.trod_int Try.underlying3 t7
      simp only [List.cons.injEq, and_true] at e0 e1 e2 e3 e4 e5 e7
      subst e0 e1 e2 e3 e4 e5 e6 e7
      refine ⟨⟨a0, a1, a2, a3, a4, a5, A6, n6, c6, a7, l6⟩, ?_, h61, h62, h63⟩
      intro j hj
      have : j = 0 ∨ j = 1 ∨ j = 2 ∨ j = 3 ∨ j = 4 ∨ j = 5 ∨ j = 6 ∨ j = 7 := by omega
      rcases this with rfl | rfl | rfl | rfl | rfl | rfl | rfl | rfl
      · exact k0
      · exact k1
      · exact k2
      · exact k3
      · exact k4
      · exact k5
      · exact k6
      · exact k7
    obtain ⟨l, hll, hlx⟩ : ∃ l : List En, l.length = len ∧ ∀ i, i < len → (∀ j, j < 8 → w.cell? (a.add (i * 8 + j)) = (l.getD i default).cells[j]?) ∧ (l.getD i default).load.length = (l.getD i default).len ∧ (l.getD i default).len ≤ 9223372036854775807 ∧ ReadsI w (l.getD i default).adr (l.getD i default).load := by
      refine ⟨(List.range len).map fun i => if h : i < len then (hex i h).choose else default, by simp, fun i hil => ?_⟩
      have hg : ((List.range len).map fun i => if h : i < len then (hex i h).choose else default).getD i default = (hex i hil).choose := by
        simp [List.getD_eq_getElem?_getD, hil]
      rw [hg]
      exact (hex i hil).choose_spec
    refine ⟨some a, len, cap, l, rfl, hll, hl, by unfold maxLen at hm; omega, by simp, ?_, ?_⟩
    · by_cases h0 : len = 0
      · exact .inl (List.eq_nil_of_length_eq_zero (by omega))
      · obtain ⟨b, off, spot⟩ := a
        have hspot : spot = none := by
          have := (hlx 0 (by omega)).1 0 (by omega)
          have this2 : w.cell? ⟨b, off, spot⟩ = some (.int .i64 (l.getD 0 default).core) := by
            have e : (⟨b, off, spot⟩ : Addr).add (0 * 8 + 0) = ⟨b, off, spot⟩ := by simp [Addr.add]
            rw [e] at this
            exact this
          exact World.cell?_spot this2
        subst hspot
        refine .inr ⟨b, off, rfl, fun i hi j hj => ?_⟩
        have := (hlx i (by omega)).1 j hj
        rw [add_plain] at this
        rw [Nat.add_assoc]
        exact this
    · intro x hx
      obtain ⟨i, hi, rfl⟩ := List.getElem_of_mem hx
      have := (hlx i (by omega)).2
      rw [List.getD_eq_getElem?_getD, List.getElem?_eq_getElem hi] at this
      exact this
end

end Go.Proofs.Ytcljbhiammofjaa
