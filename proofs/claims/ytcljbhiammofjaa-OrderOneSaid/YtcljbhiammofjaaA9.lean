/- Rows of entries of the call's own: cloned, and what a predicate holds of taken out. -/
import Derived.Test.YtcljbhiammofjaaA8
import Derived.Lib.SliceRun
namespace Go.Proofs.Ytcljbhiammofjaa
open Go.RowKit

def flat (l : List En) : List Value := l.flatMap fun e => e.cells.toList
theorem flat_len (l : List En) : (flat l).length = l.length * 8 := by
  induction l with
  | nil => rfl
  | cons e l ih =>
    simp only [flat, List.flatMap_cons, List.length_append] at *
    rw [ih]
    simp [En.cells]
    omega
theorem flat_get (l : List En) : ∀ k, (flat l)[k]? = (l[k / 8]?).bind fun e => e.cells[k % 8]? := by
  induction l with
  | nil => intro k; simp [flat]
  | cons e l ih =>
    intro k
    have h : flat (e :: l) = e.cells.toList ++ flat l := rfl
    rw [h]
    by_cases hk : k < 8
    · rw [List.getElem?_append_left (by simp [En.cells]; omega)]
      have h1 : k / 8 = 0 := by omega
      have h2 : k % 8 = k := by omega
      simp [h1, h2]
    · rw [List.getElem?_append_right (by simp [En.cells]; omega)]
      have h3 : e.cells.toList.length = 8 := rfl
      rw [h3, ih]
      have h1 : k / 8 = (k - 8) / 8 + 1 := by omega
      have h2 : k % 8 = (k - 8) % 8 := by omega
      rw [h1, h2]
      simp
theorem flat_append (a b : List En) : flat (a ++ b) = flat a ++ flat b := by simp [flat]
theorem cells_get (e : En) : e.cells[0]? = some (.int .i64 e.core) ∧ e.cells[1]? = some (.int .i64 e.peer) ∧ e.cells[2]? = some (.int .i64 e.kind) ∧ e.cells[3]? = some (.int .i64 e.bg) ∧ e.cells[4]? = some (.int .i64 e.nd) ∧ e.cells[5]? = some (.int .i64 e.err) ∧ e.cells[6]? = some (.slice e.adr e.len e.cap) ∧ e.cells[7]? = some (.int .i64 e.handle) := ⟨rfl, rfl, rfl, rfl, rfl, rfl, rfl, rfl⟩

/-- a row of entries of the call's own. -/
def OwnE (w : World) (base : Nat) (v : Value) (l : List En) : Prop := w.ownsRow base 32 8 v l.length (flat l)

theorem own_cell {w : World} {base g c n : Nat} {e : TypeId} {size : Nat} {xs : List Value} (h : w.ownsRow base e size (.slice (some ⟨g, 0, none⟩) n c) n xs) (j : Nat) (hj : j < xs.length) : w.cell? ⟨g, j, none⟩ = xs[j]? := by
  rcases h.2 with ⟨h0, h1⟩ | ⟨g', cap, cur, h0, h1, h2, h3, h4, h5, h6⟩
  · have := h.1; rw [h1, Nat.zero_mul] at this; omega
  · have : g = g' := by injection h0 with h0; injection h0 with h0; injection h0 with h0
    subst this
    simp only [World.cell?, h2]
    have h7 := congrArg (fun x : List Value => x[j]?) h6
    simp only [List.getElem?_take] at h7
    have hl : xs.length = n * size := h.1
    rw [if_pos (by omega)] at h7
    rw [← h7]
    simp

theorem own_readsE {w : World} {base : Nat} {v : Value} {l : List En} (h : OwnE w base v l) : ∃ A c, v = .slice A l.length c ∧ ReadsE w A l ∧ l.length ≤ c ∧ (A = none → c = 0) := by
  rcases h.2 with ⟨rfl, h0⟩ | ⟨g, cap, cur, rfl, h1, h2, h3, h4, h5, h6⟩
  · have : l = [] := List.eq_nil_of_length_eq_zero h0
    exact ⟨none, 0, by rw [h0], .inl this, by omega, fun _ => rfl⟩
  · refine ⟨_, cap, rfl, .inr ⟨g, 0, rfl, fun i hi j hj => ?_⟩, h3, fun h => by simp at h⟩
    have := own_cell h (0 + i * 8 + j) (by rw [flat_len]; omega)
    rw [this, flat_get]
    have e1 : (0 + i * 8 + j) / 8 = i := by omega
    have e2 : (0 + i * 8 + j) % 8 = j := by omega
    rw [e1, e2, List.getD_eq_getElem?_getD, List.getElem?_eq_getElem hi]
    rfl

theorem Try.info32 : (Try.prog.info? 32).map (fun i => (i.zero, i.size, i.bytes)) = some (some (.agg #[.int .i64 0, .int .i64 0, .int .i64 0, .int .i64 0, .int .i64 0, .int .i64 0, .slice none 0 0, .int .i64 0]), 8, 80) := by kernel_rfl

theorem oneCell_flat (l : List En) : ∀ u ∈ flat l, u.oneCell' = true := by
  intro u hu
  simp only [flat, List.mem_flatMap] at hu
  obtain ⟨e, _, he⟩ := hu
  simp only [En.cells, List.mem_cons, List.not_mem_nil, or_false] at he
  rcases he with rfl | rfl | rfl | rfl | rfl | rfl | rfl | rfl <;> rfl

theorem reads_news {w : World} {b o : Nat} {l : List En} (h : Reads w b o l) : ∀ j u, (flat l)[j]? = some u → w.cell? ((⟨b, o, none⟩ : Addr).add j) = some u := by
  intro j u hu
  have hj : j < l.length * 8 := by
    have := (List.getElem?_eq_some_iff.1 hu).1
    rwa [flat_len] at this
  have hb : j / 8 < l.length := by omega
  have h1 := h (j / 8) hb (j % 8) (by omega)
  rw [flat_get, List.getElem?_eq_getElem hb] at hu
  have e1 : (⟨b, o, none⟩ : Addr).add j = ⟨b, o + j / 8 * 8 + j % 8, none⟩ := by
    unfold Addr.add
    split
    · rename_i h0; subst h0; simp
    · show (⟨b, o + j, none⟩ : Addr) = _
      congr 1; omega
  rw [e1, h1, List.getD_eq_getElem?_getD, List.getElem?_eq_getElem hb]
  exact hu

theorem clone_any (w : World) (A : Option Addr) (c : Nat) (l : List En) (hr : ReadsE w A l) (hA : A = none → l = []) (n : Nat) (hn : l.length = n) (hl : n ≤ 1000) :
    Calls Try.prog 16 #[.slice A n c] w fun e w' => ∃ v, e = .returned v ∧ OwnE w' w.heap.size v l ∧ Below w.heap.size w w' := by
  have kn := fun (W : World) => Lib.run_eql_slice_nil (P := Try.prog) W 25 32 A n c 0 0 Try.underlying25
  cases A with
  | none =>
    obtain rfl := hA rfl
    obtain rfl : n = 0 := hn.symm
    go_enter Try.func16, Try.ntmps16
    go_wp2
    go_ret
    exact ⟨_, rfl, ⟨rfl, .inl ⟨rfl, rfl⟩⟩, Below.refl _ _⟩
  | some ad =>
    have hnews : ∀ j u, (flat l)[j]? = some u → w.cell? (ad.add j) = some u := by
      rcases hr with rfl | ⟨b, o, h, hr⟩
      · intro j u hu; simp [flat] at hu
      · injection h with h; subst h; exact reads_news hr
    have HN := Lib.hid hnews
    have HL := Lib.hid hn
    clear hnews hr hn hA
    obtain ⟨i0, hi0, hz0, hz1', hz2'⟩ := info_parts Try.info32
    go_enter Try.func16, Try.ntmps16
    go_wp2_with (at_builtin; refine wpList_append_own_at _ rfl _ _ 25 rfl w.heap.size 32 i0 _ 8 80 Try.underlying25 hi0 hz0 hz1' hz2' rfl (by decide) (.slice (some ⟨w.heap.size, 0, none⟩) 0 0) 0 [] rfl (World.ownsRow_lit w #[] 0 (Nat.le_refl _) (by decide) rfl) ad n c (flat l) rfl ?c1 ?c2 ?c3 ?c4 ?c5 ?c6 ?_)
    case c1 => rw [flat_len, HL.out]
    case c2 => intro j u hu; have := HN.out j u hu; exact ((below_al (Below.refl _ _) _).cell (World.block_lt_of_cell? w _ this)).trans this
    case c3 => exact oneCell_flat l
    case c4 => unfold maxLen; omega
    case c5 => omega
    case c6 => simp
    intro v' w3 ho3 hg3 _ _
    have HO3 := Lib.hid ho3
    have HG3 := Lib.hid hg3
    clear ho3 hg3
    go_wp2
    go_ret
    refine ⟨v', rfl, ?_, ?_⟩
    · have := HO3.out
      unfold OwnE
      rw [HL.out]
      simpa using this
    · have h1 : Below w.heap.size w (w.alloc (.cells #[] 32)) := below_al (Below.refl _ _) _
      exact h1.trans ⟨HG3.out.os, HG3.out.tape, HG3.out.output, HG3.out.size, fun q hq => HG3.out.block q (by simp; omega) (fun e => by simp [Value.ownBlock] at e; omega)⟩

/-- the closure of Longest holds of what began too late. -/
theorem longest1_any (w : World) (B : Nat) (a : Int) (y : En) (hc : w.heap[B]? = some (.cells #[.int .i64 a] 3 (0, 0))) :
    Calls Try.prog 17 #[.agg y.cells, .pointer (some ⟨B, 0, none⟩)] w fun e w' => e = .returned (.bool (decide (a < y.bg))) ∧ Below w.heap.size w w' := by
  have c3 : w.cell? ⟨B, 0, none⟩ = some (.int .i64 a) := by simp [World.cell?, hc]
  have hB := lt_of_block hc
  have hne : ¬ w.heap.size = B := by omega
  clear hc
  unfold En.cells
  go_enter Try.func17, Try.ntmps17
  go_wp2
  go_ret
  exact ⟨rfl, (Below.refl _ _).alloc (Nat.le_refl _) _⟩

theorem flat_set (l : List En) (i : Nat) (x : En) (hi : i < l.length) :
    ((((((((flat l).set (i * 8) (.int .i64 x.core)).set (i * 8 + 1) (.int .i64 x.peer)).set (i * 8 + 2) (.int .i64 x.kind)).set (i * 8 + 3) (.int .i64 x.bg)).set (i * 8 + 4) (.int .i64 x.nd)).set (i * 8 + 5) (.int .i64 x.err)).set (i * 8 + 6) (.slice x.adr x.len x.cap)).set (i * 8 + 7) (.int .i64 x.handle) = flat (l.set i x) := by
  apply List.ext_getElem?
  intro k
  have hl := flat_len l
  rw [flat_get]
  simp only [List.getElem?_set, List.length_set]
  rw [flat_get]
  by_cases hk : k / 8 = i
  · have h : k = i * 8 ∨ k = i * 8 + 1 ∨ k = i * 8 + 2 ∨ k = i * 8 + 3 ∨ k = i * 8 + 4 ∨ k = i * 8 + 5 ∨ k = i * 8 + 6 ∨ k = i * 8 + 7 := by omega
    have hb : k < (flat l).length := by omega
    obtain ⟨g0, g1, g2, g3, g4, g5, g6, g7⟩ := cells_get x
    rcases h with rfl | rfl | rfl | rfl | rfl | rfl | rfl | rfl
    · have e : (i * 8) / 8 = i := by omega
      have e2 : (i * 8) % 8 = 0 := by omega
      have e3 : i * 8 < l.length * 8 := by omega
      simp [e, e2, e3, hi, hl, g0]
    · have e : (i * 8 + 1) / 8 = i := by omega
      have e2 : (i * 8 + 1) % 8 = 1 := by omega
      have e3 : i * 8 + 1 < l.length * 8 := by omega
      simp [e, e2, e3, hi, hl, g1]
    · have e : (i * 8 + 2) / 8 = i := by omega
      have e2 : (i * 8 + 2) % 8 = 2 := by omega
      have e3 : i * 8 + 2 < l.length * 8 := by omega
      simp [e, e2, e3, hi, hl, g2]
    · have e : (i * 8 + 3) / 8 = i := by omega
      have e2 : (i * 8 + 3) % 8 = 3 := by omega
      have e3 : i * 8 + 3 < l.length * 8 := by omega
      simp [e, e2, e3, hi, hl, g3]
    · have e : (i * 8 + 4) / 8 = i := by omega
      have e2 : (i * 8 + 4) % 8 = 4 := by omega
      have e3 : i * 8 + 4 < l.length * 8 := by omega
      simp [e, e2, e3, hi, hl, g4]
    · have e : (i * 8 + 5) / 8 = i := by omega
      have e2 : (i * 8 + 5) % 8 = 5 := by omega
      have e3 : i * 8 + 5 < l.length * 8 := by omega
      simp [e, e2, e3, hi, hl, g5]
    · have e : (i * 8 + 6) / 8 = i := by omega
      have e2 : (i * 8 + 6) % 8 = 6 := by omega
      have e3 : i * 8 + 6 < l.length * 8 := by omega
      simp [e, e2, e3, hi, hl, g6]
    · have e : (i * 8 + 7) / 8 = i := by omega
      have e2 : (i * 8 + 7) % 8 = 7 := by omega
      have e3 : i * 8 + 7 < l.length * 8 := by omega
      simp [e, e2, e3, hi, hl, g7]
  · have h0 : ∀ j, j < 8 → ¬ i * 8 + j = k := by intro j hj; omega
    have h1 : ¬ i = k / 8 := fun e => hk e.symm
    simp [h0 0 (by omega), h0 1 (by omega), h0 2 (by omega), h0 3 (by omega), h0 4 (by omega), h0 5 (by omega), h0 6 (by omega), h0 7 (by omega), h1]
    try (intro e; exact absurd e (h0 0 (by omega)))

end Go.Proofs.Ytcljbhiammofjaa
