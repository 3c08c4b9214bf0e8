/- What began too late is taken out of a row of entries. -/
import Derived.Test.YtcljbhiammofjaaA9
namespace Go.Proofs.Ytcljbhiammofjaa
open Go.RowKit

theorem setCells_grown (g : Nat) : ∀ (vs : List Value) (o : Nat) (w : World), w.grownBy (w.setCells g o vs) (some g)
  | [], _, w => World.grownBy.refl w _
  | v :: r, o, w => by
    have h := setCells_grown g r (o + 1) (w.setCell ⟨g, o, none⟩ v)
    refine ⟨h.os, h.tape, h.output, by have := h.size; simp at this; exact this, fun k hk hne => ?_⟩
    have hk' : k ≠ g := fun e => hne (by rw [e])
    exact (h.block k (by simp; exact hk) hne).trans (heap_setCell_other w ⟨g, o, none⟩ k v hk')

theorem zero32 (w : World) : (zeroValue 32).run Try.prog w = .ok (.agg #[.int .i64 0, .int .i64 0, .int .i64 0, .int .i64 0, .int .i64 0, .int .i64 0, .slice none 0 0, .int .i64 0]) w := Try.zeroValue32 w

theorem zeroCells_one (n : Nat) : ∀ v ∈ (Builtin.zeroCells #[.int .i64 0, .int .i64 0, .int .i64 0, .int .i64 0, .int .i64 0, .int .i64 0, .slice none 0 0, .int .i64 0] n).toList, v.oneCell' = true := by
  intro v hv
  simp only [Builtin.zeroCells] at hv
  simp at hv
  obtain ⟨a, _, rfl⟩ := hv
  have h : a % 8 = 0 ∨ a % 8 = 1 ∨ a % 8 = 2 ∨ a % 8 = 3 ∨ a % 8 = 4 ∨ a % 8 = 5 ∨ a % 8 = 6 ∨ a % 8 = 7 := by omega
  rcases h with h | h | h | h | h | h | h | h <;> simp [h] <;> rfl
theorem zeroCells_len (n : Nat) : (Builtin.zeroCells #[.int .i64 0, .int .i64 0, .int .i64 0, .int .i64 0, .int .i64 0, .int .i64 0, .slice none 0 0, .int .i64 0] n).toList.length = n * 8 := by
  simp [Builtin.zeroCells]

theorem run_clear_entries (w : World) (ty : TypeId) (g o n c : Nat) (hn : 0 < n) (hc : ∀ j, j < n * 8 → (w.cell? ⟨g, o + j, none⟩).isSome = true) (hf : ∀ j, j < n * 8 → w.frozen? ⟨g, o + j, none⟩ = false) :
    (Builtin.clear_ #[25] ty #[.slice (some ⟨g, o, none⟩) n c]).run Try.prog w = .ok (.tuple #[]) (w.setCells g o (Builtin.zeroCells #[.int .i64 0, .int .i64 0, .int .i64 0, .int .i64 0, .int .i64 0, .int .i64 0, .slice none 0 0, .int .i64 0] n).toList) := by
  have hst := run_storeCells_cells (P := Try.prog) g o _ 0 w (by rw [zeroCells_len]; simpa using hc) (by rw [zeroCells_len]; simpa using hf) (zeroCells_one n)
  simp only [Nat.add_zero] at hst
  obtain ⟨m, rfl⟩ : ∃ m, n = m + 1 := ⟨n - 1, by omega⟩
  simp [Builtin.clear_, run_underlying Try.underlying25, zero32, Value.cells, hst]

/-- the world with another entry in a row. -/
def putE (w : World) (g i : Nat) (x : En) : World :=
  (((((((w.setCell ⟨g, i * 8, none⟩ (.int .i64 x.core)).setCell ⟨g, i * 8 + 1, none⟩ (.int .i64 x.peer)).setCell ⟨g, i * 8 + 2, none⟩ (.int .i64 x.kind)).setCell ⟨g, i * 8 + 3, none⟩ (.int .i64 x.bg)).setCell ⟨g, i * 8 + 4, none⟩ (.int .i64 x.nd)).setCell ⟨g, i * 8 + 5, none⟩ (.int .i64 x.err)).setCell ⟨g, i * 8 + 6, none⟩ (.slice x.adr x.len x.cap)).setCell ⟨g, i * 8 + 7, none⟩ (.int .i64 x.handle)

theorem OwnE.put {w : World} {base g c : Nat} {l : List En} (h : w.ownsRow base 32 8 (.slice (some ⟨g, 0, none⟩) l.length c) l.length (flat l)) (i : Nat) (x : En) (hi : i < l.length) :
    (putE w g i x).ownsRow base 32 8 (.slice (some ⟨g, 0, none⟩) l.length c) l.length (flat (l.set i x)) ∧ w.grownBy (putE w g i x) (some g) := by
  obtain ⟨s0, g0⟩ := h.stored (i * 8) (.int .i64 x.core)
  obtain ⟨s1, g1⟩ := s0.stored (i * 8 + 1) (.int .i64 x.peer)
  obtain ⟨s2, g2⟩ := s1.stored (i * 8 + 2) (.int .i64 x.kind)
  obtain ⟨s3, g3⟩ := s2.stored (i * 8 + 3) (.int .i64 x.bg)
  obtain ⟨s4, g4⟩ := s3.stored (i * 8 + 4) (.int .i64 x.nd)
  obtain ⟨s5, g5⟩ := s4.stored (i * 8 + 5) (.int .i64 x.err)
  obtain ⟨s6, g6⟩ := s5.stored (i * 8 + 6) (.slice x.adr x.len x.cap)
  obtain ⟨s7, g7⟩ := s6.stored (i * 8 + 7) (.int .i64 x.handle)
  rw [flat_set l i x hi] at s7
  exact ⟨s7, g0.trans (g1.trans (g2.trans (g3.trans (g4.trans (g5.trans (g6.trans g7))))))⟩

theorem idx_spec (p : En → Bool) (l : List En) : (idx p l = -1 ∧ ∀ j, j < l.length → p (l.getD j default) = false) ∨ ∃ i : Nat, idx p l = (i : Int) ∧ i < l.length ∧ p (l.getD i default) = true ∧ ∀ j, j < i → p (l.getD j default) = false := by
  induction l with
  | nil => exact .inl ⟨rfl, fun j hj => by simp at hj⟩
  | cons y l ih =>
    cases hy : p y
    · rcases ih with ⟨h1, h2⟩ | ⟨i, h1, h2, h3, h4⟩
      · refine .inl ⟨by simp [idx, hy, h1], fun j hj => ?_⟩
        cases j with
        | zero => simpa using hy
        | succ j => simpa using h2 j (by simpa using hj)
      · refine .inr ⟨i + 1, ?_, by simpa using h2, by simpa using h3, fun j hj => ?_⟩
        · simp only [idx, hy, h1]
          rw [if_neg (by simp), if_neg (by omega)]
          omega
        · cases j with
          | zero => simpa using hy
          | succ j => simpa using h4 j (by omega)
    · exact .inr ⟨0, by simp [idx, hy], by simp, by simpa using hy, fun j hj => by omega⟩

/-- what is left of a list. -/
def keep (a : Int) (l : List En) : List En := l.filter fun y => !decide (a < y.bg)
theorem keep_none (a : Int) (l : List En) (h : ∀ j, j < l.length → (decide (a < (l.getD j default).bg)) = false) : keep a l = l := by
  unfold keep
  rw [List.filter_eq_self]
  intro y hy
  obtain ⟨i, hi, rfl⟩ := List.getElem_of_mem hy
  have := h i hi
  simp only [List.getD_eq_getElem?_getD, List.getElem?_eq_getElem hi, Option.getD_some] at this
  rw [this]; rfl
theorem keep_take (a : Int) (l : List En) (k : Nat) (h : ∀ j, j < k → (decide (a < (l.getD j default).bg)) = false) (hk : k ≤ l.length) : keep a (l.take k) = l.take k := by
  apply keep_none
  intro j hj
  rw [List.length_take] at hj
  have := h j (by omega)
  simpa [List.getD_eq_getElem?_getD, List.getElem?_take, show j < k by omega] using this
theorem keep_succ (a : Int) (l : List En) (k : Nat) (hk : k < l.length) : keep a (l.take (k + 1)) = if decide (a < (l.getD k default).bg) then keep a (l.take k) else keep a (l.take k) ++ [l.getD k default] := by
  have : l.getD k default = l[k] := by simp [List.getD_eq_getElem?_getD, hk]
  rw [this]
  unfold keep
  rw [List.take_succ_eq_append_getElem hk, List.filter_append]
  by_cases h : a < l[k].bg
  · simp [h]
  · simp [h]
theorem keep_len (a : Int) (l : List En) (k : Nat) : (keep a (l.take k)).length ≤ k := by
  unfold keep
  exact Nat.le_trans (List.length_filter_le _ _) (by rw [List.length_take]; omega)

theorem pw_own_below' {w w1 : World} {base : Nat} {e : TypeId} {size : Nat} {v : Value} {n : Nat} {xs : List Value} (h : w.ownsRow base e size v n xs) (hb : Below w.heap.size w w1) : w1.ownsRow base e size v n xs := by
  obtain ⟨h1, h2⟩ := h
  refine ⟨h1, ?_⟩
  rcases h2 with h2 | ⟨g, cap, cur, e1, e2, e3, e4⟩
  · exact .inl h2
  · exact .inr ⟨g, cap, cur, e1, e2, (hb.block g (lt_of_block e3)).trans e3, e4⟩

/-- what DeleteFunc has come to. -/
structure Del (w wr : World) (g base c : Nat) (a : Int) (l : List En) (k j : Nat) (m : List En) : Prop where
  own : wr.ownsRow base 32 8 (.slice (some ⟨g, 0, none⟩) l.length c) l.length (flat m)
  gr : w.grownBy wr (some g)
  kept : m.take k = keep a (l.take j)
  jl : j ≤ l.length
  kj : k ≤ j
  len : m.length = l.length
  rest : m.drop j = l.drop j
  cnt : k = (keep a (l.take j)).length

theorem own_entry {w : World} {base g c n : Nat} {l : List En} (h : w.ownsRow base 32 8 (.slice (some ⟨g, 0, none⟩) n c) n (flat l)) (i : Nat) (hi : i < l.length) :
    w.cell? ⟨g, i * 8, none⟩ = some (.int .i64 (l.getD i default).core) ∧ w.cell? ⟨g, i * 8 + 1, none⟩ = some (.int .i64 (l.getD i default).peer) ∧ w.cell? ⟨g, i * 8 + 2, none⟩ = some (.int .i64 (l.getD i default).kind) ∧ w.cell? ⟨g, i * 8 + 3, none⟩ = some (.int .i64 (l.getD i default).bg)
    ∧ w.cell? ⟨g, i * 8 + 4, none⟩ = some (.int .i64 (l.getD i default).nd) ∧ w.cell? ⟨g, i * 8 + 5, none⟩ = some (.int .i64 (l.getD i default).err) ∧ w.cell? ⟨g, i * 8 + 6, none⟩ = some (.slice (l.getD i default).adr (l.getD i default).len (l.getD i default).cap) ∧ w.cell? ⟨g, i * 8 + 7, none⟩ = some (.int .i64 (l.getD i default).handle) := by
  have hc : ∀ j, j < 8 → w.cell? ⟨g, i * 8 + j, none⟩ = (l.getD i default).cells[j]? := by
    intro j hj
    rw [own_cell h (i * 8 + j) (by rw [flat_len]; omega), flat_get]
    have e1 : (i * 8 + j) / 8 = i := by omega
    have e2 : (i * 8 + j) % 8 = j := by omega
    rw [e1, e2, List.getD_eq_getElem?_getD, List.getElem?_eq_getElem hi]
    rfl
  exact ⟨hc 0 (by omega), hc 1 (by omega), hc 2 (by omega), hc 3 (by omega), hc 4 (by omega), hc 5 (by omega), hc 6 (by omega), hc 7 (by omega)⟩

theorem Del.skipX {w wr w2 : World} {g base c : Nat} {a : Int} {l : List En} {k j : Nat} {m : List En} (h : Del w wr g base c a l k j m) (hj : j < l.length) (hb : Below wr.heap.size wr w2) (hp : decide (a < (l.getD j default).bg) = true) : Del w w2 g base c a l k (j + 1) m := by
  have hs := keep_succ a l j hj
  rw [if_pos hp] at hs
  refine ⟨pw_own_below' h.own hb, h.gr.trans (grown_of_below hb _), by rw [hs]; exact h.kept, by omega, by have := h.kj; omega, h.len, ?_, by rw [hs]; exact h.cnt⟩
  have := congrArg (List.drop 1) h.rest
  rwa [List.drop_drop, List.drop_drop] at this
theorem Del.putX {w wr w2 : World} {g base c : Nat} {a : Int} {l : List En} {k j : Nat} {m : List En} {x : En} (h : Del w wr g base c a l k j m) (hj : j < l.length) (hx : l.getD j default = x) (hb : Below wr.heap.size wr w2) (hp : decide (a < (l.getD j default).bg) = false) : Del w (putE w2 g k x) g base c a l (k + 1) (j + 1) (m.set k x) := by
  have hs := keep_succ a l j hj
  rw [if_neg (by rw [hp]; simp), hx] at hs
  have hkj := h.kj
  have hlen := h.len
  have hown : w2.ownsRow base 32 8 (.slice (some ⟨g, 0, none⟩) m.length c) m.length (flat m) := by
    rw [hlen]; exact pw_own_below' h.own hb
  obtain ⟨s1, s2⟩ := OwnE.put hown k x (by omega)
  refine ⟨by rw [hlen] at s1; exact s1, (h.gr.trans (grown_of_below hb _)).trans s2, ?_, by omega, by omega, by simpa using hlen, ?_, by rw [hs, List.length_append, ← h.cnt]; rfl⟩
  · rw [hs, ← h.kept, List.take_succ_eq_append_getElem (by simp; omega), List.take_set_of_le (Nat.le_refl _)]
    simp
  · have := congrArg (List.drop 1) h.rest
    rw [List.drop_drop, List.drop_drop] at this
    rw [← this, List.drop_set_of_lt (by omega)]

theorem clear_zero (w : World) (ty : TypeId) (A : Option Addr) (c : Nat) : (Builtin.clear_ #[25] ty #[.slice A 0 c]).run Try.prog w = .ok (.tuple #[]) w := by
  cases A <;> simp [Builtin.clear_, run_underlying Try.underlying25]
theorem Del.reads {w wr W : World} {g base c : Nat} {a : Int} {l : List En} {k : Nat} {m : List En} (h : Del w wr g base c a l k l.length m) (hW : ∀ t, t < k * 8 → W.cell? ⟨g, t, none⟩ = wr.cell? ⟨g, t, none⟩) : ReadsE W (some ⟨g, 0, none⟩) (keep a l) := by
  have hk := h.kept
  rw [List.take_length] at hk
  have hc := h.cnt
  rw [List.take_length] at hc
  have hkj := h.kj
  have hlen := h.len
  refine .inr ⟨g, 0, rfl, fun i hi j hj => ?_⟩
  rw [hW _ (by omega), own_cell h.own (0 + i * 8 + j) (by rw [flat_len]; omega), flat_get]
  have e1 : (0 + i * 8 + j) / 8 = i := by omega
  have e2 : (0 + i * 8 + j) % 8 = j := by omega
  rw [e1, e2, ← hk, List.getD_eq_getElem?_getD, List.getElem?_take, if_pos (by omega), List.getElem?_eq_getElem (by omega)]
  rfl

set_option maxHeartbeats 1600000 in
theorem deleteFunc_any (w : World) (base : Nat) (v : Value) (l : List En) (B : Nat) (a : Int) (hv : OwnE w base v l) (hB : w.heap[B]? = some (.cells #[.int .i64 a] 3 (0, 0))) (hl : l.length ≤ 1000) :
    Calls Try.prog 15 #[v, .func (.func 17) #[] #[.pointer (some ⟨B, 0, none⟩)]] w fun e w' => ∃ A c, e = .returned (.slice A (keep a l).length c) ∧ ReadsE w' A (keep a l) ∧ (keep a l).length ≤ c ∧ (A = none → c = 0) ∧ w.grownBy w' v.ownBlock := by
  obtain ⟨A, c, rfl, hr, hc, hA⟩ := own_readsE hv
  have hp : Pred w 17 #[.pointer (some ⟨B, 0, none⟩)] (fun y => decide (a < y.bg)) := fun W hb y => longest1_any W B a y ((hb.block B (lt_of_block hB)).trans hB)
  have HI := indexFunc_any w A c l 17 _ _ hp (@enters_fn Try.prog 17 _ Try.func17 (by kernel_rfl) rfl) hr l.length rfl hl
  have HE := Lib.hid (@enters_fn Try.prog 17 _ Try.func17 (by kernel_rfl) rfl)
  have HV := Lib.hid hv
  have HR := Lib.hid hr
  have HA := Lib.hid hA
  have HB := Lib.hid hB
  clear hv hr hp hA hB
  go_enter Try.func15, Try.ntmps15
  go_wp2_with fail
  refine HI.mono ?_
  rintro e w1 ⟨rfl, hb1⟩
  clear HI
  rcases idx_spec (fun y => decide (a < y.bg)) l with ⟨h1, h2⟩ | ⟨i, h1, h2, h3, h4⟩
  · rw [h1]
    have HK : Hid (keep a l = l) := keep_none a l h2
    clear h1 h2
    go_wp2
    go_ret
    refine ⟨A, c, by rw [HK.out]; rfl, by rw [HK.out]; exact HR.out.below hb1, by rw [HK.out]; exact hc, HA.out, grown_of_below hb1 _⟩
  · rw [h1]
    have H3 := Lib.hid h3
    have H4 := Lib.hid h4
    clear h1 h3 h4
    obtain ⟨g, rfl⟩ : ∃ g, A = some ⟨g, 0, none⟩ := by
      rcases HV.out.2 with ⟨h, h0⟩ | ⟨g, cap, cur, h0, _⟩
      · omega
      · exact ⟨g, by injection h0⟩
    have q1 : IntKind.i64.wrap ((i : Int) + 1) = (i : Int) + 1 := IntWalk.i64_in _ (by omega)
    go_wp2_with fail
    have hdel : Del w w1 g base c a l i (i + 1) l := ⟨pw_own_below' HV.out hb1, grown_of_below hb1 _, ?_, by omega, by omega, rfl, rfl, ?_⟩
    rotate_left
    · rw [keep_succ a l i h2, if_pos H3.out, keep_take a l i H4.out (by omega)]
    · rw [keep_succ a l i h2, if_pos H3.out, keep_take a l i H4.out (by omega), List.length_take]; omega
    have HD := Lib.hid hdel
    clear hdel hb1
    go_loopg [5, 6] l.length (fun q s5 s6 wr => ∃ (k j : Nat) (m : List En), s5 = .int .i64 k ∧ s6 = .int .i64 j ∧ j + q = l.length + i + 1 ∧ Del w wr g base c a l k j m)
    case atStart => exact ⟨i, i + 1, l, rfl, by simp, by omega, HD.out⟩
    case round =>
      obtain ⟨k, j, m, rfl, rfl, hq, hd⟩ := hrel
      have HQ := Lib.hid hq
      have HD2 := Lib.hid hd
      clear hq hd
      by_cases hlt : j < l.length
      · have hjm : j < m.length := by rw [HD2.out.len]; exact hlt
        obtain ⟨c0, c1, c2, c3, c4, c5, c6, c7⟩ := own_entry HD2.out.own j hjm
        have hgl : g < wr.heap.size := World.block_lt_of_cell? wr _ c0
        have hxl : m.getD j default = l.getD j default := by
          have := congrArg (fun z : List En => z[0]?) HD2.out.rest
          simp only [List.getElem?_drop, Nat.add_zero] at this
          rw [List.getD_eq_getElem?_getD, List.getD_eq_getElem?_getD, this]
        have hks := keep_succ a l j hlt
        have hcl := keep_len a l j
        rw [hxl] at c0 c1 c2 c3 c4 c5 c6 c7
        have HXL := Lib.hid hxl
        clear hxl
        generalize hx : l.getD j default = x at *
        have HX := Lib.hid hx
        have HKS := Lib.hid hks
        clear hx hks
        have hkn : k < l.length := by have := HD2.out.kj; omega
        have q2 : IntKind.i64.wrap ((k : Int) + 1) = (k : Int) + 1 := IntWalk.i64_in _ (by omega)
        have q3 : IntKind.i64.wrap ((j : Int) + 1) = (j : Int) + 1 := IntWalk.i64_in _ (by omega)
        have eg := HE.out
        go_wp2_with fail
        have hBr : wr.heap[B]? = some (.cells #[.int .i64 a] 3 (0, 0)) := by
          have hne : B ≠ g := by
            rintro rfl
            rcases HV.out.2 with ⟨h, _⟩ | ⟨g', cap, cur, h0, _, h1, _⟩
            · simp at h
            · have : B = g' := by injection h0 with h0; injection h0 with h0; injection h0 with h0
              subst this
              rw [HB.out] at h1
              simp at h1
          rw [HD2.out.gr.block B (lt_of_block HB.out) (fun e => hne (by injection e))]
          exact HB.out
        refine (longest1_any _ B a x (((below_al (Below.refl _ _) _).block B (lt_of_block hBr)).trans hBr)).mono ?_
        rintro e w2 ⟨rfl, hb2⟩
        obtain ⟨r1, r2⟩ := below_cells hb2
        have z1 : wr.heap.size < w2.heap.size := by have := hb2.size; simp at this; omega
        have z2 : g < w2.heap.size := by omega
        have z3 : g < wr.heap.size + 1 := by omega
        have z4 : ¬ g = wr.heap.size := by omega
        have hbw : Below wr.heap.size wr w2 := (below_al (Below.refl _ _) _).trans (hb2.mono (by simp))
        have HBW := Lib.hid hbw
        clear hb2 hbw hBr
        cases hp : decide (a < x.bg)
        · have HP := Lib.hid hp
          clear hp
          have ho2 := pw_own_below' HD2.out.own HBW.out
          have HO2 := Lib.hid ho2
          obtain ⟨d0, d1, d2, d3, d4, d5, d6, d7⟩ := own_entry HD2.out.own k (by rw [HD2.out.len]; exact hkn)
          have f : ∀ t, wr.frozen? ⟨g, t, none⟩ = false := fun t => World.ownsRow.frozenAt HD2.out.own t
          clear ho2 c0 c1 c2 c3 c4 c5 c6 c7 eg
          go_wp2_with fail
          go_roundg (gk - 1)
          case measure => have := HQ.out; omega
          case rel => exact ⟨k + 1, j + 1, m.set k x, by simp, by simp, by have := HQ.out; omega, Del.putX HD2.out hlt (by rw [HX.out]) HBW.out (by rw [HX.out]; exact HP.out)⟩
        · have HP := Lib.hid hp
          clear hp
          go_wp2_with fail
          go_roundg (gk - 1)
          case measure => have := HQ.out; omega
          case rel => exact ⟨k, j + 1, m, rfl, by simp, by have := HQ.out; omega, Del.skipX HD2.out hlt HBW.out (by rw [HX.out]; exact HP.out)⟩
      · have hjl := HD2.out.jl
        have hjn : j = l.length := by omega
        subst hjn
        have hkj := HD2.out.kj
        have hkp : m.take k = keep a l := by
          have := HD2.out.kept
          rwa [List.take_length] at this
        have hkc : k = (keep a l).length := by
          have := HD2.out.cnt
          rwa [List.take_length] at this
        have HKP := Lib.hid hkp
        have HKC := Lib.hid hkc
        clear hkp hkc
        by_cases hkn : k < l.length
        · have hck : ¬ c = k := by omega
          have hcl : ∀ ty, (Builtin.clear_ #[25] ty #[.slice (some ⟨g, k * 8, none⟩) (l.length - k) (c - k)]).run Try.prog wr = .ok (.tuple #[]) (wr.setCells g (k * 8) (Builtin.zeroCells #[.int .i64 0, .int .i64 0, .int .i64 0, .int .i64 0, .int .i64 0, .int .i64 0, .slice none 0 0, .int .i64 0] (l.length - k)).toList) := by
            intro ty
            have hfl : (flat m).length = l.length * 8 := by rw [flat_len, HD2.out.len]
            refine run_clear_entries wr ty g (k * 8) (l.length - k) (c - k) (by omega) (fun t ht => ?_) (fun t ht => World.ownsRow.frozenAt HD2.out.own _)
            rw [own_cell HD2.out.own (k * 8 + t) (by omega), List.getElem?_eq_getElem (by omega)]
            rfl
          go_wp2_with fail
          go_ret
          refine ⟨_, c, by rw [← HKC.out]; rfl, HD2.out.reads fun t ht => ?_, by rw [← HKC.out]; omega, fun h => by simp at h, HD2.out.gr.trans (setCells_grown g _ _ _)⟩
          exact World.cell?_setCells_out g _ _ _ _ (fun _ _ => .inl ht)
        · have hke : k = l.length := by omega
          subst hke
          have hcl := fun (ty : TypeId) (A' : Option Addr) (c' : Nat) => clear_zero wr ty A' c'
          by_cases hck : c = l.length
          · subst hck
            go_wp2_with fail
            go_ret
            exact ⟨_, l.length, by rw [← HKC.out]; rfl, HD2.out.reads fun _ _ => rfl, by rw [← HKC.out]; omega, fun h => by simp at h, HD2.out.gr⟩
          · go_wp2_with fail
            go_ret
            exact ⟨_, c, by rw [← HKC.out]; rfl, HD2.out.reads fun _ _ => rfl, by rw [← HKC.out]; omega, fun h => by simp at h, HD2.out.gr⟩

end Go.Proofs.Ytcljbhiammofjaa
