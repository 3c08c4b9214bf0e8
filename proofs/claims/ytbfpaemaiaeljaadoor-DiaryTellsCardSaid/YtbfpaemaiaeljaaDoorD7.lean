/- What DiaryOwn keeps, and writes: copies, loads on their own, alike entries. -/
import Derived.Test.YtbfpaemaiaeljaaDoorD6
import Derived.Maps.AppendAt
import Derived.Deep.AppendLies
import Derived.OwnWalk
namespace Go.Proofs.YtbfpaemaiaeljaaDoor
open Go.RowKit

theorem block_of_add (a : Addr) (n : Nat) : (a.add n).block = a.block := by unfold Addr.add; split <;> rfl
theorem add_of_add (a : Addr) (i j : Nat) : (a.add i).add j = a.add (i + j) := by
  unfold Addr.add
  by_cases hi : i = 0 <;> by_cases hj : j = 0 <;> simp [hi, hj, Nat.add_assoc]

def RdW (w : World) (B size : Nat) (A : Option Addr) (n : Nat) (xs : List Value) : Prop :=
  xs.length = n * size ∧ (0 < n → ∃ ad, A = some ad ∧ ad.block < B ∧ ∀ j u, xs[j]? = some u → w.cell? (ad.add j) = some u)

section
variable {P : Program} (w : World)

theorem run_append_of_nil (base : Nat) (t ty e : TypeId) (i : TypeInfo) (size : Nat) (ht : P.underlying t = some (.slice e)) (hi : P.info? e = some i)
    (v : Value) (n : Nat) (xs : List Value) (hown : w.ownsRow base e size v n xs) (c : Nat) : (Builtin.append_ #[t, t] ty #[v, .slice none 0 c]).run P w = .ok v w := by
  rcases hown.2 with ⟨rfl, rfl⟩ | ⟨g, cap, cur, rfl, _, _, hnc, _⟩
  · simp [Builtin.append_, run_underlying ht, sizeOf, typeInfo, hi, Builtin.lenOf, Builtin.firstCells]
  · simp [Builtin.append_, run_underlying ht, sizeOf, typeInfo, hi, Builtin.lenOf, Builtin.firstCells, hnc, storeCells]

theorem run_append_any (base : Nat) (t ty e : TypeId) (i : TypeInfo) (z : Value) (size bytes : Nat) (ht : P.underlying t = some (.slice e)) (hi : P.info? e = some i) (hz : i.zero = some z)
    (hsize : i.size = size) (hby : i.bytes = bytes) (hzs : z.cells.size = size) (hsz : 0 < size)
    (v : Value) (n : Nat) (xs : List Value) (hown : w.ownsRow base e size v n xs)
    (B : Nat) (A : Option Addr) (m c : Nat) (news : List Value) (hr : RdW w B size A m news) (h1 : ∀ u ∈ news, u.oneCell' = true)
    (h63 : n + m ≤ maxLen) (hbytes : (n + m) * bytes ≤ 140737488355328) (hbase : base ≤ w.heap.size) :
    ∃ v' w', (Builtin.append_ #[t, t] ty #[v, .slice A m c]).run P w = .ok v' w' ∧ w'.ownsRow base e size v' (n + m) (xs ++ news) ∧ w.grownBy w' v.ownBlock ∧
      (v'.ownBlock = v.ownBlock ∨ v'.ownBlock = some w.heap.size) := by
  rcases A with _ | ad
  · have hm : m = 0 := by
      rcases Nat.eq_zero_or_pos m with h0 | h0
      · exact h0
      · obtain ⟨ad, h, _⟩ := hr.2 h0
        cases h
    subst hm
    have hn : news = [] := List.eq_nil_of_length_eq_zero (by simpa using hr.1)
    subst hn
    exact ⟨v, w, run_append_of_nil w base t ty e i size ht hi v n xs hown c, by simpa using hown, World.grownBy.refl w _, .inl rfl⟩
  · have hcells : ∀ j u, news[j]? = some u → w.cell? (ad.add j) = some u := by
      intro j u hu
      rcases Nat.eq_zero_or_pos m with h0 | h0
      · subst h0
        have hn : news = [] := List.eq_nil_of_length_eq_zero (by simpa using hr.1)
        subst hn
        simp at hu
      · obtain ⟨ad', h, _, hc⟩ := hr.2 h0
        injection h with h
        subst h
        exact hc j u hu
    obtain ⟨v', w', hrun, h2, h3, _, h5⟩ := run_append_own_at (P := P) w base t ty e i z size bytes ht hi hz hsize hby hzs hsz v n xs hown ad m c news hr.1 hcells h1 h63 hbytes hbase
    exact ⟨v', w', hrun, h2, h3, h5⟩

theorem wp_append_any {o : Oper} {a : Act} {K : Act → World → Prop} {Q : Exit → Act → World → Prop} (s x : Operand) (t : TypeId)
    (ho : o.op = .call { callee := .builtin .append, args := #[s, x], argTypes := #[t, t] })
    (base : Nat) (e : TypeId) (i : TypeInfo) (z : Value) (size bytes : Nat) (ht : P.underlying t = some (.slice e)) (hi : P.info? e = some i) (hz : i.zero = some z)
    (hsize : i.size = size) (hby : i.bytes = bytes) (hzs : z.cells.size = size) (hsz : 0 < size)
    (v : Value) (n : Nat) (xs : List Value) (hs : a.eval s = v) (hown : w.ownsRow base e size v n xs)
    (B : Nat) (A : Option Addr) (m c : Nat) (news : List Value) (hx : a.eval x = .slice A m c) (hr : RdW w B size A m news) (h1 : ∀ u ∈ news, u.oneCell' = true)
    (h63 : n + m ≤ maxLen) (hbytes : (n + m) * bytes ≤ 140737488355328) (hbase : base ≤ w.heap.size)
    (h : ∀ v' w', w'.ownsRow base e size v' (n + m) (xs ++ news) → w.grownBy w' v.ownBlock → (v'.ownBlock = v.ownBlock ∨ v'.ownBlock = some w.heap.size) → K (a.put o.dst v') w') : o.wp P a w K Q := by
  obtain ⟨v', w', hrun, h2, h3, h4⟩ := run_append_any (P := P) w base t o.type e i z size bytes ht hi hz hsize hby hzs hsz v n xs hown B A m c news hr h1 h63 hbytes hbase
  unfold Oper.wp execOp
  simp only [ho, resolve, invoke, builtin, Sem.run_bind, Sem.run_pure, Result.andThen_ok, List.map_toArray, List.map_cons, List.map_nil, hs, hx, hrun]
  exact h v' w' h2 h3 h4

theorem wpList_append_any {ops : Array Oper} {rest : List Oper} {o : Oper} {a : Act} {Q : Exit → Act → World → Prop} (hgd : o.guard = none) (s x : Operand) (t : TypeId)
    (ho : o.op = .call { callee := .builtin .append, args := #[s, x], argTypes := #[t, t] })
    (base : Nat) (e : TypeId) (i : TypeInfo) (z : Value) (size bytes : Nat) (ht : P.underlying t = some (.slice e)) (hi : P.info? e = some i) (hz : i.zero = some z)
    (hsize : i.size = size) (hby : i.bytes = bytes) (hzs : z.cells.size = size) (hsz : 0 < size)
    (v : Value) (n : Nat) (xs : List Value) (hs : a.eval s = v) (hown : w.ownsRow base e size v n xs)
    (B : Nat) (A : Option Addr) (m c : Nat) (news : List Value) (hx : a.eval x = .slice A m c) (hr : RdW w B size A m news) (h1 : ∀ u ∈ news, u.oneCell' = true)
    (h63 : n + m ≤ maxLen) (hbytes : (n + m) * bytes ≤ 140737488355328) (hbase : base ≤ w.heap.size)
    (h : ∀ v' w', w'.ownsRow base e size v' (n + m) (xs ++ news) → w.grownBy w' v.ownBlock → (v'.ownBlock = v.ownBlock ∨ v'.ownBlock = some w.heap.size) → wpList P ops Q rest (a.put o.dst v') w') : wpList P ops Q (o :: rest) a w :=
  wpList_plain hgd fun _ hK => wp_append_any w s x t ho base e i z size bytes ht hi hz hsize hby hzs hsz v n xs hs hown B A m c news hx hr h1 h63 hbytes hbase fun v' w' h2 h3 h4 => hK _ _ (h v' w' h2 h3 h4)
end

/-- an entry without the place of its load. -/
def En.nf (x : En) : En := { x with adr := none, cap := 0 }
theorem headN_false (x y : En) : headN x y = false ↔ x.core = y.core ∧ x.peer = y.peer ∧ x.kind = y.kind ∧ x.bg = y.bg ∧ x.nd = y.nd ∧ x.err = y.err ∧ x.handle = y.handle ∧ x.len = y.len := by
  simp [headN, and_assoc]
  omega
theorem alikeP_iff (x y : En) : alikeP x y = true ↔ x.nf = y.nf := by
  cases x; cases y
  simp only [alikeP, Bool.and_eq_true, Bool.not_eq_true', headN_false, En.nf, beq_iff_eq, En.mk.injEq]
  constructor
  · rintro ⟨⟨h1, h2, h3, h4, h5, h6, h7, h8⟩, h9⟩
    exact ⟨h1, h2, h3, h4, h5, h6, trivial, h8, trivial, h7, h9⟩
  · rintro ⟨h1, h2, h3, h4, h5, h6, _, h8, _, h7, h9⟩
    exact ⟨⟨h1, h2, h3, h4, h5, h6, h7, h8⟩, h9⟩
theorem sameP_iff (a b : List En) : sameP a b = true ↔ a.map En.nf = b.map En.nf := by
  simp only [sameP, Bool.and_eq_true, beq_iff_eq, List.all_eq_true, List.mem_range, alikeP_iff]
  constructor
  · rintro ⟨h, hi⟩
    apply List.ext_getElem (by simpa using h)
    intro i h1 h2
    simp only [List.length_map] at h1 h2
    have := hi i h1
    simpa [List.getD_eq_getElem?_getD, h1, h2] using this
  · intro h
    have hl : a.length = b.length := by simpa using congrArg List.length h
    refine ⟨hl, fun i h1 => ?_⟩
    have h2 : i < b.length := by omega
    have := congrArg (fun l : List En => l[i]?) h
    simpa [List.getD_eq_getElem?_getD, h1, h2] using this
theorem Copy.nf {w : World} {B : Nat} {x y : En} (h : Copy w B x y) : y.nf = x.nf := by rw [h.same]; rfl
theorem Copies.nf {w : World} {B : Nat} {F L : List En} (h : Copies w B F L) : L.map En.nf = F.map En.nf := by
  apply List.ext_getElem (by simpa using h.1)
  intro i h1 h2
  simp only [List.length_map] at h1 h2
  have := (h.2 i h2).nf
  simpa [List.getD_eq_getElem?_getD, h1, h2] using this
theorem filter_nf (p : En → Bool) (hp : ∀ x : En, p x.nf = p x) {a b : List En} (h : a.map En.nf = b.map En.nf) : (a.filter p).map En.nf = (b.filter p).map En.nf := by
  have e : ∀ l : List En, (l.filter p).map En.nf = (l.map En.nf).filter p := by
    intro l
    rw [List.filter_map]
    congr 1
    apply List.filter_congr
    intro x _
    exact (hp x).symm
  rw [e, e, h]

/-- a load whose cells may be written. -/
def Soft (w : World) (B : Nat) (x : En) : Prop := x.len = 0 ∨ ∃ g cur, x.adr = some ⟨g, 0, none⟩ ∧ B ≤ g ∧ w.heap[g]? = some (.cells cur 3 (0, 0)) ∧ x.len ≤ cur.size ∧ ∀ i, i < x.len → ∃ z, cur[i]? = some (.int .i64 z)

theorem Copy.soft {w : World} {B : Nat} {x y : En} (h : Copy w B x y) : Soft w B y := by
  have hy : y.load.length = y.len := by rw [h.same]; exact h.len
  rcases h.own.2 with ⟨_, h1⟩ | ⟨g', cap, cur, h0, h1, h2, h3, h4, h5, h6⟩
  · exact .inl (by omega)
  · have hA : y.adr = some ⟨g', 0, none⟩ := by injection h0
    have hl : ∀ i, i < y.len → ∃ z, cur[i]? = some (.int .i64 z) := by
      intro i hi
      have h7 := congrArg (fun x : List Value => x[i]?) h6
      simp only [List.getElem?_take] at h7
      rw [if_pos (by omega)] at h7
      refine ⟨y.load.getD i 0, ?_⟩
      have : cur.toList[i]? = some (.int .i64 (y.load.getD i 0)) := by
        rw [h7]
        simp [List.getD_eq_getElem?_getD, show i < y.load.length by omega]
      simpa using this
    refine .inr ⟨g', cur, hA, h1, h2, ?_, hl⟩
    rcases Nat.eq_zero_or_pos y.len with h | h
    · omega
    · obtain ⟨z, hz⟩ := hl (y.len - 1) (by omega)
      have := (Array.getElem?_eq_some_iff.1 hz).1
      omega
theorem Soft.at {w : World} {B : Nat} {x : En} (h : Soft w B x) {i : Nat} (hi : i < x.len) : ∃ g cur z, x.adr = some ⟨g, 0, none⟩ ∧ B ≤ g ∧ w.heap[g]? = some (.cells cur 3 (0, 0)) ∧ i < cur.size ∧ w.cell? ⟨g, i, none⟩ = some (.int .i64 z) ∧ w.frozen? ⟨g, i, none⟩ = false := by
  rcases h with h | ⟨g, cur, h1, h2, h3, h4, h5⟩
  · omega
  · obtain ⟨z, hz⟩ := h5 i hi
    exact ⟨g, cur, z, h1, h2, h3, by omega, by simp [World.cell?, h3, hz], by simp [World.frozen?, h3]⟩
theorem Soft.block {w w' : World} {B : Nat} {x : En} (h : Soft w B x) (hb : Below w.heap.size w w') : Soft w' B x := by
  rcases h with h | ⟨g, cur, h1, h2, h3, h4, h5⟩
  · exact .inl h
  · exact .inr ⟨g, cur, h1, h2, (hb.block g (lt_of_block h3)).trans h3, h4, h5⟩
theorem set_cells {w : World} {g i : Nat} {cur : Array Value} {t : TypeId} {u : Value} (h : w.heap[g]? = some (.cells cur t (0, 0))) : (w.setCell ⟨g, i, none⟩ u).heap[g]? = some (.cells (cur.setIfInBounds i u) t (0, 0)) := by
  simp [World.setCell, Array.getElem?_modify, h]
theorem Soft.set {w : World} {B : Nat} {x : En} {g i : Nat} {cur : Array Value} {z : Int} (h : Soft w B x) (hg : w.heap[g]? = some (.cells cur 3 (0, 0))) : Soft (w.setCell ⟨g, i, none⟩ (.int .i64 z)) B x := by
  rcases h with h | ⟨g', cur', h1, h2, h3, h4, h5⟩
  · exact .inl h
  · by_cases he : g' = g
    · subst he
      rw [hg] at h3
      have hc : cur = cur' := by injection h3 with h3; injection h3
      subst hc
      refine .inr ⟨g', _, h1, h2, set_cells hg, by simpa using h4, fun k hk => ?_⟩
      by_cases hki : i = k
      · subst hki
        exact ⟨z, by rw [Array.getElem?_setIfInBounds_self_of_lt (by omega)]⟩
      · rw [Array.getElem?_setIfInBounds_ne hki]
        exact h5 k hk
    · exact .inr ⟨g', cur', h1, h2, (Below.heap_setCell _ _ _ _ he).trans h3, h4, h5⟩

/-- what the rounds that write have come to. -/
structure Mut (wK wr : World) (v : Value) (L : List En) : Prop where
  own : OwnE 28 wr wK.heap.size v L
  soft : ∀ x ∈ L, Soft wr wK.heap.size x
  bel : Below wK.heap.size wK wr
theorem Mut.below {wK wr w' : World} {v : Value} {L : List En} (h : Mut wK wr v L) (hb : Below wr.heap.size wr w') : Mut wK w' v L :=
  ⟨own_below h.own hb, fun x hx => (h.soft x hx).block hb, h.bel.trans (hb.mono h.bel.size)⟩
theorem set_grown (w : World) (g i : Nat) (u : Value) : w.grownBy (w.setCell ⟨g, i, none⟩ u) (some g) :=
  ⟨rfl, rfl, rfl, by simp, fun k hk hne => Below.heap_setCell _ _ _ _ (fun e => hne (by rw [e]))⟩
theorem Mut.set {wK wr : World} {v : Value} {L : List En} {g i : Nat} {cur : Array Value} {z : Int} (h : Mut wK wr v L) (hg : wr.heap[g]? = some (.cells cur 3 (0, 0))) (hB : wK.heap.size ≤ g) : Mut wK (wr.setCell ⟨g, i, none⟩ (.int .i64 z)) v L := by
  refine ⟨h.own.kept (set_grown wr g i _) ?_, fun x hx => (h.soft x hx).set hg, h.bel.setCell hB _⟩
  rcases h.own.2 with ⟨rfl, _⟩ | ⟨g', cap, cur', rfl, _, k2, _⟩
  · exact .inl rfl
  · refine .inr fun e => ?_
    have : g' = g := by simpa [Value.ownBlock] using e
    subst this
    rw [hg] at k2
    injection k2 with k2
    injection k2 with _ k2
    exact absurd k2 (by decide)
theorem box_set {w : World} {gx g i : Nat} {cur : Array Value} {o : Array Value} {u : Value} (hx : w.heap[gx]? = some (.cells o 28 (0, 0))) (hg : w.heap[g]? = some (.cells cur 3 (0, 0))) : (w.setCell ⟨g, i, none⟩ u).heap[gx]? = some (.cells o 28 (0, 0)) := by
  have hne : gx ≠ g := by
    rintro rfl
    rw [hg] at hx
    injection hx with hx
    injection hx with _ hx
    exact absurd hx (by decide)
  exact (Below.heap_setCell _ _ _ _ hne).trans hx

end Go.Proofs.YtbfpaemaiaeljaaDoor
