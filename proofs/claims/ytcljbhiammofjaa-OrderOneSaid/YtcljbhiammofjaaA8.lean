/- The search at any place; a list turned round; an order. -/
import Derived.Test.YtcljbhiammofjaaA7
import Derived.Deep.RegionLaw
namespace Go.Proofs.Ytcljbhiammofjaa
open Go.RowKit

theorem from_any (c : Par) (hks : Kinds c) : ∀ f, f ≤ 5000 → FromSaid c f := by
  intro f
  induction f with
  | zero =>
    intro _ w i k n t _ _ _ _ hm _
    omega
  | succ f ih =>
    intro hf
    exact from_step c hks f (by omega) (ih (by omega))

/-- the first and the last k of a list changed about. -/
def halfRev (l : List Int) (k : Nat) : List Int := (List.range l.length).map fun j => if j < k ∨ l.length ≤ j + k then l.getD (l.length - 1 - j) 0 else l.getD j 0
theorem halfRev_zero (l : List Int) : halfRev l 0 = l := by
  apply List.ext_getElem
  · simp [halfRev]
  · intro i h1 h2
    simp [halfRev, List.getD_eq_getElem?_getD, h2]
    intro h
    omega
theorem halfRev_end (l : List Int) (k : Nat) (h : l.length ≤ k + k + 1) : halfRev l k = l.reverse := by
  apply List.ext_getElem
  · simp [halfRev]
  · intro i h1 h2
    have h3 : i < l.length := by simpa using h2
    simp only [halfRev, List.getElem_map, List.getElem_range, List.getElem_reverse]
    by_cases hc : i < k ∨ l.length ≤ i + k
    · rw [if_pos hc]
      simp [List.getD_eq_getElem?_getD, show l.length - 1 - i < l.length by omega]
    · rw [if_neg hc]
      have : l.length - 1 - i = i := by omega
      simp [List.getD_eq_getElem?_getD, h3, this]
theorem halfRev_len (l : List Int) (k : Nat) : (halfRev l k).length = l.length := by simp [halfRev]
theorem halfRev_get (l : List Int) (k j : Nat) (hj : j < l.length) : (halfRev l k).getD j 0 = if j < k ∨ l.length ≤ j + k then l.getD (l.length - 1 - j) 0 else l.getD j 0 := by
  simp [halfRev, List.getD_eq_getElem?_getD, hj]
theorem halfRev_step (l : List Int) (k : Nat) (h : k + k + 1 < l.length) : ((halfRev l k).set k (l.getD (l.length - 1 - k) 0)).set (l.length - 1 - k) (l.getD k 0) = halfRev l (k + 1) := by
  apply List.ext_getElem
  · simp [halfRev]
  · intro i h1 h2
    have h3 : i < l.length := by simpa [halfRev] using h2
    rw [List.getElem_set, List.getElem_set]
    simp only [halfRev, List.getElem_map, List.getElem_range]
    by_cases e1 : l.length - 1 - k = i
    · subst e1
      rw [if_pos rfl, if_pos (by omega)]
      congr 1
      omega
    · rw [if_neg e1]
      by_cases e2 : k = i
      · subst e2
        rw [if_pos rfl, if_pos (by omega)]
      · rw [if_neg e2]
        by_cases hc : i < k ∨ l.length ≤ i + k
        · rw [if_pos hc, if_pos (by omega)]
        · rw [if_neg hc, if_neg (by omega)]

theorem own_at {w : World} {base g c n : Nat} {l : List Int} (h : w.ownsRow base 3 1 (.slice (some ⟨g, 0, none⟩) n c) l.length (l.map (Value.int .i64))) (j : Nat) (hj : j < l.length) :
    w.cell? ⟨g, j, none⟩ = some (.int .i64 (l.getD j 0)) ∧ w.frozen? ⟨g, j, none⟩ = false := by
  rcases h.2 with ⟨h0, h1⟩ | ⟨g', cap, cur, h0, h1, h2, h3, h4, h5, h6⟩
  · omega
  · have : g = g' := by injection h0 with h0; injection h0 with h0; injection h0 with h0
    subst this
    constructor
    · simp only [World.cell?, h2]
      have : cur.toList[j]? = some (.int .i64 (l.getD j 0)) := by
        have h7 := congrArg (fun x : List Value => x[j]?) h6
        simp only [List.getElem?_take] at h7
        rw [if_pos (by omega)] at h7
        rw [h7]
        simp [List.getD_eq_getElem?_getD, hj]
      simpa using this
    · simp [World.frozen?, h2]

set_option maxHeartbeats 800000 in
theorem reverse_any (w : World) (base : Nat) (v : Value) (l : List Int) (h : OwnI w base v l) (hl : l.length ≤ 5000) :
    Calls Try.prog 14 #[v] w fun e w' => e = .returned (.tuple #[]) ∧ OwnI w' base v l.reverse ∧ w.grownBy w' v.ownBlock := by
  have hsl : ∃ A c, v = .slice A l.length c ∧ (0 < l.length → ∃ g, A = some ⟨g, 0, none⟩) := by
    rcases h.2 with ⟨rfl, h0⟩ | ⟨g, cap, cur, rfl, _⟩
    · exact ⟨none, 0, by rw [h0], by omega⟩
    · exact ⟨_, cap, rfl, fun _ => ⟨g, rfl⟩⟩
  obtain ⟨A, c, rfl, hA⟩ := hsl
  have HW := Lib.hid h
  have HA := Lib.hid hA
  clear h hA
  have q0 : IntKind.i64.wrap ((l.length : Int) - 1) = (l.length : Int) - 1 := IntWalk.i64_in _ (by omega)
  go_enter Try.func14, Try.ntmps14
  go_wp2
  go_loopg [2, 3] l.length (fun q i j wr => ∃ k : Nat, i = .int .i64 k ∧ j = .int .i64 ((l.length : Int) - 1 - k) ∧ k + q = l.length ∧ k ≤ l.length ∧ OwnI wr base (.slice A l.length c) (halfRev l k) ∧ w.grownBy wr (Value.slice A l.length c).ownBlock)
  case atStart => exact ⟨0, rfl, by simp, by omega, by omega, by rw [halfRev_zero]; exact HW.out, World.grownBy.refl _ _⟩
  case round =>
    obtain ⟨k, rfl, rfl, hk, hkl, ho, hg⟩ := hrel
    have HK := Lib.hid hk
    have HO := Lib.hid ho
    have HG := Lib.hid hg
    clear hk ho hg
    by_cases hlt : k + k + 1 < l.length
    · obtain ⟨g, rfl⟩ := HA.out (by omega)
      obtain ⟨m, hm⟩ : ∃ m, m = l.length - 1 - k := ⟨_, rfl⟩
      have hm2 : (l.length : Int) - 1 - k = (m : Int) := by omega
      rw [hm2]
      have hkm : k < m := by omega
      have hml : m < l.length := by omega
      have HM := Lib.hid hm
      have ck := own_at HO.out k (by rw [halfRev_len]; omega)
      have cm := own_at HO.out m (by rw [halfRev_len]; omega)
      obtain ⟨ck1, ck2⟩ := ck
      obtain ⟨cm1, cm2⟩ := cm
      obtain ⟨x, hx⟩ : ∃ x, x = (halfRev l k).getD k 0 := ⟨_, rfl⟩
      obtain ⟨y, hy⟩ : ∃ y, y = (halfRev l k).getD m 0 := ⟨_, rfl⟩
      rw [← hx] at ck1
      rw [← hy] at cm1
      have HX := Lib.hid hx
      have HY := Lib.hid hy
      clear hx hy hm hm2
      have q1 : IntKind.i64.wrap ((k : Int) + 1) = (k : Int) + 1 := IntWalk.i64_in _ (by omega)
      have q2 : IntKind.i64.wrap ((m : Int) - 1) = (m : Int) - 1 := IntWalk.i64_in _ (by omega)
      have q3 : (0 : Int) ≤ (k : Int) := by omega
      have q4 : (k : Int) < (l.length : Int) := by omega
      have q5 : (0 : Int) ≤ (m : Int) := by omega
      have q6 : (m : Int) < (l.length : Int) := by omega
      have q7 : ¬ k = m := by omega
      have q8 : ¬ m = k := by omega
      go_wp2
      go_region
      all_goals go_wp2
      all_goals go_roundg (gk - 1)
      case measure => have := HK.out; omega
      case rel =>
        have hmm := HM.out
        have hx : x = l.getD k 0 := by rw [HX.out, halfRev_get l k k (by omega), if_neg (by omega)]
        have hy : y = l.getD m 0 := by rw [HY.out, halfRev_get l k m (by omega), if_neg (by omega)]
        have ho : wr.ownsRow base 3 1 (.slice (some ⟨g, 0, none⟩) l.length c) l.length ((halfRev l k).map (Value.int .i64)) := by
          have := HO.out
          unfold OwnI at this
          rwa [halfRev_len] at this
        obtain ⟨s1, g1⟩ := World.ownsRow.stored ho k (.int .i64 y)
        obtain ⟨s2, g2⟩ := World.ownsRow.stored s1 m (.int .i64 x)
        refine ⟨k + 1, by simp, by congr 1; omega, by have := HK.out; omega, by omega, ?_, ?_⟩
        · have e := halfRev_step l k hlt
          rw [← hmm, ← hx, ← hy] at e
          unfold OwnI
          rw [← e]
          have : (((halfRev l k).set k y).set m x).length = l.length := by simp [halfRev_len]
          rw [this, List.map_set, List.map_set]
          exact World.ownsRow.drew s2
        · exact ⟨g2.os.trans (g1.os.trans HG.out.os), g2.tape.trans (g1.tape.trans HG.out.tape), g2.output.trans (g1.output.trans HG.out.output), Nat.le_trans HG.out.size (Nat.le_trans g1.size g2.size),
            fun q hq hne => (g2.block q (Nat.lt_of_lt_of_le hq (Nat.le_trans HG.out.size g1.size)) hne).trans ((g1.block q (Nat.lt_of_lt_of_le hq HG.out.size) hne).trans (HG.out.block q hq hne))⟩
    · have hge : ¬ (k : Int) < (l.length : Int) - 1 - k := by omega
      have H2 : Hid (l.length ≤ k + k + 1) := by show _ ≤ _; omega
      go_wp2
      go_end0
      exact ⟨rfl, by rw [← halfRev_end l k H2.out]; exact HO.out, HG.out⟩

/-- append onto a row of the call's own, as one step of a region that draws its order. -/
theorem step_append_own {P : Program} {ops : Array Oper} {o : Oper} {a : Act} {w : World} {K : Act → World → Prop} {Q : Exit → Act → World → Prop} {E : Prop}
    (hg : o.guard = none) (s x : Operand) (t : TypeId) (hop : o.op = Op.call { callee := Callee.builtin Builtin.append, args := #[s, x], argTypes := #[t, t] })
    (base : Nat) (e : TypeId) (i : TypeInfo) (z : Value) (size bytes : Nat) (h1 : P.underlying t = some (.slice e)) (h2 : P.info? e = some i) (h3 : i.zero = some z) (h4 : i.size = size) (h5 : i.bytes = bytes) (h6 : z.cells.size = size) (h7 : 0 < size)
    (v : Value) (n : Nat) (xs : List Value) (hs : a.eval s = v) (hown : w.ownsRow base e size v n xs)
    (ad : Addr) (m c : Nat) (news : List Value) (hx : a.eval x = .slice (some ad) m c) (hn : news.length = m * size) (hc : ∀ j u, news[j]? = some u → w.cell? (ad.add j) = some u) (h1c : ∀ u ∈ news, u.oneCell' = true)
    (b1 : n + m ≤ maxLen) (b2 : (n + m) * bytes ≤ 140737488355328) (b3 : base ≤ w.heap.size)
    (hK : ∀ v' w', w'.ownsRow base e size v' (n + m) (xs ++ news) → w.grownBy w' v.ownBlock → K (a.put o.dst v') w') :
    if Region.wanted o (yielded ops a.tmps) = true then Oper.wp P o a w K Q else E := by
  have hw : Region.wanted o (yielded ops a.tmps) = true := by simp [Region.wanted, hg]
  rw [if_pos hw]
  obtain ⟨v', w', hr, r2, r3, r4, r5⟩ := run_append_own_at (P := P) w base t o.type e i z size bytes h1 h2 h3 h4 h5 h6 h7 v n xs hown ad m c news hn hc h1c b1 b2 b3
  unfold Oper.wp execOp
  simp only [hop, resolve, invoke, builtin, Sem.run_bind, Sem.run_pure, Result.andThen_ok, List.map_toArray, List.map_cons, List.map_nil, hs, hx, hr]
  exact hK v' w' r2 r3
theorem own_slice {w : World} {base n : Nat} {e : TypeId} {size : Nat} {v : Value} {xs : List Value} (h : w.ownsRow base e size v n xs) : ∃ A c, v = .slice A n c := by
  rcases h.2 with ⟨rfl, rfl⟩ | ⟨g, cap, cur, rfl, _⟩
  · exact ⟨none, 0, rfl⟩
  · exact ⟨_, cap, rfl⟩

def En.ld (x : En) : Ld := ⟨x.adr, x.len, x.cap, x.load⟩
def Ld.val (x : Ld) : Value := .slice x.adr x.len x.cap
/-- the loads of the first k. -/
def ldsP (S : List En) (k : Nat) : List Ld := ((S.take k).filter En.fine).map En.ld
theorem ldsP_succ (S : List En) (k : Nat) (h : k < S.length) : ldsP S (k + 1) = if (S.getD k default).fine then ldsP S k ++ [(S.getD k default).ld] else ldsP S k := by
  have : S.getD k default = S[k] := by simp [List.getD_eq_getElem?_getD, h]
  rw [this]
  unfold ldsP
  rw [List.take_succ_eq_append_getElem h, List.filter_append]
  by_cases hf : S[k].fine = true
  · simp [hf]
  · simp [hf]
theorem ldsP_len (S : List En) (k : Nat) : (ldsP S k).length ≤ S.length := by
  unfold ldsP
  rw [List.length_map]
  exact Nat.le_trans (List.length_filter_le _ _) (by simp; omega)
theorem Try.info26 : (Try.prog.info? 26).map (fun i => (i.zero, i.size, i.bytes)) = some (some (.slice none 0 0), 1, 24) := by kernel_rfl

/-- what a search lies in, while its loads are gathered. -/
structure Gath (w wr : World) (p r base : Nat) (AS AT : Option Addr) (cS cT : Nat) (S T : List En) (room : Int) (k : Nat) (v : Value) : Prop where
  hp : wr.heap[p]? = some (.cells #[.slice AS S.length cS, .slice AT T.length cT, .int .i64 room, v, .map (some r)] 45 (0, 0))
  hr : wr.heap[r]? = some (.map #[] 0)
  own : wr.ownsRow base 26 1 v (ldsP S k).length ((ldsP S k).map Ld.val)
  bel : Below w.heap.size w wr
  b0 : w.heap.size ≤ p
  b1 : w.heap.size ≤ r
  b2 : p < base
  b3 : r < base
  b4 : base ≤ wr.heap.size
  ne : p ≠ r

theorem Gath.below' {w wr w' : World} {p r base : Nat} {AS AT : Option Addr} {cS cT : Nat} {S T : List En} {room : Int} {k k' : Nat} {v : Value} (h : Gath w wr p r base AS AT cS cT S T room k v) (hb : Below wr.heap.size wr w') (hl : ldsP S k' = ldsP S k) : Gath w w' p r base AS AT cS cT S T room k' v where
  hp := (hb.block p (lt_of_block h.hp)).trans h.hp
  hr := (hb.block r (lt_of_block h.hr)).trans h.hr
  own := by
    rw [hl]
    obtain ⟨h1, h2⟩ := h.own
    refine ⟨h1, ?_⟩
    rcases h2 with h2 | ⟨g, cap, cur, e1, e2, e3, e4⟩
    · exact .inl h2
    · exact .inr ⟨g, cap, cur, e1, e2, (hb.block g (lt_of_block e3)).trans e3, e4⟩
  bel := h.bel.trans (hb.mono h.bel.size)
  b0 := h.b0
  b1 := h.b1
  b2 := h.b2
  b3 := h.b3
  b4 := Nat.le_trans h.b4 hb.size
  ne := h.ne

theorem news_one {W : World} {g : Nat} {v : Value} (h : W.cell? ⟨g, 0, none⟩ = some v) : ∀ j u, [v][j]? = some u → W.cell? ((⟨g, 0, none⟩ : Addr).add j) = some u := by
  intro j u hu
  cases j with
  | zero => simp at hu; subst hu; simpa [Addr.add] using h
  | succ j => simp at hu

theorem Gath.step {w W w' : World} {p r base : Nat} {AS AT : Option Addr} {cS cT : Nat} {S T : List En} {room : Int} {k : Nat} {v v' : Value} {y : En} (h : Gath w W p r base AS AT cS cT S T room k v) (hg : W.grownBy w' v.ownBlock)
    (ho : w'.ownsRow base 26 1 v' ((ldsP S k).length + 1) ((ldsP S k).map Ld.val ++ [.slice y.adr y.len y.cap])) (hl : ldsP S (k + 1) = ldsP S k ++ [y.ld]) : Gath w (w'.setCell ⟨p, 3, none⟩ v') p r base AS AT cS cT S T room (k + 1) v' := by
  have hge : ∀ q, v.ownBlock = some q → base ≤ q := fun q hq => own_ge h.own hq
  have hb2 := h.b2
  have hb3 := h.b3
  have hne := h.ne
  have hp := (hg.block p (lt_of_block h.hp) (fun e => by have := hge _ e.symm; omega)).trans h.hp
  refine ⟨?_, ?_, ?_, ?_, h.b0, h.b1, h.b2, h.b3, ?_, h.ne⟩
  · have := heap_setCell_same w' p 3 _ 45 v' hp
    simpa using this
  · rw [heap_setCell_other w' ⟨p, 3, none⟩ r v' (fun e => hne (by simpa using e.symm))]
    exact (hg.block r (lt_of_block h.hr) (fun e => by have := hge _ e.symm; omega)).trans h.hr
  · rw [hl]
    obtain ⟨h1, h2⟩ := ho
    refine ⟨by simp, ?_⟩
    rcases h2 with ⟨_, h2⟩ | ⟨g, cap, cur, e1, e2, e3, e4, e5, e6, e7⟩
    · omega
    · refine .inr ⟨g, cap, cur, by simpa using e1, e2, ?_, by simpa using e4, e5, e6, by simpa [En.ld, Ld.val] using e7⟩
      rw [heap_setCell_other w' ⟨p, 3, none⟩ g v' (fun e => by simp at e; omega)]
      exact e3
  · have hb1 := h.b1
    have hs := h.bel.size
    refine ⟨hg.os.trans h.bel.os, hg.tape.trans h.bel.tape, hg.output.trans h.bel.output, by have := hg.size; simp; omega, fun q hq => ?_⟩
    have hpw := h.b0
    rw [heap_setCell_other w' ⟨p, 3, none⟩ q v' (fun e => by simp at e; omega)]
    exact (hg.block q (by omega) (fun e => by have := hge _ e.symm; omega)).trans (h.bel.block q hq)
  · have := hg.size
    have := h.b4
    simp; omega

theorem readsL_of {w : World} {base : Nat} {v : Value} {L : List Ld} (h : w.ownsRow base 26 1 v L.length (L.map Ld.val)) (hok : ∀ x ∈ L, x.load.length = x.len ∧ x.len ≤ 1000 ∧ ReadsI w x.adr x.load) : ∃ A c, v = .slice A L.length c ∧ ReadsL w A L := by
  obtain ⟨A, c, rfl⟩ := own_slice h
  refine ⟨A, c, rfl, ?_⟩
  cases L with
  | nil => exact .inl rfl
  | cons x L =>
    rcases h.2 with ⟨_, h0⟩ | ⟨g, cap, cur, e1, e2, e3, e4, e5, e6, e7⟩
    · simp at h0
    · refine .inr ⟨g, 0, by injection e1, fun i hi => ?_⟩
      have hm : ((x :: L).getD i default) ∈ (x :: L) := by
        rw [List.getD_eq_getElem?_getD, List.getElem?_eq_getElem hi]
        exact List.getElem_mem hi
      refine ⟨?_, hok _ hm⟩
      simp only [World.cell?, e3]
      have h7 := congrArg (fun z : List Value => z[i]?) e7
      simp only [List.getElem?_take] at h7
      rw [if_pos (by omega)] at h7
      rw [Nat.zero_add, ← Array.getElem?_toList, h7]
      rw [List.getElem?_map, List.getD_eq_getElem?_getD, List.getElem?_eq_getElem hi]
      rfl

theorem ldsP_all (S : List En) : ldsP S S.length = (S.filter En.fine).map En.ld := by simp [ldsP]
theorem ldsP_ok {w wr : World} {S : List En} (h : LoadsOk w S) (hb : Below w.heap.size w wr) : ∀ x ∈ ldsP S S.length, x.load.length = x.len ∧ x.len ≤ 1000 ∧ ReadsI wr x.adr x.load := by
  intro x hx
  rw [ldsP_all] at hx
  obtain ⟨e, he, rfl⟩ := List.mem_map.1 hx
  obtain ⟨i, hi, rfl⟩ := List.getElem_of_mem (List.mem_filter.1 he).1
  have := h i hi
  rw [List.getD_eq_getElem?_getD, List.getElem?_eq_getElem hi] at this
  exact ⟨this.1, this.2.1, this.2.2.below hb⟩
theorem LoadsOk.below {w wr : World} {S : List En} (h : LoadsOk w S) (hb : Below w.heap.size w wr) : LoadsOk wr S := fun i hi => ⟨(h i hi).1, (h i hi).2.1, (h i hi).2.2.below hb⟩

/-- what Witness is proved of. -/
def witP (S T : List En) (room : Int) : Option (List Int) :=
  if decide (room < 0) || (!shapedP [1] S || !shapedP [2, 3] T) then none
  else (searchP S T room ((S.filter En.fine).map (·.load)) (S.length + T.length + 1) 0 0 ⟨0, 0, 0⟩ []).1.map List.reverse

theorem shapedP_kinds {ks : List Int} {l : List En} (h : shapedP ks l = true) (i : Nat) (hi : i < l.length) : ks.contains (l.getD i default).kind = true := by
  unfold shapedP at h
  rw [List.all_eq_true] at h
  have := h i (by simpa using hi)
  simp only [Bool.and_eq_true] at this
  exact this.1

set_option maxHeartbeats 4000000 in
theorem witness_any (w : World) (AS AT : Option Addr) (cS cT : Nat) (S T : List En) (room : Int) (hS : ReadsE w AS S) (hT : ReadsE w AT T) (oS : LoadsOk w S) (oT : LoadsOk w T) (nS nT : Nat) (eS : S.length = nS) (eT : T.length = nT)
    (lS : nS ≤ 1000) (lT : nT ≤ 1000) (kS : nS ≤ cS) (kT : nT ≤ cT) (zS : AS = none → cS = 0) (zT : AT = none → cT = 0) :
    Calls Try.prog 6 #[.slice AS nS cS, .slice AT nT cT, .int .i64 room] w fun e w' => ∃ v, e = .returned (.tuple #[v, .bool (witP S T room).isSome]) ∧ OwnI w' w.heap.size v ((witP S T room).getD []) ∧ Below w.heap.size w w' := by
  subst eS
  subst eT
  have HS := Lib.hid hS
  have HT := Lib.hid hT
  have HoS := Lib.hid oS
  have HoT := Lib.hid oT
  clear hS hT oS oT
  by_cases hr : room < 0
  · have HP : Hid (witP S T room = none) := by show _ = _; simp [witP, hr]
    go_enter Try.func6, Try.ntmps6
    go_wp2
    go_ret2
    exact ⟨.slice none 0 0, by rw [HP.out]; rfl, by rw [HP.out]; exact ⟨rfl, .inl ⟨rfl, rfl⟩⟩, Below.refl _ _⟩
  · go_enter Try.func6, Try.ntmps6
    go_wp2_with fail
    have hmm := @run_makeMap Try.prog
    refine (shaped_any _ AS cS S (some ⟨w.heap.size, 0, none⟩) 1 [1] (HS.out.below (below_al (Below.refl _ _) _)) (.inr ⟨w.heap.size, 0, rfl, ?_⟩) _ rfl lS 1 rfl (by omega)).mono ?_
    · intro i hi
      have : i = 0 := by simp at hi; omega
      subst this
      simp
    rintro e w1 ⟨rfl, hb1⟩
    have hb1' : Below w.heap.size w w1 := (below_al (Below.refl _ _) _).trans (hb1.mono (by simp))
    have HB1 := Lib.hid hb1'
    clear hb1 hb1'
    cases hs1 : shapedP [1] S
    · have HP : Hid (witP S T room = none) := by show _ = _; simp [witP, hs1]
      clear hs1
      go_wp2
      go_ret2
      exact ⟨.slice none 0 0, by rw [HP.out]; rfl, by rw [HP.out]; exact ⟨rfl, .inl ⟨rfl, rfl⟩⟩, HB1.out⟩
    · have HS1 := Lib.hid hs1
      clear hs1
      go_wp2_with fail
      refine (shaped_any _ AT cT T (some ⟨w1.heap.size, 0, none⟩) 2 [2, 3] (HT.out.below (HB1.out.trans ((below_al (Below.refl _ _) _).mono HB1.out.size))) (.inr ⟨w1.heap.size, 0, rfl, ?_⟩) _ rfl lT 2 rfl (by omega)).mono ?_
      · intro i hi
        have : i = 0 ∨ i = 1 := by simp at hi; omega
        rcases this with rfl | rfl <;> simp
      rintro e w2 ⟨rfl, hb2⟩
      have hb2' : Below w.heap.size w w2 := HB1.out.trans (((below_al (Below.refl _ _) _).trans (hb2.mono (by simp))).mono HB1.out.size)
      have HB2 := Lib.hid hb2'
      clear hb2 hb2'
      cases hs2 : shapedP [2, 3] T
      · have HP : Hid (witP S T room = none) := by show _ = _; simp [witP, hs2]
        clear hs2
        go_wp2
        go_ret2
        exact ⟨.slice none 0 0, by rw [HP.out]; rfl, by rw [HP.out]; exact ⟨rfl, .inl ⟨rfl, rfl⟩⟩, HB2.out⟩
      · have HS2 := Lib.hid hs2
        clear hs2
        go_wp2_with fail
        obtain ⟨W, hW⟩ : ∃ W, W = (w2.alloc (.map #[] 0)).alloc (.cells #[.slice AS S.length cS, .slice AT T.length cT, .int .i64 room, .slice none 0 0, .map (some w2.heap.size)] 45) := ⟨_, rfl⟩
        have hga : Gath w W (w2.heap.size + 1) w2.heap.size (w2.heap.size + 1 + 1) AS AT cS cT S T room 0 (.slice none 0 0) := by
          subst hW
          have h1 := new_block (w2.alloc (.map #[] 0)) (.cells #[.slice AS S.length cS, .slice AT T.length cT, .int .i64 room, .slice none 0 0, .map (some w2.heap.size)] 45)
          refine ⟨by simpa using h1, ?_, ⟨rfl, .inl ⟨rfl, rfl⟩⟩, below_al (below_al HB2.out _) _, by have := HB2.out.size; omega, HB2.out.size, by omega, by omega, by simp, by omega⟩
          rw [(below_al (Below.refl _ _) _).block _ (by simp)]
          exact new_block _ _
        rw [← hW]
        clear hW
        have HGa := Lib.hid hga
        clear hga
        go_loopg [35] S.length (fun q i wr => ∃ (k : Nat) (v : Value), i = .int .i64 k ∧ k + q = S.length ∧ k ≤ S.length ∧ Gath w wr (w2.heap.size + 1) w2.heap.size (w2.heap.size + 1 + 1) AS AT cS cT S T room k v)
        case atStart => exact ⟨0, _, rfl, by omega, by omega, HGa.out⟩
        case round =>
          obtain ⟨k, v, rfl, hk, hkl, hga⟩ := hrel
          have HK := Lib.hid hk
          have HG := Lib.hid hga
          clear hk hga
          by_cases hlt : k < S.length
          · rcases HS.out with h0 | ⟨b, o, rfl, hr⟩
            · rw [h0] at hlt; exact absurd hlt (by simp)
            have hls := ldsP_succ S k hlt
            have hll := ldsP_len S k
            generalize he : S.getD k default = y at *
            obtain ⟨c0, c1, c2, c3, c4, c5, c6, c7⟩ := (hr.below HG.out.bel).at k hlt _ he
            have hbb := World.block_lt_of_cell? wr _ c0
            simp only at hbb
            have HY := Lib.hid he
            have HLS := Lib.hid hls
            clear he hr hls
            have cp : wr.cell? ⟨w2.heap.size + 1, 3, none⟩ = some v := by simp [World.cell?, HG.out.hp]
            have fp : wr.frozen? ⟨w2.heap.size + 1, 3, none⟩ = false := by simp [World.frozen?, HG.out.hp]
            have lp := lt_of_block HG.out.hp
            cases hf : y.fine
            · have f1 : ¬ y.nd = 0 := by intro h; simp [En.fine, h] at hf
              have f2 : ¬ y.err = 0 := by intro h; simp [En.fine, h] at hf
              have g1 : (y.nd == 0) = false := by simpa using f1
              have g2 : (y.err == 0) = false := by simpa using f2
              have HF := Lib.hid hf
              clear hf
              go_wp2
              go_roundg (gk - 1)
              case measure => have := HK.out; omega
              case rel =>
                refine ⟨k + 1, v, by simp, by have := HK.out; omega, by omega, ?_⟩
                have hl : ldsP S (k + 1) = ldsP S k := by rw [HLS.out, HF.out]; rfl
                exact HG.out.below' (below_al (Below.refl _ _) _) hl
            · have HF := Lib.hid hf
              obtain ⟨i0, hi0, hz0, hz1', hz2'⟩ := info_parts Try.info26
              have hnd : (y.nd = 0) ∨ (¬ y.nd = 0 ∧ y.err = 0) := by
                by_cases h : y.nd = 0
                · exact .inl h
                · refine .inr ⟨h, ?_⟩
                  simpa [En.fine, h] using hf
              clear hf
              obtain ⟨A, cv, rfl⟩ := own_slice HG.out.own
              have lp1 : w2.heap.size + 1 < wr.heap.size + 1 := by omega
              have lp2 : w2.heap.size + 1 < wr.heap.size + 1 + 1 := by omega
              have HG2 := HG.out.below' (below_al (Below.refl _ _) (.cells y.cells 32)) rfl
              have HO := Lib.hid HG2.own
              have hb4 := HG2.b4
              simp only [World.size_alloc] at hb4
              have HGA := Lib.hid HG2
              clear HG2
              have hdec : (y.nd == 0) = true ∨ ((y.nd == 0) = false ∧ (y.err == 0) = true) := by
                rcases hnd with h | ⟨h, h2⟩
                · exact .inl (by simpa using h)
                · exact .inr ⟨by simpa using h, by simpa using h2⟩
              rcases hdec with g1 | ⟨g1, g2⟩
              all_goals
                go_wp2
                go_region_law (first | (refine step_append_own rfl (.tmp 51) (.tmp 54) 27 rfl (w2.heap.size + 1 + 1) 26 i0 (.slice none 0 0) 1 24 Try.underlying27 hi0 hz0 hz1' hz2' rfl (by decide) _ (ldsP S k).length ((ldsP S k).map Ld.val) rfl (HO.out.alloc _).drew ⟨wr.heap.size + 1, 0, none⟩ 1 1 [.slice y.adr y.len y.cap] rfl rfl (news_one (by go_simp)) (by intro u hu; simp at hu; subst hu; rfl) (by unfold maxLen; omega) (by omega) (by simp; omega) ?_; intro v' w' ho hg; obtain ⟨A', c', rfl⟩ := own_slice ho; have hpp := (hg.block (w2.heap.size + 1) (by simp <;> omega) (by intro e; have := own_ge HO.out e.symm; omega)).trans (((below_al (below_al (Below.refl wr.heap.size wr) _) _).drew.block _ lp).trans HG.out.hp); have kp : w'.cell? ⟨w2.heap.size + 1, 3, none⟩ = some (.slice A (ldsP S k).length cv) := (by simp [World.cell?, hpp]); have kf : w'.frozen? ⟨w2.heap.size + 1, 3, none⟩ = false := (by simp [World.frozen?, hpp])))
                all_goals
                  go_wp2_with fail
                  go_roundg (gk - 1)
                  case measure => have := HK.out; omega
                  case rel =>
                    refine ⟨k + 1, .slice A' ((ldsP S k).length + 1) c', by simp, by have := HK.out; omega, by omega, ?_⟩
                    exact Gath.step (HG.out.below' ((below_al (below_al (Below.refl wr.heap.size wr) _) _).drew) rfl) hg ho (by rw [HLS.out, HF.out]; rfl)
          · have hkS : k = S.length := by have := HK.out; omega
            subst hkS
            obtain ⟨A, cL, rfl, hRL⟩ := readsL_of HG.out.own (ldsP_ok HoS.out HG.out.bel)
            have hEnv : EnvP wr ⟨w2.heap.size + 1, w2.heap.size, AS, AT, A, cS, cT, cL, S, T, ldsP S S.length, room⟩ :=
              { hp := HG.out.hp, hS := HS.out.below HG.out.bel, hT := HT.out.below HG.out.bel, hL := hRL, oS := HoS.out.below HG.out.bel, oT := HoT.out.below HG.out.bel, lS := lS, lT := lT, lL := Nat.le_trans (ldsP_len S _) lS, kS := kS, kT := kT, nS := zS, nT := zT }
            have hKi : Kinds ⟨w2.heap.size + 1, w2.heap.size, AS, AT, A, cS, cT, cL, S, T, ldsP S S.length, room⟩ := by
              refine ⟨fun i hi => ?_, fun i hi => ?_⟩
              · have := shapedP_kinds HS1.out i hi
                simpa using this
              · have := shapedP_kinds HS2.out i hi
                simpa using this
            have hTr : TriedAt wr w2.heap.size [] := ⟨#[], 0, HG.out.hr, rfl, by simp⟩
            have hGd : Good S (ldsP S S.length) ⟨0, 0, 0⟩ 0 := ⟨by simp, by simp, by simp, by simp [ldsP, cnt]⟩
            have hF := from_any _ hKi (S.length + T.length + 1) (by omega) wr 0 0 ⟨0, 0, 0⟩ [] hEnv hTr (by simp) (by simp) (by simp) hGd
            have HP : Hid (witP S T room = ((Par.mk (w2.heap.size + 1) w2.heap.size AS AT A cS cT cL S T (ldsP S S.length) room).search (S.length + T.length + 1) 0 0 ⟨0, 0, 0⟩ []).1.map List.reverse) := by
              show _ = _
              have hl : (Par.mk (w2.heap.size + 1) w2.heap.size AS AT A cS cT cL S T (ldsP S S.length) room).loads = (S.filter En.fine).map (·.load) := by
                simp only [Par.loads, ldsP_all, List.map_map]
                rfl
              unfold witP Par.search
              rw [hl]
              have hr2 : decide (room < 0) = false := by simpa using hr
              simp only [hr2, HS1.out, HS2.out, Bool.not_true, Bool.or_false, Bool.false_eq_true, if_false]
            have HLn : Hid (∀ l t', (Par.mk (w2.heap.size + 1) w2.heap.size AS AT A cS cT cL S T (ldsP S S.length) room).search (S.length + T.length + 1) 0 0 ⟨0, 0, 0⟩ [] = (some l, t') → l.length ≤ S.length + T.length + 1) := fun l t' h => searchP_len _ _ _ _ _ _ _ _ _ _ _ h
            generalize (Par.mk (w2.heap.size + 1) w2.heap.size AS AT A cS cT cL S T (ldsP S S.length) room).search (S.length + T.length + 1) 0 0 ⟨0, 0, 0⟩ [] = res at *
            clear hEnv hKi hTr hGd hRL
            rw [show ((0 : Nat) : Int) = 0 from rfl] at hF
            have HFr := Lib.hid hF
            clear hF
            go_wp2_with fail
            refine HFr.out.mono ?_
            rintro e w3 ⟨v', rfl, hv, hg, ht⟩
            clear ht
            have hb3 : Below w.heap.size w w3 := HG.out.bel.trans ⟨hg.os, hg.tape, hg.output, hg.size, fun q hq => hg.block q (by have := HG.out.bel.size; omega) (fun e => by injection e; have := HG.out.b1; omega)⟩
            have HB3 := Lib.hid hb3
            have HV := Lib.hid hv
            clear hb3 hv hg
            obtain ⟨r, t3⟩ := res
            cases r with
            | none =>
              go_wp2
              go_ret2
              exact ⟨.slice none 0 0, by rw [HP.out]; rfl, by rw [HP.out]; exact ⟨rfl, .inl ⟨rfl, rfl⟩⟩, HB3.out⟩
            | some l =>
              have hlen := HLn.out l t3 rfl
              have hv2 : OwnI w3 wr.heap.size v' l := HV.out
              have HV2 := Lib.hid hv2
              clear hv2
              go_wp2_with fail
              refine (reverse_any _ _ v' l HV2.out (by omega)).mono ?_
              rintro e w4 ⟨rfl, ho, hg⟩
              have HO := Lib.hid ho
              have HGr := Lib.hid hg
              clear ho hg
              go_wp2
              go_ret2
              refine ⟨v', by rw [HP.out]; rfl, ?_, ?_⟩
              · rw [HP.out]
                exact ownsRow_mono HO.out HG.out.bel.size
              · have hsz := HG.out.bel.size
                exact HB3.out.trans ⟨HGr.out.os, HGr.out.tape, HGr.out.output, HGr.out.size, fun q hq => HGr.out.block q (by have := HB3.out.size; omega) (fun e => by have := own_ge HV2.out e.symm; omega)⟩

theorem fits_any (w : World) (AS AT : Option Addr) (cS cT : Nat) (S T : List En) (room : Int) (hS : ReadsE w AS S) (hT : ReadsE w AT T) (oS : LoadsOk w S) (oT : LoadsOk w T) (nS nT : Nat) (eS : S.length = nS) (eT : T.length = nT)
    (lS : nS ≤ 1000) (lT : nT ≤ 1000) (kS : nS ≤ cS) (kT : nT ≤ cT) (zS : AS = none → cS = 0) (zT : AT = none → cT = 0) :
    Calls Try.prog 10 #[.slice AS nS cS, .slice AT nT cT, .int .i64 room] w fun e w' => e = .returned (.bool (witP S T room).isSome) ∧ Below w.heap.size w w' := by
  have HW := witness_any w AS AT cS cT S T room hS hT oS oT nS nT eS eT lS lT kS kT zS zT
  clear hS hT oS oT eS eT
  go_enter Try.func10, Try.ntmps10
  go_wp2_with fail
  refine HW.mono ?_
  rintro e w1 ⟨v, rfl, _, hb⟩
  go_wp2
  go_ret
  exact ⟨rfl, hb⟩

end Go.Proofs.Ytcljbhiammofjaa
