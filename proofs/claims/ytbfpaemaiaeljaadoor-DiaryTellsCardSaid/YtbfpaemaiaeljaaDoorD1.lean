/- Entries as they lie in memory, rows of the call's own, the arguments opened. -/
import Derived.Test.YtbfpaemaiaeljaaDoorRows
import Derived.WalkKit
import Derived.WalkSpells
import Derived.WalkLawsBesides
import Derived.Deep.QuietTactic
import Derived.Deep.LoopGhost
import Derived.BigQuiet
import Derived.Lib.Hide
import Derived.Lib.SliceRun
import Derived.ProofKit
import Derived.Deep.Slices
import Derived.Deep.Fields
import Derived.ChangeSame
import Derived.OpenShut
import Derived.Deep.CutBlock
namespace Go.Proofs.YtbfpaemaiaeljaaDoor
open Go.RowKit

/-- An entry of a diary, as it lies: eight cells. -/
structure En where
  core : Int
  peer : Int
  kind : Int
  bg : Int
  nd : Int
  err : Int
  adr : Option Addr
  len : Nat
  cap : Nat
  handle : Int
  load : List Int
  deriving Inhabited

/-- the eight cells of an entry. -/
def En.cells (x : En) : Array Value := #[.int .i64 x.core, .int .i64 x.peer, .int .i64 x.kind, .int .i64 x.bg, .int .i64 x.nd, .int .i64 x.err, .slice x.adr x.len x.cap, .int .i64 x.handle]

theorem lt_of_block {w : World} {B : Nat} {o : Obj} (h : w.heap[B]? = some o) : B < w.heap.size := (Array.getElem?_eq_some_iff.1 h).1

theorem new_block (w : World) (o : Obj) : (w.alloc o).heap[w.heap.size]? = some o := by
  show (w.heap.push o)[w.heap.size]? = _
  simp

/-- a row of entries, as it lies. -/
def Reads (w : World) (b o : Nat) (l : List En) : Prop := ∀ i, i < l.length → ∀ j, j < 8 → w.cell? ⟨b, o + i * 8 + j, none⟩ = (l.getD i default).cells[j]?

/-- a slice of entries. -/
def ReadsE (w : World) (A : Option Addr) (l : List En) : Prop := l = [] ∨ ∃ b o, A = some ⟨b, o, none⟩ ∧ Reads w b o l

theorem Reads.at {w : World} {b o : Nat} {l : List En} (h : Reads w b o l) (i : Nat) (hi : i < l.length) (e : En) (he : l.getD i default = e) :
    w.cell? ⟨b, o + i * 8, none⟩ = some (.int .i64 e.core) ∧ w.cell? ⟨b, o + i * 8 + 1, none⟩ = some (.int .i64 e.peer) ∧ w.cell? ⟨b, o + i * 8 + 2, none⟩ = some (.int .i64 e.kind) ∧ w.cell? ⟨b, o + i * 8 + 3, none⟩ = some (.int .i64 e.bg)
    ∧ w.cell? ⟨b, o + i * 8 + 4, none⟩ = some (.int .i64 e.nd) ∧ w.cell? ⟨b, o + i * 8 + 5, none⟩ = some (.int .i64 e.err) ∧ w.cell? ⟨b, o + i * 8 + 6, none⟩ = some (.slice e.adr e.len e.cap) ∧ w.cell? ⟨b, o + i * 8 + 7, none⟩ = some (.int .i64 e.handle) := by
  subst he
  exact ⟨h i hi 0 (by omega), h i hi 1 (by omega), h i hi 2 (by omega), h i hi 3 (by omega), h i hi 4 (by omega), h i hi 5 (by omega), h i hi 6 (by omega), h i hi 7 (by omega)⟩

theorem ReadsE.drop {w : World} {A : Option Addr} {l : List En} (h : ReadsE w A l) (k : Nat) : ReadsE w (A.map (·.add (k * 8))) (l.drop k) := by
  rcases h with rfl | ⟨b, o, rfl, h⟩
  · exact .inl (by simp)
  · refine .inr ⟨b, o + k * 8, by simp [Addr.add]; try omega, fun i hi j hj => ?_⟩
    have := h (k + i) (by simp at hi; omega) j hj
    rw [show o + k * 8 + i * 8 + j = o + (k + i) * 8 + j from by omega, this]
    simp [List.getD_eq_getElem?_getD]

theorem Reads.lt {w : World} {b o : Nat} {l : List En} (h : Reads w b o l) (h0 : 0 < l.length) : b < w.heap.size := World.block_lt_of_cell? w _ (h 0 h0 0 (by omega))

theorem Reads.below {w w' : World} {b o : Nat} {l : List En} (h : Reads w b o l) (hb : Below w.heap.size w w') : Reads w' b o l := by
  intro i hi j hj
  rw [hb.cell (h.lt (by omega))]
  exact h i hi j hj

theorem ReadsE.below {w w' : World} {A : Option Addr} {l : List En} (h : ReadsE w A l) (hb : Below w.heap.size w w') : ReadsE w' A l := by
  rcases h with h | ⟨b, o, h, hr⟩
  · exact .inl h
  · exact .inr ⟨b, o, h, hr.below hb⟩

theorem ReadsE.take {w : World} {A : Option Addr} {l : List En} (h : ReadsE w A l) (k : Nat) : ReadsE w A (l.take k) := by
  rcases h with rfl | ⟨b, o, rfl, h⟩
  · exact .inl (by simp)
  · refine .inr ⟨b, o, rfl, fun i hi j hj => ?_⟩
    rw [List.length_take] at hi
    rw [h i (by omega) j hj]
    simp [List.getD_eq_getElem?_getD, List.getElem?_take, show i < k by omega]

/-- a slice of numbers. -/
def ReadsI (w : World) (A : Option Addr) (l : List Int) : Prop := l = [] ∨ ∃ b o, A = some ⟨b, o, none⟩ ∧ ∀ i, i < l.length → w.cell? ⟨b, o + i, none⟩ = some (.int .i64 (l.getD i 0))

theorem ReadsI.below {w w' : World} {A : Option Addr} {l : List Int} (h : ReadsI w A l) (hb : Below w.heap.size w w') : ReadsI w' A l := by
  rcases h with h | ⟨b, o, h, hr⟩
  · exact .inl h
  · refine .inr ⟨b, o, h, fun i hi => ?_⟩
    rw [hb.cell (World.block_lt_of_cell? w _ (hr i hi))]
    exact hr i hi

theorem below_al {w W : World} (h : Below w.heap.size w W) (o : Obj) : Below w.heap.size w (W.alloc o) := h.alloc h.size o

theorem below_set {w W : World} (h : Below w.heap.size w W) {b o : Nat} (hb : w.heap.size ≤ b) (u : Value) : Below w.heap.size w (W.setCell ⟨b, o, none⟩ u) := h.setCell hb u

/-- the words of each entry can be read. -/
def LoadsOk (w : World) (S : List En) : Prop := ∀ i, i < S.length → (S.getD i default).load.length = (S.getD i default).len ∧ (S.getD i default).len ≤ 1000 ∧ ReadsI w (S.getD i default).adr (S.getD i default).load

theorem LoadsOk.mem {w : World} {S : List En} (h : LoadsOk w S) : ∀ x ∈ S, x.load.length = x.len ∧ x.len ≤ 1000 ∧ ReadsI w x.adr x.load := by
  intro x hx
  obtain ⟨i, hi, rfl⟩ := List.getElem_of_mem hx
  have := h i hi
  rwa [List.getD_eq_getElem?_getD, List.getElem?_eq_getElem hi] at this

theorem LoadsOk.of_mem {w : World} {S : List En} (h : ∀ x ∈ S, x.load.length = x.len ∧ x.len ≤ 1000 ∧ ReadsI w x.adr x.load) : LoadsOk w S := by
  intro i hi
  rw [List.getD_eq_getElem?_getD, List.getElem?_eq_getElem hi]
  exact h _ (List.getElem_mem hi)

theorem LoadsOk.sub {w : World} {S S' : List En} (h : LoadsOk w S) (hs : ∀ x ∈ S', x ∈ S) : LoadsOk w S' := LoadsOk.of_mem fun x hx => h.mem x (hs x hx)

theorem LoadsOk.below {w wr : World} {S : List En} (h : LoadsOk w S) (hb : Below w.heap.size w wr) : LoadsOk wr S := fun i hi => ⟨(h i hi).1, (h i hi).2.1, (h i hi).2.2.below hb⟩

/-- what a result's numbers are. -/
def OwnI (w : World) (base : Nat) (v : Value) (l : List Int) : Prop := w.ownsRow base 3 1 v l.length (l.map (Value.int .i64))

theorem ownsRow_mono {w : World} {base base' : Nat} {e : TypeId} {size : Nat} {v : Value} {n : Nat} {xs : List Value} (h : w.ownsRow base e size v n xs) (hb : base' ≤ base) : w.ownsRow base' e size v n xs := by
  obtain ⟨h1, h2⟩ := h
  refine ⟨h1, ?_⟩
  rcases h2 with h2 | ⟨g, cap, cur, h2, h3, h4⟩
  · exact .inl h2
  · exact .inr ⟨g, cap, cur, h2, by omega, h4⟩

theorem own_ge {w : World} {base n : Nat} {e : TypeId} {size : Nat} {v : Value} {xs : List Value} (h : w.ownsRow base e size v n xs) {k : Nat} (hk : v.ownBlock = some k) : base ≤ k := by
  rcases h.2 with ⟨rfl, _⟩ | ⟨g, cap, cur, rfl, hb, _⟩
  · simp [Value.ownBlock] at hk
  · have : g = k := by simpa [Value.ownBlock] using hk
    omega

theorem own_slice {w : World} {base n : Nat} {e : TypeId} {size : Nat} {v : Value} {xs : List Value} (h : w.ownsRow base e size v n xs) : ∃ A c, v = .slice A n c := by
  rcases h.2 with ⟨rfl, rfl⟩ | ⟨g, cap, cur, rfl, _⟩
  · exact ⟨none, 0, rfl⟩
  · exact ⟨_, cap, rfl⟩

theorem news_one {W : World} {g : Nat} {v : Value} (h : W.cell? ⟨g, 0, none⟩ = some v) : ∀ j u, [v][j]? = some u → W.cell? ((⟨g, 0, none⟩ : Addr).add j) = some u := by
  intro j u hu
  cases j with
  | zero => simp at hu; subst hu; simpa [Addr.add] using h
  | succ j => simp at hu

def flat (l : List En) : List Value := l.flatMap fun e => e.cells.toList

theorem flat_len (l : List En) : (flat l).length = l.length * 8 := by
  induction l with
  | nil => rfl
  | cons e l ih =>
    simp only [flat, List.flatMap_cons, List.length_append] at *
    rw [ih]
    simp [En.cells]
    omega

theorem flat_append (a b : List En) : flat (a ++ b) = flat a ++ flat b := by simp [flat]

theorem cells_get (e : En) : e.cells[0]? = some (.int .i64 e.core) ∧ e.cells[1]? = some (.int .i64 e.peer) ∧ e.cells[2]? = some (.int .i64 e.kind) ∧ e.cells[3]? = some (.int .i64 e.bg) ∧ e.cells[4]? = some (.int .i64 e.nd) ∧ e.cells[5]? = some (.int .i64 e.err) ∧ e.cells[6]? = some (.slice e.adr e.len e.cap) ∧ e.cells[7]? = some (.int .i64 e.handle) := ⟨rfl, rfl, rfl, rfl, rfl, rfl, rfl, rfl⟩

theorem flat_get (l : List En) : ∀ k, (flat l)[k]? = (l[k / 8]?).bind fun e => e.cells[k % 8]? := by
  induction l with
  | nil => intro k; simp [flat]
  | cons e l ih =>
    intro k
    have h : flat (e :: l) = e.cells.toList ++ flat l := rfl
    rw [h]
    by_cases hk : k < 8
    · rw [List.getElem?_append_left (by simp [En.cells]; omega)]
      have h1 : k / 8 = 0 := by omega
      have h2 : k % 8 = k := by omega
      simp [h1, h2]
    · rw [List.getElem?_append_right (by simp [En.cells]; omega)]
      have h3 : e.cells.toList.length = 8 := rfl
      rw [h3, ih]
      have h1 : k / 8 = (k - 8) / 8 + 1 := by omega
      have h2 : k % 8 = (k - 8) % 8 := by omega
      rw [h1, h2]
      simp

theorem own_cell {w : World} {base g c n : Nat} {e : TypeId} {size : Nat} {xs : List Value} (h : w.ownsRow base e size (.slice (some ⟨g, 0, none⟩) n c) n xs) (j : Nat) (hj : j < xs.length) : w.cell? ⟨g, j, none⟩ = xs[j]? := by
  rcases h.2 with ⟨h0, h1⟩ | ⟨g', cap, cur, h0, h1, h2, h3, h4, h5, h6⟩
  · have := h.1; rw [h1, Nat.zero_mul] at this; omega
  · have : g = g' := by injection h0 with h0; injection h0 with h0; injection h0 with h0
    subst this
    simp only [World.cell?, h2]
    have h7 := congrArg (fun x : List Value => x[j]?) h6
    simp only [List.getElem?_take] at h7
    have hl : xs.length = n * size := h.1
    rw [if_pos (by omega)] at h7
    rw [← h7]
    simp

/-- a row of entries of the call's own. -/
def OwnE (e : TypeId) (w : World) (base : Nat) (v : Value) (l : List En) : Prop := w.ownsRow base e 8 v l.length (flat l)

theorem own_readsE {e : TypeId} {w : World} {base : Nat} {v : Value} {l : List En} (h : OwnE e w base v l) : ∃ A c, v = .slice A l.length c ∧ ReadsE w A l ∧ l.length ≤ c ∧ (A = none → c = 0) := by
  rcases h.2 with ⟨rfl, h0⟩ | ⟨g, cap, cur, rfl, h1, h2, h3, h4, h5, h6⟩
  · have : l = [] := List.eq_nil_of_length_eq_zero h0
    exact ⟨none, 0, by rw [h0], .inl this, by omega, fun _ => rfl⟩
  · refine ⟨_, cap, rfl, .inr ⟨g, 0, rfl, fun i hi j hj => ?_⟩, h3, fun h => by simp at h⟩
    have := own_cell h (0 + i * 8 + j) (by rw [flat_len]; omega)
    rw [this, flat_get]
    have e1 : (0 + i * 8 + j) / 8 = i := by omega
    have e2 : (0 + i * 8 + j) % 8 = j := by omega
    rw [e1, e2, List.getD_eq_getElem?_getD, List.getElem?_eq_getElem hi]
    rfl

theorem oneCell_flat (l : List En) : ∀ u ∈ flat l, u.oneCell' = true := by
  intro u hu
  simp only [flat, List.mem_flatMap] at hu
  obtain ⟨e, _, he⟩ := hu
  simp only [En.cells, List.mem_cons, List.not_mem_nil, or_false] at he
  rcases he with rfl | rfl | rfl | rfl | rfl | rfl | rfl | rfl <;> rfl

theorem reads_news {w : World} {b o : Nat} {l : List En} (h : Reads w b o l) : ∀ j u, (flat l)[j]? = some u → w.cell? ((⟨b, o, none⟩ : Addr).add j) = some u := by
  intro j u hu
  have hj : j < l.length * 8 := by
    have := (List.getElem?_eq_some_iff.1 hu).1
    rwa [flat_len] at this
  have hb : j / 8 < l.length := by omega
  have h1 := h (j / 8) hb (j % 8) (by omega)
  rw [flat_get, List.getElem?_eq_getElem hb] at hu
  have e1 : (⟨b, o, none⟩ : Addr).add j = ⟨b, o + j / 8 * 8 + j % 8, none⟩ := by
    unfold Addr.add
    split
    · rename_i h0; subst h0; simp
    · show (⟨b, o + j, none⟩ : Addr) = _
      congr 1; omega
  rw [e1, h1, List.getD_eq_getElem?_getD, List.getElem?_eq_getElem hb]
  exact hu

theorem own_entry {e : TypeId} {w : World} {base g c n : Nat} {l : List En} (h : w.ownsRow base e 8 (.slice (some ⟨g, 0, none⟩) n c) n (flat l)) (i : Nat) (hi : i < l.length) :
    w.cell? ⟨g, i * 8, none⟩ = some (.int .i64 (l.getD i default).core) ∧ w.cell? ⟨g, i * 8 + 1, none⟩ = some (.int .i64 (l.getD i default).peer) ∧ w.cell? ⟨g, i * 8 + 2, none⟩ = some (.int .i64 (l.getD i default).kind) ∧ w.cell? ⟨g, i * 8 + 3, none⟩ = some (.int .i64 (l.getD i default).bg)
    ∧ w.cell? ⟨g, i * 8 + 4, none⟩ = some (.int .i64 (l.getD i default).nd) ∧ w.cell? ⟨g, i * 8 + 5, none⟩ = some (.int .i64 (l.getD i default).err) ∧ w.cell? ⟨g, i * 8 + 6, none⟩ = some (.slice (l.getD i default).adr (l.getD i default).len (l.getD i default).cap) ∧ w.cell? ⟨g, i * 8 + 7, none⟩ = some (.int .i64 (l.getD i default).handle) := by
  have hc : ∀ j, j < 8 → w.cell? ⟨g, i * 8 + j, none⟩ = (l.getD i default).cells[j]? := by
    intro j hj
    rw [own_cell h (i * 8 + j) (by rw [flat_len]; omega), flat_get]
    have e1 : (i * 8 + j) / 8 = i := by omega
    have e2 : (i * 8 + j) % 8 = j := by omega
    rw [e1, e2, List.getD_eq_getElem?_getD, List.getElem?_eq_getElem hi]
    rfl
  exact ⟨hc 0 (by omega), hc 1 (by omega), hc 2 (by omega), hc 3 (by omega), hc 4 (by omega), hc 5 (by omega), hc 6 (by omega), hc 7 (by omega)⟩

theorem own_at {w : World} {base g c n : Nat} {l : List Int} (h : w.ownsRow base 3 1 (.slice (some ⟨g, 0, none⟩) n c) l.length (l.map (Value.int .i64))) (j : Nat) (hj : j < l.length) :
    w.cell? ⟨g, j, none⟩ = some (.int .i64 (l.getD j 0)) ∧ w.frozen? ⟨g, j, none⟩ = false := by
  rcases h.2 with ⟨h0, h1⟩ | ⟨g', cap, cur, h0, h1, h2, h3, h4, h5, h6⟩
  · omega
  · have : g = g' := by injection h0 with h0; injection h0 with h0; injection h0 with h0
    subst this
    constructor
    · simp only [World.cell?, h2]
      have : cur.toList[j]? = some (.int .i64 (l.getD j 0)) := by
        have h7 := congrArg (fun x : List Value => x[j]?) h6
        simp only [List.getElem?_take] at h7
        rw [if_pos (by omega)] at h7
        rw [h7]
        simp [List.getD_eq_getElem?_getD, hj]
      simpa using this
    · simp [World.frozen?, h2]

theorem own_readsI {w : World} {base : Nat} {v : Value} {l : List Int} (h : OwnI w base v l) : ∃ A c, v = .slice A l.length c ∧ ReadsI w A l := by
  obtain ⟨A, c, rfl⟩ := own_slice h
  refine ⟨A, c, rfl, ?_⟩
  cases l with
  | nil => exact .inl rfl
  | cons x l =>
    rcases h.2 with ⟨_, h0⟩ | ⟨g, cap, cur, e1, _⟩
    · simp at h0
    · have hA : A = some ⟨g, 0, none⟩ := by injection e1
      subst hA
      refine .inr ⟨g, 0, rfl, fun i hi => ?_⟩
      rw [Nat.zero_add]
      exact (own_at h i hi).1

theorem reads_one (e : TypeId) (w : World) (x : En) : ReadsE (w.alloc (.cells x.cells e)) (some ⟨w.heap.size, 0, none⟩) [x] := by
  refine .inr ⟨w.heap.size, 0, rfl, fun i hi j hj => ?_⟩
  have hi0 : i = 0 := by simp at hi; omega
  subst hi0
  simp only [World.cell?, new_block]
  simp

/-- two rows that don't share a block. -/
def Apart (a b : Value) : Prop := a.ownBlock = none ∨ a.ownBlock ≠ b.ownBlock

theorem Apart.symm {a b : Value} (h : Apart a b) : Apart b a := by
  unfold Apart at *
  cases ha : a.ownBlock with
  | none => cases hb : b.ownBlock with
    | none => exact .inl rfl
    | some q => exact .inr (by simp)
  | some p =>
    rw [ha] at h
    rcases h with h | h
    · cases h
    · exact .inr (fun e => h e.symm)

theorem own_lt {w : World} {base n size : Nat} {e : TypeId} {v : Value} {xs : List Value} (h : w.ownsRow base e size v n xs) {q : Nat} (hq : v.ownBlock = some q) : q < w.heap.size := by
  rcases h.2 with ⟨rfl, _⟩ | ⟨g, cap, cur, rfl, _, h2, _⟩
  · simp [Value.ownBlock] at hq
  · simp [Value.ownBlock] at hq; subst hq; exact lt_of_block h2

theorem Apart.grown {W : World} {base n size : Nat} {e : TypeId} {a a' v : Value} {xs : List Value} (h : Apart v a) (ho : W.ownsRow base e size v n xs) (hg : a'.ownBlock = a.ownBlock ∨ a'.ownBlock = some W.heap.size) : Apart v a' := by
  unfold Apart at *
  rcases hg with hg | hg
  · rw [hg]; exact h
  · cases hv : v.ownBlock with
    | none => exact .inl rfl
    | some q =>
      have := own_lt ho hv
      refine .inr fun e => ?_
      rw [hg] at e
      injection e with e
      omega

theorem own_below {w w' : World} {base n size : Nat} {e : TypeId} {v : Value} {xs : List Value} (h : w.ownsRow base e size v n xs) (hb : Below w.heap.size w w') : w'.ownsRow base e size v n xs := by
  obtain ⟨h1, h2⟩ := h
  refine ⟨h1, ?_⟩
  rcases h2 with h2 | ⟨g, cap, cur, e1, e2, e3, e4⟩
  · exact .inl h2
  · exact .inr ⟨g, cap, cur, e1, e2, (hb.block g (lt_of_block e3)).trans e3, e4⟩

theorem below_row {w W w' : World} {base n size : Nat} {e : TypeId} {v : Value} {xs : List Value} (hb : Below base w W) (ho : W.ownsRow base e size v n xs) (hg : W.grownBy w' v.ownBlock) (hs : base ≤ W.heap.size) : Below base w w' :=
  hb.trans ⟨hg.os, hg.tape, hg.output, hg.size, fun q hq => hg.block q (by omega) (fun e => by have := own_ge ho e.symm; omega)⟩

theorem ret_bool {a b : Bool} (h : a = b) : Ending.returned (.bool a) = .returned (.bool b) := by rw [h]

theorem ret_int {k : IntKind} {a b : Int} (h : a = b) : Ending.returned (.int k a) = .returned (.int k b) := by rw [h]

theorem enters_fn {P : Program} {f : FuncId} {fn : Func} (hf : P.funcs[f]? = some fn) (hname : (fn.name == "runtime.NumGoroutine") = false) (hb : fn.body.isSome = true) (args : Array Value) (w : World) : (callFunc f args).run P w = .ok (.enter f args) w := by
  have h1 : fn.name ≠ "runtime.NumGoroutine" := by simpa using hname
  obtain ⟨c, hc⟩ := Option.isSome_iff_exists.1 hb
  simp [callFunc, hf, h1, hc]

theorem getD_mem_drop {S : List En} {i : Nat} (h : i < S.length) : S.getD i default ∈ S.drop i := by
  have e : S.getD i default = S[i] := by simp [List.getD_eq_getElem?_getD, h]
  rw [e, List.drop_eq_getElem_cons h]
  exact List.mem_cons_self ..

theorem Tryd.own : ownKnob Tryd.prog.godebug = none := by kernel_rfl
theorem Tryd.laidOut : laidOutB Tryd.prog = true := by kernel_rfl
theorem Tryd.cells3 : Tryd.prog.cellsOf 3 = 1 := by kernel_rfl
theorem Tryd.cells28 : Tryd.prog.cellsOf 28 = 8 := by kernel_rfl
theorem Tryd.info28 : (Tryd.prog.info? 28).map (fun i => (i.zero, i.size, i.bytes)) = some (some (.agg #[.int .i64 0, .int .i64 0, .int .i64 0, .int .i64 0, .int .i64 0, .int .i64 0, .slice none 0 0, .int .i64 0]), 8, 80) := by kernel_rfl
theorem Tryd.info39 : (Tryd.prog.info? 39).map (fun i => (i.zero, i.size, i.bytes)) = some (some (.agg #[.int .i64 0, .int .i64 0, .int .i64 0, .int .i64 0, .int .i64 0, .int .i64 0, .slice none 0 0, .int .i64 0]), 8, 80) := by kernel_rfl
theorem Tryd.info3 : (Tryd.prog.info? 3).map (fun i => (i.zero, i.size, i.bytes)) = some (some (.int .i64 0), 1, 8) := by kernel_rfl

open Go.ChangeShapes Go.WideShapes Go.ChangeAt Go.Deep
section
variable {H : Type} {enc : TypeId × Value → H} {P : Program} {w : World} {base : Nat} {spare : Nat → Bool} {held : Bool}
theorem open_slice_fields {t e : TypeId} {fs : Array Field} {fuel : Nat} {cs : List Value} {x : DataW H × List MemPlace} (ht : P.underlying t = some (.slice e)) (he : P.underlying e = some (.struct fs))
    (hone : oneCellFields P fs = true) (hC : P.cellsOf e = fs.size) (h : DataW.trod enc P w base spare held fuel t cs = some x) :
    (cs = [.slice none 0 0] ∧ x = (.nil, [])) ∨
    ∃ (a : Addr) (len cap m : Nat) (D : Nat → DataW H) (Pl : Nat → List MemPlace), cs = [.slice (some a) len cap] ∧ base ≤ a.block ∧ len ≤ cap ∧ cap ≤ maxLen ∧ m = (if spare a.block then cap else len) ∧
      x = (.slice ((List.range len).map D) ((List.range (m - len)).map fun j => D (len + j)), MemPlace.row a (m * fs.size) ++ (List.range m).flatMap Pl) ∧
      ∀ i, i < m → ∃ (ys : List (DataW H × List MemPlace)) (n : Nat), D i = .agg (ys.map (·.1)) ∧ Pl i = ys.flatMap (·.2) ∧ ys.length = fs.size ∧
        ∀ (j : Nat) (f : Field), fs[j]? = some f → ∃ (v : Value) (y : DataW H × List MemPlace), w.cell? (a.add (i * fs.size + j)) = some v ∧ ys[j]? = some y ∧ DataW.trod enc P w base spare held n f.type [v] = some y := by
  rcases open_slice ht h with h0 | ⟨a, len, cap, m, n, D, Pl, hcs, hb, hl, hm, hmm, hx, hi⟩
  · exact .inl h0
  · refine .inr ⟨a, len, cap, m, D, Pl, hcs, hb, hl, hm, hmm, by rw [hC] at hx; exact hx, fun i him => ?_⟩
    obtain ⟨cs', hc, ht'⟩ := hi i him
    rw [hC] at hc
    obtain ⟨ys, n', hn', hy, hlen, hyl, hf⟩ := DataW.trod_struct he ht'
    obtain ⟨_, hcl, hat⟩ := World.cells?_some hc
    simp only [Prod.mk.injEq] at hy
    refine ⟨ys, n', hy.1, hy.2, hyl, fun j f hj => ?_⟩
    obtain ⟨ho, hk⟩ := hone_of hone j f hj
    have hjl : j < fs.size := (Array.getElem?_eq_some_iff.1 hj).1
    have hcell := hat j hjl
    have hv : cs'[j]? = some (cs'[j]'(by omega)) := List.getElem?_eq_getElem (by omega)
    have h1 := hf j f hj
    rw [ho, hk] at h1
    have hone' : (cs'.drop j).take 1 = [cs'[j]'(by omega)] := by
      rw [List.drop_eq_getElem_cons (by omega)]
      rfl
    rw [hone'] at h1
    have hys : ys[j]? = some (ys[j]'(by omega)) := List.getElem?_eq_getElem (by omega)
    refine ⟨_, _, ?_, hys, h1.trans hys⟩
    rw [← Go.Deep.add_add, hcell, hv]

end
section
variable {H : Type} {enc : TypeId × Value → H} {w : World} {base : Nat} {spare : Nat → Bool} {held : Bool}
theorem open_load {fuel : Nat} {v : Value} {x : DataW H × List MemPlace} (h : DataW.trod enc Tryd.prog w base spare held fuel 26 [v] = some x) :
    ∃ (A : Option Addr) (n c : Nat) (l : List Int), v = .slice A n c ∧ l.length = n ∧ n ≤ 9223372036854775807 ∧ ReadsI w A l := by
  rcases open_ints Tryd.underlying26 Tryd.underlying3 Tryd.cells3 h with ⟨hcs, -⟩ | ⟨a, len, cap, zs, hcs, _, hl, hm, hz, _, hc, _⟩
  · exact ⟨none, 0, 0, [], by simpa using hcs, rfl, by omega, .inl rfl⟩
  · have hzl : len ≤ zs.length := by rw [hz]; split <;> omega
    refine ⟨some a, len, cap, zs.take len, by simpa using hcs, by simp; omega, by unfold maxLen at hm; omega, ?_⟩
    by_cases h0 : len = 0
    · exact .inl (by simp [h0])
    · obtain ⟨b, off, rfl, hc'⟩ := ints_at hc (by omega)
      refine .inr ⟨b, off, rfl, fun i hi => ?_⟩
      rw [List.length_take] at hi
      rw [hc' i (by omega)]
      simp [List.getD_eq_getElem?_getD, List.getElem?_take, show i < len by omega]

theorem open_entries {fuel : Nat} {cs : List Value} {x : DataW H × List MemPlace} (h : DataW.trod enc Tryd.prog w base spare held fuel 22 cs = some x) :
    ∃ (A : Option Addr) (n c : Nat) (l : List En), cs = [.slice A n c] ∧ l.length = n ∧ n ≤ c ∧ n ≤ 9223372036854775807 ∧ (A = none → c = 0) ∧ ReadsE w A l ∧ ∀ x ∈ l, x.load.length = x.len ∧ x.len ≤ 9223372036854775807 ∧ ReadsI w x.adr x.load := by
  rcases open_slice_fields Tryd.underlying22 Tryd.underlying28 (by kernel_rfl) Tryd.cells28 h with ⟨rfl, -⟩ | ⟨a, len, cap, m, D, Pl, rfl, _, hl, hm, hmm, -, hi⟩
  · exact ⟨none, 0, 0, [], rfl, rfl, by omega, by omega, fun _ => rfl, .inl rfl, by simp⟩
  · have hml : len ≤ m := by rw [hmm]; split <;> omega
    have hex : ∀ i, i < len → ∃ e : En, (∀ j, j < 8 → w.cell? (a.add (i * 8 + j)) = e.cells[j]?) ∧ e.load.length = e.len ∧ e.len ≤ 9223372036854775807 ∧ ReadsI w e.adr e.load := by
      intro i hil
      obtain ⟨ys, n, -, -, -, hf⟩ := hi i (by omega)
      obtain ⟨v0, y0, k0, -, t0⟩ := hf 0 _ rfl
      obtain ⟨v1, y1, k1, -, t1⟩ := hf 1 _ rfl
      obtain ⟨v2, y2, k2, -, t2⟩ := hf 2 _ rfl
      obtain ⟨v3, y3, k3, -, t3⟩ := hf 3 _ rfl
      obtain ⟨v4, y4, k4, -, t4⟩ := hf 4 _ rfl
      obtain ⟨v5, y5, k5, -, t5⟩ := hf 5 _ rfl
      obtain ⟨v6, y6, k6, -, t6⟩ := hf 6 _ rfl
      obtain ⟨v7, y7, k7, -, t7⟩ := hf 7 _ rfl
      obtain ⟨a0, e0, -, -⟩ := DataW.trod_int Tryd.underlying3 t0
      obtain ⟨a1, e1, -, -⟩ := DataW.trod_int Tryd.underlying3 t1
      obtain ⟨a2, e2, -, -⟩ := DataW.trod_int Tryd.underlying3 t2
      obtain ⟨a3, e3, -, -⟩ := DataW.trod_int Tryd.underlying3 t3
      obtain ⟨a4, e4, -, -⟩ := DataW.trod_int Tryd.underlying3 t4
      obtain ⟨a5, e5, -, -⟩ := DataW.trod_int Tryd.underlying25 t5
      obtain ⟨A6, n6, c6, l6, e6, h61, h62, h63⟩ := open_load t6
      obtain ⟨a7, e7, -, -⟩ := DataW.trod_int Tryd.underlying3 t7
      simp only [List.cons.injEq, and_true] at e0 e1 e2 e3 e4 e5 e7
      subst e0 e1 e2 e3 e4 e5 e6 e7
      refine ⟨⟨a0, a1, a2, a3, a4, a5, A6, n6, c6, a7, l6⟩, ?_, h61, h62, h63⟩
      intro j hj
      have : j = 0 ∨ j = 1 ∨ j = 2 ∨ j = 3 ∨ j = 4 ∨ j = 5 ∨ j = 6 ∨ j = 7 := by omega
      rcases this with rfl | rfl | rfl | rfl | rfl | rfl | rfl | rfl
      · exact k0
      · exact k1
      · exact k2
      · exact k3
      · exact k4
      · exact k5
      · exact k6
      · exact k7
    obtain ⟨l, hll, hlx⟩ : ∃ l : List En, l.length = len ∧ ∀ i, i < len → (∀ j, j < 8 → w.cell? (a.add (i * 8 + j)) = (l.getD i default).cells[j]?) ∧ (l.getD i default).load.length = (l.getD i default).len ∧ (l.getD i default).len ≤ 9223372036854775807 ∧ ReadsI w (l.getD i default).adr (l.getD i default).load := by
      refine ⟨(List.range len).map fun i => if h : i < len then (hex i h).choose else default, by simp, fun i hil => ?_⟩
      have hg : ((List.range len).map fun i => if h : i < len then (hex i h).choose else default).getD i default = (hex i hil).choose := by
        simp [List.getD_eq_getElem?_getD, hil]
      rw [hg]
      exact (hex i hil).choose_spec
    refine ⟨some a, len, cap, l, rfl, hll, hl, by unfold maxLen at hm; omega, by simp, ?_, ?_⟩
    · by_cases h0 : len = 0
      · exact .inl (List.eq_nil_of_length_eq_zero (by omega))
      · obtain ⟨b, off, spot⟩ := a
        have hspot : spot = none := by
          have := (hlx 0 (by omega)).1 0 (by omega)
          have this2 : w.cell? ⟨b, off, spot⟩ = some (.int .i64 (l.getD 0 default).core) := by
            have e : (⟨b, off, spot⟩ : Addr).add (0 * 8 + 0) = ⟨b, off, spot⟩ := by simp [Addr.add]
            rw [e] at this
            exact this
          exact World.cell?_spot this2
        subst hspot
        refine .inr ⟨b, off, rfl, fun i hi j hj => ?_⟩
        have := (hlx i (by omega)).1 j hj
        rw [add_plain] at this
        rw [Nat.add_assoc]
        exact this
    · intro x hx
      obtain ⟨i, hi, rfl⟩ := List.getElem_of_mem hx
      have := (hlx i (by omega)).2
      rw [List.getD_eq_getElem?_getD, List.getElem?_eq_getElem hi] at this
      exact this

end

end Go.Proofs.YtbfpaemaiaeljaaDoor
