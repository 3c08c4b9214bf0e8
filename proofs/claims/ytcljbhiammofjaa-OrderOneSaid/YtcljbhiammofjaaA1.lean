/- The walks of the small functions of package order. -/
import Derived.Test.YtcljbhiammofjaaRows
import Derived.WalkKit
import Derived.WalkSpells
import Derived.WalkLawsBesides
import Derived.Deep.QuietTactic
import Derived.Deep.LoopGhost
import Derived.BigQuiet
import Derived.Lib.Hide
namespace Go.Proofs.Ytcljbhiammofjaa
open Go.RowKit

/-- An entry of a diary, as it lies: eight cells. -/
structure En where
  core : Int
  peer : Int
  kind : Int
  bg : Int
  nd : Int
  err : Int
  adr : Option Addr
  len : Nat
  cap : Nat
  handle : Int
  load : List Int
  deriving Inhabited

/-- the eight cells of an entry. -/
def En.cells (x : En) : Array Value := #[.int .i64 x.core, .int .i64 x.peer, .int .i64 x.kind, .int .i64 x.bg, .int .i64 x.nd, .int .i64 x.err, .slice x.adr x.len x.cap, .int .i64 x.handle]

theorem lt_of_block {w : World} {B : Nat} {o : Obj} (h : w.heap[B]? = some o) : B < w.heap.size := (Array.getElem?_eq_some_iff.1 h).1

/-- a row of entries, as it lies. -/
def Reads (w : World) (b o : Nat) (l : List En) : Prop := ∀ i, i < l.length → ∀ j, j < 8 → w.cell? ⟨b, o + i * 8 + j, none⟩ = (l.getD i default).cells[j]?
/-- a slice of entries. -/
def ReadsE (w : World) (A : Option Addr) (l : List En) : Prop := l = [] ∨ ∃ b o, A = some ⟨b, o, none⟩ ∧ Reads w b o l

theorem Reads.at {w : World} {b o : Nat} {l : List En} (h : Reads w b o l) (i : Nat) (hi : i < l.length) (e : En) (he : l.getD i default = e) :
    w.cell? ⟨b, o + i * 8, none⟩ = some (.int .i64 e.core) ∧ w.cell? ⟨b, o + i * 8 + 1, none⟩ = some (.int .i64 e.peer) ∧ w.cell? ⟨b, o + i * 8 + 2, none⟩ = some (.int .i64 e.kind) ∧ w.cell? ⟨b, o + i * 8 + 3, none⟩ = some (.int .i64 e.bg)
    ∧ w.cell? ⟨b, o + i * 8 + 4, none⟩ = some (.int .i64 e.nd) ∧ w.cell? ⟨b, o + i * 8 + 5, none⟩ = some (.int .i64 e.err) ∧ w.cell? ⟨b, o + i * 8 + 6, none⟩ = some (.slice e.adr e.len e.cap) ∧ w.cell? ⟨b, o + i * 8 + 7, none⟩ = some (.int .i64 e.handle) := by
  subst he
  exact ⟨h i hi 0 (by omega), h i hi 1 (by omega), h i hi 2 (by omega), h i hi 3 (by omega), h i hi 4 (by omega), h i hi 5 (by omega), h i hi 6 (by omega), h i hi 7 (by omega)⟩

theorem ReadsE.drop {w : World} {A : Option Addr} {l : List En} (h : ReadsE w A l) (k : Nat) : ReadsE w (A.map (·.add (k * 8))) (l.drop k) := by
  rcases h with rfl | ⟨b, o, rfl, h⟩
  · exact .inl (by simp)
  · refine .inr ⟨b, o + k * 8, by simp [Addr.add]; try omega, fun i hi j hj => ?_⟩
    have := h (k + i) (by simp at hi; omega) j hj
    rw [show o + k * 8 + i * 8 + j = o + (k + i) * 8 + j from by omega, this]
    simp [List.getD_eq_getElem?_getD]
theorem Reads.lt {w : World} {b o : Nat} {l : List En} (h : Reads w b o l) (h0 : 0 < l.length) : b < w.heap.size := World.block_lt_of_cell? w _ (h 0 h0 0 (by omega))
theorem Reads.below {w w' : World} {b o : Nat} {l : List En} (h : Reads w b o l) (hb : Below w.heap.size w w') : Reads w' b o l := by
  intro i hi j hj
  rw [hb.cell (h.lt (by omega))]
  exact h i hi j hj
theorem ReadsE.below {w w' : World} {A : Option Addr} {l : List En} (h : ReadsE w A l) (hb : Below w.heap.size w w') : ReadsE w' A l := by
  rcases h with h | ⟨b, o, h, hr⟩
  · exact .inl h
  · exact .inr ⟨b, o, h, hr.below hb⟩

/-- what a predicate over entries tells, in any later world; it makes blocks of its own. -/
def Pred (w : World) (g : Nat) (cap : Array Value) (p : En → Bool) : Prop :=
  ∀ W, Below w.heap.size w W → ∀ y : En, Calls Try.prog g (#[.agg y.cells] ++ cap) W fun e w' => e = .returned (.bool (p y)) ∧ Below W.heap.size W w'

theorem new_block (w : World) (o : Obj) : (w.alloc o).heap[w.heap.size]? = some o := by
  show (w.heap.push o)[w.heap.size]? = _
  simp
theorem enters_fn {P : Program} {f : FuncId} {fn : Func} (hf : P.funcs[f]? = some fn) (hname : (fn.name == "runtime.NumGoroutine") = false) (hb : fn.body.isSome = true) (args : Array Value) (w : World) : (callFunc f args).run P w = .ok (.enter f args) w := by
  have h1 : fn.name ≠ "runtime.NumGoroutine" := by simpa using hname
  obtain ⟨c, hc⟩ := Option.isSome_iff_exists.1 hb
  simp [callFunc, hf, h1, hc]
theorem ret_bool {a b : Bool} (h : a = b) : Ending.returned (.bool a) = .returned (.bool b) := by rw [h]
theorem ret_int {k : IntKind} {a b : Int} (h : a = b) : Ending.returned (.int k a) = .returned (.int k b) := by rw [h]

theorem free1_any (w : World) (x y : En) (B : Nat) (hc : w.heap[B]? = some (.cells x.cells 32 (0,0))) :
    Calls Try.prog 27 #[.agg y.cells, .pointer (some ⟨B, 0, none⟩)] w fun e w' => e = .returned (.bool (y.nd != 0 && decide (y.nd < x.bg))) ∧ Below w.heap.size w w' := by
  have c3 : w.cell? ⟨B, 3, none⟩ = some (.int .i64 x.bg) := by simp [World.cell?, hc, En.cells]
  have hB := lt_of_block hc
  have hne : ¬ w.heap.size = B := by omega
  clear hc
  unfold En.cells
  go_enter Try.func27, Try.ntmps27
  go_wp2
  · go_ret
    exact ⟨by simp [*], (Below.refl _ _).alloc (Nat.le_refl _) _⟩
  · go_ret
    exact ⟨by simp [*], (Below.refl _ _).alloc (Nat.le_refl _) _⟩

/-- the first place of which a predicate is true; -1. -/
def idx (p : En → Bool) : List En → Int
  | [] => -1
  | y :: l => if p y then 0 else if idx p l < 0 then -1 else idx p l + 1

theorem idx_take (p : En → Bool) (l : List En) : ∀ k, k ≤ l.length → (∀ j, j < k → p (l.getD j default) = false) → (k < l.length → p (l.getD k default) = true) → idx p l = if k < l.length then (k : Int) else -1 := by
  induction l with
  | nil => intro k hk _ _; simp [idx]
  | cons y l ih =>
    intro k hk hn hp
    cases k with
    | zero =>
      have := hp (by simp)
      simp at this
      simp [idx, this]
    | succ k =>
      have h0 := hn 0 (by omega)
      simp at h0
      have := ih k (by simpa using hk) (fun j hj => by simpa using hn (j + 1) (by omega)) (fun h => by simpa using hp (by simpa using h))
      simp only [idx, h0, this, List.length_cons]
      by_cases hk' : k < l.length
      · simp [hk']; omega
      · simp [hk']

theorem indexFunc_any (w : World) (A : Option Addr) (c : Nat) (l : List En) (g : Nat) (cap : Array Value) (p : En → Bool) (hp : Pred w g cap p) (eg : ∀ args w, (callFunc g args).run Try.prog w = .ok (.enter g args) w) (hr : ReadsE w A l) (n : Nat) (hn : l.length = n) (hl : n ≤ 1000) :
    Calls Try.prog 23 #[.slice A n c, .func (.func g) #[] cap] w fun e w' => e = .returned (.int .i64 (idx p l)) ∧ Below w.heap.size w w' := by
  subst hn
  have HR := Lib.hid hr
  clear hr
  go_enter Try.func23, Try.ntmps23
  go_wp2
  go_loopg [8] l.length (fun n i wr => ∃ k : Nat, i = .int .i64 k ∧ k + n = l.length ∧ Below w.heap.size w wr ∧ (∀ j, j < k → p (l.getD j default) = false))
  case atStart => exact ⟨0, rfl, by omega, Below.refl _ _, by intro j hj; omega⟩
  case round =>
    obtain ⟨k, rfl, hk, hb, hn⟩ := hrel
    have HN := Lib.hid hn
    have HK := Lib.hid hk
    clear hn hk
    by_cases hlt : k < l.length
    · rcases HR.out with h0 | ⟨b, o, rfl, hr⟩
      · rw [h0] at hlt; exact absurd hlt (by simp)
      generalize he : l.getD k default = y at *
      obtain ⟨c0, c1, c2, c3, c4, c5, c6, c7⟩ := (hr.below hb).at k hlt _ he
      have HY := Lib.hid he
      clear he hr
      go_wp2_with fail
      have hp2 := hp wr hb y
      refine hp2.mono ?_
      rintro e w1 ⟨rfl, hb1⟩
      cases hpy : p y
      · go_wp2
        go_roundg (gk - 1)
        case measure => have := HK.out; omega
        case rel =>
          refine ⟨k + 1, by simp, by have := HK.out; omega, hb.trans (hb1.mono hb.size), ?_⟩
          intro j hj
          by_cases hjk : j = k
          · subst hjk; rw [HY.out]; exact hpy
          · exact HN.out j (by omega)
      · go_wp2
        go_ret
        refine ⟨?_, hb.trans (hb1.mono hb.size)⟩
        rw [idx_take p l k (by omega) HN.out (fun _ => by rw [HY.out]; exact hpy), if_pos hlt]; rfl
    · go_wp2
      go_ret
      refine ⟨?_, hb⟩
      rw [idx_take p l k (by have := HK.out; omega) HN.out (fun h => absurd h hlt), if_neg hlt]; rfl

theorem idx_nonneg (p : En → Bool) (l : List En) : decide (0 ≤ idx p l) = l.any p := by
  induction l with
  | nil => simp [idx]
  | cons y l ih =>
    cases hy : p y
    · simp only [idx, hy, List.any_cons, Bool.false_or, ← ih]
      by_cases h : idx p l < 0
      · simp [h]
      · simp [h]; omega
    · simp [idx, hy]

theorem containsFunc_any (w : World) (A : Option Addr) (c : Nat) (l : List En) (g : Nat) (cap : Array Value) (p : En → Bool) (hp : Pred w g cap p) (eg : ∀ args w, (callFunc g args).run Try.prog w = .ok (.enter g args) w) (hr : ReadsE w A l) (n : Nat) (hn : l.length = n) (hl : n ≤ 1000) :
    Calls Try.prog 26 #[.slice A n c, .func (.func g) #[] cap] w fun e w' => e = .returned (.bool (l.any p)) ∧ Below w.heap.size w w' := by
  have HN := Lib.hid hn
  clear hn
  go_enter Try.func26, Try.ntmps26
  go_wp2_with fail
  refine (indexFunc_any w A c l g cap p hp eg hr n HN.out hl).mono ?_
  rintro e w1 ⟨rfl, hb1⟩
  go_wp2
  go_ret
  exact ⟨ret_bool (idx_nonneg p l), hb1⟩

/-- may a call come ahead of all that are left? -/
def freeP (l : List En) (k : Nat) (x : En) : Bool := !(l.drop k).any fun y => y.nd != 0 && decide (y.nd < x.bg)

theorem free_any (w : World) (A : Option Addr) (c : Nat) (l : List En) (k : Nat) (x : En) (hr : ReadsE w A l) (hk : k ≤ l.length) (hc : l.length ≤ c) (hA : A = none → c = 0) (hl : l.length ≤ 1000) :
    Calls Try.prog 22 #[.slice A l.length c, .int .i64 k, .agg x.cells] w fun e w' => e = .returned (.bool (freeP l k x)) ∧ Below w.heap.size w w' := by
  have HR := Lib.hid hr
  clear hr
  have eg := @enters_fn Try.prog 27 _ Try.func27 (by kernel_rfl) rfl
  have hF : ∀ W : World, W.heap[w.heap.size]? = some (.cells x.cells 32 (0, 0)) → Pred W 27 #[.pointer (some ⟨w.heap.size, 0, none⟩)] (fun y => y.nd != 0 && decide (y.nd < x.bg)) := fun W hW W2 hb y =>
    free1_any W2 x y _ ((hb.block _ (lt_of_block hW)).trans hW)
  have HF := Lib.hid hF
  clear hF
  have HE := Lib.hid eg
  clear eg
  unfold En.cells
  by_cases hck : c = k
  · subst hck
    have hlk : l.length = c := by omega
    have HK := Lib.hid hlk
    clear hlk
    go_enter Try.func22, Try.ntmps22
    go_wp2_with fail
    refine (containsFunc_any _ A 0 [] 27 _ _ (HF.out _ (new_block _ _)) HE.out (.inl rfl) 0 rfl (by omega)).mono ?_
    rintro e w1 ⟨rfl, hb1⟩
    go_wp2
    go_ret
    refine ⟨ret_bool ?_, (Below.refl _ _).alloc (Nat.le_refl _) _ |>.trans (hb1.mono (by simp))⟩
    unfold freeP
    rw [List.drop_of_length_le (by rw [HK.out]; omega)]; rfl
  · go_enter Try.func22, Try.ntmps22
    go_wp2_with fail
    refine (containsFunc_any _ _ (c - k) (l.drop k) 27 _ _ (HF.out _ (new_block _ _)) HE.out ((HR.out.below ((Below.refl _ _).alloc (Nat.le_refl _) _)).drop k) (l.length - k) (by simp) (by omega)).mono ?_
    rintro e w1 ⟨rfl, hb1⟩
    go_wp2
    go_ret
    exact ⟨rfl, (Below.refl _ _).alloc (Nat.le_refl _) _ |>.trans (hb1.mono (by simp))⟩

end Go.Proofs.Ytcljbhiammofjaa
