/- Lines as they lie in memory; the small functions: names, needs, a number out of bounds. -/
import Derived.Test.YtconmkhoiomeiaaDoorRows
import Derived.Test.YtconmkhoiomeiaaDoorShelf
import Derived.Test.YtconmkhoiomeiaaDoorT0
import Derived.WalkKit
import Derived.WalkSpells
import Derived.WalkLawsBesides
import Derived.Deep.QuietTactic
import Derived.Deep.LoopGhost
import Derived.BigQuiet
import Derived.Lib.Hide
import Derived.Lib.SliceRun
import Derived.ProofKit
import Derived.Deep.Slices
import Derived.Deep.Fields
import Derived.ChangeSame
import Derived.OpenShut
import Derived.Deep.CutBlock
import Derived.Deep.RegionHeld3
import Derived.Deep.RegionWith
import Derived.Lib.QuietBelow
import Derived.Lib.LaidTab
import Derived.Lib.ItoaLen
namespace Go.Proofs.YtconmkhoiomeiaaDoor
open Go.RowKit Go.Sort

theorem lt_of_block {w : World} {B : Nat} {o : Obj} (h : w.heap[B]? = some o) : B < w.heap.size := (Array.getElem?_eq_some_iff.1 h).1
theorem new_block (w : World) (o : Obj) : (w.alloc o).heap[w.heap.size]? = some o := by
  show (w.heap.push o)[w.heap.size]? = _
  simp
/-- a slice of numbers. -/
def ReadsI (w : World) (A : Option Addr) (l : List Int) : Prop := l = [] ∨ ∃ b o, A = some ⟨b, o, none⟩ ∧ ∀ i, i < l.length → w.cell? ⟨b, o + i, none⟩ = some (.int .i64 (l.getD i 0))
theorem ReadsI.below {w w' : World} {A : Option Addr} {l : List Int} (h : ReadsI w A l) (hb : Below w.heap.size w w') : ReadsI w' A l := by
  rcases h with h | ⟨b, o, h, hr⟩
  · exact .inl h
  · refine .inr ⟨b, o, h, fun i hi => ?_⟩
    rw [hb.cell (World.block_lt_of_cell? w _ (hr i hi))]
    exact hr i hi
theorem reads_at {w : World} {A : Option Addr} {l : List Int} (h : ReadsI w A l) {k : Nat} (hk : k < l.length) : ∃ b o, A = some ⟨b, o, none⟩ ∧ w.cell? ⟨b, o + k, none⟩ = some (.int .i64 (l.getD k 0)) := by
  rcases h with rfl | ⟨b, o, rfl, h⟩
  · cases hk
  · exact ⟨b, o, rfl, h k hk⟩
theorem below_al {w W : World} (h : Below w.heap.size w W) (o : Obj) : Below w.heap.size w (W.alloc o) := h.alloc h.size o
theorem below_set {w W : World} (h : Below w.heap.size w W) {b o : Nat} (hb : w.heap.size ≤ b) (u : Value) : Below w.heap.size w (W.setCell ⟨b, o, none⟩ u) := h.setCell hb u
theorem below_dr {B : Nat} {a w : World} (h : Below B a w) (n : Nat) : Below B a (w.drewN n) := ⟨h.os, h.tape, h.output, h.size, h.block⟩
theorem one_al (w : World) (o : Obj) : Below w.heap.size w (w.alloc o) := below_al (Below.refl _ _) o
theorem ret_bool {a b : Bool} (h : a = b) : Ending.returned (.bool a) = .returned (.bool b) := by rw [h]
theorem ret_str {a b : ByteArray} (h : a = b) : Ending.returned (.string a) = .returned (.string b) := by rw [h]
theorem enters_fn {P : Program} {f : FuncId} {fn : Func} (hf : P.funcs[f]? = some fn) (hname : (fn.name == "runtime.NumGoroutine") = false) (hb : fn.body.isSome = true) (args : Array Value) (w : World) : (callFunc f args).run P w = .ok (.enter f args) w := by
  have h1 : fn.name ≠ "runtime.NumGoroutine" := by simpa using hname
  obtain ⟨c, hc⟩ := Option.isSome_iff_exists.1 hb
  simp [callFunc, hf, h1, hc]
theorem Tryd.own : ownKnob Tryd.prog.godebug = none := by kernel_rfl
theorem Tryd.laidOut : laidOutB Tryd.prog = true := by kernel_rfl
theorem Tryd.cells3 : Tryd.prog.cellsOf 3 = 1 := by kernel_rfl
theorem Tryd.info3 : (Tryd.prog.info? 3).map (fun i => (i.zero, i.size, i.bytes)) = some (some (.int .i64 0), 1, 8) := by kernel_rfl
theorem Tryd.info9 : (Tryd.prog.info? 9).map (fun i => (i.zero, i.size, i.bytes)) = some (some (.string ⟨#[]⟩), 1, 16) := by kernel_rfl

/-- a row of bytes as a string. -/
def B (l : List UInt8) : ByteArray := ⟨l.toArray⟩
theorem B_size (l : List UInt8) : (B l).size = l.length := rfl
theorem B_data (l : List UInt8) : (B l).data.toList = l := by simp [B]
theorem B_inj {a b : List UInt8} : B a = B b ↔ a = b := by
  constructor
  · intro h; rw [← B_data a, h, B_data]
  · rintro rfl; rfl
theorem B_eta (s : ByteArray) : B s.data.toList = s := by cases s; simp [B]

/-- what the package's variables hold. -/
structure Ties (w : World) : Prop where
  names : ∀ k, k < 16 → w.cell? ⟨0, k, none⟩ = some (.string (B (names.getD k [])))
  pow10 : Lib.TabIs Tryd.prog w "internal/strconv.uint64pow10" .u64 Lib.pow10Tab
  syn : ∃ te pe, w.cell? ⟨1, 0, none⟩ = some (.iface te pe)
  rng : ∃ te pe, w.cell? ⟨2, 0, none⟩ = some (.iface te pe)
  len : ∃ m, w.cell? ⟨4, 0, none⟩ = some (.int .i64 m)
theorem Tryd.pow10 : Tryd.prog.globalNamed "internal/strconv.uint64pow10" = some 3 := by kernel_rfl
theorem Ties.lt {w : World} (h : Ties w) : 4 < w.heap.size := by
  obtain ⟨m, hm⟩ := h.len
  exact World.block_lt_of_cell? w _ hm
theorem Ties.below {w w' : World} (h : Ties w) (hb : Below w.heap.size w w') : Ties w' := by
  have hl := h.lt
  refine ⟨fun k hk => ?_, ?_, ?_, ?_, ?_⟩
  · rw [hb.cell (show (⟨0, k, none⟩ : Addr).block < w.heap.size by show 0 < _; omega)]; exact h.names k hk
  · exact var?_below hb Tryd.pow10 (by omega) h.pow10
  · obtain ⟨te, pe, e⟩ := h.syn
    exact ⟨te, pe, by rw [hb.cell (show (⟨1, 0, none⟩ : Addr).block < w.heap.size by show 1 < _; omega)]; exact e⟩
  · obtain ⟨te, pe, e⟩ := h.rng
    exact ⟨te, pe, by rw [hb.cell (show (⟨2, 0, none⟩ : Addr).block < w.heap.size by show 2 < _; omega)]; exact e⟩
  · obtain ⟨m, e⟩ := h.len
    exact ⟨m, by rw [hb.cell (show (⟨4, 0, none⟩ : Addr).block < w.heap.size by show 4 < _; omega)]; exact e⟩

set_option maxHeartbeats 3200000 in
theorem needs_any (w : World) (op : Int) : Calls Tryd.prog 20 #[.int .i64 op] w fun e w' => e = .returned (.tuple #[.int .i64 (least op), .int .i64 (most op)]) ∧ w = w' := by
  by_cases h3 : op = 3
  · subst h3
    go_enter Tryd.func20, Tryd.ntmps20
    go_wp2
    go_ret2
    exact ⟨by rfl, rfl⟩
  by_cases h5 : op = 5
  · subst h5
    go_enter Tryd.func20, Tryd.ntmps20
    go_wp2
    go_ret2
    exact ⟨by rfl, rfl⟩
  by_cases h8 : op = 8
  · subst h8
    go_enter Tryd.func20, Tryd.ntmps20
    go_wp2
    go_ret2
    exact ⟨by rfl, rfl⟩
  by_cases h4 : op = 4
  · subst h4
    go_enter Tryd.func20, Tryd.ntmps20
    go_wp2
    go_ret2
    exact ⟨by rfl, rfl⟩
  by_cases h12 : op = 12
  · subst h12
    go_enter Tryd.func20, Tryd.ntmps20
    go_wp2
    go_ret2
    exact ⟨by rfl, rfl⟩
  by_cases h13 : op = 13
  · subst h13
    go_enter Tryd.func20, Tryd.ntmps20
    go_wp2
    go_ret2
    exact ⟨by rfl, rfl⟩
  by_cases h1 : op = 1
  · subst h1
    go_enter Tryd.func20, Tryd.ntmps20
    go_wp2
    go_ret2
    exact ⟨by rfl, rfl⟩
  by_cases h2 : op = 2
  · subst h2
    go_enter Tryd.func20, Tryd.ntmps20
    go_wp2
    go_ret2
    exact ⟨by rfl, rfl⟩
  by_cases h6 : op = 6
  · subst h6
    go_enter Tryd.func20, Tryd.ntmps20
    go_wp2
    go_ret2
    exact ⟨by rfl, rfl⟩
  by_cases h7 : op = 7
  · subst h7
    go_enter Tryd.func20, Tryd.ntmps20
    go_wp2
    go_ret2
    exact ⟨by rfl, rfl⟩
  by_cases h9 : op = 9
  · subst h9
    go_enter Tryd.func20, Tryd.ntmps20
    go_wp2
    go_ret2
    exact ⟨by rfl, rfl⟩
  by_cases h14 : op = 14
  · subst h14
    go_enter Tryd.func20, Tryd.ntmps20
    go_wp2
    go_ret2
    exact ⟨by rfl, rfl⟩
  by_cases h15 : op = 15
  · subst h15
    go_enter Tryd.func20, Tryd.ntmps20
    go_wp2
    go_ret2
    exact ⟨by rfl, rfl⟩
  have hL : least op = 0 := by unfold least; simp [h3, h5, h8, h4, h12, h13, h1, h2, h6, h7, h9, h14, h15]
  have hM : most op = 0 := by unfold most; simp [h3, hL]
  rw [hL, hM]
  have t3 : (op == 3) = false := by simpa using h3
  have t5 : (op == 5) = false := by simpa using h5
  have t8 : (op == 8) = false := by simpa using h8
  have t4 : (op == 4) = false := by simpa using h4
  have t12 : (op == 12) = false := by simpa using h12
  have t13 : (op == 13) = false := by simpa using h13
  have t1 : (op == 1) = false := by simpa using h1
  have t2 : (op == 2) = false := by simpa using h2
  have t6 : (op == 6) = false := by simpa using h6
  have t7 : (op == 7) = false := by simpa using h7
  have t9 : (op == 9) = false := by simpa using h9
  have t14 : (op == 14) = false := by simpa using h14
  have t15 : (op == 15) = false := by simpa using h15
  clear hL hM h3 h5 h8 h4 h12 h13 h1 h2 h6 h7 h9 h14 h15
  go_enter Tryd.func20, Tryd.ntmps20
  go_wp2
  go_ret2
  exact ⟨by rfl, rfl⟩

theorem name_any (w : World) (op : Int) (ht : Ties w) : Calls Tryd.prog 9 #[.int .i64 op] w fun e w' => e = .returned (.string (B (nam op))) ∧ w = w' := by
  by_cases h0 : op < 0
  · have hn : nam op = [] := by unfold nam; rw [if_neg (by omega)]
    rw [hn]
    clear hn ht
    go_enter Tryd.func9, Tryd.ntmps9
    go_wp2
    go_ret
    exact ⟨by rfl, rfl⟩
  by_cases h1 : 15 < op
  · have hn : nam op = [] := by unfold nam; rw [if_neg (by omega)]
    rw [hn]
    clear hn ht
    go_enter Tryd.func9, Tryd.ntmps9
    go_wp2
    go_ret
    exact ⟨by rfl, rfl⟩
  obtain ⟨k, rfl, hk, hn⟩ := nam_cases op (by omega) (by omega)
  rw [hn]
  have hc := ht.names k hk
  clear h0 h1 hn ht
  generalize B (names.getD k []) = s at *
  go_enter Tryd.func9, Tryd.ntmps9
  go_wp2
  go_ret
  exact ⟨by rfl, rfl⟩

theorem refName_none (w : World) (op : Int) (h : op < 1 ∨ 15 < op) : Calls Tryd.prog 10 #[.int .i64 op] w fun e w' => e = .returned (.string ⟨#[]⟩) ∧ Below w.heap.size w w' := by
  by_cases h0 : op < 1
  · clear h
    go_enter Tryd.func10, Tryd.ntmps10
    go_wp2
    go_ret
    exact ⟨rfl, one_al _ _⟩
  · have h1 : 15 < op := by omega
    have h2 : 1 ≤ op := by omega
    clear h h0
    go_enter Tryd.func10, Tryd.ntmps10
    go_wp2
    go_ret
    exact ⟨rfl, one_al _ _⟩
set_option maxHeartbeats 6400000 in
theorem refName_any (w : World) (op : Int) : Calls Tryd.prog 10 #[.int .i64 op] w fun e w' => e = .returned (.string (B (nam op))) ∧ Below w.heap.size w w' := by
  by_cases h : op < 1 ∨ 15 < op
  · refine (refName_none w op h).mono ?_
    rintro e w' ⟨rfl, hb⟩
    refine ⟨ret_str ?_, hb⟩
    by_cases h0 : op = 0
    · subst h0; rfl
    · unfold nam; rw [if_neg (by omega)]; rfl
  have hk : op = 1 ∨ op = 2 ∨ op = 3 ∨ op = 4 ∨ op = 5 ∨ op = 6 ∨ op = 7 ∨ op = 8 ∨ op = 9 ∨ op = 10 ∨ op = 11 ∨ op = 12 ∨ op = 13 ∨ op = 14 ∨ op = 15 := by omega
  rcases hk with rfl | rfl | rfl | rfl | rfl | rfl | rfl | rfl | rfl | rfl | rfl | rfl | rfl | rfl | rfl
  all_goals
    clear h
    go_enter Tryd.func10, Tryd.ntmps10
    go_wp2
    go_ret
    exact ⟨by rfl, one_al _ _⟩

set_option maxHeartbeats 6400000 in
theorem refNeeds_any (w : World) (op : Int) (h0 : 0 ≤ op) (h1 : op ≤ 15) : Calls Tryd.prog 23 #[.int .i64 op] w fun e w' => e = .returned (.tuple #[.int .i64 (least op), .int .i64 (most op)]) ∧ Below w.heap.size w w' := by
  have hk : op = 0 ∨ op = 1 ∨ op = 2 ∨ op = 3 ∨ op = 4 ∨ op = 5 ∨ op = 6 ∨ op = 7 ∨ op = 8 ∨ op = 9 ∨ op = 10 ∨ op = 11 ∨ op = 12 ∨ op = 13 ∨ op = 14 ∨ op = 15 := by omega
  rcases hk with rfl | rfl | rfl | rfl | rfl | rfl | rfl | rfl | rfl | rfl | rfl | rfl | rfl | rfl | rfl | rfl
  all_goals
    clear h0 h1
    go_enter Tryd.func23, Tryd.ntmps23
    go_wp2_with fail
    first
      | (go_ret2; exact ⟨by rfl, one_al _ _⟩)
      | (go_quiet (fail); go_wp2; go_ret2; exact ⟨by rfl, by first | exact one_al _ _ | exact below_dr (one_al _ _) _⟩)

theorem out_any (w : World) (z : Int) : Calls Tryd.prog 22 #[.int .i64 z] w fun e w' => e = .returned (.bool (outN z)) ∧ w = w' := by
  by_cases h0 : z < 0
  · go_enter Tryd.func22, Tryd.ntmps22
    go_wp2
    go_ret
    exact ⟨ret_bool (by simp [outN, h0]), rfl⟩
  by_cases h1 : 999999999 < z
  · go_enter Tryd.func22, Tryd.ntmps22
    go_wp2
    go_ret
    exact ⟨ret_bool (by simp [outN, h1]), rfl⟩
  · have h2 : 0 ≤ z := by omega
    have h3 : z ≤ 999999999 := by omega
    go_enter Tryd.func22, Tryd.ntmps22
    go_wp2
    go_ret
    exact ⟨ret_bool (by simp [outN]; try omega), rfl⟩

/-- the first place of which something is true; -1. -/
def idxP (p : Int → Bool) : List Int → Int
  | [] => -1
  | y :: l => if p y then 0 else if idxP p l < 0 then -1 else idxP p l + 1
theorem idxP_take (p : Int → Bool) (l : List Int) : ∀ k, k ≤ l.length → (∀ j, j < k → p (l.getD j 0) = false) → (k < l.length → p (l.getD k 0) = true) → idxP p l = if k < l.length then (k : Int) else -1 := by
  induction l with
  | nil => intro k hk _ _; simp [idxP]
  | cons y l ih =>
    intro k hk hn hp
    cases k with
    | zero =>
      have := hp (by simp)
      simp at this
      simp [idxP, this]
    | succ k =>
      have h0 := hn 0 (by omega)
      simp at h0
      have := ih k (by simpa using hk) (fun j hj => by simpa using hn (j + 1) (by omega)) (fun h => by simpa using hp (by simpa using h))
      simp only [idxP, h0, this, List.length_cons]
      by_cases hk' : k < l.length
      · simp [hk']; omega
      · simp [hk']
theorem idxP_nonneg (p : Int → Bool) (l : List Int) : decide (0 ≤ idxP p l) = l.any p := by
  induction l with
  | nil => simp [idxP]
  | cons y l ih =>
    cases hy : p y
    · simp only [idxP, hy, List.any_cons, Bool.false_or, ← ih]
      by_cases h : idxP p l < 0
      · simp [h]
      · simp [h]; omega
    · simp [idxP, hy]

theorem indexF_any (w : World) (A : Option Addr) (c : Nat) (l : List Int) (hr : ReadsI w A l) (n : Nat) (hn : l.length = n) (hl : n ≤ 1000) :
    Calls Tryd.prog 33 #[.slice A n c, .func (.func 22) #[] #[]] w fun e w' => e = .returned (.int .i64 (idxP outN l)) ∧ w = w' := by
  subst hn
  have HR := Lib.hid hr
  have eg := @enters_fn Tryd.prog 22 _ Tryd.func22 (by kernel_rfl) rfl
  clear hr
  go_enter Tryd.func33, Tryd.ntmps33
  go_wp2
  go_loopg [8] l.length (fun n i wr => ∃ k : Nat, i = .int .i64 k ∧ k + n = l.length ∧ w = wr ∧ (∀ j, j < k → outN (l.getD j 0) = false))
  case atStart => exact ⟨0, rfl, by omega, rfl, by intro j hj; omega⟩
  case round =>
    obtain ⟨k, rfl, hk, rfl, hn⟩ := hrel
    have HN := Lib.hid hn
    have HK := Lib.hid hk
    clear hn hk
    by_cases hlt : k < l.length
    · obtain ⟨b, o, rfl, hc⟩ := reads_at HR.out hlt
      generalize he : l.getD k 0 = y at *
      have HY := Lib.hid he
      clear he
      go_wp2_with fail
      refine (out_any w y).mono ?_
      rintro e w1 ⟨rfl, rfl⟩
      cases hpy : outN y
      · go_wp2
        go_roundg (gk - 1)
        case measure => have := HK.out; omega
        case rel =>
          refine ⟨k + 1, by simp, by have := HK.out; omega, rfl, ?_⟩
          intro j hj
          by_cases hjk : j = k
          · subst hjk; rw [HY.out]; exact hpy
          · exact HN.out j (by omega)
      · go_wp2
        go_ret
        refine ⟨?_, rfl⟩
        rw [idxP_take outN l k (by omega) HN.out (fun _ => by rw [HY.out]; exact hpy), if_pos hlt]; rfl
    · go_wp2
      go_ret
      refine ⟨?_, rfl⟩
      rw [idxP_take outN l k (by have := HK.out; omega) HN.out (fun h => absurd h hlt), if_neg hlt]; rfl

theorem containsF_any (w : World) (A : Option Addr) (c : Nat) (l : List Int) (hr : ReadsI w A l) (n : Nat) (hn : l.length = n) (hl : n ≤ 1000) :
    Calls Tryd.prog 21 #[.slice A n c, .func (.func 22) #[] #[]] w fun e w' => e = .returned (.bool (l.any outN)) ∧ w = w' := by
  have HN := Lib.hid hn
  clear hn
  go_enter Tryd.func21, Tryd.ntmps21
  go_wp2_with fail
  refine (indexF_any w A c l hr n HN.out hl).mono ?_
  rintro e w1 ⟨rfl, rfl⟩
  go_wp2
  go_ret
  exact ⟨ret_bool (idxP_nonneg outN l), rfl⟩


end Go.Proofs.YtconmkhoiomeiaaDoor