/- The entries of a channel, by the reference; loads that are copied. -/
import Derived.Test.YtbfpaemaiaeljaaDoorD2
import Derived.Test.YtbfpaemaiaeljaaDoorShelf
namespace Go.Proofs.YtbfpaemaiaeljaaDoor
open Go.RowKit

theorem news_entry {W : World} {g : Nat} {y : En} {e : TypeId} (h : W.heap[g]? = some (.cells y.cells e (0, 0))) : ∀ j u, (flat [y])[j]? = some u → W.cell? ((⟨g, 0, none⟩ : Addr).add j) = some u := by
  refine reads_news (l := [y]) (fun i hi j hj => ?_)
  have hi0 : i = 0 := by simp at hi; omega
  subst hi0
  simp only [World.cell?, h]
  simp

theorem new_block2 (w : World) (o o' : Obj) : ((w.alloc o).alloc o').heap[w.heap.size + 1]? = some o' := by
  have := new_block (w.alloc o) o'
  simpa using this
theorem box_kept {wr w4 : World} {base n size : Nat} {e : TypeId} {v : Value} {xs : List Value} {o o' : Obj} (h : wr.ownsRow base e size v n xs) (hg : ((wr.alloc o).alloc o').grownBy w4 v.ownBlock) : w4.heap[wr.heap.size]? = some o := by
  rw [hg.block wr.heap.size (by simp; omega) (fun e => by have := own_lt h e.symm; omega), Below.heap_alloc _ _ _ (by simp)]
  exact new_block _ _

/-- two rows of entries of the call's own. -/
structure Two (e : TypeId) (w wr : World) (S T : List En) (a b : Value) : Prop where
  os : OwnE e wr w.heap.size a S
  ot : OwnE e wr w.heap.size b T
  bel : Below w.heap.size w wr
  ab : Apart a b
theorem Two.zero (e : TypeId) (w : World) : Two e w w [] [] (.slice none 0 0) (.slice none 0 0) := ⟨⟨rfl, .inl ⟨rfl, rfl⟩⟩, ⟨rfl, .inl ⟨rfl, rfl⟩⟩, Below.refl _ _, .inl rfl⟩
theorem Two.below {e : TypeId} {w wr w' : World} {S T : List En} {a b : Value} (h : Two e w wr S T a b) (hb : Below wr.heap.size wr w') : Two e w w' S T a b :=
  ⟨own_below h.os hb, own_below h.ot hb, h.bel.trans (hb.mono h.bel.size), h.ab⟩
theorem Two.addS {e : TypeId} {w W w' : World} {S T : List En} {a b a' : Value} {x : En} (h : Two e w W S T a b) (ho : w'.ownsRow w.heap.size e 8 a' (S.length + 1) (flat S ++ flat [x])) (hg : W.grownBy w' a.ownBlock) {q : Nat} (hn : a'.ownBlock = a.ownBlock ∨ a'.ownBlock = some q) (hq : q = W.heap.size) :
    Two e w w' (S ++ [x]) T a' b where
  os := by unfold OwnE; rw [flat_append, List.length_append]; exact ho
  ot := h.ot.kept hg h.ab.symm
  bel := below_row h.bel h.os hg h.bel.size
  ab := (h.ab.symm.grown h.ot (by subst hq; exact hn)).symm
theorem Two.addT {e : TypeId} {w W w' : World} {S T : List En} {a b b' : Value} {x : En} (h : Two e w W S T a b) (ho : w'.ownsRow w.heap.size e 8 b' (T.length + 1) (flat T ++ flat [x])) (hg : W.grownBy w' b.ownBlock) {q : Nat} (hn : b'.ownBlock = b.ownBlock ∨ b'.ownBlock = some q) (hq : q = W.heap.size) :
    Two e w w' S (T ++ [x]) a b' where
  os := h.os.kept hg h.ab
  ot := by unfold OwnE; rw [flat_append, List.length_append]; exact ho
  bel := below_row h.bel h.ot hg h.bel.size
  ab := h.ab.grown h.os (by subst hq; exact hn)

/-- is an entry one that was sent from a core to a core? -/
def sentP (f t : Int) (x : En) : Bool := x.kind == 1 && x.core == f && x.peer == t
/-- is an entry one that was received, or given back, on such a channel? -/
def takenP (f t : Int) (x : En) : Bool := (x.kind == 2 || x.kind == 3) && x.core == t && x.peer == f

theorem filter_next (p : En → Bool) (l : List En) (j : Nat) (h : j < l.length) : (l.take (j + 1)).filter p = if p (l.getD j default) then (l.take j).filter p ++ [l.getD j default] else (l.take j).filter p := by
  rw [take_next l j h, List.filter_append]
  generalize l.getD j default = y
  cases hp : p y <;> simp [hp]
theorem filter_len (p : En → Bool) (l : List En) (j : Nat) : ((l.take j).filter p).length ≤ j := Nat.le_trans (List.length_filter_le _ _) (by simp; omega)

set_option maxHeartbeats 6400000 in
theorem refOf_any (w : World) (A : Option Addr) (c : Nat) (l : List En) (f t : Int) (hr : ReadsE w A l) (n : Nat) (hn : l.length = n) (hl : n ≤ 1000) :
    Calls Tryd.prog 10 #[.slice A n c, .int .i64 f, .int .i64 t] w fun e w' => ∃ v1 v2, e = .returned (.tuple #[v1, v2]) ∧ Two 39 w w' (l.filter (sentP f t)) (l.filter (takenP f t)) v1 v2 := by
  subst hn
  have HR := Lib.hid hr
  clear hr
  obtain ⟨i0, hi0, hz0, hz1', hz2'⟩ := info_parts Tryd.info39
  go_enter Tryd.func10, Tryd.ntmps10
  go_wp2
  go_loopg [8, 9, 10] l.length (fun q s8 s9 s10 wr => ∃ j : Nat, s10 = .int .i64 j ∧ j + q = l.length ∧ Two 39 w wr ((l.take j).filter (sentP f t)) ((l.take j).filter (takenP f t)) s8 s9)
  case atStart => exact ⟨0, rfl, by omega, Two.zero 39 w⟩
  case round =>
    obtain ⟨j, rfl, hj, ho⟩ := hrel
    have HJ := Lib.hid hj
    have HO := Lib.hid ho
    clear hj ho
    by_cases hjt : j < l.length
    · rcases HR.out with h0 | ⟨b2, o2, rfl, hr⟩
      · rw [h0] at hjt; exact absurd hjt (by simp)
      obtain ⟨d0, d1, d2, d3, d4, d5, d6, d7⟩ := (hr.below HO.out.bel).at j hjt _ rfl
      have hbb2 := World.block_lt_of_cell? wr _ d0
      simp only at hbb2
      have hk1 := filter_next (sentP f t) l j hjt
      have hk2 := filter_next (takenP f t) l j hjt
      have l1 := filter_len (sentP f t) l j
      have l2 := filter_len (takenP f t) l j
      generalize hy : l.getD j default = y at *
      have HY := Lib.hid hy
      have HK1 := Lib.hid hk1
      have HK2 := Lib.hid hk2
      clear hy hr hk1 hk2
      have q1 : IntKind.i64.wrap ((j : Int) + 1) = (j : Int) + 1 := IntWalk.i64_in _ (by omega)
      generalize hS : (l.take j).filter (sentP f t) = S at *
      generalize hT : (l.take j).filter (takenP f t) = T at *
      have HS := Lib.hid hS
      have HT := Lib.hid hT
      clear hS hT
      have hws : w.heap.size ≤ wr.heap.size := HO.out.bel.size
      by_cases k1 : y.kind = 1
      · have a1 : (y.kind == 1) = true := by simpa using k1
        have a2 : (y.kind == 2) = false := by simp [k1]
        have a3 : (y.kind == 3) = false := by simp [k1]
        clear k1
        cases b1 : (y.core == f)
        · have PS : Hid (sentP f t y = false) := by show _ = _; simp [sentP, a1, a2, a3, b1]
          have PT : Hid (takenP f t y = false) := by show _ = _; simp [takenP, a1, a2, a3, b1]
          go_wp2
          go_roundg (gk - 1)
          case measure => have := HJ.out; omega
          case rel => exact ⟨j + 1, by simp, by have := HJ.out; omega, by rw [HK1.out, HK2.out, PS.out, PT.out]; exact HO.out.below (below_al (Below.refl _ _) _)⟩

        · cases b2 : (y.peer == t)
          · have PS : Hid (sentP f t y = false) := by show _ = _; simp [sentP, a1, a2, a3, b1, b2]
            have PT : Hid (takenP f t y = false) := by show _ = _; simp [takenP, a1, a2, a3, b1, b2]
            go_wp2
            go_roundg (gk - 1)
            case measure => have := HJ.out; omega
            case rel => exact ⟨j + 1, by simp, by have := HJ.out; omega, by rw [HK1.out, HK2.out, PS.out, PT.out]; exact HO.out.below (below_al (Below.refl _ _) _)⟩

          · have PS : Hid (sentP f t y = true) := by show _ = _; simp [sentP, a1, a2, a3, b1, b2]
            have PT : Hid (takenP f t y = false) := by show _ = _; simp [takenP, a1, a2, a3, b1, b2]
            go_wp2_with (at_builtin; refine wpList_append_own_at _ rfl _ _ 31 rfl w.heap.size 39 i0 _ 8 80 Tryd.underlying31 hi0 hz0 hz1' hz2' rfl (by decide) u8 S.length (flat S) rfl ?c0 ⟨wr.heap.size + 1, 0, none⟩ 1 1 (flat [y]) rfl ?c1 ?c2 ?c3 ?c4 ?c5 ?c6 ?_)
            case c0 => exact (HO.out.os.alloc _).alloc _
            case c1 => rfl
            case c2 => exact news_entry (y := y) (new_block2 wr _ _)
            case c3 => exact oneCell_flat _
            case c4 => unfold maxLen; omega
            case c5 => omega
            case c6 => simp; omega
            intro v' w4 ho4 hg4 _ hn4
            have HO4 := Lib.hid ho4
            have HG4 := Lib.hid hg4
            have HN4 := Lib.hid hn4
            clear ho4 hg4 hn4
            obtain ⟨_, _, e2, _, _, _, _, _⟩ := entry_cells (x := y) (box_kept HO.out.os HG4.out)
            go_wp2
            go_roundg (gk - 1)
            case measure => have := HJ.out; omega
            case rel => exact ⟨j + 1, by simp, by have := HJ.out; omega, by rw [HK1.out, HK2.out, PS.out, PT.out]; exact (HO.out.below (below_al (below_al (Below.refl _ _) _) _)).addS HO4.out HG4.out HN4.out (by simp)⟩

      by_cases k2 : y.kind = 2
      · have a1 : (y.kind == 1) = false := by simp [k2]
        have a2 : (y.kind == 2) = true := by simpa using k2
        have a3 : (y.kind == 3) = false := by simp [k2]
        clear k1 k2
        cases b1 : (y.core == t)
        · have PS : Hid (sentP f t y = false) := by show _ = _; simp [sentP, a1, a2, a3, b1]
          have PT : Hid (takenP f t y = false) := by show _ = _; simp [takenP, a1, a2, a3, b1]
          go_wp2
          go_roundg (gk - 1)
          case measure => have := HJ.out; omega
          case rel => exact ⟨j + 1, by simp, by have := HJ.out; omega, by rw [HK1.out, HK2.out, PS.out, PT.out]; exact HO.out.below (below_al (Below.refl _ _) _)⟩

        · cases b2 : (y.peer == f)
          · have PS : Hid (sentP f t y = false) := by show _ = _; simp [sentP, a1, a2, a3, b1, b2]
            have PT : Hid (takenP f t y = false) := by show _ = _; simp [takenP, a1, a2, a3, b1, b2]
            go_wp2
            go_roundg (gk - 1)
            case measure => have := HJ.out; omega
            case rel => exact ⟨j + 1, by simp, by have := HJ.out; omega, by rw [HK1.out, HK2.out, PS.out, PT.out]; exact HO.out.below (below_al (Below.refl _ _) _)⟩

          · have PS : Hid (sentP f t y = false) := by show _ = _; simp [sentP, a1, a2, a3, b1, b2]
            have PT : Hid (takenP f t y = true) := by show _ = _; simp [takenP, a1, a2, a3, b1, b2]
            go_wp2_with (at_builtin; refine wpList_append_own_at _ rfl _ _ 31 rfl w.heap.size 39 i0 _ 8 80 Tryd.underlying31 hi0 hz0 hz1' hz2' rfl (by decide) u9 T.length (flat T) rfl ?c0 ⟨wr.heap.size + 1, 0, none⟩ 1 1 (flat [y]) rfl ?c1 ?c2 ?c3 ?c4 ?c5 ?c6 ?_)
            case c0 => exact (HO.out.ot.alloc _).alloc _
            case c1 => rfl
            case c2 => exact news_entry (y := y) (new_block2 wr _ _)
            case c3 => exact oneCell_flat _
            case c4 => unfold maxLen; omega
            case c5 => omega
            case c6 => simp; omega
            intro v' w4 ho4 hg4 _ hn4
            have HO4 := Lib.hid ho4
            have HG4 := Lib.hid hg4
            have HN4 := Lib.hid hn4
            clear ho4 hg4 hn4
            go_wp2
            go_roundg (gk - 1)
            case measure => have := HJ.out; omega
            case rel => exact ⟨j + 1, by simp, by have := HJ.out; omega, by rw [HK1.out, HK2.out, PS.out, PT.out]; exact (HO.out.below (below_al (below_al (Below.refl _ _) _) _)).addT HO4.out HG4.out HN4.out (by simp)⟩

      by_cases k3 : y.kind = 3
      · have a1 : (y.kind == 1) = false := by simp [k3]
        have a2 : (y.kind == 2) = false := by simp [k3]
        have a3 : (y.kind == 3) = true := by simpa using k3
        clear k1 k2 k3
        cases b1 : (y.core == t)
        · have PS : Hid (sentP f t y = false) := by show _ = _; simp [sentP, a1, a2, a3, b1]
          have PT : Hid (takenP f t y = false) := by show _ = _; simp [takenP, a1, a2, a3, b1]
          go_wp2
          go_roundg (gk - 1)
          case measure => have := HJ.out; omega
          case rel => exact ⟨j + 1, by simp, by have := HJ.out; omega, by rw [HK1.out, HK2.out, PS.out, PT.out]; exact HO.out.below (below_al (Below.refl _ _) _)⟩

        · cases b2 : (y.peer == f)
          · have PS : Hid (sentP f t y = false) := by show _ = _; simp [sentP, a1, a2, a3, b1, b2]
            have PT : Hid (takenP f t y = false) := by show _ = _; simp [takenP, a1, a2, a3, b1, b2]
            go_wp2
            go_roundg (gk - 1)
            case measure => have := HJ.out; omega
            case rel => exact ⟨j + 1, by simp, by have := HJ.out; omega, by rw [HK1.out, HK2.out, PS.out, PT.out]; exact HO.out.below (below_al (Below.refl _ _) _)⟩

          · have PS : Hid (sentP f t y = false) := by show _ = _; simp [sentP, a1, a2, a3, b1, b2]
            have PT : Hid (takenP f t y = true) := by show _ = _; simp [takenP, a1, a2, a3, b1, b2]
            go_wp2_with (at_builtin; refine wpList_append_own_at _ rfl _ _ 31 rfl w.heap.size 39 i0 _ 8 80 Tryd.underlying31 hi0 hz0 hz1' hz2' rfl (by decide) u9 T.length (flat T) rfl ?c0 ⟨wr.heap.size + 1, 0, none⟩ 1 1 (flat [y]) rfl ?c1 ?c2 ?c3 ?c4 ?c5 ?c6 ?_)
            case c0 => exact (HO.out.ot.alloc _).alloc _
            case c1 => rfl
            case c2 => exact news_entry (y := y) (new_block2 wr _ _)
            case c3 => exact oneCell_flat _
            case c4 => unfold maxLen; omega
            case c5 => omega
            case c6 => simp; omega
            intro v' w4 ho4 hg4 _ hn4
            have HO4 := Lib.hid ho4
            have HG4 := Lib.hid hg4
            have HN4 := Lib.hid hn4
            clear ho4 hg4 hn4
            go_wp2
            go_roundg (gk - 1)
            case measure => have := HJ.out; omega
            case rel => exact ⟨j + 1, by simp, by have := HJ.out; omega, by rw [HK1.out, HK2.out, PS.out, PT.out]; exact (HO.out.below (below_al (below_al (Below.refl _ _) _) _)).addT HO4.out HG4.out HN4.out (by simp)⟩

      · have a1 : (y.kind == 1) = false := by simpa using k1
        have a2 : (y.kind == 2) = false := by simpa using k2
        have a3 : (y.kind == 3) = false := by simpa using k3
        clear k1 k2 k3
        have PS : Hid (sentP f t y = false) := by show _ = _; simp [sentP, a1, a2, a3]
        have PT : Hid (takenP f t y = false) := by show _ = _; simp [takenP, a1, a2, a3]
        go_wp2
        go_roundg (gk - 1)
        case measure => have := HJ.out; omega
        case rel => exact ⟨j + 1, by simp, by have := HJ.out; omega, by rw [HK1.out, HK2.out, PS.out, PT.out]; exact HO.out.below (below_al (Below.refl _ _) _)⟩
    · have hjl : j = l.length := by have := HJ.out; omega
      subst hjl
      go_wp2
      go_ret2
      refine ⟨_, _, rfl, ?_⟩
      have := HO.out
      rwa [List.take_length] at this

end Go.Proofs.YtbfpaemaiaeljaaDoor
