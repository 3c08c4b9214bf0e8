/- Four rows of the call's own, side by side. -/
import Derived.Test.YtcljbhiammofjaaC2
namespace Go.Proofs.Ytcljbhiammofjaa
open Go.RowKit

/-- two rows that don't share a block. -/
def Apart (a b : Value) : Prop := a.ownBlock = none ∨ a.ownBlock ≠ b.ownBlock
theorem Apart.symm {a b : Value} (h : Apart a b) : Apart b a := by
  unfold Apart at *
  cases ha : a.ownBlock with
  | none => cases hb : b.ownBlock with
    | none => exact .inl rfl
    | some q => exact .inr (by simp)
  | some p =>
    rw [ha] at h
    rcases h with h | h
    · cases h
    · exact .inr (fun e => h e.symm)
theorem own_lt {w : World} {base n size : Nat} {e : TypeId} {v : Value} {xs : List Value} (h : w.ownsRow base e size v n xs) {q : Nat} (hq : v.ownBlock = some q) : q < w.heap.size := by
  rcases h.2 with ⟨rfl, _⟩ | ⟨g, cap, cur, rfl, _, h2, _⟩
  · simp [Value.ownBlock] at hq
  · simp [Value.ownBlock] at hq; subst hq; exact lt_of_block h2
theorem Apart.grown {W : World} {base n size : Nat} {e : TypeId} {a a' v : Value} {xs : List Value} (h : Apart v a) (ho : W.ownsRow base e size v n xs) (hg : a'.ownBlock = a.ownBlock ∨ a'.ownBlock = some W.heap.size) : Apart v a' := by
  unfold Apart at *
  rcases hg with hg | hg
  · rw [hg]; exact h
  · cases hv : v.ownBlock with
    | none => exact .inl rfl
    | some q =>
      have := own_lt ho hv
      refine .inr fun e => ?_
      rw [hg] at e
      injection e with e
      omega
theorem own_below {w w' : World} {base n size : Nat} {e : TypeId} {v : Value} {xs : List Value} (h : w.ownsRow base e size v n xs) (hb : Below w.heap.size w w') : w'.ownsRow base e size v n xs := by
  obtain ⟨h1, h2⟩ := h
  refine ⟨h1, ?_⟩
  rcases h2 with h2 | ⟨g, cap, cur, e1, e2, e3, e4⟩
  · exact .inl h2
  · exact .inr ⟨g, cap, cur, e1, e2, (hb.block g (lt_of_block e3)).trans e3, e4⟩

/-- what is gathered: sent ones, taken ones, names, loads. -/
structure Four (w wr : World) (S T : List En) (W : List Int) (L : List Ld) (a b c d : Value) : Prop where
  os : OwnE wr w.heap.size a S
  ot : OwnE wr w.heap.size b T
  ow : OwnI wr w.heap.size c W
  ol : wr.ownsRow w.heap.size 26 1 d L.length (L.map Ld.val)
  bel : Below w.heap.size w wr
  ab : Apart a b
  ac : Apart a c
  ad : Apart a d
  bc : Apart b c
  bd : Apart b d
  cd : Apart c d

theorem Four.zero (w : World) : Four w w [] [] [] [] (.slice none 0 0) (.slice none 0 0) (.slice none 0 0) (.slice none 0 0) :=
  ⟨⟨rfl, .inl ⟨rfl, rfl⟩⟩, ⟨rfl, .inl ⟨rfl, rfl⟩⟩, ⟨rfl, .inl ⟨rfl, rfl⟩⟩, ⟨rfl, .inl ⟨rfl, rfl⟩⟩, Below.refl _ _, .inl rfl, .inl rfl, .inl rfl, .inl rfl, .inl rfl, .inl rfl⟩

theorem Four.below {w wr w' : World} {S T : List En} {W : List Int} {L : List Ld} {a b c d : Value} (h : Four w wr S T W L a b c d) (hb : Below wr.heap.size wr w') : Four w w' S T W L a b c d :=
  ⟨own_below h.os hb, own_below h.ot hb, own_below h.ow hb, own_below h.ol hb, h.bel.trans (hb.mono h.bel.size), h.ab, h.ac, h.ad, h.bc, h.bd, h.cd⟩

theorem Four.addS {w W w' : World} {S T : List En} {N : List Int} {L : List Ld} {a b c d a' : Value} {e : En} (h : Four w W S T N L a b c d) (ho : w'.ownsRow w.heap.size 32 8 a' (S.length + 1) (flat S ++ flat [e])) (hg : W.grownBy w' a.ownBlock) (hn : a'.ownBlock = a.ownBlock ∨ a'.ownBlock = some W.heap.size) :
    Four w w' (S ++ [e]) T N L a' b c d where
  os := by unfold OwnE; rw [flat_append, List.length_append]; exact ho
  ot := h.ot.kept hg h.ab.symm
  ow := h.ow.kept hg h.ac.symm
  ol := h.ol.kept hg h.ad.symm
  bel := below_row h.bel h.os hg h.bel.size
  ab := (h.ab.symm.grown h.ot hn).symm
  ac := (h.ac.symm.grown h.ow hn).symm
  ad := (h.ad.symm.grown h.ol hn).symm
  bc := h.bc
  bd := h.bd
  cd := h.cd
theorem Four.addT {w W w' : World} {S T : List En} {N : List Int} {L : List Ld} {a b c d b' : Value} {e : En} (h : Four w W S T N L a b c d) (ho : w'.ownsRow w.heap.size 32 8 b' (T.length + 1) (flat T ++ flat [e])) (hg : W.grownBy w' b.ownBlock) (hn : b'.ownBlock = b.ownBlock ∨ b'.ownBlock = some W.heap.size) :
    Four w w' S (T ++ [e]) N L a b' c d where
  os := h.os.kept hg h.ab
  ot := by unfold OwnE; rw [flat_append, List.length_append]; exact ho
  ow := h.ow.kept hg h.bc.symm
  ol := h.ol.kept hg h.bd.symm
  bel := below_row h.bel h.ot hg h.bel.size
  ab := h.ab.grown h.os hn
  ac := h.ac
  ad := h.ad
  bc := (h.bc.symm.grown h.ow hn).symm
  bd := (h.bd.symm.grown h.ol hn).symm
  cd := h.cd
theorem Four.addW {w W w' : World} {S T : List En} {N : List Int} {L : List Ld} {a b c d c' : Value} {e : Int} (h : Four w W S T N L a b c d) (ho : w'.ownsRow w.heap.size 3 1 c' (N.length + 1) (N.map (Value.int .i64) ++ [.int .i64 e])) (hg : W.grownBy w' c.ownBlock) (hn : c'.ownBlock = c.ownBlock ∨ c'.ownBlock = some W.heap.size) :
    Four w w' S T (N ++ [e]) L a b c' d where
  os := h.os.kept hg h.ac
  ot := h.ot.kept hg h.bc
  ow := by unfold OwnI; rw [List.map_append, List.length_append]; exact ho
  ol := h.ol.kept hg h.cd.symm
  bel := below_row h.bel h.ow hg h.bel.size
  ab := h.ab
  ac := h.ac.grown h.os hn
  ad := h.ad
  bc := h.bc.grown h.ot hn
  bd := h.bd
  cd := (h.cd.symm.grown h.ol hn).symm
theorem Four.addL {w W w' : World} {S T : List En} {N : List Int} {L : List Ld} {a b c d d' : Value} {e : Ld} (h : Four w W S T N L a b c d) (ho : w'.ownsRow w.heap.size 26 1 d' (L.length + 1) (L.map Ld.val ++ [e.val])) (hg : W.grownBy w' d.ownBlock) (hn : d'.ownBlock = d.ownBlock ∨ d'.ownBlock = some W.heap.size) :
    Four w w' S T N (L ++ [e]) a b c d' where
  os := h.os.kept hg h.ad
  ot := h.ot.kept hg h.bd
  ow := h.ow.kept hg h.cd
  ol := by rw [List.map_append, List.length_append]; exact ho
  bel := below_row h.bel h.ol hg h.bel.size
  ab := h.ab
  ac := h.ac
  ad := h.ad.grown h.os hn
  bc := h.bc
  bd := h.bd.grown h.ot hn
  cd := h.cd.grown h.ow hn

/-- a slice of calls that are asked for: two cells each. -/
def ReadsA (w : World) (A : Option Addr) (l : List Ask) : Prop := l = [] ∨ ∃ b o, A = some ⟨b, o, none⟩ ∧ ∀ i, i < l.length → w.cell? ⟨b, o + i * 2, none⟩ = some (.int .i64 (l.getD i default).kind) ∧ w.cell? ⟨b, o + i * 2 + 1, none⟩ = some (l.getD i default).ld.val
/-- the run of the first k. -/
def runP (room : Int) (l : List Ask) : Nat → Run
  | 0 => ⟨[], [], 0, 0⟩
  | k + 1 => stepP room (runP room l k) k (l.getD k default)
theorem runP_fair (room : Int) (hr : 0 ≤ room) (l : List Ask) : ∀ k, Fair room (runP room l k) k
  | 0 => Fair.zero room hr
  | k + 1 => (runP_fair room hr l k).step _

/-- the loads of what was gathered lie where they lay. -/
def LdOk (w : World) (x : Ld) : Prop := x.load.length = x.len ∧ x.len ≤ 8 ∧ ReadsI w x.adr x.load
structure Oks (w : World) (r : Run) : Prop where
  e : ∀ x ∈ r.E, LdOk w x.ld
  l : ∀ x ∈ r.L, LdOk w x
theorem Oks.step {w : World} {room : Int} {r : Run} {i : Nat} {a : Ask} (h : Oks w r) (ha : LdOk w a.ld) (hf : r.got ≤ r.L.length) : Oks w (stepP room r i a) := by
  have hbl : ∀ q, LdOk w (blank q i).ld := fun q => ⟨rfl, by show (0 : Nat) ≤ 8; omega, .inl rfl⟩
  have hadd : ∀ x : En, LdOk w x.ld → ∀ y ∈ r.E ++ [x], LdOk w y.ld := by
    intro x hx y hy
    rcases List.mem_append.1 hy with hy | hy
    · exact h.e y hy
    · simp at hy; subst hy; exact hx
  unfold stepP
  dsimp only
  by_cases q0 : a.kind.tmod 3 = 0
  · rw [if_pos q0]
    by_cases hf : room ≤ (r.L.length : Int) - r.back
    · rw [if_pos hf]
      exact ⟨hadd _ ha, h.l⟩
    · rw [if_neg hf]
      refine ⟨hadd _ ha, fun x hx => ?_⟩
      rcases List.mem_append.1 hx with hx | hx
      · exact h.l x hx
      · simp at hx; subst hx; exact ha
  · rw [if_neg q0]
    by_cases q1 : a.kind.tmod 3 = 1 ∧ r.got < r.L.length
    · rw [if_pos q1]
      refine ⟨hadd _ ?_, h.l⟩
      have : r.L.getD r.got default ∈ r.L := by
        rw [List.getD_eq_getElem?_getD, List.getElem?_eq_getElem q1.2]
        exact List.getElem_mem q1.2
      exact h.l _ this
    · rw [if_neg q1]
      by_cases q2 : a.kind.tmod 3 = 1
      · rw [if_pos q2]
        exact ⟨hadd _ (hbl (a.kind.tmod 3)), h.l⟩
      · rw [if_neg q2]
        by_cases q3 : a.kind.tmod 3 = 2 ∧ r.back < r.got
        · rw [if_pos q3]
          exact ⟨hadd _ (hbl (a.kind.tmod 3)), h.l⟩
        · rw [if_neg q3]
          exact h

end Go.Proofs.Ytcljbhiammofjaa
