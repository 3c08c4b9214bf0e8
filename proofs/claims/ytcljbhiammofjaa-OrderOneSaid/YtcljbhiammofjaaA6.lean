/- The walk of the closure that makes a call and searches on. -/
import Derived.Test.YtcljbhiammofjaaA5
namespace Go.Proofs.Ytcljbhiammofjaa
open Go.RowKit

structure Par where
  p : Nat
  r : Nat
  AS : Option Addr
  AT : Option Addr
  AL : Option Addr
  cS : Nat
  cT : Nat
  cL : Nat
  S : List En
  T : List En
  L : List Ld
  room : Int
def EnvP (w : World) (c : Par) : Prop := Env w c.p c.r c.AS c.AT c.AL c.cS c.cT c.cL c.S c.T c.L c.room
def Par.loads (c : Par) : List (List Int) := c.L.map (·.load)
def Par.search (c : Par) (f : Nat) : Nat → Nat → Cn → Tr → Found := searchP c.S c.T c.room c.loads f
/-- the calls of both lists are of their kinds. -/
def Kinds (c : Par) : Prop := (∀ i, i < c.S.length → (c.S.getD i default).kind = 1) ∧ (∀ k, k < c.T.length → (c.T.getD k default).kind = 2 ∨ (c.T.getD k default).kind = 3)

/-- what a result's numbers are. -/
def OwnI (w : World) (base : Nat) (v : Value) (l : List Int) : Prop := w.ownsRow base 3 1 v l.length (l.map (Value.int .i64))

/-- what is proved of from. -/
def FromSaid (c : Par) (f : Nat) : Prop := ∀ (w : World) (i k : Nat) (n : Cn) (t : Tr), EnvP w c → TriedAt w c.r t → i ≤ c.S.length → k ≤ c.T.length → (c.S.length - i) + (c.T.length - k) < f → Good c.S c.L n i →
  Calls Try.prog 13 #[.pointer (some ⟨c.p, 0, none⟩), .agg #[.int .i64 i, .int .i64 k], .agg #[.int .i64 n.put, .int .i64 n.got, .int .i64 n.back]] w fun e w' =>
    ∃ v, e = .returned (.tuple #[v, .bool (c.search f i k n t).1.isSome]) ∧ OwnI w' w.heap.size v ((c.search f i k n t).1.getD []) ∧ w.grownBy w' (some c.r) ∧ TriedAt w' c.r (c.search f i k n t).2

theorem below_cells {W w1 : World} (hb : Below W.heap.size W w1) : (∀ b o, b < W.heap.size → w1.cell? ⟨b, o, none⟩ = W.cell? ⟨b, o, none⟩) ∧ (∀ b o, b < W.heap.size → w1.frozen? ⟨b, o, none⟩ = W.frozen? ⟨b, o, none⟩) :=
  ⟨fun b o h => hb.cell (p := ⟨b, o, none⟩) h, fun b o h => hb.frozen (p := ⟨b, o, none⟩) h⟩
theorem ownsRow_mono {w : World} {base base' : Nat} {e : TypeId} {size : Nat} {v : Value} {n : Nat} {xs : List Value} (h : w.ownsRow base e size v n xs) (hb : base' ≤ base) : w.ownsRow base' e size v n xs := by
  obtain ⟨h1, h2⟩ := h
  refine ⟨h1, ?_⟩
  rcases h2 with h2 | ⟨g, cap, cur, h2, h3, h4⟩
  · exact .inl h2
  · exact .inr ⟨g, cap, cur, h2, by omega, h4⟩

theorem own_ge {w : World} {base n : Nat} {e : TypeId} {size : Nat} {v : Value} {xs : List Value} (h : w.ownsRow base e size v n xs) {k : Nat} (hk : v.ownBlock = some k) : base ≤ k := by
  rcases h.2 with ⟨rfl, _⟩ | ⟨g, cap, cur, rfl, hb, _⟩
  · simp [Value.ownBlock] at hk
  · have : g = k := by simpa [Value.ownBlock] using hk
    omega
theorem Try.info3 : (Try.prog.info? 3).map (fun i => (i.zero, i.size, i.bytes)) = some (some (.int .i64 0), 1, 8) := by kernel_rfl

set_option maxHeartbeats 800000 in
theorem go1_any (c : Par) (f : Nat) (hf : FromSaid c f) (w : World) (B Bn : Nat) (x : En) (i k : Nat) (n : Cn) (j : Nat) (name : Int) (t : Tr) (he : EnvP w c) (ht : TriedAt w c.r t)
    (hB : w.heap[B]? = some (.cells #[.pointer (some ⟨c.p, 0, none⟩)] 42 (0, 0))) (hBn : w.heap[Bn]? = some (.cells #[.int .i64 n.put, .int .i64 n.got, .int .i64 n.back] 50 (0, 0)))
    (hi : i ≤ c.S.length) (hk : k ≤ c.T.length) (hm : (c.S.length - i) + (c.T.length - k) < f) (hg : Good c.S c.L n j) (hg2 : (doesP c.room c.loads n x).2 = true → Good c.S c.L (doesP c.room c.loads n x).1 i)
    (hx : x.load.length = x.len) (hx2 : x.len ≤ 1000) (hx3 : ReadsI w x.adr x.load) (hfl : f ≤ 5000) :
    Calls Try.prog 20 #[.agg x.cells, .agg #[.int .i64 i, .int .i64 k], .int .i64 name, .pointer (some ⟨B, 0, none⟩), .pointer (some ⟨Bn, 0, none⟩)] w fun e w' =>
      ∃ v, e = .returned (.tuple #[v, .bool (goP c.room c.loads (c.search f) n x i k t name).1.isSome]) ∧ (∀ l, (goP c.room c.loads (c.search f) n x i k t name).1 = some l → OwnI w' w.heap.size v l) ∧ w.grownBy w' (some c.r) ∧ TriedAt w' c.r (goP c.room c.loads (c.search f) n x i k t name).2 := by
  have cB : w.cell? ⟨B, 0, none⟩ = some (.pointer (some ⟨c.p, 0, none⟩)) := by simp [World.cell?, hB]
  have c0 : w.cell? ⟨Bn, 0, none⟩ = some (.int .i64 n.put) := by simp [World.cell?, hBn]
  have c1 : w.cell? ⟨Bn, 1, none⟩ = some (.int .i64 n.got) := by simp [World.cell?, hBn]
  have c2 : w.cell? ⟨Bn, 2, none⟩ = some (.int .i64 n.back) := by simp [World.cell?, hBn]
  have l1 := lt_of_block hB
  have l2 := lt_of_block hBn
  have l1a : B < w.heap.size + 1 := by omega
  have l2a : Bn < w.heap.size + 1 := by omega
  have l1b : B < w.heap.size + 2 := by omega
  have l2b : Bn < w.heap.size + 2 := by omega
  clear hB hBn
  have HE := Lib.hid he
  have HT := Lib.hid ht
  have HG := Lib.hid hg
  have HG2 := Lib.hid hg2
  have HX := Lib.hid hx
  have HX3 := Lib.hid hx3
  have HF := Lib.hid hf
  clear he ht hg hg2 hx hx3 hf
  unfold En.cells
  go_enter Try.func20, Try.ntmps20
  go_wp2_with fail
  have hb0 : Below w.heap.size w ((w.alloc (.cells #[.int .i64 x.core, .int .i64 x.peer, .int .i64 x.kind, .int .i64 x.bg, .int .i64 x.nd, .int .i64 x.err, .slice x.adr x.len x.cap, .int .i64 x.handle] 32)).alloc (.cells #[.int .i64 i, .int .i64 k] 48)) := below_al (below_al (Below.refl _ _) _) _
  obtain ⟨W, hW⟩ : ∃ W, W = ((w.alloc (.cells #[.int .i64 x.core, .int .i64 x.peer, .int .i64 x.kind, .int .i64 x.bg, .int .i64 x.nd, .int .i64 x.err, .slice x.adr x.len x.cap, .int .i64 x.handle] 32)).alloc (.cells #[.int .i64 i, .int .i64 k] 48)) := ⟨_, rfl⟩
  have hz : W.heap.size = w.heap.size + 2 := by rw [hW]; simp
  have cB' : W.cell? ⟨B, 0, none⟩ = some (.pointer (some ⟨c.p, 0, none⟩)) := by rw [hW]; exact (hb0.cell (p := ⟨B, 0, none⟩) l1).trans cB
  have ci : W.cell? ⟨w.heap.size + 1, 0, none⟩ = some (.int .i64 i) := by rw [hW]; go_simp
  have ck : W.cell? ⟨w.heap.size + 1, 1, none⟩ = some (.int .i64 k) := by rw [hW]; go_simp
  rw [← hW] at hb0 ⊢
  clear hW
  have HE1 := Lib.hid (Env.only (show Env w c.p c.r c.AS c.AT c.AL c.cS c.cT c.cL c.S c.T c.L c.room from HE.out) HT.out (grown_of_below hb0 _))
  have HT1 := Lib.hid (HT.out.below hb0)
  have HD := does_any W c.p _ c.room c.AL c.cL c.L n x HE1.out.hp rfl rfl (by have := HG.out; have := this.back; have := HG.out.got; have := HG.out.put; omega) (by have := HG.out.left; omega) HG.out.back (by have := HG.out.left; have := HG.out.got; have := HG.out.put; have := HE1.out.lL; omega)
    (by have := HG.out.back; have := HG.out.got; omega) HG.out.put HE1.out.hL HE1.out.lL HX.out hx2 (HX3.out.below hb0)
  unfold DoesSaid En.cells at HD
  obtain ⟨⟨m, ok⟩, hm⟩ : ∃ q, doesP c.room (c.L.map (·.load)) n x = q := ⟨_, rfl⟩
  rw [hm] at HD
  have HM := Lib.hid hm
  clear hm
  refine HD.mono ?_
  rintro e w1 ⟨rfl, hb1⟩
  clear HD
  obtain ⟨q1, q2⟩ := below_cells hb1
  have h01 : Below w.heap.size w w1 := hb0.trans (hb1.mono hb0.size)
  have ci1 := (q1 _ 0 (show w.heap.size + 1 < W.heap.size by omega)).trans ci
  have ck1 := (q1 _ 1 (show w.heap.size + 1 < W.heap.size by omega)).trans ck
  have cB1 := (q1 _ 0 (show B < W.heap.size by omega)).trans cB'
  have hz1 : w.heap.size + 1 < w1.heap.size := by have := hb1.size; omega
  have hz2 : B < w1.heap.size := by omega
  have HZ := Lib.hid hz
  clear cB c0 c1 c2 cB' ci ck q1 q2 hz
  cases ok
  · have HP : Hid (goP c.room c.loads (c.search f) n x i k t name = (none, t)) := by
      show _ = _
      unfold goP
      rw [show c.loads = c.L.map (·.load) from rfl, HM.out]
      rfl
    go_wp2
    refine bodyPost_ret (results_tmp2 rfl _ _ _) rfl ⟨.slice none 0 0, by rw [HP.out]; rfl, ?_, grown_of_below (below_al h01 _) _, ?_⟩
    · rw [HP.out]; intro l hl; simp at hl
    · rw [HP.out]; exact HT.out.below (below_al h01 _)
  · go_wp2_with fail
    have h02 : Below w.heap.size w (w1.alloc (.cells #[.int .i64 m.put, .int .i64 m.got, .int .i64 m.back] 50)) := below_al h01 _
    have HF1 := HF.out _ i k m t (Env.only (show Env w c.p c.r c.AS c.AT c.AL c.cS c.cT c.cL c.S c.T c.L c.room from HE.out) HT.out (grown_of_below h02 _)) (HT.out.below h02) hi hk hm (by have := HG2.out; rw [show c.loads = c.L.map (·.load) from rfl, HM.out] at this; exact this rfl)
    have HP : Hid (goP c.room c.loads (c.search f) n x i k t name = match c.search f i k m t with | (some l, t') => (some (l ++ [name]), t') | (none, t') => (none, t')) := by
      show _ = _
      unfold goP
      rw [show c.loads = c.L.map (·.load) from rfl, HM.out]
      rfl
    have HLn : Hid (∀ l t', c.search f i k m t = (some l, t') → l.length ≤ f) := fun l t' h => searchP_len _ _ _ _ _ _ _ _ _ _ _ h
    obtain ⟨⟨res, t2⟩, hres⟩ : ∃ q, c.search f i k m t = q := ⟨_, rfl⟩
    have HRS := Lib.hid hres
    rw [hres] at HF1
    clear hres
    refine HF1.mono ?_
    rintro e w2 ⟨v, rfl, hv, hg, ht⟩
    clear HF1
    have hsz : w.heap.size ≤ (w1.alloc (.cells #[.int .i64 m.put, .int .i64 m.got, .int .i64 m.back] 50)).heap.size := h02.size
    have hv2 : OwnI w2 w.heap.size v (res.getD []) := ownsRow_mono hv hsz
    have hg2 : w.grownBy w2 (some c.r) := (grown_of_below h02 _).trans hg
    have hsz2 : w.heap.size ≤ w2.heap.size := hg2.size
    have hlen : (res.getD []).length ≤ 5000 := by
      cases res with
      | none => simp
      | some l => have := HLn.out l t2 HRS.out; simp; omega
    have HV := Lib.hid hv2
    have HGr := Lib.hid hg2
    have HTr := Lib.hid ht
    clear hv hv2 hg hg2 ht hsz
    obtain ⟨i0, hi0, hz0, hz1', hz2'⟩ := info_parts Try.info3
    go_wp2_with (at_builtin; refine wpList_append_own_at _ rfl _ _ 26 rfl w.heap.size 3 i0 (.int .i64 0) 1 8 Try.underlying26 hi0 hz0 hz1' hz2' rfl (by decide) v (res.getD []).length ((res.getD []).map (Value.int .i64)) rfl (HV.out.alloc _) ⟨w2.heap.size, 0, none⟩ 1 1 [.int .i64 name] rfl rfl ?c1 ?c2 ?c3 ?c4 ?c5 ?_)
    case c1 => exact cell_one_new _ _ _
    case c2 => intro u hu; simp at hu; subst hu; rfl
    case c3 => unfold maxLen; omega
    case c4 => omega
    case c5 => simp; omega
    intro v' w3 ho3 hg3 _ _
    have HO3 := Lib.hid ho3
    have HG3 := Lib.hid hg3
    clear ho3 hg3
    go_wp2
    have hrl : c.r < w.heap.size := by
      obtain ⟨es, ck, hmm, _⟩ := HT.out
      exact lt_of_block hmm
    refine bodyPost_ret (results_tmp2 rfl _ _ _) rfl ⟨v', ?_, ?_, ?_, ?_⟩
    · rw [HP.out, HRS.out]
      cases res <;> rfl
    · intro l hl
      rw [HP.out, HRS.out] at hl
      cases res with
      | none => simp at hl
      | some l0 =>
        simp only [Option.some.injEq] at hl
        subst hl
        have := HO3.out
        unfold OwnI
        simpa using this
    · have h1 : w.grownBy (w2.alloc (.cells #[.int .i64 name] 3)) (some c.r) := HGr.out.trans (grown_of_below (below_al (Below.refl _ _) _) _)
      exact ⟨HG3.out.os.trans h1.os, HG3.out.tape.trans h1.tape, HG3.out.output.trans h1.output, Nat.le_trans h1.size HG3.out.size, fun q hq hne => (HG3.out.block q (Nat.lt_of_lt_of_le hq h1.size) (fun e => by have := own_ge HV.out e.symm; omega)).trans (h1.block q hq hne)⟩
    · rw [HP.out, HRS.out]
      have ht3 : TriedAt w3 c.r t2 := by
        obtain ⟨es, ck, hmm, h2⟩ := HTr.out.below (below_al (Below.refl _ _) (.cells #[.int .i64 name] 3))
        exact ⟨es, ck, (HG3.out.block c.r (lt_of_block hmm) (fun e => by have := own_ge HV.out e.symm; omega)).trans hmm, h2⟩
      cases res <;> exact ht3

end Go.Proofs.Ytcljbhiammofjaa
