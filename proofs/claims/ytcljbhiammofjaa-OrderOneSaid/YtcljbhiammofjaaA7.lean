/- The walk of the search from a place in both lists on. -/
import Derived.Test.YtcljbhiammofjaaA6
import Derived.Deep.DeepCutAuto
import Derived.Deep.RegionHeld3
namespace Go.Proofs.Ytcljbhiammofjaa
open Go.RowKit

/-- what a frame of from lies in, behind its boxes. -/
structure Loc (w0 w : World) (c : Par) (i k : Nat) (n : Cn) (t : Tr) : Prop where
  B0 : w.heap[w0.heap.size]? = some (.cells #[.pointer (some ⟨c.p, 0, none⟩)] 42 (0, 0))
  B1 : w.heap[w0.heap.size + 1]? = some (.cells #[.int .i64 i, .int .i64 k] 48 (0, 0))
  B2 : w.heap[w0.heap.size + 1 + 1]? = some (.cells #[.int .i64 n.put, .int .i64 n.got, .int .i64 n.back] 50 (0, 0))
  env : EnvP w c
  tr : TriedAt w c.r t
  gr : w0.grownBy w (some c.r)
  rl : c.r < w0.heap.size

theorem Loc.only {w0 w w' : World} {c : Par} {i k : Nat} {n : Cn} {t t' : Tr} (h : Loc w0 w c i k n t) (hg : w.grownBy w' (some c.r)) (ht : TriedAt w' c.r t') : Loc w0 w' c i k n t' := by
  have hr := h.rl
  refine ⟨?_, ?_, ?_, Env.only h.env h.tr hg, ht, h.gr.trans hg, hr⟩
  · rw [hg.block _ (lt_of_block h.B0) (by intro e; injection e; omega)]; exact h.B0
  · rw [hg.block _ (lt_of_block h.B1) (by intro e; injection e; omega)]; exact h.B1
  · rw [hg.block _ (lt_of_block h.B2) (by intro e; injection e; omega)]; exact h.B2
theorem Loc.below {w0 w w' : World} {c : Par} {i k : Nat} {n : Cn} {t : Tr} (h : Loc w0 w c i k n t) (hb : Below w.heap.size w w') : Loc w0 w' c i k n t := h.only (grown_of_below hb _) (h.tr.below hb)

theorem Loc.new {w : World} {c : Par} {i k : Nat} {n : Cn} {t : Tr} (he : EnvP w c) (ht : TriedAt w c.r t) :
    Loc w (((w.alloc (.cells #[.pointer (some ⟨c.p, 0, none⟩)] 42)).alloc (.cells #[.int .i64 i, .int .i64 k] 48)).alloc (.cells #[.int .i64 n.put, .int .i64 n.got, .int .i64 n.back] 50)) c i k n t := by
  have hb : Below w.heap.size w (((w.alloc (.cells #[.pointer (some ⟨c.p, 0, none⟩)] 42)).alloc (.cells #[.int .i64 i, .int .i64 k] 48)).alloc (.cells #[.int .i64 n.put, .int .i64 n.got, .int .i64 n.back] 50)) := below_al (below_al (below_al (Below.refl _ _) _) _) _
  have hr : c.r < w.heap.size := by
    obtain ⟨es, ck, hmm, _⟩ := ht
    exact lt_of_block hmm
  refine ⟨?_, ?_, ?_, Env.only he ht (grown_of_below hb _), ht.below hb, grown_of_below hb _, hr⟩
  · rw [(below_al (Below.refl _ _) _).block _ (by simp <;> omega)]
    rw [(below_al (Below.refl _ _) _).block _ (by simp <;> omega)]
    exact new_block _ _
  · rw [(below_al (Below.refl _ _) _).block _ (by simp <;> omega)]
    have := new_block (w.alloc (.cells #[.pointer (some ⟨c.p, 0, none⟩)] 42)) (.cells #[.int .i64 i, .int .i64 k] 48)
    simpa using this
  · have := new_block ((w.alloc (.cells #[.pointer (some ⟨c.p, 0, none⟩)] 42)).alloc (.cells #[.int .i64 i, .int .i64 k] 48)) (.cells #[.int .i64 n.put, .int .i64 n.got, .int .i64 n.back] 50)
    simpa using this

/-- the cells of a frame of from. -/
theorem Loc.cells {w0 w : World} {c : Par} {i k : Nat} {n : Cn} {t : Tr} (h : Loc w0 w c i k n t) :
    w.cell? ⟨w0.heap.size, 0, none⟩ = some (.pointer (some ⟨c.p, 0, none⟩)) ∧ w.cell? ⟨w0.heap.size + 1, 0, none⟩ = some (.int .i64 i) ∧ w.cell? ⟨w0.heap.size + 1, 1, none⟩ = some (.int .i64 k) ∧
    w.cell? ⟨c.p, 0, none⟩ = some (.slice c.AS c.S.length c.cS) ∧ w.cell? ⟨c.p, 1, none⟩ = some (.slice c.AT c.T.length c.cT) ∧ w.cell? ⟨c.p, 4, none⟩ = some (.map (some c.r)) ∧
    c.p < w.heap.size ∧ w0.heap.size < w.heap.size ∧ w0.heap.size + 1 < w.heap.size ∧ w0.heap.size + 1 + 1 < w.heap.size ∧ c.r < w.heap.size :=
  ⟨by simp [World.cell?, h.B0], by simp [World.cell?, h.B1], by simp [World.cell?, h.B1], by simp [World.cell?, h.env.hp], by simp [World.cell?, h.env.hp], by simp [World.cell?, h.env.hp],
    lt_of_block h.env.hp, lt_of_block h.B0, lt_of_block h.B1, lt_of_block h.B2, by have := h.rl; have := lt_of_block h.B0; omega⟩

/-- a world in which all that lay in w lies as it lay. -/
structure Later (w : World) where
  z : World
  hb : Below w.heap.size w z
instance (w : World) : Nonempty (Later w) := ⟨⟨w, Below.refl _ _⟩⟩
theorem wp_region_quiet_later {P : Program} {id : Nat} {Q : Exit → Act → World → Prop} {a : Act} {w : World} {l : List Oper} (hm : P.follows .mixedOrders = true) (hB : Region.lexB .any l.toArray = true)
    (h : wpQuiet P l.toArray (fun w' => ∃ z : Later w, w' = z.z) (fun a' => ∀ w', (∃ z : Later w, w' = z.z) → Q .normal a' w') l a) : (Code.region id l.toArray true).wp P Q a w :=
  wp_region_quiet (C := fun w' => ∃ z : Later w, w' = z.z) hm hB ⟨⟨w.drew, (Below.refl _ _).drew⟩, rfl⟩ h
theorem Calls.later_of {P : Program} {f : FuncId} {args : Array Value} {W : World} {z : Later W} {v : Value} (h : Calls P f args z.z fun e w' => e = .returned v ∧ Below z.z.heap.size z.z w') :
    Calls P f args z.z fun e w'' => e = .returned v ∧ ∃ z' : Later W, w'' = z'.z :=
  h.mono fun _ w' ⟨he, hb⟩ => ⟨he, ⟨w', z.hb.trans (hb.mono z.hb.size)⟩, rfl⟩

theorem grown_drew {w w' : World} {r : Option Nat} (h : w.drew.grownBy w' r) : w.grownBy w' r := ⟨h.os, h.tape, h.output, h.size, h.block⟩
theorem Loc.keep {w0 w w1 : World} {c : Par} {i k : Nat} {n : Cn} {t : Tr} (h : Loc w0 w c i k n t) (hg : w.drew.grownBy w1 (some c.r)) (a : Addr) (v : Value) (hc : w.cell? a = some v) : w1.cell? a = some v := by
  obtain ⟨es, ck, hm, h2⟩ := h.tr
  exact cell_only hm (fun _ _ _ => by simp) (grown_drew hg) hc

theorem Loc.lookup {w0 w : World} {c : Par} {i k : Nat} {n : Cn} {t : Tr} (h : Loc w0 w c i k n t) (W : World) (hW : W.heap[c.r]? = w.heap[c.r]?) :
    (Instr.lookup 43 (.map (some c.r)) (.agg #[.int .i64 i, .int .i64 k]) true).run Try.prog W = .ok (.tuple #[.agg #[], .bool (t.contains (i, k))]) W := by
  obtain ⟨es, ck, hm, h2⟩ := h.tr
  exact run_lookup_pair W c.r t ⟨es, ck, hW.trans hm, h2⟩ (i, k)

/-- the second way, if the first one led nowhere. -/
def contP (R : Found) (g : Tr → Found) : Found :=
  match R with
  | (some l, t') => (some l, t')
  | (none, t') => g t'
theorem search_eq (c : Par) (f i k : Nat) (n : Cn) (t : Tr) (h1 : (doneP c.S i && doneP c.T k) = false) (h2 : t.contains (i, k) = false) (R1 : Found)
    (hR1 : R1 = (if decide (i < c.S.length) && (freeP c.T k (c.S.getD i default) && freeP c.S (i + 1) (c.S.getD i default)) then goP c.room c.loads (c.search f) n (c.S.getD i default) (i + 1) k (t ++ [(i, k)]) i else (none, t ++ [(i, k)]))) :
    c.search (f + 1) i k n t = contP R1 fun t' => if decide (k < c.T.length) && (freeP c.S i (c.T.getD k default) && freeP c.T (k + 1) (c.T.getD k default)) then goP c.room c.loads (c.search f) n (c.T.getD k default) i (k + 1) t' (c.S.length + k) else (none, t') := by
  subst hR1
  unfold Par.search
  simp only [searchP, h1, h2, if_false, Bool.false_eq_true]
  rfl

theorem done_val (w : World) (A : Option Addr) (c : Nat) (l : List En) (k : Nat) (b : Bool) (hb : Hid (doneP l k = b)) (hr : ReadsE w A l) (n : Nat) (hn : l.length = n) (hk : k ≤ n) (hl : n ≤ 1000) :
    Calls Try.prog 19 #[.slice A n c, .int .i64 k] w fun e w' => e = .returned (.bool b) ∧ w' = w :=
  (done_any w A c l k hr n hn hk hl).mono fun _ _ h => ⟨h.1.trans (by rw [hb.out]), h.2.symm⟩
theorem free_val (w : World) (A : Option Addr) (c : Nat) (l : List En) (k : Nat) (x : En) (b : Bool) (hb : Hid (freeP l k x = b)) (hr : ReadsE w A l) (hk : k ≤ l.length) (hc : l.length ≤ c) (hA : A = none → c = 0) (hl : l.length ≤ 1000) :
    Calls Try.prog 22 #[.slice A l.length c, .int .i64 k, .agg x.cells] w fun e w' => e = .returned (.bool b) ∧ Below w.heap.size w w' :=
  (free_any w A c l k x hr hk hc hA hl).mono fun _ _ h => ⟨h.1.trans (by rw [hb.out]), h.2⟩

set_option maxRecDepth 100000 in
set_option maxHeartbeats 16000000 in
theorem from_step (c : Par) (hks : Kinds c) (f : Nat) (hfl : f ≤ 5000) (hf : FromSaid c f) : FromSaid c (f + 1) := by
  intro w i k n t he ht hi hk hm hg
  have hloc := Lib.hid (Loc.new (n := n) (i := i) (k := k) he ht)
  have HF := Lib.hid hf
  have HKS := Lib.hid hks
  have HG := Lib.hid hg
  clear he ht hf hks hg
  go_enter Try.func13, Try.ntmps13
  go_wp2_with fail
  have hloc := hloc.out
  generalize ((w.alloc (.cells #[.pointer (some ⟨c.p, 0, none⟩)] 42)).alloc (.cells #[.int .i64 i, .int .i64 k] 48)).alloc (.cells #[.int .i64 n.put, .int .i64 n.got, .int .i64 n.back] 50) = W at *
  have lS := hloc.env.lS
  have lT := hloc.env.lT
  have kS := hloc.env.kS
  have kT := hloc.env.kT
  go_upto_region 1 with fail
  go_cut [32] (fun s wx => s = .bool (doneP c.S i && doneP c.T k) ∧ Loc w wx c i k n t)
  case first =>
    as_aux_lemma =>
      obtain ⟨c1, c2, c3, c4, c5, c6, s1, s2, s3, s4, s5⟩ := hloc.cells
      have HL := Lib.hid hloc
      clear hloc
      obtain ⟨d1, hd1⟩ : ∃ b, doneP c.S i = b := ⟨_, rfl⟩
      obtain ⟨d2, hd2⟩ : ∃ b, doneP c.T k = b := ⟨_, rfl⟩
      have H1 := Lib.hid hd1
      have H2 := Lib.hid hd2
      clear hd1 hd2
      cases d1 <;> cases d2
      all_goals
        go_quiet (first | (go_at_call_of 19 (Value.int .i64 (i : Int)); exact Calls.quiet_of_same (done_val _ c.AS c.cS c.S i _ H1 (by exact HL.out.env.hS) c.S.length rfl hi lS)) | (go_at_call_of 19 (Value.int .i64 (k : Int)); exact Calls.quiet_of_same (done_val _ c.AT c.cT c.T k _ H2 (by exact HL.out.env.hT) c.T.length rfl hk lT)))
        go_wp2_with fail
        go_meet
        exact ⟨by rw [H1.out, H2.out]; rfl, HL.out.below (below_drewN (Below.refl _ _) _)⟩
  case rest =>
    as_aux_lemma =>
      obtain ⟨rfl, hloc⟩ := hcut
      cases hdd : (doneP c.S i && doneP c.T k)
      · have HDD := Lib.hid hdd
        clear hdd
        go_upto_region 3 with fail
        go_cut [9] (fun s wx => s = .bool (t.contains (i, k)) ∧ Loc w wx c i k n t)
        case first =>
          as_aux_lemma =>
            obtain ⟨c1, c2, c3, c4, c5, c6, s1, s2, s3, s4, s5⟩ := hloc.cells
            have HL := Lib.hid hloc
            have k1 : ∀ q, (Instr.lookup 43 (.map (some c.r)) (.agg #[.int .i64 i, .int .i64 k]) true).run Try.prog (wc.drewN q) = .ok (.tuple #[.agg #[], .bool (t.contains (i, k))]) (wc.drewN q) := fun q => HL.out.lookup _ rfl
            have k2 : (Instr.lookup 43 (.map (some c.r)) (.agg #[.int .i64 i, .int .i64 k]) true).run Try.prog wc.drew = .ok (.tuple #[.agg #[], .bool (t.contains (i, k))]) wc.drew := HL.out.lookup _ rfl
            have k3 : ∀ o, (Instr.lookup 43 (.map (some c.r)) (.agg #[.int .i64 i, .int .i64 k]) true).run Try.prog (wc.alloc o).drew = .ok (.tuple #[.agg #[], .bool (t.contains (i, k))]) (wc.alloc o).drew := fun o => HL.out.lookup _ ((below_al (Below.refl _ _) o).block _ s5)
            clear hloc
            go_region
            all_goals go_wp2_with fail
            all_goals go_meet
            all_goals exact ⟨by simp, HL.out.below (below_al (Below.refl _ _) _).drew⟩
        case rest =>
          as_aux_lemma =>
            obtain ⟨rfl, hloc⟩ := hcut
            cases htr : t.contains (i, k)
            · have HTR := Lib.hid htr
              clear htr
              go_upto_region 6 with fail
              go_cut [] (fun wx => Loc w wx c i k n (t ++ [(i, k)]))
              case first =>
                as_aux_lemma =>
                  obtain ⟨o, k1, k2, k3⟩ := run_update_pair wc.drew c.r t (hloc.tr.below (Below.refl _ _).drew) (i, k) HTR.out
                  have k4 : (Instr.mapUpdate 43 (.map (some c.r)) (.agg #[.int .i64 i, .int .i64 k]) (.agg #[])).run Try.prog wc.drew = .ok () (setMap wc.drew c.r o) := k1
                  obtain ⟨c1, c2, c3, c4, c5, c6, s1, s2, s3, s4, s5⟩ := hloc.cells
                  have HL := Lib.hid hloc
                  have HT2 := Lib.hid k2
                  have HG2 := Lib.hid k3
                  clear hloc k1 k2 k3
                  go_region
                  all_goals go_wp2_with fail
                  all_goals go_meet
                  all_goals exact (HL.out.below (Below.refl _ _).drew).only HG2.out HT2.out
              case rest =>
                as_aux_lemma =>
                  clear hloc
                  have HL := Lib.hid hcut
                  obtain ⟨c1, c2, c3, c4, c5, c6, s1, s2, s3, s4, s5⟩ := hcut.cells
                  clear hcut
                  go_upto_region 9 with fail
                  go_cut [90] (fun s wx => s = .bool (decide (i < c.S.length) && (freeP c.T k (c.S.getD i default) && freeP c.S (i + 1) (c.S.getD i default))) ∧ Loc w wx c i k n (t ++ [(i, k)]))
                  case first =>
                    as_aux_lemma =>
                      have hz : ∀ (z : Later wc) b o, b < wc.heap.size → z.z.cell? ⟨b, o, none⟩ = wc.cell? ⟨b, o, none⟩ := fun z b o h => z.hb.cell (p := ⟨b, o, none⟩) h
                      have hend : ∀ z : Later wc, Loc w z.z c i k n (t ++ [(i, k)]) := fun z => HL.out.below z.hb
                      have HEnd := Lib.hid hend
                      clear hend
                      by_cases hi2 : i < c.S.length
                      · have hiB : decide (i < c.S.length) = true := by simpa using hi2
                        obtain ⟨b, o, hAS, hrd⟩ : ∃ b o, c.AS = some ⟨b, o, none⟩ ∧ Reads wc b o c.S := by
                          rcases HL.out.env.hS with h0 | h
                          · rw [h0] at hi2; simp at hi2
                          · exact h
                        have hbl := hrd.lt (by omega)
                        obtain ⟨e0, e1, e2, e3, e4, e5, e6, e7⟩ := hrd.at i hi2 _ rfl
                        generalize hx : c.S.getD i default = x at *
                        have HX := Lib.hid hx
                        clear hx hrd
                        obtain ⟨f1, hf1⟩ : ∃ b, freeP c.T k x = b := ⟨_, rfl⟩
                        obtain ⟨f2, hf2⟩ : ∃ b, freeP c.S (i + 1) x = b := ⟨_, rfl⟩
                        have H1 := Lib.hid hf1
                        have H2 := Lib.hid hf2
                        clear hf1 hf2
                        cases f1 <;> cases f2
                        all_goals
                          refine wp_region_quiet_later (by kernel_rfl) (by kernel_rfl) ?_
                          repeat (go_big_quiet_step (first | (go_at_call_of 22 c.T.length; exact Calls.later_of (free_val _ c.AT c.cT c.T k x _ H1 (by exact HL.out.env.hT.below (Later.hb _)) hk kT HL.out.env.nT lT)) | (go_at_call_of 22 c.S.length; exact Calls.later_of (free_val _ _ c.cS c.S (i + 1) x _ H2 (by exact (hAS ▸ HL.out.env.hS.below (Later.hb _))) (by omega) kS (by intro h; simp at h) lS))))
                          refine wpQuiet_nil ?_
                          rintro _ ⟨z, rfl⟩
                          go_wp2_with fail
                          go_meet
                          exact ⟨by simp [hi2, H1.out, H2.out], HEnd.out z⟩
                      · have hiB : decide (i < c.S.length) = false := by simpa using hi2
                        refine wp_region_quiet_later (by kernel_rfl) (by kernel_rfl) ?_
                        repeat (go_big_quiet_step (fail))
                        refine wpQuiet_nil ?_
                        rintro _ ⟨z, rfl⟩
                        go_wp2_with fail
                        go_meet
                        exact ⟨by simp [hi2], HEnd.out z⟩
                  case rest =>
                    as_aux_lemma =>
                      clear c1 c2 c3 c4 c5 c6 s1 s2 s3 s4 s5
                      obtain ⟨rfl, hloc⟩ := hcut
                      obtain ⟨R1, hR1⟩ : ∃ R : Found, R = (if decide (i < c.S.length) && (freeP c.T k (c.S.getD i default) && freeP c.S (i + 1) (c.S.getD i default)) then goP c.room c.loads (c.search f) n (c.S.getD i default) (i + 1) k (t ++ [(i, k)]) i else (none, t ++ [(i, k)])) := ⟨_, rfl⟩
                      have HS1 := Lib.hid (search_eq c f i k n t HDD.out HTR.out R1 hR1)
                      have HR1 := Lib.hid hR1
                      clear hR1
                      go_upto_if 90 with fail
                      go_cut [] (fun wx => R1.1 = none ∧ Loc w wx c i k n R1.2)
                      case first =>
                        as_aux_lemma =>
                          cases hc1 : (decide (i < c.S.length) && (freeP c.T k (c.S.getD i default) && freeP c.S (i + 1) (c.S.getD i default)))
                          · have hr : R1 = (none, t ++ [(i, k)]) := by rw [HR1.out, hc1]; rfl
                            have HR := Lib.hid hr
                            clear hr hc1
                            go_wp2
                            go_meet
                            rw [HR.out]
                            exact ⟨rfl, hloc⟩
                          · have hi2 : i < c.S.length := by
                              simp only [Bool.and_eq_true, decide_eq_true_eq] at hc1
                              exact hc1.1
                            have hr : R1 = goP c.room c.loads (c.search f) n (c.S.getD i default) (i + 1) k (t ++ [(i, k)]) i := by rw [HR1.out, hc1]; rfl
                            have HR := Lib.hid hr
                            clear hr hc1
                            have HL := Lib.hid hloc
                            obtain ⟨c1, c2, c3, c4, c5, c6, s1, s2, s3, s4, s5⟩ := hloc.cells
                            clear hloc
                            obtain ⟨b, o, hAS, hrd⟩ : ∃ b o, c.AS = some ⟨b, o, none⟩ ∧ Reads wc b o c.S := by
                              rcases HL.out.env.hS with h0 | h
                              · rw [h0] at hi2; simp at hi2
                              · exact h
                            have hbl := hrd.lt (by omega)
                            obtain ⟨e0, e1, e2, e3, e4, e5, e6, e7⟩ := hrd.at i hi2 _ rfl
                            have hki := HKS.out.1 i hi2
                            have hlo := HL.out.env.oS i hi2
                            have hgs := HG.out.sent hi2 c.room c.loads hki
                            generalize hx : c.S.getD i default = x at *
                            have HX := Lib.hid hx
                            have HLO := Lib.hid hlo
                            have HGS := Lib.hid hgs
                            clear hx hrd hki hlo hgs
                            have q1 : IntKind.i64.wrap ((i : Int) + 1) = (i : Int) + 1 := IntWalk.i64_in _ (by omega)
                            have q2 : (0 : Int) ≤ (i : Int) := by omega
                            have q3 : (i : Int) < (c.S.length : Int) := by omega
                            go_upto_region 10 with fail
                            go_region_held3 (fun w' => w'.cell? ⟨w.heap.size, 0, none⟩ = some (.pointer (some ⟨c.p, 0, none⟩)) ∧ w'.cell? ⟨w.heap.size + 1, 1, none⟩ = some (.int .i64 k) ∧ w'.cell? ⟨c.p, 0, none⟩ = some (.slice c.AS c.S.length c.cS) ∧
                                w'.cell? ⟨b, o + i * 8, none⟩ = some (.int .i64 x.core) ∧ w'.cell? ⟨b, o + i * 8 + 1, none⟩ = some (.int .i64 x.peer) ∧ w'.cell? ⟨b, o + i * 8 + 2, none⟩ = some (.int .i64 x.kind) ∧ w'.cell? ⟨b, o + i * 8 + 3, none⟩ = some (.int .i64 x.bg) ∧
                                w'.cell? ⟨b, o + i * 8 + 4, none⟩ = some (.int .i64 x.nd) ∧ w'.cell? ⟨b, o + i * 8 + 5, none⟩ = some (.int .i64 x.err) ∧ w'.cell? ⟨b, o + i * 8 + 6, none⟩ = some (.slice x.adr x.len x.cap) ∧ w'.cell? ⟨b, o + i * 8 + 7, none⟩ = some (.int .i64 x.handle))
                              (first | (go_simp; done) | exact ⟨HL.out.keep h2 _ _ c1, HL.out.keep h2 _ _ c3, HL.out.keep h2 _ _ c4, HL.out.keep h2 _ _ e0, HL.out.keep h2 _ _ e1, HL.out.keep h2 _ _ e2, HL.out.keep h2 _ _ e3, HL.out.keep h2 _ _ e4, HL.out.keep h2 _ _ e5, HL.out.keep h2 _ _ e6, HL.out.keep h2 _ _ e7⟩) (first | (go_at_call 20; refine (go1_any c f HF.out _ w.heap.size (w.heap.size + 1 + 1) x (i + 1) k n i (i : Int) (t ++ [(i, k)]) (by exact (HL.out.below (Below.refl _ _).drew).env) (by exact HL.out.tr) (by exact HL.out.B0) (by exact HL.out.B2) (by omega) hk (by omega) HG.out (fun _ => HGS.out) HLO.out.1 HLO.out.2.1 (by exact HLO.out.2.2) (by omega)).mono ?_; rintro e w1 ⟨v, rfl, h1, h2, h3⟩))
                            have hLN : Loc w w1 c i k n (goP c.room c.loads (c.search f) n x (i + 1) k (t ++ [(i, k)]) i).2 := HL.out.only (grown_drew h2) h3
                            have HLN := Lib.hid hLN
                            have HO := Lib.hid h1
                            clear h1 h2 h3 hLN
                            obtain ⟨⟨r1, t2⟩, hgo⟩ : ∃ q, goP c.room c.loads (c.search f) n x (i + 1) k (t ++ [(i, k)]) i = q := ⟨_, rfl⟩
                            rw [hgo] at HR HLN HO
                            rw [hgo]
                            clear hgo
                            cases r1 with
                            | none =>
                              go_wp2
                              go_meet
                              rw [HR.out]
                              exact ⟨rfl, HLN.out⟩
                            | some l1 =>
                              have HS2 : Hid (c.search (f + 1) i k n t = (some l1, t2)) := by
                                show _ = _
                                rw [HS1.out, HR.out]
                                rfl
                              go_wp2
                              go_ret2
                              refine ⟨v, by rw [HS2.out]; rfl, ?_, HLN.out.gr, by rw [HS2.out]; exact HLN.out.tr⟩
                              rw [HS2.out]
                              exact ownsRow_mono (HO.out l1 rfl) (by have := HL.out.gr.size; exact this)
                      case rest =>
                        as_aux_lemma =>
                          obtain ⟨hn1, hloc⟩ := hcut
                          obtain ⟨r0, t2⟩ := R1
                          simp only at hn1 hloc
                          subst hn1
                          have HS3 : Hid (c.search (f + 1) i k n t = (if decide (k < c.T.length) && (freeP c.S i (c.T.getD k default) && freeP c.T (k + 1) (c.T.getD k default)) then goP c.room c.loads (c.search f) n (c.T.getD k default) i (k + 1) t2 (c.S.length + k) else (none, t2))) := HS1.out
                          have HL := Lib.hid hloc
                          obtain ⟨c1, c2, c3, c4, c5, c6, s1, s2, s3, s4, s5⟩ := hloc.cells
                          clear hloc HS1 HR1
                          go_upto_region 14 with fail
                          go_cut [151] (fun s wx => s = .bool (decide (k < c.T.length) && (freeP c.S i (c.T.getD k default) && freeP c.T (k + 1) (c.T.getD k default))) ∧ Loc w wx c i k n t2)
                          case first =>
                            as_aux_lemma =>
                              have hz : ∀ (z : Later wc) b o, b < wc.heap.size → z.z.cell? ⟨b, o, none⟩ = wc.cell? ⟨b, o, none⟩ := fun z b o h => z.hb.cell (p := ⟨b, o, none⟩) h
                              have hend : ∀ z : Later wc, Loc w z.z c i k n t2 := fun z => HL.out.below z.hb
                              have HEnd := Lib.hid hend
                              clear hend
                              by_cases hi2 : k < c.T.length
                              · have hiB : decide (k < c.T.length) = true := by simpa using hi2
                                obtain ⟨b, o, hAT, hrd⟩ : ∃ b o, c.AT = some ⟨b, o, none⟩ ∧ Reads wc b o c.T := by
                                  rcases HL.out.env.hT with h0 | h
                                  · rw [h0] at hi2; simp at hi2
                                  · exact h
                                have hbl := hrd.lt (by omega)
                                obtain ⟨e0, e1, e2, e3, e4, e5, e6, e7⟩ := hrd.at k hi2 _ rfl
                                generalize hx : c.T.getD k default = x at *
                                have HX := Lib.hid hx
                                clear hx hrd
                                obtain ⟨f1, hf1⟩ : ∃ b, freeP c.S i x = b := ⟨_, rfl⟩
                                obtain ⟨f2, hf2⟩ : ∃ b, freeP c.T (k + 1) x = b := ⟨_, rfl⟩
                                have H1 := Lib.hid hf1
                                have H2 := Lib.hid hf2
                                clear hf1 hf2
                                cases f1 <;> cases f2
                                all_goals
                                  refine wp_region_quiet_later (by kernel_rfl) (by kernel_rfl) ?_
                                  repeat (go_big_quiet_step (first | (go_at_call_of 22 c.S.length; exact Calls.later_of (free_val _ c.AS c.cS c.S i x _ H1 (by exact HL.out.env.hS.below (Later.hb _)) hi kS HL.out.env.nS lS)) | (go_at_call_of 22 c.T.length; exact Calls.later_of (free_val _ _ c.cT c.T (k + 1) x _ H2 (by exact (hAT ▸ HL.out.env.hT.below (Later.hb _))) (by omega) kT (by intro h; simp at h) lT))))
                                  refine wpQuiet_nil ?_
                                  rintro _ ⟨z, rfl⟩
                                  go_wp2_with fail
                                  go_meet
                                  exact ⟨by simp [hi2, H1.out, H2.out], HEnd.out z⟩
                              · have hiB : decide (k < c.T.length) = false := by simpa using hi2
                                refine wp_region_quiet_later (by kernel_rfl) (by kernel_rfl) ?_
                                repeat (go_big_quiet_step (fail))
                                refine wpQuiet_nil ?_
                                rintro _ ⟨z, rfl⟩
                                go_wp2_with fail
                                go_meet
                                exact ⟨by simp [hi2], HEnd.out z⟩
                          case rest =>
                            as_aux_lemma =>
                              clear c1 c2 c3 c4 c5 c6 s1 s2 s3 s4 s5
                              obtain ⟨rfl, hloc⟩ := hcut
                              cases hc1 : (decide (k < c.T.length) && (freeP c.S i (c.T.getD k default) && freeP c.T (k + 1) (c.T.getD k default)))
                              · have hr : c.search (f + 1) i k n t = (none, t2) := by rw [HS3.out, hc1]; rfl
                                have HR := Lib.hid hr
                                clear hr hc1
                                go_wp2
                                go_ret2
                                exact ⟨.slice none 0 0, by rw [HR.out]; rfl, by rw [HR.out]; exact ⟨rfl, .inl ⟨rfl, rfl⟩⟩, hloc.gr, by rw [HR.out]; exact hloc.tr⟩
                              · have hi2 : k < c.T.length := by
                                  simp only [Bool.and_eq_true, decide_eq_true_eq] at hc1
                                  exact hc1.1
                                have hr : c.search (f + 1) i k n t = goP c.room c.loads (c.search f) n (c.T.getD k default) i (k + 1) t2 (c.S.length + k) := by rw [HS3.out, hc1]; rfl
                                have HR := Lib.hid hr
                                clear hr hc1
                                have HL := Lib.hid hloc
                                obtain ⟨c1, c2, c3, c4, c5, c6, s1, s2, s3, s4, s5⟩ := hloc.cells
                                clear hloc
                                obtain ⟨b, o, hAT, hrd⟩ : ∃ b o, c.AT = some ⟨b, o, none⟩ ∧ Reads wc b o c.T := by
                                  rcases HL.out.env.hT with h0 | h
                                  · rw [h0] at hi2; simp at hi2
                                  · exact h
                                have hbl := hrd.lt (by omega)
                                obtain ⟨e0, e1, e2, e3, e4, e5, e6, e7⟩ := hrd.at k hi2 _ rfl
                                have hlo := HL.out.env.oT k hi2
                                have hgs := fun hok => HG.out.took c.room c.loads (c.T.getD k default) (HKS.out.2 k hi2) hok
                                generalize hx : c.T.getD k default = x at *
                                have HX := Lib.hid hx
                                have HLO := Lib.hid hlo
                                have HGS := Lib.hid hgs
                                clear hx hrd hlo hgs
                                have q1 : IntKind.i64.wrap ((k : Int) + 1) = (k : Int) + 1 := IntWalk.i64_in _ (by omega)
                                have q4 : IntKind.i64.wrap ((c.S.length : Int) + (k : Int)) = (c.S.length : Int) + (k : Int) := IntWalk.i64_in _ (by omega)
                                have q2 : (0 : Int) ≤ (k : Int) := by omega
                                have q3 : (k : Int) < (c.T.length : Int) := by omega
                                go_upto_region 15 with fail
                                go_region_held3 (fun w' => w'.cell? ⟨w.heap.size, 0, none⟩ = some (.pointer (some ⟨c.p, 0, none⟩)) ∧ w'.cell? ⟨w.heap.size + 1, 0, none⟩ = some (.int .i64 i) ∧ w'.cell? ⟨c.p, 0, none⟩ = some (.slice c.AS c.S.length c.cS) ∧ w'.cell? ⟨c.p, 1, none⟩ = some (.slice c.AT c.T.length c.cT) ∧
                                    w'.cell? ⟨b, o + k * 8, none⟩ = some (.int .i64 x.core) ∧ w'.cell? ⟨b, o + k * 8 + 1, none⟩ = some (.int .i64 x.peer) ∧ w'.cell? ⟨b, o + k * 8 + 2, none⟩ = some (.int .i64 x.kind) ∧ w'.cell? ⟨b, o + k * 8 + 3, none⟩ = some (.int .i64 x.bg) ∧
                                    w'.cell? ⟨b, o + k * 8 + 4, none⟩ = some (.int .i64 x.nd) ∧ w'.cell? ⟨b, o + k * 8 + 5, none⟩ = some (.int .i64 x.err) ∧ w'.cell? ⟨b, o + k * 8 + 6, none⟩ = some (.slice x.adr x.len x.cap) ∧ w'.cell? ⟨b, o + k * 8 + 7, none⟩ = some (.int .i64 x.handle))
                                  (first | (go_simp; done) | exact ⟨HL.out.keep h2 _ _ c1, HL.out.keep h2 _ _ c2, HL.out.keep h2 _ _ c4, HL.out.keep h2 _ _ c5, HL.out.keep h2 _ _ e0, HL.out.keep h2 _ _ e1, HL.out.keep h2 _ _ e2, HL.out.keep h2 _ _ e3, HL.out.keep h2 _ _ e4, HL.out.keep h2 _ _ e5, HL.out.keep h2 _ _ e6, HL.out.keep h2 _ _ e7⟩) (first | (go_at_call 20; refine (go1_any c f HF.out _ w.heap.size (w.heap.size + 1 + 1) x i (k + 1) n i ((c.S.length : Int) + (k : Int)) t2 (by exact (HL.out.below (Below.refl _ _).drew).env) (by exact HL.out.tr) (by exact HL.out.B0) (by exact HL.out.B2) hi (by omega) (by omega) HG.out HGS.out HLO.out.1 HLO.out.2.1 (by exact HLO.out.2.2) (by omega)).mono ?_; rintro e w1 ⟨v, rfl, h1, h2, h3⟩))
                                have hLN : Loc w w1 c i k n (goP c.room c.loads (c.search f) n x i (k + 1) t2 ((c.S.length : Int) + (k : Int))).2 := HL.out.only (grown_drew h2) h3
                                have HLN := Lib.hid hLN
                                have HO := Lib.hid h1
                                clear h1 h2 h3 hLN
                                obtain ⟨⟨r1, t3⟩, hgo⟩ : ∃ q, goP c.room c.loads (c.search f) n x i (k + 1) t2 ((c.S.length : Int) + (k : Int)) = q := ⟨_, rfl⟩
                                rw [hgo] at HR HLN HO
                                rw [hgo]
                                clear hgo
                                cases r1 with
                                | none =>
                                  go_wp2
                                  go_ret2
                                  exact ⟨.slice none 0 0, by rw [HR.out]; rfl, by rw [HR.out]; exact ⟨rfl, .inl ⟨rfl, rfl⟩⟩, HLN.out.gr, by rw [HR.out]; exact HLN.out.tr⟩
                                | some l1 =>
                                  go_wp2
                                  go_ret2
                                  refine ⟨v, by rw [HR.out]; rfl, ?_, HLN.out.gr, by rw [HR.out]; exact HLN.out.tr⟩
                                  rw [HR.out]
                                  exact ownsRow_mono (HO.out l1 rfl) (by have := HL.out.gr.size; exact this)
            · have HP : Hid (c.search (f + 1) i k n t = (none, t)) := by
                show searchP _ _ _ _ _ _ _ _ _ = _
                simp only [searchP, HDD.out, htr, if_true]
                rfl
              clear htr
              go_wp2
              go_ret2
              exact ⟨.slice none 0 0, by rw [HP.out]; rfl, by rw [HP.out]; exact ⟨rfl, .inl ⟨rfl, rfl⟩⟩, hloc.gr, by rw [HP.out]; exact hloc.tr⟩
      · have hd2 : (doneP c.S i && doneP c.T k) = true := hdd
        have HP : Hid (c.search (f + 1) i k n t = (some [], t)) := by
          show searchP _ _ _ _ _ _ _ _ _ = _
          simp only [searchP, hd2, if_true]
        clear hd2
        go_wp2
        go_ret2
        exact ⟨.slice none 0 0, by rw [HP.out]; rfl, by rw [HP.out]; exact ⟨rfl, .inl ⟨rfl, rfl⟩⟩, hloc.gr, by rw [HP.out]; exact hloc.tr⟩

end Go.Proofs.Ytcljbhiammofjaa
