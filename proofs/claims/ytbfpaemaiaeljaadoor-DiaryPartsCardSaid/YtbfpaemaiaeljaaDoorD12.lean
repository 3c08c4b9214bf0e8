/- Whether a diary is right, by the reference. -/
import Derived.Test.YtbfpaemaiaeljaaDoorD11
namespace Go.Proofs.YtbfpaemaiaeljaaDoor
open Go.RowKit

/-- is a diary right, as a bool? -/
def rightB (l : List En) : Bool := rightR (List.replicate 8 0) l
theorem rightB_iff (l : List En) : rightB l = true ↔ ∀ i, i < l.length → oneP (l.getD i default) = true ∧ ∀ k, k < i → Behind (l.getD k default) (l.getD i default) := by
  unfold rightB
  rw [rightR_zero]
  unfold RightQ
  rw [List.pairwise_iff_getElem]
  constructor
  · rintro ⟨h1, h2⟩ i hi
    refine ⟨?_, fun k hk => ?_⟩
    · have := h1 l[i] (List.getElem_mem hi)
      simpa [List.getD_eq_getElem?_getD, hi] using this
    · have := h2 k i (by omega) hi hk
      have hkl : k < l.length := by omega
      simpa [List.getD_eq_getElem?_getD, hi, hkl] using this
  · intro h
    refine ⟨fun x hx => ?_, fun i j hi hj hij => ?_⟩
    · obtain ⟨i, hi, rfl⟩ := List.getElem_of_mem hx
      have := (h i hi).1
      simpa [List.getD_eq_getElem?_getD, hi] using this
    · have := (h j hj).2 i hij
      simpa [List.getD_eq_getElem?_getD, hi, hj] using this

set_option maxHeartbeats 3200000 in
theorem refRight_any (w : World) (A : Option Addr) (c : Nat) (l : List En) (hr : ReadsE w A l) (ho : LoadsOk w l) (n : Nat) (hn : l.length = n) (hl : n ≤ 1000) :
    Calls Tryd.prog 19 #[.slice A n c] w fun e w' => e = .returned (.bool (rightB l)) ∧ Below w.heap.size w w' := by
  subst hn
  have HR := Lib.hid hr
  have HO := Lib.hid ho
  clear hr ho
  go_enter Tryd.func19, Tryd.ntmps19
  go_wp2
  go_loopg [3] l.length (fun q s3 wr => ∃ i : Nat, s3 = .int .i64 i ∧ i + q = l.length ∧ Below w.heap.size w wr ∧ ∀ j, j < i → oneP (l.getD j default) = true ∧ ∀ k, k < j → Behind (l.getD k default) (l.getD j default))
  case atStart => exact ⟨0, rfl, by omega, Below.refl _ _, by intro j hj; omega⟩
  case round =>
    obtain ⟨i, rfl, hi, hb, hn⟩ := hrel
    have HI := Lib.hid hi
    have HN := Lib.hid hn
    have HB := Lib.hid hb
    clear hi hn hb
    by_cases hlt : i < l.length
    · rcases HR.out with h0 | ⟨b, o, rfl, hr⟩
      · rw [h0] at hlt; exact absurd hlt (by simp)
      have HRR := Lib.hid hr
      obtain ⟨c0, c1, c2, c3, c4, c5, c6, c7⟩ := (hr.below HB.out).at i hlt _ rfl
      have ka := (HO.out.below HB.out) i hlt
      generalize hy : l.getD i default = y at *
      have HY := Lib.hid hy
      have KA := Lib.hid ka
      clear hy hr ka
      have q1 : IntKind.i64.wrap ((i : Int) + 1) = (i : Int) + 1 := IntWalk.i64_in _ (by omega)
      go_wp2_with fail
      refine (one_any wr y KA.out.1 KA.out.2.1 KA.out.2.2).mono ?_
      rintro e w1 ⟨rfl, hb1⟩
      have HB1 := Lib.hid (HB.out.trans (hb1.mono HB.out.size))
      clear hb1 c0 c1 c2 c3 c4 c5 c6 c7
      cases hp : oneP y
      · have HP := Lib.hid hp
        clear hp
        go_wp2
        go_ret
        refine ⟨ret_bool ?_, HB1.out⟩
        have : ¬ rightB l = true := by
          intro h
          have := ((rightB_iff l).1 h i hlt).1
          rw [HY.out, HP.out] at this
          cases this
        simpa using this
      · have HP := Lib.hid hp
        clear hp
        go_wp2
        go_loopg [4] i (fun q s4 wq => ∃ k : Nat, s4 = .int .i64 k ∧ k + q = i ∧ Below w.heap.size w wq ∧ ∀ j, j < k → Behind (l.getD j default) y)
        case atStart => exact ⟨0, rfl, by omega, HB1.out, by intro j hj; omega⟩
        case round =>
          obtain ⟨k, rfl, hk, hb, hn⟩ := hrel
          have HK := Lib.hid hk
          have HN2 := Lib.hid hn
          have HB2 := Lib.hid hb
          clear hk hn hb
          by_cases hki : k < i
          · have hkl : k < l.length := by omega
            obtain ⟨c0, c1, c2, c3, c4, c5, c6, c7⟩ := (HRR.out.below HB2.out).at i hlt y HY.out
            obtain ⟨d0, d1, d2, d3, d4, d5, d6, d7⟩ := (HRR.out.below HB2.out).at k hkl _ rfl
            generalize hx : l.getD k default = x at *
            have HX := Lib.hid hx
            clear hx
            have q2 : IntKind.i64.wrap ((k : Int) + 1) = (k : Int) + 1 := IntWalk.i64_in _ (by omega)
            by_cases hc : x.core = y.core
            · have t1 : (x.core != y.core) = false := by simpa using hc
              have HC := Lib.hid hc
              clear hc
              go_wp2_with fail
              go_quiet (fail)
              go_wp2_with fail
              by_cases hs : y.bg ≤ x.bg
              · go_quiet (fail)
                go_wp2
                go_ret
                refine ⟨ret_bool ?_, by first | exact below_dr HB2.out _ | exact below_dr (below_dr HB2.out _) _⟩
                have : ¬ rightB l = true := by
                  intro h
                  have := ((rightB_iff l).1 h i hlt).2 k hki
                  rw [HX.out, HY.out] at this
                  have := (this HC.out).1
                  omega
                simpa using this
              · have t2 : decide (y.bg ≤ x.bg) = false := decide_eq_false hs
                by_cases hz : x.nd = 0
                · have t3 : (x.nd != 0) = false := by simpa using hz
                  have HZ := Lib.hid hz
                  clear hz
                  go_quiet (fail)
                  go_wp2
                  go_roundg (gk - 1)
                  case measure => have := HK.out; omega
                  case rel =>
                    refine ⟨k + 1, by simp, by have := HK.out; omega, by first | exact below_dr HB2.out _ | exact below_dr (below_dr HB2.out _) _, ?_⟩
                    intro j hj
                    by_cases hjk : j = k
                    · subst hjk; rw [HX.out]; exact fun _ => ⟨by omega, fun h => absurd HZ.out h⟩
                    · exact HN2.out j (by omega)
                · have t3 : (x.nd != 0) = true := by simpa using hz
                  by_cases hs2 : y.bg ≤ x.nd
                  · go_quiet (fail)
                    go_wp2
                    go_ret
                    refine ⟨ret_bool ?_, by first | exact below_dr HB2.out _ | exact below_dr (below_dr HB2.out _) _⟩
                    have : ¬ rightB l = true := by
                      intro h
                      have := ((rightB_iff l).1 h i hlt).2 k hki
                      rw [HX.out, HY.out] at this
                      have := (this HC.out).2 hz
                      omega
                    simpa using this
                  · have t4 : decide (y.bg ≤ x.nd) = false := decide_eq_false hs2
                    go_quiet (fail)
                    go_wp2
                    go_roundg (gk - 1)
                    case measure => have := HK.out; omega
                    case rel =>
                      refine ⟨k + 1, by simp, by have := HK.out; omega, by first | exact below_dr HB2.out _ | exact below_dr (below_dr HB2.out _) _, ?_⟩
                      intro j hj
                      by_cases hjk : j = k
                      · subst hjk; rw [HX.out]; exact fun _ => ⟨by omega, fun _ => by omega⟩
                      · exact HN2.out j (by omega)
            · have t1 : (x.core != y.core) = true := by simpa using hc
              go_wp2_with fail
              go_quiet (fail)
              go_wp2
              go_roundg (gk - 1)
              case measure => have := HK.out; omega
              case rel =>
                refine ⟨k + 1, by simp, by have := HK.out; omega, by first | exact below_dr HB2.out _ | exact below_dr (below_dr HB2.out _) _, ?_⟩
                intro j hj
                by_cases hjk : j = k
                · subst hjk; rw [HX.out]; exact fun h => absurd h hc
                · exact HN2.out j (by omega)
          · have hke : k = i := by have := HK.out; omega
            subst hke
            go_wp2
            go_roundg (l.length - k - 1)
            case measure => have := HI.out; omega
            case rel =>
              refine ⟨k + 1, by simp, by omega, HB2.out, ?_⟩
              intro j hj
              by_cases hjk : j = k
              · subst hjk; rw [HY.out]; exact ⟨HP.out, HN2.out⟩
              · exact HN.out j (by omega)
    · go_wp2
      go_ret
      refine ⟨ret_bool ?_, HB.out⟩
      rw [eq_comm, rightB_iff]
      intro j hj
      exact HN.out j (by have := HI.out; omega)

end Go.Proofs.YtbfpaemaiaeljaaDoor
