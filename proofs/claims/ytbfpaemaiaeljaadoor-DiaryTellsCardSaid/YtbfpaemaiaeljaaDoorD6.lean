/- The chapter's example. -/
import Derived.Test.YtbfpaemaiaeljaaDoorD5
import Derived.Deep.RegionWith
namespace Go.Proofs.YtbfpaemaiaeljaaDoor
open Go.RowKit

theorem itoa0 (w : World) : Calls Tryd.prog 24 #[.int .i64 0] w fun e w' => e = .returned (.string ⟨#[48]⟩) ∧ w' = w := by
  have h := Tryd.strconv_Itoa_small 0 (by omega) w
  have e : Lib.decDigits 0 = [48] := by decide +kernel
  rw [e] at h
  exact h
theorem itoa1 (w : World) : Calls Tryd.prog 24 #[.int .i64 1] w fun e w' => e = .returned (.string ⟨#[49]⟩) ∧ w' = w := by
  have h := Tryd.strconv_Itoa_small 1 (by omega) w
  have e : Lib.decDigits 1 = [49] := by decide +kernel
  rw [e] at h
  exact h
theorem itoa3 (w : World) : Calls Tryd.prog 24 #[.int .i64 3] w fun e w' => e = .returned (.string ⟨#[51]⟩) ∧ w' = w := by
  have h := Tryd.strconv_Itoa_small 3 (by omega) w
  have e : Lib.decDigits 3 = [51] := by decide +kernel
  rw [e] at h
  exact h
theorem itoa9 (w : World) : Calls Tryd.prog 24 #[.int .i64 9] w fun e w' => e = .returned (.string ⟨#[57]⟩) ∧ w' = w := by
  have h := Tryd.strconv_Itoa_small 9 (by omega) w
  have e : Lib.decDigits 9 = [57] := by decide +kernel
  rw [e] at h
  exact h

theorem quiet_add_same {P : Program} {f : FuncId} {args : Array Value} {w : World} {a n : Nat} {v : Value}
    (h : Calls P f args (w.drewN (a + n)) fun e w' => e = .returned v ∧ w' = w.drewN (a + n)) :
    Calls P f args (w.drewN (a + n)) fun e w'' => e = .returned v ∧ ∃ m, w'' = w.drewN (a + m) :=
  h.mono fun _ _ ⟨he, hm⟩ => ⟨he, n, hm⟩

set_option maxHeartbeats 1600000 in
theorem alive_any (w : World) : Calls Tryd.prog 8 #[] w fun e w' => e = .returned (.bool true) ∧ Below w.heap.size w w' := by
  go_enter Tryd.func8, Tryd.ntmps8
  go_wp2_with fail
  go_enter Tryd.func13, Tryd.ntmps13
  go_wp2_with fail
  go_quiet (first | (go_at_call_of 24 (Value.int .i64 0); exact Calls.quiet_of_same (itoa0 _)) | (go_at_call_of 24 (Value.int .i64 1); exact Calls.quiet_of_same (itoa1 _)) | (go_at_call_of 24 (Value.int .i64 3); exact Calls.quiet_of_same (itoa3 _)))
  go_wp2_with fail
  go_quiet (first | (go_at_call_of 24 (Value.int .i64 0); exact quiet_add_same (itoa0 _)) | (go_at_call_of 24 (Value.int .i64 9); exact quiet_add_same (itoa9 _)))
  go_wp2
  go_ret
  exact ⟨ret_bool (by decide +kernel), below_dr (one_al _ _) _⟩

end Go.Proofs.YtbfpaemaiaeljaaDoor
