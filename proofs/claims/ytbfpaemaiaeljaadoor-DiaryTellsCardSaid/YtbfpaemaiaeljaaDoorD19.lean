/- Numbers' digits: the reference's, and the library's. -/
import Derived.Test.YtbfpaemaiaeljaaDoorD18
import Derived.Lib.LaidTab
import Derived.Lib.ItoaLen
import Derived.Lib.QuietBelow
namespace Go.Proofs.YtbfpaemaiaeljaaDoor
open Go.RowKit Go.Sort

/-- a number's digits, as a string. -/
def dec (n : Int) : ByteArray := ⟨(Lib.itoa n).toArray⟩
/-- one digit. -/
def dig1 (d : Nat) : ByteArray := ⟨#[UInt8.ofNat (48 + d)]⟩
theorem dig_piece : ∀ d : Nat, d < 10 → (ByteArray.mk #[48, 49, 50, 51, 52, 53, 54, 55, 56, 57]).extract d (d + 1) = dig1 d := by
  intro d hd
  have h : d = 0 ∨ d = 1 ∨ d = 2 ∨ d = 3 ∨ d = 4 ∨ d = 5 ∨ d = 6 ∨ d = 7 ∨ d = 8 ∨ d = 9 := by omega
  rcases h with rfl | rfl | rfl | rfl | rfl | rfl | rfl | rfl | rfl | rfl <;> rfl
theorem dec_step (u : Nat) (h : ¬ u / 10 = 0) : Lib.decDigits u = Lib.decDigits (u / 10) ++ [UInt8.ofNat (48 + u % 10)] := by
  rw [Lib.decDigits, dif_neg (by omega)]
theorem dec_last (u : Nat) (h : u / 10 = 0) : Lib.decDigits u = [UInt8.ofNat (48 + u % 10)] := by
  rw [Lib.decDigits, dif_pos (by omega), Nat.mod_eq_of_lt (by omega)]
theorem ba_append (d : Nat) (l : List UInt8) : dig1 d ++ ⟨l.toArray⟩ = (⟨(UInt8.ofNat (48 + d) :: l).toArray⟩ : ByteArray) := by
  apply ByteArray.ext
  simp [dig1]
theorem ba_size (l : List UInt8) : (⟨l.toArray⟩ : ByteArray).size = l.length := rfl
theorem ba_minus (l : List UInt8) : (⟨#[45]⟩ : ByteArray) ++ ⟨l.toArray⟩ = ⟨(45 :: l).toArray⟩ := by
  apply ByteArray.ext
  simp
theorem decDigits_pos (u : Nat) : 1 ≤ (Lib.decDigits u).length := by
  rw [Lib.decDigits]
  split <;> simp

theorem decDigits_le (u : Nat) (h : u ≤ 9223372036854775808) : (Lib.decDigits u).length ≤ 21 := by
  have := Lib.itoa_length_le (-(u : Int)) (by omega) (by omega)
  by_cases h0 : u = 0
  · subst h0
    rw [Lib.decDigits_one (by omega)]; simp
  · rw [Lib.itoa_neg u (by omega)] at this
    simp at this
    omega

set_option maxHeartbeats 1600000 in
theorem digits_pos (w : World) (n : Nat) (hn : n ≤ 9223372036854775807) :
    Calls Tryd.prog 25 #[.int .i64 n] w fun e w' => e = .returned (.string (dec n)) ∧ w = w' := by
  have hD : dec (n : Int) = ⟨(Lib.decDigits n).toArray⟩ := by unfold dec; rw [Lib.itoa_nonneg]
  have HD := Lib.hid hD
  have HLE := Lib.hid (decDigits_le n (by omega))
  clear hD
  have hng : decide ((n : Int) < 0) = false := decide_eq_false (by omega)
  go_enter Tryd.func25, Tryd.ntmps25
  go_wp2
  go_loopg [4, 5] n (fun q s4 s5 wr => ∃ (u : Nat) (l : List UInt8), s5 = .int .i64 u ∧ u = q ∧ u ≤ 9223372036854775807 ∧ s4 = .string ⟨l.toArray⟩ ∧ Lib.decDigits n = Lib.decDigits u ++ l ∧ w = wr)
  case atStart => exact ⟨n, [], rfl, rfl, hn, rfl, by simp, rfl⟩
  case round =>
    obtain ⟨u, l, rfl, hu, hu2, rfl, hd, rfl⟩ := hrel
    have HU := Lib.hid hu
    have HDD := Lib.hid hd
    have hll : l.length ≤ 21 := by have := HLE.out; rw [hd, List.length_append] at this; omega
    clear hu hd
    have hm : ((u : Int) % 10) = ((u % 10 : Nat) : Int) := by omega
    have hq : ((u : Int) / 10) = ((u / 10 : Nat) : Int) := by omega
    have hp := dig_piece (u % 10) (Nat.mod_lt _ (by omega))
    generalize hmd : u % 10 = d at *
    generalize hqd : u / 10 = v at *
    have hd10 : d < 10 := by omega
    have HMD := Lib.hid hmd
    have HQD := Lib.hid hqd
    clear hmd hqd
    have hszf : ¬ 9223372036854775807 < (dig1 d).size + l.length := by
      have : (dig1 d).size = 1 := rfl
      omega
    rw [← ba_size l] at hszf
    have HB : Hid (dig1 d ++ ⟨l.toArray⟩ = (⟨(UInt8.ofNat (48 + d) :: l).toArray⟩ : ByteArray)) := ba_append d l
    by_cases hv : v = 0
    · have tv : ((v : Int) == 0) = true := by simp [hv]
      have HR : Hid (dec (n : Int) = dig1 d ++ ⟨l.toArray⟩) := by
        show _ = _
        rw [HB.out, HD.out, HDD.out, dec_last u (by rw [HQD.out]; exact hv), HMD.out]; rfl
      clear hv
      go_wp2
      go_ret
      exact ⟨by rw [HR.out]; rfl, rfl⟩
    · have tv : ((v : Int) == 0) = false := by simpa using hv
      go_wp2
      go_roundg v
      case measure => have := HU.out; have := HQD.out; omega
      case rel =>
        refine ⟨v, UInt8.ofNat (48 + d) :: l, rfl, rfl, by have := HQD.out; omega, by rw [HB.out], ?_, rfl⟩
        rw [HDD.out, dec_step u (by rw [HQD.out]; exact hv), HMD.out, HQD.out]; simp

theorem tmod_neg (u : Nat) : (-(u : Int)).tmod 10 = -((u % 10 : Nat) : Int) := by
  rw [Int.neg_tmod]; rfl
theorem tdiv_neg (u : Nat) : (-(u : Int)).tdiv 10 = -((u / 10 : Nat) : Int) := by
  rw [Int.neg_tdiv]; rfl

set_option maxHeartbeats 1600000 in
theorem digits_neg (w : World) (n : Nat) (h1 : 1 ≤ n) (hn : n ≤ 9223372036854775808) :
    Calls Tryd.prog 25 #[.int .i64 (-(n : Int))] w fun e w' => e = .returned (.string (dec (-(n : Int)))) ∧ w = w' := by
  have hD : dec (-(n : Int)) = ⟨(45 :: Lib.decDigits n).toArray⟩ := by unfold dec; rw [Lib.itoa_neg n h1]
  have HD := Lib.hid hD
  have HLE := Lib.hid (decDigits_le n hn)
  clear hD
  have hng : decide (-(n : Int) < 0) = true := decide_eq_true (by omega)
  go_enter Tryd.func25, Tryd.ntmps25
  go_wp2
  go_loopg [4, 5] n (fun q s4 s5 wr => ∃ (u : Nat) (l : List UInt8), s5 = .int .i64 (-(u : Int)) ∧ u = q ∧ u ≤ 9223372036854775808 ∧ s4 = .string ⟨l.toArray⟩ ∧ Lib.decDigits n = Lib.decDigits u ++ l ∧ w = wr)
  case atStart => exact ⟨n, [], rfl, rfl, hn, rfl, by simp, rfl⟩
  case round =>
    obtain ⟨u, l, rfl, hu, hu2, rfl, hd, rfl⟩ := hrel
    have HU := Lib.hid hu
    have HDD := Lib.hid hd
    have hll : l.length ≤ 21 := by have := HLE.out; rw [hd, List.length_append] at this; omega
    clear hu hd
    have hm := tmod_neg u
    have hq := tdiv_neg u
    have hp := dig_piece (u % 10) (Nat.mod_lt _ (by omega))
    generalize hmd : u % 10 = d at *
    generalize hqd : u / 10 = v at *
    have hd10 : d < 10 := by omega
    have hv10 : v ≤ 1000000000000000000 := by omega
    have HMD := Lib.hid hmd
    have HQD := Lib.hid hqd
    clear hmd hqd
    have hszf : ¬ 9223372036854775807 < (dig1 d).size + l.length := by
      have : (dig1 d).size = 1 := rfl
      omega
    rw [← ba_size l] at hszf
    have HB : Hid (dig1 d ++ ⟨l.toArray⟩ = (⟨(UInt8.ofNat (48 + d) :: l).toArray⟩ : ByteArray)) := ba_append d l
    have hszg : ¬ 9223372036854775807 < 1 + ((dig1 d).size + l.length) := by
      have : (dig1 d).size = 1 := rfl
      omega
    by_cases hd0 : d = 0
    · subst hd0
      have td : decide (-((0 : Nat) : Int) < 0) = false := by simp
      by_cases hv : v = 0
      · have tv : (-(v : Int) == 0) = true := by simp [hv]
        have HR : Hid (dec (-(n : Int)) = ⟨#[45]⟩ ++ (dig1 0 ++ ⟨l.toArray⟩)) := by
          show _ = _
          rw [HB.out, HD.out, HDD.out, dec_last u (by rw [HQD.out]; exact hv), HMD.out, ba_minus]; rfl
        clear hv
        go_wp2
        go_ret
        exact ⟨by rw [HR.out]; rfl, rfl⟩
      · have tv : (-(v : Int) == 0) = false := by simpa using hv
        go_wp2
        go_roundg v
        case measure => have := HU.out; have := HQD.out; omega
        case rel =>
          refine ⟨v, UInt8.ofNat (48 + 0) :: l, rfl, rfl, by omega, by rw [HB.out], ?_, rfl⟩
          rw [HDD.out, dec_step u (by rw [HQD.out]; exact hv), HMD.out, HQD.out]; simp
    · have td : decide (-(d : Int) < 0) = true := decide_eq_true (by omega)
      by_cases hv : v = 0
      · have tv : (-(v : Int) == 0) = true := by simp [hv]
        have HR : Hid (dec (-(n : Int)) = ⟨#[45]⟩ ++ (dig1 d ++ ⟨l.toArray⟩)) := by
          show _ = _
          rw [HB.out, HD.out, HDD.out, dec_last u (by rw [HQD.out]; exact hv), HMD.out, ba_minus]; rfl
        clear hv
        go_wp2
        go_ret
        exact ⟨by rw [HR.out]; rfl, rfl⟩
      · have tv : (-(v : Int) == 0) = false := by simpa using hv
        go_wp2
        go_roundg v
        case measure => have := HU.out; have := HQD.out; omega
        case rel =>
          refine ⟨v, UInt8.ofNat (48 + d) :: l, rfl, rfl, by omega, by rw [HB.out], ?_, rfl⟩
          rw [HDD.out, dec_step u (by rw [HQD.out]; exact hv), HMD.out, HQD.out]; simp

end Go.Proofs.YtbfpaemaiaeljaaDoor
