/- Is a word a number's: the reference's number. -/
import Derived.Test.YtconmkhoiomeiaaDoorT3
namespace Go.Proofs.YtconmkhoiomeiaaDoor
open Go.RowKit Go.Sort

theorem take_snoc (s : ByteArray) (k : Nat) (h : k < s.size) : s.data.toList.take (k + 1) = s.data.toList.take k ++ [s[k]] := by
  rw [List.take_succ_eq_append_getElem (by simpa using h)]; rfl
theorem size_list (s : ByteArray) : s.data.toList.length = s.size := by simp
theorem valD_snoc' (l : List UInt8) (c : UInt8) : valD 0 (l ++ [c]) = valD 0 l * 10 + (c.toNat - 48) := valD_snoc l c _ rfl
theorem valD_split (s : ByteArray) (k : Nat) : valD 0 s.data.toList = valD (valD 0 (s.data.toList.take k)) (s.data.toList.drop k) := by
  rw [← valD_append, List.take_append_drop]
theorem num_no_byte {s : ByteArray} {k : Nat} (hk : k < s.size) (h : ¬ (48 ≤ s[k].toNat ∧ s[k].toNat ≤ 57)) : ¬ isNum s.data.toList := by
  rintro ⟨n, _, e⟩
  refine h (dec_bytes n s[k] ?_)
  rw [← e]
  exact Array.mem_def.1 (Array.getElem_mem (xs := s.data) hk)
theorem num_no_big {s : ByteArray} {k : Nat} (h : 999999999 < valD 0 (s.data.toList.take k)) : ¬ isNum s.data.toList := by
  rintro ⟨n, hn, e⟩
  have h1 := valD_split s k
  rw [e, valD_dec, ← e] at h1
  have h2 := valD_ge (s.data.toList.drop k) (valD 0 (s.data.toList.take k))
  omega
theorem num_no_nil : ¬ isNum [] := by
  rintro ⟨n, _, e⟩
  exact dec_ne n e.symm
theorem num_val {s : ByteArray} (h : isNum s.data.toList) : Lib.decDigits (valD 0 s.data.toList) = s.data.toList := by
  obtain ⟨n, _, e⟩ := h
  rw [e, valD_dec]
theorem av_dec (n : Nat) (h : n ≤ 999999999) : av (Lib.decDigits n) = n := by
  unfold av
  rw [atoi_dec n h]

theorem beqS (a b : ByteArray) : ((a.toList == b.toList) = true) ↔ a = b := by
  rw [beq_iff_eq, ByteArray.toList_eq, ByteArray.toList_eq]
  constructor
  · intro h; rw [← B_eta a, ← B_eta b, h]
  · rintro rfl; rfl
/-- what a word's number is, if it is one. -/
def NumP (s : ByteArray) (v : Int) (b : Bool) : Prop := (b = true ↔ isNum s.data.toList) ∧ (b = true → v = av s.data.toList)
theorem NumP.no {s : ByteArray} {v : Int} (h : ¬ isNum s.data.toList) : NumP s v false := ⟨⟨fun h => (Bool.noConfusion h), fun k => absurd k h⟩, fun h => (Bool.noConfusion h)⟩

/-- what number hands back. -/
def NumR (s : ByteArray) (e : Ending) : Prop := ∃ v b, e = .returned (.tuple #[.int .i64 v, .bool b]) ∧ NumP s v b

set_option maxHeartbeats 1600000 in
theorem number_any (w : World) (s : ByteArray) (hs : s.size ≤ 1000) :
    Calls Tryd.prog 28 #[.string s] w fun e w' => NumR s e ∧ w = w' := by
  go_enter Tryd.func28, Tryd.ntmps28
  go_wp2
  go_loopg [4, 5] s.size (fun q s4 s5 wr => ∃ k : Nat, s5 = .int .i64 k ∧ k + q = s.size ∧ s4 = .int .i64 (valD 0 (s.data.toList.take k)) ∧ valD 0 (s.data.toList.take k) ≤ 9999999999 ∧ wr = w)
  case atStart => exact ⟨0, rfl, by omega, rfl, by simp [valD], rfl⟩
  case round =>
    obtain ⟨k, rfl, hk, rfl, hv, rfl⟩ := hrel
    have HK := Lib.hid hk
    clear hk
    by_cases hlt : k < s.size
    · have HTS : Hid (valD 0 (s.data.toList.take (k + 1)) = valD 0 (s.data.toList.take k) * 10 + (s[k].toNat - 48)) := by
        show _ = _
        rw [take_snoc s k hlt, valD_snoc']
      have HNB := Lib.hid (num_no_byte (k := k) hlt)
      have HBG := Lib.hid (num_no_big (s := s) (k := k))
      generalize valD 0 (s.data.toList.take k) = n at *
      by_cases hb1 : s[k].toNat < 48
      · go_wp2
        go_ret2
        exact ⟨⟨0, false, rfl, NumP.no (HNB.out (by omega))⟩, rfl⟩
      by_cases hb2 : 57 < s[k].toNat
      · have hb3 : 48 ≤ s[k].toNat := by omega
        go_wp2
        go_ret2
        exact ⟨⟨0, false, rfl, NumP.no (HNB.out (by omega))⟩, rfl⟩
      have hb3 : 48 ≤ s[k].toNat := by omega
      have hb4 : s[k].toNat ≤ 57 := by omega
      clear hb1 hb2
      by_cases hbig : 999999999 < n
      · have hbi : (999999999 : Int) < (n : Int) := by omega
        go_wp2
        go_ret2
        exact ⟨⟨0, false, rfl, NumP.no (HBG.out hbig)⟩, rfl⟩
      · have hbi : ¬ (999999999 : Int) < (n : Int) := by omega
        have q1 : IntKind.u8.wrap ((s[k].toNat : Int) - 48) = ((s[k].toNat - 48 : Nat) : Int) := by rw [IntKind.wrap_u8]; omega
        have q2 : IntKind.i64.wrap (10 * (n : Int)) = 10 * (n : Int) := IntWalk.i64_in _ (by omega)
        go_wp2
        go_roundg (gk - 1)
        case measure => have := HK.out; omega
        case rel =>
          refine ⟨k + 1, by simp, by have := HK.out; omega, ?_, by rw [HTS.out]; omega, rfl⟩
          rw [HTS.out]
          congr 1
          omega
    · have hke : k = s.size := by have := HK.out; omega
      subst hke
      rw [List.take_of_length_le (by rw [size_list]; exact Nat.le_refl _)] at hv
      rw [List.take_of_length_le (by rw [size_list]; exact Nat.le_refl _)]
      have HBG : Hid (999999999 < valD 0 s.data.toList → ¬ isNum s.data.toList) := fun h => num_no_big (k := s.size) (by rw [List.take_of_length_le (by rw [size_list]; exact Nat.le_refl _)]; exact h)
      have HNV := Lib.hid (num_val (s := s))
      generalize hn : valD 0 s.data.toList = n at *
      have HN := Lib.hid hn
      clear hn
      by_cases h0 : s.size = 0
      · have hnil : s.data.toList = [] := List.eq_nil_of_length_eq_zero (by rw [size_list]; exact h0)
        have HNIL := Lib.hid hnil
        have h00 : ¬ (0 : Int) < (s.size : Int) := by omega
        clear hnil
        go_wp2
        go_ret2
        exact ⟨⟨_, false, rfl, NumP.no (by rw [HNIL.out]; exact num_no_nil)⟩, rfl⟩
      have h00 : 0 < s.size := by omega
      clear h0
      by_cases hbig : 999999999 < n
      · have hbi : ¬ (n : Int) ≤ 999999999 := by omega
        go_wp2
        go_ret2
        exact ⟨⟨_, false, rfl, NumP.no (HBG.out hbig)⟩, rfl⟩
      · have hbi : (n : Int) ≤ 999999999 := by omega
        have hcall := digits_any wr n (by omega) (by omega)
        rw [show ((n : Int).toNat) = n from by omega] at hcall
        go_wp2_with fail
        refine hcall.mono ?_
        rintro e w1 ⟨rfl, rfl⟩
        have hP : NumP s n ((B (Lib.decDigits n)).toList == s.toList) := by
          constructor
          · rw [beqS]
            constructor
            · intro h
              exact ⟨n, by omega, by rw [← h, B_data]⟩
            · intro h
              rw [HNV.out h, B_eta]
          · rw [beqS]
            intro h
            rw [← h, B_data, av_dec n (by omega)]
        have HP := Lib.hid hP
        clear hP
        go_wp2
        go_ret2
        exact ⟨⟨_, _, rfl, HP.out⟩, rfl⟩
end Go.Proofs.YtconmkhoiomeiaaDoor
