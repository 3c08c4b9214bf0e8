/- Words of a text: Split, Index, Atoi at the texts that Parse meets. -/
import Derived.Test.YtconmkhoiomeiaaDoorT4
import Derived.Deep.CutRange
namespace Go.Proofs.YtconmkhoiomeiaaDoor
open Go.RowKit Go.Sort

theorem index_cases : ∀ s : List UInt8, (Lib.index s [32] = -1 ∧ ∀ c ∈ s, c ≠ 32) ∨ ∃ i : Nat, Lib.index s [32] = i ∧ i < s.length ∧ s = s.take i ++ 32 :: s.drop (i + 1) ∧ ∀ c ∈ s.take i, c ≠ 32
  | [] => .inl ⟨rfl, by simp⟩
  | c :: r => by
    by_cases hc : c = 32
    · subst hc
      refine .inr ⟨0, ?_, by simp, by simp, by simp⟩
      unfold Lib.index
      simp
    · have hp : List.isPrefixOf [32] (c :: r) = false := by simp [List.isPrefixOf]; exact fun h => hc h.symm
      rcases index_cases r with ⟨h1, h2⟩ | ⟨i, h1, h2, h3, h4⟩
      · refine .inl ⟨?_, fun d hd => ?_⟩
        · unfold Lib.index
          rw [hp, h1]; rfl
        · rcases List.mem_cons.1 hd with rfl | hd
          · exact hc
          · exact h2 d hd
      · refine .inr ⟨i + 1, ?_, by simp; omega, ?_, fun d hd => ?_⟩
        · unfold Lib.index
          rw [hp, h1]
          have : ((i : Int) == -1) = false := by rw [beq_eq_false_iff_ne]; omega
          simp [this]
        · rw [List.take_succ_cons, List.cons_append, List.drop_succ_cons, ← h3]
        · rw [List.take_succ_cons] at hd
          rcases List.mem_cons.1 hd with rfl | hd
          · exact hc
          · exact h4 d hd

theorem split_words : ∀ (k : Nat) (s : List UInt8), s.length ≤ k → Lib.splitK [32] 0 (Lib.count s [32]) s = wordsL s
  | 0, s, h => by
    have : s = [] := List.eq_nil_of_length_eq_zero (by omega)
    subst this; rfl
  | k + 1, s, h => by
    rcases index_cases s with ⟨h1, h2⟩ | ⟨i, h1, h2, h3, h4⟩
    · rw [Lib.count_miss h1, words_noSpace s h2]; rfl
    · rw [Lib.count_hit (by simp) h1, Nat.add_comm]
      have hm : ¬ ((Lib.index s [32] == -1) = true) := by
        rw [h1]
        intro e
        have := beq_iff_eq.1 e
        omega
      rw [Lib.splitK, if_neg hm]
      have e : (Lib.index s [32]).toNat = i := by rw [h1]; omega
      rw [e, Nat.add_zero]
      have := split_words k (s.drop (i + 1)) (by rw [List.length_drop]; omega)
      rw [show [(32 : UInt8)].length = 1 from rfl, this]
      conv => rhs; rw [h3]
      rw [words_app _ _ h4]
theorem split_B (s : ByteArray) : Lib.splitB ⟨#[32]⟩ 0 (Lib.countB s ⟨#[32]⟩) s = (wordsL s.data.toList).map B := by
  have h1 := Lib.splitB_data ⟨#[32]⟩ 0 (Lib.countB s ⟨#[32]⟩) s
  have h2 : Lib.splitK [32] 0 (Lib.count s.data.toList [32]) s.data.toList = wordsL s.data.toList := split_words _ _ (Nat.le_refl _)
  have h3 : (Lib.splitB ⟨#[32]⟩ 0 (Lib.countB s ⟨#[32]⟩) s).map (·.data.toList) = wordsL s.data.toList := h1.trans h2
  rw [← h3, List.map_map]
  conv => lhs; rw [← List.map_id (Lib.splitB ⟨#[32]⟩ 0 (Lib.countB s ⟨#[32]⟩) s)]
  exact List.map_congr_left fun x _ => (B_eta x).symm
theorem split_len (k : Nat) (s : List UInt8) (h : s.length ≤ k) : Lib.count s [32] + 1 = (wordsL s).length := by
  induction k generalizing s with
  | zero =>
    have : s = [] := List.eq_nil_of_length_eq_zero (by omega)
    subst this; rfl
  | succ k ih =>
    rcases index_cases s with ⟨h1, h2⟩ | ⟨i, h1, h2, h3, h4⟩
    · rw [Lib.count_miss h1, words_noSpace s h2]; rfl
    · rw [Lib.count_hit (by simp) h1]
      conv => rhs; rw [h3]
      rw [words_app _ _ h4]
      have e1 := ih (s.drop (i + 1)) (by rw [List.length_drop]; omega)
      show 1 + Lib.count (s.drop (i + 1)) [32] + 1 = (wordsL (s.drop (i + 1))).length + 1
      omega
theorem words_le : ∀ s : List UInt8, (wordsL s).length ≤ s.length + 1 ∧ ∀ x ∈ wordsL s, x.length ≤ s.length
  | [] => by simp [wordsL]
  | c :: r => by
    obtain ⟨h1, h2⟩ := words_le r
    have e := wordsL_eq r
    unfold wordsL
    split
    · refine ⟨by simp; omega, fun x hx => ?_⟩
      rcases List.mem_cons.1 hx with rfl | hx
      · simp
      · have := h2 x hx; simp; omega
    · refine ⟨?_, fun x hx => ?_⟩
      · rw [e] at h1; simp at h1 ⊢; omega
      · rcases List.mem_cons.1 hx with rfl | hx
        · have := h2 ((wordsL r).headD []) (by rw [e]; simp)
          simp only [List.length_cons]; omega
        · have := h2 x (by rw [e]; exact List.mem_cons_of_mem _ hx)
          simp only [List.length_cons]; omega

theorem split_any (w : World) (s : ByteArray) (hs : s.size ≤ 1000) (ht : Ties w) :
    Calls Tryd.prog 25 #[.string s, .string ⟨#[32]⟩] w fun e w' => e = .returned (.slice (some ⟨w.heap.size, 0, none⟩) (wordsL s.data.toList).length (wordsL s.data.toList).length) ∧ w' = w.alloc (.cells (vals (wordsL s.data.toList)).toArray 9) := by
  obtain ⟨m, hm⟩ := ht.len
  have := Tryd.strings_Split s ⟨#[32]⟩ m w (by omega) hm (by decide)
  rw [split_B] at this
  have hc : Lib.countB s ⟨#[32]⟩ + 1 = (wordsL s.data.toList).length := split_len _ _ (Nat.le_refl _)
  rw [hc] at this
  refine this.mono ?_
  rintro e w' ⟨rfl, rfl⟩
  exact ⟨rfl, by rw [List.map_map]; rfl⟩

theorem idx_shift (x : List UInt8) : ∀ (L : List (List UInt8)) (i : Nat), Lib.idxFromS (L.map B) (B x) i = if idxL x L < 0 then -1 else idxL x L + i
  | [], i => rfl
  | y :: L, i => by
    rw [List.map_cons, Lib.idxFromS, idxL]
    by_cases h : y = x
    · subst h; simp
    · rw [if_neg (fun e => h (B_inj.1 e)), if_neg h, idx_shift x L]
      by_cases h0 : idxL x L < 0
      · simp [h0]
      · rw [if_neg h0, if_neg h0, if_neg (by omega)]; omega
theorem idxL_ge (x : List UInt8) : ∀ L, -1 ≤ idxL x L
  | [] => by simp [idxL]
  | y :: L => by
    have := idxL_ge x L
    unfold idxL
    split
    · omega
    · split <;> omega
theorem index_any (w : World) (x : List UInt8) (ht : Ties w) :
    Calls Tryd.prog 26 #[.slice (some ⟨0, 0, none⟩) 16 16, .string (B x)] w fun e w' => e = .returned (.int .i64 (idxL x names)) ∧ w = w' := by
  refine (Tryd.slices_Index_string 0 0 16 16 (names.map B) (B x) w (by decide) (by omega) fun j hj => ?_).mono ?_
  · have hj' : j < 16 := hj
    rw [Nat.zero_add, ht.names j hj']
    have : (names.map B).getD j ByteArray.empty = B (names.getD j []) := by
      have hl : j < names.length := hj'
      simp [List.getD_eq_getElem?_getD, hl]
    rw [this]
  · rintro e w' ⟨rfl, rfl⟩
    refine ⟨?_, rfl⟩
    have h1 : (names.map B).take 16 = names.map B := List.take_of_length_le (by decide)
    rw [h1, Lib.idxOfS, idx_shift]
    have := idxL_ge x names
    split
    · congr 2; omega
    · simp

theorem atoi_any (w : World) (x : List UInt8) (hx : x.length ≤ 1000) (ht : Ties w) :
    Calls Tryd.prog 27 #[.string (B x)] w fun e w' => (∃ ev, e = .returned (.tuple #[.int .i64 (av x), ev])) ∧ Below w.heap.size w w' := by
  have hd : (B x).data.toList = x := B_data x
  have hsz : (B x).size = x.length := rfl
  cases ha : Lib.atoiAll x with
  | ok v =>
    have hv : av x = v := by unfold av; rw [ha]
    rw [hv]
    refine (Tryd.strconv_Atoi_ok (B x) (by omega) v (by rw [hd]; exact ha) w).mono ?_
    rintro e w' ⟨rfl, rfl | ⟨t, rfl⟩⟩
    · exact ⟨⟨_, rfl⟩, Below.refl _ _⟩
    · exact ⟨⟨_, rfl⟩, Lib.bytesWorld_below _ _ _⟩
  | range =>
    have hv : av x = Lib.atoiSat x := by unfold av; rw [ha]
    rw [hv]
    obtain ⟨te, pe, he⟩ := ht.rng
    refine (Tryd.strconv_Atoi_range (B x) (by omega) (by rw [hd]; exact ha) _ w he (.inr ⟨te, pe, rfl⟩)).mono ?_
    rintro e w' ⟨N, rfl, _, _, hb⟩
    rw [hd]
    exact ⟨⟨_, rfl⟩, hb⟩
  | _ =>
    have hv : av x = 0 := by unfold av; rw [ha]
    rw [hv]
    obtain ⟨te, pe, he⟩ := ht.syn
    refine (Tryd.strconv_Atoi_syntax (B x) (by omega) (by rw [hd]; exact ha) _ w he (.inr ⟨te, pe, rfl⟩)).mono ?_
    rintro e w' ⟨N, rfl, _, _, hb⟩
    exact ⟨⟨_, rfl⟩, hb⟩
end Go.Proofs.YtconmkhoiomeiaaDoor
