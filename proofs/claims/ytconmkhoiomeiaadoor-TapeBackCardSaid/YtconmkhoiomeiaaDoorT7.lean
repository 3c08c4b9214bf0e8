/- The line of a text: the reference's Parse. -/
import Derived.Test.YtconmkhoiomeiaaDoorT6
namespace Go.Proofs.YtconmkhoiomeiaaDoor
open Go.RowKit Go.Sort

/-- how far the words have been told. -/
def WIn (t : List UInt8) (i f : Nat) (done : List (List UInt8)) : Prop :=
  (i ≤ t.length ∧ f ≤ i ∧ wordsL t = done ++ wordsL (t.drop f) ∧ ∀ c ∈ (t.drop f).take (i - f), c ≠ 32) ∨ (i = t.length + 1 ∧ done = wordsL t)
theorem WIn.start (t : List UInt8) : WIn t 0 0 [] := .inl ⟨by omega, by omega, rfl, by simp⟩
theorem drop_at {t : List UInt8} {i f : Nat} {c : UInt8} (hf : f ≤ i) (hc : t[i]? = some c) : t.drop f = (t.drop f).take (i - f) ++ c :: t.drop (i + 1) := by
  obtain ⟨hi, rfl⟩ := List.getElem?_eq_some_iff.1 hc
  conv => lhs; rw [← List.take_append_drop (i - f) (t.drop f)]
  rw [List.drop_drop, show f + (i - f) = i from by omega, List.drop_eq_getElem_cons hi]
theorem take_at {t : List UInt8} {i f : Nat} {c : UInt8} (hf : f ≤ i) (hc : t[i]? = some c) : (t.drop f).take (i + 1 - f) = (t.drop f).take (i - f) ++ [c] := by
  rw [show i + 1 - f = (i - f) + 1 from by omega, List.take_add_one, List.getElem?_drop, show f + (i - f) = i from by omega, hc]; rfl
theorem WIn.plain {t : List UInt8} {i f : Nat} {done : List (List UInt8)} {c : UInt8} (h : WIn t i f done) (hc : t[i]? = some c) (hn : c ≠ 32) : WIn t (i + 1) f done := by
  have hi := (List.getElem?_eq_some_iff.1 hc).1
  rcases h with ⟨h1, h2, h3, h4⟩ | ⟨h1, _⟩
  · refine .inl ⟨by omega, by omega, h3, ?_⟩
    rw [take_at h2 hc]
    intro d hd
    rcases List.mem_append.1 hd with hd | hd
    · exact h4 d hd
    · rw [List.mem_singleton.1 hd]; exact hn
  · omega
theorem WIn.space {t : List UInt8} {i f : Nat} {done : List (List UInt8)} (h : WIn t i f done) (hc : t[i]? = some 32) : WIn t (i + 1) (i + 1) (done ++ [(t.drop f).take (i - f)]) := by
  have hi := (List.getElem?_eq_some_iff.1 hc).1
  rcases h with ⟨h1, h2, h3, h4⟩ | ⟨h1, _⟩
  · refine .inl ⟨by omega, by omega, ?_, by simp⟩
    rw [h3, drop_at h2 hc, words_app _ _ h4, ← drop_at h2 hc]
    simp
  · omega
theorem WIn.last {t : List UInt8} {f : Nat} {done : List (List UInt8)} (h : WIn t t.length f done) : WIn t (t.length + 1) (t.length + 1) (done ++ [(t.drop f).take (t.length - f)]) := by
  rcases h with ⟨h1, h2, h3, h4⟩ | ⟨h1, _⟩
  · refine .inr ⟨rfl, ?_⟩
    have e : (t.drop f).take (t.length - f) = t.drop f := List.take_of_length_le (by simp)
    rw [e] at h4 ⊢
    rw [h3, words_noSpace _ h4]
  · omega
theorem WIn.done {t : List UInt8} {f : Nat} {done : List (List UInt8)} (h : WIn t (t.length + 1) f done) : done = wordsL t := by
  rcases h with ⟨h1, _⟩ | ⟨_, h⟩
  · omega
  · exact h
theorem WIn.few {t : List UInt8} {i f : Nat} {done : List (List UInt8)} (h : WIn t i f done) : done.length ≤ t.length + 1 := by
  have hw := (words_le t).1
  rcases h with ⟨h1, h2, h3, _⟩ | ⟨h1, h2⟩
  · rw [h3, List.length_append] at hw
    omega
  · rw [h2]; exact hw
theorem WIn.low {t : List UInt8} {i f : Nat} {done : List (List UInt8)} (h : WIn t i f done) (hi : i ≤ t.length) : f ≤ i := by
  rcases h with ⟨_, h2, _⟩ | ⟨h1, _⟩
  · exact h2
  · omega
theorem extract_B (s : ByteArray) (f i : Nat) : s.extract f i = B ((s.data.toList.drop f).take (i - f)) := by
  rw [← B_eta (s.extract f i), Lib.extract_data]

/-- the op that a word names, among the first. -/
def findOp (x : List UInt8) : Nat → Int
  | 0 => 0
  | n + 1 => if nam ((n + 1 : Nat) : Int) = x then ((n + 1 : Nat) : Int) else findOp x n
theorem nam_nat (k : Nat) (h : k < 16) : nam (k : Int) = names.getD k [] := by
  unfold nam
  rw [if_pos (by omega)]; simp
theorem findOp_cases (x : List UInt8) : ∀ n, n < 16 → (findOp x n = 0 ∧ ∀ k, 1 ≤ k → k ≤ n → x ≠ names.getD k []) ∨ ∃ k : Nat, 1 ≤ k ∧ k ≤ n ∧ findOp x n = k ∧ x = names.getD k []
  | 0, _ => .inl ⟨rfl, fun k h1 h2 => by omega⟩
  | n + 1, hn => by
    unfold findOp
    by_cases h : nam ((n + 1 : Nat) : Int) = x
    · rw [if_pos h]
      exact .inr ⟨n + 1, by omega, by omega, rfl, by rw [← h, nam_nat _ hn]⟩
    · rw [if_neg h]
      rcases findOp_cases x n (by omega) with ⟨h1, h2⟩ | ⟨k, h1, h2, h3, h4⟩
      · refine .inl ⟨h1, fun k k1 k2 => ?_⟩
        by_cases hk : k = n + 1
        · subst hk
          rw [← nam_nat _ hn]; exact fun e => h e.symm
        · exact h2 k k1 (by omega)
      · exact .inr ⟨k, h1, by omega, h3, h4⟩

theorem own_lt {w : World} {base n size : Nat} {e : TypeId} {v : Value} {xs : List Value} (h : w.ownsRow base e size v n xs) {q : Nat} (hq : v.ownBlock = some q) : q < w.heap.size := by
  rcases h.2 with ⟨rfl, _⟩ | ⟨g, cap, cur, rfl, _, h2, _⟩
  · simp [Value.ownBlock] at hq
  · simp [Value.ownBlock] at hq; subst hq; exact lt_of_block h2
theorem ok_no_num {t : List UInt8} (ht : t ≠ []) {x : List UInt8} (hx : x ∈ (wordsL t).tail) (hn : ¬ isNum x) : okP t = false := by
  rw [Bool.eq_false_iff]
  intro h
  obtain ⟨k, _, _, _, h4, _⟩ := (okP_ref t ht).1 h
  exact hn (h4 x hx)
theorem ok_no_op {t : List UInt8} (ht : t ≠ []) (h : ∀ k, 1 ≤ k → k ≤ 15 → (wordsL t).headD [] ≠ names.getD k []) : okP t = false := by
  rw [Bool.eq_false_iff]
  intro hk
  obtain ⟨k, k1, k2, k3, _, _⟩ := (okP_ref t ht).1 hk
  exact h k k1 (by omega) k3
theorem ok_of {t : List UInt8} (ht : t ≠ []) {k : Nat} (h1 : 1 ≤ k) (h2 : k ≤ 15) (hh : (wordsL t).headD [] = names.getD k []) (hn : ∀ x ∈ (wordsL t).tail, isNum x) : okP t = rightP k (lineArgs t) ∧ lineOp t = k := by
  constructor
  · rw [Bool.eq_iff_iff, okP_ref t ht]
    constructor
    · rintro ⟨k', a1, a2, a3, _, a5⟩
      have : k' = k := names_inj k' a2 k (by omega) (by rw [← a3, hh])
      subst this; exact a5
    · intro h
      exact ⟨k, h1, by omega, hh, hn, h⟩
  · unfold lineOp
    rw [hh]; exact idxL_names k (by omega)
/-- how memory lies behind the first loop. -/
structure RIn (w wr : World) (g : Nat) (op : Int) (v : Value) (L : List Int) (v4 : Value) (W : List (List UInt8)) : Prop where
  res : wr.heap[w.heap.size]? = some (.cells #[.int .i64 0, .slice none 0 0] 31 (0, 0))
  box : wr.heap[g]? = some (.cells #[.int .i64 op, v] 31 (0, 0))
  wrd : OwnS wr (w.heap.size + 1) v4 W
  own : OwnI wr (g + 1) v L
  lt : w.heap.size < g
  low : ∀ q, v4.ownBlock = some q → q < g
  bel : Below w.heap.size w wr
section
variable {w wr w' : World} {g : Nat} {op : Int} {v v' v4 : Value} {L L' : List Int} {W : List (List UInt8)}
theorem RIn.size (h : RIn w wr g op v L v4 W) : g < wr.heap.size := lt_of_block h.box
theorem RIn.below (h : RIn w wr g op v L v4 W) (hb : Below wr.heap.size wr w') : RIn w w' g op v L v4 W :=
  have hs := h.size
  have hl := h.lt
  ⟨(hb.block _ (by omega)).trans h.res, (hb.block _ hs).trans h.box, own_below h.wrd hb, own_below h.own hb, hl, h.low, h.bel.trans (hb.mono (by omega))⟩
theorem own_keep {base n size : Nat} {e : TypeId} {v : Value} {xs : List Value} (h : w.ownsRow base e size v n xs) (hk : ∀ q, v.ownBlock = some q → w'.heap[q]? = w.heap[q]?) : w'.ownsRow base e size v n xs := by
  obtain ⟨h1, h2⟩ := h
  refine ⟨h1, ?_⟩
  rcases h2 with h2 | ⟨g', cap, cur, e1, e2, e3, e4⟩
  · exact .inl h2
  · exact .inr ⟨g', cap, cur, e1, e2, (hk g' (by rw [e1]; rfl)).trans e3, e4⟩
/-- an append, and the store of what it hands back. -/
theorem RIn.store (h : RIn w wr g op v L v4 W) (hg : wr.grownBy w' v.ownBlock) (ho : OwnI w' (g + 1) v' L') : RIn w (w'.setCell ⟨g, 1, none⟩ v') g op v' L' v4 W := by
  have hs := h.size
  have hs' := hg.size
  have hl := h.lt
  have hk : ∀ q, q ≤ g → w'.heap[q]? = wr.heap[q]? := fun q hq => hg.block q (by omega) (fun e => by have := own_ge h.own e.symm; omega)
  refine ⟨?_, ?_, ?_, own_set ho (by omega), hl, h.low, ?_⟩
  · exact (set_other (by omega)).trans ((hk _ (by omega)).trans h.res)
  · exact set_cells ((hk _ (by omega)).trans h.box)
  · refine own_keep h.wrd fun q hq => ?_
    have := h.low q hq
    exact (set_other (by omega)).trans (hk q (by omega))
  · exact (below_row h.bel (own_mono h.own (by omega)) hg (by omega)).setCell (by show _ ≤ g; omega) _
theorem RIn.put (h : RIn w wr g op v L v4 W) (z : Int) : RIn w (wr.setCell ⟨g, 0, none⟩ (.int .i64 z)) g z v L v4 W := by
  have hl := h.lt
  refine ⟨(set_other (by omega)).trans h.res, set_cells h.box, ?_, own_set h.own (by omega), hl, h.low, h.bel.setCell (by show _ ≤ g; omega) _⟩
  refine own_keep h.wrd fun q hq => ?_
  have := h.low q hq
  exact set_other (by omega)
theorem RIn.word (h : RIn w wr g op v L v4 W) (hW : W ≠ []) : ∃ g4 c4, v4 = .slice (some ⟨g4, 0, none⟩) W.length c4 ∧ W.length ≤ c4 ∧ ∀ k, k < W.length → wr.cell? ⟨g4, k, none⟩ = some (.string (B (W.getD k []))) := by
  have ho := h.wrd
  rcases h.wrd.2 with ⟨_, h0⟩ | ⟨g4, cap, cur, rfl, h1, h2, h3, h4, h5, h6⟩
  · exact absurd (List.eq_nil_of_length_eq_zero h0) hW
  · refine ⟨g4, cap, rfl, h3, fun k hk => ?_⟩
    rw [own_cell ho k (by rw [vals_len]; exact hk)]
    simp [vals, List.getD_eq_getElem?_getD, hk]
end
theorem RIn.cell {w wr : World} {g g4 c4 : Nat} {op : Int} {v : Value} {L : List Int} {W : List (List UInt8)} (h : RIn w wr g op v L (.slice (some ⟨g4, 0, none⟩) W.length c4) W) {k : Nat} (hk : k < W.length) : wr.cell? ⟨g4, k, none⟩ = some (.string (B (W.getD k []))) := by
  rw [own_cell h.wrd k (by rw [vals_len]; exact hk)]
  simp [vals, List.getD_eq_getElem?_getD, hk]

set_option maxRecDepth 100000 in
set_option maxHeartbeats 6400000 in
theorem refParse_any (w : World) (s : ByteArray) :
    Calls Tryd.prog 16 #[.string s] w fun e w' => ParR w w' s.data.toList e (w.heap.size + 1) := by
  by_cases hl : 400 < s.size
  · have HP := Lib.hid (par_long (t := s.data.toList) (by rw [size_list]; exact hl))
    go_enter Tryd.func16, Tryd.ntmps16
    go_wp2
    (try simp only [Exit.inBlock, Exit.then])
    refine bodyPost_ret (v := .tuple #[.agg #[.int .i64 0, .slice none 0 0], .int .i64 18]) ?_ rfl ⟨⟨.slice none 0 0, ?_, ?_⟩, ?_⟩
    · rw [results_cell_tmp rfl]; go_simp
    · rw [HP.out.1, HP.out.2.2]
    · rw [HP.out.2.1]; exact own_none _ _
    · exact one_al _ _
  by_cases h0 : s.size = 0
  · have hnil : s.data.toList = [] := List.eq_nil_of_length_eq_zero (by rw [size_list]; exact h0)
    have hs : s = ⟨#[]⟩ := by rw [← B_eta s, hnil]; rfl
    subst hs
    clear hl h0 hnil
    go_enter Tryd.func16, Tryd.ntmps16
    go_wp2
    (try simp only [Exit.inBlock, Exit.then])
    refine bodyPost_ret (v := .tuple #[.agg #[.int .i64 0, .slice none 0 0], .int .i64 0]) ?_ rfl ⟨⟨.slice none 0 0, rfl, own_none _ _⟩, ?_⟩
    · rw [results_cell_tmp rfl]; go_simp
    · exact one_al _ _
  have hpos : 0 < s.size := by omega
  have hle : s.size ≤ 400 := by omega
  have hnp : ¬ s.toList = [] := by
    rw [ByteArray.toList_eq]
    intro h
    rw [← size_list, h] at hpos
    exact absurd hpos (by decide)
  have hne : s.toList.isEmpty = false := by
    rw [Bool.eq_false_iff]
    intro h
    exact hnp (List.isEmpty_iff.1 h)
  have HHD : Hid (s.data.toList.head? = some s[0]) := by
    show _ = _
    rw [List.head?_eq_getElem?, List.getElem?_eq_getElem (by rw [size_list]; exact hpos)]; rfl
  clear hl h0
  by_cases h35 : s[0].toNat = 35
  · have HI : Hid (isText s.data.toList = false) := by
      show _ = _
      have : s[0] = 35 := UInt8.toNat_inj.1 h35
      simp [isText, HHD.out, this]
    have HP := Lib.hid (par_none (t := s.data.toList) (by rw [size_list]; omega) HI.out)
    have q35 : ((s[0].toNat : Int) == 35) = true := by simp [h35]
    go_enter Tryd.func16, Tryd.ntmps16
    go_wp2
    (try simp only [Exit.inBlock, Exit.then])
    refine bodyPost_ret (v := .tuple #[.agg #[.int .i64 0, .slice none 0 0], .int .i64 0]) ?_ rfl ⟨⟨.slice none 0 0, ?_, ?_⟩, ?_⟩
    · rw [results_cell_tmp rfl]; go_simp
    · rw [HP.out.1, HP.out.2.2]
    · rw [HP.out.2.1]; exact own_none _ _
    · exact one_al _ _
  have HI : Hid (isText s.data.toList = true) := by
    show _ = _
    have : ¬ s[0] = 35 := fun h => h35 (by rw [h]; rfl)
    have hn : s.data.toList ≠ [] := fun h => by have := HHD.out; rw [h] at this; cases this
    simp [isText, HHD.out, this]
    exact ⟨hle, fun h => by rw [h] at hn; exact hn rfl⟩
  have q35 : ((s[0].toNat : Int) == 35) = false := by simp; omega
  clear h35
  have hbyte : ∀ i (h : i < s.size), s.data.toList[i]? = some s[i] := fun i h => by
    rw [List.getElem?_eq_getElem (by rw [size_list]; exact h)]; rfl
  have HBYTE := Lib.hid hbyte
  clear hbyte
  obtain ⟨i0, hi0, hz0, hz1', hz2'⟩ := info_parts Tryd.info9
  go_enter Tryd.func16, Tryd.ntmps16
  go_wp2
  go_loopg [4, 5, 6] (s.size + 1) (fun q s4 s5 s6 wr => ∃ (i f : Nat) (done : List (List UInt8)), s6 = .int .i64 i ∧ s5 = .int .i64 f ∧ i + q = s.size + 1 ∧ OwnS wr (w.heap.size + 1) s4 done ∧ Below (w.heap.size + 1) (w.alloc (.cells #[.int .i64 0, .slice none 0 0] 31)) wr ∧ WIn s.data.toList i f done)
  case atStart => exact ⟨0, 0, [], rfl, rfl, by omega, ⟨rfl, .inl ⟨rfl, rfl⟩⟩, Below.refl _ _, WIn.start _⟩
  case round =>
    obtain ⟨i, f, done, rfl, rfl, hi, ho, hb, hw⟩ := hrel
    have HI1 := Lib.hid hi
    have HO := Lib.hid ho
    have HB := Lib.hid hb
    have HW := Lib.hid hw
    have hfew := hw.few
    rw [size_list] at hfew
    have hs1 := hb.size
    simp only [World.size_alloc] at hs1
    clear hi ho hb hw
    by_cases hlt : i ≤ s.size
    · have hfi := HW.out.low (by rw [size_list]; exact hlt)
      have hext := extract_B s f i
      generalize hx : (s.data.toList.drop f).take (i - f) = x at *
      have HX := Lib.hid hx
      clear hx
      by_cases hend : i = s.size
      · have qe : ((i : Int) == (s.size : Int)) = true := by simp [hend]
        have HWN : Hid (WIn s.data.toList (i + 1) (i + 1) (done ++ [x])) := by
          have := HW.out
          rw [← HX.out]
          rw [hend, ← size_list] at this ⊢
          exact this.last
        have HEND := Lib.hid hend
        clear hend
        have hfew2 : done.length ≤ 1001 := by omega
        have hsb : (s.extract f i).size ≤ 1000 := by
          have := HX.out
          rw [hext, B_size, ← this, List.length_take]
          have : (s.data.toList.drop f).length ≤ s.size := by rw [List.length_drop, size_list]; omega
          omega
        have HEXT := Lib.hid hext
        clear hext
        go_wp2_with (at_builtin; refine wpList_append_own_at _ rfl _ _ 44 rfl (w.heap.size + 1) 9 i0 _ 1 16 Tryd.underlying44 hi0 hz0 hz1' hz2' rfl (by decide) u4 done.length (vals done) rfl ?c0 ⟨wr.heap.size, 0, none⟩ 1 1 (vals [x]) rfl ?c1 ?c2 ?c3 ?c4 ?c5 ?c6 ?_)
        case c0 => exact own_below HO.out (one_al _ _)
        case c1 => rfl
        case c2 => exact news_one (by simp only [World.cell?, new_block]; first | (rw [HEXT.out]; rfl) | (simp [HEXT.out]))
        case c3 => intro u hu; simp [vals] at hu; subst hu; rfl
        case c4 => unfold maxLen; omega
        case c5 => omega
        case c6 => simp; omega
        intro v' w4 ho4 hg4 _ _
        have HO4 := Lib.hid ho4
        have HB4 : Hid (Below (w.heap.size + 1) (w.alloc (.cells #[.int .i64 0, .slice none 0 0] 31)) w4) := below_row (HB.out.trans ((one_al _ _).mono hs1)) (own_below HO.out (one_al _ _)) hg4 (by simp; omega)
        clear ho4 hg4
        go_wp2
        go_roundg (gk - 1)
        case measure => have := HI1.out; omega
        case rel =>
          refine ⟨i + 1, i + 1, done ++ [x], by simp, by simp, by have := HI1.out; omega, ?_, HB4.out, HWN.out⟩
          unfold OwnS
          rw [List.length_append]
          have := HO4.out
          simpa [vals] using this
      · have qe : ((i : Int) == (s.size : Int)) = false := by simp; omega
        have hils : i < s.size := by omega
        have hbi := HBYTE.out i hils
        clear hend
        by_cases h32 : s[i] = 32
        · have HWN : Hid (WIn s.data.toList (i + 1) (i + 1) (done ++ [x])) := by
            rw [h32] at hbi
            rw [← HX.out]
            exact HW.out.space hbi
          have q32 : ((s[i].toNat : Int) == 32) = true := by rw [h32]; rfl
          clear h32 hbi
          have hfew2 : done.length ≤ 1001 := by omega
          have hsb : (s.extract f i).size ≤ 1000 := by
            have := HX.out
            rw [hext, B_size, ← this, List.length_take]
            have : (s.data.toList.drop f).length ≤ s.size := by rw [List.length_drop, size_list]; omega
            omega
          have HEXT := Lib.hid hext
          clear hext
          go_wp2_with (at_builtin; refine wpList_append_own_at _ rfl _ _ 44 rfl (w.heap.size + 1) 9 i0 _ 1 16 Tryd.underlying44 hi0 hz0 hz1' hz2' rfl (by decide) u4 done.length (vals done) rfl ?c0 ⟨wr.heap.size, 0, none⟩ 1 1 (vals [x]) rfl ?c1 ?c2 ?c3 ?c4 ?c5 ?c6 ?_)
          case c0 => exact own_below HO.out (one_al _ _)
          case c1 => rfl
          case c2 => exact news_one (by simp only [World.cell?, new_block]; first | (rw [HEXT.out]; rfl) | (simp [HEXT.out]))
          case c3 => intro u hu; simp [vals] at hu; subst hu; rfl
          case c4 => unfold maxLen; omega
          case c5 => omega
          case c6 => simp; omega
          intro v' w4 ho4 hg4 _ _
          have HO4 := Lib.hid ho4
          have HB4 : Hid (Below (w.heap.size + 1) (w.alloc (.cells #[.int .i64 0, .slice none 0 0] 31)) w4) := below_row (HB.out.trans ((one_al _ _).mono hs1)) (own_below HO.out (one_al _ _)) hg4 (by simp; omega)
          clear ho4 hg4
          go_wp2
          go_roundg (gk - 1)
          case measure => have := HI1.out; omega
          case rel =>
            refine ⟨i + 1, i + 1, done ++ [x], by simp, by simp, by have := HI1.out; omega, ?_, HB4.out, HWN.out⟩
            unfold OwnS
            rw [List.length_append]
            have := HO4.out
            simpa [vals] using this
        · have HWN : Hid (WIn s.data.toList (i + 1) f done) := HW.out.plain hbi h32
          have q32 : ((s[i].toNat : Int) == 32) = false := by
            have : ¬ s[i].toNat = 32 := fun h => h32 (UInt8.toNat_inj.1 h)
            simp; omega
          clear h32 hbi hext
          go_wp2
          go_roundg (gk - 1)
          case measure => have := HI1.out; omega
          case rel => exact ⟨i + 1, f, done, by simp, rfl, by have := HI1.out; omega, HO.out, HB.out, HWN.out⟩
    · have hie : i = s.size + 1 := by have := HI1.out; omega
      have HDN : Hid (done = wordsL s.data.toList) := by
        have := HW.out
        rw [hie, ← size_list] at this
        exact this.done
      subst hie
      have hin : RIn w (wr.alloc (.cells #[.int .i64 0, .slice none 0 0] 31)) wr.heap.size 0 (.slice none 0 0) [] u4 (wordsL s.data.toList) := by
        rw [← HDN.out]
        refine ⟨?_, new_block _ _, own_below HO.out (one_al _ _), own_none _ _, by omega, fun q hq => own_lt HO.out hq, ?_⟩
        · exact (Below.heap_alloc _ _ _ (by omega)).trans ((HB.out.block _ (by omega)).trans (new_block _ _))
        · exact ((one_al w _).trans (HB.out.mono (by omega))).trans ((one_al _ _).mono (by omega))
      have hwl := words_le s.data.toList
      rw [size_list] at hwl
      have HWE := Lib.hid (wordsL_eq s.data.toList)
      have HWX : Hid (∃ W, W = wordsL s.data.toList) := ⟨_, rfl⟩
      obtain ⟨W, hW⟩ := HWX.out
      rw [← hW] at hwl HWE hin
      have HWW := Lib.hid hW
      have HWL := Lib.hid hwl
      have hWne : W ≠ [] := by rw [HWE.out]; simp
      have hwlen : W.length ≤ 401 := by have := hwl.1; omega
      have HHX : Hid (∃ hd, hd = W.headD []) := ⟨_, rfl⟩
      obtain ⟨hd, hhd⟩ := HHX.out
      have HHW := Lib.hid hhd
      have hg0 : W.getD 0 [] = hd := by rw [hhd]; cases W <;> rfl
      have HG0 := Lib.hid hg0
      obtain ⟨g4, c4, rfl, hc4, -⟩ := hin.word hWne
      have HIN := Lib.hid hin
      have hwpos : 0 < W.length := by rw [HWE.out]; simp
      clear hin hW hwl hhd hg0 hfew HW HI1 HO HB HDN hlt hs1
      go_wp2
      generalize wr.heap.size = g at *
      go_loopg [8] 15 (fun q s8 wx => ∃ i : Nat, s8 = .int .i64 i ∧ i + q = 16 ∧ 1 ≤ i ∧ RIn w wx g (findOp hd (i - 1)) (.slice none 0 0) [] (.slice (some ⟨g4, 0, none⟩) W.length c4) W)
      case atStart => exact ⟨1, rfl, rfl, by omega, HIN.out⟩
      case round =>
        clear HIN
        obtain ⟨i, rfl, hi, hi1, hin⟩ := hrel
        have HI1 := Lib.hid hi
        have HI2 := Lib.hid hin
        have hcw := hin.cell hwpos
        rw [HG0.out] at hcw
        clear hi hin
        by_cases hlt : i ≤ 15
        · have hcl10 : ∀ d os, Calls Tryd.prog 10 #[.int .i64 i] (grow (redrawn wr d) os) fun e w'' => e = .returned (.string (B (nam i))) ∧ ∃ p : Regrown, w'' = grow (redrawn wr p.d) p.os := fun d os => Calls.regrown_of (refName_any _ _)
          have k0 := cell_regrown hcw
          go_wp2_with fail
          refine wp_region_quiet_below (by kernel_rfl) (by kernel_rfl) ?_
          repeat (quiet_step ((go_at_call 10; exact hcl10 _ _)))
          refine wpQuiet_nil ?_
          intro _ hw'
          obtain ⟨⟨dq, osq⟩, hw''⟩ := hw'
          subst hw''
          have hin3 := HI2.out.below (below_regrown wr dq osq)
          clear hcl10 k0 hcw HI2
          generalize grow (redrawn wr dq) osq = wg at *
          obtain ⟨d0, d1, d2, d3, dl⟩ := box_any hin3.box
          have HI3 := Lib.hid hin3
          clear hin3
          have HF : Hid (findOp hd i = if nam i = hd then (i : Int) else findOp hd (i - 1)) := by
            show _ = _
            obtain ⟨m, rfl⟩ : ∃ m, i = m + 1 := ⟨i - 1, by omega⟩
            rfl
          by_cases hnm : nam i = hd
          · have hq : ((B (nam i)).toList == (B hd).toList) = true := by rw [hnm]; simp
            have HNM := Lib.hid hnm
            rw [hq]
            clear hnm hq
            go_wp2
            go_roundg (gk - 1)
            case measure => have := HI1.out; omega
            case rel =>
              refine ⟨i + 1, by simp, by have := HI1.out; omega, by omega, ?_⟩
              rw [Nat.add_sub_cancel, HF.out, if_pos HNM.out]
              exact HI3.out.put _
          · have hq : ((B (nam i)).toList == (B hd).toList) = false := by
              rw [Bool.eq_false_iff]
              intro h
              exact hnm (B_inj.1 ((beqS _ _).1 h))
            have HNM := Lib.hid hnm
            rw [hq]
            clear hnm hq
            go_wp2
            go_roundg (gk - 1)
            case measure => have := HI1.out; omega
            case rel =>
              refine ⟨i + 1, by simp, by have := HI1.out; omega, by omega, ?_⟩
              rw [Nat.add_sub_cancel, HF.out, if_neg HNM.out]
              exact HI3.out
        · have hie : i = 16 := by have := HI1.out; omega
          subst hie
          have hfc := findOp_cases hd 15 (by omega)
          have HIN : Hid (RIn w wr g (findOp hd 15) (.slice none 0 0) [] (.slice (some ⟨g4, 0, none⟩) W.length c4) W) := HI2.out
          clear HI2 hlt hi1 HI1 hcw
          generalize findOp hd 15 = op at *
          have HFC := Lib.hid hfc
          clear hfc i0 hi0 hz0 hz1' hz2'
          obtain ⟨i0, hi0, hz0, hz1', hz2'⟩ := info_parts Tryd.info3
          go_wp2
          go_loopg [9] (W.length - 1) (fun q s9 wx => ∃ (i : Nat) (v : Value), s9 = .int .i64 i ∧ i + q = W.length ∧ 1 ≤ i ∧ RIn w wx g op v ((W.tail.take (i - 1)).map av) (.slice (some ⟨g4, 0, none⟩) W.length c4) W ∧ ∀ x ∈ W.tail.take (i - 1), isNum x)
          case atStart => exact ⟨1, _, rfl, by omega, by omega, HIN.out, by intro x hx; simp at hx⟩
          case round =>
            clear HIN
            obtain ⟨i, v, rfl, hi, hi1, hin, hnum⟩ := hrel
            have HI1 := Lib.hid hi
            have HI2 := Lib.hid hin
            have HNUM := Lib.hid hnum
            have htn : Hid (s.data.toList ≠ []) := fun h => by have := HHD.out; rw [h] at this; cases this
            have hwt : W.tail.length = W.length - 1 := by simp
            clear hi hnum
            by_cases hlt : i < W.length
            · have hjt : i - 1 < W.tail.length := by omega
              have hcw := hin.cell hlt
              have hwx : W.getD i [] = W.tail.getD (i - 1) [] := by
                obtain ⟨m, rfl⟩ : ∃ m, i = m + 1 := ⟨i - 1, by omega⟩
                rw [HWE.out]; simp
              rw [hwx] at hcw
              have HK := Lib.hid (take_next W.tail (i - 1) [] hjt)
              have hxm : W.tail.getD (i - 1) [] ∈ W.tail := by
                rw [List.getD_eq_getElem?_getD, List.getElem?_eq_getElem hjt]
                exact List.getElem_mem hjt
              have hxl : (W.tail.getD (i - 1) []).length ≤ 1000 := by
                have := HWL.out.2 _ (by rw [HWE.out]; exact List.mem_cons_of_mem _ hxm)
                omega
              generalize hx : W.tail.getD (i - 1) [] = x at *
              have HX := Lib.hid hx
              have HXM := Lib.hid hxm
              have hcall := number_any wr (B x) hxl
              have hjl : ((W.tail.take (i - 1)).map av).length ≤ 1000 := by simp; omega
              generalize hL : (W.tail.take (i - 1)).map av = L at *
              have HL := Lib.hid hL
              clear hL hx hxm hwx
              obtain ⟨b0, b1, b2, b3, bl⟩ := box_any hin.box
              obtain ⟨r0, r1, r2, r3, rl⟩ := box_any hin.res
              clear hin
              go_wp2_with fail
              refine hcall.mono ?_
              rintro e w3 ⟨⟨z, b, rfl, hnp⟩, rfl⟩
              rw [NumP, B_data] at hnp
              have HNP := Lib.hid hnp
              clear hnp hcall
              cases b
              · have HPF := Lib.hid (par_form HI.out (ok_no_num htn.out (by rw [← HWW.out]; exact HXM.out) (fun h => by have := HNP.out.1.2 h; cases this)))
                have HI3 := HI2
                go_wp2
                (try simp only [Exit.inBlock, Exit.then])
                refine bodyPost_ret (v := .tuple #[.agg #[.int .i64 0, .slice none 0 0], .int .i64 14]) ?_ rfl ⟨⟨.slice none 0 0, ?_, ?_⟩, ?_⟩
                · rw [results_cell_tmp rfl]; go_simp
                · rw [HPF.out.1, HPF.out.2.2]
                · rw [HPF.out.2.1]; exact own_none _ _
                · first | exact HI3.out.bel | exact (HI3.out.bel.setCell (Nat.le_refl _) _) | exact ((HI3.out.bel.setCell (Nat.le_refl _) _).setCell (Nat.le_refl _) _)
              · have hz := HNP.out.2 rfl
                subst hz
                go_wp2_with (at_builtin; refine wpList_append_own_at _ rfl _ _ 22 rfl (g + 1) 3 i0 _ 1 8 Tryd.underlying22 hi0 hz0 hz1' hz2' rfl (by decide) v L.length (L.map (Value.int .i64)) rfl ?c0 ⟨wr.heap.size, 0, none⟩ 1 1 [.int .i64 (av x)] rfl ?c1 ?c2 ?c3 ?c4 ?c5 ?c6 ?_)
                case c0 => exact own_below HI2.out.own (one_al _ _)
                case c1 => rfl
                case c2 => exact news_one (by simp only [World.cell?, new_block]; rfl)
                case c3 => intro u hu; simp at hu; subst hu; rfl
                case c4 => unfold maxLen; omega
                case c5 => omega
                case c6 => simp; omega
                intro v' w4 ho4 hg4 _ _
                have hin4 := HI2.out.below (one_al wr (.cells #[.int .i64 (av x)] 3))
                have hk4 := hg4.block
                have hin5 := hin4.store hg4 (L' := L ++ [av x]) (by unfold OwnI; rw [List.length_append, List.map_append]; exact ho4)
                have hbx4 := (hk4 g (by simp; omega) (fun e => by have := own_ge hin4.own e.symm; omega)).trans hin4.box
                clear b0 b1 b2 b3 bl r0 r1 r2 r3 rl
                obtain ⟨d0, d1, d2, d3, dl⟩ := box_any hbx4
                obtain ⟨A', c', rfl⟩ := own_slice ho4
                have HI5 := Lib.hid hin5
                clear hbx4 hin4 hin5 hk4 ho4 hg4
                go_wp2
                go_roundg (gk - 1)
                case measure => have := HI1.out; omega
                case rel =>
                  refine ⟨i + 1, .slice A' (L.length + 1) c', by simp, by have := HI1.out; omega, by omega, ?_, ?_⟩
                  · rw [Nat.add_sub_cancel]
                    have e : W.tail.take i = W.tail.take (i - 1) ++ [x] := by
                      have := HK.out
                      rwa [show i - 1 + 1 = i from by omega] at this
                    rw [e, List.map_append, HL.out]
                    exact HI5.out
                  · rw [Nat.add_sub_cancel]
                    have e : W.tail.take i = W.tail.take (i - 1) ++ [x] := by
                      have := HK.out
                      rwa [show i - 1 + 1 = i from by omega] at this
                    rw [e]
                    intro y hy
                    rcases List.mem_append.1 hy with hy | hy
                    · exact HNUM.out y hy
                    · rw [List.mem_singleton.1 hy]; exact HNP.out.1.1 (by trivial)
            · have hie : i = W.length := by have := HI1.out; omega
              have htk : W.tail.take (i - 1) = W.tail := List.take_of_length_le (by omega)
              rw [htk] at HI2 HNUM
              clear hin htk
              have HLL : Hid (W.tail.map av = lineArgs s.data.toList) := by
                show _ = _
                unfold lineArgs
                rw [← HWW.out]
              have hll : (W.tail.map av).length ≤ 1000 := by simp; omega
              rw [HLL.out] at HI2 hll
              generalize hL : lineArgs s.data.toList = L at *
              have HLA := Lib.hid hL
              obtain ⟨A, c, rfl, hrd⟩ := own_readsI HI2.out.own
              obtain ⟨b0, b1, b2, b3, bl⟩ := box_any HI2.out.box
              obtain ⟨r0, r1, r2, r3, rl⟩ := box_any HI2.out.res
              have hbx := HI2.out.box
              have HI3 := HI2
              clear hL
              rcases HFC.out with ⟨hop, hno⟩ | ⟨k, k1, k2, hop, hhd⟩
              · have HPF := Lib.hid (par_form HI.out (ok_no_op htn.out (by rw [← HWW.out, ← HHW.out]; exact hno)))
                subst hop
                clear hno hrd
                go_wp2
                (try simp only [Exit.inBlock, Exit.then])
                refine bodyPost_ret (v := .tuple #[.agg #[.int .i64 0, .slice none 0 0], .int .i64 14]) ?_ rfl ⟨⟨.slice none 0 0, ?_, ?_⟩, ?_⟩
                · rw [results_cell_tmp rfl]; go_simp
                · rw [HPF.out.1, HPF.out.2.2]
                · rw [HPF.out.2.1]; exact own_none _ _
                · first | exact HI3.out.bel | exact (HI3.out.bel.setCell (Nat.le_refl _) _) | exact ((HI3.out.bel.setCell (Nat.le_refl _) _).setCell (Nat.le_refl _) _)
              · have hok := ok_of htn.out k1 k2 (by rw [← HWW.out, ← HHW.out]; exact hhd) (by rw [← HWW.out]; exact HNUM.out)
                rw [HLA.out] at hok
                have HOK := Lib.hid hok
                subst hop
                have hk0 : ((k : Int) == 0) = false := by simp; omega
                have hcall := refRight_any wr k A c L hrd L.length rfl hll
                clear hok hhd hrd
                cases hr : rightP k L
                · have HPF := Lib.hid (par_form HI.out (by rw [HOK.out.1, hr]))
                  rw [hr] at hcall
                  clear hr
                  go_wp2_with fail
                  refine hcall.mono ?_
                  rintro e w3 ⟨rfl, hb3⟩
                  have hin3 := HI2.out.below hb3
                  clear b0 b1 b2 b3 bl r0 r1 r2 r3 rl hbx HI3
                  obtain ⟨r0, r1, r2, r3, rl⟩ := box_any hin3.res
                  have HI3 := Lib.hid hin3
                  clear hb3 hin3 hcall
                  go_wp2
                  (try simp only [Exit.inBlock, Exit.then])
                  refine bodyPost_ret (v := .tuple #[.agg #[.int .i64 0, .slice none 0 0], .int .i64 14]) ?_ rfl ⟨⟨.slice none 0 0, ?_, ?_⟩, ?_⟩
                  · rw [results_cell_tmp rfl]; go_simp
                  · rw [HPF.out.1, HPF.out.2.2]
                  · rw [HPF.out.2.1]; exact own_none _ _
                  · first | exact HI3.out.bel | exact (HI3.out.bel.setCell (Nat.le_refl _) _) | exact ((HI3.out.bel.setCell (Nat.le_refl _) _).setCell (Nat.le_refl _) _)
                · have HPT := Lib.hid (par_text HI.out (by rw [HOK.out.1, hr]))
                  rw [hr] at hcall
                  clear hr
                  go_wp2_with fail
                  refine hcall.mono ?_
                  rintro e w3 ⟨rfl, hb3⟩
                  have hin3 := HI2.out.below hb3
                  clear b0 b1 b2 b3 bl r0 r1 r2 r3 rl hbx HI3
                  obtain ⟨r0, r1, r2, r3, rl⟩ := box_any hin3.res
                  obtain ⟨b0, b1, b2, b3, bl⟩ := box_any hin3.box
                  have hbx := hin3.box
                  have HI3 := Lib.hid hin3
                  clear hb3 hin3 hcall
                  go_wp2
                  (try simp only [Exit.inBlock, Exit.then])
                  refine bodyPost_ret (v := .tuple #[.agg #[.int .i64 k, .slice A L.length c], .int .i64 0]) ?_ rfl ⟨⟨.slice A L.length c, ?_, ?_⟩, ?_⟩
                  · rw [results_cell_tmp rfl]; go_simp
                  · rw [HPT.out.1, HPT.out.2.2, HOK.out.2]
                  · rw [HPT.out.2.1, HLA.out]
                    have hlt := HI3.out.lt
                    first | exact own_mono HI3.out.own (by omega) | exact own_mono (own_set HI3.out.own (by omega)) (by omega) | exact own_mono (own_set (own_set HI3.out.own (by omega)) (by omega)) (by omega)
                  · first | exact HI3.out.bel | exact (HI3.out.bel.setCell (Nat.le_refl _) _) | exact ((HI3.out.bel.setCell (Nat.le_refl _) _).setCell (Nat.le_refl _) _)
end Go.Proofs.YtconmkhoiomeiaaDoor
