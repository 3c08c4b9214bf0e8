/- A line's text: the program's Print and the reference's. -/
import Derived.Test.YtconmkhoiomeiaaDoorT2
import Derived.Maps.AppendAt
import Derived.Deep.AppendLies
import Derived.OwnWalk
namespace Go.Proofs.YtconmkhoiomeiaaDoor
open Go.RowKit Go.Sort
open Go.Lib (join join_one join_cons)

theorem ret_tup {a b c d : Value} (h : a = b) (k : c = d) : Ending.returned (.tuple #[a, c]) = .returned (.tuple #[b, d]) := by rw [h, k]
theorem own_ge {w : World} {base n : Nat} {e : TypeId} {size : Nat} {v : Value} {xs : List Value} (h : w.ownsRow base e size v n xs) {k : Nat} (hk : v.ownBlock = some k) : base ≤ k := by
  rcases h.2 with ⟨rfl, _⟩ | ⟨g, cap, cur, rfl, hb, _⟩
  · simp [Value.ownBlock] at hk
  · have : g = k := by simpa [Value.ownBlock] using hk
    omega
theorem own_cell {w : World} {base g c n : Nat} {e : TypeId} {size : Nat} {xs : List Value} (h : w.ownsRow base e size (.slice (some ⟨g, 0, none⟩) n c) n xs) (j : Nat) (hj : j < xs.length) : w.cell? ⟨g, j, none⟩ = xs[j]? := by
  rcases h.2 with ⟨h0, h1⟩ | ⟨g', cap, cur, h0, h1, h2, h3, h4, h5, h6⟩
  · have := h.1; rw [h1, Nat.zero_mul] at this; omega
  · have : g = g' := by injection h0 with h0; injection h0 with h0; injection h0 with h0
    subst this
    simp only [World.cell?, h2]
    have h7 := congrArg (fun x : List Value => x[j]?) h6
    simp only [List.getElem?_take] at h7
    have hl : xs.length = n * size := h.1
    rw [if_pos (by omega)] at h7
    rw [← h7]
    simp
theorem own_below {w w' : World} {base n size : Nat} {e : TypeId} {v : Value} {xs : List Value} (h : w.ownsRow base e size v n xs) (hb : Below w.heap.size w w') : w'.ownsRow base e size v n xs := by
  obtain ⟨h1, h2⟩ := h
  refine ⟨h1, ?_⟩
  rcases h2 with h2 | ⟨g, cap, cur, e1, e2, e3, e4⟩
  · exact .inl h2
  · exact .inr ⟨g, cap, cur, e1, e2, (hb.block g (lt_of_block e3)).trans e3, e4⟩
theorem below_row {w W w' : World} {base n size : Nat} {e : TypeId} {v : Value} {xs : List Value} (hb : Below base w W) (ho : W.ownsRow base e size v n xs) (hg : W.grownBy w' v.ownBlock) (hs : base ≤ W.heap.size) : Below base w w' :=
  hb.trans ⟨hg.os, hg.tape, hg.output, hg.size, fun q hq => hg.block q (by omega) (fun e => by have := own_ge ho e.symm; omega)⟩
theorem news_one {W : World} {g : Nat} {v : Value} (h : W.cell? ⟨g, 0, none⟩ = some v) : ∀ j u, [v][j]? = some u → W.cell? ((⟨g, 0, none⟩ : Addr).add j) = some u := by
  intro j u hu
  cases j with
  | zero => simp at hu; subst hu; simpa [Addr.add] using h
  | succ j => simp at hu

/-- the strings of words. -/
def vals (L : List (List UInt8)) : List Value := L.map fun l => .string (B l)
theorem vals_len (L : List (List UInt8)) : (vals L).length = L.length := by simp [vals]
/-- a row of words of the call's own. -/
def OwnS (w : World) (base : Nat) (v : Value) (L : List (List UInt8)) : Prop := w.ownsRow base 9 1 v L.length (vals L)
theorem own_one (w : World) (base : Nat) (l : List UInt8) (hb : base ≤ w.heap.size) : OwnS (w.alloc (.cells #[.string (B l)] 9)) base (.slice (some ⟨w.heap.size, 0, none⟩) 1 1) [l] :=
  ⟨rfl, .inr ⟨w.heap.size, 1, _, rfl, hb, new_block _ _, Nat.le_refl _, by unfold maxLen; omega, rfl, rfl⟩⟩
theorem join_len (k : Nat) : ∀ L : List (List UInt8), (∀ x ∈ L, x.length ≤ k) → (join L [32]).length ≤ (k + 1) * L.length
  | [], _ => by simp [join]
  | [x], h => by rw [join_one]; have := h x (by simp); simp; omega
  | x :: y :: r, h => by
    have h1 := join_len k (y :: r) fun z hz => h z (by simp [hz])
    have h2 := h x (by simp)
    rw [join_cons2, List.length_append, List.length_append]
    have e : (k + 1) * (x :: y :: r).length = (k + 1) + (k + 1) * (y :: r).length := by
      show (k + 1) * ((y :: r).length + 1) = _
      rw [Nat.mul_add, Nat.mul_one, Nat.add_comm]
    rw [e]
    simp only [List.length_cons, List.length_nil] at h1 h2 ⊢
    omega
theorem join_snoc (x y : List UInt8) (L : List (List UInt8)) : join (x :: L ++ [y]) [32] = join (x :: L) [32] ++ [32] ++ y := by
  induction L generalizing x with
  | nil =>
    show join [x, y] [32] = _
    rw [join_cons2, join_one, join_one]
  | cons z L ih =>
    show join (x :: z :: (L ++ [y])) [32] = _
    rw [join_cons2, join_cons2]
    have := ih z
    rw [List.cons_append] at this
    rw [this]
    simp [List.append_assoc]

/-- what Print hands back of a line. -/
def prT (op : Int) (l : List Int) : List UInt8 := if rightP op l = true then printP op l else []
def prE (op : Int) (l : List Int) : Int := if rightP op l = true then 0 else 2

theorem names_few : ∀ k : Nat, k < 16 → (names.getD k []).length ≤ 21 := by decide
theorem nam_few (op : Int) : (nam op).length ≤ 21 := by
  unfold nam
  split
  · exact names_few _ (by omega)
  · simp
theorem digs_few (z : Int) (h0 : 0 ≤ z) (h1 : z ≤ 999999999) : (Lib.decDigits z.toNat).length ≤ 21 := decDigits_le _ (by omega)
theorem words_few {op : Int} {l : List Int} (h : ∀ z ∈ l, 0 ≤ z ∧ z ≤ 999999999) : ∀ x ∈ wordsP op l, x.length ≤ 21 := by
  intro x hx
  rcases List.mem_cons.1 hx with rfl | hx
  · exact nam_few op
  · obtain ⟨z, hz, rfl⟩ := List.mem_map.1 hx
    exact digs_few z (h z hz).1 (h z hz).2

theorem itoa_any (w : World) (z : Int) (h0 : 0 ≤ z) (h1 : z ≤ 999999999) (ht : Ties w) : Calls Tryd.prog 17 #[.int .i64 z] w fun e w' => e = .returned (.string (B (Lib.decDigits z.toNat))) ∧ Below w.heap.size w w' := by
  refine (Tryd.strconv_Itoa z (by omega) (by omega) w ht.pow10).mono ?_
  rintro e w' ⟨rfl, k, os, rfl⟩
  refine ⟨?_, below_regrown w _ os⟩
  obtain ⟨m, rfl⟩ := Int.eq_ofNat_of_zero_le h0
  rw [Lib.itoa_nonneg]; rfl
theorem digits_any (w : World) (z : Int) (h0 : 0 ≤ z) (h1 : z ≤ 9223372036854775807) : Calls Tryd.prog 19 #[.int .i64 z] w fun e w' => e = .returned (.string (B (Lib.decDigits z.toNat))) ∧ w = w' := by
  obtain ⟨m, rfl⟩ := Int.eq_ofNat_of_zero_le h0
  refine (digits_pos w m (by omega)).mono ?_
  rintro e w' ⟨rfl, rfl⟩
  refine ⟨?_, rfl⟩
  unfold dec; rw [Lib.itoa_nonneg]; rfl
theorem join_any (w : World) (base : Nat) (v : Value) (L : List (List UInt8)) (h : OwnS w base v L) (hne : L ≠ []) (hL : L.length ≤ 2000) (hf : ∀ x ∈ L, x.length ≤ 1000) :
    Calls Tryd.prog 18 #[v, .string ⟨#[32]⟩] w fun e w' => e = .returned (.string (B (join L [32]))) ∧ Below w.heap.size w w' := by
  rcases h.2 with ⟨_, h0⟩ | ⟨g, cap, cur, rfl, h1, h2, h3, h4, h5, h6⟩
  · exact absurd (List.eq_nil_of_length_eq_zero h0) hne
  · have hl : (L.map B).length = L.length := by simp
    have hd : (L.map B).map (·.data.toList) = L := by rw [List.map_map]; conv => rhs; rw [← List.map_id L]
                                                      exact List.map_congr_left fun x _ => B_data x
    have hj := join_len 1000 L hf
    have := Tryd.strings_Join g 0 cap (L.map B) ⟨#[32]⟩ w (fun j x hx => by
      have hjl : j < L.length := by rw [← hl]; exact (List.getElem?_eq_some_iff.1 hx).1
      rw [Nat.zero_add, own_cell h j (by rw [vals_len]; exact hjl)]
      simp only [List.getElem?_map, vals] at hx ⊢
      cases hq : L[j]? with
      | none => rw [hq] at hx; cases hx
      | some q => rw [hq] at hx; simp at hx; subst hx; rfl) (lt_of_block h2) (by omega) (by omega) (by
        rw [hd]
        show (join L [32]).length ≤ _
        omega)
    rw [hl, hd] at this
    exact this


theorem take_next {α : Type} (l : List α) (j : Nat) (d : α) (h : j < l.length) : l.take (j + 1) = l.take j ++ [l.getD j d] := by
  rw [List.take_succ_eq_append_getElem h]
  simp [List.getD_eq_getElem?_getD, h]
theorem getD_mem {l : List Int} {j : Nat} (h : j < l.length) : l.getD j 0 ∈ l := by
  rw [List.getD_eq_getElem?_getD, List.getElem?_eq_getElem h]
  exact List.getElem_mem h

set_option maxRecDepth 100000 in
set_option maxHeartbeats 3200000 in
theorem print_any (w : World) (op : Int) (A : Option Addr) (c : Nat) (l : List Int) (hr : ReadsI w A l) (n : Nat) (hn : l.length = n) (hl : n ≤ 1000) (ht : Ties w) :
    Calls Tryd.prog 7 #[.agg #[.int .i64 op, .slice A n c]] w fun e w' => e = .returned (.tuple #[.string (B (prT op l)), .int .i64 (prE op l)]) ∧ Below w.heap.size w w' := by
  have hb0 : Below w.heap.size w (w.alloc (.cells #[.int .i64 op, .slice A n c] 24)) := one_al _ _
  have hcall := right_any (w.alloc (.cells #[.int .i64 op, .slice A n c] 24)) op A c l (hr.below hb0) n hn hl
  have HR := Lib.hid hr
  have HN := Lib.hid hn
  have HTI := Lib.hid ht
  clear hr hn ht hb0
  have HCALL := Lib.hid hcall
  clear hcall
  cases hp : rightP op l
  · have HT : Hid (prT op l = []) := by show _ = _; simp [prT, hp]
    have HE : Hid (prE op l = 2) := by show _ = _; simp [prE, hp]
    rw [hp] at HCALL
    go_enter Tryd.func7, Tryd.ntmps7
    go_wp2_with fail
    refine HCALL.out.mono ?_
    rintro e w1 ⟨rfl, hb⟩
    have HB : Hid (Below w.heap.size w w1) := (one_al w _).trans (hb.mono (by simp))
    clear hb
    go_wp2
    go_ret2
    exact ⟨by rw [HT.out, HE.out]; rfl, HB.out⟩
  · have HT : Hid (prT op l = printP op l) := by show _ = _; simp [prT, hp]
    have HE : Hid (prE op l = 0) := by show _ = _; simp [prE, hp]
    have HARGS := Lib.hid (right_args hp)
    rw [hp] at HCALL
    clear hp
    obtain ⟨i0, hi0, hz0, hz1', hz2'⟩ := info_parts Tryd.info9
    go_enter Tryd.func7, Tryd.ntmps7
    go_wp2_with fail
    refine HCALL.out.mono ?_
    rintro e w1 ⟨rfl, hb⟩
    obtain ⟨c0, c1⟩ := line_cells ((hb.block w.heap.size (by simp)).trans (box_cells w op A n c 24))
    have hb1 : Below w.heap.size w w1 := (one_al w _).trans (hb.mono (by simp))
    have hty := HTI.out.below hb1
    have HB := Lib.hid hb1
    have HTY := Lib.hid hty
    have hlt1 : w.heap.size < w1.heap.size := World.block_lt_of_cell? w1 _ c0
    clear hb hb1 hty HCALL
    go_wp2_with fail
    refine (name_any w1 op HTY.out).mono ?_
    rintro e w2 ⟨rfl, rfl⟩
    go_wp2
    clear c0 c1 hlt1
    go_loopg [4, 17] n (fun q s4 s17 wr => ∃ j : Nat, s17 = .int .i64 j ∧ j + q = n ∧ OwnS wr w.heap.size s4 (nam op :: (l.take j).map fun z => Lib.decDigits z.toNat) ∧ Below w.heap.size w wr)
    case atStart => exact ⟨0, rfl, by omega, own_one _ _ _ HB.out.size, HB.out.trans ((one_al _ _).mono HB.out.size)⟩
    case round =>
      obtain ⟨j, rfl, hj, ho, hb⟩ := hrel
      have HJ := Lib.hid hj
      have HO := Lib.hid ho
      have HB2 := Lib.hid hb
      clear hj ho hb
      by_cases hlt : j < n
      · have hjl : j < l.length := by rw [HN.out]; exact hlt
        obtain ⟨b, o, rfl, hc⟩ := reads_at (HR.out.below HB2.out) hjl
        have hz := HARGS.out.2 _ (getD_mem hjl)
        have HK := Lib.hid (take_next l j 0 hjl)
        generalize hy : l.getD j 0 = y at *
        have HY := Lib.hid hy
        clear hy hjl
        have hcall := itoa_any wr y hz.1 hz.2 (HTI.out.below HB2.out)
        have hfew := digs_few y hz.1 hz.2
        have HZ := Lib.hid hz
        clear hz
        generalize hd : Lib.decDigits y.toNat = d at *
        have HD := Lib.hid hd
        clear hd
        go_wp2_with fail
        refine hcall.mono ?_
        rintro e w3 ⟨rfl, hb3⟩
        have HO3 := Lib.hid (own_below HO.out hb3)
        have HB3 : Hid (Below w.heap.size w w3) := HB2.out.trans (hb3.mono HB2.out.size)
        have hs3 := HB3.out.size
        clear hb3 hcall hc
        have hlen : (nam op :: (l.take j).map fun z => Lib.decDigits z.toNat).length = (vals (nam op :: (l.take j).map fun z => Lib.decDigits z.toNat)).length := (vals_len _).symm
        have hlen2 : (nam op :: (l.take j).map fun z => Lib.decDigits z.toNat).length ≤ 2000 := by simp; omega
        generalize hL : (nam op :: (l.take j).map fun z => Lib.decDigits z.toNat) = L at *
        have HL := Lib.hid hL
        clear hL
        go_wp2_with (at_builtin; refine wpList_append_own_at _ rfl _ _ 44 rfl w.heap.size 9 i0 _ 1 16 Tryd.underlying44 hi0 hz0 hz1' hz2' rfl (by decide) u4 L.length (vals L) rfl ?c0 ⟨w3.heap.size, 0, none⟩ 1 1 (vals [d]) rfl ?c1 ?c2 ?c3 ?c4 ?c5 ?c6 ?_)
        case c0 => exact own_below HO3.out (one_al _ _)
        case c1 => rfl
        case c2 => exact news_one (by simp only [World.cell?, new_block]; rfl)
        case c3 => intro u hu; simp [vals] at hu; subst hu; rfl
        case c4 => unfold maxLen; omega
        case c5 => omega
        case c6 => simp; omega
        intro v' w4 ho4 hg4 _ _
        have HO4 := Lib.hid ho4
        have HB4 : Hid (Below w.heap.size w w4) := below_row (HB3.out.trans ((one_al _ _).mono hs3)) (own_below HO3.out (one_al _ _)) hg4 (by simp; omega)
        clear ho4 hg4
        go_wp2
        go_roundg (gk - 1)
        case measure => have := HJ.out; omega
        case rel =>
          refine ⟨j + 1, by simp, by have := HJ.out; omega, ?_, HB4.out⟩
          have e : (nam op :: (l.take (j + 1)).map fun z => Lib.decDigits z.toNat) = L ++ [d] := by
            rw [HK.out, List.map_append, ← HL.out, ← HD.out]; rfl
          rw [e]
          unfold OwnS
          rw [List.length_append]
          have := HO4.out
          simpa [vals] using this
      · have hjn : j = n := by have := HJ.out; omega
        subst hjn
        have hw : (nam op :: (l.take j).map fun z => Lib.decDigits z.toNat) = wordsP op l := by
          rw [List.take_of_length_le (by have := HN.out; omega)]; rfl
        have hcall := join_any wr w.heap.size _ _ HO.out (by simp) (by simp; omega) (by
          rw [hw]; intro x hx; have := words_few (op := op) HARGS.out.2 x hx; omega)
        rw [hw] at hcall
        clear hw
        go_wp2_with fail
        refine hcall.mono ?_
        rintro e w3 ⟨rfl, hb3⟩
        have HB3 : Hid (Below w.heap.size w w3) := HB2.out.trans (hb3.mono HB2.out.size)
        clear hb3 hcall
        go_wp2
        go_ret2
        exact ⟨by rw [HT.out, HE.out]; rfl, HB3.out⟩


theorem B_append (a b : List UInt8) : B a ++ B b = B (a ++ b) := by
  apply ByteArray.ext
  simp [B]

/-- the text of a line's first words. -/
def pre (op : Int) (l : List Int) (j : Nat) : List UInt8 := join (nam op :: (l.take j).map fun z => Lib.decDigits z.toNat) [32]
theorem pre_next (op : Int) (l : List Int) (j : Nat) (h : j < l.length) : pre op l (j + 1) = pre op l j ++ [32] ++ Lib.decDigits (l.getD j 0).toNat := by
  unfold pre
  rw [take_next l j 0 h, List.map_append]
  exact join_snoc _ _ _
theorem pre_all (op : Int) (l : List Int) : pre op l l.length = printP op l := by
  unfold pre; rw [List.take_length]; rfl
theorem pre_few {op : Int} {l : List Int} (h : ∀ z ∈ l, 0 ≤ z ∧ z ≤ 999999999) (j : Nat) (hl : l.length ≤ 1000) : (pre op l j).length ≤ 100000 := by
  have h1 := join_len 21 (wordsP op (l.take j)) (words_few (op := op) (l := l.take j) fun z hz => h z (List.mem_of_mem_take hz))
  have h2 : (pre op l j).length ≤ 22 * (wordsP op (l.take j)).length := h1
  simp only [wordsP, List.length_cons, List.length_map, List.length_take] at h2
  omega

set_option maxHeartbeats 3200000 in
theorem refPrint_any (w : World) (op : Int) (A : Option Addr) (c : Nat) (l : List Int) (hr : ReadsI w A l) (n : Nat) (hn : l.length = n) (hl : n ≤ 1000) :
    Calls Tryd.prog 8 #[.agg #[.int .i64 op, .slice A n c]] w fun e w' => e = .returned (.tuple #[.string (B (prT op l)), .int .i64 (prE op l)]) ∧ Below w.heap.size w w' := by
  have hb0 : Below w.heap.size w (w.alloc (.cells #[.int .i64 op, .slice A n c] 31)) := one_al _ _
  have hcall := refRight_any (w.alloc (.cells #[.int .i64 op, .slice A n c] 31)) op A c l (hr.below hb0) n hn hl
  have HR := Lib.hid hr
  have HN := Lib.hid hn
  clear hr hn hb0
  have HCALL := Lib.hid hcall
  clear hcall
  cases hp : rightP op l
  · have HT : Hid (prT op l = []) := by show _ = _; simp [prT, hp]
    have HE : Hid (prE op l = 2) := by show _ = _; simp [prE, hp]
    rw [hp] at HCALL
    go_enter Tryd.func8, Tryd.ntmps8
    go_wp2_with fail
    refine HCALL.out.mono ?_
    rintro e w1 ⟨rfl, hb⟩
    have HB : Hid (Below w.heap.size w w1) := (one_al w _).trans (hb.mono (by simp))
    clear hb
    go_wp2
    go_ret2
    exact ⟨by rw [HT.out, HE.out]; rfl, HB.out⟩
  · have HT : Hid (prT op l = printP op l) := by show _ = _; simp [prT, hp]
    have HE : Hid (prE op l = 0) := by show _ = _; simp [prE, hp]
    have HARGS := Lib.hid (right_args hp)
    rw [hp] at HCALL
    clear hp
    go_enter Tryd.func8, Tryd.ntmps8
    go_wp2_with fail
    refine HCALL.out.mono ?_
    rintro e w1 ⟨rfl, hb⟩
    have hbox := (hb.block w.heap.size (by simp)).trans (box_cells w op A n c 31)
    obtain ⟨c0, c1⟩ := line_cells hbox
    have hb1 : Below w.heap.size w w1 := (one_al w _).trans (hb.mono (by simp))
    have HB := Lib.hid hb1
    have hlt1 : w.heap.size < w1.heap.size := lt_of_block hbox
    have HBOX := Lib.hid hbox
    clear hb hb1 HCALL hbox
    go_wp2_with fail
    refine (refName_any w1 op).mono ?_
    rintro e w2 ⟨rfl, hb2⟩
    have hbox2 := (hb2.block w.heap.size hlt1).trans HBOX.out
    clear c0 c1
    obtain ⟨c0, c1⟩ := line_cells hbox2
    have HB2 : Hid (Below w.heap.size w w2) := HB.out.trans (hb2.mono HB.out.size)
    clear hb2 hbox2 hlt1
    go_wp2
    go_loopg [4, 5] n (fun q s4 s5 wr => ∃ j : Nat, s5 = .int .i64 j ∧ j + q = n ∧ s4 = .string (B (pre op l j)) ∧ wr = w2)
    case atStart => exact ⟨0, rfl, by omega, by unfold pre; simp [join_one], rfl⟩
    case round =>
      obtain ⟨j, rfl, hj, rfl, rfl⟩ := hrel
      have HJ := Lib.hid hj
      clear hj
      by_cases hlt : j < n
      · have hjl : j < l.length := by rw [HN.out]; exact hlt
        obtain ⟨b, o, rfl, hc⟩ := reads_at (HR.out.below HB2.out) hjl
        have hz := HARGS.out.2 _ (getD_mem hjl)
        have HK := Lib.hid (pre_next op l j hjl)
        have hpf := pre_few (op := op) HARGS.out.2 j (by rw [HN.out]; exact hl)
        rw [← B_size] at hpf
        generalize hy : l.getD j 0 = y at *
        have HY := Lib.hid hy
        clear hy hjl
        have hcall := digits_any wr y hz.1 (by omega)
        have hfew := digs_few y hz.1 hz.2
        rw [← B_size] at hfew
        clear hz
        generalize Lib.decDigits y.toNat = d at *
        generalize hpp : pre op l j = p at *
        clear hpp
        have hs1 : ¬ 9223372036854775807 < (B p).size + 1 := by omega
        have hs2 : ¬ 9223372036854775807 < (B p).size + 1 + (B d).size := by omega
        go_wp2_with fail
        refine hcall.mono ?_
        rintro e w3 ⟨rfl, rfl⟩
        go_wp2
        go_roundg (gk - 1)
        case measure => have := HJ.out; omega
        case rel =>
          refine ⟨j + 1, by simp, by have := HJ.out; omega, ?_, rfl⟩
          rw [HK.out, ← B_append, ← B_append]; rfl
      · have hjn : j = n := by have := HJ.out; omega
        subst hjn
        go_wp2
        go_ret2
        refine ⟨?_, HB2.out⟩
        rw [HT.out, HE.out, ← pre_all, HN.out]; rfl

end Go.Proofs.YtconmkhoiomeiaaDoor