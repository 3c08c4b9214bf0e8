/- The line of a text: the program's Parse. -/
import Derived.Test.YtconmkhoiomeiaaDoorT5
namespace Go.Proofs.YtconmkhoiomeiaaDoor
open Go.RowKit Go.Sort

/-- is a text to be parsed? -/
def isText (t : List UInt8) : Bool := decide (t.length ≤ 400) && !t.isEmpty && !(t.head? == some 35)
/-- does Parse take a text for a line? -/
def goes (t : List UInt8) : Bool := isText t && okP t
/-- what Parse hands back. -/
def parOp (t : List UInt8) : Int := if goes t = true then lineOp t else 0
def parArgs (t : List UInt8) : List Int := if goes t = true then lineArgs t else []
def parE (t : List UInt8) : Int := if 400 < t.length then 18 else if isText t = true then (if okP t = true then 0 else 14) else 0

theorem par_text {t : List UInt8} (h : isText t = true) (hk : okP t = true) : parOp t = lineOp t ∧ parArgs t = lineArgs t ∧ parE t = 0 := by
  have hl : ¬ 400 < t.length := by simp [isText] at h; omega
  have hg : goes t = true := by unfold goes; rw [h, hk]; rfl
  unfold parOp parArgs parE
  rw [if_pos hg, if_pos hg, if_neg hl, if_pos h, if_pos hk]
  exact ⟨rfl, rfl, rfl⟩
theorem par_form {t : List UInt8} (h : isText t = true) (hk : okP t = false) : parOp t = 0 ∧ parArgs t = [] ∧ parE t = 14 := by
  have hl : ¬ 400 < t.length := by simp [isText] at h; omega
  have hg : ¬ goes t = true := by unfold goes; rw [h, hk]; simp
  have hk' : ¬ okP t = true := by rw [hk]; simp
  unfold parOp parArgs parE
  rw [if_neg hg, if_neg hg, if_neg hl, if_pos h, if_neg hk']
  exact ⟨rfl, rfl, rfl⟩
theorem par_long {t : List UInt8} (h : 400 < t.length) : parOp t = 0 ∧ parArgs t = [] ∧ parE t = 18 := by
  have hg : ¬ goes t = true := by
    have : isText t = false := by simp [isText]; omega
    unfold goes; rw [this]; simp
  unfold parOp parArgs parE
  rw [if_neg hg, if_neg hg, if_pos h]
  exact ⟨rfl, rfl, rfl⟩
theorem par_none {t : List UInt8} (hl : ¬ 400 < t.length) (h : isText t = false) : parOp t = 0 ∧ parArgs t = [] ∧ parE t = 0 := by
  have hg : ¬ goes t = true := by unfold goes; rw [h]; simp
  have hi : ¬ isText t = true := by rw [h]; simp
  unfold parOp parArgs parE
  rw [if_neg hg, if_neg hg, if_neg hl, if_neg hi]
  exact ⟨rfl, rfl, rfl⟩

/-- a row of numbers of the call's own. -/
def OwnI (w : World) (base : Nat) (v : Value) (l : List Int) : Prop := w.ownsRow base 3 1 v l.length (l.map (Value.int .i64))
theorem own_none (w : World) (base : Nat) : OwnI w base (.slice none 0 0) [] := ⟨rfl, .inl ⟨rfl, rfl⟩⟩
theorem own_mono {w : World} {base base' : Nat} {e : TypeId} {size : Nat} {v : Value} {n : Nat} {xs : List Value} (h : w.ownsRow base e size v n xs) (hb : base' ≤ base) : w.ownsRow base' e size v n xs := by
  obtain ⟨h1, h2⟩ := h
  refine ⟨h1, ?_⟩
  rcases h2 with h2 | ⟨g, cap, cur, h2, h3, h4⟩
  · exact .inl h2
  · exact .inr ⟨g, cap, cur, h2, by omega, h4⟩
theorem own_slice {w : World} {base n : Nat} {e : TypeId} {size : Nat} {v : Value} {xs : List Value} (h : w.ownsRow base e size v n xs) : ∃ A c, v = .slice A n c := by
  rcases h.2 with ⟨rfl, rfl⟩ | ⟨g, cap, cur, rfl, _⟩
  · exact ⟨none, 0, rfl⟩
  · exact ⟨_, cap, rfl⟩
theorem own_readsI {w : World} {base : Nat} {v : Value} {l : List Int} (h : OwnI w base v l) : ∃ A c, v = .slice A l.length c ∧ ReadsI w A l := by
  rcases h.2 with ⟨rfl, h0⟩ | ⟨g, cap, cur, rfl, h1, h2, h3, h4, h5, h6⟩
  · have : l = [] := List.eq_nil_of_length_eq_zero h0
    subst this
    exact ⟨none, 0, rfl, .inl rfl⟩
  · refine ⟨_, cap, rfl, .inr ⟨g, 0, rfl, fun i hi => ?_⟩⟩
    rw [Nat.zero_add, own_cell h i (by simpa using hi)]
    simp [List.getD_eq_getElem?_getD, hi]

/-- what a parse has come to. -/
structure ParR (w w' : World) (t : List UInt8) (e : Ending) (base : Nat) : Prop where
  res : ∃ v, e = .returned (.tuple #[.agg #[.int .i64 (parOp t), v], .int .i64 (parE t)]) ∧ OwnI w' base v (parArgs t)
  bel : Below w.heap.size w w'

/-- how memory lies ahead of Parse's loop, and in it. -/
structure PIn (w wr : World) (ty : TypeId) (op : Int) (v : Value) (L : List Int) (W : List (List UInt8)) : Prop where
  res : wr.heap[w.heap.size]? = some (.cells #[.int .i64 0, .slice none 0 0] ty (0, 0))
  wrd : wr.heap[w.heap.size + 1]? = some (.cells (vals W).toArray 9 (0, 0))
  box : wr.heap[w.heap.size + 2]? = some (.cells #[.int .i64 op, v] ty (0, 0))
  own : OwnI wr (w.heap.size + 3) v L
  bel : Below w.heap.size w wr
  size : w.heap.size + 3 ≤ wr.heap.size
section
variable {w wr w' : World} {ty : TypeId} {op : Int} {v v' : Value} {L L' : List Int} {W : List (List UInt8)}
theorem PIn.below (h : PIn w wr ty op v L W) (hb : Below wr.heap.size wr w') : PIn w w' ty op v L W :=
  have hs := h.size
  ⟨(hb.block _ (by omega)).trans h.res, (hb.block _ (by omega)).trans h.wrd, (hb.block _ (by omega)).trans h.box, own_below h.own hb, h.bel.trans (hb.mono (by omega)), by have := hb.size; omega⟩
theorem PIn.drew (h : PIn w wr ty op v L W) : PIn w wr.drew ty op v L W := ⟨h.res, h.wrd, h.box, h.own, below_dr h.bel 1, h.size⟩
theorem set_cells {g i : Nat} {cur : Array Value} {t : TypeId} {u : Value} (h : w.heap[g]? = some (.cells cur t (0, 0))) : (w.setCell ⟨g, i, none⟩ u).heap[g]? = some (.cells (cur.setIfInBounds i u) t (0, 0)) := by
  simp [World.setCell, Array.getElem?_modify, h]
theorem set_other {g i q : Nat} {u : Value} (h : q ≠ g) : (w.setCell ⟨g, i, none⟩ u).heap[q]? = w.heap[q]? := by
  simp [World.setCell, Array.getElem?_modify, Ne.symm h]
theorem own_set {base n size g i : Nat} {e : TypeId} {v u : Value} {xs : List Value} (h : w.ownsRow base e size v n xs) (hg : g < base) : (w.setCell ⟨g, i, none⟩ u).ownsRow base e size v n xs := by
  obtain ⟨h1, h2⟩ := h
  refine ⟨h1, ?_⟩
  rcases h2 with h2 | ⟨g', cap, cur, e1, e2, e3, e4⟩
  · exact .inl h2
  · exact .inr ⟨g', cap, cur, e1, e2, (set_other (by omega)).trans e3, e4⟩
/-- an append, and the store of what it hands back. -/
theorem PIn.store (h : PIn w wr ty op v L W) (hg : wr.grownBy w' v.ownBlock) (ho : OwnI w' (w.heap.size + 3) v' L') : PIn w (w'.setCell ⟨w.heap.size + 2, 1, none⟩ v') ty op v' L' W := by
  have hs := h.size
  have hs' := hg.size
  have hk : ∀ q, q < w.heap.size + 3 → w'.heap[q]? = wr.heap[q]? := fun q hq => hg.block q (by omega) (fun e => by have := own_ge h.own e.symm; omega)
  refine ⟨?_, ?_, ?_, own_set ho (by omega), ?_, by simp; omega⟩
  · exact (set_other (by omega)).trans ((hk _ (by omega)).trans h.res)
  · exact (set_other (by omega)).trans ((hk _ (by omega)).trans h.wrd)
  · exact set_cells ((hk _ (by omega)).trans h.box)
  · exact (below_row h.bel (ownsRow_le h.own) hg (by omega)).setCell (by show _ ≤ _ + 2; omega) _
where ownsRow_le {w : World} {b : Nat} {e : TypeId} {size : Nat} {v : Value} {n : Nat} {xs : List Value} (h : w.ownsRow (b + 3) e size v n xs) : w.ownsRow b e size v n xs := own_mono h (by omega)
end
theorem box_any {w : World} {g : Nat} {e : TypeId} {op : Int} {v : Value} (h : w.heap[g]? = some (.cells #[.int .i64 op, v] e (0, 0))) :
    w.cell? ⟨g, 0, none⟩ = some (.int .i64 op) ∧ w.cell? ⟨g, 1, none⟩ = some v ∧ w.frozen? ⟨g, 0, none⟩ = false ∧ w.frozen? ⟨g, 1, none⟩ = false ∧ g < w.heap.size := by
  refine ⟨?_, ?_, ?_, ?_, lt_of_block h⟩ <;> simp [World.cell?, World.frozen?, h]

set_option maxRecDepth 100000 in
set_option maxHeartbeats 6400000 in
theorem parse_any (w : World) (s : ByteArray) (ht : Ties w) :
    Calls Tryd.prog 15 #[.string s] w fun e w' => ParR w w' s.data.toList e (w.heap.size + 3) := by
  have HTI := Lib.hid ht
  clear ht
  by_cases hl : 400 < s.size
  · have HP := Lib.hid (par_long (t := s.data.toList) (by rw [size_list]; exact hl))
    go_enter Tryd.func15, Tryd.ntmps15
    go_wp2
    (try simp only [Exit.inBlock, Exit.then])
    refine bodyPost_ret (v := .tuple #[.agg #[.int .i64 0, .slice none 0 0], .int .i64 18]) ?_ rfl ⟨⟨.slice none 0 0, ?_, ?_⟩, ?_⟩
    · rw [results_cell_tmp rfl]; go_simp
    · rw [HP.out.1, HP.out.2.2]
    · rw [HP.out.2.1]; exact own_none _ _
    · exact one_al _ _
  by_cases h0 : s.size = 0
  · have hnil : s.data.toList = [] := List.eq_nil_of_length_eq_zero (by rw [size_list]; exact h0)
    have hs : s = ⟨#[]⟩ := by rw [← B_eta s, hnil]; rfl
    subst hs
    clear hl h0 hnil
    go_enter Tryd.func15, Tryd.ntmps15
    go_wp2
    (try simp only [Exit.inBlock, Exit.then])
    refine bodyPost_ret (v := .tuple #[.agg #[.int .i64 0, .slice none 0 0], .int .i64 0]) ?_ rfl ⟨⟨.slice none 0 0, rfl, own_none _ _⟩, ?_⟩
    · rw [results_cell_tmp rfl]; go_simp
    · exact one_al _ _
  have hpos : 0 < s.size := by omega
  have hle : s.size ≤ 400 := by omega
  have hnp : ¬ s.toList = [] := by
    rw [ByteArray.toList_eq]
    intro h
    rw [← size_list, h] at hpos
    exact absurd hpos (by decide)
  have hne : s.toList.isEmpty = false := by
    rw [Bool.eq_false_iff]
    intro h
    exact hnp (List.isEmpty_iff.1 h)
  have HHD : Hid (s.data.toList.head? = some s[0]) := by
    show _ = _
    rw [List.head?_eq_getElem?, List.getElem?_eq_getElem (by rw [size_list]; exact hpos)]; rfl
  clear hl h0
  by_cases h35 : s[0].toNat = 35
  · have HI : Hid (isText s.data.toList = false) := by
      show _ = _
      have : s[0] = 35 := UInt8.toNat_inj.1 h35
      simp [isText, HHD.out, this]
    have HP := Lib.hid (par_none (t := s.data.toList) (by rw [size_list]; omega) HI.out)
    have q35 : ((s[0].toNat : Int) == 35) = true := by simp [h35]
    go_enter Tryd.func15, Tryd.ntmps15
    go_wp2
    (try simp only [Exit.inBlock, Exit.then])
    refine bodyPost_ret (v := .tuple #[.agg #[.int .i64 0, .slice none 0 0], .int .i64 0]) ?_ rfl ⟨⟨.slice none 0 0, ?_, ?_⟩, ?_⟩
    · rw [results_cell_tmp rfl]; go_simp
    · rw [HP.out.1, HP.out.2.2]
    · rw [HP.out.2.1]; exact own_none _ _
    · exact one_al _ _
  have HI : Hid (isText s.data.toList = true) := by
    show _ = _
    have : ¬ s[0] = 35 := fun h => h35 (by rw [h]; rfl)
    have hn : s.data.toList ≠ [] := fun h => by have := HHD.out; rw [h] at this; cases this
    simp [isText, HHD.out, this]
    exact ⟨hle, fun h => by rw [h] at hn; exact hn rfl⟩
  have q35 : ((s[0].toNat : Int) == 35) = false := by simp; omega
  have h1k : s.size ≤ 1000 := by omega
  have hsplit := split_any (w.alloc (.cells #[.int .i64 0, .slice none 0 0] 24)) s h1k (HTI.out.below (one_al _ _))
  clear h35
  have hwl := words_le s.data.toList
  rw [size_list] at hwl
  have HWE := Lib.hid (wordsL_eq s.data.toList)
  have HW : Hid (∃ W, W = wordsL s.data.toList) := ⟨_, rfl⟩
  obtain ⟨W, hW⟩ := HW.out
  rw [← hW] at hwl HWE hsplit
  have HW := Lib.hid hW
  have HWL := Lib.hid hwl
  have hwpos : 0 < W.length := by rw [HWE.out]; simp
  have hwlen : W.length ≤ 401 := by have := hwl.1; omega
  clear hW hwl
  go_enter Tryd.func15, Tryd.ntmps15
  go_wp2_with fail
  refine hsplit.mono ?_
  rintro e w1 ⟨rfl, rfl⟩
  go_upto_region 6 with fail
  have hb2 : Below w.heap.size w ((w.alloc (.cells #[.int .i64 0, .slice none 0 0] 24)).alloc (.cells (vals W).toArray 9)) := below_al (one_al _ _) _
  have hr2 : ((w.alloc (.cells #[.int .i64 0, .slice none 0 0] 24)).alloc (.cells (vals W).toArray 9)).heap[w.heap.size]? = some (.cells #[.int .i64 0, .slice none 0 0] 24 (0, 0)) := by
    rw [Below.heap_alloc _ _ _ (by simp)]
    exact new_block _ _
  have hw2 : ((w.alloc (.cells #[.int .i64 0, .slice none 0 0] 24)).alloc (.cells (vals W).toArray 9)).heap[w.heap.size + 1]? = some (.cells (vals W).toArray 9 (0, 0)) := by
    have := new_block (w.alloc (.cells #[.int .i64 0, .slice none 0 0] 24)) (.cells (vals W).toArray 9)
    rw [World.size_alloc] at this
    exact this
  have hz2 : ((w.alloc (.cells #[.int .i64 0, .slice none 0 0] 24)).alloc (.cells (vals W).toArray 9)).heap.size = w.heap.size + 2 := by simp
  generalize ((w.alloc (.cells #[.int .i64 0, .slice none 0 0] 24)).alloc (.cells (vals W).toArray 9)) = W2 at *
  have ht2 := HTI.out.below hb2
  have hc0 : W2.cell? ⟨w.heap.size + 1, 0, none⟩ = some (.string (B (W.headD []))) := by
    simp only [World.cell?, hw2]
    rw [HWE.out]; rfl
  have HHW : Hid (∃ hd, hd = W.headD []) := ⟨_, rfl⟩
  obtain ⟨hd, hhd⟩ := HHW.out
  rw [← hhd] at hc0
  have HHW := Lib.hid hhd
  have HB2 := Lib.hid hb2
  have HR2 := Lib.hid hr2
  have HW2 := Lib.hid hw2
  have HT2 := Lib.hid ht2
  have hl2 : w.heap.size + 1 < W2.heap.size := by omega
  clear hb2 hr2 hw2 ht2 hsplit hhd
  go_cut [5] from 28 to 33 (fun s5 wx => s5 = .pointer (some ⟨w.heap.size + 2, 0, none⟩) ∧ PIn w wx 24 (idxL hd names) (.slice none 0 0) [] W)
  case first =>
    go_region_with (go_at_call 26; refine (index_any _ _ (HT2.out.below (by repeat (first | exact Below.refl _ _ | refine below_al ?_ _ | refine below_dr ?_ 1)))).mono ?_; rintro e w1 ⟨rfl, rfl⟩)
    all_goals
      go_wp2_with fail
      go_meet
      case rel =>
        refine ⟨rfl, PIn.drew ⟨?_, ?_, ?_, own_none _ _, ?_, ?_⟩⟩
        · exact (Below.heap_alloc _ _ _ (by omega)).trans HR2.out
        · exact (Below.heap_alloc _ _ _ (by omega)).trans HW2.out
        · rw [← hz2]; exact new_block _ _
        · exact HB2.out.trans ((one_al _ _).mono (by omega))
        · simp; omega
  case rest =>
    obtain ⟨rfl, hin⟩ := hcut
    have HLO : Hid (lineOp s.data.toList = idxL hd names) := by
      show _ = _
      unfold lineOp
      rw [← HW.out, HHW.out]
    generalize hop : idxL hd names = op at *
    clear hop
    clear hc0 hz2 hl2
    obtain ⟨i0, hi0, hz0, hz1', hz2'⟩ := info_parts Tryd.info3
    have hwt : W.tail.length = W.length - 1 := by simp
    have HIN := Lib.hid hin
    clear hin
    by_cases hW1 : W.length = 1
    · have HWT : Hid (W.tail = []) := List.eq_nil_of_length_eq_zero (by rw [hwt]; omega)
      go_wp2
      go_loopg [37] 0 (fun q s37 wr => s37 = .int .i64 0 ∧ ∃ v, PIn w wr 24 op v [] W)
      case atStart => exact ⟨rfl, _, HIN.out⟩
      case round =>
        obtain ⟨rfl, v, hin⟩ := hrel
        have HI2 := Lib.hid hin
        have HLL : Hid (W.tail.map av = []) := by show _ = _; rw [HWT.out]; rfl
        clear hin
        generalize ([] : List Int) = L at *
        have HLA : Hid (lineArgs s.data.toList = L) := by
          show _ = _
          unfold lineArgs
          rw [← HW.out]; exact HLL.out
        obtain ⟨A, c, rfl, hrd⟩ := own_readsI HI2.out.own
        have hl1k : L.length ≤ 1000 := by rw [← HLL.out, List.length_map, hwt]; omega
        obtain ⟨a0, a1, _, _, al⟩ := box_any HI2.out.box
        have hbx := HI2.out.box
        have hcall := print_any wr op A c L hrd L.length rfl hl1k (HTI.out.below HI2.out.bel)
        have HOK : Hid (okP s.data.toList = (rightP op L && decide (printP op L = s.data.toList))) := by
          show _ = _
          unfold okP
          rw [HLO.out, HLA.out]
        have HBX := Lib.hid hbx
        clear hbx hrd
        cases hr : rightP op L
        · have HPF := Lib.hid (par_form HI.out (by rw [HOK.out, hr]; rfl))
          have e1 : prE op L = 2 := by unfold prE; rw [hr]; rfl
          have e2 : prT op L = [] := by unfold prT; rw [hr]; rfl
          rw [e1, e2] at hcall
          clear e1 e2
          have HR := Lib.hid hr
          clear hr
          go_wp2_with fail
          refine hcall.mono ?_
          rintro e w3 ⟨rfl, hb3⟩
          have hin3 := HI2.out.below hb3
          obtain ⟨b0, b1, b2, b3, bl⟩ := box_any hin3.res
          have HI3 := Lib.hid hin3
          clear a0 a1 al hcall hb3 hin3
          go_wp2
          (try simp only [Exit.inBlock, Exit.then])
          refine bodyPost_ret (v := .tuple #[.agg #[.int .i64 0, .slice none 0 0], .int .i64 14]) ?_ rfl ⟨⟨.slice none 0 0, ?_, ?_⟩, ?_⟩
          · rw [results_cell_tmp rfl]; go_simp
          · rw [HPF.out.1, HPF.out.2.2]
          · rw [HPF.out.2.1]; exact own_none _ _
          · first | exact HI3.out.bel | exact (HI3.out.bel.setCell (Nat.le_refl _) _) | exact ((HI3.out.bel.setCell (Nat.le_refl _) _).setCell (Nat.le_refl _) _)
        · have e1 : prE op L = 0 := by unfold prE; rw [hr]; rfl
          have e2 : prT op L = printP op L := by unfold prT; rw [hr]; rfl
          rw [e1, e2] at hcall
          clear e1 e2
          have HR := Lib.hid hr
          clear hr
          by_cases hp : printP op L = s.data.toList
          · have HPF := Lib.hid (par_text HI.out (by rw [HOK.out, HR.out, hp]; simp))
            rw [hp, B_eta] at hcall
            go_wp2_with fail
            refine hcall.mono ?_
            rintro e w3 ⟨rfl, hb3⟩
            have hin3 := HI2.out.below hb3
            obtain ⟨b0, b1, b2, b3, bl⟩ := box_any hin3.res
            obtain ⟨d0, d1, d2, d3, dl⟩ := box_any hin3.box
            have HI3 := Lib.hid hin3
            clear a0 a1 al hcall hb3 hin3
            go_wp2
            (try simp only [Exit.inBlock, Exit.then])
            refine bodyPost_ret (v := .tuple #[.agg #[.int .i64 op, .slice A L.length c], .int .i64 0]) ?_ rfl ⟨⟨.slice A L.length c, ?_, ?_⟩, ?_⟩
            · rw [results_cell_tmp rfl]; go_simp
            · rw [HPF.out.1, HPF.out.2.2, HLO.out]
            · rw [HPF.out.2.1, HLA.out]
              first | exact HI3.out.own | exact own_set HI3.out.own (by omega) | exact own_set (own_set HI3.out.own (by omega)) (by omega)
            · first | exact HI3.out.bel | exact (HI3.out.bel.setCell (Nat.le_refl _) _) | exact ((HI3.out.bel.setCell (Nat.le_refl _) _).setCell (Nat.le_refl _) _)
          · have HPF := Lib.hid (par_form HI.out (by rw [HOK.out, decide_eq_false hp]; simp))
            have hq : ((B (printP op L)).toList == s.toList) = false := by
              rw [Bool.eq_false_iff]
              intro h
              have := (beqS _ _).1 h
              exact hp (by rw [← this, B_data])
            have hq2 : ((B (printP op L)).toList != s.toList) = true := by simp only [bne, hq]; rfl
            generalize B (printP op L) = pb at *
            go_wp2_with fail
            refine hcall.mono ?_
            rintro e w3 ⟨rfl, hb3⟩
            have hin3 := HI2.out.below hb3
            obtain ⟨b0, b1, b2, b3, bl⟩ := box_any hin3.res
            have HI3 := Lib.hid hin3
            clear a0 a1 al hcall hb3 hin3
            go_wp2
            (try simp only [Exit.inBlock, Exit.then])
            refine bodyPost_ret (v := .tuple #[.agg #[.int .i64 0, .slice none 0 0], .int .i64 14]) ?_ rfl ⟨⟨.slice none 0 0, ?_, ?_⟩, ?_⟩
            · rw [results_cell_tmp rfl]; go_simp
            · rw [HPF.out.1, HPF.out.2.2]
            · rw [HPF.out.2.1]; exact own_none _ _
            · first | exact HI3.out.bel | exact (HI3.out.bel.setCell (Nat.le_refl _) _) | exact ((HI3.out.bel.setCell (Nat.le_refl _) _).setCell (Nat.le_refl _) _)
    · have hW2 : ¬ W.length ≤ 1 := by omega
      go_wp2
      go_loopg [37] (W.length - 1) (fun q s37 wr => ∃ (j : Nat) (v : Value), s37 = .int .i64 j ∧ j + q = W.length - 1 ∧ PIn w wr 24 op v ((W.tail.take j).map av) W)
      case atStart => exact ⟨0, _, rfl, by omega, HIN.out⟩
      case round =>
        obtain ⟨j, v, rfl, hj, hin⟩ := hrel
        have HJ := Lib.hid hj
        have HI2 := Lib.hid hin
        clear hj hin
        by_cases hlt : j < W.length - 1
        · have hjt : j < W.tail.length := by omega
          have HK := Lib.hid (take_next W.tail j [] hjt)
          have hcx : wr.cell? ⟨w.heap.size + 1, 1 + j, none⟩ = some (.string (B (W.tail.getD j []))) := by
            simp only [World.cell?, HI2.out.wrd]
            rw [HWE.out]
            have hj1 : j + 1 < W.length := by omega
            simp [vals, List.getD_eq_getElem?_getD, Nat.add_comm 1 j]
            exact ⟨_, List.getElem?_eq_getElem hj1, by rw [List.getElem?_eq_getElem hj1]; rfl⟩
          have hxl : (W.tail.getD j []).length ≤ 1000 := by
            have := HWL.out.2 (W.tail.getD j []) (by
              rw [HWE.out, List.getD_eq_getElem?_getD, List.tail_cons, List.getElem?_eq_getElem hjt]
              exact List.mem_cons_of_mem _ (List.getElem_mem hjt))
            omega
          generalize hx : W.tail.getD j [] = x at *
          have HX := Lib.hid hx
          clear hx
          have hcall := atoi_any wr x hxl (HTI.out.below HI2.out.bel)
          have hjl : ((W.tail.take j).map av).length ≤ 1000 := by simp; omega
          generalize hL : (W.tail.take j).map av = L at *
          have HL := Lib.hid hL
          clear hL
          go_wp2_with fail
          refine hcall.mono ?_
          rintro e w3 ⟨⟨ev, rfl⟩, hb3⟩
          have hin3 := HI2.out.below hb3
          obtain ⟨b0, b1, b2, b3, bl⟩ := box_any hin3.box
          have HI3 := Lib.hid hin3
          have hs3 := hin3.size
          clear hcall hb3 hin3 hcx
          go_wp2_with (at_builtin; refine wpList_append_own_at _ rfl _ _ 22 rfl (w.heap.size + 3) 3 i0 _ 1 8 Tryd.underlying22 hi0 hz0 hz1' hz2' rfl (by decide) v L.length (L.map (Value.int .i64)) rfl ?c0 ⟨w3.heap.size, 0, none⟩ 1 1 [.int .i64 (av x)] rfl ?c1 ?c2 ?c3 ?c4 ?c5 ?c6 ?_)
          case c0 => exact own_below HI3.out.own (one_al _ _)
          case c1 => rfl
          case c2 => exact news_one (by simp only [World.cell?, new_block]; rfl)
          case c3 => intro u hu; simp at hu; subst hu; rfl
          case c4 => unfold maxLen; omega
          case c5 => omega
          case c6 => simp; omega
          intro v' w4 ho4 hg4 _ _
          have hin4 := HI3.out.below (one_al w3 (.cells #[.int .i64 (av x)] 3))
          have hk4 := hg4.block
          have hs4 := hg4.size
          have hin5 := hin4.store hg4 (L' := L ++ [av x]) (by unfold OwnI; rw [List.length_append, List.map_append]; exact ho4)
          have hbx4 := (hk4 (w.heap.size + 2) (by simp; omega) (fun e => by have := own_ge hin4.own e.symm; omega)).trans hin4.box
          obtain ⟨d0, d1, d2, d3, dl⟩ := box_any hbx4
          obtain ⟨A', c', rfl⟩ := own_slice ho4
          have HI5 := Lib.hid hin5
          clear hbx4 hin4 hin5 hk4 ho4 hg4 b0 b1 b2 b3 bl hs3 hs4
          go_wp2
          go_roundg (gk - 1)
          case measure => have := HJ.out; omega
          case rel =>
            refine ⟨j + 1, .slice A' (L.length + 1) c', by simp, by have := HJ.out; omega, ?_⟩
            rw [HK.out, List.map_append, HL.out]
            exact HI5.out
        · have hje : j = W.length - 1 := by have := HJ.out; omega
          rw [List.take_of_length_le (by omega)] at HI2
          have HLL : Hid (W.tail.map av = W.tail.map av) := rfl
          generalize hL : W.tail.map av = L at HI2
          rw [hL] at HLL
          have HLL := Lib.hid hL
          clear hL
          have HLA : Hid (lineArgs s.data.toList = L) := by
            show _ = _
            unfold lineArgs
            rw [← HW.out]; exact HLL.out
          obtain ⟨A, c, rfl, hrd⟩ := own_readsI HI2.out.own
          have hl1k : L.length ≤ 1000 := by rw [← HLL.out, List.length_map, hwt]; omega
          obtain ⟨a0, a1, _, _, al⟩ := box_any HI2.out.box
          have hbx := HI2.out.box
          have hcall := print_any wr op A c L hrd L.length rfl hl1k (HTI.out.below HI2.out.bel)
          have HOK : Hid (okP s.data.toList = (rightP op L && decide (printP op L = s.data.toList))) := by
            show _ = _
            unfold okP
            rw [HLO.out, HLA.out]
          have HBX := Lib.hid hbx
          clear hbx hrd
          cases hr : rightP op L
          · have HPF := Lib.hid (par_form HI.out (by rw [HOK.out, hr]; rfl))
            have e1 : prE op L = 2 := by unfold prE; rw [hr]; rfl
            have e2 : prT op L = [] := by unfold prT; rw [hr]; rfl
            rw [e1, e2] at hcall
            clear e1 e2
            have HR := Lib.hid hr
            clear hr
            go_wp2_with fail
            refine hcall.mono ?_
            rintro e w3 ⟨rfl, hb3⟩
            have hin3 := HI2.out.below hb3
            obtain ⟨b0, b1, b2, b3, bl⟩ := box_any hin3.res
            have HI3 := Lib.hid hin3
            clear a0 a1 al hcall hb3 hin3
            go_wp2
            (try simp only [Exit.inBlock, Exit.then])
            refine bodyPost_ret (v := .tuple #[.agg #[.int .i64 0, .slice none 0 0], .int .i64 14]) ?_ rfl ⟨⟨.slice none 0 0, ?_, ?_⟩, ?_⟩
            · rw [results_cell_tmp rfl]; go_simp
            · rw [HPF.out.1, HPF.out.2.2]
            · rw [HPF.out.2.1]; exact own_none _ _
            · first | exact HI3.out.bel | exact (HI3.out.bel.setCell (Nat.le_refl _) _) | exact ((HI3.out.bel.setCell (Nat.le_refl _) _).setCell (Nat.le_refl _) _)
          · have e1 : prE op L = 0 := by unfold prE; rw [hr]; rfl
            have e2 : prT op L = printP op L := by unfold prT; rw [hr]; rfl
            rw [e1, e2] at hcall
            clear e1 e2
            have HR := Lib.hid hr
            clear hr
            by_cases hp : printP op L = s.data.toList
            · have HPF := Lib.hid (par_text HI.out (by rw [HOK.out, HR.out, hp]; simp))
              rw [hp, B_eta] at hcall
              go_wp2_with fail
              refine hcall.mono ?_
              rintro e w3 ⟨rfl, hb3⟩
              have hin3 := HI2.out.below hb3
              obtain ⟨b0, b1, b2, b3, bl⟩ := box_any hin3.res
              obtain ⟨d0, d1, d2, d3, dl⟩ := box_any hin3.box
              have HI3 := Lib.hid hin3
              clear a0 a1 al hcall hb3 hin3
              go_wp2
              (try simp only [Exit.inBlock, Exit.then])
              refine bodyPost_ret (v := .tuple #[.agg #[.int .i64 op, .slice A L.length c], .int .i64 0]) ?_ rfl ⟨⟨.slice A L.length c, ?_, ?_⟩, ?_⟩
              · rw [results_cell_tmp rfl]; go_simp
              · rw [HPF.out.1, HPF.out.2.2, HLO.out]
              · rw [HPF.out.2.1, HLA.out]
                first | exact HI3.out.own | exact own_set HI3.out.own (by omega) | exact own_set (own_set HI3.out.own (by omega)) (by omega)
              · first | exact HI3.out.bel | exact (HI3.out.bel.setCell (Nat.le_refl _) _) | exact ((HI3.out.bel.setCell (Nat.le_refl _) _).setCell (Nat.le_refl _) _)
            · have HPF := Lib.hid (par_form HI.out (by rw [HOK.out, decide_eq_false hp]; simp))
              have hq : ((B (printP op L)).toList == s.toList) = false := by
                rw [Bool.eq_false_iff]
                intro h
                have := (beqS _ _).1 h
                exact hp (by rw [← this, B_data])
              have hq2 : ((B (printP op L)).toList != s.toList) = true := by simp only [bne, hq]; rfl
              generalize B (printP op L) = pb at *
              go_wp2_with fail
              refine hcall.mono ?_
              rintro e w3 ⟨rfl, hb3⟩
              have hin3 := HI2.out.below hb3
              obtain ⟨b0, b1, b2, b3, bl⟩ := box_any hin3.res
              have HI3 := Lib.hid hin3
              clear a0 a1 al hcall hb3 hin3
              go_wp2
              (try simp only [Exit.inBlock, Exit.then])
              refine bodyPost_ret (v := .tuple #[.agg #[.int .i64 0, .slice none 0 0], .int .i64 14]) ?_ rfl ⟨⟨.slice none 0 0, ?_, ?_⟩, ?_⟩
              · rw [results_cell_tmp rfl]; go_simp
              · rw [HPF.out.1, HPF.out.2.2]
              · rw [HPF.out.2.1]; exact own_none _ _
              · first | exact HI3.out.bel | exact (HI3.out.bel.setCell (Nat.le_refl _) _) | exact ((HI3.out.bel.setCell (Nat.le_refl _) _).setCell (Nat.le_refl _) _)
end Go.Proofs.YtconmkhoiomeiaaDoor
