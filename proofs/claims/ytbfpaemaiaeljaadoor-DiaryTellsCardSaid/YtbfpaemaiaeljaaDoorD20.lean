/- The text of an entry, by the program and by the reference. -/
import Derived.Test.YtbfpaemaiaeljaaDoorD19
namespace Go.Proofs.YtbfpaemaiaeljaaDoor
open Go.RowKit Go.Sort

/-- the letter of a kind. -/
def letterB (k : Int) : ByteArray := if k = 1 then ⟨#[115]⟩ else if k = 2 then ⟨#[114]⟩ else if k = 3 then ⟨#[120]⟩ else ⟨#[63]⟩
/-- the text ahead of an entry's end. -/
def headB (x : En) : ByteArray := dec x.core ++ letterB x.kind ++ dec x.peer ++ ⟨#[32]⟩ ++ dec x.bg ++ ⟨#[45]⟩
/-- the text of an entry. -/
def textB (x : En) : ByteArray := if x.nd = 0 then headB x ++ ⟨#[46, 46]⟩ else headB x ++ dec x.nd ++ ⟨#[32]⟩ ++ dec x.err

/-- a number of 64 bits. -/
def In64 (n : Int) : Prop := -9223372036854775808 ≤ n ∧ n ≤ 9223372036854775807
/-- an entry whose numbers have 64 bits. -/
structure Wide (x : En) : Prop where
  core : In64 x.core
  peer : In64 x.peer
  bg : In64 x.bg
  nd : In64 x.nd
  err : In64 x.err

theorem dec_size {n : Int} (h : In64 n) : (dec n).size ≤ 21 := Lib.itoa_length_le n h.1 h.2

theorem digits_any (w : World) (n : Int) (h : In64 n) : Calls Tryd.prog 25 #[.int .i64 n] w fun e w' => e = .returned (.string (dec n)) ∧ w' = w := by
  by_cases h0 : 0 ≤ n
  · obtain ⟨m, rfl⟩ := Int.eq_ofNat_of_zero_le h0
    refine (digits_pos w m (by have := h.2; omega)).mono ?_
    rintro e w' ⟨rfl, rfl⟩
    exact ⟨rfl, rfl⟩
  · obtain ⟨m, hm⟩ : ∃ m : Nat, n = -(m : Int) := ⟨n.natAbs, by omega⟩
    subst hm
    refine (digits_neg w m (by omega) (by have := h.1; omega)).mono ?_
    rintro e w' ⟨rfl, rfl⟩
    exact ⟨rfl, rfl⟩

/-- the table that strconv reads is as its text lays it. -/
def Tab (w : World) : Prop := Lib.TabIs Tryd.prog w "internal/strconv.uint64pow10" .u64 Lib.pow10Tab

theorem itoa_any (w : World) (n : Int) (h : In64 n) (ht : Tab w) : Calls Tryd.prog 24 #[.int .i64 n] w fun e w' => e = .returned (.string (dec n)) ∧ Below w.heap.size w w' := by
  refine (Tryd.strconv_Itoa n h.1 h.2 w ht).mono ?_
  rintro e w' ⟨rfl, k, os, rfl⟩
  exact ⟨rfl, below_regrown w _ os⟩

theorem Tryd.pow10 : Tryd.prog.globalNamed "internal/strconv.uint64pow10" = some 0 := by kernel_rfl

theorem Tab.below {w w' : World} (h : Tab w) (hb : RowKit.Below w.heap.size w w') : Tab w' := by
  unfold Tab Lib.TabIs at *
  have hlt : 0 < w.heap.size := by
    rcases Nat.eq_zero_or_pos w.heap.size with h0 | h0
    · unfold World.var? at h
      rw [Tryd.pow10, Option.bind_some, Array.getElem?_eq_none (by omega)] at h
      cases h
    · exact h0
  exact var?_below hb Tryd.pow10 hlt h

set_option maxHeartbeats 3200000 in
theorem refText_any (w : World) (x : En) (hw : Wide x) : Calls Tryd.prog 14 #[.agg x.cells] w fun e w' => e = .returned (.string (textB x)) ∧ Below w.heap.size w w' := by
  obtain ⟨core, peer, kind, bg, nd, err, adr, len, cap, handle, load⟩ := x
  obtain ⟨h1, h2, h3, h4, h5⟩ := hw
  simp only at h1 h2 h3 h4 h5
  have s1 := dec_size h1
  have s2 := dec_size h2
  have s3 := dec_size h3
  have s4 := dec_size h4
  have s5 := dec_size h5
  have H1 := Lib.hid h1
  have H2 := Lib.hid h2
  have H3 := Lib.hid h3
  have H4 := Lib.hid h4
  have H5 := Lib.hid h5
  clear h1 h2 h3 h4 h5
  unfold En.cells
  simp only
  by_cases k1 : kind = 1
  · subst k1
    by_cases hn : nd = 0
    · subst hn
      have HT : Hid (textB (En.mk core peer 1 bg 0 err adr len cap handle load) = dec core ++ ⟨#[115]⟩ ++ dec peer ++ ⟨#[32]⟩ ++ dec bg ++ ⟨#[45]⟩ ++ ⟨#[46, 46]⟩) := by
        show _ = _
        simp [textB, headB, letterB]
      go_enter Tryd.func14, Tryd.ntmps14
      go_wp2_with fail
      go_quiet (first | (go_at_call_of 25 (Value.int .i64 core); exact Calls.quiet_of_same (digits_any _ _ H1.out)) | (go_at_call_of 25 (Value.int .i64 peer); exact Calls.quiet_of_same (digits_any _ _ H2.out)) | (go_at_call_of 25 (Value.int .i64 bg); exact Calls.quiet_of_same (digits_any _ _ H3.out)))
      go_wp2
      go_ret
      exact ⟨by rw [HT.out]; rfl, by first | exact below_dr (one_al _ _) _ | exact below_dr (below_dr (one_al _ _) _) _⟩
    · have HT : Hid (textB (En.mk core peer 1 bg nd err adr len cap handle load) = dec core ++ ⟨#[115]⟩ ++ dec peer ++ ⟨#[32]⟩ ++ dec bg ++ ⟨#[45]⟩ ++ dec nd ++ ⟨#[32]⟩ ++ dec err) := by
        show _ = _
        simp [textB, headB, letterB, hn]
      have hn0 : (nd == 0) = false := by simpa using hn
      clear hn
      go_enter Tryd.func14, Tryd.ntmps14
      go_wp2_with fail
      go_quiet (first | (go_at_call_of 25 (Value.int .i64 core); exact Calls.quiet_of_same (digits_any _ _ H1.out)) | (go_at_call_of 25 (Value.int .i64 peer); exact Calls.quiet_of_same (digits_any _ _ H2.out)) | (go_at_call_of 25 (Value.int .i64 bg); exact Calls.quiet_of_same (digits_any _ _ H3.out)))
      go_wp2_with fail
      go_quiet (first | (go_at_call_of 25 (Value.int .i64 nd); exact quiet_add_same (digits_any _ _ H4.out)) | (go_at_call_of 25 (Value.int .i64 err); exact quiet_add_same (digits_any _ _ H5.out)))
      go_wp2
      go_ret
      exact ⟨by rw [HT.out]; rfl, by first | exact below_dr (one_al _ _) _ | exact below_dr (below_dr (one_al _ _) _) _⟩
  by_cases k2 : kind = 2
  · subst k2
    by_cases hn : nd = 0
    · subst hn
      have HT : Hid (textB (En.mk core peer 2 bg 0 err adr len cap handle load) = dec core ++ ⟨#[114]⟩ ++ dec peer ++ ⟨#[32]⟩ ++ dec bg ++ ⟨#[45]⟩ ++ ⟨#[46, 46]⟩) := by
        show _ = _
        simp [textB, headB, letterB]
      go_enter Tryd.func14, Tryd.ntmps14
      go_wp2_with fail
      go_quiet (first | (go_at_call_of 25 (Value.int .i64 core); exact Calls.quiet_of_same (digits_any _ _ H1.out)) | (go_at_call_of 25 (Value.int .i64 peer); exact Calls.quiet_of_same (digits_any _ _ H2.out)) | (go_at_call_of 25 (Value.int .i64 bg); exact Calls.quiet_of_same (digits_any _ _ H3.out)))
      go_wp2
      go_ret
      exact ⟨by rw [HT.out]; rfl, by first | exact below_dr (one_al _ _) _ | exact below_dr (below_dr (one_al _ _) _) _⟩
    · have HT : Hid (textB (En.mk core peer 2 bg nd err adr len cap handle load) = dec core ++ ⟨#[114]⟩ ++ dec peer ++ ⟨#[32]⟩ ++ dec bg ++ ⟨#[45]⟩ ++ dec nd ++ ⟨#[32]⟩ ++ dec err) := by
        show _ = _
        simp [textB, headB, letterB, hn]
      have hn0 : (nd == 0) = false := by simpa using hn
      clear hn
      go_enter Tryd.func14, Tryd.ntmps14
      go_wp2_with fail
      go_quiet (first | (go_at_call_of 25 (Value.int .i64 core); exact Calls.quiet_of_same (digits_any _ _ H1.out)) | (go_at_call_of 25 (Value.int .i64 peer); exact Calls.quiet_of_same (digits_any _ _ H2.out)) | (go_at_call_of 25 (Value.int .i64 bg); exact Calls.quiet_of_same (digits_any _ _ H3.out)))
      go_wp2_with fail
      go_quiet (first | (go_at_call_of 25 (Value.int .i64 nd); exact quiet_add_same (digits_any _ _ H4.out)) | (go_at_call_of 25 (Value.int .i64 err); exact quiet_add_same (digits_any _ _ H5.out)))
      go_wp2
      go_ret
      exact ⟨by rw [HT.out]; rfl, by first | exact below_dr (one_al _ _) _ | exact below_dr (below_dr (one_al _ _) _) _⟩
  by_cases k3 : kind = 3
  · subst k3
    by_cases hn : nd = 0
    · subst hn
      have HT : Hid (textB (En.mk core peer 3 bg 0 err adr len cap handle load) = dec core ++ ⟨#[120]⟩ ++ dec peer ++ ⟨#[32]⟩ ++ dec bg ++ ⟨#[45]⟩ ++ ⟨#[46, 46]⟩) := by
        show _ = _
        simp [textB, headB, letterB]
      go_enter Tryd.func14, Tryd.ntmps14
      go_wp2_with fail
      go_quiet (first | (go_at_call_of 25 (Value.int .i64 core); exact Calls.quiet_of_same (digits_any _ _ H1.out)) | (go_at_call_of 25 (Value.int .i64 peer); exact Calls.quiet_of_same (digits_any _ _ H2.out)) | (go_at_call_of 25 (Value.int .i64 bg); exact Calls.quiet_of_same (digits_any _ _ H3.out)))
      go_wp2
      go_ret
      exact ⟨by rw [HT.out]; rfl, by first | exact below_dr (one_al _ _) _ | exact below_dr (below_dr (one_al _ _) _) _⟩
    · have HT : Hid (textB (En.mk core peer 3 bg nd err adr len cap handle load) = dec core ++ ⟨#[120]⟩ ++ dec peer ++ ⟨#[32]⟩ ++ dec bg ++ ⟨#[45]⟩ ++ dec nd ++ ⟨#[32]⟩ ++ dec err) := by
        show _ = _
        simp [textB, headB, letterB, hn]
      have hn0 : (nd == 0) = false := by simpa using hn
      clear hn
      go_enter Tryd.func14, Tryd.ntmps14
      go_wp2_with fail
      go_quiet (first | (go_at_call_of 25 (Value.int .i64 core); exact Calls.quiet_of_same (digits_any _ _ H1.out)) | (go_at_call_of 25 (Value.int .i64 peer); exact Calls.quiet_of_same (digits_any _ _ H2.out)) | (go_at_call_of 25 (Value.int .i64 bg); exact Calls.quiet_of_same (digits_any _ _ H3.out)))
      go_wp2_with fail
      go_quiet (first | (go_at_call_of 25 (Value.int .i64 nd); exact quiet_add_same (digits_any _ _ H4.out)) | (go_at_call_of 25 (Value.int .i64 err); exact quiet_add_same (digits_any _ _ H5.out)))
      go_wp2
      go_ret
      exact ⟨by rw [HT.out]; rfl, by first | exact below_dr (one_al _ _) _ | exact below_dr (below_dr (one_al _ _) _) _⟩
  by_cases hn : nd = 0
  · subst hn
    have HT : Hid (textB (En.mk core peer kind bg 0 err adr len cap handle load) = dec core ++ ⟨#[63]⟩ ++ dec peer ++ ⟨#[32]⟩ ++ dec bg ++ ⟨#[45]⟩ ++ ⟨#[46, 46]⟩) := by
      show _ = _
      simp [textB, headB, letterB, k1, k2, k3]
    have t1 : (kind == 1) = false := by simpa using k1
    have t2 : (kind == 2) = false := by simpa using k2
    have t3 : (kind == 3) = false := by simpa using k3
    clear k1 k2 k3
    go_enter Tryd.func14, Tryd.ntmps14
    go_wp2_with fail
    go_quiet (first | (go_at_call_of 25 (Value.int .i64 core); exact Calls.quiet_of_same (digits_any _ _ H1.out)) | (go_at_call_of 25 (Value.int .i64 peer); exact Calls.quiet_of_same (digits_any _ _ H2.out)) | (go_at_call_of 25 (Value.int .i64 bg); exact Calls.quiet_of_same (digits_any _ _ H3.out)))
    go_wp2
    go_ret
    exact ⟨by rw [HT.out]; rfl, by first | exact below_dr (one_al _ _) _ | exact below_dr (below_dr (one_al _ _) _) _⟩
  · have HT : Hid (textB (En.mk core peer kind bg nd err adr len cap handle load) = dec core ++ ⟨#[63]⟩ ++ dec peer ++ ⟨#[32]⟩ ++ dec bg ++ ⟨#[45]⟩ ++ dec nd ++ ⟨#[32]⟩ ++ dec err) := by
      show _ = _
      simp [textB, headB, letterB, k1, k2, k3, hn]
    have hn0 : (nd == 0) = false := by simpa using hn
    clear hn
    have t1 : (kind == 1) = false := by simpa using k1
    have t2 : (kind == 2) = false := by simpa using k2
    have t3 : (kind == 3) = false := by simpa using k3
    clear k1 k2 k3
    go_enter Tryd.func14, Tryd.ntmps14
    go_wp2_with fail
    go_quiet (first | (go_at_call_of 25 (Value.int .i64 core); exact Calls.quiet_of_same (digits_any _ _ H1.out)) | (go_at_call_of 25 (Value.int .i64 peer); exact Calls.quiet_of_same (digits_any _ _ H2.out)) | (go_at_call_of 25 (Value.int .i64 bg); exact Calls.quiet_of_same (digits_any _ _ H3.out)))
    go_wp2_with fail
    go_quiet (first | (go_at_call_of 25 (Value.int .i64 nd); exact quiet_add_same (digits_any _ _ H4.out)) | (go_at_call_of 25 (Value.int .i64 err); exact quiet_add_same (digits_any _ _ H5.out)))
    go_wp2
    go_ret
    exact ⟨by rw [HT.out]; rfl, by first | exact below_dr (one_al _ _) _ | exact below_dr (below_dr (one_al _ _) _) _⟩

set_option maxHeartbeats 6400000 in
theorem text_any (w : World) (x : En) (hw : Wide x) (ht : Tab w) : Calls Tryd.prog 13 #[.agg x.cells] w fun e w' => e = .returned (.string (textB x)) ∧ Below w.heap.size w w' := by
  obtain ⟨core, peer, kind, bg, nd, err, adr, len, cap, handle, load⟩ := x
  obtain ⟨h1, h2, h3, h4, h5⟩ := hw
  simp only at h1 h2 h3 h4 h5
  have s1 := dec_size h1
  have s2 := dec_size h2
  have s3 := dec_size h3
  have s4 := dec_size h4
  have s5 := dec_size h5
  have H1 := Lib.hid h1
  have H2 := Lib.hid h2
  have H3 := Lib.hid h3
  have H4 := Lib.hid h4
  have H5 := Lib.hid h5
  have HTab := Lib.hid ht
  clear h1 h2 h3 h4 h5 ht
  unfold En.cells
  simp only
  by_cases k1 : kind = 1
  · subst k1
    by_cases hn : nd = 0
    · subst hn
      have HT : Hid (textB (En.mk core peer 1 bg 0 err adr len cap handle load) = dec core ++ ⟨#[115]⟩ ++ dec peer ++ ⟨#[32]⟩ ++ dec bg ++ ⟨#[45]⟩ ++ ⟨#[46, 46]⟩) := by
        show _ = _
        simp [textB, headB, letterB]
      have hx : (ByteArray.mk #[115, 114, 120]).extract 0 1 = ⟨#[115]⟩ := by decide
      obtain ⟨W0, hW0⟩ : ∃ W0 : World, W0 = w.alloc (.cells (En.cells ⟨core, peer, 1, bg, 0, err, adr, len, cap, handle, load⟩) 28) := ⟨_, rfl⟩
      have hal : RowKit.Below w.heap.size w W0 := by rw [hW0]; exact one_al _ _
      have hbx : W0.heap[w.heap.size]? = some (.cells (En.cells ⟨core, peer, 1, bg, 0, err, adr, len, cap, handle, load⟩) 28 (0, 0)) := by rw [hW0]; exact new_block _ _
      have c1 : ∀ d os, Calls Tryd.prog 24 #[.int .i64 core] (grow (redrawn W0 d) os) fun e w'' => e = .returned (.string (dec core)) ∧ ∃ p : Regrown, w'' = grow (redrawn W0 p.d) p.os := fun d os => Calls.regrown_of (itoa_any _ _ H1.out (HTab.out.below (hal.trans ((below_regrown W0 d os).mono hal.size))))
      have c2 : ∀ d os, Calls Tryd.prog 24 #[.int .i64 peer] (grow (redrawn W0 d) os) fun e w'' => e = .returned (.string (dec peer)) ∧ ∃ p : Regrown, w'' = grow (redrawn W0 p.d) p.os := fun d os => Calls.regrown_of (itoa_any _ _ H2.out (HTab.out.below (hal.trans ((below_regrown W0 d os).mono hal.size))))
      have c3 : ∀ d os, Calls Tryd.prog 24 #[.int .i64 bg] (grow (redrawn W0 d) os) fun e w'' => e = .returned (.string (dec bg)) ∧ ∃ p : Regrown, w'' = grow (redrawn W0 p.d) p.os := fun d os => Calls.regrown_of (itoa_any _ _ H3.out (HTab.out.below (hal.trans ((below_regrown W0 d os).mono hal.size))))
      obtain ⟨e0, e1, e2, e3, e4, e5, e6, e7⟩ := entry_cells hbx
      have f0 := cell_regrown e0
      have f1 := cell_regrown e1
      have f2 := cell_regrown e2
      have f3 := cell_regrown e3
      have HAL := Lib.hid hal
      have HBX := Lib.hid hbx
      unfold En.cells at hW0
      simp only at hW0 f0 f1 f2 f3
      have HW0 := Lib.hid hW0
      clear hal hbx hW0 e0 e1 e2 e3 e4 e5 e6 e7
      go_enter Tryd.func13, Tryd.ntmps13
      go_wp2_with fail
      rw [← HW0.out]
      refine wp_region_quiet_below (by kernel_rfl) (by kernel_rfl) ?_
      repeat (go_big_quiet_step (first | (go_at_call_of 24 (Value.int .i64 core); exact c1 _ _) | (go_at_call_of 24 (Value.int .i64 peer); exact c2 _ _) | (go_at_call_of 24 (Value.int .i64 bg); exact c3 _ _)))
      refine wpQuiet_nil ?_
      intro _ hw'
      obtain ⟨⟨dq, osq⟩, hw''⟩ := hw'
      subst hw''
      have HRG := Lib.hid (below_regrown W0 dq osq)
      have HB1 := Lib.hid (HAL.out.trans (HRG.out.mono HAL.out.size))
      have hbx2 := (HRG.out.block _ (lt_of_block HBX.out)).trans HBX.out
      obtain ⟨e0, e1, e2, e3, e4, e5, e6, e7⟩ := entry_cells hbx2
      clear c1 c2 c3 f0 f1 f2 f3 hbx2
      generalize grow (redrawn W0 dq) osq = W1 at *
      simp only at e4 e5
      go_wp2
      go_ret
      exact ⟨by rw [HT.out]; rfl, HB1.out⟩
    · have HT : Hid (textB (En.mk core peer 1 bg nd err adr len cap handle load) = dec core ++ ⟨#[115]⟩ ++ dec peer ++ ⟨#[32]⟩ ++ dec bg ++ ⟨#[45]⟩ ++ dec nd ++ ⟨#[32]⟩ ++ dec err) := by
        show _ = _
        simp [textB, headB, letterB, hn]
      have hn0 : (nd == 0) = false := by simpa using hn
      clear hn
      have hx : (ByteArray.mk #[115, 114, 120]).extract 0 1 = ⟨#[115]⟩ := by decide
      obtain ⟨W0, hW0⟩ : ∃ W0 : World, W0 = w.alloc (.cells (En.cells ⟨core, peer, 1, bg, nd, err, adr, len, cap, handle, load⟩) 28) := ⟨_, rfl⟩
      have hal : RowKit.Below w.heap.size w W0 := by rw [hW0]; exact one_al _ _
      have hbx : W0.heap[w.heap.size]? = some (.cells (En.cells ⟨core, peer, 1, bg, nd, err, adr, len, cap, handle, load⟩) 28 (0, 0)) := by rw [hW0]; exact new_block _ _
      have c1 : ∀ d os, Calls Tryd.prog 24 #[.int .i64 core] (grow (redrawn W0 d) os) fun e w'' => e = .returned (.string (dec core)) ∧ ∃ p : Regrown, w'' = grow (redrawn W0 p.d) p.os := fun d os => Calls.regrown_of (itoa_any _ _ H1.out (HTab.out.below (hal.trans ((below_regrown W0 d os).mono hal.size))))
      have c2 : ∀ d os, Calls Tryd.prog 24 #[.int .i64 peer] (grow (redrawn W0 d) os) fun e w'' => e = .returned (.string (dec peer)) ∧ ∃ p : Regrown, w'' = grow (redrawn W0 p.d) p.os := fun d os => Calls.regrown_of (itoa_any _ _ H2.out (HTab.out.below (hal.trans ((below_regrown W0 d os).mono hal.size))))
      have c3 : ∀ d os, Calls Tryd.prog 24 #[.int .i64 bg] (grow (redrawn W0 d) os) fun e w'' => e = .returned (.string (dec bg)) ∧ ∃ p : Regrown, w'' = grow (redrawn W0 p.d) p.os := fun d os => Calls.regrown_of (itoa_any _ _ H3.out (HTab.out.below (hal.trans ((below_regrown W0 d os).mono hal.size))))
      obtain ⟨e0, e1, e2, e3, e4, e5, e6, e7⟩ := entry_cells hbx
      have f0 := cell_regrown e0
      have f1 := cell_regrown e1
      have f2 := cell_regrown e2
      have f3 := cell_regrown e3
      have HAL := Lib.hid hal
      have HBX := Lib.hid hbx
      unfold En.cells at hW0
      simp only at hW0 f0 f1 f2 f3
      have HW0 := Lib.hid hW0
      clear hal hbx hW0 e0 e1 e2 e3 e4 e5 e6 e7
      go_enter Tryd.func13, Tryd.ntmps13
      go_wp2_with fail
      rw [← HW0.out]
      refine wp_region_quiet_below (by kernel_rfl) (by kernel_rfl) ?_
      repeat (go_big_quiet_step (first | (go_at_call_of 24 (Value.int .i64 core); exact c1 _ _) | (go_at_call_of 24 (Value.int .i64 peer); exact c2 _ _) | (go_at_call_of 24 (Value.int .i64 bg); exact c3 _ _)))
      refine wpQuiet_nil ?_
      intro _ hw'
      obtain ⟨⟨dq, osq⟩, hw''⟩ := hw'
      subst hw''
      have HRG := Lib.hid (below_regrown W0 dq osq)
      have HB1 := Lib.hid (HAL.out.trans (HRG.out.mono HAL.out.size))
      have hbx2 := (HRG.out.block _ (lt_of_block HBX.out)).trans HBX.out
      obtain ⟨e0, e1, e2, e3, e4, e5, e6, e7⟩ := entry_cells hbx2
      clear c1 c2 c3 f0 f1 f2 f3 hbx2
      generalize grow (redrawn W0 dq) osq = W1 at *
      simp only at e4 e5
      have g4 := cell_regrown e4
      have g5 := cell_regrown e5
      have c4 : ∀ d os, Calls Tryd.prog 24 #[.int .i64 nd] (grow (redrawn W1 d) os) fun e w'' => e = .returned (.string (dec nd)) ∧ ∃ p : Regrown, w'' = grow (redrawn W1 p.d) p.os := fun d os => Calls.regrown_of (itoa_any _ _ H4.out (HTab.out.below (HB1.out.trans ((below_regrown W1 d os).mono HB1.out.size))))
      have c5 : ∀ d os, Calls Tryd.prog 24 #[.int .i64 err] (grow (redrawn W1 d) os) fun e w'' => e = .returned (.string (dec err)) ∧ ∃ p : Regrown, w'' = grow (redrawn W1 p.d) p.os := fun d os => Calls.regrown_of (itoa_any _ _ H5.out (HTab.out.below (HB1.out.trans ((below_regrown W1 d os).mono HB1.out.size))))
      go_wp2_with fail
      refine wp_region_quiet_below (by kernel_rfl) (by kernel_rfl) ?_
      repeat (go_big_quiet_step (first | (go_at_call_of 24 (Value.int .i64 nd); exact c4 _ _) | (go_at_call_of 24 (Value.int .i64 err); exact c5 _ _)))
      refine wpQuiet_nil ?_
      intro _ hw'
      obtain ⟨⟨dr, osr⟩, hw''⟩ := hw'
      subst hw''
      have HB2 := Lib.hid (HB1.out.trans ((below_regrown W1 dr osr).mono HB1.out.size))
      clear c4 c5 g4 g5 e0 e1 e2 e3 e4 e5 e6 e7
      go_wp2
      go_ret
      exact ⟨by rw [HT.out]; rfl, HB2.out⟩
  by_cases k2 : kind = 2
  · subst k2
    by_cases hn : nd = 0
    · subst hn
      have HT : Hid (textB (En.mk core peer 2 bg 0 err adr len cap handle load) = dec core ++ ⟨#[114]⟩ ++ dec peer ++ ⟨#[32]⟩ ++ dec bg ++ ⟨#[45]⟩ ++ ⟨#[46, 46]⟩) := by
        show _ = _
        simp [textB, headB, letterB]
      have hx : (ByteArray.mk #[115, 114, 120]).extract 1 2 = ⟨#[114]⟩ := by decide
      obtain ⟨W0, hW0⟩ : ∃ W0 : World, W0 = w.alloc (.cells (En.cells ⟨core, peer, 2, bg, 0, err, adr, len, cap, handle, load⟩) 28) := ⟨_, rfl⟩
      have hal : RowKit.Below w.heap.size w W0 := by rw [hW0]; exact one_al _ _
      have hbx : W0.heap[w.heap.size]? = some (.cells (En.cells ⟨core, peer, 2, bg, 0, err, adr, len, cap, handle, load⟩) 28 (0, 0)) := by rw [hW0]; exact new_block _ _
      have c1 : ∀ d os, Calls Tryd.prog 24 #[.int .i64 core] (grow (redrawn W0 d) os) fun e w'' => e = .returned (.string (dec core)) ∧ ∃ p : Regrown, w'' = grow (redrawn W0 p.d) p.os := fun d os => Calls.regrown_of (itoa_any _ _ H1.out (HTab.out.below (hal.trans ((below_regrown W0 d os).mono hal.size))))
      have c2 : ∀ d os, Calls Tryd.prog 24 #[.int .i64 peer] (grow (redrawn W0 d) os) fun e w'' => e = .returned (.string (dec peer)) ∧ ∃ p : Regrown, w'' = grow (redrawn W0 p.d) p.os := fun d os => Calls.regrown_of (itoa_any _ _ H2.out (HTab.out.below (hal.trans ((below_regrown W0 d os).mono hal.size))))
      have c3 : ∀ d os, Calls Tryd.prog 24 #[.int .i64 bg] (grow (redrawn W0 d) os) fun e w'' => e = .returned (.string (dec bg)) ∧ ∃ p : Regrown, w'' = grow (redrawn W0 p.d) p.os := fun d os => Calls.regrown_of (itoa_any _ _ H3.out (HTab.out.below (hal.trans ((below_regrown W0 d os).mono hal.size))))
      obtain ⟨e0, e1, e2, e3, e4, e5, e6, e7⟩ := entry_cells hbx
      have f0 := cell_regrown e0
      have f1 := cell_regrown e1
      have f2 := cell_regrown e2
      have f3 := cell_regrown e3
      have HAL := Lib.hid hal
      have HBX := Lib.hid hbx
      unfold En.cells at hW0
      simp only at hW0 f0 f1 f2 f3
      have HW0 := Lib.hid hW0
      clear hal hbx hW0 e0 e1 e2 e3 e4 e5 e6 e7
      go_enter Tryd.func13, Tryd.ntmps13
      go_wp2_with fail
      rw [← HW0.out]
      refine wp_region_quiet_below (by kernel_rfl) (by kernel_rfl) ?_
      repeat (go_big_quiet_step (first | (go_at_call_of 24 (Value.int .i64 core); exact c1 _ _) | (go_at_call_of 24 (Value.int .i64 peer); exact c2 _ _) | (go_at_call_of 24 (Value.int .i64 bg); exact c3 _ _)))
      refine wpQuiet_nil ?_
      intro _ hw'
      obtain ⟨⟨dq, osq⟩, hw''⟩ := hw'
      subst hw''
      have HRG := Lib.hid (below_regrown W0 dq osq)
      have HB1 := Lib.hid (HAL.out.trans (HRG.out.mono HAL.out.size))
      have hbx2 := (HRG.out.block _ (lt_of_block HBX.out)).trans HBX.out
      obtain ⟨e0, e1, e2, e3, e4, e5, e6, e7⟩ := entry_cells hbx2
      clear c1 c2 c3 f0 f1 f2 f3 hbx2
      generalize grow (redrawn W0 dq) osq = W1 at *
      simp only at e4 e5
      go_wp2
      go_ret
      exact ⟨by rw [HT.out]; rfl, HB1.out⟩
    · have HT : Hid (textB (En.mk core peer 2 bg nd err adr len cap handle load) = dec core ++ ⟨#[114]⟩ ++ dec peer ++ ⟨#[32]⟩ ++ dec bg ++ ⟨#[45]⟩ ++ dec nd ++ ⟨#[32]⟩ ++ dec err) := by
        show _ = _
        simp [textB, headB, letterB, hn]
      have hn0 : (nd == 0) = false := by simpa using hn
      clear hn
      have hx : (ByteArray.mk #[115, 114, 120]).extract 1 2 = ⟨#[114]⟩ := by decide
      obtain ⟨W0, hW0⟩ : ∃ W0 : World, W0 = w.alloc (.cells (En.cells ⟨core, peer, 2, bg, nd, err, adr, len, cap, handle, load⟩) 28) := ⟨_, rfl⟩
      have hal : RowKit.Below w.heap.size w W0 := by rw [hW0]; exact one_al _ _
      have hbx : W0.heap[w.heap.size]? = some (.cells (En.cells ⟨core, peer, 2, bg, nd, err, adr, len, cap, handle, load⟩) 28 (0, 0)) := by rw [hW0]; exact new_block _ _
      have c1 : ∀ d os, Calls Tryd.prog 24 #[.int .i64 core] (grow (redrawn W0 d) os) fun e w'' => e = .returned (.string (dec core)) ∧ ∃ p : Regrown, w'' = grow (redrawn W0 p.d) p.os := fun d os => Calls.regrown_of (itoa_any _ _ H1.out (HTab.out.below (hal.trans ((below_regrown W0 d os).mono hal.size))))
      have c2 : ∀ d os, Calls Tryd.prog 24 #[.int .i64 peer] (grow (redrawn W0 d) os) fun e w'' => e = .returned (.string (dec peer)) ∧ ∃ p : Regrown, w'' = grow (redrawn W0 p.d) p.os := fun d os => Calls.regrown_of (itoa_any _ _ H2.out (HTab.out.below (hal.trans ((below_regrown W0 d os).mono hal.size))))
      have c3 : ∀ d os, Calls Tryd.prog 24 #[.int .i64 bg] (grow (redrawn W0 d) os) fun e w'' => e = .returned (.string (dec bg)) ∧ ∃ p : Regrown, w'' = grow (redrawn W0 p.d) p.os := fun d os => Calls.regrown_of (itoa_any _ _ H3.out (HTab.out.below (hal.trans ((below_regrown W0 d os).mono hal.size))))
      obtain ⟨e0, e1, e2, e3, e4, e5, e6, e7⟩ := entry_cells hbx
      have f0 := cell_regrown e0
      have f1 := cell_regrown e1
      have f2 := cell_regrown e2
      have f3 := cell_regrown e3
      have HAL := Lib.hid hal
      have HBX := Lib.hid hbx
      unfold En.cells at hW0
      simp only at hW0 f0 f1 f2 f3
      have HW0 := Lib.hid hW0
      clear hal hbx hW0 e0 e1 e2 e3 e4 e5 e6 e7
      go_enter Tryd.func13, Tryd.ntmps13
      go_wp2_with fail
      rw [← HW0.out]
      refine wp_region_quiet_below (by kernel_rfl) (by kernel_rfl) ?_
      repeat (go_big_quiet_step (first | (go_at_call_of 24 (Value.int .i64 core); exact c1 _ _) | (go_at_call_of 24 (Value.int .i64 peer); exact c2 _ _) | (go_at_call_of 24 (Value.int .i64 bg); exact c3 _ _)))
      refine wpQuiet_nil ?_
      intro _ hw'
      obtain ⟨⟨dq, osq⟩, hw''⟩ := hw'
      subst hw''
      have HRG := Lib.hid (below_regrown W0 dq osq)
      have HB1 := Lib.hid (HAL.out.trans (HRG.out.mono HAL.out.size))
      have hbx2 := (HRG.out.block _ (lt_of_block HBX.out)).trans HBX.out
      obtain ⟨e0, e1, e2, e3, e4, e5, e6, e7⟩ := entry_cells hbx2
      clear c1 c2 c3 f0 f1 f2 f3 hbx2
      generalize grow (redrawn W0 dq) osq = W1 at *
      simp only at e4 e5
      have g4 := cell_regrown e4
      have g5 := cell_regrown e5
      have c4 : ∀ d os, Calls Tryd.prog 24 #[.int .i64 nd] (grow (redrawn W1 d) os) fun e w'' => e = .returned (.string (dec nd)) ∧ ∃ p : Regrown, w'' = grow (redrawn W1 p.d) p.os := fun d os => Calls.regrown_of (itoa_any _ _ H4.out (HTab.out.below (HB1.out.trans ((below_regrown W1 d os).mono HB1.out.size))))
      have c5 : ∀ d os, Calls Tryd.prog 24 #[.int .i64 err] (grow (redrawn W1 d) os) fun e w'' => e = .returned (.string (dec err)) ∧ ∃ p : Regrown, w'' = grow (redrawn W1 p.d) p.os := fun d os => Calls.regrown_of (itoa_any _ _ H5.out (HTab.out.below (HB1.out.trans ((below_regrown W1 d os).mono HB1.out.size))))
      go_wp2_with fail
      refine wp_region_quiet_below (by kernel_rfl) (by kernel_rfl) ?_
      repeat (go_big_quiet_step (first | (go_at_call_of 24 (Value.int .i64 nd); exact c4 _ _) | (go_at_call_of 24 (Value.int .i64 err); exact c5 _ _)))
      refine wpQuiet_nil ?_
      intro _ hw'
      obtain ⟨⟨dr, osr⟩, hw''⟩ := hw'
      subst hw''
      have HB2 := Lib.hid (HB1.out.trans ((below_regrown W1 dr osr).mono HB1.out.size))
      clear c4 c5 g4 g5 e0 e1 e2 e3 e4 e5 e6 e7
      go_wp2
      go_ret
      exact ⟨by rw [HT.out]; rfl, HB2.out⟩
  by_cases k3 : kind = 3
  · subst k3
    by_cases hn : nd = 0
    · subst hn
      have HT : Hid (textB (En.mk core peer 3 bg 0 err adr len cap handle load) = dec core ++ ⟨#[120]⟩ ++ dec peer ++ ⟨#[32]⟩ ++ dec bg ++ ⟨#[45]⟩ ++ ⟨#[46, 46]⟩) := by
        show _ = _
        simp [textB, headB, letterB]
      have hx : (ByteArray.mk #[115, 114, 120]).extract 2 3 = ⟨#[120]⟩ := by decide
      obtain ⟨W0, hW0⟩ : ∃ W0 : World, W0 = w.alloc (.cells (En.cells ⟨core, peer, 3, bg, 0, err, adr, len, cap, handle, load⟩) 28) := ⟨_, rfl⟩
      have hal : RowKit.Below w.heap.size w W0 := by rw [hW0]; exact one_al _ _
      have hbx : W0.heap[w.heap.size]? = some (.cells (En.cells ⟨core, peer, 3, bg, 0, err, adr, len, cap, handle, load⟩) 28 (0, 0)) := by rw [hW0]; exact new_block _ _
      have c1 : ∀ d os, Calls Tryd.prog 24 #[.int .i64 core] (grow (redrawn W0 d) os) fun e w'' => e = .returned (.string (dec core)) ∧ ∃ p : Regrown, w'' = grow (redrawn W0 p.d) p.os := fun d os => Calls.regrown_of (itoa_any _ _ H1.out (HTab.out.below (hal.trans ((below_regrown W0 d os).mono hal.size))))
      have c2 : ∀ d os, Calls Tryd.prog 24 #[.int .i64 peer] (grow (redrawn W0 d) os) fun e w'' => e = .returned (.string (dec peer)) ∧ ∃ p : Regrown, w'' = grow (redrawn W0 p.d) p.os := fun d os => Calls.regrown_of (itoa_any _ _ H2.out (HTab.out.below (hal.trans ((below_regrown W0 d os).mono hal.size))))
      have c3 : ∀ d os, Calls Tryd.prog 24 #[.int .i64 bg] (grow (redrawn W0 d) os) fun e w'' => e = .returned (.string (dec bg)) ∧ ∃ p : Regrown, w'' = grow (redrawn W0 p.d) p.os := fun d os => Calls.regrown_of (itoa_any _ _ H3.out (HTab.out.below (hal.trans ((below_regrown W0 d os).mono hal.size))))
      obtain ⟨e0, e1, e2, e3, e4, e5, e6, e7⟩ := entry_cells hbx
      have f0 := cell_regrown e0
      have f1 := cell_regrown e1
      have f2 := cell_regrown e2
      have f3 := cell_regrown e3
      have HAL := Lib.hid hal
      have HBX := Lib.hid hbx
      unfold En.cells at hW0
      simp only at hW0 f0 f1 f2 f3
      have HW0 := Lib.hid hW0
      clear hal hbx hW0 e0 e1 e2 e3 e4 e5 e6 e7
      go_enter Tryd.func13, Tryd.ntmps13
      go_wp2_with fail
      rw [← HW0.out]
      refine wp_region_quiet_below (by kernel_rfl) (by kernel_rfl) ?_
      repeat (go_big_quiet_step (first | (go_at_call_of 24 (Value.int .i64 core); exact c1 _ _) | (go_at_call_of 24 (Value.int .i64 peer); exact c2 _ _) | (go_at_call_of 24 (Value.int .i64 bg); exact c3 _ _)))
      refine wpQuiet_nil ?_
      intro _ hw'
      obtain ⟨⟨dq, osq⟩, hw''⟩ := hw'
      subst hw''
      have HRG := Lib.hid (below_regrown W0 dq osq)
      have HB1 := Lib.hid (HAL.out.trans (HRG.out.mono HAL.out.size))
      have hbx2 := (HRG.out.block _ (lt_of_block HBX.out)).trans HBX.out
      obtain ⟨e0, e1, e2, e3, e4, e5, e6, e7⟩ := entry_cells hbx2
      clear c1 c2 c3 f0 f1 f2 f3 hbx2
      generalize grow (redrawn W0 dq) osq = W1 at *
      simp only at e4 e5
      go_wp2
      go_ret
      exact ⟨by rw [HT.out]; rfl, HB1.out⟩
    · have HT : Hid (textB (En.mk core peer 3 bg nd err adr len cap handle load) = dec core ++ ⟨#[120]⟩ ++ dec peer ++ ⟨#[32]⟩ ++ dec bg ++ ⟨#[45]⟩ ++ dec nd ++ ⟨#[32]⟩ ++ dec err) := by
        show _ = _
        simp [textB, headB, letterB, hn]
      have hn0 : (nd == 0) = false := by simpa using hn
      clear hn
      have hx : (ByteArray.mk #[115, 114, 120]).extract 2 3 = ⟨#[120]⟩ := by decide
      obtain ⟨W0, hW0⟩ : ∃ W0 : World, W0 = w.alloc (.cells (En.cells ⟨core, peer, 3, bg, nd, err, adr, len, cap, handle, load⟩) 28) := ⟨_, rfl⟩
      have hal : RowKit.Below w.heap.size w W0 := by rw [hW0]; exact one_al _ _
      have hbx : W0.heap[w.heap.size]? = some (.cells (En.cells ⟨core, peer, 3, bg, nd, err, adr, len, cap, handle, load⟩) 28 (0, 0)) := by rw [hW0]; exact new_block _ _
      have c1 : ∀ d os, Calls Tryd.prog 24 #[.int .i64 core] (grow (redrawn W0 d) os) fun e w'' => e = .returned (.string (dec core)) ∧ ∃ p : Regrown, w'' = grow (redrawn W0 p.d) p.os := fun d os => Calls.regrown_of (itoa_any _ _ H1.out (HTab.out.below (hal.trans ((below_regrown W0 d os).mono hal.size))))
      have c2 : ∀ d os, Calls Tryd.prog 24 #[.int .i64 peer] (grow (redrawn W0 d) os) fun e w'' => e = .returned (.string (dec peer)) ∧ ∃ p : Regrown, w'' = grow (redrawn W0 p.d) p.os := fun d os => Calls.regrown_of (itoa_any _ _ H2.out (HTab.out.below (hal.trans ((below_regrown W0 d os).mono hal.size))))
      have c3 : ∀ d os, Calls Tryd.prog 24 #[.int .i64 bg] (grow (redrawn W0 d) os) fun e w'' => e = .returned (.string (dec bg)) ∧ ∃ p : Regrown, w'' = grow (redrawn W0 p.d) p.os := fun d os => Calls.regrown_of (itoa_any _ _ H3.out (HTab.out.below (hal.trans ((below_regrown W0 d os).mono hal.size))))
      obtain ⟨e0, e1, e2, e3, e4, e5, e6, e7⟩ := entry_cells hbx
      have f0 := cell_regrown e0
      have f1 := cell_regrown e1
      have f2 := cell_regrown e2
      have f3 := cell_regrown e3
      have HAL := Lib.hid hal
      have HBX := Lib.hid hbx
      unfold En.cells at hW0
      simp only at hW0 f0 f1 f2 f3
      have HW0 := Lib.hid hW0
      clear hal hbx hW0 e0 e1 e2 e3 e4 e5 e6 e7
      go_enter Tryd.func13, Tryd.ntmps13
      go_wp2_with fail
      rw [← HW0.out]
      refine wp_region_quiet_below (by kernel_rfl) (by kernel_rfl) ?_
      repeat (go_big_quiet_step (first | (go_at_call_of 24 (Value.int .i64 core); exact c1 _ _) | (go_at_call_of 24 (Value.int .i64 peer); exact c2 _ _) | (go_at_call_of 24 (Value.int .i64 bg); exact c3 _ _)))
      refine wpQuiet_nil ?_
      intro _ hw'
      obtain ⟨⟨dq, osq⟩, hw''⟩ := hw'
      subst hw''
      have HRG := Lib.hid (below_regrown W0 dq osq)
      have HB1 := Lib.hid (HAL.out.trans (HRG.out.mono HAL.out.size))
      have hbx2 := (HRG.out.block _ (lt_of_block HBX.out)).trans HBX.out
      obtain ⟨e0, e1, e2, e3, e4, e5, e6, e7⟩ := entry_cells hbx2
      clear c1 c2 c3 f0 f1 f2 f3 hbx2
      generalize grow (redrawn W0 dq) osq = W1 at *
      simp only at e4 e5
      have g4 := cell_regrown e4
      have g5 := cell_regrown e5
      have c4 : ∀ d os, Calls Tryd.prog 24 #[.int .i64 nd] (grow (redrawn W1 d) os) fun e w'' => e = .returned (.string (dec nd)) ∧ ∃ p : Regrown, w'' = grow (redrawn W1 p.d) p.os := fun d os => Calls.regrown_of (itoa_any _ _ H4.out (HTab.out.below (HB1.out.trans ((below_regrown W1 d os).mono HB1.out.size))))
      have c5 : ∀ d os, Calls Tryd.prog 24 #[.int .i64 err] (grow (redrawn W1 d) os) fun e w'' => e = .returned (.string (dec err)) ∧ ∃ p : Regrown, w'' = grow (redrawn W1 p.d) p.os := fun d os => Calls.regrown_of (itoa_any _ _ H5.out (HTab.out.below (HB1.out.trans ((below_regrown W1 d os).mono HB1.out.size))))
      go_wp2_with fail
      refine wp_region_quiet_below (by kernel_rfl) (by kernel_rfl) ?_
      repeat (go_big_quiet_step (first | (go_at_call_of 24 (Value.int .i64 nd); exact c4 _ _) | (go_at_call_of 24 (Value.int .i64 err); exact c5 _ _)))
      refine wpQuiet_nil ?_
      intro _ hw'
      obtain ⟨⟨dr, osr⟩, hw''⟩ := hw'
      subst hw''
      have HB2 := Lib.hid (HB1.out.trans ((below_regrown W1 dr osr).mono HB1.out.size))
      clear c4 c5 g4 g5 e0 e1 e2 e3 e4 e5 e6 e7
      go_wp2
      go_ret
      exact ⟨by rw [HT.out]; rfl, HB2.out⟩
  by_cases hn : nd = 0
  · subst hn
    have HT : Hid (textB (En.mk core peer kind bg 0 err adr len cap handle load) = dec core ++ ⟨#[63]⟩ ++ dec peer ++ ⟨#[32]⟩ ++ dec bg ++ ⟨#[45]⟩ ++ ⟨#[46, 46]⟩) := by
      show _ = _
      simp [textB, headB, letterB, k1, k2, k3]
    obtain ⟨W0, hW0⟩ : ∃ W0 : World, W0 = w.alloc (.cells (En.cells ⟨core, peer, kind, bg, 0, err, adr, len, cap, handle, load⟩) 28) := ⟨_, rfl⟩
    have hal : RowKit.Below w.heap.size w W0 := by rw [hW0]; exact one_al _ _
    have hbx : W0.heap[w.heap.size]? = some (.cells (En.cells ⟨core, peer, kind, bg, 0, err, adr, len, cap, handle, load⟩) 28 (0, 0)) := by rw [hW0]; exact new_block _ _
    have c1 : ∀ d os, Calls Tryd.prog 24 #[.int .i64 core] (grow (redrawn W0 d) os) fun e w'' => e = .returned (.string (dec core)) ∧ ∃ p : Regrown, w'' = grow (redrawn W0 p.d) p.os := fun d os => Calls.regrown_of (itoa_any _ _ H1.out (HTab.out.below (hal.trans ((below_regrown W0 d os).mono hal.size))))
    have c2 : ∀ d os, Calls Tryd.prog 24 #[.int .i64 peer] (grow (redrawn W0 d) os) fun e w'' => e = .returned (.string (dec peer)) ∧ ∃ p : Regrown, w'' = grow (redrawn W0 p.d) p.os := fun d os => Calls.regrown_of (itoa_any _ _ H2.out (HTab.out.below (hal.trans ((below_regrown W0 d os).mono hal.size))))
    have c3 : ∀ d os, Calls Tryd.prog 24 #[.int .i64 bg] (grow (redrawn W0 d) os) fun e w'' => e = .returned (.string (dec bg)) ∧ ∃ p : Regrown, w'' = grow (redrawn W0 p.d) p.os := fun d os => Calls.regrown_of (itoa_any _ _ H3.out (HTab.out.below (hal.trans ((below_regrown W0 d os).mono hal.size))))
    obtain ⟨e0, e1, e2, e3, e4, e5, e6, e7⟩ := entry_cells hbx
    have f0 := cell_regrown e0
    have f1 := cell_regrown e1
    have f2 := cell_regrown e2
    have f3 := cell_regrown e3
    have HAL := Lib.hid hal
    have HBX := Lib.hid hbx
    unfold En.cells at hW0
    simp only at hW0 f0 f1 f2 f3
    have HW0 := Lib.hid hW0
    clear hal hbx hW0 e0 e1 e2 e3 e4 e5 e6 e7
    have kk : kind < 1 ∨ 3 < kind := by omega
    clear k1 k2 k3
    rcases kk with kk | kk
    all_goals
      go_enter Tryd.func13, Tryd.ntmps13
      go_wp2_with fail
      rw [← HW0.out]
      refine wp_region_quiet_below (by kernel_rfl) (by kernel_rfl) ?_
      repeat (go_big_quiet_step (first | (go_at_call_of 24 (Value.int .i64 core); exact c1 _ _) | (go_at_call_of 24 (Value.int .i64 peer); exact c2 _ _) | (go_at_call_of 24 (Value.int .i64 bg); exact c3 _ _)))
      refine wpQuiet_nil ?_
      intro _ hw'
      obtain ⟨⟨dq, osq⟩, hw''⟩ := hw'
      subst hw''
      have HRG := Lib.hid (below_regrown W0 dq osq)
      have HB1 := Lib.hid (HAL.out.trans (HRG.out.mono HAL.out.size))
      have hbx2 := (HRG.out.block _ (lt_of_block HBX.out)).trans HBX.out
      obtain ⟨e0, e1, e2, e3, e4, e5, e6, e7⟩ := entry_cells hbx2
      clear c1 c2 c3 f0 f1 f2 f3 hbx2
      generalize grow (redrawn W0 dq) osq = W1 at *
      simp only at e4 e5
      go_wp2
      go_ret
      exact ⟨by rw [HT.out]; rfl, HB1.out⟩
  · have HT : Hid (textB (En.mk core peer kind bg nd err adr len cap handle load) = dec core ++ ⟨#[63]⟩ ++ dec peer ++ ⟨#[32]⟩ ++ dec bg ++ ⟨#[45]⟩ ++ dec nd ++ ⟨#[32]⟩ ++ dec err) := by
      show _ = _
      simp [textB, headB, letterB, k1, k2, k3, hn]
    have hn0 : (nd == 0) = false := by simpa using hn
    clear hn
    obtain ⟨W0, hW0⟩ : ∃ W0 : World, W0 = w.alloc (.cells (En.cells ⟨core, peer, kind, bg, nd, err, adr, len, cap, handle, load⟩) 28) := ⟨_, rfl⟩
    have hal : RowKit.Below w.heap.size w W0 := by rw [hW0]; exact one_al _ _
    have hbx : W0.heap[w.heap.size]? = some (.cells (En.cells ⟨core, peer, kind, bg, nd, err, adr, len, cap, handle, load⟩) 28 (0, 0)) := by rw [hW0]; exact new_block _ _
    have c1 : ∀ d os, Calls Tryd.prog 24 #[.int .i64 core] (grow (redrawn W0 d) os) fun e w'' => e = .returned (.string (dec core)) ∧ ∃ p : Regrown, w'' = grow (redrawn W0 p.d) p.os := fun d os => Calls.regrown_of (itoa_any _ _ H1.out (HTab.out.below (hal.trans ((below_regrown W0 d os).mono hal.size))))
    have c2 : ∀ d os, Calls Tryd.prog 24 #[.int .i64 peer] (grow (redrawn W0 d) os) fun e w'' => e = .returned (.string (dec peer)) ∧ ∃ p : Regrown, w'' = grow (redrawn W0 p.d) p.os := fun d os => Calls.regrown_of (itoa_any _ _ H2.out (HTab.out.below (hal.trans ((below_regrown W0 d os).mono hal.size))))
    have c3 : ∀ d os, Calls Tryd.prog 24 #[.int .i64 bg] (grow (redrawn W0 d) os) fun e w'' => e = .returned (.string (dec bg)) ∧ ∃ p : Regrown, w'' = grow (redrawn W0 p.d) p.os := fun d os => Calls.regrown_of (itoa_any _ _ H3.out (HTab.out.below (hal.trans ((below_regrown W0 d os).mono hal.size))))
    obtain ⟨e0, e1, e2, e3, e4, e5, e6, e7⟩ := entry_cells hbx
    have f0 := cell_regrown e0
    have f1 := cell_regrown e1
    have f2 := cell_regrown e2
    have f3 := cell_regrown e3
    have HAL := Lib.hid hal
    have HBX := Lib.hid hbx
    unfold En.cells at hW0
    simp only at hW0 f0 f1 f2 f3
    have HW0 := Lib.hid hW0
    clear hal hbx hW0 e0 e1 e2 e3 e4 e5 e6 e7
    have kk : kind < 1 ∨ 3 < kind := by omega
    clear k1 k2 k3
    rcases kk with kk | kk
    all_goals
      go_enter Tryd.func13, Tryd.ntmps13
      go_wp2_with fail
      rw [← HW0.out]
      refine wp_region_quiet_below (by kernel_rfl) (by kernel_rfl) ?_
      repeat (go_big_quiet_step (first | (go_at_call_of 24 (Value.int .i64 core); exact c1 _ _) | (go_at_call_of 24 (Value.int .i64 peer); exact c2 _ _) | (go_at_call_of 24 (Value.int .i64 bg); exact c3 _ _)))
      refine wpQuiet_nil ?_
      intro _ hw'
      obtain ⟨⟨dq, osq⟩, hw''⟩ := hw'
      subst hw''
      have HRG := Lib.hid (below_regrown W0 dq osq)
      have HB1 := Lib.hid (HAL.out.trans (HRG.out.mono HAL.out.size))
      have hbx2 := (HRG.out.block _ (lt_of_block HBX.out)).trans HBX.out
      obtain ⟨e0, e1, e2, e3, e4, e5, e6, e7⟩ := entry_cells hbx2
      clear c1 c2 c3 f0 f1 f2 f3 hbx2
      generalize grow (redrawn W0 dq) osq = W1 at *
      simp only at e4 e5
      have g4 := cell_regrown e4
      have g5 := cell_regrown e5
      have c4 : ∀ d os, Calls Tryd.prog 24 #[.int .i64 nd] (grow (redrawn W1 d) os) fun e w'' => e = .returned (.string (dec nd)) ∧ ∃ p : Regrown, w'' = grow (redrawn W1 p.d) p.os := fun d os => Calls.regrown_of (itoa_any _ _ H4.out (HTab.out.below (HB1.out.trans ((below_regrown W1 d os).mono HB1.out.size))))
      have c5 : ∀ d os, Calls Tryd.prog 24 #[.int .i64 err] (grow (redrawn W1 d) os) fun e w'' => e = .returned (.string (dec err)) ∧ ∃ p : Regrown, w'' = grow (redrawn W1 p.d) p.os := fun d os => Calls.regrown_of (itoa_any _ _ H5.out (HTab.out.below (HB1.out.trans ((below_regrown W1 d os).mono HB1.out.size))))
      go_wp2_with fail
      refine wp_region_quiet_below (by kernel_rfl) (by kernel_rfl) ?_
      repeat (go_big_quiet_step (first | (go_at_call_of 24 (Value.int .i64 nd); exact c4 _ _) | (go_at_call_of 24 (Value.int .i64 err); exact c5 _ _)))
      refine wpQuiet_nil ?_
      intro _ hw'
      obtain ⟨⟨dr, osr⟩, hw''⟩ := hw'
      subst hw''
      have HB2 := Lib.hid (HB1.out.trans ((below_regrown W1 dr osr).mono HB1.out.size))
      clear c4 c5 g4 g5 e0 e1 e2 e3 e4 e5 e6 e7
      go_wp2
      go_ret
      exact ⟨by rw [HT.out]; rfl, HB2.out⟩

end Go.Proofs.YtbfpaemaiaeljaaDoor
