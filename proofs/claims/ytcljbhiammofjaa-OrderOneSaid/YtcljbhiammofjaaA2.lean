/- More walks of package order: slices of numbers, shaped, done. -/
import Derived.Test.YtcljbhiammofjaaA1
namespace Go.Proofs.Ytcljbhiammofjaa
open Go.RowKit

/-- a slice of numbers. -/
def ReadsI (w : World) (A : Option Addr) (l : List Int) : Prop := l = [] ∨ ∃ b o, A = some ⟨b, o, none⟩ ∧ ∀ i, i < l.length → w.cell? ⟨b, o + i, none⟩ = some (.int .i64 (l.getD i 0))
theorem ReadsI.below {w w' : World} {A : Option Addr} {l : List Int} (h : ReadsI w A l) (hb : Below w.heap.size w w') : ReadsI w' A l := by
  rcases h with h | ⟨b, o, h, hr⟩
  · exact .inl h
  · refine .inr ⟨b, o, h, fun i hi => ?_⟩
    rw [hb.cell (World.block_lt_of_cell? w _ (hr i hi))]
    exact hr i hi

/-- the first place of a number; -1. -/
def idxI (v : Int) : List Int → Int
  | [] => -1
  | y :: l => if v = y then 0 else if idxI v l < 0 then -1 else idxI v l + 1
theorem idxI_take (v : Int) (l : List Int) : ∀ k, k ≤ l.length → (∀ j, j < k → ¬ v = l.getD j 0) → (k < l.length → v = l.getD k 0) → idxI v l = if k < l.length then (k : Int) else -1 := by
  induction l with
  | nil => intro k hk _ _; simp [idxI]
  | cons y l ih =>
    intro k hk hn hp
    cases k with
    | zero =>
      have := hp (by simp)
      simp at this
      simp [idxI, this]
    | succ k =>
      have h0 := hn 0 (by omega)
      simp at h0
      have := ih k (by simpa using hk) (fun j hj => by simpa using hn (j + 1) (by omega)) (fun h => by simpa using hp (by simpa using h))
      simp only [idxI, h0, this, List.length_cons]
      by_cases hk' : k < l.length
      · simp [hk']; omega
      · simp [hk']
theorem idxI_nonneg (v : Int) (l : List Int) : decide (0 ≤ idxI v l) = l.contains v := by
  induction l with
  | nil => simp [idxI]
  | cons y l ih =>
    by_cases hy : v = y
    · simp [idxI, hy]
    · have : (v == y) = false := by simpa using hy
      simp only [idxI, hy, List.contains_cons, ← ih, this, if_false, Bool.false_or]
      by_cases h : idxI v l < 0
      · simp [h]
      · simp [h]; omega

theorem index_any (w : World) (A : Option Addr) (c : Nat) (l : List Int) (v : Int) (hr : ReadsI w A l) (n : Nat) (hn : l.length = n) (hl : n ≤ 1000) :
    Calls Try.prog 24 #[.slice A n c, .int .i64 v] w fun e w' => e = .returned (.int .i64 (idxI v l)) ∧ w = w' := by
  subst hn
  have HR := Lib.hid hr
  clear hr
  go_enter Try.func24, Try.ntmps24
  go_wp2
  go_loopg [8] l.length (fun n i wr => ∃ k : Nat, i = .int .i64 k ∧ k + n = l.length ∧ w = wr ∧ (∀ j, j < k → ¬ v = l.getD j 0))
  case atStart => exact ⟨0, rfl, by omega, rfl, by intro j hj; omega⟩
  case round =>
    obtain ⟨k, rfl, hk, rfl, hn⟩ := hrel
    have HN := Lib.hid hn
    have HK := Lib.hid hk
    clear hn hk
    by_cases hlt : k < l.length
    · rcases HR.out with h0 | ⟨b, o, rfl, hr⟩
      · rw [h0] at hlt; exact absurd hlt (by simp)
      have hc := hr k hlt
      generalize he : l.getD k 0 = y at *
      have HY := Lib.hid he
      clear he hr
      by_cases hv : v = y
      · go_wp2
        go_ret
        refine ⟨ret_int ?_, rfl⟩
        rw [idxI_take v l k (by omega) HN.out (fun _ => by rw [HY.out]; exact hv), if_pos hlt]
      · have hv' : (v == y) = false := by simpa using hv
        go_wp2
        go_roundg (gk - 1)
        case measure => have := HK.out; omega
        case rel =>
          refine ⟨k + 1, by simp, by have := HK.out; omega, rfl, ?_⟩
          intro j hj
          by_cases hjk : j = k
          · subst hjk; rw [HY.out]; exact hv
          · exact HN.out j (by omega)
    · go_wp2
      go_ret
      refine ⟨ret_int ?_, rfl⟩
      rw [idxI_take v l k (by have := HK.out; omega) HN.out (fun h => absurd h hlt), if_neg hlt]

theorem contains_any (w : World) (A : Option Addr) (c : Nat) (l : List Int) (v : Int) (hr : ReadsI w A l) (n : Nat) (hn : l.length = n) (hl : n ≤ 1000) :
    Calls Try.prog 18 #[.slice A n c, .int .i64 v] w fun e w' => e = .returned (.bool (l.contains v)) ∧ w = w' := by
  have HN := Lib.hid hn
  clear hn
  go_enter Try.func18, Try.ntmps18
  go_wp2_with fail
  refine (index_any w A c l v hr n HN.out hl).mono ?_
  rintro e w1 ⟨rfl, rfl⟩
  go_wp2
  go_ret
  exact ⟨ret_bool (idxI_nonneg v l), rfl⟩

/-- may there be an order, as far as a list is told? -/
def shapedP (ks : List Int) (l : List En) : Bool := (List.range l.length).all fun i => ks.contains (l.getD i default).kind && !((l.getD i default).nd == 0 && decide ((i : Int) < l.length - 1))

theorem shaped_any (w : World) (A : Option Addr) (c : Nat) (l : List En) (B : Option Addr) (cB : Nat) (ks : List Int) (hr : ReadsE w A l) (hs : ReadsI w B ks) (n : Nat) (hn : l.length = n) (hl : n ≤ 1000) (m : Nat) (hm : ks.length = m) (hm2 : m ≤ 1000) :
    Calls Try.prog 12 #[.slice A n c, .slice B m cB] w fun e w' => e = .returned (.bool (shapedP ks l)) ∧ Below w.heap.size w w' := by
  subst hn
  have HR := Lib.hid hr
  have HS := Lib.hid hs
  have HM := Lib.hid hm
  clear hr hs hm
  go_enter Try.func12, Try.ntmps12
  go_wp2
  go_loopg [9] l.length (fun n i wr => ∃ k : Nat, i = .int .i64 k ∧ k + n = l.length ∧ Below w.heap.size w wr ∧ (∀ j, j < k → (ks.contains (l.getD j default).kind && !((l.getD j default).nd == 0 && decide ((j : Int) < l.length - 1))) = true))
  case atStart => exact ⟨0, rfl, by omega, Below.refl _ _, by intro j hj; omega⟩
  case round =>
    obtain ⟨k, rfl, hk, hb, hn⟩ := hrel
    have HN := Lib.hid hn
    have HK := Lib.hid hk
    clear hn hk
    by_cases hlt : k < l.length
    · rcases HR.out with h0 | ⟨b, o, rfl, hr⟩
      · rw [h0] at hlt; exact absurd hlt (by simp)
      generalize he : l.getD k default = y at *
      obtain ⟨c0, c1, c2, c3, c4, c5, c6, c7⟩ := (hr.below hb).at k hlt _ he
      have HY := Lib.hid he
      clear he hr
      have hbw : Below wr.heap.size wr wr := Below.refl _ _
      cases h1 : ks.contains y.kind
      · have H1 := Lib.hid h1
        clear h1
        go_wp2_with fail
        refine (contains_any _ B cB ks y.kind (HS.out.below (hb.alloc hb.size _)) m HM.out hm2).mono ?_
        rintro e w1 ⟨rfl, rfl⟩
        rw [H1.out]
        go_wp2
        go_ret
        refine ⟨ret_bool ?_, hb.alloc hb.size _⟩
        unfold shapedP
        rw [eq_comm, List.all_eq_false]
        exact ⟨k, by simpa using hlt, by rw [HY.out, H1.out]; simp⟩
      · have H1 := Lib.hid h1
        clear h1
        by_cases h2 : y.nd = 0
        · by_cases h3 : k + 1 < l.length
          · go_wp2_with fail
            refine (contains_any _ B cB ks y.kind (HS.out.below (hb.alloc hb.size _)) m HM.out hm2).mono ?_
            rintro e w1 ⟨rfl, rfl⟩
            rw [H1.out]
            go_wp2
            go_ret
            refine ⟨ret_bool ?_, hb.alloc hb.size _⟩
            unfold shapedP
            rw [eq_comm, List.all_eq_false]
            exact ⟨k, by simpa using hlt, by rw [HY.out, H1.out, h2]; simp; omega⟩
          · have h4 : k + 1 = l.length := by omega
            go_wp2_with fail
            refine (contains_any _ B cB ks y.kind (HS.out.below (hb.alloc hb.size _)) m HM.out hm2).mono ?_
            rintro e w1 ⟨rfl, rfl⟩
            rw [H1.out]
            go_wp2
            go_roundg (gk - 1)
            case measure => have := HK.out; omega
            case rel =>
              refine ⟨k + 1, by simp, by have := HK.out; omega, hb.alloc hb.size _, ?_⟩
              intro j hj
              by_cases hjk : j = k
              · subst hjk; rw [HY.out, H1.out]; simp; omega
              · exact HN.out j (by omega)
        · go_wp2_with fail
          refine (contains_any _ B cB ks y.kind (HS.out.below (hb.alloc hb.size _)) m HM.out hm2).mono ?_
          rintro e w1 ⟨rfl, rfl⟩
          rw [H1.out]
          go_wp2
          go_roundg (gk - 1)
          case measure => have := HK.out; omega
          case rel =>
            refine ⟨k + 1, by simp, by have := HK.out; omega, hb.alloc hb.size _, ?_⟩
            intro j hj
            by_cases hjk : j = k
            · subst hjk; rw [HY.out, H1.out]; simp [h2]
            · exact HN.out j (by omega)
    · go_wp2
      go_ret
      refine ⟨ret_bool ?_, hb⟩
      unfold shapedP
      rw [eq_comm, List.all_eq_true]
      intro j hj
      exact HN.out j (by simp at hj; have := HK.out; omega)

/-- are all that have ended gone through? -/
def doneP (l : List En) (k : Nat) : Bool := k == l.length || (k + 1 == l.length && (l.getD k default).nd == 0)

theorem done_any (w : World) (A : Option Addr) (c : Nat) (l : List En) (k : Nat) (hr : ReadsE w A l) (n : Nat) (hn : l.length = n) (hk : k ≤ n) (hl : n ≤ 1000) :
    Calls Try.prog 19 #[.slice A n c, .int .i64 k] w fun e w' => e = .returned (.bool (doneP l k)) ∧ w = w' := by
  subst hn
  by_cases h1 : k = l.length
  · have HK : Hid (doneP l k = true) := by show doneP l k = true; simp [doneP, h1]
    subst h1
    go_enter Try.func19, Try.ntmps19
    go_wp2
    go_ret
    exact ⟨ret_bool (by rw [HK.out]), rfl⟩
  · have hlt : k < l.length := by omega
    rcases hr with h0 | ⟨b, o, rfl, hr⟩
    · rw [h0] at hlt; exact absurd hlt (by simp)
    obtain ⟨c0, c1, c2, c3, c4, c5, c6, c7⟩ := hr.at k hlt _ rfl
    have HP : Hid (doneP l k = decide (k + 1 = l.length ∧ (l.getD k default).nd = 0)) := by
      show _ = _
      rw [Bool.eq_iff_iff]; simp [doneP, h1]
    generalize he : l.getD k default = y at *
    clear he hr c0 c1 c2 c3 c5 c6 c7
    by_cases h2 : k + 1 < l.length
    · go_enter Try.func19, Try.ntmps19
      go_wp2
      go_ret
      exact ⟨ret_bool (by rw [HP.out, Bool.eq_iff_iff]; simp; omega), rfl⟩
    · have h5 : l.length = k + 1 := by omega
      have H5 := Lib.hid h5
      rw [h5] at *
      clear h5
      go_enter Try.func19, Try.ntmps19
      go_wp2
      go_ret
      exact ⟨ret_bool (by rw [HP.out]; have := H5.out; by_cases h : y.nd = 0 <;> simp [h] <;> omega), rfl⟩

theorem equal_any (w : World) (A B : Option Addr) (cA cB : Nat) (l k : List Int) (hr : ReadsI w A l) (hs : ReadsI w B k) (n : Nat) (hn : l.length = n) (hl : n ≤ 1000) (m : Nat) (hm : k.length = m) (hm2 : m ≤ 1000) :
    Calls Try.prog 25 #[.slice A n cA, .slice B m cB] w fun e w' => e = .returned (.bool (l == k)) ∧ ∃ q, w' = w.drewN q := by
  by_cases hnm : n = m
  · subst hnm
    subst hn
    have HR := Lib.hid hr
    have HS := Lib.hid hs
    have HM := Lib.hid hm
    clear hr hs hm
    go_enter Try.func25, Try.ntmps25
    go_wp2
    go_loopg [13] l.length (fun n i wr => ∃ j : Nat, i = .int .i64 j ∧ j + n = l.length ∧ (∃ q, wr = w.drewN q) ∧ (∀ i, i < j → l.getD i 0 = k.getD i 0))
    case atStart => exact ⟨0, rfl, by omega, ⟨0, rfl⟩, by intro j hj; omega⟩
    case round =>
      obtain ⟨j, rfl, hk, ⟨q, rfl⟩, hn⟩ := hrel
      have HN := Lib.hid hn
      have HK := Lib.hid hk
      clear hn hk
      by_cases hlt : j < l.length
      · rcases HR.out with h0 | ⟨b, o, rfl, hr⟩
        · rw [h0] at hlt; exact absurd hlt (by simp)
        rcases HS.out with h0 | ⟨b2, o2, rfl, hs⟩
        · rw [← HM.out, h0] at hlt; exact absurd hlt (by simp)
        have hc := hr j hlt
        have hc2 := hs j (by rw [HM.out]; exact hlt)
        generalize hx : l.getD j 0 = x at *
        generalize hy : k.getD j 0 = y at *
        have HX := Lib.hid hx
        have HY := Lib.hid hy
        clear hx hy hr hs
        by_cases hxy : x = y
        · have hxy' : (x != y) = false := by simp [hxy]
          go_wp2
          go_quiet (fail)
          go_wp2
          go_roundg (gk - 1)
          case measure => have := HK.out; omega
          case rel =>
            refine ⟨j + 1, by simp, by have := HK.out; omega, ⟨_, rfl⟩, ?_⟩
            intro i hi
            by_cases hij : i = j
            · subst hij; rw [HX.out, HY.out]; exact hxy
            · exact HN.out i (by omega)
        · have hxy' : (x != y) = true := by simp [hxy]
          go_wp2
          go_quiet (fail)
          go_wp2
          go_ret
          refine ⟨ret_bool ?_, _, World.drewN_drewN _ _ _⟩
          rw [eq_comm, beq_eq_false_iff_ne]
          intro hlk
          exact hxy (HX.out.symm.trans ((congrArg (fun l => List.getD l j 0) hlk).trans HY.out))
      · go_wp2
        go_ret
        refine ⟨ret_bool ?_, _, rfl⟩
        rw [eq_comm, beq_iff_eq]
        apply List.ext_getElem (by rw [HM.out])
        intro i h1 h2
        have := HN.out i (by have := HK.out; omega)
        simpa [List.getD_eq_getElem?_getD, h1, h2] using this
  · go_enter Try.func25, Try.ntmps25
    go_wp2
    go_ret
    refine ⟨ret_bool ?_, 0, rfl⟩
    rw [eq_comm, beq_eq_false_iff_ne]
    rintro rfl
    exact hnm (hn.symm.trans hm)

/-- how many messages were put, got, and given back. -/
structure Cn where
  put : Int
  got : Int
  back : Int

def En.fine (x : En) : Bool := x.nd == 0 || x.err == 0
/-- what a call does to the counts; false: it is not possible. -/
def doesP (room : Int) (loads : List (List Int)) (n : Cn) (x : En) : Cn × Bool :=
  if x.kind == 1 && x.fine then (⟨n.put + 1, n.got, n.back⟩, decide (n.put + 1 - n.back ≤ room))
  else if x.kind == 1 && x.err == 5 then (n, n.put - n.back == room)
  else if x.kind == 2 && x.fine then (⟨n.put, n.got + 1, n.back⟩, decide (n.got + 1 ≤ n.put) && (x.nd == 0 || loads.getD n.got.toNat [] == x.load))
  else if x.kind == 2 && x.err == 6 then (n, n.got == n.put)
  else if x.kind == 3 && x.fine then (⟨n.put, n.got, n.back + 1⟩, decide (n.back + 1 ≤ n.got))
  else (n, true)

end Go.Proofs.Ytcljbhiammofjaa
