/- The walk of search.does: what a call does to the counts. -/
import Derived.Test.YtcljbhiammofjaaA2
import Derived.Deep.RegionWith
import Derived.Deep.RegionHeld3
namespace Go.Proofs.Ytcljbhiammofjaa
open Go.RowKit

theorem below_al {w W : World} (h : Below w.heap.size w W) (o : Obj) : Below w.heap.size w (W.alloc o) := h.alloc h.size o

theorem below_set {w W : World} (h : Below w.heap.size w W) {b o : Nat} (hb : w.heap.size ≤ b) (u : Value) : Below w.heap.size w (W.setCell ⟨b, o, none⟩ u) := h.setCell hb u

/-- what does is proved of. -/
def DoesSaid (w : World) (p : Nat) (room : Int) (loads : List (List Int)) (n : Cn) (x : En) : Prop :=
    Calls Try.prog 21 #[.pointer (some ⟨p, 0, none⟩), .agg #[.int .i64 n.put, .int .i64 n.got, .int .i64 n.back], .agg x.cells] w fun e w' =>
      e = .returned (.tuple #[.agg #[.int .i64 (doesP room loads n x).1.put, .int .i64 (doesP room loads n x).1.got, .int .i64 (doesP room loads n x).1.back], .bool (doesP room loads n x).2]) ∧ Below w.heap.size w w'
set_option maxHeartbeats 800000 in
theorem does_send_o (w : World) (p : Nat) (s : Array Value) (room : Int) (loads : List (List Int)) (n : Cn) (x : En) (hs : w.heap[p]? = some (.cells s 45 (0, 0))) (h2 : s[2]? = some (.int .i64 room))
    (b1 : 0 ≤ n.put) (b2 : n.put ≤ 1000) (b3 : 0 ≤ n.back) (b4 : n.back ≤ 1000) (b5 : 0 ≤ n.got) (b6 : n.got ≤ 1000)
    (k1 : x.kind = 1) (f1 : x.nd = 0) : DoesSaid w p room loads n x := by
  have c2 : w.cell? ⟨p, 2, none⟩ = some (.int .i64 room) := by simp [World.cell?, hs, h2]
  have hp := lt_of_block hs
  have hp1 : p < w.heap.size + 1 := by omega
  have hp2 : p < w.heap.size + 2 := by omega
  have hp3 : p < w.heap.size + 3 := by omega
  clear hs
  have HD : Hid (doesP room loads n x = (⟨n.put + 1, n.got, n.back⟩, decide (n.put + 1 - n.back ≤ room))) := by
    show _ = _
    simp [doesP, En.fine, k1, f1]
  unfold DoesSaid En.cells
  go_enter Try.func21, Try.ntmps21
  go_wp2
  go_region
  all_goals go_wp2
  all_goals
    refine bodyPost_ret (v := .tuple #[.agg #[.int .i64 (n.put + 1), .int .i64 (n.got), .int .i64 (n.back)], .bool (decide (n.put + 1 - n.back ≤ room))]) (by simp [results, Try.results21, go_sem]) rfl ⟨by rw [HD.out], ?_⟩
    repeat (first | exact Below.refl _ _ | with_reducible apply below_al | with_reducible apply Below.drew)

set_option maxHeartbeats 800000 in
theorem does_back_o (w : World) (p : Nat) (s : Array Value) (room : Int) (loads : List (List Int)) (n : Cn) (x : En) (hs : w.heap[p]? = some (.cells s 45 (0, 0))) (h2 : s[2]? = some (.int .i64 room))
    (b1 : 0 ≤ n.put) (b2 : n.put ≤ 1000) (b3 : 0 ≤ n.back) (b4 : n.back ≤ 1000) (b5 : 0 ≤ n.got) (b6 : n.got ≤ 1000)
    (k1 : x.kind = 3) (f1 : x.nd = 0) : DoesSaid w p room loads n x := by
  have c2 : w.cell? ⟨p, 2, none⟩ = some (.int .i64 room) := by simp [World.cell?, hs, h2]
  have hp := lt_of_block hs
  have hp1 : p < w.heap.size + 1 := by omega
  have hp2 : p < w.heap.size + 2 := by omega
  have hp3 : p < w.heap.size + 3 := by omega
  clear hs
  have HD : Hid (doesP room loads n x = (⟨n.put, n.got, n.back + 1⟩, decide (n.back + 1 ≤ n.got))) := by
    show _ = _
    simp [doesP, En.fine, k1, f1]
  unfold DoesSaid En.cells
  go_enter Try.func21, Try.ntmps21
  go_wp2
  go_region
  all_goals go_wp2
  all_goals
    refine bodyPost_ret (v := .tuple #[.agg #[.int .i64 (n.put), .int .i64 (n.got), .int .i64 (n.back + 1)], .bool (decide (n.back + 1 ≤ n.got))]) (by simp [results, Try.results21, go_sem]) rfl ⟨by rw [HD.out], ?_⟩
    repeat (first | exact Below.refl _ _ | with_reducible apply below_al | with_reducible apply Below.drew)

set_option maxHeartbeats 800000 in
theorem does_send_k (w : World) (p : Nat) (s : Array Value) (room : Int) (loads : List (List Int)) (n : Cn) (x : En) (hs : w.heap[p]? = some (.cells s 45 (0, 0))) (h2 : s[2]? = some (.int .i64 room))
    (b1 : 0 ≤ n.put) (b2 : n.put ≤ 1000) (b3 : 0 ≤ n.back) (b4 : n.back ≤ 1000) (b5 : 0 ≤ n.got) (b6 : n.got ≤ 1000)
    (k1 : x.kind = 1) (f1 : ¬ x.nd = 0) (f2 : x.err = 0) : DoesSaid w p room loads n x := by
  have c2 : w.cell? ⟨p, 2, none⟩ = some (.int .i64 room) := by simp [World.cell?, hs, h2]
  have hp := lt_of_block hs
  have hp1 : p < w.heap.size + 1 := by omega
  have hp2 : p < w.heap.size + 2 := by omega
  have hp3 : p < w.heap.size + 3 := by omega
  clear hs
  have HD : Hid (doesP room loads n x = (⟨n.put + 1, n.got, n.back⟩, decide (n.put + 1 - n.back ≤ room))) := by
    show _ = _
    simp [doesP, En.fine, k1, f1, f2]
  unfold DoesSaid En.cells
  go_enter Try.func21, Try.ntmps21
  go_wp2
  go_region
  all_goals go_wp2
  all_goals
    refine bodyPost_ret (v := .tuple #[.agg #[.int .i64 (n.put + 1), .int .i64 (n.got), .int .i64 (n.back)], .bool (decide (n.put + 1 - n.back ≤ room))]) (by simp [results, Try.results21, go_sem]) rfl ⟨by rw [HD.out], ?_⟩
    repeat (first | exact Below.refl _ _ | with_reducible apply below_al | with_reducible apply Below.drew)

set_option maxHeartbeats 800000 in
theorem does_back_k (w : World) (p : Nat) (s : Array Value) (room : Int) (loads : List (List Int)) (n : Cn) (x : En) (hs : w.heap[p]? = some (.cells s 45 (0, 0))) (h2 : s[2]? = some (.int .i64 room))
    (b1 : 0 ≤ n.put) (b2 : n.put ≤ 1000) (b3 : 0 ≤ n.back) (b4 : n.back ≤ 1000) (b5 : 0 ≤ n.got) (b6 : n.got ≤ 1000)
    (k1 : x.kind = 3) (f1 : ¬ x.nd = 0) (f2 : x.err = 0) : DoesSaid w p room loads n x := by
  have c2 : w.cell? ⟨p, 2, none⟩ = some (.int .i64 room) := by simp [World.cell?, hs, h2]
  have hp := lt_of_block hs
  have hp1 : p < w.heap.size + 1 := by omega
  have hp2 : p < w.heap.size + 2 := by omega
  have hp3 : p < w.heap.size + 3 := by omega
  clear hs
  have HD : Hid (doesP room loads n x = (⟨n.put, n.got, n.back + 1⟩, decide (n.back + 1 ≤ n.got))) := by
    show _ = _
    simp [doesP, En.fine, k1, f1, f2]
  unfold DoesSaid En.cells
  go_enter Try.func21, Try.ntmps21
  go_wp2
  go_region
  all_goals go_wp2
  all_goals
    refine bodyPost_ret (v := .tuple #[.agg #[.int .i64 (n.put), .int .i64 (n.got), .int .i64 (n.back + 1)], .bool (decide (n.back + 1 ≤ n.got))]) (by simp [results, Try.results21, go_sem]) rfl ⟨by rw [HD.out], ?_⟩
    repeat (first | exact Below.refl _ _ | with_reducible apply below_al | with_reducible apply Below.drew)

set_option maxHeartbeats 800000 in
theorem does_full (w : World) (p : Nat) (s : Array Value) (room : Int) (loads : List (List Int)) (n : Cn) (x : En) (hs : w.heap[p]? = some (.cells s 45 (0, 0))) (h2 : s[2]? = some (.int .i64 room))
    (b1 : 0 ≤ n.put) (b2 : n.put ≤ 1000) (b3 : 0 ≤ n.back) (b4 : n.back ≤ 1000) (b5 : 0 ≤ n.got) (b6 : n.got ≤ 1000)
    (k1 : x.kind = 1) (f1 : ¬ x.nd = 0) (f2 : x.err = 5) : DoesSaid w p room loads n x := by
  have c2 : w.cell? ⟨p, 2, none⟩ = some (.int .i64 room) := by simp [World.cell?, hs, h2]
  have hp := lt_of_block hs
  have hp1 : p < w.heap.size + 1 := by omega
  have hp2 : p < w.heap.size + 2 := by omega
  have hp3 : p < w.heap.size + 3 := by omega
  clear hs
  have HD : Hid (doesP room loads n x = (⟨n.put, n.got, n.back⟩, n.put - n.back == room)) := by
    show _ = _
    simp [doesP, En.fine, k1, f1, f2]
  unfold DoesSaid En.cells
  go_enter Try.func21, Try.ntmps21
  go_wp2
  go_region
  all_goals go_wp2
  all_goals
    refine bodyPost_ret (v := .tuple #[.agg #[.int .i64 (n.put), .int .i64 (n.got), .int .i64 (n.back)], .bool (n.put - n.back == room)]) (by simp [results, Try.results21, go_sem]) rfl ⟨by rw [HD.out], ?_⟩
    repeat (first | exact Below.refl _ _ | with_reducible apply below_al | with_reducible apply Below.drew)

set_option maxHeartbeats 800000 in
theorem does_empty (w : World) (p : Nat) (s : Array Value) (room : Int) (loads : List (List Int)) (n : Cn) (x : En) (hs : w.heap[p]? = some (.cells s 45 (0, 0))) (h2 : s[2]? = some (.int .i64 room))
    (b1 : 0 ≤ n.put) (b2 : n.put ≤ 1000) (b3 : 0 ≤ n.back) (b4 : n.back ≤ 1000) (b5 : 0 ≤ n.got) (b6 : n.got ≤ 1000)
    (k1 : x.kind = 2) (f1 : ¬ x.nd = 0) (f2 : x.err = 6) : DoesSaid w p room loads n x := by
  have c2 : w.cell? ⟨p, 2, none⟩ = some (.int .i64 room) := by simp [World.cell?, hs, h2]
  have hp := lt_of_block hs
  have hp1 : p < w.heap.size + 1 := by omega
  have hp2 : p < w.heap.size + 2 := by omega
  have hp3 : p < w.heap.size + 3 := by omega
  clear hs
  have HD : Hid (doesP room loads n x = (⟨n.put, n.got, n.back⟩, n.got == n.put)) := by
    show _ = _
    simp [doesP, En.fine, k1, f1, f2]
  unfold DoesSaid En.cells
  go_enter Try.func21, Try.ntmps21
  go_wp2
  go_region
  all_goals go_wp2
  all_goals
    refine bodyPost_ret (v := .tuple #[.agg #[.int .i64 (n.put), .int .i64 (n.got), .int .i64 (n.back)], .bool (n.got == n.put)]) (by simp [results, Try.results21, go_sem]) rfl ⟨by rw [HD.out], ?_⟩
    repeat (first | exact Below.refl _ _ | with_reducible apply below_al | with_reducible apply Below.drew)

set_option maxHeartbeats 800000 in
theorem does_recv_no_o (w : World) (p : Nat) (s : Array Value) (room : Int) (loads : List (List Int)) (n : Cn) (x : En) (hs : w.heap[p]? = some (.cells s 45 (0, 0))) (h2 : s[2]? = some (.int .i64 room))
    (b1 : 0 ≤ n.put) (b2 : n.put ≤ 1000) (b3 : 0 ≤ n.back) (b4 : n.back ≤ 1000) (b5 : 0 ≤ n.got) (b6 : n.got ≤ 1000)
    (k1 : x.kind = 2) (f1 : x.nd = 0) (g : decide (n.got + 1 ≤ n.put) = false) : DoesSaid w p room loads n x := by
  have c2 : w.cell? ⟨p, 2, none⟩ = some (.int .i64 room) := by simp [World.cell?, hs, h2]
  have hp := lt_of_block hs
  have hp1 : p < w.heap.size + 1 := by omega
  have hp2 : p < w.heap.size + 2 := by omega
  have hp3 : p < w.heap.size + 3 := by omega
  clear hs
  have HD : Hid (doesP room loads n x = (⟨n.put, n.got + 1, n.back⟩, false)) := by
    show _ = _
    simp [doesP, En.fine, k1, f1, g]
  unfold DoesSaid En.cells
  go_enter Try.func21, Try.ntmps21
  go_wp2
  go_region
  all_goals go_wp2
  all_goals
    refine bodyPost_ret (v := .tuple #[.agg #[.int .i64 (n.put), .int .i64 (n.got + 1), .int .i64 (n.back)], .bool (false)]) (by simp [results, Try.results21, go_sem]) rfl ⟨by rw [HD.out], ?_⟩
    repeat (first | exact Below.refl _ _ | with_reducible apply below_al | with_reducible apply Below.drew)

set_option maxHeartbeats 800000 in
theorem does_recv_no_k (w : World) (p : Nat) (s : Array Value) (room : Int) (loads : List (List Int)) (n : Cn) (x : En) (hs : w.heap[p]? = some (.cells s 45 (0, 0))) (h2 : s[2]? = some (.int .i64 room))
    (b1 : 0 ≤ n.put) (b2 : n.put ≤ 1000) (b3 : 0 ≤ n.back) (b4 : n.back ≤ 1000) (b5 : 0 ≤ n.got) (b6 : n.got ≤ 1000)
    (k1 : x.kind = 2) (f1 : ¬ x.nd = 0) (f2 : x.err = 0) (g : decide (n.got + 1 ≤ n.put) = false) : DoesSaid w p room loads n x := by
  have c2 : w.cell? ⟨p, 2, none⟩ = some (.int .i64 room) := by simp [World.cell?, hs, h2]
  have hp := lt_of_block hs
  have hp1 : p < w.heap.size + 1 := by omega
  have hp2 : p < w.heap.size + 2 := by omega
  have hp3 : p < w.heap.size + 3 := by omega
  clear hs
  have HD : Hid (doesP room loads n x = (⟨n.put, n.got + 1, n.back⟩, false)) := by
    show _ = _
    simp [doesP, En.fine, k1, f1, f2, g]
  unfold DoesSaid En.cells
  go_enter Try.func21, Try.ntmps21
  go_wp2
  go_region
  all_goals go_wp2
  all_goals
    refine bodyPost_ret (v := .tuple #[.agg #[.int .i64 (n.put), .int .i64 (n.got + 1), .int .i64 (n.back)], .bool (false)]) (by simp [results, Try.results21, go_sem]) rfl ⟨by rw [HD.out], ?_⟩
    repeat (first | exact Below.refl _ _ | with_reducible apply below_al | with_reducible apply Below.drew)

set_option maxHeartbeats 800000 in
theorem does_recv_o (w : World) (p : Nat) (s : Array Value) (room : Int) (loads : List (List Int)) (n : Cn) (x : En) (hs : w.heap[p]? = some (.cells s 45 (0, 0))) (h2 : s[2]? = some (.int .i64 room))
    (b1 : 0 ≤ n.put) (b2 : n.put ≤ 1000) (b3 : 0 ≤ n.back) (b4 : n.back ≤ 1000) (b5 : 0 ≤ n.got) (b6 : n.got ≤ 1000)
    (k1 : x.kind = 2) (f1 : x.nd = 0) (g : decide (n.got + 1 ≤ n.put) = true) : DoesSaid w p room loads n x := by
  have c2 : w.cell? ⟨p, 2, none⟩ = some (.int .i64 room) := by simp [World.cell?, hs, h2]
  have hp := lt_of_block hs
  have hp1 : p < w.heap.size + 1 := by omega
  have hp2 : p < w.heap.size + 2 := by omega
  have hp3 : p < w.heap.size + 3 := by omega
  clear hs
  have HD : Hid (doesP room loads n x = (⟨n.put, n.got + 1, n.back⟩, true)) := by
    show _ = _
    simp [doesP, En.fine, k1, f1, g]
  unfold DoesSaid En.cells
  go_enter Try.func21, Try.ntmps21
  go_wp2
  go_region
  all_goals go_wp2
  all_goals
    refine bodyPost_ret (v := .tuple #[.agg #[.int .i64 (n.put), .int .i64 (n.got + 1), .int .i64 (n.back)], .bool (true)]) (by simp [results, Try.results21, go_sem]) rfl ⟨by rw [HD.out], ?_⟩
    repeat (first | exact Below.refl _ _ | with_reducible apply below_al | with_reducible apply Below.drew)

set_option maxHeartbeats 800000 in
theorem does_else_1 (w : World) (p : Nat) (s : Array Value) (room : Int) (loads : List (List Int)) (n : Cn) (x : En) (hs : w.heap[p]? = some (.cells s 45 (0, 0))) (h2 : s[2]? = some (.int .i64 room))
    (b1 : 0 ≤ n.put) (b2 : n.put ≤ 1000) (b3 : 0 ≤ n.back) (b4 : n.back ≤ 1000) (b5 : 0 ≤ n.got) (b6 : n.got ≤ 1000)
    (k1 : x.kind = 1) (f1 : ¬ x.nd = 0) (f2 : ¬ x.err = 0) (f3 : ¬ x.err = 5) : DoesSaid w p room loads n x := by
  have c2 : w.cell? ⟨p, 2, none⟩ = some (.int .i64 room) := by simp [World.cell?, hs, h2]
  have hp := lt_of_block hs
  have hp1 : p < w.heap.size + 1 := by omega
  have hp2 : p < w.heap.size + 2 := by omega
  have hp3 : p < w.heap.size + 3 := by omega
  clear hs
  have HD : Hid (doesP room loads n x = (⟨n.put, n.got, n.back⟩, true)) := by
    show _ = _
    simp [doesP, En.fine, k1, f1, f2, f3]
  unfold DoesSaid En.cells
  have g1 : (x.nd == 0) = false := by simpa using f1
  have g2 : (x.err == 0) = false := by simpa using f2
  go_enter Try.func21, Try.ntmps21
  go_wp2
  all_goals
    refine bodyPost_ret (v := .tuple #[.agg #[.int .i64 (n.put), .int .i64 (n.got), .int .i64 (n.back)], .bool (true)]) (by simp [results, Try.results21, go_sem]) rfl ⟨by rw [HD.out], ?_⟩
    repeat (first | exact Below.refl _ _ | with_reducible apply below_al | with_reducible apply Below.drew)

set_option maxHeartbeats 800000 in
theorem does_else_2 (w : World) (p : Nat) (s : Array Value) (room : Int) (loads : List (List Int)) (n : Cn) (x : En) (hs : w.heap[p]? = some (.cells s 45 (0, 0))) (h2 : s[2]? = some (.int .i64 room))
    (b1 : 0 ≤ n.put) (b2 : n.put ≤ 1000) (b3 : 0 ≤ n.back) (b4 : n.back ≤ 1000) (b5 : 0 ≤ n.got) (b6 : n.got ≤ 1000)
    (k1 : x.kind = 2) (f1 : ¬ x.nd = 0) (f2 : ¬ x.err = 0) (f3 : ¬ x.err = 6) : DoesSaid w p room loads n x := by
  have c2 : w.cell? ⟨p, 2, none⟩ = some (.int .i64 room) := by simp [World.cell?, hs, h2]
  have hp := lt_of_block hs
  have hp1 : p < w.heap.size + 1 := by omega
  have hp2 : p < w.heap.size + 2 := by omega
  have hp3 : p < w.heap.size + 3 := by omega
  clear hs
  have HD : Hid (doesP room loads n x = (⟨n.put, n.got, n.back⟩, true)) := by
    show _ = _
    simp [doesP, En.fine, k1, f1, f2, f3]
  unfold DoesSaid En.cells
  have g1 : (x.nd == 0) = false := by simpa using f1
  have g2 : (x.err == 0) = false := by simpa using f2
  go_enter Try.func21, Try.ntmps21
  go_wp2
  all_goals
    refine bodyPost_ret (v := .tuple #[.agg #[.int .i64 (n.put), .int .i64 (n.got), .int .i64 (n.back)], .bool (true)]) (by simp [results, Try.results21, go_sem]) rfl ⟨by rw [HD.out], ?_⟩
    repeat (first | exact Below.refl _ _ | with_reducible apply below_al | with_reducible apply Below.drew)

set_option maxHeartbeats 800000 in
theorem does_else_3 (w : World) (p : Nat) (s : Array Value) (room : Int) (loads : List (List Int)) (n : Cn) (x : En) (hs : w.heap[p]? = some (.cells s 45 (0, 0))) (h2 : s[2]? = some (.int .i64 room))
    (b1 : 0 ≤ n.put) (b2 : n.put ≤ 1000) (b3 : 0 ≤ n.back) (b4 : n.back ≤ 1000) (b5 : 0 ≤ n.got) (b6 : n.got ≤ 1000)
    (k1 : x.kind = 3) (f1 : ¬ x.nd = 0) (f2 : ¬ x.err = 0) : DoesSaid w p room loads n x := by
  have c2 : w.cell? ⟨p, 2, none⟩ = some (.int .i64 room) := by simp [World.cell?, hs, h2]
  have hp := lt_of_block hs
  have hp1 : p < w.heap.size + 1 := by omega
  have hp2 : p < w.heap.size + 2 := by omega
  have hp3 : p < w.heap.size + 3 := by omega
  clear hs
  have HD : Hid (doesP room loads n x = (⟨n.put, n.got, n.back⟩, true)) := by
    show _ = _
    simp [doesP, En.fine, k1, f1, f2]
  unfold DoesSaid En.cells
  have g1 : (x.nd == 0) = false := by simpa using f1
  have g2 : (x.err == 0) = false := by simpa using f2
  go_enter Try.func21, Try.ntmps21
  go_wp2
  all_goals
    refine bodyPost_ret (v := .tuple #[.agg #[.int .i64 (n.put), .int .i64 (n.got), .int .i64 (n.back)], .bool (true)]) (by simp [results, Try.results21, go_sem]) rfl ⟨by rw [HD.out], ?_⟩
    repeat (first | exact Below.refl _ _ | with_reducible apply below_al | with_reducible apply Below.drew)

set_option maxHeartbeats 800000 in
theorem does_else_0 (w : World) (p : Nat) (s : Array Value) (room : Int) (loads : List (List Int)) (n : Cn) (x : En) (hs : w.heap[p]? = some (.cells s 45 (0, 0))) (h2 : s[2]? = some (.int .i64 room))
    (b1 : 0 ≤ n.put) (b2 : n.put ≤ 1000) (b3 : 0 ≤ n.back) (b4 : n.back ≤ 1000) (b5 : 0 ≤ n.got) (b6 : n.got ≤ 1000)
    (k1 : ¬ x.kind = 1) (k2 : ¬ x.kind = 2) (k3 : ¬ x.kind = 3) (f1 : x.nd = 0) : DoesSaid w p room loads n x := by
  have c2 : w.cell? ⟨p, 2, none⟩ = some (.int .i64 room) := by simp [World.cell?, hs, h2]
  have hp := lt_of_block hs
  have hp1 : p < w.heap.size + 1 := by omega
  have hp2 : p < w.heap.size + 2 := by omega
  have hp3 : p < w.heap.size + 3 := by omega
  clear hs
  have HD : Hid (doesP room loads n x = (⟨n.put, n.got, n.back⟩, true)) := by
    show _ = _
    simp [doesP, En.fine, k1, k2, k3, f1]
  unfold DoesSaid En.cells
  go_enter Try.func21, Try.ntmps21
  go_wp2
  all_goals
    refine bodyPost_ret (v := .tuple #[.agg #[.int .i64 (n.put), .int .i64 (n.got), .int .i64 (n.back)], .bool (true)]) (by simp [results, Try.results21, go_sem]) rfl ⟨by rw [HD.out], ?_⟩
    repeat (first | exact Below.refl _ _ | with_reducible apply below_al | with_reducible apply Below.drew)

set_option maxHeartbeats 800000 in
theorem does_else_4 (w : World) (p : Nat) (s : Array Value) (room : Int) (loads : List (List Int)) (n : Cn) (x : En) (hs : w.heap[p]? = some (.cells s 45 (0, 0))) (h2 : s[2]? = some (.int .i64 room))
    (b1 : 0 ≤ n.put) (b2 : n.put ≤ 1000) (b3 : 0 ≤ n.back) (b4 : n.back ≤ 1000) (b5 : 0 ≤ n.got) (b6 : n.got ≤ 1000)
    (k1 : ¬ x.kind = 1) (k2 : ¬ x.kind = 2) (k3 : ¬ x.kind = 3) (f1 : ¬ x.nd = 0) : DoesSaid w p room loads n x := by
  have c2 : w.cell? ⟨p, 2, none⟩ = some (.int .i64 room) := by simp [World.cell?, hs, h2]
  have hp := lt_of_block hs
  have hp1 : p < w.heap.size + 1 := by omega
  have hp2 : p < w.heap.size + 2 := by omega
  have hp3 : p < w.heap.size + 3 := by omega
  clear hs
  have HD : Hid (doesP room loads n x = (⟨n.put, n.got, n.back⟩, true)) := by
    show _ = _
    simp [doesP, En.fine, k1, k2, k3, f1]
  unfold DoesSaid En.cells
  go_enter Try.func21, Try.ntmps21
  go_wp2
  all_goals
    refine bodyPost_ret (v := .tuple #[.agg #[.int .i64 (n.put), .int .i64 (n.got), .int .i64 (n.back)], .bool (true)]) (by simp [results, Try.results21, go_sem]) rfl ⟨by rw [HD.out], ?_⟩
    repeat (first | exact Below.refl _ _ | with_reducible apply below_al | with_reducible apply Below.drew)


/-- a word list as it lies. -/
structure Ld where
  adr : Option Addr
  len : Nat
  cap : Nat
  load : List Int
  deriving Inhabited
/-- a slice of word lists. -/
def ReadsL (w : World) (A : Option Addr) (L : List Ld) : Prop := L = [] ∨ ∃ b o, A = some ⟨b, o, none⟩ ∧ ∀ i, i < L.length → w.cell? ⟨b, o + i, none⟩ = some (.slice (L.getD i default).adr (L.getD i default).len (L.getD i default).cap) ∧
  (L.getD i default).load.length = (L.getD i default).len ∧ (L.getD i default).len ≤ 1000 ∧ ReadsI w (L.getD i default).adr (L.getD i default).load

set_option maxHeartbeats 800000 in
theorem does_recv_k (w : World) (p : Nat) (s : Array Value) (room : Int) (A : Option Addr) (cL : Nat) (L : List Ld) (n : Cn) (g : Nat) (hg : n.got = (g : Int)) (x : En) (hs : w.heap[p]? = some (.cells s 45 (0, 0))) (h2 : s[3]? = some (.slice A L.length cL))
    (b1 : 0 ≤ n.put) (b2 : n.put ≤ 1000) (b3 : 0 ≤ n.back) (b4 : n.back ≤ 1000) (b6 : g ≤ 1000) (hL : ReadsL w A L) (hgL : g < L.length) (hLl : L.length ≤ 1000)
    (hx : x.load.length = x.len) (hx2 : x.len ≤ 1000) (hx3 : ReadsI w x.adr x.load)
    (k1 : x.kind = 2) (f1 : ¬ x.nd = 0) (f2 : x.err = 0) (hgp : decide ((g : Int) + 1 ≤ n.put) = true) : DoesSaid w p room (L.map (·.load)) n x := by
  obtain ⟨put, got, back⟩ := n
  simp only at hg b1 b2 b3 b4 hgp
  subst hg
  rcases hL with h0 | ⟨b, o, rfl, hL⟩
  · rw [h0] at hgL; exact absurd hgL (by simp)
  obtain ⟨cc, hq1, hq2, hq3⟩ := hL g hgL
  have HD : Hid (doesP room (L.map (·.load)) ⟨put, (g : Int), back⟩ x = (⟨put, (g : Int) + 1, back⟩, (L.getD g default).load == x.load)) := by
    show _ = _
    simp [doesP, En.fine, k1, f1, f2, of_decide_eq_true hgp, List.getD_eq_getElem?_getD, hgL]
  generalize L.getD g default = q at *
  have c2 : w.cell? ⟨p, 3, none⟩ = some (.slice (some ⟨b, o, none⟩) L.length cL) := by simp [World.cell?, hs, h2]
  have hp := lt_of_block hs
  have hp1 : p < w.heap.size + 1 := by omega
  have hp2 : p < w.heap.size + 2 := by omega
  have hp3 : p < w.heap.size + 3 := by omega
  have ho := World.block_lt_of_cell? w _ cc
  simp only at ho
  have ho1 : b < w.heap.size + 1 := by omega
  have ho2 : b < w.heap.size + 2 := by omega
  have ho3 : b < w.heap.size + 3 := by omega
  have HX := Lib.hid hx
  have HX3 := Lib.hid hx3
  have HQ := Lib.hid hq1
  have HQ3 := Lib.hid hq3
  clear hs hL hx hx3 hq1 hq3
  have g1 : (x.nd == 0) = false := by simpa using f1
  unfold DoesSaid En.cells
  go_enter Try.func21, Try.ntmps21
  go_wp2
  have q1 : IntKind.i64.wrap ((g : Int) + 1 - 1) = (g : Int) := by rw [IntWalk.i64_in _ (by omega)]; omega
  have q4 : IntKind.i64.wrap (g : Int) = (g : Int) := IntWalk.i64_in _ (by omega)
  have q2 : (0 : Int) ≤ (g : Int) := by omega
  have q3 : (g : Int) < (L.length : Int) := by omega
  go_region_held3 (fun w' => w'.cell? ⟨p, 3, none⟩ = some (.slice (some ⟨b, o, none⟩) L.length cL) ∧ w'.cell? ⟨b, o + g, none⟩ = some (.slice q.adr q.len q.cap) ∧ w'.cell? ⟨w.heap.size, 0, none⟩ = some (.int .i64 put) ∧ w'.cell? ⟨w.heap.size, 1, none⟩ = some (.int .i64 ((g : Int) + 1)) ∧ w'.cell? ⟨w.heap.size, 2, none⟩ = some (.int .i64 back) ∧ w'.cell? ⟨w.heap.size + 1, 6, none⟩ = some (.slice x.adr x.len x.cap)) ((go_simp; done)) (first | (go_at_call 25; refine (equal_any _ _ _ _ _ q.load x.load (HQ3.out.below (below_al (below_al (below_al (Below.refl _ _) _) _) _).drew) (HX3.out.below (below_al (below_al (below_al (Below.refl _ _) _) _) _).drew) _ HQ.out hq2 _ HX.out hx2).mono ?_; rintro e w1 ⟨rfl, nq, rfl⟩))
  all_goals go_wp2
  all_goals
    refine bodyPost_ret (v := .tuple #[.agg #[.int .i64 put, .int .i64 ((g : Int) + 1), .int .i64 back], .bool (q.load == x.load)]) (by simp [results, Try.results21, go_sem]) rfl ⟨by rw [HD.out], ?_⟩
    repeat (first | exact Below.refl _ _ | with_reducible apply below_al | with_reducible apply Below.drew | with_reducible apply below_drewN | (with_reducible refine below_set ?_ (by omega) _))

theorem does_any (w : World) (p : Nat) (s : Array Value) (room : Int) (A : Option Addr) (cL : Nat) (L : List Ld) (n : Cn) (x : En) (hs : w.heap[p]? = some (.cells s 45 (0, 0))) (h2 : s[2]? = some (.int .i64 room)) (h3 : s[3]? = some (.slice A L.length cL))
    (b1 : 0 ≤ n.put) (b2 : n.put ≤ L.length) (b3 : 0 ≤ n.back) (b4 : n.back ≤ 1000) (b5 : 0 ≤ n.got) (b6 : n.got ≤ n.put) (hL : ReadsL w A L) (hLl : L.length ≤ 1000)
    (hx : x.load.length = x.len) (hx2 : x.len ≤ 1000) (hx3 : ReadsI w x.adr x.load) : DoesSaid w p room (L.map (·.load)) n x := by
  have c1 : n.put ≤ 1000 := by omega
  have c2 : n.got ≤ 1000 := by omega
  by_cases f1 : x.nd = 0
  · by_cases k1 : x.kind = 1
    · exact does_send_o w p s room _ n x hs h2 b1 c1 b3 b4 b5 c2 k1 f1
    · by_cases k2 : x.kind = 2
      · by_cases g : n.got + 1 ≤ n.put
        · exact does_recv_o w p s room _ n x hs h2 b1 c1 b3 b4 b5 c2 k2 f1 (by simpa using g)
        · exact does_recv_no_o w p s room _ n x hs h2 b1 c1 b3 b4 b5 c2 k2 f1 (by simpa using g)
      · by_cases k3 : x.kind = 3
        · exact does_back_o w p s room _ n x hs h2 b1 c1 b3 b4 b5 c2 k3 f1
        · exact does_else_0 w p s room _ n x hs h2 b1 c1 b3 b4 b5 c2 k1 k2 k3 f1
  · by_cases k1 : x.kind = 1
    · by_cases f2 : x.err = 0
      · exact does_send_k w p s room _ n x hs h2 b1 c1 b3 b4 b5 c2 k1 f1 f2
      · by_cases f3 : x.err = 5
        · exact does_full w p s room _ n x hs h2 b1 c1 b3 b4 b5 c2 k1 f1 f3
        · exact does_else_1 w p s room _ n x hs h2 b1 c1 b3 b4 b5 c2 k1 f1 f2 f3
    · by_cases k2 : x.kind = 2
      · by_cases f2 : x.err = 0
        · by_cases g : n.got + 1 ≤ n.put
          · exact does_recv_k w p s room A cL L n n.got.toNat (by omega) x hs h3 b1 c1 b3 b4 (by omega) hL (by omega) hLl hx hx2 hx3 k2 f1 f2 (by simp; omega)
          · exact does_recv_no_k w p s room _ n x hs h2 b1 c1 b3 b4 b5 c2 k2 f1 f2 (by simpa using g)
        · by_cases f3 : x.err = 6
          · exact does_empty w p s room _ n x hs h2 b1 c1 b3 b4 b5 c2 k2 f1 f3
          · exact does_else_2 w p s room _ n x hs h2 b1 c1 b3 b4 b5 c2 k2 f1 f2 f3
      · by_cases k3 : x.kind = 3
        · by_cases f2 : x.err = 0
          · exact does_back_k w p s room _ n x hs h2 b1 c1 b3 b4 b5 c2 k3 f1 f2
          · exact does_else_3 w p s room _ n x hs h2 b1 c1 b3 b4 b5 c2 k3 f1 f2
        · exact does_else_4 w p s room _ n x hs h2 b1 c1 b3 b4 b5 c2 k1 k2 k3 f1

end Go.Proofs.Ytcljbhiammofjaa
