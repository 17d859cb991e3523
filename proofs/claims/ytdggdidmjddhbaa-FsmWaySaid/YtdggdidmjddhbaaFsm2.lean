/-
  Proved here: what live and Next of fsm return; nothing that was there changes.
-/
import Derived.Test.YtdggdidmjddhbaaFsm
namespace Go.Proofs.Ytdggdidmjddhbaa
open Go.RowKit

theorem second_any (s e : Int) (c b : Int) (da : Option Addr) (dn dc : Nat) (wins : Bool) (w : World) :
    Calls Try.prog 18 #[askV s e c b da dn dc wins] w fun r w' => r = .returned (secondM s wins).toV ∧ Below w.heap.size w w' := by
  by_cases h : s = 4
  · subst h
    cases wins
    · exact second_no e c b da dn dc w
    · exact second_wins c b da dn dc e w
  · exact second_low s h wins e c b da dn dc w

theorem lost_any (s e : Int) (c b : Int) (da : Option Addr) (dn dc : Nat) (wins : Bool) (w : World) :
    Calls Try.prog 19 #[askV s e c b da dn dc wins] w fun r w' => r = .returned (lostM s).toV ∧ Below w.heap.size w w' := by
  by_cases h : s = 3
  · subst h; exact lost_three e c b da dn dc wins w
  · exact lost_else s h e c b da dn dc wins w

theorem message_any (s e : Int) (hs : s = 3 ∨ s = 4 ∨ s = 5) (c b : Int) (da : Option Addr) (dn dc : Nat) (wins : Bool) (w : World) :
    Calls Try.prog 20 #[askV s e c b da dn dc wins] w fun r w' => r = .returned (messageM s e).toV ∧ Below w.heap.size w w' := by
  rcases hs with rfl | rfl | rfl
  · by_cases h : e = 8
    · subst h; exact message_open c b da dn dc wins w
    · exact message_s3 e h c b da dn dc wins w
  · by_cases h : e = 9
    · subst h; exact message_keep c b da dn dc wins w
    · exact message_s4 e h c b da dn dc wins w
  · by_cases h : e = 8
    · subst h; exact message_s5 c b da dn dc wins w
    · exact message_far e h c b da dn dc wins w

set_option maxHeartbeats 1000000 in
theorem live_up (s : Int) (c b : Int) (da : Option Addr) (dn dc : Nat) (wins : Bool) (w : World) :
    Calls Try.prog 14 #[askV s 6 c b da dn dc wins] w fun r w' => r = .returned (secondM s wins).toV ∧ Below w.heap.size w w' := by
  unfold askV
  go_enter Try.func14, Try.ntmps14
  go_wp2_with (go_at_call 18; refine (second_any _ _ _ _ _ _ _ _ _).mono ?_; rintro e w1 ⟨rfl, hb⟩; dsimp only [Stp.toV]; have k0 : w1.cell? ⟨w.heap.size, 0, none⟩ = some (.int .i64 s) := (by rw [hb.cell (by simp; try omega)]; simp); have k1 : w1.cell? ⟨w.heap.size, 1, none⟩ = some (.int .i64 6) := (by rw [hb.cell (by simp; try omega)]; simp); have hs : w.heap.size + 1 < w1.heap.size := (Nat.lt_of_lt_of_le (by simp) hb.size); have hs0 : w.heap.size < w1.heap.size := (Nat.lt_of_succ_lt hs); have hr : ∀ j, w1.cell? ⟨w.heap.size + 1, j, none⟩ = (#[.int .i64 0, .bool false, .bool false, .bool false, .bool false, .int .i64 0, .int .i64 0, .slice none 0 0, .int .i64 0, .int .i64 0, .int .i64 0, .bool false] : Array Value)[j]? := (fun j => by rw [hb.cell (by simp)]; exact cell_of (heap_alloc_new' (World.size_alloc _ _).symm) j); have hf : ∀ j, w1.frozen? ⟨w.heap.size + 1, j, none⟩ = false := (fun j => by rw [hb.frozen (by simp)]; exact free_of (heap_alloc_new' (World.size_alloc _ _).symm) j))
  refine bodyPost_ret (v := Stp.toV (secondM s wins)) (by simp [results, Try.results14, go_sem, hr, Stp.toV]) rfl ⟨rfl, ?_⟩
  repeat (first | with_reducible refine below_alloc ?_ _ | with_reducible refine bel_set ?_ (by simp) _)
  with_reducible exact bel_call (below_alloc (below_alloc (Below.refl _ _) _) _) hb

set_option maxHeartbeats 1000000 in
theorem live_down (s : Int) (c b : Int) (da : Option Addr) (dn dc : Nat) (wins : Bool) (w : World) :
    Calls Try.prog 14 #[askV s 7 c b da dn dc wins] w fun r w' => r = .returned (lostM s).toV ∧ Below w.heap.size w w' := by
  unfold askV
  go_enter Try.func14, Try.ntmps14
  go_wp2_with (go_at_call 19; refine (lost_any _ _ _ _ _ _ _ _ _).mono ?_; rintro e w1 ⟨rfl, hb⟩; dsimp only [Stp.toV]; have k0 : w1.cell? ⟨w.heap.size, 0, none⟩ = some (.int .i64 s) := (by rw [hb.cell (by simp; try omega)]; simp); have k1 : w1.cell? ⟨w.heap.size, 1, none⟩ = some (.int .i64 7) := (by rw [hb.cell (by simp; try omega)]; simp); have hs : w.heap.size + 1 < w1.heap.size := (Nat.lt_of_lt_of_le (by simp) hb.size); have hs0 : w.heap.size < w1.heap.size := (Nat.lt_of_succ_lt hs); have hr : ∀ j, w1.cell? ⟨w.heap.size + 1, j, none⟩ = (#[.int .i64 0, .bool false, .bool false, .bool false, .bool false, .int .i64 0, .int .i64 0, .slice none 0 0, .int .i64 0, .int .i64 0, .int .i64 0, .bool false] : Array Value)[j]? := (fun j => by rw [hb.cell (by simp)]; exact cell_of (heap_alloc_new' (World.size_alloc _ _).symm) j); have hf : ∀ j, w1.frozen? ⟨w.heap.size + 1, j, none⟩ = false := (fun j => by rw [hb.frozen (by simp)]; exact free_of (heap_alloc_new' (World.size_alloc _ _).symm) j))
  refine bodyPost_ret (v := Stp.toV (lostM s)) (by simp [results, Try.results14, go_sem, hr, Stp.toV]) rfl ⟨rfl, ?_⟩
  repeat (first | with_reducible refine below_alloc ?_ _ | with_reducible refine bel_set ?_ (by simp) _)
  with_reducible exact bel_call (below_alloc (below_alloc (Below.refl _ _) _) _) hb

set_option maxHeartbeats 1000000 in
theorem live_m8 (s : Int) (hq : s = 3 ∨ s = 4 ∨ s = 5) (c b : Int) (da : Option Addr) (dn dc : Nat) (wins : Bool) (w : World) :
    Calls Try.prog 14 #[askV s 8 c b da dn dc wins] w fun r w' => r = .returned (messageM s 8).toV ∧ Below w.heap.size w w' := by
  unfold askV
  go_enter Try.func14, Try.ntmps14
  go_wp2_with (go_at_call 20; refine (message_any _ _ hq _ _ _ _ _ _ _).mono ?_; rintro e w1 ⟨rfl, hb⟩; dsimp only [Stp.toV]; have k0 : w1.cell? ⟨w.heap.size, 0, none⟩ = some (.int .i64 s) := (by rw [hb.cell (by simp; try omega)]; simp); have k1 : w1.cell? ⟨w.heap.size, 1, none⟩ = some (.int .i64 8) := (by rw [hb.cell (by simp; try omega)]; simp); have hs : w.heap.size + 1 < w1.heap.size := (Nat.lt_of_lt_of_le (by simp) hb.size); have hs0 : w.heap.size < w1.heap.size := (Nat.lt_of_succ_lt hs); have hr : ∀ j, w1.cell? ⟨w.heap.size + 1, j, none⟩ = (#[.int .i64 0, .bool false, .bool false, .bool false, .bool false, .int .i64 0, .int .i64 0, .slice none 0 0, .int .i64 0, .int .i64 0, .int .i64 0, .bool false] : Array Value)[j]? := (fun j => by rw [hb.cell (by simp)]; exact cell_of (heap_alloc_new' (World.size_alloc _ _).symm) j); have hf : ∀ j, w1.frozen? ⟨w.heap.size + 1, j, none⟩ = false := (fun j => by rw [hb.frozen (by simp)]; exact free_of (heap_alloc_new' (World.size_alloc _ _).symm) j))
  refine bodyPost_ret (v := Stp.toV (messageM s 8)) (by simp [results, Try.results14, go_sem, hr, Stp.toV]) rfl ⟨rfl, ?_⟩
  repeat (first | with_reducible refine below_alloc ?_ _ | with_reducible refine bel_set ?_ (by simp) _)
  with_reducible exact bel_call (below_alloc (below_alloc (Below.refl _ _) _) _) hb

set_option maxHeartbeats 1000000 in
theorem live_m9 (s : Int) (hq : s = 3 ∨ s = 4 ∨ s = 5) (c b : Int) (da : Option Addr) (dn dc : Nat) (wins : Bool) (w : World) :
    Calls Try.prog 14 #[askV s 9 c b da dn dc wins] w fun r w' => r = .returned (messageM s 9).toV ∧ Below w.heap.size w w' := by
  unfold askV
  go_enter Try.func14, Try.ntmps14
  go_wp2_with (go_at_call 20; refine (message_any _ _ hq _ _ _ _ _ _ _).mono ?_; rintro e w1 ⟨rfl, hb⟩; dsimp only [Stp.toV]; have k0 : w1.cell? ⟨w.heap.size, 0, none⟩ = some (.int .i64 s) := (by rw [hb.cell (by simp; try omega)]; simp); have k1 : w1.cell? ⟨w.heap.size, 1, none⟩ = some (.int .i64 9) := (by rw [hb.cell (by simp; try omega)]; simp); have hs : w.heap.size + 1 < w1.heap.size := (Nat.lt_of_lt_of_le (by simp) hb.size); have hs0 : w.heap.size < w1.heap.size := (Nat.lt_of_succ_lt hs); have hr : ∀ j, w1.cell? ⟨w.heap.size + 1, j, none⟩ = (#[.int .i64 0, .bool false, .bool false, .bool false, .bool false, .int .i64 0, .int .i64 0, .slice none 0 0, .int .i64 0, .int .i64 0, .int .i64 0, .bool false] : Array Value)[j]? := (fun j => by rw [hb.cell (by simp)]; exact cell_of (heap_alloc_new' (World.size_alloc _ _).symm) j); have hf : ∀ j, w1.frozen? ⟨w.heap.size + 1, j, none⟩ = false := (fun j => by rw [hb.frozen (by simp)]; exact free_of (heap_alloc_new' (World.size_alloc _ _).symm) j))
  refine bodyPost_ret (v := Stp.toV (messageM s 9)) (by simp [results, Try.results14, go_sem, hr, Stp.toV]) rfl ⟨rfl, ?_⟩
  repeat (first | with_reducible refine below_alloc ?_ _ | with_reducible refine bel_set ?_ (by simp) _)
  with_reducible exact bel_call (below_alloc (below_alloc (Below.refl _ _) _) _) hb

set_option maxHeartbeats 1000000 in
theorem live_m10 (s : Int) (hq : s = 3 ∨ s = 4 ∨ s = 5) (c b : Int) (da : Option Addr) (dn dc : Nat) (wins : Bool) (w : World) :
    Calls Try.prog 14 #[askV s 10 c b da dn dc wins] w fun r w' => r = .returned (messageM s 10).toV ∧ Below w.heap.size w w' := by
  unfold askV
  go_enter Try.func14, Try.ntmps14
  go_wp2_with (go_at_call 20; refine (message_any _ _ hq _ _ _ _ _ _ _).mono ?_; rintro e w1 ⟨rfl, hb⟩; dsimp only [Stp.toV]; have k0 : w1.cell? ⟨w.heap.size, 0, none⟩ = some (.int .i64 s) := (by rw [hb.cell (by simp; try omega)]; simp); have k1 : w1.cell? ⟨w.heap.size, 1, none⟩ = some (.int .i64 10) := (by rw [hb.cell (by simp; try omega)]; simp); have hs : w.heap.size + 1 < w1.heap.size := (Nat.lt_of_lt_of_le (by simp) hb.size); have hs0 : w.heap.size < w1.heap.size := (Nat.lt_of_succ_lt hs); have hr : ∀ j, w1.cell? ⟨w.heap.size + 1, j, none⟩ = (#[.int .i64 0, .bool false, .bool false, .bool false, .bool false, .int .i64 0, .int .i64 0, .slice none 0 0, .int .i64 0, .int .i64 0, .int .i64 0, .bool false] : Array Value)[j]? := (fun j => by rw [hb.cell (by simp)]; exact cell_of (heap_alloc_new' (World.size_alloc _ _).symm) j); have hf : ∀ j, w1.frozen? ⟨w.heap.size + 1, j, none⟩ = false := (fun j => by rw [hb.frozen (by simp)]; exact free_of (heap_alloc_new' (World.size_alloc _ _).symm) j))
  refine bodyPost_ret (v := Stp.toV (messageM s 10)) (by simp [results, Try.results14, go_sem, hr, Stp.toV]) rfl ⟨rfl, ?_⟩
  repeat (first | with_reducible refine below_alloc ?_ _ | with_reducible refine bel_set ?_ (by simp) _)
  with_reducible exact bel_call (below_alloc (below_alloc (Below.refl _ _) _) _) hb

set_option maxHeartbeats 1000000 in
theorem live_notice (s : Int) (c b : Int) (da : Option Addr) (dn dc : Nat) (wins : Bool) (w : World) :
    Calls Try.prog 14 #[askV s 11 c b da dn dc wins] w fun r w' => r = .returned (liveM s 11 c b da dn dc wins).toV ∧ Below w.heap.size w w' := by
  unfold askV
  go_enter Try.func14, Try.ntmps14
  go_wp2_with (go_at_call 21; refine (falls_any _ _ _ _ _ _).mono ?_; rintro e w1 ⟨rfl, hb⟩; dsimp only [fallsM, Stp.toV]; have k0 : w1.cell? ⟨w.heap.size, 0, none⟩ = some (.int .i64 s) := (by rw [hb.cell (by simp; try omega)]; simp); have k1 : w1.cell? ⟨w.heap.size, 1, none⟩ = some (.int .i64 11) := (by rw [hb.cell (by simp; try omega)]; simp); have hs : w.heap.size + 1 < w1.heap.size := (Nat.lt_of_lt_of_le (by simp) hb.size); have hs0 : w.heap.size < w1.heap.size := (Nat.lt_of_succ_lt hs); have hr : ∀ j, w1.cell? ⟨w.heap.size + 1, j, none⟩ = (#[.int .i64 0, .bool false, .bool false, .bool false, .bool false, .int .i64 0, .int .i64 0, .slice none 0 0, .int .i64 0, .int .i64 0, .int .i64 0, .bool false] : Array Value)[j]? := (fun j => by rw [hb.cell (by simp)]; exact cell_of (heap_alloc_new' (World.size_alloc _ _).symm) j); have hf : ∀ j, w1.frozen? ⟨w.heap.size + 1, j, none⟩ = false := (fun j => by rw [hb.frozen (by simp)]; exact free_of (heap_alloc_new' (World.size_alloc _ _).symm) j))
  refine bodyPost_ret (v := Stp.toV (liveM s 11 c b da dn dc wins)) (by simp [results, Try.results14, go_sem, liveM, fallsM, hr, Stp.toV]) rfl ⟨rfl, ?_⟩
  repeat (first | with_reducible refine below_alloc ?_ _ | with_reducible refine bel_set ?_ (by simp) _)
  with_reducible exact bel_call (below_alloc (below_alloc (Below.refl _ _) _) _) hb

set_option maxHeartbeats 1000000 in
theorem live_hold (s : Int) (c b : Int) (da : Option Addr) (dn dc : Nat) (wins : Bool) (w : World) :
    Calls Try.prog 14 #[askV s 4 c b da dn dc wins] w fun r w' => r = .returned (liveM s 4 c b da dn dc wins).toV ∧ Below w.heap.size w w' := by
  unfold askV
  go_enter Try.func14, Try.ntmps14
  go_wp2_with (go_at_call 21; refine (falls_any _ _ _ _ _ _).mono ?_; rintro e w1 ⟨rfl, hb⟩; dsimp only [fallsM, Stp.toV]; have k0 : w1.cell? ⟨w.heap.size, 0, none⟩ = some (.int .i64 s) := (by rw [hb.cell (by simp; try omega)]; simp); have k1 : w1.cell? ⟨w.heap.size, 1, none⟩ = some (.int .i64 4) := (by rw [hb.cell (by simp; try omega)]; simp); have hs : w.heap.size + 1 < w1.heap.size := (Nat.lt_of_lt_of_le (by simp) hb.size); have hs0 : w.heap.size < w1.heap.size := (Nat.lt_of_succ_lt hs); have hr : ∀ j, w1.cell? ⟨w.heap.size + 1, j, none⟩ = (#[.int .i64 0, .bool false, .bool false, .bool false, .bool false, .int .i64 0, .int .i64 0, .slice none 0 0, .int .i64 0, .int .i64 0, .int .i64 0, .bool false] : Array Value)[j]? := (fun j => by rw [hb.cell (by simp)]; exact cell_of (heap_alloc_new' (World.size_alloc _ _).symm) j); have hf : ∀ j, w1.frozen? ⟨w.heap.size + 1, j, none⟩ = false := (fun j => by rw [hb.frozen (by simp)]; exact free_of (heap_alloc_new' (World.size_alloc _ _).symm) j))
  refine bodyPost_ret (v := Stp.toV (liveM s 4 c b da dn dc wins)) (by simp [results, Try.results14, go_sem, liveM, fallsM, hr, Stp.toV]) rfl ⟨rfl, ?_⟩
  repeat (first | with_reducible refine below_alloc ?_ _ | with_reducible refine bel_set ?_ (by simp) _)
  with_reducible exact bel_call (below_alloc (below_alloc (Below.refl _ _) _) _) hb

set_option maxHeartbeats 1000000 in
theorem live_wrong (s : Int) (c b : Int) (da : Option Addr) (dn dc : Nat) (wins : Bool) (w : World) :
    Calls Try.prog 14 #[askV s 12 c b da dn dc wins] w fun r w' => r = .returned (liveM s 12 c b da dn dc wins).toV ∧ Below w.heap.size w w' := by
  unfold askV
  go_enter Try.func14, Try.ntmps14
  go_wp2_with (go_at_call 21; refine (falls_any _ _ _ _ _ _).mono ?_; rintro e w1 ⟨rfl, hb⟩; dsimp only [fallsM, Stp.toV]; have k0 : w1.cell? ⟨w.heap.size, 0, none⟩ = some (.int .i64 s) := (by rw [hb.cell (by simp; try omega)]; simp); have k1 : w1.cell? ⟨w.heap.size, 1, none⟩ = some (.int .i64 12) := (by rw [hb.cell (by simp; try omega)]; simp); have hs : w.heap.size + 1 < w1.heap.size := (Nat.lt_of_lt_of_le (by simp) hb.size); have hs0 : w.heap.size < w1.heap.size := (Nat.lt_of_succ_lt hs); have hr : ∀ j, w1.cell? ⟨w.heap.size + 1, j, none⟩ = (#[.int .i64 0, .bool false, .bool false, .bool false, .bool false, .int .i64 0, .int .i64 0, .slice none 0 0, .int .i64 0, .int .i64 0, .int .i64 0, .bool false] : Array Value)[j]? := (fun j => by rw [hb.cell (by simp)]; exact cell_of (heap_alloc_new' (World.size_alloc _ _).symm) j); have hf : ∀ j, w1.frozen? ⟨w.heap.size + 1, j, none⟩ = false := (fun j => by rw [hb.frozen (by simp)]; exact free_of (heap_alloc_new' (World.size_alloc _ _).symm) j))
  refine bodyPost_ret (v := Stp.toV (liveM s 12 c b da dn dc wins)) (by simp [results, Try.results14, go_sem, liveM, fallsM, hr, Stp.toV]) rfl ⟨rfl, ?_⟩
  repeat (first | with_reducible refine below_alloc ?_ _ | with_reducible refine bel_set ?_ (by simp) _)
  with_reducible exact bel_call (below_alloc (below_alloc (Below.refl _ _) _) _) hb

set_option maxHeartbeats 1000000 in
theorem live_stop (s : Int) (c b : Int) (da : Option Addr) (dn dc : Nat) (wins : Bool) (w : World) :
    Calls Try.prog 14 #[askV s 2 c b da dn dc wins] w fun r w' => r = .returned (liveM s 2 c b da dn dc wins).toV ∧ Below w.heap.size w w' := by
  unfold askV
  go_enter Try.func14, Try.ntmps14
  go_wp2_with (go_at_call 21; refine (falls_any _ _ _ _ _ _).mono ?_; rintro e w1 ⟨rfl, hb⟩; dsimp only [fallsM, Stp.toV]; have k0 : w1.cell? ⟨w.heap.size, 0, none⟩ = some (.int .i64 s) := (by rw [hb.cell (by simp; try omega)]; simp); have k1 : w1.cell? ⟨w.heap.size, 1, none⟩ = some (.int .i64 2) := (by rw [hb.cell (by simp; try omega)]; simp); have hs : w.heap.size + 1 < w1.heap.size := (Nat.lt_of_lt_of_le (by simp) hb.size); have hs0 : w.heap.size < w1.heap.size := (Nat.lt_of_succ_lt hs); have hr : ∀ j, w1.cell? ⟨w.heap.size + 1, j, none⟩ = (#[.int .i64 0, .bool false, .bool false, .bool false, .bool false, .int .i64 0, .int .i64 0, .slice none 0 0, .int .i64 0, .int .i64 0, .int .i64 0, .bool false] : Array Value)[j]? := (fun j => by rw [hb.cell (by simp)]; exact cell_of (heap_alloc_new' (World.size_alloc _ _).symm) j); have hf : ∀ j, w1.frozen? ⟨w.heap.size + 1, j, none⟩ = false := (fun j => by rw [hb.frozen (by simp)]; exact free_of (heap_alloc_new' (World.size_alloc _ _).symm) j))
  refine bodyPost_ret (v := Stp.toV (liveM s 2 c b da dn dc wins)) (by simp [results, Try.results14, go_sem, liveM, fallsM, hs, hr, Stp.toV]) rfl ⟨rfl, ?_⟩
  repeat (first | with_reducible refine below_alloc ?_ _ | with_reducible refine bel_set ?_ (by simp) _)
  with_reducible exact bel_call (below_alloc (below_alloc (Below.refl _ _) _) _) hb

set_option maxHeartbeats 1000000 in
theorem live_keep3 (c b : Int) (da : Option Addr) (dn dc : Nat) (wins : Bool) (w : World) :
    Calls Try.prog 14 #[askV 3 5 c b da dn dc wins] w fun r w' => r = .returned (liveM 3 5 c b da dn dc wins).toV ∧ Below w.heap.size w w' := by
  unfold askV
  go_enter Try.func14, Try.ntmps14
  go_wp2_with (go_at_call 11; refine (stay_any _ _ _ _ _ _ _ _ _).mono ?_; rintro e w1 ⟨rfl, hb⟩; dsimp only [Stp.toV]; have k0 : w1.cell? ⟨w.heap.size, 0, none⟩ = some (.int .i64 3) := (by rw [hb.cell (by simp; try omega)]; simp); have k1 : w1.cell? ⟨w.heap.size, 1, none⟩ = some (.int .i64 5) := (by rw [hb.cell (by simp; try omega)]; simp); have hs : w.heap.size + 1 < w1.heap.size := (Nat.lt_of_lt_of_le (by simp) hb.size); have hs0 : w.heap.size < w1.heap.size := (Nat.lt_of_succ_lt hs); have hr : ∀ j, w1.cell? ⟨w.heap.size + 1, j, none⟩ = (#[.int .i64 0, .bool false, .bool false, .bool false, .bool false, .int .i64 0, .int .i64 0, .slice none 0 0, .int .i64 0, .int .i64 0, .int .i64 0, .bool false] : Array Value)[j]? := (fun j => by rw [hb.cell (by simp)]; exact cell_of (heap_alloc_new' (World.size_alloc _ _).symm) j); have hf : ∀ j, w1.frozen? ⟨w.heap.size + 1, j, none⟩ = false := (fun j => by rw [hb.frozen (by simp)]; exact free_of (heap_alloc_new' (World.size_alloc _ _).symm) j))
  refine bodyPost_ret (v := Stp.toV (liveM 3 5 c b da dn dc wins)) (by simp [results, Try.results14, go_sem, liveM, hs, hr, Stp.toV]) rfl ⟨rfl, ?_⟩
  repeat (first | with_reducible refine below_alloc ?_ _ | with_reducible refine bel_set ?_ (by simp) _)
  with_reducible exact bel_call (below_alloc (below_alloc (Below.refl _ _) _) _) hb

set_option maxHeartbeats 1000000 in
theorem live_keep (s : Int) (h3 : s ≠ 3) (c b : Int) (da : Option Addr) (dn dc : Nat) (wins : Bool) (w : World) :
    Calls Try.prog 14 #[askV s 5 c b da dn dc wins] w fun r w' => r = .returned (liveM s 5 c b da dn dc wins).toV ∧ Below w.heap.size w w' := by
  unfold askV
  go_enter Try.func14, Try.ntmps14
  go_wp2_with (go_at_call 11; refine (stay_any _ _ _ _ _ _ _ _ _).mono ?_; rintro e w1 ⟨rfl, hb⟩; dsimp only [Stp.toV]; have k0 : w1.cell? ⟨w.heap.size, 0, none⟩ = some (.int .i64 s) := (by rw [hb.cell (by simp; try omega)]; simp); have k1 : w1.cell? ⟨w.heap.size, 1, none⟩ = some (.int .i64 5) := (by rw [hb.cell (by simp; try omega)]; simp); have hs : w.heap.size + 1 < w1.heap.size := (Nat.lt_of_lt_of_le (by simp) hb.size); have hs0 : w.heap.size < w1.heap.size := (Nat.lt_of_succ_lt hs); have hr : ∀ j, w1.cell? ⟨w.heap.size + 1, j, none⟩ = (#[.int .i64 0, .bool false, .bool false, .bool false, .bool false, .int .i64 0, .int .i64 0, .slice none 0 0, .int .i64 0, .int .i64 0, .int .i64 0, .bool false] : Array Value)[j]? := (fun j => by rw [hb.cell (by simp)]; exact cell_of (heap_alloc_new' (World.size_alloc _ _).symm) j); have hf : ∀ j, w1.frozen? ⟨w.heap.size + 1, j, none⟩ = false := (fun j => by rw [hb.frozen (by simp)]; exact free_of (heap_alloc_new' (World.size_alloc _ _).symm) j))
  refine bodyPost_ret (v := Stp.toV (liveM s 5 c b da dn dc wins)) (by simp [results, Try.results14, go_sem, liveM, h3, hs, hr, Stp.toV]) rfl ⟨rfl, ?_⟩
  repeat (first | with_reducible refine below_alloc ?_ _ | with_reducible refine bel_set ?_ (by simp) _)
  with_reducible exact bel_call (below_alloc (below_alloc (Below.refl _ _) _) _) hb

set_option maxHeartbeats 1000000 in
theorem live_else (s : Int) (e : Int) (n6 : e ≠ 6) (n7 : e ≠ 7) (n8 : e ≠ 8) (n9 : e ≠ 9) (n10 : e ≠ 10) (n11 : e ≠ 11) (n4 : e ≠ 4) (n12 : e ≠ 12) (n2 : e ≠ 2) (n5 : e ≠ 5) (c b : Int) (da : Option Addr) (dn dc : Nat) (wins : Bool) (w : World) :
    Calls Try.prog 14 #[askV s e c b da dn dc wins] w fun r w' => r = .returned (liveM s e c b da dn dc wins).toV ∧ Below w.heap.size w w' := by
  unfold askV
  go_enter Try.func14, Try.ntmps14
  go_wp2_with (go_at_call 11; refine (stay_any _ _ _ _ _ _ _ _ _).mono ?_; rintro e w1 ⟨rfl, hb⟩; dsimp only [Stp.toV]; have k0 : w1.cell? ⟨w.heap.size, 0, none⟩ = some (.int .i64 s) := (by rw [hb.cell (by simp; try omega)]; simp); have k1 : w1.cell? ⟨w.heap.size, 1, none⟩ = some (.int .i64 e) := (by rw [hb.cell (by simp; try omega)]; simp); have hs : w.heap.size + 1 < w1.heap.size := (Nat.lt_of_lt_of_le (by simp) hb.size); have hs0 : w.heap.size < w1.heap.size := (Nat.lt_of_succ_lt hs); have hr : ∀ j, w1.cell? ⟨w.heap.size + 1, j, none⟩ = (#[.int .i64 0, .bool false, .bool false, .bool false, .bool false, .int .i64 0, .int .i64 0, .slice none 0 0, .int .i64 0, .int .i64 0, .int .i64 0, .bool false] : Array Value)[j]? := (fun j => by rw [hb.cell (by simp)]; exact cell_of (heap_alloc_new' (World.size_alloc _ _).symm) j); have hf : ∀ j, w1.frozen? ⟨w.heap.size + 1, j, none⟩ = false := (fun j => by rw [hb.frozen (by simp)]; exact free_of (heap_alloc_new' (World.size_alloc _ _).symm) j))
  refine bodyPost_ret (v := Stp.toV (liveM s e c b da dn dc wins)) (by simp [results, Try.results14, go_sem, liveM, n6, n7, n8, n9, n10, n11, n4, n12, n2, n5, hs, hr, Stp.toV]) rfl ⟨rfl, ?_⟩
  repeat (first | with_reducible refine below_alloc ?_ _ | with_reducible refine bel_set ?_ (by simp) _)
  with_reducible exact bel_call (below_alloc (below_alloc (Below.refl _ _) _) _) hb

end Go.Proofs.Ytdggdidmjddhbaa
