/-
  Proved here: what Next of fsm returns; nothing that was there changes.
-/
import Derived.Test.YtdggdidmjddhbaaFsm2
namespace Go.Proofs.Ytdggdidmjddhbaa
open Go.RowKit

theorem live_any (s e : Int) (hq : s = 3 ∨ s = 4 ∨ s = 5) (c b : Int) (da : Option Addr) (dn dc : Nat) (wins : Bool) (w : World) :
    Calls Try.prog 14 #[askV s e c b da dn dc wins] w fun r w' => r = .returned (liveM s e c b da dn dc wins).toV ∧ Below w.heap.size w w' := by
  by_cases n2 : e = 2
  · subst n2
    exact live_stop s c b da dn dc wins w
  by_cases n4 : e = 4
  · subst n4
    exact live_hold s c b da dn dc wins w
  by_cases n5 : e = 5
  · subst n5
    by_cases h3 : s = 3
    · subst h3; exact live_keep3 c b da dn dc wins w
    · exact live_keep s h3 c b da dn dc wins w
  by_cases n6 : e = 6
  · subst n6
    exact live_up s c b da dn dc wins w
  by_cases n7 : e = 7
  · subst n7
    exact live_down s c b da dn dc wins w
  by_cases n8 : e = 8
  · subst n8
    exact live_m8 s hq c b da dn dc wins w
  by_cases n9 : e = 9
  · subst n9
    exact live_m9 s hq c b da dn dc wins w
  by_cases n10 : e = 10
  · subst n10
    exact live_m10 s hq c b da dn dc wins w
  by_cases n11 : e = 11
  · subst n11
    exact live_notice s c b da dn dc wins w
  by_cases n12 : e = 12
  · subst n12
    exact live_wrong s c b da dn dc wins w
  exact live_else s e n6 n7 n8 n9 n10 n11 n4 n12 n2 n5 c b da dn dc wins w

theorem live_model8 (s c b : Int) (da : Option Addr) (dn dc : Nat) (wins : Bool) : liveM s 8 c b da dn dc wins = messageM s 8 := rfl

set_option maxHeartbeats 1000000 in
theorem next_n0 (e : Int) (c b : Int) (da : Option Addr) (dn dc : Nat) (wins : Bool) (w : World) :
    Calls Try.prog 8 #[.int .i64 0, .int .i64 e, .agg #[.int .i64 c, .int .i64 b, .slice da dn dc], .bool wins] w fun r w' => r = .returned (nextM 0 e c b da dn dc wins).toV ∧ Below w.heap.size w w' := by
  go_enter Try.func8, Try.ntmps8
  go_wp2_with (go_at_call 12; refine (idle_any _ _ _ _ _ _ _ _).mono ?_; rintro r w1 ⟨rfl, hb⟩; dsimp only [Stp.toV]; have hs : w.heap.size + 1 < w1.heap.size := (Nat.lt_of_lt_of_le (by simp) hb.size); have hr : ∀ j, w1.cell? ⟨w.heap.size + 1, j, none⟩ = (#[.int .i64 0, .bool false, .bool false, .bool false, .bool false, .int .i64 0, .int .i64 0, .slice none 0 0, .int .i64 0, .int .i64 0, .int .i64 0, .bool false] : Array Value)[j]? := (fun j => by rw [hb.cell (by simp)]; exact cell_of (heap_alloc_new' (World.size_alloc _ _).symm) j); have hf : ∀ j, w1.frozen? ⟨w.heap.size + 1, j, none⟩ = false := (fun j => by rw [hb.frozen (by simp)]; exact free_of (heap_alloc_new' (World.size_alloc _ _).symm) j))
  refine bodyPost_ret (v := Stp.toV (nextM 0 e c b da dn dc wins)) (by simp [results, Try.results8, go_sem, nextM, Stp.toV, hr]) rfl ⟨rfl, ?_⟩
  repeat (first | with_reducible refine below_alloc ?_ _ | with_reducible refine bel_set ?_ (by simp) _)
  with_reducible exact bel_call (below_alloc (below_alloc (Below.refl _ _) _) _) hb

set_option maxHeartbeats 1000000 in
theorem next_n1 (e : Int) (c b : Int) (da : Option Addr) (dn dc : Nat) (wins : Bool) (w : World) :
    Calls Try.prog 8 #[.int .i64 1, .int .i64 e, .agg #[.int .i64 c, .int .i64 b, .slice da dn dc], .bool wins] w fun r w' => r = .returned (nextM 1 e c b da dn dc wins).toV ∧ Below w.heap.size w w' := by
  go_enter Try.func8, Try.ntmps8
  go_wp2_with (go_at_call 13; refine (waits_any _ _ _ _ _ _ _ _ _).mono ?_; rintro r w1 ⟨rfl, hb⟩; dsimp only [Stp.toV]; have hs : w.heap.size + 1 < w1.heap.size := (Nat.lt_of_lt_of_le (by simp) hb.size); have hr : ∀ j, w1.cell? ⟨w.heap.size + 1, j, none⟩ = (#[.int .i64 0, .bool false, .bool false, .bool false, .bool false, .int .i64 0, .int .i64 0, .slice none 0 0, .int .i64 0, .int .i64 0, .int .i64 0, .bool false] : Array Value)[j]? := (fun j => by rw [hb.cell (by simp)]; exact cell_of (heap_alloc_new' (World.size_alloc _ _).symm) j); have hf : ∀ j, w1.frozen? ⟨w.heap.size + 1, j, none⟩ = false := (fun j => by rw [hb.frozen (by simp)]; exact free_of (heap_alloc_new' (World.size_alloc _ _).symm) j))
  refine bodyPost_ret (v := Stp.toV (nextM 1 e c b da dn dc wins)) (by simp [results, Try.results8, go_sem, nextM, Stp.toV, hr]) rfl ⟨rfl, ?_⟩
  repeat (first | with_reducible refine below_alloc ?_ _ | with_reducible refine bel_set ?_ (by simp) _)
  with_reducible exact bel_call (below_alloc (below_alloc (Below.refl _ _) _) _) hb

set_option maxHeartbeats 1000000 in
theorem next_n2 (e : Int) (c b : Int) (da : Option Addr) (dn dc : Nat) (wins : Bool) (w : World) :
    Calls Try.prog 8 #[.int .i64 2, .int .i64 e, .agg #[.int .i64 c, .int .i64 b, .slice da dn dc], .bool wins] w fun r w' => r = .returned (nextM 2 e c b da dn dc wins).toV ∧ Below w.heap.size w w' := by
  go_enter Try.func8, Try.ntmps8
  go_wp2_with (go_at_call 13; refine (waits_any _ _ _ _ _ _ _ _ _).mono ?_; rintro r w1 ⟨rfl, hb⟩; dsimp only [Stp.toV]; have hs : w.heap.size + 1 < w1.heap.size := (Nat.lt_of_lt_of_le (by simp) hb.size); have hr : ∀ j, w1.cell? ⟨w.heap.size + 1, j, none⟩ = (#[.int .i64 0, .bool false, .bool false, .bool false, .bool false, .int .i64 0, .int .i64 0, .slice none 0 0, .int .i64 0, .int .i64 0, .int .i64 0, .bool false] : Array Value)[j]? := (fun j => by rw [hb.cell (by simp)]; exact cell_of (heap_alloc_new' (World.size_alloc _ _).symm) j); have hf : ∀ j, w1.frozen? ⟨w.heap.size + 1, j, none⟩ = false := (fun j => by rw [hb.frozen (by simp)]; exact free_of (heap_alloc_new' (World.size_alloc _ _).symm) j))
  refine bodyPost_ret (v := Stp.toV (nextM 2 e c b da dn dc wins)) (by simp [results, Try.results8, go_sem, nextM, Stp.toV, hr]) rfl ⟨rfl, ?_⟩
  repeat (first | with_reducible refine below_alloc ?_ _ | with_reducible refine bel_set ?_ (by simp) _)
  with_reducible exact bel_call (below_alloc (below_alloc (Below.refl _ _) _) _) hb

set_option maxHeartbeats 1000000 in
theorem next_n3 (e : Int) (c b : Int) (da : Option Addr) (dn dc : Nat) (wins : Bool) (w : World) :
    Calls Try.prog 8 #[.int .i64 3, .int .i64 e, .agg #[.int .i64 c, .int .i64 b, .slice da dn dc], .bool wins] w fun r w' => r = .returned (nextM 3 e c b da dn dc wins).toV ∧ Below w.heap.size w w' := by
  go_enter Try.func8, Try.ntmps8
  go_wp2_with (go_at_call 14; refine (live_any _ _ (by simp) _ _ _ _ _ _ _).mono ?_; rintro r w1 ⟨rfl, hb⟩; dsimp only [Stp.toV]; have hs : w.heap.size + 1 < w1.heap.size := (Nat.lt_of_lt_of_le (by simp) hb.size); have hr : ∀ j, w1.cell? ⟨w.heap.size + 1, j, none⟩ = (#[.int .i64 0, .bool false, .bool false, .bool false, .bool false, .int .i64 0, .int .i64 0, .slice none 0 0, .int .i64 0, .int .i64 0, .int .i64 0, .bool false] : Array Value)[j]? := (fun j => by rw [hb.cell (by simp)]; exact cell_of (heap_alloc_new' (World.size_alloc _ _).symm) j); have hf : ∀ j, w1.frozen? ⟨w.heap.size + 1, j, none⟩ = false := (fun j => by rw [hb.frozen (by simp)]; exact free_of (heap_alloc_new' (World.size_alloc _ _).symm) j))
  refine bodyPost_ret (v := Stp.toV (nextM 3 e c b da dn dc wins)) (by simp [results, Try.results8, go_sem, nextM, Stp.toV, hr]) rfl ⟨rfl, ?_⟩
  repeat (first | with_reducible refine below_alloc ?_ _ | with_reducible refine bel_set ?_ (by simp) _)
  with_reducible exact bel_call (below_alloc (below_alloc (Below.refl _ _) _) _) hb

set_option maxHeartbeats 1000000 in
theorem next_n4 (e : Int) (c b : Int) (da : Option Addr) (dn dc : Nat) (wins : Bool) (w : World) :
    Calls Try.prog 8 #[.int .i64 4, .int .i64 e, .agg #[.int .i64 c, .int .i64 b, .slice da dn dc], .bool wins] w fun r w' => r = .returned (nextM 4 e c b da dn dc wins).toV ∧ Below w.heap.size w w' := by
  go_enter Try.func8, Try.ntmps8
  go_wp2_with (go_at_call 14; refine (live_any _ _ (by simp) _ _ _ _ _ _ _).mono ?_; rintro r w1 ⟨rfl, hb⟩; dsimp only [Stp.toV]; have hs : w.heap.size + 1 < w1.heap.size := (Nat.lt_of_lt_of_le (by simp) hb.size); have hr : ∀ j, w1.cell? ⟨w.heap.size + 1, j, none⟩ = (#[.int .i64 0, .bool false, .bool false, .bool false, .bool false, .int .i64 0, .int .i64 0, .slice none 0 0, .int .i64 0, .int .i64 0, .int .i64 0, .bool false] : Array Value)[j]? := (fun j => by rw [hb.cell (by simp)]; exact cell_of (heap_alloc_new' (World.size_alloc _ _).symm) j); have hf : ∀ j, w1.frozen? ⟨w.heap.size + 1, j, none⟩ = false := (fun j => by rw [hb.frozen (by simp)]; exact free_of (heap_alloc_new' (World.size_alloc _ _).symm) j))
  refine bodyPost_ret (v := Stp.toV (nextM 4 e c b da dn dc wins)) (by simp [results, Try.results8, go_sem, nextM, Stp.toV, hr]) rfl ⟨rfl, ?_⟩
  repeat (first | with_reducible refine below_alloc ?_ _ | with_reducible refine bel_set ?_ (by simp) _)
  with_reducible exact bel_call (below_alloc (below_alloc (Below.refl _ _) _) _) hb

set_option maxHeartbeats 1000000 in
theorem next_n5 (e : Int) (c b : Int) (da : Option Addr) (dn dc : Nat) (wins : Bool) (w : World) :
    Calls Try.prog 8 #[.int .i64 5, .int .i64 e, .agg #[.int .i64 c, .int .i64 b, .slice da dn dc], .bool wins] w fun r w' => r = .returned (nextM 5 e c b da dn dc wins).toV ∧ Below w.heap.size w w' := by
  go_enter Try.func8, Try.ntmps8
  go_wp2_with (go_at_call 14; refine (live_any _ _ (by simp) _ _ _ _ _ _ _).mono ?_; rintro r w1 ⟨rfl, hb⟩; dsimp only [Stp.toV]; have hs : w.heap.size + 1 < w1.heap.size := (Nat.lt_of_lt_of_le (by simp) hb.size); have hr : ∀ j, w1.cell? ⟨w.heap.size + 1, j, none⟩ = (#[.int .i64 0, .bool false, .bool false, .bool false, .bool false, .int .i64 0, .int .i64 0, .slice none 0 0, .int .i64 0, .int .i64 0, .int .i64 0, .bool false] : Array Value)[j]? := (fun j => by rw [hb.cell (by simp)]; exact cell_of (heap_alloc_new' (World.size_alloc _ _).symm) j); have hf : ∀ j, w1.frozen? ⟨w.heap.size + 1, j, none⟩ = false := (fun j => by rw [hb.frozen (by simp)]; exact free_of (heap_alloc_new' (World.size_alloc _ _).symm) j))
  refine bodyPost_ret (v := Stp.toV (nextM 5 e c b da dn dc wins)) (by simp [results, Try.results8, go_sem, nextM, Stp.toV, hr]) rfl ⟨rfl, ?_⟩
  repeat (first | with_reducible refine below_alloc ?_ _ | with_reducible refine bel_set ?_ (by simp) _)
  with_reducible exact bel_call (below_alloc (below_alloc (Below.refl _ _) _) _) hb

set_option maxHeartbeats 1000000 in
theorem next_nelse (s : Int) (h0 : s ≠ 0) (h1 : s ≠ 1) (h2 : s ≠ 2) (h3 : s ≠ 3) (h4 : s ≠ 4) (h5 : s ≠ 5) (e : Int) (c b : Int) (da : Option Addr) (dn dc : Nat) (wins : Bool) (w : World) :
    Calls Try.prog 8 #[.int .i64 s, .int .i64 e, .agg #[.int .i64 c, .int .i64 b, .slice da dn dc], .bool wins] w fun r w' => r = .returned (nextM s e c b da dn dc wins).toV ∧ Below w.heap.size w w' := by
  go_enter Try.func8, Try.ntmps8
  go_wp2_with (go_at_call 11; refine (stay_any _ _ _ _ _ _ _ _ _).mono ?_; rintro r w1 ⟨rfl, hb⟩; dsimp only [Stp.toV]; have hs : w.heap.size + 1 < w1.heap.size := (Nat.lt_of_lt_of_le (by simp) hb.size); have hr : ∀ j, w1.cell? ⟨w.heap.size + 1, j, none⟩ = (#[.int .i64 0, .bool false, .bool false, .bool false, .bool false, .int .i64 0, .int .i64 0, .slice none 0 0, .int .i64 0, .int .i64 0, .int .i64 0, .bool false] : Array Value)[j]? := (fun j => by rw [hb.cell (by simp)]; exact cell_of (heap_alloc_new' (World.size_alloc _ _).symm) j); have hf : ∀ j, w1.frozen? ⟨w.heap.size + 1, j, none⟩ = false := (fun j => by rw [hb.frozen (by simp)]; exact free_of (heap_alloc_new' (World.size_alloc _ _).symm) j))
  refine bodyPost_ret (v := Stp.toV (nextM s e c b da dn dc wins)) (by simp [results, Try.results8, go_sem, nextM, h0, h1, h2, h3, h4, h5, Stp.toV, hr]) rfl ⟨rfl, ?_⟩
  repeat (first | with_reducible refine below_alloc ?_ _ | with_reducible refine bel_set ?_ (by simp) _)
  with_reducible exact bel_call (below_alloc (below_alloc (Below.refl _ _) _) _) hb

end Go.Proofs.Ytdggdidmjddhbaa
