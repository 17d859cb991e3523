/-
  Proved here: what the document's functions of layer 15 return; nothing that was there changes.
-/
import Derived.Test.YtdggdidmjddhbaaFsm3
namespace Go.Proofs.Ytdggdidmjddhbaa
open Go.RowKit

set_option maxHeartbeats 1000000 in
theorem rfalls_any (cl : Bool) (c b : Int) (da : Option Addr) (dn dc : Nat) (w : World) :
    Calls Try.prog 22 #[.bool cl, .agg #[.int .i64 c, .int .i64 b, .slice da dn dc]] w fun r w' => r = .returned (fallsM cl c b da dn dc).toV ∧ Below w.heap.size w w' := by
  go_enter Try.func22, Try.ntmps22
  go_wp2
  refine bodyPost_ret (v := Stp.toV (fallsM cl c b da dn dc)) (by simp [results, Try.results22, go_sem, fallsM, Stp.toV]) rfl ⟨rfl, ?_⟩
  repeat (first | with_reducible refine below_alloc ?_ _ | with_reducible refine bel_set ?_ (by simp) _)
  with_reducible exact Below.refl _ _

set_option maxHeartbeats 1000000 in
theorem ridle_one (w : World) :
    Calls Try.prog 15 #[.int .i64 1] w fun r w' => r = .returned (idleM 1).toV ∧ Below w.heap.size w w' := by
  go_enter Try.func15, Try.ntmps15
  go_wp2
  refine bodyPost_ret (v := Stp.toV (idleM 1)) (by simp [results, Try.results15, go_sem, idleM, Stp.toV]) rfl ⟨rfl, ?_⟩
  repeat (first | with_reducible refine below_alloc ?_ _ | with_reducible refine bel_set ?_ (by simp) _)
  with_reducible exact Below.refl _ _

set_option maxHeartbeats 1000000 in
theorem ridle_three (w : World) :
    Calls Try.prog 15 #[.int .i64 3] w fun r w' => r = .returned (idleM 3).toV ∧ Below w.heap.size w w' := by
  go_enter Try.func15, Try.ntmps15
  go_wp2
  refine bodyPost_ret (v := Stp.toV (idleM 3)) (by simp [results, Try.results15, go_sem, idleM, Stp.toV]) rfl ⟨rfl, ?_⟩
  repeat (first | with_reducible refine below_alloc ?_ _ | with_reducible refine bel_set ?_ (by simp) _)
  with_reducible exact Below.refl _ _

set_option maxHeartbeats 1000000 in
theorem ridle_two (w : World) :
    Calls Try.prog 15 #[.int .i64 2] w fun r w' => r = .returned (idleM 2).toV ∧ Below w.heap.size w w' := by
  go_enter Try.func15, Try.ntmps15
  go_wp2
  refine bodyPost_ret (v := Stp.toV (idleM 2)) (by simp [results, Try.results15, go_sem, idleM, Stp.toV]) rfl ⟨rfl, ?_⟩
  repeat (first | with_reducible refine below_alloc ?_ _ | with_reducible refine bel_set ?_ (by simp) _)
  with_reducible exact Below.refl _ _

set_option maxHeartbeats 1000000 in
theorem ridle_six (w : World) :
    Calls Try.prog 15 #[.int .i64 6] w fun r w' => r = .returned (idleM 6).toV ∧ Below w.heap.size w w' := by
  go_enter Try.func15, Try.ntmps15
  go_wp2
  refine bodyPost_ret (v := Stp.toV (idleM 6)) (by simp [results, Try.results15, go_sem, idleM, Stp.toV]) rfl ⟨rfl, ?_⟩
  repeat (first | with_reducible refine below_alloc ?_ _ | with_reducible refine bel_set ?_ (by simp) _)
  with_reducible exact Below.refl _ _

set_option maxHeartbeats 1000000 in
theorem ridle_else (e : Int) (h1 : e ≠ 1) (h2 : e ≠ 2) (h3 : e ≠ 3) (h6 : e ≠ 6) (w : World) :
    Calls Try.prog 15 #[.int .i64 e] w fun r w' => r = .returned (idleM e).toV ∧ Below w.heap.size w w' := by
  go_enter Try.func15, Try.ntmps15
  go_wp2
  refine bodyPost_ret (v := Stp.toV (idleM e)) (by simp [results, Try.results15, go_sem, idleM, h1, h2, h3, h6, Stp.toV]) rfl ⟨rfl, ?_⟩
  repeat (first | with_reducible refine below_alloc ?_ _ | with_reducible refine bel_set ?_ (by simp) _)
  with_reducible exact Below.refl _ _

theorem ridle_any (e : Int) (w : World) :
    Calls Try.prog 15 #[.int .i64 e] w fun r w' => r = .returned (idleM e).toV ∧ Below w.heap.size w w' := by
  by_cases h1 : e = 1
  · subst h1; exact ridle_one w
  by_cases h2 : e = 2
  · subst h2; exact ridle_two w
  by_cases h3 : e = 3
  · subst h3; exact ridle_three w
  by_cases h6 : e = 6
  · subst h6; exact ridle_six w
  exact ridle_else e h1 h2 h3 h6 w

set_option maxHeartbeats 1000000 in
theorem rwaits_six (s : Int) (w : World) :
    Calls Try.prog 16 #[.int .i64 s, .int .i64 6] w fun r w' => r = .returned (waitsM s 6).toV ∧ Below w.heap.size w w' := by
  go_enter Try.func16, Try.ntmps16
  go_wp2
  refine bodyPost_ret (v := Stp.toV (waitsM s 6)) (by simp [results, Try.results16, go_sem, waitsM, Stp.toV]) rfl ⟨rfl, ?_⟩
  repeat (first | with_reducible refine below_alloc ?_ _ | with_reducible refine bel_set ?_ (by simp) _)
  with_reducible exact Below.refl _ _

set_option maxHeartbeats 1000000 in
theorem rwaits_seven (s : Int) (w : World) :
    Calls Try.prog 16 #[.int .i64 s, .int .i64 7] w fun r w' => r = .returned (waitsM s 7).toV ∧ Below w.heap.size w w' := by
  go_enter Try.func16, Try.ntmps16
  go_wp2
  refine bodyPost_ret (v := Stp.toV (waitsM s 7)) (by simp [results, Try.results16, go_sem, waitsM, Stp.toV]) rfl ⟨rfl, ?_⟩
  repeat (first | with_reducible refine below_alloc ?_ _ | with_reducible refine bel_set ?_ (by simp) _)
  with_reducible exact Below.refl _ _

set_option maxHeartbeats 1000000 in
theorem rwaits_three (s : Int) (w : World) :
    Calls Try.prog 16 #[.int .i64 s, .int .i64 3] w fun r w' => r = .returned (waitsM s 3).toV ∧ Below w.heap.size w w' := by
  go_enter Try.func16, Try.ntmps16
  go_wp2
  refine bodyPost_ret (v := Stp.toV (waitsM s 3)) (by simp [results, Try.results16, go_sem, waitsM, Stp.toV]) rfl ⟨rfl, ?_⟩
  repeat (first | with_reducible refine below_alloc ?_ _ | with_reducible refine bel_set ?_ (by simp) _)
  with_reducible exact Below.refl _ _

set_option maxHeartbeats 1000000 in
theorem rwaits_two (s : Int) (w : World) :
    Calls Try.prog 16 #[.int .i64 s, .int .i64 2] w fun r w' => r = .returned (waitsM s 2).toV ∧ Below w.heap.size w w' := by
  go_enter Try.func16, Try.ntmps16
  go_wp2
  refine bodyPost_ret (v := Stp.toV (waitsM s 2)) (by simp [results, Try.results16, go_sem, waitsM, Stp.toV]) rfl ⟨rfl, ?_⟩
  repeat (first | with_reducible refine below_alloc ?_ _ | with_reducible refine bel_set ?_ (by simp) _)
  with_reducible exact Below.refl _ _

set_option maxHeartbeats 1000000 in
theorem rwaits_else (s e : Int) (h6 : e ≠ 6) (h7 : e ≠ 7) (h3 : e ≠ 3) (h2 : e ≠ 2) (w : World) :
    Calls Try.prog 16 #[.int .i64 s, .int .i64 e] w fun r w' => r = .returned (waitsM s e).toV ∧ Below w.heap.size w w' := by
  go_enter Try.func16, Try.ntmps16
  go_wp2
  refine bodyPost_ret (v := Stp.toV (waitsM s e)) (by simp [results, Try.results16, go_sem, waitsM, h6, h7, h3, h2, Stp.toV]) rfl ⟨rfl, ?_⟩
  repeat (first | with_reducible refine below_alloc ?_ _ | with_reducible refine bel_set ?_ (by simp) _)
  with_reducible exact Below.refl _ _

theorem rwaits_any (s e : Int) (w : World) :
    Calls Try.prog 16 #[.int .i64 s, .int .i64 e] w fun r w' => r = .returned (waitsM s e).toV ∧ Below w.heap.size w w' := by
  by_cases h6 : e = 6
  · subst h6; exact rwaits_six s w
  by_cases h7 : e = 7
  · subst h7; exact rwaits_seven s w
  by_cases h3 : e = 3
  · subst h3; exact rwaits_three s w
  by_cases h2 : e = 2
  · subst h2; exact rwaits_two s w
  exact rwaits_else s e h6 h7 h3 h2 w

set_option maxHeartbeats 1000000 in
theorem rlive_up4 (c b : Int) (da : Option Addr) (dn dc : Nat) (w : World) :
    Calls Try.prog 17 #[.int .i64 4, .int .i64 6, .agg #[.int .i64 c, .int .i64 b, .slice da dn dc], .bool true] w fun r w' => r = .returned (liveM 4 6 c b da dn dc true).toV ∧ Below w.heap.size w w' := by
  go_enter Try.func17, Try.ntmps17
  go_wp2
  refine bodyPost_ret (v := Stp.toV (liveM 4 6 c b da dn dc true)) (by simp [results, Try.results17, go_sem, liveM, secondM, Stp.toV]) rfl ⟨rfl, ?_⟩
  repeat (first | with_reducible refine below_alloc ?_ _ | with_reducible refine bel_set ?_ (by simp) _)
  with_reducible exact Below.refl _ _

set_option maxHeartbeats 1000000 in
theorem rlive_up4n (c b : Int) (da : Option Addr) (dn dc : Nat) (w : World) :
    Calls Try.prog 17 #[.int .i64 4, .int .i64 6, .agg #[.int .i64 c, .int .i64 b, .slice da dn dc], .bool false] w fun r w' => r = .returned (liveM 4 6 c b da dn dc false).toV ∧ Below w.heap.size w w' := by
  go_enter Try.func17, Try.ntmps17
  go_wp2
  refine bodyPost_ret (v := Stp.toV (liveM 4 6 c b da dn dc false)) (by simp [results, Try.results17, go_sem, liveM, secondM, Stp.toV]) rfl ⟨rfl, ?_⟩
  repeat (first | with_reducible refine below_alloc ?_ _ | with_reducible refine bel_set ?_ (by simp) _)
  with_reducible exact Below.refl _ _

set_option maxHeartbeats 1000000 in
theorem rlive_up (s : Int) (h : s ≠ 4) (c b : Int) (da : Option Addr) (dn dc : Nat) (wins : Bool) (w : World) :
    Calls Try.prog 17 #[.int .i64 s, .int .i64 6, .agg #[.int .i64 c, .int .i64 b, .slice da dn dc], .bool wins] w fun r w' => r = .returned (liveM s 6 c b da dn dc wins).toV ∧ Below w.heap.size w w' := by
  go_enter Try.func17, Try.ntmps17
  go_wp2
  refine bodyPost_ret (v := Stp.toV (liveM s 6 c b da dn dc wins)) (by simp [results, Try.results17, go_sem, liveM, secondM, h, Stp.toV]) rfl ⟨rfl, ?_⟩
  repeat (first | with_reducible refine below_alloc ?_ _ | with_reducible refine bel_set ?_ (by simp) _)
  with_reducible exact Below.refl _ _

set_option maxHeartbeats 1000000 in
theorem rlive_down3 (c b : Int) (da : Option Addr) (dn dc : Nat) (wins : Bool) (w : World) :
    Calls Try.prog 17 #[.int .i64 3, .int .i64 7, .agg #[.int .i64 c, .int .i64 b, .slice da dn dc], .bool wins] w fun r w' => r = .returned (liveM 3 7 c b da dn dc wins).toV ∧ Below w.heap.size w w' := by
  go_enter Try.func17, Try.ntmps17
  go_wp2
  refine bodyPost_ret (v := Stp.toV (liveM 3 7 c b da dn dc wins)) (by simp [results, Try.results17, go_sem, liveM, lostM, Stp.toV]) rfl ⟨rfl, ?_⟩
  repeat (first | with_reducible refine below_alloc ?_ _ | with_reducible refine bel_set ?_ (by simp) _)
  with_reducible exact Below.refl _ _

set_option maxHeartbeats 1000000 in
theorem rlive_down (s : Int) (h : s ≠ 3) (c b : Int) (da : Option Addr) (dn dc : Nat) (wins : Bool) (w : World) :
    Calls Try.prog 17 #[.int .i64 s, .int .i64 7, .agg #[.int .i64 c, .int .i64 b, .slice da dn dc], .bool wins] w fun r w' => r = .returned (liveM s 7 c b da dn dc wins).toV ∧ Below w.heap.size w w' := by
  go_enter Try.func17, Try.ntmps17
  go_wp2_with (go_at_call 22; refine (rfalls_any _ _ _ _ _ _ _).mono ?_; rintro r w1 ⟨rfl, hb⟩; dsimp only [fallsM, Stp.toV]; have hs : w.heap.size + 1 < w1.heap.size := (Nat.lt_of_lt_of_le (by simp) hb.size); have hr : ∀ j, w1.cell? ⟨w.heap.size + 1, j, none⟩ = (#[.int .i64 0, .bool false, .bool false, .bool false, .bool false, .int .i64 0, .int .i64 0, .slice none 0 0, .int .i64 0, .int .i64 0, .int .i64 0, .bool false] : Array Value)[j]? := (fun j => by rw [hb.cell (by simp)]; exact cell_of (heap_alloc_new' (World.size_alloc _ _).symm) j); have hf : ∀ j, w1.frozen? ⟨w.heap.size + 1, j, none⟩ = false := (fun j => by rw [hb.frozen (by simp)]; exact free_of (heap_alloc_new' (World.size_alloc _ _).symm) j))
  refine bodyPost_ret (v := Stp.toV (liveM s 7 c b da dn dc wins)) (by simp [results, Try.results17, go_sem, liveM, lostM, fallsM, h, Stp.toV, hr]) rfl ⟨rfl, ?_⟩
  repeat (first | with_reducible refine below_alloc ?_ _ | with_reducible refine bel_set ?_ (by simp) _)
  with_reducible exact bel_call (below_alloc (below_alloc (Below.refl _ _) _) _) hb

set_option maxHeartbeats 1000000 in
theorem rlive_notice (s : Int) (c b : Int) (da : Option Addr) (dn dc : Nat) (wins : Bool) (w : World) :
    Calls Try.prog 17 #[.int .i64 s, .int .i64 11, .agg #[.int .i64 c, .int .i64 b, .slice da dn dc], .bool wins] w fun r w' => r = .returned (liveM s 11 c b da dn dc wins).toV ∧ Below w.heap.size w w' := by
  go_enter Try.func17, Try.ntmps17
  go_wp2_with (go_at_call 22; refine (rfalls_any _ _ _ _ _ _ _).mono ?_; rintro r w1 ⟨rfl, hb⟩; dsimp only [fallsM, Stp.toV]; have hs : w.heap.size + 1 < w1.heap.size := (Nat.lt_of_lt_of_le (by simp) hb.size); have hr : ∀ j, w1.cell? ⟨w.heap.size + 1, j, none⟩ = (#[.int .i64 0, .bool false, .bool false, .bool false, .bool false, .int .i64 0, .int .i64 0, .slice none 0 0, .int .i64 0, .int .i64 0, .int .i64 0, .bool false] : Array Value)[j]? := (fun j => by rw [hb.cell (by simp)]; exact cell_of (heap_alloc_new' (World.size_alloc _ _).symm) j); have hf : ∀ j, w1.frozen? ⟨w.heap.size + 1, j, none⟩ = false := (fun j => by rw [hb.frozen (by simp)]; exact free_of (heap_alloc_new' (World.size_alloc _ _).symm) j))
  refine bodyPost_ret (v := Stp.toV (liveM s 11 c b da dn dc wins)) (by simp [results, Try.results17, go_sem, liveM, fallsM, Stp.toV, hr]) rfl ⟨rfl, ?_⟩
  repeat (first | with_reducible refine below_alloc ?_ _ | with_reducible refine bel_set ?_ (by simp) _)
  with_reducible exact bel_call (below_alloc (below_alloc (Below.refl _ _) _) _) hb

set_option maxHeartbeats 1000000 in
theorem rlive_hold (s : Int) (c b : Int) (da : Option Addr) (dn dc : Nat) (wins : Bool) (w : World) :
    Calls Try.prog 17 #[.int .i64 s, .int .i64 4, .agg #[.int .i64 c, .int .i64 b, .slice da dn dc], .bool wins] w fun r w' => r = .returned (liveM s 4 c b da dn dc wins).toV ∧ Below w.heap.size w w' := by
  go_enter Try.func17, Try.ntmps17
  go_wp2_with (go_at_call 22; refine (rfalls_any _ _ _ _ _ _ _).mono ?_; rintro r w1 ⟨rfl, hb⟩; dsimp only [fallsM, Stp.toV]; have hs : w.heap.size + 1 < w1.heap.size := (Nat.lt_of_lt_of_le (by simp) hb.size); have hr : ∀ j, w1.cell? ⟨w.heap.size + 1, j, none⟩ = (#[.int .i64 0, .bool false, .bool false, .bool false, .bool false, .int .i64 0, .int .i64 0, .slice none 0 0, .int .i64 0, .int .i64 0, .int .i64 0, .bool false] : Array Value)[j]? := (fun j => by rw [hb.cell (by simp)]; exact cell_of (heap_alloc_new' (World.size_alloc _ _).symm) j); have hf : ∀ j, w1.frozen? ⟨w.heap.size + 1, j, none⟩ = false := (fun j => by rw [hb.frozen (by simp)]; exact free_of (heap_alloc_new' (World.size_alloc _ _).symm) j))
  refine bodyPost_ret (v := Stp.toV (liveM s 4 c b da dn dc wins)) (by simp [results, Try.results17, go_sem, liveM, fallsM, Stp.toV, hr]) rfl ⟨rfl, ?_⟩
  repeat (first | with_reducible refine below_alloc ?_ _ | with_reducible refine bel_set ?_ (by simp) _)
  with_reducible exact bel_call (below_alloc (below_alloc (Below.refl _ _) _) _) hb

set_option maxHeartbeats 1000000 in
theorem rlive_stop (s : Int) (c b : Int) (da : Option Addr) (dn dc : Nat) (wins : Bool) (w : World) :
    Calls Try.prog 17 #[.int .i64 s, .int .i64 2, .agg #[.int .i64 c, .int .i64 b, .slice da dn dc], .bool wins] w fun r w' => r = .returned (liveM s 2 c b da dn dc wins).toV ∧ Below w.heap.size w w' := by
  go_enter Try.func17, Try.ntmps17
  go_wp2
  refine bodyPost_ret (v := Stp.toV (liveM s 2 c b da dn dc wins)) (by simp [results, Try.results17, go_sem, liveM, fallsM, Stp.toV]) rfl ⟨rfl, ?_⟩
  repeat (first | with_reducible refine below_alloc ?_ _ | with_reducible refine bel_set ?_ (by simp) _)
  with_reducible exact Below.refl _ _

set_option maxHeartbeats 1000000 in
theorem rlive_wrong (s : Int) (c b : Int) (da : Option Addr) (dn dc : Nat) (wins : Bool) (w : World) :
    Calls Try.prog 17 #[.int .i64 s, .int .i64 12, .agg #[.int .i64 c, .int .i64 b, .slice da dn dc], .bool wins] w fun r w' => r = .returned (liveM s 12 c b da dn dc wins).toV ∧ Below w.heap.size w w' := by
  go_enter Try.func17, Try.ntmps17
  go_wp2_with (go_at_call 22; refine (rfalls_any _ _ _ _ _ _ _).mono ?_; rintro r w1 ⟨rfl, hb⟩; dsimp only [fallsM, Stp.toV]; have hs : w.heap.size + 1 < w1.heap.size := (Nat.lt_of_lt_of_le (by simp) hb.size); have hr : ∀ j, w1.cell? ⟨w.heap.size + 1, j, none⟩ = (#[.int .i64 0, .bool false, .bool false, .bool false, .bool false, .int .i64 0, .int .i64 0, .slice none 0 0, .int .i64 0, .int .i64 0, .int .i64 0, .bool false] : Array Value)[j]? := (fun j => by rw [hb.cell (by simp)]; exact cell_of (heap_alloc_new' (World.size_alloc _ _).symm) j); have hf : ∀ j, w1.frozen? ⟨w.heap.size + 1, j, none⟩ = false := (fun j => by rw [hb.frozen (by simp)]; exact free_of (heap_alloc_new' (World.size_alloc _ _).symm) j))
  refine bodyPost_ret (v := Stp.toV (liveM s 12 c b da dn dc wins)) (by simp [results, Try.results17, go_sem, liveM, fallsM, Stp.toV, hr]) rfl ⟨rfl, ?_⟩
  repeat (first | with_reducible refine below_alloc ?_ _ | with_reducible refine bel_set ?_ (by simp) _)
  with_reducible exact bel_call (below_alloc (below_alloc (Below.refl _ _) _) _) hb

set_option maxHeartbeats 1000000 in
theorem rlive_keep3 (c b : Int) (da : Option Addr) (dn dc : Nat) (wins : Bool) (w : World) :
    Calls Try.prog 17 #[.int .i64 3, .int .i64 5, .agg #[.int .i64 c, .int .i64 b, .slice da dn dc], .bool wins] w fun r w' => r = .returned (liveM 3 5 c b da dn dc wins).toV ∧ Below w.heap.size w w' := by
  go_enter Try.func17, Try.ntmps17
  go_wp2
  refine bodyPost_ret (v := Stp.toV (liveM 3 5 c b da dn dc wins)) (by simp [results, Try.results17, go_sem, liveM, Stp.toV]) rfl ⟨rfl, ?_⟩
  repeat (first | with_reducible refine below_alloc ?_ _ | with_reducible refine bel_set ?_ (by simp) _)
  with_reducible exact Below.refl _ _

set_option maxHeartbeats 1000000 in
theorem rlive_keep (s : Int) (h : s ≠ 3) (c b : Int) (da : Option Addr) (dn dc : Nat) (wins : Bool) (w : World) :
    Calls Try.prog 17 #[.int .i64 s, .int .i64 5, .agg #[.int .i64 c, .int .i64 b, .slice da dn dc], .bool wins] w fun r w' => r = .returned (liveM s 5 c b da dn dc wins).toV ∧ Below w.heap.size w w' := by
  go_enter Try.func17, Try.ntmps17
  go_wp2
  refine bodyPost_ret (v := Stp.toV (liveM s 5 c b da dn dc wins)) (by simp [results, Try.results17, go_sem, liveM, h, Stp.toV]) rfl ⟨rfl, ?_⟩
  repeat (first | with_reducible refine below_alloc ?_ _ | with_reducible refine bel_set ?_ (by simp) _)
  with_reducible exact Below.refl _ _

set_option maxHeartbeats 1000000 in
theorem rlive_m38 (c b : Int) (da : Option Addr) (dn dc : Nat) (wins : Bool) (w : World) :
    Calls Try.prog 17 #[.int .i64 3, .int .i64 8, .agg #[.int .i64 c, .int .i64 b, .slice da dn dc], .bool wins] w fun r w' => r = .returned (liveM 3 8 c b da dn dc wins).toV ∧ Below w.heap.size w w' := by
  go_enter Try.func17, Try.ntmps17
  go_wp2
  refine bodyPost_ret (v := Stp.toV (liveM 3 8 c b da dn dc wins)) (by simp [results, Try.results17, go_sem, liveM, messageM, Stp.toV]) rfl ⟨rfl, ?_⟩
  repeat (first | with_reducible refine below_alloc ?_ _ | with_reducible refine bel_set ?_ (by simp) _)
  with_reducible exact Below.refl _ _

set_option maxHeartbeats 1000000 in
theorem rlive_m39 (c b : Int) (da : Option Addr) (dn dc : Nat) (wins : Bool) (w : World) :
    Calls Try.prog 17 #[.int .i64 3, .int .i64 9, .agg #[.int .i64 c, .int .i64 b, .slice da dn dc], .bool wins] w fun r w' => r = .returned (liveM 3 9 c b da dn dc wins).toV ∧ Below w.heap.size w w' := by
  go_enter Try.func17, Try.ntmps17
  go_wp2_with (go_at_call 22; refine (rfalls_any _ _ _ _ _ _ _).mono ?_; rintro r w1 ⟨rfl, hb⟩; dsimp only [fallsM, Stp.toV]; have hs : w.heap.size + 1 < w1.heap.size := (Nat.lt_of_lt_of_le (by simp) hb.size); have hr : ∀ j, w1.cell? ⟨w.heap.size + 1, j, none⟩ = (#[.int .i64 0, .bool false, .bool false, .bool false, .bool false, .int .i64 0, .int .i64 0, .slice none 0 0, .int .i64 0, .int .i64 0, .int .i64 0, .bool false] : Array Value)[j]? := (fun j => by rw [hb.cell (by simp)]; exact cell_of (heap_alloc_new' (World.size_alloc _ _).symm) j); have hf : ∀ j, w1.frozen? ⟨w.heap.size + 1, j, none⟩ = false := (fun j => by rw [hb.frozen (by simp)]; exact free_of (heap_alloc_new' (World.size_alloc _ _).symm) j))
  refine bodyPost_ret (v := Stp.toV (liveM 3 9 c b da dn dc wins)) (by simp [results, Try.results17, go_sem, liveM, messageM, fallsM, Stp.toV, hr]) rfl ⟨rfl, ?_⟩
  repeat (first | with_reducible refine below_alloc ?_ _ | with_reducible refine bel_set ?_ (by simp) _)
  with_reducible exact bel_call (below_alloc (below_alloc (Below.refl _ _) _) _) hb

set_option maxHeartbeats 1000000 in
theorem rlive_m310 (c b : Int) (da : Option Addr) (dn dc : Nat) (wins : Bool) (w : World) :
    Calls Try.prog 17 #[.int .i64 3, .int .i64 10, .agg #[.int .i64 c, .int .i64 b, .slice da dn dc], .bool wins] w fun r w' => r = .returned (liveM 3 10 c b da dn dc wins).toV ∧ Below w.heap.size w w' := by
  go_enter Try.func17, Try.ntmps17
  go_wp2_with (go_at_call 22; refine (rfalls_any _ _ _ _ _ _ _).mono ?_; rintro r w1 ⟨rfl, hb⟩; dsimp only [fallsM, Stp.toV]; have hs : w.heap.size + 1 < w1.heap.size := (Nat.lt_of_lt_of_le (by simp) hb.size); have hr : ∀ j, w1.cell? ⟨w.heap.size + 1, j, none⟩ = (#[.int .i64 0, .bool false, .bool false, .bool false, .bool false, .int .i64 0, .int .i64 0, .slice none 0 0, .int .i64 0, .int .i64 0, .int .i64 0, .bool false] : Array Value)[j]? := (fun j => by rw [hb.cell (by simp)]; exact cell_of (heap_alloc_new' (World.size_alloc _ _).symm) j); have hf : ∀ j, w1.frozen? ⟨w.heap.size + 1, j, none⟩ = false := (fun j => by rw [hb.frozen (by simp)]; exact free_of (heap_alloc_new' (World.size_alloc _ _).symm) j))
  refine bodyPost_ret (v := Stp.toV (liveM 3 10 c b da dn dc wins)) (by simp [results, Try.results17, go_sem, liveM, messageM, fallsM, Stp.toV, hr]) rfl ⟨rfl, ?_⟩
  repeat (first | with_reducible refine below_alloc ?_ _ | with_reducible refine bel_set ?_ (by simp) _)
  with_reducible exact bel_call (below_alloc (below_alloc (Below.refl _ _) _) _) hb

set_option maxHeartbeats 1000000 in
theorem rlive_m48 (c b : Int) (da : Option Addr) (dn dc : Nat) (wins : Bool) (w : World) :
    Calls Try.prog 17 #[.int .i64 4, .int .i64 8, .agg #[.int .i64 c, .int .i64 b, .slice da dn dc], .bool wins] w fun r w' => r = .returned (liveM 4 8 c b da dn dc wins).toV ∧ Below w.heap.size w w' := by
  go_enter Try.func17, Try.ntmps17
  go_wp2_with (go_at_call 22; refine (rfalls_any _ _ _ _ _ _ _).mono ?_; rintro r w1 ⟨rfl, hb⟩; dsimp only [fallsM, Stp.toV]; have hs : w.heap.size + 1 < w1.heap.size := (Nat.lt_of_lt_of_le (by simp) hb.size); have hr : ∀ j, w1.cell? ⟨w.heap.size + 1, j, none⟩ = (#[.int .i64 0, .bool false, .bool false, .bool false, .bool false, .int .i64 0, .int .i64 0, .slice none 0 0, .int .i64 0, .int .i64 0, .int .i64 0, .bool false] : Array Value)[j]? := (fun j => by rw [hb.cell (by simp)]; exact cell_of (heap_alloc_new' (World.size_alloc _ _).symm) j); have hf : ∀ j, w1.frozen? ⟨w.heap.size + 1, j, none⟩ = false := (fun j => by rw [hb.frozen (by simp)]; exact free_of (heap_alloc_new' (World.size_alloc _ _).symm) j))
  refine bodyPost_ret (v := Stp.toV (liveM 4 8 c b da dn dc wins)) (by simp [results, Try.results17, go_sem, liveM, messageM, fallsM, Stp.toV, hr]) rfl ⟨rfl, ?_⟩
  repeat (first | with_reducible refine below_alloc ?_ _ | with_reducible refine bel_set ?_ (by simp) _)
  with_reducible exact bel_call (below_alloc (below_alloc (Below.refl _ _) _) _) hb

set_option maxHeartbeats 1000000 in
theorem rlive_m49 (c b : Int) (da : Option Addr) (dn dc : Nat) (wins : Bool) (w : World) :
    Calls Try.prog 17 #[.int .i64 4, .int .i64 9, .agg #[.int .i64 c, .int .i64 b, .slice da dn dc], .bool wins] w fun r w' => r = .returned (liveM 4 9 c b da dn dc wins).toV ∧ Below w.heap.size w w' := by
  go_enter Try.func17, Try.ntmps17
  go_wp2
  refine bodyPost_ret (v := Stp.toV (liveM 4 9 c b da dn dc wins)) (by simp [results, Try.results17, go_sem, liveM, messageM, Stp.toV]) rfl ⟨rfl, ?_⟩
  repeat (first | with_reducible refine below_alloc ?_ _ | with_reducible refine bel_set ?_ (by simp) _)
  with_reducible exact Below.refl _ _

set_option maxHeartbeats 1000000 in
theorem rlive_m410 (c b : Int) (da : Option Addr) (dn dc : Nat) (wins : Bool) (w : World) :
    Calls Try.prog 17 #[.int .i64 4, .int .i64 10, .agg #[.int .i64 c, .int .i64 b, .slice da dn dc], .bool wins] w fun r w' => r = .returned (liveM 4 10 c b da dn dc wins).toV ∧ Below w.heap.size w w' := by
  go_enter Try.func17, Try.ntmps17
  go_wp2_with (go_at_call 22; refine (rfalls_any _ _ _ _ _ _ _).mono ?_; rintro r w1 ⟨rfl, hb⟩; dsimp only [fallsM, Stp.toV]; have hs : w.heap.size + 1 < w1.heap.size := (Nat.lt_of_lt_of_le (by simp) hb.size); have hr : ∀ j, w1.cell? ⟨w.heap.size + 1, j, none⟩ = (#[.int .i64 0, .bool false, .bool false, .bool false, .bool false, .int .i64 0, .int .i64 0, .slice none 0 0, .int .i64 0, .int .i64 0, .int .i64 0, .bool false] : Array Value)[j]? := (fun j => by rw [hb.cell (by simp)]; exact cell_of (heap_alloc_new' (World.size_alloc _ _).symm) j); have hf : ∀ j, w1.frozen? ⟨w.heap.size + 1, j, none⟩ = false := (fun j => by rw [hb.frozen (by simp)]; exact free_of (heap_alloc_new' (World.size_alloc _ _).symm) j))
  refine bodyPost_ret (v := Stp.toV (liveM 4 10 c b da dn dc wins)) (by simp [results, Try.results17, go_sem, liveM, messageM, fallsM, Stp.toV, hr]) rfl ⟨rfl, ?_⟩
  repeat (first | with_reducible refine below_alloc ?_ _ | with_reducible refine bel_set ?_ (by simp) _)
  with_reducible exact bel_call (below_alloc (below_alloc (Below.refl _ _) _) _) hb

set_option maxHeartbeats 1000000 in
theorem rlive_m58 (c b : Int) (da : Option Addr) (dn dc : Nat) (wins : Bool) (w : World) :
    Calls Try.prog 17 #[.int .i64 5, .int .i64 8, .agg #[.int .i64 c, .int .i64 b, .slice da dn dc], .bool wins] w fun r w' => r = .returned (liveM 5 8 c b da dn dc wins).toV ∧ Below w.heap.size w w' := by
  go_enter Try.func17, Try.ntmps17
  go_wp2_with (go_at_call 22; refine (rfalls_any _ _ _ _ _ _ _).mono ?_; rintro r w1 ⟨rfl, hb⟩; dsimp only [fallsM, Stp.toV]; have hs : w.heap.size + 1 < w1.heap.size := (Nat.lt_of_lt_of_le (by simp) hb.size); have hr : ∀ j, w1.cell? ⟨w.heap.size + 1, j, none⟩ = (#[.int .i64 0, .bool false, .bool false, .bool false, .bool false, .int .i64 0, .int .i64 0, .slice none 0 0, .int .i64 0, .int .i64 0, .int .i64 0, .bool false] : Array Value)[j]? := (fun j => by rw [hb.cell (by simp)]; exact cell_of (heap_alloc_new' (World.size_alloc _ _).symm) j); have hf : ∀ j, w1.frozen? ⟨w.heap.size + 1, j, none⟩ = false := (fun j => by rw [hb.frozen (by simp)]; exact free_of (heap_alloc_new' (World.size_alloc _ _).symm) j))
  refine bodyPost_ret (v := Stp.toV (liveM 5 8 c b da dn dc wins)) (by simp [results, Try.results17, go_sem, liveM, messageM, fallsM, Stp.toV, hr]) rfl ⟨rfl, ?_⟩
  repeat (first | with_reducible refine below_alloc ?_ _ | with_reducible refine bel_set ?_ (by simp) _)
  with_reducible exact bel_call (below_alloc (below_alloc (Below.refl _ _) _) _) hb

set_option maxHeartbeats 1000000 in
theorem rlive_m59 (c b : Int) (da : Option Addr) (dn dc : Nat) (wins : Bool) (w : World) :
    Calls Try.prog 17 #[.int .i64 5, .int .i64 9, .agg #[.int .i64 c, .int .i64 b, .slice da dn dc], .bool wins] w fun r w' => r = .returned (liveM 5 9 c b da dn dc wins).toV ∧ Below w.heap.size w w' := by
  go_enter Try.func17, Try.ntmps17
  go_wp2
  refine bodyPost_ret (v := Stp.toV (liveM 5 9 c b da dn dc wins)) (by simp [results, Try.results17, go_sem, liveM, messageM, Stp.toV]) rfl ⟨rfl, ?_⟩
  repeat (first | with_reducible refine below_alloc ?_ _ | with_reducible refine bel_set ?_ (by simp) _)
  with_reducible exact Below.refl _ _

set_option maxHeartbeats 1000000 in
theorem rlive_m510 (c b : Int) (da : Option Addr) (dn dc : Nat) (wins : Bool) (w : World) :
    Calls Try.prog 17 #[.int .i64 5, .int .i64 10, .agg #[.int .i64 c, .int .i64 b, .slice da dn dc], .bool wins] w fun r w' => r = .returned (liveM 5 10 c b da dn dc wins).toV ∧ Below w.heap.size w w' := by
  go_enter Try.func17, Try.ntmps17
  go_wp2
  refine bodyPost_ret (v := Stp.toV (liveM 5 10 c b da dn dc wins)) (by simp [results, Try.results17, go_sem, liveM, messageM, Stp.toV]) rfl ⟨rfl, ?_⟩
  repeat (first | with_reducible refine below_alloc ?_ _ | with_reducible refine bel_set ?_ (by simp) _)
  with_reducible exact Below.refl _ _

set_option maxHeartbeats 1000000 in
theorem rlive_else (s : Int) (e : Int) (n6 : e ≠ 6) (n7 : e ≠ 7) (n8 : e ≠ 8) (n9 : e ≠ 9) (n10 : e ≠ 10) (n11 : e ≠ 11) (n4 : e ≠ 4) (n12 : e ≠ 12) (n2 : e ≠ 2) (n5 : e ≠ 5) (c b : Int) (da : Option Addr) (dn dc : Nat) (wins : Bool) (w : World) :
    Calls Try.prog 17 #[.int .i64 s, .int .i64 e, .agg #[.int .i64 c, .int .i64 b, .slice da dn dc], .bool wins] w fun r w' => r = .returned (liveM s e c b da dn dc wins).toV ∧ Below w.heap.size w w' := by
  go_enter Try.func17, Try.ntmps17
  go_wp2
  refine bodyPost_ret (v := Stp.toV (liveM s e c b da dn dc wins)) (by simp [results, Try.results17, go_sem, liveM, n6, n7, n8, n9, n10, n11, n4, n12, n2, n5, Stp.toV]) rfl ⟨rfl, ?_⟩
  repeat (first | with_reducible refine below_alloc ?_ _ | with_reducible refine bel_set ?_ (by simp) _)
  with_reducible exact Below.refl _ _

theorem rlive_any (s e : Int) (hq : s = 3 ∨ s = 4 ∨ s = 5) (c b : Int) (da : Option Addr) (dn dc : Nat) (wins : Bool) (w : World) :
    Calls Try.prog 17 #[.int .i64 s, .int .i64 e, .agg #[.int .i64 c, .int .i64 b, .slice da dn dc], .bool wins] w fun r w' => r = .returned (liveM s e c b da dn dc wins).toV ∧ Below w.heap.size w w' := by
  by_cases n2 : e = 2
  · subst n2; exact rlive_stop s c b da dn dc wins w
  by_cases n4 : e = 4
  · subst n4; exact rlive_hold s c b da dn dc wins w
  by_cases n5 : e = 5
  · subst n5
    by_cases h : s = 3
    · subst h; exact rlive_keep3 c b da dn dc wins w
    · exact rlive_keep s h c b da dn dc wins w
  by_cases n6 : e = 6
  · subst n6
    by_cases h : s = 4
    · subst h
      cases wins
      · exact rlive_up4n c b da dn dc w
      · exact rlive_up4 c b da dn dc w
    · exact rlive_up s h c b da dn dc wins w
  by_cases n7 : e = 7
  · subst n7
    by_cases h : s = 3
    · subst h; exact rlive_down3 c b da dn dc wins w
    · exact rlive_down s h c b da dn dc wins w
  by_cases n8 : e = 8
  · subst n8
    rcases hq with rfl | rfl | rfl
    · exact rlive_m38 c b da dn dc wins w
    · exact rlive_m48 c b da dn dc wins w
    · exact rlive_m58 c b da dn dc wins w
  by_cases n9 : e = 9
  · subst n9
    rcases hq with rfl | rfl | rfl
    · exact rlive_m39 c b da dn dc wins w
    · exact rlive_m49 c b da dn dc wins w
    · exact rlive_m59 c b da dn dc wins w
  by_cases n10 : e = 10
  · subst n10
    rcases hq with rfl | rfl | rfl
    · exact rlive_m310 c b da dn dc wins w
    · exact rlive_m410 c b da dn dc wins w
    · exact rlive_m510 c b da dn dc wins w
  by_cases n11 : e = 11
  · subst n11; exact rlive_notice s c b da dn dc wins w
  by_cases n12 : e = 12
  · subst n12; exact rlive_wrong s c b da dn dc wins w
  exact rlive_else s e n6 n7 n8 n9 n10 n11 n4 n12 n2 n5 c b da dn dc wins w

set_option maxHeartbeats 1000000 in
theorem rnext_n0 (e : Int) (c b : Int) (da : Option Addr) (dn dc : Nat) (wins : Bool) (w : World) :
    Calls Try.prog 9 #[.int .i64 0, .int .i64 e, .agg #[.int .i64 c, .int .i64 b, .slice da dn dc], .bool wins] w fun r w' => r = .returned (nextM 0 e c b da dn dc wins).toV ∧ Below w.heap.size w w' := by
  go_enter Try.func9, Try.ntmps9
  go_wp2_with (go_at_call 15; refine (ridle_any _ _).mono ?_; rintro r w1 ⟨rfl, hb⟩; dsimp only [Stp.toV]; have hs : w.heap.size + 1 < w1.heap.size := (Nat.lt_of_lt_of_le (by simp) hb.size); have hr : ∀ j, w1.cell? ⟨w.heap.size + 1, j, none⟩ = (#[.int .i64 0, .bool false, .bool false, .bool false, .bool false, .int .i64 0, .int .i64 0, .slice none 0 0, .int .i64 0, .int .i64 0, .int .i64 0, .bool false] : Array Value)[j]? := (fun j => by rw [hb.cell (by simp)]; exact cell_of (heap_alloc_new' (World.size_alloc _ _).symm) j); have hf : ∀ j, w1.frozen? ⟨w.heap.size + 1, j, none⟩ = false := (fun j => by rw [hb.frozen (by simp)]; exact free_of (heap_alloc_new' (World.size_alloc _ _).symm) j))
  refine bodyPost_ret (v := Stp.toV (nextM 0 e c b da dn dc wins)) (by simp [results, Try.results9, go_sem, nextM, Stp.toV, hr]) rfl ⟨rfl, ?_⟩
  repeat (first | with_reducible refine below_alloc ?_ _ | with_reducible refine bel_set ?_ (by simp) _)
  with_reducible exact bel_call (below_alloc (below_alloc (Below.refl _ _) _) _) hb

set_option maxHeartbeats 1000000 in
theorem rnext_n1 (e : Int) (c b : Int) (da : Option Addr) (dn dc : Nat) (wins : Bool) (w : World) :
    Calls Try.prog 9 #[.int .i64 1, .int .i64 e, .agg #[.int .i64 c, .int .i64 b, .slice da dn dc], .bool wins] w fun r w' => r = .returned (nextM 1 e c b da dn dc wins).toV ∧ Below w.heap.size w w' := by
  go_enter Try.func9, Try.ntmps9
  go_wp2_with (go_at_call 16; refine (rwaits_any _ _ _).mono ?_; rintro r w1 ⟨rfl, hb⟩; dsimp only [Stp.toV]; have hs : w.heap.size + 1 < w1.heap.size := (Nat.lt_of_lt_of_le (by simp) hb.size); have hr : ∀ j, w1.cell? ⟨w.heap.size + 1, j, none⟩ = (#[.int .i64 0, .bool false, .bool false, .bool false, .bool false, .int .i64 0, .int .i64 0, .slice none 0 0, .int .i64 0, .int .i64 0, .int .i64 0, .bool false] : Array Value)[j]? := (fun j => by rw [hb.cell (by simp)]; exact cell_of (heap_alloc_new' (World.size_alloc _ _).symm) j); have hf : ∀ j, w1.frozen? ⟨w.heap.size + 1, j, none⟩ = false := (fun j => by rw [hb.frozen (by simp)]; exact free_of (heap_alloc_new' (World.size_alloc _ _).symm) j))
  refine bodyPost_ret (v := Stp.toV (nextM 1 e c b da dn dc wins)) (by simp [results, Try.results9, go_sem, nextM, Stp.toV, hr]) rfl ⟨rfl, ?_⟩
  repeat (first | with_reducible refine below_alloc ?_ _ | with_reducible refine bel_set ?_ (by simp) _)
  with_reducible exact bel_call (below_alloc (below_alloc (Below.refl _ _) _) _) hb

set_option maxHeartbeats 1000000 in
theorem rnext_n2 (e : Int) (c b : Int) (da : Option Addr) (dn dc : Nat) (wins : Bool) (w : World) :
    Calls Try.prog 9 #[.int .i64 2, .int .i64 e, .agg #[.int .i64 c, .int .i64 b, .slice da dn dc], .bool wins] w fun r w' => r = .returned (nextM 2 e c b da dn dc wins).toV ∧ Below w.heap.size w w' := by
  go_enter Try.func9, Try.ntmps9
  go_wp2_with (go_at_call 16; refine (rwaits_any _ _ _).mono ?_; rintro r w1 ⟨rfl, hb⟩; dsimp only [Stp.toV]; have hs : w.heap.size + 1 < w1.heap.size := (Nat.lt_of_lt_of_le (by simp) hb.size); have hr : ∀ j, w1.cell? ⟨w.heap.size + 1, j, none⟩ = (#[.int .i64 0, .bool false, .bool false, .bool false, .bool false, .int .i64 0, .int .i64 0, .slice none 0 0, .int .i64 0, .int .i64 0, .int .i64 0, .bool false] : Array Value)[j]? := (fun j => by rw [hb.cell (by simp)]; exact cell_of (heap_alloc_new' (World.size_alloc _ _).symm) j); have hf : ∀ j, w1.frozen? ⟨w.heap.size + 1, j, none⟩ = false := (fun j => by rw [hb.frozen (by simp)]; exact free_of (heap_alloc_new' (World.size_alloc _ _).symm) j))
  refine bodyPost_ret (v := Stp.toV (nextM 2 e c b da dn dc wins)) (by simp [results, Try.results9, go_sem, nextM, Stp.toV, hr]) rfl ⟨rfl, ?_⟩
  repeat (first | with_reducible refine below_alloc ?_ _ | with_reducible refine bel_set ?_ (by simp) _)
  with_reducible exact bel_call (below_alloc (below_alloc (Below.refl _ _) _) _) hb

set_option maxHeartbeats 1000000 in
theorem rnext_n3 (e : Int) (c b : Int) (da : Option Addr) (dn dc : Nat) (wins : Bool) (w : World) :
    Calls Try.prog 9 #[.int .i64 3, .int .i64 e, .agg #[.int .i64 c, .int .i64 b, .slice da dn dc], .bool wins] w fun r w' => r = .returned (nextM 3 e c b da dn dc wins).toV ∧ Below w.heap.size w w' := by
  go_enter Try.func9, Try.ntmps9
  go_wp2_with (go_at_call 17; refine (rlive_any _ _ (by simp) _ _ _ _ _ _ _).mono ?_; rintro r w1 ⟨rfl, hb⟩; dsimp only [Stp.toV]; have hs : w.heap.size + 1 < w1.heap.size := (Nat.lt_of_lt_of_le (by simp) hb.size); have hr : ∀ j, w1.cell? ⟨w.heap.size + 1, j, none⟩ = (#[.int .i64 0, .bool false, .bool false, .bool false, .bool false, .int .i64 0, .int .i64 0, .slice none 0 0, .int .i64 0, .int .i64 0, .int .i64 0, .bool false] : Array Value)[j]? := (fun j => by rw [hb.cell (by simp)]; exact cell_of (heap_alloc_new' (World.size_alloc _ _).symm) j); have hf : ∀ j, w1.frozen? ⟨w.heap.size + 1, j, none⟩ = false := (fun j => by rw [hb.frozen (by simp)]; exact free_of (heap_alloc_new' (World.size_alloc _ _).symm) j))
  refine bodyPost_ret (v := Stp.toV (nextM 3 e c b da dn dc wins)) (by simp [results, Try.results9, go_sem, nextM, Stp.toV, hr]) rfl ⟨rfl, ?_⟩
  repeat (first | with_reducible refine below_alloc ?_ _ | with_reducible refine bel_set ?_ (by simp) _)
  with_reducible exact bel_call (below_alloc (below_alloc (Below.refl _ _) _) _) hb

set_option maxHeartbeats 1000000 in
theorem rnext_n4 (e : Int) (c b : Int) (da : Option Addr) (dn dc : Nat) (wins : Bool) (w : World) :
    Calls Try.prog 9 #[.int .i64 4, .int .i64 e, .agg #[.int .i64 c, .int .i64 b, .slice da dn dc], .bool wins] w fun r w' => r = .returned (nextM 4 e c b da dn dc wins).toV ∧ Below w.heap.size w w' := by
  go_enter Try.func9, Try.ntmps9
  go_wp2_with (go_at_call 17; refine (rlive_any _ _ (by simp) _ _ _ _ _ _ _).mono ?_; rintro r w1 ⟨rfl, hb⟩; dsimp only [Stp.toV]; have hs : w.heap.size + 1 < w1.heap.size := (Nat.lt_of_lt_of_le (by simp) hb.size); have hr : ∀ j, w1.cell? ⟨w.heap.size + 1, j, none⟩ = (#[.int .i64 0, .bool false, .bool false, .bool false, .bool false, .int .i64 0, .int .i64 0, .slice none 0 0, .int .i64 0, .int .i64 0, .int .i64 0, .bool false] : Array Value)[j]? := (fun j => by rw [hb.cell (by simp)]; exact cell_of (heap_alloc_new' (World.size_alloc _ _).symm) j); have hf : ∀ j, w1.frozen? ⟨w.heap.size + 1, j, none⟩ = false := (fun j => by rw [hb.frozen (by simp)]; exact free_of (heap_alloc_new' (World.size_alloc _ _).symm) j))
  refine bodyPost_ret (v := Stp.toV (nextM 4 e c b da dn dc wins)) (by simp [results, Try.results9, go_sem, nextM, Stp.toV, hr]) rfl ⟨rfl, ?_⟩
  repeat (first | with_reducible refine below_alloc ?_ _ | with_reducible refine bel_set ?_ (by simp) _)
  with_reducible exact bel_call (below_alloc (below_alloc (Below.refl _ _) _) _) hb

set_option maxHeartbeats 1000000 in
theorem rnext_n5 (e : Int) (c b : Int) (da : Option Addr) (dn dc : Nat) (wins : Bool) (w : World) :
    Calls Try.prog 9 #[.int .i64 5, .int .i64 e, .agg #[.int .i64 c, .int .i64 b, .slice da dn dc], .bool wins] w fun r w' => r = .returned (nextM 5 e c b da dn dc wins).toV ∧ Below w.heap.size w w' := by
  go_enter Try.func9, Try.ntmps9
  go_wp2_with (go_at_call 17; refine (rlive_any _ _ (by simp) _ _ _ _ _ _ _).mono ?_; rintro r w1 ⟨rfl, hb⟩; dsimp only [Stp.toV]; have hs : w.heap.size + 1 < w1.heap.size := (Nat.lt_of_lt_of_le (by simp) hb.size); have hr : ∀ j, w1.cell? ⟨w.heap.size + 1, j, none⟩ = (#[.int .i64 0, .bool false, .bool false, .bool false, .bool false, .int .i64 0, .int .i64 0, .slice none 0 0, .int .i64 0, .int .i64 0, .int .i64 0, .bool false] : Array Value)[j]? := (fun j => by rw [hb.cell (by simp)]; exact cell_of (heap_alloc_new' (World.size_alloc _ _).symm) j); have hf : ∀ j, w1.frozen? ⟨w.heap.size + 1, j, none⟩ = false := (fun j => by rw [hb.frozen (by simp)]; exact free_of (heap_alloc_new' (World.size_alloc _ _).symm) j))
  refine bodyPost_ret (v := Stp.toV (nextM 5 e c b da dn dc wins)) (by simp [results, Try.results9, go_sem, nextM, Stp.toV, hr]) rfl ⟨rfl, ?_⟩
  repeat (first | with_reducible refine below_alloc ?_ _ | with_reducible refine bel_set ?_ (by simp) _)
  with_reducible exact bel_call (below_alloc (below_alloc (Below.refl _ _) _) _) hb

set_option maxHeartbeats 1000000 in
theorem rnext_nelse (s : Int) (h0 : s ≠ 0) (h1 : s ≠ 1) (h2 : s ≠ 2) (h3 : s ≠ 3) (h4 : s ≠ 4) (h5 : s ≠ 5) (e : Int) (c b : Int) (da : Option Addr) (dn dc : Nat) (wins : Bool) (w : World) :
    Calls Try.prog 9 #[.int .i64 s, .int .i64 e, .agg #[.int .i64 c, .int .i64 b, .slice da dn dc], .bool wins] w fun r w' => r = .returned (nextM s e c b da dn dc wins).toV ∧ Below w.heap.size w w' := by
  go_enter Try.func9, Try.ntmps9
  go_wp2
  refine bodyPost_ret (v := Stp.toV (nextM s e c b da dn dc wins)) (by simp [results, Try.results9, go_sem, nextM, h0, h1, h2, h3, h4, h5, Stp.toV]) rfl ⟨rfl, ?_⟩
  repeat (first | with_reducible refine below_alloc ?_ _ | with_reducible refine bel_set ?_ (by simp) _)
  with_reducible exact Below.refl _ _

theorem next_any (s e : Int) (c b : Int) (da : Option Addr) (dn dc : Nat) (wins : Bool) (w : World) :
    Calls Try.prog 8 #[.int .i64 s, .int .i64 e, .agg #[.int .i64 c, .int .i64 b, .slice da dn dc], .bool wins] w fun r w' => r = .returned (nextM s e c b da dn dc wins).toV ∧ Below w.heap.size w w' := by
  by_cases h0 : s = 0
  · subst h0; exact next_n0 e c b da dn dc wins w
  by_cases h1 : s = 1
  · subst h1; exact next_n1 e c b da dn dc wins w
  by_cases h2 : s = 2
  · subst h2; exact next_n2 e c b da dn dc wins w
  by_cases h3 : s = 3
  · subst h3; exact next_n3 e c b da dn dc wins w
  by_cases h4 : s = 4
  · subst h4; exact next_n4 e c b da dn dc wins w
  by_cases h5 : s = 5
  · subst h5; exact next_n5 e c b da dn dc wins w
  exact next_nelse s h0 h1 h2 h3 h4 h5 e c b da dn dc wins w

theorem rnext_any (s e : Int) (c b : Int) (da : Option Addr) (dn dc : Nat) (wins : Bool) (w : World) :
    Calls Try.prog 9 #[.int .i64 s, .int .i64 e, .agg #[.int .i64 c, .int .i64 b, .slice da dn dc], .bool wins] w fun r w' => r = .returned (nextM s e c b da dn dc wins).toV ∧ Below w.heap.size w w' := by
  by_cases h0 : s = 0
  · subst h0; exact rnext_n0 e c b da dn dc wins w
  by_cases h1 : s = 1
  · subst h1; exact rnext_n1 e c b da dn dc wins w
  by_cases h2 : s = 2
  · subst h2; exact rnext_n2 e c b da dn dc wins w
  by_cases h3 : s = 3
  · subst h3; exact rnext_n3 e c b da dn dc wins w
  by_cases h4 : s = 4
  · subst h4; exact rnext_n4 e c b da dn dc wins w
  by_cases h5 : s = 5
  · subst h5; exact rnext_n5 e c b da dn dc wins w
  exact rnext_nelse s h0 h1 h2 h3 h4 h5 e c b da dn dc wins w

end Go.Proofs.Ytdggdidmjddhbaa
