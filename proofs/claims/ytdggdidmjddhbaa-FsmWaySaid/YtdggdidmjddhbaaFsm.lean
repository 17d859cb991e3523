/-
  Proved here: what each function of fsm and of the document's layer 15 returns; nothing that was there changes.
-/
import Derived.Test.YtdggdidmjddhbaaEff
namespace Go.Proofs.Ytdggdidmjddhbaa
open Go.RowKit

/-- A step, as it lies in memory: the fault's data are a slice. -/
structure Stp where
  state : Int := 0
  dial : Bool := false
  close : Bool := false
  opn : Bool := false
  keep : Bool := false
  code : Int := 0
  sub : Int := 0
  da : Option Addr := none
  dn : Nat := 0
  dc : Nat := 0
  retry : Int := 0
  hold : Int := 0
  ticks : Int := 0
  refused : Bool := false
def Stp.toV (x : Stp) : Value := .agg #[.int .i64 x.state, .bool x.dial, .bool x.close, .bool x.opn, .bool x.keep, .int .i64 x.code, .int .i64 x.sub, .slice x.da x.dn x.dc, .int .i64 x.retry, .int .i64 x.hold, .int .i64 x.ticks, .bool x.refused]
def askV (s e c b : Int) (da : Option Addr) (dn dc : Nat) (wins : Bool) : Value := .agg #[.int .i64 s, .int .i64 e, .int .i64 c, .int .i64 b, .slice da dn dc, .bool wins]

def fallsM (close : Bool) (c b : Int) (da : Option Addr) (dn dc : Nat) : Stp := { close := close, code := c, sub := b, da := da, dn := dn, dc := dc, retry := 1, hold := 2, ticks := 2 }
def idleM (e : Int) : Stp :=
  if e = 1 ∨ e = 3 then { state := 1, dial := true, retry := 1 } else if e = 2 then { retry := 2 } else if e = 6 then { refused := true } else {}
def waitsM (s e : Int) : Stp :=
  if e = 6 then { state := 3, opn := true, retry := 2, hold := 1 } else if e = 7 then { state := 2, retry := 1 } else if e = 3 then { state := 1, dial := true, retry := 1 }
  else if e = 2 then { close := true, retry := 2 } else { state := s }
def secondM (s : Int) (wins : Bool) : Stp := if s = 4 ∧ wins = true then { state := 3, opn := true, close := true, code := 6, sub := 7, hold := 1, ticks := 2 } else { state := s, refused := true }
def lostM (s : Int) : Stp := if s = 3 then { state := 2, retry := 1, hold := 2 } else fallsM false 0 0 none 0 0
def messageM (s e : Int) : Stp :=
  if s = 3 ∧ e = 8 then { state := 4, keep := true, hold := 1, ticks := 1 } else if (s = 4 ∧ e = 9) ∨ (s = 5 ∧ e ≠ 8) then { state := 5, hold := 1 } else fallsM true 5 0 none 0 0
def liveM (s e c b : Int) (da : Option Addr) (dn dc : Nat) (wins : Bool) : Stp :=
  if e = 6 then secondM s wins else if e = 7 then lostM s else if e = 8 ∨ e = 9 ∨ e = 10 then messageM s e else if e = 11 then fallsM true 0 0 none 0 0
  else if e = 4 then fallsM true 4 0 none 0 0 else if e = 12 then fallsM true c b da dn dc else if e = 2 then { fallsM true 6 2 none 0 0 with retry := 2 }
  else if e = 5 ∧ s ≠ 3 then { state := s, keep := true, ticks := 1 } else { state := s }
def nextM (s e c b : Int) (da : Option Addr) (dn dc : Nat) (wins : Bool) : Stp :=
  if s = 0 then idleM e else if s = 1 ∨ s = 2 then waitsM s e else if s = 3 ∨ s = 4 ∨ s = 5 then liveM s e c b da dn dc wins else { state := s }

theorem bel_set {a u : World} (h : Below a.heap.size a u) {p : Addr} (hp : a.heap.size ≤ p.block) (v : Value) : Below a.heap.size a (u.setCell p v) := h.setCell hp v
theorem bel_call {a u u' : World} (h : Below a.heap.size a u) (hb : Below u.heap.size u u') : Below a.heap.size a u' := h.trans (hb.mono h.size)

set_option maxHeartbeats 400000 in
theorem falls_any (c b : Int) (da : Option Addr) (dn dc : Nat) (w : World) :
    Calls Try.prog 21 #[.agg #[.int .i64 c, .int .i64 b, .slice da dn dc]] w fun e w' => e = .returned (fallsM true c b da dn dc).toV ∧ Below w.heap.size w w' := by
  go_enter Try.func21, Try.ntmps21
  go_wp2
  refine bodyPost_ret (v := (fallsM true c b da dn dc).toV) (by simp [results, Try.results21, go_sem, Stp.toV, fallsM]) rfl ⟨rfl, ?_⟩
  exact below_alloc (below_alloc (Below.refl _ _) _) _

set_option maxHeartbeats 400000 in
theorem stay_any (s e c b : Int) (da : Option Addr) (dn dc : Nat) (wins : Bool) (w : World) :
    Calls Try.prog 11 #[askV s e c b da dn dc wins] w fun e w' => e = .returned (Stp.toV { state := s }) ∧ Below w.heap.size w w' := by
  unfold askV
  go_enter Try.func11, Try.ntmps11
  go_wp2
  refine bodyPost_ret (v := Stp.toV { state := s }) (by simp [results, Try.results11, go_sem, Stp.toV]) rfl ⟨rfl, ?_⟩
  exact below_alloc (below_alloc (Below.refl _ _) _) _

set_option maxHeartbeats 1000000 in
theorem idle_one  (c b : Int) (da : Option Addr) (dn dc : Nat) (wins : Bool) (w : World) :
    Calls Try.prog 12 #[askV 0 1 c b da dn dc wins] w fun r w' => r = .returned (idleM 1).toV ∧ Below w.heap.size w w' := by
  unfold askV
  go_enter Try.func12, Try.ntmps12
  go_wp2_with (go_at_call 11; refine (stay_any _ _ _ _ _ _ _ _ _).mono ?_; rintro e w1 ⟨rfl, hb⟩; dsimp only [Stp.toV]; have k0 : w1.cell? ⟨w.heap.size, 0, none⟩ = some (.int .i64 0) := (by rw [hb.cell (by simp; try omega)]; simp); have k1 : w1.cell? ⟨w.heap.size, 1, none⟩ = some (.int .i64 1) := (by rw [hb.cell (by simp; try omega)]; simp); have hs : w.heap.size + 1 < w1.heap.size := (Nat.lt_of_lt_of_le (by simp) hb.size); have hs0 : w.heap.size < w1.heap.size := (Nat.lt_of_succ_lt hs); have hr : ∀ j, w1.cell? ⟨w.heap.size + 1, j, none⟩ = (#[.int .i64 0, .bool false, .bool false, .bool false, .bool false, .int .i64 0, .int .i64 0, .slice none 0 0, .int .i64 0, .int .i64 0, .int .i64 0, .bool false] : Array Value)[j]? := (fun j => by rw [hb.cell (by simp)]; exact cell_of (heap_alloc_new' (World.size_alloc _ _).symm) j); have hf : ∀ j, w1.frozen? ⟨w.heap.size + 1, j, none⟩ = false := (fun j => by rw [hb.frozen (by simp)]; exact free_of (heap_alloc_new' (World.size_alloc _ _).symm) j))
  refine bodyPost_ret (v := Stp.toV (idleM 1)) (by simp [results, Try.results12, go_sem, hs, hr, Stp.toV, idleM]) rfl ⟨rfl, ?_⟩
  repeat (first | with_reducible refine below_alloc ?_ _ | with_reducible refine bel_set ?_ (by simp) _)
  with_reducible exact bel_call (below_alloc (below_alloc (Below.refl _ _) _) _) hb

set_option maxHeartbeats 1000000 in
theorem idle_three  (c b : Int) (da : Option Addr) (dn dc : Nat) (wins : Bool) (w : World) :
    Calls Try.prog 12 #[askV 0 3 c b da dn dc wins] w fun r w' => r = .returned (idleM 3).toV ∧ Below w.heap.size w w' := by
  unfold askV
  go_enter Try.func12, Try.ntmps12
  go_wp2_with (go_at_call 11; refine (stay_any _ _ _ _ _ _ _ _ _).mono ?_; rintro e w1 ⟨rfl, hb⟩; dsimp only [Stp.toV]; have k0 : w1.cell? ⟨w.heap.size, 0, none⟩ = some (.int .i64 0) := (by rw [hb.cell (by simp; try omega)]; simp); have k1 : w1.cell? ⟨w.heap.size, 1, none⟩ = some (.int .i64 3) := (by rw [hb.cell (by simp; try omega)]; simp); have hs : w.heap.size + 1 < w1.heap.size := (Nat.lt_of_lt_of_le (by simp) hb.size); have hs0 : w.heap.size < w1.heap.size := (Nat.lt_of_succ_lt hs); have hr : ∀ j, w1.cell? ⟨w.heap.size + 1, j, none⟩ = (#[.int .i64 0, .bool false, .bool false, .bool false, .bool false, .int .i64 0, .int .i64 0, .slice none 0 0, .int .i64 0, .int .i64 0, .int .i64 0, .bool false] : Array Value)[j]? := (fun j => by rw [hb.cell (by simp)]; exact cell_of (heap_alloc_new' (World.size_alloc _ _).symm) j); have hf : ∀ j, w1.frozen? ⟨w.heap.size + 1, j, none⟩ = false := (fun j => by rw [hb.frozen (by simp)]; exact free_of (heap_alloc_new' (World.size_alloc _ _).symm) j))
  refine bodyPost_ret (v := Stp.toV (idleM 3)) (by simp [results, Try.results12, go_sem, hs, hr, Stp.toV, idleM]) rfl ⟨rfl, ?_⟩
  repeat (first | with_reducible refine below_alloc ?_ _ | with_reducible refine bel_set ?_ (by simp) _)
  with_reducible exact bel_call (below_alloc (below_alloc (Below.refl _ _) _) _) hb

set_option maxHeartbeats 1000000 in
theorem idle_two  (c b : Int) (da : Option Addr) (dn dc : Nat) (wins : Bool) (w : World) :
    Calls Try.prog 12 #[askV 0 2 c b da dn dc wins] w fun r w' => r = .returned (idleM 2).toV ∧ Below w.heap.size w w' := by
  unfold askV
  go_enter Try.func12, Try.ntmps12
  go_wp2_with (go_at_call 11; refine (stay_any _ _ _ _ _ _ _ _ _).mono ?_; rintro e w1 ⟨rfl, hb⟩; dsimp only [Stp.toV]; have k0 : w1.cell? ⟨w.heap.size, 0, none⟩ = some (.int .i64 0) := (by rw [hb.cell (by simp; try omega)]; simp); have k1 : w1.cell? ⟨w.heap.size, 1, none⟩ = some (.int .i64 2) := (by rw [hb.cell (by simp; try omega)]; simp); have hs : w.heap.size + 1 < w1.heap.size := (Nat.lt_of_lt_of_le (by simp) hb.size); have hs0 : w.heap.size < w1.heap.size := (Nat.lt_of_succ_lt hs); have hr : ∀ j, w1.cell? ⟨w.heap.size + 1, j, none⟩ = (#[.int .i64 0, .bool false, .bool false, .bool false, .bool false, .int .i64 0, .int .i64 0, .slice none 0 0, .int .i64 0, .int .i64 0, .int .i64 0, .bool false] : Array Value)[j]? := (fun j => by rw [hb.cell (by simp)]; exact cell_of (heap_alloc_new' (World.size_alloc _ _).symm) j); have hf : ∀ j, w1.frozen? ⟨w.heap.size + 1, j, none⟩ = false := (fun j => by rw [hb.frozen (by simp)]; exact free_of (heap_alloc_new' (World.size_alloc _ _).symm) j))
  refine bodyPost_ret (v := Stp.toV (idleM 2)) (by simp [results, Try.results12, go_sem, hs, hr, Stp.toV, idleM]) rfl ⟨rfl, ?_⟩
  repeat (first | with_reducible refine below_alloc ?_ _ | with_reducible refine bel_set ?_ (by simp) _)
  with_reducible exact bel_call (below_alloc (below_alloc (Below.refl _ _) _) _) hb

set_option maxHeartbeats 1000000 in
theorem idle_six  (c b : Int) (da : Option Addr) (dn dc : Nat) (wins : Bool) (w : World) :
    Calls Try.prog 12 #[askV 0 6 c b da dn dc wins] w fun r w' => r = .returned (idleM 6).toV ∧ Below w.heap.size w w' := by
  unfold askV
  go_enter Try.func12, Try.ntmps12
  go_wp2_with (go_at_call 11; refine (stay_any _ _ _ _ _ _ _ _ _).mono ?_; rintro e w1 ⟨rfl, hb⟩; dsimp only [Stp.toV]; have k0 : w1.cell? ⟨w.heap.size, 0, none⟩ = some (.int .i64 0) := (by rw [hb.cell (by simp; try omega)]; simp); have k1 : w1.cell? ⟨w.heap.size, 1, none⟩ = some (.int .i64 6) := (by rw [hb.cell (by simp; try omega)]; simp); have hs : w.heap.size + 1 < w1.heap.size := (Nat.lt_of_lt_of_le (by simp) hb.size); have hs0 : w.heap.size < w1.heap.size := (Nat.lt_of_succ_lt hs); have hr : ∀ j, w1.cell? ⟨w.heap.size + 1, j, none⟩ = (#[.int .i64 0, .bool false, .bool false, .bool false, .bool false, .int .i64 0, .int .i64 0, .slice none 0 0, .int .i64 0, .int .i64 0, .int .i64 0, .bool false] : Array Value)[j]? := (fun j => by rw [hb.cell (by simp)]; exact cell_of (heap_alloc_new' (World.size_alloc _ _).symm) j); have hf : ∀ j, w1.frozen? ⟨w.heap.size + 1, j, none⟩ = false := (fun j => by rw [hb.frozen (by simp)]; exact free_of (heap_alloc_new' (World.size_alloc _ _).symm) j))
  refine bodyPost_ret (v := Stp.toV (idleM 6)) (by simp [results, Try.results12, go_sem, hs, hr, Stp.toV, idleM]) rfl ⟨rfl, ?_⟩
  repeat (first | with_reducible refine below_alloc ?_ _ | with_reducible refine bel_set ?_ (by simp) _)
  with_reducible exact bel_call (below_alloc (below_alloc (Below.refl _ _) _) _) hb

set_option maxHeartbeats 1000000 in
theorem idle_else (e : Int) (h1 : e ≠ 1) (h2 : e ≠ 2) (h3 : e ≠ 3) (h6 : e ≠ 6) (c b : Int) (da : Option Addr) (dn dc : Nat) (wins : Bool) (w : World) :
    Calls Try.prog 12 #[askV 0 e c b da dn dc wins] w fun r w' => r = .returned (idleM e).toV ∧ Below w.heap.size w w' := by
  unfold askV
  go_enter Try.func12, Try.ntmps12
  go_wp2_with (go_at_call 11; refine (stay_any _ _ _ _ _ _ _ _ _).mono ?_; rintro e w1 ⟨rfl, hb⟩; dsimp only [Stp.toV]; have k0 : w1.cell? ⟨w.heap.size, 0, none⟩ = some (.int .i64 0) := (by rw [hb.cell (by simp; try omega)]; simp); have k1 : w1.cell? ⟨w.heap.size, 1, none⟩ = some (.int .i64 e) := (by rw [hb.cell (by simp; try omega)]; simp); have hs : w.heap.size + 1 < w1.heap.size := (Nat.lt_of_lt_of_le (by simp) hb.size); have hs0 : w.heap.size < w1.heap.size := (Nat.lt_of_succ_lt hs); have hr : ∀ j, w1.cell? ⟨w.heap.size + 1, j, none⟩ = (#[.int .i64 0, .bool false, .bool false, .bool false, .bool false, .int .i64 0, .int .i64 0, .slice none 0 0, .int .i64 0, .int .i64 0, .int .i64 0, .bool false] : Array Value)[j]? := (fun j => by rw [hb.cell (by simp)]; exact cell_of (heap_alloc_new' (World.size_alloc _ _).symm) j); have hf : ∀ j, w1.frozen? ⟨w.heap.size + 1, j, none⟩ = false := (fun j => by rw [hb.frozen (by simp)]; exact free_of (heap_alloc_new' (World.size_alloc _ _).symm) j))
  refine bodyPost_ret (v := Stp.toV (idleM e)) (by simp [results, Try.results12, go_sem, hs, hr, Stp.toV, idleM, h1, h2, h3, h6]) rfl ⟨rfl, ?_⟩
  repeat (first | with_reducible refine below_alloc ?_ _ | with_reducible refine bel_set ?_ (by simp) _)
  with_reducible exact bel_call (below_alloc (below_alloc (Below.refl _ _) _) _) hb

theorem idle_any (e : Int) (c b : Int) (da : Option Addr) (dn dc : Nat) (wins : Bool) (w : World) :
    Calls Try.prog 12 #[askV 0 e c b da dn dc wins] w fun r w' => r = .returned (idleM e).toV ∧ Below w.heap.size w w' := by
  by_cases h1 : e = 1
  · subst h1; exact idle_one c b da dn dc wins w
  by_cases h2 : e = 2
  · subst h2; exact idle_two c b da dn dc wins w
  by_cases h3 : e = 3
  · subst h3; exact idle_three c b da dn dc wins w
  by_cases h6 : e = 6
  · subst h6; exact idle_six c b da dn dc wins w
  exact idle_else e h1 h2 h3 h6 c b da dn dc wins w

set_option maxHeartbeats 1000000 in
theorem waits_six (s : Int) (c b : Int) (da : Option Addr) (dn dc : Nat) (wins : Bool) (w : World) :
    Calls Try.prog 13 #[askV s 6 c b da dn dc wins] w fun r w' => r = .returned (waitsM s 6).toV ∧ Below w.heap.size w w' := by
  unfold askV
  go_enter Try.func13, Try.ntmps13
  go_wp2_with (go_at_call 11; refine (stay_any _ _ _ _ _ _ _ _ _).mono ?_; rintro e w1 ⟨rfl, hb⟩; dsimp only [Stp.toV]; have k0 : w1.cell? ⟨w.heap.size, 0, none⟩ = some (.int .i64 s) := (by rw [hb.cell (by simp; try omega)]; simp); have k1 : w1.cell? ⟨w.heap.size, 1, none⟩ = some (.int .i64 6) := (by rw [hb.cell (by simp; try omega)]; simp); have hs : w.heap.size + 1 < w1.heap.size := (Nat.lt_of_lt_of_le (by simp) hb.size); have hs0 : w.heap.size < w1.heap.size := (Nat.lt_of_succ_lt hs); have hr : ∀ j, w1.cell? ⟨w.heap.size + 1, j, none⟩ = (#[.int .i64 0, .bool false, .bool false, .bool false, .bool false, .int .i64 0, .int .i64 0, .slice none 0 0, .int .i64 0, .int .i64 0, .int .i64 0, .bool false] : Array Value)[j]? := (fun j => by rw [hb.cell (by simp)]; exact cell_of (heap_alloc_new' (World.size_alloc _ _).symm) j); have hf : ∀ j, w1.frozen? ⟨w.heap.size + 1, j, none⟩ = false := (fun j => by rw [hb.frozen (by simp)]; exact free_of (heap_alloc_new' (World.size_alloc _ _).symm) j))
  refine bodyPost_ret (v := Stp.toV (waitsM s 6)) (by simp [results, Try.results13, go_sem, hs, hr, Stp.toV, waitsM]) rfl ⟨rfl, ?_⟩
  repeat (first | with_reducible refine below_alloc ?_ _ | with_reducible refine bel_set ?_ (by simp) _)
  with_reducible exact bel_call (below_alloc (below_alloc (Below.refl _ _) _) _) hb

set_option maxHeartbeats 1000000 in
theorem waits_seven (s : Int) (c b : Int) (da : Option Addr) (dn dc : Nat) (wins : Bool) (w : World) :
    Calls Try.prog 13 #[askV s 7 c b da dn dc wins] w fun r w' => r = .returned (waitsM s 7).toV ∧ Below w.heap.size w w' := by
  unfold askV
  go_enter Try.func13, Try.ntmps13
  go_wp2_with (go_at_call 11; refine (stay_any _ _ _ _ _ _ _ _ _).mono ?_; rintro e w1 ⟨rfl, hb⟩; dsimp only [Stp.toV]; have k0 : w1.cell? ⟨w.heap.size, 0, none⟩ = some (.int .i64 s) := (by rw [hb.cell (by simp; try omega)]; simp); have k1 : w1.cell? ⟨w.heap.size, 1, none⟩ = some (.int .i64 7) := (by rw [hb.cell (by simp; try omega)]; simp); have hs : w.heap.size + 1 < w1.heap.size := (Nat.lt_of_lt_of_le (by simp) hb.size); have hs0 : w.heap.size < w1.heap.size := (Nat.lt_of_succ_lt hs); have hr : ∀ j, w1.cell? ⟨w.heap.size + 1, j, none⟩ = (#[.int .i64 0, .bool false, .bool false, .bool false, .bool false, .int .i64 0, .int .i64 0, .slice none 0 0, .int .i64 0, .int .i64 0, .int .i64 0, .bool false] : Array Value)[j]? := (fun j => by rw [hb.cell (by simp)]; exact cell_of (heap_alloc_new' (World.size_alloc _ _).symm) j); have hf : ∀ j, w1.frozen? ⟨w.heap.size + 1, j, none⟩ = false := (fun j => by rw [hb.frozen (by simp)]; exact free_of (heap_alloc_new' (World.size_alloc _ _).symm) j))
  refine bodyPost_ret (v := Stp.toV (waitsM s 7)) (by simp [results, Try.results13, go_sem, hs, hr, Stp.toV, waitsM]) rfl ⟨rfl, ?_⟩
  repeat (first | with_reducible refine below_alloc ?_ _ | with_reducible refine bel_set ?_ (by simp) _)
  with_reducible exact bel_call (below_alloc (below_alloc (Below.refl _ _) _) _) hb

set_option maxHeartbeats 1000000 in
theorem waits_three (s : Int) (c b : Int) (da : Option Addr) (dn dc : Nat) (wins : Bool) (w : World) :
    Calls Try.prog 13 #[askV s 3 c b da dn dc wins] w fun r w' => r = .returned (waitsM s 3).toV ∧ Below w.heap.size w w' := by
  unfold askV
  go_enter Try.func13, Try.ntmps13
  go_wp2_with (go_at_call 11; refine (stay_any _ _ _ _ _ _ _ _ _).mono ?_; rintro e w1 ⟨rfl, hb⟩; dsimp only [Stp.toV]; have k0 : w1.cell? ⟨w.heap.size, 0, none⟩ = some (.int .i64 s) := (by rw [hb.cell (by simp; try omega)]; simp); have k1 : w1.cell? ⟨w.heap.size, 1, none⟩ = some (.int .i64 3) := (by rw [hb.cell (by simp; try omega)]; simp); have hs : w.heap.size + 1 < w1.heap.size := (Nat.lt_of_lt_of_le (by simp) hb.size); have hs0 : w.heap.size < w1.heap.size := (Nat.lt_of_succ_lt hs); have hr : ∀ j, w1.cell? ⟨w.heap.size + 1, j, none⟩ = (#[.int .i64 0, .bool false, .bool false, .bool false, .bool false, .int .i64 0, .int .i64 0, .slice none 0 0, .int .i64 0, .int .i64 0, .int .i64 0, .bool false] : Array Value)[j]? := (fun j => by rw [hb.cell (by simp)]; exact cell_of (heap_alloc_new' (World.size_alloc _ _).symm) j); have hf : ∀ j, w1.frozen? ⟨w.heap.size + 1, j, none⟩ = false := (fun j => by rw [hb.frozen (by simp)]; exact free_of (heap_alloc_new' (World.size_alloc _ _).symm) j))
  refine bodyPost_ret (v := Stp.toV (waitsM s 3)) (by simp [results, Try.results13, go_sem, hs, hr, Stp.toV, waitsM]) rfl ⟨rfl, ?_⟩
  repeat (first | with_reducible refine below_alloc ?_ _ | with_reducible refine bel_set ?_ (by simp) _)
  with_reducible exact bel_call (below_alloc (below_alloc (Below.refl _ _) _) _) hb

set_option maxHeartbeats 1000000 in
theorem waits_two (s : Int) (c b : Int) (da : Option Addr) (dn dc : Nat) (wins : Bool) (w : World) :
    Calls Try.prog 13 #[askV s 2 c b da dn dc wins] w fun r w' => r = .returned (waitsM s 2).toV ∧ Below w.heap.size w w' := by
  unfold askV
  go_enter Try.func13, Try.ntmps13
  go_wp2_with (go_at_call 11; refine (stay_any _ _ _ _ _ _ _ _ _).mono ?_; rintro e w1 ⟨rfl, hb⟩; dsimp only [Stp.toV]; have k0 : w1.cell? ⟨w.heap.size, 0, none⟩ = some (.int .i64 s) := (by rw [hb.cell (by simp; try omega)]; simp); have k1 : w1.cell? ⟨w.heap.size, 1, none⟩ = some (.int .i64 2) := (by rw [hb.cell (by simp; try omega)]; simp); have hs : w.heap.size + 1 < w1.heap.size := (Nat.lt_of_lt_of_le (by simp) hb.size); have hs0 : w.heap.size < w1.heap.size := (Nat.lt_of_succ_lt hs); have hr : ∀ j, w1.cell? ⟨w.heap.size + 1, j, none⟩ = (#[.int .i64 0, .bool false, .bool false, .bool false, .bool false, .int .i64 0, .int .i64 0, .slice none 0 0, .int .i64 0, .int .i64 0, .int .i64 0, .bool false] : Array Value)[j]? := (fun j => by rw [hb.cell (by simp)]; exact cell_of (heap_alloc_new' (World.size_alloc _ _).symm) j); have hf : ∀ j, w1.frozen? ⟨w.heap.size + 1, j, none⟩ = false := (fun j => by rw [hb.frozen (by simp)]; exact free_of (heap_alloc_new' (World.size_alloc _ _).symm) j))
  refine bodyPost_ret (v := Stp.toV (waitsM s 2)) (by simp [results, Try.results13, go_sem, hs, hr, Stp.toV, waitsM]) rfl ⟨rfl, ?_⟩
  repeat (first | with_reducible refine below_alloc ?_ _ | with_reducible refine bel_set ?_ (by simp) _)
  with_reducible exact bel_call (below_alloc (below_alloc (Below.refl _ _) _) _) hb

set_option maxHeartbeats 1000000 in
theorem waits_else (s : Int) (e : Int) (h6 : e ≠ 6) (h7 : e ≠ 7) (h3 : e ≠ 3) (h2 : e ≠ 2) (c b : Int) (da : Option Addr) (dn dc : Nat) (wins : Bool) (w : World) :
    Calls Try.prog 13 #[askV s e c b da dn dc wins] w fun r w' => r = .returned (waitsM s e).toV ∧ Below w.heap.size w w' := by
  unfold askV
  go_enter Try.func13, Try.ntmps13
  go_wp2_with (go_at_call 11; refine (stay_any _ _ _ _ _ _ _ _ _).mono ?_; rintro e w1 ⟨rfl, hb⟩; dsimp only [Stp.toV]; have k0 : w1.cell? ⟨w.heap.size, 0, none⟩ = some (.int .i64 s) := (by rw [hb.cell (by simp; try omega)]; simp); have k1 : w1.cell? ⟨w.heap.size, 1, none⟩ = some (.int .i64 e) := (by rw [hb.cell (by simp; try omega)]; simp); have hs : w.heap.size + 1 < w1.heap.size := (Nat.lt_of_lt_of_le (by simp) hb.size); have hs0 : w.heap.size < w1.heap.size := (Nat.lt_of_succ_lt hs); have hr : ∀ j, w1.cell? ⟨w.heap.size + 1, j, none⟩ = (#[.int .i64 0, .bool false, .bool false, .bool false, .bool false, .int .i64 0, .int .i64 0, .slice none 0 0, .int .i64 0, .int .i64 0, .int .i64 0, .bool false] : Array Value)[j]? := (fun j => by rw [hb.cell (by simp)]; exact cell_of (heap_alloc_new' (World.size_alloc _ _).symm) j); have hf : ∀ j, w1.frozen? ⟨w.heap.size + 1, j, none⟩ = false := (fun j => by rw [hb.frozen (by simp)]; exact free_of (heap_alloc_new' (World.size_alloc _ _).symm) j))
  refine bodyPost_ret (v := Stp.toV (waitsM s e)) (by simp [results, Try.results13, go_sem, hs, hr, Stp.toV, waitsM, h6, h7, h3, h2]) rfl ⟨rfl, ?_⟩
  repeat (first | with_reducible refine below_alloc ?_ _ | with_reducible refine bel_set ?_ (by simp) _)
  with_reducible exact bel_call (below_alloc (below_alloc (Below.refl _ _) _) _) hb

theorem waits_any (s e : Int) (c b : Int) (da : Option Addr) (dn dc : Nat) (wins : Bool) (w : World) :
    Calls Try.prog 13 #[askV s e c b da dn dc wins] w fun r w' => r = .returned (waitsM s e).toV ∧ Below w.heap.size w w' := by
  by_cases h6 : e = 6
  · subst h6; exact waits_six s c b da dn dc wins w
  by_cases h7 : e = 7
  · subst h7; exact waits_seven s c b da dn dc wins w
  by_cases h3 : e = 3
  · subst h3; exact waits_three s c b da dn dc wins w
  by_cases h2 : e = 2
  · subst h2; exact waits_two s c b da dn dc wins w
  exact waits_else s e h6 h7 h3 h2 c b da dn dc wins w

set_option maxHeartbeats 1000000 in
theorem second_wins (c b : Int) (da : Option Addr) (dn dc : Nat) (e : Int) (w : World) :
    Calls Try.prog 18 #[askV 4 e c b da dn dc true] w fun r w' => r = .returned (secondM 4 true).toV ∧ Below w.heap.size w w' := by
  unfold askV
  go_enter Try.func18, Try.ntmps18
  go_wp2
  refine bodyPost_ret (v := Stp.toV (secondM 4 true)) (by simp [results, Try.results18, go_sem, Stp.toV, secondM]) rfl ⟨rfl, ?_⟩
  repeat (first | with_reducible refine below_alloc ?_ _ | with_reducible refine bel_set ?_ (by simp) _)
  with_reducible exact Below.refl _ _

set_option maxHeartbeats 1000000 in
theorem lost_three (e : Int) (c b : Int) (da : Option Addr) (dn dc : Nat) (wins : Bool) (w : World) :
    Calls Try.prog 19 #[askV 3 e c b da dn dc wins] w fun r w' => r = .returned (lostM 3).toV ∧ Below w.heap.size w w' := by
  unfold askV
  go_enter Try.func19, Try.ntmps19
  go_wp2
  refine bodyPost_ret (v := Stp.toV (lostM 3)) (by simp [results, Try.results19, go_sem, Stp.toV, lostM]) rfl ⟨rfl, ?_⟩
  repeat (first | with_reducible refine below_alloc ?_ _ | with_reducible refine bel_set ?_ (by simp) _)
  with_reducible exact Below.refl _ _

set_option maxHeartbeats 1000000 in
theorem message_open (c b : Int) (da : Option Addr) (dn dc : Nat) (wins : Bool) (w : World) :
    Calls Try.prog 20 #[askV 3 8 c b da dn dc wins] w fun r w' => r = .returned (messageM 3 8).toV ∧ Below w.heap.size w w' := by
  unfold askV
  go_enter Try.func20, Try.ntmps20
  go_wp2
  refine bodyPost_ret (v := Stp.toV (messageM 3 8)) (by simp [results, Try.results20, go_sem, Stp.toV, messageM]) rfl ⟨rfl, ?_⟩
  repeat (first | with_reducible refine below_alloc ?_ _ | with_reducible refine bel_set ?_ (by simp) _)
  with_reducible exact Below.refl _ _

set_option maxHeartbeats 1000000 in
theorem message_keep (c b : Int) (da : Option Addr) (dn dc : Nat) (wins : Bool) (w : World) :
    Calls Try.prog 20 #[askV 4 9 c b da dn dc wins] w fun r w' => r = .returned (messageM 4 9).toV ∧ Below w.heap.size w w' := by
  unfold askV
  go_enter Try.func20, Try.ntmps20
  go_wp2
  refine bodyPost_ret (v := Stp.toV (messageM 4 9)) (by simp [results, Try.results20, go_sem, Stp.toV, messageM]) rfl ⟨rfl, ?_⟩
  repeat (first | with_reducible refine below_alloc ?_ _ | with_reducible refine bel_set ?_ (by simp) _)
  with_reducible exact Below.refl _ _

set_option maxHeartbeats 1000000 in
theorem message_far (e : Int) (h : e ≠ 8) (c b : Int) (da : Option Addr) (dn dc : Nat) (wins : Bool) (w : World) :
    Calls Try.prog 20 #[askV 5 e c b da dn dc wins] w fun r w' => r = .returned (messageM 5 e).toV ∧ Below w.heap.size w w' := by
  unfold askV
  go_enter Try.func20, Try.ntmps20
  go_wp2
  refine bodyPost_ret (v := Stp.toV (messageM 5 e)) (by simp [results, Try.results20, go_sem, Stp.toV, messageM, h]) rfl ⟨rfl, ?_⟩
  repeat (first | with_reducible refine below_alloc ?_ _ | with_reducible refine bel_set ?_ (by simp) _)
  with_reducible exact Below.refl _ _

set_option maxHeartbeats 1000000 in
theorem lost_else (s : Int) (h : s ≠ 3) (e : Int) (c b : Int) (da : Option Addr) (dn dc : Nat) (wins : Bool) (w : World) :
    Calls Try.prog 19 #[askV s e c b da dn dc wins] w fun r w' => r = .returned (lostM s).toV ∧ Below w.heap.size w w' := by
  unfold askV
  go_enter Try.func19, Try.ntmps19
  go_wp2_with (go_at_call 21; refine (falls_any _ _ _ _ _ _).mono ?_; rintro e w1 ⟨rfl, hb⟩; dsimp only [fallsM, Stp.toV]; have k0 : w1.cell? ⟨w.heap.size, 0, none⟩ = some (.int .i64 s) := (by rw [hb.cell (by simp; try omega)]; simp); have k1 : w1.cell? ⟨w.heap.size, 1, none⟩ = some (.int .i64 e) := (by rw [hb.cell (by simp; try omega)]; simp); have hs : w.heap.size + 1 < w1.heap.size := (Nat.lt_of_lt_of_le (by simp) hb.size); have hs0 : w.heap.size < w1.heap.size := (Nat.lt_of_succ_lt hs); have hr : ∀ j, w1.cell? ⟨w.heap.size + 1, j, none⟩ = (#[.int .i64 0, .bool false, .bool false, .bool false, .bool false, .int .i64 0, .int .i64 0, .slice none 0 0, .int .i64 0, .int .i64 0, .int .i64 0, .bool false] : Array Value)[j]? := (fun j => by rw [hb.cell (by simp)]; exact cell_of (heap_alloc_new' (World.size_alloc _ _).symm) j); have hf : ∀ j, w1.frozen? ⟨w.heap.size + 1, j, none⟩ = false := (fun j => by rw [hb.frozen (by simp)]; exact free_of (heap_alloc_new' (World.size_alloc _ _).symm) j))
  refine bodyPost_ret (v := Stp.toV (lostM s)) (by simp [results, Try.results19, go_sem, Stp.toV, lostM, fallsM, h, hs, hr]) rfl ⟨rfl, ?_⟩
  repeat (first | with_reducible refine below_alloc ?_ _ | with_reducible refine bel_set ?_ (by simp) _)
  with_reducible exact bel_call (below_alloc (below_alloc (Below.refl _ _) _) _) hb

set_option maxHeartbeats 1000000 in
theorem second_low (s : Int) (h : s ≠ 4) (wins : Bool) (e c b : Int) (da : Option Addr) (dn dc : Nat) (w : World) :
    Calls Try.prog 18 #[askV s e c b da dn dc wins] w fun r w' => r = .returned (secondM s wins).toV ∧ Below w.heap.size w w' := by
  unfold askV
  go_enter Try.func18, Try.ntmps18
  go_wp2_with (go_at_call 11; refine (stay_any _ _ _ _ _ _ _ _ _).mono ?_; rintro e w1 ⟨rfl, hb⟩; dsimp only [Stp.toV]; have k0 : w1.cell? ⟨w.heap.size, 0, none⟩ = some (.int .i64 s) := (by rw [hb.cell (by simp; try omega)]; simp); have k1 : w1.cell? ⟨w.heap.size, 1, none⟩ = some (.int .i64 e) := (by rw [hb.cell (by simp; try omega)]; simp); have hs : w.heap.size + 1 < w1.heap.size := (Nat.lt_of_lt_of_le (by simp) hb.size); have hs0 : w.heap.size < w1.heap.size := (Nat.lt_of_succ_lt hs); have hr : ∀ j, w1.cell? ⟨w.heap.size + 1, j, none⟩ = (#[.int .i64 0, .bool false, .bool false, .bool false, .bool false, .int .i64 0, .int .i64 0, .slice none 0 0, .int .i64 0, .int .i64 0, .int .i64 0, .bool false] : Array Value)[j]? := (fun j => by rw [hb.cell (by simp)]; exact cell_of (heap_alloc_new' (World.size_alloc _ _).symm) j); have hf : ∀ j, w1.frozen? ⟨w.heap.size + 1, j, none⟩ = false := (fun j => by rw [hb.frozen (by simp)]; exact free_of (heap_alloc_new' (World.size_alloc _ _).symm) j))
  refine bodyPost_ret (v := Stp.toV (secondM s wins)) (by simp [results, Try.results18, go_sem, Stp.toV, secondM, hs, hr, h]) rfl ⟨rfl, ?_⟩
  repeat (first | with_reducible refine below_alloc ?_ _ | with_reducible refine bel_set ?_ (by simp) _)
  with_reducible exact bel_call (below_alloc (below_alloc (Below.refl _ _) _) _) hb

set_option maxHeartbeats 1000000 in
theorem second_no (e c b : Int) (da : Option Addr) (dn dc : Nat) (w : World) :
    Calls Try.prog 18 #[askV 4 e c b da dn dc false] w fun r w' => r = .returned (secondM 4 false).toV ∧ Below w.heap.size w w' := by
  unfold askV
  go_enter Try.func18, Try.ntmps18
  go_wp2_with (go_at_call 11; refine (stay_any _ _ _ _ _ _ _ _ _).mono ?_; rintro e w1 ⟨rfl, hb⟩; dsimp only [Stp.toV]; have k0 : w1.cell? ⟨w.heap.size, 0, none⟩ = some (.int .i64 4) := (by rw [hb.cell (by simp; try omega)]; simp); have k1 : w1.cell? ⟨w.heap.size, 1, none⟩ = some (.int .i64 e) := (by rw [hb.cell (by simp; try omega)]; simp); have hs : w.heap.size + 1 < w1.heap.size := (Nat.lt_of_lt_of_le (by simp) hb.size); have hs0 : w.heap.size < w1.heap.size := (Nat.lt_of_succ_lt hs); have hr : ∀ j, w1.cell? ⟨w.heap.size + 1, j, none⟩ = (#[.int .i64 0, .bool false, .bool false, .bool false, .bool false, .int .i64 0, .int .i64 0, .slice none 0 0, .int .i64 0, .int .i64 0, .int .i64 0, .bool false] : Array Value)[j]? := (fun j => by rw [hb.cell (by simp)]; exact cell_of (heap_alloc_new' (World.size_alloc _ _).symm) j); have hf : ∀ j, w1.frozen? ⟨w.heap.size + 1, j, none⟩ = false := (fun j => by rw [hb.frozen (by simp)]; exact free_of (heap_alloc_new' (World.size_alloc _ _).symm) j))
  refine bodyPost_ret (v := Stp.toV (secondM 4 false)) (by simp [results, Try.results18, go_sem, Stp.toV, secondM, hs, hr]) rfl ⟨rfl, ?_⟩
  repeat (first | with_reducible refine below_alloc ?_ _ | with_reducible refine bel_set ?_ (by simp) _)
  with_reducible exact bel_call (below_alloc (below_alloc (Below.refl _ _) _) _) hb

set_option maxHeartbeats 1000000 in
theorem message_s3 (e : Int) (h : e ≠ 8) (c b : Int) (da : Option Addr) (dn dc : Nat) (wins : Bool) (w : World) :
    Calls Try.prog 20 #[askV 3 e c b da dn dc wins] w fun r w' => r = .returned (messageM 3 e).toV ∧ Below w.heap.size w w' := by
  unfold askV
  go_enter Try.func20, Try.ntmps20
  go_wp2_with (go_at_call 21; refine (falls_any _ _ _ _ _ _).mono ?_; rintro e w1 ⟨rfl, hb⟩; dsimp only [fallsM, Stp.toV]; have k0 : w1.cell? ⟨w.heap.size, 0, none⟩ = some (.int .i64 3) := (by rw [hb.cell (by simp; try omega)]; simp); have k1 : w1.cell? ⟨w.heap.size, 1, none⟩ = some (.int .i64 e) := (by rw [hb.cell (by simp; try omega)]; simp); have hs : w.heap.size + 1 < w1.heap.size := (Nat.lt_of_lt_of_le (by simp) hb.size); have hs0 : w.heap.size < w1.heap.size := (Nat.lt_of_succ_lt hs); have hr : ∀ j, w1.cell? ⟨w.heap.size + 1, j, none⟩ = (#[.int .i64 0, .bool false, .bool false, .bool false, .bool false, .int .i64 0, .int .i64 0, .slice none 0 0, .int .i64 0, .int .i64 0, .int .i64 0, .bool false] : Array Value)[j]? := (fun j => by rw [hb.cell (by simp)]; exact cell_of (heap_alloc_new' (World.size_alloc _ _).symm) j); have hf : ∀ j, w1.frozen? ⟨w.heap.size + 1, j, none⟩ = false := (fun j => by rw [hb.frozen (by simp)]; exact free_of (heap_alloc_new' (World.size_alloc _ _).symm) j))
  refine bodyPost_ret (v := Stp.toV (messageM 3 e)) (by simp [results, Try.results20, go_sem, Stp.toV, messageM, fallsM, hr, h]) rfl ⟨rfl, ?_⟩
  repeat (first | with_reducible refine below_alloc ?_ _ | with_reducible refine bel_set ?_ (by simp) _)
  with_reducible exact bel_call (below_alloc (below_alloc (Below.refl _ _) _) _) hb

set_option maxHeartbeats 1000000 in
theorem message_s4 (e : Int) (h : e ≠ 9) (c b : Int) (da : Option Addr) (dn dc : Nat) (wins : Bool) (w : World) :
    Calls Try.prog 20 #[askV 4 e c b da dn dc wins] w fun r w' => r = .returned (messageM 4 e).toV ∧ Below w.heap.size w w' := by
  unfold askV
  go_enter Try.func20, Try.ntmps20
  go_wp2_with (go_at_call 21; refine (falls_any _ _ _ _ _ _).mono ?_; rintro e w1 ⟨rfl, hb⟩; dsimp only [fallsM, Stp.toV]; have k0 : w1.cell? ⟨w.heap.size, 0, none⟩ = some (.int .i64 4) := (by rw [hb.cell (by simp; try omega)]; simp); have k1 : w1.cell? ⟨w.heap.size, 1, none⟩ = some (.int .i64 e) := (by rw [hb.cell (by simp; try omega)]; simp); have hs : w.heap.size + 1 < w1.heap.size := (Nat.lt_of_lt_of_le (by simp) hb.size); have hs0 : w.heap.size < w1.heap.size := (Nat.lt_of_succ_lt hs); have hr : ∀ j, w1.cell? ⟨w.heap.size + 1, j, none⟩ = (#[.int .i64 0, .bool false, .bool false, .bool false, .bool false, .int .i64 0, .int .i64 0, .slice none 0 0, .int .i64 0, .int .i64 0, .int .i64 0, .bool false] : Array Value)[j]? := (fun j => by rw [hb.cell (by simp)]; exact cell_of (heap_alloc_new' (World.size_alloc _ _).symm) j); have hf : ∀ j, w1.frozen? ⟨w.heap.size + 1, j, none⟩ = false := (fun j => by rw [hb.frozen (by simp)]; exact free_of (heap_alloc_new' (World.size_alloc _ _).symm) j))
  refine bodyPost_ret (v := Stp.toV (messageM 4 e)) (by simp [results, Try.results20, go_sem, Stp.toV, messageM, fallsM, hr, h]) rfl ⟨rfl, ?_⟩
  repeat (first | with_reducible refine below_alloc ?_ _ | with_reducible refine bel_set ?_ (by simp) _)
  with_reducible exact bel_call (below_alloc (below_alloc (Below.refl _ _) _) _) hb

set_option maxHeartbeats 1000000 in
theorem message_s5 (c b : Int) (da : Option Addr) (dn dc : Nat) (wins : Bool) (w : World) :
    Calls Try.prog 20 #[askV 5 8 c b da dn dc wins] w fun r w' => r = .returned (messageM 5 8).toV ∧ Below w.heap.size w w' := by
  unfold askV
  go_enter Try.func20, Try.ntmps20
  go_wp2_with (go_at_call 21; refine (falls_any _ _ _ _ _ _).mono ?_; rintro e w1 ⟨rfl, hb⟩; dsimp only [fallsM, Stp.toV]; have k0 : w1.cell? ⟨w.heap.size, 0, none⟩ = some (.int .i64 5) := (by rw [hb.cell (by simp; try omega)]; simp); have k1 : w1.cell? ⟨w.heap.size, 1, none⟩ = some (.int .i64 8) := (by rw [hb.cell (by simp; try omega)]; simp); have hs : w.heap.size + 1 < w1.heap.size := (Nat.lt_of_lt_of_le (by simp) hb.size); have hs0 : w.heap.size < w1.heap.size := (Nat.lt_of_succ_lt hs); have hr : ∀ j, w1.cell? ⟨w.heap.size + 1, j, none⟩ = (#[.int .i64 0, .bool false, .bool false, .bool false, .bool false, .int .i64 0, .int .i64 0, .slice none 0 0, .int .i64 0, .int .i64 0, .int .i64 0, .bool false] : Array Value)[j]? := (fun j => by rw [hb.cell (by simp)]; exact cell_of (heap_alloc_new' (World.size_alloc _ _).symm) j); have hf : ∀ j, w1.frozen? ⟨w.heap.size + 1, j, none⟩ = false := (fun j => by rw [hb.frozen (by simp)]; exact free_of (heap_alloc_new' (World.size_alloc _ _).symm) j))
  refine bodyPost_ret (v := Stp.toV (messageM 5 8)) (by simp [results, Try.results20, go_sem, Stp.toV, messageM, fallsM, hr]) rfl ⟨rfl, ?_⟩
  repeat (first | with_reducible refine below_alloc ?_ _ | with_reducible refine bel_set ?_ (by simp) _)
  with_reducible exact bel_call (below_alloc (below_alloc (Below.refl _ _) _) _) hb

end Go.Proofs.Ytdggdidmjddhbaa
