/-
  Proved here: the document's example comes out; what the names of states and events are, in fsm and in the document.
-/
import Derived.Test.YtdggdidmjddhbaaDoorEff
import Derived.ProofKit
import Derived.OpenShut
import Derived.Lib.LaidTab
namespace Go.Proofs.YtdggdidmjddhbaaDoor
open Go.RowKit

/-- A step, as it lies in memory: the fault's data are a slice. -/
structure Stp where
  state : Int := 0
  dial : Bool := false
  close : Bool := false
  opn : Bool := false
  keep : Bool := false
  code : Int := 0
  sub : Int := 0
  da : Option Addr := none
  dn : Nat := 0
  dc : Nat := 0
  retry : Int := 0
  hold : Int := 0
  ticks : Int := 0
  refused : Bool := false
def Stp.toV (x : Stp) : Value := .agg #[.int .i64 x.state, .bool x.dial, .bool x.close, .bool x.opn, .bool x.keep, .int .i64 x.code, .int .i64 x.sub, .slice x.da x.dn x.dc, .int .i64 x.retry, .int .i64 x.hold, .int .i64 x.ticks, .bool x.refused]
def askV (s e c b : Int) (da : Option Addr) (dn dc : Nat) (wins : Bool) : Value := .agg #[.int .i64 s, .int .i64 e, .int .i64 c, .int .i64 b, .slice da dn dc, .bool wins]

def fallsM (close : Bool) (c b : Int) (da : Option Addr) (dn dc : Nat) : Stp := { close := close, code := c, sub := b, da := da, dn := dn, dc := dc, retry := 1, hold := 2, ticks := 2 }
def idleM (e : Int) : Stp :=
  if e = 1 ∨ e = 3 then { state := 1, dial := true, retry := 1 } else if e = 2 then { retry := 2 } else if e = 6 then { refused := true } else {}
def waitsM (s e : Int) : Stp :=
  if e = 6 then { state := 3, opn := true, retry := 2, hold := 1 } else if e = 7 then { state := 2, retry := 1 } else if e = 3 then { state := 1, dial := true, retry := 1 }
  else if e = 2 then { close := true, retry := 2 } else { state := s }
def secondM (s : Int) (wins : Bool) : Stp := if s = 4 ∧ wins = true then { state := 3, opn := true, close := true, code := 6, sub := 7, hold := 1, ticks := 2 } else { state := s, refused := true }
def lostM (s : Int) : Stp := if s = 3 then { state := 2, retry := 1, hold := 2 } else fallsM false 0 0 none 0 0
def messageM (s e : Int) : Stp :=
  if s = 3 ∧ e = 8 then { state := 4, keep := true, hold := 1, ticks := 1 } else if (s = 4 ∧ e = 9) ∨ (s = 5 ∧ e ≠ 8) then { state := 5, hold := 1 } else fallsM true 5 0 none 0 0
def liveM (s e c b : Int) (da : Option Addr) (dn dc : Nat) (wins : Bool) : Stp :=
  if e = 6 then secondM s wins else if e = 7 then lostM s else if e = 8 ∨ e = 9 ∨ e = 10 then messageM s e else if e = 11 then fallsM true 0 0 none 0 0
  else if e = 4 then fallsM true 4 0 none 0 0 else if e = 12 then fallsM true c b da dn dc else if e = 2 then { fallsM true 6 2 none 0 0 with retry := 2 }
  else if e = 5 ∧ s ≠ 3 then { state := s, keep := true, ticks := 1 } else { state := s }
def nextM (s e c b : Int) (da : Option Addr) (dn dc : Nat) (wins : Bool) : Stp :=
  if s = 0 then idleM e else if s = 1 ∨ s = 2 then waitsM s e else if s = 3 ∨ s = 4 ∨ s = 5 then liveM s e c b da dn dc wins else { state := s }

theorem bel_set {a u : World} (h : Below a.heap.size a u) {p : Addr} (hp : a.heap.size ≤ p.block) (v : Value) : Below a.heap.size a (u.setCell p v) := h.setCell hp v
theorem bel_call {a u u' : World} (h : Below a.heap.size a u) (hb : Below u.heap.size u u') : Below a.heap.size a u' := h.trans (hb.mono h.size)

set_option maxHeartbeats 400000 in
theorem stay_any (s e c b : Int) (da : Option Addr) (dn dc : Nat) (wins : Bool) (w : World) :
    Calls Tryd.prog 14 #[askV s e c b da dn dc wins] w fun e w' => e = .returned (Stp.toV { state := s }) ∧ Below w.heap.size w w' := by
  unfold askV
  go_enter Tryd.func14, Tryd.ntmps14
  go_wp2
  refine bodyPost_ret (v := Stp.toV { state := s }) (by simp [results, Tryd.results14, go_sem, Stp.toV]) rfl ⟨rfl, ?_⟩
  exact below_alloc (below_alloc (Below.refl _ _) _) _

set_option maxHeartbeats 1000000 in
theorem waits_six (s : Int) (c b : Int) (da : Option Addr) (dn dc : Nat) (wins : Bool) (w : World) :
    Calls Tryd.prog 16 #[askV s 6 c b da dn dc wins] w fun r w' => r = .returned (waitsM s 6).toV ∧ Below w.heap.size w w' := by
  unfold askV
  go_enter Tryd.func16, Tryd.ntmps16
  go_wp2_with (go_at_call 14; refine (stay_any _ _ _ _ _ _ _ _ _).mono ?_; rintro e w1 ⟨rfl, hb⟩; dsimp only [Stp.toV]; have k0 : w1.cell? ⟨w.heap.size, 0, none⟩ = some (.int .i64 s) := (by rw [hb.cell (by simp; try omega)]; simp); have k1 : w1.cell? ⟨w.heap.size, 1, none⟩ = some (.int .i64 6) := (by rw [hb.cell (by simp; try omega)]; simp); have hs : w.heap.size + 1 < w1.heap.size := (Nat.lt_of_lt_of_le (by simp) hb.size); have hs0 : w.heap.size < w1.heap.size := (Nat.lt_of_succ_lt hs); have hr : ∀ j, w1.cell? ⟨w.heap.size + 1, j, none⟩ = (#[.int .i64 0, .bool false, .bool false, .bool false, .bool false, .int .i64 0, .int .i64 0, .slice none 0 0, .int .i64 0, .int .i64 0, .int .i64 0, .bool false] : Array Value)[j]? := (fun j => by rw [hb.cell (by simp)]; exact cell_of (heap_alloc_new' (World.size_alloc _ _).symm) j); have hf : ∀ j, w1.frozen? ⟨w.heap.size + 1, j, none⟩ = false := (fun j => by rw [hb.frozen (by simp)]; exact free_of (heap_alloc_new' (World.size_alloc _ _).symm) j))
  refine bodyPost_ret (v := Stp.toV (waitsM s 6)) (by simp [results, Tryd.results16, go_sem, hs, hr, Stp.toV, waitsM]) rfl ⟨rfl, ?_⟩
  repeat (first | with_reducible refine below_alloc ?_ _ | with_reducible refine bel_set ?_ (by simp) _)
  with_reducible exact bel_call (below_alloc (below_alloc (Below.refl _ _) _) _) hb

set_option maxHeartbeats 1000000 in
theorem next_one (c b : Int) (da : Option Addr) (dn dc : Nat) (wins : Bool) (w : World) :
    Calls Tryd.prog 13 #[.int .i64 1, .int .i64 6, .agg #[.int .i64 c, .int .i64 b, .slice da dn dc], .bool wins] w fun r w' => r = .returned (nextM 1 6 c b da dn dc wins).toV ∧ Below w.heap.size w w' := by
  go_enter Tryd.func13, Tryd.ntmps13
  go_wp2_with (go_at_call 16; refine (waits_six _ _ _ _ _ _ _ _).mono ?_; rintro r w1 ⟨rfl, hb⟩; dsimp only [Stp.toV]; have hs : w.heap.size + 1 < w1.heap.size := (Nat.lt_of_lt_of_le (by simp) hb.size); have hr : ∀ j, w1.cell? ⟨w.heap.size + 1, j, none⟩ = (#[.int .i64 0, .bool false, .bool false, .bool false, .bool false, .int .i64 0, .int .i64 0, .slice none 0 0, .int .i64 0, .int .i64 0, .int .i64 0, .bool false] : Array Value)[j]? := (fun j => by rw [hb.cell (by simp)]; exact cell_of (heap_alloc_new' (World.size_alloc _ _).symm) j); have hf : ∀ j, w1.frozen? ⟨w.heap.size + 1, j, none⟩ = false := (fun j => by rw [hb.frozen (by simp)]; exact free_of (heap_alloc_new' (World.size_alloc _ _).symm) j))
  refine bodyPost_ret (v := Stp.toV (nextM 1 6 c b da dn dc wins)) (by simp [results, Tryd.results13, go_sem, nextM, Stp.toV, hr]) rfl ⟨rfl, ?_⟩
  repeat (first | with_reducible refine below_alloc ?_ _ | with_reducible refine bel_set ?_ (by simp) _)
  with_reducible exact bel_call (below_alloc (below_alloc (Below.refl _ _) _) _) hb

def stateL : List (List UInt8) := [[105, 100, 108, 101], [99, 111, 110, 110, 101, 99, 116], [97, 99, 116, 105, 118, 101], [111, 112, 101, 110, 115, 101, 110, 116], [111, 112, 101, 110, 99, 111, 110, 102, 105, 114, 109], [101, 115, 116, 97, 98, 108, 105, 115, 104, 101, 100]]
def eventL : List (List UInt8) := [[], [115, 116, 97, 114, 116], [115, 116, 111, 112], [114, 101, 116, 114, 121], [104, 111, 108, 100], [107, 101, 101, 112], [117, 112], [100, 111, 119, 110], [103, 111, 116, 111, 112, 101, 110], [103, 111, 116, 107, 101, 101, 112], [103, 111, 116, 117, 112, 100, 97, 116, 101], [103, 111, 116, 110, 111, 116, 105, 99, 101], [119, 114, 111, 110, 103]]
def unknownB : ByteArray := ⟨[117, 110, 107, 110, 111, 119, 110].toArray⟩
def nmOf (l : List (List UInt8)) (i : Nat) : ByteArray := ⟨(l.getD i []).toArray⟩
def stateNm (s : Int) : ByteArray := if 0 ≤ s ∧ s ≤ 5 then nmOf stateL s.toNat else unknownB
def eventNm (s : Int) : ByteArray := if 1 ≤ s ∧ s ≤ 12 then nmOf eventL s.toNat else unknownB

/-- The two tables. -/
structure Laid (w : World) : Prop where
  s : ∀ i, i < 6 → w.cell? ⟨0, i, none⟩ = some (.string (nmOf stateL i))
  e : ∀ i, i < 13 → w.cell? ⟨1, i, none⟩ = some (.string (nmOf eventL i))
theorem cell_below {w w' : World} (hb : Below w.heap.size w w') {a : Addr} {u : Value} (h : w.cell? a = some u) : w'.cell? a = some u := (hb.cell (World.block_lt_of_cell? w a h)).trans h
theorem below_drewN {B : Nat} {a w : World} (h : Below B a w) (n : Nat) : Below B a (w.drewN n) := ⟨h.os, h.tape, h.output, h.size, h.block⟩
theorem Laid.below {w w' : World} (h : Laid w) (hb : Below w.heap.size w w') : Laid w' := ⟨fun i hi => cell_below hb (h.s i hi), fun i hi => cell_below hb (h.e i hi)⟩

set_option maxHeartbeats 400000 in
theorem lives_any (w : World) :
    Calls Tryd.prog 11 #[] w fun r w' => r = .returned (.bool true) ∧ Below w.heap.size w w' := by
  go_enter Tryd.func11, Tryd.ntmps11
  go_wp2_with (go_at_call 13; refine (next_one _ _ _ _ _ _ _).mono ?_; rintro r w1 ⟨rfl, hb⟩; dsimp only [Stp.toV, nextM, waitsM])
  go_ret
  exact ⟨rfl, below_alloc hb _⟩

theorem isLive (s : Int) (w : World) :
    Calls Tryd.prog 8 #[.int .i64 s] w fun r w' => r = .returned (.bool (decide (3 ≤ s ∧ s ≤ 5))) ∧ Below w.heap.size w w' := by
  by_cases h1 : 3 ≤ s
  · by_cases h2 : s ≤ 5
    · go_enter Tryd.func8, Tryd.ntmps8
      go_wp2
      go_ret
      exact ⟨by simp; omega, Below.refl _ _⟩
    · go_enter Tryd.func8, Tryd.ntmps8
      go_wp2
      go_ret
      exact ⟨by simp; omega, Below.refl _ _⟩
  · go_enter Tryd.func8, Tryd.ntmps8
    go_wp2
    go_ret
    exact ⟨by simp; omega, Below.refl _ _⟩

theorem risLive (s : Int) (w : World) :
    Calls Tryd.prog 9 #[.int .i64 s] w fun r w' => r = .returned (.bool (decide (3 ≤ s ∧ s ≤ 5))) ∧ Below w.heap.size w w' := by
  by_cases h1 : 3 ≤ s
  · by_cases h2 : s ≤ 5
    · go_enter Tryd.func9, Tryd.ntmps9
      go_wp2
      go_ret
      exact ⟨by simp; omega, Below.refl _ _⟩
    · go_enter Tryd.func9, Tryd.ntmps9
      go_wp2
      go_ret
      exact ⟨by simp; omega, Below.refl _ _⟩
  · go_enter Tryd.func9, Tryd.ntmps9
    go_wp2
    go_ret
    exact ⟨by simp; omega, Below.refl _ _⟩

theorem wins_any (a b : Int) (w : World) :
    Calls Tryd.prog 10 #[.int .u32 a, .int .u32 b] w fun r w' => r = .returned (.bool (decide (a < b))) ∧ Below w.heap.size w w' := by
  go_enter Tryd.func10, Tryd.ntmps10
  go_wp2
  go_ret
  exact ⟨by simp, Below.refl _ _⟩

set_option maxHeartbeats 400000 in
theorem word_out (a : Addr) (n : Nat) (i : Int) (w : World) (_hn : n ≤ 100) (h : i < 0 ∨ (n : Int) ≤ i) :
    Calls Tryd.prog 12 #[.slice (some a) n n, .int .i64 i] w fun r w' => r = .returned (.string unknownB) ∧ Below w.heap.size w w' := by
  by_cases h1 : i < 0
  · clear h
    go_enter Tryd.func12, Tryd.ntmps12
    go_wp2
    go_ret
    exact ⟨rfl, Below.refl _ _⟩
  · have h2 : (n : Int) ≤ i := h.resolve_left h1
    clear h
    go_enter Tryd.func12, Tryd.ntmps12
    go_wp2
    go_ret
    exact ⟨rfl, Below.refl _ _⟩

set_option maxHeartbeats 400000 in
theorem word_empty (g n i : Nat) (w : World) (_hn : n ≤ 100) (h : i < n) (hc : w.cell? ⟨g, i, none⟩ = some (.string ⟨#[]⟩)) :
    Calls Tryd.prog 12 #[.slice (some ⟨g, 0, none⟩) n n, .int .i64 i] w fun r w' => r = .returned (.string unknownB) ∧ Below w.heap.size w w' := by
  go_enter Tryd.func12, Tryd.ntmps12
  go_wp2
  go_ret
  exact ⟨rfl, Below.refl _ _⟩

set_option maxHeartbeats 400000 in
theorem word_in (g n i : Nat) (s : ByteArray) (w : World) (_hn : n ≤ 100) (h : i < n) (hs : s.toList.isEmpty = false) (hc : w.cell? ⟨g, i, none⟩ = some (.string s)) :
    Calls Tryd.prog 12 #[.slice (some ⟨g, 0, none⟩) n n, .int .i64 i] w fun r w' => r = .returned (.string s) ∧ Below w.heap.size w w' := by
  go_enter Tryd.func12, Tryd.ntmps12
  go_wp2
  go_ret
  exact ⟨rfl, Below.refl _ _⟩

theorem name_full (i : Nat) (h : 0 ≤ i ∧ i ≤ 5) : (nmOf stateL i).toList.isEmpty = false := by
  have : ∀ i : Fin 6, 0 ≤ i.val → (nmOf stateL i.val).toList.isEmpty = false := by decide +kernel
  exact this ⟨i, by omega⟩ h.1

set_option maxHeartbeats 400000 in
theorem name_any (s : Int) (w : World) (hL : Laid w) :
    Calls Tryd.prog 4 #[.int .i64 s] w fun r w' => r = .returned (.string (stateNm s)) ∧ Below w.heap.size w w' := by
  have main : Calls Tryd.prog 12 #[.slice (some ⟨0, 0, none⟩) 6 6, .int .i64 s] w fun r w' => r = .returned (.string (stateNm s)) ∧ Below w.heap.size w w' := by
    by_cases h : 0 ≤ s ∧ s ≤ 5
    · obtain ⟨i, rfl⟩ := Int.eq_ofNat_of_zero_le (show 0 ≤ s by omega)
      have e : stateNm (i : Int) = nmOf stateL i := by unfold stateNm; rw [if_pos h]; rfl
      rw [e]
      exact word_in 0 6 i _ w (by omega) (by omega) (name_full i (by omega)) (hL.s i (by omega))
    · have e : stateNm s = unknownB := by unfold stateNm; rw [if_neg h]
      rw [e]
      exact word_out _ 6 s w (by omega) (by omega)
  go_enter Tryd.func4, Tryd.ntmps4
  go_wp2_with (go_at_call 12; refine main.mono ?_; rintro r w1 ⟨rfl, hb⟩)
  go_ret
  exact ⟨rfl, hb⟩

theorem event_full (i : Nat) (h : 1 ≤ i ∧ i ≤ 12) : (nmOf eventL i).toList.isEmpty = false := by
  have : ∀ i : Fin 13, 1 ≤ i.val → (nmOf eventL i.val).toList.isEmpty = false := by decide +kernel
  exact this ⟨i, by omega⟩ h.1

set_option maxHeartbeats 400000 in
theorem event_any (s : Int) (w : World) (hL : Laid w) :
    Calls Tryd.prog 6 #[.int .i64 s] w fun r w' => r = .returned (.string (eventNm s)) ∧ Below w.heap.size w w' := by
  have main : Calls Tryd.prog 12 #[.slice (some ⟨1, 0, none⟩) 13 13, .int .i64 s] w fun r w' => r = .returned (.string (eventNm s)) ∧ Below w.heap.size w w' := by
    by_cases h : 1 ≤ s ∧ s ≤ 12
    · obtain ⟨i, rfl⟩ := Int.eq_ofNat_of_zero_le (show 0 ≤ s by omega)
      have e : eventNm (i : Int) = nmOf eventL i := by unfold eventNm; rw [if_pos h]; rfl
      rw [e]
      exact word_in 1 13 i _ w (by omega) (by omega) (event_full i (by omega)) (hL.e i (by omega))
    · have e : eventNm s = unknownB := by unfold eventNm; rw [if_neg h]
      rw [e]
      by_cases h0 : s = 0
      · subst h0
        exact word_empty 1 13 0 w (by omega) (by omega) (hL.e 0 (by omega))
      · exact word_out _ 13 s w (by omega) (by omega)
  go_enter Tryd.func6, Tryd.ntmps6
  go_wp2_with (go_at_call 12; refine main.mono ?_; rintro r w1 ⟨rfl, hb⟩)
  go_ret
  exact ⟨rfl, hb⟩

set_option maxHeartbeats 400000 in
theorem rname_0 (w : World) :
    Calls Tryd.prog 5 #[.int .i64 0] w fun r w' => r = .returned (.string (nmOf stateL 0)) ∧ Below w.heap.size w w' := by
  have ix : ∀ (c0 c1 c2 c3 c4 c5 : Value) v, (Instr.index 31 (.agg #[c0, c1, c2, c3, c4, c5]) (.int .i64 0)).run Tryd.prog v = .ok c0 v := by intros; kernel_rfl
  go_enter Tryd.func5, Tryd.ntmps5
  go_wp2
  go_ret
  exact ⟨by kernel_rfl, Below.refl _ _⟩

set_option maxHeartbeats 400000 in
theorem rname_1 (w : World) :
    Calls Tryd.prog 5 #[.int .i64 1] w fun r w' => r = .returned (.string (nmOf stateL 1)) ∧ Below w.heap.size w w' := by
  have ix : ∀ (c0 c1 c2 c3 c4 c5 : Value) v, (Instr.index 31 (.agg #[c0, c1, c2, c3, c4, c5]) (.int .i64 1)).run Tryd.prog v = .ok c1 v := by intros; kernel_rfl
  go_enter Tryd.func5, Tryd.ntmps5
  go_wp2
  go_ret
  exact ⟨by kernel_rfl, Below.refl _ _⟩

set_option maxHeartbeats 400000 in
theorem rname_2 (w : World) :
    Calls Tryd.prog 5 #[.int .i64 2] w fun r w' => r = .returned (.string (nmOf stateL 2)) ∧ Below w.heap.size w w' := by
  have ix : ∀ (c0 c1 c2 c3 c4 c5 : Value) v, (Instr.index 31 (.agg #[c0, c1, c2, c3, c4, c5]) (.int .i64 2)).run Tryd.prog v = .ok c2 v := by intros; kernel_rfl
  go_enter Tryd.func5, Tryd.ntmps5
  go_wp2
  go_ret
  exact ⟨by kernel_rfl, Below.refl _ _⟩

set_option maxHeartbeats 400000 in
theorem rname_3 (w : World) :
    Calls Tryd.prog 5 #[.int .i64 3] w fun r w' => r = .returned (.string (nmOf stateL 3)) ∧ Below w.heap.size w w' := by
  have ix : ∀ (c0 c1 c2 c3 c4 c5 : Value) v, (Instr.index 31 (.agg #[c0, c1, c2, c3, c4, c5]) (.int .i64 3)).run Tryd.prog v = .ok c3 v := by intros; kernel_rfl
  go_enter Tryd.func5, Tryd.ntmps5
  go_wp2
  go_ret
  exact ⟨by kernel_rfl, Below.refl _ _⟩

set_option maxHeartbeats 400000 in
theorem rname_4 (w : World) :
    Calls Tryd.prog 5 #[.int .i64 4] w fun r w' => r = .returned (.string (nmOf stateL 4)) ∧ Below w.heap.size w w' := by
  have ix : ∀ (c0 c1 c2 c3 c4 c5 : Value) v, (Instr.index 31 (.agg #[c0, c1, c2, c3, c4, c5]) (.int .i64 4)).run Tryd.prog v = .ok c4 v := by intros; kernel_rfl
  go_enter Tryd.func5, Tryd.ntmps5
  go_wp2
  go_ret
  exact ⟨by kernel_rfl, Below.refl _ _⟩

set_option maxHeartbeats 400000 in
theorem rname_5 (w : World) :
    Calls Tryd.prog 5 #[.int .i64 5] w fun r w' => r = .returned (.string (nmOf stateL 5)) ∧ Below w.heap.size w w' := by
  have ix : ∀ (c0 c1 c2 c3 c4 c5 : Value) v, (Instr.index 31 (.agg #[c0, c1, c2, c3, c4, c5]) (.int .i64 5)).run Tryd.prog v = .ok c5 v := by intros; kernel_rfl
  go_enter Tryd.func5, Tryd.ntmps5
  go_wp2
  go_ret
  exact ⟨by kernel_rfl, Below.refl _ _⟩

theorem rname_low (s : Int) (h : s < 0) (w : World) :
    Calls Tryd.prog 5 #[.int .i64 s] w fun r w' => r = .returned (.string unknownB) ∧ Below w.heap.size w w' := by
  go_enter Tryd.func5, Tryd.ntmps5
  go_wp2
  go_ret
  exact ⟨rfl, Below.refl _ _⟩

theorem rname_high (s : Int) (h : 5 < s) (w : World) :
    Calls Tryd.prog 5 #[.int .i64 s] w fun r w' => r = .returned (.string unknownB) ∧ Below w.heap.size w w' := by
  go_enter Tryd.func5, Tryd.ntmps5
  go_wp2
  go_ret
  exact ⟨rfl, Below.refl _ _⟩

theorem rname_any (s : Int) (w : World) :
    Calls Tryd.prog 5 #[.int .i64 s] w fun r w' => r = .returned (.string (stateNm s)) ∧ Below w.heap.size w w' := by
  by_cases h : 0 ≤ s ∧ s ≤ 5
  · obtain ⟨i, rfl⟩ := Int.eq_ofNat_of_zero_le (show 0 ≤ s by omega)
    have e : stateNm (i : Int) = nmOf stateL i := by unfold stateNm; rw [if_pos h]; rfl
    rw [e]
    have hi : i = 0 ∨ i = 1 ∨ i = 2 ∨ i = 3 ∨ i = 4 ∨ i = 5 := by omega
    rcases hi with rfl | rfl | rfl | rfl | rfl | rfl
    · exact rname_0 w
    · exact rname_1 w
    · exact rname_2 w
    · exact rname_3 w
    · exact rname_4 w
    · exact rname_5 w
  · have e : stateNm s = unknownB := by unfold stateNm; rw [if_neg h]
    rw [e]
    by_cases h1 : s < 0
    · exact rname_low s h1 w
    · exact rname_high s (by omega) w

set_option maxHeartbeats 400000 in
theorem revent_1 (w : World) :
    Calls Tryd.prog 7 #[.int .i64 1] w fun r w' => r = .returned (.string (nmOf eventL 1)) ∧ Below w.heap.size w w' := by
  have ix : ∀ (c0 c1 c2 c3 c4 c5 c6 c7 c8 c9 c10 c11 c12 : Value) v, (Instr.index 32 (.agg #[c0, c1, c2, c3, c4, c5, c6, c7, c8, c9, c10, c11, c12]) (.int .i64 1)).run Tryd.prog v = .ok c1 v := by intros; kernel_rfl
  go_enter Tryd.func7, Tryd.ntmps7
  go_wp2
  go_ret
  exact ⟨by kernel_rfl, Below.refl _ _⟩

set_option maxHeartbeats 400000 in
theorem revent_2 (w : World) :
    Calls Tryd.prog 7 #[.int .i64 2] w fun r w' => r = .returned (.string (nmOf eventL 2)) ∧ Below w.heap.size w w' := by
  have ix : ∀ (c0 c1 c2 c3 c4 c5 c6 c7 c8 c9 c10 c11 c12 : Value) v, (Instr.index 32 (.agg #[c0, c1, c2, c3, c4, c5, c6, c7, c8, c9, c10, c11, c12]) (.int .i64 2)).run Tryd.prog v = .ok c2 v := by intros; kernel_rfl
  go_enter Tryd.func7, Tryd.ntmps7
  go_wp2
  go_ret
  exact ⟨by kernel_rfl, Below.refl _ _⟩

set_option maxHeartbeats 400000 in
theorem revent_3 (w : World) :
    Calls Tryd.prog 7 #[.int .i64 3] w fun r w' => r = .returned (.string (nmOf eventL 3)) ∧ Below w.heap.size w w' := by
  have ix : ∀ (c0 c1 c2 c3 c4 c5 c6 c7 c8 c9 c10 c11 c12 : Value) v, (Instr.index 32 (.agg #[c0, c1, c2, c3, c4, c5, c6, c7, c8, c9, c10, c11, c12]) (.int .i64 3)).run Tryd.prog v = .ok c3 v := by intros; kernel_rfl
  go_enter Tryd.func7, Tryd.ntmps7
  go_wp2
  go_ret
  exact ⟨by kernel_rfl, Below.refl _ _⟩

set_option maxHeartbeats 400000 in
theorem revent_4 (w : World) :
    Calls Tryd.prog 7 #[.int .i64 4] w fun r w' => r = .returned (.string (nmOf eventL 4)) ∧ Below w.heap.size w w' := by
  have ix : ∀ (c0 c1 c2 c3 c4 c5 c6 c7 c8 c9 c10 c11 c12 : Value) v, (Instr.index 32 (.agg #[c0, c1, c2, c3, c4, c5, c6, c7, c8, c9, c10, c11, c12]) (.int .i64 4)).run Tryd.prog v = .ok c4 v := by intros; kernel_rfl
  go_enter Tryd.func7, Tryd.ntmps7
  go_wp2
  go_ret
  exact ⟨by kernel_rfl, Below.refl _ _⟩

set_option maxHeartbeats 400000 in
theorem revent_5 (w : World) :
    Calls Tryd.prog 7 #[.int .i64 5] w fun r w' => r = .returned (.string (nmOf eventL 5)) ∧ Below w.heap.size w w' := by
  have ix : ∀ (c0 c1 c2 c3 c4 c5 c6 c7 c8 c9 c10 c11 c12 : Value) v, (Instr.index 32 (.agg #[c0, c1, c2, c3, c4, c5, c6, c7, c8, c9, c10, c11, c12]) (.int .i64 5)).run Tryd.prog v = .ok c5 v := by intros; kernel_rfl
  go_enter Tryd.func7, Tryd.ntmps7
  go_wp2
  go_ret
  exact ⟨by kernel_rfl, Below.refl _ _⟩

set_option maxHeartbeats 400000 in
theorem revent_6 (w : World) :
    Calls Tryd.prog 7 #[.int .i64 6] w fun r w' => r = .returned (.string (nmOf eventL 6)) ∧ Below w.heap.size w w' := by
  have ix : ∀ (c0 c1 c2 c3 c4 c5 c6 c7 c8 c9 c10 c11 c12 : Value) v, (Instr.index 32 (.agg #[c0, c1, c2, c3, c4, c5, c6, c7, c8, c9, c10, c11, c12]) (.int .i64 6)).run Tryd.prog v = .ok c6 v := by intros; kernel_rfl
  go_enter Tryd.func7, Tryd.ntmps7
  go_wp2
  go_ret
  exact ⟨by kernel_rfl, Below.refl _ _⟩

set_option maxHeartbeats 400000 in
theorem revent_7 (w : World) :
    Calls Tryd.prog 7 #[.int .i64 7] w fun r w' => r = .returned (.string (nmOf eventL 7)) ∧ Below w.heap.size w w' := by
  have ix : ∀ (c0 c1 c2 c3 c4 c5 c6 c7 c8 c9 c10 c11 c12 : Value) v, (Instr.index 32 (.agg #[c0, c1, c2, c3, c4, c5, c6, c7, c8, c9, c10, c11, c12]) (.int .i64 7)).run Tryd.prog v = .ok c7 v := by intros; kernel_rfl
  go_enter Tryd.func7, Tryd.ntmps7
  go_wp2
  go_ret
  exact ⟨by kernel_rfl, Below.refl _ _⟩

set_option maxHeartbeats 400000 in
theorem revent_8 (w : World) :
    Calls Tryd.prog 7 #[.int .i64 8] w fun r w' => r = .returned (.string (nmOf eventL 8)) ∧ Below w.heap.size w w' := by
  have ix : ∀ (c0 c1 c2 c3 c4 c5 c6 c7 c8 c9 c10 c11 c12 : Value) v, (Instr.index 32 (.agg #[c0, c1, c2, c3, c4, c5, c6, c7, c8, c9, c10, c11, c12]) (.int .i64 8)).run Tryd.prog v = .ok c8 v := by intros; kernel_rfl
  go_enter Tryd.func7, Tryd.ntmps7
  go_wp2
  go_ret
  exact ⟨by kernel_rfl, Below.refl _ _⟩

set_option maxHeartbeats 400000 in
theorem revent_9 (w : World) :
    Calls Tryd.prog 7 #[.int .i64 9] w fun r w' => r = .returned (.string (nmOf eventL 9)) ∧ Below w.heap.size w w' := by
  have ix : ∀ (c0 c1 c2 c3 c4 c5 c6 c7 c8 c9 c10 c11 c12 : Value) v, (Instr.index 32 (.agg #[c0, c1, c2, c3, c4, c5, c6, c7, c8, c9, c10, c11, c12]) (.int .i64 9)).run Tryd.prog v = .ok c9 v := by intros; kernel_rfl
  go_enter Tryd.func7, Tryd.ntmps7
  go_wp2
  go_ret
  exact ⟨by kernel_rfl, Below.refl _ _⟩

set_option maxHeartbeats 400000 in
theorem revent_10 (w : World) :
    Calls Tryd.prog 7 #[.int .i64 10] w fun r w' => r = .returned (.string (nmOf eventL 10)) ∧ Below w.heap.size w w' := by
  have ix : ∀ (c0 c1 c2 c3 c4 c5 c6 c7 c8 c9 c10 c11 c12 : Value) v, (Instr.index 32 (.agg #[c0, c1, c2, c3, c4, c5, c6, c7, c8, c9, c10, c11, c12]) (.int .i64 10)).run Tryd.prog v = .ok c10 v := by intros; kernel_rfl
  go_enter Tryd.func7, Tryd.ntmps7
  go_wp2
  go_ret
  exact ⟨by kernel_rfl, Below.refl _ _⟩

set_option maxHeartbeats 400000 in
theorem revent_11 (w : World) :
    Calls Tryd.prog 7 #[.int .i64 11] w fun r w' => r = .returned (.string (nmOf eventL 11)) ∧ Below w.heap.size w w' := by
  have ix : ∀ (c0 c1 c2 c3 c4 c5 c6 c7 c8 c9 c10 c11 c12 : Value) v, (Instr.index 32 (.agg #[c0, c1, c2, c3, c4, c5, c6, c7, c8, c9, c10, c11, c12]) (.int .i64 11)).run Tryd.prog v = .ok c11 v := by intros; kernel_rfl
  go_enter Tryd.func7, Tryd.ntmps7
  go_wp2
  go_ret
  exact ⟨by kernel_rfl, Below.refl _ _⟩

set_option maxHeartbeats 400000 in
theorem revent_12 (w : World) :
    Calls Tryd.prog 7 #[.int .i64 12] w fun r w' => r = .returned (.string (nmOf eventL 12)) ∧ Below w.heap.size w w' := by
  have ix : ∀ (c0 c1 c2 c3 c4 c5 c6 c7 c8 c9 c10 c11 c12 : Value) v, (Instr.index 32 (.agg #[c0, c1, c2, c3, c4, c5, c6, c7, c8, c9, c10, c11, c12]) (.int .i64 12)).run Tryd.prog v = .ok c12 v := by intros; kernel_rfl
  go_enter Tryd.func7, Tryd.ntmps7
  go_wp2
  go_ret
  exact ⟨by kernel_rfl, Below.refl _ _⟩

theorem revent_low (s : Int) (h : s < 1) (w : World) :
    Calls Tryd.prog 7 #[.int .i64 s] w fun r w' => r = .returned (.string unknownB) ∧ Below w.heap.size w w' := by
  go_enter Tryd.func7, Tryd.ntmps7
  go_wp2
  go_ret
  exact ⟨rfl, Below.refl _ _⟩

theorem revent_high (s : Int) (h : 12 < s) (w : World) :
    Calls Tryd.prog 7 #[.int .i64 s] w fun r w' => r = .returned (.string unknownB) ∧ Below w.heap.size w w' := by
  go_enter Tryd.func7, Tryd.ntmps7
  go_wp2
  go_ret
  exact ⟨rfl, Below.refl _ _⟩

theorem revent_any (s : Int) (w : World) :
    Calls Tryd.prog 7 #[.int .i64 s] w fun r w' => r = .returned (.string (eventNm s)) ∧ Below w.heap.size w w' := by
  by_cases h : 1 ≤ s ∧ s ≤ 12
  · obtain ⟨i, rfl⟩ := Int.eq_ofNat_of_zero_le (show 0 ≤ s by omega)
    have e : eventNm (i : Int) = nmOf eventL i := by unfold eventNm; rw [if_pos h]; rfl
    rw [e]
    have hi : i = 1 ∨ i = 2 ∨ i = 3 ∨ i = 4 ∨ i = 5 ∨ i = 6 ∨ i = 7 ∨ i = 8 ∨ i = 9 ∨ i = 10 ∨ i = 11 ∨ i = 12 := by omega
    rcases hi with rfl | rfl | rfl | rfl | rfl | rfl | rfl | rfl | rfl | rfl | rfl | rfl
    · exact revent_1 w
    · exact revent_2 w
    · exact revent_3 w
    · exact revent_4 w
    · exact revent_5 w
    · exact revent_6 w
    · exact revent_7 w
    · exact revent_8 w
    · exact revent_9 w
    · exact revent_10 w
    · exact revent_11 w
    · exact revent_12 w
  · have e : eventNm s = unknownB := by unfold eventNm; rw [if_neg h]
    rw [e]
    by_cases h1 : s < 1
    · exact revent_low s h1 w
    · exact revent_high s (by omega) w

end Go.Proofs.YtdggdidmjddhbaaDoor
