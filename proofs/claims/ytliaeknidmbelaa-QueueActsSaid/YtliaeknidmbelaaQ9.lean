/-
  Proved here: Push of the package queue where nothing is pushed; the conditions are named.
-/
import Derived.Test.YtliaeknidmbelaaQ7
namespace Go.Proofs.Ytliaeknidmbelaa
open Go.RowKit

section
variable {w : World} {O R : Nat → Prop} {q : Nat} {room : Int} {v : Value} {vs : List Value} {L : List (List Int)} {begun : Bool} {credit sent : Int}

set_option maxHeartbeats 400000 in
theorem push_empty (h : QSt w O R q room v vs L begun credit sent) (a : Option Addr) (c : Nat) :
    Calls Try.prog 8 #[.pointer (some ⟨q, 0, none⟩), .slice a 0 c] w fun r w' => r = .returned (.int .i64 2) ∧ w' = w := by
  have c0 := cell_of h.blk 0
  have HR := Lib.hid h.room0
  clear h
  go_enter Try.func8, Try.ntmps8
  go_wp2_with (go_at_call 24; refine (made_yes q room _ c0 (by have := HR.out.1; omega)).mono ?_; rintro r w' ⟨rfl, rfl⟩)
  go_ret
  exact ⟨rfl, rfl⟩

set_option maxHeartbeats 400000 in
theorem push_full (h : QSt w O R q room v vs L begun credit sent) (a : Option Addr) (n c : Nat) (hn : (n : Int) ≤ 140737488355328) (hf : room - tot L < n) :
    Calls Try.prog 8 #[.pointer (some ⟨q, 0, none⟩), .slice a n c] w fun r w' => r = .returned (.int .i64 6) ∧ Below w.heap.size w w' := by
  have c0 := cell_of h.blk 0
  have c3 := cell_of h.blk 3
  obtain ⟨r0, r1⟩ := h.room0
  have hfit := h.fits
  have hn0 : 0 < n := by omega
  clear h
  go_enter Try.func8, Try.ntmps8
  go_wp2_with (go_at_call 24; refine (made_yes q room _ c0 (by omega)).mono ?_; rintro r w' ⟨rfl, rfl⟩)
  go_quiet (fail)
  have hw : IntKind.i64.wrap (room - (tot L : Int)) = room - (tot L : Int) := by rw [IntKind.wrap_i64]; omega
  rw [hw]
  clear hw
  go_wp2
  go_ret
  exact ⟨rfl, below_drewN (Below.refl _ _) _⟩
end

end Go.Proofs.Ytliaeknidmbelaa
