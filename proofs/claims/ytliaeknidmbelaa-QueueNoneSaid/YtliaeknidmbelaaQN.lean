/-
  Proved here: what a queue that no call made answers; the conditions are named.
-/
import Derived.Test.YtliaeknidmbelaaQ8
namespace Go.Proofs.Ytliaeknidmbelaa
open Go.RowKit

/-- A queue that no call made: nil, or a zero one. -/
def Unmade (w : World) (q : Value) : Prop := q = .pointer none ∨ ∃ b, q = .pointer (some ⟨b, 0, none⟩) ∧ w.cell? ⟨b, 0, none⟩ = some (.int .i64 0) ∧ b < w.heap.size
theorem Unmade.below {w w' : World} {q : Value} (h : Unmade w q) (hb : Below w.heap.size w w') : Unmade w' q := by
  rcases h with h | ⟨b, h1, h2, h3⟩
  · exact .inl h
  · exact .inr ⟨b, h1, by rw [hb.cell (p := ⟨b, 0, none⟩) h3]; exact h2, Nat.lt_of_lt_of_le h3 hb.size⟩

set_option maxHeartbeats 400000 in
theorem made_no (q : Value) (w : World) (hq : Unmade w q) : Calls Try.prog 24 #[q] w fun e w' => e = .returned (.bool false) ∧ w' = w := by
  rcases hq with rfl | ⟨b, rfl, hc, -⟩
  · go_enter Try.func24, Try.ntmps24
    go_wp2
    go_ret
    exact ⟨rfl, rfl⟩
  · go_enter Try.func24, Try.ntmps24
    go_wp2
    go_ret
    exact ⟨rfl, rfl⟩

set_option maxHeartbeats 400000 in
theorem clear_no (q : Value) (w : World) (hq0 : Unmade w q) : Calls Try.prog 20 #[q] w fun e w' => e = .returned (.tuple #[]) ∧ w' = w := by
  have hq := Lib.hid hq0
  clear hq0
  go_enter Try.func20, Try.ntmps20
  go_wp2_with (go_at_call 24; refine (made_no q _ hq.out).mono ?_; rintro r w' ⟨rfl, rfl⟩)
  go_end0
  exact ⟨rfl, rfl⟩

set_option maxHeartbeats 400000 in
theorem push_no (q : Value) (u : Value) (w : World) (hq0 : Unmade w q) : Calls Try.prog 8 #[q, u] w fun e w' => e = .returned (.int .i64 1) ∧ w' = w := by
  have hq := Lib.hid hq0
  clear hq0
  go_enter Try.func8, Try.ntmps8
  go_wp2_with (go_at_call 24; refine (made_no q _ hq.out).mono ?_; rintro r w' ⟨rfl, rfl⟩)
  go_ret
  exact ⟨rfl, rfl⟩

set_option maxHeartbeats 400000 in
theorem grant_no (q : Value) (n : Int) (w : World) (hq0 : Unmade w q) : Calls Try.prog 9 #[q, .int .i64 n] w fun e w' => e = .returned (.int .i64 0) ∧ w' = w := by
  have hq := Lib.hid hq0
  clear hq0
  go_enter Try.func9, Try.ntmps9
  go_wp2_with (go_at_call 24; refine (made_no q _ hq.out).mono ?_; rintro r w' ⟨rfl, rfl⟩)
  go_ret
  exact ⟨rfl, rfl⟩

set_option maxHeartbeats 400000 in
theorem whole_no (q : Value) (w : World) (hq0 : Unmade w q) : Calls Try.prog 21 #[q] w fun e w' => e = .returned (.int .i64 0) ∧ w' = w := by
  have hq := Lib.hid hq0
  clear hq0
  go_enter Try.func21, Try.ntmps21
  go_wp2_with (go_at_call 24; refine (made_no q _ hq.out).mono ?_; rintro r w' ⟨rfl, rfl⟩)
  go_ret
  exact ⟨rfl, rfl⟩

set_option maxHeartbeats 400000 in
theorem qlen_no (q : Value) (w : World) (hq0 : Unmade w q) : Calls Try.prog 12 #[q] w fun e w' => e = .returned (.int .i64 0) ∧ w' = w := by
  have hq := Lib.hid hq0
  clear hq0
  go_enter Try.func12, Try.ntmps12
  go_wp2_with (go_at_call 24; refine (made_no q _ hq.out).mono ?_; rintro r w' ⟨rfl, rfl⟩)
  go_ret
  exact ⟨rfl, rfl⟩

set_option maxHeartbeats 400000 in
theorem credit_no (q : Value) (w : World) (hq0 : Unmade w q) : Calls Try.prog 22 #[q] w fun e w' => e = .returned (.int .i64 0) ∧ w' = w := by
  have hq := Lib.hid hq0
  clear hq0
  go_enter Try.func22, Try.ntmps22
  go_wp2_with (go_at_call 24; refine (made_no q _ hq.out).mono ?_; rintro r w' ⟨rfl, rfl⟩)
  go_ret
  exact ⟨rfl, rfl⟩

set_option maxHeartbeats 400000 in
theorem room_no (q : Value) (w : World) (hq0 : Unmade w q) : Calls Try.prog 23 #[q] w fun e w' => e = .returned (.int .i64 0) ∧ w' = w := by
  have hq := Lib.hid hq0
  clear hq0
  go_enter Try.func23, Try.ntmps23
  go_wp2_with (go_at_call 24; refine (made_no q _ hq.out).mono ?_; rintro r w' ⟨rfl, rfl⟩)
  go_ret
  exact ⟨rfl, rfl⟩

set_option maxHeartbeats 400000 in
theorem sent_no (q : Value) (w : World) (hq0 : Unmade w q) : Calls Try.prog 13 #[q] w fun e w' => e = .returned (.int .i64 0) ∧ w' = w := by
  have hq := Lib.hid hq0
  clear hq0
  go_enter Try.func13, Try.ntmps13
  go_wp2_with (go_at_call 24; refine (made_no q _ hq.out).mono ?_; rintro r w' ⟨rfl, rfl⟩)
  go_ret
  exact ⟨rfl, rfl⟩

set_option maxHeartbeats 400000 in
theorem copy_no (q : Value) (w : World) (hq0 : Unmade w q) : Calls Try.prog 18 #[q] w fun e w' => e = .returned (.pointer none) ∧ w' = w := by
  have hq := Lib.hid hq0
  clear hq0
  go_enter Try.func18, Try.ntmps18
  go_wp2_with (go_at_call 24; refine (made_no q _ hq.out).mono ?_; rintro r w' ⟨rfl, rfl⟩)
  go_ret
  exact ⟨rfl, rfl⟩

set_option maxHeartbeats 400000 in
theorem drop_no (q : Value) (w : World) (hq0 : Unmade w q) : Calls Try.prog 11 #[q] w fun e w' => e = .returned (.int .i64 0) ∧ w' = w := by
  have hq := Lib.hid hq0
  clear hq0
  go_enter Try.func11, Try.ntmps11
  go_wp2_with (go_at_call 21; refine (whole_no q _ hq.out).mono ?_; rintro r w' ⟨rfl, rfl⟩)
  go_ret
  exact ⟨rfl, rfl⟩

set_option maxHeartbeats 400000 in
theorem take_no (q : Value) (w : World) (hq0 : Unmade w q) : Calls Try.prog 10 #[q] w fun e w' => e = .returned (.slice none 0 0) ∧ w' = w := by
  have hq := Lib.hid hq0
  clear hq0
  go_enter Try.func10, Try.ntmps10
  go_wp2_with fail
  go_loopw [3] (fun ov wr => ov = .slice none 0 0 ∧ wr = w) (fun _ _ => 0)
  case atStart => exact ⟨rfl, rfl⟩
  case round =>
    obtain ⟨rfl, rfl⟩ := hrel
    go_wp2_with (go_at_call 24; refine (made_no q _ hq.out).mono ?_; rintro r w' ⟨rfl, rfl⟩)
    go_ret
    exact ⟨rfl, rfl⟩

end Go.Proofs.Ytliaeknidmbelaa
