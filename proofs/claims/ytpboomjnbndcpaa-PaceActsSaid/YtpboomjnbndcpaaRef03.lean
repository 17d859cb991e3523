/-
  Proved here: what the document's Mask and Good of prefixes return; nothing that was there changes.
-/
import Derived.Test.YtpboomjnbndcpaaPref
namespace Go.Proofs.Ytpboomjnbndcpaa
open Go.RowKit

theorem mask_step : ∀ i : Nat, i < 32 → maskN i ||| 2 ^ (31 - i) = maskN (i + 1) := by decide +kernel
theorem maskI_step (i : Nat) (h : i < 32) : bits .or .u32 (maskI (i : Int)) ((2 ^ (31 - i) : Nat) : Int) = maskI ((i + 1 : Nat) : Int) := by
  have h1 := maskN_lt i
  have h2 : 2 ^ (31 - i) < 4294967296 := Nat.lt_of_le_of_lt (Nat.pow_le_pow_right (by omega) (show 31 - i ≤ 31 by omega)) (by decide)
  unfold maskI
  simp only [Int.toNat_natCast]
  rw [u32_or_nat _ _ h1 h2, mask_step i h]

theorem pow_mod (j : Nat) : (2 : Int) ^ (31 - j) % 4294967296 = ((2 ^ (31 - j) : Nat) : Int) := by
  have h2 : 2 ^ (31 - j) < 4294967296 := Nat.lt_of_le_of_lt (Nat.pow_le_pow_right (by omega) (show 31 - j ≤ 31 by omega)) (by decide)
  have e : (2 : Int) ^ (31 - j) = ((2 ^ (31 - j) : Nat) : Int) := by simp
  rw [e]
  exact Int.emod_eq_of_lt (Int.natCast_nonneg _) (Int.ofNat_lt.2 h2)

set_option maxHeartbeats 400000 in
theorem refMask_any (n : Int) (w : World) (h0 : 0 ≤ n) (h1 : n ≤ 32) :
    Calls Try.prog 27 #[.int .i64 n] w fun e w' => e = .returned (.int .u32 (maskI n)) ∧ w = w' := by
  obtain ⟨k, rfl⟩ := Int.eq_ofNat_of_zero_le h0
  go_enter Try.func27, Try.ntmps27
  go_wp2
  go_loop [3, 4] (fun m i => ∃ j : Nat, j ≤ k ∧ i = .int .i64 j ∧ m = .int .u32 (maskI j)) (fun _ i => k - (intOf i).toNat)
  case atStart => exact ⟨0, Nat.zero_le _, rfl, rfl⟩
  case round =>
    obtain ⟨j, hj, rfl, rfl⟩ := hrel
    by_cases hlt : j < k
    · have hj32 : (j : Int) < 32 := by omega
      have hs := maskI_step j (by omega)
      have HS := Lib.hid hs
      clear hs
      go_wp2
      go_round
      case rel => exact ⟨j + 1, by omega, by go_num, congrArg (Value.int .u32) ((congrArg (bits .or .u32 (maskI j)) (pow_mod j)).trans HS.out)⟩
      case measure => simp [intOf]; omega
    · obtain rfl : j = k := by omega
      go_wp2
      go_ret
      exact ⟨rfl, rfl⟩

set_option maxHeartbeats 1000000 in
theorem refGood_any (a n : Int) (w : World) (h1 : 0 ≤ a) (h2 : a < 4294967296) :
    Calls Try.prog 24 #[.agg #[.int .u32 a, .int .i64 n]] w fun e w' => e = .returned (.bool (goodI a n)) ∧ Below w.heap.size w w' := by
  by_cases hn : 0 ≤ n
  · by_cases hn2 : n ≤ 32
    · have HG := Lib.hid (show goodI a n = (bits .andNot .u32 a (maskI n) == 0) by unfold goodI; simp [hn, hn2])
      have d1 : decide (0 ≤ n) = true := by simpa using hn
      have d2 : decide (n ≤ 32) = true := by simpa using hn2
      go_enter Try.func24, Try.ntmps24
      go_wp2_with fail
      go_quiet ((go_at_call 27; exact Calls.quiet_of_same ((refMask_any n _ hn hn2).mono fun _ _ ⟨he, hw⟩ => ⟨he, hw.symm⟩)))
      go_wp2
      go_ret
      exact ⟨congrArg (fun x => Ending.returned (.bool x)) HG.out.symm, ((Below.refl _ _).alloc (Nat.le_refl _) _).trans (below_drewN (Below.refl _ _) _)⟩
    · have HG := Lib.hid (show goodI a n = false by unfold goodI; simp [hn2])
      have d1 : decide (0 ≤ n) = true := by simpa using hn
      have d2 : decide (n ≤ 32) = false := by simpa using hn2
      go_enter Try.func24, Try.ntmps24
      go_wp2_with fail
      go_quiet (fail)
      go_wp2
      go_ret
      exact ⟨congrArg (fun x => Ending.returned (.bool x)) HG.out.symm, ((Below.refl _ _).alloc (Nat.le_refl _) _).trans (below_drewN (Below.refl _ _) _)⟩
  · have HG := Lib.hid (show goodI a n = false by unfold goodI; simp [hn])
    have d1 : decide (0 ≤ n) = false := by simpa using hn
    go_enter Try.func24, Try.ntmps24
    go_wp2_with fail
    go_quiet (fail)
    go_wp2
    go_ret
    exact ⟨congrArg (fun x => Ending.returned (.bool x)) HG.out.symm, ((Below.refl _ _).alloc (Nat.le_refl _) _).trans (below_drewN (Below.refl _ _) _)⟩
end Go.Proofs.Ytpboomjnbndcpaa
