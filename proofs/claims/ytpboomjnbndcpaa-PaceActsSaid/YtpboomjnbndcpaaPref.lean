/-
  Proved here: what prefix.Mask, prefix.Canon and prefix.Good return at every prefix, and that they change nothing that was there; no condition.
-/
import Derived.Test.YtpboomjnbndcpaaEff
import Derived.Test.YtpboomjnbndcpaaPrefA
import Derived.StillTailTactics
import Derived.Deep.QuietTactic
import Derived.BigQuiet
import Derived.Deep.RegionHeld3
import Derived.Lib.Hide
namespace Go.Proofs.Ytpboomjnbndcpaa
open Go.RowKit

set_option maxHeartbeats 400000 in
theorem mask_any (n : Int) (w : World) (h0 : 0 ≤ n) (h1 : n ≤ 32) :
    Calls Try.prog 29 #[.int .i64 n] w fun e w' => e = .returned (.int .u32 (maskI n)) ∧ w = w' := by
  obtain ⟨k, rfl⟩ := Int.eq_ofNat_of_zero_le h0
  have hm := mask_val k (by omega)
  have HM := Lib.hid hm
  clear hm
  go_enter Try.func29, Try.ntmps29
  go_wp2
  go_ret
  exact ⟨congrArg (fun x => Ending.returned (.int .u32 x)) HM.out, rfl⟩

set_option maxHeartbeats 400000 in
theorem canon_any (a n : Int) (w : World) :
    Calls Try.prog 26 #[.agg #[.int .u32 a, .int .i64 n]] w fun e w' => e = .returned (.agg #[.int .u32 (bits .and .u32 a (maskI (clampI n))), .int .i64 (clampI n)]) ∧ Below w.heap.size w w' := by
  have hr := clamp_range n
  have hc : (n < 0 ∧ clampI n = 0) ∨ (0 ≤ n ∧ n ≤ 32 ∧ clampI n = n) ∨ (32 < n ∧ clampI n = 32) := by
    unfold clampI; split <;> (try split) <;> omega
  rcases hc with ⟨g1, hc⟩ | ⟨g1, g2, hc⟩ | ⟨g1, hc⟩
  all_goals
    rw [hc]
    clear hc hr
    go_enter Try.func26, Try.ntmps26
    go_wp2
    go_region_held3 (fun w' => w'.cell? ⟨w.heap.size, 0, none⟩ = some (.int .u32 a)) (go_keep)
      (first | (go_at_call 29; refine (mask_any _ _ (by omega) (by omega)).mono ?_; rintro e w' ⟨rfl, rfl⟩))
    go_wp2
    refine bodyPost_ret (v := .agg #[.int .u32 (bits .and .u32 a (maskI (_))), .int .i64 (_)]) (by simp [results, Try.results26, go_sem]) rfl ⟨rfl, ?_⟩
    exact (((Below.refl _ _).alloc (Nat.le_refl _) _).alloc (by simp) _).drew
/-- Two prefixes are one just if both numbers are. -/
theorem eqlPrefix (a n a' n' : Int) (w : World) : (binOp .eql 28 (.agg #[.int .u32 a, .int .i64 n]) (.agg #[.int .u32 a', .int .i64 n'])).run Try.prog w = .ok (.bool ((a == a') && (n == n'))) w := by
  have ht : Try.prog.underlying 28 = some (.struct (Try.prog.fieldsOf 28)) := by kernel_rfl
  have hp : Try.prog.stoodInHeld 28 = false := by kernel_rfl
  rw [run_eql_struct, run_equal_pairs 9999 _ _ _ [(26, 0), (3, 1)] ht hp (by kernel_rfl) (by kernel_rfl)]
  have p1 : ∀ x y v, (part 26 #[.int .u32 x, .int .i64 y] 0).run Try.prog v = .ok (.int .u32 x) v := fun _ _ _ => by kernel_rfl
  have p2 : ∀ x y v, (part 3 #[.int .u32 x, .int .i64 y] 1).run Try.prog v = .ok (.int .i64 y) v := fun _ _ _ => by kernel_rfl
  have e1 : ∀ x y v, (Op.equalIn 9999 26 (.int .u32 x) (.int .u32 y)).run Try.prog v = .ok (x == y) v := fun x y v => run_equalIn_int v 9998 _ _ _ x y Try.underlying26
  have e2 : ∀ x y v, (Op.equalIn 9999 3 (.int .i64 x) (.int .i64 y)).run Try.prog v = .ok (x == y) v := fun x y v => run_equalIn_int v 9998 _ _ _ x y Try.underlying3
  simp only [eqPairs, Sem.run_bind, p1, e1, Result.andThen_ok]
  cases a == a'
  · rfl
  · simp only [Bool.not_true, Bool.false_eq_true, if_false, Sem.run_bind, p2, e2, Result.andThen_ok]
    cases n == n' <;> rfl
theorem eqGuardPrefix (x y : Operand) (xs ys : Array Value) (w : World) : (eqGuard .eql 28 x y (.agg xs) (.agg ys)).run Try.prog w = .ok () w :=
  run_eqGuard_agg w .eql 28 x y xs ys (by kernel_rfl)

set_option maxHeartbeats 400000 in
theorem good_any (a n : Int) (w : World) (h1 : 0 ≤ a) (h2 : a < 4294967296) :
    Calls Try.prog 22 #[.agg #[.int .u32 a, .int .i64 n]] w fun e w' => e = .returned (.bool (goodI a n)) ∧ Below w.heap.size w w' := by
  have HG := Lib.hid (good_canon a n h1 h2)
  have hq := eqGuardPrefix
  have he := eqlPrefix
  go_enter Try.func22, Try.ntmps22
  go_wp2_with fail
  go_region_held3 (fun w' => w'.cell? ⟨w.heap.size, 0, none⟩ = some (.int .u32 a) ∧ w'.cell? ⟨w.heap.size, 1, none⟩ = some (.int .i64 n))
    (first | go_keep | exact ⟨by rw [hb.cell (by simp)]; simp [go_sem], by rw [hb.cell (by simp)]; simp [go_sem]⟩)
    (first | (go_at_call 26; refine (canon_any _ _ _).mono ?_; rintro e w' ⟨rfl, hb⟩))
  go_wp2
  go_ret
  exact ⟨congrArg (fun x => Ending.returned (.bool x)) HG.out, ((Below.refl _ _).alloc (Nat.le_refl _) _).drew.trans (hb.mono (by simp))⟩
end Go.Proofs.Ytpboomjnbndcpaa
