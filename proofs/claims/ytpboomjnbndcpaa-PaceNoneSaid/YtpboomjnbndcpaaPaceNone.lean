/-
  Proved here: fairwaylaw20.PaceNone returns true for every input, and its input reads as it did; no condition.
-/
import Derived.Test.YtpboomjnbndcpaaPaceL
import Derived.Test.YtpboomjnbndcpaaActs
import Derived.ProofKit
import Derived.OpenShut
import Derived.ShutString
import Derived.ChangeOld
import Derived.Lib.SmallJoins
namespace Go.Proofs.Ytpboomjnbndcpaa.paceNone
open Go.ChangeShapes Go.WideShapes Go.ChangeAt Go.RowKit
set_option linter.unusedVariables false

/-- A pace that no call made: nil, or a zero one. -/
def Unmade (w : World) (q : Value) : Prop := q = .pointer none ∨ ∃ b, q = .pointer (some ⟨b, 0, none⟩) ∧ w.cell? ⟨b, 1, none⟩ = some (.map none) ∧ b < w.heap.size
theorem Unmade.below {w w' : World} {q : Value} (h : Unmade w q) (hb : Below w.heap.size w w') : Unmade w' q := by
  rcases h with h | ⟨b, h1, h2, h3⟩
  · exact .inl h
  · exact .inr ⟨b, h1, by rw [hb.cell (p := ⟨b, 1, none⟩) h3]; exact h2, Nat.lt_of_lt_of_le h3 hb.size⟩

set_option maxHeartbeats 400000 in
theorem made_no (q : Value) (w : World) (hq : Unmade w q) : Calls Try.prog 21 #[q] w fun e w' => e = .returned (.bool false) ∧ w = w' := by
  have hn := fun v => run_neq_map_nil (P := Try.prog) v 49 _ _ none Try.underlying49
  rcases hq with rfl | ⟨b, rfl, hc, -⟩
  · go_enter Try.func21, Try.ntmps21
    go_wp2
    go_ret
    exact ⟨rfl, rfl⟩
  · go_enter Try.func21, Try.ntmps21
    go_wp2
    go_ret
    exact ⟨rfl, rfl⟩

set_option maxHeartbeats 400000 in
theorem forget_no (q : Value) (w : World) (hq0 : Unmade w q) : Calls Try.prog 13 #[q] w fun e w' => e = .returned (.tuple #[]) ∧ Below w.heap.size w w' := by
  have hq := Lib.hid hq0
  clear hq0
  go_enter Try.func13, Try.ntmps13
  go_wp2_with (go_at_call 21; refine (made_no q _ hq.out).mono ?_; rintro e w' ⟨rfl, rfl⟩)
  go_end0
  exact ⟨rfl, Below.refl _ _⟩

set_option maxHeartbeats 400000 in
theorem ready_no (q : Value) (a n now : Int) (w : World) (hq0 : Unmade w q) : Calls Try.prog 8 #[q, .agg #[.int .u32 a, .int .i64 n], .int .i64 now] w fun e w' => e = .returned (.bool false) ∧ Below w.heap.size w w' := by
  have hq := Lib.hid hq0
  clear hq0
  go_enter Try.func8, Try.ntmps8
  go_wp2_with (go_at_call 21; refine (made_no q _ (hq.out.below ((Below.refl _ _).alloc (Nat.le_refl _) _))).mono ?_; rintro e w' ⟨rfl, rfl⟩)
  go_ret
  exact ⟨rfl, ((Below.refl _ _).alloc (Nat.le_refl _) _)⟩

set_option maxHeartbeats 400000 in
theorem note_no (q : Value) (a n now : Int) (w : World) (hq0 : Unmade w q) : Calls Try.prog 9 #[q, .agg #[.int .u32 a, .int .i64 n], .int .i64 now] w fun e w' => e = .returned (.int .i64 1) ∧ Below w.heap.size w w' := by
  have hq := Lib.hid hq0
  clear hq0
  go_enter Try.func9, Try.ntmps9
  go_wp2_with (go_at_call 21; refine (made_no q _ (hq.out.below ((Below.refl _ _).alloc (Nat.le_refl _) _))).mono ?_; rintro e w' ⟨rfl, rfl⟩)
  go_ret
  exact ⟨rfl, ((Below.refl _ _).alloc (Nat.le_refl _) _)⟩

set_option maxHeartbeats 400000 in
theorem when_no (q : Value) (a n : Int) (w : World) (hq0 : Unmade w q) : Calls Try.prog 15 #[q, .agg #[.int .u32 a, .int .i64 n]] w fun e w' => e = .returned (.int .i64 0) ∧ Below w.heap.size w w' := by
  have hq := Lib.hid hq0
  clear hq0
  go_enter Try.func15, Try.ntmps15
  go_wp2_with (go_at_call 21; refine (made_no q _ (hq.out.below ((Below.refl _ _).alloc (Nat.le_refl _) _))).mono ?_; rintro e w' ⟨rfl, rfl⟩)
  go_ret
  exact ⟨rfl, ((Below.refl _ _).alloc (Nat.le_refl _) _)⟩

set_option maxHeartbeats 400000 in
theorem len_no (q : Value) (w : World) (hq0 : Unmade w q) : Calls Try.prog 17 #[q] w fun e w' => e = .returned (.int .i64 0) ∧ Below w.heap.size w w' := by
  have hq := Lib.hid hq0
  clear hq0
  go_enter Try.func17, Try.ntmps17
  go_wp2_with (go_at_call 21; refine (made_no q _ hq.out).mono ?_; rintro e w' ⟨rfl, rfl⟩)
  go_ret
  exact ⟨rfl, Below.refl _ _⟩

set_option maxHeartbeats 400000 in
theorem gap_no (q : Value) (w : World) (hq0 : Unmade w q) : Calls Try.prog 18 #[q] w fun e w' => e = .returned (.int .i64 0) ∧ Below w.heap.size w w' := by
  have hq := Lib.hid hq0
  clear hq0
  go_enter Try.func18, Try.ntmps18
  go_wp2_with (go_at_call 21; refine (made_no q _ hq.out).mono ?_; rintro e w' ⟨rfl, rfl⟩)
  go_ret
  exact ⟨rfl, Below.refl _ _⟩

set_option maxHeartbeats 400000 in
theorem copy_no (q : Value) (w : World) (hq0 : Unmade w q) : Calls Try.prog 19 #[q] w fun e w' => e = .returned (.pointer none) ∧ Below w.heap.size w w' := by
  have hq := Lib.hid hq0
  clear hq0
  go_enter Try.func19, Try.ntmps19
  go_wp2_with (go_at_call 21; refine (made_no q _ hq.out).mono ?_; rintro e w' ⟨rfl, rfl⟩)
  go_ret
  exact ⟨rfl, Below.refl _ _⟩

/-- The law's own variables, at a round's head. -/
structure Vars (W : World) (a n now : Int) (w : World) : Prop where
  c1 : w.cell? ⟨W.heap.size, 1, none⟩ = some (.int .u32 a)
  c2 : w.cell? ⟨W.heap.size, 2, none⟩ = some (.int .i64 n)
  c3 : w.cell? ⟨W.heap.size, 3, none⟩ = some (.int .i64 now)
  z : w.cell? ⟨W.heap.size + 1, 1, none⟩ = some (.map none)
  lt : W.heap.size + 1 < w.heap.size
  bel : Below W.heap.size W w
theorem Vars.below {W w w' : World} {a n now : Int} (h : Vars W a n now w) (hb : Below w.heap.size w w') : Vars W a n now w' :=
  ⟨by rw [hb.cell (by have := h.lt; simp; omega)]; exact h.c1, by rw [hb.cell (by have := h.lt; simp; omega)]; exact h.c2, by rw [hb.cell (by have := h.lt; simp; omega)]; exact h.c3, by rw [hb.cell (by have := h.lt; simp; omega)]; exact h.z, Nat.lt_of_lt_of_le h.lt hb.size, h.bel.trans (hb.mono h.bel.size)⟩

set_option maxRecDepth 100000 in
set_option maxHeartbeats 2000000 in
theorem walk (fg : Bool) (a n now : Int) (w : World) :
    Calls Try.prog 5 #[.agg #[.bool fg, .int .u32 a, .int .i64 n, .int .i64 now]] w fun e w' => e = .returned (.bool true) ∧ Below w.heap.size w w' := by
  have i0 : ∀ (x y : Value) v, (Instr.index 54 (.agg #[x, y]) (.int .i64 0)).run Try.prog v = .ok x v := fun x y v => by kernel_rfl
  have i1 : ∀ (x y : Value) v, (Instr.index 54 (.agg #[x, y]) (.int .i64 1)).run Try.prog v = .ok y v := fun x y v => by kernel_rfl
  go_enter Try.func5, Try.ntmps5
  go_wp2_with fail
  go_loopw [7] (fun i wr => ∃ k : Nat, k ≤ 2 ∧ i = .int .i64 k ∧ Vars w a n now wr) (fun i _ => 2 - (intOf i).toNat)
  case atStart =>
    refine ⟨0, by omega, rfl, ⟨?_, ?_, ?_, ?_, by simp, ((Below.refl _ _).alloc (Nat.le_refl _) _).alloc (by simp) _⟩⟩
    · exact cell_of (heap_alloc_old (heap_alloc_new _ _)) 1
    · exact cell_of (heap_alloc_old (heap_alloc_new _ _)) 2
    · exact cell_of (heap_alloc_old (heap_alloc_new _ _)) 3
    · simp
  case round =>
    obtain ⟨k, hk, rfl, m0⟩ := hrel
    have hk3 : k = 0 ∨ k = 1 ∨ k = 2 := by omega
    have k01 := m0.c1
    have k02 := m0.c2
    have k03 := m0.c3
    have M0 := Lib.hid m0
    have hz := m0.z
    have hzl := m0.lt
    rcases hk3 with rfl | rfl | rfl
    · have hq0 : Hid (Unmade wr (.pointer none)) := Lib.hid (.inl rfl)
      clear hz
      go_wp2_with fail
      refine (forget_no _ _ hq0.out).mono ?_
      rintro e v1 ⟨rfl, b1⟩
      have m1 := m0.below b1
      have hq1 := Lib.hid (hq0.out.below b1)
      have k11 := m1.c1
      have k12 := m1.c2
      have k13 := m1.c3
      clear k01 k02 k03 b1 m0
      go_wp2_with fail
      refine (ready_no _ _ _ _ _ hq1.out).mono ?_
      rintro e v2 ⟨rfl, b2⟩
      have m2 := m1.below b2
      have hq2 := Lib.hid (hq1.out.below b2)
      have k21 := m2.c1
      have k22 := m2.c2
      have k23 := m2.c3
      clear k11 k12 k13 b2 hq1 m1
      go_wp2_with fail
      refine (note_no _ _ _ _ _ hq2.out).mono ?_
      rintro e v3 ⟨rfl, b3⟩
      have m3 := m2.below b3
      have hq3 := Lib.hid (hq2.out.below b3)
      have k31 := m3.c1
      have k32 := m3.c2
      have k33 := m3.c3
      clear k21 k22 k23 b3 hq2 m2
      go_wp2_with fail
      refine (when_no _ _ _ _ hq3.out).mono ?_
      rintro e v4 ⟨rfl, b4⟩
      have m4 := m3.below b4
      have hq4 := Lib.hid (hq3.out.below b4)
      have k41 := m4.c1
      have k42 := m4.c2
      have k43 := m4.c3
      clear k31 k32 k33 b4 hq3 m3
      go_wp2_with fail
      refine (len_no _ _ hq4.out).mono ?_
      rintro e v5 ⟨rfl, b5⟩
      have m5 := m4.below b5
      have hq5 := Lib.hid (hq4.out.below b5)
      have k51 := m5.c1
      have k52 := m5.c2
      have k53 := m5.c3
      clear k41 k42 k43 b5 hq4 m4
      go_wp2_with fail
      refine (gap_no _ _ hq5.out).mono ?_
      rintro e v6 ⟨rfl, b6⟩
      have m6 := m5.below b6
      have hq6 := Lib.hid (hq5.out.below b6)
      have k61 := m6.c1
      have k62 := m6.c2
      have k63 := m6.c3
      clear k51 k52 k53 b6 hq5 m5
      go_wp2_with fail
      refine (copy_no _ _ hq6.out).mono ?_
      rintro e v7 ⟨rfl, b7⟩
      have m7 := m6.below b7
      have hq7 := Lib.hid (hq6.out.below b7)
      have k71 := m7.c1
      have k72 := m7.c2
      have k73 := m7.c3
      clear k61 k62 k63 b7 hq6 m6
      go_wp2_with fail
      go_roundw
      case rel => exact ⟨1, by omega, by go_num, m7⟩
      case measure => simp [intOf]

    · have hq0 : Hid (Unmade wr (.pointer (some ⟨w.heap.size + 1, 0, none⟩))) := Lib.hid (.inr ⟨_, rfl, hz, hzl⟩)
      clear hz
      go_wp2_with fail
      refine (forget_no _ _ hq0.out).mono ?_
      rintro e v1 ⟨rfl, b1⟩
      have m1 := m0.below b1
      have hq1 := Lib.hid (hq0.out.below b1)
      have k11 := m1.c1
      have k12 := m1.c2
      have k13 := m1.c3
      clear k01 k02 k03 b1 m0
      go_wp2_with fail
      refine (ready_no _ _ _ _ _ hq1.out).mono ?_
      rintro e v2 ⟨rfl, b2⟩
      have m2 := m1.below b2
      have hq2 := Lib.hid (hq1.out.below b2)
      have k21 := m2.c1
      have k22 := m2.c2
      have k23 := m2.c3
      clear k11 k12 k13 b2 hq1 m1
      go_wp2_with fail
      refine (note_no _ _ _ _ _ hq2.out).mono ?_
      rintro e v3 ⟨rfl, b3⟩
      have m3 := m2.below b3
      have hq3 := Lib.hid (hq2.out.below b3)
      have k31 := m3.c1
      have k32 := m3.c2
      have k33 := m3.c3
      clear k21 k22 k23 b3 hq2 m2
      go_wp2_with fail
      refine (when_no _ _ _ _ hq3.out).mono ?_
      rintro e v4 ⟨rfl, b4⟩
      have m4 := m3.below b4
      have hq4 := Lib.hid (hq3.out.below b4)
      have k41 := m4.c1
      have k42 := m4.c2
      have k43 := m4.c3
      clear k31 k32 k33 b4 hq3 m3
      go_wp2_with fail
      refine (len_no _ _ hq4.out).mono ?_
      rintro e v5 ⟨rfl, b5⟩
      have m5 := m4.below b5
      have hq5 := Lib.hid (hq4.out.below b5)
      have k51 := m5.c1
      have k52 := m5.c2
      have k53 := m5.c3
      clear k41 k42 k43 b5 hq4 m4
      go_wp2_with fail
      refine (gap_no _ _ hq5.out).mono ?_
      rintro e v6 ⟨rfl, b6⟩
      have m6 := m5.below b6
      have hq6 := Lib.hid (hq5.out.below b6)
      have k61 := m6.c1
      have k62 := m6.c2
      have k63 := m6.c3
      clear k51 k52 k53 b6 hq5 m5
      go_wp2_with fail
      refine (copy_no _ _ hq6.out).mono ?_
      rintro e v7 ⟨rfl, b7⟩
      have m7 := m6.below b7
      have hq7 := Lib.hid (hq6.out.below b7)
      have k71 := m7.c1
      have k72 := m7.c2
      have k73 := m7.c3
      clear k61 k62 k63 b7 hq6 m6
      go_wp2_with fail
      go_roundw
      case rel => exact ⟨2, by omega, by go_num, m7⟩
      case measure => simp [intOf]

    · go_wp2_with (go_at_call 6; refine (lives_any _).mono ?_; rintro e w' ⟨rfl, hbL⟩)
      go_ret
      exact ⟨rfl, M0.out.bel.trans (hbL.mono M0.out.bel.size)⟩

theorem own : ownKnob Try.prog.godebug = none := by kernel_rfl
theorem laidOut : laidOutB Try.prog = true := by kernel_rfl

set_option maxRecDepth 100000 in
theorem lifted (os : Os) (started : os.Started) (H : Type) (enc : TypeId × Value → H) :
    ReturnsInHanded {} Try.checked os 5 .any (Rows.paceNoneSpec.pre6 enc Try.prog Try.f5 Rows.paceNoneRow.domain false) (Rows.paceNoneSpec.post enc Try.prog Try.f5 false true false false) := by
  refine returnsInHanded_of_change (C := Try.checked) own started (by kernel_rfl) Try.func5
    (ChangeSpec.witness6 (enc := enc) (C := Try.checked) false ⟨#[], #[.agg #[.bool false, .int .u32 0, .int .i64 0, .int .i64 0]], []⟩ 8 (by kernel_rfl) (by kernel_rfl) (by kernel_rfl) (by kernel_rfl)) ?_
  intro W base args ds gs before hval0 hW hcnd _
  have hval : ∀ (j : Nat) t v, Try.f5.params[j]? = some t → args[j]? = some v → Value.okWide Try.prog W .any base t v := hval0
  have hW' := hW
  obtain ⟨p, q, hA0, hV, rfl, hfz, hnd⟩ := hW
  have hA : DataW.TrodAll enc Try.prog W 0 (fun _ => true) true Try.f5.params.toList args.toList ds p := hA0
  rw [Try.params5] at hA hval
  obtain ⟨v0, vs0, d0, ds0, p0, q0, hargs, rfl, rfl, h0, r0⟩ := trodAll_cons hA
  obtain ⟨rfl, rfl, rfl⟩ := trodAll_nil r0
  obtain rfl : args = #[v0] := by cases args; simp_all
  obtain ⟨rfl, rfl⟩ := trodVars_none hV
  obtain ⟨cs, rfl, hcs⟩ := okWide_struct Try.underlying39 (hval 0 39 v0 rfl rfl)
  have k0 := h0
  have lt0 : ∀ x ∈ p0, x.block < W.heap.size := by obtain ⟨m, hm⟩ := k0; exact DataW.trod_lt m _ _ _ hm
  obtain ⟨fg, a, n, now, hc, -, -, -⟩ : ∃ (fg : Bool) (a n now : Int), cs.toList = [.bool fg, .int .u32 a, .int .i64 n, .int .i64 now] ∧ (Lit.int .u32 a).wf = true ∧ (Lit.int .i64 n).wf = true ∧ (Lit.int .i64 now).wf = true := by
    obtain ⟨fuel, hf⟩ := h0
    exact act_cells hf
  obtain rfl : cs = #[.bool fg, .int .u32 a, .int .i64 n, .int .i64 now] := by cases cs; simp_all
  clear hA0 hval0
  refine (walk fg a n now W).mono fun e W' ⟨he, bel⟩ => ?_
  subst he
  exact ⟨_, rfl, _, _, _, [], _, [], hW', trodAll_mk1 (shut_bool Try.underlying4 _), (trodAll_cons_mk (Below.trod laidOut (by kernel_rfl) (of_decide_eq_true (by kernel_rfl)) k0 bel lt0) trodAll_mk0), rfl, bel.frame _, fun h => by cases h⟩

theorem over : Rows.paceNoneRow.holds Try.pinned (OpenSpec.ofChange Rows.paceNoneSpec) :=
  OpenClaim.holds_of_wide 5 Try.f5 rfl rfl rfl rfl rfl rfl rfl ⟨rfl, rfl, rfl, rfl, rfl⟩ rfl rfl rfl rfl rfl (by kernel_rfl) Try.func5 (by kernel_rfl)
    (of_decide_eq_true (by kernel_rfl)) (by unfold Func.isWrapper; first | (rw [if_pos (by decide +kernel)]; kernel_rfl) | (rw [if_neg (by decide +kernel)]; exact ⟨rfl, rfl⟩))
    (fun os started H enc _ => lifted os started H enc)

theorem proved : Rows.PaceNoneSaid := over

end Go.Proofs.Ytpboomjnbndcpaa.paceNone
