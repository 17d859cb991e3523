/-
  Proved here: fairwaylaw15.FsmWrong returns true for every input, and its input reads as it did; no condition.
-/
import Derived.Test.YtdggdidmjddhbaaFsmA
import Derived.ShutString
import Derived.ProofKit
import Derived.StillTailTactics
import Derived.Lib.QuietBelow
import Derived.Lib.Hide
import Derived.Deep.RegionHeld3
import Derived.ChangeOld
namespace Go.Proofs.Ytdggdidmjddhbaa.fsmWrong
open Go.ChangeShapes Go.WideShapes Go.ChangeAt Go.RowKit Go.Deep
set_option linter.unusedVariables false

theorem model_live (s c b : Int) (da : Option Addr) (dn dc : Nat) (wins : Bool) (h : s = 3 ∨ s = 4 ∨ s = 5) : nextM s 12 c b da dn dc wins = fallsM true c b da dn dc := by
  rcases h with rfl | rfl | rfl <;> rfl
theorem model_dead (s c b : Int) (da : Option Addr) (dn dc : Nat) (wins : Bool) (h : ¬ (s = 3 ∨ s = 4 ∨ s = 5)) : nextM s 12 c b da dn dc wins = { state := s } := by
  unfold nextM
  by_cases h0 : s = 0
  · subst h0; rfl
  by_cases h1 : s = 1 ∨ s = 2
  · rw [if_neg h0, if_pos h1]; rfl
  · rw [if_neg h0, if_neg h1, if_neg h]

theorem next_live (s c b : Int) (da : Option Addr) (dn dc : Nat) (wins : Bool) (h : s = 3 ∨ s = 4 ∨ s = 5) (w : World) :
    Calls Try.prog 8 #[.int .i64 s, .int .i64 12, .agg #[.int .i64 c, .int .i64 b, .slice da dn dc], .bool wins] w fun r w' => r = .returned (fallsM true c b da dn dc).toV ∧ Below w.heap.size w w' := by
  have := next_any s 12 c b da dn dc wins w
  rw [model_live s c b da dn dc wins h] at this
  exact this
theorem next_dead (s c b : Int) (da : Option Addr) (dn dc : Nat) (wins : Bool) (h : ¬ (s = 3 ∨ s = 4 ∨ s = 5)) (w : World) :
    Calls Try.prog 8 #[.int .i64 s, .int .i64 12, .agg #[.int .i64 c, .int .i64 b, .slice da dn dc], .bool wins] w fun r w' => r = .returned (Stp.toV { state := s }) ∧ Below w.heap.size w w' := by
  have := next_any s 12 c b da dn dc wins w
  rw [model_dead s c b da dn dc wins h] at this
  exact this
theorem live_yes (s : Int) (h : s = 3 ∨ s = 4 ∨ s = 5) (w : World) :
    Calls Try.prog 10 #[.int .i64 s] w fun r w' => r = .returned (.bool true) ∧ Below w.heap.size w w' := by
  have := isLive s w
  rw [decide_eq_true (by omega)] at this
  exact this
theorem live_no (s : Int) (h : ¬ (s = 3 ∨ s = 4 ∨ s = 5)) (w : World) :
    Calls Try.prog 10 #[.int .i64 s] w fun r w' => r = .returned (.bool false) ∧ Below w.heap.size w w' := by
  have := isLive s w
  rw [decide_eq_false (by omega)] at this
  exact this

set_option maxHeartbeats 1000000 in
theorem walk_far (s c b : Int) (da : Option Addr) (dn dc : Nat) (wins : Bool) (w : World) (hm : dn ≤ maxLen) (hb : 5000 < dn) :
    Calls Try.prog 5 #[.int .i64 s, .agg #[.int .i64 c, .int .i64 b, .slice da dn dc], .bool wins] w fun r w' => r = .returned (.bool true) ∧ Below w.heap.size w w' := by
  unfold maxLen at hm
  go_enter Try.func5, Try.ntmps5
  go_wp2_with (go_at_call 6; refine (lives_any _).mono ?_; rintro r w1 ⟨rfl, hb1⟩)
  go_ret
  exact ⟨rfl, bel_call (below_alloc (Below.refl _ _) _) hb1⟩

set_option maxHeartbeats 1000000 in
theorem walk_dead (s c b : Int) (da : Option Addr) (dn dc : Nat) (wins : Bool) (w : World) (hm : dn ≤ maxLen) (hb : ¬ 5000 < dn) (hs : ¬ (s = 3 ∨ s = 4 ∨ s = 5)) :
    Calls Try.prog 5 #[.int .i64 s, .agg #[.int .i64 c, .int .i64 b, .slice da dn dc], .bool wins] w fun r w' => r = .returned (.bool true) ∧ Below w.heap.size w w' := by
  unfold maxLen at hm
  have HS := Lib.hid hs
  clear hs
  go_enter Try.func5, Try.ntmps5
  go_wp2_with (first
    | (go_at_call 8; refine (next_dead s c b da dn dc wins HS.out _).mono ?_; rintro r w1 ⟨rfl, hb1⟩; dsimp only [Stp.toV])
    | (go_at_call 10; refine (live_no s HS.out _).mono ?_; rintro r w2 ⟨rfl, hb2⟩; have hx2 := below_heap hb2 (heap_alloc_new w1 _); have x0 := cell_of hx2 0; have x2 := cell_of hx2 2; have x5 := cell_of hx2 5; have hxl := lt_of_heap hx2)
    | (go_at_call 6; refine (lives_any _).mono ?_; rintro r w3 ⟨rfl, hb3⟩))
  go_ret
  exact ⟨rfl, bel_call (bel_call (below_alloc (bel_call (below_alloc (Below.refl _ _) _) hb1) _) hb2) hb3⟩

set_option maxHeartbeats 1000000 in
theorem walk_live (s c b : Int) (da : Option Addr) (dn dc : Nat) (wins : Bool) (t : ByteArray) (w : World) (hm : dn ≤ maxLen) (hb : ¬ 5000 < dn) (hs : s = 3 ∨ s = 4 ∨ s = 5) (hT : Txt w da dn t) :
    Calls Try.prog 5 #[.int .i64 s, .agg #[.int .i64 c, .int .i64 b, .slice da dn dc], .bool wins] w fun r w' => r = .returned (.bool true) ∧ Below w.heap.size w w' := by
  unfold maxLen at hm
  have HS := Lib.hid hs
  have HT := Lib.hid hT
  clear hs hT
  go_enter Try.func5, Try.ntmps5
  go_wp2_with (first
    | (go_at_call 8; refine (next_live s c b da dn dc wins HS.out _).mono ?_; rintro r w1 ⟨rfl, hb1⟩; dsimp only [Stp.toV, fallsM])
    | (go_at_call 10; refine (live_yes s HS.out _).mono ?_; rintro r w2 ⟨rfl, hb2⟩; have hx2 := below_heap hb2 (heap_alloc_new w1 _); have x0 := cell_of hx2 0; have x2 := cell_of hx2 2; have x5 := cell_of hx2 5; have x6 := cell_of hx2 6; have x7 := cell_of hx2 7; have x8 := cell_of hx2 8; have x9 := cell_of hx2 9; have x10 := cell_of hx2 10; have hf2 := below_heap hb2 (heap_alloc_old (below_heap hb1 (heap_alloc_new w _))); have f0 := cell_of hf2 0; have f1 := cell_of hf2 1; have f2 := cell_of hf2 2; have hv := ((((HT.out.alloc _).below hb1).alloc _).below hb2).conv dc; clear hx2 hf2)
    | (go_at_call 6; refine (lives_any _).mono ?_; rintro r w3 ⟨rfl, hb3⟩))
  go_ret
  exact ⟨rfl, bel_call (bel_call (below_alloc (bel_call (below_alloc (Below.refl _ _) _) hb1) _) hb2) hb3⟩

theorem walk (s c b : Int) (da : Option Addr) (dn dc : Nat) (wins : Bool) (t : ByteArray) (w : World) (hm : dn ≤ maxLen) (hT : Txt w da dn t) :
    Calls Try.prog 5 #[.int .i64 s, .agg #[.int .i64 c, .int .i64 b, .slice da dn dc], .bool wins] w fun r w' => r = .returned (.bool true) ∧ Below w.heap.size w w' := by
  by_cases hb : 5000 < dn
  · exact walk_far s c b da dn dc wins w hm hb
  · by_cases hs : s = 3 ∨ s = 4 ∨ s = 5
    · exact walk_live s c b da dn dc wins t w hm hb hs hT
    · exact walk_dead s c b da dn dc wins w hm hb hs

theorem own : ownKnob Try.prog.godebug = none := by kernel_rfl
theorem laidOut : laidOutB Try.prog = true := by kernel_rfl

set_option maxRecDepth 100000 in
theorem lifted (os : Os) (started : os.Started) (H : Type) (enc : TypeId × Value → H) :
    ReturnsInHanded {} Try.checked os 5 .any (Rows.fsmWrongSpec.pre6 enc Try.prog Try.f5 Rows.fsmWrongRow.domain false) (Rows.fsmWrongSpec.post enc Try.prog Try.f5 false true false false) := by
  refine returnsInHanded_of_change (C := Try.checked) own started (by kernel_rfl) Try.func5
    (ChangeSpec.witness6 (enc := enc) (C := Try.checked) false ⟨#[], #[.int .i64 0, .agg #[.int .i64 0, .int .i64 0, .slice none 0 0], .bool false], []⟩ 8 (by kernel_rfl) (by kernel_rfl) (by kernel_rfl) (by kernel_rfl)) ?_
  intro W base args ds gs before hval0 hW hcnd _
  have hval : ∀ (j : Nat) t v, Try.f5.params[j]? = some t → args[j]? = some v → Value.okWide Try.prog W .any base t v := hval0
  have hW' := hW
  obtain ⟨p, q, hA0, hV, rfl, hfz, hnd⟩ := hW
  have hA : DataW.TrodAll enc Try.prog W 0 (fun _ => true) true Try.f5.params.toList args.toList ds p := hA0
  rw [Try.params5] at hA hval
  obtain ⟨v0, vs0, d0, ds0, p0, q0, hargs, rfl, rfl, h0, r0⟩ := trodAll_cons hA
  obtain ⟨v1, vs1, d1, ds1, p1, q1, rfl, rfl, rfl, h1, r1⟩ := trodAll_cons r0
  obtain ⟨v2, vs2, d2, ds2, p2, q2, rfl, rfl, rfl, h2, r2⟩ := trodAll_cons r1
  obtain ⟨rfl, rfl, rfl⟩ := trodAll_nil r2
  obtain rfl : args = #[v0, v1, v2] := by cases args; simp_all
  obtain ⟨rfl, rfl⟩ := trodVars_none hV
  obtain ⟨s, rfl, rfl, rfl, w0⟩ := open_int Try.underlying3 (hval 0 3 v0 rfl rfl) h0
  obtain ⟨cs1, rfl, -⟩ := okWide_struct Try.underlying25 (hval 1 25 v1 rfl rfl)
  obtain ⟨a2, rfl⟩ := okWide_bool Try.underlying4 (hval 2 4 v2 rfl rfl)
  have k1 := h1
  have lt1 : ∀ x ∈ p1, x.block < W.heap.size := by obtain ⟨m, hm⟩ := k1; exact DataW.trod_lt m _ _ _ hm
  have k2 := h2
  have lt2 : ∀ x ∈ p2, x.block < W.heap.size := by obtain ⟨m, hm⟩ := k2; exact DataW.trod_lt m _ _ _ hm
  obtain ⟨c, b, da, dn, dc, t, hc1, hm, hT⟩ : ∃ (c b : Int) (da : Option Addr) (dn dc : Nat) (t : ByteArray), cs1.toList = [.int .i64 c, .int .i64 b, .slice da dn dc] ∧ dn ≤ maxLen ∧ Txt W da dn t := by
    obtain ⟨fuel, hf⟩ := h1
    exact fault_cells hf
  obtain rfl : cs1 = #[.int .i64 c, .int .i64 b, .slice da dn dc] := by cases cs1; simp_all
  clear hA0 hval0
  refine (walk s c b da dn dc a2 t W hm hT).mono fun e W' ⟨he, bel⟩ => ?_
  subst he
  exact ⟨_, rfl, _, _, _, [], _, [], hW', trodAll_mk1 (shut_bool Try.underlying4 _), (trodAll_cons_mk (shut_int Try.underlying3 w0) (trodAll_cons_mk (Below.trod laidOut (by kernel_rfl) (of_decide_eq_true (by kernel_rfl)) k1 bel lt1) (trodAll_cons_mk (Below.trod laidOut (by kernel_rfl) (of_decide_eq_true (by kernel_rfl)) k2 bel lt2) trodAll_mk0))), rfl, bel.frame _, fun h => by cases h⟩

theorem over : Rows.fsmWrongRow.holds Try.pinned (OpenSpec.ofChange Rows.fsmWrongSpec) :=
  OpenClaim.holds_of_wide 5 Try.f5 rfl rfl rfl rfl rfl rfl rfl ⟨rfl, rfl, rfl, rfl, rfl⟩ rfl rfl rfl rfl rfl (by kernel_rfl) Try.func5 (by kernel_rfl)
    (of_decide_eq_true (by kernel_rfl)) (by unfold Func.isWrapper; first | (rw [if_pos (by decide +kernel)]; kernel_rfl) | (rw [if_neg (by decide +kernel)]; exact ⟨rfl, rfl⟩))
    (fun os started H enc _ => lifted os started H enc)

theorem proved : Rows.FsmWrongSaid := over

end Go.Proofs.Ytdggdidmjddhbaa.fsmWrong
