/-
  Proved here: fairwaylaw15.FsmNext returns true for every input, and its input reads as it did; no condition.
-/
import Derived.Test.YtdggdidmjddhbaaFsmA
import Derived.ShutString
import Derived.ProofKit
import Derived.StillTailTactics
import Derived.Lib.QuietBelow
import Derived.Lib.Hide
import Derived.Deep.RegionHeld3
import Derived.ChangeOld
namespace Go.Proofs.Ytdggdidmjddhbaa.fsmNext
open Go.ChangeShapes Go.WideShapes Go.ChangeAt Go.RowKit Go.Deep
set_option linter.unusedVariables false

def Tame (da : Option Addr) (dn : Nat) (x : Stp) : Prop := (x.da = none ∧ x.dn = 0) ∨ (x.da = da ∧ x.dn = dn)
theorem tame_ite {da : Option Addr} {dn : Nat} (p : Prop) [Decidable p] {x y : Stp} (hx : Tame da dn x) (hy : Tame da dn y) : Tame da dn (if p then x else y) := by
  split <;> assumption
theorem next_data (s e c b : Int) (da : Option Addr) (dn dc : Nat) (wins : Bool) : Tame da dn (nextM s e c b da dn dc wins) := by
  unfold nextM idleM waitsM liveM secondM lostM messageM fallsM
  repeat' refine tame_ite _ ?_ ?_
  all_goals first | exact .inl ⟨rfl, rfl⟩ | exact .inr ⟨rfl, rfl⟩

theorem next_txt {w : World} {da : Option Addr} {dn : Nat} {t : ByteArray} (h : Txt w da dn t) (s e c b : Int) (dc : Nat) (wins : Bool) :
    ∃ t', ∀ w', Below w.heap.size w w' → Txt w' (nextM s e c b da dn dc wins).da (nextM s e c b da dn dc wins).dn t' := by
  rcases next_data s e c b da dn dc wins with ⟨h1, h2⟩ | ⟨h1, h2⟩
  · exact ⟨_, fun w' _ => by rw [h1, h2]; exact .inl ⟨rfl, rfl⟩⟩
  · exact ⟨t, fun w' hb => by rw [h1, h2]; exact h.below hb⟩

set_option maxHeartbeats 1000000 in
theorem walk_far (s e c b : Int) (da : Option Addr) (dn dc : Nat) (wins : Bool) (w : World) (hm : dn ≤ maxLen) (hb : 5000 < dn) :
    Calls Try.prog 3 #[.agg #[.int .i64 s, .int .i64 e], .agg #[.int .i64 c, .int .i64 b, .slice da dn dc], .bool wins] w fun r w' => r = .returned (.bool true) ∧ Below w.heap.size w w' := by
  unfold maxLen at hm
  go_enter Try.func3, Try.ntmps3
  go_wp2_with fail
  go_quiet (fail)
  go_wp2_with (go_at_call 6; refine (lives_any _).mono ?_; rintro r w1 ⟨rfl, hb1⟩)
  go_ret
  exact ⟨rfl, bel_call (below_drewN (below_alloc (below_alloc (Below.refl _ _) _) _) _) hb1⟩

set_option maxHeartbeats 1000000 in
theorem walk_near (s e c b : Int) (da : Option Addr) (dn dc : Nat) (wins : Bool) (t : ByteArray) (w : World) (hm : dn ≤ maxLen) (hb : ¬ 5000 < dn) (hT : Hid (∀ w', Below w.heap.size w w' → Txt w' (nextM s e c b da dn dc wins).da (nextM s e c b da dn dc wins).dn t)) :
    Calls Try.prog 3 #[.agg #[.int .i64 s, .int .i64 e], .agg #[.int .i64 c, .int .i64 b, .slice da dn dc], .bool wins] w fun r w' => r = .returned (.bool true) ∧ Below w.heap.size w w' := by
  unfold maxLen at hm
  go_enter Try.func3, Try.ntmps3
  go_wp2_with fail
  go_quiet (fail)
  go_wp2_with fail
  have hB0 : Below w.heap.size w (((w.alloc (.cells #[.int .i64 s, .int .i64 e] 22)).alloc (.cells #[.int .i64 c, .int .i64 b, .slice da dn dc] 25)).drewN nq) := below_drewN (below_alloc (below_alloc (Below.refl _ _) _) _) _
  have f0 : (((w.alloc (.cells #[.int .i64 s, .int .i64 e] 22)).alloc (.cells #[.int .i64 c, .int .i64 b, .slice da dn dc] 25)).drewN nq).heap[w.heap.size + 1]? = some (.cells #[.int .i64 c, .int .i64 b, .slice da dn dc] 25) := heap_alloc_new' (by simp)
  generalize (((w.alloc (.cells #[.int .i64 s, .int .i64 e] 22)).alloc (.cells #[.int .i64 c, .int .i64 b, .slice da dn dc] 25)).drewN nq) = v0 at *
  have HB := Lib.hid hB0
  have hs0 : w.heap.size ≤ v0.heap.size := hB0.size
  have hs1 : w.heap.size + 1 < v0.heap.size := lt_of_heap f0
  have F0 := Lib.hid f0
  have x0 : v0.cell? ⟨w.heap.size + 1, 0, none⟩ = some (.int .i64 c) := cell_of f0 0
  have x1 : v0.cell? ⟨w.heap.size + 1, 1, none⟩ = some (.int .i64 b) := cell_of f0 1
  have x2 : v0.cell? ⟨w.heap.size + 1, 2, none⟩ = some (.slice da dn dc) := cell_of f0 2
  clear hB0 f0
  generalize w.heap.size + 1 = F at *
  go_region_held3 (fun w' => w'.cell? ⟨F, 0, none⟩ = some (.int .i64 c) ∧ w'.cell? ⟨F, 1, none⟩ = some (.int .i64 b) ∧ w'.cell? ⟨F, 2, none⟩ = some (.slice da dn dc))
    (first | (go_keep; done) | exact ⟨x0, x1, x2⟩ | exact ⟨y0, y1, y2⟩ | exact ⟨z0, z1, z2⟩ | exact ⟨p0, p1, p2⟩ | exact ⟨q0, q1, q2⟩)
    (first
      | (go_at_call 8; refine (next_any s e c b da dn dc wins v0.drew).mono ?_; rintro r v1 ⟨rfl, hb1⟩; dsimp only [Stp.toV]; have y0 := cell_below (w := v0.drew) hb1 x0; have y1 := cell_below (w := v0.drew) hb1 x1; have y2 := cell_below (w := v0.drew) hb1 x2)
      | (go_at_call 9; refine (rnext_any s e c b da dn dc wins v1).mono ?_; rintro r v2 ⟨rfl, hb2⟩; dsimp only [Stp.toV]; have z0 := cell_below hb2 y0; have z1 := cell_below hb2 y1; have z2 := cell_below hb2 y2)
      | (go_at_call 7; refine (same_any (nextM s e c b da dn dc wins) t v2 (hT.out v2 ((HB.out.drew.trans (hb1.mono hs0)).trans (hb2.mono (Nat.le_trans hs0 hb1.size))))).mono ?_; rintro r v3 ⟨rfl, hb3⟩; have p0 := cell_below hb3 z0; have p1 := cell_below hb3 z1; have p2 := cell_below hb3 z2)
      | (go_at_call 6; refine (lives_any v3).mono ?_; rintro r v4 ⟨rfl, hb4⟩; have q0 := cell_below hb4 p0; have q1 := cell_below hb4 p1; have q2 := cell_below hb4 p2))
  go_wp2
  go_ret
  have hs2 := Nat.le_trans hs0 hb1.size
  have hs3 := Nat.le_trans hs2 hb2.size
  exact ⟨rfl, (((HB.out.drew.trans (hb1.mono hs0)).trans (hb2.mono hs2)).trans (hb3.mono hs3)).trans (hb4.mono (Nat.le_trans hs3 hb3.size))⟩

theorem walk (s e c b : Int) (da : Option Addr) (dn dc : Nat) (wins : Bool) (t : ByteArray) (w : World) (hm : dn ≤ maxLen) (hT : Txt w da dn t) :
    Calls Try.prog 3 #[.agg #[.int .i64 s, .int .i64 e], .agg #[.int .i64 c, .int .i64 b, .slice da dn dc], .bool wins] w fun r w' => r = .returned (.bool true) ∧ Below w.heap.size w w' := by
  by_cases hb : 5000 < dn
  · exact walk_far s e c b da dn dc wins w hm hb
  · obtain ⟨t', ht⟩ := next_txt hT s e c b dc wins
    exact walk_near s e c b da dn dc wins t' w hm hb (Lib.hid ht)

theorem own : ownKnob Try.prog.godebug = none := by kernel_rfl
theorem laidOut : laidOutB Try.prog = true := by kernel_rfl

set_option maxRecDepth 100000 in
theorem lifted (os : Os) (started : os.Started) (H : Type) (enc : TypeId × Value → H) :
    ReturnsInHanded {} Try.checked os 3 .any (Rows.fsmNextSpec.pre6 enc Try.prog Try.f3 Rows.fsmNextRow.domain false) (Rows.fsmNextSpec.post enc Try.prog Try.f3 false true false false) := by
  refine returnsInHanded_of_change (C := Try.checked) own started (by kernel_rfl) Try.func3
    (ChangeSpec.witness6 (enc := enc) (C := Try.checked) false ⟨#[], #[.agg #[.int .i64 0, .int .i64 0], .agg #[.int .i64 0, .int .i64 0, .slice none 0 0], .bool false], []⟩ 8 (by kernel_rfl) (by kernel_rfl) (by kernel_rfl) (by kernel_rfl)) ?_
  intro W base args ds gs before hval0 hW hcnd _
  have hval : ∀ (j : Nat) t v, Try.f3.params[j]? = some t → args[j]? = some v → Value.okWide Try.prog W .any base t v := hval0
  have hW' := hW
  obtain ⟨p, q, hA0, hV, rfl, hfz, hnd⟩ := hW
  have hA : DataW.TrodAll enc Try.prog W 0 (fun _ => true) true Try.f3.params.toList args.toList ds p := hA0
  rw [Try.params3] at hA hval
  obtain ⟨v0, vs0, d0, ds0, p0, q0, hargs, rfl, rfl, h0, r0⟩ := trodAll_cons hA
  obtain ⟨v1, vs1, d1, ds1, p1, q1, rfl, rfl, rfl, h1, r1⟩ := trodAll_cons r0
  obtain ⟨v2, vs2, d2, ds2, p2, q2, rfl, rfl, rfl, h2, r2⟩ := trodAll_cons r1
  obtain ⟨rfl, rfl, rfl⟩ := trodAll_nil r2
  obtain rfl : args = #[v0, v1, v2] := by cases args; simp_all
  obtain ⟨rfl, rfl⟩ := trodVars_none hV
  obtain ⟨cs0, rfl⟩ := okWide_two (hval 0 22 v0 rfl rfl)
  obtain ⟨cs1, rfl, -⟩ := okWide_struct Try.underlying25 (hval 1 25 v1 rfl rfl)
  obtain ⟨a2, rfl⟩ := okWide_bool Try.underlying4 (hval 2 4 v2 rfl rfl)
  have k0 := h0
  have lt0 : ∀ x ∈ p0, x.block < W.heap.size := by obtain ⟨m, hm⟩ := k0; exact DataW.trod_lt m _ _ _ hm
  have k1 := h1
  have lt1 : ∀ x ∈ p1, x.block < W.heap.size := by obtain ⟨m, hm⟩ := k1; exact DataW.trod_lt m _ _ _ hm
  have k2 := h2
  have lt2 : ∀ x ∈ p2, x.block < W.heap.size := by obtain ⟨m, hm⟩ := k2; exact DataW.trod_lt m _ _ _ hm
  obtain ⟨s, e, hc0⟩ : ∃ s e : Int, cs0.toList = [.int .i64 s, .int .i64 e] := by
    obtain ⟨fuel, hf⟩ := h0
    exact two_cells hf
  obtain rfl : cs0 = #[.int .i64 s, .int .i64 e] := by cases cs0; simp_all
  obtain ⟨c, b, da, dn, dc, t, hc1, hm, hT⟩ : ∃ (c b : Int) (da : Option Addr) (dn dc : Nat) (t : ByteArray), cs1.toList = [.int .i64 c, .int .i64 b, .slice da dn dc] ∧ dn ≤ maxLen ∧ Txt W da dn t := by
    obtain ⟨fuel, hf⟩ := h1
    exact fault_cells hf
  obtain rfl : cs1 = #[.int .i64 c, .int .i64 b, .slice da dn dc] := by cases cs1; simp_all
  clear hA0 hval0
  refine (walk s e c b da dn dc a2 t W hm hT).mono fun e W' ⟨he, bel⟩ => ?_
  subst he
  exact ⟨_, rfl, _, _, _, [], _, [], hW', trodAll_mk1 (shut_bool Try.underlying4 _), (trodAll_cons_mk (Below.trod laidOut (by kernel_rfl) (of_decide_eq_true (by kernel_rfl)) k0 bel lt0) (trodAll_cons_mk (Below.trod laidOut (by kernel_rfl) (of_decide_eq_true (by kernel_rfl)) k1 bel lt1) (trodAll_cons_mk (Below.trod laidOut (by kernel_rfl) (of_decide_eq_true (by kernel_rfl)) k2 bel lt2) trodAll_mk0))), rfl, bel.frame _, fun h => by cases h⟩

theorem over : Rows.fsmNextRow.holds Try.pinned (OpenSpec.ofChange Rows.fsmNextSpec) :=
  OpenClaim.holds_of_wide 3 Try.f3 rfl rfl rfl rfl rfl rfl rfl ⟨rfl, rfl, rfl, rfl, rfl⟩ rfl rfl rfl rfl rfl (by kernel_rfl) Try.func3 (by kernel_rfl)
    (of_decide_eq_true (by kernel_rfl)) (by unfold Func.isWrapper; first | (rw [if_pos (by decide +kernel)]; kernel_rfl) | (rw [if_neg (by decide +kernel)]; exact ⟨rfl, rfl⟩))
    (fun os started H enc _ => lifted os started H enc)

theorem proved : Rows.FsmNextSaid := over

end Go.Proofs.Ytdggdidmjddhbaa.fsmNext
