/-
  Proved here: fairwaylaw14.QueueNone returns true for every input, and its input reads as it did; no condition.
-/
import Derived.Test.YtliaeknidmbelaaQN
import Derived.ProofKit
import Derived.OpenShut
import Derived.ShutString
import Derived.ChangeOld
import Derived.Deep.Strs
import Derived.Lib.SmallJoins
namespace Go.Proofs.Ytliaeknidmbelaa.queueNone
open Go.ChangeShapes Go.WideShapes Go.ChangeAt Go.RowKit Go.Deep
set_option linter.unusedVariables false

theorem bel_call {a u u' : World} (h : Below a.heap.size a u) (hb : Below u.heap.size u u') : Below a.heap.size a u' := h.trans (hb.mono h.size)

set_option maxHeartbeats 1000000 in
theorem light_one (B : Nat) (kind n : Int) (ba : Option Addr) (bn bc : Nat) (w : World) (hm : bn ≤ maxLen) (h0 : w.cell? ⟨B, 0, none⟩ = some (.int .i64 kind)) (h1 : w.cell? ⟨B, 1, none⟩ = some (.int .i64 n)) (h2 : w.cell? ⟨B, 2, none⟩ = some (.slice ba bn bc)) :
    Calls Try.prog 14 #[.slice (some ⟨B, 0, none⟩) 1 1] w fun r w' => r = .returned (.bool (decide (bn ≤ 50000))) ∧ Below w.heap.size w w' := by
  unfold maxLen at hm
  go_enter Try.func14, Try.ntmps14
  go_wp2_with fail
  have hB := World.block_lt_of_cell? w _ h0
  go_loopw [3, 11] (fun nv iv wr => Below w.heap.size w wr ∧ ((iv = .int .i64 0 ∧ nv = .int .i64 0) ∨ (iv = .int .i64 1 ∧ nv = .int .i64 bn ∧ bn ≤ 50000))) (fun _ iv _ => 1 - (intOf iv).toNat)
  case atStart => exact ⟨Below.refl _ _, .inl ⟨rfl, rfl⟩⟩
  case round =>
    obtain ⟨hb, hrel⟩ := hrel
    have j0 : wr.cell? ⟨B, 0, none⟩ = some (.int .i64 kind) := by rw [hb.cell (p := ⟨B, 0, none⟩) hB]; exact h0
    have j1 : wr.cell? ⟨B, 1, none⟩ = some (.int .i64 n) := by rw [hb.cell (p := ⟨B, 1, none⟩) hB]; exact h1
    have j2 : wr.cell? ⟨B, 2, none⟩ = some (.slice ba bn bc) := by rw [hb.cell (p := ⟨B, 2, none⟩) hB]; exact h2
    have HB := Lib.hid hb
    clear hb h0 h1 h2
    rcases hrel with ⟨rfl, rfl⟩ | ⟨rfl, rfl, hle⟩
    · by_cases hle : bn ≤ 50000
      · go_wp2
        go_roundw
        case rel => exact ⟨below_alloc HB.out _, .inr ⟨rfl, rfl, hle⟩⟩
        case measure => simp [intOf]
      · go_wp2
        go_ret
        exact ⟨by simp, below_alloc HB.out _⟩
    · go_wp2
      go_ret
      exact ⟨by simp, HB.out⟩

set_option maxRecDepth 100000 in
set_option maxHeartbeats 2000000 in
theorem walk (kind n : Int) (ba : Option Addr) (bn bc : Nat) (w : World) (hm : bn ≤ maxLen) :
    Calls Try.prog 5 #[.agg #[.int .i64 kind, .int .i64 n, .slice ba bn bc]] w fun e w' => e = .returned (.bool true) ∧ Below w.heap.size w w' := by
  have i0 : ∀ (x y : Value) v, (Instr.index 53 (.agg #[x, y]) (.int .i64 0)).run Try.prog v = .ok x v := fun x y v => by kernel_rfl
  have i1 : ∀ (x y : Value) v, (Instr.index 53 (.agg #[x, y]) (.int .i64 1)).run Try.prog v = .ok y v := fun x y v => by kernel_rfl
  go_enter Try.func5, Try.ntmps5
  go_wp2_with fail
  refine (light_one (w.heap.size + 1) kind n ba bn bc _ hm (cell_of (heap_alloc_new' (World.size_alloc _ _).symm) 0) (cell_of (heap_alloc_new' (World.size_alloc _ _).symm) 1) (cell_of (heap_alloc_new' (World.size_alloc _ _).symm) 2)).mono ?_
  rintro r v1 ⟨rfl, hb1⟩
  have ha := below_heap hb1 (heap_alloc_old (heap_alloc_new w (.cells #[.int .i64 kind, .int .i64 n, .slice ba bn bc] 40)))
  have B1 : Hid (Below w.heap.size w v1) := Lib.hid (bel_call (below_alloc (below_alloc (Below.refl _ _) _) _) hb1)
  have a1 : v1.cell? ⟨w.heap.size, 1, none⟩ = some (.int .i64 n) := cell_of ha 1
  have a2 : v1.cell? ⟨w.heap.size, 2, none⟩ = some (.slice ba bn bc) := cell_of ha 2
  have hal := lt_of_heap ha
  clear hb1 ha
  by_cases hle : bn ≤ 50000
  · go_wp2_with fail
    have B2 : Hid (Below w.heap.size w (v1.alloc (.cells #[.int .i64 0, .slice none 0 0, .bool false, .int .i64 0, .int .i64 0, .int .i64 0] 52))) := Lib.hid (below_alloc B1.out _)
    have z2 := heap_alloc_new v1 (.cells #[.int .i64 0, .slice none 0 0, .bool false, .int .i64 0, .int .i64 0, .int .i64 0] 52)
    have z0 := cell_of z2 0
    have zl := lt_of_heap z2
    have c1 := cell_below (below_alloc (Below.refl _ v1) (.cells #[.int .i64 0, .slice none 0 0, .bool false, .int .i64 0, .int .i64 0, .int .i64 0] 52)) a1
    have c2 := cell_below (below_alloc (Below.refl _ v1) (.cells #[.int .i64 0, .slice none 0 0, .bool false, .int .i64 0, .int .i64 0, .int .i64 0] 52)) a2
    clear z2 a1 a2 hal B1
    generalize (v1.alloc (.cells #[.int .i64 0, .slice none 0 0, .bool false, .int .i64 0, .int .i64 0, .int .i64 0] 52)) = V at *
    generalize v1.heap.size = Z at *
    go_loopw [12] (fun i wr => wr = V ∧ ∃ k : Nat, k ≤ 2 ∧ i = .int .i64 k) (fun i _ => 2 - (intOf i).toNat)
    case atStart => exact ⟨rfl, 0, by omega, rfl⟩
    case round =>
      obtain ⟨rfl, k, hk, rfl⟩ := hrel
      have hk3 : k = 0 ∨ k = 1 ∨ k = 2 := by omega
      rcases hk3 with rfl | rfl | rfl
      · have HQ : Hid (Unmade wr (.pointer none)) := Lib.hid (.inl rfl)
        clear z0 zl
        go_wp2_with (first
          | (go_at_call 20; refine (clear_no (.pointer none) _ HQ.out).mono ?_; rintro r w' ⟨rfl, rfl⟩)
          | (go_at_call 8; refine (push_no (.pointer none) _ _ HQ.out).mono ?_; rintro r w' ⟨rfl, rfl⟩)
          | (go_at_call 9; refine (grant_no (.pointer none) _ _ HQ.out).mono ?_; rintro r w' ⟨rfl, rfl⟩)
          | (go_at_call 10; refine (take_no (.pointer none) _ HQ.out).mono ?_; rintro r w' ⟨rfl, rfl⟩)
          | (go_at_call 11; refine (drop_no (.pointer none) _ HQ.out).mono ?_; rintro r w' ⟨rfl, rfl⟩)
          | (go_at_call 12; refine (qlen_no (.pointer none) _ HQ.out).mono ?_; rintro r w' ⟨rfl, rfl⟩)
          | (go_at_call 21; refine (whole_no (.pointer none) _ HQ.out).mono ?_; rintro r w' ⟨rfl, rfl⟩)
          | (go_at_call 22; refine (credit_no (.pointer none) _ HQ.out).mono ?_; rintro r w' ⟨rfl, rfl⟩)
          | (go_at_call 23; refine (room_no (.pointer none) _ HQ.out).mono ?_; rintro r w' ⟨rfl, rfl⟩)
          | (go_at_call 13; refine (sent_no (.pointer none) _ HQ.out).mono ?_; rintro r w' ⟨rfl, rfl⟩)
          | (go_at_call 18; refine (copy_no (.pointer none) _ HQ.out).mono ?_; rintro r w' ⟨rfl, rfl⟩))
        go_roundw
        case rel => exact ⟨by trivial, 1, by omega, by go_num⟩
        case measure => simp [intOf]
      · have HQ : Hid (Unmade wr (.pointer (some ⟨Z, 0, none⟩))) := Lib.hid (.inr ⟨_, rfl, z0, zl⟩)
        clear z0 zl
        go_wp2_with (first
          | (go_at_call 20; refine (clear_no (.pointer (some ⟨Z, 0, none⟩)) _ HQ.out).mono ?_; rintro r w' ⟨rfl, rfl⟩)
          | (go_at_call 8; refine (push_no (.pointer (some ⟨Z, 0, none⟩)) _ _ HQ.out).mono ?_; rintro r w' ⟨rfl, rfl⟩)
          | (go_at_call 9; refine (grant_no (.pointer (some ⟨Z, 0, none⟩)) _ _ HQ.out).mono ?_; rintro r w' ⟨rfl, rfl⟩)
          | (go_at_call 10; refine (take_no (.pointer (some ⟨Z, 0, none⟩)) _ HQ.out).mono ?_; rintro r w' ⟨rfl, rfl⟩)
          | (go_at_call 11; refine (drop_no (.pointer (some ⟨Z, 0, none⟩)) _ HQ.out).mono ?_; rintro r w' ⟨rfl, rfl⟩)
          | (go_at_call 12; refine (qlen_no (.pointer (some ⟨Z, 0, none⟩)) _ HQ.out).mono ?_; rintro r w' ⟨rfl, rfl⟩)
          | (go_at_call 21; refine (whole_no (.pointer (some ⟨Z, 0, none⟩)) _ HQ.out).mono ?_; rintro r w' ⟨rfl, rfl⟩)
          | (go_at_call 22; refine (credit_no (.pointer (some ⟨Z, 0, none⟩)) _ HQ.out).mono ?_; rintro r w' ⟨rfl, rfl⟩)
          | (go_at_call 23; refine (room_no (.pointer (some ⟨Z, 0, none⟩)) _ HQ.out).mono ?_; rintro r w' ⟨rfl, rfl⟩)
          | (go_at_call 13; refine (sent_no (.pointer (some ⟨Z, 0, none⟩)) _ HQ.out).mono ?_; rintro r w' ⟨rfl, rfl⟩)
          | (go_at_call 18; refine (copy_no (.pointer (some ⟨Z, 0, none⟩)) _ HQ.out).mono ?_; rintro r w' ⟨rfl, rfl⟩))
        go_roundw
        case rel => exact ⟨by trivial, 2, by omega, by go_num⟩
        case measure => simp [intOf]
      · go_wp2_with (go_at_call 6; refine (lives_any _).mono ?_; rintro r v2 ⟨rfl, hb2⟩)
        go_ret
        exact ⟨rfl, bel_call B2.out hb2⟩
  · go_wp2_with (go_at_call 6; refine (lives_any _).mono ?_; rintro r v2 ⟨rfl, hb2⟩)
    go_ret
    exact ⟨rfl, bel_call B1.out hb2⟩

theorem len3 {α : Type} {l : List α} (h : l.length = 3) : ∃ a b c, l = [a, b, c] := by
  match l, h with
  | [a, b, c], _ => exact ⟨a, b, c, rfl⟩

/-- An act's cells. -/
theorem act_cells {H : Type} {enc : TypeId × Value → H} {W : World} {spare : Nat → Bool} {held : Bool} {fuel : Nat} {cs : List Value} {x : DataW H × List MemPlace}
    (h : DataW.trod enc Try.prog W 0 spare held fuel 40 cs = some x) :
    ∃ (c b : Int) (da : Option Addr) (dn dc : Nat), cs = [.int .i64 c, .int .i64 b, .slice da dn dc] ∧ dn ≤ maxLen := by
  obtain ⟨y0, y1, y2, m, -, hl, h0, h1, h2⟩ := trod_struct3 Try.underlying40 h
  have e1 : Try.prog.cellsOf 40 = 3 := by kernel_rfl
  have e2 : Try.prog.cellsOf 3 = 1 := by kernel_rfl
  have e3 : Try.prog.cellsOf 23 = 1 := by kernel_rfl
  rw [e1] at hl
  obtain ⟨c0, c1, c2, rfl⟩ := len3 hl
  simp only [e2, List.drop_zero, List.take_succ_cons, List.take_zero] at h0
  simp only [e2, List.drop_succ_cons, List.drop_zero, List.take_succ_cons, List.take_zero] at h1
  simp only [e3, List.drop_succ_cons, List.drop_zero, List.take_succ_cons, List.take_zero] at h2
  obtain ⟨c, k0, -⟩ := DataW.trod_int Try.underlying3 h0
  obtain ⟨b, k1, -⟩ := DataW.trod_int Try.underlying3 h1
  simp only [List.cons.injEq, and_true] at k0 k1
  subst k0 k1
  rcases open_ints Try.underlying23 Try.underlying5 (by kernel_rfl) h2 with ⟨hcs, _⟩ | ⟨ad, l, c', zs, hcs, _, hl', hm, _⟩
  · simp only [List.cons.injEq, and_true] at hcs
    subst hcs
    exact ⟨c, b, none, 0, 0, rfl, by simp [maxLen]⟩
  · simp only [List.cons.injEq, and_true] at hcs
    subst hcs
    exact ⟨c, b, some ad, l, c', rfl, Nat.le_trans hl' hm⟩

theorem own : ownKnob Try.prog.godebug = none := by kernel_rfl
theorem laidOut : laidOutB Try.prog = true := by kernel_rfl

set_option maxRecDepth 100000 in
theorem lifted (os : Os) (started : os.Started) (H : Type) (enc : TypeId × Value → H) :
    ReturnsInHanded {} Try.checked os 5 .any (Rows.queueNoneSpec.pre6 enc Try.prog Try.f5 Rows.queueNoneRow.domain false) (Rows.queueNoneSpec.post enc Try.prog Try.f5 false true false false) := by
  refine returnsInHanded_of_change (C := Try.checked) own started (by kernel_rfl) Try.func5
    (ChangeSpec.witness6 (enc := enc) (C := Try.checked) false ⟨#[], #[.agg #[.int .i64 0, .int .i64 0, .slice none 0 0]], []⟩ 8 (by kernel_rfl) (by kernel_rfl) (by kernel_rfl) (by kernel_rfl)) ?_
  intro W base args ds gs before hval0 hW hcnd _
  have hval : ∀ (j : Nat) t v, Try.f5.params[j]? = some t → args[j]? = some v → Value.okWide Try.prog W .any base t v := hval0
  have hW' := hW
  obtain ⟨p, q, hA0, hV, rfl, hfz, hnd⟩ := hW
  have hA : DataW.TrodAll enc Try.prog W 0 (fun _ => true) true Try.f5.params.toList args.toList ds p := hA0
  rw [Try.params5] at hA hval
  obtain ⟨v0, vs0, d0, ds0, p0, q0, hargs, rfl, rfl, h0, r0⟩ := trodAll_cons hA
  obtain ⟨rfl, rfl, rfl⟩ := trodAll_nil r0
  obtain rfl : args = #[v0] := by cases args; simp_all
  obtain ⟨rfl, rfl⟩ := trodVars_none hV
  obtain ⟨cs, rfl, hcs⟩ := okWide_struct Try.underlying40 (hval 0 40 v0 rfl rfl)
  have k0 := h0
  have lt0 : ∀ x ∈ p0, x.block < W.heap.size := by obtain ⟨m, hm⟩ := k0; exact DataW.trod_lt m _ _ _ hm
  obtain ⟨c, b, da, dn, dc, hc, hm⟩ : ∃ (c b : Int) (da : Option Addr) (dn dc : Nat), cs.toList = [.int .i64 c, .int .i64 b, .slice da dn dc] ∧ dn ≤ maxLen := by
    obtain ⟨fuel, hf⟩ := h0
    exact act_cells hf
  obtain rfl : cs = #[.int .i64 c, .int .i64 b, .slice da dn dc] := by cases cs; simp_all
  clear hA0 hval0
  refine (walk c b da dn dc W hm).mono fun e W' ⟨he, bel⟩ => ?_
  subst he
  exact ⟨_, rfl, _, _, _, [], _, [], hW', trodAll_mk1 (shut_bool Try.underlying4 _), (trodAll_cons_mk (Below.trod laidOut (by kernel_rfl) (of_decide_eq_true (by kernel_rfl)) k0 bel lt0) trodAll_mk0), rfl, bel.frame _, fun h => by cases h⟩

theorem over : Rows.queueNoneRow.holds Try.pinned (OpenSpec.ofChange Rows.queueNoneSpec) :=
  OpenClaim.holds_of_wide 5 Try.f5 rfl rfl rfl rfl rfl rfl rfl ⟨rfl, rfl, rfl, rfl, rfl⟩ rfl rfl rfl rfl rfl (by kernel_rfl) Try.func5 (by kernel_rfl)
    (of_decide_eq_true (by kernel_rfl)) (by unfold Func.isWrapper; first | (rw [if_pos (by decide +kernel)]; kernel_rfl) | (rw [if_neg (by decide +kernel)]; exact ⟨rfl, rfl⟩))
    (fun os started H enc _ => lifted os started H enc)

theorem proved : Rows.QueueNoneSaid := over

end Go.Proofs.Ytliaeknidmbelaa.queueNone
