/-
  Proved here: fairwaylaw15.FsmWay returns true for every input, and its input reads as it did; no condition.
-/
import Derived.Test.YtdggdidmjddhbaaFsmA
import Derived.ShutString
import Derived.ProofKit
import Derived.StillTailTactics
import Derived.Lib.QuietBelow
import Derived.Lib.Hide
import Derived.Deep.RegionHeld3
import Derived.Deep.Grids
import Derived.ChangeOld
namespace Go.Proofs.Ytdggdidmjddhbaa.fsmWay
open Go.ChangeShapes Go.WideShapes Go.ChangeAt Go.RowKit Go.Deep
set_option linter.unusedVariables false

/-- What a step may be, out of a state, by an event. -/
def Fine (s e : Int) (x : Stp) : Prop :=
  (0 ≤ x.state ∧ x.state ≤ 5) ∧ (x.state = s ∨ (x.refused = false ∧ (x.state = 5 → s = 4 ∧ e = 9) ∧ (x.state = 4 → s = 3 ∧ e = 8 ∧ x.keep = true) ∧ (x.state = 3 → e = 6 ∧ x.opn = true)))

theorem fine_ite {s e : Int} (p : Prop) [Decidable p] {x y : Stp} (hx : p → Fine s e x) (hy : ¬ p → Fine s e y) : Fine s e (if p then x else y) := by
  by_cases h : p
  · rw [if_pos h]; exact hx h
  · rw [if_neg h]; exact hy h

theorem next_fine (s e : Int) (wins : Bool) (hs : 0 ≤ s ∧ s ≤ 5) : Fine s e (nextM s e 1 1 none 0 0 wins) := by
  unfold nextM idleM waitsM liveM secondM lostM messageM fallsM
  repeat' refine fine_ite _ (fun h => ?_) (fun h => ?_)
  all_goals (unfold Fine; simp_all; try omega)

set_option maxHeartbeats 1000000 in
theorem walk_far (a1 : Option Addr) (len1 cap1 : Nat) (a2 : Option Addr) (len2 cap2 : Nat) (w : World) (h : 300 < len1) (hm : len1 ≤ maxLen) :
    Calls Try.prog 4 #[.slice a1 len1 cap1, .slice a2 len2 cap2] w fun r w' => r = .returned (.bool true) ∧ Below w.heap.size w w' := by
  unfold maxLen at hm
  go_enter Try.func4, Try.ntmps4
  go_wp2_with (go_at_call 6; refine (lives_any _).mono ?_; rintro r w1 ⟨rfl, hb1⟩)
  go_ret
  exact ⟨rfl, hb1⟩

set_option maxRecDepth 100000 in
set_option maxHeartbeats 1000000 in
theorem walk_near (a1 : Option Addr) (len1 cap1 : Nat) (z1 : List Int) (a2 : Option Addr) (len2 cap2 : Nat) (z2 : Nat → Bool) (w : World) (h : ¬ 300 < len1) (hm2 : len2 ≤ maxLen)
    (sb so tb tz : Nat) (ha : 0 < len1 → a1 = some ⟨sb, so, none⟩ ∧ sb < w.heap.size) (hc : ∀ j, j < len1 → w.cell? ⟨sb, so + j, none⟩ = some (.int .u8 (z1.getD j 0)) ∧ 0 ≤ z1.getD j 0 ∧ z1.getD j 0 ≤ 255)
    (ja : 0 < len2 → a2 = some ⟨tb, tz, none⟩ ∧ tb < w.heap.size) (jc : ∀ j, j < len2 → w.cell? ⟨tb, tz + j, none⟩ = some (.bool (z2 j))) :
    Calls Try.prog 4 #[.slice a1 len1 cap1, .slice a2 len2 cap2] w fun r w' => r = .returned (.bool true) ∧ Below w.heap.size w w' := by
  unfold maxLen at hm2
  have HA := Lib.hid ha
  have HC := Lib.hid hc
  have JA := Lib.hid ja
  have JC := Lib.hid jc
  clear ha hc ja jc
  go_enter Try.func4, Try.ntmps4
  go_wp2_with fail
  go_loopw [5, 18] (fun st i wr => ∃ (k : Nat) (z : Int), k ≤ len1 ∧ i = .int .i64 k ∧ st = .int .i64 z ∧ (0 ≤ z ∧ z ≤ 5) ∧ Below w.heap.size w wr) (fun _ i _ => len1 - (intOf i).toNat)
  case atStart => exact ⟨0, 0, Nat.zero_le _, rfl, rfl, by omega, Below.refl _ _⟩
  case round =>
    obtain ⟨k, s, hk, rfl, rfl, hs, hW⟩ := hrel
    by_cases hlt : k < len1
    · obtain ⟨rfl, hsb⟩ := HA.out (by omega)
      obtain ⟨hcell, hz0, hz1⟩ := HC.out k hlt
      have cell : wr.cell? ⟨sb, so + k, none⟩ = some (.int .u8 (z1.getD k 0)) := by rw [hW.cell (p := ⟨sb, so + k, none⟩) hsb]; exact hcell
      clear hcell
      generalize z1.getD k 0 = v at *
      have HW := Lib.hid hW
      clear hW
      by_cases hk2 : k < len2
      · obtain ⟨rfl, htb⟩ := JA.out (by omega)
        have bcell : wr.cell? ⟨tb, tz + k, none⟩ = some (.bool (z2 k)) := by rw [HW.out.cell (p := ⟨tb, tz + k, none⟩) htb]; exact JC.out k hk2
        generalize z2 k = bv at *
        go_wp2_with fail
        have he : 1 ≤ 1 + v % 12 ∧ 1 + v % 12 ≤ 12 := by omega
        generalize 1 + v % 12 = e at *
        obtain ⟨X, hX⟩ : ∃ X, nextM s e 1 1 none 0 0 bv = X := ⟨_, rfl⟩
        have hF := next_fine s e bv hs
        have hN := next_any s e 1 1 none 0 0 bv wr
        rw [hX] at hF hN
        clear hX
        obtain ⟨xs, xd, xc, xo, xk, xcode, xsub, xda, xdn, xdc, xr, xh, xt, xf⟩ := X
        refine hN.mono ?_
        rintro r w1 ⟨rfl, hb1⟩
        dsimp only [Stp.toV]
        unfold Fine at hF
        dsimp only at hF
        have HW1 : Hid (Below w.heap.size w w1) := Lib.hid (HW.out.trans (hb1.mono HW.out.size))
        clear hb1 hN HW
        obtain ⟨⟨x0, x5⟩, hc⟩ := hF
        by_cases es : xs = s
        · subst es
          clear hc
          cases xf
          · go_wp2_with fail
            go_roundw
            case rel => exact ⟨k + 1, xs, by omega, by go_num, rfl, by omega, below_alloc HW1.out _⟩
            case measure => simp [intOf]; omega
          · go_wp2_with fail
            go_roundw
            case rel => exact ⟨k + 1, xs, by omega, by go_num, rfl, by omega, below_alloc HW1.out _⟩
            case measure => simp [intOf]; omega
        · obtain ⟨rfl, h5, h4, h3⟩ := hc.resolve_left es
          clear hc
          by_cases e5 : xs = 5
          · obtain ⟨rfl, rfl⟩ := h5 e5
            subst e5
            clear h5 h4 h3
            go_wp2_with fail
            go_roundw
            case rel => exact ⟨k + 1, 5, by omega, by go_num, rfl, by omega, below_alloc HW1.out _⟩
            case measure => simp [intOf]; omega
          · by_cases e4 : xs = 4
            · obtain ⟨rfl, rfl, rfl⟩ := h4 e4
              subst e4
              clear h5 h4 h3
              go_wp2_with fail
              go_roundw
              case rel => exact ⟨k + 1, 4, by omega, by go_num, rfl, by omega, below_alloc HW1.out _⟩
              case measure => simp [intOf]; omega
            · by_cases e3 : xs = 3
              · obtain ⟨rfl, rfl⟩ := h3 e3
                subst e3
                clear h5 h4 h3
                go_wp2_with fail
                go_roundw
                case rel => exact ⟨k + 1, 3, by omega, by go_num, rfl, by omega, below_alloc HW1.out _⟩
                case measure => simp [intOf]; omega
              · clear h5 h4 h3
                go_wp2_with fail
                go_roundw
                case rel => exact ⟨k + 1, xs, by omega, by go_num, rfl, by omega, below_alloc HW1.out _⟩
                case measure => simp [intOf]; omega
      · go_wp2_with fail
        have he : 1 ≤ 1 + v % 12 ∧ 1 + v % 12 ≤ 12 := by omega
        generalize 1 + v % 12 = e at *
        obtain ⟨X, hX⟩ : ∃ X, nextM s e 1 1 none 0 0 false = X := ⟨_, rfl⟩
        have hF := next_fine s e false hs
        have hN := next_any s e 1 1 none 0 0 false wr
        rw [hX] at hF hN
        clear hX
        obtain ⟨xs, xd, xc, xo, xk, xcode, xsub, xda, xdn, xdc, xr, xh, xt, xf⟩ := X
        refine hN.mono ?_
        rintro r w1 ⟨rfl, hb1⟩
        dsimp only [Stp.toV]
        unfold Fine at hF
        dsimp only at hF
        have HW1 : Hid (Below w.heap.size w w1) := Lib.hid (HW.out.trans (hb1.mono HW.out.size))
        clear hb1 hN HW
        obtain ⟨⟨x0, x5⟩, hc⟩ := hF
        by_cases es : xs = s
        · subst es
          clear hc
          cases xf
          · go_wp2_with fail
            go_roundw
            case rel => exact ⟨k + 1, xs, by omega, by go_num, rfl, by omega, below_alloc HW1.out _⟩
            case measure => simp [intOf]; omega
          · go_wp2_with fail
            go_roundw
            case rel => exact ⟨k + 1, xs, by omega, by go_num, rfl, by omega, below_alloc HW1.out _⟩
            case measure => simp [intOf]; omega
        · obtain ⟨rfl, h5, h4, h3⟩ := hc.resolve_left es
          clear hc
          by_cases e5 : xs = 5
          · obtain ⟨rfl, rfl⟩ := h5 e5
            subst e5
            clear h5 h4 h3
            go_wp2_with fail
            go_roundw
            case rel => exact ⟨k + 1, 5, by omega, by go_num, rfl, by omega, below_alloc HW1.out _⟩
            case measure => simp [intOf]; omega
          · by_cases e4 : xs = 4
            · obtain ⟨rfl, rfl, rfl⟩ := h4 e4
              subst e4
              clear h5 h4 h3
              go_wp2_with fail
              go_roundw
              case rel => exact ⟨k + 1, 4, by omega, by go_num, rfl, by omega, below_alloc HW1.out _⟩
              case measure => simp [intOf]; omega
            · by_cases e3 : xs = 3
              · obtain ⟨rfl, rfl⟩ := h3 e3
                subst e3
                clear h5 h4 h3
                go_wp2_with fail
                go_roundw
                case rel => exact ⟨k + 1, 3, by omega, by go_num, rfl, by omega, below_alloc HW1.out _⟩
                case measure => simp [intOf]; omega
              · clear h5 h4 h3
                go_wp2_with fail
                go_roundw
                case rel => exact ⟨k + 1, xs, by omega, by go_num, rfl, by omega, below_alloc HW1.out _⟩
                case measure => simp [intOf]; omega
    · obtain rfl : k = len1 := by omega
      have HW := Lib.hid hW
      clear hW
      go_wp2_with (go_at_call 6; refine (lives_any _).mono ?_; rintro r w1 ⟨rfl, hb1⟩)
      go_ret
      exact ⟨rfl, HW.out.trans (hb1.mono HW.out.size)⟩

theorem ints_row {H : Type} {enc : TypeId × Value → H} {W : World} {spare : Nat → Bool} {held : Bool} {a : Option Addr} {len cap fuel : Nat} {x : DataW H × List MemPlace}
    (h : DataW.trod enc Try.prog W 0 spare held fuel 23 [.slice a len cap] = some x) :
    len ≤ maxLen ∧ ∃ (z : List Int) (sb so : Nat), (0 < len → a = some ⟨sb, so, none⟩ ∧ sb < W.heap.size) ∧ ∀ j, j < len → W.cell? ⟨sb, so + j, none⟩ = some (.int .u8 (z.getD j 0)) ∧ 0 ≤ z.getD j 0 ∧ z.getD j 0 ≤ 255 := by
  rcases open_ints Try.underlying23 Try.underlying5 (by kernel_rfl) h with ⟨hcs, _⟩ | ⟨ad, l, c, zs, hcs, _, hl, hm, hz, _, hcell, hwz⟩
  · simp only [List.cons.injEq, Value.slice.injEq, and_true] at hcs
    obtain ⟨rfl, rfl, rfl⟩ := hcs
    exact ⟨by simp [maxLen], [], 0, 0, fun h => absurd h (by omega), fun j h => absurd h (by omega)⟩
  · simp only [List.cons.injEq, Value.slice.injEq, and_true] at hcs
    obtain ⟨rfl, rfl, rfl⟩ := hcs
    refine ⟨Nat.le_trans hl hm, ?_⟩
    by_cases h0 : len = 0
    · exact ⟨[], 0, 0, fun h => absurd h (by omega), fun j h => absurd h (by omega)⟩
    · have hzl : len ≤ zs.length := by rw [hz]; split <;> omega
      obtain ⟨b, off, spot⟩ := ad
      have hc0 := hcell 0 (by omega)
      have e0 : (⟨b, off, spot⟩ : Addr).add 0 = ⟨b, off, spot⟩ := by simp [Addr.add]
      rw [e0] at hc0
      have hspot : spot = none := by simpa using World.cell?_spot hc0
      subst hspot
      refine ⟨zs, b, off, fun _ => ⟨rfl, World.block_lt_of_cell? W _ hc0⟩, fun j hj => ?_⟩
      have hc := hcell j (by omega)
      rw [addr_add] at hc
      have hj' : j < zs.length := by omega
      have hr := range_u8 (hwz zs[j] (List.getElem_mem hj'))
      have e : zs.getD j 0 = zs[j] := by simp [List.getD, List.getElem?_eq_getElem hj']
      exact ⟨hc, by rw [e]; exact hr.1, by rw [e]; omega⟩

theorem bools_row {H : Type} {enc : TypeId × Value → H} {W : World} {held : Bool} {a : Option Addr} {len cap fuel : Nat} {x : DataW H × List MemPlace}
    (h : DataW.trod enc Try.prog W 0 (fun _ => true) held fuel 34 [.slice a len cap] = some x) :
    len ≤ maxLen ∧ ∃ (z : Nat → Bool) (sb so : Nat), (0 < len → a = some ⟨sb, so, none⟩ ∧ sb < W.heap.size) ∧ ∀ j, j < len → W.cell? ⟨sb, so + j, none⟩ = some (.bool (z j)) := by
  rcases open_bools Try.underlying34 Try.underlying4 (by kernel_rfl) h with ⟨hcs, _⟩ | ⟨ad, l, c, B, hcs, _, hl, hm, _, hcell⟩
  · simp only [List.cons.injEq, Value.slice.injEq, and_true] at hcs
    obtain ⟨rfl, rfl, rfl⟩ := hcs
    exact ⟨by simp [maxLen], fun _ => false, 0, 0, fun h => absurd h (by omega), fun j h => absurd h (by omega)⟩
  · simp only [List.cons.injEq, Value.slice.injEq, and_true] at hcs
    obtain ⟨rfl, rfl, rfl⟩ := hcs
    refine ⟨Nat.le_trans hl hm, ?_⟩
    by_cases h0 : len = 0
    · exact ⟨B, 0, 0, fun h => absurd h (by omega), fun j h => absurd h (by omega)⟩
    · obtain ⟨b, off, spot⟩ := ad
      have hc0 := hcell 0 (by omega)
      have e0 : (⟨b, off, spot⟩ : Addr).add 0 = ⟨b, off, spot⟩ := by simp [Addr.add]
      rw [e0] at hc0
      have hspot : spot = none := by simpa using World.cell?_spot hc0
      subst hspot
      exact ⟨B, b, off, fun _ => ⟨rfl, World.block_lt_of_cell? W _ hc0⟩, fun j hj => by have hc := hcell j (by omega); rw [addr_add] at hc; exact hc⟩

theorem walk (a1 : Option Addr) (len1 cap1 : Nat) (z1 : List Int) (a2 : Option Addr) (len2 cap2 : Nat) (z2 : Nat → Bool) (w : World) (hm1 : len1 ≤ maxLen) (hm2 : len2 ≤ maxLen)
    (sb so tb tz : Nat) (ha : 0 < len1 → a1 = some ⟨sb, so, none⟩ ∧ sb < w.heap.size) (hc : ∀ j, j < len1 → w.cell? ⟨sb, so + j, none⟩ = some (.int .u8 (z1.getD j 0)) ∧ 0 ≤ z1.getD j 0 ∧ z1.getD j 0 ≤ 255)
    (ja : 0 < len2 → a2 = some ⟨tb, tz, none⟩ ∧ tb < w.heap.size) (jc : ∀ j, j < len2 → w.cell? ⟨tb, tz + j, none⟩ = some (.bool (z2 j))) :
    Calls Try.prog 4 #[.slice a1 len1 cap1, .slice a2 len2 cap2] w fun r w' => r = .returned (.bool true) ∧ Below w.heap.size w w' := by
  by_cases h : 300 < len1
  · exact walk_far a1 len1 cap1 a2 len2 cap2 w h hm1
  · exact walk_near a1 len1 cap1 z1 a2 len2 cap2 z2 w h hm2 sb so tb tz ha hc ja jc

theorem own : ownKnob Try.prog.godebug = none := by kernel_rfl
theorem laidOut : laidOutB Try.prog = true := by kernel_rfl

set_option maxRecDepth 100000 in
theorem lifted (os : Os) (started : os.Started) (H : Type) (enc : TypeId × Value → H) :
    ReturnsInHanded {} Try.checked os 4 .any (Rows.fsmWaySpec.pre6 enc Try.prog Try.f4 Rows.fsmWayRow.domain false) (Rows.fsmWaySpec.post enc Try.prog Try.f4 false true false false) := by
  refine returnsInHanded_of_change (C := Try.checked) own started (by kernel_rfl) Try.func4
    (ChangeSpec.witness6 (enc := enc) (C := Try.checked) false ⟨#[], #[.slice none 0 0, .slice none 0 0], []⟩ 8 (by kernel_rfl) (by kernel_rfl) (by kernel_rfl) (by kernel_rfl)) ?_
  intro W base args ds gs before hval0 hW hcnd _
  have hval : ∀ (j : Nat) t v, Try.f4.params[j]? = some t → args[j]? = some v → Value.okWide Try.prog W .any base t v := hval0
  have hW' := hW
  obtain ⟨p, q, hA0, hV, rfl, hfz, hnd⟩ := hW
  have hA : DataW.TrodAll enc Try.prog W 0 (fun _ => true) true Try.f4.params.toList args.toList ds p := hA0
  rw [Try.params4] at hA hval
  obtain ⟨v0, vs0, d0, ds0, p0, q0, hargs, rfl, rfl, h0, r0⟩ := trodAll_cons hA
  obtain ⟨v1, vs1, d1, ds1, p1, q1, rfl, rfl, rfl, h1, r1⟩ := trodAll_cons r0
  obtain ⟨rfl, rfl, rfl⟩ := trodAll_nil r1
  obtain rfl : args = #[v0, v1] := by cases args; simp_all
  obtain ⟨rfl, rfl⟩ := trodVars_none hV
  obtain ⟨a1, len1, cap1, rfl⟩ := okWide_slice Try.underlying23 (hval 0 23 v0 rfl rfl)
  obtain ⟨a2, len2, cap2, rfl⟩ := okWide_slice Try.underlying34 (hval 1 34 v1 rfl rfl)
  have k0 := h0
  have lt0 : ∀ x ∈ p0, x.block < W.heap.size := by obtain ⟨m, hm⟩ := k0; exact DataW.trod_lt m _ _ _ hm
  have k1 := h1
  have lt1 : ∀ x ∈ p1, x.block < W.heap.size := by obtain ⟨m, hm⟩ := k1; exact DataW.trod_lt m _ _ _ hm
  obtain ⟨m1, z1, sb, so, i1, j1⟩ : len1 ≤ maxLen ∧ ∃ (z : List Int) (sb so : Nat), (0 < len1 → a1 = some ⟨sb, so, none⟩ ∧ sb < W.heap.size) ∧ ∀ j, j < len1 → W.cell? ⟨sb, so + j, none⟩ = some (.int .u8 (z.getD j 0)) ∧ 0 ≤ z.getD j 0 ∧ z.getD j 0 ≤ 255 := by
    obtain ⟨fuel, hf⟩ := h0
    exact ints_row hf
  obtain ⟨m2, z2, tb, tz, i2, j2⟩ : len2 ≤ maxLen ∧ ∃ (z : Nat → Bool) (sb so : Nat), (0 < len2 → a2 = some ⟨sb, so, none⟩ ∧ sb < W.heap.size) ∧ ∀ j, j < len2 → W.cell? ⟨sb, so + j, none⟩ = some (.bool (z j)) := by
    obtain ⟨fuel, hf⟩ := h1
    exact bools_row hf
  clear hA0 hval0
  refine (walk a1 len1 cap1 z1 a2 len2 cap2 z2 W m1 m2 sb so tb tz i1 j1 i2 j2).mono fun e W' ⟨he, bel⟩ => ?_
  subst he
  exact ⟨_, rfl, _, _, _, [], _, [], hW', trodAll_mk1 (shut_bool Try.underlying4 _), (trodAll_cons_mk (Below.trod laidOut (by kernel_rfl) (of_decide_eq_true (by kernel_rfl)) k0 bel lt0) (trodAll_cons_mk (Below.trod laidOut (by kernel_rfl) (of_decide_eq_true (by kernel_rfl)) k1 bel lt1) trodAll_mk0)), rfl, bel.frame _, fun h => by cases h⟩

theorem over : Rows.fsmWayRow.holds Try.pinned (OpenSpec.ofChange Rows.fsmWaySpec) :=
  OpenClaim.holds_of_wide 4 Try.f4 rfl rfl rfl rfl rfl rfl rfl ⟨rfl, rfl, rfl, rfl, rfl⟩ rfl rfl rfl rfl rfl (by kernel_rfl) Try.func4 (by kernel_rfl)
    (of_decide_eq_true (by kernel_rfl)) (by unfold Func.isWrapper; first | (rw [if_pos (by decide +kernel)]; kernel_rfl) | (rw [if_neg (by decide +kernel)]; exact ⟨rfl, rfl⟩))
    (fun os started H enc _ => lifted os started H enc)

theorem proved : Rows.FsmWaySaid := over

end Go.Proofs.Ytdggdidmjddhbaa.fsmWay
