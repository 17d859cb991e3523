/-
  Proved here: fairwaylaw20.PaceMost returns true for every input, and its input reads as it did; no condition.
-/
import Derived.Test.YtpboomjnbndcpaaPaceMostA
import Derived.Test.YtpboomjnbndcpaaPaceL
import Derived.ProofKit
import Derived.OpenShut
import Derived.ShutString
import Derived.ChangeOld
import Derived.OwnWalk
namespace Go.Proofs.Ytpboomjnbndcpaa.paceMost
open Go.ChangeShapes Go.WideShapes Go.ChangeAt Go.RowKit
open Go.ChangeMaps (open_string shut_string)
set_option linter.unusedVariables false

theorem own : ownKnob Try.prog.godebug = none := by kernel_rfl
theorem laidOut : laidOutB Try.prog = true := by kernel_rfl
theorem infoInt : (Try.prog.info? 3).map (fun i => (i.zero, i.size, i.bytes)) = some (some (.int .i64 0), 1, 8) := by kernel_rfl

/-- What the walk is told of a slice of integers that came in. -/
def IsRow (k : IntKind) (w : World) (a : Option Addr) (len cap : Nat) (zs : List Int) : Prop :=
  (a = none ∧ len = 0 ∧ cap = 0 ∧ zs = []) ∨
  ∃ x, a = some x ∧ len ≤ cap ∧ cap ≤ maxLen ∧ zs.length = cap ∧ (∀ i, i < zs.length → w.cell? (x.add i) = some (.int k (zs.getD i 0))) ∧ ∀ n ∈ zs, (Lit.int k n).wf = true

/-- The first loop, at a round's head. -/
structure MostAt (W : World) (P M X B : Nat) (g : Int) (k : Nat) (v : Value) (A : List Int) (now : Int) (wr : World) : Prop where
  own : wr.ownsRow B 3 1 v A.length (A.map (Value.int .i64))
  pace : PaceAt wr P M g (rowsOf A) (ckOf A) (yOf A) (uOf A)
  x : wr.heap[X]? = some (.cells #[.int .u32 16777216, .int .i64 8] 28)
  sp : Spaced g A now
  n0 : 0 ≤ now
  n1 : now ≤ 7 * k
  len : A.length ≤ k
  bel : Below W.heap.size W wr
  base : B ≤ wr.heap.size

set_option maxHeartbeats 1000000 in
theorem walk_big (a0 : Int) (a1 : Option Addr) (len1 cap1 : Nat) (a2 : Int) (w : World) (h : 200 < len1) (hm : len1 ≤ maxLen) :
    Calls Try.prog 3 #[.int .u8 a0, .slice a1 len1 cap1, .int .u8 a2] w fun e w' => e = .returned (.bool true) ∧ Below w.heap.size w w' := by
  unfold maxLen at hm
  go_enter Try.func3, Try.ntmps3
  go_wp2_with (go_at_call 6; refine (lives_any _).mono ?_; rintro e w' ⟨rfl, hb⟩)
  go_ret
  exact ⟨rfl, hb⟩

set_option maxRecDepth 100000 in
set_option maxHeartbeats 1000000 in
theorem walk_small (a0 : Int) (a1 : Option Addr) (len1 cap1 : Nat) (z1 : List Int) (a2 : Int) (w : World) (h0 : 0 ≤ a0) (h0' : a0 ≤ 255) (h2 : 0 ≤ a2) (h2' : a2 ≤ 255) (h : ¬ 200 < len1)
    (sb so : Nat) (hlz : len1 ≤ z1.length) (ha : 0 < len1 → a1 = some ⟨sb, so, none⟩ ∧ sb < w.heap.size) (hc : ∀ j, j < len1 → w.cell? ⟨sb, so + j, none⟩ = some (.int .u8 (z1.getD j 0)) ∧ 0 ≤ z1.getD j 0 ∧ z1.getD j 0 ≤ 255) :
    Calls Try.prog 3 #[.int .u8 a0, .slice a1 len1 cap1, .int .u8 a2] w fun e w' => e = .returned (.bool true) ∧ Below w.heap.size w w' := by
  have HA := Lib.hid ha
  have HC := Lib.hid hc
  clear ha hc
  obtain ⟨i0, hi, hz0, hz1, hz2⟩ := info_parts infoInt
  go_enter Try.func3, Try.ntmps3
  go_wp2_with (go_at_call 7; refine (new_yes _ _ (by omega) (by omega)).mono ?_; rintro e w1 ⟨rfl, hP, hb1⟩; have hs1 := lt_of_heap hP.blk)
  generalize hX : w1.heap.size = X at *
  have HX := Lib.hid hX
  clear hX
  generalize hg : 1 + a0 % 40 = g at *
  have hg1 : 1 ≤ g := by omega
  have hg2 : g ≤ 40 := by omega
  have HG := Lib.hid hg
  clear hg
  have HP := Lib.hid hP
  clear hP
  go_loopw [10, 11, 34] (fun v n i wr => ∃ (k : Nat) (A : List Int) (now : Int), k ≤ len1 ∧ i = .int .i64 k ∧ n = .int .i64 now ∧ MostAt w (w.heap.size + 1) w.heap.size X (X + 1) g k v A now wr) (fun _ _ i _ => len1 - (intOf i).toNat)
  case atStart =>
    refine ⟨0, [], 0, Nat.zero_le _, rfl, rfl, ?_⟩
    have e := HX.out
    subst e
    exact ⟨⟨rfl, .inl ⟨rfl, rfl⟩⟩, ⟨heap_alloc_old HP.out.blk, heap_alloc_old HP.out.map⟩, heap_alloc_new _ _, ⟨by simp, by simp, by simp⟩, by omega, by omega, by simp, hb1.alloc hb1.size _, by simp⟩
  case round =>
    obtain ⟨k, A, now, hk, rfl, rfl, hM⟩ := hrel
    by_cases hlt : k < len1
    · obtain ⟨rfl, hsb⟩ := HA.out (by omega)
      obtain ⟨hcell, hs0, hs1'⟩ := HC.out k hlt
      have cell : wr.cell? ⟨sb, so + k, none⟩ = some (.int .u8 (z1.getD k 0)) := by rw [hM.bel.cell (p := ⟨sb, so + k, none⟩) hsb]; exact hcell
      generalize z1.getD k 0 = s at *
      have HM := Lib.hid hM
      have n0 := hM.n0
      have n1 := hM.n1
      have hAl := hM.len
      have x0 : wr.cell? ⟨X, 0, none⟩ = some (.int .u32 16777216) := cell_of hM.x 0
      have x1 : wr.cell? ⟨X, 1, none⟩ = some (.int .i64 8) := cell_of hM.x 1
      clear hM hcell
      have hsp : Spaced g A (now + s % 8) := HM.out.sp.later (by omega)
      cases hr : rdy g A (now + s % 8)
      · have HR := Lib.hid hr
        clear hr
        go_wp2_with (first
          | (go_at_call 8; refine (ready_most _ _ g A (now + s % 8) _ HM.out.pace ⟨by omega, by omega⟩ hsp ⟨by omega, by omega⟩).mono ?_; rw [HR.out]; rintro e w2 ⟨rfl, hb2⟩; have y0 : w2.cell? ⟨X, 0, none⟩ = some (.int .u32 16777216) := cell_of (below_heap hb2 HM.out.x) 0; have y1 : w2.cell? ⟨X, 1, none⟩ = some (.int .i64 8) := cell_of (below_heap hb2 HM.out.x) 1)
          | (go_at_call 9; refine (note_most_no _ _ g A (now + s % 8) _ (HM.out.pace.below hb2) ⟨by omega, by omega⟩ hsp ⟨by omega, by omega⟩ HR.out).mono ?_; rintro e w3 ⟨rfl, hb3⟩))
        go_roundw
        case rel =>
          have hE : Eff (fun _ => False) wr w3 := (Eff.of_below _ hb2).trans (Eff.of_below _ hb3)
          have hB : Below w.heap.size w w3 := HM.out.bel.trans ((hE.below (fun _ h => h)).mono HM.out.bel.size)
          exact ⟨k + 1, A, now + s % 8, by omega, by go_num, rfl, ⟨ownsRow_eff HM.out.own hE (fun _ h => h.elim), (HM.out.pace.below hb2).below hb3, below_heap hb3 (below_heap hb2 HM.out.x), hsp, by omega, by omega, by have := HM.out.len; omega, hB, Nat.le_trans HM.out.base hE.size⟩⟩
        case measure => simp [intOf]; omega
      · have HR := Lib.hid hr
        clear hr
        go_wp2_with (first
          | (go_at_call 8; refine (ready_most _ _ g A (now + s % 8) _ HM.out.pace ⟨by omega, by omega⟩ hsp ⟨by omega, by omega⟩).mono ?_; rw [HR.out]; rintro e w2 ⟨rfl, hb2⟩; have y0 : w2.cell? ⟨X, 0, none⟩ = some (.int .u32 16777216) := cell_of (below_heap hb2 HM.out.x) 0; have y1 : w2.cell? ⟨X, 1, none⟩ = some (.int .i64 8) := cell_of (below_heap hb2 HM.out.x) 1)
          | (go_at_call 9; refine (note_most_yes _ _ g A (now + s % 8) _ (HM.out.pace.below hb2) ⟨by omega, by omega⟩ hsp ⟨by omega, by omega⟩ HR.out).mono ?_; rintro e w3 ⟨rfl, hP3, hE3⟩; have hown3 := ownsRow_eff (ownsRow_eff HM.out.own (Eff.of_below (fun _ => False) hb2) (fun _ h => h.elim)) hE3 (fun j h => by omega); have hx3 := hE3.keep (below_heap hb2 HM.out.x) (by omega); have hb3s : X + 1 ≤ w3.heap.size := Nat.le_trans (Nat.le_trans HM.out.base hb2.size) hE3.size; have HH := Lib.hid (And.intro hown3 (And.intro hx3 (And.intro hP3 hE3))); clear hown3 hx3 hP3 hE3)
          | (at_builtin; refine wpList_append_own _ rfl _ _ 29 rfl (X + 1) 3 i0 (.int .i64 0) 1 8 Try.underlying29 hi hz0 hz1 hz2 rfl (by decide) _ _ _ rfl (HH.out.1.alloc _) ⟨w3.heap.size, 0, none⟩ 1 1 [.int .i64 (now + s % 8)] rfl rfl (cell_one_new _ _ _) (fun x hx => by simp at hx; subst hx; rfl) (by unfold maxLen; omega) (by omega) (by simp; omega) ?_; intro v' w4 hown4 hg4 _))
        go_roundw
        case rel =>
          have hX' : w.heap.size ≤ X := by rw [← HX.out]; exact hb1.size
          obtain ⟨hown3, hx3, hP3, hE3⟩ := HH.out
          have hlt3 := hown3.lt
          have hE : Eff (fun j => j = w.heap.size + 1 ∨ j = w.heap.size ∨ X + 1 ≤ j) wr w4 :=
            ((((Eff.of_below _ hb2).trans (hE3.mono (fun j _ h => by omega))).alloc _).grown hg4 (fun j hj _ => .inr (.inr (hlt3 j hj).1)))
          have hB : Below w.heap.size w w4 := HM.out.bel.trans ⟨hE.os, hE.tape, hE.output, hE.size, fun j hj => hE.block j (Nat.lt_of_lt_of_le hj HM.out.bel.size) (by omega)⟩
          have hne : ∀ j, j < X + 1 → some j ≠ u10.ownBlock := fun j hj e => by have := (hlt3 j e.symm).1; omega
          refine ⟨k + 1, A ++ [now + s % 8], now + s % 8, by omega, by go_num, rfl, ⟨by simpa using hown4, ⟨grown_heap hg4 (heap_alloc_old hP3.blk) (hne _ (by have := hs1; omega)), grown_heap hg4 (heap_alloc_old hP3.map) (hne _ (by omega))⟩, grown_heap hg4 (heap_alloc_old hx3) (hne _ (by omega)), hsp.push hg1 (by omega) HR.out, by omega, by omega, by simp; omega, hB, Nat.le_trans HM.out.base hE.size⟩⟩
        case measure => simp [intOf]; omega
    · obtain rfl : k = len1 := by omega
      have HM := Lib.hid hM
      have hAl := hM.len
      have hcase : (u10 = .slice none 0 0 ∧ A = []) ∨ ∃ gb cap, u10 = .slice (some ⟨gb, 0, none⟩) A.length cap ∧ A.length ≤ cap ∧ cap ≤ maxLen ∧ ∀ j (hj : j < A.length), wr.cell? ⟨gb, j, none⟩ = some (.int .i64 A[j]) := by
        rcases hM.own.2 with ⟨h1, h2⟩ | ⟨gb, cap, cur, hv, hb, hh, hnc, hcm, r⟩
        · exact .inl ⟨h1, List.length_eq_zero_iff.1 h2⟩
        · refine .inr ⟨gb, cap, hv, hnc, hcm, fun j hj => ?_⟩
          have ho := hM.own
          rw [hv] at ho
          rw [ho.cellAt j (by omega)]
          simp [hj]
      clear hM
      rcases hcase with ⟨rfl, rfl⟩ | ⟨gb, cap, rfl, hnc, hcm, hcells⟩
      · go_wp2
        go_loop [65] (fun i => i = .int .i64 0) (fun _ => 0)
        case atStart => rfl
        case round =>
          subst hrel
          go_wp2_with (go_at_call 6; refine (lives_any _).mono ?_; rintro e w' ⟨rfl, hbL⟩)
          go_ret
          exact ⟨rfl, HM.out.bel.trans (hbL.mono HM.out.bel.size)⟩
      · have HCE := Lib.hid hcells
        clear hcells
        unfold maxLen at hcm
        go_wp2
        go_loop [65] (fun i => ∃ j : Nat, j ≤ A.length ∧ i = .int .i64 j) (fun i => A.length - (intOf i).toNat)
        case atStart => exact ⟨0, Nat.zero_le _, rfl⟩
        case round =>
          obtain ⟨j, hj, rfl⟩ := hrel
          by_cases hjl : j < A.length
          · have hjc : j < cap := by omega
            have cj : wr.cell? ⟨gb, j, none⟩ = some (.int .i64 A[j]) := HCE.out j hjl
            have top0 : 0 ≤ A[j] := HM.out.sp.low _ (List.getElem_mem hjl)
            have top1 : A[j] ≤ 1400 := by have := HM.out.sp.high _ (List.getElem_mem hjl); have := HM.out.n1; omega
            have HMost := Lib.hid (hits_all hg1 A HM.out.sp.apart j hjl a2 h2)
            generalize hT : A[j] = T at *
            clear hT
            go_wp2
            go_loop [72, 18] (fun q c => ∃ r : Nat, r ≤ A.length - j ∧ q = .int .i64 r ∧ c = .int .i64 (hits ((A.drop j).take r) (T + a2) : Nat)) (fun q _ => A.length - j - (intOf q).toNat)
            case atStart => exact ⟨0, Nat.zero_le _, rfl, rfl⟩
            case round =>
              obtain ⟨r, hr, rfl, rfl⟩ := hrel
              have hhl : hits ((A.drop j).take r) (T + a2) ≤ 200 := by
                have h1 := hits_le ((A.drop j).take r) (T + a2)
                have h2 : ((A.drop j).take r).length ≤ r := List.length_take_le _ _
                omega
              by_cases hrl : r < A.length - j
              · have hjr : j + r < A.length := by omega
                have cr : wr.cell? ⟨gb, j + r, none⟩ = some (.int .i64 A[j + r]) := HCE.out (j + r) hjr
                have HT := Lib.hid (hits_take A j r (T + a2) hjr)
                have u0 : 0 ≤ A[j + r] := HM.out.sp.low _ (List.getElem_mem hjr)
                have u1 : A[j + r] ≤ 1400 := by have := HM.out.sp.high _ (List.getElem_mem hjr); have := HM.out.n1; omega
                generalize A[j + r] = U at *
                generalize hits ((A.drop j).take r) (T + a2) = hh at *
                have hrl' : (r : Int) < ((A.length - j : Nat) : Int) := by omega
                have r0 : (0 : Int) ≤ (r : Int) := by omega
                by_cases hU : U < T + a2
                · go_wp2
                  go_round
                  case rel => exact ⟨r + 1, by omega, by go_num, by rw [HT.out, if_pos hU]; go_num⟩
                  case measure => simp [intOf]; omega
                · go_wp2
                  go_round
                  case rel => exact ⟨r + 1, by omega, by go_num, by rw [HT.out, if_neg hU]; go_num⟩
                  case measure => simp [intOf]; omega
              · obtain rfl : r = A.length - j := by omega
                have hmost := HMost.out
                generalize hits ((A.drop j).take (A.length - j)) (T + a2) = hh at *
                have hmle : ¬ mostI a2 g < (hh : Int) := by omega
                go_wp2_with (go_at_call 10; refine (most_all a2 g _ ⟨by omega, by omega⟩ ⟨by omega, by omega⟩).mono ?_; rintro e w' ⟨rfl, rfl⟩)
                go_round
                case rel => exact ⟨j + 1, by omega, by go_num⟩
                case measure => simp [intOf]; omega
          · obtain rfl : j = A.length := by omega
            go_wp2_with (go_at_call 6; refine (lives_any _).mono ?_; rintro e w' ⟨rfl, hbL⟩)
            go_ret
            exact ⟨rfl, HM.out.bel.trans (hbL.mono HM.out.bel.size)⟩
theorem range_u8 {n : Int} (h : (Lit.int .u8 n).wf = true) : 0 ≤ n ∧ n ≤ 255 := by
  simpa [Lit.wf, IntKind.min, IntKind.max, IntKind.signed, IntKind.bits] using h

theorem walk (a0 : Int) (a1 : Option Addr) (len1 cap1 : Nat) (z1 : List Int) (a2 : Int) (w : World) (w0 : (Lit.int .u8 a0).wf = true) (w1 : IsRow .u8 w a1 len1 cap1 z1) (w2 : (Lit.int .u8 a2).wf = true) :
    Calls Try.prog 3 #[.int .u8 a0, .slice a1 len1 cap1, .int .u8 a2] w fun e w' => e = .returned (.bool true) ∧ Below w.heap.size w w' := by
  obtain ⟨x0, x0'⟩ := range_u8 w0
  obtain ⟨x2, x2'⟩ := range_u8 w2
  by_cases h : 200 < len1
  · refine walk_big a0 a1 len1 cap1 a2 w h ?_
    rcases w1 with ⟨-, h1, -⟩ | ⟨x, -, h1, h2, -⟩
    · omega
    · omega
  · rcases w1 with ⟨rfl, rfl, rfl, rfl⟩ | ⟨x, rfl, hlc, hcm, hz, hcell, hwf⟩
    · exact walk_small a0 none 0 0 [] a2 w x0 x0' x2 x2' h 0 0 (Nat.le_refl _) (fun h => absurd h (by omega)) (fun j hj => absurd hj (by omega))
    · by_cases hp : 0 < z1.length
      · obtain ⟨b, off, rfl, hc⟩ := ints_at hcell hp
        have hlt : b < w.heap.size := by
          have := hc 0 hp
          exact World.block_lt_of_cell? w _ this
        exact walk_small a0 _ len1 cap1 z1 a2 w x0 x0' x2 x2' h b off (by omega) (fun _ => ⟨rfl, hlt⟩) (fun j hj => ⟨hc j (by omega), range_u8 (hwf _ (by
          rw [List.getD_eq_getElem?_getD, List.getElem?_eq_getElem (by omega)]
          exact List.getElem_mem _))⟩)
      · exact walk_small a0 _ len1 cap1 z1 a2 w x0 x0' x2 x2' h 0 0 (by omega) (fun h => absurd h (by omega)) (fun j hj => absurd hj (by omega))

set_option maxRecDepth 100000 in
theorem lifted (os : Os) (started : os.Started) (H : Type) (enc : TypeId × Value → H) :
    ReturnsInHanded {} Try.checked os 3 .any (Rows.paceMostSpec.pre6 enc Try.prog Try.f3 Rows.paceMostRow.domain false) (Rows.paceMostSpec.post enc Try.prog Try.f3 false true false false) := by
  refine returnsInHanded_of_change (C := Try.checked) own started (by kernel_rfl) Try.func3
    (ChangeSpec.witness6 (enc := enc) (C := Try.checked) false ⟨#[], #[.int .u8 0, .slice none 0 0, .int .u8 0], []⟩ 8 (by kernel_rfl) (by kernel_rfl) (by kernel_rfl) (by kernel_rfl)) ?_
  intro W base args ds gs before hval0 hW hcnd _
  have hval : ∀ (j : Nat) t v, Try.f3.params[j]? = some t → args[j]? = some v → Value.okWide Try.prog W .any base t v := hval0
  have hW' := hW
  obtain ⟨p, q, hA0, hV, rfl, hfz, hnd⟩ := hW
  have hA : DataW.TrodAll enc Try.prog W 0 (fun _ => true) true Try.f3.params.toList args.toList ds p := hA0
  rw [Try.params3] at hA hval
  obtain ⟨v0, vs0, d0, ds0, p0, q0, hargs, rfl, rfl, h0, r0⟩ := trodAll_cons hA
  obtain ⟨v1, vs1, d1, ds1, p1, q1, rfl, rfl, rfl, h1, r1⟩ := trodAll_cons r0
  obtain ⟨v2, vs2, d2, ds2, p2, q2, rfl, rfl, rfl, h2, r2⟩ := trodAll_cons r1
  obtain ⟨rfl, rfl, rfl⟩ := trodAll_nil r2
  obtain rfl : args = #[v0, v1, v2] := by cases args; simp_all
  obtain ⟨rfl, rfl⟩ := trodVars_none hV
  obtain ⟨a0, rfl, rfl, rfl, w0⟩ := open_int Try.underlying5 (hval 0 5 v0 rfl rfl) h0
  obtain ⟨a1, len1, cap1, rfl⟩ := okWide_slice Try.underlying22 (hval 1 22 v1 rfl rfl)
  have k1 := h1
  have lt1 : ∀ x ∈ p1, x.block < W.heap.size := by obtain ⟨m, hm⟩ := k1; exact DataW.trod_lt m _ _ _ hm
  obtain ⟨z1, w1⟩ : ∃ zs, IsRow .u8 W a1 len1 cap1 zs := by
    obtain ⟨fuel, hf⟩ := h1
    rcases open_ints Try.underlying22 Try.underlying5 (by kernel_rfl) hf with ⟨hcs, _⟩ | ⟨x, l, c, zs, hcs, _, hl, hm, hz, _, hcell, hwz⟩
    · simp [Value.cells] at hcs
      obtain ⟨rfl, rfl, rfl⟩ := hcs
      exact ⟨[], .inl ⟨rfl, rfl, rfl, rfl⟩⟩
    · simp [Value.cells] at hcs
      obtain ⟨rfl, rfl, rfl⟩ := hcs
      exact ⟨zs, .inr ⟨_, rfl, hl, hm, by simpa using hz, hcell, hwz⟩⟩
  obtain ⟨a2, rfl, rfl, rfl, w2⟩ := open_int Try.underlying5 (hval 2 5 v2 rfl rfl) h2
  clear hA0 hval0
  refine (walk a0 a1 len1 cap1 z1 a2 W w0 w1 w2).mono fun e W' ⟨he, bel⟩ => ?_
  subst he
  exact ⟨_, rfl, _, _, _, [], _, [], hW', trodAll_mk1 (shut_bool Try.underlying4 _), (trodAll_cons_mk (shut_int Try.underlying5 w0) (trodAll_cons_mk (Below.trod laidOut (by kernel_rfl) (of_decide_eq_true (by kernel_rfl)) k1 bel lt1) (trodAll_cons_mk (shut_int Try.underlying5 w2) trodAll_mk0))), rfl, bel.frame _, fun h => by cases h⟩

theorem over : Rows.paceMostRow.holds Try.pinned (OpenSpec.ofChange Rows.paceMostSpec) :=
  OpenClaim.holds_of_wide 3 Try.f3 rfl rfl rfl rfl rfl rfl rfl ⟨rfl, rfl, rfl, rfl, rfl⟩ rfl rfl rfl rfl rfl (by kernel_rfl) Try.func3 (by kernel_rfl)
    (of_decide_eq_true (by kernel_rfl)) (by unfold Func.isWrapper; first | (rw [if_pos (by decide +kernel)]; kernel_rfl) | (rw [if_neg (by decide +kernel)]; exact ⟨rfl, rfl⟩))
    (fun os started H enc _ => lifted os started H enc)

theorem proved : Rows.PaceMostSaid := over
end Go.Proofs.Ytpboomjnbndcpaa.paceMost
