/-
  Proved here: the card of fairwaylaw15.FsmNames: it returns true for every input, and its input reads as it did; the two tables of names hold what the program's own text lays in them (tied).
-/
import Derived.Test.YtdggdidmjddhbaaDoorNames
import Derived.Test.YtdggdidmjddhbaaDoorTie
import Derived.Test.YtdggdidmjddhbaaDoorCards
import Derived.ShutString
import Derived.ChangeOld
import Derived.StillTailTactics
import Derived.Lib.QuietBelow
import Derived.Lib.Hide
import Derived.LaidMore
import Derived.Stop.Joined
import Derived.SevenTiedAt
namespace Go.Proofs.YtdggdidmjddhbaaDoor.fsmNames
open Go.ChangeShapes Go.WideShapes Go.ChangeAt Go.WideMaps Go.WideElems Go.RowKit
set_option linter.unusedVariables false

set_option maxHeartbeats 1000000 in
theorem walk (s e a b : Int) (w : World) (hL : Laid w) :
    Calls Tryd.prog 3 #[.int .i64 s, .int .i64 e, .agg #[.int .u32 a, .int .u32 b]] w fun r w' => r = .returned (.bool true) ∧ Below w.heap.size w w' := by
  have HL := Lib.hid hL
  clear hL
  go_enter Tryd.func3, Tryd.ntmps3
  go_wp2_with fail
  go_quiet (fail)
  have HB : Hid (Below w.heap.size w ((w.alloc (.cells #[.int .u32 a, .int .u32 b] 23)).drewN nq)) := Lib.hid (below_drewN (below_alloc (Below.refl _ _) _) _)
  generalize ((w.alloc (.cells #[.int .u32 a, .int .u32 b] 23)).drewN nq) = v0 at *
  have H0 : Hid (Laid v0) := Lib.hid (HL.out.below HB.out)
  have hs0 : w.heap.size ≤ v0.heap.size := HB.out.size
  go_wp2_with (first
    | (go_at_call 4; refine (name_any s v0 H0.out).mono ?_; rintro r v1 ⟨rfl, hb1⟩; have H1 : Hid (Laid v1) := Lib.hid (H0.out.below hb1); have B1 : Hid (Below w.heap.size w v1) := Lib.hid (HB.out.trans (hb1.mono hs0)); have hs1 := Nat.le_trans hs0 hb1.size)
    | (go_at_call 5; refine (rname_any s v1).mono ?_; rintro r v2 ⟨rfl, hb2⟩; have H2 : Hid (Laid v2) := Lib.hid (H1.out.below hb2); have B2 : Hid (Below w.heap.size w v2) := Lib.hid (B1.out.trans (hb2.mono hs1)); have hs2 := Nat.le_trans hs1 hb2.size)
    | (go_at_call 6; refine (event_any e v2 H2.out).mono ?_; rintro r v3 ⟨rfl, hb3⟩; have B3 : Hid (Below w.heap.size w v3) := Lib.hid (B2.out.trans (hb3.mono hs2)); have hs3 := Nat.le_trans hs2 hb3.size)
    | (go_at_call 7; refine (revent_any e v3).mono ?_; rintro r v4 ⟨rfl, hb4⟩; have B4 : Hid (Below w.heap.size w v4) := Lib.hid (B3.out.trans (hb4.mono hs3)); have hs4 := Nat.le_trans hs3 hb4.size)
    | (go_at_call 8; refine (isLive s v4).mono ?_; rintro r v5 ⟨rfl, hb5⟩; have B5 : Hid (Below w.heap.size w v5) := Lib.hid (B4.out.trans (hb5.mono hs4)); have hs5 := Nat.le_trans hs4 hb5.size)
    | (go_at_call 9; refine (risLive s v5).mono ?_; rintro r v6 ⟨rfl, hb6⟩; have B6 : Hid (Below w.heap.size w v6) := Lib.hid (B5.out.trans (hb6.mono hs5)); have hs6 := Nat.le_trans hs5 hb6.size)
    | (go_at_call 10; refine (wins_any a b v6).mono ?_; rintro r v7 ⟨rfl, hb7⟩; have B7 : Hid (Below w.heap.size w v7) := Lib.hid (B6.out.trans (hb7.mono hs6)); have hs7 := Nat.le_trans hs6 hb7.size)
    | (go_at_call 11; refine (lives_any v7).mono ?_; rintro r v8 ⟨rfl, hb8⟩; have B8 : Hid (Below w.heap.size w v8) := Lib.hid (B7.out.trans (hb8.mono hs7))))
  go_ret
  exact ⟨rfl, B8.out⟩

theorem own : ownKnob Tryd.prog.godebug = none := by kernel_rfl
theorem laidOut : laidOutB Tryd.prog = true := by kernel_rfl
theorem gStates : Tryd.prog.globalNamed "fairway/fsm.states" = some 0 := by kernel_rfl
theorem gEvents : Tryd.prog.globalNamed "fairway/fsm.events" = some 1 := by kernel_rfl
theorem tStates : (Tryd.prog.globals[0]?).map (·.type) = some 31 := by kernel_rfl
theorem tEvents : (Tryd.prog.globals[1]?).map (·.type) = some 32 := by kernel_rfl

abbrev laid2 : List (String × DataW Unit) := [("fairway/fsm.states", Rows.laid_fairway_fsm_states), ("fairway/fsm.events", Rows.laid_fairway_fsm_events)]

/-- The door's own heap meets the condition. -/
theorem door_met (os : Os) (args : Array Value) : laidMetH Tryd.prog laid2 ((World.doorLaid Tryd.prog 400 os).forCall (fun _ _ => 0) ⟨#[], args, []⟩).memory :=
  laidMetH_of_parts3 (fuel := 8) (laidMet_of_run' 8 (by kernel_rfl) (by kernel_rfl)) (by kernel_rfl) (by kernel_rfl)

/-- An array of strings that reads as a list of texts holds those texts. -/
theorem cells_of_strs {H : Type} {enc : TypeId × Value → H} {P : Program} {w : World} {base : Nat} {sp : Nat → Bool} {held : Bool} {fuel : Nat} {t e : TypeId} {n : Nat} {cs : List Value} {ls : List (List UInt8)} {p : List MemPlace}
    (ht : P.underlying t = some (.array n e)) (he : P.underlying e = some .string) (hce : P.cellsOf e = 1)
    (h : DataW.trod enc P w base sp held fuel t cs = some (.agg (ls.map fun l => .lit (.string l)), p)) (hls : ls.length = n) (i : Nat) (hi : i < n) : cs[i]? = some (.string ⟨(ls.getD i []).toArray⟩) := by
  obtain ⟨xs, m, -, hx, hl, hn, hel⟩ := DataW.trod_array ht h
  have h0 := hel i hi
  rw [hce, Nat.mul_one] at h0
  have hxi : i < xs.length := by omega
  rw [List.getElem?_eq_getElem hxi] at h0
  obtain ⟨s, hc, hxs, -⟩ := DataW.trod_string he h0
  have h1 : cs[i]? = some (.string s) := by
    have := congrArg (·[0]?) hc
    simpa [List.getElem?_take, List.getElem?_drop] using this
  have h2 : (xs.map (·.1))[i]? = some (DataW.lit (.string s.data.toList) : DataW H) := by simp [List.getElem?_eq_getElem hxi, hxs]
  have h3 : xs.map (·.1) = ls.map fun l => (DataW.lit (.string l) : DataW H) := by
    have := congrArg Prod.fst hx
    simpa using this.symm
  rw [h3, List.getElem?_map, List.getElem?_eq_getElem (by omega)] at h2
  have h4 : ls[i] = s.data.toList := by simpa using h2
  rw [h1]
  simp [List.getD, List.getElem?_eq_getElem (show i < ls.length by omega), h4]

/-- What the condition gives the walk. -/
theorem of_laid {W : World} (h : laidMetH Tryd.prog laid2 W) : Laid W := by
  rw [MakeChecks.laidMetH_plain _ _ _ (by kernel_rfl)] at h
  obtain ⟨ps, ⟨g0, t0, cs0, f0, p0, q0, hg0, ht0, hv0, hd0, ⟨g1, t1, cs1, f1, p1, q1, hg1, ht1, hv1, hd1, _, _⟩, _⟩, _, _⟩ := h
  obtain rfl := Option.some.inj (gStates.symm.trans hg0)
  obtain rfl := Option.some.inj (gEvents.symm.trans hg1)
  obtain rfl := Option.some.inj (tStates.symm.trans ht0)
  obtain rfl := Option.some.inj (tEvents.symm.trans ht1)
  refine ⟨fun i hi => ?_, fun i hi => ?_⟩
  · have h1 := cells_of_strs (ls := stateL) Tryd.underlying31 Tryd.underlying9 (by kernel_rfl) hd0 rfl i hi
    rw [World.var?_cell hg0 hv0 i, ← Array.getElem?_toList, h1]; rfl
  · have h1 := cells_of_strs (ls := eventL) Tryd.underlying32 Tryd.underlying9 (by kernel_rfl) hd1 rfl i hi
    rw [World.var?_cell hg1 hv1 i, ← Array.getElem?_toList, h1]; rfl

theorem len2 {α : Type} {l : List α} (h : l.length = 2) : ∃ a b, l = [a, b] := by
  match l, h with
  | [a, b], _ => exact ⟨a, b, rfl⟩
theorem two_cells {H : Type} {enc : TypeId × Value → H} {W : World} {spare : Nat → Bool} {held : Bool} {fuel : Nat} {cs : List Value} {x : DataW H × List MemPlace}
    (h : DataW.trod enc Tryd.prog W 0 spare held fuel 23 cs = some x) : ∃ (s e : Int), cs = [.int .u32 s, .int .u32 e] := by
  obtain ⟨xs, m, -, -, hl, hn, hi⟩ := DataW.trod_array Tryd.underlying23 h
  have e1 : Tryd.prog.cellsOf 23 = 2 := by kernel_rfl
  have e2 : Tryd.prog.cellsOf 22 = 1 := by kernel_rfl
  rw [e1] at hl
  obtain ⟨c0, c1, rfl⟩ := len2 hl
  obtain ⟨y0, y1, rfl⟩ := len2 hn
  have h0 := hi 0 (by omega)
  have h1 := hi 1 (by omega)
  simp only [e2, Nat.zero_mul, Nat.one_mul, List.drop_succ_cons, List.drop_zero, List.take_succ_cons, List.take_zero, List.getElem?_cons_zero, List.getElem?_cons_succ] at h0 h1
  obtain ⟨s, k0, -⟩ := DataW.trod_int Tryd.underlying22 h0
  obtain ⟨e, k1, -⟩ := DataW.trod_int Tryd.underlying22 h1
  simp only [List.cons.injEq, and_true] at k0 k1
  subst k0 k1
  exact ⟨s, e, rfl⟩
theorem okWide_two {W : World} {r : Reach} {base : Nat} {v : Value} (h : Value.okWide Tryd.prog W r base 23 v) : ∃ cs, v = .agg cs := by
  simp only [Value.okWide, Tryd.underlying23] at h
  obtain ⟨cs, h1, -⟩ := h
  exact ⟨cs, h1⟩

set_option maxRecDepth 100000 in
theorem lifted (os : Os) (started : os.Started) (H : Type) (enc : TypeId × Value → H) :
    ReturnsInHanded {} Tryd.checked os 3 .any (fun w args => (Rows.fsmNamesSpec.pre enc Tryd.prog Tryd.f3 [] false w args ∧ laidMetH Tryd.prog laid2 w) ∧ sizedMet enc Tryd.prog Tryd.f3 (OpenSpec.ofChange Rows.fsmNamesSpec) false w args)
      (Rows.fsmNamesSpec.post enc Tryd.prog Tryd.f3 false true false false) := by
  refine returnsInHanded_of_change_and (C := Tryd.checked) (X := fun w _ => laidMetH Tryd.prog laid2 w) (fun _ _ _ hh h => h.of_heap hh) own started (by kernel_rfl) Tryd.func3
    (ChangeSpec.witness_shaped (enc := enc) (C := Tryd.checked) (os := os) (X := fun w _ => laidMetH Tryd.prog laid2 w) false (World.doorLaid Tryd.prog 400 os) #[.int .i64 0, .int .i64 0, .agg #[.int .u32 0, .int .u32 0]] 8 rfl (World.shaped_of_RefB (by kernel_rfl) (by kernel_rfl)) (by kernel_rfl) (by kernel_rfl) (by kernel_rfl) (door_met os _)) ?_
  intro W base args ds gs before hval0 hW _ _ hL _
  have hval : ∀ (j : Nat) t v, Tryd.f3.params[j]? = some t → args[j]? = some v → Value.okWide Tryd.prog W .any base t v := hval0
  have hW' := hW
  obtain ⟨p, q, hA0, hV, rfl, hfz, hnd⟩ := hW
  have hA : DataW.TrodAll enc Tryd.prog W 0 (fun _ => true) true Tryd.f3.params.toList args.toList ds p := hA0
  rw [Tryd.params3] at hA hval
  obtain ⟨v0, vs0, d0, ds0, p0, q0, hargs, rfl, rfl, h0, r0⟩ := trodAll_cons hA
  obtain ⟨v1, vs1, d1, ds1, p1, q1, rfl, rfl, rfl, h1, r1⟩ := trodAll_cons r0
  obtain ⟨v2, vs2, d2, ds2, p2, q2, rfl, rfl, rfl, h2, r2⟩ := trodAll_cons r1
  obtain ⟨rfl, rfl, rfl⟩ := trodAll_nil r2
  obtain rfl : args = #[v0, v1, v2] := by cases args; simp_all
  obtain ⟨rfl, rfl⟩ := trodVars_none hV
  obtain ⟨s, rfl, rfl, rfl, w0⟩ := open_int Tryd.underlying3 (hval 0 3 v0 rfl rfl) h0
  obtain ⟨e, rfl, rfl, rfl, w1⟩ := open_int Tryd.underlying3 (hval 1 3 v1 rfl rfl) h1
  obtain ⟨cs2, rfl⟩ := okWide_two (hval 2 23 v2 rfl rfl)
  have k2 := h2
  have lt2 : ∀ x ∈ p2, x.block < W.heap.size := by obtain ⟨m, hm⟩ := k2; exact DataW.trod_lt m _ _ _ hm
  obtain ⟨a, b, hc2⟩ : ∃ a b : Int, cs2.toList = [.int .u32 a, .int .u32 b] := by
    obtain ⟨fuel, hf⟩ := h2
    exact two_cells hf
  obtain rfl : cs2 = #[.int .u32 a, .int .u32 b] := by cases cs2; simp_all
  clear hA0 hval0
  refine (walk s e a b W (of_laid hL)).mono fun e W' ⟨he, bel⟩ => ?_
  subst he
  exact ⟨_, rfl, _, _, _, [], _, [], hW', trodAll_mk1 (shut_bool Tryd.underlying4 _), (trodAll_cons_mk (shut_int Tryd.underlying3 w0) (trodAll_cons_mk (shut_int Tryd.underlying3 w1) (trodAll_cons_mk (Below.trod laidOut (by kernel_rfl) (of_decide_eq_true (by kernel_rfl)) k2 bel lt2) trodAll_mk0))), rfl, bel.frame _, fun h => by cases h⟩

theorem over : Rows.FsmNamesSaid :=
  OpenClaim.holds_of_wide 3 Tryd.f3 rfl rfl rfl rfl rfl rfl rfl ⟨rfl, rfl, rfl, rfl, rfl⟩ rfl rfl rfl rfl rfl (by kernel_rfl) Tryd.func3 (by kernel_rfl)
    (of_decide_eq_true (by kernel_rfl)) (by unfold Func.isWrapper; first | (rw [if_pos (by decide +kernel)]; kernel_rfl) | (rw [if_neg (by decide +kernel)]; exact ⟨rfl, rfl⟩))
    (fun os started H enc _ => lifted os started H enc)

theorem proved : Rows.FsmNamesCardSaid :=
  Claim7.holds_tied_plain_at .later [] [.widerDeep, .widerDeep] true (true, "6cf0a266de129f7ff3b9ad756aa951d3baa2f5a070c80c7ffb5b4c0d62a6a8b8") false
    over (fun _ h => by cases h) (by kernel_rfl) (fun _ h => by cases h) fsmNames_row_tie rfl ⟨rfl, rfl⟩ (by kernel_rfl) rfl
    (fun f fn hf hfn => by
      obtain rfl : f = 3 := Option.some.inj ((show Tryd.prog.funcNamed "fairway/fairwaylaw15.FsmNames" = some 3 by kernel_rfl).symm.trans hf) |>.symm
      obtain rfl : fn = Tryd.f3 := (Option.some.inj (Tryd.func3.symm.trans hfn)).symm
      exact ⟨by kernel_rfl, fun j t ht => by
        rw [Tryd.params3] at ht
        have hm : t ∈ [3, 3, 23] := by simpa using Array.mem_of_getElem? ht
        have hall : ([3, 3, 23].all fun u => !Tryd.prog.wantsStandIn u) = true := by kernel_rfl
        exact (show Tryd.prog.wantsStandIn t = false by simpa using List.all_eq_true.1 hall t hm)⟩)
    (by kernel_rfl)

end Go.Proofs.YtdggdidmjddhbaaDoor.fsmNames
