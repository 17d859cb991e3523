/-
  Proved here: fairwaylaw14.QueueActs returns true for every input, and its input reads as it did; no condition. (The row.)
-/
import Derived.Test.YtliaeknidmbelaaQueueActs
import Derived.SizedLaws
namespace Go.Proofs.Ytliaeknidmbelaa.queueActs
open Go.ChangeShapes Go.WideShapes Go.ChangeAt Go.RowKit Go.Deep
set_option linter.unusedVariables false

theorem weightsAll_mem {H : Type} {P : Program} {e : TypeId} : ∀ {ds : List (DataW H)} {d : DataW H} {n : Nat}, d ∈ ds → n ∈ d.weights P e → n ∈ DataW.weightsAll P e ds
  | d0 :: ds, d, n, hd, hn => by
    simp only [DataW.weightsAll, List.mem_append]
    rcases List.mem_cons.1 hd with rfl | hd
    · exact .inl hn
    · exact .inr (weightsAll_mem hd hn)

theorem bytesU8 : Try.prog.bytesOf 5 = 1 := by kernel_rfl

/-- One message, read as data. -/
theorem row_of {H : Type} {enc : TypeId × Value → H} {W : World} {held : Bool} {v : Value} {fuel : Nat} {x : DataW H × List MemPlace}
    (h : DataW.trod enc Try.prog W 0 (fun _ => true) held fuel 23 [v] = some x) (hw : ∀ n ∈ x.1.weights Try.prog 23, n ≤ reachBytes) : ∃ xs : List Int, RowIn W v xs ∧ xs.length ≤ 140737488355328 := by
  rcases open_ints Try.underlying23 Try.underlying5 (by kernel_rfl) h with ⟨hcs, _⟩ | ⟨ad, l, c, zs, hcs, _, hl, hm, hz, hx, hcell, hwz⟩
  · simp only [List.cons.injEq, and_true] at hcs
    subst hcs
    exact ⟨[], .inl ⟨rfl, none, 0, rfl⟩, by simp⟩
  · simp only [List.cons.injEq, and_true] at hcs
    subst hcs
    have hzc : zs.length = c := by simpa using hz
    have hb : l ≤ 140737488355328 := by
      have h6 := hw ((List.take l zs).length + (List.drop l zs).length) (by rw [hx]; simp [DataW.weights, Try.underlying23, bytesU8, lits])
      simp only [List.length_take, List.length_drop, reachBytes] at h6
      omega
    by_cases h0 : l = 0
    · subst h0
      exact ⟨[], .inl ⟨rfl, some ad, c, rfl⟩, by simp⟩
    · obtain ⟨b, off, spot⟩ := ad
      have hc0 := hcell 0 (by omega)
      have e0 : (⟨b, off, spot⟩ : Addr).add 0 = ⟨b, off, spot⟩ := by simp [Addr.add]
      rw [e0] at hc0
      have hspot : spot = none := by simpa using World.cell?_spot hc0
      subst hspot
      have hlen : (zs.take l).length = l := by rw [List.length_take]; omega
      refine ⟨zs.take l, .inr ⟨by omega, b, off, c, by rw [hlen], World.block_lt_of_cell? W _ hc0, fun j y hj => ?_⟩, by omega⟩
      have hjl : j < l := by have := (List.getElem?_eq_some_iff.1 hj).1; omega
      have hc := hcell j (by omega)
      rw [addr_add] at hc
      rw [List.getElem?_take_of_lt hjl] at hj
      rw [hc]
      simp [List.getD, hj]

theorem len3 {α : Type} {l : List α} (h : l.length = 3) : ∃ a b c, l = [a, b, c] := by
  match l, h with
  | [a, b, c], _ => exact ⟨a, b, c, rfl⟩

/-- An act's cells. -/
theorem act_cells {H : Type} {enc : TypeId × Value → H} {W : World} {held : Bool} {fuel : Nat} {cs : List Value} {x : DataW H × List MemPlace}
    (h : DataW.trod enc Try.prog W 0 (fun _ => true) held fuel 40 cs = some x) (hw : ∀ n ∈ x.1.weights Try.prog 40, n ≤ reachBytes) :
    ∃ (c b : Int) (u : Value) (xs : List Int), cs = [.int .i64 c, .int .i64 b, u] ∧ RowIn W u xs ∧ xs.length ≤ 140737488355328 := by
  obtain ⟨y0, y1, y2, m, hx, hl, h0, h1, h2⟩ := trod_struct3 Try.underlying40 h
  have e1 : Try.prog.cellsOf 40 = 3 := by kernel_rfl
  have e2 : Try.prog.cellsOf 3 = 1 := by kernel_rfl
  have e3 : Try.prog.cellsOf 23 = 1 := by kernel_rfl
  rw [e1] at hl
  obtain ⟨c0, c1, c2, rfl⟩ := len3 hl
  simp only [e2, List.drop_zero, List.take_succ_cons, List.take_zero] at h0
  simp only [e2, List.drop_succ_cons, List.drop_zero, List.take_succ_cons, List.take_zero] at h1
  simp only [e3, List.drop_succ_cons, List.drop_zero, List.take_succ_cons, List.take_zero] at h2
  obtain ⟨c, k0, -⟩ := DataW.trod_int Try.underlying3 h0
  obtain ⟨b, k1, -⟩ := DataW.trod_int Try.underlying3 h1
  simp only [List.cons.injEq, and_true] at k0 k1
  subst k0 k1
  obtain ⟨xs, r1, r2⟩ := row_of h2 (fun n hn => hw n (by
    rw [hx]
    simp only [DataW.weights, Try.underlying40, DataW.weightsEach, List.map_cons, List.map_nil, List.mem_append]
    exact .inr (.inr (.inl hn))))
  exact ⟨c, b, c2, xs, rfl, r1, r2⟩

/-- The acts, read as data. -/
theorem acts_of {H : Type} {enc : TypeId × Value → H} {W : World} {held : Bool} {a : Option Addr} {len cap fuel : Nat} {x : DataW H × List MemPlace}
    (h : DataW.trod enc Try.prog W 0 (fun _ => true) held fuel 35 [.slice a len cap] = some x) (hw : ∀ n ∈ x.1.weights Try.prog 35, n ≤ reachBytes) :
    len ≤ maxLen ∧ ∃ sb so K N U X, ActsIn W a len sb so K N U X := by
  have e3 : Try.prog.cellsOf 40 = 3 := by kernel_rfl
  rcases Go.Deep.open_slice Try.underlying35 h with ⟨hcs, -⟩ | ⟨ad, l, c, m, n, D, Pl, hcs, -, hlc, hcm, hm, hx, hel⟩
  · simp only [List.cons.injEq, Value.slice.injEq, and_true] at hcs
    obtain ⟨rfl, rfl, rfl⟩ := hcs
    exact ⟨by simp [maxLen], 0, 0, fun _ => 0, fun _ => 0, fun _ => .nilIface, fun _ => [], ⟨fun h => absurd h (by omega), fun j h => absurd h (by omega), fun j h => absurd h (by omega), fun j h => absurd h (by omega), fun j h => absurd h (by omega), fun j h => absurd h (by omega)⟩⟩
  · simp only [List.cons.injEq, Value.slice.injEq, and_true] at hcs
    obtain ⟨rfl, rfl, rfl⟩ := hcs
    refine ⟨Nat.le_trans hlc hcm, ?_⟩
    have hml : len ≤ m := by rw [hm]; split <;> omega
    have each : ∀ i, i < len → ∃ (f : Int × Int × Value × List Int), RowIn W f.2.2.1 f.2.2.2 ∧ f.2.2.2.length ≤ 140737488355328 ∧ ∀ j, j < 3 → W.cell? ((ad.add (i * 3)).add j) = [Value.int .i64 f.1, .int .i64 f.2.1, f.2.2.1][j]? := by
      intro i hi
      obtain ⟨cs, hcs, htr⟩ := hel i (by omega)
      obtain ⟨c, b, u, xs, rfl, r1, r2⟩ := act_cells htr (fun k hk => hw k (by
        rw [hx]
        simp only [DataW.weights, Try.underlying35, List.mem_cons, List.mem_append]
        exact .inr (.inl (weightsAll_mem (List.mem_map.2 ⟨i, List.mem_range.2 hi, rfl⟩) hk))))
      rw [e3] at hcs
      exact ⟨(c, b, u, xs), r1, r2, (World.cells?_some hcs).2.2⟩
    by_cases h0 : len = 0
    · subst h0
      exact ⟨0, 0, fun _ => 0, fun _ => 0, fun _ => .nilIface, fun _ => [], ⟨fun h => absurd h (by omega), fun j h => absurd h (by omega), fun j h => absurd h (by omega), fun j h => absurd h (by omega), fun j h => absurd h (by omega), fun j h => absurd h (by omega)⟩⟩
    · obtain ⟨b, off, spot⟩ := ad
      obtain ⟨f0, -, -, hc0⟩ := each 0 (by omega)
      have hc00 := hc0 0 (by omega)
      have e00 : ((⟨b, off, spot⟩ : Addr).add (0 * 3)).add 0 = ⟨b, off, spot⟩ := by simp [Addr.add]
      rw [e00] at hc00
      have hspot : spot = none := by simpa using World.cell?_spot hc00
      subst hspot
      let F : Nat → Int × Int × Value × List Int := fun i => if h : i < len then (each i h).choose else f0
      have hF : ∀ i (h : i < len), RowIn W (F i).2.2.1 (F i).2.2.2 ∧ (F i).2.2.2.length ≤ 140737488355328 ∧ ∀ j, j < 3 → W.cell? (((⟨b, off, none⟩ : Addr).add (i * 3)).add j) = [Value.int .i64 (F i).1, .int .i64 (F i).2.1, (F i).2.2.1][j]? := fun i h => by
        have : F i = (each i h).choose := by simp [F, h]
        rw [this]; exact (each i h).choose_spec
      have ad3 : ∀ i j, ((⟨b, off, none⟩ : Addr).add (i * 3)).add j = ⟨b, off + i * 3 + j, none⟩ := by
        intro i j
        rw [addr_add, addr_add]
      refine ⟨b, off, fun i => (F i).1, fun i => (F i).2.1, fun i => (F i).2.2.1, fun i => (F i).2.2.2, ⟨fun _ => ⟨rfl, World.block_lt_of_cell? W _ hc00⟩, fun i hi => ?_, fun i hi => ?_, fun i hi => ?_, fun i hi => (hF i hi).1, fun i hi => (hF i hi).2.1⟩⟩
      · have := (hF i hi).2.2 0 (by omega)
        rw [ad3] at this
        exact this
      · have := (hF i hi).2.2 1 (by omega)
        rw [ad3] at this
        exact this
      · have := (hF i hi).2.2 2 (by omega)
        rw [ad3] at this
        exact this

theorem own : ownKnob Try.prog.godebug = none := by kernel_rfl
theorem laidOut : laidOutB Try.prog = true := by kernel_rfl

set_option maxRecDepth 100000 in
theorem lifted (os : Os) (started : os.Started) (H : Type) (enc : TypeId × Value → H) :
    ReturnsInHanded {} Try.checked os 4 .any (Rows.queueActsSpec.pre6 enc Try.prog Try.f4 Rows.queueActsRow.domain false) (Rows.queueActsSpec.post enc Try.prog Try.f4 false true false false) := by
  refine returnsInHanded_of_change_sized (C := Try.checked) own started (by kernel_rfl) Try.func4
    (ChangeSpec.witness6 (enc := enc) (C := Try.checked) false ⟨#[], #[.int .i64 0, .slice none 0 0, .slice none 0 0], []⟩ 8 (by kernel_rfl) (by kernel_rfl) (by kernel_rfl) (by kernel_rfl)) ?_
  intro W base args ds gs before hval0 hW hcnd hsz0 _
  have hval : ∀ (j : Nat) t v, Try.f4.params[j]? = some t → args[j]? = some v → Value.okWide Try.prog W .any base t v := hval0
  have hsz : (DataW.weightsEach Try.prog (Try.f4.params.toList ++ Rows.queueActsSpec.plain.varTypes Try.prog) (ds ++ gs)).all (· ≤ reachBytes) = true := hsz0
  have hW' := hW
  obtain ⟨p, q, hA0, hV, rfl, hfz, hnd⟩ := hW
  have hA : DataW.TrodAll enc Try.prog W 0 (fun _ => true) true Try.f4.params.toList args.toList ds p := hA0
  rw [Try.params4] at hA hval hsz
  obtain ⟨v0, vs0, d0, ds0, p0, q0, hargs, rfl, rfl, h0, r0⟩ := trodAll_cons hA
  obtain ⟨v1, vs1, d1, ds1, p1, q1, rfl, rfl, rfl, h1, r1⟩ := trodAll_cons r0
  obtain ⟨v2, vs2, d2, ds2, p2, q2, rfl, rfl, rfl, h2, r2⟩ := trodAll_cons r1
  obtain ⟨rfl, rfl, rfl⟩ := trodAll_nil r2
  obtain rfl : args = #[v0, v1, v2] := by cases args; simp_all
  obtain ⟨rfl, rfl⟩ := trodVars_none hV
  have hw1 : ∀ n ∈ d1.weights Try.prog 35, n ≤ reachBytes := fun n hn => by
    have := List.all_eq_true.1 hsz n (DataW.weights_mem_each (j := 1) (t := 35) (d := d1) rfl rfl n hn)
    simpa using this
  have hw2 : ∀ n ∈ d2.weights Try.prog 35, n ≤ reachBytes := fun n hn => by
    have := List.all_eq_true.1 hsz n (DataW.weights_mem_each (j := 2) (t := 35) (d := d2) rfl rfl n hn)
    simpa using this
  obtain ⟨a0, rfl, rfl, rfl, w0⟩ := open_int Try.underlying3 (hval 0 3 v0 rfl rfl) h0
  obtain ⟨a1, len1, cap1, rfl⟩ := okWide_slice Try.underlying35 (hval 1 35 v1 rfl rfl)
  obtain ⟨a2, len2, cap2, rfl⟩ := okWide_slice Try.underlying35 (hval 2 35 v2 rfl rfl)
  have k1 := h1
  have lt1 : ∀ x ∈ p1, x.block < W.heap.size := by obtain ⟨m, hm⟩ := k1; exact DataW.trod_lt m _ _ _ hm
  have k2 := h2
  have lt2 : ∀ x ∈ p2, x.block < W.heap.size := by obtain ⟨m, hm⟩ := k2; exact DataW.trod_lt m _ _ _ hm
  obtain ⟨m1, s1, o1, K1, N1, U1, X1, i1⟩ : len1 ≤ maxLen ∧ ∃ sb so K N U X, ActsIn W a1 len1 sb so K N U X := by obtain ⟨m, hm⟩ := k1; exact acts_of hm hw1
  obtain ⟨m2, s2, o2, K2, N2, U2, X2, i2⟩ : len2 ≤ maxLen ∧ ∃ sb so K N U X, ActsIn W a2 len2 sb so K N U X := by obtain ⟨m, hm⟩ := k2; exact acts_of hm hw2
  clear hA0 hval0
  refine (walk a0 a1 a2 len1 cap1 len2 cap2 W m1 m2 s1 o1 s2 o2 K1 N1 K2 N2 U1 U2 X1 X2 i1 i2).mono fun e W' ⟨he, bel⟩ => ?_
  subst he
  exact ⟨_, rfl, _, _, _, [], _, [], hW', trodAll_mk1 (shut_bool Try.underlying4 _), (trodAll_cons_mk (shut_int Try.underlying3 w0) (trodAll_cons_mk (Below.trod laidOut (by kernel_rfl) (of_decide_eq_true (by kernel_rfl)) k1 bel lt1) (trodAll_cons_mk (Below.trod laidOut (by kernel_rfl) (of_decide_eq_true (by kernel_rfl)) k2 bel lt2) trodAll_mk0))), rfl, bel.frame _, fun h => by cases h⟩

theorem over : Rows.queueActsRow.holds Try.pinned (OpenSpec.ofChange Rows.queueActsSpec) :=
  OpenClaim.holds_of_wide 4 Try.f4 rfl rfl rfl rfl rfl rfl rfl ⟨rfl, rfl, rfl, rfl, rfl⟩ rfl rfl rfl rfl rfl (by kernel_rfl) Try.func4 (by kernel_rfl)
    (of_decide_eq_true (by kernel_rfl)) (by unfold Func.isWrapper; first | (rw [if_pos (by decide +kernel)]; kernel_rfl) | (rw [if_neg (by decide +kernel)]; exact ⟨rfl, rfl⟩))
    (fun os started H enc _ => lifted os started H enc)

theorem proved : Rows.QueueActsSaid := over

end Go.Proofs.Ytliaeknidmbelaa.queueActs
