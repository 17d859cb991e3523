/-
  Proved here: fairwaylaw14.QueueOrder returns true for every input, and its input reads as it did; no condition. (The row.)
-/
import Derived.Test.YtliaeknidmbelaaQueueOrder
import Derived.SizedLaws
namespace Go.Proofs.Ytliaeknidmbelaa.queueOrder
open Go.ChangeShapes Go.WideShapes Go.ChangeAt Go.RowKit Go.Deep
set_option linter.unusedVariables false

theorem range_u8 {n : Int} (h : (Lit.int .u8 n).wf = true) : 0 ≤ n ∧ n < 256 := by
  have : 0 ≤ n ∧ n ≤ 255 := by simpa [Lit.wf, IntKind.min, IntKind.max, IntKind.signed, IntKind.bits] using h
  omega

theorem walk (la ca da : Option Addr) (n1 c1 n2 c2 n3 c3 : Nat) (w : World) (m1 : n1 ≤ maxLen) (m2 : n2 ≤ maxLen) (m3 : n3 ≤ maxLen)
    (lb lo cb co db dz : Nat) (U : Nat → Value) (X : Nat → List Int) (Z : Nat → Int) (D : Nat → Bool) (hm : Msgs w la n1 lb lo U X)
    (hc : 0 < n2 → ca = some ⟨cb, co, none⟩ ∧ cb < w.heap.size) (hz : ∀ j, j < n2 → w.cell? ⟨cb, co + j, none⟩ = some (.int .u8 (Z j)) ∧ 0 ≤ Z j ∧ Z j ≤ 255)
    (hd : 0 < n3 → da = some ⟨db, dz, none⟩ ∧ db < w.heap.size) (hb : ∀ j, j < n3 → w.cell? ⟨db, dz + j, none⟩ = some (.bool (D j))) :
    Calls Try.prog 3 #[.slice la n1 c1, .slice ca n2 c2, .slice da n3 c3] w fun e w' => e = .returned (.bool true) ∧ Below w.heap.size w w' := by
  by_cases h : 60 < n1 ∨ 200 < n2
  · exact walk_far1 la ca da n1 c1 n2 c2 n3 c3 w m1 m2 h
  · exact walk_near la ca da n1 c1 n2 c2 n3 c3 w (fun h6 => h (.inl h6)) (fun h6 => h (.inr h6)) m3 lb lo cb co db dz U X Z D hm hc hz hd hb

theorem ints_row {H : Type} {enc : TypeId × Value → H} {W : World} {spare : Nat → Bool} {held : Bool} {a : Option Addr} {len cap fuel : Nat} {x : DataW H × List MemPlace}
    (h : DataW.trod enc Try.prog W 0 spare held fuel 23 [.slice a len cap] = some x) :
    len ≤ maxLen ∧ ∃ (z : Nat → Int) (sb so : Nat), (0 < len → a = some ⟨sb, so, none⟩ ∧ sb < W.heap.size) ∧ ∀ j, j < len → W.cell? ⟨sb, so + j, none⟩ = some (.int .u8 (z j)) ∧ 0 ≤ z j ∧ z j ≤ 255 := by
  rcases open_ints Try.underlying23 Try.underlying5 (by kernel_rfl) h with ⟨hcs, _⟩ | ⟨ad, l, c, zs, hcs, _, hl, hm, hz, _, hcell, hwz⟩
  · simp only [List.cons.injEq, Value.slice.injEq, and_true] at hcs
    obtain ⟨rfl, rfl, rfl⟩ := hcs
    exact ⟨by simp [maxLen], fun _ => 0, 0, 0, fun h => absurd h (by omega), fun j h => absurd h (by omega)⟩
  · simp only [List.cons.injEq, Value.slice.injEq, and_true] at hcs
    obtain ⟨rfl, rfl, rfl⟩ := hcs
    refine ⟨Nat.le_trans hl hm, ?_⟩
    by_cases h0 : len = 0
    · exact ⟨fun _ => 0, 0, 0, fun h => absurd h (by omega), fun j h => absurd h (by omega)⟩
    · have hzl : len ≤ zs.length := by rw [hz]; split <;> omega
      obtain ⟨b, off, spot⟩ := ad
      have hc0 := hcell 0 (by omega)
      have e0 : (⟨b, off, spot⟩ : Addr).add 0 = ⟨b, off, spot⟩ := by simp [Addr.add]
      rw [e0] at hc0
      have hspot : spot = none := by simpa using World.cell?_spot hc0
      subst hspot
      refine ⟨fun j => zs.getD j 0, b, off, fun _ => ⟨rfl, World.block_lt_of_cell? W _ hc0⟩, fun j hj => ?_⟩
      have hc := hcell j (by omega)
      rw [addr_add] at hc
      have hj' : j < zs.length := by omega
      have hr := range_u8 (hwz zs[j] (List.getElem_mem hj'))
      have e : zs.getD j 0 = zs[j] := by simp [List.getD, List.getElem?_eq_getElem hj']
      exact ⟨hc, by show 0 ≤ zs.getD j 0; rw [e]; exact hr.1, by show zs.getD j 0 ≤ 255; rw [e]; omega⟩

theorem bools_row {H : Type} {enc : TypeId × Value → H} {W : World} {held : Bool} {a : Option Addr} {len cap fuel : Nat} {x : DataW H × List MemPlace}
    (h : DataW.trod enc Try.prog W 0 (fun _ => true) held fuel 24 [.slice a len cap] = some x) :
    len ≤ maxLen ∧ ∃ (z : Nat → Bool) (sb so : Nat), (0 < len → a = some ⟨sb, so, none⟩ ∧ sb < W.heap.size) ∧ ∀ j, j < len → W.cell? ⟨sb, so + j, none⟩ = some (.bool (z j)) := by
  rcases open_bools Try.underlying24 Try.underlying4 (by kernel_rfl) h with ⟨hcs, _⟩ | ⟨ad, l, c, B, hcs, _, hl, hm, _, hcell⟩
  · simp only [List.cons.injEq, Value.slice.injEq, and_true] at hcs
    obtain ⟨rfl, rfl, rfl⟩ := hcs
    exact ⟨by simp [maxLen], fun _ => false, 0, 0, fun h => absurd h (by omega), fun j h => absurd h (by omega)⟩
  · simp only [List.cons.injEq, Value.slice.injEq, and_true] at hcs
    obtain ⟨rfl, rfl, rfl⟩ := hcs
    refine ⟨Nat.le_trans hl hm, ?_⟩
    by_cases h0 : len = 0
    · exact ⟨B, 0, 0, fun h => absurd h (by omega), fun j h => absurd h (by omega)⟩
    · obtain ⟨b, off, spot⟩ := ad
      have hc0 := hcell 0 (by omega)
      have e0 : (⟨b, off, spot⟩ : Addr).add 0 = ⟨b, off, spot⟩ := by simp [Addr.add]
      rw [e0] at hc0
      have hspot : spot = none := by simpa using World.cell?_spot hc0
      subst hspot
      exact ⟨B, b, off, fun _ => ⟨rfl, World.block_lt_of_cell? W _ hc0⟩, fun j hj => by have hc := hcell j (by omega); rw [addr_add] at hc; exact hc⟩

theorem weightsAll_mem {H : Type} {P : Program} {e : TypeId} : ∀ {ds : List (DataW H)} {d : DataW H} {n : Nat}, d ∈ ds → n ∈ d.weights P e → n ∈ DataW.weightsAll P e ds
  | d0 :: ds, d, n, hd, hn => by
    simp only [DataW.weightsAll, List.mem_append]
    rcases List.mem_cons.1 hd with rfl | hd
    · exact .inl hn
    · exact .inr (weightsAll_mem hd hn)

theorem bytesU8 : Try.prog.bytesOf 5 = 1 := by kernel_rfl

/-- One message, read as data. -/
theorem row_of {H : Type} {enc : TypeId × Value → H} {W : World} {held : Bool} {v : Value} {fuel : Nat} {x : DataW H × List MemPlace}
    (h : DataW.trod enc Try.prog W 0 (fun _ => true) held fuel 23 [v] = some x) (hw : ∀ n ∈ x.1.weights Try.prog 23, n ≤ reachBytes) : ∃ xs : List Int, RowIs W v xs ∧ xs.length ≤ 140737488355328 := by
  rcases open_ints Try.underlying23 Try.underlying5 (by kernel_rfl) h with ⟨hcs, _⟩ | ⟨ad, l, c, zs, hcs, _, hl, hm, hz, hx, hcell, hwz⟩
  · simp only [List.cons.injEq, and_true] at hcs
    subst hcs
    exact ⟨[], .inl ⟨rfl, none, 0, rfl⟩, by simp⟩
  · simp only [List.cons.injEq, and_true] at hcs
    subst hcs
    have hzc : zs.length = c := by simpa using hz
    have hb : l ≤ 140737488355328 := by
      have h6 := hw ((List.take l zs).length + (List.drop l zs).length) (by rw [hx]; simp [DataW.weights, Try.underlying23, bytesU8, lits])
      simp only [List.length_take, List.length_drop, reachBytes] at h6
      omega
    by_cases h0 : l = 0
    · subst h0
      exact ⟨[], .inl ⟨rfl, some ad, c, rfl⟩, by simp⟩
    · obtain ⟨b, off, spot⟩ := ad
      have hc0 := hcell 0 (by omega)
      have e0 : (⟨b, off, spot⟩ : Addr).add 0 = ⟨b, off, spot⟩ := by simp [Addr.add]
      rw [e0] at hc0
      have hspot : spot = none := by simpa using World.cell?_spot hc0
      subst hspot
      have hlen : (zs.take l).length = l := by rw [List.length_take]; omega
      refine ⟨zs.take l, .inr ⟨by omega, b, off, c, by rw [hlen], World.block_lt_of_cell? W _ hc0, fun j y hj => ?_⟩, by omega⟩
      have hjl : j < l := by have := (List.getElem?_eq_some_iff.1 hj).1; omega
      have hc := hcell j (by omega)
      rw [addr_add] at hc
      rw [List.getElem?_take_of_lt hjl] at hj
      rw [hc]
      simp [List.getD, hj]

/-- The messages, read as data. -/
theorem msgs_of {H : Type} {enc : TypeId × Value → H} {W : World} {held : Bool} {a : Option Addr} {len cap fuel : Nat} {x : DataW H × List MemPlace}
    (h : DataW.trod enc Try.prog W 0 (fun _ => true) held fuel 22 [.slice a len cap] = some x) (hw : ∀ n ∈ x.1.weights Try.prog 22, n ≤ reachBytes) :
    len ≤ maxLen ∧ ∃ lb lo U X, Msgs W a len lb lo U X := by
  rcases open_slice1 Try.underlying22 (by kernel_rfl) h with ⟨hcs, _⟩ | ⟨ad, l, c, m, n, V, D, Pl, hcs, -, hl, hm, hmm, hx, hel⟩
  · simp only [List.cons.injEq, Value.slice.injEq, and_true] at hcs
    obtain ⟨rfl, rfl, rfl⟩ := hcs
    exact ⟨by simp [maxLen], 0, 0, fun _ => .nilIface, fun _ => [], ⟨fun h => absurd h (by omega), fun j h => absurd h (by omega), fun j h => absurd h (by omega), fun j h => absurd h (by omega)⟩⟩
  · simp only [List.cons.injEq, Value.slice.injEq, and_true] at hcs
    obtain ⟨rfl, rfl, rfl⟩ := hcs
    simp only [if_true] at hmm
    refine ⟨Nat.le_trans hl hm, ?_⟩
    have each : ∀ i, i < len → ∃ xs : List Int, RowIs W (V i) xs ∧ xs.length ≤ 140737488355328 := fun i hi => by
      obtain ⟨-, h2⟩ := hel i (by omega)
      refine row_of h2 (fun k hk => hw k ?_)
      rw [hx]
      simp only [DataW.weights, Try.underlying22, List.mem_cons, List.mem_append]
      exact .inr (.inl (weightsAll_mem (List.mem_map.2 ⟨i, List.mem_range.2 hi, rfl⟩) hk))
    let X : Nat → List Int := fun i => if h : i < len then (each i h).choose else []
    have hX : ∀ i (h : i < len), RowIs W (V i) (X i) ∧ (X i).length ≤ 140737488355328 := fun i h => by
      have : X i = (each i h).choose := by simp [X, h]
      rw [this]; exact (each i h).choose_spec
    by_cases h0 : len = 0
    · exact ⟨0, 0, V, X, ⟨fun h => absurd h (by omega), fun j h => absurd h (by omega), fun j h => absurd h (by omega), fun j h => absurd h (by omega)⟩⟩
    · obtain ⟨b, off, spot⟩ := ad
      have hc0 := (hel 0 (by omega)).1
      have e0 : (⟨b, off, spot⟩ : Addr).add 0 = ⟨b, off, spot⟩ := by simp [Addr.add]
      rw [e0] at hc0
      have hspot : spot = none := by simpa using World.cell?_spot hc0
      subst hspot
      exact ⟨b, off, V, X, ⟨fun _ => ⟨rfl, World.block_lt_of_cell? W _ hc0⟩, fun j hj => by have := (hel j (by omega)).1; rw [addr_add] at this; exact this, fun j hj => (hX j hj).1, fun j hj => (hX j hj).2⟩⟩

theorem own : ownKnob Try.prog.godebug = none := by kernel_rfl
theorem laidOut : laidOutB Try.prog = true := by kernel_rfl

set_option maxRecDepth 100000 in
theorem lifted (os : Os) (started : os.Started) (H : Type) (enc : TypeId × Value → H) :
    ReturnsInHanded {} Try.checked os 3 .any (Rows.queueOrderSpec.pre6 enc Try.prog Try.f3 Rows.queueOrderRow.domain false) (Rows.queueOrderSpec.post enc Try.prog Try.f3 false true false false) := by
  refine returnsInHanded_of_change_sized (C := Try.checked) own started (by kernel_rfl) Try.func3
    (ChangeSpec.witness6 (enc := enc) (C := Try.checked) false ⟨#[], #[.slice none 0 0, .slice none 0 0, .slice none 0 0], []⟩ 8 (by kernel_rfl) (by kernel_rfl) (by kernel_rfl) (by kernel_rfl)) ?_
  intro W base args ds gs before hval0 hW hcnd hsz0 _
  have hval : ∀ (j : Nat) t v, Try.f3.params[j]? = some t → args[j]? = some v → Value.okWide Try.prog W .any base t v := hval0
  have hsz : (DataW.weightsEach Try.prog (Try.f3.params.toList ++ Rows.queueOrderSpec.plain.varTypes Try.prog) (ds ++ gs)).all (· ≤ reachBytes) = true := hsz0
  have hW' := hW
  obtain ⟨p, q, hA0, hV, rfl, hfz, hnd⟩ := hW
  have hA : DataW.TrodAll enc Try.prog W 0 (fun _ => true) true Try.f3.params.toList args.toList ds p := hA0
  rw [Try.params3] at hA hval hsz
  obtain ⟨v0, vs0, d0, ds0, p0, q0, hargs, rfl, rfl, h0, r0⟩ := trodAll_cons hA
  obtain ⟨v1, vs1, d1, ds1, p1, q1, rfl, rfl, rfl, h1, r1⟩ := trodAll_cons r0
  obtain ⟨v2, vs2, d2, ds2, p2, q2, rfl, rfl, rfl, h2, r2⟩ := trodAll_cons r1
  obtain ⟨rfl, rfl, rfl⟩ := trodAll_nil r2
  obtain rfl : args = #[v0, v1, v2] := by cases args; simp_all
  obtain ⟨rfl, rfl⟩ := trodVars_none hV
  obtain ⟨la, n1, c1, rfl⟩ := okWide_slice Try.underlying22 (hval 0 22 v0 rfl rfl)
  obtain ⟨ca, n2, c2, rfl⟩ := okWide_slice Try.underlying23 (hval 1 23 v1 rfl rfl)
  obtain ⟨da, n3, c3, rfl⟩ := okWide_slice Try.underlying24 (hval 2 24 v2 rfl rfl)
  have k0 := h0
  have lt0 : ∀ x ∈ p0, x.block < W.heap.size := by obtain ⟨m, hm⟩ := k0; exact DataW.trod_lt m _ _ _ hm
  have k1 := h1
  have lt1 : ∀ x ∈ p1, x.block < W.heap.size := by obtain ⟨m, hm⟩ := k1; exact DataW.trod_lt m _ _ _ hm
  have k2 := h2
  have lt2 : ∀ x ∈ p2, x.block < W.heap.size := by obtain ⟨m, hm⟩ := k2; exact DataW.trod_lt m _ _ _ hm
  have hw0 : ∀ n ∈ d0.weights Try.prog 22, n ≤ reachBytes := fun n hn => by
    have := List.all_eq_true.1 hsz n (DataW.weights_mem_each (j := 0) (t := 22) (d := d0) rfl rfl n hn)
    simpa using this
  obtain ⟨m1, lb, lo, U, X, hM⟩ : n1 ≤ maxLen ∧ ∃ lb lo U X, Msgs W la n1 lb lo U X := by
    obtain ⟨fuel, hf⟩ := h0
    exact msgs_of hf hw0
  obtain ⟨m2, Z, cb, co, i1, j1⟩ : n2 ≤ maxLen ∧ ∃ (z : Nat → Int) (sb so : Nat), (0 < n2 → ca = some ⟨sb, so, none⟩ ∧ sb < W.heap.size) ∧ ∀ j, j < n2 → W.cell? ⟨sb, so + j, none⟩ = some (.int .u8 (z j)) ∧ 0 ≤ z j ∧ z j ≤ 255 := by
    obtain ⟨fuel, hf⟩ := h1
    exact ints_row hf
  obtain ⟨m3, D, db, dz, i2, j2⟩ : n3 ≤ maxLen ∧ ∃ (z : Nat → Bool) (sb so : Nat), (0 < n3 → da = some ⟨sb, so, none⟩ ∧ sb < W.heap.size) ∧ ∀ j, j < n3 → W.cell? ⟨sb, so + j, none⟩ = some (.bool (z j)) := by
    obtain ⟨fuel, hf⟩ := h2
    exact bools_row hf
  clear hA0 hval0
  refine (walk la ca da n1 c1 n2 c2 n3 c3 W m1 m2 m3 lb lo cb co db dz U X Z D hM i1 j1 i2 j2).mono fun e W' ⟨he, bel⟩ => ?_
  subst he
  exact ⟨_, rfl, _, _, _, [], _, [], hW', trodAll_mk1 (shut_bool Try.underlying4 _), (trodAll_cons_mk (Below.trod laidOut (by kernel_rfl) (of_decide_eq_true (by kernel_rfl)) k0 bel lt0) (trodAll_cons_mk (Below.trod laidOut (by kernel_rfl) (of_decide_eq_true (by kernel_rfl)) k1 bel lt1) (trodAll_cons_mk (Below.trod laidOut (by kernel_rfl) (of_decide_eq_true (by kernel_rfl)) k2 bel lt2) trodAll_mk0))), rfl, bel.frame _, fun h => by cases h⟩

theorem over : Rows.queueOrderRow.holds Try.pinned (OpenSpec.ofChange Rows.queueOrderSpec) :=
  OpenClaim.holds_of_wide 3 Try.f3 rfl rfl rfl rfl rfl rfl rfl ⟨rfl, rfl, rfl, rfl, rfl⟩ rfl rfl rfl rfl rfl (by kernel_rfl) Try.func3 (by kernel_rfl)
    (of_decide_eq_true (by kernel_rfl)) (by unfold Func.isWrapper; first | (rw [if_pos (by decide +kernel)]; kernel_rfl) | (rw [if_neg (by decide +kernel)]; exact ⟨rfl, rfl⟩))
    (fun os started H enc _ => lifted os started H enc)

theorem proved : Rows.QueueOrderSaid := over

end Go.Proofs.Ytliaeknidmbelaa.queueOrder
