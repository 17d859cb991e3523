/-
  Proved here: fairwaylaw20.PaceActs returns true for every input, and its input reads as it did; no condition. (The row.)
-/
import Derived.Test.YtpboomjnbndcpaaPaceActs
namespace Go.Proofs.Ytpboomjnbndcpaa.paceActs
open Go.ChangeShapes Go.WideShapes Go.ChangeAt Go.RowKit
set_option linter.unusedVariables false

theorem own : ownKnob Try.prog.godebug = none := by kernel_rfl
theorem laidOut : laidOutB Try.prog = true := by kernel_rfl

theorem range_u32 {n : Int} (h : (Lit.int .u32 n).wf = true) : 0 ≤ n ∧ n < 4294967296 := by
  have : 0 ≤ n ∧ n ≤ 4294967295 := by simpa [Lit.wf, IntKind.min, IntKind.max, IntKind.signed, IntKind.bits] using h
  omega

theorem addr_add (b o k : Nat) : (⟨b, o, none⟩ : Addr).add k = ⟨b, o + k, none⟩ := by unfold Addr.add; split <;> simp_all

/-- The acts that a slice reads as. -/
theorem acts_of {H : Type} {enc : TypeId × Value → H} {W : World} {spare : Nat → Bool} {held : Bool} {a : Option Addr} {len cap fuel : Nat} {x : DataW H × List MemPlace}
    (h : DataW.trod enc Try.prog W 0 spare held fuel 35 [.slice a len cap] = some x) : len ≤ maxLen ∧ ∃ sb so As, ActsAt W a len sb so As := by
  have e4 : Try.prog.cellsOf 39 = 4 := by kernel_rfl
  rcases Go.Deep.open_slice Try.underlying35 h with ⟨h1, -⟩ | ⟨ad, l, c, m, n, D, Pl, h1, -, hlc, hcm, hm, -, hel⟩
  · simp only [List.cons.injEq, Value.slice.injEq, and_true] at h1
    obtain ⟨rfl, rfl, rfl⟩ := h1
    exact ⟨by simp [maxLen], 0, 0, [], ⟨rfl, fun h => absurd h (by omega), fun i h => absurd h (by simp), fun i h => absurd h (by simp)⟩⟩
  · simp only [List.cons.injEq, Value.slice.injEq, and_true] at h1
    obtain ⟨rfl, rfl, rfl⟩ := h1
    refine ⟨Nat.le_trans hlc hcm, ?_⟩
    have hml : len ≤ m := by rw [hm]; split <;> omega
    have each : ∀ i, i < len → ∃ act : Act, (0 ≤ act.a ∧ act.a < 4294967296) ∧ ∀ j, j < 4 → W.cell? ((ad.add (i * 4)).add j) = [Value.bool act.fg, .int .u32 act.a, .int .i64 act.n, .int .i64 act.now][j]? := by
      intro i hi
      obtain ⟨cs, hcs, htr⟩ := hel i (by omega)
      obtain ⟨fg, a, n, now, rfl, w0, -, -⟩ := act_cells htr
      rw [e4] at hcs
      have hc := (World.cells?_some hcs).2
      refine ⟨⟨fg, a, n, now⟩, range_u32 w0, fun j hj => ?_⟩
      exact hc.2 j hj
    by_cases h0 : len = 0
    · subst h0
      exact ⟨0, 0, [], ⟨rfl, fun h => absurd h (by omega), fun i h => absurd h (by simp), fun i h => absurd h (by simp)⟩⟩
    · obtain ⟨b, off, spot⟩ := ad
      obtain ⟨a0, -, hc0⟩ := each 0 (by omega)
      have hc00 := hc0 0 (by omega)
      have e00 : ((⟨b, off, spot⟩ : Addr).add (0 * 4)).add 0 = ⟨b, off, spot⟩ := by simp [Addr.add]
      rw [e00] at hc00
      have hspot : spot = none := by simpa using World.cell?_spot hc00
      subst hspot
      let f : Nat → Act := fun i => if h : i < len then (each i h).choose else a0
      refine ⟨b, off, (List.range len).map f, ⟨by simp, fun _ => ⟨rfl, World.block_lt_of_cell? W _ hc00⟩, ?_, ?_⟩⟩
      · intro i hi
        have hi' : i < len := by simpa using hi
        have hf : ((List.range len).map f)[i] = (each i hi').choose := by simp [f, hi']
        have hs := (each i hi').choose_spec.2
        rw [hf]
        have ad4 : ∀ j, ((⟨b, off, none⟩ : Addr).add (i * 4)).add j = ⟨b, off + i * 4 + j, none⟩ := by
          intro j
          rw [addr_add, addr_add]
        have s0 := hs 0 (by omega)
        have s1 := hs 1 (by omega)
        have s2 := hs 2 (by omega)
        have s3 := hs 3 (by omega)
        rw [ad4] at s0 s1 s2 s3
        exact ⟨s0, s1, s2, s3⟩
      · intro i hi
        have hi' : i < len := by simpa using hi
        have hf : ((List.range len).map f)[i] = (each i hi').choose := by simp [f, hi']
        rw [hf]
        exact (each i hi').choose_spec.1

theorem walk (gap : Int) (a1 a2 : Option Addr) (len1 cap1 len2 cap2 : Nat) (w : World) (h1 : len1 ≤ maxLen ∧ ∃ sb so As, ActsAt w a1 len1 sb so As) (h2 : len2 ≤ maxLen ∧ ∃ sb so As, ActsAt w a2 len2 sb so As) :
    Calls Try.prog 4 #[.int .i64 gap, .slice a1 len1 cap1, .slice a2 len2 cap2] w fun e w' => e = .returned (.bool true) ∧ Below w.heap.size w w' := by
  obtain ⟨m1, s1, o1, A1, i1⟩ := h1
  obtain ⟨m2, s2, o2, A2, i2⟩ := h2
  by_cases hb : 150 < len1 ∨ 150 < len2
  · exact walk_big gap a1 a2 len1 cap1 len2 cap2 w hb m1 m2
  · have b1 : ¬ 150 < len1 := fun h => hb (.inl h)
    have b2 : ¬ 150 < len2 := fun h => hb (.inr h)
    by_cases hg : gap < 0 ∨ 65535 < gap
    · exact walk_nil gap a1 a2 len1 cap1 len2 cap2 w b1 b2 hg
    · exact walk_small gap a1 a2 len1 cap1 len2 cap2 s1 o1 s2 o2 A1 A2 w b1 b2 (by have := fun h => hg (.inl h); omega) (by have := fun h => hg (.inr h); omega) i1 i2

set_option maxRecDepth 100000 in
theorem lifted (os : Os) (started : os.Started) (H : Type) (enc : TypeId × Value → H) :
    ReturnsInHanded {} Try.checked os 4 .any (Rows.paceActsSpec.pre6 enc Try.prog Try.f4 Rows.paceActsRow.domain false) (Rows.paceActsSpec.post enc Try.prog Try.f4 false true false false) := by
  refine returnsInHanded_of_change (C := Try.checked) own started (by kernel_rfl) Try.func4
    (ChangeSpec.witness6 (enc := enc) (C := Try.checked) false ⟨#[], #[.int .i64 0, .slice none 0 0, .slice none 0 0], []⟩ 8 (by kernel_rfl) (by kernel_rfl) (by kernel_rfl) (by kernel_rfl)) ?_
  intro W base args ds gs before hval0 hW hcnd _
  have hval : ∀ (j : Nat) t v, Try.f4.params[j]? = some t → args[j]? = some v → Value.okWide Try.prog W .any base t v := hval0
  have hW' := hW
  obtain ⟨p, q, hA0, hV, rfl, hfz, hnd⟩ := hW
  have hA : DataW.TrodAll enc Try.prog W 0 (fun _ => true) true Try.f4.params.toList args.toList ds p := hA0
  rw [Try.params4] at hA hval
  obtain ⟨v0, vs0, d0, ds0, p0, q0, hargs, rfl, rfl, h0, r0⟩ := trodAll_cons hA
  obtain ⟨v1, vs1, d1, ds1, p1, q1, rfl, rfl, rfl, h1, r1⟩ := trodAll_cons r0
  obtain ⟨v2, vs2, d2, ds2, p2, q2, rfl, rfl, rfl, h2, r2⟩ := trodAll_cons r1
  obtain ⟨rfl, rfl, rfl⟩ := trodAll_nil r2
  obtain rfl : args = #[v0, v1, v2] := by cases args; simp_all
  obtain ⟨rfl, rfl⟩ := trodVars_none hV
  obtain ⟨a0, rfl, rfl, rfl, w0⟩ := open_int Try.underlying3 (hval 0 3 v0 rfl rfl) h0
  obtain ⟨a1, len1, cap1, rfl⟩ := okWide_slice Try.underlying35 (hval 1 35 v1 rfl rfl)
  obtain ⟨a2, len2, cap2, rfl⟩ := okWide_slice Try.underlying35 (hval 2 35 v2 rfl rfl)
  have k1 := h1
  have lt1 : ∀ x ∈ p1, x.block < W.heap.size := by obtain ⟨m, hm⟩ := k1; exact DataW.trod_lt m _ _ _ hm
  have k2 := h2
  have lt2 : ∀ x ∈ p2, x.block < W.heap.size := by obtain ⟨m, hm⟩ := k2; exact DataW.trod_lt m _ _ _ hm
  have f1 : len1 ≤ maxLen ∧ ∃ sb so As, ActsAt W a1 len1 sb so As := by obtain ⟨m, hm⟩ := k1; exact acts_of (by simpa [Value.cells] using hm)
  have f2 : len2 ≤ maxLen ∧ ∃ sb so As, ActsAt W a2 len2 sb so As := by obtain ⟨m, hm⟩ := k2; exact acts_of (by simpa [Value.cells] using hm)
  clear hA0 hval0
  refine (walk a0 a1 a2 len1 cap1 len2 cap2 W f1 f2).mono fun e W' ⟨he, bel⟩ => ?_
  subst he
  exact ⟨_, rfl, _, _, _, [], _, [], hW', trodAll_mk1 (shut_bool Try.underlying4 _), (trodAll_cons_mk (shut_int Try.underlying3 w0) (trodAll_cons_mk (Below.trod laidOut (by kernel_rfl) (of_decide_eq_true (by kernel_rfl)) k1 bel lt1) (trodAll_cons_mk (Below.trod laidOut (by kernel_rfl) (of_decide_eq_true (by kernel_rfl)) k2 bel lt2) trodAll_mk0))), rfl, bel.frame _, fun h => by cases h⟩

theorem over : Rows.paceActsRow.holds Try.pinned (OpenSpec.ofChange Rows.paceActsSpec) :=
  OpenClaim.holds_of_wide 4 Try.f4 rfl rfl rfl rfl rfl rfl rfl ⟨rfl, rfl, rfl, rfl, rfl⟩ rfl rfl rfl rfl rfl (by kernel_rfl) Try.func4 (by kernel_rfl)
    (of_decide_eq_true (by kernel_rfl)) (by unfold Func.isWrapper; first | (rw [if_pos (by decide +kernel)]; kernel_rfl) | (rw [if_neg (by decide +kernel)]; exact ⟨rfl, rfl⟩))
    (fun os started H enc _ => lifted os started H enc)

theorem proved : Rows.PaceActsSaid := over

end Go.Proofs.Ytpboomjnbndcpaa.paceActs
