/-
  Proved here: what the document's pace (fairwayref20) does: New, find, When, Ready; nothing that was there changes.
-/
import Derived.Test.YtpboomjnbndcpaaRef03
import Derived.Test.YtpboomjnbndcpaaPaceA
namespace Go.Proofs.Ytpboomjnbndcpaa
open Go.RowKit

/-- The document's rows: a prefix, and when. -/
abbrev Rrow := Pre × Int
def flat (R : List Rrow) : List Value := R.flatMap fun r => [.int .u32 r.1.1, .int .i64 r.1.2, .int .i64 r.2]
theorem flat_len (R : List Rrow) : (flat R).length = R.length * 3 := by
  induction R with
  | nil => rfl
  | cons r R ih => simp only [flat, List.flatMap_cons, List.length_append, List.length_cons, List.length_nil] at ih ⊢; omega
theorem flat_append (R S : List Rrow) : flat (R ++ S) = flat R ++ flat S := by simp [flat]
theorem flat_get (R : List Rrow) (i : Nat) (h : i < R.length) : (flat R)[i * 3]? = some (.int .u32 R[i].1.1) ∧ (flat R)[i * 3 + 1]? = some (.int .i64 R[i].1.2) ∧ (flat R)[i * 3 + 2]? = some (.int .i64 R[i].2) := by
  induction R generalizing i with
  | nil => simp at h
  | cons r R ih =>
    have e : flat (r :: R) = .int .u32 r.1.1 :: .int .i64 r.1.2 :: .int .i64 r.2 :: flat R := rfl
    rw [e]
    cases i with
    | zero => simp
    | succ i =>
      have := ih i (by simpa using h)
      have e1 : (i + 1) * 3 = i * 3 + 1 + 1 + 1 := by omega
      have e2 : (i + 1) * 3 + 1 = (i * 3 + 1) + 1 + 1 + 1 := by omega
      have e3 : (i + 1) * 3 + 2 = (i * 3 + 2) + 1 + 1 + 1 := by omega
      rw [e1, e1.symm, e2, e3, e1]
      simpa only [List.getElem?_cons_succ, List.getElem_cons_succ] using this

/-- The document's pace at block r: its gap, its rows (in a row of its own, from 'base' on). -/
structure RefAt (w : World) (r base : Nat) (g : Int) (v : Value) (R : List Rrow) : Prop where
  blk : w.heap[r]? = some (.cells #[.int .i64 g, v] 42)
  own : w.ownsRow base 59 3 v R.length (flat R)
theorem RefAt.keep {w w' : World} {r base : Nat} {g : Int} {v : Value} {R : List Rrow} {S : Nat → Prop} (h : RefAt w r base g v R) (he : Eff S w w') (hr : ¬ S r) (hS : ∀ k, v.ownBlock = some k → ¬ S k) : RefAt w' r base g v R := by
  refine ⟨he.keep h.blk hr, ?_⟩
  obtain ⟨h1, h2⟩ := h.own
  refine ⟨h1, ?_⟩
  rcases h2 with h2 | ⟨gb, cap, cur, hv, hg, hh, rest⟩
  · exact .inl h2
  · exact .inr ⟨gb, cap, cur, hv, hg, he.keep hh (hS gb (by rw [hv]; rfl)), rest⟩
theorem RefAt.below {w w' : World} {r base : Nat} {g : Int} {v : Value} {R : List Rrow} (h : RefAt w r base g v R) (he : Below w.heap.size w w') : RefAt w' r base g v R :=
  h.keep (Eff.of_below (fun _ => False) he) (fun h => h) (fun _ _ h => h)

/-- What of the slice a walk wants to know. -/
theorem RefAt.form {w : World} {r base : Nat} {g : Int} {v : Value} {R : List Rrow} (h : RefAt w r base g v R) :
    (v = .slice none 0 0 ∧ R = []) ∨ ∃ ab cap, v = .slice (some ⟨ab, 0, none⟩) R.length cap ∧ R.length ≤ cap ∧ cap ≤ 9223372036854775807 ∧ ab < w.heap.size ∧
      ∀ i (hi : i < R.length), w.cell? ⟨ab, i * 3, none⟩ = some (.int .u32 R[i].1.1) ∧ w.cell? ⟨ab, i * 3 + 1, none⟩ = some (.int .i64 R[i].1.2) ∧ w.cell? ⟨ab, i * 3 + 2, none⟩ = some (.int .i64 R[i].2) := by
  have ho := h.own
  rcases ho.2 with ⟨h1, h2⟩ | ⟨ab, cap, cur, hv, hb, hh, hnc, hcm, rest⟩
  · exact .inl ⟨h1, List.length_eq_zero_iff.1 h2⟩
  · refine .inr ⟨ab, cap, hv, hnc, hcm, lt_of_heap hh, fun i hi => ?_⟩
    rw [hv] at ho
    have hg := flat_get R i hi
    exact ⟨by rw [ho.cellAt _ (by omega)]; exact hg.1, by rw [ho.cellAt _ (by omega)]; exact hg.2.1, by rw [ho.cellAt _ (by omega)]; exact hg.2.2⟩

def findI (R : List Rrow) (x : Pre) : Int := match R.findIdx? (fun r => decide (r.1 = x)) with | none => -1 | some i => i

set_option maxHeartbeats 400000 in
theorem refNew_yes (g : Int) (w : World) (hg : 0 ≤ g) (hg2 : g ≤ 65535) :
    Calls Try.prog 11 #[.int .i64 g] w fun e w' => e = .returned (.pointer (some ⟨w.heap.size, 0, none⟩)) ∧ RefAt w' w.heap.size 0 g (.slice none 0 0) [] ∧ Below w.heap.size w w' := by
  go_enter Try.func11, Try.ntmps11
  go_wp2
  go_ret
  exact ⟨rfl, ⟨heap_alloc_new _ _, ⟨rfl, .inl ⟨rfl, rfl⟩⟩⟩, (Below.refl _ _).alloc (Nat.le_refl _) _⟩

set_option maxHeartbeats 400000 in
theorem refNew_no (g : Int) (w : World) (hg : g < 0 ∨ 65535 < g) :
    Calls Try.prog 11 #[.int .i64 g] w fun e w' => e = .returned (.pointer none) ∧ w = w' := by
  rcases hg with hg | hg
  · go_enter Try.func11, Try.ntmps11
    go_wp2
    go_ret
    exact ⟨rfl, rfl⟩
  · have hg' : ¬ g < 0 := by omega
    go_enter Try.func11, Try.ntmps11
    go_wp2
    go_ret
    exact ⟨rfl, rfl⟩

theorem find_none {R : List Rrow} {x : Pre} (h : ∀ i (hi : i < R.length), R[i].1 ≠ x) : findI R x = -1 := by
  unfold findI
  have : R.findIdx? (fun r => decide (r.1 = x)) = none := by
    rw [List.findIdx?_eq_none_iff]
    intro r hr
    obtain ⟨i, hi, rfl⟩ := List.getElem_of_mem hr
    simpa using h i hi
  rw [this]
theorem find_some {R : List Rrow} {x : Pre} {k : Nat} (hk : k < R.length) (h : ∀ i (hi : i < k), (R[i]'(by omega)).1 ≠ x) (hx : R[k].1 = x) : findI R x = k := by
  unfold findI
  have : R.findIdx? (fun r => decide (r.1 = x)) = some k := by
    rw [List.findIdx?_eq_some_iff_getElem]
    exact ⟨hk, by simpa using hx, fun i hi => by simpa using h i hi⟩
  rw [this]

set_option maxHeartbeats 1000000 in
theorem find_any (r base : Nat) (g : Int) (v : Value) (R : List Rrow) (x : Pre) (w : World) (hr : RefAt w r base g v R) (hlen : R.length ≤ 1000000) :
    Calls Try.prog 23 #[.pointer (some ⟨r, 0, none⟩), preV x] w fun e w' => e = .returned (.int .i64 (findI R x)) ∧ Below w.heap.size w w' := by
  have c1 : w.cell? ⟨r, 1, none⟩ = some v := cell_of hr.blk 1
  have hrl := lt_of_heap hr.blk
  have hq := eqGuardPrefix
  have he := eqlPrefix
  obtain ⟨a1, a2⟩ := x
  unfold preV
  dsimp only
  rcases hr.form with ⟨rfl, rfl⟩ | ⟨ab, cap, rfl, hnc, hcm, hab, hcells⟩
  · go_enter Try.func23, Try.ntmps23
    go_wp2
    go_loop [12] (fun i => i = .int .i64 0) (fun _ => 0)
    case atStart => rfl
    case round =>
      subst hrel
      go_wp2
      go_ret
      exact ⟨rfl, (Below.refl _ _).alloc (Nat.le_refl _) _⟩
  · have HC := Lib.hid hcells
    have HR := Lib.hid hr
    clear hcells hr
    go_enter Try.func23, Try.ntmps23
    go_wp2
    go_loopw [12] (fun i wr => ∃ k : Nat, k ≤ R.length ∧ i = .int .i64 k ∧ Below w.heap.size w wr ∧ w.heap.size < wr.heap.size ∧ wr.heap[w.heap.size]? = some (.cells #[.int .u32 a1, .int .i64 a2] 28) ∧ Hid (∀ i (hi : i < k), ∀ h : i < R.length, R[i].1 ≠ (a1, a2))) (fun i _ => R.length - (intOf i).toNat)
    case atStart => exact ⟨0, Nat.zero_le _, rfl, (Below.refl _ _).alloc (Nat.le_refl _) _, by simp, heap_alloc_new _ _, Lib.hid (fun i hi => absurd hi (by omega))⟩
    case round =>
      obtain ⟨k, hk, rfl, hb, hs, hx, hN⟩ := hrel
      have x0 : wr.cell? ⟨w.heap.size, 0, none⟩ = some (.int .u32 a1) := cell_of hx 0
      have x1 : wr.cell? ⟨w.heap.size, 1, none⟩ = some (.int .i64 a2) := cell_of hx 1
      have HX := Lib.hid hx
      clear hx
      by_cases hlt : k < R.length
      · have hkc : k < cap := by omega
        obtain ⟨q0, q1, q2⟩ := HC.out k hlt
        have r0 : wr.cell? ⟨ab, k * 3, none⟩ = some (.int .u32 R[k].1.1) := by rw [hb.cell (p := ⟨ab, k * 3, none⟩) hab]; exact q0
        have r1 : wr.cell? ⟨ab, k * 3 + 1, none⟩ = some (.int .i64 R[k].1.2) := by rw [hb.cell (p := ⟨ab, k * 3 + 1, none⟩) hab]; exact q1
        have r2 : wr.cell? ⟨ab, k * 3 + 2, none⟩ = some (.int .i64 R[k].2) := by rw [hb.cell (p := ⟨ab, k * 3 + 2, none⟩) hab]; exact q2
        clear q0 q1 q2
        have HK : Hid (R[k].1 = (R[k].1.1, R[k].1.2)) := Lib.hid rfl
        generalize R[k].1.1 = b1 at *
        generalize R[k].1.2 = b2 at *
        generalize R[k].2 = t at *
        by_cases heq : (b1, b2) = (a1, a2)
        · simp only [Prod.mk.injEq] at heq
          obtain ⟨rfl, rfl⟩ := heq
          have HF := Lib.hid (find_some hlt (fun i hi => hN.out i hi (by omega)) HK.out)
          go_wp2
          go_ret
          exact ⟨congrArg (fun x => Ending.returned (.int .i64 x)) HF.out.symm, hb.alloc hb.size _⟩
        · have hB : (b1 == a1 && b2 == a2) = false := by
            rw [Bool.eq_false_iff]; intro h; simp only [Bool.and_eq_true, beq_iff_eq] at h; exact heq (by rw [h.1, h.2])
          have HQ := Lib.hid heq
          clear heq
          have HE := Lib.hid he
          have he' := he b1 b2 a1 a2
          rw [hB] at he'
          clear he hB
          go_wp2
          go_roundw
          case rel =>
            refine ⟨k + 1, by omega, by go_num, hb.alloc hb.size _, by simp; omega, heap_alloc_old HX.out, Lib.hid (fun i hi h => ?_)⟩
            by_cases hik : i < k
            · exact hN.out i hik h
            · obtain rfl : i = k := by omega
              rw [HK.out]
              exact HQ.out
          case measure => simp [intOf]; omega
      · obtain rfl : k = R.length := by omega
        have HF := Lib.hid (find_none (fun i hi => hN.out i hi hi))
        go_wp2
        go_ret
        exact ⟨congrArg (fun x => Ending.returned (.int .i64 x)) HF.out.symm, hb⟩

def whenI (g : Int) (R : List Rrow) (x : Pre) : Int := match R.findIdx? (fun r => decide (r.1 = x)) with | none => 0 | some i => (R.getD i default).2 + g
def refReadyB (g : Int) (R : List Rrow) (x : Pre) (now : Int) : Bool := decide (findI R x < 0) || decide (whenI g R x ≤ now)

theorem findI_range (R : List Rrow) (x : Pre) : (findI R x = -1 ∧ R.findIdx? (fun r => decide (r.1 = x)) = none) ∨ ∃ i : Nat, findI R x = i ∧ i < R.length ∧ R.findIdx? (fun r => decide (r.1 = x)) = some i := by
  unfold findI
  cases h : R.findIdx? (fun r => decide (r.1 = x)) with
  | none => exact .inl ⟨rfl, rfl⟩
  | some i => exact .inr ⟨i, rfl, (List.findIdx?_eq_some_iff_getElem.1 h).1, rfl⟩

/-- The ticks are within what a tick may be. -/
def Ticks (R : List Rrow) : Prop := ∀ r ∈ R, 0 ≤ r.2 ∧ r.2 ≤ 1099511627776

set_option maxHeartbeats 1000000 in
theorem refWhen_any (r base : Nat) (g : Int) (v : Value) (R : List Rrow) (x : Pre) (w : World) (hr : RefAt w r base g v R) (hlen : R.length ≤ 1000000) (hg : 0 ≤ g ∧ g ≤ 65535) (ht : Ticks R) :
    Calls Try.prog 16 #[.pointer (some ⟨r, 0, none⟩), preV x] w fun e w' => e = .returned (.int .i64 (whenI g R x)) ∧ Below w.heap.size w w' := by
  have HR := Lib.hid hr
  have hrl := lt_of_heap hr.blk
  have hfind : ∀ v', RefAt v' r base g v R → Calls Try.prog 23 #[.pointer (some ⟨r, 0, none⟩), preV x] v' fun e w' => e = .returned (.int .i64 (findI R x)) ∧ Below v'.heap.size v' w' := fun v' h => find_any r base g v R x v' h hlen
  have HX := Lib.hid hfind
  clear hr hfind
  rcases findI_range R x with ⟨hf, hi⟩ | ⟨i, hf, hil, hi⟩
  · have hW : whenI g R x = 0 := by unfold whenI; rw [hi]
    rw [hW]
    rw [hf] at HX
    clear hf hi hW
    obtain ⟨a1, a2⟩ := x
    unfold preV at *
    dsimp only at *
    go_enter Try.func16, Try.ntmps16
    go_wp2_with (go_at_call 23; refine (HX.out _ (HR.out.below ((Below.refl _ _).alloc (Nat.le_refl _) _))).mono ?_; rintro e w' ⟨rfl, hb⟩)
    go_ret
    exact ⟨rfl, ((Below.refl _ _).alloc (Nat.le_refl _) _).trans (hb.mono (by simp))⟩
  · have hW : whenI g R x = R[i].2 + g := by unfold whenI; rw [hi]; simp [hil]
    rw [hW]
    rw [hf] at HX
    have htt := ht R[i] (List.getElem_mem hil)
    obtain ⟨t0, t1⟩ := htt
    obtain ⟨g0, g1⟩ := hg
    clear hf hi hW ht
    obtain ⟨a1, a2⟩ := x
    unfold preV at *
    dsimp only at *
    rcases HR.out.form with ⟨-, h0⟩ | ⟨ab, cap, rfl, hnc, hcm, hab, hcells⟩
    · subst h0; simp at hil
    · have hcell := (hcells i hil).2.2
      generalize R[i].2 = t at *
      have HCE := Lib.hid hcell
      clear hcells hcell
      have hic : i < cap := by omega
      go_enter Try.func16, Try.ntmps16
      go_wp2_with (go_at_call 23; refine (HX.out _ (HR.out.below ((Below.refl _ _).alloc (Nat.le_refl _) _))).mono ?_; rintro e w' ⟨rfl, hb⟩)
      have hB : Below w.heap.size w w' := ((Below.refl _ _).alloc (Nat.le_refl _) _).trans (hb.mono (by simp))
      have c0 : w'.cell? ⟨r, 0, none⟩ = some (.int .i64 g) := cell_of (HR.out.below hB).blk 0
      have c1 : w'.cell? ⟨r, 1, none⟩ = some (.slice (some ⟨ab, 0, none⟩) R.length cap) := cell_of (HR.out.below hB).blk 1
      have ct : w'.cell? ⟨ab, i * 3 + 2, none⟩ = some (.int .i64 t) := by rw [hB.cell (p := ⟨ab, i * 3 + 2, none⟩) hab]; exact HCE.out
      have i0 : (0 : Int) ≤ (i : Int) := by omega
      have i1 : (i : Int) < (R.length : Int) := by omega
      have HB := Lib.hid hB
      clear hb hB
      go_quiet (fail)
      go_wp2
      go_ret
      exact ⟨rfl, HB.out.trans (below_drewN (Below.refl _ _) _)⟩
end Go.Proofs.Ytpboomjnbndcpaa
