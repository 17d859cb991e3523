/-
  Proved here: what the document's pace does: Ready, Note; nothing else that was there changes.
-/
import Derived.Test.YtpboomjnbndcpaaPaceR
import Derived.Test.YtpboomjnbndcpaaApp
import Derived.OwnWalk
import Derived.Laws.Pointers
import Derived.Deep.RegionLaw
namespace Go.Proofs.Ytpboomjnbndcpaa
open Go.RowKit

set_option maxHeartbeats 1000000 in
theorem refReady_any (r base : Nat) (g : Int) (v : Value) (R : List Rrow) (x : Pre) (now : Int) (w : World) (hr : RefAt w r base g v R) (hlen : R.length ≤ 1000000) (hg : 0 ≤ g ∧ g ≤ 65535) (ht : Ticks R) :
    Calls Try.prog 12 #[.pointer (some ⟨r, 0, none⟩), preV x, .int .i64 now] w fun e w' => e = .returned (.bool (refReadyB g R x now)) ∧ Below w.heap.size w w' := by
  have HR := Lib.hid hr
  have hfind : ∀ v', RefAt v' r base g v R → Calls Try.prog 23 #[.pointer (some ⟨r, 0, none⟩), preV x] v' fun e w' => e = .returned (.int .i64 (findI R x)) ∧ Below v'.heap.size v' w' := fun v' h => find_any r base g v R x v' h hlen
  have hwhen : ∀ v', RefAt v' r base g v R → Calls Try.prog 16 #[.pointer (some ⟨r, 0, none⟩), preV x] v' fun e w' => e = .returned (.int .i64 (whenI g R x)) ∧ Below v'.heap.size v' w' := fun v' h => refWhen_any r base g v R x v' h hlen hg ht
  have HX := Lib.hid hfind
  have HW := Lib.hid hwhen
  clear hr hfind hwhen
  rcases findI_range R x with ⟨hf, -⟩ | ⟨i, hf, -, -⟩
  · have hB : refReadyB g R x now = true := by unfold refReadyB; rw [hf]; simp
    rw [hB]
    rw [hf] at HX
    clear hf hB
    obtain ⟨a1, a2⟩ := x
    unfold preV at *
    dsimp only at *
    go_enter Try.func12, Try.ntmps12
    go_wp2_with (go_at_call 23; refine (HX.out _ (HR.out.below ((Below.refl _ _).alloc (Nat.le_refl _) _))).mono ?_; rintro e w' ⟨rfl, hb⟩)
    go_ret
    exact ⟨rfl, ((Below.refl _ _).alloc (Nat.le_refl _) _).trans (hb.mono (by simp))⟩
  · have hB : refReadyB g R x now = decide (whenI g R x ≤ now) := by unfold refReadyB; rw [hf]; have : ¬ ((i : Int) < 0) := by omega
                                                                     simp [this]
    rw [hB]
    rw [hf] at HX
    clear hf hB
    generalize whenI g R x = wh at *
    obtain ⟨a1, a2⟩ := x
    unfold preV at *
    dsimp only at *
    have hi : ¬ ((i : Int) < 0) := by omega
    go_enter Try.func12, Try.ntmps12
    go_wp2_with (first
      | (go_at_call 23; refine (HX.out _ (HR.out.below ((Below.refl _ _).alloc (Nat.le_refl _) _))).mono ?_; rintro e w' ⟨rfl, hb⟩; have k0 : w'.cell? ⟨w.heap.size, 0, none⟩ = some (.int .u32 a1) := (by rw [hb.cell (by simp)]; simp); have k1 : w'.cell? ⟨w.heap.size, 1, none⟩ = some (.int .i64 a2) := (by rw [hb.cell (by simp)]; simp))
      | (go_at_call 16; refine (HW.out _ ((HR.out.below ((Below.refl _ _).alloc (Nat.le_refl _) _)).below hb)).mono ?_; rintro e w2 ⟨rfl, hb2⟩))
    go_ret
    exact ⟨rfl, ((Below.refl _ _).alloc (Nat.le_refl _) _).trans ((hb.mono (by simp)).trans (hb2.mono (Nat.le_trans (by simp) hb.size)))⟩

theorem rowInfo : (Try.prog.info? 59).map (fun i => (i.zero, i.size, i.bytes)) = some (some (.agg #[.int .u32 0, .int .i64 0, .int .i64 0]), 3, 24) := by kernel_rfl

set_option maxHeartbeats 1000000 in
theorem refNote_arg (r base : Nat) (g : Int) (v : Value) (R : List Rrow) (x : Pre) (now : Int) (w : World) (hr : RefAt w r base g v R)
    (hx : 0 ≤ x.1 ∧ x.1 < 4294967296) (hbad : goodI x.1 x.2 = false ∨ now < 0 ∨ 1099511627776 < now) :
    Calls Try.prog 14 #[.pointer (some ⟨r, 0, none⟩), preV x, .int .i64 now] w fun e w' => e = .returned (.int .i64 2) ∧ Below w.heap.size w w' := by
  clear hr
  obtain ⟨a1, a2⟩ := x
  unfold preV
  obtain ⟨hx1, hx2⟩ := hx
  dsimp only at *
  have cases : goodI a1 a2 = false ∨ (goodI a1 a2 = true ∧ now < 0) ∨ (goodI a1 a2 = true ∧ ¬ now < 0 ∧ 1099511627776 < now) := by
    cases hgd : goodI a1 a2
    · exact .inl rfl
    · rcases hbad with h | h | h
      · rw [hgd] at h; cases h
      · exact .inr (.inl ⟨rfl, h⟩)
      · exact .inr (.inr ⟨rfl, by omega, h⟩)
  clear hbad
  rcases cases with hG | ⟨hG, hn⟩ | ⟨hG, hn, hn2⟩
  all_goals
    go_enter Try.func14, Try.ntmps14
    go_wp2_with (go_at_call 24; refine (refGood_any _ _ _ hx1 hx2).mono ?_; rintro e w' ⟨rfl, hb⟩)
    go_ret
    exact ⟨rfl, ((Below.refl _ _).alloc (Nat.le_refl _) _).trans (hb.mono (by simp))⟩

set_option maxHeartbeats 1000000 in
theorem refNote_state (r base : Nat) (g : Int) (v : Value) (R : List Rrow) (x : Pre) (now : Int) (w : World) (hr : RefAt w r base g v R) (hlen : R.length ≤ 1000000) (hg : 0 ≤ g ∧ g ≤ 65535) (ht : Ticks R)
    (hx : 0 ≤ x.1 ∧ x.1 < 4294967296) (hG : goodI x.1 x.2 = true) (hn : 0 ≤ now ∧ now ≤ 1099511627776) (hR : refReadyB g R x now = false) :
    Calls Try.prog 14 #[.pointer (some ⟨r, 0, none⟩), preV x, .int .i64 now] w fun e w' => e = .returned (.int .i64 8) ∧ Below w.heap.size w w' := by
  have HR := Lib.hid hr
  have hrd : ∀ v', RefAt v' r base g v R → Calls Try.prog 12 #[.pointer (some ⟨r, 0, none⟩), preV x, .int .i64 now] v' fun e w' => e = .returned (.bool false) ∧ Below v'.heap.size v' w' := fun v' h => by
    have := refReady_any r base g v R x now v' h hlen hg ht
    rw [hR] at this
    exact this
  have HX := Lib.hid hrd
  clear hr hrd hR
  obtain ⟨a1, a2⟩ := x
  unfold preV at *
  obtain ⟨hx1, hx2⟩ := hx
  obtain ⟨hn1, hn2⟩ := hn
  have hn1' : ¬ now < 0 := by omega
  dsimp only at *
  go_enter Try.func14, Try.ntmps14
  go_wp2_with (first
    | (go_at_call 24; refine (refGood_any _ _ _ hx1 hx2).mono ?_; rintro e w' ⟨rfl, hb⟩; have k0 : w'.cell? ⟨w.heap.size, 0, none⟩ = some (.int .u32 a1) := (by rw [hb.cell (by simp)]; simp); have k1 : w'.cell? ⟨w.heap.size, 1, none⟩ = some (.int .i64 a2) := (by rw [hb.cell (by simp)]; simp))
    | (go_at_call 12; refine (HX.out _ ((HR.out.below ((Below.refl _ _).alloc (Nat.le_refl _) _)).below hb)).mono ?_; rintro e w2 ⟨rfl, hb2⟩))
  go_ret
  exact ⟨rfl, ((Below.refl _ _).alloc (Nat.le_refl _) _).trans ((hb.mono (by simp)).trans (hb2.mono (Nat.le_trans (by simp) hb.size)))⟩

/-- A Note that goes through comes as far as the place where it asks for the row. -/
theorem flat_one (R : List Rrow) : ∀ u ∈ flat R, u.oneCell' = true := by
  intro u hu
  simp only [flat, List.mem_flatMap] at hu
  obtain ⟨r, -, hu⟩ := hu
  simp only [List.mem_cons, List.not_mem_nil, or_false] at hu
  rcases hu with rfl | rfl | rfl <;> rfl

end Go.Proofs.Ytpboomjnbndcpaa
