/-
  Proved here: what the document's pace does at a Note of a prefix that was announced before; nothing else that was there changes.
-/
import Derived.Test.YtpboomjnbndcpaaPaceR2
namespace Go.Proofs.Ytpboomjnbndcpaa
open Go.RowKit

theorem flat_set (R : List Rrow) (i : Nat) (h : i < R.length) (t : Int) : flat (R.set i (R[i].1, t)) = (flat R).set (i * 3 + 2) (.int .i64 t) := by
  induction R generalizing i with
  | nil => simp at h
  | cons r R ih =>
    have e : ∀ (r : Rrow) (R : List Rrow), flat (r :: R) = .int .u32 r.1.1 :: .int .i64 r.1.2 :: .int .i64 r.2 :: flat R := fun _ _ => rfl
    cases i with
    | zero => simp [e]
    | succ i =>
      have := ih i (by simpa using h)
      have e3 : (i + 1) * 3 + 2 = (i * 3 + 2) + 1 + 1 + 1 := by omega
      rw [e3]
      simp only [List.set_cons_succ, e, List.getElem_cons_succ]
      rw [this]

set_option maxRecDepth 100000 in
set_option maxHeartbeats 4000000 in
theorem refNote_old (r base : Nat) (g : Int) (v : Value) (R : List Rrow) (x : Pre) (now : Int) (w : World) (i : Nat) (hr : RefAt w r base g v R) (hlen : R.length ≤ 1000000) (hg : 0 ≤ g ∧ g ≤ 65535) (ht : Ticks R)
    (hx : 0 ≤ x.1 ∧ x.1 < 4294967296) (hG : goodI x.1 x.2 = true) (hn : 0 ≤ now ∧ now ≤ 1099511627776) (hR : findI R x = i) (hil : i < R.length) (hrdy : refReadyB g R x now = true) :
    Calls Try.prog 14 #[.pointer (some ⟨r, 0, none⟩), preV x, .int .i64 now] w fun e w' => e = .returned (.int .i64 0) ∧ (∃ v', RefAt w' r w.heap.size g v' (R.set i (R[i].1, now))) ∧ Eff (fun k => k = r) w w' := by
  have HR := Lib.hid hr
  have hrl := lt_of_heap hr.blk
  have hrd : ∀ v', RefAt v' r base g v R → Calls Try.prog 12 #[.pointer (some ⟨r, 0, none⟩), preV x, .int .i64 now] v' fun e w' => e = .returned (.bool true) ∧ Below v'.heap.size v' w' := fun v' h => by
    have := refReady_any r base g v R x now v' h hlen hg ht
    rw [hrdy] at this
    exact this
  have hfd : ∀ v', RefAt v' r base g v R → Calls Try.prog 23 #[.pointer (some ⟨r, 0, none⟩), preV x] v' fun e w' => e = .returned (.int .i64 i) ∧ Below v'.heap.size v' w' := fun v' h => by
    have := find_any r base g v R x v' h hlen
    rw [hR] at this
    exact this
  obtain ⟨ab, cap, rfl⟩ : ∃ ab cap, v = .slice (some ⟨ab, 0, none⟩) R.length cap := by
    rcases hr.form with ⟨-, h0⟩ | ⟨ab, cap, h1, -⟩
    · subst h0; simp at hil
    · exact ⟨ab, cap, h1⟩
  have hnews : ∀ j u, (flat R)[j]? = some u → w.cell? ((⟨ab, 0, none⟩ : Addr).add j) = some u := hr.own.cells rfl
  have HN := Lib.hid hnews
  clear hnews
  have HL := Lib.hid (flat_len R)
  obtain ⟨told, hold⟩ : ∃ t, ([] ++ flat R)[i * 3 + 2]? = some (.int .i64 t) := ⟨_, (flat_get R i hil).2.2⟩
  have HO := Lib.hid hold
  clear hold
  have hi1 : (i : Int) < (R.length : Int) := by omega
  have HX := Lib.hid hrd
  have HF := Lib.hid hfd
  have HS := Lib.hid (flat_set R i hil now)
  clear hr hrd hR hfd hrdy ht
  obtain ⟨i0, hi, hz0, hz1, hz2⟩ := info_parts rowInfo
  obtain ⟨a1, a2⟩ := x
  unfold preV at *
  obtain ⟨hx1, hx2⟩ := hx
  obtain ⟨hn1, hn2⟩ := hn
  have hn1' : ¬ now < 0 := by omega
  have hi0' : ¬ ((i : Int) < 0) := by omega
  dsimp only at *
  go_enter Try.func14, Try.ntmps14
  go_wp2_with (first
    | (go_at_call 24; refine (refGood_any _ _ _ hx1 hx2).mono ?_; rintro e w1 ⟨rfl, hb⟩; have k0 : w1.cell? ⟨w.heap.size, 0, none⟩ = some (.int .u32 a1) := (by rw [hb.cell (by simp)]; simp); have k1 : w1.cell? ⟨w.heap.size, 1, none⟩ = some (.int .i64 a2) := (by rw [hb.cell (by simp)]; simp); have hB1 : Below w.heap.size w w1 := ((Below.refl _ _).alloc (Nat.le_refl _) _).trans (hb.mono (by simp)); have hs1 : w.heap.size < w1.heap.size := (Nat.lt_of_lt_of_le (by simp) hb.size); clear hb)
    | (go_at_call 12; refine (HX.out _ (HR.out.below hB1)).mono ?_; rintro e w2 ⟨rfl, hb2⟩; have j0 := cell_below hb2 k0; have j1 := cell_below hb2 k1; have hB2 : Below w.heap.size w w2 := (hB1.trans (hb2.mono (Nat.le_of_lt hs1))); have hs2 : w.heap.size < w2.heap.size := (Nat.lt_of_lt_of_le hs1 hb2.size); clear hb2 k0 k1 hB1 hs1)
    | (go_at_call 23; refine (HF.out _ (HR.out.below hB2)).mono ?_; rintro e w3 ⟨rfl, hb3⟩; have hB3 : Below w.heap.size w w3 := (hB2.trans (hb3.mono (Nat.le_of_lt hs2))); have hs3 : w.heap.size < w3.heap.size := (Nat.lt_of_lt_of_le hs2 hb3.size); clear hb3 j0 j1 hB2 hs2; have hr3 : r < w3.heap.size := (Nat.lt_of_lt_of_le hrl hB3.size); have c1 : w3.cell? ⟨r, 1, none⟩ = some (.slice (some ⟨ab, 0, none⟩) R.length cap) := (cell_of (HR.out.below hB3).blk 1); have f1 : w3.frozen? ⟨r, 1, none⟩ = false := (free_of (HR.out.below hB3).blk 1))
    | (at_builtin; go_must (refine wpList_append_lies _ rfl (.tmp 46) (.tmp 50) 40 rfl w.heap.size 59 i0 (.agg #[.int .u32 0, .int .i64 0, .int .i64 0]) 3 24 Try.underlying40 hi hz0 hz1 hz2 rfl (Nat.succ_pos 2) _ 0 [] rfl (own_empty 3 (heap_alloc_new' rfl) (Nat.le_of_lt hs3)) ⟨ab, 0, none⟩ R.length cap (flat R) rfl HL.out (fun j u h => cell_below (w := w) (below_alloc' hB3 _) (HN.out j u h)) (flat_one R) (by omega) (by unfold maxLen; omega) (by omega) (Nat.le_trans (Nat.le_of_lt hs3) (by simp)) _ rfl ?_); intro gg cap5 w5 hown2 hg2 hat2 hlt2; have hB5 : Below w3.heap.size w3 w5 := (Below.grown (below_alloc (Below.refl _ _) _) hg2 (by simp) (fun k hk => (by have e : some w3.heap.size = some k := hk; simp only [Option.some.injEq] at e; omega))); have c5 : w5.cell? ⟨r, 1, none⟩ = some (.slice (some ⟨ab, 0, none⟩) R.length cap) := cell_below hB5 c1; have f5 : w5.frozen? ⟨r, 1, none⟩ = false := (hB5.frozen (p := ⟨r, 1, none⟩) (Nat.lt_of_lt_of_le hrl hB3.size)).trans f1; have hrg : r ≠ gg := (fun e => by have h9 := (hown2.lt gg rfl).1; omega); have hgr : gg ≠ r := hrg.symm; have cg : w5.cell? ⟨gg, i * 3 + 2, none⟩ = some (.int .i64 told) := ((hown2.cellAt (i * 3 + 2) (by omega)).trans HO.out); have fg : w5.frozen? ⟨gg, i * 3 + 2, none⟩ = false := hown2.frozenAt _; have HOWN := Lib.hid hown2; clear hown2))
  go_ret
  refine ⟨rfl, ⟨.slice (some ⟨gg, 0, none⟩) R.length cap5, ?_, ?_⟩, Eff.setCell (S := fun k => k = r) (p := ⟨gg, i * 3 + 2, none⟩) (Eff.setCell (S := fun k => k = r) (p := ⟨r, 1, none⟩) ((Eff.of_below _ hB3).trans (Eff.of_below _ hB5)) (fun _ => rfl) _) (fun h => absurd h (Nat.not_lt.2 (HOWN.out.lt gg rfl).1)) _⟩
  · exact heap_setCell_old (heap_setCell_same (below_heap hB5 (HR.out.below hB3).blk) 1 _) hrg
  · have h0 := HOWN.out
    rw [Nat.zero_add, List.nil_append] at h0
    rw [List.length_set, HS.out]
    exact ((ownsRow_setCell_other h0 (a := ⟨r, 1, none⟩) (fun e => by simp [Value.ownBlock] at e; exact hgr e) (.slice (some ⟨gg, 0, none⟩) R.length cap5)).stored (i * 3 + 2) (.int .i64 now)).1
end Go.Proofs.Ytpboomjnbndcpaa
