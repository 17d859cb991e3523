/-
  Proved here: what the document's pace does at a Note of a prefix that was never announced; nothing else that was there changes.
-/
import Derived.Test.YtpboomjnbndcpaaPaceR2
namespace Go.Proofs.Ytpboomjnbndcpaa
open Go.RowKit

theorem rows_pushed {w : World} {base r gg cap : Nat} {R : List Rrow} {a n t : Int} {v : Value} (h : w.ownsRow base 59 3 (.slice (some ⟨gg, 0, none⟩) (0 + R.length + 1) cap) (0 + R.length + 1) ([] ++ flat R ++ [.int .u32 a, .int .i64 n, .int .i64 t])) (hr : r < base) (hv : v = .slice (some ⟨gg, 0, none⟩) (0 + R.length + 1) cap) :
    (w.setCell ⟨r, 1, none⟩ v).ownsRow base 59 3 v (R ++ [((a, n), t)]).length (flat (R ++ [((a, n), t)])) := by
  have e1 : (R ++ [((a, n), t)]).length = 0 + R.length + 1 := by simp
  have e2 : flat (R ++ [((a, n), t)]) = [] ++ flat R ++ [.int .u32 a, .int .i64 n, .int .i64 t] := by rw [flat_append]; rfl
  rw [e1, e2]
  subst hv
  exact ownsRow_setCell_below h hr _

set_option maxRecDepth 100000 in
set_option maxHeartbeats 4000000 in
theorem refNote_new (r base : Nat) (g : Int) (v : Value) (R : List Rrow) (x : Pre) (now : Int) (w : World) (hr : RefAt w r base g v R) (hlen : R.length ≤ 1000000) (hg : 0 ≤ g ∧ g ≤ 65535) (ht : Ticks R)
    (hx : 0 ≤ x.1 ∧ x.1 < 4294967296) (hG : goodI x.1 x.2 = true) (hn : 0 ≤ now ∧ now ≤ 1099511627776) (hR : findI R x = -1) :
    Calls Try.prog 14 #[.pointer (some ⟨r, 0, none⟩), preV x, .int .i64 now] w fun e w' => e = .returned (.int .i64 0) ∧ (∃ v', RefAt w' r w.heap.size g v' (R ++ [(x, now)])) ∧ Eff (fun k => k = r) w w' := by
  have HR := Lib.hid hr
  have hrl := lt_of_heap hr.blk
  have hrd : ∀ v', RefAt v' r base g v R → Calls Try.prog 12 #[.pointer (some ⟨r, 0, none⟩), preV x, .int .i64 now] v' fun e w' => e = .returned (.bool true) ∧ Below v'.heap.size v' w' := fun v' h => by
    have := refReady_any r base g v R x now v' h hlen hg ht
    have e : refReadyB g R x now = true := by unfold refReadyB; rw [hR]; rfl
    rw [e] at this
    exact this
  have hfd : ∀ v', RefAt v' r base g v R → Calls Try.prog 23 #[.pointer (some ⟨r, 0, none⟩), preV x] v' fun e w' => e = .returned (.int .i64 (-1)) ∧ Below v'.heap.size v' w' := fun v' h => by
    have := find_any r base g v R x v' h hlen
    rw [hR] at this
    exact this
  have HX := Lib.hid hrd
  have HF := Lib.hid hfd
  clear hr hrd hR hfd
  obtain ⟨i0, hi, hz0, hz1, hz2⟩ := info_parts rowInfo
  obtain ⟨a1, a2⟩ := x
  unfold preV at *
  obtain ⟨hx1, hx2⟩ := hx
  obtain ⟨hn1, hn2⟩ := hn
  have hn1' : ¬ now < 0 := by omega
  dsimp only at *
  go_enter Try.func14, Try.ntmps14
  go_wp2_with (first
    | (go_at_call 24; refine (refGood_any _ _ _ hx1 hx2).mono ?_; rintro e w1 ⟨rfl, hb⟩; have k0 : w1.cell? ⟨w.heap.size, 0, none⟩ = some (.int .u32 a1) := (by rw [hb.cell (by simp)]; simp); have k1 : w1.cell? ⟨w.heap.size, 1, none⟩ = some (.int .i64 a2) := (by rw [hb.cell (by simp)]; simp); have hB1 : Below w.heap.size w w1 := ((Below.refl _ _).alloc (Nat.le_refl _) _).trans (hb.mono (by simp)); have hs1 : w.heap.size < w1.heap.size := (Nat.lt_of_lt_of_le (by simp) hb.size); clear hb)
    | (go_at_call 12; refine (HX.out _ (HR.out.below hB1)).mono ?_; rintro e w2 ⟨rfl, hb2⟩; have j0 := cell_below hb2 k0; have j1 := cell_below hb2 k1; have hB2 : Below w.heap.size w w2 := (hB1.trans (hb2.mono (Nat.le_of_lt hs1))); have hs2 : w.heap.size < w2.heap.size := (Nat.lt_of_lt_of_le hs1 hb2.size); clear hb2 k0 k1 hB1 hs1)
    | (go_at_call 23; refine (HF.out _ (HR.out.below hB2)).mono ?_; rintro e w3 ⟨rfl, hb3⟩; have q0 := cell_below hb3 j0; have q1 := cell_below hb3 j1; have hB3 : Below w.heap.size w w3 := (hB2.trans (hb3.mono (Nat.le_of_lt hs2))); have hs3 : w.heap.size < w3.heap.size := (Nat.lt_of_lt_of_le hs2 hb3.size); clear hb3 j0 j1 hB2 hs2))
  have hR3 := HR.out.below hB3
  have c1 : w3.cell? ⟨r, 1, none⟩ = some v := cell_of hR3.blk 1
  have f1 : w3.frozen? ⟨r, 1, none⟩ = false := free_of hR3.blk 1
  have hrl3 := lt_of_heap hR3.blk
  have SRC := Lib.hid (source_own hR3.own)
  have R3 := Lib.hid hR3
  have HB3 := Lib.hid hB3
  clear hR3 hB3
  have hf3 := flat_len R
  have HL := Lib.hid hf3
  clear hf3
  go_region_law
    (first
      | (refine step_append_row _ rfl (.tmp 32) (.tmp 36) 40 rfl w.heap.size 59 i0 (.agg #[.int .u32 0, .int .i64 0, .int .i64 0]) 3 24 Try.underlying40 hi hz0 hz1 hz2 rfl (Nat.succ_pos 2) _ 0 [] rfl ?_ v R.length (flat R) rfl ?_ HL.out (flat_one R) ?_ ?_ ?_ ?_
         (first | exact (own_empty 3 (heap_alloc_new' rfl) (by first | omega | (simp; omega))).drew | exact (own_empty 3 (heap_alloc_new' (World.size_alloc _ _).symm) (by first | omega | (simp; omega))).drew | exact (own_empty 3 (heap_alloc_old (heap_alloc_new' rfl)) (by first | omega | (simp; omega))).drew)
         (exact SRC.out.keep (fun a u h => cell_below (w := w3) (by repeat (first | exact Below.refl _ _ | apply Below.drew | apply below_alloc)) h))
         (unfold maxLen; omega)
         omega
         (first | omega | (simp; omega))
         intro v1 w4 hown1 hg1 hat1
         (first | (replace hg1 : World.grownBy _ w4 (some w3.heap.size) := hg1; replace hat1 : v1.ownBlock = some w3.heap.size ∨ v1.ownBlock = some _ := hat1) | (replace hg1 : World.grownBy _ w4 (some (w3.heap.size + 1)) := hg1; replace hat1 : v1.ownBlock = some (w3.heap.size + 1) ∨ v1.ownBlock = some _ := hat1))
         have hB4 : Below w3.heap.size w3 w4 := Below.grown (by repeat (first | exact Below.refl _ _ | apply Below.drew | apply below_alloc)) hg1 (by first | (simp; done) | (simp; omega)) (fun k hk => by simp only [Option.some.injEq] at hk; omega)
         have hv1 : ∀ k, v1.ownBlock = some k → w3.heap.size ≤ k := fun k hk => by rcases hat1 with h6 | h6 <;> (rw [h6] at hk; simp at hk; omega)
         have s0 := cell_below hB4 q0
         have s1 := cell_below hB4 q1)
      | (refine step_append_lies _ rfl (.tmp 37) (.tmp 41) 40 rfl w.heap.size 59 i0 (.agg #[.int .u32 0, .int .i64 0, .int .i64 0]) 3 24 Try.underlying40 hi hz0 hz1 hz2 rfl (Nat.succ_pos 2) v1 (0 + R.length) ([] ++ flat R) rfl ?_ _ 1 1 [.int .u32 a1, .int .i64 a2, .int .i64 now] rfl rfl ?_ (by simp [Value.oneCell']) ?_ ?_ ?_ ?_ _ rfl ?_
         (first | exact hown1 | exact hown1.alloc _)
         (first | exact World.news_of_block (cs := #[.int .u32 a1, .int .i64 a2, .int .i64 now]) (t := 59) (heap_alloc_new' rfl) | exact World.news_of_block (cs := #[.int .u32 a1, .int .i64 a2, .int .i64 now]) (t := 59) (grown_heap hg1 (heap_alloc_new' (World.size_alloc _ _).symm) (by simp)) | exact World.news_of_block (cs := #[.int .u32 a1, .int .i64 a2, .int .i64 now]) (t := 59) (grown_heap hg1 (heap_alloc_old (heap_alloc_new' rfl)) (by simp)))
         omega
         (unfold maxLen; omega)
         omega
         (first | omega | exact Nat.le_trans (Nat.le_of_lt hs3) (by first | exact hB4.size | exact Nat.le_trans hB4.size (by simp)))
         intro gg cap w5 hown2 hg2 hat2 hlt2
         have hB5 : Below w3.heap.size w3 w5 := Below.grown (by first | exact hB4 | exact below_alloc hB4 _) hg2 (by first | exact hB4.size | exact (below_alloc hB4 _).size) hv1
         have t1 : w5.cell? ⟨r, 1, none⟩ = some v := cell_below hB5 c1
         have t2 : w5.frozen? ⟨r, 1, none⟩ = false := by rw [hB5.frozen (p := ⟨r, 1, none⟩) hrl3]; exact f1))
  all_goals
    go_wp2
    go_ret
    refine ⟨rfl, ⟨_, heap_setCell_same (below_heap hB5 R3.out.blk) 1 _, ?_⟩, Eff.setCell (S := fun k => k = r) (p := ⟨r, 1, none⟩) ((Eff.of_below _ HB3.out).trans (Eff.of_below _ hB5)) (fun _ => rfl) _⟩
    exact rows_pushed hown2 hrl (by first | rfl | simp)
end Go.Proofs.Ytpboomjnbndcpaa
