/-
  Proved here: what Copy of the document's queue does, and Clear and Copy of the package queue; the conditions are named.
-/
import Derived.Test.YtliaeknidmbelaaQM3
namespace Go.Proofs.Ytliaeknidmbelaa
open Go.RowKit

theorem Own.fill {w : World} {v : Value} {vs : List Value} (h : Own w v vs) {d : Nat} (hd : v.ownBlock ≠ some d) (u : Value) : Own (w.setCell ⟨d, 0, none⟩ u) v vs := own_setCell_other h hd u

section
variable {w w' : World} {M : Nat → Prop} {m : Nat} {room : Int} {v : Value} {vs : List Value} {L : List (List Int)} {begun : Bool} {credit sent : Int}

/-- Another queue over the same bytes, with a row of its own. -/
theorem MSt.copied (h : MSt w M m room v vs L begun credit sent) {w2 : World} {v2 : Value} (hB : Below w.heap.size w w2) (h2 : Own w2 v2 vs) :
    MSt (w2.alloc (.cells #[.int .i64 room, v2, .bool begun, .int .i64 credit, .int .i64 sent] 59)) (fun k => M k ∨ v2.ownBlock = some k) w2.heap.size room v2 vs L begun credit sent := by
  have hs := hB.size
  refine ⟨heap_alloc_new _ _, h2.alloc _, fun k hk => .inr hk, h.len, fun i u xs hu hx => ?_, h.ne, ?_, ?_, h.bg, h.room0, h.fits, h.cr, h.se⟩
  · exact ((h.bts i u xs hu hx).keep hB.size (fun k hk _ => hB.block k hk) (fun _ hk => .inl hk)).keep (by simp) (fun k hk _ => Below.heap_alloc _ _ _ hk) (fun _ hk => hk)
  · rintro k (hk | hk)
    · have := h.lt k hk; rw [World.size_alloc]; omega
    · have := h2.lt k hk; rw [World.size_alloc]; omega
  · rintro (hk | hk)
    · have := h.lt _ hk; omega
    · have := h2.lt _ hk; omega

set_option maxRecDepth 100000 in
set_option maxHeartbeats 2000000 in
theorem mcopy_yes (h : MSt w M m room v vs L begun credit sent) :
    Calls Try.prog 19 #[.pointer (some ⟨m, 0, none⟩)] w fun r w' => ∃ d M' v', r = .returned (.pointer (some ⟨d, 0, none⟩)) ∧ MSt w' M' d room v' vs L begun credit sent ∧ Below w.heap.size w w' ∧ w.heap.size ≤ d ∧ ∀ k, M' k → M k ∨ w.heap.size ≤ k := by
  have c0 := cell_of h.blk 0
  have c1 := cell_of h.blk 1
  have c2 := cell_of h.blk 2
  have c3 := cell_of h.blk 3
  have c4 := cell_of h.blk 4
  have hml := h.mlt
  have hvl : vs.length ≤ 65536 := by have h6 := h.rows; have h7 := h.fits; have := h.room0; omega
  obtain ⟨j0, ri, rz0, rz1, rz2⟩ := info_parts infoRow
  obtain ⟨a, cc, rfl, l1, l2⟩ := h.own.shape
  have HH := Lib.hid h
  clear h
  go_enter Try.func19, Try.ntmps19
  go_wp2_with fail
  go_region_held3 (fun w' => w'.cell? ⟨m, 0, none⟩ = some (.int .i64 room) ∧ w'.cell? ⟨m, 1, none⟩ = some (.slice a vs.length cc) ∧ w'.cell? ⟨m, 2, none⟩ = some (.bool begun) ∧ w'.cell? ⟨m, 3, none⟩ = some (.int .i64 credit) ∧ w'.cell? ⟨m, 4, none⟩ = some (.int .i64 sent))
    (first | (go_keep; done) | exact ⟨d0, d1, d2, d3, d4⟩)
    ((refine step_own_append _ rfl (.tmp 7) (.tmp 11) 22 rfl 23 j0 (.slice none 0 0) 24 Try.underlying22 ri rz0 rz1 rz2 rfl (.slice (some ⟨w.heap.size, 0, none⟩) 0 0) [] rfl (Own.zero 0 (by simp)) (.slice a vs.length cc) vs.length vs rfl ?_ ?_ ?_ ?_
      · exact (HH.out.own.drew.alloc _).src Try.underlying22 HH.out.one
      · (unfold maxLen; simp; omega)
      · (simp; omega)
      intro v3 w3 hown3 heff3 hblk3
      have B3 : Hid (Below w.heap.size w w3) := Lib.hid (neweff_trans (below_alloc (u := w.drew) ((Below.refl _ w).drew) _) heff3 (fun k hk => by simp [Value.ownBlock] at hk; omega))
      have O3 : Hid (Own w3 v3 vs) := Lib.hid (by simpa using hown3)
      have K3 : Hid (∀ k, v3.ownBlock = some k → w.heap.size ≤ k) := Lib.hid (ownBlock_alloc hblk3 (by simp) (Nat.le_refl _))
      obtain ⟨a9, c9, rfl, -, -⟩ := O3.out.shape
      have d0 := cell_below B3.out c0
      have d1 := cell_below B3.out c1
      have d2 := cell_below B3.out c2
      have d3 := cell_below B3.out c3
      have d4 := cell_below B3.out c4
      clear hown3 heff3 hblk3))
  go_wp2
  go_ret
  exact ⟨_, _, _, rfl, HH.out.copied B3.out O3.out, below_alloc B3.out _, B3.out.size, fun k hk => hk.imp id (K3.out k)⟩
end

section
variable {w w' : World} {O R : Nat → Prop} {q : Nat} {room : Int} {v : Value} {vs : List Value} {L : List (List Int)} {begun : Bool} {credit sent : Int}

theorem QSt.cleared (h : QSt w O R q room v vs L begun credit sent) :
    QSt ((((w.setCell ⟨q, 1, none⟩ (.slice none 0 0)).setCell ⟨q, 2, none⟩ (.bool false)).setCell ⟨q, 3, none⟩ (.int .i64 0)).setCell ⟨q, 4, none⟩ (.int .i64 0)) O R q room (.slice none 0 0) [] [] false 0 sent ∧
    Eff O w ((((w.setCell ⟨q, 1, none⟩ (.slice none 0 0)).setCell ⟨q, 2, none⟩ (.bool false)).setCell ⟨q, 3, none⟩ (.int .i64 0)).setCell ⟨q, 4, none⟩ (.int .i64 0)) := by
  have hz : ((((w.setCell ⟨q, 1, none⟩ (.slice none 0 0)).setCell ⟨q, 2, none⟩ (.bool false)).setCell ⟨q, 3, none⟩ (.int .i64 0)).setCell ⟨q, 4, none⟩ (.int .i64 0)).heap.size = w.heap.size := by simp [World.setCell]
  refine ⟨⟨?_, h.qO, Own.nil _, by simp [Value.ownBlock], rfl, by simp, by simp, fun k hk => by rw [hz]; exact h.lt k hk, h.disj, by simp, h.room0, by have := h.room0; simp [tot]; omega, by simp, h.se⟩, ?_⟩
  · rw [heap_setCell_same (heap_setCell_same (heap_setCell_same (heap_setCell_same h.blk 1 _) 2 _) 3 _) 4 _]
    simp [tot]
  · exact ((((Eff.refl O w).setCell (p := ⟨q, 1, none⟩) (fun _ => h.qO) _).setCell (p := ⟨q, 2, none⟩) (fun _ => h.qO) _).setCell (p := ⟨q, 3, none⟩) (fun _ => h.qO) _).setCell (p := ⟨q, 4, none⟩) (fun _ => h.qO) _

set_option maxHeartbeats 400000 in
theorem clear_yes (h : QSt w O R q room v vs L begun credit sent) :
    Calls Try.prog 20 #[.pointer (some ⟨q, 0, none⟩)] w fun r w' => r = .returned (.tuple #[]) ∧ QSt w' O R q room (.slice none 0 0) [] [] false 0 sent ∧ Eff O w w' := by
  have c0 := cell_of h.blk 0
  have c1 := cell_of h.blk 1
  have c2 := cell_of h.blk 2
  have c3 := cell_of h.blk 3
  have c4 := cell_of h.blk 4
  have z := free_of h.blk
  have hql := lt_of_heap h.blk
  obtain ⟨r0, r1⟩ := h.room0
  obtain ⟨a, cc, rfl, -, -⟩ := h.own.shape
  have HH := Lib.hid h
  clear h
  go_enter Try.func20, Try.ntmps20
  go_wp2_with (go_at_call 24; refine (made_yes q room _ c0 (by omega)).mono ?_; rintro r w' ⟨rfl, rfl⟩)
  go_end0
  exact ⟨rfl, HH.out.cleared⟩

theorem QSt.one (h : QSt w O R q room v vs L begun credit sent) : ∀ u ∈ vs, u.oneCell' = true := by
  intro u hu
  obtain ⟨i, hi⟩ := List.mem_iff_getElem?.1 hu
  have hl := (List.getElem?_eq_some_iff.1 hi).1
  obtain ⟨x, hx⟩ : ∃ x, L[i]? = some x := ⟨_, List.getElem?_eq_getElem (by rw [← h.len]; exact hl)⟩
  obtain ⟨b, o, c, rfl, -⟩ := h.bts i u x hi hx
  rfl

/-- Rows in a block of their own. -/
theorem rows_clone (w : World) (v : Value) (vs : List Value) (h : Own w v vs) (hv : vs.length ≤ 65536) (h1 : ∀ u ∈ vs, u.oneCell' = true) :
    Calls Try.prog 37 #[v] w fun r w' => ∃ v', r = .returned v' ∧ Own w' v' vs ∧ (∀ k, v'.ownBlock = some k → w.heap.size ≤ k) ∧ Below w.heap.size w w' := by
  obtain ⟨j0, ri, rz0, rz1, rz2⟩ := info_parts infoRow
  have HH := Lib.hid h
  have H1 := Lib.hid h1
  rcases h with ⟨rfl, rfl⟩ | ⟨g, o, cap, rfl, -⟩
  · have hn : ∀ vw, (binOp .eql 22 (.slice none 0 0) (.slice none 0 0)).run Try.prog vw = .ok (.bool true) vw := fun vw => by kernel_rfl
    go_enter Try.func37, Try.ntmps37
    go_wp2
    go_ret
    exact ⟨_, rfl, Own.nil _, by simp [Value.ownBlock], Below.refl _ _⟩
  · have hn : ∀ vw, (binOp .eql 22 (.slice (some ⟨g, o, none⟩) vs.length cap) (.slice none 0 0)).run Try.prog vw = .ok (.bool false) vw := fun vw => by kernel_rfl
    go_enter Try.func37, Try.ntmps37
    go_wp2_with (at_builtin; refine wpList_own_append _ rfl _ _ 22 rfl 23 j0 (.slice none 0 0) 24 Try.underlying22 ri rz0 rz1 rz2 rfl (.slice (some ⟨w.heap.size, 0, none⟩) 0 0) [] rfl (Own.zero 0 (by simp)) (.slice (some ⟨g, o, none⟩) vs.length cap) vs.length vs rfl ((HH.out.alloc _).src Try.underlying22 H1.out) (by unfold maxLen; simp; omega) (by simp; omega) ?_; intro u' w2 hown2 heff2 hblk2)
    go_ret
    exact ⟨u', rfl, by simpa using hown2, ownBlock_alloc hblk2 (by simp) (Nat.le_refl _), neweff_trans (below_alloc (Below.refl _ _) _) heff2 (fun k hk => by simp [Value.ownBlock] at hk; omega)⟩

set_option maxHeartbeats 400000 in
theorem store_any (q : Nat) (x n : Int) (w : World) (hc : w.cell? ⟨q, 5, none⟩ = some (.int .i64 x)) (hz : w.frozen? ⟨q, 5, none⟩ = false) :
    Calls Try.prog 38 #[.pointer (some ⟨q, 5, none⟩), .int .i64 n] w fun r w' => r = .returned (.tuple #[]) ∧ w' = w.setCell ⟨q, 5, none⟩ (.int .i64 n) := by
  have hl := run_call_store (P := Try.prog) Try.func41 (by kernel_rfl) (by kernel_rfl) (by kernel_rfl) (by kernel_rfl) (k := .i64) (y := n) hc hz
  go_enter Try.func38, Try.ntmps38
  go_wp2
  go_end0
  exact ⟨rfl, rfl⟩

theorem QSt.copied (h : QSt w O R q room v vs L begun credit sent) {w2 : World} {v2 : Value} (hB : Below w.heap.size w w2) (h2 : Own w2 v2 vs) (k2 : ∀ k, v2.ownBlock = some k → w.heap.size ≤ k) :
    QSt (w2.alloc (.cells #[.int .i64 room, v2, .bool begun, .int .i64 (tot L), .int .i64 credit, .int .i64 0] 52)) (fun k => k = w2.heap.size ∨ v2.ownBlock = some k) R w2.heap.size room v2 vs L begun credit 0 := by
  have hs := hB.size
  refine ⟨heap_alloc_new _ _, .inl rfl, h2.alloc _, fun k hk => ⟨.inr hk, fun e => by have := h2.lt k hk; omega⟩, h.len, fun i u xs hu hx => ?_, h.ne, ?_, ?_, h.bg, h.room0, h.fits, h.cr, by simp⟩
  · exact ((h.bts i u xs hu hx).keep hB.size (fun k hk _ => hB.block k hk) (fun _ hk => hk)).keep (by simp) (fun k hk _ => Below.heap_alloc _ _ _ hk) (fun _ hk => hk)
  · rintro k ((hk | hk) | hk)
    · rw [World.size_alloc]; omega
    · have := h2.lt k hk; rw [World.size_alloc]; omega
    · have := h.lt k (.inr hk); rw [World.size_alloc]; omega
  · rintro k (hk | hk) hR
    · have := h.lt k (.inr hR); omega
    · have := k2 k hk; have := h.lt k (.inr hR); omega

set_option maxRecDepth 100000 in
set_option maxHeartbeats 2000000 in
theorem copy_yes (h : QSt w O R q room v vs L begun credit sent) :
    Calls Try.prog 18 #[.pointer (some ⟨q, 0, none⟩)] w fun r w' => ∃ c O' v', r = .returned (.pointer (some ⟨c, 0, none⟩)) ∧ QSt w' O' R c room v' vs L begun credit sent ∧ Below w.heap.size w w' ∧ ∀ k, O' k → w.heap.size ≤ k := by
  have c0 := cell_of h.blk 0
  have c1 := cell_of h.blk 1
  have c2 := cell_of h.blk 2
  have c3 := cell_of h.blk 3
  have c4 := cell_of h.blk 4
  have hql := lt_of_heap h.blk
  obtain ⟨r0, r1⟩ := h.room0
  have hvl : vs.length ≤ 65536 := by have h6 := h.rows; have h7 := h.fits; omega
  obtain ⟨a, cc, rfl, l1, l2⟩ := h.own.shape
  have HH := Lib.hid h
  clear h
  go_enter Try.func18, Try.ntmps18
  go_wp2_with (go_at_call 24; refine (made_yes q room _ c0 (by omega)).mono ?_; rintro r w' ⟨rfl, rfl⟩)
  go_region_held3 (fun w1 => w1.cell? ⟨q, 0, none⟩ = some (.int .i64 room) ∧ w1.cell? ⟨q, 1, none⟩ = some (.slice a vs.length cc) ∧ w1.cell? ⟨q, 2, none⟩ = some (.bool begun) ∧ w1.cell? ⟨q, 3, none⟩ = some (.int .i64 (tot L)) ∧ w1.cell? ⟨q, 4, none⟩ = some (.int .i64 credit))
    (first | (go_keep; done) | exact ⟨d0, d1, d2, d3, d4⟩)
    (first | (go_at_call 37; refine (rows_clone _ _ vs HH.out.own.drew hvl HH.out.one).mono ?_; rintro r w3 ⟨v3, rfl, hO3, hK3, hB3⟩; have B3 : Hid (Below w'.heap.size w' w3) := Lib.hid ((Below.refl _ w').drew.trans hB3); have O3 := Lib.hid hO3; have K3 : Hid (∀ k, v3.ownBlock = some k → w'.heap.size ≤ k) := Lib.hid hK3; obtain ⟨a9, c9, rfl, -, -⟩ := O3.out.shape; have d0 := cell_below B3.out c0; have d1 := cell_below B3.out c1; have d2 := cell_below B3.out c2; have d3 := cell_below B3.out c3; have d4 := cell_below B3.out c4; clear hO3 hK3 hB3))
  have C3 := Lib.hid (HH.out.copied B3.out O3.out K3.out)
  have c5 := cell_below (below_alloc B3.out (.cells #[.int .i64 room, .slice a9 vs.length c9, .bool begun, .int .i64 (tot L), .int .i64 credit, .int .i64 0] 52)) (cell_of HH.out.blk 5)
  have B4 := Lib.hid (below_alloc B3.out (.cells #[.int .i64 room, .slice a9 vs.length c9, .bool begun, .int .i64 (tot L), .int .i64 credit, .int .i64 0] 52))
  have C4 := Lib.hid (C3.out.added sent HH.out.se)
  have e5 := cell_of C3.out.blk 5
  have z5 := free_of C3.out.blk 5
  generalize hv0 : w3.alloc (.cells #[.int .i64 room, .slice a9 vs.length c9, .bool begun, .int .i64 (tot L), .int .i64 credit, .int .i64 0] 52) = v0 at *
  clear hv0
  go_wp2_with fail
  go_region_law (first
    | (go_simp; go_at_call 28; refine (load_any q sent v0.drew c5).mono ?_; rintro r w4 ⟨rfl, rfl⟩)
    | (go_simp; go_at_call 38; refine (store_any w3.heap.size 0 sent v0.drew e5 z5).mono ?_; rintro r w5 ⟨rfl, rfl⟩))
  all_goals
    go_wp2
    go_ret
    refine ⟨_, _, _, rfl, C4.out.drew, ?_, ?_⟩
    · exact neweff_trans B4.out ((Eff.refl (fun k => k = w3.heap.size) v0).setCell (p := ⟨w3.heap.size, 5, none⟩) (fun _ => rfl) _).drew (fun k hk => by have := B3.out.size; omega)
    · rintro k (hk | hk)
      · have := B3.out.size; omega
      · exact K3.out k hk
end

end Go.Proofs.Ytliaeknidmbelaa
