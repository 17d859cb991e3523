/-
  Proved here: what Push, Grant, Clear of the package queue do; the conditions are named.
-/
import Derived.Test.YtliaeknidmbelaaQ
import Derived.Deep.RegionLaw
namespace Go.Proofs.Ytliaeknidmbelaa
open Go.RowKit

theorem infoU8 : (Try.prog.info? 5).map (fun i => (i.zero, i.size, i.bytes)) = some (some (.int .u8 0), 1, 1) := by kernel_rfl
theorem infoRow : (Try.prog.info? 23).map (fun i => (i.zero, i.size, i.bytes)) = some (some (.slice none 0 0), 1, 24) := by kernel_rfl

/-- A slice of bytes that is read. -/
def Lies (w : World) (u : Value) (xs : List Int) : Prop := ∃ b o c, u = .slice (some ⟨b, o, none⟩) xs.length c ∧ b < w.heap.size ∧ ∀ j x, xs[j]? = some x → w.cell? ⟨b, o + j, none⟩ = some (.int .u8 x)
theorem Lies.below {w w' : World} {u : Value} {xs : List Int} (h : Lies w u xs) (hb : Below w.heap.size w w') : Lies w' u xs := by
  obtain ⟨b, o, c, rfl, h2, h3⟩ := h
  exact ⟨b, o, c, rfl, Nat.lt_of_lt_of_le h2 hb.size, fun j x hj => by rw [hb.cell (p := ⟨b, o + j, none⟩) h2]; exact h3 j x hj⟩
theorem cell_below {w w' : World} (hb : Below w.heap.size w w') {a : Addr} {u : Value} (h : w.cell? a = some u) : w'.cell? a = some u := (hb.cell (World.block_lt_of_cell? w a h)).trans h
theorem Lies.drew {w : World} {u : Value} {xs : List Int} (h : Lies w u xs) : Lies w.drew u xs := h
def u8s (xs : List Int) : List Value := xs.map (Value.int .u8)
theorem u8s_length (xs : List Int) : (u8s xs).length = xs.length := by simp [u8s]
theorem u8s_one (xs : List Int) : ∀ u ∈ u8s xs, u.oneCell' = true := by
  intro u hu
  obtain ⟨x, -, rfl⟩ := List.mem_map.1 hu
  rfl
theorem Lies.src {w : World} {u : Value} {xs : List Int} (h : Lies w u xs) : Src Try.prog 1 23 u xs.length (u8s xs) w := by
  obtain ⟨b, o, c, rfl, -, h3⟩ := h
  refine Src.ofSlice w Try.underlying23 _ _ _ _ (by simp [u8s]) (fun j y hj => ?_) (u8s_one xs)
  rw [addr_add]
  obtain ⟨x, hx, rfl⟩ : ∃ x, xs[j]? = some x ∧ Value.int .u8 x = y := by simpa [u8s] using hj
  exact h3 j x hx
/-- An owned row of bytes. -/
theorem Own.bts {w : World} {v : Value} {xs : List Int} (h : Own w v (u8s xs)) (h0 : 0 < xs.length) (R : Nat → Prop) (hR : ∀ k, v.ownBlock = some k → R k) : Bts w R v xs := by
  obtain ⟨g, o, cap, rfl, hg, h1, h2, -, h4⟩ := h.cells (by simpa [u8s] using h0)
  rw [u8s_length] at h1 ⊢
  exact ⟨g, o, cap, rfl, hR g rfl, hg, h1, h2, fun j x hj => h4 j _ (by simp [u8s, hj])⟩
theorem Bts.lies {w : World} {R : Nat → Prop} {u : Value} {xs : List Int} (h : Bts w R u xs) : Lies w u xs := by
  obtain ⟨b, o, c, rfl, -, h2, -, -, h5⟩ := h
  exact ⟨b, o, c, rfl, h2, h5⟩

set_option maxHeartbeats 400000 in
theorem clone_any (u : Value) (xs : List Int) (w : World) (h : Lies w u xs) (h0 : 0 < xs.length) (hx : xs.length ≤ 1099511627776) :
    Calls Try.prog 25 #[u] w fun r w' => ∃ u', r = .returned u' ∧ Own w' u' (u8s xs) ∧ (∀ k, u'.ownBlock = some k → w.heap.size ≤ k) ∧ Below w.heap.size w w' := by
  obtain ⟨i0, hi, hz0, hz1, hz2⟩ := info_parts infoU8
  have HL := Lib.hid h
  obtain ⟨b, o, c, rfl, -⟩ := h
  go_enter Try.func25, Try.ntmps25
  have hn : ∀ v, (binOp .eql 23 (.slice (some ⟨b, o, none⟩) xs.length c) (.slice none 0 0)).run Try.prog v = .ok (.bool false) v := fun v => by kernel_rfl
  go_wp2_with (at_builtin; refine wpList_own_append _ rfl _ _ 23 rfl 5 i0 (.int .u8 0) 1 Try.underlying23 hi hz0 hz1 hz2 rfl (.slice (some ⟨w.heap.size, 0, none⟩) 0 0) [] rfl (Own.zero 0 (by simp)) _ xs.length (u8s xs) rfl (HL.out.below (below_alloc (Below.refl _ _) _)).src (by unfold maxLen; simp; omega) (by simp; omega) ?_; intro u' w2 hown2 heff2 hblk2)
  go_ret
  refine ⟨u', rfl, by simpa using hown2, fun k hk => ?_, ?_⟩
  · rcases hblk2 with e | e
    · rw [e] at hk; simp [Value.ownBlock] at hk; omega
    · rw [e] at hk; simp at hk; omega
  · refine (below_alloc (Below.refl _ _) _).trans ⟨heff2.os, heff2.tape, heff2.output, heff2.size, fun k hk => heff2.block k (by simp; omega) (by simp [Value.ownBlock]; omega)⟩

section
variable {w : World} {O R : Nat → Prop} {q : Nat} {room : Int} {v : Value} {vs : List Value} {L : List (List Int)} {begun : Bool} {credit sent : Int}

theorem QSt.pushed (h : QSt w O R q room v vs L begun credit sent) {w1 w2 : World} {o : Obj} {u1 v2 : Value} {xs : List Int} (hb1 : Below w.heap.size w w1) (hown1 : Own w1 u1 (u8s xs)) (hk1 : ∀ k, u1.ownBlock = some k → w.heap.size ≤ k)
    (h0 : 0 < xs.length) (hf : (xs.length : Int) ≤ room - tot L) (hown2 : Own w2 v2 (vs ++ [u1])) (heff2 : Eff (fun k => v.ownBlock = some k) (w1.alloc o) w2) (hblk2 : v2.ownBlock = v.ownBlock ∨ v2.ownBlock = some (w1.alloc o).heap.size) :
    ∃ O' R', QSt ((w2.setCell ⟨q, 1, none⟩ v2).setCell ⟨q, 3, none⟩ (.int .i64 (tot (L ++ [xs])))) O' R' q room v2 (vs ++ [u1]) (L ++ [xs]) begun credit sent ∧
      Eff O w ((w2.setCell ⟨q, 1, none⟩ v2).setCell ⟨q, 3, none⟩ (.int .i64 (tot (L ++ [xs])))) ∧ (∀ k, O' k → O k ∨ w.heap.size ≤ k) ∧ (∀ k, R' k → R k ∨ w.heap.size ≤ k) := by
  have hql : q < w.heap.size := h.lt q (.inl h.qO)
  have hs1 := hb1.size
  have hsa : (w1.alloc o).heap.size = w1.heap.size + 1 := World.size_alloc _ _
  have hs2 := heff2.size
  have hvl : ∀ k, v.ownBlock = some k → k < w.heap.size := fun k hk => h.lt k (.inl (h.vO k hk).1)
  have e1 : ∀ k, k < w.heap.size → v.ownBlock ≠ some k → w2.heap[k]? = w.heap[k]? := fun k hk hv => by
    rw [heff2.block k (by omega) (by simpa using hv), Below.heap_alloc _ _ _ (by omega), hb1.block k hk]
  have e2 : ∀ k, k ≠ q → ((w2.setCell ⟨q, 1, none⟩ v2).setCell ⟨q, 3, none⟩ (.int .i64 (tot (L ++ [xs])))).heap[k]? = w2.heap[k]? := fun k hk => by
    rw [Below.heap_setCell _ _ _ _ hk, Below.heap_setCell _ _ _ _ hk]
  have hs3 : ((w2.setCell ⟨q, 1, none⟩ v2).setCell ⟨q, 3, none⟩ (.int .i64 (tot (L ++ [xs])))).heap.size = w2.heap.size := by simp [World.setCell]
  have hq2 : v2.ownBlock ≠ some q := by
    rcases hblk2 with e | e
    · rw [e]; exact fun hk => (h.vO q hk).2 rfl
    · rw [e, hsa]; intro hk; simp at hk; omega
  have hv2 : ∀ k, v2.ownBlock = some k → O k ∨ w1.heap.size < k := fun k hk => by
    rcases hblk2 with e | e
    · rw [e] at hk; exact .inl (h.vO k hk).1
    · rw [e, hsa] at hk; simp at hk; omega
  have heff : Eff O w ((w2.setCell ⟨q, 1, none⟩ v2).setCell ⟨q, 3, none⟩ (.int .i64 (tot (L ++ [xs])))) := by
    have a1 : Eff O w (w1.alloc o) := (Eff.of_below O hb1).alloc o
    have a2 : Eff O w w2 := a1.trans_new (T := fun k => v.ownBlock = some k) heff2 (fun i _ hi => (h.vO i hi).1)
    exact (a2.setCell (p := ⟨q, 1, none⟩) (fun _ => h.qO) v2).setCell (p := ⟨q, 3, none⟩) (fun _ => h.qO) _
  have hu1 : ∀ k, u1.ownBlock = some k → w.heap.size ≤ k ∧ k < w1.heap.size := fun k hk => ⟨hk1 k hk, hown1.lt k hk⟩
  refine ⟨fun k => O k ∨ v2.ownBlock = some k, fun k => R k ∨ u1.ownBlock = some k, ⟨?_, .inl h.qO, ?_, ?_, ?_, ?_, ?_, ?_, ?_, ?_, h.room0, ?_, h.cr, h.se⟩, heff, ?_, ?_⟩
  · have b2 : w2.heap[q]? = _ := (e1 q hql (fun hk => (h.vO q hk).2 rfl)).trans h.blk
    exact heap_setCell_same (heap_setCell_same b2 1 v2) 3 _
  · exact hown2.keep (by omega) (fun k hk => e2 k (fun e => hq2 (e ▸ hk)))
  · exact fun k hk => ⟨.inr hk, fun e => hq2 (e ▸ hk)⟩
  · simp [h.len]
  · intro i u ys hu hys
    by_cases hi : i < vs.length
    · rw [List.getElem?_append_left hi] at hu
      rw [List.getElem?_append_left (by rw [← h.len]; exact hi)] at hys
      refine (h.bts i u ys hu hys).keep (by omega) (fun k hk hR => ?_) (fun k hk => .inl hk)
      rw [e2 k (fun e => h.disj q h.qO (e ▸ hR)), e1 k hk (fun hv => h.disj k (h.vO k hv).1 hR)]
    · have hiL : i = vs.length := by
        have := (List.getElem?_eq_some_iff.1 hu).1
        simp at this; omega
      subst hiL
      rw [List.getElem?_append_right (Nat.le_refl _)] at hu
      rw [List.getElem?_append_right (by rw [h.len]; exact Nat.le_refl _)] at hys
      simp [h.len] at hu hys
      subst hu hys
      refine (hown1.bts h0 (fun k => u1.ownBlock = some k) (fun k hk => hk)).keep (by omega) (fun k hk hR => ?_) (fun k hk => .inr hk)
      have := hu1 k hR
      rw [e2 k (by omega), heff2.block k (by omega) (fun hv => by have := hvl k hv; omega), Below.heap_alloc _ _ _ hk]
  · intro ys hys
    rcases List.mem_append.1 hys with hys | hys
    · exact h.ne ys hys
    · simp at hys; subst hys; exact h0
  · intro k hk
    rcases hk with (hk | hk) | (hk | hk)
    · have := h.lt k (.inl hk); omega
    · have := hown2.lt k hk; omega
    · have := h.lt k (.inr hk); omega
    · have := hu1 k hk; omega
  · intro k hk hR
    rcases hk with hk | hk <;> rcases hR with hR | hR
    · exact h.disj k hk hR
    · have := hu1 k hR; have := h.lt k (.inl hk); omega
    · rcases hv2 k hk with h6 | h6
      · exact h.disj k h6 hR
      · have := h.lt k (.inr hR); omega
    · rcases hv2 k hk with h6 | h6
      · have := hu1 k hR; have := h.lt k (.inl h6); omega
      · have := hu1 k hR; omega
  · intro _; simp
  · rw [tot_append, tot_cons, tot_nil]; omega
  · intro k hk
    rcases hk with hk | hk
    · exact .inl hk
    · rcases hv2 k hk with h6 | h6
      · exact .inl h6
      · exact .inr (by omega)
  · intro k hk
    rcases hk with hk | hk
    · exact .inl hk
    · exact .inr (hu1 k hk).1

theorem QSt.rows (h : QSt w O R q room v vs L begun credit sent) : vs.length ≤ tot L := by
  rw [h.len]
  have := h.ne
  clear h
  induction L with
  | nil => simp
  | cons x L ih =>
    rw [tot_cons]
    have h1 := this x (by simp)
    have h2 := ih (fun ys hys => this ys (by simp [hys]))
    simp only [List.length_cons]
    omega

set_option maxHeartbeats 1000000 in
theorem push_ok (h : QSt w O R q room v vs L begun credit sent) (u : Value) (xs : List Int) (hu : Lies w u xs) (h0 : 0 < xs.length) (hf : (xs.length : Int) ≤ room - tot L) :
    Calls Try.prog 8 #[.pointer (some ⟨q, 0, none⟩), u] w fun r w' => ∃ O' R' v' vs', r = .returned (.int .i64 0) ∧ QSt w' O' R' q room v' vs' (L ++ [xs]) begun credit sent ∧ Eff O w w' ∧ (∀ k, O' k → O k ∨ w.heap.size ≤ k) ∧ (∀ k, R' k → R k ∨ w.heap.size ≤ k) := by
  have c0 := cell_of h.blk 0
  have c1 := cell_of h.blk 1
  have c3 := cell_of h.blk 3
  obtain ⟨r0, r1⟩ := h.room0
  have hU := Lib.hid hu
  have HH := Lib.hid h
  obtain ⟨b, o, c, rfl, -⟩ := hu
  obtain ⟨a, cc, rfl, l1, l2⟩ := h.own.shape
  clear h
  go_enter Try.func8, Try.ntmps8
  go_wp2_with (first
    | (go_at_call 24; refine (made_yes q room _ c0 (by omega)).mono ?_; rintro r w' ⟨rfl, rfl⟩))
  go_quiet (fail)
  have hw : IntKind.i64.wrap (room - (tot L : Int)) = room - (tot L : Int) := by have := HH.out.fits; rw [IntKind.wrap_i64]; omega
  have B0 : Hid (Below w'.heap.size w' (w'.drewN nq)) := Lib.hid (below_drewN (Below.refl _ _) _)
  have d1 : (w'.drewN nq).cell? ⟨q, 1, none⟩ = some (.slice a vs.length cc) := c1
  have d3 : (w'.drewN nq).cell? ⟨q, 3, none⟩ = some (.int .i64 (tot L)) := c3
  clear c0 c1 c3
  generalize (w'.drewN nq) = v0 at *
  rw [hw]
  clear hw
  go_wp2_with fail
  obtain ⟨j0, ri, rz0, rz1, rz2⟩ := info_parts infoRow
  have hq0 : q < v0.heap.size := Nat.lt_of_lt_of_le (HH.out.lt q (.inl HH.out.qO)) B0.out.size
  have hvl : vs.length ≤ 65536 := by have h6 := HH.out.rows; have h7 := HH.out.fits; omega
  go_region_law
    (first
      | (refine step_own_append _ rfl (.tmp 30) (.tmp 33) 22 rfl 23 j0 (.slice none 0 0) 24 Try.underlying22 ri rz0 rz1 rz2 rfl (.slice a vs.length cc) vs rfl ?_ _ 1 [.slice a3 (u8s xs).length c3] rfl ?_ ?_ ?_ ?_
         exact ((HH.out.own.below B0.out).drew.below hb1).alloc _
         exact Src.ofSlice _ Try.underlying22 _ _ _ _ rfl (fun j u hu => by rw [addr_add]; rcases j with _ | j <;> simp at hu ⊢; exact hu) (by simp [Value.oneCell'])
         (unfold maxLen; omega)
         omega
         intro v2 w2 hown2 heff2 hblk2
         obtain ⟨a2, c2, rfl, m1, m2⟩ := hown2.shape
         have blk2 := heff2.keep (heap_alloc_old (below_heap (w := v0.drew) hb1 (below_heap B0.out HH.out.blk))) (fun e => (HH.out.vO q e).2 rfl)
         have f1 := cell_of blk2 1
         have f3 := cell_of blk2 3
         have g1 := free_of blk2 1
         have g3 := free_of blk2 3
         have hq2 := lt_of_heap blk2)
      | (go_simp; go_at_call 25; refine (clone_any _ xs v0.drew (hU.out.below B0.out).drew h0 (by omega)).mono ?_; rintro r w1 ⟨u1, rfl, hown1, hk1, hb1⟩; have e1 := cell_below (w := v0.drew) hb1 d1; have hq1 : q < w1.heap.size := Nat.lt_of_lt_of_le hq0 hb1.size; obtain ⟨a3, c3, rfl, n1, n2⟩ := hown1.shape))
  all_goals
    have HP := Lib.hid (QSt.pushed (HH.out.below B0.out).drew hb1 hown1 hk1 h0 hf hown2 heff2 hblk2)
    have hT : (tot L : Int) + xs.length = (tot (L ++ [xs]) : Nat) := by rw [tot_append, tot_cons, tot_nil]; omega
    have hfit := HH.out.fits
    go_wp2
    go_ret
    obtain ⟨O', R', k1, k2, k3, k4⟩ := HP.out
    have hs0 := B0.out.size
    simp only [List.length_append, List.length_cons, List.length_nil, Nat.zero_add] at k1 k2
    exact ⟨O', R', _, _, rfl, k1, (Eff.of_below O B0.out).drew.trans k2, fun k hk => (k3 k hk).imp id (fun h6 => Nat.le_trans hs0 h6), fun k hk => (k4 k hk).imp id (fun h6 => Nat.le_trans hs0 h6)⟩
end

end Go.Proofs.Ytliaeknidmbelaa
