/-
  Proved here: what Push and Drop of the document's queue do; the conditions are named.
-/
import Derived.Test.YtliaeknidmbelaaQM1
namespace Go.Proofs.Ytliaeknidmbelaa
open Go.RowKit

section
variable {w w' : World} {M : Nat → Prop} {m : Nat} {room : Int} {v : Value} {vs : List Value} {L : List (List Int)} {begun : Bool} {credit sent : Int}

theorem MSt.one (h : MSt w M m room v vs L begun credit sent) : ∀ u ∈ vs, u.oneCell' = true := by
  intro u hu
  obtain ⟨i, hi⟩ := List.mem_iff_getElem?.1 hu
  have hl := (List.getElem?_eq_some_iff.1 hi).1
  obtain ⟨x, hx⟩ : ∃ x, L[i]? = some x := ⟨_, List.getElem?_eq_getElem (by rw [← h.len]; exact hl)⟩
  obtain ⟨b, o, c, rfl, -⟩ := h.bts i u x hi hx
  rfl

/-- What a push leaves. -/
theorem MSt.pushed (h : MSt w M m room v vs L begun credit sent) {w3 : World} {v2 v3 : Value} {xs : List Int} (hb : Below w.heap.size w w3) (h2 : Own w3 v2 (u8s xs)) (k2 : ∀ k, v2.ownBlock = some k → w.heap.size ≤ k)
    (h3 : Own w3 v3 (vs ++ [v2])) (k3 : ∀ k, v3.ownBlock = some k → w.heap.size ≤ k) (h0 : 0 < xs.length) (hf : (xs.length : Int) ≤ room - tot L) :
    ∃ M', MSt (w3.setCell ⟨m, 1, none⟩ v3) M' m room v3 (vs ++ [v2]) (L ++ [xs]) begun credit sent ∧ Eff (fun k => k = m) w (w3.setCell ⟨m, 1, none⟩ v3) ∧ ∀ k, M' k → M k ∨ w.heap.size ≤ k := by
  have hm := h.mlt
  have he : Eff (fun k => k = m) w (w3.setCell ⟨m, 1, none⟩ v3) := (Eff.of_below (fun k => k = m) hb).setCell (p := ⟨m, 1, none⟩) (fun _ => rfl) _
  have hs : (w3.setCell ⟨m, 1, none⟩ v3).heap.size = w3.heap.size := by simp [World.setCell]
  have e2 : ∀ k, k ≠ m → (w3.setCell ⟨m, 1, none⟩ v3).heap[k]? = w3.heap[k]? := fun k hk => Below.heap_setCell _ _ _ _ hk
  have hs3 := hb.size
  refine ⟨fun k => M k ∨ v2.ownBlock = some k ∨ v3.ownBlock = some k, ⟨?_, ?_, fun k hk => .inr (.inr hk), ?_, ?_, ?_, ?_, ?_, ?_, h.room0, ?_, h.cr, h.se⟩, he, ?_⟩
  · rw [heap_setCell_same (below_heap hb h.blk) 1 _]; simp
  · exact own_setCell_other h3 (fun e => by have := k3 m e; omega) _
  · simp [h.len]
  · intro i u ys hu hys
    by_cases hi : i < vs.length
    · rw [List.getElem?_append_left hi] at hu
      rw [List.getElem?_append_left (by rw [← h.len]; exact hi)] at hys
      exact (h.bts i u ys hu hys).keep he.size (fun k hk hM => he.block k hk (fun e => h.mM (e ▸ hM))) (fun _ hk => .inl hk)
    · have hiL : i = vs.length := by
        have := (List.getElem?_eq_some_iff.1 hu).1
        simp at this; omega
      subst hiL
      rw [List.getElem?_append_right (Nat.le_refl _)] at hu
      rw [List.getElem?_append_right (by rw [h.len]; exact Nat.le_refl _)] at hys
      simp [h.len] at hu hys
      subst hu hys
      exact (h2.bts h0 (fun k => v2.ownBlock = some k) (fun k hk => hk)).keep (by omega) (fun k _ hR => e2 k (fun e => by subst e; have := k2 k hR; omega)) (fun k hk => .inr (.inl hk))
  · intro ys hys
    rcases List.mem_append.1 hys with hys | hys
    · exact h.ne ys hys
    · simp at hys; subst hys; exact h0
  · intro k hk
    rw [hs]
    rcases hk with hk | hk | hk
    · have := h.lt k hk; omega
    · exact h2.lt k hk
    · exact h3.lt k hk
  · rintro (hk | hk | hk)
    · exact h.mM hk
    · have := k2 m hk; omega
    · have := k3 m hk; omega
  · intro _; simp
  · rw [tot_append, tot_cons, tot_nil]; omega
  · rintro k (hk | hk | hk)
    · exact .inl hk
    · exact .inr (k2 k hk)
    · exact .inr (k3 k hk)

set_option maxHeartbeats 400000 in
theorem mpush_empty (m : Nat) (a : Option Addr) (c : Nat) (w : World) :
    Calls Try.prog 29 #[.pointer (some ⟨m, 0, none⟩), .slice a 0 c] w fun r w' => r = .returned (.int .i64 2) ∧ w' = w := by
  go_enter Try.func29, Try.ntmps29
  go_wp2
  go_ret
  exact ⟨rfl, rfl⟩

set_option maxHeartbeats 400000 in
theorem mpush_full (h : MSt w M m room v vs L begun credit sent) (a : Option Addr) (n c : Nat) (hn : (n : Int) ≤ 140737488355328) (hf : room - tot L < n) :
    Calls Try.prog 29 #[.pointer (some ⟨m, 0, none⟩), .slice a n c] w fun r w' => r = .returned (.int .i64 6) ∧ Below w.heap.size w w' := by
  obtain ⟨r0, r1⟩ := h.room0
  have hfit := h.fits
  have hn0 : 0 < n := by omega
  have HH := Lib.hid h
  clear h
  go_enter Try.func29, Try.ntmps29
  go_wp2_with (go_at_call 36; refine (mroom_yes HH.out).mono ?_; rintro r w1 ⟨rfl, hb1⟩; have B1 := Lib.hid hb1; clear hb1)
  go_ret
  exact ⟨rfl, B1.out⟩

theorem ownBlock_alloc {v : Value} {B : Nat} {w1 : World} (hb : v.ownBlock = some B ∨ v.ownBlock = some w1.heap.size) (hB : B ≤ w1.heap.size) {n : Nat} (hn : n ≤ B) : ∀ k, v.ownBlock = some k → n ≤ k := by
  intro k hk
  rcases hb with e | e
  · rw [e] at hk; simp at hk; omega
  · rw [e] at hk; simp at hk; omega

set_option maxHeartbeats 2000000 in
theorem mpush_ok (h : MSt w M m room v vs L begun credit sent) (u : Value) (xs : List Int) (hu : Lies w u xs) (h0 : 0 < xs.length) (hf : (xs.length : Int) ≤ room - tot L) :
    Calls Try.prog 29 #[.pointer (some ⟨m, 0, none⟩), u] w fun r w' => ∃ M' v' vs', r = .returned (.int .i64 0) ∧ MSt w' M' m room v' vs' (L ++ [xs]) begun credit sent ∧ Eff (fun k => k = m) w w' ∧ ∀ k, M' k → M k ∨ w.heap.size ≤ k := by
  obtain ⟨r0, r1⟩ := h.room0
  have hfit := h.fits
  have hrows := h.rows
  have HU := Lib.hid hu
  have HH := Lib.hid h
  obtain ⟨j0, ri, rz0, rz1, rz2⟩ := info_parts infoRow
  obtain ⟨i0, hi, hz0, hz1, hz2⟩ := info_parts infoU8
  obtain ⟨b, o, c, rfl, -⟩ := hu
  obtain ⟨a, cc, rfl, l1, l2⟩ := h.own.shape
  clear h
  go_enter Try.func29, Try.ntmps29
  go_wp2_with (first
    | (go_at_call 36; refine (mroom_yes HH.out).mono ?_; rintro r w1 ⟨rfl, hb1⟩; have B1 := Lib.hid hb1; have c1 := cell_of (HH.out.below hb1).blk 1; have hm1 := (HH.out.below hb1).mlt; clear hb1)
    | (at_builtin; refine wpList_own_append _ rfl _ _ 22 rfl 23 j0 (.slice none 0 0) 24 Try.underlying22 ri rz0 rz1 rz2 rfl (.slice (some ⟨w1.heap.size, 0, none⟩) 0 0) [] rfl (Own.zero 0 (by simp)) (.slice a vs.length cc) vs.length vs rfl (((HH.out.below B1.out).own.alloc _).src Try.underlying22 HH.out.one) (by unfold maxLen; simp; omega) (by simp; omega) ?_; intro v4 w4 hown4 heff4 hblk4
       have B4 : Hid (Below w.heap.size w w4) := Lib.hid (neweff_trans (below_alloc B1.out _) heff4 (fun k hk => by have := B1.out.size; simp [Value.ownBlock] at hk; omega))
       have O4 : Hid (Own w4 v4 vs) := Lib.hid (by simpa using hown4)
       have S4 := Lib.hid heff4.size
       have K4 : Hid (∀ k, v4.ownBlock = some k → w.heap.size ≤ k) := Lib.hid (ownBlock_alloc hblk4 (by simp) B1.out.size)
       clear hown4 heff4 hblk4)
    | (at_builtin; refine wpList_own_append _ rfl _ _ 23 rfl 5 i0 (.int .u8 0) 1 Try.underlying23 hi hz0 hz1 hz2 rfl (.slice (some ⟨w4.heap.size, 0, none⟩) 0 0) [] rfl (Own.zero 0 (by simp)) (.slice (some ⟨b, o, none⟩) xs.length c) xs.length (u8s xs) rfl ((HU.out.below B4.out).below (below_alloc (Below.refl _ _) _)).src (by unfold maxLen; simp; omega) (by simp; omega) ?_; intro v5 w5 hown5 heff5 hblk5
       have B45 : Hid (Below w4.heap.size w4 w5) := Lib.hid (neweff_trans (below_alloc (Below.refl _ _) _) heff5 (fun k hk => by simp [Value.ownBlock] at hk; omega))
       have O5 : Hid (Own w5 v5 (u8s xs)) := Lib.hid (by simpa using hown5)
       have K5 : Hid (∀ k, v5.ownBlock = some k → w4.heap.size ≤ k) := Lib.hid (ownBlock_alloc hblk5 (by simp) (Nat.le_refl _))
       clear hown5 heff5 hblk5
       obtain ⟨a5, c5, rfl, -, -⟩ := O5.out.shape)
    | (at_builtin; refine wpList_own_append _ rfl _ _ 22 rfl 23 j0 (.slice none 0 0) 24 Try.underlying22 ri rz0 rz1 rz2 rfl v4 vs rfl ((O4.out.below B45.out).alloc _) _ 1 [.slice a5 (u8s xs).length c5] rfl (Src.ofSlice _ Try.underlying22 _ _ _ _ rfl (fun j u hu => by rw [addr_add]; rcases j with _ | j <;> simp at hu ⊢; exact hu) (by simp [Value.oneCell'])) (by unfold maxLen; omega) (by omega) ?_; intro v6 w6 hown6 heff6 hblk6
       have B6 : Hid (Below w.heap.size w w6) := Lib.hid (neweff_trans ((B4.out.trans (B45.out.mono B4.out.size)).alloc (B4.out.trans (B45.out.mono B4.out.size)).size _) heff6 K4.out)
       have K6 : Hid (∀ k, v6.ownBlock = some k → w.heap.size ≤ k) := Lib.hid (fun k hk => by
         rcases hblk6 with e | e
         · rw [e] at hk; exact K4.out k hk
         · rw [e] at hk; simp at hk; have := B4.out.size; have := B45.out.size; omega)
       have O56 : Hid (Own w6 (.slice a5 (u8s xs).length c5) (u8s xs)) := Lib.hid ((O5.out.alloc _).eff heff6 (fun k hk hS => by have := K5.out k hk; have := O4.out.lt k hS; omega))
       have O6 := Lib.hid hown6
       have F6 := Lib.hid (HH.out.pushed B6.out O56.out (fun k hk => Nat.le_trans B4.out.size (K5.out k hk)) O6.out K6.out h0 hf)
       have cm := cell_of (below_heap B6.out HH.out.blk) 1
       have zm := free_of (below_heap B6.out HH.out.blk) 1
       clear hown6 heff6 hblk6
       obtain ⟨a6, c6, rfl, -, -⟩ := O6.out.shape))
  go_ret
  obtain ⟨M', p1, p2, p3⟩ := F6.out
  simp only [List.length_append, List.length_cons, List.length_nil, Nat.zero_add] at p1 p2
  exact ⟨M', _, _, rfl, p1, p2, p3⟩

/-- 's[:k]', nil too. -/
theorem Own.cutHi {P : Program} {t e : TypeId} {a : Option Addr} {n cap : Nat} (h : Own w (.slice a n cap) vs) (ht : P.underlying t = some (.slice e)) (hz : ∀ w, (Go.sizeOf e).run P w = .ok 1 w) (k : Nat) (hk : k ≤ vs.length) :
    ∃ a', (∀ vw : World, (Instr.slice t (.slice a vs.length cap) none (some (.int .i64 (k : Int))) none).run P vw = .ok (.slice a' k cap) vw) ∧ Own w (.slice a' k cap) (vs.take k) ∧ (Value.slice a' k cap).ownBlock = (Value.slice a n cap).ownBlock := by
  have ht' : P.underlying t = some (.slice (P.elem t)) := by simp [Program.elem, ht]
  have he : P.elem t = e := by simp [Program.elem, ht]
  rcases h with ⟨h1, rfl⟩ | ⟨g, o, cap', hv, hg, h1, h2, h3, h4⟩
  · simp only [Value.slice.injEq] at h1
    obtain ⟨rfl, rfl, rfl⟩ := h1
    obtain rfl : k = 0 := by simpa using hk
    refine ⟨none, fun vw => ?_, .inl ⟨rfl, rfl⟩, rfl⟩
    rw [run_slice_h vw t _ _ _ ht' .i64 _ (by omega) (by simp), he, hz]
    simp [Result.andThen, sliced]
  · simp only [Value.slice.injEq] at hv
    obtain ⟨rfl, rfl, rfl⟩ := hv
    refine ⟨some ⟨g, o, none⟩, fun vw => cut_hi ht hz vw g o vs.length cap k (by omega), .inr ⟨g, o, cap, by rw [List.length_take, Nat.min_eq_left hk], hg, by rw [List.length_take]; omega, h2, h3, fun j u hu => h4 j u ?_⟩, rfl⟩
    rw [List.getElem?_take] at hu
    split at hu
    · exact hu
    · simp at hu

set_option maxHeartbeats 1000000 in
theorem mdrop_yes (h : MSt w M m room v vs L begun credit sent) (k n : Nat) (hk : k = if begun = true then 1 else 0) (hn : L.length = k + n) :
    Calls Try.prog 32 #[.pointer (some ⟨m, 0, none⟩)] w fun r w' => r = .returned (.int .i64 n) ∧ (∃ v' vs', MSt w' M m room v' vs' (L.take k) begun credit sent) ∧ Eff (fun i => i = m) w w' := by
  have hwh := mwhole_yes h
  have e : (L.length : Int) - (if begun = true then (1 : Int) else 0) = n := by
    subst hk
    cases begun
    · simp at hn ⊢; omega
    · simp at hn ⊢; omega
  rw [e] at hwh
  have HWH := Lib.hid hwh
  have c1 := cell_of h.blk 1
  have z1 := free_of h.blk 1
  have hml := h.mlt
  have hlen : vs.length = k + n := by rw [h.len, hn]
  obtain ⟨a, cc, rfl, l1, l2⟩ := h.own.shape
  unfold maxLen at l2
  have HH := Lib.hid h
  have HK := Lib.hid hk
  have HNL := Lib.hid hn
  have HLEN := Lib.hid hlen
  rw [hlen] at c1 l1
  clear h hk hn hwh e hlen
  have hsub : IntKind.i64.wrap (k : Int) = k := by rw [IntKind.wrap_i64]; omega
  obtain ⟨a', hcut, hown', hblk'⟩ := HH.out.own.cutHi Try.underlying22 sizeRow k (by rw [HLEN.out]; omega)
  have hcut' : ∀ vw : World, (Instr.slice 22 (.slice a (k + n) cc) none (some (.int .i64 (k : Int))) none).run Try.prog vw = .ok (.slice a' k cc) vw := fun vw => by rw [← HLEN.out]; exact hcut vw
  have HO := Lib.hid hown'
  have HB := Lib.hid hblk'
  clear hown' hblk' hcut
  go_enter Try.func32, Try.ntmps32
  go_wp2_with (go_at_call 35; refine HWH.out.mono ?_; rintro r w1 ⟨rfl, rfl⟩)
  go_still_tail 13, (by kernel_rfl)
  change wpList _ _ _ _ _ w1.drew
  have hm2 : m < w1.drew.heap.size := hml
  have zm : w1.drew.frozen? ⟨m, 1, none⟩ = false := z1
  have cm : w1.drew.cell? ⟨m, 1, none⟩ = some (.slice a (k + n) cc) := c1
  go_wp2
  go_ret
  have he : Eff (fun i => i = m) w1 (w1.drew.setCell ⟨m, 1, none⟩ (.slice a' k cc)) := (Eff.refl (fun i => i = m) w1).drew.setCell (p := ⟨m, 1, none⟩) (fun _ => rfl) _
  obtain ⟨r1, r2, r3⟩ := HH.out.rest he
  refine ⟨rfl, ⟨_, vs.take k, HH.out.cell room (.slice a' k cc) (vs.take k) (L.take k) begun credit sent M ?_ ?_ ?_ ?_ ?_ ?_ r3 HH.out.mM ?_ rfl ?_ HH.out.cr HH.out.se⟩, he⟩
  · show (w1.setCell ⟨m, 1, none⟩ (.slice a' k cc)).heap[m]? = _
    rw [heap_setCell_same HH.out.blk 1 _]; simp
  · exact own_setCell_other HO.out.drew (fun e => HH.out.mM (HH.out.vM m (by rw [← HB.out]; exact e))) _
  · exact fun i hi => HH.out.vM i (by rw [← HB.out]; exact hi)
  · rw [List.length_take, List.length_take, HH.out.len]
  · intro i u ys hu hys
    rw [List.getElem?_take] at hu hys
    split at hu
    · rename_i hi
      rw [if_pos hi] at hys
      exact r2 i u ys hu hys
    · simp at hu
  · exact fun ys hys => HH.out.ne ys (List.mem_of_mem_take hys)
  · intro hb
    have h6 := HH.out.bg hb
    have h7 := HK.out
    rw [if_pos hb] at h7
    subst h7
    cases L with
    | nil => exact absurd rfl h6
    | cons x L => simp
  · exact tot_take_le L k
end

end Go.Proofs.Ytliaeknidmbelaa
