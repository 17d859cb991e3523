/-
  Proved here: what Take of the document's queue does; the conditions are named.
-/
import Derived.Test.YtliaeknidmbelaaQM2
namespace Go.Proofs.Ytliaeknidmbelaa
open Go.RowKit

section
variable {w w' : World} {M : Nat → Prop} {m : Nat} {room : Int} {v : Value} {vs : List Value} {L : List (List Int)} {begun : Bool} {credit sent : Int}

/-- 's[1:]'. -/
theorem Own.cutTail {P : Program} {t e : TypeId} {g o n cap : Nat} {u0 : Value} {vs' : List Value} (h : Own w (.slice (some ⟨g, o, none⟩) (n + 1) cap) (u0 :: vs')) (ht : P.underlying t = some (.slice e)) (hz : ∀ w, (Go.sizeOf e).run P w = .ok 1 w) :
    (∀ vw : World, (Instr.slice t (.slice (some ⟨g, o, none⟩) (n + 1) cap) (some (.int .i64 1)) none none).run P vw = .ok (.slice (if cap = 1 then some ⟨g, o, none⟩ else some ⟨g, o + 1, none⟩) n (cap - 1)) vw) ∧
      Own w (.slice (if cap = 1 then some ⟨g, o, none⟩ else some ⟨g, o + 1, none⟩) n (cap - 1)) vs' ∧ (Value.slice (if cap = 1 then some ⟨g, o, none⟩ else some ⟨g, o + 1, none⟩) n (cap - 1)).ownBlock = some g := by
  have e : (if cap = 1 then some (⟨g, o, none⟩ : Addr) else some ⟨g, o + 1, none⟩) = some ⟨g, if cap = 1 then o else o + 1, none⟩ := by split <;> rfl
  rw [e]
  refine ⟨fun vw => ?_, ?_, rfl⟩
  · have := cut_lo ht hz vw g o (n + 1) cap 1 (by omega)
    simpa using this
  · have := h.tail
    simpa using this

/-- What a round of Take looks at. -/
theorem MSt.first {x : List Int} (h : MSt w M m room v vs (x :: L) begun credit sent) :
    ∃ b o c rb ro cc vs', vs = .slice (some ⟨b, o, none⟩) x.length c :: vs' ∧ v = .slice (some ⟨rb, ro, none⟩) (vs'.length + 1) cc ∧ vs'.length + 1 ≤ cc ∧ cc ≤ maxLen ∧ x.length ≤ c ∧ c ≤ maxLen ∧ M b ∧ M rb ∧
      w.cell? ⟨rb, ro, none⟩ = some (.slice (some ⟨b, o, none⟩) x.length c) ∧ vs'.length = L.length := by
  have hl := h.len
  obtain ⟨u, vs', rfl⟩ : ∃ u vs', vs = u :: vs' := by
    cases vs with
    | nil => simp at hl
    | cons u vs' => exact ⟨u, vs', rfl⟩
  obtain ⟨b, o, c, rfl, h1, h2, h3, h4, h5⟩ := h.bts 0 u x rfl rfl
  obtain ⟨rb, ro, cc, hv, g1, g2, g3, g4, g5⟩ := h.own.cells (by simp)
  have hO := h.vM rb (by rw [hv]; rfl)
  exact ⟨b, o, c, rb, ro, cc, vs', rfl, hv, by simpa using g2, g3, h3, h4, h1, hO, g5 0 _ rfl, by simpa using hl⟩

theorem MSt.headLies {b o c : Nat} {vs' : List Value} {x : List Int} (h : MSt w M m room v (.slice (some ⟨b, o, none⟩) x.length c :: vs') (x :: L) begun credit sent) (n cap : Nat) (hn : n ≤ x.length) :
    Lies w (.slice (some ⟨b, o, none⟩) n cap) (x.take n) := by
  obtain ⟨b', o', c', hb, g1, g2, g3, g4, g5⟩ := h.bts 0 _ x rfl rfl
  simp only [Value.slice.injEq, Option.some.injEq, Addr.mk.injEq] at hb
  obtain ⟨⟨rfl, rfl, -⟩, -, rfl⟩ := hb
  refine ⟨b, o, cap, by rw [List.length_take, Nat.min_eq_left hn], g2, fun j y hj => ?_⟩
  rw [List.getElem?_take] at hj
  split at hj
  · exact g5 j y hj
  · simp at hj

theorem MSt.wholed {u0 V : Value} {vs' : List Value} {x : List Int} (h : MSt w M m room v (u0 :: vs') (x :: L) begun credit sent) (hx : (x.length : Int) ≤ credit) (hV : Own w V vs') (hVb : V.ownBlock = v.ownBlock) :
    MSt (((w.setCell ⟨m, 3, none⟩ (.int .i64 (credit - x.length))).setCell ⟨m, 2, none⟩ (.bool false)).setCell ⟨m, 1, none⟩ V) M m room V vs' L false (credit - x.length) sent ∧
    Eff (fun k => k = m) w (((w.setCell ⟨m, 3, none⟩ (.int .i64 (credit - x.length))).setCell ⟨m, 2, none⟩ (.bool false)).setCell ⟨m, 1, none⟩ V) := by
  have he : Eff (fun k => k = m) w (((w.setCell ⟨m, 3, none⟩ (.int .i64 (credit - x.length))).setCell ⟨m, 2, none⟩ (.bool false)).setCell ⟨m, 1, none⟩ V) :=
    (((Eff.refl (fun k => k = m) w).setCell (p := ⟨m, 3, none⟩) (fun _ => rfl) _).setCell (p := ⟨m, 2, none⟩) (fun _ => rfl) _).setCell (p := ⟨m, 1, none⟩) (fun _ => rfl) _
  obtain ⟨-, r2, r3⟩ := h.rest he
  have hc := h.cr
  refine ⟨h.cell room V vs' L false (credit - x.length) sent M ?_ ?_ ?_ (by simpa using h.len) ?_ (fun ys hys => h.ne ys (by simp [hys])) r3 h.mM (by simp) rfl (by rw [tot_cons]; omega) (by omega) h.se, he⟩
  · rw [heap_setCell_same (heap_setCell_same (heap_setCell_same h.blk 3 _) 2 _) 1 _]; simp
  · have hne : V.ownBlock ≠ some m := fun e => h.mM (h.vM m (by rw [← hVb]; exact e))
    exact own_setCell_other (own_setCell_other (own_setCell_other hV hne _) hne _) hne _
  · exact fun k hk => h.vM k (by rw [← hVb]; exact hk)
  · exact fun i u ys hu hys => r2 (i + 1) u ys (by simpa using hu) (by simpa using hys)

theorem MSt.parted {b o c n : Nat} {v2 : Value} {vs' : List Value} {x : List Int} (h : MSt w M m room v (.slice (some ⟨b, o, none⟩) x.length c :: vs') (x :: L) begun credit sent) (h0 : 0 < n) (hn : n < x.length) {w2 : World}
    (hE : Eff (fun k => k = m) w w2) (hb : w2.heap[m]? = some (.cells #[.int .i64 room, v, .bool true, .int .i64 0, .int .i64 sent] 59))
    (h2 : Own w2 v2 (.slice (some ⟨b, o + n, none⟩) (x.length - n) (c - n) :: vs')) (k2 : ∀ k, v2.ownBlock = some k → w.heap.size ≤ k) :
    ∃ M', MSt (w2.setCell ⟨m, 1, none⟩ v2) M' m room v2 (.slice (some ⟨b, o + n, none⟩) (x.length - n) (c - n) :: vs') (x.drop n :: L) true 0 sent ∧ Eff (fun k => k = m) w (w2.setCell ⟨m, 1, none⟩ v2) ∧ ∀ k, M' k → M k ∨ v2.ownBlock = some k := by
  have hm := h.mlt
  have he : Eff (fun k => k = m) w (w2.setCell ⟨m, 1, none⟩ v2) := hE.setCell (p := ⟨m, 1, none⟩) (fun _ => rfl) _
  obtain ⟨-, r2, r3⟩ := h.rest he
  refine ⟨fun k => M k ∨ v2.ownBlock = some k, h.cell room v2 _ (x.drop n :: L) true 0 sent _ ?_ ?_ (fun k hk => .inr hk) (by simpa using h.len) ?_ ?_ ?_ ?_ (by simp) rfl ?_ (by simp) h.se, he, fun k hk => hk⟩
  · rw [heap_setCell_same hb 1 _]; simp
  · exact own_setCell_other h2 (fun e => by have := k2 m e; omega) _
  · intro i u ys hu hys
    rcases i with _ | i
    · simp at hu hys
      subst hu hys
      obtain ⟨b', o', c', hb', g1, g2, g3, g4, g5⟩ := r2 0 _ x rfl rfl
      simp only [Value.slice.injEq, Option.some.injEq, Addr.mk.injEq] at hb'
      obtain ⟨⟨rfl, rfl, -⟩, -, rfl⟩ := hb'
      refine ⟨b, o + n, c - n, by rw [List.length_drop], .inl g1, g2, by rw [List.length_drop]; omega, by omega, fun j y hj => ?_⟩
      rw [Nat.add_assoc]
      exact g5 (n + j) y (by simpa [List.getElem?_drop] using hj)
    · exact (r2 (i + 1) u ys (by simpa using hu) (by simpa using hys)).keep (Nat.le_refl _) (fun _ _ _ => rfl) (fun _ hk => .inl hk)
  · intro ys hys
    rcases List.mem_cons.1 hys with rfl | hys
    · rw [List.length_drop]; omega
    · exact h.ne ys (by simp [hys])
  · rintro k (hk | hk)
    · exact r3 k hk
    · have := h2.lt k hk; simpa [World.setCell] using this
  · rintro (hk | hk)
    · exact h.mM hk
    · have := k2 m hk; omega
  · rw [tot_cons, tot_cons, List.length_drop]; omega

/-- How far a Take has to go. -/
def mTakeW (m : Nat) (w : World) : Nat :=
  (match w.cell? ⟨m, 1, none⟩ with | some (.slice _ n _) => n | _ => 0) + (match w.cell? ⟨m, 3, none⟩ with | some (.int _ c) => (if c = 0 then 0 else 1) | _ => 0)
theorem MSt.takeW (h : MSt w M m room v vs L begun credit sent) : mTakeW m w = L.length + if credit = 0 then 0 else 1 := by
  obtain ⟨a, c, rfl, -, -⟩ := h.own.shape
  have c1 := cell_of h.blk 1
  have c3 := cell_of h.blk 3
  simp at c1 c3
  unfold mTakeW
  rw [c1, c3]
  simp [h.len]

theorem MSt.added (h : MSt w M m room v vs L begun credit sent) (s : Int) (hs : 0 ≤ s ∧ s ≤ 1152921504606846976) : MSt (w.setCell ⟨m, 4, none⟩ (.int .i64 s)) M m room v vs L begun credit s ∧ Eff (fun k => k = m) w (w.setCell ⟨m, 4, none⟩ (.int .i64 s)) := by
  have he : Eff (fun k => k = m) w (w.setCell ⟨m, 4, none⟩ (.int .i64 s)) := (Eff.refl (fun k => k = m) w).setCell (p := ⟨m, 4, none⟩) (fun _ => rfl) _
  obtain ⟨r1, r2, r3⟩ := h.rest he
  exact ⟨h.cell room v vs L begun credit s M (by rw [heap_setCell_same h.blk 4 _]; simp) r1 h.vM h.len r2 h.ne r3 h.mM h.bg rfl (Nat.le_refl _) h.cr hs, he⟩

theorem Own.lit {w : World} {u : Value} {t : TypeId} : Own (w.alloc (.cells #[u] t)) (.slice (some ⟨w.heap.size, 0, none⟩) 1 1) [u] := by
  refine .inr ⟨w.heap.size, 0, 1, rfl, by simp, Nat.le_refl _, by simp [maxLen], fun j hj => ?_, fun j y hj => ?_⟩
  · obtain rfl : j = 0 := by omega
    exact ⟨by rw [World.cell?_alloc_new w]; rfl, World.frozen?_alloc_new w _ _ _⟩
  · rcases j with _ | j
    · rw [World.cell?_alloc_new w]
      simpa using hj
    · simp at hj

/-- Take's loop, at a round's head. -/
def MTakeAt (w : World) (M : Nat → Prop) (m : Nat) (room : Int) (c0 : Nat) (L0 : List (List Int)) (b0 : Bool) (sent : Int) (ov : Value) (wr : World) : Prop :=
  ∃ (acc : List Int) (L1 : List (List Int)) (b1 : Bool) (c1 : Nat) (v1 : Value) (vs1 : List Value) (M1 : Nat → Prop), MSt wr M1 m room v1 vs1 L1 b1 (c1 : Int) sent ∧ Own wr ov (u8s acc) ∧ (∀ k, ov.ownBlock = some k → w.heap.size ≤ k ∧ ¬ M1 k) ∧ Eff (fun k => k = m) w wr ∧
    takeM c0 L0 b0 = (acc ++ (takeM c1 L1 b1).1, (takeM c1 L1 b1).2) ∧ ∀ k, M1 k → M k ∨ w.heap.size ≤ k

set_option maxRecDepth 100000 in
set_option maxHeartbeats 2000000 in
theorem mtake_yes (h : MSt w M m room v vs L begun credit sent) (hs : sent + tot L ≤ 1152921504606846976) :
    Calls Try.prog 31 #[.pointer (some ⟨m, 0, none⟩)] w fun e w' => ∃ u M' v' vs', e = .returned u ∧ Own w' u (u8s (takeM credit.toNat L begun).1) ∧
      MSt w' M' m room v' vs' (takeM credit.toNat L begun).2.1 (takeM credit.toNat L begun).2.2.1 (takeM credit.toNat L begun).2.2.2 (sent + (takeM credit.toNat L begun).1.length) ∧ Eff (fun k => k = m) w w' ∧ ∀ k, M' k → M k ∨ w.heap.size ≤ k := by
  go_enter Try.func31, Try.ntmps31
  obtain ⟨i0, hi, hz0, hz1, hz2⟩ := info_parts infoU8
  obtain ⟨j0, ri, rz0, rz1, rz2⟩ := info_parts infoRow
  have HH := Lib.hid h
  have hcr := h.cr
  have hfit := h.fits
  have hroom := h.room0
  have hse := h.se
  clear h
  go_wp2_with fail
  go_loopw [3] (fun ov wr => MTakeAt w M m room credit.toNat L begun sent ov wr) (fun _ wr => mTakeW m wr)
  case atStart =>
    have e : ((credit.toNat : Nat) : Int) = credit := by omega
    exact ⟨[], L, begun, credit.toNat, v, vs, M, by rw [e]; exact HH.out, Own.nil _, by simp [Value.ownBlock], Eff.refl _ _, by simp, fun _ hk => .inl hk⟩
  case round =>
    obtain ⟨acc, L1, b1, c1, v1, vs1, M1, h1, ho, hnew, he, hM, hM1⟩ := hrel
    have hT := takeM_sum L credit.toNat begun
    have hT1 := takeM_sum L1 c1 b1
    have hacc : acc.length + tot L1 = tot L := by
      rw [hM] at hT
      simp only [List.length_append] at hT
      omega
    have k1 := cell_of h1.blk 1
    have k3 := cell_of h1.blk 3
    have k4 := cell_of h1.blk 4
    have z4 := free_of h1.blk 4
    have HW := Lib.hid h1.takeW
    obtain ⟨a1, cc1, rfl, m1, m2⟩ := h1.own.shape
    have hlen := h1.len
    have H1 := Lib.hid h1
    have HO := Lib.hid ho
    have HE := Lib.hid he
    have HM := Lib.hid hM
    have HN := Lib.hid hnew
    have HM1 := Lib.hid hM1
    unfold maxLen at m2
    clear h1 ho he hM hT hT1 hnew hM1
    by_cases hstop : c1 = 0 ∨ L1 = []
    · have hfin : takeM credit.toNat L begun = (acc, L1, b1, c1) := by
        rw [HM.out]
        rcases hstop with rfl | rfl
        · rw [takeM_zero]; simp
        · rw [takeM_nil]; simp
      have hL0 : c1 = 0 ∨ (0 < c1 ∧ vs1.length = 0) := by
        by_cases h7 : c1 = 0
        · exact .inl h7
        · exact .inr ⟨by omega, by rw [hlen, hstop.resolve_left h7]; rfl⟩
      have hml : m < wr.heap.size := H1.out.mlt
      obtain ⟨a3, cc3, rfl, m3, m4⟩ := HO.out.shape
      rw [u8s_length] at *
      unfold maxLen at m4
      have hne : (Value.slice a3 acc.length cc3).ownBlock ≠ some m := fun e => by have := HN.out m e; have := HH.out.mlt; omega
      have hfinal : ∃ u M' v' vs', Value.slice a3 acc.length cc3 = u ∧ Own (wr.setCell ⟨m, 4, none⟩ (.int .i64 (sent + acc.length))) u (u8s (takeM credit.toNat L begun).1) ∧
          MSt (wr.setCell ⟨m, 4, none⟩ (.int .i64 (sent + acc.length))) M' m room v' vs' (takeM credit.toNat L begun).2.1 (takeM credit.toNat L begun).2.2.1 (takeM credit.toNat L begun).2.2.2 (sent + (takeM credit.toNat L begun).1.length) ∧
          Eff (fun k => k = m) w (wr.setCell ⟨m, 4, none⟩ (.int .i64 (sent + acc.length))) ∧ ∀ k, M' k → M k ∨ w.heap.size ≤ k := by
        obtain ⟨p1, p2⟩ := H1.out.added (sent + acc.length) (by omega)
        refine ⟨_, M1, .slice a1 vs1.length cc1, vs1, rfl, ?_, ?_, HE.out.trans p2, HM1.out⟩
        · rw [hfin]; exact own_setCell_other HO.out hne _
        · rw [hfin]; exact p1
      have hw : wrap64 (sent + acc.length) = sent + acc.length := by unfold wrap64; omega
      have HFI := Lib.hid hfinal
      clear hfinal hfin hne hstop hlen HW
      rcases hL0 with rfl | ⟨hc0, hv0⟩
      · have k3' : wr.cell? ⟨m, 3, none⟩ = some (.int .i64 0) := by simpa using k3
        clear k3
        go_wp2_with fail
        go_ret
        obtain ⟨u, M', v', vs', e1, f⟩ := HFI.out
        exact ⟨u, M', v', vs', by rw [← e1]; rfl, f⟩
      · go_wp2_with fail
        go_ret
        obtain ⟨u, M', v', vs', e1, f⟩ := HFI.out
        exact ⟨u, M', v', vs', by rw [← e1]; rfl, f⟩
    · obtain ⟨x, L2, rfl⟩ : ∃ x L2, L1 = x :: L2 := by
        cases L1 with
        | nil => exact absurd (.inr rfl) hstop
        | cons x L2 => exact ⟨x, L2, rfl⟩
      have hc1 : c1 ≠ 0 := fun e => hstop (.inl e)
      clear hstop hlen
      obtain ⟨b, o, c, rb, ro, cc, vs', rfl, hv, k5, k6, k7, k8, hMb, hMr, e0, hvl⟩ := H1.out.first
      simp only [Value.slice.injEq] at hv
      obtain ⟨rfl, -, rfl⟩ := hv
      simp only [List.length_cons] at k1 m1
      obtain ⟨a3, cc3, rfl, m3, m4⟩ := HO.out.shape
      rw [u8s_length] at *
      unfold maxLen at m4 k8
      have hxl : x.length + tot L2 = tot (x :: L2) := (tot_cons _ _).symm
      have hx0 : 0 < x.length := H1.out.ne x (by simp)
      have hc1m := H1.out.cr
      obtain ⟨s3, t1, t2⟩ := Own.cutTail (n := vs'.length) H1.out.own Try.underlying22 sizeRow
      have HVL := Lib.hid hvl
      clear hvl
      generalize hA' : (if cc1 = 1 then some (⟨rb, ro, none⟩ : Addr) else some ⟨rb, ro + 1, none⟩) = a' at s3 t1 t2
      have HA' := Lib.hid hA'
      clear hA'
      have T1 := Lib.hid t1
      have T2 := Lib.hid t2
      have S0 := HE.out.size
      have hml0 := HH.out.mlt
      clear t1 t2
      by_cases hx : x.length ≤ c1
      · have s1 := fun v => cut_hi Try.underlying23 sizeU8 v b o x.length c x.length (by omega)
        have hl := H1.out.headLies x.length c (Nat.le_refl _)
        rw [List.take_of_length_le (Nat.le_refl _)] at hl
        have HL := Lib.hid hl
        clear hl
        go_wp2_with (first
          | (at_builtin
             go_loud
               (refine wpList_own_append _ rfl _ _ 23 rfl 5 i0 (.int .u8 0) 1 Try.underlying23 hi hz0 hz1 hz2 rfl (.slice a3 acc.length cc3) (u8s acc) rfl HO.out _ x.length (u8s x) rfl HL.out.src (by rw [u8s_length]; unfold maxLen; omega) (by rw [u8s_length]; omega) ?_
                intro u2 w2 hown2 heff2 hblk2
                have HO2 := Lib.hid hown2
                have HE2 := Lib.hid heff2
                have HB2 := Lib.hid hblk2
                have H2 := Lib.hid (H1.out.eff heff2 (fun k hk e => by rcases hk with hk | rfl; exact (HN.out k e).2 hk; have := HN.out _ e; omega))
                have d1 := cell_of H2.out.blk 1
                have d2 := cell_of H2.out.blk 2
                have d3 := cell_of H2.out.blk 3
                have y := free_of H2.out.blk
                have hml := H2.out.mlt
                clear hown2 heff2 hblk2)))
        have hu2 : ∀ k, u2.ownBlock = some k → w.heap.size ≤ k ∧ ¬ M1 k := fun k hk => by
          rcases HB2.out with e | e
          · rw [e] at hk; exact HN.out k hk
          · rw [e] at hk; simp at hk; subst hk; exact ⟨S0, fun h6 => by have := H1.out.lt _ h6; omega⟩
        obtain ⟨p1, p2⟩ := H2.out.wholed (V := .slice a' vs'.length (cc1 - 1)) (by omega) (T1.out.eff HE2.out (fun k hk e => (HN.out k e).2 (by rw [T2.out] at hk; simp at hk; exact hk ▸ hMr))) T2.out
        have p3 := p1.takeW
        have hE2 : Eff (fun k => k = m) w w2 := HE.out.trans_new HE2.out (fun i hi e => by have := HN.out i e; omega)
        go_roundw
        case rel => exact ⟨acc ++ x, L2, false, c1 - x.length, _, vs', M1, by rw [show ((c1 - x.length : Nat) : Int) = (c1 : Int) - x.length by omega]; exact p1, by rw [u8s_append]; exact HO2.out.eff p2 (fun k hk e => by have := hu2 k hk; omega), hu2, hE2.trans p2, by rw [HM.out, takeM_whole hc1 hx]; simp, HM1.out⟩
        case measure =>
          rw [p3, HW.out]
          simp only [List.length_cons]; split <;> split <;> omega
      · have s1 := fun v => cut_hi Try.underlying23 sizeU8 v b o x.length c c1 (by omega)
        have s2 := fun v => cut_lo Try.underlying23 sizeU8 v b o x.length c c1 (by omega)
        simp only [show ¬ c = c1 by omega, if_false] at s2
        have hl := H1.out.headLies c1 c (by omega)
        have hlt : (x.take c1).length = c1 := by rw [List.length_take]; omega
        have HL := Lib.hid hl
        have hsrc := HL.out.src
        rw [hlt] at hsrc
        have HSRC := Lib.hid hsrc
        clear hl hsrc hlt
        go_wp2_with (first
          | (at_builtin
             go_loud
               (refine wpList_own_append _ rfl _ _ 23 rfl 5 i0 (.int .u8 0) 1 Try.underlying23 hi hz0 hz1 hz2 rfl (.slice a3 acc.length cc3) (u8s acc) rfl HO.out _ c1 (u8s (x.take c1)) rfl HSRC.out (by rw [u8s_length]; unfold maxLen; omega) (by rw [u8s_length]; omega) ?_
                intro u2 w2 hown2 heff2 hblk2
                have HO2 := Lib.hid hown2
                have HE2 := Lib.hid heff2
                have HB2 := Lib.hid hblk2
                have H2 := Lib.hid (H1.out.eff heff2 (fun k hk e => by rcases hk with hk | rfl; exact (HN.out k e).2 hk; have := HN.out _ e; omega))
                have d1 := cell_of H2.out.blk 1
                have d2 := cell_of H2.out.blk 2
                have d3 := cell_of H2.out.blk 3
                have y := free_of H2.out.blk
                have hml := H2.out.mlt
                clear hown2 heff2 hblk2)))
        have hu2 : Hid (∀ k, u2.ownBlock = some k → w.heap.size ≤ k ∧ ¬ M1 k ∧ k < w2.heap.size) := Lib.hid (fun k hk => by
          have h9 := HO2.out.lt k hk
          rcases HB2.out with e | e
          · rw [e] at hk; have h8 := HN.out k hk; exact ⟨h8.1, h8.2, h9⟩
          · rw [e] at hk; simp at hk; subst hk; exact ⟨S0, fun h6 => by have := H1.out.lt _ h6; omega, h9⟩)
        have b0 := heap_setCell_same (heap_setCell_same H2.out.blk 3 (.int .i64 0)) 2 (.bool true)
        have E0 : Eff (fun k => k = m) w2 ((w2.setCell ⟨m, 3, none⟩ (.int .i64 0)).setCell ⟨m, 2, none⟩ (.bool true)) :=
          ((Eff.refl (fun k => k = m) w2).setCell (p := ⟨m, 3, none⟩) (fun _ => rfl) _).setCell (p := ⟨m, 2, none⟩) (fun _ => rfl) _
        have t3 := (T1.out.eff HE2.out (fun k hk e => (HN.out k e).2 (by rw [T2.out] at hk; simp at hk; exact hk ▸ hMr))).eff E0 (fun k hk e => by rw [T2.out] at hk; simp at hk; subst hk; subst e; exact H2.out.mM hMr)
        clear d1 d2 d3 y hml
        generalize hv0 : (w2.setCell ⟨m, 3, none⟩ (.int .i64 0)).setCell ⟨m, 2, none⟩ (.bool true) = v0 at *
        clear hv0
        have d1 : v0.cell? ⟨m, 1, none⟩ = some (.slice (some ⟨rb, ro, none⟩) (vs'.length + 1) cc1) := cell_of b0 1
        have hm0 : m < v0.heap.size := lt_of_heap b0
        have B0 := Lib.hid b0
        have E0 := Lib.hid E0
        have T3 := Lib.hid t3
        have hvs : vs'.length ≤ 65536 := by have h6 := H1.out.rows; have h7 := H1.out.fits; simp only [List.length_cons] at h6; omega
        clear b0 t3
        go_region_law (refine step_own_append _ rfl (.tmp 65) (.tmp 70) 22 rfl 23 j0 (.slice none 0 0) 24 Try.underlying22 ri rz0 rz1 rz2 rfl (.slice (some ⟨v0.heap.size, 0, none⟩) 1 1) [.slice (some ⟨b, o + c1, none⟩) (x.length - c1) (c - c1)] rfl Own.lit (.slice a' vs'.length (cc1 - 1)) vs'.length vs' rfl ?_ ?_ ?_ ?_
                       · exact ((T3.out.drew).alloc _).src Try.underlying22 (fun u hu => H1.out.one u (by simp [hu]))
                       · (unfold maxLen; simp; omega)
                       · (simp; omega)
                       intro v3 w3 hown3 heff3 hblk3
                       obtain ⟨a9, c9, rfl, -, -⟩ := hown3.shape
                       have blk3 := heff3.keep (heap_alloc_old (w := v0.drew) B0.out) (fun e => by simp [Value.ownBlock] at e; omega)
                       have f1 := cell_of blk3 1
                       have g1 := free_of blk3 1
                       have hm3 := lt_of_heap blk3)
        all_goals
          have E3 : Eff (fun k => k = m) w2 w3 := E0.out.drew.alloc _ |>.trans_new heff3 (fun i hi e => by have := E0.out.size; simp [Value.ownBlock] at e; omega)
          have k3 : ∀ k, (Value.slice a9 (vs'.length + 1) c9).ownBlock = some k → w2.heap.size ≤ k := fun k hk => by
            have := E0.out.size
            rcases hblk3 with e | e
            · rw [show (Value.slice a9 (vs'.length + 1) c9).ownBlock = _ from e] at hk; simp [Value.ownBlock] at hk; omega
            · rw [show (Value.slice a9 (vs'.length + 1) c9).ownBlock = _ from e] at hk; simp at hk; omega
          have hE2 : Eff (fun k => k = m) w w2 := HE.out.trans_new HE2.out (fun i hi e => by have := HN.out i e; omega)
          have hs2 := hE2.size
          obtain ⟨M2, p1, p2, p3⟩ := H2.out.parted (v2 := .slice a9 (vs'.length + 1) c9) (n := c1) (by omega) (by omega) E3 blk3 (by simpa using hown3) k3
          have p4 := p1.takeW
          go_wp2
          go_roundw
          case rel => exact ⟨acc ++ x.take c1, x.drop c1 :: L2, true, 0, _, _, M2, p1, by rw [u8s_append]; exact HO2.out.eff p2 (fun k hk e => by have := hu2.out k hk; omega), fun k hk => ⟨(hu2.out k hk).1, fun h6 => by
            rcases p3 k h6 with h7 | h7
            · exact (hu2.out k hk).2.1 h7
            · have := k3 k h7; have := (hu2.out k hk).2.2; omega⟩, hE2.trans p2, by rw [HM.out, takeM_part hc1 hx, takeM_zero]; simp, fun k hk => by
            rcases p3 k hk with h7 | h7
            · exact HM1.out k h7
            · exact .inr (Nat.le_trans hs2 (k3 k h7))⟩
          case measure =>
            rw [p4, HW.out]
            simp [hc1]
end

end Go.Proofs.Ytliaeknidmbelaa
