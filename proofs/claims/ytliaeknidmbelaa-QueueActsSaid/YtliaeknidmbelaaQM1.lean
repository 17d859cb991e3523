/-
  Proved here: what a queue of the document is in memory, and what its questions answer; New, Grant, Clear; the conditions are named.
-/
import Derived.Test.YtliaeknidmbelaaQ8
import Derived.Test.YtliaeknidmbelaaQ9
namespace Go.Proofs.Ytliaeknidmbelaa
open Go.RowKit

/-- A queue of the document, as it lies in memory: 'M': blocks that nobody writes. -/
structure MSt (w : World) (M : Nat → Prop) (m : Nat) (room : Int) (v : Value) (vs : List Value) (L : List (List Int)) (begun : Bool) (credit sent : Int) : Prop where
  blk : w.heap[m]? = some (.cells #[.int .i64 room, v, .bool begun, .int .i64 credit, .int .i64 sent] 59)
  own : Own w v vs
  vM : ∀ k, v.ownBlock = some k → M k
  len : vs.length = L.length
  bts : ∀ (i : Nat) (u : Value) (xs : List Int), vs[i]? = some u → L[i]? = some xs → Bts w M u xs
  ne : ∀ xs ∈ L, 0 < xs.length
  lt : ∀ k, M k → k < w.heap.size
  mM : ¬ M m
  bg : begun = true → L ≠ []
  room0 : 19 ≤ room ∧ room ≤ 65536
  fits : (tot L : Int) ≤ room
  cr : 0 ≤ credit ∧ credit ≤ 1073741824
  se : 0 ≤ sent ∧ sent ≤ 1152921504606846976

section
variable {w w' : World} {M : Nat → Prop} {m : Nat} {room : Int} {v : Value} {vs : List Value} {L : List (List Int)} {begun : Bool} {credit sent : Int}

theorem MSt.keep (h : MSt w M m room v vs L begun credit sent) (hs : w.heap.size ≤ w'.heap.size) (hk : ∀ k, M k ∨ k = m → w'.heap[k]? = w.heap[k]?) : MSt w' M m room v vs L begun credit sent :=
  ⟨by rw [hk m (.inr rfl)]; exact h.blk, h.own.keep hs (fun k hv => hk k (.inl (h.vM k hv))), h.vM, h.len, fun i u xs hu hx => (h.bts i u xs hu hx).keep hs (fun k _ hR => hk k (.inl hR)) (fun _ h => h), h.ne, fun k hM => Nat.lt_of_lt_of_le (h.lt k hM) hs, h.mM, h.bg, h.room0, h.fits, h.cr, h.se⟩
theorem MSt.mlt (h : MSt w M m room v vs L begun credit sent) : m < w.heap.size := lt_of_heap h.blk
theorem MSt.ltAll (h : MSt w M m room v vs L begun credit sent) : ∀ k, M k ∨ k = m → k < w.heap.size := by
  rintro k (hk | rfl)
  · exact h.lt k hk
  · exact h.mlt
theorem MSt.below (h : MSt w M m room v vs L begun credit sent) (hb : Below w.heap.size w w') : MSt w' M m room v vs L begun credit sent :=
  h.keep hb.size fun k hk => hb.block k (h.ltAll k hk)
theorem MSt.eff {S : Nat → Prop} (h : MSt w M m room v vs L begun credit sent) (he : Eff S w w') (hS : ∀ k, M k ∨ k = m → ¬ S k) : MSt w' M m room v vs L begun credit sent :=
  h.keep he.size fun k hk => he.block k (h.ltAll k hk) (hS k hk)
theorem MSt.drew (h : MSt w M m room v vs L begun credit sent) : MSt w.drew M m room v vs L begun credit sent :=
  h.keep (Nat.le_refl _) fun _ _ => rfl
theorem MSt.drewN (h : MSt w M m room v vs L begun credit sent) (n : Nat) : MSt (w.drewN n) M m room v vs L begun credit sent :=
  h.keep (Nat.le_refl _) fun _ _ => rfl
theorem MSt.rows (h : MSt w M m room v vs L begun credit sent) : vs.length ≤ tot L := by
  rw [h.len]
  have := h.ne
  clear h
  induction L with
  | nil => simp
  | cons x L ih =>
    rw [tot_cons]
    have h1 := this x (by simp)
    have h2 := ih (fun ys hys => this ys (by simp [hys]))
    simp only [List.length_cons]
    omega

/-- The document's sum of lengths. -/
theorem tot_take_next (L : List (List Int)) (j : Nat) (x : List Int) (h : L[j]? = some x) : tot (L.take (j + 1)) = tot (L.take j) + x.length := tot_take_succ h
theorem tot_take_le (L : List (List Int)) (j : Nat) : tot (L.take j) ≤ tot L := by have := tot_split L j; omega

set_option maxHeartbeats 1000000 in
theorem mlen_yes (h : MSt w M m room v vs L begun credit sent) :
    Calls Try.prog 34 #[.pointer (some ⟨m, 0, none⟩)] w fun r w' => r = .returned (.int .i64 (tot L)) ∧ w' = w := by
  have c1 := cell_of h.blk 1
  obtain ⟨a, c, hv, l1, l2⟩ := h.own.shape
  unfold maxLen at l2
  have hfit := h.fits
  have hroom := h.room0
  have hrows := h.rows
  have hlen := h.len
  have HH := Lib.hid h
  subst hv
  clear h
  go_enter Try.func34, Try.ntmps34
  go_wp2_with fail
  go_loopw [3, 11] (fun s i wr => ∃ j : Nat, j ≤ vs.length ∧ i = .int .i64 j ∧ s = .int .i64 (tot (L.take j)) ∧ wr = w) (fun _ i _ => vs.length - (intOf i).toNat)
  case atStart => exact ⟨0, Nat.zero_le _, rfl, by simp [tot], rfl⟩
  case round =>
    obtain ⟨j, hj, rfl, rfl, rfl⟩ := hrel
    by_cases hjn : j < vs.length
    · obtain ⟨x, hx⟩ : ∃ x, L[j]? = some x := ⟨_, List.getElem?_eq_getElem (by omega)⟩
      obtain ⟨u, hu⟩ : ∃ u, vs[j]? = some u := ⟨_, List.getElem?_eq_getElem hjn⟩
      obtain ⟨b5, o5, c5, rfl, hb⟩ := HH.out.bts _ _ _ hu hx
      obtain ⟨g, o, cap, hv, -, -, -, -, hcl⟩ := HH.out.own.cells (by omega)
      simp only [Value.slice.injEq] at hv
      obtain ⟨rfl, -, rfl⟩ := hv
      have hcell := hcl _ _ hu
      have ht := tot_take_next L j x hx
      have hle := tot_take_le L (j + 1)
      have HT : Hid (wrap64 ((tot (L.take j) : Int) + x.length) = (tot (L.take (j + 1)) : Nat)) := Lib.hid (by rw [ht]; unfold wrap64; omega)
      clear ht hle hx hu hb hcl
      go_wp2
      go_roundw
      case rel => exact ⟨j + 1, by omega, by go_num, by rw [HT.out], by simp⟩
      case measure => simp [intOf]; omega
    · obtain rfl : j = vs.length := by omega
      go_wp2
      go_ret
      rw [List.take_of_length_le (by omega)]
      exact ⟨rfl, rfl⟩

set_option maxHeartbeats 400000 in
theorem mroom_yes (h : MSt w M m room v vs L begun credit sent) :
    Calls Try.prog 36 #[.pointer (some ⟨m, 0, none⟩)] w fun r w' => r = .returned (.int .i64 (room - tot L)) ∧ Below w.heap.size w w' := by
  have c0 := cell_of h.blk 0
  have hfit := h.fits
  have hroom := h.room0
  have HH := Lib.hid h
  clear h
  go_enter Try.func36, Try.ntmps36
  go_wp2_with fail
  go_quiet ((go_at_call 34; exact (mlen_yes (HH.out.drewN _)).mono fun _ _ ⟨he, hw⟩ => ⟨he, _, hw⟩))
  have hw : IntKind.i64.wrap (room - (tot L : Int)) = room - (tot L : Int) := by rw [IntKind.wrap_i64]; omega
  rw [hw]
  go_wp2
  go_ret
  exact ⟨rfl, below_drewN (Below.refl _ _) _⟩

set_option maxHeartbeats 400000 in
theorem mwhole_yes (h : MSt w M m room v vs L begun credit sent) :
    Calls Try.prog 35 #[.pointer (some ⟨m, 0, none⟩)] w fun r w' => r = .returned (.int .i64 ((L.length : Int) - if begun = true then 1 else 0)) ∧ w' = w := by
  have c1 := cell_of h.blk 1
  have c2 := cell_of h.blk 2
  obtain ⟨a, c, rfl, l1, l2⟩ := h.own.shape
  unfold maxLen at l2
  have hl := h.len
  have hb : begun = true → 0 < vs.length := fun e => by rw [hl]; exact List.length_pos_iff.2 (h.bg e)
  clear h
  rw [← hl]
  clear hl
  cases begun
  · clear hb
    go_enter Try.func35, Try.ntmps35
    go_wp2
    go_ret
    exact ⟨by simp, rfl⟩
  · have h0 := hb rfl
    clear hb
    go_enter Try.func35, Try.ntmps35
    go_wp2
    go_ret
    exact ⟨by simp, rfl⟩

set_option maxHeartbeats 400000 in
theorem mnew_yes (room : Int) (w : World) (h0 : 19 ≤ room) (h1 : room ≤ 65536) :
    Calls Try.prog 15 #[.int .i64 room] w fun r w' => r = .returned (.pointer (some ⟨w.heap.size, 0, none⟩)) ∧ MSt w' (fun _ => False) w.heap.size room (.slice none 0 0) [] [] false 0 0 ∧ Below w.heap.size w w' := by
  go_enter Try.func15, Try.ntmps15
  go_wp2
  go_ret
  exact ⟨rfl, ⟨heap_alloc_new _ _, Own.nil _, by simp [Value.ownBlock], rfl, by simp, by simp, by simp, by simp, by simp, ⟨h0, h1⟩, by simp [tot]; omega, by simp, by simp⟩, below_alloc (Below.refl _ _) _⟩

set_option maxHeartbeats 400000 in
theorem mnew_no (room : Int) (w : World) (h : room < 19 ∨ 65536 < room) :
    Calls Try.prog 15 #[.int .i64 room] w fun r w' => r = .returned (.pointer none) ∧ w' = w := by
  by_cases h0 : room < 19
  · clear h
    go_enter Try.func15, Try.ntmps15
    go_wp2
    go_ret
    exact ⟨rfl, rfl⟩
  · have h1 := h.resolve_left h0
    clear h
    go_enter Try.func15, Try.ntmps15
    go_wp2
    go_ret
    exact ⟨rfl, rfl⟩

theorem MSt.cell (h : MSt w M m room v vs L begun credit sent) (room' : Int) (v' : Value) (vs' : List Value) (L' : List (List Int)) (begun' : Bool) (credit' sent' : Int) (M' : Nat → Prop)
    (hb : w'.heap[m]? = some (.cells #[.int .i64 room', v', .bool begun', .int .i64 credit', .int .i64 sent'] 59))
    (hown : Own w' v' vs') (hvM : ∀ k, v'.ownBlock = some k → M' k) (hlen : vs'.length = L'.length) (hbts : ∀ (i : Nat) (u : Value) (xs : List Int), vs'[i]? = some u → L'[i]? = some xs → Bts w' M' u xs) (hne : ∀ xs ∈ L', 0 < xs.length)
    (hlt : ∀ k, M' k → k < w'.heap.size) (hm : ¬ M' m) (hbg : begun' = true → L' ≠ []) (hr : room' = room) (hf : tot L' ≤ tot L) (hc : 0 ≤ credit' ∧ credit' ≤ 1073741824) (hs : 0 ≤ sent' ∧ sent' ≤ 1152921504606846976) : MSt w' M' m room v' vs' L' begun' credit' sent' := by
  subst hr
  exact ⟨hb, hown, hvM, hlen, hbts, hne, hlt, hm, hbg, h.room0, by have := h.fits; omega, hc, hs⟩

/-- The rows, where just the queue's own block is written. -/
theorem MSt.rest (h : MSt w M m room v vs L begun credit sent) (he : Eff (fun k => k = m) w w') : Own w' v vs ∧ (∀ (i : Nat) (u : Value) (xs : List Int), vs[i]? = some u → L[i]? = some xs → Bts w' M u xs) ∧ ∀ k, M k → k < w'.heap.size :=
  ⟨h.own.eff he (fun k hk e => h.mM (e ▸ h.vM k hk)), fun i u xs hu hx => (h.bts i u xs hu hx).keep he.size (fun k hk hM => he.block k hk (fun e => h.mM (e ▸ hM))) (fun _ hk => hk), fun k hk => Nat.lt_of_lt_of_le (h.lt k hk) he.size⟩

set_option maxHeartbeats 1000000 in
theorem mgrant_yes (h : MSt w M m room v vs L begun credit sent) (n : Int) :
    Calls Try.prog 30 #[.pointer (some ⟨m, 0, none⟩), .int .i64 n] w fun r w' => r = .returned (.int .i64 (grantM credit n)) ∧ MSt w' M m room v vs L begun (grantM credit n) sent ∧ Eff (fun k => k = m) w w' := by
  have c3 := cell_of h.blk 3
  have z1 := free_of h.blk
  have hcr := h.cr
  have HH := Lib.hid h
  have hml := h.mlt
  clear h
  have fin : ∀ g : Int, 0 ≤ g ∧ g ≤ 1073741824 → MSt (w.setCell ⟨m, 3, none⟩ (.int .i64 g)) M m room v vs L begun g sent ∧ Eff (fun k => k = m) w (w.setCell ⟨m, 3, none⟩ (.int .i64 g)) := fun g hg => by
    have he : Eff (fun k => k = m) w (w.setCell ⟨m, 3, none⟩ (.int .i64 g)) := (Eff.refl (fun k => k = m) w).setCell (p := ⟨m, 3, none⟩) (fun _ => rfl) _
    obtain ⟨r1, r2, r3⟩ := HH.out.rest he
    exact ⟨HH.out.cell room v vs L begun g sent M (by rw [heap_setCell_same HH.out.blk 3 _]; simp) r1 HH.out.vM HH.out.len r2 HH.out.ne r3 HH.out.mM HH.out.bg rfl (Nat.le_refl _) hg HH.out.se, he⟩
  have FIN := Lib.hid fin
  clear fin
  by_cases h1 : n ≤ 0
  · have hg : grantM credit n = credit := by simp [grantM, h1]
    rw [hg]
    clear hg
    go_enter Try.func30, Try.ntmps30
    go_wp2
    go_ret
    exact ⟨rfl, HH.out, Eff.refl _ _⟩
  · have e1 : wrap64 (1073741824 - credit) = 1073741824 - credit := by unfold wrap64; omega
    by_cases h2 : n ≤ 1073741824 - credit
    · have hg : grantM credit n = credit + n := by simp [grantM, h1, h2]
      have e2 : wrap64 (credit + n) = credit + n := by unfold wrap64; omega
      have F := FIN.out (credit + n) (by omega)
      rw [hg]
      have HF := Lib.hid F
      clear hg F
      go_enter Try.func30, Try.ntmps30
      go_wp2
      go_ret
      exact ⟨rfl, HF.out⟩
    · have hg : grantM credit n = 1073741824 := by simp [grantM, h1, h2]
      have e2 : wrap64 (credit + (1073741824 - credit)) = 1073741824 := by unfold wrap64; omega
      have F := FIN.out 1073741824 (by omega)
      rw [hg]
      have HF := Lib.hid F
      clear hg F
      go_enter Try.func30, Try.ntmps30
      go_wp2
      go_ret
      have e3 : credit + (1073741824 - credit) = 1073741824 := by omega
      rw [e3]
      exact ⟨rfl, HF.out⟩

set_option maxHeartbeats 400000 in
theorem mclear_yes (h : MSt w M m room v vs L begun credit sent) :
    Calls Try.prog 33 #[.pointer (some ⟨m, 0, none⟩)] w fun r w' => r = .returned (.tuple #[]) ∧ MSt w' M m room (.slice none 0 0) [] [] false 0 sent ∧ Eff (fun k => k = m) w w' := by
  have c1 := cell_of h.blk 1
  have c2 := cell_of h.blk 2
  have c3 := cell_of h.blk 3
  have z1 := free_of h.blk
  have HH := Lib.hid h
  have hml := h.mlt
  clear h
  go_enter Try.func33, Try.ntmps33
  go_wp2
  go_end0
  have he : Eff (fun k => k = m) w (((w.setCell ⟨m, 1, none⟩ (.slice none 0 0)).setCell ⟨m, 2, none⟩ (.bool false)).setCell ⟨m, 3, none⟩ (.int .i64 0)) :=
    (((Eff.refl (fun k => k = m) w).setCell (p := ⟨m, 1, none⟩) (fun _ => rfl) _).setCell (p := ⟨m, 2, none⟩) (fun _ => rfl) _).setCell (p := ⟨m, 3, none⟩) (fun _ => rfl) _
  obtain ⟨-, -, r3⟩ := HH.out.rest he
  refine ⟨rfl, HH.out.cell room _ [] [] false 0 sent M ?_ (Own.nil _) (by simp [Value.ownBlock]) rfl (by simp) (by simp) r3 HH.out.mM (by simp) rfl (by simp [tot]) (by simp) HH.out.se, he⟩
  rw [heap_setCell_same (heap_setCell_same (heap_setCell_same HH.out.blk 1 _) 2 _) 3 _]
  simp
end

end Go.Proofs.Ytliaeknidmbelaa
