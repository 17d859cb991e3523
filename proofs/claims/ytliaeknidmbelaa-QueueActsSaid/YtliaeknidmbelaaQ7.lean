/-
  Proved here: what Drop of the package queue does; the conditions are named.
-/
import Derived.Test.YtliaeknidmbelaaQ6
namespace Go.Proofs.Ytliaeknidmbelaa
open Go.RowKit

section
variable {w : World} {O R : Nat → Prop} {q : Nat} {room : Int} {v : Value} {vs : List Value} {L : List (List Int)} {begun : Bool} {credit sent : Int}

theorem whole_n (h : QSt w O R q room v vs L begun credit sent) (k n : Nat) (hk : k = if begun = true then 1 else 0) (hn : L.length = k + n) :
    Calls Try.prog 21 #[.pointer (some ⟨q, 0, none⟩)] w fun r w' => r = .returned (.int .i64 n) ∧ w' = w := by
  have := whole_yes h
  have e : ((L.length : Int) - if begun = true then 1 else 0) = n := by
    rw [hn]; subst hk; split <;> omega
  rw [e] at this
  exact this

theorem keep_fits (h : QSt w O R q room v vs L begun credit sent) : ∃ k n : Nat, (k = if begun = true then 1 else 0) ∧ L.length = k + n := by
  cases begun with
  | false => exact ⟨0, L.length, rfl, by omega⟩
  | true =>
    have := List.length_pos_iff.2 (h.bg rfl)
    exact ⟨1, L.length - 1, rfl, by omega⟩

/-- Drop's loop, at a round's head. -/
structure DropAt (w : World) (q : Nat) (room : Int) (v : Value) (L : List (List Int)) (begun : Bool) (credit sent : Int) (k j : Nat) (wr : World) : Prop where
  blk : wr.heap[q]? = some (.cells #[.int .i64 room, v, .bool begun, .int .i64 ((tot L : Int) - tot ((L.drop k).take j)), .int .i64 credit, .int .i64 sent] 52)
  eff : Eff (fun i => i = q) w wr
  size : wr.heap.size = w.heap.size

theorem tot_take_succ {A : List (List Int)} {j : Nat} {x : List Int} (h : A[j]? = some x) : tot (A.take (j + 1)) = tot (A.take j) + x.length := by
  rw [List.take_add_one, h, tot_append]; simp [tot]
theorem tot_split (A : List (List Int)) (k : Nat) : tot (A.take k) + tot (A.drop k) = tot A := by
  rw [← tot_append, List.take_append_drop]

theorem Own.take {w : World} {g o n cap : Nat} {vs : List Value} (h : Own w (.slice (some ⟨g, o, none⟩) n cap) vs) (k : Nat) (hk : k ≤ vs.length) : Own w (.slice (some ⟨g, o, none⟩) k k) (vs.take k) := by
  rcases h with ⟨h1, -⟩ | ⟨g', o', cap', hv, hg, h1, h2, h3, h4⟩
  · simp at h1
  · simp only [Value.slice.injEq, Option.some.injEq, Addr.mk.injEq] at hv
    obtain ⟨⟨rfl, rfl, -⟩, -, rfl⟩ := hv
    have hl : (vs.take k).length = k := by rw [List.length_take]; omega
    refine .inr ⟨g, o, k, by rw [hl], hg, by omega, by omega, fun j hj => h3 j (by omega), fun j u hu => h4 j u ?_⟩
    rw [List.getElem?_take] at hu
    split at hu
    · exact hu
    · simp at hu

set_option maxHeartbeats 1000000 in
theorem QSt.dropped {g o cc k n : Nat} {wr : World} (h : QSt w O R q room (.slice (some ⟨g, o, none⟩) vs.length cc) vs L begun credit sent) (hk : k = if begun = true then 1 else 0) (hn : L.length = k + n)
    (hD : DropAt w q room (.slice (some ⟨g, o, none⟩) (k + n) cc) L begun credit sent k n wr) :
    QSt (wr.setCell ⟨q, 1, none⟩ (.slice (some ⟨g, o, none⟩) k k)) O R q room (.slice (some ⟨g, o, none⟩) k k) (vs.take k) (L.take k) begun credit sent ∧ Eff O w (wr.setCell ⟨q, 1, none⟩ (.slice (some ⟨g, o, none⟩) k k)) := by
  have hgq := (h.vO g rfl).2
  have hl := h.len
  have hs := tot_split L k
  have hz : (wr.setCell ⟨q, 1, none⟩ (.slice (some ⟨g, o, none⟩) k k)).heap.size = w.heap.size := by simp [World.setCell, hD.size]
  have e2 : ∀ i, i < w.heap.size → i ≠ q → (wr.setCell ⟨q, 1, none⟩ (.slice (some ⟨g, o, none⟩) k k)).heap[i]? = w.heap[i]? := fun i hi hne => by
    rw [Below.heap_setCell _ _ _ _ hne, hD.eff.block i hi hne]
  have hE : Eff O w (wr.setCell ⟨q, 1, none⟩ (.slice (some ⟨g, o, none⟩) k k)) := (hD.eff.mono (T := O) (fun i _ e => e ▸ h.qO)).setCell (p := ⟨q, 1, none⟩) (fun _ => h.qO) _
  have hf := h.fits
  refine ⟨⟨?_, h.qO, ?_, ?_, ?_, ?_, ?_, ?_, h.disj, ?_, h.room0, ?_, h.cr, h.se⟩, hE⟩
  · have b1 := heap_setCell_same hD.blk 1 (.slice (some ⟨g, o, none⟩) k k)
    rw [b1, List.take_of_length_le (show (L.drop k).length ≤ n by rw [List.length_drop]; omega)]
    have e : (tot L : Int) - tot (L.drop k) = tot (L.take k) := by omega
    simp [e]
  · exact (h.own.take k (by omega)).keep (by omega) (fun i hi => by simp [Value.ownBlock] at hi; subst hi; exact e2 _ (h.lt _ (.inl (h.vO _ rfl).1)) hgq)
  · exact fun i hi => h.vO i hi
  · rw [List.length_take, List.length_take, hl]
  · intro i u ys hu hys
    rw [List.getElem?_take] at hu hys
    split at hu
    · rename_i hi
      rw [if_pos hi] at hys
      exact (h.bts i u ys hu hys).keep (by omega) (fun a ha hR => e2 a ha (fun e => h.disj q h.qO (e ▸ hR))) (fun _ hk => hk)
    · simp at hu
  · exact fun ys hys => h.ne ys (List.mem_of_mem_take hys)
  · intro a ha; rw [hz]; exact h.lt a ha
  · intro hb
    have := h.bg hb
    subst hk
    rw [if_pos hb]
    cases L with
    | nil => exact absurd rfl this
    | cons x L => simp
  · omega

set_option maxHeartbeats 1000000 in
theorem drop_some (h : QSt w O R q room v vs L begun credit sent) (k n : Nat) (hk : k = if begun = true then 1 else 0) (hn : L.length = k + n) (h0 : 0 < n) :
    Calls Try.prog 11 #[.pointer (some ⟨q, 0, none⟩)] w fun r w' => r = .returned (.int .i64 n) ∧ (∃ v' vs', QSt w' O R q room v' vs' (L.take k) begun credit sent) ∧ Eff O w w' := by
  obtain ⟨g, o, cc, rfl, hg, l1, l2, hfz, hcl⟩ := h.own.cells (by have := h.len; omega)
  unfold maxLen at l2
  have c1 := cell_of h.blk 1
  have hwh := whole_n h k n hk hn
  have HWH := Lib.hid hwh
  have hlen : vs.length = k + n := by rw [h.len, hn]
  have hrows := h.rows
  have hfit := h.fits
  have hroom := h.room0
  have hk1 : k ≤ 1 := by subst hk; split <;> omega
  have HH := Lib.hid h
  have HK := Lib.hid hk
  have HNL := Lib.hid hn
  have HC := Lib.hid hcl
  clear h hk hn hwh hcl hfz
  have HLEN := Lib.hid hlen
  rw [hlen] at c1 l1 hrows
  clear hlen
  have hcc : ¬ cc = k := by omega
  go_enter Try.func11, Try.ntmps11
  go_wp2_with (go_at_call 21; refine HWH.out.mono ?_; rintro r w' ⟨rfl, rfl⟩)
  go_loopw [25] (fun i wr => ∃ j : Nat, j ≤ n ∧ i = .int .i64 j ∧ DropAt w' q room (.slice (some ⟨g, o, none⟩) (k + n) cc) L begun credit sent k j wr) (fun i _ => n - (intOf i).toNat)
  case atStart =>
    refine ⟨0, Nat.zero_le _, rfl, ⟨?_, Eff.refl _ _, rfl⟩⟩
    have := HH.out.blk
    rw [HLEN.out] at this
    simpa [tot] using this
  case round =>
    obtain ⟨j, hj, rfl, hD⟩ := hrel
    have d1 := cell_of hD.blk 1
    have d3 := cell_of hD.blk 3
    have y3 := free_of hD.blk
    by_cases hjn : j < n
    · obtain ⟨x, hx⟩ : ∃ x, L[k + j]? = some x := ⟨_, List.getElem?_eq_getElem (by rw [HNL.out]; omega)⟩
      obtain ⟨u, hu⟩ : ∃ u, vs[k + j]? = some u := ⟨_, List.getElem?_eq_getElem (by rw [HLEN.out]; omega)⟩
      obtain ⟨b5, o5, c5, rfl, hb⟩ := HH.out.bts _ _ _ hu hx
      have hcell : wr.cell? ⟨g, o + k + j, none⟩ = some (.slice (some ⟨b5, o5, none⟩) x.length c5) := by
        have h6 := HC.out _ _ hu
        rw [World.cell?_of_block (w := w') (hD.eff.block g (by omega) (fun e => (HH.out.vO g rfl).2 e)), Nat.add_assoc]
        exact h6
      have HDD := Lib.hid hD
      clear hD
      have hLx : (L.drop k)[j]? = some x := by rw [List.getElem?_drop]; exact hx
      have ht := tot_take_succ hLx
      have hs1 := tot_split L k
      have hs2 := tot_split (L.drop k) (j + 1)
      have HT : Hid (wrap64 ((tot L : Int) - tot ((L.drop k).take j) - x.length) = (tot L : Int) - tot ((L.drop k).take (j + 1))) := Lib.hid (by rw [ht]; unfold wrap64; omega)
      clear ht hs1 hs2 hLx
      go_wp2
      go_roundw
      case rel =>
        refine ⟨j + 1, by omega, by go_num, ⟨?_, HDD.out.eff.setCell (p := ⟨q, 3, none⟩) (fun _ => rfl) _, by simp [World.setCell, HDD.out.size]⟩⟩
        rw [heap_setCell_same HDD.out.blk 3 _, HT.out]
        simp
      case measure => simp [intOf]; omega
    · obtain rfl : j = n := by omega
      have HDD := Lib.hid hD
      clear hD
      go_wp2
      go_ret
      obtain ⟨p1, p2⟩ := HH.out.dropped HK.out HNL.out HDD.out
      exact ⟨rfl, ⟨_, _, p1⟩, p2⟩

/-- Drop. -/
theorem drop_yes (h : QSt w O R q room v vs L begun credit sent) (k n : Nat) (hk : k = if begun = true then 1 else 0) (hn : L.length = k + n) :
    Calls Try.prog 11 #[.pointer (some ⟨q, 0, none⟩)] w fun r w' => r = .returned (.int .i64 n) ∧ (∃ v' vs', QSt w' O R q room v' vs' (L.take k) begun credit sent) ∧ Eff O w w' := by
  by_cases h0 : 0 < n
  · exact drop_some h k n hk hn h0
  · obtain rfl : n = 0 := by omega
    have HWH := Lib.hid (whole_n h k 0 hk hn)
    have HH := Lib.hid h
    have e : L.take k = L := List.take_of_length_le (by omega)
    rw [e]
    clear h hk hn e
    go_enter Try.func11, Try.ntmps11
    go_wp2_with (go_at_call 21; refine HWH.out.mono ?_; rintro r w' ⟨rfl, rfl⟩)
    go_ret
    exact ⟨rfl, ⟨_, _, HH.out⟩, Eff.refl _ _⟩
end

end Go.Proofs.Ytliaeknidmbelaa
