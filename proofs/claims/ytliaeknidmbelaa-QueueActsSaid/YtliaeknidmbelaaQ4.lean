/-
  Proved here: what the inner step of Take does where the whole first message goes; the conditions are named.
-/
import Derived.Test.YtliaeknidmbelaaQ3
namespace Go.Proofs.Ytliaeknidmbelaa
open Go.RowKit

theorem Own.tail {w : World} {g o m cap : Nat} {u0 : Value} {vs' : List Value} (h : Own w (.slice (some ⟨g, o, none⟩) (m + 1) cap) (u0 :: vs')) : Own w (.slice (some ⟨g, if cap = 1 then o else o + 1, none⟩) (m + 1 - 1) (cap - 1)) vs' := by
  rcases h with ⟨h1, -⟩ | ⟨g', o', cap', hv, hg, h1, h2, h3, h4⟩
  · simp at h1
  · simp only [Value.slice.injEq, Option.some.injEq, Addr.mk.injEq] at hv
    obtain ⟨⟨rfl, rfl, -⟩, hm, rfl⟩ := hv
    simp only [List.length_cons] at hm h1
    have hm' : m = vs'.length := by omega
    subst hm'
    refine .inr ⟨g, _, cap - 1, rfl, hg, by omega, by omega, fun j hj => ?_, fun j u hu => ?_⟩
    · have h6 := h3 (j + 1) (by omega)
      rw [if_neg (show ¬ cap = 1 by omega), show o + 1 + j = o + (j + 1) by omega]
      exact h6
    · have hj := (List.getElem?_eq_some_iff.1 hu).1
      rw [if_neg (show ¬ cap = 1 by omega), show o + 1 + j = o + (j + 1) by omega]
      exact h4 (j + 1) u (by simpa using hu)

section
variable {w : World} {O R : Nat → Prop} {q : Nat} {room : Int} {v : Value} {vs : List Value} {L : List (List Int)} {begun : Bool} {credit sent : Int}

set_option maxHeartbeats 1000000 in
theorem QSt.wholed {rb ro cc : Nat} {u0 : Value} {vs' : List Value} {x : List Int} (h : QSt w O R q room (.slice (some ⟨rb, ro, none⟩) (vs'.length + 1) cc) (u0 :: vs') (x :: L) begun credit sent) (hx : (x.length : Int) ≤ credit) {V : Value} (hV : V = .slice (some ⟨rb, if cc = 1 then ro else ro + 1, none⟩) (vs'.length + 1 - 1) (cc - 1)) :
    QSt ((((w.setCell ⟨q, 2, none⟩ (.bool false)).setCell ⟨q, 1, none⟩ V).setCell ⟨q, 4, none⟩ (.int .i64 (credit - x.length))).setCell ⟨q, 3, none⟩ (.int .i64 (tot L))) O R q room V vs' L false (credit - x.length) sent ∧
    Eff O w ((((w.setCell ⟨q, 2, none⟩ (.bool false)).setCell ⟨q, 1, none⟩ V).setCell ⟨q, 4, none⟩ (.int .i64 (credit - x.length))).setCell ⟨q, 3, none⟩ (.int .i64 (tot L))) := by
  have hvO := h.vO rb rfl
  have hown : Own w V vs' := by subst hV; exact h.own.tail
  have hVb : V.ownBlock = some rb := by subst hV; rfl
  have hne : V.ownBlock ≠ some q := by rw [hVb]; simpa using hvO.2
  clear hV
  have e2 : ∀ k, k ≠ q → ((((w.setCell ⟨q, 2, none⟩ (.bool false)).setCell ⟨q, 1, none⟩ V).setCell ⟨q, 4, none⟩ (.int .i64 (credit - x.length))).setCell ⟨q, 3, none⟩ (.int .i64 (tot L))).heap[k]? = w.heap[k]? := fun k h1 => by
    rw [Below.heap_setCell _ _ _ _ h1, Below.heap_setCell _ _ _ _ h1, Below.heap_setCell _ _ _ _ h1, Below.heap_setCell _ _ _ _ h1]
  have hs : ((((w.setCell ⟨q, 2, none⟩ (.bool false)).setCell ⟨q, 1, none⟩ V).setCell ⟨q, 4, none⟩ (.int .i64 (credit - x.length))).setCell ⟨q, 3, none⟩ (.int .i64 (tot L))).heap.size = w.heap.size := by simp [World.setCell]
  have hf := h.fits
  have hc := h.cr
  have ht : tot (x :: L) = x.length + tot L := tot_cons _ _
  refine ⟨⟨?_, h.qO, ?_, ?_, ?_, ?_, ?_, ?_, h.disj, ?_, h.room0, ?_, ?_, h.se⟩, ?_⟩
  · have b1 := heap_setCell_same h.blk 2 (.bool false)
    have b2 := heap_setCell_same b1 1 V
    have b3 := heap_setCell_same b2 4 (.int .i64 (credit - x.length))
    have b4 := heap_setCell_same b3 3 (.int .i64 (tot L))
    rw [b4]
    simp
  · exact own_setCell_other (own_setCell_other (own_setCell_other (own_setCell_other hown hne _) hne _) hne _) hne _
  · intro k hk
    rw [hVb] at hk
    simp at hk
    subst hk
    exact hvO
  · simpa using h.len
  · intro i u ys hu hys
    exact (h.bts (i + 1) u ys (by simpa using hu) (by simpa using hys)).keep (by omega) (fun k _ hR => e2 k (fun e => h.disj q h.qO (e ▸ hR))) (fun _ hk => hk)
  · intro ys hys
    exact h.ne ys (by simp [hys])
  · intro k hk; rw [hs]; exact h.lt k hk
  · intro h6; cases h6
  · omega
  · omega
  · exact ((((Eff.refl O w).setCell (p := ⟨q, 2, none⟩) (fun _ => h.qO) _).setCell (p := ⟨q, 1, none⟩) (fun _ => h.qO) _).setCell (p := ⟨q, 4, none⟩) (fun _ => h.qO) _).setCell (p := ⟨q, 3, none⟩) (fun _ => h.qO) _

set_option maxHeartbeats 1000000 in
theorem step_whole {x : List Int} (h : QSt w O R q room v vs (x :: L) begun credit sent) (hc1 : x.length ≤ credit) :
    Calls Try.prog 26 #[.pointer (some ⟨q, 0, none⟩)] w fun r w' => ∃ u, r = .returned u ∧ Lies w' u x ∧ (∃ v' vs', QSt w' O R q room v' vs' L false (credit - x.length) sent) ∧ Eff O w w' := by
  obtain ⟨b, o, c, rb, ro, cc, vs', rfl, rfl, k1, k2, k3, k4, hRb, hOr, hrq, e0, z0, hvl⟩ := h.first
  unfold maxLen at k2 k4
  have c1 := cell_of h.blk 1
  have c2 := cell_of h.blk 2
  have c3 := cell_of h.blk 3
  have c4 := cell_of h.blk 4
  have z1 := free_of h.blk
  have HH := Lib.hid h
  have hql := lt_of_heap h.blk
  have hcr := h.cr
  have HV := Lib.hid hvl
  clear h hvl
  generalize hn : x.length = n at *
  have HN := Lib.hid hn
  clear hn
  have s1 := fun v => cut_hm Try.underlying23 sizeU8 v b o n c n (by omega)
  have s2 := fun v => cut_lo Try.underlying23 sizeU8 v b o n c n (by omega)
  generalize hb' : (if c = n then o else o + n) = o' at *
  clear hb'
  go_enter Try.func26, Try.ntmps26
  go_wp2_with fail
  go_quiet (fail)
  go_wp2_with fail
  all_goals
    have hn := HN.out
    have hfit := HH.out.fits
    have hr := HH.out.room0
    have ht : tot (x :: L) = n + tot L := by rw [tot_cons, hn]
    have hw : wrap64 ((tot (x :: L) : Int) - n) = (tot L : Nat) := by unfold wrap64; omega
    have HH2 : QSt (w.drewN nq) O R q room (.slice (some ⟨rb, ro, none⟩) (vs'.length + 1) cc) (.slice (some ⟨b, o, none⟩) x.length c :: vs') (x :: L) begun credit sent := by rw [hn]; exact HH.out.keep (Nat.le_refl _) (fun _ _ => rfl)
    go_ret
    rw [hw]
  · have hV : (Value.slice (some ⟨rb, ro, none⟩) vs'.length 0) = .slice (some ⟨rb, if cc = 1 then ro else ro + 1, none⟩) (vs'.length + 1 - 1) (cc - 1) := by simp [*]
    obtain ⟨p1, p2⟩ := HH2.wholed (by omega) hV
    rw [hn] at p1 p2
    have hl := HH2.headLies n n (by omega) p2
    rw [List.take_of_length_le (by omega)] at hl
    exact ⟨.slice (some ⟨b, o, none⟩) n n, rfl, hl, ⟨_, _, p1⟩, ((Eff.refl O w).drewN nq).trans p2⟩
  · have hV : (Value.slice (some ⟨rb, ro + 1, none⟩) vs'.length (cc - 1)) = .slice (some ⟨rb, if cc = 1 then ro else ro + 1, none⟩) (vs'.length + 1 - 1) (cc - 1) := by simp [*]
    obtain ⟨p1, p2⟩ := HH2.wholed (by omega) hV
    rw [hn] at p1 p2
    have hl := HH2.headLies n n (by omega) p2
    rw [List.take_of_length_le (by omega)] at hl
    exact ⟨.slice (some ⟨b, o, none⟩) n n, rfl, hl, ⟨_, _, p1⟩, ((Eff.refl O w).drewN nq).trans p2⟩
end

end Go.Proofs.Ytliaeknidmbelaa
