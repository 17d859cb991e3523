/-
  Proved here: what the inner step of Take does (a part of the first message; the whole of it), and Grant; the conditions are named.
-/
import Derived.Test.YtliaeknidmbelaaQ2
namespace Go.Proofs.Ytliaeknidmbelaa
open Go.RowKit

theorem sizeU8 (w : World) : (Go.sizeOf 5).run Try.prog w = .ok 1 w := by kernel_rfl
theorem sizeRow (w : World) : (Go.sizeOf 23).run Try.prog w = .ok 1 w := by kernel_rfl

/-- 's[l:]' of one-cell elements. -/
theorem cut_lo {P : Program} {t e : TypeId} (ht : P.underlying t = some (.slice e)) (hz : ∀ w, (Go.sizeOf e).run P w = .ok 1 w) (w : World) (b o len cap l : Nat) (hl : l ≤ len) :
    (Instr.slice t (.slice (some ⟨b, o, none⟩) len cap) (some (.int .i64 (l : Int))) none none).run P w = .ok (.slice (some ⟨b, if cap = l then o else o + l, none⟩) (len - l) (cap - l)) w := by
  have ht' : P.underlying t = some (.slice (P.elem t)) := by simp [Program.elem, ht]
  have he : P.elem t = e := by simp [Program.elem, ht]
  rw [run_slice_l w t _ _ _ ht' .i64 _ (by omega) (by omega), he, hz]
  by_cases h : cap = l <;> simp [Result.andThen, sliced, addr_add, h]
/-- 's[:h:h]' of one-cell elements. -/
theorem cut_hm {P : Program} {t e : TypeId} (ht : P.underlying t = some (.slice e)) (hz : ∀ w, (Go.sizeOf e).run P w = .ok 1 w) (w : World) (b o len cap h : Nat) (hh : h ≤ cap) :
    (Instr.slice t (.slice (some ⟨b, o, none⟩) len cap) none (some (.int .i64 (h : Int))) (some (.int .i64 (h : Int)))).run P w = .ok (.slice (some ⟨b, o, none⟩) h h) w := by
  have ht' : P.underlying t = some (.slice (P.elem t)) := by simp [Program.elem, ht]
  have he : P.elem t = e := by simp [Program.elem, ht]
  rw [run_slice_hm w t _ _ _ ht' .i64 .i64 _ _ (by omega) (Int.le_refl _) (by omega), he, hz]
  simp [Result.andThen, sliced, addr_add]
/-- 's[:h]' of one-cell elements. -/
theorem cut_hi {P : Program} {t e : TypeId} (ht : P.underlying t = some (.slice e)) (hz : ∀ w, (Go.sizeOf e).run P w = .ok 1 w) (w : World) (b o len cap h : Nat) (hh : h ≤ cap) :
    (Instr.slice t (.slice (some ⟨b, o, none⟩) len cap) none (some (.int .i64 (h : Int))) none).run P w = .ok (.slice (some ⟨b, o, none⟩) h cap) w := by
  have ht' : P.underlying t = some (.slice (P.elem t)) := by simp [Program.elem, ht]
  have he : P.elem t = e := by simp [Program.elem, ht]
  rw [run_slice_h w t _ _ _ ht' .i64 _ (by omega) (by omega), he, hz]
  simp [Result.andThen, sliced, addr_add]

section
variable {w : World} {O R : Nat → Prop} {q : Nat} {room : Int} {v : Value} {vs : List Value} {L : List (List Int)} {begun : Bool} {credit sent : Int}

/-- What a step looks at. -/
theorem QSt.first {x : List Int} (h : QSt w O R q room v vs (x :: L) begun credit sent) :
    ∃ b o c rb ro cc vs', vs = .slice (some ⟨b, o, none⟩) x.length c :: vs' ∧ v = .slice (some ⟨rb, ro, none⟩) (vs'.length + 1) cc ∧ vs'.length + 1 ≤ cc ∧ cc ≤ maxLen ∧ x.length ≤ c ∧ c ≤ maxLen ∧ R b ∧ O rb ∧ rb ≠ q ∧
      w.cell? ⟨rb, ro, none⟩ = some (.slice (some ⟨b, o, none⟩) x.length c) ∧ w.frozen? ⟨rb, ro, none⟩ = false ∧ vs'.length = L.length := by
  have hl := h.len
  obtain ⟨u, vs', rfl⟩ : ∃ u vs', vs = u :: vs' := by
    cases vs with
    | nil => simp at hl
    | cons u vs' => exact ⟨u, vs', rfl⟩
  obtain ⟨b, o, c, rfl, h1, h2, h3, h4, h5⟩ := h.bts 0 u x rfl rfl
  obtain ⟨rb, ro, cc, hv, g1, g2, g3, g4, g5⟩ := h.own.cells (by simp)
  have hO := h.vO rb (by rw [hv]; rfl)
  refine ⟨b, o, c, rb, ro, cc, vs', rfl, hv, by simpa using g2, g3, h3, h4, h1, hO.1, hO.2, g5 0 _ rfl, g4 0 (by simp at g2; omega), by simpa using hl⟩

theorem Own.set0 {w : World} {g o n cap : Nat} {u0 : Value} {vs' : List Value} (h : Own w (.slice (some ⟨g, o, none⟩) n cap) (u0 :: vs')) (u1 : Value) : Own (w.setCell ⟨g, o, none⟩ u1) (.slice (some ⟨g, o, none⟩) n cap) (u1 :: vs') := by
  rcases h with ⟨h1, -⟩ | ⟨g', o', cap', hv, hg, h1, h2, h3, h4⟩
  · simp at h1
  · simp only [Value.slice.injEq, Option.some.injEq, Addr.mk.injEq] at hv
    obtain ⟨⟨rfl, rfl, -⟩, rfl, rfl⟩ := hv
    have hc0 : w.cell? ⟨g, o, none⟩ = some u0 := by simpa using h4 0 u0 rfl
    refine .inr ⟨g, o, cap, by simp, by simp [World.setCell]; omega, by simpa using h1, h2, fun j hj => ⟨?_, by rw [World.frozen?_setCell]; exact (h3 j hj).2⟩, fun j u hu => ?_⟩
    · by_cases h0 : j = 0
      · subst h0
        rw [Nat.add_zero, World.cell?_setCell_same _ _ _ hc0]; rfl
      · rw [World.cell?_setCell_other _ _ _ _ (by first | (simp; done) | (simp; omega))]; exact (h3 j hj).1
    · rcases j with _ | j
      · simp at hu; subst hu
        exact World.cell?_setCell_same _ _ _ hc0
      · rw [World.cell?_setCell_other _ _ _ _ (by simp)]
        exact h4 (j + 1) u (by simpa using hu)

theorem own_setCell_other {w : World} {v : Value} {vs : List Value} (h : Own w v vs) {p : Addr} (hp : v.ownBlock ≠ some p.block) (u : Value) : Own (w.setCell p u) v vs :=
  h.keep (by simp [World.setCell]) fun k hk => Below.heap_setCell _ _ _ _ (fun e => hp (by rw [hk, e]))

set_option maxHeartbeats 1000000 in
theorem QSt.parted {b o c rb ro cc n : Nat} {vs' : List Value} {x : List Int} (h : QSt w O R q room (.slice (some ⟨rb, ro, none⟩) (vs'.length + 1) cc) (.slice (some ⟨b, o, none⟩) x.length c :: vs') (x :: L) begun credit sent)
    (h0 : 0 < n) (hn : n < x.length) (hr : rb ≠ q) :
    QSt ((((w.setCell ⟨q, 2, none⟩ (.bool true)).setCell ⟨rb, ro, none⟩ (.slice (some ⟨b, o + n, none⟩) (x.length - n) (c - n))).setCell ⟨q, 4, none⟩ (.int .i64 0)).setCell ⟨q, 3, none⟩ (.int .i64 (tot (x.drop n :: L)))) O R q room (.slice (some ⟨rb, ro, none⟩) (vs'.length + 1) cc) (.slice (some ⟨b, o + n, none⟩) (x.length - n) (c - n) :: vs') (x.drop n :: L) true 0 sent ∧
    Eff O w ((((w.setCell ⟨q, 2, none⟩ (.bool true)).setCell ⟨rb, ro, none⟩ (.slice (some ⟨b, o + n, none⟩) (x.length - n) (c - n))).setCell ⟨q, 4, none⟩ (.int .i64 0)).setCell ⟨q, 3, none⟩ (.int .i64 (tot (x.drop n :: L)))) := by
  have hO := (h.vO rb rfl).1
  have hne : (Value.slice (some ⟨rb, ro, none⟩) (vs'.length + 1) cc).ownBlock ≠ some q := fun e => hr (by simpa [Value.ownBlock] using e)
  generalize hU : (Value.slice (some ⟨b, o + n, none⟩) (x.length - n) (c - n)) = U
  have e2 : ∀ k, k ≠ q → k ≠ rb → ((((w.setCell ⟨q, 2, none⟩ (.bool true)).setCell ⟨rb, ro, none⟩ U).setCell ⟨q, 4, none⟩ (.int .i64 0)).setCell ⟨q, 3, none⟩ (.int .i64 (tot (x.drop n :: L)))).heap[k]? = w.heap[k]? := fun k h1 h2 => by
    rw [Below.heap_setCell _ _ _ _ h1, Below.heap_setCell _ _ _ _ h1, Below.heap_setCell _ _ _ _ h2, Below.heap_setCell _ _ _ _ h1]
  have hs : ((((w.setCell ⟨q, 2, none⟩ (.bool true)).setCell ⟨rb, ro, none⟩ U).setCell ⟨q, 4, none⟩ (.int .i64 0)).setCell ⟨q, 3, none⟩ (.int .i64 (tot (x.drop n :: L)))).heap.size = w.heap.size := by simp [World.setCell]
  have ht : tot (x.drop n :: L) + n = tot (x :: L) := by rw [tot_cons, tot_cons, List.length_drop]; omega
  have hf := h.fits
  refine ⟨⟨?_, h.qO, ?_, h.vO, ?_, ?_, ?_, ?_, h.disj, ?_, h.room0, ?_, ?_, h.se⟩, ?_⟩
  · have b1 := heap_setCell_same h.blk 2 (.bool true)
    have b2 := heap_setCell_old (a := ⟨rb, ro, none⟩) (u := U) b1 (fun e => hr e.symm)
    have b3 := heap_setCell_same b2 4 (.int .i64 0)
    have b4 := heap_setCell_same b3 3 (.int .i64 (tot (x.drop n :: L)))
    rw [b4]
    simp
  · exact own_setCell_other (own_setCell_other (Own.set0 (own_setCell_other h.own hne _) U) hne _) hne _
  · simpa using h.len
  · intro i u ys hu hys
    rcases i with _ | i
    · simp at hu hys
      subst hu hys
      obtain ⟨b', o', c', hb, g1, g2, g3, g4, g5⟩ := h.bts 0 _ x rfl rfl
      simp only [Value.slice.injEq, Option.some.injEq, Addr.mk.injEq] at hb
      obtain ⟨⟨rfl, rfl, -⟩, -, rfl⟩ := hb
      subst hU
      refine ⟨b, o + n, c - n, by rw [List.length_drop], g1, by omega, by rw [List.length_drop]; omega, by omega, fun j y hj => ?_⟩
      rw [World.cell?_of_block (w := w) (e2 b (fun e => h.disj q h.qO (e ▸ g1)) (fun e => h.disj rb hO (e ▸ g1))), Nat.add_assoc]
      exact g5 (n + j) y (by simpa [List.getElem?_drop] using hj)
    · refine (h.bts (i + 1) u ys (by simpa using hu) (by simpa using hys)).keep (by omega) (fun k _ hR => e2 k (fun e => h.disj q h.qO (e ▸ hR)) (fun e => h.disj rb hO (e ▸ hR))) (fun _ hk => hk)
  · intro ys hys
    rcases List.mem_cons.1 hys with rfl | hys
    · rw [List.length_drop]; omega
    · exact h.ne ys (by simp [hys])
  · intro k hk; rw [hs]; exact h.lt k hk
  · intro _; simp
  · omega
  · omega
  · exact ((((Eff.refl O w).setCell (p := ⟨q, 2, none⟩) (fun _ => h.qO) _).setCell (p := ⟨rb, ro, none⟩) (fun _ => hO) _).setCell (p := ⟨q, 4, none⟩) (fun _ => h.qO) _).setCell (p := ⟨q, 3, none⟩) (fun _ => h.qO) _

theorem QSt.headLies {b o c : Nat} {vs' : List Value} {x : List Int} (h : QSt w O R q room v (.slice (some ⟨b, o, none⟩) x.length c :: vs') (x :: L) begun credit sent) (n cap : Nat) (hn : n ≤ x.length) {w' : World} (he : Eff O w w') :
    Lies w' (.slice (some ⟨b, o, none⟩) n cap) (x.take n) := by
  obtain ⟨b', o', c', hb, g1, g2, g3, g4, g5⟩ := h.bts 0 _ x rfl rfl
  simp only [Value.slice.injEq, Option.some.injEq, Addr.mk.injEq] at hb
  obtain ⟨⟨rfl, rfl, -⟩, -, rfl⟩ := hb
  refine ⟨b, o, cap, by rw [List.length_take, Nat.min_eq_left hn], Nat.lt_of_lt_of_le g2 he.size, fun j y hj => ?_⟩
  rw [World.cell?_of_block (w := w) (he.block b g2 (fun hO => h.disj b hO g1))]
  rw [List.getElem?_take] at hj
  split at hj
  · exact g5 j y hj
  · simp at hj

set_option maxHeartbeats 1000000 in
theorem step_part {x : List Int} (h : QSt w O R q room v vs (x :: L) begun credit sent) (hc0 : 0 < credit) (hc1 : credit < x.length) :
    Calls Try.prog 26 #[.pointer (some ⟨q, 0, none⟩)] w fun r w' => ∃ u vs', r = .returned u ∧ Lies w' u (x.take credit.toNat) ∧ QSt w' O R q room v vs' (x.drop credit.toNat :: L) true 0 sent ∧ Eff O w w' := by
  obtain ⟨b, o, c, rb, ro, cc, vs', rfl, rfl, k1, k2, k3, k4, hRb, hOr, hrq, e0, z0, hvl⟩ := h.first
  unfold maxLen at k2 k4
  have c1 := cell_of h.blk 1
  have c2 := cell_of h.blk 2
  have c3 := cell_of h.blk 3
  have c4 := cell_of h.blk 4
  have z1 := free_of h.blk
  have HH := Lib.hid h
  have hql := lt_of_heap h.blk
  clear h
  obtain ⟨n, rfl⟩ := Int.eq_ofNat_of_zero_le (show 0 ≤ credit by omega)
  have s1 := fun v => cut_hm Try.underlying23 sizeU8 v b o x.length c n (by omega)
  have s2 := fun v => cut_lo Try.underlying23 sizeU8 v b o x.length c n (by omega)
  simp only [show ¬ c = n by omega, if_false] at s2
  go_enter Try.func26, Try.ntmps26
  go_wp2_with fail
  go_quiet (fail)
  go_wp2_with fail
  go_ret
  have hfit := HH.out.fits
  have hr := HH.out.room0
  have ht : tot (x.drop n :: L) + n = tot (x :: L) := by rw [tot_cons, tot_cons, List.length_drop]; omega
  have hw : wrap64 ((tot (x :: L) : Int) - n) = (tot (x.drop n :: L) : Nat) := by unfold wrap64; omega
  have HH2 : QSt (w.drewN nq) O R q room (.slice (some ⟨rb, ro, none⟩) (vs'.length + 1) cc) (.slice (some ⟨b, o, none⟩) x.length c :: vs') (x :: L) begun n sent := HH.out.keep (Nat.le_refl _) (fun _ _ => rfl)
  obtain ⟨p1, p2⟩ := HH2.parted (n := n) (by omega) (by omega) hrq
  rw [hw]
  exact ⟨.slice (some ⟨b, o, none⟩) n n, _, rfl, HH.out.headLies n n (by omega) (((Eff.refl O w).drewN nq).trans p2), p1, ((Eff.refl O w).drewN nq).trans p2⟩
end

end Go.Proofs.Ytliaeknidmbelaa
