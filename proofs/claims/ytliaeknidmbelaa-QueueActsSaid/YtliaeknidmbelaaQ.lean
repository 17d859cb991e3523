/-
  Proved here: what a queue of the package queue is in memory, and what its questions answer; the conditions are named.
-/
import Derived.Test.YtliaeknidmbelaaOwn
import Derived.Laws.LoneSync
import Derived.StillTailTactics
import Derived.Lib.QuietBelow
namespace Go.Proofs.Ytliaeknidmbelaa
open Go.RowKit

theorem below_drewN {B : Nat} {a w : World} (h : Below B a w) (n : Nat) : Below B a (w.drewN n) := ⟨h.os, h.tape, h.output, h.size, h.block⟩
/-- How many bytes. -/
def tot (L : List (List Int)) : Nat := (L.map List.length).sum
theorem tot_nil : tot [] = 0 := rfl
theorem tot_cons (x : List Int) (L : List (List Int)) : tot (x :: L) = x.length + tot L := by simp [tot]
theorem tot_append (A B : List (List Int)) : tot (A ++ B) = tot A + tot B := by simp [tot]

/-- A slice of bytes that lies in a block of 'R'. -/
def Bts (w : World) (R : Nat → Prop) (u : Value) (xs : List Int) : Prop :=
  ∃ b o c, u = .slice (some ⟨b, o, none⟩) xs.length c ∧ R b ∧ b < w.heap.size ∧ xs.length ≤ c ∧ c ≤ maxLen ∧ ∀ j x, xs[j]? = some x → w.cell? ⟨b, o + j, none⟩ = some (.int .u8 x)
theorem Bts.keep {w w' : World} {R R' : Nat → Prop} {u : Value} {xs : List Int} (h : Bts w R u xs) (hs : w.heap.size ≤ w'.heap.size) (hk : ∀ k, k < w.heap.size → R k → w'.heap[k]? = w.heap[k]?) (hR : ∀ k, R k → R' k) : Bts w' R' u xs := by
  obtain ⟨b, o, c, rfl, h1, h2, h3, h4, h5⟩ := h
  exact ⟨b, o, c, rfl, hR b h1, by omega, h3, h4, fun j x hj => by rw [World.cell?_of_block (w := w) (hk b h2 h1)]; exact h5 j x hj⟩

/-- A queue, as it lies in memory: 'O': its own blocks, that it writes; 'R': the blocks of its messages, that nobody writes. -/
structure QSt (w : World) (O R : Nat → Prop) (q : Nat) (room : Int) (v : Value) (vs : List Value) (L : List (List Int)) (begun : Bool) (credit sent : Int) : Prop where
  blk : w.heap[q]? = some (.cells #[.int .i64 room, v, .bool begun, .int .i64 (tot L), .int .i64 credit, .int .i64 sent] 52)
  qO : O q
  own : Own w v vs
  vO : ∀ k, v.ownBlock = some k → O k ∧ k ≠ q
  len : vs.length = L.length
  bts : ∀ (i : Nat) (u : Value) (xs : List Int), vs[i]? = some u → L[i]? = some xs → Bts w R u xs
  ne : ∀ xs ∈ L, 0 < xs.length
  lt : ∀ k, O k ∨ R k → k < w.heap.size
  disj : ∀ k, O k → ¬ R k
  bg : begun = true → L ≠ []
  room0 : 19 ≤ room ∧ room ≤ 65536
  fits : (tot L : Int) ≤ room
  cr : 0 ≤ credit ∧ credit ≤ 1073741824
  se : 0 ≤ sent ∧ sent ≤ 1152921504606846976

theorem QSt.keep {w w' : World} {O R : Nat → Prop} {q : Nat} {room : Int} {v : Value} {vs : List Value} {L : List (List Int)} {begun : Bool} {credit sent : Int} (h : QSt w O R q room v vs L begun credit sent)
    (hs : w.heap.size ≤ w'.heap.size) (hk : ∀ k, O k ∨ R k → w'.heap[k]? = w.heap[k]?) : QSt w' O R q room v vs L begun credit sent :=
  ⟨by rw [hk q (.inl h.qO)]; exact h.blk, h.qO, h.own.keep hs (fun k hv => hk k (.inl (h.vO k hv).1)), h.vO, h.len, fun i u xs hu hx => (h.bts i u xs hu hx).keep hs (fun k _ hR => hk k (.inr hR)) (fun _ h => h), h.ne, fun k hO => Nat.lt_of_lt_of_le (h.lt k hO) hs, h.disj, h.bg, h.room0, h.fits, h.cr, h.se⟩
theorem QSt.below {w w' : World} {O R : Nat → Prop} {q : Nat} {room : Int} {v : Value} {vs : List Value} {L : List (List Int)} {begun : Bool} {credit sent : Int} (h : QSt w O R q room v vs L begun credit sent) (hb : Below w.heap.size w w') : QSt w' O R q room v vs L begun credit sent :=
  h.keep hb.size fun k hk => hb.block k (h.lt k hk)
theorem QSt.eff {w w' : World} {S O R : Nat → Prop} {q : Nat} {room : Int} {v : Value} {vs : List Value} {L : List (List Int)} {begun : Bool} {credit sent : Int} (h : QSt w O R q room v vs L begun credit sent) (he : Eff S w w') (hS : ∀ k, O k ∨ R k → ¬ S k) : QSt w' O R q room v vs L begun credit sent :=
  h.keep he.size fun k hk => he.block k (h.lt k hk) (hS k hk)
theorem QSt.drew {w : World} {O R : Nat → Prop} {q : Nat} {room : Int} {v : Value} {vs : List Value} {L : List (List Int)} {begun : Bool} {credit sent : Int} (h : QSt w O R q room v vs L begun credit sent) : QSt w.drew O R q room v vs L begun credit sent :=
  h.keep (Nat.le_refl _) fun _ _ => rfl

set_option maxHeartbeats 400000 in
theorem made_yes (q : Nat) (room : Int) (w : World) (hc : w.cell? ⟨q, 0, none⟩ = some (.int .i64 room)) (hr : 0 < room) :
    Calls Try.prog 24 #[.pointer (some ⟨q, 0, none⟩)] w fun r w' => r = .returned (.bool true) ∧ w' = w := by
  go_enter Try.func24, Try.ntmps24
  go_wp2
  go_ret
  exact ⟨rfl, rfl⟩

set_option maxHeartbeats 400000 in
theorem load_any (q : Nat) (x : Int) (w : World) (hc : w.cell? ⟨q, 5, none⟩ = some (.int .i64 x)) :
    Calls Try.prog 28 #[.pointer (some ⟨q, 5, none⟩)] w fun r w' => r = .returned (.int .i64 x) ∧ w' = w := by
  have hl := run_call_load (P := Try.prog) Try.func40 (by kernel_rfl) (by kernel_rfl) (by kernel_rfl) .i64 (by kernel_rfl) hc
  go_enter Try.func28, Try.ntmps28
  go_wp2
  go_ret
  exact ⟨rfl, rfl⟩

section
variable {w : World} {O R : Nat → Prop} {q : Nat} {room : Int} {v : Value} {vs : List Value} {L : List (List Int)} {begun : Bool} {credit sent : Int}

set_option maxHeartbeats 400000 in
theorem len_yes (h : QSt w O R q room v vs L begun credit sent) :
    Calls Try.prog 12 #[.pointer (some ⟨q, 0, none⟩)] w fun r w' => r = .returned (.int .i64 (tot L)) ∧ w' = w := by
  have c0 := cell_of h.blk 0
  have c3 := cell_of h.blk 3
  have HR := Lib.hid h.room0
  clear h
  go_enter Try.func12, Try.ntmps12
  go_wp2_with (go_at_call 24; refine (made_yes q room _ c0 (by have := HR.out.1; omega)).mono ?_; rintro r w' ⟨rfl, rfl⟩)
  go_ret
  exact ⟨rfl, rfl⟩

set_option maxHeartbeats 400000 in
theorem credit_yes (h : QSt w O R q room v vs L begun credit sent) :
    Calls Try.prog 22 #[.pointer (some ⟨q, 0, none⟩)] w fun r w' => r = .returned (.int .i64 credit) ∧ w' = w := by
  have c0 := cell_of h.blk 0
  have c4 := cell_of h.blk 4
  have HR := Lib.hid h.room0
  clear h
  go_enter Try.func22, Try.ntmps22
  go_wp2_with (go_at_call 24; refine (made_yes q room _ c0 (by have := HR.out.1; omega)).mono ?_; rintro r w' ⟨rfl, rfl⟩)
  go_ret
  exact ⟨rfl, rfl⟩

set_option maxHeartbeats 400000 in
theorem room_yes (h : QSt w O R q room v vs L begun credit sent) :
    Calls Try.prog 23 #[.pointer (some ⟨q, 0, none⟩)] w fun r w' => r = .returned (.int .i64 (room - tot L)) ∧ Below w.heap.size w w' := by
  have c0 := cell_of h.blk 0
  have c3 := cell_of h.blk 3
  obtain ⟨r0, r1⟩ := h.room0
  have hf := h.fits
  clear h
  go_enter Try.func23, Try.ntmps23
  go_wp2_with (go_at_call 24; refine (made_yes q room _ c0 (by omega)).mono ?_; rintro r w' ⟨rfl, rfl⟩)
  go_quiet (fail)
  go_wp2
  go_ret
  have hw : IntKind.i64.wrap (room - (tot L : Int)) = room - (tot L : Int) := by rw [IntKind.wrap_i64]; omega
  exact ⟨by simp [hw], below_drewN (Below.refl _ _) _⟩

set_option maxHeartbeats 400000 in
theorem sent_yes (h : QSt w O R q room v vs L begun credit sent) :
    Calls Try.prog 13 #[.pointer (some ⟨q, 0, none⟩)] w fun r w' => r = .returned (.int .i64 sent) ∧ w' = w := by
  have c0 := cell_of h.blk 0
  have c5 := cell_of h.blk 5
  obtain ⟨r0, r1⟩ := h.room0
  obtain ⟨s0, s1⟩ := h.se
  clear h
  go_enter Try.func13, Try.ntmps13
  go_wp2_with (first
    | (go_at_call 24; refine (made_yes q room _ c0 (by omega)).mono ?_; rintro r w' ⟨rfl, rfl⟩)
    | (go_at_call 28; refine (load_any q sent _ c5).mono ?_; rintro r w' ⟨rfl, rfl⟩))
  go_ret
  exact ⟨rfl, rfl⟩

set_option maxHeartbeats 400000 in
theorem whole_yes (h : QSt w O R q room v vs L begun credit sent) :
    Calls Try.prog 21 #[.pointer (some ⟨q, 0, none⟩)] w fun r w' => r = .returned (.int .i64 ((L.length : Int) - if begun = true then 1 else 0)) ∧ w' = w := by
  have c0 := cell_of h.blk 0
  have c1 := cell_of h.blk 1
  have c2 := cell_of h.blk 2
  obtain ⟨r0, r1⟩ := h.room0
  obtain ⟨a, c, rfl, l1, l2⟩ := h.own.shape
  unfold maxLen at l2
  have hl := h.len
  have hb : begun = true → 0 < vs.length := fun e => by rw [hl]; exact List.length_pos_iff.2 (h.bg e)
  clear h
  rw [← hl]
  clear hl
  cases begun
  · clear hb
    go_enter Try.func21, Try.ntmps21
    go_wp2_with (go_at_call 24; refine (made_yes q room _ c0 (by omega)).mono ?_; rintro r w' ⟨rfl, rfl⟩)
    go_ret
    exact ⟨by simp, rfl⟩
  · have h0 := hb rfl
    clear hb
    go_enter Try.func21, Try.ntmps21
    go_wp2_with (go_at_call 24; refine (made_yes q room _ c0 (by omega)).mono ?_; rintro r w' ⟨rfl, rfl⟩)
    go_ret
    exact ⟨by simp, rfl⟩
end

set_option maxHeartbeats 400000 in
theorem new_yes (room : Int) (w : World) (h0 : 19 ≤ room) (h1 : room ≤ 65536) :
    Calls Try.prog 7 #[.int .i64 room] w fun r w' => r = .returned (.pointer (some ⟨w.heap.size, 0, none⟩)) ∧ QSt w' (fun k => k = w.heap.size) (fun _ => False) w.heap.size room (.slice none 0 0) [] [] false 0 0 ∧ Below w.heap.size w w' := by
  go_enter Try.func7, Try.ntmps7
  go_wp2
  go_ret
  exact ⟨rfl, ⟨heap_alloc_new _ _, rfl, Own.nil _, by simp [Value.ownBlock], rfl, by simp, by simp, by simp, by simp, by simp, ⟨h0, h1⟩, by simp [tot]; omega, by simp, by simp⟩, below_alloc (Below.refl _ _) _⟩

set_option maxHeartbeats 400000 in
theorem new_no (room : Int) (w : World) (h : room < 19 ∨ 65536 < room) :
    Calls Try.prog 7 #[.int .i64 room] w fun r w' => r = .returned (.pointer none) ∧ w' = w := by
  by_cases h0 : room < 19
  · clear h
    go_enter Try.func7, Try.ntmps7
    go_wp2
    go_ret
    exact ⟨rfl, rfl⟩
  · have h1 := h.resolve_left h0
    clear h
    go_enter Try.func7, Try.ntmps7
    go_wp2
    go_ret
    exact ⟨rfl, rfl⟩

end Go.Proofs.Ytliaeknidmbelaa
