/-
  Proved here: what fairwaylaw14.act and fairwaylaw14.alike answer at a queue and a queue of the document that hold the same; the conditions are named.
-/
import Derived.Test.YtliaeknidmbelaaQM4
namespace Go.Proofs.Ytliaeknidmbelaa
open Go.RowKit

/-- A message that came in. -/
def RowIn (w : World) (u : Value) (xs : List Int) : Prop := (xs = [] ∧ ∃ a c, u = .slice a 0 c) ∨ (0 < xs.length ∧ Lies w u xs)
theorem RowIn.below {w w' : World} {u : Value} {xs : List Int} (h : RowIn w u xs) (hb : Below w.heap.size w w') : RowIn w' u xs := by
  rcases h with h | ⟨h1, h2⟩
  · exact .inl h
  · exact .inr ⟨h1, h2.below hb⟩

/-- A queue and the document's, that hold the same. -/
structure Two (w : World) (O R M : Nat → Prop) (q m : Nat) (room : Int) (k : Nat) : Prop where
  ex : ∃ v vs v2 vs2 L begun credit sent, QSt w O R q room v vs L begun credit sent ∧ MSt w M m room v2 vs2 L begun credit sent ∧ sent + tot L ≤ 65536 * (k : Int)
  om : ∀ i, O i → ¬ M i ∧ i ≠ m
  rm : ¬ R m

section
variable {w w' w1 w2 : World} {O R M O' R' M' : Nat → Prop} {q m : Nat} {room : Int} {k : Nat}

theorem Two.keep (h : Two w O R M q m room k) (hs : w.heap.size ≤ w'.heap.size) (hk : ∀ i, O i ∨ R i ∨ M i ∨ i = m → w'.heap[i]? = w.heap[i]?) : Two w' O R M q m room k := by
  obtain ⟨v, vs, v2, vs2, L, begun, credit, sent, h1, h2, h3⟩ := h.ex
  exact ⟨⟨v, vs, v2, vs2, L, begun, credit, sent, h1.keep hs (fun i hi => hk i (by rcases hi with hi | hi; exact .inl hi; exact .inr (.inl hi))), h2.keep hs (fun i hi => hk i (.inr (.inr hi))), h3⟩, h.om, h.rm⟩
theorem Two.lt (h : Two w O R M q m room k) : ∀ i, O i ∨ R i ∨ M i ∨ i = m → i < w.heap.size := by
  obtain ⟨v, vs, v2, vs2, L, begun, credit, sent, h1, h2, -⟩ := h.ex
  rintro i (hi | hi | hi | rfl)
  · exact h1.lt i (.inl hi)
  · exact h1.lt i (.inr hi)
  · exact h2.lt i hi
  · exact h2.mlt
theorem Two.below (h : Two w O R M q m room k) (hb : Below w.heap.size w w') : Two w' O R M q m room k :=
  h.keep hb.size fun i hi => hb.block i (h.lt i hi)
theorem Two.eff {S : Nat → Prop} (h : Two w O R M q m room k) (he : Eff S w w') (hS : ∀ i, O i ∨ R i ∨ M i ∨ i = m → ¬ S i) : Two w' O R M q m room k :=
  h.keep he.size fun i hi => he.block i (h.lt i hi) (hS i hi)

/-- What is left behind an act: first the queue, then the document's. -/
theorem Two.done (h : Two w O R M q m room k) {v v2 : Value} {vs vs2 : List Value} {L : List (List Int)} {begun : Bool} {credit sent : Int} {k' : Nat} (q1 : QSt w1 O' R' q room v vs L begun credit sent) (e1 : Eff O w w1)
    (hO' : ∀ i, O' i → O i ∨ w.heap.size ≤ i) (hR' : ∀ i, R' i → R i ∨ w.heap.size ≤ i) (m2 : MSt w2 M' m room v2 vs2 L begun credit sent) (e2 : Eff (fun i => i = m) w1 w2) (hM' : ∀ i, M' i → M i ∨ w1.heap.size ≤ i) (hs : sent + tot L ≤ 65536 * (k' : Int)) :
    Two w2 O' R' M' q m room k' ∧ Eff (fun i => O i ∨ i = m) w w2 ∧ (∀ i, O' i → O i ∨ w.heap.size ≤ i) ∧ (∀ i, R' i → R i ∨ w.heap.size ≤ i) ∧ ∀ i, M' i → M i ∨ w.heap.size ≤ i := by
  have hml := h.lt m (.inr (.inr (.inr rfl)))
  have hs1 := e1.size
  have hOm : ∀ i, O' i → i ≠ m := fun i hi => by
    rcases hO' i hi with h6 | h6
    · exact (h.om i h6).2
    · omega
  have hRm : ¬ R' m := fun hi => by
    rcases hR' m hi with h6 | h6
    · exact h.rm h6
    · omega
  refine ⟨⟨⟨v, vs, v2, vs2, L, begun, credit, sent, q1.eff e2 (fun i hi e => ?_), m2, hs⟩, fun i hi => ⟨fun hM => ?_, hOm i hi⟩, hRm⟩, (e1.mono (fun i _ hi => .inl hi)).trans (e2.mono (fun i _ hi => .inr hi)), hO', hR', fun i hi => (hM' i hi).imp id (fun h6 => Nat.le_trans hs1 h6)⟩
  · subst e
    rcases hi with hi | hi
    · exact hOm i hi rfl
    · exact hRm hi
  · have := q1.lt i (.inl hi)
    rcases hM' i hM with h6 | h6
    · rcases hO' i hi with h7 | h7
      · exact (h.om i h7).1 h6
      · have := h.lt i (.inr (.inr (.inl h6))); omega
    · omega

/-- What an act leaves. -/
def Acted (w : World) (O R M : Nat → Prop) (q m : Nat) (room : Int) (k : Nat) (r : Ending) (w' : World) : Prop :=
  r = .returned (.bool true) ∧ ∃ O' R' M', Two w' O' R' M' q m room (k + 1) ∧ Eff (fun i => O i ∨ i = m) w w' ∧ (∀ i, O' i → O i ∨ w.heap.size ≤ i) ∧ (∀ i, R' i → R i ∨ w.heap.size ≤ i) ∧ ∀ i, M' i → M i ∨ w.heap.size ≤ i

theorem Two.box (h : Two w O R M q m room k) (o : Obj) : Two (w.alloc o) O R M q m room k := h.below (below_alloc (Below.refl _ _) _)

set_option maxRecDepth 100000 in
set_option maxHeartbeats 2000000 in
theorem alike_any (h : Two w O R M q m room k) :
    Calls Try.prog 17 #[.pointer (some ⟨q, 0, none⟩), .pointer (some ⟨m, 0, none⟩)] w fun r w' => r = .returned (.bool true) ∧ Below w.heap.size w w' := by
  obtain ⟨v, vs, v2, vs2, L, begun, credit, sent, h1, h2, -⟩ := h.ex
  have c3 := cell_of h2.blk 3
  have c4 := cell_of h2.blk 4
  have hw1 := fun vw (hq : QSt vw O R q room v vs L begun credit sent) => whole_yes hq
  have hw2 := fun vw (hq : MSt vw M m room v2 vs2 L begun credit sent) => mwhole_yes hq
  generalize ((L.length : Int) - if begun = true then (1 : Int) else 0) = wn at hw1 hw2
  have W1 := Lib.hid hw1
  have W2 := Lib.hid hw2
  have H1 := Lib.hid h1
  have H2 := Lib.hid h2
  clear h h1 h2 hw1 hw2
  go_enter Try.func17, Try.ntmps17
  go_wp2_with fail
  go_region_held3 (fun w' => w'.cell? ⟨m, 3, none⟩ = some (.int .i64 credit) ∧ w'.cell? ⟨m, 4, none⟩ = some (.int .i64 sent))
    (first | (go_keep; done) | exact ⟨d3, d4⟩ | exact ⟨e3, e4⟩)
    (first
      | (go_at_call 12; refine (len_yes H1.out.drew).mono ?_; rintro r w' ⟨rfl, rfl⟩)
      | (go_at_call 34; refine (mlen_yes H2.out.drew).mono ?_; rintro r w' ⟨rfl, rfl⟩)
      | (go_at_call 21; refine (W1.out _ H1.out.drew).mono ?_; rintro r w' ⟨rfl, rfl⟩)
      | (go_at_call 35; refine (W2.out _ H2.out.drew).mono ?_; rintro r w' ⟨rfl, rfl⟩)
      | (go_at_call 22; refine (credit_yes H1.out.drew).mono ?_; rintro r w' ⟨rfl, rfl⟩)
      | (go_at_call 23; refine (room_yes H1.out.drew).mono ?_; rintro r v5 ⟨rfl, hb5⟩; have B5 := Lib.hid hb5; have d3 := cell_below hb5 c3; have d4 := cell_below hb5 c4)
      | (go_at_call 36; refine (mroom_yes (H2.out.drew.below B5.out)).mono ?_; rintro r v6 ⟨rfl, hb6⟩; have B6 := Lib.hid hb6; have e3 := cell_below hb6 d3; have e4 := cell_below hb6 d4)
      | (go_at_call 13; refine (sent_yes ((H1.out.drew.below B5.out).below B6.out)).mono ?_; rintro r w' ⟨rfl, rfl⟩))
  all_goals
    go_wp2
    go_ret
  exact ⟨rfl, ((Below.refl _ w).drew.trans B5.out).trans (B6.out.mono B5.out.size)⟩

set_option maxRecDepth 100000 in
set_option maxHeartbeats 1000000 in
theorem act_other (h : Two w O R M q m room k) (kind n : Int) (u : Value) (hk : kind ≠ 0 ∧ kind ≠ 1 ∧ kind ≠ 2 ∧ kind ≠ 3 ∧ kind ≠ 4) :
    Calls Try.prog 16 #[.pointer (some ⟨q, 0, none⟩), .pointer (some ⟨m, 0, none⟩), .agg #[.int .i64 kind, .int .i64 n, u]] w fun r w' => Acted w O R M q m room k r w' := by
  obtain ⟨k0, k1, k2, k3, k4⟩ := hk
  have HH := Lib.hid h
  clear h
  go_enter Try.func16, Try.ntmps16
  go_wp2_with fail
  go_ret
  obtain ⟨v, vs, v2, vs2, L, begun, credit, sent, h1, h2, h3⟩ := HH.out.ex
  refine ⟨rfl, O, R, M, HH.out.done (k' := k + 1) (h1.below (below_alloc (Below.refl _ _) _)) (Eff.of_below _ (below_alloc (Below.refl _ _) _)) (fun _ h => .inl h) (fun _ h => .inl h) (h2.below (below_alloc (Below.refl _ _) _)) (Eff.refl _ _) (fun _ h => .inl h) (by omega)⟩

set_option maxRecDepth 100000 in
set_option maxHeartbeats 1000000 in
theorem act_clear (h : Two w O R M q m room k) (n : Int) (u : Value) :
    Calls Try.prog 16 #[.pointer (some ⟨q, 0, none⟩), .pointer (some ⟨m, 0, none⟩), .agg #[.int .i64 4, .int .i64 n, u]] w fun r w' => Acted w O R M q m room k r w' := by
  have HH := Lib.hid h
  obtain ⟨v, vs, v2, vs2, L, begun, credit, sent, h1, h2, h3⟩ := h.ex
  have hB : Below w.heap.size w (w.alloc (.cells #[.int .i64 4, .int .i64 n, u] 40)) := below_alloc (Below.refl _ _) _
  have H1 := Lib.hid (h1.below hB)
  have H2 := Lib.hid (h2.below hB)
  have HB := Lib.hid hB
  have HOM := Lib.hid h.om
  clear h h1 h2 hB
  go_enter Try.func16, Try.ntmps16
  go_wp2_with (first
    | (go_at_call 20; refine (clear_yes H1.out).mono ?_; rintro r w3 ⟨rfl, hq3, he3⟩; have Q3 := Lib.hid hq3; have E3 := Lib.hid he3; have H3 := Lib.hid (H2.out.eff he3 (fun i hi hO => by have := HOM.out i hO; rcases hi with hi | hi; exact this.1 hi; exact this.2 hi)); clear hq3 he3)
    | (go_at_call 33; refine (mclear_yes H3.out).mono ?_; rintro r w4 ⟨rfl, hm4, he4⟩; have M4 := Lib.hid hm4; have E4 := Lib.hid he4; clear hm4 he4))
  go_ret
  have hse := Q3.out.se
  refine ⟨rfl, O, R, M, HH.out.done (k' := k + 1) Q3.out ((Eff.of_below O HB.out).trans E3.out) (fun _ h => .inl h) (fun _ h => .inl h) M4.out E4.out (fun _ h => .inl h) (by rw [tot_nil]; omega)⟩

set_option maxRecDepth 100000 in
set_option maxHeartbeats 1000000 in
theorem act_drop (h : Two w O R M q m room k) (n : Int) (u : Value) :
    Calls Try.prog 16 #[.pointer (some ⟨q, 0, none⟩), .pointer (some ⟨m, 0, none⟩), .agg #[.int .i64 3, .int .i64 n, u]] w fun r w' => Acted w O R M q m room k r w' := by
  have HH := Lib.hid h
  obtain ⟨v, vs, v2, vs2, L, begun, credit, sent, h1, h2, h3⟩ := h.ex
  have hB : Below w.heap.size w (w.alloc (.cells #[.int .i64 3, .int .i64 n, u] 40)) := below_alloc (Below.refl _ _) _
  have hbl : begun = true → 0 < L.length := fun e => List.length_pos_iff.2 (h1.bg e)
  obtain ⟨d, hd⟩ : ∃ d, L.length = (if begun = true then 1 else 0) + d := ⟨L.length - (if begun = true then 1 else 0), by
    split
    · rename_i e; have := hbl e; omega
    · omega⟩
  have HD := Lib.hid hd
  have H1 := Lib.hid (h1.below hB)
  have H2 := Lib.hid (h2.below hB)
  have HB := Lib.hid hB
  have HOM := Lib.hid h.om
  have hle := tot_take_le L (if begun = true then 1 else 0)
  clear h h1 h2 hB hd hbl
  go_enter Try.func16, Try.ntmps16
  go_wp2_with (first
    | (go_at_call 11; refine (drop_yes H1.out _ d rfl HD.out).mono ?_; rintro r w3 ⟨rfl, ⟨v3, vs3, hq3⟩, he3⟩; have Q3 := Lib.hid hq3; have E3 := Lib.hid he3; have H3 := Lib.hid (H2.out.eff he3 (fun i hi hO => by have := HOM.out i hO; rcases hi with hi | hi; exact this.1 hi; exact this.2 hi)); clear hq3 he3)
    | (go_at_call 32; refine (mdrop_yes H3.out _ d rfl HD.out).mono ?_; rintro r w4 ⟨rfl, ⟨v4, vs4, hm4⟩, he4⟩; have M4 := Lib.hid hm4; have E4 := Lib.hid he4; clear hm4 he4))
  go_ret
  refine ⟨rfl, O, R, M, HH.out.done (k' := k + 1) Q3.out ((Eff.of_below O HB.out).trans E3.out) (fun _ h => .inl h) (fun _ h => .inl h) M4.out E4.out (fun _ h => .inl h) (by omega)⟩

set_option maxRecDepth 100000 in
set_option maxHeartbeats 1000000 in
theorem act_grant (h : Two w O R M q m room k) (n : Int) (u : Value) :
    Calls Try.prog 16 #[.pointer (some ⟨q, 0, none⟩), .pointer (some ⟨m, 0, none⟩), .agg #[.int .i64 1, .int .i64 n, u]] w fun r w' => Acted w O R M q m room k r w' := by
  have HH := Lib.hid h
  obtain ⟨v, vs, v2, vs2, L, begun, credit, sent, h1, h2, h3⟩ := h.ex
  have hB : Below w.heap.size w (w.alloc (.cells #[.int .i64 1, .int .i64 n, u] 40)) := below_alloc (Below.refl _ _) _
  have hX := heap_alloc_new w (.cells #[.int .i64 1, .int .i64 n, u] 40)
  have hOX : ∀ i, O i → i < w.heap.size := fun i hi => HH.out.lt i (.inl hi)
  have H1 := Lib.hid (h1.below hB)
  have H2 := Lib.hid (h2.below hB)
  have HB := Lib.hid hB
  have HX := Lib.hid hX
  have HOM := Lib.hid h.om
  have HOX := Lib.hid hOX
  have hml := h2.mlt
  clear h h1 h2 hB hX hOX
  go_enter Try.func16, Try.ntmps16
  go_wp2_with fail
  generalize hv0 : w.alloc (.cells #[.int .i64 1, .int .i64 n, u] 40) = v0 at *
  clear hv0
  have x1 : v0.drew.cell? ⟨w.heap.size, 1, none⟩ = some (.int .i64 n) := cell_of HX.out 1
  go_region_held3 (fun w' => w'.cell? ⟨w.heap.size, 1, none⟩ = some (.int .i64 n))
    (first | (go_keep; done) | exact x3 | exact x4)
    (first
      | (go_at_call 9; refine (grant_yes H1.out.drew n).mono ?_; rintro r w3 ⟨rfl, hq3, he3⟩; have Q3 := Lib.hid hq3; have E3 : Hid (Eff O v0 w3) := Lib.hid ((Eff.refl O v0).drew.trans he3); have H3 := Lib.hid (H2.out.drew.eff he3 (fun i hi hO => by have := HOM.out i hO; rcases hi with hi | hi; exact this.1 hi; exact this.2 hi)); have x3 : w3.cell? ⟨w.heap.size, 1, none⟩ = some (.int .i64 n) := cell_of (E3.out.keep HX.out (fun hO => by have := HOX.out _ hO; omega)) 1; clear hq3 he3)
      | (go_at_call 30; refine (mgrant_yes H3.out n).mono ?_; rintro r w4 ⟨rfl, hm4, he4⟩; have M4 := Lib.hid hm4; have E4 := Lib.hid he4; have x4 : w4.cell? ⟨w.heap.size, 1, none⟩ = some (.int .i64 n) := cell_of (he4.keep (E3.out.keep HX.out (fun hO => by have := HOX.out _ hO; omega)) (fun e => by omega)) 1; clear hm4 he4))
  all_goals
    go_wp2
    go_ret
  refine ⟨rfl, O, R, M, HH.out.done (k' := k + 1) Q3.out ((Eff.of_below O HB.out).trans E3.out) (fun _ h => .inl h) (fun _ h => .inl h) M4.out E4.out (fun _ h => .inl h) (by omega)⟩
end

end Go.Proofs.Ytliaeknidmbelaa
