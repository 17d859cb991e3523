/-
  Proved here: what fairwaylaw14.act answers at a Push and at a Take, and at whatever act; the conditions are named.
-/
import Derived.Test.YtliaeknidmbelaaQA
namespace Go.Proofs.Ytliaeknidmbelaa
open Go.RowKit

section
variable {w w' w1 w2 : World} {O R M O' R' M' : Nat → Prop} {q m : Nat} {room : Int} {k : Nat}

set_option maxRecDepth 100000 in
set_option maxHeartbeats 2000000 in
theorem act_take (h : Two w O R M q m room k) (hk : k ≤ 1000) (n : Int) (u : Value) :
    Calls Try.prog 16 #[.pointer (some ⟨q, 0, none⟩), .pointer (some ⟨m, 0, none⟩), .agg #[.int .i64 2, .int .i64 n, u]] w fun r w' => Acted w O R M q m room k r w' := by
  have HH := Lib.hid h
  obtain ⟨v, vs, v2, vs2, L, begun, credit, sent, h1, h2, h3⟩ := h.ex
  have hB : Below w.heap.size w (w.alloc (.cells #[.int .i64 2, .int .i64 n, u] 40)) := below_alloc (Below.refl _ _) _
  have hsum := takeM_sum L credit.toNat begun
  have hst : sent + tot L ≤ 1152921504606846976 := by omega
  have H1 := Lib.hid (h1.below hB)
  have H2 := Lib.hid (h2.below hB)
  have HB := Lib.hid hB
  have HOM := Lib.hid h.om
  have hml := h2.mlt
  have HST := Lib.hid hst
  clear h h1 h2 hB hst
  go_enter Try.func16, Try.ntmps16
  go_wp2_with fail
  generalize hv0 : w.alloc (.cells #[.int .i64 2, .int .i64 n, u] 40) = v0 at *
  clear hv0
  have hs0 := HB.out.size
  go_region_law (first
    | (go_simp; go_at_call 10; go_loud (refine (take_yes H1.out.drew HST.out).mono ?_; rintro r w3 ⟨u3, v3, vs3, rfl, hu3, hk3, hq3, he3⟩; have Q3 := Lib.hid hq3; have E3 : Hid (Eff O v0 w3) := Lib.hid ((Eff.refl O v0).drew.trans he3); have H3 := Lib.hid (H2.out.drew.eff he3 (fun i hi hO => by have := HOM.out i hO; rcases hi with hi | hi; exact this.1 hi; exact this.2 hi)); have U3 := Lib.hid hu3; have K3 : Hid (∀ i, u3.ownBlock = some i → v0.heap.size ≤ i) := Lib.hid hk3; have cv3 := hu3.conv; obtain ⟨a3, c3, rfl, -, -⟩ := hu3.shape; clear hu3 hk3 hq3 he3))
    | (go_simp; go_at_call 31; go_loud (refine (mtake_yes H3.out HST.out).mono ?_; rintro r w4 ⟨u4, M4, v4, vs4, rfl, hu4, hm4, he4, hM4⟩; have Q4 := Lib.hid hm4; have E4 := Lib.hid he4; have N4 := Lib.hid hM4; have cv4 := hu4.conv; have cv34 := (U3.out.eff he4 (fun i hi e => by have := K3.out i hi; omega)).conv; obtain ⟨a4, c4, rfl, -, -⟩ := hu4.shape; clear hu4 hm4 he4 hM4)))
  all_goals
    go_wp2
    go_ret
    exact ⟨rfl, O, R, M4, HH.out.done (k' := k + 1) Q3.out ((Eff.of_below O HB.out).trans E3.out) (fun _ h => .inl h) (fun _ h => .inl h) Q4.out E4.out N4.out (by omega)⟩

set_option maxRecDepth 100000 in
set_option maxHeartbeats 2000000 in
theorem act_push_empty (h : Two w O R M q m room k) (n : Int) (a : Option Addr) (c : Nat) :
    Calls Try.prog 16 #[.pointer (some ⟨q, 0, none⟩), .pointer (some ⟨m, 0, none⟩), .agg #[.int .i64 0, .int .i64 n, .slice a 0 c]] w fun r w' => Acted w O R M q m room k r w' := by
  have HH := Lib.hid h
  obtain ⟨v, vs, v2, vs2, L, begun, credit, sent, h1, h2, h3⟩ := h.ex
  have hB : Below w.heap.size w (w.alloc (.cells #[.int .i64 0, .int .i64 n, .slice a 0 c] 40)) := below_alloc (Below.refl _ _) _
  have hX := heap_alloc_new w (.cells #[.int .i64 0, .int .i64 n, .slice a 0 c] 40)
  have H1 := Lib.hid (h1.below hB)
  have H2 := Lib.hid (h2.below hB)
  have HB := Lib.hid hB
  have HX := Lib.hid hX
  clear h h1 h2 hB hX
  go_enter Try.func16, Try.ntmps16
  go_wp2_with fail
  generalize hv0 : w.alloc (.cells #[.int .i64 0, .int .i64 n, .slice a 0 c] 40) = v0 at *
  clear hv0
  have x1 : v0.drew.cell? ⟨w.heap.size, 2, none⟩ = some (.slice a 0 c) := cell_of HX.out 2
  go_region_held3 (fun w' => w'.cell? ⟨w.heap.size, 2, none⟩ = some (.slice a 0 c))
    (go_keep)
    (first
      | (go_at_call 8; refine (push_empty H1.out.drew a c).mono ?_; rintro r w3 ⟨rfl, rfl⟩)
      | (go_at_call 29; refine (mpush_empty m a c _).mono ?_; rintro r w4 ⟨rfl, rfl⟩))
  all_goals
    go_wp2
    go_ret
    exact ⟨rfl, O, R, M, HH.out.done (k' := k + 1) H1.out.drew (Eff.of_below O HB.out).drew (fun _ h => .inl h) (fun _ h => .inl h) H2.out.drew (Eff.refl _ _) (fun _ h => .inl h) (by omega)⟩

set_option maxRecDepth 100000 in
set_option maxHeartbeats 2000000 in
theorem act_push_full (h : Two w O R M q m room k) (n : Int) (a : Option Addr) (l c : Nat) (hl : (l : Int) ≤ 140737488355328) {v v2 : Value} {vs vs2 : List Value} {L : List (List Int)} {begun : Bool} {credit sent : Int}
    (h1 : QSt w O R q room v vs L begun credit sent) (h2 : MSt w M m room v2 vs2 L begun credit sent) (h3 : sent + tot L ≤ 65536 * (k : Int)) (hf1 : room - tot L < l) :
    Calls Try.prog 16 #[.pointer (some ⟨q, 0, none⟩), .pointer (some ⟨m, 0, none⟩), .agg #[.int .i64 0, .int .i64 n, .slice a l c]] w fun r w' => Acted w O R M q m room k r w' := by
  have HH := Lib.hid h
  have hB : Below w.heap.size w (w.alloc (.cells #[.int .i64 0, .int .i64 n, .slice a l c] 40)) := below_alloc (Below.refl _ _) _
  have hX := heap_alloc_new w (.cells #[.int .i64 0, .int .i64 n, .slice a l c] 40)
  have H1 := Lib.hid (h1.below hB)
  have H2 := Lib.hid (h2.below hB)
  have HB := Lib.hid hB
  have HX := Lib.hid hX
  have HF := Lib.hid hf1
  have HL := Lib.hid hl
  clear h h1 h2 hB hX hf1 hl
  go_enter Try.func16, Try.ntmps16
  go_wp2_with fail
  generalize hv0 : w.alloc (.cells #[.int .i64 0, .int .i64 n, .slice a l c] 40) = v0 at *
  clear hv0
  have x1 : v0.drew.cell? ⟨w.heap.size, 2, none⟩ = some (.slice a l c) := cell_of HX.out 2
  go_region_held3 (fun w' => w'.cell? ⟨w.heap.size, 2, none⟩ = some (.slice a l c))
    (first | (go_keep; done) | exact x3 | exact x4)
    (first
      | (go_at_call 8; refine (push_full H1.out.drew a l c HL.out HF.out).mono ?_; rintro r w3 ⟨rfl, hb3⟩; have B3 : Hid (Below v0.heap.size v0 w3) := Lib.hid ((Below.refl _ v0).drew.trans hb3); have x3 := cell_below hb3 x1; clear hb3)
      | (go_at_call 29; refine (mpush_full (H2.out.below B3.out) a l c HL.out HF.out).mono ?_; rintro r w4 ⟨rfl, hb4⟩; have B4 := Lib.hid hb4; have x4 := cell_below hb4 x3; clear hb4))
  all_goals
    go_wp2
    go_ret
    exact ⟨rfl, O, R, M, HH.out.done (k' := k + 1) (H1.out.below B3.out) ((Eff.of_below O HB.out).trans (Eff.of_below O B3.out)) (fun _ h => .inl h) (fun _ h => .inl h) ((H2.out.below B3.out).below B4.out) (Eff.of_below _ B4.out) (fun _ h => .inl h) (by omega)⟩

set_option maxRecDepth 100000 in
set_option maxHeartbeats 2000000 in
theorem act_push_ok (h : Two w O R M q m room k) (n : Int) (u : Value) (xs : List Int) (hu : Lies w u xs) (h0 : 0 < xs.length) (hub : ∀ b, u.ownBlock = some b → ¬ O b) {v v2 : Value} {vs vs2 : List Value} {L : List (List Int)} {begun : Bool} {credit sent : Int}
    (h1 : QSt w O R q room v vs L begun credit sent) (h2 : MSt w M m room v2 vs2 L begun credit sent) (h3 : sent + tot L ≤ 65536 * (k : Int)) (h4 : (xs.length : Int) ≤ room - tot L) :
    Calls Try.prog 16 #[.pointer (some ⟨q, 0, none⟩), .pointer (some ⟨m, 0, none⟩), .agg #[.int .i64 0, .int .i64 n, u]] w fun r w' => Acted w O R M q m room k r w' := by
  have HH := Lib.hid h
  have hB : Below w.heap.size w (w.alloc (.cells #[.int .i64 0, .int .i64 n, u] 40)) := below_alloc (Below.refl _ _) _
  have hX := heap_alloc_new w (.cells #[.int .i64 0, .int .i64 n, u] 40)
  have hOX : ∀ i, O i → i < w.heap.size := fun i hi => HH.out.lt i (.inl hi)
  have hroom := h1.room0
  have H1 := Lib.hid (h1.below hB)
  have H2 := Lib.hid (h2.below hB)
  have HU := Lib.hid (hu.below hB)
  have HB := Lib.hid hB
  have HX := Lib.hid hX
  have HOM := Lib.hid h.om
  have HOX := Lib.hid hOX
  have HF := Lib.hid h4
  have hml := h2.mlt
  obtain ⟨b, o, c, rfl, hbl, -⟩ := hu
  have HUB := Lib.hid (hub b rfl)
  clear h h1 h2 hB hX hOX hub h4
  go_enter Try.func16, Try.ntmps16
  go_wp2_with fail
  generalize hv0 : w.alloc (.cells #[.int .i64 0, .int .i64 n, .slice (some ⟨b, o, none⟩) xs.length c] 40) = v0 at *
  clear hv0
  have x1 : v0.drew.cell? ⟨w.heap.size, 2, none⟩ = some (.slice (some ⟨b, o, none⟩) xs.length c) := cell_of HX.out 2
  go_region_held3 (fun w' => w'.cell? ⟨w.heap.size, 2, none⟩ = some (.slice (some ⟨b, o, none⟩) xs.length c))
    (first | (go_keep; done) | exact x3 | exact x4)
    (first
      | (go_at_call 8; refine (push_ok H1.out.drew _ xs HU.out.drew h0 HF.out).mono ?_; rintro r w3 ⟨O3, R3, v3, vs3, rfl, hq3, he3, hO3, hR3⟩; have Q3 := Lib.hid hq3; have E3 : Hid (Eff O v0 w3) := Lib.hid ((Eff.refl O v0).drew.trans he3); have NO := Lib.hid hO3; have NR := Lib.hid hR3; have H3 := Lib.hid (H2.out.drew.eff he3 (fun i hi hO => by have := HOM.out i hO; rcases hi with hi | hi; exact this.1 hi; exact this.2 hi)); have U3 : Hid (Lies w3 (.slice (some ⟨b, o, none⟩) xs.length c) xs) := Lib.hid (by obtain ⟨b', o', c', e, g1, g2⟩ := HU.out; simp only [Value.slice.injEq, Option.some.injEq, Addr.mk.injEq] at e; obtain ⟨⟨rfl, rfl, -⟩, -, rfl⟩ := e; exact ⟨b, o, c, rfl, Nat.lt_of_lt_of_le g1 E3.out.size, fun j y hj => by rw [World.cell?_of_block (w := v0) (E3.out.block b g1 HUB.out)]; exact g2 j y hj⟩); have x3 : w3.cell? ⟨w.heap.size, 2, none⟩ = some (.slice (some ⟨b, o, none⟩) xs.length c) := cell_of (E3.out.keep HX.out (fun hO => by have := HOX.out _ hO; omega)) 2; clear hq3 he3 hO3 hR3)
      | (go_at_call 29; refine (mpush_ok H3.out _ xs U3.out h0 HF.out).mono ?_; rintro r w4 ⟨M4, v4, vs4, rfl, hm4, he4, hM4⟩; have Q4 := Lib.hid hm4; have E4 := Lib.hid he4; have N4 := Lib.hid hM4; have x4 : w4.cell? ⟨w.heap.size, 2, none⟩ = some (.slice (some ⟨b, o, none⟩) xs.length c) := cell_of (he4.keep (E3.out.keep HX.out (fun hO => by have := HOX.out _ hO; omega)) (fun e => by omega)) 2; clear hm4 he4 hM4))
  all_goals
    go_wp2
    go_ret
    have hF := HF.out
    have hs0 := HB.out.size
    exact ⟨rfl, O3, R3, M4, HH.out.done (k' := k + 1) Q3.out ((Eff.of_below O HB.out).trans E3.out) (fun i hi => (NO.out i hi).imp id (fun h6 => Nat.le_trans hs0 h6)) (fun i hi => (NR.out i hi).imp id (fun h6 => Nat.le_trans hs0 h6)) Q4.out E4.out N4.out (by rw [tot_append, tot_cons, tot_nil]; omega)⟩

/-- Whatever act. -/
theorem act_any (h : Two w O R M q m room k) (hk : k ≤ 1000) (kind n : Int) (u : Value) (xs : List Int) (hu : RowIn w u xs) (hx : xs.length ≤ 50000) (hub : 0 < xs.length → ∀ b, u.ownBlock = some b → ¬ O b) :
    Calls Try.prog 16 #[.pointer (some ⟨q, 0, none⟩), .pointer (some ⟨m, 0, none⟩), .agg #[.int .i64 kind, .int .i64 n, u]] w fun r w' => Acted w O R M q m room k r w' := by
  by_cases k0 : kind = 0
  · subst k0
    rcases hu with ⟨rfl, a, c, rfl⟩ | ⟨h0, hu⟩
    · exact act_push_empty h n a c
    · obtain ⟨v, vs, v2, vs2, L, begun, credit, sent, h1, h2, h3⟩ := h.ex
      by_cases hf : (xs.length : Int) ≤ room - tot L
      · exact act_push_ok h n u xs hu h0 (hub h0) h1 h2 h3 hf
      · obtain ⟨b, o, c, rfl, -⟩ := hu
        exact act_push_full h n _ xs.length c (by omega) h1 h2 h3 (by omega)
  by_cases k1 : kind = 1
  · subst k1; exact act_grant h n u
  by_cases k2 : kind = 2
  · subst k2; exact act_take h hk n u
  by_cases k3 : kind = 3
  · subst k3; exact act_drop h n u
  by_cases k4 : kind = 4
  · subst k4; exact act_clear h n u
  exact act_other h kind n u ⟨k0, k1, k2, k3, k4⟩
end

end Go.Proofs.Ytliaeknidmbelaa
