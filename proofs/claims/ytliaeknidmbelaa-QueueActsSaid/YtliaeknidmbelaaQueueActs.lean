/-
  Proved here: fairwaylaw14.QueueActs returns true for every input, and its input reads as it did; no condition. (The walk.)
-/
import Derived.Test.YtliaeknidmbelaaQA2
import Derived.ProofKit
import Derived.OpenShut
import Derived.ShutString
import Derived.ChangeOld
import Derived.Deep.Strs
import Derived.Lib.SmallJoins
namespace Go.Proofs.Ytliaeknidmbelaa.queueActs
open Go.ChangeShapes Go.WideShapes Go.ChangeAt Go.RowKit Go.Deep
set_option linter.unusedVariables false

theorem bel_call {a u u' : World} (h : Below a.heap.size a u) (hb : Below u.heap.size u u') : Below a.heap.size a u' := h.trans (hb.mono h.size)

/-- The acts that came in. -/
structure ActsIn (w : World) (a : Option Addr) (n : Nat) (sb so : Nat) (K N : Nat → Int) (U : Nat → Value) (X : Nat → List Int) : Prop where
  at0 : 0 < n → a = some ⟨sb, so, none⟩ ∧ sb < w.heap.size
  c0 : ∀ j, j < n → w.cell? ⟨sb, so + j * 3, none⟩ = some (.int .i64 (K j))
  c1 : ∀ j, j < n → w.cell? ⟨sb, so + j * 3 + 1, none⟩ = some (.int .i64 (N j))
  c2 : ∀ j, j < n → w.cell? ⟨sb, so + j * 3 + 2, none⟩ = some (U j)
  row : ∀ j, j < n → RowIn w (U j) (X j)
  small : ∀ j, j < n → (X j).length ≤ 140737488355328

theorem rowIn_shape {w : World} {u : Value} {xs : List Int} (h : RowIn w u xs) : ∃ a c, u = .slice a xs.length c := by
  rcases h with ⟨rfl, a, c, rfl⟩ | ⟨-, b, o, c, rfl, -⟩
  · exact ⟨a, c, rfl⟩
  · exact ⟨_, c, rfl⟩

theorem ActsIn.below {w w' : World} {a : Option Addr} {n sb so : Nat} {K N : Nat → Int} {U : Nat → Value} {X : Nat → List Int} (h : ActsIn w a n sb so K N U X) (hb : Below w.heap.size w w') : ActsIn w' a n sb so K N U X :=
  ⟨fun h0 => ⟨(h.at0 h0).1, Nat.lt_of_lt_of_le (h.at0 h0).2 hb.size⟩, fun j hj => cell_below hb (h.c0 j hj), fun j hj => cell_below hb (h.c1 j hj), fun j hj => cell_below hb (h.c2 j hj), fun j hj => (h.row j hj).below hb, h.small⟩

set_option maxHeartbeats 1000000 in
theorem light_any (a : Option Addr) (n c sb so : Nat) (K N : Nat → Int) (U : Nat → Value) (X : Nat → List Int) (w : World) (hm : n ≤ maxLen) (h : ActsIn w a n sb so K N U X) :
    Calls Try.prog 14 #[.slice a n c] w fun r w' => (∃ b : Bool, r = .returned (.bool b) ∧ (b = true → n ≤ 150 ∧ ∀ j, j < n → (X j).length ≤ 50000)) ∧ Below w.heap.size w w' := by
  unfold maxLen at hm
  by_cases hbig : 150 < n
  · clear h
    go_enter Try.func14, Try.ntmps14
    go_wp2
    go_ret
    exact ⟨⟨false, rfl, by simp⟩, Below.refl _ _⟩
  · have HH := Lib.hid h
    clear h
    go_enter Try.func14, Try.ntmps14
    go_wp2_with fail
    go_loopw [3, 11] (fun nv iv wr => Below w.heap.size w wr ∧ ∃ j s : Nat, j ≤ n ∧ iv = .int .i64 j ∧ nv = .int .i64 s ∧ s ≤ 50000 ∧ ∀ i, i < j → (X i).length ≤ 50000) (fun _ iv _ => n - (intOf iv).toNat)
    case atStart => exact ⟨Below.refl _ _, 0, 0, Nat.zero_le _, rfl, rfl, by omega, fun i hi => absurd hi (Nat.not_lt_zero i)⟩
    case round =>
      obtain ⟨hb, j, s, hj, rfl, rfl, hs, hall⟩ := hrel
      by_cases hjn : j < n
      · have H2 := HH.out.below hb
        obtain ⟨rfl, hsb⟩ := H2.at0 (by omega)
        have c0 := H2.c0 j hjn
        have c1 := H2.c1 j hjn
        have c2 := H2.c2 j hjn
        have hsm := H2.small j hjn
        obtain ⟨ua, uc, hu⟩ := rowIn_shape (H2.row j hjn)
        rw [hu] at c2
        have HB := Lib.hid hb
        have HA := Lib.hid hall
        clear hb hall H2 hu
        generalize hxl : (X j).length = xl at *
        have HXL := Lib.hid hxl
        clear hxl
        generalize K j = kj at *
        generalize N j = nj at *
        by_cases hle : s + xl ≤ 50000
        · go_wp2
          go_roundw
          case rel => exact ⟨below_alloc HB.out _, j + 1, s + xl, by omega, by go_num, by go_num, hle, fun i hi => by
            by_cases e : i = j
            · subst e; rw [HXL.out]; omega
            · exact HA.out i (by omega)⟩
          case measure => simp [intOf]; omega
        · go_wp2
          go_ret
          exact ⟨⟨false, rfl, by simp⟩, below_alloc HB.out _⟩
      · obtain rfl : j = n := by omega
        have HB := Lib.hid hb
        have HA := Lib.hid hall
        clear hb hall
        go_wp2
        go_ret
        exact ⟨⟨true, rfl, fun _ => ⟨by omega, HA.out⟩⟩, HB.out⟩

/-- A loop over acts, at a round's head. -/
def LoopAt (W : World) (q m : Nat) (room : Int) (k : Nat) (wr : World) : Prop :=
  ∃ O R M, Two wr O R M q m room k ∧ (∀ i, O i → W.heap.size ≤ i) ∧ Below W.heap.size W wr

theorem neweff {W a b : World} {O : Nat → Prop} (h : Below W.heap.size W a) (he : Eff O a b) (hO : ∀ k, O k → W.heap.size ≤ k) : Below W.heap.size W b := neweff_trans h he hO

/-- What an act leaves of the law's world. -/
theorem LoopAt.acted {W v0 w' : World} {O R M : Nat → Prop} {q m : Nat} {room : Int} {k : Nat} {r : Ending} (hm : W.heap.size ≤ m) (hO : ∀ i, O i → W.heap.size ≤ i) (hb : Below W.heap.size W v0) (h : Acted v0 O R M q m room k r w') :
    r = .returned (.bool true) ∧ LoopAt W q m room (k + 1) w' := by
  obtain ⟨h1, O', R', M', h2, h3, h4, -, -⟩ := h
  have hs := hb.size
  refine ⟨h1, O', R', M', h2, fun i hi => ?_, neweff hb h3 (fun i hi => ?_)⟩
  · rcases h4 i hi with h6 | h6
    · exact hO i h6
    · omega
  · rcases hi with h6 | rfl
    · exact hO i h6
    · exact hm

/-- Two pairs at a round's head of the second loop. -/
def Loop2 (W : World) (q m c d : Nat) (room : Int) (k1 k : Nat) (wr : World) : Prop :=
  ∃ O R M O2 R2 M2, Two wr O R M q m room k1 ∧ Two wr O2 R2 M2 c d room k ∧ (∀ i, O2 i ∨ i = d → ¬ (O i ∨ R i ∨ M i ∨ i = m)) ∧ (∀ i, O2 i → W.heap.size ≤ i) ∧ Below W.heap.size W wr

theorem Loop2.acted {W v0 w' : World} {O R M O2 R2 M2 : Nat → Prop} {q m c d : Nat} {room : Int} {k1 k : Nat} {r : Ending} (hd : W.heap.size ≤ d) (h1 : Two v0 O R M q m room k1) (hdis : ∀ i, O2 i ∨ i = d → ¬ (O i ∨ R i ∨ M i ∨ i = m))
    (hO : ∀ i, O2 i → W.heap.size ≤ i) (hb : Below W.heap.size W v0) (h : Acted v0 O2 R2 M2 c d room k r w') : r = .returned (.bool true) ∧ Loop2 W q m c d room k1 (k + 1) w' := by
  obtain ⟨e, O', R', M', h2, h3, h4, -, -⟩ := h
  have hs := hb.size
  have hlt := h1.lt
  refine ⟨e, O, R, M, O', R', M', h1.eff h3 (fun i hi h6 => hdis i h6 hi), h2, fun i hi h7 => ?_, fun i hi => ?_, neweff hb h3 (fun i hi => ?_)⟩
  · rcases hi with hi | rfl
    · rcases h4 i hi with h6 | h6
      · exact hdis i (.inl h6) h7
      · have := hlt i h7; omega
    · exact hdis i (.inr rfl) h7
  · rcases h4 i hi with h6 | h6
    · exact hO i h6
    · omega
  · rcases hi with h6 | rfl
    · exact hO i h6
    · exact hd

theorem ActsIn.hub {W : World} {a : Option Addr} {n sb so : Nat} {K N : Nat → Int} {U : Nat → Value} {X : Nat → List Int} (h : ActsIn W a n sb so K N U X) {j : Nat} (hj : j < n) {O : Nat → Prop} (hO : ∀ i, O i → W.heap.size ≤ i) :
    0 < (X j).length → ∀ b, (U j).ownBlock = some b → ¬ O b := by
  intro h0 b hb hOb
  rcases h.row j hj with ⟨e, -⟩ | ⟨-, b', o, c, e, hlt, -⟩
  · rw [e] at h0; simp at h0
  · rw [e] at hb
    simp [Value.ownBlock] at hb
    have := hO b hOb
    omega

set_option maxRecDepth 100000 in
set_option maxHeartbeats 4000000 in
theorem walk (room : Int) (a1 a2 : Option Addr) (n1 c1 n2 c2 : Nat) (w : World) (m1 : n1 ≤ maxLen) (m2 : n2 ≤ maxLen)
    (s1 o1 s2 o2 : Nat) (K1 N1 K2 N2 : Nat → Int) (U1 U2 : Nat → Value) (X1 X2 : Nat → List Int) (h1 : ActsIn w a1 n1 s1 o1 K1 N1 U1 X1) (h2 : ActsIn w a2 n2 s2 o2 K2 N2 U2 X2) :
    Calls Try.prog 4 #[.int .i64 room, .slice a1 n1 c1, .slice a2 n2 c2] w fun e w' => e = .returned (.bool true) ∧ Below w.heap.size w w' := by
  have H1 := Lib.hid h1
  have H2 := Lib.hid h2
  have MM1 := Lib.hid m1
  have MM2 := Lib.hid m2
  clear h1 h2
  go_enter Try.func4, Try.ntmps4
  go_wp2_with fail
  refine (light_any a1 n1 c1 s1 o1 K1 N1 U1 X1 w m1 H1.out).mono ?_
  rintro r w1 ⟨⟨b1, rfl, hl1⟩, hb1⟩
  have B1 := Lib.hid hb1
  have HL1 := Lib.hid hl1
  clear hl1 hb1
  cases b1 with
  | false =>
    go_wp2_with (go_at_call 6; refine (lives_any _).mono ?_; rintro r v2 ⟨rfl, hb2⟩)
    go_ret
    exact ⟨rfl, bel_call B1.out hb2⟩
  | true =>
    go_wp2_with fail
    refine (light_any a2 n2 c2 s2 o2 K2 N2 U2 X2 w1 m2 (H2.out.below B1.out)).mono ?_
    rintro r w2 ⟨⟨b2, rfl, hl2⟩, hb2⟩
    have B2 : Hid (Below w.heap.size w w2) := Lib.hid (bel_call B1.out hb2)
    have HL2 := Lib.hid hl2
    clear hl2 hb2 B1
    cases b2 with
    | false =>
      go_wp2_with (go_at_call 6; refine (lives_any _).mono ?_; rintro r v2 ⟨rfl, hb2⟩)
      go_ret
      exact ⟨rfl, bel_call B2.out hb2⟩
    | true =>
      by_cases hr : room < 19 ∨ 65536 < room
      · have HR := Lib.hid hr
        clear hr
        go_wp2_with (first
          | (go_at_call 7; refine (new_no room _ HR.out).mono ?_; rintro r w3 ⟨rfl, rfl⟩)
          | (go_at_call 15; refine (mnew_no room _ HR.out).mono ?_; rintro r w3 ⟨rfl, rfl⟩)
          | (go_at_call 6; refine (lives_any _).mono ?_; rintro r v2 ⟨rfl, hb2⟩))
        go_ret
        exact ⟨rfl, bel_call B2.out hb2⟩
      · have r0 : 19 ≤ room := by have := fun h => hr (.inl h); omega
        have r1 : room ≤ 65536 := by have := fun h => hr (.inr h); omega
        obtain ⟨t1, t2⟩ := HL1.out (by simp)
        obtain ⟨t3, t4⟩ := HL2.out (by simp)
        have T2 := Lib.hid t2
        have T4 := Lib.hid t4
        clear hr HL1 HL2 t2 t4
        have hs2 := B2.out.size
        go_wp2_with (first
          | (go_at_call 7; refine (new_yes room _ r0 r1).mono ?_; rintro r w3 ⟨rfl, hq, hb3⟩; have Q3 := Lib.hid hq; have B3 := Lib.hid hb3; clear hq hb3)
          | (go_at_call 15; refine (mnew_yes room _ r0 r1).mono ?_; rintro r w4 ⟨rfl, hq, hb4⟩; have Q4 := Lib.hid hq; have B4 := Lib.hid hb4; clear hq hb4))
        have hs3 := B3.out.size
        have hq3 := Q3.out.lt _ (.inl rfl)
        have hT : Two w4 (fun k => k = w2.heap.size) (fun _ => False) (fun _ => False) w2.heap.size w3.heap.size room 0 :=
          ⟨⟨_, _, _, _, _, _, _, _, Q3.out.below B4.out, Q4.out, by simp [tot]⟩, fun i hi => ⟨id, by omega⟩, id⟩
        have HLP : Hid (LoopAt w w2.heap.size w3.heap.size room 0 w4) := Lib.hid ⟨_, _, _, hT, fun i hi => by omega, bel_call (bel_call B2.out B3.out) B4.out⟩
        have hmW : w.heap.size ≤ w3.heap.size := by omega
        clear hT hs3 hq3 Q3 Q4 B3 B4 B2
        generalize w2.heap.size = q at *
        generalize w3.heap.size = m at *
        clear hs2
        go_loopw [38] (fun i wr => ∃ k : Nat, k ≤ n1 ∧ i = .int .i64 k ∧ LoopAt w q m room k wr) (fun i _ => n1 - (intOf i).toNat)
        case atStart => exact ⟨0, Nat.zero_le _, rfl, HLP.out⟩
        case round =>
          obtain ⟨k, hk, rfl, hL⟩ := hrel
          by_cases hlt : k < n1
          · obtain ⟨O, R, M, hT, hO, hbel⟩ := hL
            have A := H1.out.below hbel
            obtain ⟨rfl, hsb⟩ := A.at0 (by omega)
            have d0 := A.c0 k hlt
            have d1 := A.c1 k hlt
            have d2 := A.c2 k hlt
            obtain ⟨ua, uc, hu⟩ := rowIn_shape (A.row k hlt)
            have B0 : Below w.heap.size w (wr.alloc (.cells #[.int .i64 (K1 k), .int .i64 (N1 k), U1 k] 40)) := below_alloc hbel _
            have hact := act_any (hT.box (.cells #[.int .i64 (K1 k), .int .i64 (N1 k), U1 k] 40)) (by omega) (K1 k) (N1 k) (U1 k) (X1 k) ((H1.out.row k hlt).below B0) (T2.out k hlt) (H1.out.hub hlt hO)
            have hact2 := hact.mono (fun r w' h => LoopAt.acted hmW hO B0 h)
            rw [hu] at d2 hact2
            have ACT := Lib.hid hact2
            clear hact hact2 A hu B0 hT hbel hO
            generalize (X1 k).length = xl at *
            generalize K1 k = kj at *
            generalize N1 k = nj at *
            go_wp2_with (first
              | (go_at_call 16; refine ACT.out.mono ?_; rintro r w5 ⟨rfl, O5, R5, M5, hT5, hO5, hb5⟩; have T5 := Lib.hid hT5; have O5' := Lib.hid hO5; have B5 := Lib.hid hb5; clear hT5 hO5 hb5)
              | (go_at_call 17; refine (alike_any T5.out).mono ?_; rintro r w6 ⟨rfl, hb6⟩; have B6 := Lib.hid hb6; clear hb6))
            go_roundw
            case rel => exact ⟨k + 1, by omega, by go_num, O5, R5, M5, T5.out.below B6.out, O5'.out, bel_call B5.out B6.out⟩
            case measure => simp [intOf]; omega
          · obtain rfl : k = n1 := by omega
            have HLL := Lib.hid hL
            clear hL HLP
            obtain ⟨O, R, M, hT, hO, hbel⟩ := HLL.out
            obtain ⟨v, vs, v2, vs2, L, begun, credit, sent, q1, q2, hsum⟩ := hT.ex
            have HQ1 := Lib.hid q1
            have HQ2 := Lib.hid q2
            have HT := Lib.hid hT
            have HOO := Lib.hid hO
            have HB := Lib.hid hbel
            clear q1 q2 hT hO hbel
            go_wp2_with (first
              | (go_at_call 18; refine (copy_yes HQ1.out).mono ?_; rintro r w5 ⟨c, O2, v3, rfl, hq5, hb5, hO5⟩; have Q5 := Lib.hid hq5; have B5 := Lib.hid hb5; have N5 := Lib.hid hO5; clear hq5 hb5 hO5)
              | (go_at_call 19; refine (mcopy_yes (HQ2.out.below B5.out)).mono ?_; rintro r w6 ⟨d, M2, v4, rfl, hq6, hb6, hd6, hM6⟩; have Q6 := Lib.hid hq6; have B6 := Lib.hid hb6; have N6 := Lib.hid hM6; have D6 := Lib.hid hd6; clear hq6 hb6 hM6 hd6))
            have hs5 := B5.out.size
            have hs6 := B6.out.size
            have hsW := HB.out.size
            have hlt6 := HT.out.lt
            have hd6 := D6.out
            have hT2 : Two w6 O2 R M2 c d room k :=
              ⟨⟨_, _, _, _, _, _, _, _, Q5.out.below B6.out, Q6.out, hsum⟩, fun i hi => by
                have h7 := N5.out i hi
                have h8 := Q5.out.lt i (.inl hi)
                refine ⟨fun hM => ?_, fun e => by omega⟩
                rcases N6.out i hM with h9 | h9
                · have := hlt6 i (.inr (.inr (.inl h9))); omega
                · omega, fun hR => by have := hlt6 d (.inr (.inl hR)); omega⟩
            have HLQ : Hid (Loop2 w q m c d room k k w6) := Lib.hid ⟨O, R, M, O2, R, M2, (HT.out.below B5.out).below B6.out, hT2, fun i hi h7 => by
              have h8 := hlt6 i h7
              rcases hi with hi | rfl
              · have := N5.out i hi; omega
              · omega, fun i hi => Nat.le_trans hsW (N5.out i hi), bel_call (bel_call HB.out B5.out) B6.out⟩
            have hdW : w.heap.size ≤ d := by omega
            clear hT2 hs5 hs6 hsW hlt6 hd6 Q5 B5 N5 Q6 B6 N6 D6 HQ1 HQ2 HT HOO HB HLL
            go_loopw [60] (fun i wr => ∃ j : Nat, j ≤ n2 ∧ i = .int .i64 j ∧ Loop2 w q m c d room k (k + j) wr) (fun i _ => n2 - (intOf i).toNat)
            case atStart => exact ⟨0, Nat.zero_le _, rfl, HLQ.out⟩
            case round =>
              obtain ⟨j, hj, rfl, hL⟩ := hrel
              by_cases hlt : j < n2
              · obtain ⟨O, R, M, O2, R2, M2, hT, hT2, hdis, hO, hbel⟩ := hL
                have A := H2.out.below hbel
                obtain ⟨rfl, hsb⟩ := A.at0 (by omega)
                have d0 := A.c0 j hlt
                have d1 := A.c1 j hlt
                have d2 := A.c2 j hlt
                obtain ⟨ua, uc, hu⟩ := rowIn_shape (A.row j hlt)
                have B0 : Below w.heap.size w (wr.alloc (.cells #[.int .i64 (K2 j), .int .i64 (N2 j), U2 j] 40)) := below_alloc hbel _
                have hact := act_any (hT2.box (.cells #[.int .i64 (K2 j), .int .i64 (N2 j), U2 j] 40)) (by omega) (K2 j) (N2 j) (U2 j) (X2 j) ((H2.out.row j hlt).below B0) (T4.out j hlt) (H2.out.hub hlt hO)
                have hact2 := hact.mono (fun r w' h => Loop2.acted hdW (hT.box _) hdis hO B0 h)
                rw [hu] at d2 hact2
                have ACT := Lib.hid hact2
                clear hact hact2 A hu B0 hT hT2 hbel hO hdis
                generalize (X2 j).length = xl at *
                generalize K2 j = kj at *
                generalize N2 j = nj at *
                go_wp2_with (first
                  | (go_at_call 16; refine ACT.out.mono ?_; rintro r w7 ⟨rfl, hl7⟩; have L7 := Lib.hid hl7; clear hl7))
                go_roundw
                case rel => exact ⟨j + 1, by omega, by go_num, L7.out⟩
                case measure => simp [intOf]; omega
              · obtain rfl : j = n2 := by omega
                obtain ⟨O, R, M, O2, R2, M2, hT, hT2, -, -, hbel⟩ := hL
                have T1 := Lib.hid hT
                have T3 := Lib.hid hT2
                have HB := Lib.hid hbel
                clear hT hT2 hbel HLQ
                go_wp2_with (first
                  | (go_at_call_of 17 (Value.pointer (some ⟨q, 0, none⟩)); refine (alike_any T1.out).mono ?_; rintro r w8 ⟨rfl, hb8⟩; have B8 := Lib.hid hb8; clear hb8)
                  | (go_at_call_of 17 (Value.pointer (some ⟨c, 0, none⟩)); refine (alike_any (T3.out.below B8.out)).mono ?_; rintro r w9 ⟨rfl, hb9⟩; have B9 := Lib.hid hb9; clear hb9)
                  | (go_at_call 6; refine (lives_any _).mono ?_; rintro r w10 ⟨rfl, hb10⟩))
                go_ret
                exact ⟨rfl, bel_call (bel_call (bel_call HB.out B8.out) B9.out) hb10⟩

end Go.Proofs.Ytliaeknidmbelaa.queueActs
