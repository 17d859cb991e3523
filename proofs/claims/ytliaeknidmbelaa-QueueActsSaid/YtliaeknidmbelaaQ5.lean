/-
  Proved here: what Take of the package queue does; the conditions are named.
-/
import Derived.Test.YtliaeknidmbelaaQ4
namespace Go.Proofs.Ytliaeknidmbelaa
open Go.RowKit

/-- What is taken: bytes; what stays: messages, whether the first was begun, credit. -/
def takeM : Nat → List (List Int) → Bool → List Int × List (List Int) × Bool × Nat
  | c, [], b => ([], [], b, c)
  | c, x :: L, b => if c = 0 then ([], x :: L, b, 0) else if x.length ≤ c then (x ++ (takeM (c - x.length) L false).1, (takeM (c - x.length) L false).2) else (x.take c, x.drop c :: L, true, 0)
theorem takeM_nil (c : Nat) (b : Bool) : takeM c [] b = ([], [], b, c) := rfl
theorem takeM_zero (L : List (List Int)) (b : Bool) : takeM 0 L b = ([], L, b, 0) := by cases L <;> simp [takeM]
theorem takeM_whole {c : Nat} {x : List Int} {L : List (List Int)} {b : Bool} (h0 : c ≠ 0) (h : x.length ≤ c) : takeM c (x :: L) b = (x ++ (takeM (c - x.length) L false).1, (takeM (c - x.length) L false).2) := by
  rw [takeM, if_neg h0, if_pos h]
theorem takeM_part {c : Nat} {x : List Int} {L : List (List Int)} {b : Bool} (h0 : c ≠ 0) (h : ¬ x.length ≤ c) : takeM c (x :: L) b = (x.take c, x.drop c :: L, true, 0) := by
  rw [takeM, if_neg h0, if_neg h]
theorem takeM_sum : ∀ (L : List (List Int)) (c : Nat) (b : Bool), (takeM c L b).1.length + tot (takeM c L b).2.1 = tot L ∧ (takeM c L b).2.2.2 ≤ c
  | [], c, b => by simp [takeM]
  | x :: L, c, b => by
    by_cases h0 : c = 0
    · subst h0; simp [takeM_zero]
    · by_cases h : x.length ≤ c
      · rw [takeM_whole h0 h]
        have := takeM_sum L (c - x.length) false
        rw [tot_cons]
        simp only [List.length_append]
        omega
      · rw [takeM_part h0 h]
        simp only [List.length_take, tot_cons, List.length_drop]
        omega

/-- How far a Take has to go. -/
def takeW (q : Nat) (w : World) : Nat :=
  (match w.cell? ⟨q, 1, none⟩ with | some (.slice _ n _) => n | _ => 0) + (match w.cell? ⟨q, 4, none⟩ with | some (.int _ c) => (if c = 0 then 0 else 1) | _ => 0)

section
variable {w : World} {O R : Nat → Prop} {q : Nat} {room : Int} {v : Value} {vs : List Value} {L : List (List Int)} {begun : Bool} {credit sent : Int}

theorem QSt.takeW (h : QSt w O R q room v vs L begun credit sent) : takeW q w = L.length + if credit = 0 then 0 else 1 := by
  obtain ⟨a, c, rfl, -, -⟩ := h.own.shape
  have c1 := cell_of h.blk 1
  have c4 := cell_of h.blk 4
  simp at c1 c4
  unfold Go.Proofs.Ytliaeknidmbelaa.takeW
  rw [c1, c4]
  simp [h.len]

theorem QSt.added (h : QSt w O R q room v vs L begun credit sent) (s : Int) (hs : 0 ≤ s ∧ s ≤ 1152921504606846976) : QSt (w.setCell ⟨q, 5, none⟩ (.int .i64 s)) O R q room v vs L begun credit s := by
  have e2 : ∀ k, k ≠ q → (w.setCell ⟨q, 5, none⟩ (.int .i64 s)).heap[k]? = w.heap[k]? := fun k h1 => Below.heap_setCell _ _ _ _ h1
  have hz : (w.setCell ⟨q, 5, none⟩ (.int .i64 s)).heap.size = w.heap.size := by simp [World.setCell]
  refine ⟨?_, h.qO, own_setCell_other h.own (fun e => (h.vO q e).2 rfl) _, h.vO, h.len, ?_, h.ne, ?_, h.disj, h.bg, h.room0, h.fits, h.cr, hs⟩
  · rw [heap_setCell_same h.blk 5 _]
    simp
  · intro i u ys hu hys
    exact (h.bts i u ys hu hys).keep (by omega) (fun k _ hR => e2 k (fun e => h.disj q h.qO (e ▸ hR))) (fun _ hk => hk)
  · intro k hk; rw [hz]; exact h.lt k hk

set_option maxHeartbeats 400000 in
theorem add_any (q : Nat) (x n : Int) (w : World) (hc : w.cell? ⟨q, 5, none⟩ = some (.int .i64 x)) (hz : w.frozen? ⟨q, 5, none⟩ = false) (h0 : 0 ≤ x + n) (h1 : x + n ≤ 1152921504606846976) :
    Calls Try.prog 27 #[.pointer (some ⟨q, 5, none⟩), .int .i64 n] w fun r w' => r = .returned (.int .i64 (x + n)) ∧ w' = w.setCell ⟨q, 5, none⟩ (.int .i64 (x + n)) := by
  have hs : (Op.intArith .add .i64 x n).run Try.prog w = .ok (.int .i64 (x + n)) w := by
    have e : IntKind.i64.wrap (x + n) = x + n := by rw [IntKind.wrap_i64]; omega
    simp [Op.intArith, e]
  have hl := run_call_add (P := Try.prog) Try.func39 (by kernel_rfl) (by kernel_rfl) (by kernel_rfl) .i64 (by kernel_rfl) hc hz hs
  clear hs
  go_enter Try.func27, Try.ntmps27
  go_wp2
  go_ret
  exact ⟨rfl, rfl⟩

/-- Take's loop, at a round's head. -/
def TakeAt (w : World) (O R : Nat → Prop) (q : Nat) (room : Int) (c0 : Nat) (L0 : List (List Int)) (b0 : Bool) (sent : Int) (ov : Value) (wr : World) : Prop :=
  ∃ (acc : List Int) (L1 : List (List Int)) (b1 : Bool) (c1 : Nat) (v1 : Value) (vs1 : List Value), QSt wr O R q room v1 vs1 L1 b1 (c1 : Int) sent ∧ Own wr ov (u8s acc) ∧ (∀ k, ov.ownBlock = some k → w.heap.size ≤ k) ∧ Eff O w wr ∧
    takeM c0 L0 b0 = (acc ++ (takeM c1 L1 b1).1, (takeM c1 L1 b1).2)

theorem u8s_append (a b : List Int) : u8s (a ++ b) = u8s a ++ u8s b := by simp [u8s]

set_option maxHeartbeats 2000000 in
theorem take_yes (h : QSt w O R q room v vs L begun credit sent) (hs : sent + tot L ≤ 1152921504606846976) :
    Calls Try.prog 10 #[.pointer (some ⟨q, 0, none⟩)] w fun e w' => ∃ u v' vs', e = .returned u ∧ Own w' u (u8s (takeM credit.toNat L begun).1) ∧ (∀ k, u.ownBlock = some k → w.heap.size ≤ k) ∧
      QSt w' O R q room v' vs' (takeM credit.toNat L begun).2.1 (takeM credit.toNat L begun).2.2.1 (takeM credit.toNat L begun).2.2.2 (sent + (takeM credit.toNat L begun).1.length) ∧ Eff O w w' := by
  go_enter Try.func10, Try.ntmps10
  obtain ⟨i0, hi, hz0, hz1, hz2⟩ := info_parts infoU8
  have HH := Lib.hid h
  have hcr := h.cr
  have hfit := h.fits
  have hroom := h.room0
  have hse := h.se
  clear h
  go_wp2_with fail
  go_loopw [3] (fun ov wr => TakeAt w O R q room credit.toNat L begun sent ov wr) (fun _ wr => takeW q wr)
  case atStart =>
    have e : ((credit.toNat : Nat) : Int) = credit := by omega
    exact ⟨[], L, begun, credit.toNat, v, vs, by rw [e]; exact HH.out, Own.nil _, by simp [Value.ownBlock], Eff.refl _ _, by simp⟩
  case round =>
    obtain ⟨acc, L1, b1, c1, v1, vs1, h1, ho, hnew, he, hM⟩ := hrel
    have hT := takeM_sum L credit.toNat begun
    have hT1 := takeM_sum L1 c1 b1
    have hacc : acc.length + tot L1 = tot L := by
      rw [hM] at hT
      simp only [List.length_append] at hT
      omega
    have k0 := cell_of h1.blk 0
    have k1 := cell_of h1.blk 1
    have k4 := cell_of h1.blk 4
    have k5 := cell_of h1.blk 5
    have z5 := free_of h1.blk 5
    have HW := Lib.hid h1.takeW
    obtain ⟨a1, cc1, rfl, m1, m2⟩ := h1.own.shape
    have hlen := h1.len
    have H1 := Lib.hid h1
    have HO := Lib.hid ho
    have HE := Lib.hid he
    have HM := Lib.hid hM
    have HN := Lib.hid hnew
    unfold maxLen at m2
    clear h1 ho he hM hT hT1 hnew
    by_cases hstop : c1 = 0 ∨ L1 = []
    · have hfin : takeM credit.toNat L begun = (acc, L1, b1, c1) := by
        rw [HM.out]
        rcases hstop with rfl | rfl
        · rw [takeM_zero]; simp
        · rw [takeM_nil]; simp
      have HF := Lib.hid hfin
      have hL0 : c1 = 0 ∨ (0 < c1 ∧ vs1.length = 0) := by
        by_cases h7 : c1 = 0
        · exact .inl h7
        · exact .inr ⟨by omega, by rw [hlen, hstop.resolve_left h7]; rfl⟩
      have hql : q < w.heap.size := HH.out.lt q (.inl HH.out.qO)
      clear hstop hfin hlen
      obtain ⟨a3, cc3, rfl, m3, m4⟩ := HO.out.shape
      rw [u8s_length] at *
      unfold maxLen at m4
      have hne : (Value.slice a3 acc.length cc3).ownBlock ≠ some q := fun e => by have := HN.out q e; omega
      have HNE := Lib.hid hne
      clear hne
      by_cases ha : acc.length = 0
      · have hfinal : ∃ u v' vs', Value.slice a3 0 cc3 = u ∧ Own wr u (u8s (takeM credit.toNat L begun).1) ∧ (∀ k, u.ownBlock = some k → w.heap.size ≤ k) ∧
            QSt wr O R q room v' vs' (takeM credit.toNat L begun).2.1 (takeM credit.toNat L begun).2.2.1 (takeM credit.toNat L begun).2.2.2 (sent + (takeM credit.toNat L begun).1.length) ∧ Eff O w wr := by
          refine ⟨_, .slice a1 vs1.length cc1, vs1, rfl, ?_, ?_, ?_, HE.out⟩
          · rw [HF.out]; have := HO.out; rw [ha] at this; exact this
          · have := HN.out; rw [ha] at this; exact this
          · rw [HF.out]; simp only [ha]; simpa using H1.out
        have HFI := Lib.hid hfinal
        clear hfinal HF HO HN HNE HM HE HW
        rw [ha] at *
        rcases hL0 with rfl | ⟨hc0, hv0⟩
        · have k4' : wr.cell? ⟨q, 4, none⟩ = some (.int .i64 0) := by simpa using k4
          clear k4
          go_wp2_with (go_at_call 24; refine (made_yes q room _ k0 (by omega)).mono ?_; rintro r w' ⟨rfl, rfl⟩)
          go_ret
          obtain ⟨u, v', vs', e1, f⟩ := HFI.out
          exact ⟨u, v', vs', by rw [← e1]; rfl, f⟩
        · go_wp2_with (go_at_call 24; refine (made_yes q room _ k0 (by omega)).mono ?_; rintro r w' ⟨rfl, rfl⟩)
          go_ret
          obtain ⟨u, v', vs', e1, f⟩ := HFI.out
          exact ⟨u, v', vs', by rw [← e1]; rfl, f⟩
      · have hfinal : ∃ u v' vs', Value.slice a3 acc.length cc3 = u ∧ Own (wr.setCell ⟨q, 5, none⟩ (.int .i64 (sent + acc.length))) u (u8s (takeM credit.toNat L begun).1) ∧ (∀ k, u.ownBlock = some k → w.heap.size ≤ k) ∧
            QSt (wr.setCell ⟨q, 5, none⟩ (.int .i64 (sent + acc.length))) O R q room v' vs' (takeM credit.toNat L begun).2.1 (takeM credit.toNat L begun).2.2.1 (takeM credit.toNat L begun).2.2.2 (sent + (takeM credit.toNat L begun).1.length) ∧ Eff O w (wr.setCell ⟨q, 5, none⟩ (.int .i64 (sent + acc.length))) := by
          refine ⟨_, .slice a1 vs1.length cc1, vs1, rfl, ?_, HN.out, ?_, HE.out.setCell (p := ⟨q, 5, none⟩) (fun _ => HH.out.qO) _⟩
          · rw [HF.out]; exact own_setCell_other HO.out HNE.out _
          · rw [HF.out]; exact H1.out.added _ (by omega)
        have HFI := Lib.hid hfinal
        clear hfinal HF HO HN HNE HM HE HW
        rcases hL0 with rfl | ⟨hc0, hv0⟩
        · have k4' : wr.cell? ⟨q, 4, none⟩ = some (.int .i64 0) := by simpa using k4
          clear k4
          go_wp2_with (first
            | (go_at_call 24; refine (made_yes q room _ k0 (by omega)).mono ?_; rintro r w' ⟨rfl, rfl⟩)
            | (go_at_call 27; refine (add_any q sent acc.length _ k5 z5 (by omega) (by omega)).mono ?_; rintro r w2 ⟨rfl, rfl⟩))
          go_ret
          obtain ⟨u, v', vs', e1, f⟩ := HFI.out
          exact ⟨u, v', vs', by rw [← e1]; rfl, f⟩
        · go_wp2_with (first
            | (go_at_call 24; refine (made_yes q room _ k0 (by omega)).mono ?_; rintro r w' ⟨rfl, rfl⟩)
            | (go_at_call 27; refine (add_any q sent acc.length _ k5 z5 (by omega) (by omega)).mono ?_; rintro r w2 ⟨rfl, rfl⟩))
          go_ret
          obtain ⟨u, v', vs', e1, f⟩ := HFI.out
          exact ⟨u, v', vs', by rw [← e1]; rfl, f⟩
    · obtain ⟨x, L2, rfl⟩ : ∃ x L2, L1 = x :: L2 := by
        cases L1 with
        | nil => exact absurd (.inr rfl) hstop
        | cons x L2 => exact ⟨x, L2, rfl⟩
      have hc1 : c1 ≠ 0 := fun e => hstop (.inl e)
      have hvl : vs1.length = L2.length + 1 := by rw [hlen]; rfl
      clear hstop hlen
      obtain ⟨a3, cc3, rfl, m3, m4⟩ := HO.out.shape
      rw [u8s_length] at *
      unfold maxLen at m4
      have hxl : x.length + tot L2 = tot (x :: L2) := (tot_cons _ _).symm
      have hx0 : 0 < x.length := H1.out.ne x (by simp)
      by_cases hx : x.length ≤ c1
      · go_wp2_with (first
          | (go_at_call 24; refine (made_yes q room _ k0 (by omega)).mono ?_; rintro r w' ⟨rfl, rfl⟩)
          | (go_at_call 26; refine (step_whole H1.out (by omega)).mono ?_; rintro r w1 ⟨u1, rfl, hl1, ⟨v2, vs2, hq1⟩, he1⟩; have HL1 := Lib.hid hl1; have HQ1 := Lib.hid hq1; have HE1 := Lib.hid he1; clear hq1 he1; obtain ⟨b5, o5, c5, rfl, -⟩ := hl1)
          | (at_builtin; refine wpList_own_append _ rfl _ _ 23 rfl 5 i0 (.int .u8 0) 1 Try.underlying23 hi hz0 hz1 hz2 rfl (.slice a3 acc.length cc3) (u8s acc) rfl (HO.out.eff HE1.out (fun k hk hO => by have := HN.out k hk; have := HH.out.lt k (.inl hO); omega)) _ x.length (u8s (x)) rfl HL1.out.src (by rw [u8s_length]; unfold maxLen; omega) (by rw [u8s_length]; omega) ?_; intro u2 w2 hown2 heff2 hblk2))
        have hnew2 : ∀ k, u2.ownBlock = some k → w.heap.size ≤ k := fun k hk => by
          rcases hblk2 with e | e
          · rw [e] at hk; exact HN.out k hk
          · rw [e] at hk; simp at hk; have := HE.out.size; have := HE1.out.size; omega
        have HQ2 := HQ1.out.eff heff2 (fun k hk e => by have := HN.out k e; have := HH.out.lt k hk; omega)
        have hE2 : Eff O w w2 := (HE.out.trans HE1.out).trans_new heff2 (fun i hi e => by have := HN.out i e; omega)
        have hW2 := HQ2.takeW
        go_roundw
        case rel => exact ⟨acc ++ x, L2, false, c1 - x.length, v2, vs2, by rw [show ((c1 - x.length : Nat) : Int) = (c1 : Int) - x.length by omega]; exact HQ2, by rw [u8s_append]; exact hown2, hnew2, hE2, by rw [HM.out, takeM_whole hc1 hx]; simp⟩
        case measure =>
          rw [hW2, HW.out]
          simp only [List.length_cons]; split <;> split <;> omega
      · go_wp2_with (first
          | (go_at_call 24; refine (made_yes q room _ k0 (by omega)).mono ?_; rintro r w' ⟨rfl, rfl⟩)
          | (go_at_call 26; refine (step_part H1.out (by omega) (by omega)).mono ?_; rintro r w1 ⟨u1, vs2, rfl, hl1, hq1, he1⟩; have HL1 := Lib.hid hl1; have HQ1 := Lib.hid hq1; have HE1 := Lib.hid he1; clear hq1 he1; rw [show ((c1 : Int)).toNat = c1 by omega] at hl1 HL1 HQ1; obtain ⟨b5, o5, c5, hu5, -⟩ := hl1; rw [List.length_take, Nat.min_eq_left (by omega)] at hu5; subst hu5)
          | (at_builtin; refine wpList_own_append _ rfl _ _ 23 rfl 5 i0 (.int .u8 0) 1 Try.underlying23 hi hz0 hz1 hz2 rfl (.slice a3 acc.length cc3) (u8s acc) rfl (HO.out.eff HE1.out (fun k hk hO => by have := HN.out k hk; have := HH.out.lt k (.inl hO); omega)) _ c1 (u8s (x.take c1)) rfl (by have h6 := HL1.out.src; rw [show (x.take c1).length = c1 by rw [List.length_take]; omega] at h6; exact h6) (by rw [u8s_length]; unfold maxLen; omega) (by rw [u8s_length]; omega) ?_; intro u2 w2 hown2 heff2 hblk2))
        have hnew2 : ∀ k, u2.ownBlock = some k → w.heap.size ≤ k := fun k hk => by
          rcases hblk2 with e | e
          · rw [e] at hk; exact HN.out k hk
          · rw [e] at hk; simp at hk; have := HE.out.size; have := HE1.out.size; omega
        have HQ2 := HQ1.out.eff heff2 (fun k hk e => by have := HN.out k e; have := HH.out.lt k hk; omega)
        have hE2 : Eff O w w2 := (HE.out.trans HE1.out).trans_new heff2 (fun i hi e => by have := HN.out i e; omega)
        have hW2 := HQ2.takeW
        go_roundw
        case rel => exact ⟨acc ++ x.take c1, x.drop c1 :: L2, true, 0, _, vs2, HQ2, by rw [u8s_append]; exact hown2, hnew2, hE2, by rw [HM.out, takeM_part hc1 hx, takeM_zero]; simp⟩
        case measure =>
          rw [hW2, HW.out]
          simp [hc1]
end

end Go.Proofs.Ytliaeknidmbelaa
