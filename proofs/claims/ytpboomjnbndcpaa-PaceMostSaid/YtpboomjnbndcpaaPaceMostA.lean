/-
  Proved here: the plain side of PaceMost: what one prefix's announcements look like, and how many fall into a window; and what Ready and Note do at such a pace.
-/
import Derived.Test.YtpboomjnbndcpaaPaceN
namespace Go.Proofs.Ytpboomjnbndcpaa
open Go.RowKit Go.MapKept

def xP : Pre := (16777216, 8)
def rowsOf (A : List Int) : List Mrow := match A.getLast? with | none => [] | some t => [(xP, t, 0)]
def ckOf (A : List Int) : Nat := match A.getLast? with | none => 0 | some _ => 1
def yOf (A : List Int) : Pre := match A.getLast? with | none => (0, 0) | some _ => xP
def uOf (A : List Int) : Int := match A.getLast? with | none => -1 | some t => t
def rdy (g : Int) (A : List Int) (now : Int) : Bool := match A.getLast? with | none => true | some t => decide (t + g ≤ now)

/-- The announcements: each at least g behind the one before; none behind 'now'. -/
structure Spaced (g : Int) (A : List Int) (now : Int) : Prop where
  apart : A.Pairwise (fun a b => a + g ≤ b)
  low : ∀ a ∈ A, 0 ≤ a
  high : ∀ a ∈ A, a ≤ now

theorem getLast_mem {A : List Int} {t : Int} (h : A.getLast? = some t) : t ∈ A := by
  obtain ⟨l, rfl⟩ := List.getLast?_eq_some_iff.1 h
  simp

theorem Spaced.later {g : Int} {A : List Int} {now now' : Int} (h : Spaced g A now) (hl : now ≤ now') : Spaced g A now' :=
  ⟨h.apart, h.low, fun a ha => Int.le_trans (h.high a ha) hl⟩
theorem Spaced.push {g : Int} {A : List Int} {now : Int} (h : Spaced g A now) (_hg : 1 ≤ g) (h0 : 0 ≤ now) (hr : rdy g A now = true) : Spaced g (A ++ [now]) now := by
  refine ⟨?_, fun a ha => ?_, fun a ha => ?_⟩
  · rw [List.pairwise_append]
    refine ⟨h.apart, by simp, fun a ha b hb => ?_⟩
    simp only [List.mem_singleton] at hb
    subst hb
    cases hL : A.getLast? with
    | none => rw [List.getLast?_eq_none_iff] at hL; subst hL; simp at ha
    | some t =>
      unfold rdy at hr
      rw [hL] at hr
      have ht : t + g ≤ b := by simpa using hr
      obtain ⟨l, rfl⟩ := List.getLast?_eq_some_iff.1 hL
      rcases List.mem_append.1 ha with h1 | h1
      · have := (List.pairwise_append.1 h.apart).2.2 a h1 t (by simp)
        omega
      · simp only [List.mem_singleton] at h1
        omega
  · rcases List.mem_append.1 ha with h1 | h1
    · exact h.low a h1
    · simp only [List.mem_singleton] at h1; omega
  · rcases List.mem_append.1 ha with h1 | h1
    · exact h.high a h1
    · simp only [List.mem_singleton] at h1; omega

theorem getLast_push (A : List Int) (n : Int) : (A ++ [n]).getLast? = some n := by simp

/-- A spaced row that ends below 'a + w' is short. -/
theorem spaced_len {g : Int} (hg : 1 ≤ g) : ∀ (l : List Int) (a w : Int), (a :: l).Pairwise (fun a b => a + g ≤ b) → (∀ b ∈ a :: l, b < a + w) → (l.length : Int) * g ≤ w - 1 := by
  intro l
  induction l with
  | nil => intro a w _ h; have := h a (by simp); simp; omega
  | cons b l ih =>
    intro a w hp h
    obtain ⟨h1, h2⟩ := List.pairwise_cons.1 hp
    have hb := h1 b (by simp)
    have := ih b (a + w - b) h2 (fun c hc => by have := h c (by simp at hc ⊢; exact .inr hc); omega)
    have e : ((b :: l).length : Int) * g = (l.length : Int) * g + g := by
      rw [List.length_cons, Int.natCast_add, Int.add_mul]; simp
    rw [e]
    omega

/-- How many fall into the window that begins at a row's head. -/
def hits (l : List Int) (top : Int) : Nat := (l.filter fun t => decide (t < top)).length
def mostI (w g : Int) : Int := if w < 1 then 0 else (w - 1) / g + 1

theorem hits_most {g : Int} (hg : 1 ≤ g) (a w : Int) (l : List Int) (hw : 0 ≤ w) (hp : (a :: l).Pairwise (fun a b => a + g ≤ b)) : (hits (a :: l) (a + w) : Int) ≤ mostI w g := by
  unfold mostI hits
  by_cases h0 : w < 1
  · rw [if_pos h0]
    have h00 : w = 0 := by omega
    subst h00
    have : (a :: l).filter (fun t => decide (t < a + 0)) = [] := by
      rw [List.filter_eq_nil_iff]
      intro b hb
      rcases List.mem_cons.1 hb with rfl | hb
      · simp
      · have := (List.pairwise_cons.1 hp).1 b hb
        simp; omega
    rw [this]; simp
  · rw [if_neg h0]
    have hs : ((a :: l).filter (fun t => decide (t < a + w))) = a :: l.filter (fun t => decide (t < a + w)) := by
      rw [List.filter_cons, if_pos (by simp; omega)]
    rw [hs]
    have hp' : (a :: l.filter (fun t => decide (t < a + w))).Pairwise (fun a b => a + g ≤ b) := by
      rw [← hs]; exact hp.filter _
    have := spaced_len hg _ a w hp' (fun b hb => by
      rcases List.mem_cons.1 hb with rfl | hb
      · omega
      · have := (List.mem_filter.1 hb).2
        simpa using this)
    have h2 : ((l.filter (fun t => decide (t < a + w))).length : Int) ≤ (w - 1) / g := (Int.le_ediv_iff_mul_le (by omega)).2 this
    simp only [List.length_cons]
    omega

set_option maxHeartbeats 400000 in
theorem most_all (t g : Int) (w : World) (ht2 : 0 ≤ t ∧ t ≤ 1000000) (hg : 1 ≤ g ∧ g ≤ 1000000) :
    Calls Try.prog 10 #[.int .i64 t, .int .i64 g] w fun e w' => e = .returned (.int .i64 (mostI t g)) ∧ w = w' := by
  unfold mostI
  by_cases h : t < 1
  · rw [if_pos h]
    obtain ⟨-, -⟩ := ht2
    go_enter Try.func10, Try.ntmps10
    go_wp2
    go_ret
    exact ⟨rfl, rfl⟩
  · rw [if_neg h]
    exact most_any t g w (by omega) (by omega) (by omega)

theorem hits_take (A : List Int) (i j : Nat) (top : Int) (h : i + j < A.length) : hits ((A.drop i).take (j + 1)) top = hits ((A.drop i).take j) top + (if A[i + j] < top then 1 else 0) := by
  unfold hits
  rw [List.take_succ_eq_append_getElem (by simp; omega), List.filter_append, List.length_append]
  congr 1
  simp only [List.getElem_drop, List.filter_cons, List.filter_nil, decide_eq_true_eq]
  split <;> rfl
theorem hits_le (l : List Int) (top : Int) : hits l top ≤ l.length := List.length_filter_le _ _
theorem hits_all {g : Int} (hg : 1 ≤ g) (A : List Int) (hA : A.Pairwise (fun a b => a + g ≤ b)) (i : Nat) (h : i < A.length) (w : Int) (hw : 0 ≤ w) :
    (hits ((A.drop i).take (A.length - i)) (A[i] + w) : Int) ≤ mostI w g := by
  rw [List.take_of_length_le (by simp)]
  have hd : A.drop i = A[i] :: A.drop (i + 1) := List.drop_eq_getElem_cons h
  have hp : (A.drop i).Pairwise (fun a b => a + g ≤ b) := hA.sublist (List.drop_sublist _ _)
  rw [hd] at hp ⊢
  exact hits_most hg _ w _ hw hp

theorem rows_get (A : List Int) : mget (rowsOf A) xP = A.getLast? := by
  unfold rowsOf
  cases A.getLast? <;> simp [mget]

theorem ready_most (b m : Nat) (g : Int) (A : List Int) (now : Int) (w : World) (hp : PaceAt w b m g (rowsOf A) (ckOf A) (yOf A) (uOf A)) (hg : 1 ≤ g ∧ g ≤ 65535)
    (hs : Spaced g A now) (hn : 0 ≤ now ∧ now ≤ 1099511627776) :
    Calls Try.prog 8 #[.pointer (some ⟨b, 0, none⟩), preV xP, .int .i64 now] w fun e w' => e = .returned (.bool (rdy g A now)) ∧ Below w.heap.size w w' := by
  have hget := rows_get A
  cases hL : A.getLast? with
  | none =>
    rw [hL] at hget
    have := ready_new b m g _ _ _ _ xP now w hp hget
    unfold rdy; rw [hL]; exact this
  | some t =>
    rw [hL] at hget
    have h1 := hs.low t (getLast_mem hL)
    have h2 := hs.high t (getLast_mem hL)
    have h := ready_old b m g _ _ _ _ xP now t w hp hget ⟨by omega, by omega⟩ ⟨h1, by omega⟩
    have e : readyB g (rowsOf A) (yOf A) (uOf A) xP now = rdy g A now := by
      unfold readyB rdy yOf uOf
      rw [hget, hL]
      simp only [true_and]
      split
      · rename_i h; symm; simp; omega
      · rfl
    rw [e] at h
    exact h

theorem note_most_yes (b m : Nat) (g : Int) (A : List Int) (now : Int) (w : World) (hp : PaceAt w b m g (rowsOf A) (ckOf A) (yOf A) (uOf A)) (hg : 1 ≤ g ∧ g ≤ 65535)
    (hs : Spaced g A now) (hn : 0 ≤ now ∧ now ≤ 1099511627776) (hr : rdy g A now = true) :
    Calls Try.prog 9 #[.pointer (some ⟨b, 0, none⟩), preV xP, .int .i64 now] w fun e w' => e = .returned (.int .i64 0) ∧
      PaceAt w' b m g (rowsOf (A ++ [now])) (ckOf (A ++ [now])) (yOf (A ++ [now])) (uOf (A ++ [now])) ∧ Eff (fun k => k = b ∨ k = m) w w' := by
  have hget := rows_get A
  have e1 : rowsOf (A ++ [now]) = [(xP, now, 0)] := by unfold rowsOf; rw [getLast_push]
  have e2 : ckOf (A ++ [now]) = 1 := by unfold ckOf; rw [getLast_push]
  have e3 : yOf (A ++ [now]) = xP := by unfold yOf; rw [getLast_push]
  have e4 : uOf (A ++ [now]) = now := by unfold uOf; rw [getLast_push]
  rw [e1, e2, e3, e4]
  have gd : goodI xP.1 xP.2 = true := by decide +kernel
  cases hL : A.getLast? with
  | none =>
    rw [hL] at hget
    have r1 : rowsOf A = [] := by unfold rowsOf; rw [hL]
    have r2 : ckOf A = 0 := by unfold ckOf; rw [hL]
    have h := note_ok_new b m g _ _ _ _ xP now w hp (by decide) gd hn hget (by rw [r1, r2]; exact ⟨by simp, by simp⟩)
    rw [r1, r2] at h
    exact h
  | some t =>
    rw [hL] at hget
    have r1 : rowsOf A = [(xP, t, 0)] := by unfold rowsOf; rw [hL]
    have r2 : ckOf A = 1 := by unfold ckOf; rw [hL]
    have h1 := hs.low t (getLast_mem hL)
    have h2 := hs.high t (getLast_mem hL)
    have h := note_ok_old b m g _ _ _ _ xP now t w hp (by decide) gd hn hget (by rw [r1, r2]; exact ⟨by simp, by simp⟩) ⟨by omega, by omega⟩ ⟨h1, by omega⟩ (by
      unfold rdy at hr
      rw [hL] at hr
      unfold readyB
      rw [hget]
      simp only
      have ht : t + g ≤ now := by simpa using hr
      have hu : ¬ uOf A = now := by unfold uOf; rw [hL]; simp only; omega
      rw [if_neg (fun h => hu h.2.2)]
      exact hr)
    rw [r1, r2] at h
    simpa [mput] using h

theorem note_most_no (b m : Nat) (g : Int) (A : List Int) (now : Int) (w : World) (hp : PaceAt w b m g (rowsOf A) (ckOf A) (yOf A) (uOf A)) (hg : 1 ≤ g ∧ g ≤ 65535)
    (hs : Spaced g A now) (hn : 0 ≤ now ∧ now ≤ 1099511627776) (hr : rdy g A now = false) :
    Calls Try.prog 9 #[.pointer (some ⟨b, 0, none⟩), preV xP, .int .i64 now] w fun e w' => e = .returned (.int .i64 8) ∧ Below w.heap.size w w' := by
  have hget := rows_get A
  have gd : goodI xP.1 xP.2 = true := by decide +kernel
  cases hL : A.getLast? with
  | none => unfold rdy at hr; rw [hL] at hr; cases hr
  | some t =>
    rw [hL] at hget
    have h1 := hs.low t (getLast_mem hL)
    have h2 := hs.high t (getLast_mem hL)
    refine note_state b m g _ _ _ _ xP now t w hp (by decide) gd hn hget ⟨by omega, by omega⟩ ⟨h1, by omega⟩ ?_
    unfold rdy at hr
    rw [hL] at hr
    unfold readyB
    rw [hget]
    simp only
    split
    · rfl
    · exact hr

end Go.Proofs.Ytpboomjnbndcpaa
