/-
  Proved here: what Grant, Drop, Clear of the package queue do, and Push where nothing is pushed; the conditions are named.
-/
import Derived.Test.YtliaeknidmbelaaQ5
namespace Go.Proofs.Ytliaeknidmbelaa
open Go.RowKit

section
variable {w : World} {O R : Nat → Prop} {q : Nat} {room : Int} {v : Value} {vs : List Value} {L : List (List Int)} {begun : Bool} {credit sent : Int}

theorem QSt.granted (h : QSt w O R q room v vs L begun credit sent) (s : Int) (hs : 0 ≤ s ∧ s ≤ 1073741824) : QSt (w.setCell ⟨q, 4, none⟩ (.int .i64 s)) O R q room v vs L begun s sent := by
  have e2 : ∀ k, k ≠ q → (w.setCell ⟨q, 4, none⟩ (.int .i64 s)).heap[k]? = w.heap[k]? := fun k h1 => Below.heap_setCell _ _ _ _ h1
  have hz : (w.setCell ⟨q, 4, none⟩ (.int .i64 s)).heap.size = w.heap.size := by simp [World.setCell]
  refine ⟨?_, h.qO, own_setCell_other h.own (fun e => (h.vO q e).2 rfl) _, h.vO, h.len, ?_, h.ne, ?_, h.disj, h.bg, h.room0, h.fits, hs, h.se⟩
  · rw [heap_setCell_same h.blk 4 _]
    simp
  · intro i u ys hu hys
    exact (h.bts i u ys hu hys).keep (by omega) (fun k _ hR => e2 k (fun e => h.disj q h.qO (e ▸ hR))) (fun _ hk => hk)
  · intro k hk; rw [hz]; exact h.lt k hk

/-- The credit behind a Grant. -/
def grantM (credit n : Int) : Int := if n ≤ 0 then credit else if n ≤ 1073741824 - credit then credit + n else 1073741824

set_option maxHeartbeats 1000000 in
theorem grant_yes (h : QSt w O R q room v vs L begun credit sent) (n : Int) :
    Calls Try.prog 9 #[.pointer (some ⟨q, 0, none⟩), .int .i64 n] w fun r w' => r = .returned (.int .i64 (grantM credit n)) ∧ QSt w' O R q room v vs L begun (grantM credit n) sent ∧ Eff O w w' := by
  have c0 := cell_of h.blk 0
  have c4 := cell_of h.blk 4
  have z1 := free_of h.blk
  have hcr := h.cr
  have hr := h.room0
  have HH := Lib.hid h
  have hql := lt_of_heap h.blk
  clear h
  go_enter Try.func9, Try.ntmps9
  go_wp2_with (go_at_call 24; refine (made_yes q room _ c0 (by omega)).mono ?_; rintro r w' ⟨rfl, rfl⟩)
  go_still_tail 13, (by kernel_rfl)
  have hw : IntKind.i64.wrap (1073741824 - credit) = 1073741824 - credit := by rw [IntKind.wrap_i64]; omega
  have hg : IntKind.i64.wrap (credit + if 1073741824 - credit < (if n < 0 then 0 else n) then 1073741824 - credit else if n < 0 then 0 else n) = grantM credit n := by
    unfold grantM
    rw [IntKind.wrap_i64]
    by_cases h1 : n < 0
    · simp only [if_pos h1, if_pos (show n ≤ 0 by omega), if_neg (show ¬ 1073741824 - credit < 0 by omega)]; omega
    · by_cases h2 : 1073741824 - credit < n
      · simp only [if_neg h1, if_pos h2, if_neg (show ¬ n ≤ 0 by omega), if_neg (show ¬ n ≤ 1073741824 - credit by omega)]; omega
      · by_cases h3 : n ≤ 0
        · simp only [if_neg h1, if_neg h2, if_pos h3]; omega
        · simp only [if_neg h1, if_neg h2, if_neg h3, if_pos (show n ≤ 1073741824 - credit by omega)]; omega
  have hrange : 0 ≤ grantM credit n ∧ grantM credit n ≤ 1073741824 := by unfold grantM; repeat' split; all_goals omega
  rw [hw, hg]
  change wpList _ _ _ _ _ w'.drew
  clear hw hg
  have HR := Lib.hid hrange
  clear hrange
  obtain ⟨g, hg0⟩ : ∃ g, grantM credit n = g := ⟨_, rfl⟩
  rw [hg0] at HR ⊢
  have HG := Lib.hid hg0
  clear hg0
  generalize (1073741824 - credit) = t1
  generalize (if n < 0 then 0 else n) = t2
  generalize (if t1 < t2 then t1 else t2) = t3
  go_wp2
  go_ret
  rw [HG.out]
  exact ⟨rfl, (HH.out.granted g HR.out).drew, ((Eff.refl O w').setCell (p := ⟨q, 4, none⟩) (fun _ => HH.out.qO) _).drew⟩
end

end Go.Proofs.Ytliaeknidmbelaa
