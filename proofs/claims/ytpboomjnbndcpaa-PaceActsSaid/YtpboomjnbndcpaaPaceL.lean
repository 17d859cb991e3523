/-
  Proved here: fairwaylaw20.lives returns true and changes nothing that was there; no condition.
-/
import Derived.Test.YtpboomjnbndcpaaPaceN
namespace Go.Proofs.Ytpboomjnbndcpaa
open Go.RowKit Go.MapKept

set_option maxHeartbeats 800000 in
theorem lives_any (w : World) : Calls Try.prog 6 #[] w fun e w' => e = .returned (.bool true) ∧ Below w.heap.size w w' := by
  have gd : goodI 0 0 = true := by decide +kernel
  go_enter Try.func6, Try.ntmps6
  go_wp2_with fail
  refine (new_yes 30 _ (by omega) (by omega)).mono ?_
  rintro e w1 ⟨rfl, hP, hb1⟩
  have hs1 := lt_of_heap hP.blk
  go_wp2_with fail
  refine (note_ok_new (w.heap.size + 1) w.heap.size 30 [] 0 (0, 0) (-1) (0, 0) 0 (w1.alloc _) ⟨heap_alloc_old hP.blk, heap_alloc_old hP.map⟩ (by decide) gd (by decide) rfl ⟨by simp, by simp⟩).mono ?_
  rintro e w2 ⟨rfl, hP2, hE2⟩
  have hx2 : w2.heap[w1.heap.size]? = some (.cells #[.int .u32 0, .int .i64 0] 28) := hE2.keep (heap_alloc_new w1 _) (by omega)
  have x20 : w2.cell? ⟨w1.heap.size, 0, none⟩ = some (.int .u32 0) := cell_of hx2 0
  have x21 : w2.cell? ⟨w1.heap.size, 1, none⟩ = some (.int .i64 0) := cell_of hx2 1
  have HX2 := Lib.hid hx2
  clear hx2
  go_wp2_with fail
  refine (note_state (w.heap.size + 1) w.heap.size 30 [((0, 0), 0, 0)] 1 (0, 0) 0 (0, 0) 29 0 w2 hP2 (by decide) gd (by decide) rfl (by decide) (by decide) (by decide)).mono ?_
  rintro e w3 ⟨rfl, hb3⟩
  have hx3 := below_heap hb3 HX2.out
  have x30 : w3.cell? ⟨w1.heap.size, 0, none⟩ = some (.int .u32 0) := cell_of hx3 0
  have x31 : w3.cell? ⟨w1.heap.size, 1, none⟩ = some (.int .i64 0) := cell_of hx3 1
  clear hx3
  go_wp2_with fail
  refine (note_ok_old (w.heap.size + 1) w.heap.size 30 [((0, 0), 0, 0)] 1 (0, 0) 0 (0, 0) 30 0 w3 (hP2.below hb3) (by decide) gd (by decide) rfl ⟨by simp, by simp⟩ (by decide) (by decide) (by decide)).mono ?_
  rintro e w4 ⟨rfl, hP4, hE4⟩
  go_wp2_with fail
  refine (most_any 31 30 _ (by decide) (by decide) (by decide)).mono ?_
  rintro e w5 ⟨rfl, rfl⟩
  go_wp2_with fail
  go_ret
  refine ⟨rfl, Eff.below (S := fun _ => False) ?_ (fun _ h => h)⟩
  have h1 : Eff (fun _ => False) w w1 := Eff.of_below _ hb1
  have hs := hb1.size
  have hs2 := hE2.size
  have hs3 := hb3.size
  exact ((((h1.alloc _).trans_new hE2 (fun i hi h => by omega)).trans (Eff.of_below _ hb3)).trans_new hE4 (fun i hi h => by omega))
end Go.Proofs.Ytpboomjnbndcpaa
