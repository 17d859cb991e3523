/-
  Proved here: the document's example of a queue comes out; no condition.
-/
import Derived.Test.YtliaeknidmbelaaQ7
import Derived.Laws.BytesArg
namespace Go.Proofs.Ytliaeknidmbelaa
open Go.RowKit

theorem Own.conv {w : World} {v : Value} {xs : List Int} (h : Own w v (u8s xs)) : (convert 23 9 v).run Try.prog w = .ok (.string (strOfNums xs)) w := by
  rcases h with ⟨rfl, hx⟩ | ⟨g, o, cap, rfl, -, -, -, -, h4⟩
  · have : xs = [] := by simpa [u8s] using hx
    subst this
    exact run_convert_bytes_nil w 23 5 Try.underlying23 Try.underlying5 _ _ _ Try.underlying9
  · rw [u8s_length]
    refine run_convert_bytes_arg w 23 5 Try.underlying23 Try.underlying5 g o xs.length cap xs rfl (fun i hi => ?_) _ Try.underlying9
    exact h4 i _ (by simp [u8s, List.getD, hi])

/-- Only new blocks were written. -/
theorem neweff_trans {w a b : World} {O : Nat → Prop} (h : Below w.heap.size w a) (he : Eff O a b) (hO : ∀ k, O k → w.heap.size ≤ k) : Below w.heap.size w b :=
  ⟨he.os.trans h.os, he.tape.trans h.tape, he.output.trans h.output, Nat.le_trans h.size he.size, fun k hk => (he.block k (Nat.lt_of_lt_of_le hk h.size) (fun h6 => by have := hO k h6; omega)).trans (h.block k hk)⟩

theorem lies_new {w : World} {B : Nat} {cs : Array Value} {t : TypeId} {xs : List Int} (hb : w.heap[B]? = some (.cells cs t)) (hx : cs.toList = u8s xs) (c : Nat) : Lies w (.slice (some ⟨B, 0, none⟩) xs.length c) xs := by
  refine ⟨B, 0, c, rfl, lt_of_heap hb, fun j x hj => ?_⟩
  rw [Nat.zero_add, cell_of hb j, ← Array.getElem?_toList, hx]
  simp [u8s, hj]

set_option maxHeartbeats 1000000 in
theorem lives_any (w : World) :
    Calls Try.prog 6 #[] w fun r w' => r = .returned (.bool true) ∧ Below w.heap.size w w' := by
  go_enter Try.func6, Try.ntmps6
  go_wp2_with fail
  refine (new_yes 99 _ (by omega) (by omega)).mono ?_
  rintro r w1 ⟨rfl, h1, hb1⟩
  have B1 := Lib.hid hb1
  have hql : w.heap.size ≤ w1.heap.size := hb1.size
  go_wp2_with fail
  refine (push_ok (h1.below (below_alloc (Below.refl _ _) _)) _ [1, 2, 3] (lies_new (heap_alloc_new _ _) rfl 3) (by simp) (by simp [tot])).mono ?_
  rintro r w2 ⟨O2, R2, v2, vs2, rfl, h2, e2, hO2, hR2⟩
  have B2 : Hid (Below w.heap.size w w2) := Lib.hid (neweff_trans (below_alloc B1.out _) e2 (fun k hk => Nat.le_of_eq hk.symm))
  have O2' : Hid (∀ k, O2 k → w.heap.size ≤ k) := Lib.hid (fun k hk => by
    rcases hO2 k hk with h6 | h6
    · omega
    · rw [World.size_alloc] at h6; omega)
  clear h1 hb1 e2 hO2 hR2
  have H2 := Lib.hid h2
  clear h2
  go_wp2_with fail
  refine (push_ok (H2.out.below (below_alloc (Below.refl _ _) _)) _ [4] (lies_new (heap_alloc_new _ _) rfl 1) (by simp) (by simp [tot])).mono ?_
  rintro r w3 ⟨O3, R3, v3, vs3, rfl, h3, e3, hO3, hR3⟩
  have hs2 := B2.out.size
  have B3 : Hid (Below w.heap.size w w3) := Lib.hid (neweff_trans (below_alloc B2.out _) e3 O2'.out)
  have O3' : Hid (∀ k, O3 k → w.heap.size ≤ k) := Lib.hid (fun k hk => by
    rcases hO3 k hk with h6 | h6
    · exact O2'.out k h6
    · rw [World.size_alloc] at h6; omega)
  clear e3 hO3 hR3
  have H3 := Lib.hid h3
  clear h3
  go_wp2_with fail
  refine (grant_yes H3.out 2).mono ?_
  rintro r w4 ⟨rfl, h4, e4⟩
  have B4 : Hid (Below w.heap.size w w4) := Lib.hid (neweff_trans B3.out e4 O3'.out)
  have H4 : Hid (QSt w4 O3 R3 w.heap.size 99 v3 vs3 [[1, 2, 3], [4]] false 2 0) := Lib.hid h4
  clear h4 e4
  go_wp2_with fail
  refine (take_yes H4.out (by simp [tot])).mono ?_
  rintro r w5 ⟨a, v5, vs5, rfl, ha, hab, h5, e5⟩
  have B5 : Hid (Below w.heap.size w w5) := Lib.hid (neweff_trans B4.out e5 O3'.out)
  have eT : takeM (2 : Int).toNat [[1, 2, 3], [4]] false = ([1, 2], [[3], [4]], true, 0) := by decide
  rw [eT] at ha h5
  have A5 : Hid (Own w5 a (u8s [1, 2])) := Lib.hid ha
  have H5 : Hid (QSt w5 O3 R3 w.heap.size 99 v5 vs5 [[3], [4]] true 0 2) := Lib.hid h5
  have hA : Hid (∀ k, a.ownBlock = some k → ¬ O3 k) := Lib.hid (fun k hk hO => by have := hab k hk; have := H4.out.lt k (.inl hO); omega)
  obtain ⟨a5, c5, hav, -, -⟩ := ha.shape
  subst hav
  clear ha hab h5 e5 eT
  go_wp2_with fail
  refine (drop_yes H5.out 1 1 rfl rfl).mono ?_
  rintro r w6 ⟨rfl, ⟨v6, vs6, h6⟩, e6⟩
  have B6 : Hid (Below w.heap.size w w6) := Lib.hid (neweff_trans B5.out e6 O3'.out)
  have H6 : Hid (QSt w6 O3 R3 w.heap.size 99 v6 vs6 [[3]] true 0 2) := Lib.hid h6
  have A6 : Hid (Own w6 (.slice a5 (u8s [1, 2]).length c5) (u8s [1, 2])) := Lib.hid (A5.out.eff e6 hA.out)
  clear h6 e6
  go_wp2_with fail
  refine (grant_yes H6.out 9).mono ?_
  rintro r w7 ⟨rfl, h7, e7⟩
  have B7 : Hid (Below w.heap.size w w7) := Lib.hid (neweff_trans B6.out e7 O3'.out)
  have H7 : Hid (QSt w7 O3 R3 w.heap.size 99 v6 vs6 [[3]] true 9 2) := Lib.hid h7
  have hca := (A6.out.eff e7 hA.out).conv
  rw [show strOfNums [1, 2] = ⟨#[1, 2]⟩ by rfl] at hca
  clear h7 e7
  go_wp2_with (go_at_call 10; refine (take_yes H7.out (by simp [tot])).mono ?_; rintro r w8 ⟨u8, v8, vs8, rfl, ha8, hab8, h8, e8⟩; rw [show takeM (9 : Int).toNat [[3]] true = ([3], [], false, 8) by decide] at ha8; have B8 : Hid (Below w.heap.size w w8) := Lib.hid (neweff_trans B7.out e8 O3'.out); have hcb := ha8.conv; rw [show strOfNums [3] = ⟨#[3]⟩ by rfl] at hcb; obtain ⟨a8, c8, rfl, -, -⟩ := ha8.shape; clear h8 e8 hab8 ha8)
  go_ret
  exact ⟨rfl, B8.out⟩

end Go.Proofs.Ytliaeknidmbelaa
