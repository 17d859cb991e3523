/-
  Proved here: two same steps are the same for the document, the document's example comes out, and which states bytes can come in.
-/
import Derived.Test.YtdggdidmjddhbaaFsm4
import Derived.Lib.SlBytesRow
import Derived.ProofKit
import Derived.OpenShut
import Derived.Deep.Strs
import Derived.Deep.Slices
import Derived.Lib.SmallJoins
namespace Go.Proofs.Ytdggdidmjddhbaa
open Go.ChangeShapes Go.WideShapes Go.ChangeAt Go.RowKit Go.Deep

/-- A slice of bytes that holds a text. -/
def Txt (w : World) (da : Option Addr) (dn : Nat) (s : ByteArray) : Prop :=
  (da = none ∧ s = ByteArray.empty) ∨ (∃ a, da = some a ∧ dn = 0 ∧ s = ByteArray.empty) ∨ ∃ b o, da = some ⟨b, o, none⟩ ∧ s.size = dn ∧ Lib.Bytes w b o s ∧ b < w.heap.size

theorem Txt.below {w w' : World} {da : Option Addr} {dn : Nat} {s : ByteArray} (h : Txt w da dn s) (hb : Below w.heap.size w w') : Txt w' da dn s := by
  rcases h with h | h | ⟨b, o, h1, h2, h3, h4⟩
  · exact .inl h
  · exact .inr (.inl h)
  · exact .inr (.inr ⟨b, o, h1, h2, fun i hi => by rw [hb.cell (p := ⟨b, o + i, none⟩) h4]; exact h3 i hi, Nat.lt_of_lt_of_le h4 hb.size⟩)

theorem Txt.alloc {w : World} {da : Option Addr} {dn : Nat} {s : ByteArray} (h : Txt w da dn s) (o : Obj) : Txt (w.alloc o) da dn s := h.below (below_alloc (Below.refl _ _) _)

theorem Txt.conv {w : World} {da : Option Addr} {dn : Nat} {s : ByteArray} (h : Txt w da dn s) (cap : Nat) :
    (convert 23 9 (.slice da dn cap)).run Try.prog w = .ok (.string s) w := by
  rcases h with ⟨rfl, rfl⟩ | ⟨a, rfl, rfl, rfl⟩ | ⟨b, o, rfl, rfl, h3, -⟩
  · exact run_convert_bytes_nil w 23 5 Try.underlying23 Try.underlying5 _ _ _ Try.underlying9
  · rw [run_convert_bytes_string w 23 9 5 _ 0 cap Try.underlying23 Try.underlying5 Try.underlying9]
    have := run_bytesToString (P := Try.prog) w a 0 cap [] (by simp [loadCells, loadCellsFrom, Sem.run_pure])
    rw [this]; rfl
  · exact Lib.run_convert_whole w 23 5 9 Try.underlying23 Try.underlying5 Try.underlying9 b o s h3 cap

set_option maxHeartbeats 1000000 in
theorem same_any (x : Stp) (s : ByteArray) (w : World) (hT : Txt w x.da x.dn s) :
    Calls Try.prog 7 #[x.toV, x.toV] w fun r w' => r = .returned (.bool true) ∧ Below w.heap.size w w' := by
  have hv := fun o1 o2 => ((hT.alloc o1).alloc o2).conv x.dc
  clear hT
  dsimp only [Stp.toV]
  go_enter Try.func7, Try.ntmps7
  go_wp2
  go_ret
  exact ⟨rfl, below_alloc (below_alloc (Below.refl _ _) _) _⟩

set_option maxHeartbeats 400000 in
theorem lives_any (w : World) :
    Calls Try.prog 6 #[] w fun r w' => r = .returned (.bool true) ∧ Below w.heap.size w w' := by
  go_enter Try.func6, Try.ntmps6
  go_wp2_with (go_at_call 8; refine (next_any _ _ _ _ _ _ _ _ _).mono ?_; rintro r w1 ⟨rfl, hb⟩; dsimp only [Stp.toV, nextM, waitsM])
  go_ret
  exact ⟨rfl, below_alloc hb _⟩

theorem isLive (s : Int) (w : World) :
    Calls Try.prog 10 #[.int .i64 s] w fun r w' => r = .returned (.bool (decide (3 ≤ s ∧ s ≤ 5))) ∧ Below w.heap.size w w' := by
  by_cases h1 : 3 ≤ s
  · by_cases h2 : s ≤ 5
    · go_enter Try.func10, Try.ntmps10
      go_wp2
      go_ret
      exact ⟨by simp [h1, h2], Below.refl _ _⟩
    · go_enter Try.func10, Try.ntmps10
      go_wp2
      go_ret
      exact ⟨by simp [h2], Below.refl _ _⟩
  · go_enter Try.func10, Try.ntmps10
    go_wp2
    go_ret
    exact ⟨by simp; omega, Below.refl _ _⟩

end Go.Proofs.Ytdggdidmjddhbaa
