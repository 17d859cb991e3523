/-
  Proved here: what the cells of an Act of fairwaylaw20 are, read as data; no condition.
-/
import Derived.Test.YtpboomjnbndcpaaEff
import Derived.ProofKit
import Derived.OpenShut
import Derived.Deep.Strs
import Derived.Deep.Slices
import Derived.Lib.SmallJoins
namespace Go.Proofs.Ytpboomjnbndcpaa
open Go.ChangeShapes Go.WideShapes Go.ChangeAt Go.RowKit Go.Deep

theorem len4 {α : Type} {l : List α} (h : l.length = 4) : ∃ a b c d, l = [a, b, c, d] := by
  match l, h with
  | [a, b, c, d], _ => exact ⟨a, b, c, d, rfl⟩

theorem act_cells {H : Type} {enc : TypeId × Value → H} {w : World} {base : Nat} {spare : Nat → Bool} {held : Bool} {fuel : Nat} {cs : List Value} {x : DataW H × List MemPlace}
    (h : DataW.trod enc Try.prog w base spare held fuel 39 cs = some x) :
    ∃ (fg : Bool) (a n now : Int), cs = [.bool fg, .int .u32 a, .int .i64 n, .int .i64 now] ∧ (Lit.int .u32 a).wf = true ∧ (Lit.int .i64 n).wf = true ∧ (Lit.int .i64 now).wf = true := by
  obtain ⟨y0, y1, y2, m, -, hl, h0, h1, h2⟩ := trod_struct3 Try.underlying39 h
  have e1 : Try.prog.cellsOf 39 = 4 := by kernel_rfl
  have e2 : Try.prog.cellsOf 4 = 1 := by kernel_rfl
  have e3 : Try.prog.cellsOf 28 = 2 := by kernel_rfl
  have e4 : Try.prog.cellsOf 3 = 1 := by kernel_rfl
  have e5 : Try.prog.cellsOf 26 = 1 := by kernel_rfl
  rw [e1] at hl
  obtain ⟨c0, c1, c2, c3, rfl⟩ := len4 hl
  simp only [e2, List.drop_zero, List.take_succ_cons, List.take_zero] at h0
  simp only [e3, List.drop_succ_cons, List.drop_zero, List.take_succ_cons, List.take_zero] at h1
  simp only [e4, List.drop_succ_cons, List.drop_zero, List.take_succ_cons, List.take_zero] at h2
  obtain ⟨fg, k0, -⟩ := DataW.trod_bool Try.underlying4 h0
  obtain ⟨now, k2, -, w2⟩ := DataW.trod_int Try.underlying3 h2
  obtain ⟨z0, z1, m', -, -, g0, g1⟩ := trod_struct2 Try.underlying28 h1
  simp only [e5, List.drop_zero, List.take_succ_cons, List.take_zero] at g0
  simp only [e4, List.drop_succ_cons, List.drop_zero, List.take_succ_cons, List.take_zero] at g1
  obtain ⟨a, q0, -, w0⟩ := DataW.trod_int Try.underlying26 g0
  obtain ⟨n, q1, -, w1⟩ := DataW.trod_int Try.underlying3 g1
  simp only [List.cons.injEq, and_true] at k0 k2 q0 q1
  subst k0 k2 q0 q1
  exact ⟨fg, a, n, now, rfl, w0, w1, w2⟩

end Go.Proofs.Ytpboomjnbndcpaa
