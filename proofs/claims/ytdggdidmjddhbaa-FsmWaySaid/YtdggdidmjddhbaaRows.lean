/-
  No cell of these rows narrows 'for every input' (looked for: loops, veiled, ifaces, maps, wideKeys, modest, calm, conditions, laid).
  DERIVED. THE GIVEN ROWS OF THIS SEAT. 3 by the template 'for every input the law returns true; each argument reads behind the call as it read before'; 0 by the template 'total and deterministic' (their statements: YtdggdidmjddhbaaTotals.lean).
  GIVEN WITH THE SEED: the statements are not yours to turn. If you find one false, say at which input.
  Laid BY PROGRAM, IN A SANDBOX (cutbox-rows.mjs): the forced cells as the released guide's own fill.sh prints them over the translation c2814cc546b383f9… (all of the seat's roots in one cut). By AI agents, Wed Nov 11 2026. No macro, syntax, notation, axiom, sorry.
-/
import Derived.Test.YtdggdidmjddhbaaChecked
import GoSem.Claim
import GoSem.ClaimJoined
import GoSem.ClaimMapViews
import Derived.JoinedTies
import Derived.KernelRfl
namespace Go.Proofs.Ytdggdidmjddhbaa
/- THE CELL 'sum', in the pinned program and in every row, IS THE sha256 OF THE DUMP (.gsa) THAT YtdggdidmjddhbaaProg.lean LOADS. Nothing in Lean hashes anything: it is a label: what it is worth is what the hold of that sum in a sandbox is worth. -/
noncomputable def Try.pinned : Pinned := { name := "ytdggdidmjddhbaa", sum := "c2814cc546b383f9404baf3e6c64a83be7b5d31b4793e4f6483ff3621b916702", checked := Try.checked }
namespace Rows
def none {H : Type} : Left H := { results := [], args := [] }

/-- 'fairwaylaw15.FsmNext': WHATEVER THE INPUT: true; the input reads as it did. -/
def fsmNextSpec : ChangeSpec := { name := "fsmNext", fn := fun _ => fun
  | [d1, d2, d3] => { results := [.lit (.bool true)], args := [d1, d2, d3] }
  | _ => none }
def fsmNextRow : OpenClaim := { program := "ytdggdidmjddhbaa", sum := "c2814cc546b383f9404baf3e6c64a83be7b5d31b4793e4f6483ff3621b916702", func := "fairway/fairwaylaw15.FsmNext", spec := "fsmNext", unfollowed := true, recurses := true, apart := false }
def FsmNextSaid : Prop := fsmNextRow.holds Try.pinned (OpenSpec.ofChange fsmNextSpec)

/-- ITS FALSE NEIGHBOUR: 'it returns false'. Refute it at one input. -/
def fsmNextWrong : ChangeSpec := { name := "fsmNext", fn := fun _ => fun
  | [d1, d2, d3] => { results := [.lit (.bool false)], args := [d1, d2, d3] }
  | _ => none }
def FsmNextWrongFalsely : Prop := fsmNextRow.holds Try.pinned (OpenSpec.ofChange fsmNextWrong)

/-- 'fairwaylaw15.FsmWay': WHATEVER THE INPUT: true; the input reads as it did. -/
def fsmWaySpec : ChangeSpec := { name := "fsmWay", fn := fun _ => fun
  | [d1, d2] => { results := [.lit (.bool true)], args := [d1, d2] }
  | _ => none }
def fsmWayRow : OpenClaim := { program := "ytdggdidmjddhbaa", sum := "c2814cc546b383f9404baf3e6c64a83be7b5d31b4793e4f6483ff3621b916702", func := "fairway/fairwaylaw15.FsmWay", spec := "fsmWay", unfollowed := true, recurses := true, apart := false }
def FsmWaySaid : Prop := fsmWayRow.holds Try.pinned (OpenSpec.ofChange fsmWaySpec)

/-- ITS FALSE NEIGHBOUR: 'it returns false'. Refute it at one input. -/
def fsmWayWrong : ChangeSpec := { name := "fsmWay", fn := fun _ => fun
  | [d1, d2] => { results := [.lit (.bool false)], args := [d1, d2] }
  | _ => none }
def FsmWayWrongFalsely : Prop := fsmWayRow.holds Try.pinned (OpenSpec.ofChange fsmWayWrong)

/-- 'fairwaylaw15.FsmWrong': WHATEVER THE INPUT: true; the input reads as it did. -/
def fsmWrongSpec : ChangeSpec := { name := "fsmWrong", fn := fun _ => fun
  | [d1, d2, d3] => { results := [.lit (.bool true)], args := [d1, d2, d3] }
  | _ => none }
def fsmWrongRow : OpenClaim := { program := "ytdggdidmjddhbaa", sum := "c2814cc546b383f9404baf3e6c64a83be7b5d31b4793e4f6483ff3621b916702", func := "fairway/fairwaylaw15.FsmWrong", spec := "fsmWrong", unfollowed := true, recurses := true, apart := false }
def FsmWrongSaid : Prop := fsmWrongRow.holds Try.pinned (OpenSpec.ofChange fsmWrongSpec)

/-- ITS FALSE NEIGHBOUR: 'it returns false'. Refute it at one input. -/
def fsmWrongWrong : ChangeSpec := { name := "fsmWrong", fn := fun _ => fun
  | [d1, d2, d3] => { results := [.lit (.bool false)], args := [d1, d2, d3] }
  | _ => none }
def FsmWrongWrongFalsely : Prop := fsmWrongRow.holds Try.pinned (OpenSpec.ofChange fsmWrongWrong)

/- THE SECOND FORM. 'bulk': how many values and letters a reading holds, each counted each time it is reached (what is shared counts as often as it is met; a slice's spare places count too). A statement '..UptoSaid' is the law's where the arguments, and the package variables that the reading takes, are together of bulk at most 1048576: NARROWER than '..Said'. Prove '..Said' where nothing that the law and all that it calls make is longer than what came in: it says more and counts as full. Else prove '..UptoSaid'. A law counts once. -/
mutual
def uptoBulk {H : Type} : DataW H → Nat
  | .lit (.string bytes) => bytes.length + 1
  | .lit _ => 1
  | .nil => 1
  | .ptr d => uptoBulk d + 1
  | .slice elems spare => uptoBulkAll elems + uptoBulkAll spare + 1
  | .agg parts => uptoBulkAll parts + 1
  | .iface _ d => uptoBulk d + 1
  | .map entries => uptoBulkEntries entries + 1
  | .held _ => 1
def uptoBulkAll {H : Type} : List (DataW H) → Nat
  | [] => 0
  | d :: r => uptoBulk d + uptoBulkAll r
def uptoBulkEntries {H : Type} : List (Lit × DataW H) → Nat
  | [] => 0
  | x :: r => uptoBulkEntry x + uptoBulkEntries r
def uptoBulkEntry {H : Type} : Lit × DataW H → Nat
  | (.string bytes, d) => bytes.length + uptoBulk d + 1
  | (_, d) => uptoBulk d + 1
 end
def uptoSmall : (H : Type) → List (DataW H) → Bool := fun _ ds => decide (uptoBulkAll ds ≤ 1048576)
def OpenSpec.upto (s : _root_.Go.ChangeSpec) : _root_.Go.OpenSpec := { _root_.Go.OpenSpec.ofChange s with cond := some uptoSmall }

/-- 'fairwaylaw15.FsmNext', WHERE WHAT IT READS IS OF BULK AT MOST 1048576: true; the input reads as it did. -/
def fsmNextUptoRow : OpenClaim := { program := "ytdggdidmjddhbaa", sum := "c2814cc546b383f9404baf3e6c64a83be7b5d31b4793e4f6483ff3621b916702", func := "fairway/fairwaylaw15.FsmNext", spec := "fsmNext", unfollowed := true, recurses := true, apart := false, narrowed := true }
def FsmNextUptoSaid : Prop := fsmNextUptoRow.holds Try.pinned (OpenSpec.upto fsmNextSpec)

/-- 'fairwaylaw15.FsmWay', WHERE WHAT IT READS IS OF BULK AT MOST 1048576: true; the input reads as it did. -/
def fsmWayUptoRow : OpenClaim := { program := "ytdggdidmjddhbaa", sum := "c2814cc546b383f9404baf3e6c64a83be7b5d31b4793e4f6483ff3621b916702", func := "fairway/fairwaylaw15.FsmWay", spec := "fsmWay", unfollowed := true, recurses := true, apart := false, narrowed := true }
def FsmWayUptoSaid : Prop := fsmWayUptoRow.holds Try.pinned (OpenSpec.upto fsmWaySpec)

/-- 'fairwaylaw15.FsmWrong', WHERE WHAT IT READS IS OF BULK AT MOST 1048576: true; the input reads as it did. -/
def fsmWrongUptoRow : OpenClaim := { program := "ytdggdidmjddhbaa", sum := "c2814cc546b383f9404baf3e6c64a83be7b5d31b4793e4f6483ff3621b916702", func := "fairway/fairwaylaw15.FsmWrong", spec := "fsmWrong", unfollowed := true, recurses := true, apart := false, narrowed := true }
def FsmWrongUptoSaid : Prop := fsmWrongUptoRow.holds Try.pinned (OpenSpec.upto fsmWrongSpec)

end Rows
end Go.Proofs.Ytdggdidmjddhbaa
