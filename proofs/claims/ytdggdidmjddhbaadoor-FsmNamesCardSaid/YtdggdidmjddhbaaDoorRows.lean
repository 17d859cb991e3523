/-
  NARROWER THAN 'FOR EVERY INPUT', by the rows' own cells (each row's printed sentence says how): FsmNames: laid.
  DERIVED. THE GIVEN ROWS OF THIS SEAT. 1 by the template 'for every input the law returns true; each argument reads behind the call as it read before'; 0 by the template 'total and deterministic' (their statements: YtdggdidmjddhbaaDoorTotals.lean).
  GIVEN WITH THE SEED: the statements are not yours to turn. If you find one false, say at which input.
  Laid BY PROGRAM, IN A SANDBOX (cutbox-rows.mjs): the forced cells as the released guide's own fill.sh prints them over the translation d3016296272c5135… (all of the seat's roots in one cut). By AI agents, Wed Nov 11 2026. No macro, syntax, notation, axiom, sorry.
-/
import Derived.Test.YtdggdidmjddhbaaDoorChecked
import GoSem.Claim
import GoSem.ClaimJoined
import GoSem.ClaimMapViews
import Derived.JoinedTies
import Derived.KernelRfl
namespace Go.Proofs.YtdggdidmjddhbaaDoor
/- THE CELL 'sum', in the pinned program and in every row, IS THE sha256 OF THE DUMP (.gsa) THAT YtdggdidmjddhbaaDoorProg.lean LOADS. Nothing in Lean hashes anything: it is a label: what it is worth is what the hold of that sum in a sandbox is worth. -/
noncomputable def Tryd.pinned : Pinned := { name := "ytdggdidmjddhbaadoor", sum := "d3016296272c5135f70bd117ebce00211cc03dfd409df57124e5eec7bac33d21", checked := Tryd.checked }
namespace Rows
def none {H : Type} : Left H := { results := [], args := [] }

/- WHAT THE LISTED PACKAGE-LEVEL VARIABLES READ AS WHEN THE CALL BEGINS. Each datum BY PROGRAM (the guide's laid-datum.mjs) off the statement by which the dump's own 'gosem.cut.vars' lays the variable. In a bare row this is a premise. The card (YtdggdidmjddhbaaDoorCards.lean) ties it to the program's text. -/
def laid_fairway_fsm_states {H : Type} : DataW H := .agg [.lit (.string [105, 100, 108, 101]), .lit (.string [99, 111, 110, 110, 101, 99, 116]), .lit (.string [97, 99, 116, 105, 118, 101]), .lit (.string [111, 112, 101, 110, 115, 101, 110, 116]), .lit (.string [111, 112, 101, 110, 99, 111, 110, 102, 105, 114, 109]), .lit (.string [101, 115, 116, 97, 98, 108, 105, 115, 104, 101, 100])]
def laid_fairway_fsm_events {H : Type} : DataW H := .agg [.lit (.string []), .lit (.string [115, 116, 97, 114, 116]), .lit (.string [115, 116, 111, 112]), .lit (.string [114, 101, 116, 114, 121]), .lit (.string [104, 111, 108, 100]), .lit (.string [107, 101, 101, 112]), .lit (.string [117, 112]), .lit (.string [100, 111, 119, 110]), .lit (.string [103, 111, 116, 111, 112, 101, 110]), .lit (.string [103, 111, 116, 107, 101, 101, 112]), .lit (.string [103, 111, 116, 117, 112, 100, 97, 116, 101]), .lit (.string [103, 111, 116, 110, 111, 116, 105, 99, 101]), .lit (.string [119, 114, 111, 110, 103])]

/-- 'fairwaylaw15.FsmNames': WHATEVER THE INPUT: true; the input reads as it did. -/
def fsmNamesSpec : ChangeSpec := { name := "fsmNames", fn := fun _ => fun
  | [d1, d2, d3] => { results := [.lit (.bool true)], args := [d1, d2, d3] }
  | _ => none }
def fsmNamesRow : OpenClaim := { program := "ytdggdidmjddhbaadoor", sum := "d3016296272c5135f70bd117ebce00211cc03dfd409df57124e5eec7bac33d21", func := "fairway/fairwaylaw15.FsmNames", spec := "fsmNames", unfollowed := true, recurses := true, named := ["fairway/fsm.states", "fairway/fsm.events"], apart := false, laid := [("fairway/fsm.states", laid_fairway_fsm_states), ("fairway/fsm.events", laid_fairway_fsm_events)] }
def FsmNamesSaid : Prop := fsmNamesRow.holds Tryd.pinned (OpenSpec.ofChange fsmNamesSpec)

/-- ITS FALSE NEIGHBOUR: 'it returns false'. Refute it at one input. -/
def fsmNamesWrong : ChangeSpec := { name := "fsmNames", fn := fun _ => fun
  | [d1, d2, d3] => { results := [.lit (.bool false)], args := [d1, d2, d3] }
  | _ => none }
def FsmNamesWrongFalsely : Prop := fsmNamesRow.holds Tryd.pinned (OpenSpec.ofChange fsmNamesWrong)

/- THE SECOND FORM. 'bulk': how many values and letters a reading holds, each counted each time it is reached (what is shared counts as often as it is met; a slice's spare places count too). A statement '..UptoSaid' is the law's where the arguments, and the package variables that the reading takes, are together of bulk at most 1048576: NARROWER than '..Said'. Prove '..Said' where nothing that the law and all that it calls make is longer than what came in: it says more and counts as full. Else prove '..UptoSaid'. A law counts once. -/
mutual
def uptoBulk {H : Type} : DataW H → Nat
  | .lit (.string bytes) => bytes.length + 1
  | .lit _ => 1
  | .nil => 1
  | .ptr d => uptoBulk d + 1
  | .slice elems spare => uptoBulkAll elems + uptoBulkAll spare + 1
  | .agg parts => uptoBulkAll parts + 1
  | .iface _ d => uptoBulk d + 1
  | .map entries => uptoBulkEntries entries + 1
  | .held _ => 1
def uptoBulkAll {H : Type} : List (DataW H) → Nat
  | [] => 0
  | d :: r => uptoBulk d + uptoBulkAll r
def uptoBulkEntries {H : Type} : List (Lit × DataW H) → Nat
  | [] => 0
  | x :: r => uptoBulkEntry x + uptoBulkEntries r
def uptoBulkEntry {H : Type} : Lit × DataW H → Nat
  | (.string bytes, d) => bytes.length + uptoBulk d + 1
  | (_, d) => uptoBulk d + 1
 end
def uptoSmall : (H : Type) → List (DataW H) → Bool := fun _ ds => decide (uptoBulkAll ds ≤ 1048576)
def OpenSpec.upto (s : _root_.Go.ChangeSpec) : _root_.Go.OpenSpec := { _root_.Go.OpenSpec.ofChange s with cond := some uptoSmall }

/-- 'fairwaylaw15.FsmNames', WHERE WHAT IT READS IS OF BULK AT MOST 1048576: true; the input reads as it did. -/
def fsmNamesUptoRow : OpenClaim := { program := "ytdggdidmjddhbaadoor", sum := "d3016296272c5135f70bd117ebce00211cc03dfd409df57124e5eec7bac33d21", func := "fairway/fairwaylaw15.FsmNames", spec := "fsmNames", unfollowed := true, recurses := true, named := ["fairway/fsm.states", "fairway/fsm.events"], apart := false, laid := [("fairway/fsm.states", laid_fairway_fsm_states), ("fairway/fsm.events", laid_fairway_fsm_events)], narrowed := true }
def FsmNamesUptoSaid : Prop := fsmNamesUptoRow.holds Tryd.pinned (OpenSpec.upto fsmNamesSpec)

end Rows
end Go.Proofs.YtdggdidmjddhbaaDoor
