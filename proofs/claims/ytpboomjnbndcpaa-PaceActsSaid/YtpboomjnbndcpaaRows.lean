/-
  No cell of these rows narrows 'for every input' (looked for: loops, veiled, ifaces, maps, wideKeys, modest, calm, conditions, laid).
  DERIVED. THE GIVEN ROWS OF THIS SEAT. 3 by the template 'for every input the law returns true; each argument reads behind the call as it read before'; 0 by the template 'total and deterministic' (their statements: YtpboomjnbndcpaaTotals.lean).
  GIVEN WITH THE SEED: the statements are not yours to turn. If you find one false, say at which input.
  Laid BY PROGRAM, IN A SANDBOX (cutbox-rows.mjs): the forced cells as the released guide's own fill.sh prints them over the translation 5d8b6e09b0757376… (all of the seat's roots in one cut). By AI agents, Wed Nov 11 2026. No macro, syntax, notation, axiom, sorry.
-/
import Derived.Test.YtpboomjnbndcpaaChecked
import GoSem.Claim
import GoSem.ClaimJoined
import GoSem.ClaimMapViews
import Derived.JoinedTies
import Derived.KernelRfl
namespace Go.Proofs.Ytpboomjnbndcpaa
/- THE CELL 'sum', in the pinned program and in every row, IS THE sha256 OF THE DUMP (.gsa) THAT YtpboomjnbndcpaaProg.lean LOADS. Nothing in Lean hashes anything: it is a label: what it is worth is what the hold of that sum in a sandbox is worth. -/
noncomputable def Try.pinned : Pinned := { name := "ytpboomjnbndcpaa", sum := "5d8b6e09b075737694f24983bbce82bf1e02d7b3d38287fbbe8e45f12523f913", checked := Try.checked }
namespace Rows
def none {H : Type} : Left H := { results := [], args := [] }

/-- 'fairwaylaw20.PaceMost': WHATEVER THE INPUT: true; the input reads as it did. -/
def paceMostSpec : ChangeSpec := { name := "paceMost", fn := fun _ => fun
  | [d1, d2, d3] => { results := [.lit (.bool true)], args := [d1, d2, d3] }
  | _ => none }
def paceMostRow : OpenClaim := { program := "ytpboomjnbndcpaa", sum := "5d8b6e09b075737694f24983bbce82bf1e02d7b3d38287fbbe8e45f12523f913", func := "fairway/fairwaylaw20.PaceMost", spec := "paceMost", plainKeys := false, apart := false }
def PaceMostSaid : Prop := paceMostRow.holds Try.pinned (OpenSpec.ofChange paceMostSpec)

/-- ITS FALSE NEIGHBOUR: 'it returns false'. Refute it at one input. -/
def paceMostWrong : ChangeSpec := { name := "paceMost", fn := fun _ => fun
  | [d1, d2, d3] => { results := [.lit (.bool false)], args := [d1, d2, d3] }
  | _ => none }
def PaceMostWrongFalsely : Prop := paceMostRow.holds Try.pinned (OpenSpec.ofChange paceMostWrong)

/-- 'fairwaylaw20.PaceActs': WHATEVER THE INPUT: true; the input reads as it did. -/
def paceActsSpec : ChangeSpec := { name := "paceActs", fn := fun _ => fun
  | [d1, d2, d3] => { results := [.lit (.bool true)], args := [d1, d2, d3] }
  | _ => none }
def paceActsRow : OpenClaim := { program := "ytpboomjnbndcpaa", sum := "5d8b6e09b075737694f24983bbce82bf1e02d7b3d38287fbbe8e45f12523f913", func := "fairway/fairwaylaw20.PaceActs", spec := "paceActs", inPlace := ["maps.clone"], plainKeys := false, apart := false }
def PaceActsSaid : Prop := paceActsRow.holds Try.pinned (OpenSpec.ofChange paceActsSpec)

/-- ITS FALSE NEIGHBOUR: 'it returns false'. Refute it at one input. -/
def paceActsWrong : ChangeSpec := { name := "paceActs", fn := fun _ => fun
  | [d1, d2, d3] => { results := [.lit (.bool false)], args := [d1, d2, d3] }
  | _ => none }
def PaceActsWrongFalsely : Prop := paceActsRow.holds Try.pinned (OpenSpec.ofChange paceActsWrong)

/-- 'fairwaylaw20.PaceNone': WHATEVER THE INPUT: true; the input reads as it did. -/
def paceNoneSpec : ChangeSpec := { name := "paceNone", fn := fun _ => fun
  | [d] => { results := [.lit (.bool true)], args := [d] }
  | _ => none }
def paceNoneRow : OpenClaim := { program := "ytpboomjnbndcpaa", sum := "5d8b6e09b075737694f24983bbce82bf1e02d7b3d38287fbbe8e45f12523f913", func := "fairway/fairwaylaw20.PaceNone", spec := "paceNone", inPlace := ["maps.clone"], plainKeys := false, apart := false }
def PaceNoneSaid : Prop := paceNoneRow.holds Try.pinned (OpenSpec.ofChange paceNoneSpec)

/-- ITS FALSE NEIGHBOUR: 'it returns false'. Refute it at one input. -/
def paceNoneWrong : ChangeSpec := { name := "paceNone", fn := fun _ => fun
  | [d] => { results := [.lit (.bool false)], args := [d] }
  | _ => none }
def PaceNoneWrongFalsely : Prop := paceNoneRow.holds Try.pinned (OpenSpec.ofChange paceNoneWrong)

/- THE SECOND FORM. 'bulk': how many values and letters a reading holds, each counted each time it is reached (what is shared counts as often as it is met; a slice's spare places count too). A statement '..UptoSaid' is the law's where the arguments, and the package variables that the reading takes, are together of bulk at most 1048576: NARROWER than '..Said'. Prove '..Said' where nothing that the law and all that it calls make is longer than what came in: it says more and counts as full. Else prove '..UptoSaid'. A law counts once. -/
mutual
def uptoBulk {H : Type} : DataW H → Nat
  | .lit (.string bytes) => bytes.length + 1
  | .lit _ => 1
  | .nil => 1
  | .ptr d => uptoBulk d + 1
  | .slice elems spare => uptoBulkAll elems + uptoBulkAll spare + 1
  | .agg parts => uptoBulkAll parts + 1
  | .iface _ d => uptoBulk d + 1
  | .map entries => uptoBulkEntries entries + 1
  | .held _ => 1
def uptoBulkAll {H : Type} : List (DataW H) → Nat
  | [] => 0
  | d :: r => uptoBulk d + uptoBulkAll r
def uptoBulkEntries {H : Type} : List (Lit × DataW H) → Nat
  | [] => 0
  | x :: r => uptoBulkEntry x + uptoBulkEntries r
def uptoBulkEntry {H : Type} : Lit × DataW H → Nat
  | (.string bytes, d) => bytes.length + uptoBulk d + 1
  | (_, d) => uptoBulk d + 1
 end
def uptoSmall : (H : Type) → List (DataW H) → Bool := fun _ ds => decide (uptoBulkAll ds ≤ 1048576)
def OpenSpec.upto (s : _root_.Go.ChangeSpec) : _root_.Go.OpenSpec := { _root_.Go.OpenSpec.ofChange s with cond := some uptoSmall }

/-- 'fairwaylaw20.PaceMost', WHERE WHAT IT READS IS OF BULK AT MOST 1048576: true; the input reads as it did. -/
def paceMostUptoRow : OpenClaim := { program := "ytpboomjnbndcpaa", sum := "5d8b6e09b075737694f24983bbce82bf1e02d7b3d38287fbbe8e45f12523f913", func := "fairway/fairwaylaw20.PaceMost", spec := "paceMost", plainKeys := false, apart := false, narrowed := true }
def PaceMostUptoSaid : Prop := paceMostUptoRow.holds Try.pinned (OpenSpec.upto paceMostSpec)

/-- 'fairwaylaw20.PaceActs', WHERE WHAT IT READS IS OF BULK AT MOST 1048576: true; the input reads as it did. -/
def paceActsUptoRow : OpenClaim := { program := "ytpboomjnbndcpaa", sum := "5d8b6e09b075737694f24983bbce82bf1e02d7b3d38287fbbe8e45f12523f913", func := "fairway/fairwaylaw20.PaceActs", spec := "paceActs", inPlace := ["maps.clone"], plainKeys := false, apart := false, narrowed := true }
def PaceActsUptoSaid : Prop := paceActsUptoRow.holds Try.pinned (OpenSpec.upto paceActsSpec)

/-- 'fairwaylaw20.PaceNone', WHERE WHAT IT READS IS OF BULK AT MOST 1048576: true; the input reads as it did. -/
def paceNoneUptoRow : OpenClaim := { program := "ytpboomjnbndcpaa", sum := "5d8b6e09b075737694f24983bbce82bf1e02d7b3d38287fbbe8e45f12523f913", func := "fairway/fairwaylaw20.PaceNone", spec := "paceNone", inPlace := ["maps.clone"], plainKeys := false, apart := false, narrowed := true }
def PaceNoneUptoSaid : Prop := paceNoneUptoRow.holds Try.pinned (OpenSpec.upto paceNoneSpec)

end Rows
end Go.Proofs.Ytpboomjnbndcpaa
