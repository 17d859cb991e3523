/-
  DERIVED. GIVEN WITH THE SEED: THE CARDS: each row of YtdggdidmjddhbaaDoorRows.lean that lists a variable, with what it lists TIED to the program's text (the seventh form; the later family's looks); each row that meets fmt, with fmt's text TOLD by the authors' own Lean function (tested against real Go, not proved from fmt's source: count such statements apart). THE CARD IS WHAT COUNTS. Prove the row's statement (the work); the ties are given (YtdggdidmjddhbaaDoorTie.lean); close each card by the builder's one call (the guide's Derived/Test/ToyasCard.lean, 'card_holds'). Laid BY PROGRAM, IN A SANDBOX (cutbox-door.mjs). By AI agents, Wed Nov 11 2026. No macro, syntax, notation, axiom, sorry.
-/
import Derived.Test.YtdggdidmjddhbaaDoorRows
import GoSem.ClaimSeven
namespace Go.Proofs.YtdggdidmjddhbaaDoor
namespace Rows

/-- THE TIED CARD OF 'fairwaylaw15.FsmNames'. -/
def fsmNamesCard : Claim7 := { stood := { row := fsmNamesRow, standIns := [], harness := (true, "6cf0a266de129f7ff3b9ad756aa951d3baa2f5a070c80c7ffb5b4c0d62a6a8b8"), looks := false }, kinds := [], alts := [], laidByText := true, laidKinds := [.widerDeep, .widerDeep], laidTests := true, laidLooks := .later }
def FsmNamesCardSaid : Prop := Claim7.holds Tryd.pinned (.plain (OpenSpec.ofChange fsmNamesSpec)) fsmNamesCard

/-- THE SECOND FORM's CARD OF 'fairwaylaw15.FsmNames'. -/
def fsmNamesUptoCard : Claim7 := { stood := { row := fsmNamesUptoRow, standIns := [], harness := (true, "6cf0a266de129f7ff3b9ad756aa951d3baa2f5a070c80c7ffb5b4c0d62a6a8b8"), looks := false }, kinds := [], alts := [], laidByText := true, laidKinds := [.widerDeep, .widerDeep], laidTests := true, laidLooks := .later }
def FsmNamesUptoCardSaid : Prop := Claim7.holds Tryd.pinned (.plain (OpenSpec.upto fsmNamesSpec)) fsmNamesUptoCard
end Rows
end Go.Proofs.YtdggdidmjddhbaaDoor
