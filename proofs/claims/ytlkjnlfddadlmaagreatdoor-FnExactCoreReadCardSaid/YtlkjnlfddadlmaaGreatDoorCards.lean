/-
  DERIVED. GIVEN WITH THE SEED: THE CARDS: each row of YtlkjnlfddadlmaaGreatDoorRows.lean that lists a variable, with what it lists TIED to the program's text (the seventh form; the later family's looks); each row that meets fmt, with fmt's text TOLD by the authors' own Lean function (tested against real Go, not proved from fmt's source: count such statements apart). THE CARD IS WHAT COUNTS. Prove the row's statement (the work); the ties are given (YtlkjnlfddadlmaaGreatDoorTie.lean); close each card by the builder's one call (the guide's Derived/Test/ToyasCard.lean, 'card_holds'). Laid BY PROGRAM, IN A SANDBOX (cutbox-door.mjs). By AI agents, Wed Nov 11 2026. No macro, syntax, notation, axiom, sorry.
-/
import Derived.Test.YtlkjnlfddadlmaaGreatDoorRows
import GoSem.ClaimSeven
namespace Go.Proofs.YtlkjnlfddadlmaaGreatDoor
namespace Rows

/-- THE TIED CARD OF 'laws.FnExactCoreRead'. -/
def fnExactCoreReadCard : Claim7 := { stood := { row := fnExactCoreReadRow, standIns := [], harness := (true, "be4a63957c69ba0957855e3581a43b5074ee925c1d2164ec1c1c6929730cc7b6"), looks := true }, kinds := [], alts := [], laidByText := true, laidKinds := [.data, .data, .data, .sentinel, .sentinel], laidTests := true, laidLooks := .later }
def FnExactCoreReadCardSaid : Prop := Claim7.holds Tryz.pinned (.plain (OpenSpec.ofChange fnExactCoreReadSpec)) fnExactCoreReadCard

/-- THE SECOND FORM's CARD OF 'laws.FnExactCoreRead'. -/
def fnExactCoreReadUptoCard : Claim7 := { stood := { row := fnExactCoreReadUptoRow, standIns := [], harness := (true, "be4a63957c69ba0957855e3581a43b5074ee925c1d2164ec1c1c6929730cc7b6"), looks := true }, kinds := [], alts := [], laidByText := true, laidKinds := [.data, .data, .data, .sentinel, .sentinel], laidTests := true, laidLooks := .later }
def FnExactCoreReadUptoCardSaid : Prop := Claim7.holds Tryz.pinned (.plain (OpenSpec.upto fnExactCoreReadSpec)) fnExactCoreReadUptoCard
end Rows
end Go.Proofs.YtlkjnlfddadlmaaGreatDoor
