/-
  DERIVED. GIVEN WITH THE SEED: THE CARDS: each row of YtlkjnlfddadlmaaDoorRows.lean that lists a variable, with what it lists TIED to the program's text (the seventh form; the later family's looks); each row that meets fmt, with fmt's text TOLD by the authors' own Lean function (tested against real Go, not proved from fmt's source: count such statements apart). THE CARD IS WHAT COUNTS. Prove the row's statement (the work); the ties are given (YtlkjnlfddadlmaaDoorTie.lean); close each card by the builder's one call (the guide's Derived/Test/ToyasCard.lean, 'card_holds'). Laid BY PROGRAM, IN A SANDBOX (cutbox-door.mjs). By AI agents, Wed Nov 11 2026. No macro, syntax, notation, axiom, sorry.
-/
import Derived.Test.YtlkjnlfddadlmaaDoorRows
import GoSem.ClaimSeven
namespace Go.Proofs.YtlkjnlfddadlmaaDoor
namespace Rows

/-- THE TIED CARD OF 'laws.FnExactCountText'. -/
def fnExactCountTextCard : Claim7 := { stood := { row := fnExactCountTextRow, standIns := [], harness := (true, "5ebdaaf86a3b2c463874f02eb807602eeddab681ce332714020823e834f7944b"), looks := false }, kinds := [], alts := [], laidByText := true, laidKinds := [.data, .data, .data], laidTests := true, laidLooks := .later }
def FnExactCountTextCardSaid : Prop := Claim7.holds Tryd.pinned (.plain (OpenSpec.ofChange fnExactCountTextSpec)) fnExactCountTextCard

/-- THE TIED CARD OF 'laws.FnExactCanon'. -/
def fnExactCanonCard : Claim7 := { stood := { row := fnExactCanonRow, standIns := [], harness := (true, "5ebdaaf86a3b2c463874f02eb807602eeddab681ce332714020823e834f7944b"), looks := false }, kinds := [], alts := [], laidByText := true, laidKinds := [.data, .data, .data], laidTests := true, laidLooks := .later }
def FnExactCanonCardSaid : Prop := Claim7.holds Tryd.pinned (.plain (OpenSpec.ofChange fnExactCanonSpec)) fnExactCanonCard

/-- THE TIED CARD OF 'laws.FnExactInlineCore'. -/
def fnExactInlineCoreCard : Claim7 := { stood := { row := fnExactInlineCoreRow, standIns := [], harness := (true, "5ebdaaf86a3b2c463874f02eb807602eeddab681ce332714020823e834f7944b"), looks := false }, kinds := [], alts := [], laidByText := true, laidKinds := [.data, .data, .data], laidTests := true, laidLooks := .later }
def FnExactInlineCoreCardSaid : Prop := Claim7.holds Tryd.pinned (.plain (OpenSpec.ofChange fnExactInlineCoreSpec)) fnExactInlineCoreCard

/-- THE SECOND FORM's CARD OF 'laws.FnExactCountText'. -/
def fnExactCountTextUptoCard : Claim7 := { stood := { row := fnExactCountTextUptoRow, standIns := [], harness := (true, "5ebdaaf86a3b2c463874f02eb807602eeddab681ce332714020823e834f7944b"), looks := false }, kinds := [], alts := [], laidByText := true, laidKinds := [.data, .data, .data], laidTests := true, laidLooks := .later }
def FnExactCountTextUptoCardSaid : Prop := Claim7.holds Tryd.pinned (.plain (OpenSpec.upto fnExactCountTextSpec)) fnExactCountTextUptoCard

/-- THE SECOND FORM's CARD OF 'laws.FnExactCanon'. -/
def fnExactCanonUptoCard : Claim7 := { stood := { row := fnExactCanonUptoRow, standIns := [], harness := (true, "5ebdaaf86a3b2c463874f02eb807602eeddab681ce332714020823e834f7944b"), looks := false }, kinds := [], alts := [], laidByText := true, laidKinds := [.data, .data, .data], laidTests := true, laidLooks := .later }
def FnExactCanonUptoCardSaid : Prop := Claim7.holds Tryd.pinned (.plain (OpenSpec.upto fnExactCanonSpec)) fnExactCanonUptoCard

/-- THE SECOND FORM's CARD OF 'laws.FnExactInlineCore'. -/
def fnExactInlineCoreUptoCard : Claim7 := { stood := { row := fnExactInlineCoreUptoRow, standIns := [], harness := (true, "5ebdaaf86a3b2c463874f02eb807602eeddab681ce332714020823e834f7944b"), looks := false }, kinds := [], alts := [], laidByText := true, laidKinds := [.data, .data, .data], laidTests := true, laidLooks := .later }
def FnExactInlineCoreUptoCardSaid : Prop := Claim7.holds Tryd.pinned (.plain (OpenSpec.upto fnExactInlineCoreSpec)) fnExactInlineCoreUptoCard
end Rows
end Go.Proofs.YtlkjnlfddadlmaaDoor
