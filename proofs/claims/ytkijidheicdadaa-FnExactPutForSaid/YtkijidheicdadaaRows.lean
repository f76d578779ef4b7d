/-
  NARROWER THAN 'FOR EVERY INPUT', by the rows' own cells (each row's printed sentence says how): FnExactSmall: loops · FnExactPure: loops · FnExactBinders: loops · FnExactCalls: loops · FnExactLevels: loops · FnExactNamesOk: loops · FnExactOpsOf: loops · FnExactUses: loops · FnExactPutFor: loops · FnExactFreeIn: loops.
  DERIVED. THE GIVEN ROWS OF THIS SEAT. 11 by the template 'for every input the law returns true; each argument reads behind the call as it read before'; 0 by the template 'total and deterministic' (their statements: YtkijidheicdadaaTotals.lean).
  GIVEN WITH THE SEED: the statements are not yours to turn. If you find one false, say at which input.
  Laid BY PROGRAM, IN A SANDBOX (cutbox-rows.mjs): the forced cells as the released guide's own fill.sh prints them over the translation 1fec232cd53bc4b5… (all of the seat's roots in one cut). By AI agents, Wed Nov 11 2026. No macro, syntax, notation, axiom, sorry.
-/
import Derived.Test.YtkijidheicdadaaChecked
import GoSem.Claim
import GoSem.ClaimJoined
import GoSem.ClaimMapViews
import Derived.JoinedTies
import Derived.KernelRfl
namespace Go.Proofs.Ytkijidheicdadaa
/- THE CELL 'sum', in the pinned program and in every row, IS THE sha256 OF THE DUMP (.gsa) THAT YtkijidheicdadaaProg.lean LOADS. Nothing in Lean hashes anything: it is a label: what it is worth is what the hold of that sum in a sandbox is worth. -/
noncomputable def Try.pinned : Pinned := { name := "ytkijidheicdadaa", sum := "1fec232cd53bc4b5265f5abc034536ecfe0cdc056652cca68d836fdba491b6f7", checked := Try.checked }
namespace Rows
def none {H : Type} : Left H := { results := [], args := [] }

/-- 'laws.FnExactFollow': WHATEVER THE INPUT: true; the input reads as it did. -/
def fnExactFollowSpec : ChangeSpec := { name := "fnExactFollow", fn := fun _ => fun
  | [d1, d2] => { results := [.lit (.bool true)], args := [d1, d2] }
  | _ => none }
def fnExactFollowRow : OpenClaim := { program := "ytkijidheicdadaa", sum := "1fec232cd53bc4b5265f5abc034536ecfe0cdc056652cca68d836fdba491b6f7", func := "loop.example/g00396/laws.FnExactFollow", spec := "fnExactFollow", apart := false }
def FnExactFollowSaid : Prop := fnExactFollowRow.holds Try.pinned (OpenSpec.ofChange fnExactFollowSpec)

/-- ITS FALSE NEIGHBOUR: 'it returns false'. Refute it at one input. -/
def fnExactFollowWrong : ChangeSpec := { name := "fnExactFollow", fn := fun _ => fun
  | [d1, d2] => { results := [.lit (.bool false)], args := [d1, d2] }
  | _ => none }
def FnExactFollowWrongFalsely : Prop := fnExactFollowRow.holds Try.pinned (OpenSpec.ofChange fnExactFollowWrong)

/-- 'laws.FnExactSmall': WHATEVER THE INPUT: true; the input reads as it did. -/
def fnExactSmallSpec : ChangeSpec := { name := "fnExactSmall", fn := fun _ => fun
  | [d] => { results := [.lit (.bool true)], args := [d] }
  | _ => none }
def fnExactSmallRow : OpenClaim := { program := "ytkijidheicdadaa", sum := "1fec232cd53bc4b5265f5abc034536ecfe0cdc056652cca68d836fdba491b6f7", func := "loop.example/g00396/laws.FnExactSmall", spec := "fnExactSmall", recurses := true, loops := true, apart := false }
def FnExactSmallSaid : Prop := fnExactSmallRow.holds Try.pinned (OpenSpec.ofChange fnExactSmallSpec)

/-- ITS FALSE NEIGHBOUR: 'it returns false'. Refute it at one input. -/
def fnExactSmallWrong : ChangeSpec := { name := "fnExactSmall", fn := fun _ => fun
  | [d] => { results := [.lit (.bool false)], args := [d] }
  | _ => none }
def FnExactSmallWrongFalsely : Prop := fnExactSmallRow.holds Try.pinned (OpenSpec.ofChange fnExactSmallWrong)

/-- 'laws.FnExactPure': WHATEVER THE INPUT: true; the input reads as it did. -/
def fnExactPureSpec : ChangeSpec := { name := "fnExactPure", fn := fun _ => fun
  | [d] => { results := [.lit (.bool true)], args := [d] }
  | _ => none }
def fnExactPureRow : OpenClaim := { program := "ytkijidheicdadaa", sum := "1fec232cd53bc4b5265f5abc034536ecfe0cdc056652cca68d836fdba491b6f7", func := "loop.example/g00396/laws.FnExactPure", spec := "fnExactPure", recurses := true, loops := true, apart := false }
def FnExactPureSaid : Prop := fnExactPureRow.holds Try.pinned (OpenSpec.ofChange fnExactPureSpec)

/-- ITS FALSE NEIGHBOUR: 'it returns false'. Refute it at one input. -/
def fnExactPureWrong : ChangeSpec := { name := "fnExactPure", fn := fun _ => fun
  | [d] => { results := [.lit (.bool false)], args := [d] }
  | _ => none }
def FnExactPureWrongFalsely : Prop := fnExactPureRow.holds Try.pinned (OpenSpec.ofChange fnExactPureWrong)

/-- 'laws.FnExactBinders': WHATEVER THE INPUT: true; the input reads as it did. -/
def fnExactBindersSpec : ChangeSpec := { name := "fnExactBinders", fn := fun _ => fun
  | [d] => { results := [.lit (.bool true)], args := [d] }
  | _ => none }
def fnExactBindersRow : OpenClaim := { program := "ytkijidheicdadaa", sum := "1fec232cd53bc4b5265f5abc034536ecfe0cdc056652cca68d836fdba491b6f7", func := "loop.example/g00396/laws.FnExactBinders", spec := "fnExactBinders", recurses := true, loops := true, apart := false }
def FnExactBindersSaid : Prop := fnExactBindersRow.holds Try.pinned (OpenSpec.ofChange fnExactBindersSpec)

/-- ITS FALSE NEIGHBOUR: 'it returns false'. Refute it at one input. -/
def fnExactBindersWrong : ChangeSpec := { name := "fnExactBinders", fn := fun _ => fun
  | [d] => { results := [.lit (.bool false)], args := [d] }
  | _ => none }
def FnExactBindersWrongFalsely : Prop := fnExactBindersRow.holds Try.pinned (OpenSpec.ofChange fnExactBindersWrong)

/-- 'laws.FnExactCalls': WHATEVER THE INPUT: true; the input reads as it did. -/
def fnExactCallsSpec : ChangeSpec := { name := "fnExactCalls", fn := fun _ => fun
  | [d] => { results := [.lit (.bool true)], args := [d] }
  | _ => none }
def fnExactCallsRow : OpenClaim := { program := "ytkijidheicdadaa", sum := "1fec232cd53bc4b5265f5abc034536ecfe0cdc056652cca68d836fdba491b6f7", func := "loop.example/g00396/laws.FnExactCalls", spec := "fnExactCalls", recurses := true, loops := true, apart := false }
def FnExactCallsSaid : Prop := fnExactCallsRow.holds Try.pinned (OpenSpec.ofChange fnExactCallsSpec)

/-- ITS FALSE NEIGHBOUR: 'it returns false'. Refute it at one input. -/
def fnExactCallsWrong : ChangeSpec := { name := "fnExactCalls", fn := fun _ => fun
  | [d] => { results := [.lit (.bool false)], args := [d] }
  | _ => none }
def FnExactCallsWrongFalsely : Prop := fnExactCallsRow.holds Try.pinned (OpenSpec.ofChange fnExactCallsWrong)

/-- 'laws.FnExactLevels': WHATEVER THE INPUT: true; the input reads as it did. -/
def fnExactLevelsSpec : ChangeSpec := { name := "fnExactLevels", fn := fun _ => fun
  | [d] => { results := [.lit (.bool true)], args := [d] }
  | _ => none }
def fnExactLevelsRow : OpenClaim := { program := "ytkijidheicdadaa", sum := "1fec232cd53bc4b5265f5abc034536ecfe0cdc056652cca68d836fdba491b6f7", func := "loop.example/g00396/laws.FnExactLevels", spec := "fnExactLevels", recurses := true, loops := true, apart := false }
def FnExactLevelsSaid : Prop := fnExactLevelsRow.holds Try.pinned (OpenSpec.ofChange fnExactLevelsSpec)

/-- ITS FALSE NEIGHBOUR: 'it returns false'. Refute it at one input. -/
def fnExactLevelsWrong : ChangeSpec := { name := "fnExactLevels", fn := fun _ => fun
  | [d] => { results := [.lit (.bool false)], args := [d] }
  | _ => none }
def FnExactLevelsWrongFalsely : Prop := fnExactLevelsRow.holds Try.pinned (OpenSpec.ofChange fnExactLevelsWrong)

/-- 'laws.FnExactNamesOk': WHATEVER THE INPUT: true; the input reads as it did. -/
def fnExactNamesOkSpec : ChangeSpec := { name := "fnExactNamesOk", fn := fun _ => fun
  | [d] => { results := [.lit (.bool true)], args := [d] }
  | _ => none }
def fnExactNamesOkRow : OpenClaim := { program := "ytkijidheicdadaa", sum := "1fec232cd53bc4b5265f5abc034536ecfe0cdc056652cca68d836fdba491b6f7", func := "loop.example/g00396/laws.FnExactNamesOk", spec := "fnExactNamesOk", inPlace := ["internal/bytealg.IndexByteString"], unfollowed := true, recurses := true, loops := true, apart := false }
def FnExactNamesOkSaid : Prop := fnExactNamesOkRow.holds Try.pinned (OpenSpec.ofChange fnExactNamesOkSpec)

/-- ITS FALSE NEIGHBOUR: 'it returns false'. Refute it at one input. -/
def fnExactNamesOkWrong : ChangeSpec := { name := "fnExactNamesOk", fn := fun _ => fun
  | [d] => { results := [.lit (.bool false)], args := [d] }
  | _ => none }
def FnExactNamesOkWrongFalsely : Prop := fnExactNamesOkRow.holds Try.pinned (OpenSpec.ofChange fnExactNamesOkWrong)

/-- 'laws.FnExactOpsOf': WHATEVER THE INPUT: true; the input reads as it did. -/
def fnExactOpsOfSpec : ChangeSpec := { name := "fnExactOpsOf", fn := fun _ => fun
  | [d] => { results := [.lit (.bool true)], args := [d] }
  | _ => none }
def fnExactOpsOfRow : OpenClaim := { program := "ytkijidheicdadaa", sum := "1fec232cd53bc4b5265f5abc034536ecfe0cdc056652cca68d836fdba491b6f7", func := "loop.example/g00396/laws.FnExactOpsOf", spec := "fnExactOpsOf", unfollowed := true, recurses := true, loops := true, apart := false }
def FnExactOpsOfSaid : Prop := fnExactOpsOfRow.holds Try.pinned (OpenSpec.ofChange fnExactOpsOfSpec)

/-- ITS FALSE NEIGHBOUR: 'it returns false'. Refute it at one input. -/
def fnExactOpsOfWrong : ChangeSpec := { name := "fnExactOpsOf", fn := fun _ => fun
  | [d] => { results := [.lit (.bool false)], args := [d] }
  | _ => none }
def FnExactOpsOfWrongFalsely : Prop := fnExactOpsOfRow.holds Try.pinned (OpenSpec.ofChange fnExactOpsOfWrong)

/-- 'laws.FnExactUses': WHATEVER THE INPUT: true; the input reads as it did. -/
def fnExactUsesSpec : ChangeSpec := { name := "fnExactUses", fn := fun _ => fun
  | [d1, d2] => { results := [.lit (.bool true)], args := [d1, d2] }
  | _ => none }
def fnExactUsesRow : OpenClaim := { program := "ytkijidheicdadaa", sum := "1fec232cd53bc4b5265f5abc034536ecfe0cdc056652cca68d836fdba491b6f7", func := "loop.example/g00396/laws.FnExactUses", spec := "fnExactUses", unfollowed := true, recurses := true, loops := true, apart := false }
def FnExactUsesSaid : Prop := fnExactUsesRow.holds Try.pinned (OpenSpec.ofChange fnExactUsesSpec)

/-- ITS FALSE NEIGHBOUR: 'it returns false'. Refute it at one input. -/
def fnExactUsesWrong : ChangeSpec := { name := "fnExactUses", fn := fun _ => fun
  | [d1, d2] => { results := [.lit (.bool false)], args := [d1, d2] }
  | _ => none }
def FnExactUsesWrongFalsely : Prop := fnExactUsesRow.holds Try.pinned (OpenSpec.ofChange fnExactUsesWrong)

/-- 'laws.FnExactPutFor': WHATEVER THE INPUT: true; the input reads as it did. -/
def fnExactPutForSpec : ChangeSpec := { name := "fnExactPutFor", fn := fun _ => fun
  | [d1, d2, d3] => { results := [.lit (.bool true)], args := [d1, d2, d3] }
  | _ => none }
def fnExactPutForRow : OpenClaim := { program := "ytkijidheicdadaa", sum := "1fec232cd53bc4b5265f5abc034536ecfe0cdc056652cca68d836fdba491b6f7", func := "loop.example/g00396/laws.FnExactPutFor", spec := "fnExactPutFor", recurses := true, loops := true, apart := false }
def FnExactPutForSaid : Prop := fnExactPutForRow.holds Try.pinned (OpenSpec.ofChange fnExactPutForSpec)

/-- ITS FALSE NEIGHBOUR: 'it returns false'. Refute it at one input. -/
def fnExactPutForWrong : ChangeSpec := { name := "fnExactPutFor", fn := fun _ => fun
  | [d1, d2, d3] => { results := [.lit (.bool false)], args := [d1, d2, d3] }
  | _ => none }
def FnExactPutForWrongFalsely : Prop := fnExactPutForRow.holds Try.pinned (OpenSpec.ofChange fnExactPutForWrong)

/-- 'laws.FnExactFreeIn': WHATEVER THE INPUT: true; the input reads as it did. -/
def fnExactFreeInSpec : ChangeSpec := { name := "fnExactFreeIn", fn := fun _ => fun
  | [d] => { results := [.lit (.bool true)], args := [d] }
  | _ => none }
def fnExactFreeInRow : OpenClaim := { program := "ytkijidheicdadaa", sum := "1fec232cd53bc4b5265f5abc034536ecfe0cdc056652cca68d836fdba491b6f7", func := "loop.example/g00396/laws.FnExactFreeIn", spec := "fnExactFreeIn", unfollowed := true, recurses := true, loops := true, apart := false }
def FnExactFreeInSaid : Prop := fnExactFreeInRow.holds Try.pinned (OpenSpec.ofChange fnExactFreeInSpec)

/-- ITS FALSE NEIGHBOUR: 'it returns false'. Refute it at one input. -/
def fnExactFreeInWrong : ChangeSpec := { name := "fnExactFreeIn", fn := fun _ => fun
  | [d] => { results := [.lit (.bool false)], args := [d] }
  | _ => none }
def FnExactFreeInWrongFalsely : Prop := fnExactFreeInRow.holds Try.pinned (OpenSpec.ofChange fnExactFreeInWrong)

/- THE SECOND FORM. 'bulk': how many values and letters a reading holds, each counted each time it is reached (what is shared counts as often as it is met; a slice's spare places count too). A statement '..UptoSaid' is the law's where the arguments, and the package variables that the reading takes, are together of bulk at most 1048576: NARROWER than '..Said'. Prove '..Said' where nothing that the law and all that it calls make is longer than what came in: it says more and counts as full. Else prove '..UptoSaid'. A law counts once. -/
mutual
def uptoBulk {H : Type} : DataW H → Nat
  | .lit (.string bytes) => bytes.length + 1
  | .lit _ => 1
  | .nil => 1
  | .ptr d => uptoBulk d + 1
  | .slice elems spare => uptoBulkAll elems + uptoBulkAll spare + 1
  | .agg parts => uptoBulkAll parts + 1
  | .iface _ d => uptoBulk d + 1
  | .map entries => uptoBulkEntries entries + 1
  | .held _ => 1
def uptoBulkAll {H : Type} : List (DataW H) → Nat
  | [] => 0
  | d :: r => uptoBulk d + uptoBulkAll r
def uptoBulkEntries {H : Type} : List (Lit × DataW H) → Nat
  | [] => 0
  | x :: r => uptoBulkEntry x + uptoBulkEntries r
def uptoBulkEntry {H : Type} : Lit × DataW H → Nat
  | (.string bytes, d) => bytes.length + uptoBulk d + 1
  | (_, d) => uptoBulk d + 1
 end
def uptoSmall : (H : Type) → List (DataW H) → Bool := fun _ ds => decide (uptoBulkAll ds ≤ 1048576)
def OpenSpec.upto (s : _root_.Go.ChangeSpec) : _root_.Go.OpenSpec := { _root_.Go.OpenSpec.ofChange s with cond := some uptoSmall }

/-- 'laws.FnExactFollow', WHERE WHAT IT READS IS OF BULK AT MOST 1048576: true; the input reads as it did. -/
def fnExactFollowUptoRow : OpenClaim := { program := "ytkijidheicdadaa", sum := "1fec232cd53bc4b5265f5abc034536ecfe0cdc056652cca68d836fdba491b6f7", func := "loop.example/g00396/laws.FnExactFollow", spec := "fnExactFollow", apart := false, narrowed := true }
def FnExactFollowUptoSaid : Prop := fnExactFollowUptoRow.holds Try.pinned (OpenSpec.upto fnExactFollowSpec)

/-- 'laws.FnExactSmall', WHERE WHAT IT READS IS OF BULK AT MOST 1048576: true; the input reads as it did. -/
def fnExactSmallUptoRow : OpenClaim := { program := "ytkijidheicdadaa", sum := "1fec232cd53bc4b5265f5abc034536ecfe0cdc056652cca68d836fdba491b6f7", func := "loop.example/g00396/laws.FnExactSmall", spec := "fnExactSmall", recurses := true, loops := true, apart := false, narrowed := true }
def FnExactSmallUptoSaid : Prop := fnExactSmallUptoRow.holds Try.pinned (OpenSpec.upto fnExactSmallSpec)

/-- 'laws.FnExactPure', WHERE WHAT IT READS IS OF BULK AT MOST 1048576: true; the input reads as it did. -/
def fnExactPureUptoRow : OpenClaim := { program := "ytkijidheicdadaa", sum := "1fec232cd53bc4b5265f5abc034536ecfe0cdc056652cca68d836fdba491b6f7", func := "loop.example/g00396/laws.FnExactPure", spec := "fnExactPure", recurses := true, loops := true, apart := false, narrowed := true }
def FnExactPureUptoSaid : Prop := fnExactPureUptoRow.holds Try.pinned (OpenSpec.upto fnExactPureSpec)

/-- 'laws.FnExactBinders', WHERE WHAT IT READS IS OF BULK AT MOST 1048576: true; the input reads as it did. -/
def fnExactBindersUptoRow : OpenClaim := { program := "ytkijidheicdadaa", sum := "1fec232cd53bc4b5265f5abc034536ecfe0cdc056652cca68d836fdba491b6f7", func := "loop.example/g00396/laws.FnExactBinders", spec := "fnExactBinders", recurses := true, loops := true, apart := false, narrowed := true }
def FnExactBindersUptoSaid : Prop := fnExactBindersUptoRow.holds Try.pinned (OpenSpec.upto fnExactBindersSpec)

/-- 'laws.FnExactCalls', WHERE WHAT IT READS IS OF BULK AT MOST 1048576: true; the input reads as it did. -/
def fnExactCallsUptoRow : OpenClaim := { program := "ytkijidheicdadaa", sum := "1fec232cd53bc4b5265f5abc034536ecfe0cdc056652cca68d836fdba491b6f7", func := "loop.example/g00396/laws.FnExactCalls", spec := "fnExactCalls", recurses := true, loops := true, apart := false, narrowed := true }
def FnExactCallsUptoSaid : Prop := fnExactCallsUptoRow.holds Try.pinned (OpenSpec.upto fnExactCallsSpec)

/-- 'laws.FnExactLevels', WHERE WHAT IT READS IS OF BULK AT MOST 1048576: true; the input reads as it did. -/
def fnExactLevelsUptoRow : OpenClaim := { program := "ytkijidheicdadaa", sum := "1fec232cd53bc4b5265f5abc034536ecfe0cdc056652cca68d836fdba491b6f7", func := "loop.example/g00396/laws.FnExactLevels", spec := "fnExactLevels", recurses := true, loops := true, apart := false, narrowed := true }
def FnExactLevelsUptoSaid : Prop := fnExactLevelsUptoRow.holds Try.pinned (OpenSpec.upto fnExactLevelsSpec)

/-- 'laws.FnExactNamesOk', WHERE WHAT IT READS IS OF BULK AT MOST 1048576: true; the input reads as it did. -/
def fnExactNamesOkUptoRow : OpenClaim := { program := "ytkijidheicdadaa", sum := "1fec232cd53bc4b5265f5abc034536ecfe0cdc056652cca68d836fdba491b6f7", func := "loop.example/g00396/laws.FnExactNamesOk", spec := "fnExactNamesOk", inPlace := ["internal/bytealg.IndexByteString"], unfollowed := true, recurses := true, loops := true, apart := false, narrowed := true }
def FnExactNamesOkUptoSaid : Prop := fnExactNamesOkUptoRow.holds Try.pinned (OpenSpec.upto fnExactNamesOkSpec)

/-- 'laws.FnExactOpsOf', WHERE WHAT IT READS IS OF BULK AT MOST 1048576: true; the input reads as it did. -/
def fnExactOpsOfUptoRow : OpenClaim := { program := "ytkijidheicdadaa", sum := "1fec232cd53bc4b5265f5abc034536ecfe0cdc056652cca68d836fdba491b6f7", func := "loop.example/g00396/laws.FnExactOpsOf", spec := "fnExactOpsOf", unfollowed := true, recurses := true, loops := true, apart := false, narrowed := true }
def FnExactOpsOfUptoSaid : Prop := fnExactOpsOfUptoRow.holds Try.pinned (OpenSpec.upto fnExactOpsOfSpec)

/-- 'laws.FnExactUses', WHERE WHAT IT READS IS OF BULK AT MOST 1048576: true; the input reads as it did. -/
def fnExactUsesUptoRow : OpenClaim := { program := "ytkijidheicdadaa", sum := "1fec232cd53bc4b5265f5abc034536ecfe0cdc056652cca68d836fdba491b6f7", func := "loop.example/g00396/laws.FnExactUses", spec := "fnExactUses", unfollowed := true, recurses := true, loops := true, apart := false, narrowed := true }
def FnExactUsesUptoSaid : Prop := fnExactUsesUptoRow.holds Try.pinned (OpenSpec.upto fnExactUsesSpec)

/-- 'laws.FnExactPutFor', WHERE WHAT IT READS IS OF BULK AT MOST 1048576: true; the input reads as it did. -/
def fnExactPutForUptoRow : OpenClaim := { program := "ytkijidheicdadaa", sum := "1fec232cd53bc4b5265f5abc034536ecfe0cdc056652cca68d836fdba491b6f7", func := "loop.example/g00396/laws.FnExactPutFor", spec := "fnExactPutFor", recurses := true, loops := true, apart := false, narrowed := true }
def FnExactPutForUptoSaid : Prop := fnExactPutForUptoRow.holds Try.pinned (OpenSpec.upto fnExactPutForSpec)

/-- 'laws.FnExactFreeIn', WHERE WHAT IT READS IS OF BULK AT MOST 1048576: true; the input reads as it did. -/
def fnExactFreeInUptoRow : OpenClaim := { program := "ytkijidheicdadaa", sum := "1fec232cd53bc4b5265f5abc034536ecfe0cdc056652cca68d836fdba491b6f7", func := "loop.example/g00396/laws.FnExactFreeIn", spec := "fnExactFreeIn", unfollowed := true, recurses := true, loops := true, apart := false, narrowed := true }
def FnExactFreeInUptoSaid : Prop := fnExactFreeInUptoRow.holds Try.pinned (OpenSpec.upto fnExactFreeInSpec)

end Rows
end Go.Proofs.Ytkijidheicdadaa
