/-
  No cell of these rows narrows 'for every input' (looked for: loops, veiled, ifaces, maps, wideKeys, modest, calm, conditions, laid).
  DERIVED. THE GIVEN ROWS OF THIS SEAT. 9 by the template 'for every input the law returns true; each argument reads behind the call as it read before'; 0 by the template 'total and deterministic' (their statements: YtpfdeoapnpcbaaaTotals.lean).
  GIVEN WITH THE SEED: the statements are not yours to turn. If you find one false, say at which input.
  Laid BY PROGRAM, IN A SANDBOX (cutbox-rows.mjs): the forced cells as the released guide's own fill.sh prints them over the translation 80f712ce630b668c… (all of the seat's roots in one cut). By AI agents, Wed Nov 11 2026. No macro, syntax, notation, axiom, sorry.
-/
import Derived.Test.YtpfdeoapnpcbaaaChecked
import GoSem.Claim
import GoSem.ClaimJoined
import GoSem.ClaimMapViews
import Derived.JoinedTies
import Derived.KernelRfl
namespace Go.Proofs.Ytpfdeoapnpcbaaa
/- THE CELL 'sum', in the pinned program and in every row, IS THE sha256 OF THE DUMP (.gsa) THAT YtpfdeoapnpcbaaaProg.lean LOADS. Nothing in Lean hashes anything: it is a label: what it is worth is what the hold of that sum in a sandbox is worth. -/
noncomputable def Try.pinned : Pinned := { name := "ytpfdeoapnpcbaaa", sum := "80f712ce630b668cfe0aa26b42eabee7ee7ff3a5f9bdad201906e4884a7da4d8", checked := Try.checked }
namespace Rows
def none {H : Type} : Left H := { results := [], args := [] }

/-- 'laws.FnExactCountUnpruned': WHATEVER THE INPUT: true; the input reads as it did. -/
def fnExactCountUnprunedSpec : ChangeSpec := { name := "fnExactCountUnpruned", fn := fun _ => fun
  | [d1, d2] => { results := [.lit (.bool true)], args := [d1, d2] }
  | _ => none }
def fnExactCountUnprunedRow : OpenClaim := { program := "ytpfdeoapnpcbaaa", sum := "80f712ce630b668cfe0aa26b42eabee7ee7ff3a5f9bdad201906e4884a7da4d8", func := "loop.example/g01127/laws.FnExactCountUnpruned", spec := "fnExactCountUnpruned", unfollowed := true, recurses := true, apart := false }
def FnExactCountUnprunedSaid : Prop := fnExactCountUnprunedRow.holds Try.pinned (OpenSpec.ofChange fnExactCountUnprunedSpec)

/-- ITS FALSE NEIGHBOUR: 'it returns false'. Refute it at one input. -/
def fnExactCountUnprunedWrong : ChangeSpec := { name := "fnExactCountUnpruned", fn := fun _ => fun
  | [d1, d2] => { results := [.lit (.bool false)], args := [d1, d2] }
  | _ => none }
def FnExactCountUnprunedWrongFalsely : Prop := fnExactCountUnprunedRow.holds Try.pinned (OpenSpec.ofChange fnExactCountUnprunedWrong)

/-- 'laws.FnExactSymbolOf': WHATEVER THE INPUT: true; the input reads as it did. -/
def fnExactSymbolOfSpec : ChangeSpec := { name := "fnExactSymbolOf", fn := fun _ => fun
  | [d1, d2] => { results := [.lit (.bool true)], args := [d1, d2] }
  | _ => none }
def fnExactSymbolOfRow : OpenClaim := { program := "ytpfdeoapnpcbaaa", sum := "80f712ce630b668cfe0aa26b42eabee7ee7ff3a5f9bdad201906e4884a7da4d8", func := "loop.example/g01127/laws.FnExactSymbolOf", spec := "fnExactSymbolOf", unfollowed := true, recurses := true, apart := false }
def FnExactSymbolOfSaid : Prop := fnExactSymbolOfRow.holds Try.pinned (OpenSpec.ofChange fnExactSymbolOfSpec)

/-- ITS FALSE NEIGHBOUR: 'it returns false'. Refute it at one input. -/
def fnExactSymbolOfWrong : ChangeSpec := { name := "fnExactSymbolOf", fn := fun _ => fun
  | [d1, d2] => { results := [.lit (.bool false)], args := [d1, d2] }
  | _ => none }
def FnExactSymbolOfWrongFalsely : Prop := fnExactSymbolOfRow.holds Try.pinned (OpenSpec.ofChange fnExactSymbolOfWrong)

/-- 'laws.FnTestsTellBlocksApart': WHATEVER THE INPUT: true; the input reads as it did. -/
def fnTestsTellBlocksApartSpec : ChangeSpec := { name := "fnTestsTellBlocksApart", fn := fun _ => fun
  | [d1, d2] => { results := [.lit (.bool true)], args := [d1, d2] }
  | _ => none }
def fnTestsTellBlocksApartRow : OpenClaim := { program := "ytpfdeoapnpcbaaa", sum := "80f712ce630b668cfe0aa26b42eabee7ee7ff3a5f9bdad201906e4884a7da4d8", func := "loop.example/g01127/laws.FnTestsTellBlocksApart", spec := "fnTestsTellBlocksApart", unfollowed := true, recurses := true, apart := false }
def FnTestsTellBlocksApartSaid : Prop := fnTestsTellBlocksApartRow.holds Try.pinned (OpenSpec.ofChange fnTestsTellBlocksApartSpec)

/-- ITS FALSE NEIGHBOUR: 'it returns false'. Refute it at one input. -/
def fnTestsTellBlocksApartWrong : ChangeSpec := { name := "fnTestsTellBlocksApart", fn := fun _ => fun
  | [d1, d2] => { results := [.lit (.bool false)], args := [d1, d2] }
  | _ => none }
def FnTestsTellBlocksApartWrongFalsely : Prop := fnTestsTellBlocksApartRow.holds Try.pinned (OpenSpec.ofChange fnTestsTellBlocksApartWrong)

/-- 'laws.FnExactProgramReaches': WHATEVER THE INPUT: true; the input reads as it did. -/
def fnExactProgramReachesSpec : ChangeSpec := { name := "fnExactProgramReaches", fn := fun _ => fun
  | [d1, d2, d3] => { results := [.lit (.bool true)], args := [d1, d2, d3] }
  | _ => none }
def fnExactProgramReachesRow : OpenClaim := { program := "ytpfdeoapnpcbaaa", sum := "80f712ce630b668cfe0aa26b42eabee7ee7ff3a5f9bdad201906e4884a7da4d8", func := "loop.example/g01127/laws.FnExactProgramReaches", spec := "fnExactProgramReaches", unfollowed := true, recurses := true, apart := false }
def FnExactProgramReachesSaid : Prop := fnExactProgramReachesRow.holds Try.pinned (OpenSpec.ofChange fnExactProgramReachesSpec)

/-- ITS FALSE NEIGHBOUR: 'it returns false'. Refute it at one input. -/
def fnExactProgramReachesWrong : ChangeSpec := { name := "fnExactProgramReaches", fn := fun _ => fun
  | [d1, d2, d3] => { results := [.lit (.bool false)], args := [d1, d2, d3] }
  | _ => none }
def FnExactProgramReachesWrongFalsely : Prop := fnExactProgramReachesRow.holds Try.pinned (OpenSpec.ofChange fnExactProgramReachesWrong)

/-- 'laws.FnExactFewestSteps': WHATEVER THE INPUT: true; the input reads as it did. -/
def fnExactFewestStepsSpec : ChangeSpec := { name := "fnExactFewestSteps", fn := fun _ => fun
  | [d1, d2, d3] => { results := [.lit (.bool true)], args := [d1, d2, d3] }
  | _ => none }
def fnExactFewestStepsRow : OpenClaim := { program := "ytpfdeoapnpcbaaa", sum := "80f712ce630b668cfe0aa26b42eabee7ee7ff3a5f9bdad201906e4884a7da4d8", func := "loop.example/g01127/laws.FnExactFewestSteps", spec := "fnExactFewestSteps", unfollowed := true, recurses := true, apart := false }
def FnExactFewestStepsSaid : Prop := fnExactFewestStepsRow.holds Try.pinned (OpenSpec.ofChange fnExactFewestStepsSpec)

/-- ITS FALSE NEIGHBOUR: 'it returns false'. Refute it at one input. -/
def fnExactFewestStepsWrong : ChangeSpec := { name := "fnExactFewestSteps", fn := fun _ => fun
  | [d1, d2, d3] => { results := [.lit (.bool false)], args := [d1, d2, d3] }
  | _ => none }
def FnExactFewestStepsWrongFalsely : Prop := fnExactFewestStepsRow.holds Try.pinned (OpenSpec.ofChange fnExactFewestStepsWrong)

/-- 'laws.FnProgramsRanked': WHATEVER THE INPUT: true; the input reads as it did. -/
def fnProgramsRankedSpec : ChangeSpec := { name := "fnProgramsRanked", fn := fun _ => fun
  | [d1, d2] => { results := [.lit (.bool true)], args := [d1, d2] }
  | _ => none }
def fnProgramsRankedRow : OpenClaim := { program := "ytpfdeoapnpcbaaa", sum := "80f712ce630b668cfe0aa26b42eabee7ee7ff3a5f9bdad201906e4884a7da4d8", func := "loop.example/g01127/laws.FnProgramsRanked", spec := "fnProgramsRanked", recurses := true, apart := false }
def FnProgramsRankedSaid : Prop := fnProgramsRankedRow.holds Try.pinned (OpenSpec.ofChange fnProgramsRankedSpec)

/-- ITS FALSE NEIGHBOUR: 'it returns false'. Refute it at one input. -/
def fnProgramsRankedWrong : ChangeSpec := { name := "fnProgramsRanked", fn := fun _ => fun
  | [d1, d2] => { results := [.lit (.bool false)], args := [d1, d2] }
  | _ => none }
def FnProgramsRankedWrongFalsely : Prop := fnProgramsRankedRow.holds Try.pinned (OpenSpec.ofChange fnProgramsRankedWrong)

/-- 'laws.FnExactAreAlike': WHATEVER THE INPUT: true; the input reads as it did. -/
def fnExactAreAlikeSpec : ChangeSpec := { name := "fnExactAreAlike", fn := fun _ => fun
  | [d1, d2, d3] => { results := [.lit (.bool true)], args := [d1, d2, d3] }
  | _ => none }
def fnExactAreAlikeRow : OpenClaim := { program := "ytpfdeoapnpcbaaa", sum := "80f712ce630b668cfe0aa26b42eabee7ee7ff3a5f9bdad201906e4884a7da4d8", func := "loop.example/g01127/laws.FnExactAreAlike", spec := "fnExactAreAlike", unfollowed := true, recurses := true, apart := false }
def FnExactAreAlikeSaid : Prop := fnExactAreAlikeRow.holds Try.pinned (OpenSpec.ofChange fnExactAreAlikeSpec)

/-- ITS FALSE NEIGHBOUR: 'it returns false'. Refute it at one input. -/
def fnExactAreAlikeWrong : ChangeSpec := { name := "fnExactAreAlike", fn := fun _ => fun
  | [d1, d2, d3] => { results := [.lit (.bool false)], args := [d1, d2, d3] }
  | _ => none }
def FnExactAreAlikeWrongFalsely : Prop := fnExactAreAlikeRow.holds Try.pinned (OpenSpec.ofChange fnExactAreAlikeWrong)

/-- 'laws.FnExactPlainSymbol': WHATEVER THE INPUT: true; the input reads as it did. -/
def fnExactPlainSymbolSpec : ChangeSpec := { name := "fnExactPlainSymbol", fn := fun _ => fun
  | [d1, d2] => { results := [.lit (.bool true)], args := [d1, d2] }
  | _ => none }
def fnExactPlainSymbolRow : OpenClaim := { program := "ytpfdeoapnpcbaaa", sum := "80f712ce630b668cfe0aa26b42eabee7ee7ff3a5f9bdad201906e4884a7da4d8", func := "loop.example/g01127/laws.FnExactPlainSymbol", spec := "fnExactPlainSymbol", unfollowed := true, recurses := true, apart := false }
def FnExactPlainSymbolSaid : Prop := fnExactPlainSymbolRow.holds Try.pinned (OpenSpec.ofChange fnExactPlainSymbolSpec)

/-- ITS FALSE NEIGHBOUR: 'it returns false'. Refute it at one input. -/
def fnExactPlainSymbolWrong : ChangeSpec := { name := "fnExactPlainSymbol", fn := fun _ => fun
  | [d1, d2] => { results := [.lit (.bool false)], args := [d1, d2] }
  | _ => none }
def FnExactPlainSymbolWrongFalsely : Prop := fnExactPlainSymbolRow.holds Try.pinned (OpenSpec.ofChange fnExactPlainSymbolWrong)

/-- 'laws.FnSwapsOfBlocks': WHATEVER THE INPUT: true; the input reads as it did. -/
def fnSwapsOfBlocksSpec : ChangeSpec := { name := "fnSwapsOfBlocks", fn := fun _ => fun
  | [d1, d2] => { results := [.lit (.bool true)], args := [d1, d2] }
  | _ => none }
def fnSwapsOfBlocksRow : OpenClaim := { program := "ytpfdeoapnpcbaaa", sum := "80f712ce630b668cfe0aa26b42eabee7ee7ff3a5f9bdad201906e4884a7da4d8", func := "loop.example/g01127/laws.FnSwapsOfBlocks", spec := "fnSwapsOfBlocks", unfollowed := true, recurses := true, apart := false }
def FnSwapsOfBlocksSaid : Prop := fnSwapsOfBlocksRow.holds Try.pinned (OpenSpec.ofChange fnSwapsOfBlocksSpec)

/-- ITS FALSE NEIGHBOUR: 'it returns false'. Refute it at one input. -/
def fnSwapsOfBlocksWrong : ChangeSpec := { name := "fnSwapsOfBlocks", fn := fun _ => fun
  | [d1, d2] => { results := [.lit (.bool false)], args := [d1, d2] }
  | _ => none }
def FnSwapsOfBlocksWrongFalsely : Prop := fnSwapsOfBlocksRow.holds Try.pinned (OpenSpec.ofChange fnSwapsOfBlocksWrong)

/- THE SECOND FORM. 'bulk': how many values and letters a reading holds, each counted each time it is reached (what is shared counts as often as it is met; a slice's spare places count too). A statement '..UptoSaid' is the law's where the arguments, and the package variables that the reading takes, are together of bulk at most 1048576: NARROWER than '..Said'. Prove '..Said' where nothing that the law and all that it calls make is longer than what came in: it says more and counts as full. Else prove '..UptoSaid'. A law counts once. -/
mutual
def uptoBulk {H : Type} : DataW H → Nat
  | .lit (.string bytes) => bytes.length + 1
  | .lit _ => 1
  | .nil => 1
  | .ptr d => uptoBulk d + 1
  | .slice elems spare => uptoBulkAll elems + uptoBulkAll spare + 1
  | .agg parts => uptoBulkAll parts + 1
  | .iface _ d => uptoBulk d + 1
  | .map entries => uptoBulkEntries entries + 1
  | .held _ => 1
def uptoBulkAll {H : Type} : List (DataW H) → Nat
  | [] => 0
  | d :: r => uptoBulk d + uptoBulkAll r
def uptoBulkEntries {H : Type} : List (Lit × DataW H) → Nat
  | [] => 0
  | x :: r => uptoBulkEntry x + uptoBulkEntries r
def uptoBulkEntry {H : Type} : Lit × DataW H → Nat
  | (.string bytes, d) => bytes.length + uptoBulk d + 1
  | (_, d) => uptoBulk d + 1
 end
def uptoSmall : (H : Type) → List (DataW H) → Bool := fun _ ds => decide (uptoBulkAll ds ≤ 1048576)
def OpenSpec.upto (s : _root_.Go.ChangeSpec) : _root_.Go.OpenSpec := { _root_.Go.OpenSpec.ofChange s with cond := some uptoSmall }

/-- 'laws.FnExactCountUnpruned', WHERE WHAT IT READS IS OF BULK AT MOST 1048576: true; the input reads as it did. -/
def fnExactCountUnprunedUptoRow : OpenClaim := { program := "ytpfdeoapnpcbaaa", sum := "80f712ce630b668cfe0aa26b42eabee7ee7ff3a5f9bdad201906e4884a7da4d8", func := "loop.example/g01127/laws.FnExactCountUnpruned", spec := "fnExactCountUnpruned", unfollowed := true, recurses := true, apart := false, narrowed := true }
def FnExactCountUnprunedUptoSaid : Prop := fnExactCountUnprunedUptoRow.holds Try.pinned (OpenSpec.upto fnExactCountUnprunedSpec)

/-- 'laws.FnExactSymbolOf', WHERE WHAT IT READS IS OF BULK AT MOST 1048576: true; the input reads as it did. -/
def fnExactSymbolOfUptoRow : OpenClaim := { program := "ytpfdeoapnpcbaaa", sum := "80f712ce630b668cfe0aa26b42eabee7ee7ff3a5f9bdad201906e4884a7da4d8", func := "loop.example/g01127/laws.FnExactSymbolOf", spec := "fnExactSymbolOf", unfollowed := true, recurses := true, apart := false, narrowed := true }
def FnExactSymbolOfUptoSaid : Prop := fnExactSymbolOfUptoRow.holds Try.pinned (OpenSpec.upto fnExactSymbolOfSpec)

/-- 'laws.FnTestsTellBlocksApart', WHERE WHAT IT READS IS OF BULK AT MOST 1048576: true; the input reads as it did. -/
def fnTestsTellBlocksApartUptoRow : OpenClaim := { program := "ytpfdeoapnpcbaaa", sum := "80f712ce630b668cfe0aa26b42eabee7ee7ff3a5f9bdad201906e4884a7da4d8", func := "loop.example/g01127/laws.FnTestsTellBlocksApart", spec := "fnTestsTellBlocksApart", unfollowed := true, recurses := true, apart := false, narrowed := true }
def FnTestsTellBlocksApartUptoSaid : Prop := fnTestsTellBlocksApartUptoRow.holds Try.pinned (OpenSpec.upto fnTestsTellBlocksApartSpec)

/-- 'laws.FnExactProgramReaches', WHERE WHAT IT READS IS OF BULK AT MOST 1048576: true; the input reads as it did. -/
def fnExactProgramReachesUptoRow : OpenClaim := { program := "ytpfdeoapnpcbaaa", sum := "80f712ce630b668cfe0aa26b42eabee7ee7ff3a5f9bdad201906e4884a7da4d8", func := "loop.example/g01127/laws.FnExactProgramReaches", spec := "fnExactProgramReaches", unfollowed := true, recurses := true, apart := false, narrowed := true }
def FnExactProgramReachesUptoSaid : Prop := fnExactProgramReachesUptoRow.holds Try.pinned (OpenSpec.upto fnExactProgramReachesSpec)

/-- 'laws.FnExactFewestSteps', WHERE WHAT IT READS IS OF BULK AT MOST 1048576: true; the input reads as it did. -/
def fnExactFewestStepsUptoRow : OpenClaim := { program := "ytpfdeoapnpcbaaa", sum := "80f712ce630b668cfe0aa26b42eabee7ee7ff3a5f9bdad201906e4884a7da4d8", func := "loop.example/g01127/laws.FnExactFewestSteps", spec := "fnExactFewestSteps", unfollowed := true, recurses := true, apart := false, narrowed := true }
def FnExactFewestStepsUptoSaid : Prop := fnExactFewestStepsUptoRow.holds Try.pinned (OpenSpec.upto fnExactFewestStepsSpec)

/-- 'laws.FnProgramsRanked', WHERE WHAT IT READS IS OF BULK AT MOST 1048576: true; the input reads as it did. -/
def fnProgramsRankedUptoRow : OpenClaim := { program := "ytpfdeoapnpcbaaa", sum := "80f712ce630b668cfe0aa26b42eabee7ee7ff3a5f9bdad201906e4884a7da4d8", func := "loop.example/g01127/laws.FnProgramsRanked", spec := "fnProgramsRanked", recurses := true, apart := false, narrowed := true }
def FnProgramsRankedUptoSaid : Prop := fnProgramsRankedUptoRow.holds Try.pinned (OpenSpec.upto fnProgramsRankedSpec)

/-- 'laws.FnExactAreAlike', WHERE WHAT IT READS IS OF BULK AT MOST 1048576: true; the input reads as it did. -/
def fnExactAreAlikeUptoRow : OpenClaim := { program := "ytpfdeoapnpcbaaa", sum := "80f712ce630b668cfe0aa26b42eabee7ee7ff3a5f9bdad201906e4884a7da4d8", func := "loop.example/g01127/laws.FnExactAreAlike", spec := "fnExactAreAlike", unfollowed := true, recurses := true, apart := false, narrowed := true }
def FnExactAreAlikeUptoSaid : Prop := fnExactAreAlikeUptoRow.holds Try.pinned (OpenSpec.upto fnExactAreAlikeSpec)

/-- 'laws.FnExactPlainSymbol', WHERE WHAT IT READS IS OF BULK AT MOST 1048576: true; the input reads as it did. -/
def fnExactPlainSymbolUptoRow : OpenClaim := { program := "ytpfdeoapnpcbaaa", sum := "80f712ce630b668cfe0aa26b42eabee7ee7ff3a5f9bdad201906e4884a7da4d8", func := "loop.example/g01127/laws.FnExactPlainSymbol", spec := "fnExactPlainSymbol", unfollowed := true, recurses := true, apart := false, narrowed := true }
def FnExactPlainSymbolUptoSaid : Prop := fnExactPlainSymbolUptoRow.holds Try.pinned (OpenSpec.upto fnExactPlainSymbolSpec)

/-- 'laws.FnSwapsOfBlocks', WHERE WHAT IT READS IS OF BULK AT MOST 1048576: true; the input reads as it did. -/
def fnSwapsOfBlocksUptoRow : OpenClaim := { program := "ytpfdeoapnpcbaaa", sum := "80f712ce630b668cfe0aa26b42eabee7ee7ff3a5f9bdad201906e4884a7da4d8", func := "loop.example/g01127/laws.FnSwapsOfBlocks", spec := "fnSwapsOfBlocks", unfollowed := true, recurses := true, apart := false, narrowed := true }
def FnSwapsOfBlocksUptoSaid : Prop := fnSwapsOfBlocksUptoRow.holds Try.pinned (OpenSpec.upto fnSwapsOfBlocksSpec)

end Rows
end Go.Proofs.Ytpfdeoapnpcbaaa
