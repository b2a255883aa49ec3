/-
  No cell of these rows narrows 'for every input' (looked for: loops, veiled, ifaces, maps, wideKeys, modest, calm, conditions, laid).
  DERIVED. THE GIVEN ROWS OF THIS SEAT. 12 by the template 'for every input the law returns true; each argument reads behind the call as it read before'; 0 by the template 'total and deterministic' (their statements: YteagfipmllplgaaTotals.lean).
  GIVEN WITH THE SEED: the statements are not yours to turn. If you find one false, say at which input.
  Laid BY PROGRAM, IN A SANDBOX (cutbox-rows.mjs): the forced cells as the released guide's own fill.sh prints them over the translation 635179ac0277f444… (all of the seat's roots in one cut). By AI agents, Wed Nov 11 2026. No macro, syntax, notation, axiom, sorry.
-/
import Derived.Test.YteagfipmllplgaaChecked
import GoSem.Claim
import GoSem.ClaimJoined
import GoSem.ClaimMapViews
import Derived.JoinedTies
import Derived.KernelRfl
namespace Go.Proofs.Yteagfipmllplgaa
/- THE CELL 'sum', in the pinned program and in every row, IS THE sha256 OF THE DUMP (.gsa) THAT YteagfipmllplgaaProg.lean LOADS. Nothing in Lean hashes anything: it is a label: what it is worth is what the hold of that sum in a sandbox is worth. -/
noncomputable def Try.pinned : Pinned := { name := "yteagfipmllplgaa", sum := "635179ac0277f4447f0be0ff0a25e6c1483d97b44ee7c96a9505f49572973d38", checked := Try.checked }
namespace Rows
def none {H : Type} : Left H := { results := [], args := [] }

/-- 'laws.FnExactMaximalSequence': WHATEVER THE INPUT: true; the input reads as it did. -/
def fnExactMaximalSequenceSpec : ChangeSpec := { name := "fnExactMaximalSequence", fn := fun _ => fun
  | [d1, d2] => { results := [.lit (.bool true)], args := [d1, d2] }
  | _ => none }
def fnExactMaximalSequenceRow : OpenClaim := { program := "yteagfipmllplgaa", sum := "635179ac0277f4447f0be0ff0a25e6c1483d97b44ee7c96a9505f49572973d38", func := "loop.example/spreadspectrum/laws.FnExactMaximalSequence", spec := "fnExactMaximalSequence", apart := false }
def FnExactMaximalSequenceSaid : Prop := fnExactMaximalSequenceRow.holds Try.pinned (OpenSpec.ofChange fnExactMaximalSequenceSpec)

/-- ITS FALSE NEIGHBOUR: 'it returns false'. Refute it at one input. -/
def fnExactMaximalSequenceWrong : ChangeSpec := { name := "fnExactMaximalSequence", fn := fun _ => fun
  | [d1, d2] => { results := [.lit (.bool false)], args := [d1, d2] }
  | _ => none }
def FnExactMaximalSequenceWrongFalsely : Prop := fnExactMaximalSequenceRow.holds Try.pinned (OpenSpec.ofChange fnExactMaximalSequenceWrong)

/-- 'laws.FnExactPreferredPairs': WHATEVER THE INPUT: true; the input reads as it did. -/
def fnExactPreferredPairsSpec : ChangeSpec := { name := "fnExactPreferredPairs", fn := fun _ => fun
  | [d] => { results := [.lit (.bool true)], args := [d] }
  | _ => none }
def fnExactPreferredPairsRow : OpenClaim := { program := "yteagfipmllplgaa", sum := "635179ac0277f4447f0be0ff0a25e6c1483d97b44ee7c96a9505f49572973d38", func := "loop.example/spreadspectrum/laws.FnExactPreferredPairs", spec := "fnExactPreferredPairs", recurses := true, apart := false }
def FnExactPreferredPairsSaid : Prop := fnExactPreferredPairsRow.holds Try.pinned (OpenSpec.ofChange fnExactPreferredPairsSpec)

/-- ITS FALSE NEIGHBOUR: 'it returns false'. Refute it at one input. -/
def fnExactPreferredPairsWrong : ChangeSpec := { name := "fnExactPreferredPairs", fn := fun _ => fun
  | [d] => { results := [.lit (.bool false)], args := [d] }
  | _ => none }
def FnExactPreferredPairsWrongFalsely : Prop := fnExactPreferredPairsRow.holds Try.pinned (OpenSpec.ofChange fnExactPreferredPairsWrong)

/-- 'laws.FnExactGoldCode': WHATEVER THE INPUT: true; the input reads as it did. -/
def fnExactGoldCodeSpec : ChangeSpec := { name := "fnExactGoldCode", fn := fun _ => fun
  | [d1, d2, d3, d4] => { results := [.lit (.bool true)], args := [d1, d2, d3, d4] }
  | _ => none }
def fnExactGoldCodeRow : OpenClaim := { program := "yteagfipmllplgaa", sum := "635179ac0277f4447f0be0ff0a25e6c1483d97b44ee7c96a9505f49572973d38", func := "loop.example/spreadspectrum/laws.FnExactGoldCode", spec := "fnExactGoldCode", apart := false }
def FnExactGoldCodeSaid : Prop := fnExactGoldCodeRow.holds Try.pinned (OpenSpec.ofChange fnExactGoldCodeSpec)

/-- ITS FALSE NEIGHBOUR: 'it returns false'. Refute it at one input. -/
def fnExactGoldCodeWrong : ChangeSpec := { name := "fnExactGoldCode", fn := fun _ => fun
  | [d1, d2, d3, d4] => { results := [.lit (.bool false)], args := [d1, d2, d3, d4] }
  | _ => none }
def FnExactGoldCodeWrongFalsely : Prop := fnExactGoldCodeRow.holds Try.pinned (OpenSpec.ofChange fnExactGoldCodeWrong)

/-- 'laws.FnExactGoldFamily': WHATEVER THE INPUT: true; the input reads as it did. -/
def fnExactGoldFamilySpec : ChangeSpec := { name := "fnExactGoldFamily", fn := fun _ => fun
  | [d1, d2, d3] => { results := [.lit (.bool true)], args := [d1, d2, d3] }
  | _ => none }
def fnExactGoldFamilyRow : OpenClaim := { program := "yteagfipmllplgaa", sum := "635179ac0277f4447f0be0ff0a25e6c1483d97b44ee7c96a9505f49572973d38", func := "loop.example/spreadspectrum/laws.FnExactGoldFamily", spec := "fnExactGoldFamily", apart := false }
def FnExactGoldFamilySaid : Prop := fnExactGoldFamilyRow.holds Try.pinned (OpenSpec.ofChange fnExactGoldFamilySpec)

/-- ITS FALSE NEIGHBOUR: 'it returns false'. Refute it at one input. -/
def fnExactGoldFamilyWrong : ChangeSpec := { name := "fnExactGoldFamily", fn := fun _ => fun
  | [d1, d2, d3] => { results := [.lit (.bool false)], args := [d1, d2, d3] }
  | _ => none }
def FnExactGoldFamilyWrongFalsely : Prop := fnExactGoldFamilyRow.holds Try.pinned (OpenSpec.ofChange fnExactGoldFamilyWrong)

/-- 'laws.FnExactIsPreferred': WHATEVER THE INPUT: true; the input reads as it did. -/
def fnExactIsPreferredSpec : ChangeSpec := { name := "fnExactIsPreferred", fn := fun _ => fun
  | [d1, d2, d3] => { results := [.lit (.bool true)], args := [d1, d2, d3] }
  | _ => none }
def fnExactIsPreferredRow : OpenClaim := { program := "yteagfipmllplgaa", sum := "635179ac0277f4447f0be0ff0a25e6c1483d97b44ee7c96a9505f49572973d38", func := "loop.example/spreadspectrum/laws.FnExactIsPreferred", spec := "fnExactIsPreferred", recurses := true, apart := false }
def FnExactIsPreferredSaid : Prop := fnExactIsPreferredRow.holds Try.pinned (OpenSpec.ofChange fnExactIsPreferredSpec)

/-- ITS FALSE NEIGHBOUR: 'it returns false'. Refute it at one input. -/
def fnExactIsPreferredWrong : ChangeSpec := { name := "fnExactIsPreferred", fn := fun _ => fun
  | [d1, d2, d3] => { results := [.lit (.bool false)], args := [d1, d2, d3] }
  | _ => none }
def FnExactIsPreferredWrongFalsely : Prop := fnExactIsPreferredRow.holds Try.pinned (OpenSpec.ofChange fnExactIsPreferredWrong)

/-- 'laws.FnPreferredPairs': WHATEVER THE INPUT: true; the input reads as it did. -/
def fnPreferredPairsSpec : ChangeSpec := { name := "fnPreferredPairs", fn := fun _ => fun
  | [d] => { results := [.lit (.bool true)], args := [d] }
  | _ => none }
def fnPreferredPairsRow : OpenClaim := { program := "yteagfipmllplgaa", sum := "635179ac0277f4447f0be0ff0a25e6c1483d97b44ee7c96a9505f49572973d38", func := "loop.example/spreadspectrum/laws.FnPreferredPairs", spec := "fnPreferredPairs", recurses := true, apart := false }
def FnPreferredPairsSaid : Prop := fnPreferredPairsRow.holds Try.pinned (OpenSpec.ofChange fnPreferredPairsSpec)

/-- ITS FALSE NEIGHBOUR: 'it returns false'. Refute it at one input. -/
def fnPreferredPairsWrong : ChangeSpec := { name := "fnPreferredPairs", fn := fun _ => fun
  | [d] => { results := [.lit (.bool false)], args := [d] }
  | _ => none }
def FnPreferredPairsWrongFalsely : Prop := fnPreferredPairsRow.holds Try.pinned (OpenSpec.ofChange fnPreferredPairsWrong)

/-- 'laws.FnGoldBound': WHATEVER THE INPUT: true; the input reads as it did. -/
def fnGoldBoundSpec : ChangeSpec := { name := "fnGoldBound", fn := fun _ => fun
  | [d1, d2] => { results := [.lit (.bool true)], args := [d1, d2] }
  | _ => none }
def fnGoldBoundRow : OpenClaim := { program := "yteagfipmllplgaa", sum := "635179ac0277f4447f0be0ff0a25e6c1483d97b44ee7c96a9505f49572973d38", func := "loop.example/spreadspectrum/laws.FnGoldBound", spec := "fnGoldBound", recurses := true, apart := false }
def FnGoldBoundSaid : Prop := fnGoldBoundRow.holds Try.pinned (OpenSpec.ofChange fnGoldBoundSpec)

/-- ITS FALSE NEIGHBOUR: 'it returns false'. Refute it at one input. -/
def fnGoldBoundWrong : ChangeSpec := { name := "fnGoldBound", fn := fun _ => fun
  | [d1, d2] => { results := [.lit (.bool false)], args := [d1, d2] }
  | _ => none }
def FnGoldBoundWrongFalsely : Prop := fnGoldBoundRow.holds Try.pinned (OpenSpec.ofChange fnGoldBoundWrong)

/-- 'laws.FnMaximalFamily': WHATEVER THE INPUT: true; the input reads as it did. -/
def fnMaximalFamilySpec : ChangeSpec := { name := "fnMaximalFamily", fn := fun _ => fun
  | [d1, d2] => { results := [.lit (.bool true)], args := [d1, d2] }
  | _ => none }
def fnMaximalFamilyRow : OpenClaim := { program := "yteagfipmllplgaa", sum := "635179ac0277f4447f0be0ff0a25e6c1483d97b44ee7c96a9505f49572973d38", func := "loop.example/spreadspectrum/laws.FnMaximalFamily", spec := "fnMaximalFamily", apart := false }
def FnMaximalFamilySaid : Prop := fnMaximalFamilyRow.holds Try.pinned (OpenSpec.ofChange fnMaximalFamilySpec)

/-- ITS FALSE NEIGHBOUR: 'it returns false'. Refute it at one input. -/
def fnMaximalFamilyWrong : ChangeSpec := { name := "fnMaximalFamily", fn := fun _ => fun
  | [d1, d2] => { results := [.lit (.bool false)], args := [d1, d2] }
  | _ => none }
def FnMaximalFamilyWrongFalsely : Prop := fnMaximalFamilyRow.holds Try.pinned (OpenSpec.ofChange fnMaximalFamilyWrong)

/-- 'laws.FnGoldCode': WHATEVER THE INPUT: true; the input reads as it did. -/
def fnGoldCodeSpec : ChangeSpec := { name := "fnGoldCode", fn := fun _ => fun
  | [d] => { results := [.lit (.bool true)], args := [d] }
  | _ => none }
def fnGoldCodeRow : OpenClaim := { program := "yteagfipmllplgaa", sum := "635179ac0277f4447f0be0ff0a25e6c1483d97b44ee7c96a9505f49572973d38", func := "loop.example/spreadspectrum/laws.FnGoldCode", spec := "fnGoldCode", apart := false }
def FnGoldCodeSaid : Prop := fnGoldCodeRow.holds Try.pinned (OpenSpec.ofChange fnGoldCodeSpec)

/-- ITS FALSE NEIGHBOUR: 'it returns false'. Refute it at one input. -/
def fnGoldCodeWrong : ChangeSpec := { name := "fnGoldCode", fn := fun _ => fun
  | [d] => { results := [.lit (.bool false)], args := [d] }
  | _ => none }
def FnGoldCodeWrongFalsely : Prop := fnGoldCodeRow.holds Try.pinned (OpenSpec.ofChange fnGoldCodeWrong)

/-- 'laws.FnRuns': WHATEVER THE INPUT: true; the input reads as it did. -/
def fnRunsSpec : ChangeSpec := { name := "fnRuns", fn := fun _ => fun
  | [d] => { results := [.lit (.bool true)], args := [d] }
  | _ => none }
def fnRunsRow : OpenClaim := { program := "yteagfipmllplgaa", sum := "635179ac0277f4447f0be0ff0a25e6c1483d97b44ee7c96a9505f49572973d38", func := "loop.example/spreadspectrum/laws.FnRuns", spec := "fnRuns", recurses := true, apart := false }
def FnRunsSaid : Prop := fnRunsRow.holds Try.pinned (OpenSpec.ofChange fnRunsSpec)

/-- ITS FALSE NEIGHBOUR: 'it returns false'. Refute it at one input. -/
def fnRunsWrong : ChangeSpec := { name := "fnRuns", fn := fun _ => fun
  | [d] => { results := [.lit (.bool false)], args := [d] }
  | _ => none }
def FnRunsWrongFalsely : Prop := fnRunsRow.holds Try.pinned (OpenSpec.ofChange fnRunsWrong)

/-- 'laws.FnCrossValues': WHATEVER THE INPUT: true; the input reads as it did. -/
def fnCrossValuesSpec : ChangeSpec := { name := "fnCrossValues", fn := fun _ => fun
  | [d] => { results := [.lit (.bool true)], args := [d] }
  | _ => none }
def fnCrossValuesRow : OpenClaim := { program := "yteagfipmllplgaa", sum := "635179ac0277f4447f0be0ff0a25e6c1483d97b44ee7c96a9505f49572973d38", func := "loop.example/spreadspectrum/laws.FnCrossValues", spec := "fnCrossValues", recurses := true, apart := false }
def FnCrossValuesSaid : Prop := fnCrossValuesRow.holds Try.pinned (OpenSpec.ofChange fnCrossValuesSpec)

/-- ITS FALSE NEIGHBOUR: 'it returns false'. Refute it at one input. -/
def fnCrossValuesWrong : ChangeSpec := { name := "fnCrossValues", fn := fun _ => fun
  | [d] => { results := [.lit (.bool false)], args := [d] }
  | _ => none }
def FnCrossValuesWrongFalsely : Prop := fnCrossValuesRow.holds Try.pinned (OpenSpec.ofChange fnCrossValuesWrong)

/-- 'laws.FnPreferred': WHATEVER THE INPUT: true; the input reads as it did. -/
def fnPreferredSpec : ChangeSpec := { name := "fnPreferred", fn := fun _ => fun
  | [d] => { results := [.lit (.bool true)], args := [d] }
  | _ => none }
def fnPreferredRow : OpenClaim := { program := "yteagfipmllplgaa", sum := "635179ac0277f4447f0be0ff0a25e6c1483d97b44ee7c96a9505f49572973d38", func := "loop.example/spreadspectrum/laws.FnPreferred", spec := "fnPreferred", recurses := true, apart := false }
def FnPreferredSaid : Prop := fnPreferredRow.holds Try.pinned (OpenSpec.ofChange fnPreferredSpec)

/-- ITS FALSE NEIGHBOUR: 'it returns false'. Refute it at one input. -/
def fnPreferredWrong : ChangeSpec := { name := "fnPreferred", fn := fun _ => fun
  | [d] => { results := [.lit (.bool false)], args := [d] }
  | _ => none }
def FnPreferredWrongFalsely : Prop := fnPreferredRow.holds Try.pinned (OpenSpec.ofChange fnPreferredWrong)

/- THE SECOND FORM. 'bulk': how many values and letters a reading holds, each counted each time it is reached (what is shared counts as often as it is met; a slice's spare places count too). A statement '..UptoSaid' is the law's where the arguments, and the package variables that the reading takes, are together of bulk at most 1048576: NARROWER than '..Said'. Prove '..Said' where nothing that the law and all that it calls make is longer than what came in: it says more and counts as full. Else prove '..UptoSaid'. A law counts once. -/
mutual
def uptoBulk {H : Type} : DataW H → Nat
  | .lit (.string bytes) => bytes.length + 1
  | .lit _ => 1
  | .nil => 1
  | .ptr d => uptoBulk d + 1
  | .slice elems spare => uptoBulkAll elems + uptoBulkAll spare + 1
  | .agg parts => uptoBulkAll parts + 1
  | .iface _ d => uptoBulk d + 1
  | .map entries => uptoBulkEntries entries + 1
  | .held _ => 1
def uptoBulkAll {H : Type} : List (DataW H) → Nat
  | [] => 0
  | d :: r => uptoBulk d + uptoBulkAll r
def uptoBulkEntries {H : Type} : List (Lit × DataW H) → Nat
  | [] => 0
  | x :: r => uptoBulkEntry x + uptoBulkEntries r
def uptoBulkEntry {H : Type} : Lit × DataW H → Nat
  | (.string bytes, d) => bytes.length + uptoBulk d + 1
  | (_, d) => uptoBulk d + 1
 end
def uptoSmall : (H : Type) → List (DataW H) → Bool := fun _ ds => decide (uptoBulkAll ds ≤ 1048576)
def OpenSpec.upto (s : _root_.Go.ChangeSpec) : _root_.Go.OpenSpec := { _root_.Go.OpenSpec.ofChange s with cond := some uptoSmall }

/-- 'laws.FnExactMaximalSequence', WHERE WHAT IT READS IS OF BULK AT MOST 1048576: true; the input reads as it did. -/
def fnExactMaximalSequenceUptoRow : OpenClaim := { program := "yteagfipmllplgaa", sum := "635179ac0277f4447f0be0ff0a25e6c1483d97b44ee7c96a9505f49572973d38", func := "loop.example/spreadspectrum/laws.FnExactMaximalSequence", spec := "fnExactMaximalSequence", apart := false, narrowed := true }
def FnExactMaximalSequenceUptoSaid : Prop := fnExactMaximalSequenceUptoRow.holds Try.pinned (OpenSpec.upto fnExactMaximalSequenceSpec)

/-- 'laws.FnExactPreferredPairs', WHERE WHAT IT READS IS OF BULK AT MOST 1048576: true; the input reads as it did. -/
def fnExactPreferredPairsUptoRow : OpenClaim := { program := "yteagfipmllplgaa", sum := "635179ac0277f4447f0be0ff0a25e6c1483d97b44ee7c96a9505f49572973d38", func := "loop.example/spreadspectrum/laws.FnExactPreferredPairs", spec := "fnExactPreferredPairs", recurses := true, apart := false, narrowed := true }
def FnExactPreferredPairsUptoSaid : Prop := fnExactPreferredPairsUptoRow.holds Try.pinned (OpenSpec.upto fnExactPreferredPairsSpec)

/-- 'laws.FnExactGoldCode', WHERE WHAT IT READS IS OF BULK AT MOST 1048576: true; the input reads as it did. -/
def fnExactGoldCodeUptoRow : OpenClaim := { program := "yteagfipmllplgaa", sum := "635179ac0277f4447f0be0ff0a25e6c1483d97b44ee7c96a9505f49572973d38", func := "loop.example/spreadspectrum/laws.FnExactGoldCode", spec := "fnExactGoldCode", apart := false, narrowed := true }
def FnExactGoldCodeUptoSaid : Prop := fnExactGoldCodeUptoRow.holds Try.pinned (OpenSpec.upto fnExactGoldCodeSpec)

/-- 'laws.FnExactGoldFamily', WHERE WHAT IT READS IS OF BULK AT MOST 1048576: true; the input reads as it did. -/
def fnExactGoldFamilyUptoRow : OpenClaim := { program := "yteagfipmllplgaa", sum := "635179ac0277f4447f0be0ff0a25e6c1483d97b44ee7c96a9505f49572973d38", func := "loop.example/spreadspectrum/laws.FnExactGoldFamily", spec := "fnExactGoldFamily", apart := false, narrowed := true }
def FnExactGoldFamilyUptoSaid : Prop := fnExactGoldFamilyUptoRow.holds Try.pinned (OpenSpec.upto fnExactGoldFamilySpec)

/-- 'laws.FnExactIsPreferred', WHERE WHAT IT READS IS OF BULK AT MOST 1048576: true; the input reads as it did. -/
def fnExactIsPreferredUptoRow : OpenClaim := { program := "yteagfipmllplgaa", sum := "635179ac0277f4447f0be0ff0a25e6c1483d97b44ee7c96a9505f49572973d38", func := "loop.example/spreadspectrum/laws.FnExactIsPreferred", spec := "fnExactIsPreferred", recurses := true, apart := false, narrowed := true }
def FnExactIsPreferredUptoSaid : Prop := fnExactIsPreferredUptoRow.holds Try.pinned (OpenSpec.upto fnExactIsPreferredSpec)

/-- 'laws.FnPreferredPairs', WHERE WHAT IT READS IS OF BULK AT MOST 1048576: true; the input reads as it did. -/
def fnPreferredPairsUptoRow : OpenClaim := { program := "yteagfipmllplgaa", sum := "635179ac0277f4447f0be0ff0a25e6c1483d97b44ee7c96a9505f49572973d38", func := "loop.example/spreadspectrum/laws.FnPreferredPairs", spec := "fnPreferredPairs", recurses := true, apart := false, narrowed := true }
def FnPreferredPairsUptoSaid : Prop := fnPreferredPairsUptoRow.holds Try.pinned (OpenSpec.upto fnPreferredPairsSpec)

/-- 'laws.FnGoldBound', WHERE WHAT IT READS IS OF BULK AT MOST 1048576: true; the input reads as it did. -/
def fnGoldBoundUptoRow : OpenClaim := { program := "yteagfipmllplgaa", sum := "635179ac0277f4447f0be0ff0a25e6c1483d97b44ee7c96a9505f49572973d38", func := "loop.example/spreadspectrum/laws.FnGoldBound", spec := "fnGoldBound", recurses := true, apart := false, narrowed := true }
def FnGoldBoundUptoSaid : Prop := fnGoldBoundUptoRow.holds Try.pinned (OpenSpec.upto fnGoldBoundSpec)

/-- 'laws.FnMaximalFamily', WHERE WHAT IT READS IS OF BULK AT MOST 1048576: true; the input reads as it did. -/
def fnMaximalFamilyUptoRow : OpenClaim := { program := "yteagfipmllplgaa", sum := "635179ac0277f4447f0be0ff0a25e6c1483d97b44ee7c96a9505f49572973d38", func := "loop.example/spreadspectrum/laws.FnMaximalFamily", spec := "fnMaximalFamily", apart := false, narrowed := true }
def FnMaximalFamilyUptoSaid : Prop := fnMaximalFamilyUptoRow.holds Try.pinned (OpenSpec.upto fnMaximalFamilySpec)

/-- 'laws.FnGoldCode', WHERE WHAT IT READS IS OF BULK AT MOST 1048576: true; the input reads as it did. -/
def fnGoldCodeUptoRow : OpenClaim := { program := "yteagfipmllplgaa", sum := "635179ac0277f4447f0be0ff0a25e6c1483d97b44ee7c96a9505f49572973d38", func := "loop.example/spreadspectrum/laws.FnGoldCode", spec := "fnGoldCode", apart := false, narrowed := true }
def FnGoldCodeUptoSaid : Prop := fnGoldCodeUptoRow.holds Try.pinned (OpenSpec.upto fnGoldCodeSpec)

/-- 'laws.FnRuns', WHERE WHAT IT READS IS OF BULK AT MOST 1048576: true; the input reads as it did. -/
def fnRunsUptoRow : OpenClaim := { program := "yteagfipmllplgaa", sum := "635179ac0277f4447f0be0ff0a25e6c1483d97b44ee7c96a9505f49572973d38", func := "loop.example/spreadspectrum/laws.FnRuns", spec := "fnRuns", recurses := true, apart := false, narrowed := true }
def FnRunsUptoSaid : Prop := fnRunsUptoRow.holds Try.pinned (OpenSpec.upto fnRunsSpec)

/-- 'laws.FnCrossValues', WHERE WHAT IT READS IS OF BULK AT MOST 1048576: true; the input reads as it did. -/
def fnCrossValuesUptoRow : OpenClaim := { program := "yteagfipmllplgaa", sum := "635179ac0277f4447f0be0ff0a25e6c1483d97b44ee7c96a9505f49572973d38", func := "loop.example/spreadspectrum/laws.FnCrossValues", spec := "fnCrossValues", recurses := true, apart := false, narrowed := true }
def FnCrossValuesUptoSaid : Prop := fnCrossValuesUptoRow.holds Try.pinned (OpenSpec.upto fnCrossValuesSpec)

/-- 'laws.FnPreferred', WHERE WHAT IT READS IS OF BULK AT MOST 1048576: true; the input reads as it did. -/
def fnPreferredUptoRow : OpenClaim := { program := "yteagfipmllplgaa", sum := "635179ac0277f4447f0be0ff0a25e6c1483d97b44ee7c96a9505f49572973d38", func := "loop.example/spreadspectrum/laws.FnPreferred", spec := "fnPreferred", recurses := true, apart := false, narrowed := true }
def FnPreferredUptoSaid : Prop := fnPreferredUptoRow.holds Try.pinned (OpenSpec.upto fnPreferredSpec)

end Rows
end Go.Proofs.Yteagfipmllplgaa
