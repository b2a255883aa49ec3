/-
  No cell of these rows narrows 'for every input' (looked for: loops, veiled, ifaces, maps, wideKeys, modest, calm, conditions, laid).
  DERIVED. THE GIVEN ROWS OF THIS SEAT. 10 by the template 'for every input the law returns true; each argument reads behind the call as it read before'; 0 by the template 'total and deterministic' (their statements: YtfendecmgcmbjaaTotals.lean).
  GIVEN WITH THE SEED: the statements are not yours to turn. If you find one false, say at which input.
  Laid BY PROGRAM, IN A SANDBOX (cutbox-rows.mjs): the forced cells as the released guide's own fill.sh prints them over the translation 4c42345ba70246d4… (all of the seat's roots in one cut). By AI agents, Wed Nov 11 2026. No macro, syntax, notation, axiom, sorry.
-/
import Derived.Test.YtfendecmgcmbjaaChecked
import GoSem.Claim
import GoSem.ClaimJoined
import GoSem.ClaimMapViews
import Derived.JoinedTies
import Derived.KernelRfl
namespace Go.Proofs.Ytfendecmgcmbjaa
/- THE CELL 'sum', in the pinned program and in every row, IS THE sha256 OF THE DUMP (.gsa) THAT YtfendecmgcmbjaaProg.lean LOADS. Nothing in Lean hashes anything: it is a label: what it is worth is what the hold of that sum in a sandbox is worth. -/
noncomputable def Try.pinned : Pinned := { name := "ytfendecmgcmbjaa", sum := "4c42345ba70246d488c796c97fdb4458378bc4e684b2edf202bc8c16433b968e", checked := Try.checked }
namespace Rows
def none {H : Type} : Left H := { results := [], args := [] }

/-- 'laws.FnTreeConflict': WHATEVER THE INPUT: true; the input reads as it did. -/
def fnTreeConflictSpec : ChangeSpec := { name := "fnTreeConflict", fn := fun _ => fun
  | [d] => { results := [.lit (.bool true)], args := [d] }
  | _ => none }
def fnTreeConflictRow : OpenClaim := { program := "ytfendecmgcmbjaa", sum := "4c42345ba70246d488c796c97fdb4458378bc4e684b2edf202bc8c16433b968e", func := "loop.example/spreadspectrum/laws.FnTreeConflict", spec := "fnTreeConflict", apart := false }
def FnTreeConflictSaid : Prop := fnTreeConflictRow.holds Try.pinned (OpenSpec.ofChange fnTreeConflictSpec)

/-- ITS FALSE NEIGHBOUR: 'it returns false'. Refute it at one input. -/
def fnTreeConflictWrong : ChangeSpec := { name := "fnTreeConflict", fn := fun _ => fun
  | [d] => { results := [.lit (.bool false)], args := [d] }
  | _ => none }
def FnTreeConflictWrongFalsely : Prop := fnTreeConflictRow.holds Try.pinned (OpenSpec.ofChange fnTreeConflictWrong)

/-- 'laws.FnWalshIndex': WHATEVER THE INPUT: true; the input reads as it did. -/
def fnWalshIndexSpec : ChangeSpec := { name := "fnWalshIndex", fn := fun _ => fun
  | [d] => { results := [.lit (.bool true)], args := [d] }
  | _ => none }
def fnWalshIndexRow : OpenClaim := { program := "ytfendecmgcmbjaa", sum := "4c42345ba70246d488c796c97fdb4458378bc4e684b2edf202bc8c16433b968e", func := "loop.example/spreadspectrum/laws.FnWalshIndex", spec := "fnWalshIndex", apart := false }
def FnWalshIndexSaid : Prop := fnWalshIndexRow.holds Try.pinned (OpenSpec.ofChange fnWalshIndexSpec)

/-- ITS FALSE NEIGHBOUR: 'it returns false'. Refute it at one input. -/
def fnWalshIndexWrong : ChangeSpec := { name := "fnWalshIndex", fn := fun _ => fun
  | [d] => { results := [.lit (.bool false)], args := [d] }
  | _ => none }
def FnWalshIndexWrongFalsely : Prop := fnWalshIndexRow.holds Try.pinned (OpenSpec.ofChange fnWalshIndexWrong)

/-- 'laws.FnWalsh': WHATEVER THE INPUT: true; the input reads as it did. -/
def fnWalshSpec : ChangeSpec := { name := "fnWalsh", fn := fun _ => fun
  | [d] => { results := [.lit (.bool true)], args := [d] }
  | _ => none }
def fnWalshRow : OpenClaim := { program := "ytfendecmgcmbjaa", sum := "4c42345ba70246d488c796c97fdb4458378bc4e684b2edf202bc8c16433b968e", func := "loop.example/spreadspectrum/laws.FnWalsh", spec := "fnWalsh", apart := false }
def FnWalshSaid : Prop := fnWalshRow.holds Try.pinned (OpenSpec.ofChange fnWalshSpec)

/-- ITS FALSE NEIGHBOUR: 'it returns false'. Refute it at one input. -/
def fnWalshWrong : ChangeSpec := { name := "fnWalsh", fn := fun _ => fun
  | [d] => { results := [.lit (.bool false)], args := [d] }
  | _ => none }
def FnWalshWrongFalsely : Prop := fnWalshRow.holds Try.pinned (OpenSpec.ofChange fnWalshWrong)

/-- 'laws.FnTreeCode': WHATEVER THE INPUT: true; the input reads as it did. -/
def fnTreeCodeSpec : ChangeSpec := { name := "fnTreeCode", fn := fun _ => fun
  | [d] => { results := [.lit (.bool true)], args := [d] }
  | _ => none }
def fnTreeCodeRow : OpenClaim := { program := "ytfendecmgcmbjaa", sum := "4c42345ba70246d488c796c97fdb4458378bc4e684b2edf202bc8c16433b968e", func := "loop.example/spreadspectrum/laws.FnTreeCode", spec := "fnTreeCode", apart := false }
def FnTreeCodeSaid : Prop := fnTreeCodeRow.holds Try.pinned (OpenSpec.ofChange fnTreeCodeSpec)

/-- ITS FALSE NEIGHBOUR: 'it returns false'. Refute it at one input. -/
def fnTreeCodeWrong : ChangeSpec := { name := "fnTreeCode", fn := fun _ => fun
  | [d] => { results := [.lit (.bool false)], args := [d] }
  | _ => none }
def FnTreeCodeWrongFalsely : Prop := fnTreeCodeRow.holds Try.pinned (OpenSpec.ofChange fnTreeCodeWrong)

/-- 'laws.FnFreePaths': WHATEVER THE INPUT: true; the input reads as it did. -/
def fnFreePathsSpec : ChangeSpec := { name := "fnFreePaths", fn := fun _ => fun
  | [d] => { results := [.lit (.bool true)], args := [d] }
  | _ => none }
def fnFreePathsRow : OpenClaim := { program := "ytfendecmgcmbjaa", sum := "4c42345ba70246d488c796c97fdb4458378bc4e684b2edf202bc8c16433b968e", func := "loop.example/spreadspectrum/laws.FnFreePaths", spec := "fnFreePaths", recurses := true, apart := false }
def FnFreePathsSaid : Prop := fnFreePathsRow.holds Try.pinned (OpenSpec.ofChange fnFreePathsSpec)

/-- ITS FALSE NEIGHBOUR: 'it returns false'. Refute it at one input. -/
def fnFreePathsWrong : ChangeSpec := { name := "fnFreePaths", fn := fun _ => fun
  | [d] => { results := [.lit (.bool false)], args := [d] }
  | _ => none }
def FnFreePathsWrongFalsely : Prop := fnFreePathsRow.holds Try.pinned (OpenSpec.ofChange fnFreePathsWrong)

/-- 'laws.FnAllocate': WHATEVER THE INPUT: true; the input reads as it did. -/
def fnAllocateSpec : ChangeSpec := { name := "fnAllocate", fn := fun _ => fun
  | [d] => { results := [.lit (.bool true)], args := [d] }
  | _ => none }
def fnAllocateRow : OpenClaim := { program := "ytfendecmgcmbjaa", sum := "4c42345ba70246d488c796c97fdb4458378bc4e684b2edf202bc8c16433b968e", func := "loop.example/spreadspectrum/laws.FnAllocate", spec := "fnAllocate", recurses := true, apart := false }
def FnAllocateSaid : Prop := fnAllocateRow.holds Try.pinned (OpenSpec.ofChange fnAllocateSpec)

/-- ITS FALSE NEIGHBOUR: 'it returns false'. Refute it at one input. -/
def fnAllocateWrong : ChangeSpec := { name := "fnAllocate", fn := fun _ => fun
  | [d] => { results := [.lit (.bool false)], args := [d] }
  | _ => none }
def FnAllocateWrongFalsely : Prop := fnAllocateRow.holds Try.pinned (OpenSpec.ofChange fnAllocateWrong)

/-- 'laws.FnFirstBarker': WHATEVER THE INPUT: true; the input reads as it did. -/
def fnFirstBarkerSpec : ChangeSpec := { name := "fnFirstBarker", fn := fun _ => fun
  | [d] => { results := [.lit (.bool true)], args := [d] }
  | _ => none }
def fnFirstBarkerRow : OpenClaim := { program := "ytfendecmgcmbjaa", sum := "4c42345ba70246d488c796c97fdb4458378bc4e684b2edf202bc8c16433b968e", func := "loop.example/spreadspectrum/laws.FnFirstBarker", spec := "fnFirstBarker", recurses := true, apart := false }
def FnFirstBarkerSaid : Prop := fnFirstBarkerRow.holds Try.pinned (OpenSpec.ofChange fnFirstBarkerSpec)

/-- ITS FALSE NEIGHBOUR: 'it returns false'. Refute it at one input. -/
def fnFirstBarkerWrong : ChangeSpec := { name := "fnFirstBarker", fn := fun _ => fun
  | [d] => { results := [.lit (.bool false)], args := [d] }
  | _ => none }
def FnFirstBarkerWrongFalsely : Prop := fnFirstBarkerRow.holds Try.pinned (OpenSpec.ofChange fnFirstBarkerWrong)

/-- 'laws.FnBarker': WHATEVER THE INPUT: true; the input reads as it did. -/
def fnBarkerSpec : ChangeSpec := { name := "fnBarker", fn := fun _ => fun
  | [d] => { results := [.lit (.bool true)], args := [d] }
  | _ => none }
def fnBarkerRow : OpenClaim := { program := "ytfendecmgcmbjaa", sum := "4c42345ba70246d488c796c97fdb4458378bc4e684b2edf202bc8c16433b968e", func := "loop.example/spreadspectrum/laws.FnBarker", spec := "fnBarker", recurses := true, apart := false }
def FnBarkerSaid : Prop := fnBarkerRow.holds Try.pinned (OpenSpec.ofChange fnBarkerSpec)

/-- ITS FALSE NEIGHBOUR: 'it returns false'. Refute it at one input. -/
def fnBarkerWrong : ChangeSpec := { name := "fnBarker", fn := fun _ => fun
  | [d] => { results := [.lit (.bool false)], args := [d] }
  | _ => none }
def FnBarkerWrongFalsely : Prop := fnBarkerRow.holds Try.pinned (OpenSpec.ofChange fnBarkerWrong)

/-- 'laws.FnExactWorstCross': WHATEVER THE INPUT: true; the input reads as it did. -/
def fnExactWorstCrossSpec : ChangeSpec := { name := "fnExactWorstCross", fn := fun _ => fun
  | [d] => { results := [.lit (.bool true)], args := [d] }
  | _ => none }
def fnExactWorstCrossRow : OpenClaim := { program := "ytfendecmgcmbjaa", sum := "4c42345ba70246d488c796c97fdb4458378bc4e684b2edf202bc8c16433b968e", func := "loop.example/spreadspectrum/laws.FnExactWorstCross", spec := "fnExactWorstCross", apart := false }
def FnExactWorstCrossSaid : Prop := fnExactWorstCrossRow.holds Try.pinned (OpenSpec.ofChange fnExactWorstCrossSpec)

/-- ITS FALSE NEIGHBOUR: 'it returns false'. Refute it at one input. -/
def fnExactWorstCrossWrong : ChangeSpec := { name := "fnExactWorstCross", fn := fun _ => fun
  | [d] => { results := [.lit (.bool false)], args := [d] }
  | _ => none }
def FnExactWorstCrossWrongFalsely : Prop := fnExactWorstCrossRow.holds Try.pinned (OpenSpec.ofChange fnExactWorstCrossWrong)

/-- 'laws.FnWorst': WHATEVER THE INPUT: true; the input reads as it did. -/
def fnWorstSpec : ChangeSpec := { name := "fnWorst", fn := fun _ => fun
  | [d1, d2] => { results := [.lit (.bool true)], args := [d1, d2] }
  | _ => none }
def fnWorstRow : OpenClaim := { program := "ytfendecmgcmbjaa", sum := "4c42345ba70246d488c796c97fdb4458378bc4e684b2edf202bc8c16433b968e", func := "loop.example/spreadspectrum/laws.FnWorst", spec := "fnWorst", recurses := true, apart := false }
def FnWorstSaid : Prop := fnWorstRow.holds Try.pinned (OpenSpec.ofChange fnWorstSpec)

/-- ITS FALSE NEIGHBOUR: 'it returns false'. Refute it at one input. -/
def fnWorstWrong : ChangeSpec := { name := "fnWorst", fn := fun _ => fun
  | [d1, d2] => { results := [.lit (.bool false)], args := [d1, d2] }
  | _ => none }
def FnWorstWrongFalsely : Prop := fnWorstRow.holds Try.pinned (OpenSpec.ofChange fnWorstWrong)

/- THE SECOND FORM. 'bulk': how many values and letters a reading holds, each counted each time it is reached (what is shared counts as often as it is met; a slice's spare places count too). A statement '..UptoSaid' is the law's where the arguments, and the package variables that the reading takes, are together of bulk at most 1048576: NARROWER than '..Said'. Prove '..Said' where nothing that the law and all that it calls make is longer than what came in: it says more and counts as full. Else prove '..UptoSaid'. A law counts once. -/
mutual
def uptoBulk {H : Type} : DataW H → Nat
  | .lit (.string bytes) => bytes.length + 1
  | .lit _ => 1
  | .nil => 1
  | .ptr d => uptoBulk d + 1
  | .slice elems spare => uptoBulkAll elems + uptoBulkAll spare + 1
  | .agg parts => uptoBulkAll parts + 1
  | .iface _ d => uptoBulk d + 1
  | .map entries => uptoBulkEntries entries + 1
  | .held _ => 1
def uptoBulkAll {H : Type} : List (DataW H) → Nat
  | [] => 0
  | d :: r => uptoBulk d + uptoBulkAll r
def uptoBulkEntries {H : Type} : List (Lit × DataW H) → Nat
  | [] => 0
  | x :: r => uptoBulkEntry x + uptoBulkEntries r
def uptoBulkEntry {H : Type} : Lit × DataW H → Nat
  | (.string bytes, d) => bytes.length + uptoBulk d + 1
  | (_, d) => uptoBulk d + 1
 end
def uptoSmall : (H : Type) → List (DataW H) → Bool := fun _ ds => decide (uptoBulkAll ds ≤ 1048576)
def OpenSpec.upto (s : _root_.Go.ChangeSpec) : _root_.Go.OpenSpec := { _root_.Go.OpenSpec.ofChange s with cond := some uptoSmall }

/-- 'laws.FnTreeConflict', WHERE WHAT IT READS IS OF BULK AT MOST 1048576: true; the input reads as it did. -/
def fnTreeConflictUptoRow : OpenClaim := { program := "ytfendecmgcmbjaa", sum := "4c42345ba70246d488c796c97fdb4458378bc4e684b2edf202bc8c16433b968e", func := "loop.example/spreadspectrum/laws.FnTreeConflict", spec := "fnTreeConflict", apart := false, narrowed := true }
def FnTreeConflictUptoSaid : Prop := fnTreeConflictUptoRow.holds Try.pinned (OpenSpec.upto fnTreeConflictSpec)

/-- 'laws.FnWalshIndex', WHERE WHAT IT READS IS OF BULK AT MOST 1048576: true; the input reads as it did. -/
def fnWalshIndexUptoRow : OpenClaim := { program := "ytfendecmgcmbjaa", sum := "4c42345ba70246d488c796c97fdb4458378bc4e684b2edf202bc8c16433b968e", func := "loop.example/spreadspectrum/laws.FnWalshIndex", spec := "fnWalshIndex", apart := false, narrowed := true }
def FnWalshIndexUptoSaid : Prop := fnWalshIndexUptoRow.holds Try.pinned (OpenSpec.upto fnWalshIndexSpec)

/-- 'laws.FnWalsh', WHERE WHAT IT READS IS OF BULK AT MOST 1048576: true; the input reads as it did. -/
def fnWalshUptoRow : OpenClaim := { program := "ytfendecmgcmbjaa", sum := "4c42345ba70246d488c796c97fdb4458378bc4e684b2edf202bc8c16433b968e", func := "loop.example/spreadspectrum/laws.FnWalsh", spec := "fnWalsh", apart := false, narrowed := true }
def FnWalshUptoSaid : Prop := fnWalshUptoRow.holds Try.pinned (OpenSpec.upto fnWalshSpec)

/-- 'laws.FnTreeCode', WHERE WHAT IT READS IS OF BULK AT MOST 1048576: true; the input reads as it did. -/
def fnTreeCodeUptoRow : OpenClaim := { program := "ytfendecmgcmbjaa", sum := "4c42345ba70246d488c796c97fdb4458378bc4e684b2edf202bc8c16433b968e", func := "loop.example/spreadspectrum/laws.FnTreeCode", spec := "fnTreeCode", apart := false, narrowed := true }
def FnTreeCodeUptoSaid : Prop := fnTreeCodeUptoRow.holds Try.pinned (OpenSpec.upto fnTreeCodeSpec)

/-- 'laws.FnFreePaths', WHERE WHAT IT READS IS OF BULK AT MOST 1048576: true; the input reads as it did. -/
def fnFreePathsUptoRow : OpenClaim := { program := "ytfendecmgcmbjaa", sum := "4c42345ba70246d488c796c97fdb4458378bc4e684b2edf202bc8c16433b968e", func := "loop.example/spreadspectrum/laws.FnFreePaths", spec := "fnFreePaths", recurses := true, apart := false, narrowed := true }
def FnFreePathsUptoSaid : Prop := fnFreePathsUptoRow.holds Try.pinned (OpenSpec.upto fnFreePathsSpec)

/-- 'laws.FnAllocate', WHERE WHAT IT READS IS OF BULK AT MOST 1048576: true; the input reads as it did. -/
def fnAllocateUptoRow : OpenClaim := { program := "ytfendecmgcmbjaa", sum := "4c42345ba70246d488c796c97fdb4458378bc4e684b2edf202bc8c16433b968e", func := "loop.example/spreadspectrum/laws.FnAllocate", spec := "fnAllocate", recurses := true, apart := false, narrowed := true }
def FnAllocateUptoSaid : Prop := fnAllocateUptoRow.holds Try.pinned (OpenSpec.upto fnAllocateSpec)

/-- 'laws.FnFirstBarker', WHERE WHAT IT READS IS OF BULK AT MOST 1048576: true; the input reads as it did. -/
def fnFirstBarkerUptoRow : OpenClaim := { program := "ytfendecmgcmbjaa", sum := "4c42345ba70246d488c796c97fdb4458378bc4e684b2edf202bc8c16433b968e", func := "loop.example/spreadspectrum/laws.FnFirstBarker", spec := "fnFirstBarker", recurses := true, apart := false, narrowed := true }
def FnFirstBarkerUptoSaid : Prop := fnFirstBarkerUptoRow.holds Try.pinned (OpenSpec.upto fnFirstBarkerSpec)

/-- 'laws.FnBarker', WHERE WHAT IT READS IS OF BULK AT MOST 1048576: true; the input reads as it did. -/
def fnBarkerUptoRow : OpenClaim := { program := "ytfendecmgcmbjaa", sum := "4c42345ba70246d488c796c97fdb4458378bc4e684b2edf202bc8c16433b968e", func := "loop.example/spreadspectrum/laws.FnBarker", spec := "fnBarker", recurses := true, apart := false, narrowed := true }
def FnBarkerUptoSaid : Prop := fnBarkerUptoRow.holds Try.pinned (OpenSpec.upto fnBarkerSpec)

/-- 'laws.FnExactWorstCross', WHERE WHAT IT READS IS OF BULK AT MOST 1048576: true; the input reads as it did. -/
def fnExactWorstCrossUptoRow : OpenClaim := { program := "ytfendecmgcmbjaa", sum := "4c42345ba70246d488c796c97fdb4458378bc4e684b2edf202bc8c16433b968e", func := "loop.example/spreadspectrum/laws.FnExactWorstCross", spec := "fnExactWorstCross", apart := false, narrowed := true }
def FnExactWorstCrossUptoSaid : Prop := fnExactWorstCrossUptoRow.holds Try.pinned (OpenSpec.upto fnExactWorstCrossSpec)

/-- 'laws.FnWorst', WHERE WHAT IT READS IS OF BULK AT MOST 1048576: true; the input reads as it did. -/
def fnWorstUptoRow : OpenClaim := { program := "ytfendecmgcmbjaa", sum := "4c42345ba70246d488c796c97fdb4458378bc4e684b2edf202bc8c16433b968e", func := "loop.example/spreadspectrum/laws.FnWorst", spec := "fnWorst", recurses := true, apart := false, narrowed := true }
def FnWorstUptoSaid : Prop := fnWorstUptoRow.holds Try.pinned (OpenSpec.upto fnWorstSpec)

end Rows
end Go.Proofs.Ytfendecmgcmbjaa
