/-
  No cell of these rows narrows 'for every input' (looked for: loops, veiled, ifaces, maps, wideKeys, modest, calm, conditions, laid).
  DERIVED. THE GIVEN ROWS OF THIS SEAT. 12 by the template 'for every input the law returns true; each argument reads behind the call as it read before'; 0 by the template 'total and deterministic' (their statements: YthheafenlgdbiaaTotals.lean).
  GIVEN WITH THE SEED: the statements are not yours to turn. If you find one false, say at which input.
  Laid BY PROGRAM, IN A SANDBOX (cutbox-rows.mjs): the forced cells as the released guide's own fill.sh prints them over the translation c8abf26abf8f7856… (all of the seat's roots in one cut). By AI agents, Wed Nov 11 2026. No macro, syntax, notation, axiom, sorry.
-/
import Derived.Test.YthheafenlgdbiaaChecked
import GoSem.Claim
import GoSem.ClaimJoined
import GoSem.ClaimMapViews
import Derived.JoinedTies
import Derived.KernelRfl
namespace Go.Proofs.Ythheafenlgdbiaa
/- THE CELL 'sum', in the pinned program and in every row, IS THE sha256 OF THE DUMP (.gsa) THAT YthheafenlgdbiaaProg.lean LOADS. Nothing in Lean hashes anything: it is a label: what it is worth is what the hold of that sum in a sandbox is worth. -/
noncomputable def Try.pinned : Pinned := { name := "ythheafenlgdbiaa", sum := "c8abf26abf8f7856fb565d5171dca98c1ff28544cc73ff526b9a75e464f86b5a", checked := Try.checked }
namespace Rows
def none {H : Type} : Left H := { results := [], args := [] }

/-- 'laws.FnExactBarkerValid': WHATEVER THE INPUT: true; the input reads as it did. -/
def fnExactBarkerValidSpec : ChangeSpec := { name := "fnExactBarkerValid", fn := fun _ => fun
  | [d] => { results := [.lit (.bool true)], args := [d] }
  | _ => none }
def fnExactBarkerValidRow : OpenClaim := { program := "ythheafenlgdbiaa", sum := "c8abf26abf8f7856fb565d5171dca98c1ff28544cc73ff526b9a75e464f86b5a", func := "loop.example/spreadspectrum/laws.FnExactBarkerValid", spec := "fnExactBarkerValid", apart := false }
def FnExactBarkerValidSaid : Prop := fnExactBarkerValidRow.holds Try.pinned (OpenSpec.ofChange fnExactBarkerValidSpec)

/-- ITS FALSE NEIGHBOUR: 'it returns false'. Refute it at one input. -/
def fnExactBarkerValidWrong : ChangeSpec := { name := "fnExactBarkerValid", fn := fun _ => fun
  | [d] => { results := [.lit (.bool false)], args := [d] }
  | _ => none }
def FnExactBarkerValidWrongFalsely : Prop := fnExactBarkerValidRow.holds Try.pinned (OpenSpec.ofChange fnExactBarkerValidWrong)

/-- 'laws.FnExactTreeCode': WHATEVER THE INPUT: true; the input reads as it did. -/
def fnExactTreeCodeSpec : ChangeSpec := { name := "fnExactTreeCode", fn := fun _ => fun
  | [d] => { results := [.lit (.bool true)], args := [d] }
  | _ => none }
def fnExactTreeCodeRow : OpenClaim := { program := "ythheafenlgdbiaa", sum := "c8abf26abf8f7856fb565d5171dca98c1ff28544cc73ff526b9a75e464f86b5a", func := "loop.example/spreadspectrum/laws.FnExactTreeCode", spec := "fnExactTreeCode", apart := false }
def FnExactTreeCodeSaid : Prop := fnExactTreeCodeRow.holds Try.pinned (OpenSpec.ofChange fnExactTreeCodeSpec)

/-- ITS FALSE NEIGHBOUR: 'it returns false'. Refute it at one input. -/
def fnExactTreeCodeWrong : ChangeSpec := { name := "fnExactTreeCode", fn := fun _ => fun
  | [d] => { results := [.lit (.bool false)], args := [d] }
  | _ => none }
def FnExactTreeCodeWrongFalsely : Prop := fnExactTreeCodeRow.holds Try.pinned (OpenSpec.ofChange fnExactTreeCodeWrong)

/-- 'laws.FnExactWalshIndex': WHATEVER THE INPUT: true; the input reads as it did. -/
def fnExactWalshIndexSpec : ChangeSpec := { name := "fnExactWalshIndex", fn := fun _ => fun
  | [d] => { results := [.lit (.bool true)], args := [d] }
  | _ => none }
def fnExactWalshIndexRow : OpenClaim := { program := "ythheafenlgdbiaa", sum := "c8abf26abf8f7856fb565d5171dca98c1ff28544cc73ff526b9a75e464f86b5a", func := "loop.example/spreadspectrum/laws.FnExactWalshIndex", spec := "fnExactWalshIndex", apart := false }
def FnExactWalshIndexSaid : Prop := fnExactWalshIndexRow.holds Try.pinned (OpenSpec.ofChange fnExactWalshIndexSpec)

/-- ITS FALSE NEIGHBOUR: 'it returns false'. Refute it at one input. -/
def fnExactWalshIndexWrong : ChangeSpec := { name := "fnExactWalshIndex", fn := fun _ => fun
  | [d] => { results := [.lit (.bool false)], args := [d] }
  | _ => none }
def FnExactWalshIndexWrongFalsely : Prop := fnExactWalshIndexRow.holds Try.pinned (OpenSpec.ofChange fnExactWalshIndexWrong)

/-- 'laws.FnExactWalshTransform': WHATEVER THE INPUT: true; the input reads as it did. -/
def fnExactWalshTransformSpec : ChangeSpec := { name := "fnExactWalshTransform", fn := fun _ => fun
  | [d] => { results := [.lit (.bool true)], args := [d] }
  | _ => none }
def fnExactWalshTransformRow : OpenClaim := { program := "ythheafenlgdbiaa", sum := "c8abf26abf8f7856fb565d5171dca98c1ff28544cc73ff526b9a75e464f86b5a", func := "loop.example/spreadspectrum/laws.FnExactWalshTransform", spec := "fnExactWalshTransform", apart := false }
def FnExactWalshTransformSaid : Prop := fnExactWalshTransformRow.holds Try.pinned (OpenSpec.ofChange fnExactWalshTransformSpec)

/-- ITS FALSE NEIGHBOUR: 'it returns false'. Refute it at one input. -/
def fnExactWalshTransformWrong : ChangeSpec := { name := "fnExactWalshTransform", fn := fun _ => fun
  | [d] => { results := [.lit (.bool false)], args := [d] }
  | _ => none }
def FnExactWalshTransformWrongFalsely : Prop := fnExactWalshTransformRow.holds Try.pinned (OpenSpec.ofChange fnExactWalshTransformWrong)

/-- 'laws.FnExactFreePaths': WHATEVER THE INPUT: true; the input reads as it did. -/
def fnExactFreePathsSpec : ChangeSpec := { name := "fnExactFreePaths", fn := fun _ => fun
  | [d1, d2] => { results := [.lit (.bool true)], args := [d1, d2] }
  | _ => none }
def fnExactFreePathsRow : OpenClaim := { program := "ythheafenlgdbiaa", sum := "c8abf26abf8f7856fb565d5171dca98c1ff28544cc73ff526b9a75e464f86b5a", func := "loop.example/spreadspectrum/laws.FnExactFreePaths", spec := "fnExactFreePaths", recurses := true, apart := false }
def FnExactFreePathsSaid : Prop := fnExactFreePathsRow.holds Try.pinned (OpenSpec.ofChange fnExactFreePathsSpec)

/-- ITS FALSE NEIGHBOUR: 'it returns false'. Refute it at one input. -/
def fnExactFreePathsWrong : ChangeSpec := { name := "fnExactFreePaths", fn := fun _ => fun
  | [d1, d2] => { results := [.lit (.bool false)], args := [d1, d2] }
  | _ => none }
def FnExactFreePathsWrongFalsely : Prop := fnExactFreePathsRow.holds Try.pinned (OpenSpec.ofChange fnExactFreePathsWrong)

/-- 'laws.FnExactAllocateTree': WHATEVER THE INPUT: true; the input reads as it did. -/
def fnExactAllocateTreeSpec : ChangeSpec := { name := "fnExactAllocateTree", fn := fun _ => fun
  | [d1, d2] => { results := [.lit (.bool true)], args := [d1, d2] }
  | _ => none }
def fnExactAllocateTreeRow : OpenClaim := { program := "ythheafenlgdbiaa", sum := "c8abf26abf8f7856fb565d5171dca98c1ff28544cc73ff526b9a75e464f86b5a", func := "loop.example/spreadspectrum/laws.FnExactAllocateTree", spec := "fnExactAllocateTree", recurses := true, apart := false }
def FnExactAllocateTreeSaid : Prop := fnExactAllocateTreeRow.holds Try.pinned (OpenSpec.ofChange fnExactAllocateTreeSpec)

/-- ITS FALSE NEIGHBOUR: 'it returns false'. Refute it at one input. -/
def fnExactAllocateTreeWrong : ChangeSpec := { name := "fnExactAllocateTree", fn := fun _ => fun
  | [d1, d2] => { results := [.lit (.bool false)], args := [d1, d2] }
  | _ => none }
def FnExactAllocateTreeWrongFalsely : Prop := fnExactAllocateTreeRow.holds Try.pinned (OpenSpec.ofChange fnExactAllocateTreeWrong)

/-- 'laws.FnExactFirstBarker': WHATEVER THE INPUT: true; the input reads as it did. -/
def fnExactFirstBarkerSpec : ChangeSpec := { name := "fnExactFirstBarker", fn := fun _ => fun
  | [d] => { results := [.lit (.bool true)], args := [d] }
  | _ => none }
def fnExactFirstBarkerRow : OpenClaim := { program := "ythheafenlgdbiaa", sum := "c8abf26abf8f7856fb565d5171dca98c1ff28544cc73ff526b9a75e464f86b5a", func := "loop.example/spreadspectrum/laws.FnExactFirstBarker", spec := "fnExactFirstBarker", recurses := true, apart := false }
def FnExactFirstBarkerSaid : Prop := fnExactFirstBarkerRow.holds Try.pinned (OpenSpec.ofChange fnExactFirstBarkerSpec)

/-- ITS FALSE NEIGHBOUR: 'it returns false'. Refute it at one input. -/
def fnExactFirstBarkerWrong : ChangeSpec := { name := "fnExactFirstBarker", fn := fun _ => fun
  | [d] => { results := [.lit (.bool false)], args := [d] }
  | _ => none }
def FnExactFirstBarkerWrongFalsely : Prop := fnExactFirstBarkerRow.holds Try.pinned (OpenSpec.ofChange fnExactFirstBarkerWrong)

/-- 'laws.FnAddSignals': WHATEVER THE INPUT: true; the input reads as it did. -/
def fnAddSignalsSpec : ChangeSpec := { name := "fnAddSignals", fn := fun _ => fun
  | [d] => { results := [.lit (.bool true)], args := [d] }
  | _ => none }
def fnAddSignalsRow : OpenClaim := { program := "ythheafenlgdbiaa", sum := "c8abf26abf8f7856fb565d5171dca98c1ff28544cc73ff526b9a75e464f86b5a", func := "loop.example/spreadspectrum/laws.FnAddSignals", spec := "fnAddSignals", apart := false }
def FnAddSignalsSaid : Prop := fnAddSignalsRow.holds Try.pinned (OpenSpec.ofChange fnAddSignalsSpec)

/-- ITS FALSE NEIGHBOUR: 'it returns false'. Refute it at one input. -/
def fnAddSignalsWrong : ChangeSpec := { name := "fnAddSignals", fn := fun _ => fun
  | [d] => { results := [.lit (.bool false)], args := [d] }
  | _ => none }
def FnAddSignalsWrongFalsely : Prop := fnAddSignalsRow.holds Try.pinned (OpenSpec.ofChange fnAddSignalsWrong)

/-- 'laws.FnBitErrors': WHATEVER THE INPUT: true; the input reads as it did. -/
def fnBitErrorsSpec : ChangeSpec := { name := "fnBitErrors", fn := fun _ => fun
  | [d] => { results := [.lit (.bool true)], args := [d] }
  | _ => none }
def fnBitErrorsRow : OpenClaim := { program := "ythheafenlgdbiaa", sum := "c8abf26abf8f7856fb565d5171dca98c1ff28544cc73ff526b9a75e464f86b5a", func := "loop.example/spreadspectrum/laws.FnBitErrors", spec := "fnBitErrors", recurses := true, apart := false }
def FnBitErrorsSaid : Prop := fnBitErrorsRow.holds Try.pinned (OpenSpec.ofChange fnBitErrorsSpec)

/-- ITS FALSE NEIGHBOUR: 'it returns false'. Refute it at one input. -/
def fnBitErrorsWrong : ChangeSpec := { name := "fnBitErrors", fn := fun _ => fun
  | [d] => { results := [.lit (.bool false)], args := [d] }
  | _ => none }
def FnBitErrorsWrongFalsely : Prop := fnBitErrorsRow.holds Try.pinned (OpenSpec.ofChange fnBitErrorsWrong)

/-- 'laws.FnSigns': WHATEVER THE INPUT: true; the input reads as it did. -/
def fnSignsSpec : ChangeSpec := { name := "fnSigns", fn := fun _ => fun
  | [d1, d2] => { results := [.lit (.bool true)], args := [d1, d2] }
  | _ => none }
def fnSignsRow : OpenClaim := { program := "ythheafenlgdbiaa", sum := "c8abf26abf8f7856fb565d5171dca98c1ff28544cc73ff526b9a75e464f86b5a", func := "loop.example/spreadspectrum/laws.FnSigns", spec := "fnSigns", apart := false }
def FnSignsSaid : Prop := fnSignsRow.holds Try.pinned (OpenSpec.ofChange fnSignsSpec)

/-- ITS FALSE NEIGHBOUR: 'it returns false'. Refute it at one input. -/
def fnSignsWrong : ChangeSpec := { name := "fnSigns", fn := fun _ => fun
  | [d1, d2] => { results := [.lit (.bool false)], args := [d1, d2] }
  | _ => none }
def FnSignsWrongFalsely : Prop := fnSignsRow.holds Try.pinned (OpenSpec.ofChange fnSignsWrong)

/-- 'laws.FnChips': WHATEVER THE INPUT: true; the input reads as it did. -/
def fnChipsSpec : ChangeSpec := { name := "fnChips", fn := fun _ => fun
  | [d] => { results := [.lit (.bool true)], args := [d] }
  | _ => none }
def fnChipsRow : OpenClaim := { program := "ythheafenlgdbiaa", sum := "c8abf26abf8f7856fb565d5171dca98c1ff28544cc73ff526b9a75e464f86b5a", func := "loop.example/spreadspectrum/laws.FnChips", spec := "fnChips", apart := false }
def FnChipsSaid : Prop := fnChipsRow.holds Try.pinned (OpenSpec.ofChange fnChipsSpec)

/-- ITS FALSE NEIGHBOUR: 'it returns false'. Refute it at one input. -/
def fnChipsWrong : ChangeSpec := { name := "fnChips", fn := fun _ => fun
  | [d] => { results := [.lit (.bool false)], args := [d] }
  | _ => none }
def FnChipsWrongFalsely : Prop := fnChipsRow.holds Try.pinned (OpenSpec.ofChange fnChipsWrong)

/-- 'laws.FnTransform': WHATEVER THE INPUT: true; the input reads as it did. -/
def fnTransformSpec : ChangeSpec := { name := "fnTransform", fn := fun _ => fun
  | [d] => { results := [.lit (.bool true)], args := [d] }
  | _ => none }
def fnTransformRow : OpenClaim := { program := "ythheafenlgdbiaa", sum := "c8abf26abf8f7856fb565d5171dca98c1ff28544cc73ff526b9a75e464f86b5a", func := "loop.example/spreadspectrum/laws.FnTransform", spec := "fnTransform", apart := false }
def FnTransformSaid : Prop := fnTransformRow.holds Try.pinned (OpenSpec.ofChange fnTransformSpec)

/-- ITS FALSE NEIGHBOUR: 'it returns false'. Refute it at one input. -/
def fnTransformWrong : ChangeSpec := { name := "fnTransform", fn := fun _ => fun
  | [d] => { results := [.lit (.bool false)], args := [d] }
  | _ => none }
def FnTransformWrongFalsely : Prop := fnTransformRow.holds Try.pinned (OpenSpec.ofChange fnTransformWrong)

/- THE SECOND FORM. 'bulk': how many values and letters a reading holds, each counted each time it is reached (what is shared counts as often as it is met; a slice's spare places count too). A statement '..UptoSaid' is the law's where the arguments, and the package variables that the reading takes, are together of bulk at most 1048576: NARROWER than '..Said'. Prove '..Said' where nothing that the law and all that it calls make is longer than what came in: it says more and counts as full. Else prove '..UptoSaid'. A law counts once. -/
mutual
def uptoBulk {H : Type} : DataW H → Nat
  | .lit (.string bytes) => bytes.length + 1
  | .lit _ => 1
  | .nil => 1
  | .ptr d => uptoBulk d + 1
  | .slice elems spare => uptoBulkAll elems + uptoBulkAll spare + 1
  | .agg parts => uptoBulkAll parts + 1
  | .iface _ d => uptoBulk d + 1
  | .map entries => uptoBulkEntries entries + 1
  | .held _ => 1
def uptoBulkAll {H : Type} : List (DataW H) → Nat
  | [] => 0
  | d :: r => uptoBulk d + uptoBulkAll r
def uptoBulkEntries {H : Type} : List (Lit × DataW H) → Nat
  | [] => 0
  | x :: r => uptoBulkEntry x + uptoBulkEntries r
def uptoBulkEntry {H : Type} : Lit × DataW H → Nat
  | (.string bytes, d) => bytes.length + uptoBulk d + 1
  | (_, d) => uptoBulk d + 1
 end
def uptoSmall : (H : Type) → List (DataW H) → Bool := fun _ ds => decide (uptoBulkAll ds ≤ 1048576)
def OpenSpec.upto (s : _root_.Go.ChangeSpec) : _root_.Go.OpenSpec := { _root_.Go.OpenSpec.ofChange s with cond := some uptoSmall }

/-- 'laws.FnExactBarkerValid', WHERE WHAT IT READS IS OF BULK AT MOST 1048576: true; the input reads as it did. -/
def fnExactBarkerValidUptoRow : OpenClaim := { program := "ythheafenlgdbiaa", sum := "c8abf26abf8f7856fb565d5171dca98c1ff28544cc73ff526b9a75e464f86b5a", func := "loop.example/spreadspectrum/laws.FnExactBarkerValid", spec := "fnExactBarkerValid", apart := false, narrowed := true }
def FnExactBarkerValidUptoSaid : Prop := fnExactBarkerValidUptoRow.holds Try.pinned (OpenSpec.upto fnExactBarkerValidSpec)

/-- 'laws.FnExactTreeCode', WHERE WHAT IT READS IS OF BULK AT MOST 1048576: true; the input reads as it did. -/
def fnExactTreeCodeUptoRow : OpenClaim := { program := "ythheafenlgdbiaa", sum := "c8abf26abf8f7856fb565d5171dca98c1ff28544cc73ff526b9a75e464f86b5a", func := "loop.example/spreadspectrum/laws.FnExactTreeCode", spec := "fnExactTreeCode", apart := false, narrowed := true }
def FnExactTreeCodeUptoSaid : Prop := fnExactTreeCodeUptoRow.holds Try.pinned (OpenSpec.upto fnExactTreeCodeSpec)

/-- 'laws.FnExactWalshIndex', WHERE WHAT IT READS IS OF BULK AT MOST 1048576: true; the input reads as it did. -/
def fnExactWalshIndexUptoRow : OpenClaim := { program := "ythheafenlgdbiaa", sum := "c8abf26abf8f7856fb565d5171dca98c1ff28544cc73ff526b9a75e464f86b5a", func := "loop.example/spreadspectrum/laws.FnExactWalshIndex", spec := "fnExactWalshIndex", apart := false, narrowed := true }
def FnExactWalshIndexUptoSaid : Prop := fnExactWalshIndexUptoRow.holds Try.pinned (OpenSpec.upto fnExactWalshIndexSpec)

/-- 'laws.FnExactWalshTransform', WHERE WHAT IT READS IS OF BULK AT MOST 1048576: true; the input reads as it did. -/
def fnExactWalshTransformUptoRow : OpenClaim := { program := "ythheafenlgdbiaa", sum := "c8abf26abf8f7856fb565d5171dca98c1ff28544cc73ff526b9a75e464f86b5a", func := "loop.example/spreadspectrum/laws.FnExactWalshTransform", spec := "fnExactWalshTransform", apart := false, narrowed := true }
def FnExactWalshTransformUptoSaid : Prop := fnExactWalshTransformUptoRow.holds Try.pinned (OpenSpec.upto fnExactWalshTransformSpec)

/-- 'laws.FnExactFreePaths', WHERE WHAT IT READS IS OF BULK AT MOST 1048576: true; the input reads as it did. -/
def fnExactFreePathsUptoRow : OpenClaim := { program := "ythheafenlgdbiaa", sum := "c8abf26abf8f7856fb565d5171dca98c1ff28544cc73ff526b9a75e464f86b5a", func := "loop.example/spreadspectrum/laws.FnExactFreePaths", spec := "fnExactFreePaths", recurses := true, apart := false, narrowed := true }
def FnExactFreePathsUptoSaid : Prop := fnExactFreePathsUptoRow.holds Try.pinned (OpenSpec.upto fnExactFreePathsSpec)

/-- 'laws.FnExactAllocateTree', WHERE WHAT IT READS IS OF BULK AT MOST 1048576: true; the input reads as it did. -/
def fnExactAllocateTreeUptoRow : OpenClaim := { program := "ythheafenlgdbiaa", sum := "c8abf26abf8f7856fb565d5171dca98c1ff28544cc73ff526b9a75e464f86b5a", func := "loop.example/spreadspectrum/laws.FnExactAllocateTree", spec := "fnExactAllocateTree", recurses := true, apart := false, narrowed := true }
def FnExactAllocateTreeUptoSaid : Prop := fnExactAllocateTreeUptoRow.holds Try.pinned (OpenSpec.upto fnExactAllocateTreeSpec)

/-- 'laws.FnExactFirstBarker', WHERE WHAT IT READS IS OF BULK AT MOST 1048576: true; the input reads as it did. -/
def fnExactFirstBarkerUptoRow : OpenClaim := { program := "ythheafenlgdbiaa", sum := "c8abf26abf8f7856fb565d5171dca98c1ff28544cc73ff526b9a75e464f86b5a", func := "loop.example/spreadspectrum/laws.FnExactFirstBarker", spec := "fnExactFirstBarker", recurses := true, apart := false, narrowed := true }
def FnExactFirstBarkerUptoSaid : Prop := fnExactFirstBarkerUptoRow.holds Try.pinned (OpenSpec.upto fnExactFirstBarkerSpec)

/-- 'laws.FnAddSignals', WHERE WHAT IT READS IS OF BULK AT MOST 1048576: true; the input reads as it did. -/
def fnAddSignalsUptoRow : OpenClaim := { program := "ythheafenlgdbiaa", sum := "c8abf26abf8f7856fb565d5171dca98c1ff28544cc73ff526b9a75e464f86b5a", func := "loop.example/spreadspectrum/laws.FnAddSignals", spec := "fnAddSignals", apart := false, narrowed := true }
def FnAddSignalsUptoSaid : Prop := fnAddSignalsUptoRow.holds Try.pinned (OpenSpec.upto fnAddSignalsSpec)

/-- 'laws.FnBitErrors', WHERE WHAT IT READS IS OF BULK AT MOST 1048576: true; the input reads as it did. -/
def fnBitErrorsUptoRow : OpenClaim := { program := "ythheafenlgdbiaa", sum := "c8abf26abf8f7856fb565d5171dca98c1ff28544cc73ff526b9a75e464f86b5a", func := "loop.example/spreadspectrum/laws.FnBitErrors", spec := "fnBitErrors", recurses := true, apart := false, narrowed := true }
def FnBitErrorsUptoSaid : Prop := fnBitErrorsUptoRow.holds Try.pinned (OpenSpec.upto fnBitErrorsSpec)

/-- 'laws.FnSigns', WHERE WHAT IT READS IS OF BULK AT MOST 1048576: true; the input reads as it did. -/
def fnSignsUptoRow : OpenClaim := { program := "ythheafenlgdbiaa", sum := "c8abf26abf8f7856fb565d5171dca98c1ff28544cc73ff526b9a75e464f86b5a", func := "loop.example/spreadspectrum/laws.FnSigns", spec := "fnSigns", apart := false, narrowed := true }
def FnSignsUptoSaid : Prop := fnSignsUptoRow.holds Try.pinned (OpenSpec.upto fnSignsSpec)

/-- 'laws.FnChips', WHERE WHAT IT READS IS OF BULK AT MOST 1048576: true; the input reads as it did. -/
def fnChipsUptoRow : OpenClaim := { program := "ythheafenlgdbiaa", sum := "c8abf26abf8f7856fb565d5171dca98c1ff28544cc73ff526b9a75e464f86b5a", func := "loop.example/spreadspectrum/laws.FnChips", spec := "fnChips", apart := false, narrowed := true }
def FnChipsUptoSaid : Prop := fnChipsUptoRow.holds Try.pinned (OpenSpec.upto fnChipsSpec)

/-- 'laws.FnTransform', WHERE WHAT IT READS IS OF BULK AT MOST 1048576: true; the input reads as it did. -/
def fnTransformUptoRow : OpenClaim := { program := "ythheafenlgdbiaa", sum := "c8abf26abf8f7856fb565d5171dca98c1ff28544cc73ff526b9a75e464f86b5a", func := "loop.example/spreadspectrum/laws.FnTransform", spec := "fnTransform", apart := false, narrowed := true }
def FnTransformUptoSaid : Prop := fnTransformUptoRow.holds Try.pinned (OpenSpec.upto fnTransformSpec)

end Rows
end Go.Proofs.Ythheafenlgdbiaa
