/-
  No cell of these rows narrows 'for every input' (looked for: loops, veiled, ifaces, maps, wideKeys, modest, calm, conditions, laid).
  DERIVED. THE GIVEN ROWS OF THIS SEAT. 5 by the template 'for every input the law returns true; each argument reads behind the call as it read before'; 0 by the template 'total and deterministic' (their statements: YtkebiigpfbconaaTotals.lean).
  GIVEN WITH THE SEED: the statements are not yours to turn. If you find one false, say at which input.
  Laid BY PROGRAM, IN A SANDBOX (cutbox-rows.mjs): the forced cells as the released guide's own fill.sh prints them over the translation 94dc9fde8ac49a31… (all of the seat's roots in one cut). By AI agents, Wed Nov 11 2026. No macro, syntax, notation, axiom, sorry.
-/
import Derived.Test.YtkebiigpfbconaaChecked
import GoSem.Claim
import GoSem.ClaimJoined
import GoSem.ClaimMapViews
import Derived.JoinedTies
import Derived.KernelRfl
namespace Go.Proofs.Ytkebiigpfbconaa
/- THE CELL 'sum', in the pinned program and in every row, IS THE sha256 OF THE DUMP (.gsa) THAT YtkebiigpfbconaaProg.lean LOADS. Nothing in Lean hashes anything: it is a label: what it is worth is what the hold of that sum in a sandbox is worth. -/
noncomputable def Try.pinned : Pinned := { name := "ytkebiigpfbconaa", sum := "94dc9fde8ac49a318c00bf6507b0530abfa211d7857f25c2baa4a62b9971b7b5", checked := Try.checked }
namespace Rows
def none {H : Type} : Left H := { results := [], args := [] }

/-- 'laws.FnBarker': WHATEVER THE INPUT: true; the input reads as it did. -/
def fnBarkerSpec : ChangeSpec := { name := "fnBarker", fn := fun _ => fun
  | [d] => { results := [.lit (.bool true)], args := [d] }
  | _ => none }
def fnBarkerRow : OpenClaim := { program := "ytkebiigpfbconaa", sum := "94dc9fde8ac49a318c00bf6507b0530abfa211d7857f25c2baa4a62b9971b7b5", func := "loop.example/spreadspectrum/laws.FnBarker", spec := "fnBarker", recurses := true, apart := false }
def FnBarkerSaid : Prop := fnBarkerRow.holds Try.pinned (OpenSpec.ofChange fnBarkerSpec)

/-- ITS FALSE NEIGHBOUR: 'it returns false'. Refute it at one input. -/
def fnBarkerWrong : ChangeSpec := { name := "fnBarker", fn := fun _ => fun
  | [d] => { results := [.lit (.bool false)], args := [d] }
  | _ => none }
def FnBarkerWrongFalsely : Prop := fnBarkerRow.holds Try.pinned (OpenSpec.ofChange fnBarkerWrong)

/-- 'laws.FnWorst': WHATEVER THE INPUT: true; the input reads as it did. -/
def fnWorstSpec : ChangeSpec := { name := "fnWorst", fn := fun _ => fun
  | [d1, d2] => { results := [.lit (.bool true)], args := [d1, d2] }
  | _ => none }
def fnWorstRow : OpenClaim := { program := "ytkebiigpfbconaa", sum := "94dc9fde8ac49a318c00bf6507b0530abfa211d7857f25c2baa4a62b9971b7b5", func := "loop.example/spreadspectrum/laws.FnWorst", spec := "fnWorst", recurses := true, apart := false }
def FnWorstSaid : Prop := fnWorstRow.holds Try.pinned (OpenSpec.ofChange fnWorstSpec)

/-- ITS FALSE NEIGHBOUR: 'it returns false'. Refute it at one input. -/
def fnWorstWrong : ChangeSpec := { name := "fnWorst", fn := fun _ => fun
  | [d1, d2] => { results := [.lit (.bool false)], args := [d1, d2] }
  | _ => none }
def FnWorstWrongFalsely : Prop := fnWorstRow.holds Try.pinned (OpenSpec.ofChange fnWorstWrong)

/-- 'laws.FnRuns': WHATEVER THE INPUT: true; the input reads as it did. -/
def fnRunsSpec : ChangeSpec := { name := "fnRuns", fn := fun _ => fun
  | [d] => { results := [.lit (.bool true)], args := [d] }
  | _ => none }
def fnRunsRow : OpenClaim := { program := "ytkebiigpfbconaa", sum := "94dc9fde8ac49a318c00bf6507b0530abfa211d7857f25c2baa4a62b9971b7b5", func := "loop.example/spreadspectrum/laws.FnRuns", spec := "fnRuns", recurses := true, apart := false }
def FnRunsSaid : Prop := fnRunsRow.holds Try.pinned (OpenSpec.ofChange fnRunsSpec)

/-- ITS FALSE NEIGHBOUR: 'it returns false'. Refute it at one input. -/
def fnRunsWrong : ChangeSpec := { name := "fnRuns", fn := fun _ => fun
  | [d] => { results := [.lit (.bool false)], args := [d] }
  | _ => none }
def FnRunsWrongFalsely : Prop := fnRunsRow.holds Try.pinned (OpenSpec.ofChange fnRunsWrong)

/-- 'laws.FnGoldBound': WHATEVER THE INPUT: true; the input reads as it did. -/
def fnGoldBoundSpec : ChangeSpec := { name := "fnGoldBound", fn := fun _ => fun
  | [d1, d2] => { results := [.lit (.bool true)], args := [d1, d2] }
  | _ => none }
def fnGoldBoundRow : OpenClaim := { program := "ytkebiigpfbconaa", sum := "94dc9fde8ac49a318c00bf6507b0530abfa211d7857f25c2baa4a62b9971b7b5", func := "loop.example/spreadspectrum/laws.FnGoldBound", spec := "fnGoldBound", recurses := true, apart := false }
def FnGoldBoundSaid : Prop := fnGoldBoundRow.holds Try.pinned (OpenSpec.ofChange fnGoldBoundSpec)

/-- ITS FALSE NEIGHBOUR: 'it returns false'. Refute it at one input. -/
def fnGoldBoundWrong : ChangeSpec := { name := "fnGoldBound", fn := fun _ => fun
  | [d1, d2] => { results := [.lit (.bool false)], args := [d1, d2] }
  | _ => none }
def FnGoldBoundWrongFalsely : Prop := fnGoldBoundRow.holds Try.pinned (OpenSpec.ofChange fnGoldBoundWrong)

/-- 'laws.FnMaximalFamily': WHATEVER THE INPUT: true; the input reads as it did. -/
def fnMaximalFamilySpec : ChangeSpec := { name := "fnMaximalFamily", fn := fun _ => fun
  | [d1, d2] => { results := [.lit (.bool true)], args := [d1, d2] }
  | _ => none }
def fnMaximalFamilyRow : OpenClaim := { program := "ytkebiigpfbconaa", sum := "94dc9fde8ac49a318c00bf6507b0530abfa211d7857f25c2baa4a62b9971b7b5", func := "loop.example/spreadspectrum/laws.FnMaximalFamily", spec := "fnMaximalFamily", apart := false }
def FnMaximalFamilySaid : Prop := fnMaximalFamilyRow.holds Try.pinned (OpenSpec.ofChange fnMaximalFamilySpec)

/-- ITS FALSE NEIGHBOUR: 'it returns false'. Refute it at one input. -/
def fnMaximalFamilyWrong : ChangeSpec := { name := "fnMaximalFamily", fn := fun _ => fun
  | [d1, d2] => { results := [.lit (.bool false)], args := [d1, d2] }
  | _ => none }
def FnMaximalFamilyWrongFalsely : Prop := fnMaximalFamilyRow.holds Try.pinned (OpenSpec.ofChange fnMaximalFamilyWrong)

/- THE SECOND FORM. 'bulk': how many values and letters a reading holds, each counted each time it is reached (what is shared counts as often as it is met; a slice's spare places count too). A statement '..UptoSaid' is the law's where the arguments, and the package variables that the reading takes, are together of bulk at most 1048576: NARROWER than '..Said'. Prove '..Said' where nothing that the law and all that it calls make is longer than what came in: it says more and counts as full. Else prove '..UptoSaid'. A law counts once. -/
mutual
def uptoBulk {H : Type} : DataW H → Nat
  | .lit (.string bytes) => bytes.length + 1
  | .lit _ => 1
  | .nil => 1
  | .ptr d => uptoBulk d + 1
  | .slice elems spare => uptoBulkAll elems + uptoBulkAll spare + 1
  | .agg parts => uptoBulkAll parts + 1
  | .iface _ d => uptoBulk d + 1
  | .map entries => uptoBulkEntries entries + 1
  | .held _ => 1
def uptoBulkAll {H : Type} : List (DataW H) → Nat
  | [] => 0
  | d :: r => uptoBulk d + uptoBulkAll r
def uptoBulkEntries {H : Type} : List (Lit × DataW H) → Nat
  | [] => 0
  | x :: r => uptoBulkEntry x + uptoBulkEntries r
def uptoBulkEntry {H : Type} : Lit × DataW H → Nat
  | (.string bytes, d) => bytes.length + uptoBulk d + 1
  | (_, d) => uptoBulk d + 1
 end
def uptoSmall : (H : Type) → List (DataW H) → Bool := fun _ ds => decide (uptoBulkAll ds ≤ 1048576)
def OpenSpec.upto (s : _root_.Go.ChangeSpec) : _root_.Go.OpenSpec := { _root_.Go.OpenSpec.ofChange s with cond := some uptoSmall }

/-- 'laws.FnBarker', WHERE WHAT IT READS IS OF BULK AT MOST 1048576: true; the input reads as it did. -/
def fnBarkerUptoRow : OpenClaim := { program := "ytkebiigpfbconaa", sum := "94dc9fde8ac49a318c00bf6507b0530abfa211d7857f25c2baa4a62b9971b7b5", func := "loop.example/spreadspectrum/laws.FnBarker", spec := "fnBarker", recurses := true, apart := false, narrowed := true }
def FnBarkerUptoSaid : Prop := fnBarkerUptoRow.holds Try.pinned (OpenSpec.upto fnBarkerSpec)

/-- 'laws.FnWorst', WHERE WHAT IT READS IS OF BULK AT MOST 1048576: true; the input reads as it did. -/
def fnWorstUptoRow : OpenClaim := { program := "ytkebiigpfbconaa", sum := "94dc9fde8ac49a318c00bf6507b0530abfa211d7857f25c2baa4a62b9971b7b5", func := "loop.example/spreadspectrum/laws.FnWorst", spec := "fnWorst", recurses := true, apart := false, narrowed := true }
def FnWorstUptoSaid : Prop := fnWorstUptoRow.holds Try.pinned (OpenSpec.upto fnWorstSpec)

/-- 'laws.FnRuns', WHERE WHAT IT READS IS OF BULK AT MOST 1048576: true; the input reads as it did. -/
def fnRunsUptoRow : OpenClaim := { program := "ytkebiigpfbconaa", sum := "94dc9fde8ac49a318c00bf6507b0530abfa211d7857f25c2baa4a62b9971b7b5", func := "loop.example/spreadspectrum/laws.FnRuns", spec := "fnRuns", recurses := true, apart := false, narrowed := true }
def FnRunsUptoSaid : Prop := fnRunsUptoRow.holds Try.pinned (OpenSpec.upto fnRunsSpec)

/-- 'laws.FnGoldBound', WHERE WHAT IT READS IS OF BULK AT MOST 1048576: true; the input reads as it did. -/
def fnGoldBoundUptoRow : OpenClaim := { program := "ytkebiigpfbconaa", sum := "94dc9fde8ac49a318c00bf6507b0530abfa211d7857f25c2baa4a62b9971b7b5", func := "loop.example/spreadspectrum/laws.FnGoldBound", spec := "fnGoldBound", recurses := true, apart := false, narrowed := true }
def FnGoldBoundUptoSaid : Prop := fnGoldBoundUptoRow.holds Try.pinned (OpenSpec.upto fnGoldBoundSpec)

/-- 'laws.FnMaximalFamily', WHERE WHAT IT READS IS OF BULK AT MOST 1048576: true; the input reads as it did. -/
def fnMaximalFamilyUptoRow : OpenClaim := { program := "ytkebiigpfbconaa", sum := "94dc9fde8ac49a318c00bf6507b0530abfa211d7857f25c2baa4a62b9971b7b5", func := "loop.example/spreadspectrum/laws.FnMaximalFamily", spec := "fnMaximalFamily", apart := false, narrowed := true }
def FnMaximalFamilyUptoSaid : Prop := fnMaximalFamilyUptoRow.holds Try.pinned (OpenSpec.upto fnMaximalFamilySpec)

end Rows
end Go.Proofs.Ytkebiigpfbconaa
