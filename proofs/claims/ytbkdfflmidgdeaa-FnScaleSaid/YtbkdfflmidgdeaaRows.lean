/-
  No cell of these rows narrows 'for every input' (looked for: loops, veiled, ifaces, maps, wideKeys, modest, calm, conditions, laid).
  DERIVED. THE GIVEN ROWS OF THIS SEAT. 12 by the template 'for every input the law returns true; each argument reads behind the call as it read before'; 0 by the template 'total and deterministic' (their statements: YtbkdfflmidgdeaaTotals.lean).
  GIVEN WITH THE SEED: the statements are not yours to turn. If you find one false, say at which input.
  Laid BY PROGRAM, IN A SANDBOX (cutbox-rows.mjs): the forced cells as the released guide's own fill.sh prints them over the translation 065669e7a5bd256b… (all of the seat's roots in one cut). By AI agents, Wed Nov 11 2026. No macro, syntax, notation, axiom, sorry.
-/
import Derived.Test.YtbkdfflmidgdeaaChecked
import GoSem.Claim
import GoSem.ClaimJoined
import GoSem.ClaimMapViews
import Derived.JoinedTies
import Derived.KernelRfl
namespace Go.Proofs.Ytbkdfflmidgdeaa
/- THE CELL 'sum', in the pinned program and in every row, IS THE sha256 OF THE DUMP (.gsa) THAT YtbkdfflmidgdeaaProg.lean LOADS. Nothing in Lean hashes anything: it is a label: what it is worth is what the hold of that sum in a sandbox is worth. -/
noncomputable def Try.pinned : Pinned := { name := "ytbkdfflmidgdeaa", sum := "065669e7a5bd256b160aa601a273e497835c3790e5061b798f1f80b4352564a7", checked := Try.checked }
namespace Rows
def none {H : Type} : Left H := { results := [], args := [] }

/-- 'laws.FnExactEnergyOf': WHATEVER THE INPUT: true; the input reads as it did. -/
def fnExactEnergyOfSpec : ChangeSpec := { name := "fnExactEnergyOf", fn := fun _ => fun
  | [d] => { results := [.lit (.bool true)], args := [d] }
  | _ => none }
def fnExactEnergyOfRow : OpenClaim := { program := "ytbkdfflmidgdeaa", sum := "065669e7a5bd256b160aa601a273e497835c3790e5061b798f1f80b4352564a7", func := "loop.example/spreadspectrum/laws.FnExactEnergyOf", spec := "fnExactEnergyOf", apart := false }
def FnExactEnergyOfSaid : Prop := fnExactEnergyOfRow.holds Try.pinned (OpenSpec.ofChange fnExactEnergyOfSpec)

/-- ITS FALSE NEIGHBOUR: 'it returns false'. Refute it at one input. -/
def fnExactEnergyOfWrong : ChangeSpec := { name := "fnExactEnergyOf", fn := fun _ => fun
  | [d] => { results := [.lit (.bool false)], args := [d] }
  | _ => none }
def FnExactEnergyOfWrongFalsely : Prop := fnExactEnergyOfRow.holds Try.pinned (OpenSpec.ofChange fnExactEnergyOfWrong)

/-- 'laws.FnExactCutSignal': WHATEVER THE INPUT: true; the input reads as it did. -/
def fnExactCutSignalSpec : ChangeSpec := { name := "fnExactCutSignal", fn := fun _ => fun
  | [d1, d2, d3] => { results := [.lit (.bool true)], args := [d1, d2, d3] }
  | _ => none }
def fnExactCutSignalRow : OpenClaim := { program := "ytbkdfflmidgdeaa", sum := "065669e7a5bd256b160aa601a273e497835c3790e5061b798f1f80b4352564a7", func := "loop.example/spreadspectrum/laws.FnExactCutSignal", spec := "fnExactCutSignal", apart := false }
def FnExactCutSignalSaid : Prop := fnExactCutSignalRow.holds Try.pinned (OpenSpec.ofChange fnExactCutSignalSpec)

/-- ITS FALSE NEIGHBOUR: 'it returns false'. Refute it at one input. -/
def fnExactCutSignalWrong : ChangeSpec := { name := "fnExactCutSignal", fn := fun _ => fun
  | [d1, d2, d3] => { results := [.lit (.bool false)], args := [d1, d2, d3] }
  | _ => none }
def FnExactCutSignalWrongFalsely : Prop := fnExactCutSignalRow.holds Try.pinned (OpenSpec.ofChange fnExactCutSignalWrong)

/-- 'laws.FnExactClipSignal': WHATEVER THE INPUT: true; the input reads as it did. -/
def fnExactClipSignalSpec : ChangeSpec := { name := "fnExactClipSignal", fn := fun _ => fun
  | [d1, d2] => { results := [.lit (.bool true)], args := [d1, d2] }
  | _ => none }
def fnExactClipSignalRow : OpenClaim := { program := "ytbkdfflmidgdeaa", sum := "065669e7a5bd256b160aa601a273e497835c3790e5061b798f1f80b4352564a7", func := "loop.example/spreadspectrum/laws.FnExactClipSignal", spec := "fnExactClipSignal", apart := false }
def FnExactClipSignalSaid : Prop := fnExactClipSignalRow.holds Try.pinned (OpenSpec.ofChange fnExactClipSignalSpec)

/-- ITS FALSE NEIGHBOUR: 'it returns false'. Refute it at one input. -/
def fnExactClipSignalWrong : ChangeSpec := { name := "fnExactClipSignal", fn := fun _ => fun
  | [d1, d2] => { results := [.lit (.bool false)], args := [d1, d2] }
  | _ => none }
def FnExactClipSignalWrongFalsely : Prop := fnExactClipSignalRow.holds Try.pinned (OpenSpec.ofChange fnExactClipSignalWrong)

/-- 'laws.FnExactSignsOf': WHATEVER THE INPUT: true; the input reads as it did. -/
def fnExactSignsOfSpec : ChangeSpec := { name := "fnExactSignsOf", fn := fun _ => fun
  | [d] => { results := [.lit (.bool true)], args := [d] }
  | _ => none }
def fnExactSignsOfRow : OpenClaim := { program := "ytbkdfflmidgdeaa", sum := "065669e7a5bd256b160aa601a273e497835c3790e5061b798f1f80b4352564a7", func := "loop.example/spreadspectrum/laws.FnExactSignsOf", spec := "fnExactSignsOf", apart := false }
def FnExactSignsOfSaid : Prop := fnExactSignsOfRow.holds Try.pinned (OpenSpec.ofChange fnExactSignsOfSpec)

/-- ITS FALSE NEIGHBOUR: 'it returns false'. Refute it at one input. -/
def fnExactSignsOfWrong : ChangeSpec := { name := "fnExactSignsOf", fn := fun _ => fun
  | [d] => { results := [.lit (.bool false)], args := [d] }
  | _ => none }
def FnExactSignsOfWrongFalsely : Prop := fnExactSignsOfRow.holds Try.pinned (OpenSpec.ofChange fnExactSignsOfWrong)

/-- 'laws.FnExactChipsOf': WHATEVER THE INPUT: true; the input reads as it did. -/
def fnExactChipsOfSpec : ChangeSpec := { name := "fnExactChipsOf", fn := fun _ => fun
  | [d] => { results := [.lit (.bool true)], args := [d] }
  | _ => none }
def fnExactChipsOfRow : OpenClaim := { program := "ytbkdfflmidgdeaa", sum := "065669e7a5bd256b160aa601a273e497835c3790e5061b798f1f80b4352564a7", func := "loop.example/spreadspectrum/laws.FnExactChipsOf", spec := "fnExactChipsOf", apart := false }
def FnExactChipsOfSaid : Prop := fnExactChipsOfRow.holds Try.pinned (OpenSpec.ofChange fnExactChipsOfSpec)

/-- ITS FALSE NEIGHBOUR: 'it returns false'. Refute it at one input. -/
def fnExactChipsOfWrong : ChangeSpec := { name := "fnExactChipsOf", fn := fun _ => fun
  | [d] => { results := [.lit (.bool false)], args := [d] }
  | _ => none }
def FnExactChipsOfWrongFalsely : Prop := fnExactChipsOfRow.holds Try.pinned (OpenSpec.ofChange fnExactChipsOfWrong)

/-- 'laws.FnExactDelaySignal': WHATEVER THE INPUT: true; the input reads as it did. -/
def fnExactDelaySignalSpec : ChangeSpec := { name := "fnExactDelaySignal", fn := fun _ => fun
  | [d1, d2] => { results := [.lit (.bool true)], args := [d1, d2] }
  | _ => none }
def fnExactDelaySignalRow : OpenClaim := { program := "ytbkdfflmidgdeaa", sum := "065669e7a5bd256b160aa601a273e497835c3790e5061b798f1f80b4352564a7", func := "loop.example/spreadspectrum/laws.FnExactDelaySignal", spec := "fnExactDelaySignal", apart := false }
def FnExactDelaySignalSaid : Prop := fnExactDelaySignalRow.holds Try.pinned (OpenSpec.ofChange fnExactDelaySignalSpec)

/-- ITS FALSE NEIGHBOUR: 'it returns false'. Refute it at one input. -/
def fnExactDelaySignalWrong : ChangeSpec := { name := "fnExactDelaySignal", fn := fun _ => fun
  | [d1, d2] => { results := [.lit (.bool false)], args := [d1, d2] }
  | _ => none }
def FnExactDelaySignalWrongFalsely : Prop := fnExactDelaySignalRow.holds Try.pinned (OpenSpec.ofChange fnExactDelaySignalWrong)

/-- 'laws.FnExactScaleSignal': WHATEVER THE INPUT: true; the input reads as it did. -/
def fnExactScaleSignalSpec : ChangeSpec := { name := "fnExactScaleSignal", fn := fun _ => fun
  | [d1, d2] => { results := [.lit (.bool true)], args := [d1, d2] }
  | _ => none }
def fnExactScaleSignalRow : OpenClaim := { program := "ytbkdfflmidgdeaa", sum := "065669e7a5bd256b160aa601a273e497835c3790e5061b798f1f80b4352564a7", func := "loop.example/spreadspectrum/laws.FnExactScaleSignal", spec := "fnExactScaleSignal", apart := false }
def FnExactScaleSignalSaid : Prop := fnExactScaleSignalRow.holds Try.pinned (OpenSpec.ofChange fnExactScaleSignalSpec)

/-- ITS FALSE NEIGHBOUR: 'it returns false'. Refute it at one input. -/
def fnExactScaleSignalWrong : ChangeSpec := { name := "fnExactScaleSignal", fn := fun _ => fun
  | [d1, d2] => { results := [.lit (.bool false)], args := [d1, d2] }
  | _ => none }
def FnExactScaleSignalWrongFalsely : Prop := fnExactScaleSignalRow.holds Try.pinned (OpenSpec.ofChange fnExactScaleSignalWrong)

/-- 'laws.FnExactAddSignals': WHATEVER THE INPUT: true; the input reads as it did. -/
def fnExactAddSignalsSpec : ChangeSpec := { name := "fnExactAddSignals", fn := fun _ => fun
  | [d1, d2] => { results := [.lit (.bool true)], args := [d1, d2] }
  | _ => none }
def fnExactAddSignalsRow : OpenClaim := { program := "ytbkdfflmidgdeaa", sum := "065669e7a5bd256b160aa601a273e497835c3790e5061b798f1f80b4352564a7", func := "loop.example/spreadspectrum/laws.FnExactAddSignals", spec := "fnExactAddSignals", apart := false }
def FnExactAddSignalsSaid : Prop := fnExactAddSignalsRow.holds Try.pinned (OpenSpec.ofChange fnExactAddSignalsSpec)

/-- ITS FALSE NEIGHBOUR: 'it returns false'. Refute it at one input. -/
def fnExactAddSignalsWrong : ChangeSpec := { name := "fnExactAddSignals", fn := fun _ => fun
  | [d1, d2] => { results := [.lit (.bool false)], args := [d1, d2] }
  | _ => none }
def FnExactAddSignalsWrongFalsely : Prop := fnExactAddSignalsRow.holds Try.pinned (OpenSpec.ofChange fnExactAddSignalsWrong)

/-- 'laws.FnClip': WHATEVER THE INPUT: true; the input reads as it did. -/
def fnClipSpec : ChangeSpec := { name := "fnClip", fn := fun _ => fun
  | [d] => { results := [.lit (.bool true)], args := [d] }
  | _ => none }
def fnClipRow : OpenClaim := { program := "ytbkdfflmidgdeaa", sum := "065669e7a5bd256b160aa601a273e497835c3790e5061b798f1f80b4352564a7", func := "loop.example/spreadspectrum/laws.FnClip", spec := "fnClip", apart := false }
def FnClipSaid : Prop := fnClipRow.holds Try.pinned (OpenSpec.ofChange fnClipSpec)

/-- ITS FALSE NEIGHBOUR: 'it returns false'. Refute it at one input. -/
def fnClipWrong : ChangeSpec := { name := "fnClip", fn := fun _ => fun
  | [d] => { results := [.lit (.bool false)], args := [d] }
  | _ => none }
def FnClipWrongFalsely : Prop := fnClipRow.holds Try.pinned (OpenSpec.ofChange fnClipWrong)

/-- 'laws.FnCut': WHATEVER THE INPUT: true; the input reads as it did. -/
def fnCutSpec : ChangeSpec := { name := "fnCut", fn := fun _ => fun
  | [d] => { results := [.lit (.bool true)], args := [d] }
  | _ => none }
def fnCutRow : OpenClaim := { program := "ytbkdfflmidgdeaa", sum := "065669e7a5bd256b160aa601a273e497835c3790e5061b798f1f80b4352564a7", func := "loop.example/spreadspectrum/laws.FnCut", spec := "fnCut", apart := false }
def FnCutSaid : Prop := fnCutRow.holds Try.pinned (OpenSpec.ofChange fnCutSpec)

/-- ITS FALSE NEIGHBOUR: 'it returns false'. Refute it at one input. -/
def fnCutWrong : ChangeSpec := { name := "fnCut", fn := fun _ => fun
  | [d] => { results := [.lit (.bool false)], args := [d] }
  | _ => none }
def FnCutWrongFalsely : Prop := fnCutRow.holds Try.pinned (OpenSpec.ofChange fnCutWrong)

/-- 'laws.FnDelay': WHATEVER THE INPUT: true; the input reads as it did. -/
def fnDelaySpec : ChangeSpec := { name := "fnDelay", fn := fun _ => fun
  | [d] => { results := [.lit (.bool true)], args := [d] }
  | _ => none }
def fnDelayRow : OpenClaim := { program := "ytbkdfflmidgdeaa", sum := "065669e7a5bd256b160aa601a273e497835c3790e5061b798f1f80b4352564a7", func := "loop.example/spreadspectrum/laws.FnDelay", spec := "fnDelay", apart := false }
def FnDelaySaid : Prop := fnDelayRow.holds Try.pinned (OpenSpec.ofChange fnDelaySpec)

/-- ITS FALSE NEIGHBOUR: 'it returns false'. Refute it at one input. -/
def fnDelayWrong : ChangeSpec := { name := "fnDelay", fn := fun _ => fun
  | [d] => { results := [.lit (.bool false)], args := [d] }
  | _ => none }
def FnDelayWrongFalsely : Prop := fnDelayRow.holds Try.pinned (OpenSpec.ofChange fnDelayWrong)

/-- 'laws.FnScale': WHATEVER THE INPUT: true; the input reads as it did. -/
def fnScaleSpec : ChangeSpec := { name := "fnScale", fn := fun _ => fun
  | [d1, d2] => { results := [.lit (.bool true)], args := [d1, d2] }
  | _ => none }
def fnScaleRow : OpenClaim := { program := "ytbkdfflmidgdeaa", sum := "065669e7a5bd256b160aa601a273e497835c3790e5061b798f1f80b4352564a7", func := "loop.example/spreadspectrum/laws.FnScale", spec := "fnScale", apart := false }
def FnScaleSaid : Prop := fnScaleRow.holds Try.pinned (OpenSpec.ofChange fnScaleSpec)

/-- ITS FALSE NEIGHBOUR: 'it returns false'. Refute it at one input. -/
def fnScaleWrong : ChangeSpec := { name := "fnScale", fn := fun _ => fun
  | [d1, d2] => { results := [.lit (.bool false)], args := [d1, d2] }
  | _ => none }
def FnScaleWrongFalsely : Prop := fnScaleRow.holds Try.pinned (OpenSpec.ofChange fnScaleWrong)

/- THE SECOND FORM. 'bulk': how many values and letters a reading holds, each counted each time it is reached (what is shared counts as often as it is met; a slice's spare places count too). A statement '..UptoSaid' is the law's where the arguments, and the package variables that the reading takes, are together of bulk at most 1048576: NARROWER than '..Said'. Prove '..Said' where nothing that the law and all that it calls make is longer than what came in: it says more and counts as full. Else prove '..UptoSaid'. A law counts once. -/
mutual
def uptoBulk {H : Type} : DataW H → Nat
  | .lit (.string bytes) => bytes.length + 1
  | .lit _ => 1
  | .nil => 1
  | .ptr d => uptoBulk d + 1
  | .slice elems spare => uptoBulkAll elems + uptoBulkAll spare + 1
  | .agg parts => uptoBulkAll parts + 1
  | .iface _ d => uptoBulk d + 1
  | .map entries => uptoBulkEntries entries + 1
  | .held _ => 1
def uptoBulkAll {H : Type} : List (DataW H) → Nat
  | [] => 0
  | d :: r => uptoBulk d + uptoBulkAll r
def uptoBulkEntries {H : Type} : List (Lit × DataW H) → Nat
  | [] => 0
  | x :: r => uptoBulkEntry x + uptoBulkEntries r
def uptoBulkEntry {H : Type} : Lit × DataW H → Nat
  | (.string bytes, d) => bytes.length + uptoBulk d + 1
  | (_, d) => uptoBulk d + 1
 end
def uptoSmall : (H : Type) → List (DataW H) → Bool := fun _ ds => decide (uptoBulkAll ds ≤ 1048576)
def OpenSpec.upto (s : _root_.Go.ChangeSpec) : _root_.Go.OpenSpec := { _root_.Go.OpenSpec.ofChange s with cond := some uptoSmall }

/-- 'laws.FnExactEnergyOf', WHERE WHAT IT READS IS OF BULK AT MOST 1048576: true; the input reads as it did. -/
def fnExactEnergyOfUptoRow : OpenClaim := { program := "ytbkdfflmidgdeaa", sum := "065669e7a5bd256b160aa601a273e497835c3790e5061b798f1f80b4352564a7", func := "loop.example/spreadspectrum/laws.FnExactEnergyOf", spec := "fnExactEnergyOf", apart := false, narrowed := true }
def FnExactEnergyOfUptoSaid : Prop := fnExactEnergyOfUptoRow.holds Try.pinned (OpenSpec.upto fnExactEnergyOfSpec)

/-- 'laws.FnExactCutSignal', WHERE WHAT IT READS IS OF BULK AT MOST 1048576: true; the input reads as it did. -/
def fnExactCutSignalUptoRow : OpenClaim := { program := "ytbkdfflmidgdeaa", sum := "065669e7a5bd256b160aa601a273e497835c3790e5061b798f1f80b4352564a7", func := "loop.example/spreadspectrum/laws.FnExactCutSignal", spec := "fnExactCutSignal", apart := false, narrowed := true }
def FnExactCutSignalUptoSaid : Prop := fnExactCutSignalUptoRow.holds Try.pinned (OpenSpec.upto fnExactCutSignalSpec)

/-- 'laws.FnExactClipSignal', WHERE WHAT IT READS IS OF BULK AT MOST 1048576: true; the input reads as it did. -/
def fnExactClipSignalUptoRow : OpenClaim := { program := "ytbkdfflmidgdeaa", sum := "065669e7a5bd256b160aa601a273e497835c3790e5061b798f1f80b4352564a7", func := "loop.example/spreadspectrum/laws.FnExactClipSignal", spec := "fnExactClipSignal", apart := false, narrowed := true }
def FnExactClipSignalUptoSaid : Prop := fnExactClipSignalUptoRow.holds Try.pinned (OpenSpec.upto fnExactClipSignalSpec)

/-- 'laws.FnExactSignsOf', WHERE WHAT IT READS IS OF BULK AT MOST 1048576: true; the input reads as it did. -/
def fnExactSignsOfUptoRow : OpenClaim := { program := "ytbkdfflmidgdeaa", sum := "065669e7a5bd256b160aa601a273e497835c3790e5061b798f1f80b4352564a7", func := "loop.example/spreadspectrum/laws.FnExactSignsOf", spec := "fnExactSignsOf", apart := false, narrowed := true }
def FnExactSignsOfUptoSaid : Prop := fnExactSignsOfUptoRow.holds Try.pinned (OpenSpec.upto fnExactSignsOfSpec)

/-- 'laws.FnExactChipsOf', WHERE WHAT IT READS IS OF BULK AT MOST 1048576: true; the input reads as it did. -/
def fnExactChipsOfUptoRow : OpenClaim := { program := "ytbkdfflmidgdeaa", sum := "065669e7a5bd256b160aa601a273e497835c3790e5061b798f1f80b4352564a7", func := "loop.example/spreadspectrum/laws.FnExactChipsOf", spec := "fnExactChipsOf", apart := false, narrowed := true }
def FnExactChipsOfUptoSaid : Prop := fnExactChipsOfUptoRow.holds Try.pinned (OpenSpec.upto fnExactChipsOfSpec)

/-- 'laws.FnExactDelaySignal', WHERE WHAT IT READS IS OF BULK AT MOST 1048576: true; the input reads as it did. -/
def fnExactDelaySignalUptoRow : OpenClaim := { program := "ytbkdfflmidgdeaa", sum := "065669e7a5bd256b160aa601a273e497835c3790e5061b798f1f80b4352564a7", func := "loop.example/spreadspectrum/laws.FnExactDelaySignal", spec := "fnExactDelaySignal", apart := false, narrowed := true }
def FnExactDelaySignalUptoSaid : Prop := fnExactDelaySignalUptoRow.holds Try.pinned (OpenSpec.upto fnExactDelaySignalSpec)

/-- 'laws.FnExactScaleSignal', WHERE WHAT IT READS IS OF BULK AT MOST 1048576: true; the input reads as it did. -/
def fnExactScaleSignalUptoRow : OpenClaim := { program := "ytbkdfflmidgdeaa", sum := "065669e7a5bd256b160aa601a273e497835c3790e5061b798f1f80b4352564a7", func := "loop.example/spreadspectrum/laws.FnExactScaleSignal", spec := "fnExactScaleSignal", apart := false, narrowed := true }
def FnExactScaleSignalUptoSaid : Prop := fnExactScaleSignalUptoRow.holds Try.pinned (OpenSpec.upto fnExactScaleSignalSpec)

/-- 'laws.FnExactAddSignals', WHERE WHAT IT READS IS OF BULK AT MOST 1048576: true; the input reads as it did. -/
def fnExactAddSignalsUptoRow : OpenClaim := { program := "ytbkdfflmidgdeaa", sum := "065669e7a5bd256b160aa601a273e497835c3790e5061b798f1f80b4352564a7", func := "loop.example/spreadspectrum/laws.FnExactAddSignals", spec := "fnExactAddSignals", apart := false, narrowed := true }
def FnExactAddSignalsUptoSaid : Prop := fnExactAddSignalsUptoRow.holds Try.pinned (OpenSpec.upto fnExactAddSignalsSpec)

/-- 'laws.FnClip', WHERE WHAT IT READS IS OF BULK AT MOST 1048576: true; the input reads as it did. -/
def fnClipUptoRow : OpenClaim := { program := "ytbkdfflmidgdeaa", sum := "065669e7a5bd256b160aa601a273e497835c3790e5061b798f1f80b4352564a7", func := "loop.example/spreadspectrum/laws.FnClip", spec := "fnClip", apart := false, narrowed := true }
def FnClipUptoSaid : Prop := fnClipUptoRow.holds Try.pinned (OpenSpec.upto fnClipSpec)

/-- 'laws.FnCut', WHERE WHAT IT READS IS OF BULK AT MOST 1048576: true; the input reads as it did. -/
def fnCutUptoRow : OpenClaim := { program := "ytbkdfflmidgdeaa", sum := "065669e7a5bd256b160aa601a273e497835c3790e5061b798f1f80b4352564a7", func := "loop.example/spreadspectrum/laws.FnCut", spec := "fnCut", apart := false, narrowed := true }
def FnCutUptoSaid : Prop := fnCutUptoRow.holds Try.pinned (OpenSpec.upto fnCutSpec)

/-- 'laws.FnDelay', WHERE WHAT IT READS IS OF BULK AT MOST 1048576: true; the input reads as it did. -/
def fnDelayUptoRow : OpenClaim := { program := "ytbkdfflmidgdeaa", sum := "065669e7a5bd256b160aa601a273e497835c3790e5061b798f1f80b4352564a7", func := "loop.example/spreadspectrum/laws.FnDelay", spec := "fnDelay", apart := false, narrowed := true }
def FnDelayUptoSaid : Prop := fnDelayUptoRow.holds Try.pinned (OpenSpec.upto fnDelaySpec)

/-- 'laws.FnScale', WHERE WHAT IT READS IS OF BULK AT MOST 1048576: true; the input reads as it did. -/
def fnScaleUptoRow : OpenClaim := { program := "ytbkdfflmidgdeaa", sum := "065669e7a5bd256b160aa601a273e497835c3790e5061b798f1f80b4352564a7", func := "loop.example/spreadspectrum/laws.FnScale", spec := "fnScale", apart := false, narrowed := true }
def FnScaleUptoSaid : Prop := fnScaleUptoRow.holds Try.pinned (OpenSpec.upto fnScaleSpec)

end Rows
end Go.Proofs.Ytbkdfflmidgdeaa
