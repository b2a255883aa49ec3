/-
  No cell of these rows narrows 'for every input' (looked for: loops, veiled, ifaces, maps, wideKeys, modest, calm, conditions, laid).
  DERIVED. THE GIVEN ROWS OF THIS SEAT. 11 by the template 'for every input the law returns true; each argument reads behind the call as it read before'; 0 by the template 'total and deterministic' (their statements: YtlddefmakjnfdaaTotals.lean).
  GIVEN WITH THE SEED: the statements are not yours to turn. If you find one false, say at which input.
  Laid BY PROGRAM, IN A SANDBOX (cutbox-rows.mjs): the forced cells as the released guide's own fill.sh prints them over the translation 085fd6b6e7d516b3… (all of the seat's roots in one cut). By AI agents, Wed Nov 11 2026. No macro, syntax, notation, axiom, sorry.
-/
import Derived.Test.YtlddefmakjnfdaaChecked
import GoSem.Claim
import GoSem.ClaimJoined
import GoSem.ClaimMapViews
import Derived.JoinedTies
import Derived.KernelRfl
namespace Go.Proofs.Ytlddefmakjnfdaa
/- THE CELL 'sum', in the pinned program and in every row, IS THE sha256 OF THE DUMP (.gsa) THAT YtlddefmakjnfdaaProg.lean LOADS. Nothing in Lean hashes anything: it is a label: what it is worth is what the hold of that sum in a sandbox is worth. -/
noncomputable def Try.pinned : Pinned := { name := "ytlddefmakjnfdaa", sum := "085fd6b6e7d516b37ff338fcfd9026350af3d1d458ed75c3d2d33d4c207be85f", checked := Try.checked }
namespace Rows
def none {H : Type} : Left H := { results := [], args := [] }

/-- 'laws.FnExactSpreadBits': WHATEVER THE INPUT: true; the input reads as it did. -/
def fnExactSpreadBitsSpec : ChangeSpec := { name := "fnExactSpreadBits", fn := fun _ => fun
  | [d1, d2] => { results := [.lit (.bool true)], args := [d1, d2] }
  | _ => none }
def fnExactSpreadBitsRow : OpenClaim := { program := "ytlddefmakjnfdaa", sum := "085fd6b6e7d516b37ff338fcfd9026350af3d1d458ed75c3d2d33d4c207be85f", func := "loop.example/spreadspectrum/laws.FnExactSpreadBits", spec := "fnExactSpreadBits", apart := false }
def FnExactSpreadBitsSaid : Prop := fnExactSpreadBitsRow.holds Try.pinned (OpenSpec.ofChange fnExactSpreadBitsSpec)

/-- ITS FALSE NEIGHBOUR: 'it returns false'. Refute it at one input. -/
def fnExactSpreadBitsWrong : ChangeSpec := { name := "fnExactSpreadBits", fn := fun _ => fun
  | [d1, d2] => { results := [.lit (.bool false)], args := [d1, d2] }
  | _ => none }
def FnExactSpreadBitsWrongFalsely : Prop := fnExactSpreadBitsRow.holds Try.pinned (OpenSpec.ofChange fnExactSpreadBitsWrong)

/-- 'laws.FnExactDespreadSignal': WHATEVER THE INPUT: true; the input reads as it did. -/
def fnExactDespreadSignalSpec : ChangeSpec := { name := "fnExactDespreadSignal", fn := fun _ => fun
  | [d1, d2, d3] => { results := [.lit (.bool true)], args := [d1, d2, d3] }
  | _ => none }
def fnExactDespreadSignalRow : OpenClaim := { program := "ytlddefmakjnfdaa", sum := "085fd6b6e7d516b37ff338fcfd9026350af3d1d458ed75c3d2d33d4c207be85f", func := "loop.example/spreadspectrum/laws.FnExactDespreadSignal", spec := "fnExactDespreadSignal", apart := false }
def FnExactDespreadSignalSaid : Prop := fnExactDespreadSignalRow.holds Try.pinned (OpenSpec.ofChange fnExactDespreadSignalSpec)

/-- ITS FALSE NEIGHBOUR: 'it returns false'. Refute it at one input. -/
def fnExactDespreadSignalWrong : ChangeSpec := { name := "fnExactDespreadSignal", fn := fun _ => fun
  | [d1, d2, d3] => { results := [.lit (.bool false)], args := [d1, d2, d3] }
  | _ => none }
def FnExactDespreadSignalWrongFalsely : Prop := fnExactDespreadSignalRow.holds Try.pinned (OpenSpec.ofChange fnExactDespreadSignalWrong)

/-- 'laws.FnExactMarginOf': WHATEVER THE INPUT: true; the input reads as it did. -/
def fnExactMarginOfSpec : ChangeSpec := { name := "fnExactMarginOf", fn := fun _ => fun
  | [d1, d2, d3, d4] => { results := [.lit (.bool true)], args := [d1, d2, d3, d4] }
  | _ => none }
def fnExactMarginOfRow : OpenClaim := { program := "ytlddefmakjnfdaa", sum := "085fd6b6e7d516b37ff338fcfd9026350af3d1d458ed75c3d2d33d4c207be85f", func := "loop.example/spreadspectrum/laws.FnExactMarginOf", spec := "fnExactMarginOf", apart := false }
def FnExactMarginOfSaid : Prop := fnExactMarginOfRow.holds Try.pinned (OpenSpec.ofChange fnExactMarginOfSpec)

/-- ITS FALSE NEIGHBOUR: 'it returns false'. Refute it at one input. -/
def fnExactMarginOfWrong : ChangeSpec := { name := "fnExactMarginOf", fn := fun _ => fun
  | [d1, d2, d3, d4] => { results := [.lit (.bool false)], args := [d1, d2, d3, d4] }
  | _ => none }
def FnExactMarginOfWrongFalsely : Prop := fnExactMarginOfRow.holds Try.pinned (OpenSpec.ofChange fnExactMarginOfWrong)

/-- 'laws.FnExactReceiveUser': WHATEVER THE INPUT: true; the input reads as it did. -/
def fnExactReceiveUserSpec : ChangeSpec := { name := "fnExactReceiveUser", fn := fun _ => fun
  | [d1, d2, d3, d4] => { results := [.lit (.bool true)], args := [d1, d2, d3, d4] }
  | _ => none }
def fnExactReceiveUserRow : OpenClaim := { program := "ytlddefmakjnfdaa", sum := "085fd6b6e7d516b37ff338fcfd9026350af3d1d458ed75c3d2d33d4c207be85f", func := "loop.example/spreadspectrum/laws.FnExactReceiveUser", spec := "fnExactReceiveUser", apart := false }
def FnExactReceiveUserSaid : Prop := fnExactReceiveUserRow.holds Try.pinned (OpenSpec.ofChange fnExactReceiveUserSpec)

/-- ITS FALSE NEIGHBOUR: 'it returns false'. Refute it at one input. -/
def fnExactReceiveUserWrong : ChangeSpec := { name := "fnExactReceiveUser", fn := fun _ => fun
  | [d1, d2, d3, d4] => { results := [.lit (.bool false)], args := [d1, d2, d3, d4] }
  | _ => none }
def FnExactReceiveUserWrongFalsely : Prop := fnExactReceiveUserRow.holds Try.pinned (OpenSpec.ofChange fnExactReceiveUserWrong)

/-- 'laws.FnExactRakeReceive': WHATEVER THE INPUT: true; the input reads as it did. -/
def fnExactRakeReceiveSpec : ChangeSpec := { name := "fnExactRakeReceive", fn := fun _ => fun
  | [d1, d2, d3, d4] => { results := [.lit (.bool true)], args := [d1, d2, d3, d4] }
  | _ => none }
def fnExactRakeReceiveRow : OpenClaim := { program := "ytlddefmakjnfdaa", sum := "085fd6b6e7d516b37ff338fcfd9026350af3d1d458ed75c3d2d33d4c207be85f", func := "loop.example/spreadspectrum/laws.FnExactRakeReceive", spec := "fnExactRakeReceive", apart := false }
def FnExactRakeReceiveSaid : Prop := fnExactRakeReceiveRow.holds Try.pinned (OpenSpec.ofChange fnExactRakeReceiveSpec)

/-- ITS FALSE NEIGHBOUR: 'it returns false'. Refute it at one input. -/
def fnExactRakeReceiveWrong : ChangeSpec := { name := "fnExactRakeReceive", fn := fun _ => fun
  | [d1, d2, d3, d4] => { results := [.lit (.bool false)], args := [d1, d2, d3, d4] }
  | _ => none }
def FnExactRakeReceiveWrongFalsely : Prop := fnExactRakeReceiveRow.holds Try.pinned (OpenSpec.ofChange fnExactRakeReceiveWrong)

/-- 'laws.FnExactInterferenceBound': WHATEVER THE INPUT: true; the input reads as it did. -/
def fnExactInterferenceBoundSpec : ChangeSpec := { name := "fnExactInterferenceBound", fn := fun _ => fun
  | [d1, d2] => { results := [.lit (.bool true)], args := [d1, d2] }
  | _ => none }
def fnExactInterferenceBoundRow : OpenClaim := { program := "ytlddefmakjnfdaa", sum := "085fd6b6e7d516b37ff338fcfd9026350af3d1d458ed75c3d2d33d4c207be85f", func := "loop.example/spreadspectrum/laws.FnExactInterferenceBound", spec := "fnExactInterferenceBound", apart := false }
def FnExactInterferenceBoundSaid : Prop := fnExactInterferenceBoundRow.holds Try.pinned (OpenSpec.ofChange fnExactInterferenceBoundSpec)

/-- ITS FALSE NEIGHBOUR: 'it returns false'. Refute it at one input. -/
def fnExactInterferenceBoundWrong : ChangeSpec := { name := "fnExactInterferenceBound", fn := fun _ => fun
  | [d1, d2] => { results := [.lit (.bool false)], args := [d1, d2] }
  | _ => none }
def FnExactInterferenceBoundWrongFalsely : Prop := fnExactInterferenceBoundRow.holds Try.pinned (OpenSpec.ofChange fnExactInterferenceBoundWrong)

/-- 'laws.FnExactSendAll': WHATEVER THE INPUT: true; the input reads as it did. -/
def fnExactSendAllSpec : ChangeSpec := { name := "fnExactSendAll", fn := fun _ => fun
  | [d] => { results := [.lit (.bool true)], args := [d] }
  | _ => none }
def fnExactSendAllRow : OpenClaim := { program := "ytlddefmakjnfdaa", sum := "085fd6b6e7d516b37ff338fcfd9026350af3d1d458ed75c3d2d33d4c207be85f", func := "loop.example/spreadspectrum/laws.FnExactSendAll", spec := "fnExactSendAll", apart := false }
def FnExactSendAllSaid : Prop := fnExactSendAllRow.holds Try.pinned (OpenSpec.ofChange fnExactSendAllSpec)

/-- ITS FALSE NEIGHBOUR: 'it returns false'. Refute it at one input. -/
def fnExactSendAllWrong : ChangeSpec := { name := "fnExactSendAll", fn := fun _ => fun
  | [d] => { results := [.lit (.bool false)], args := [d] }
  | _ => none }
def FnExactSendAllWrongFalsely : Prop := fnExactSendAllRow.holds Try.pinned (OpenSpec.ofChange fnExactSendAllWrong)

/-- 'laws.FnSpread': WHATEVER THE INPUT: true; the input reads as it did. -/
def fnSpreadSpec : ChangeSpec := { name := "fnSpread", fn := fun _ => fun
  | [d] => { results := [.lit (.bool true)], args := [d] }
  | _ => none }
def fnSpreadRow : OpenClaim := { program := "ytlddefmakjnfdaa", sum := "085fd6b6e7d516b37ff338fcfd9026350af3d1d458ed75c3d2d33d4c207be85f", func := "loop.example/spreadspectrum/laws.FnSpread", spec := "fnSpread", apart := false }
def FnSpreadSaid : Prop := fnSpreadRow.holds Try.pinned (OpenSpec.ofChange fnSpreadSpec)

/-- ITS FALSE NEIGHBOUR: 'it returns false'. Refute it at one input. -/
def fnSpreadWrong : ChangeSpec := { name := "fnSpread", fn := fun _ => fun
  | [d] => { results := [.lit (.bool false)], args := [d] }
  | _ => none }
def FnSpreadWrongFalsely : Prop := fnSpreadRow.holds Try.pinned (OpenSpec.ofChange fnSpreadWrong)

/-- 'laws.FnSendAll': WHATEVER THE INPUT: true; the input reads as it did. -/
def fnSendAllSpec : ChangeSpec := { name := "fnSendAll", fn := fun _ => fun
  | [d] => { results := [.lit (.bool true)], args := [d] }
  | _ => none }
def fnSendAllRow : OpenClaim := { program := "ytlddefmakjnfdaa", sum := "085fd6b6e7d516b37ff338fcfd9026350af3d1d458ed75c3d2d33d4c207be85f", func := "loop.example/spreadspectrum/laws.FnSendAll", spec := "fnSendAll", apart := false }
def FnSendAllSaid : Prop := fnSendAllRow.holds Try.pinned (OpenSpec.ofChange fnSendAllSpec)

/-- ITS FALSE NEIGHBOUR: 'it returns false'. Refute it at one input. -/
def fnSendAllWrong : ChangeSpec := { name := "fnSendAll", fn := fun _ => fun
  | [d] => { results := [.lit (.bool false)], args := [d] }
  | _ => none }
def FnSendAllWrongFalsely : Prop := fnSendAllRow.holds Try.pinned (OpenSpec.ofChange fnSendAllWrong)

/-- 'laws.FnBoundHolds': WHATEVER THE INPUT: true; the input reads as it did. -/
def fnBoundHoldsSpec : ChangeSpec := { name := "fnBoundHolds", fn := fun _ => fun
  | [d] => { results := [.lit (.bool true)], args := [d] }
  | _ => none }
def fnBoundHoldsRow : OpenClaim := { program := "ytlddefmakjnfdaa", sum := "085fd6b6e7d516b37ff338fcfd9026350af3d1d458ed75c3d2d33d4c207be85f", func := "loop.example/spreadspectrum/laws.FnBoundHolds", spec := "fnBoundHolds", apart := false }
def FnBoundHoldsSaid : Prop := fnBoundHoldsRow.holds Try.pinned (OpenSpec.ofChange fnBoundHoldsSpec)

/-- ITS FALSE NEIGHBOUR: 'it returns false'. Refute it at one input. -/
def fnBoundHoldsWrong : ChangeSpec := { name := "fnBoundHolds", fn := fun _ => fun
  | [d] => { results := [.lit (.bool false)], args := [d] }
  | _ => none }
def FnBoundHoldsWrongFalsely : Prop := fnBoundHoldsRow.holds Try.pinned (OpenSpec.ofChange fnBoundHoldsWrong)

/-- 'laws.FnReceive': WHATEVER THE INPUT: true; the input reads as it did. -/
def fnReceiveSpec : ChangeSpec := { name := "fnReceive", fn := fun _ => fun
  | [d] => { results := [.lit (.bool true)], args := [d] }
  | _ => none }
def fnReceiveRow : OpenClaim := { program := "ytlddefmakjnfdaa", sum := "085fd6b6e7d516b37ff338fcfd9026350af3d1d458ed75c3d2d33d4c207be85f", func := "loop.example/spreadspectrum/laws.FnReceive", spec := "fnReceive", apart := false }
def FnReceiveSaid : Prop := fnReceiveRow.holds Try.pinned (OpenSpec.ofChange fnReceiveSpec)

/-- ITS FALSE NEIGHBOUR: 'it returns false'. Refute it at one input. -/
def fnReceiveWrong : ChangeSpec := { name := "fnReceive", fn := fun _ => fun
  | [d] => { results := [.lit (.bool false)], args := [d] }
  | _ => none }
def FnReceiveWrongFalsely : Prop := fnReceiveRow.holds Try.pinned (OpenSpec.ofChange fnReceiveWrong)

/- THE SECOND FORM. 'bulk': how many values and letters a reading holds, each counted each time it is reached (what is shared counts as often as it is met; a slice's spare places count too). A statement '..UptoSaid' is the law's where the arguments, and the package variables that the reading takes, are together of bulk at most 1048576: NARROWER than '..Said'. Prove '..Said' where nothing that the law and all that it calls make is longer than what came in: it says more and counts as full. Else prove '..UptoSaid'. A law counts once. -/
mutual
def uptoBulk {H : Type} : DataW H → Nat
  | .lit (.string bytes) => bytes.length + 1
  | .lit _ => 1
  | .nil => 1
  | .ptr d => uptoBulk d + 1
  | .slice elems spare => uptoBulkAll elems + uptoBulkAll spare + 1
  | .agg parts => uptoBulkAll parts + 1
  | .iface _ d => uptoBulk d + 1
  | .map entries => uptoBulkEntries entries + 1
  | .held _ => 1
def uptoBulkAll {H : Type} : List (DataW H) → Nat
  | [] => 0
  | d :: r => uptoBulk d + uptoBulkAll r
def uptoBulkEntries {H : Type} : List (Lit × DataW H) → Nat
  | [] => 0
  | x :: r => uptoBulkEntry x + uptoBulkEntries r
def uptoBulkEntry {H : Type} : Lit × DataW H → Nat
  | (.string bytes, d) => bytes.length + uptoBulk d + 1
  | (_, d) => uptoBulk d + 1
 end
def uptoSmall : (H : Type) → List (DataW H) → Bool := fun _ ds => decide (uptoBulkAll ds ≤ 1048576)
def OpenSpec.upto (s : _root_.Go.ChangeSpec) : _root_.Go.OpenSpec := { _root_.Go.OpenSpec.ofChange s with cond := some uptoSmall }

/-- 'laws.FnExactSpreadBits', WHERE WHAT IT READS IS OF BULK AT MOST 1048576: true; the input reads as it did. -/
def fnExactSpreadBitsUptoRow : OpenClaim := { program := "ytlddefmakjnfdaa", sum := "085fd6b6e7d516b37ff338fcfd9026350af3d1d458ed75c3d2d33d4c207be85f", func := "loop.example/spreadspectrum/laws.FnExactSpreadBits", spec := "fnExactSpreadBits", apart := false, narrowed := true }
def FnExactSpreadBitsUptoSaid : Prop := fnExactSpreadBitsUptoRow.holds Try.pinned (OpenSpec.upto fnExactSpreadBitsSpec)

/-- 'laws.FnExactDespreadSignal', WHERE WHAT IT READS IS OF BULK AT MOST 1048576: true; the input reads as it did. -/
def fnExactDespreadSignalUptoRow : OpenClaim := { program := "ytlddefmakjnfdaa", sum := "085fd6b6e7d516b37ff338fcfd9026350af3d1d458ed75c3d2d33d4c207be85f", func := "loop.example/spreadspectrum/laws.FnExactDespreadSignal", spec := "fnExactDespreadSignal", apart := false, narrowed := true }
def FnExactDespreadSignalUptoSaid : Prop := fnExactDespreadSignalUptoRow.holds Try.pinned (OpenSpec.upto fnExactDespreadSignalSpec)

/-- 'laws.FnExactMarginOf', WHERE WHAT IT READS IS OF BULK AT MOST 1048576: true; the input reads as it did. -/
def fnExactMarginOfUptoRow : OpenClaim := { program := "ytlddefmakjnfdaa", sum := "085fd6b6e7d516b37ff338fcfd9026350af3d1d458ed75c3d2d33d4c207be85f", func := "loop.example/spreadspectrum/laws.FnExactMarginOf", spec := "fnExactMarginOf", apart := false, narrowed := true }
def FnExactMarginOfUptoSaid : Prop := fnExactMarginOfUptoRow.holds Try.pinned (OpenSpec.upto fnExactMarginOfSpec)

/-- 'laws.FnExactReceiveUser', WHERE WHAT IT READS IS OF BULK AT MOST 1048576: true; the input reads as it did. -/
def fnExactReceiveUserUptoRow : OpenClaim := { program := "ytlddefmakjnfdaa", sum := "085fd6b6e7d516b37ff338fcfd9026350af3d1d458ed75c3d2d33d4c207be85f", func := "loop.example/spreadspectrum/laws.FnExactReceiveUser", spec := "fnExactReceiveUser", apart := false, narrowed := true }
def FnExactReceiveUserUptoSaid : Prop := fnExactReceiveUserUptoRow.holds Try.pinned (OpenSpec.upto fnExactReceiveUserSpec)

/-- 'laws.FnExactRakeReceive', WHERE WHAT IT READS IS OF BULK AT MOST 1048576: true; the input reads as it did. -/
def fnExactRakeReceiveUptoRow : OpenClaim := { program := "ytlddefmakjnfdaa", sum := "085fd6b6e7d516b37ff338fcfd9026350af3d1d458ed75c3d2d33d4c207be85f", func := "loop.example/spreadspectrum/laws.FnExactRakeReceive", spec := "fnExactRakeReceive", apart := false, narrowed := true }
def FnExactRakeReceiveUptoSaid : Prop := fnExactRakeReceiveUptoRow.holds Try.pinned (OpenSpec.upto fnExactRakeReceiveSpec)

/-- 'laws.FnExactInterferenceBound', WHERE WHAT IT READS IS OF BULK AT MOST 1048576: true; the input reads as it did. -/
def fnExactInterferenceBoundUptoRow : OpenClaim := { program := "ytlddefmakjnfdaa", sum := "085fd6b6e7d516b37ff338fcfd9026350af3d1d458ed75c3d2d33d4c207be85f", func := "loop.example/spreadspectrum/laws.FnExactInterferenceBound", spec := "fnExactInterferenceBound", apart := false, narrowed := true }
def FnExactInterferenceBoundUptoSaid : Prop := fnExactInterferenceBoundUptoRow.holds Try.pinned (OpenSpec.upto fnExactInterferenceBoundSpec)

/-- 'laws.FnExactSendAll', WHERE WHAT IT READS IS OF BULK AT MOST 1048576: true; the input reads as it did. -/
def fnExactSendAllUptoRow : OpenClaim := { program := "ytlddefmakjnfdaa", sum := "085fd6b6e7d516b37ff338fcfd9026350af3d1d458ed75c3d2d33d4c207be85f", func := "loop.example/spreadspectrum/laws.FnExactSendAll", spec := "fnExactSendAll", apart := false, narrowed := true }
def FnExactSendAllUptoSaid : Prop := fnExactSendAllUptoRow.holds Try.pinned (OpenSpec.upto fnExactSendAllSpec)

/-- 'laws.FnSpread', WHERE WHAT IT READS IS OF BULK AT MOST 1048576: true; the input reads as it did. -/
def fnSpreadUptoRow : OpenClaim := { program := "ytlddefmakjnfdaa", sum := "085fd6b6e7d516b37ff338fcfd9026350af3d1d458ed75c3d2d33d4c207be85f", func := "loop.example/spreadspectrum/laws.FnSpread", spec := "fnSpread", apart := false, narrowed := true }
def FnSpreadUptoSaid : Prop := fnSpreadUptoRow.holds Try.pinned (OpenSpec.upto fnSpreadSpec)

/-- 'laws.FnSendAll', WHERE WHAT IT READS IS OF BULK AT MOST 1048576: true; the input reads as it did. -/
def fnSendAllUptoRow : OpenClaim := { program := "ytlddefmakjnfdaa", sum := "085fd6b6e7d516b37ff338fcfd9026350af3d1d458ed75c3d2d33d4c207be85f", func := "loop.example/spreadspectrum/laws.FnSendAll", spec := "fnSendAll", apart := false, narrowed := true }
def FnSendAllUptoSaid : Prop := fnSendAllUptoRow.holds Try.pinned (OpenSpec.upto fnSendAllSpec)

/-- 'laws.FnBoundHolds', WHERE WHAT IT READS IS OF BULK AT MOST 1048576: true; the input reads as it did. -/
def fnBoundHoldsUptoRow : OpenClaim := { program := "ytlddefmakjnfdaa", sum := "085fd6b6e7d516b37ff338fcfd9026350af3d1d458ed75c3d2d33d4c207be85f", func := "loop.example/spreadspectrum/laws.FnBoundHolds", spec := "fnBoundHolds", apart := false, narrowed := true }
def FnBoundHoldsUptoSaid : Prop := fnBoundHoldsUptoRow.holds Try.pinned (OpenSpec.upto fnBoundHoldsSpec)

/-- 'laws.FnReceive', WHERE WHAT IT READS IS OF BULK AT MOST 1048576: true; the input reads as it did. -/
def fnReceiveUptoRow : OpenClaim := { program := "ytlddefmakjnfdaa", sum := "085fd6b6e7d516b37ff338fcfd9026350af3d1d458ed75c3d2d33d4c207be85f", func := "loop.example/spreadspectrum/laws.FnReceive", spec := "fnReceive", apart := false, narrowed := true }
def FnReceiveUptoSaid : Prop := fnReceiveUptoRow.holds Try.pinned (OpenSpec.upto fnReceiveSpec)

end Rows
end Go.Proofs.Ytlddefmakjnfdaa
