/-
  No cell of these rows narrows 'for every input' (looked for: loops, veiled, ifaces, maps, wideKeys, modest, calm, conditions, laid).
  DERIVED. THE GIVEN ROWS OF THIS SEAT. 6 by the template 'for every input the law returns true; each argument reads behind the call as it read before'; 0 by the template 'total and deterministic' (their statements: YtibogcgfhmejlaaTotals.lean).
  GIVEN WITH THE SEED: the statements are not yours to turn. If you find one false, say at which input.
  Laid BY PROGRAM, IN A SANDBOX (cutbox-rows.mjs): the forced cells as the released guide's own fill.sh prints them over the translation 49aef17010befdee… (all of the seat's roots in one cut). By AI agents, Wed Nov 11 2026. No macro, syntax, notation, axiom, sorry.
-/
import Derived.Test.YtibogcgfhmejlaaChecked
import GoSem.Claim
import GoSem.ClaimJoined
import GoSem.ClaimMapViews
import Derived.JoinedTies
import Derived.KernelRfl
namespace Go.Proofs.Ytibogcgfhmejlaa
/- THE CELL 'sum', in the pinned program and in every row, IS THE sha256 OF THE DUMP (.gsa) THAT YtibogcgfhmejlaaProg.lean LOADS. Nothing in Lean hashes anything: it is a label: what it is worth is what the hold of that sum in a sandbox is worth. -/
noncomputable def Try.pinned : Pinned := { name := "ytibogcgfhmejlaa", sum := "49aef17010befdee380d9d4c2b624645180d07bf083dd0a29fbff73d4955f7fb", checked := Try.checked }
namespace Rows
def none {H : Type} : Left H := { results := [], args := [] }

/-- 'laws.FnExactGoldBound': WHATEVER THE INPUT: true; the input reads as it did. -/
def fnExactGoldBoundSpec : ChangeSpec := { name := "fnExactGoldBound", fn := fun _ => fun
  | [d] => { results := [.lit (.bool true)], args := [d] }
  | _ => none }
def fnExactGoldBoundRow : OpenClaim := { program := "ytibogcgfhmejlaa", sum := "49aef17010befdee380d9d4c2b624645180d07bf083dd0a29fbff73d4955f7fb", func := "loop.example/spreadspectrum/laws.FnExactGoldBound", spec := "fnExactGoldBound", apart := false }
def FnExactGoldBoundSaid : Prop := fnExactGoldBoundRow.holds Try.pinned (OpenSpec.ofChange fnExactGoldBoundSpec)

/-- ITS FALSE NEIGHBOUR: 'it returns false'. Refute it at one input. -/
def fnExactGoldBoundWrong : ChangeSpec := { name := "fnExactGoldBound", fn := fun _ => fun
  | [d] => { results := [.lit (.bool false)], args := [d] }
  | _ => none }
def FnExactGoldBoundWrongFalsely : Prop := fnExactGoldBoundRow.holds Try.pinned (OpenSpec.ofChange fnExactGoldBoundWrong)

/-- 'laws.FnExactTreeConflict': WHATEVER THE INPUT: true; the input reads as it did. -/
def fnExactTreeConflictSpec : ChangeSpec := { name := "fnExactTreeConflict", fn := fun _ => fun
  | [d1, d2] => { results := [.lit (.bool true)], args := [d1, d2] }
  | _ => none }
def fnExactTreeConflictRow : OpenClaim := { program := "ytibogcgfhmejlaa", sum := "49aef17010befdee380d9d4c2b624645180d07bf083dd0a29fbff73d4955f7fb", func := "loop.example/spreadspectrum/laws.FnExactTreeConflict", spec := "fnExactTreeConflict", apart := false }
def FnExactTreeConflictSaid : Prop := fnExactTreeConflictRow.holds Try.pinned (OpenSpec.ofChange fnExactTreeConflictSpec)

/-- ITS FALSE NEIGHBOUR: 'it returns false'. Refute it at one input. -/
def fnExactTreeConflictWrong : ChangeSpec := { name := "fnExactTreeConflict", fn := fun _ => fun
  | [d1, d2] => { results := [.lit (.bool false)], args := [d1, d2] }
  | _ => none }
def FnExactTreeConflictWrongFalsely : Prop := fnExactTreeConflictRow.holds Try.pinned (OpenSpec.ofChange fnExactTreeConflictWrong)

/-- 'laws.FnExactSignalValid': WHATEVER THE INPUT: true; the input reads as it did. -/
def fnExactSignalValidSpec : ChangeSpec := { name := "fnExactSignalValid", fn := fun _ => fun
  | [d] => { results := [.lit (.bool true)], args := [d] }
  | _ => none }
def fnExactSignalValidRow : OpenClaim := { program := "ytibogcgfhmejlaa", sum := "49aef17010befdee380d9d4c2b624645180d07bf083dd0a29fbff73d4955f7fb", func := "loop.example/spreadspectrum/laws.FnExactSignalValid", spec := "fnExactSignalValid", apart := false }
def FnExactSignalValidSaid : Prop := fnExactSignalValidRow.holds Try.pinned (OpenSpec.ofChange fnExactSignalValidSpec)

/-- ITS FALSE NEIGHBOUR: 'it returns false'. Refute it at one input. -/
def fnExactSignalValidWrong : ChangeSpec := { name := "fnExactSignalValid", fn := fun _ => fun
  | [d] => { results := [.lit (.bool false)], args := [d] }
  | _ => none }
def FnExactSignalValidWrongFalsely : Prop := fnExactSignalValidRow.holds Try.pinned (OpenSpec.ofChange fnExactSignalValidWrong)

/-- 'laws.FnExactBitErrors': WHATEVER THE INPUT: true; the input reads as it did. -/
def fnExactBitErrorsSpec : ChangeSpec := { name := "fnExactBitErrors", fn := fun _ => fun
  | [d1, d2] => { results := [.lit (.bool true)], args := [d1, d2] }
  | _ => none }
def fnExactBitErrorsRow : OpenClaim := { program := "ytibogcgfhmejlaa", sum := "49aef17010befdee380d9d4c2b624645180d07bf083dd0a29fbff73d4955f7fb", func := "loop.example/spreadspectrum/laws.FnExactBitErrors", spec := "fnExactBitErrors", apart := false }
def FnExactBitErrorsSaid : Prop := fnExactBitErrorsRow.holds Try.pinned (OpenSpec.ofChange fnExactBitErrorsSpec)

/-- ITS FALSE NEIGHBOUR: 'it returns false'. Refute it at one input. -/
def fnExactBitErrorsWrong : ChangeSpec := { name := "fnExactBitErrors", fn := fun _ => fun
  | [d1, d2] => { results := [.lit (.bool false)], args := [d1, d2] }
  | _ => none }
def FnExactBitErrorsWrongFalsely : Prop := fnExactBitErrorsRow.holds Try.pinned (OpenSpec.ofChange fnExactBitErrorsWrong)

/-- 'laws.FnExactWalshCode': WHATEVER THE INPUT: true; the input reads as it did. -/
def fnExactWalshCodeSpec : ChangeSpec := { name := "fnExactWalshCode", fn := fun _ => fun
  | [d1, d2] => { results := [.lit (.bool true)], args := [d1, d2] }
  | _ => none }
def fnExactWalshCodeRow : OpenClaim := { program := "ytibogcgfhmejlaa", sum := "49aef17010befdee380d9d4c2b624645180d07bf083dd0a29fbff73d4955f7fb", func := "loop.example/spreadspectrum/laws.FnExactWalshCode", spec := "fnExactWalshCode", apart := false }
def FnExactWalshCodeSaid : Prop := fnExactWalshCodeRow.holds Try.pinned (OpenSpec.ofChange fnExactWalshCodeSpec)

/-- ITS FALSE NEIGHBOUR: 'it returns false'. Refute it at one input. -/
def fnExactWalshCodeWrong : ChangeSpec := { name := "fnExactWalshCode", fn := fun _ => fun
  | [d1, d2] => { results := [.lit (.bool false)], args := [d1, d2] }
  | _ => none }
def FnExactWalshCodeWrongFalsely : Prop := fnExactWalshCodeRow.holds Try.pinned (OpenSpec.ofChange fnExactWalshCodeWrong)

/-- 'laws.FnExactUserValid': WHATEVER THE INPUT: true; the input reads as it did. -/
def fnExactUserValidSpec : ChangeSpec := { name := "fnExactUserValid", fn := fun _ => fun
  | [d] => { results := [.lit (.bool true)], args := [d] }
  | _ => none }
def fnExactUserValidRow : OpenClaim := { program := "ytibogcgfhmejlaa", sum := "49aef17010befdee380d9d4c2b624645180d07bf083dd0a29fbff73d4955f7fb", func := "loop.example/spreadspectrum/laws.FnExactUserValid", spec := "fnExactUserValid", apart := false }
def FnExactUserValidSaid : Prop := fnExactUserValidRow.holds Try.pinned (OpenSpec.ofChange fnExactUserValidSpec)

/-- ITS FALSE NEIGHBOUR: 'it returns false'. Refute it at one input. -/
def fnExactUserValidWrong : ChangeSpec := { name := "fnExactUserValid", fn := fun _ => fun
  | [d] => { results := [.lit (.bool false)], args := [d] }
  | _ => none }
def FnExactUserValidWrongFalsely : Prop := fnExactUserValidRow.holds Try.pinned (OpenSpec.ofChange fnExactUserValidWrong)

/- THE SECOND FORM. 'bulk': how many values and letters a reading holds, each counted each time it is reached (what is shared counts as often as it is met; a slice's spare places count too). A statement '..UptoSaid' is the law's where the arguments, and the package variables that the reading takes, are together of bulk at most 1048576: NARROWER than '..Said'. Prove '..Said' where nothing that the law and all that it calls make is longer than what came in: it says more and counts as full. Else prove '..UptoSaid'. A law counts once. -/
mutual
def uptoBulk {H : Type} : DataW H → Nat
  | .lit (.string bytes) => bytes.length + 1
  | .lit _ => 1
  | .nil => 1
  | .ptr d => uptoBulk d + 1
  | .slice elems spare => uptoBulkAll elems + uptoBulkAll spare + 1
  | .agg parts => uptoBulkAll parts + 1
  | .iface _ d => uptoBulk d + 1
  | .map entries => uptoBulkEntries entries + 1
  | .held _ => 1
def uptoBulkAll {H : Type} : List (DataW H) → Nat
  | [] => 0
  | d :: r => uptoBulk d + uptoBulkAll r
def uptoBulkEntries {H : Type} : List (Lit × DataW H) → Nat
  | [] => 0
  | x :: r => uptoBulkEntry x + uptoBulkEntries r
def uptoBulkEntry {H : Type} : Lit × DataW H → Nat
  | (.string bytes, d) => bytes.length + uptoBulk d + 1
  | (_, d) => uptoBulk d + 1
 end
def uptoSmall : (H : Type) → List (DataW H) → Bool := fun _ ds => decide (uptoBulkAll ds ≤ 1048576)
def OpenSpec.upto (s : _root_.Go.ChangeSpec) : _root_.Go.OpenSpec := { _root_.Go.OpenSpec.ofChange s with cond := some uptoSmall }

/-- 'laws.FnExactGoldBound', WHERE WHAT IT READS IS OF BULK AT MOST 1048576: true; the input reads as it did. -/
def fnExactGoldBoundUptoRow : OpenClaim := { program := "ytibogcgfhmejlaa", sum := "49aef17010befdee380d9d4c2b624645180d07bf083dd0a29fbff73d4955f7fb", func := "loop.example/spreadspectrum/laws.FnExactGoldBound", spec := "fnExactGoldBound", apart := false, narrowed := true }
def FnExactGoldBoundUptoSaid : Prop := fnExactGoldBoundUptoRow.holds Try.pinned (OpenSpec.upto fnExactGoldBoundSpec)

/-- 'laws.FnExactTreeConflict', WHERE WHAT IT READS IS OF BULK AT MOST 1048576: true; the input reads as it did. -/
def fnExactTreeConflictUptoRow : OpenClaim := { program := "ytibogcgfhmejlaa", sum := "49aef17010befdee380d9d4c2b624645180d07bf083dd0a29fbff73d4955f7fb", func := "loop.example/spreadspectrum/laws.FnExactTreeConflict", spec := "fnExactTreeConflict", apart := false, narrowed := true }
def FnExactTreeConflictUptoSaid : Prop := fnExactTreeConflictUptoRow.holds Try.pinned (OpenSpec.upto fnExactTreeConflictSpec)

/-- 'laws.FnExactSignalValid', WHERE WHAT IT READS IS OF BULK AT MOST 1048576: true; the input reads as it did. -/
def fnExactSignalValidUptoRow : OpenClaim := { program := "ytibogcgfhmejlaa", sum := "49aef17010befdee380d9d4c2b624645180d07bf083dd0a29fbff73d4955f7fb", func := "loop.example/spreadspectrum/laws.FnExactSignalValid", spec := "fnExactSignalValid", apart := false, narrowed := true }
def FnExactSignalValidUptoSaid : Prop := fnExactSignalValidUptoRow.holds Try.pinned (OpenSpec.upto fnExactSignalValidSpec)

/-- 'laws.FnExactBitErrors', WHERE WHAT IT READS IS OF BULK AT MOST 1048576: true; the input reads as it did. -/
def fnExactBitErrorsUptoRow : OpenClaim := { program := "ytibogcgfhmejlaa", sum := "49aef17010befdee380d9d4c2b624645180d07bf083dd0a29fbff73d4955f7fb", func := "loop.example/spreadspectrum/laws.FnExactBitErrors", spec := "fnExactBitErrors", apart := false, narrowed := true }
def FnExactBitErrorsUptoSaid : Prop := fnExactBitErrorsUptoRow.holds Try.pinned (OpenSpec.upto fnExactBitErrorsSpec)

/-- 'laws.FnExactWalshCode', WHERE WHAT IT READS IS OF BULK AT MOST 1048576: true; the input reads as it did. -/
def fnExactWalshCodeUptoRow : OpenClaim := { program := "ytibogcgfhmejlaa", sum := "49aef17010befdee380d9d4c2b624645180d07bf083dd0a29fbff73d4955f7fb", func := "loop.example/spreadspectrum/laws.FnExactWalshCode", spec := "fnExactWalshCode", apart := false, narrowed := true }
def FnExactWalshCodeUptoSaid : Prop := fnExactWalshCodeUptoRow.holds Try.pinned (OpenSpec.upto fnExactWalshCodeSpec)

/-- 'laws.FnExactUserValid', WHERE WHAT IT READS IS OF BULK AT MOST 1048576: true; the input reads as it did. -/
def fnExactUserValidUptoRow : OpenClaim := { program := "ytibogcgfhmejlaa", sum := "49aef17010befdee380d9d4c2b624645180d07bf083dd0a29fbff73d4955f7fb", func := "loop.example/spreadspectrum/laws.FnExactUserValid", spec := "fnExactUserValid", apart := false, narrowed := true }
def FnExactUserValidUptoSaid : Prop := fnExactUserValidUptoRow.holds Try.pinned (OpenSpec.upto fnExactUserValidSpec)

end Rows
end Go.Proofs.Ytibogcgfhmejlaa
