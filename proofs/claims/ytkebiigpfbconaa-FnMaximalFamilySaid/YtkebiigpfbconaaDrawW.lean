/- Draws of chapter 3: indices, paths, lists of paths. Conditions: as each theorem says. -/
import Derived.Test.YtkebiigpfbconaaDrawS
import Derived.Test.YtkebiigpfbconaaC7
namespace Go.Proofs.Ytkebiigpfbconaa
open Go.RowKit
set_option linter.unusedSimpArgs false
set_option linter.unusedVariables false
set_option maxRecDepth 100000

/-- Two numbers were drawn. -/
def DrawnII (g : Nat) (K : Int) (w : World) (e : Ending) (w' : World) : Prop :=
  ∃ x y : Int, e = .returned (.tuple #[.int .i64 x, .int .i64 y]) ∧ Bel g w.heap.size w w' ∧ Rdr w' g K
def DrewII (w : World) (e : Ending) (w' : World) : Prop := ∃ x y : Int, e = .returned (.tuple #[.int .i64 x, .int .i64 y]) ∧ Below w.heap.size w w'
def DrewI (w : World) (e : Ending) (w' : World) : Prop := ∃ x : Int, e = .returned (.int .i64 x) ∧ Below w.heap.size w w'

end Go.Proofs.Ytkebiigpfbconaa
