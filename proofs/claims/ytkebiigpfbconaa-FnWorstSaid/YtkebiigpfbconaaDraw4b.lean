/- Draws of two signals. Conditions: as the theorem says. -/
import Derived.Test.YtkebiigpfbconaaDraw4
namespace Go.Proofs.Ytkebiigpfbconaa
open Go.RowKit
set_option linter.unusedSimpArgs false
set_option linter.unusedVariables false

/-- Two signals were drawn. -/
def DrewSS (w : World) (e : Ending) (w' : World) : Prop :=
  ∃ (A : Option Addr) (n c : Nat) (zs : List Int) (A' : Option Addr) (n' c' : Nat) (zs' : List Int), e = .returned (.tuple #[.slice A n c, .slice A' n' c']) ∧ w'.ownsRow w.heap.size 3 1 (.slice A n c) n (zs.map (Value.int .i64)) ∧
    w'.ownsRow w.heap.size 3 1 (.slice A' n' c') n' (zs'.map (Value.int .i64)) ∧ n ≤ 5000 ∧ n' ≤ 5000 ∧ Below w.heap.size w w'
theorem bel_join {g B : Nat} {w w1 w2 : World} (h1 : Bel g B w w1) (h2 : Bel g B w1 w2) (hs1 : w.heap.size ≤ w1.heap.size) (hs2 : w1.heap.size ≤ w2.heap.size) : Bel g B w w2 :=
  ⟨h2.os.trans h1.os, h2.tape.trans h1.tape, h2.output.trans h1.output, by omega, fun k hk hkg => (h2.block k hk hkg).trans (h1.block k hk hkg)⟩

end Go.Proofs.Ytkebiigpfbconaa
