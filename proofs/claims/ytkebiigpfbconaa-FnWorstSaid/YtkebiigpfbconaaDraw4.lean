/- What the draws of chapter 4 give back: some signal, some number. Conditions: as each theorem says. -/
import Derived.Test.YtkebiigpfbconaaRdr
namespace Go.Proofs.Ytkebiigpfbconaa
open Go.RowKit
set_option linter.unusedSimpArgs false
set_option linter.unusedVariables false

/-- Some slice of numbers of the call's own was drawn. -/
def DrawnS (g B : Nat) (K : Int) (M : Nat) (w : World) (e : Ending) (w' : World) : Prop :=
  ∃ (A : Option Addr) (n c : Nat) (zs : List Int), e = .returned (.slice A n c) ∧ w'.ownsRow B 3 1 (.slice A n c) n (zs.map (Value.int .i64)) ∧ n ≤ M ∧ Bel g B w w' ∧ Rdr w' g K
/-- Some number was drawn. -/
def DrawnI (g : Nat) (K : Int) (w : World) (e : Ending) (w' : World) : Prop :=
  ∃ x : Int, e = .returned (.int .i64 x) ∧ Bel g w.heap.size w w' ∧ Rdr w' g K
theorem pick_I {g : Nat} {n K : Int} {w w' : World} {e : Ending} (h : Picked g n K w e w') : DrawnI g (K + 1) w e w' := by
  obtain ⟨m, he, _, _, _, hb, hr⟩ := h; exact ⟨m, he, hb, hr⟩
theorem num_I {g : Nat} {zs : List Int} {K : Int} {w w' : World} {e : Ending} (h : OneOf g zs K w e w') : DrawnI g (K + 1) w e w' := by
  obtain ⟨m, he, _, hb, hr⟩ := h; exact ⟨m, he, hb, hr⟩




/-- A signal and a number were drawn. -/
def DrewSI (w : World) (e : Ending) (w' : World) : Prop :=
  ∃ (A : Option Addr) (n c : Nat) (zs : List Int) (x : Int), e = .returned (.tuple #[.slice A n c, .int .i64 x]) ∧ w'.ownsRow w.heap.size 3 1 (.slice A n c) n (zs.map (Value.int .i64)) ∧ n ≤ 5000 ∧ Below w.heap.size w w'

/-- A signal and two numbers were drawn. -/
def DrewSII (w : World) (e : Ending) (w' : World) : Prop :=
  ∃ (A : Option Addr) (n c : Nat) (zs : List Int) (x y : Int), e = .returned (.tuple #[.slice A n c, .int .i64 x, .int .i64 y]) ∧ w'.ownsRow w.heap.size 3 1 (.slice A n c) n (zs.map (Value.int .i64)) ∧ n ≤ 5000 ∧ Below w.heap.size w w'

end Go.Proofs.Ytkebiigpfbconaa
