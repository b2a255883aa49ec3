/- The walk of the law on GoldBound. Conditions: as the theorem says. -/
import Derived.Test.YtibogcgfhmejlaaC4
namespace Go.Proofs.Ytibogcgfhmejlaa
open Go.RowKit
set_option linter.unusedSimpArgs false
set_option linter.unusedVariables false

set_option maxHeartbeats 400000 in
theorem walk_FnExactGoldBound (a : Int) (w : World) (_hb : -9223372036854775808 ≤ a ∧ a ≤ 9223372036854775807) :
    Calls Try.prog 3 #[.int .i64 a] w fun e w' => e = .returned (.bool true) ∧ Below w.heap.size w w' := by
  clear _hb
  go_enter Try.func3, Try.ntmps3
  go_wp2_with (first | (go_at_call 9; refine (spec_GoldBound _ _).mono ?_; rintro e w' ⟨rfl, rfl⟩) | (go_at_call 10; refine (impl_GoldBound _ _).mono ?_; rintro e w' ⟨rfl, rfl⟩))
  go_ret
  exact ⟨rfl, Below.refl _ _⟩

end Go.Proofs.Ytibogcgfhmejlaa
