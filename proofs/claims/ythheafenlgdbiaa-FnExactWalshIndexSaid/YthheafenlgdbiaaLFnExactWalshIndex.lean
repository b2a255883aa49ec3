/- The walk of the law on WalshIndex. Conditions: as the theorem says. -/
import Derived.Test.YthheafenlgdbiaaC6
namespace Go.Proofs.Ythheafenlgdbiaa
open Go.RowKit
set_option linter.unusedSimpArgs false
set_option linter.unusedVariables false

set_option maxHeartbeats 2000000 in
theorem walk_FnExactWalshIndex (s0 : ByteArray) (w : World) (h0 : s0.size ≤ maxLen) :
    Calls Try.prog 5 #[.string s0] w fun e w' => e = .returned (.bool true) ∧ Below w.heap.size w w' := by
  by_cases hs0 : 1048576 < s0.size
  · go_enter Try.func5, Try.ntmps5
    go_wp2
    go_ret
    exact ⟨rfl, Below.refl _ _⟩
  replace hs0 : s0.size ≤ 1048576 := by omega
  have hB0 : Below w.heap.size w w := Below.refl _ _
  go_enter Try.func5, Try.ntmps5
  go_wp2_with fail
  refine (spec_WalshIndex _ _ hs0).mono ?_
  rintro e w1 hq
  obtain ⟨rfl, hb⟩ := id hq
  clear hq
  have hS1 := hb.size
  have hB1 : Below w.heap.size w w1 := hB0.trans (hb.mono hB0.size)
  clear hb
  go_wp2_with fail
  refine (impl_WalshIndex _ _ hs0).mono ?_
  rintro e w2 hq
  obtain ⟨rfl, hb⟩ := id hq
  clear hq
  have hS2 := hb.size
  have hB2 : Below w.heap.size w w2 := hB1.trans (hb.mono hB1.size)
  clear hb
  go_wp2_with fail
  go_ret
  exact ⟨rfl, hB2⟩

end Go.Proofs.Ythheafenlgdbiaa
