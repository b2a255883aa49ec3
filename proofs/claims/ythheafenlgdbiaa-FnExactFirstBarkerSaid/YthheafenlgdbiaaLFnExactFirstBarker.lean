/- The walk of the law on FirstBarker. Conditions: as the theorem says. -/
import Derived.Test.YthheafenlgdbiaaC5
namespace Go.Proofs.Ythheafenlgdbiaa
open Go.RowKit
set_option linter.unusedSimpArgs false
set_option linter.unusedVariables false

set_option maxHeartbeats 2000000 in
theorem walk_FnExactFirstBarker (a0 : Int) (w : World) (_h0 : -9223372036854775808 ≤ a0 ∧ a0 ≤ 9223372036854775807) :
    Calls Try.prog 9 #[.int .i64 a0] w fun e w' => e = .returned (.bool true) ∧ Below w.heap.size w w' := by
  clear _h0
  have hB0 : Below w.heap.size w w := Below.refl _ _
  go_enter Try.func9, Try.ntmps9
  go_wp2_with fail
  refine (spec_FirstBarker _ _ ).mono ?_
  rintro e w1 ⟨tr, rfl, ht, hb⟩
  have Tr := Lib.hid ht
  clear ht
  have hS1 := hb.size
  have hB1 : Below w.heap.size w w1 := hB0.trans (hb.mono hB0.size)
  clear hb
  go_wp2_with fail
  refine (impl_FirstBarker _ _ ).mono ?_
  rintro e w2 ⟨tg, rfl, ht, hb⟩
  have Tg := Lib.hid ht
  clear ht
  have hS2 := hb.size
  have hB2 : Below w.heap.size w w2 := hB1.trans (hb.mono hB1.size)
  obtain rfl := str_eq Tr.out Tg.out
  clear Tg
  clear hb
  go_wp2_with fail
  go_ret
  exact ⟨rfl, hB2⟩

end Go.Proofs.Ythheafenlgdbiaa
