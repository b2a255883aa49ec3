/- The walk of the law on MaximalSequence. Conditions: as the theorem says. -/
import Derived.Test.YteagfipmllplgaaR7
namespace Go.Proofs.Yteagfipmllplgaa
open Go.RowKit
set_option linter.unusedSimpArgs false
set_option linter.unusedVariables false

set_option maxHeartbeats 2000000 in
theorem walk_FnExactMaximalSequence (a0 : Int) (a1 : Int) (w : World) (_h0 : -9223372036854775808 ≤ a0 ∧ a0 ≤ 9223372036854775807) (_h1 : -9223372036854775808 ≤ a1 ∧ a1 ≤ 9223372036854775807) :
    Calls Try.prog 3 #[.int .i64 a0, .int .i64 a1] w fun e w' => e = .returned (.bool true) ∧ Below w.heap.size w w' := by
  clear _h0
  clear _h1
  have hB0 : Below w.heap.size w w := Below.refl _ _
  go_enter Try.func3, Try.ntmps3
  go_wp2_with fail
  refine (spec_MaximalSequence _ _ _ ).mono ?_
  rintro e w1 ⟨tr, rfl, ht, hb⟩
  have Tr := Lib.hid ht
  clear ht
  have hS1 := hb.size
  have hB1 : Below w.heap.size w w1 := hB0.trans (hb.mono hB0.size)
  clear hb
  go_wp2_with fail
  refine (impl_MaximalSequence _ _ _ ).mono ?_
  rintro e w2 ⟨tg, rfl, ht, hb⟩
  have Tg := Lib.hid ht
  clear ht
  have hS2 := hb.size
  have hB2 : Below w.heap.size w w2 := hB1.trans (hb.mono hB1.size)
  obtain rfl := str_eq Tr.out Tg.out
  clear Tg
  clear hb
  go_wp2_with fail
  go_ret
  exact ⟨rfl, hB2⟩

end Go.Proofs.Yteagfipmllplgaa
