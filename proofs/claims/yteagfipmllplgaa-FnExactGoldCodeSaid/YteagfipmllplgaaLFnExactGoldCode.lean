/- The walk of the law on GoldCode. Conditions: as the theorem says. -/
import Derived.Test.YteagfipmllplgaaR8
namespace Go.Proofs.Yteagfipmllplgaa
open Go.RowKit
set_option linter.unusedSimpArgs false
set_option linter.unusedVariables false

set_option maxHeartbeats 2000000 in
theorem walk_FnExactGoldCode (a0 : Int) (a1 : Int) (a2 : Int) (a3 : Int) (w : World) (_h0 : -9223372036854775808 ≤ a0 ∧ a0 ≤ 9223372036854775807) (_h1 : -9223372036854775808 ≤ a1 ∧ a1 ≤ 9223372036854775807) (_h2 : -9223372036854775808 ≤ a2 ∧ a2 ≤ 9223372036854775807) (_h3 : -9223372036854775808 ≤ a3 ∧ a3 ≤ 9223372036854775807) :
    Calls Try.prog 5 #[.int .i64 a0, .int .i64 a1, .int .i64 a2, .int .i64 a3] w fun e w' => e = .returned (.bool true) ∧ Below w.heap.size w w' := by
  clear _h0
  clear _h1
  clear _h2
  clear _h3
  have hB0 : Below w.heap.size w w := Below.refl _ _
  go_enter Try.func5, Try.ntmps5
  go_wp2_with fail
  refine (spec_GoldCode _ _ _ _ _ ).mono ?_
  rintro e w1 ⟨tr, rfl, ht, hb⟩
  have Tr := Lib.hid ht
  clear ht
  have hS1 := hb.size
  have hB1 : Below w.heap.size w w1 := hB0.trans (hb.mono hB0.size)
  clear hb
  go_wp2_with fail
  refine (impl_GoldCode _ _ _ _ _ ).mono ?_
  rintro e w2 ⟨tg, rfl, ht, hb⟩
  have Tg := Lib.hid ht
  clear ht
  have hS2 := hb.size
  have hB2 : Below w.heap.size w w2 := hB1.trans (hb.mono hB1.size)
  obtain rfl := str_eq Tr.out Tg.out
  clear Tg
  clear hb
  go_wp2_with fail
  go_ret
  exact ⟨rfl, hB2⟩

end Go.Proofs.Yteagfipmllplgaa
