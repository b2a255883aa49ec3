/- The walk of the law on WalshCode. Conditions: as the theorem says. -/
import Derived.Test.YtibogcgfhmejlaaC4
namespace Go.Proofs.Ytibogcgfhmejlaa
open Go.RowKit
set_option linter.unusedSimpArgs false
set_option linter.unusedVariables false

set_option maxHeartbeats 400000 in
theorem walk_FnExactWalshCode (o i : Int) (w : World) (_h1 : -9223372036854775808 ≤ o ∧ o ≤ 9223372036854775807) (_h2 : -9223372036854775808 ≤ i ∧ i ≤ 9223372036854775807) :
    Calls Try.prog 7 #[.int .i64 o, .int .i64 i] w fun e w' => e = .returned (.bool true) ∧ Below w.heap.size w w' := by
  clear _h1 _h2
  go_enter Try.func7, Try.ntmps7
  go_wp2_with fail
  refine (spec_WalshCode _ _ _).mono ?_
  rintro e w1 ⟨t, rfl, ht, hb1⟩
  have HT := Lib.hid ht
  clear ht
  go_wp2_with fail
  refine (impl_WalshCode _ _ _).mono ?_
  rintro e w2 ⟨t', rfl, ht', hb2⟩
  obtain rfl := str_eq HT.out ht'
  clear ht'
  go_wp2_with fail
  go_ret
  exact ⟨rfl, hb1.trans (hb2.mono hb1.size)⟩

end Go.Proofs.Ytibogcgfhmejlaa
