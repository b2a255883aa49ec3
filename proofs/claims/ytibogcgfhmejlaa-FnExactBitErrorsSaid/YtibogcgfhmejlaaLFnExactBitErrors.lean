/- The walk of the law on BitErrors. Conditions: as the theorem says. -/
import Derived.Test.YtibogcgfhmejlaaC4
namespace Go.Proofs.Ytibogcgfhmejlaa
open Go.RowKit
set_option linter.unusedSimpArgs false
set_option linter.unusedVariables false

set_option maxHeartbeats 400000 in
theorem walk_FnExactBitErrors (s t : ByteArray) (w : World) (hs : s.size ≤ maxLen) (ht : t.size ≤ maxLen) :
    Calls Try.prog 6 #[.string s, .string t] w fun e w' => e = .returned (.bool true) ∧ Below w.heap.size w w' := by
  have hcs : (1048576 < s.size) ∨ (s.size ≤ 1048576 ∧ 1048576 < t.size) ∨ (s.size ≤ 1048576 ∧ t.size ≤ 1048576) := by omega
  rcases hcs with h1 | ⟨h1, h2⟩ | ⟨h1, h2⟩
  iterate 2
    · go_enter Try.func6, Try.ntmps6
      go_wp2
      go_ret
      exact ⟨rfl, Below.refl _ _⟩
  · go_enter Try.func6, Try.ntmps6
    go_wp2_with (first | (go_at_call 17; refine (spec_BitErrors _ _ _ hs ht).mono ?_; rintro e w' ⟨rfl, m, rfl⟩) | (go_at_call 18; refine (impl_BitErrors _ _ _ hs ht).mono ?_; rintro e w' ⟨rfl, m', rfl⟩))
    go_ret
    exact ⟨rfl, below_drewN (Below.refl _ _) _⟩

end Go.Proofs.Ytibogcgfhmejlaa
