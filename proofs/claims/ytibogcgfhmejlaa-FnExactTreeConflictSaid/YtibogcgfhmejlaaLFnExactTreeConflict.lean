/- The walk of the law on TreeConflict. Conditions: as the theorem says. -/
import Derived.Test.YtibogcgfhmejlaaC4
namespace Go.Proofs.Ytibogcgfhmejlaa
open Go.RowKit
set_option linter.unusedSimpArgs false
set_option linter.unusedVariables false

set_option maxHeartbeats 400000 in
theorem walk_FnExactTreeConflict (s t : ByteArray) (w : World) (hs : s.size ≤ maxLen) (ht : t.size ≤ maxLen) :
    Calls Try.prog 4 #[.string s, .string t] w fun e w' => e = .returned (.bool true) ∧ Below w.heap.size w w' := by
  have hcs : (1048576 < s.size) ∨ (s.size ≤ 1048576 ∧ 1048576 < t.size) ∨ (s.size ≤ 1048576 ∧ t.size ≤ 1048576) := by omega
  rcases hcs with h1 | ⟨h1, h2⟩ | ⟨h1, h2⟩
  iterate 2
    · go_enter Try.func4, Try.ntmps4
      go_wp2
      go_ret
      exact ⟨rfl, Below.refl _ _⟩
  · go_enter Try.func4, Try.ntmps4
    go_wp2_with (first | (go_at_call 11; refine (spec_TreeConflict _ _ _ hs ht).mono ?_; rintro e w' ⟨rfl, m, rfl⟩) | (go_at_call 12; refine (impl_TreeConflict _ _ _ hs ht).mono ?_; rintro e w' ⟨rfl, rfl⟩))
    go_ret
    exact ⟨rfl, below_drewN (Below.refl _ _) _⟩

end Go.Proofs.Ytibogcgfhmejlaa
