/- What the functions of chapter 2 give back, in the program and in the reference. Conditions: as each theorem says. -/
import Derived.Test.YtlddefmakjnfdaaC1
namespace Go.Proofs.Ytlddefmakjnfdaa
open Go.RowKit
set_option linter.unusedSimpArgs false
set_option linter.unusedVariables false

set_option maxHeartbeats 400000 in
theorem impl_SequenceValid (s : ByteArray) (w : World) (hs : s.size ≤ maxLen) :
    Calls Try.prog 52 #[.string s] w fun e w' => e = .returned (.bool (seqB s.data.toList)) ∧ w = w' := by
  unfold maxLen at hs
  have hcs : (1 ≤ s.size ∧ s.size ≤ 255) ∨ (1 ≤ s.size ∧ ¬ s.size ≤ 255) ∨ ¬ 1 ≤ s.size := by omega
  rcases hcs with ⟨h1, h2⟩ | ⟨h1, h2⟩ | h1
  all_goals
    go_enter Try.func52, Try.ntmps52
    go_wp2_with (go_at_call 51; refine (impl_isBits _ _ hs).mono ?_; rintro e w' ⟨rfl, rfl⟩)
    go_ret
    exact ⟨ret_bool (by first | exact seqB_of_bits s h1 h2 | exact (seqB_no s (by omega)).symm), rfl⟩
set_option maxHeartbeats 400000 in
theorem spec_SequenceValid (s : ByteArray) (w : World) (hs : s.size ≤ maxLen) :
    Calls Try.prog 49 #[.string s] w fun e w' => e = .returned (.bool (seqB s.data.toList)) ∧ w = w' := by
  have hz := hs
  unfold maxLen at hz
  cases hb : bitsB s.data.toList
  all_goals
    go_enter Try.func49, Try.ntmps49
    go_wp2_with (first | (go_at_call 48; refine (spec_l1Bits _ _ hs).mono ?_; rintro e w' ⟨rfl, rfl⟩) | (go_at_call 61; refine (spec_l1In _ _ _ _).mono ?_; rintro e w' ⟨rfl, rfl⟩))
    go_ret
    exact ⟨ret_bool (by first | exact (seqB_bits_no s hb).symm | exact seqB_bits_yes s hb), rfl⟩

end Go.Proofs.Ytlddefmakjnfdaa
