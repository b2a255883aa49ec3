/- What the functions of chapter 2 give back, in the program and in the reference. Conditions: as each theorem says. -/
import Derived.Test.YtkebiigpfbconaaC1
namespace Go.Proofs.Ytkebiigpfbconaa
open Go.RowKit
set_option linter.unusedSimpArgs false
set_option linter.unusedVariables false

set_option maxHeartbeats 400000 in
theorem impl_SequenceValid (s : ByteArray) (w : World) (hs : s.size ≤ maxLen) :
    Calls Try.prog 11 #[.string s] w fun e w' => e = .returned (.bool (seqB s.data.toList)) ∧ w = w' := by
  unfold maxLen at hs
  have hcs : (1 ≤ s.size ∧ s.size ≤ 255) ∨ (1 ≤ s.size ∧ ¬ s.size ≤ 255) ∨ ¬ 1 ≤ s.size := by omega
  rcases hcs with ⟨h1, h2⟩ | ⟨h1, h2⟩ | h1
  all_goals
    go_enter Try.func11, Try.ntmps11
    go_wp2_with (go_at_call 48; refine (impl_isBits _ _ hs).mono ?_; rintro e w' ⟨rfl, rfl⟩)
    go_ret
    exact ⟨ret_bool (by first | exact seqB_of_bits s h1 h2 | exact (seqB_no s (by omega)).symm), rfl⟩
set_option maxHeartbeats 400000 in
theorem spec_SequenceValid (s : ByteArray) (w : World) (hs : s.size ≤ maxLen) :
    Calls Try.prog 45 #[.string s] w fun e w' => e = .returned (.bool (seqB s.data.toList)) ∧ w = w' := by
  have hz := hs
  unfold maxLen at hz
  cases hb : bitsB s.data.toList
  all_goals
    go_enter Try.func45, Try.ntmps45
    go_wp2_with (first | (go_at_call 78; refine (spec_l1Bits _ _ hs).mono ?_; rintro e w' ⟨rfl, rfl⟩) | (go_at_call 47; refine (spec_l1In _ _ _ _).mono ?_; rintro e w' ⟨rfl, rfl⟩))
    go_ret
    exact ⟨ret_bool (by first | exact (seqB_bits_no s hb).symm | exact seqB_bits_yes s hb), rfl⟩

end Go.Proofs.Ytkebiigpfbconaa
