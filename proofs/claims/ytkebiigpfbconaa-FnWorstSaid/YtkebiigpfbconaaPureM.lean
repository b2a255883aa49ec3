/- There are maximal registers of the sizes 2 to 6. Conditions: none. -/
import Derived.Test.YtkebiigpfbconaaPureS
namespace Go.Proofs.Ytkebiigpfbconaa
open Go.RowKit
set_option linter.unusedSimpArgs false
set_option linter.unusedVariables false
set_option maxRecDepth 100000

theorem mtapsL_in (n k j : Nat) (h1 : 1 ≤ j) (h2 : j ≤ k) (h : maxB n j = true) : 1 ≤ (mtapsL n k).length := by
  have : (j : Int) ∈ mtapsL n k := by
    unfold mtapsL
    exact List.mem_map.2 ⟨j - 1, List.mem_filter.2 ⟨List.mem_range.2 (by omega), by rw [show j - 1 + 1 = j by omega]; exact h⟩, by rw [show j - 1 + 1 = j by omega]⟩
  exact List.length_pos_of_mem this
theorem max_2_3 : maxB 2 3 = true := by kernel_rfl
theorem max_3_3 : maxB 3 3 = true := by kernel_rfl
theorem max_4_3 : maxB 4 3 = true := by kernel_rfl
theorem max_5_5 : maxB 5 5 = true := by kernel_rfl
theorem max_6_3 : maxB 6 3 = true := by kernel_rfl
theorem mtapsL_some (n : Nat) (h2 : 2 ≤ n) (h6 : n ≤ 6) : 1 ≤ (mtapsL n (2 ^ n - 1)).length := by
  rcases (show n = 2 ∨ n = 3 ∨ n = 4 ∨ n = 5 ∨ n = 6 by omega) with rfl | rfl | rfl | rfl | rfl
  · exact mtapsL_in _ _ 3 (by decide) (by decide) max_2_3
  · exact mtapsL_in _ _ 3 (by decide) (by decide) max_3_3
  · exact mtapsL_in _ _ 3 (by decide) (by decide) max_4_3
  · exact mtapsL_in _ _ 5 (by decide) (by decide) max_5_5
  · exact mtapsL_in _ _ 3 (by decide) (by decide) max_6_3

end Go.Proofs.Ytkebiigpfbconaa
