/- The signals of users in another order: plain law. Conditions: as each theorem says. -/
import Derived.Test.YtlddefmakjnfdaaPureU
namespace Go.Proofs.Ytlddefmakjnfdaa
open Go.RowKit
set_option linter.unusedSimpArgs false
set_option linter.unusedVariables false

theorem addL_getD (xs ys : List Int) (i : Nat) : (addL xs ys).getD i 0 = xs.getD i 0 + ys.getD i 0 := by
  unfold addL
  rw [List.getD_eq_getElem?_getD, List.getElem?_map]
  by_cases hi : i < max xs.length ys.length
  · rw [List.getElem?_range hi]; rfl
  · rw [List.getElem?_eq_none (by rw [List.length_range]; omega), getD_out xs i (by omega), getD_out ys i (by omega)]; rfl
theorem list_ext_getD {xs ys : List Int} (hl : xs.length = ys.length) (h : ∀ i, xs.getD i 0 = ys.getD i 0) : xs = ys := by
  apply List.ext_getElem hl
  intro i h1 h2
  have := h i
  rw [List.getD_eq_getElem?_getD, List.getD_eq_getElem?_getD, List.getElem?_eq_getElem h1, List.getElem?_eq_getElem h2] at this
  exact this
theorem addL_swap (s a b : List Int) : addL (addL s a) b = addL (addL s b) a := by
  apply list_ext_getD
  · rw [addL_len, addL_len, addL_len, addL_len]; omega
  · intro i
    rw [addL_getD, addL_getD, addL_getD, addL_getD]; omega
theorem sendL_rev (us : List (ByteArray × ByteArray × Int × Int)) : sendL us.reverse = sendL us := by
  unfold sendL
  exact (List.reverse_perm us).foldl_eq' (fun x _ y _ z => addL_swap _ _ _) _
theorem users_rev (us : List (ByteArray × ByteArray × Int × Int)) (h : usersB us = true) : usersB us.reverse = true := by
  have hu := users_at us h
  unfold usersB
  rw [Bool.and_eq_true, decide_eq_true_eq, List.length_reverse]
  exact ⟨hu.1, List.all_eq_true.2 fun u hx => hu.2 u (List.mem_reverse.1 hx)⟩
theorem spread_yes (c d : ByteArray) (g l : Int) (h : userU (c, d, g, l) = true) : spreadC d.data.toList c.data.toList = (spreadL d.data.toList c.data.toList, true) := by
  rcases spreadC_ways d.data.toList c.data.toList with ⟨h0, _⟩ | ⟨_, h1⟩
  · exact absurd (user_spread c d g l h) h0
  · exact h1
theorem resC_yes (zs : List Int) (h : sigB zs = true) : resC zs = (zs, true) := if_pos h
theorem scale_yes (c d : ByteArray) (g l : Int) (h : userU (c, d, g, l) = true) : scaleC (spreadL d.data.toList c.data.toList) g = ((spreadL d.data.toList c.data.toList).map (g * ·), true) := by
  have hb := user_bd c d g l h
  have hl := user_len c d g l h
  unfold scaleC
  rw [if_pos ⟨bdI_sig 1 _ (spreadL_bd _ _) (by omega) (by rw [hl.1]; omega), (within_iff _ _ _).2 ⟨by omega, by omega⟩⟩]
  exact resC_yes _ (bdI_sig 1000 _ (scale_bd _ _ g hb.2.2.2.2.2.2.1 hb.2.2.2.2.2.2.2.1) (by omega) (by rw [List.length_map, hl.1]; omega))
theorem delay_yes (c d : ByteArray) (g l : Int) (h : userU (c, d, g, l) = true) : delayC ((spreadL d.data.toList c.data.toList).map (g * ·)) l = (sigU (c, d, g, l), true) := by
  have hb := user_bd c d g l h
  have hl := user_len c d g l h
  unfold delayC
  rw [if_pos ⟨bdI_sig 1000 _ (scale_bd _ _ g hb.2.2.2.2.2.2.1 hb.2.2.2.2.2.2.2.1) (by omega) (by rw [List.length_map, hl.1]; omega), (within_iff _ _ _).2 ⟨by omega, by omega⟩⟩]
  exact resC_yes _ (sig_sig (c, d, g, l) h)
theorem add_yes (us : List (ByteArray × ByteArray × Int × Int)) (h : usersB us = true) (k : Nat) (u : ByteArray × ByteArray × Int × Int) (hx : us[k]? = some u) :
    addC (sendL (us.take k)) (sigU u) = (sendL (us.take (k + 1)), true) := by
  have hu := users_at us h
  have hk : k < us.length := (List.getElem?_eq_some_iff.1 hx).1
  have h1 := sendL_bd us hu.2 k (by omega)
  have h2 := sendL_bd us hu.2 (k + 1) (by omega)
  rw [take_add us k u hx, sendL_snoc] at h2 ⊢
  unfold addC
  rw [if_pos ⟨bdI_sig _ _ h1.1 (by omega) h1.2, sig_sig u (hu.2 u (List.mem_of_getElem? hx))⟩]
  exact resC_yes _ (bdI_sig _ _ h2.1 (by omega) h2.2)
theorem send_yes (us : List (ByteArray × ByteArray × Int × Int)) (h : usersB us = true) : sendC us = (sendL us, true) := if_pos h
theorem send_no (us : List (ByteArray × ByteArray × Int × Int)) (h : usersB us = false) : sendC us = ([], false) := if_neg (by rw [h]; decide)
theorem rev_at {α : Type} (us : List α) (k : Nat) (hk : k < us.length) (u : α) (h : us[us.length - 1 - k]? = some u) : us.reverse[k]? = some u := by
  rw [List.getElem?_reverse hk]; exact h

end Go.Proofs.Ytlddefmakjnfdaa
