/- The bound of interference holds: plain law. Conditions: as each theorem says. -/
import Derived.Test.YtlddefmakjnfdaaPureQ
import Derived.Test.YtlddefmakjnfdaaUsr3
namespace Go.Proofs.Ytlddefmakjnfdaa
open Go.RowKit
set_option linter.unusedSimpArgs false
set_option linter.unusedVariables false

theorem corrC_add (xs ys : List Int) (c : List UInt8) (f : Nat) : corrC (addL xs ys) c f = corrC xs c f + corrC ys c f := by
  unfold corrC
  rw [← sumTo_add]
  refine sumTo_congr _ _ _ fun i _ => ?_
  unfold corrT
  rw [addL_getD, Int.mul_add]
theorem corrC_nil (c : List UInt8) (f : Nat) : corrC [] c f = 0 := by
  unfold corrC
  rw [← sumTo_zero c.length]
  refine sumTo_congr _ _ _ fun i _ => ?_
  unfold corrT
  rw [getD_out [] _ (Nat.zero_le _), Int.mul_zero]
theorem corrC_send (us : List (ByteArray × ByteArray × Int × Int)) (c : List UInt8) (f : Nat) : ∀ k, k ≤ us.length → corrC (sendL (us.take k)) c f = sumTo (fun v => corrC (sigU (us.getD v noU)) c f) k
  | 0, _ => corrC_nil c f
  | k + 1, h => by
    have hx : us[k]? = some us[k] := List.getElem?_eq_getElem (by omega)
    rw [take_add us k _ hx, sendL_snoc, corrC_add, corrC_send us c f k (by omega), sumTo_succ, getD_u hx]
theorem chips_corL (a b : List UInt8) (ha : a.all isBit = true) (hb : b.all isBit = true) (h : a.length = b.length) : sumTo (fun j => chipI (b.getD j 48) * chipI (a.getD j 48)) b.length = corL a b 0 := by
  unfold corL
  rw [h]
  refine sumTo_congr _ _ _ fun j hj => ?_
  have h1 := bit_toNat _ (bit_getD a ha j (by omega))
  have h2 := bit_toNat _ (bit_getD b hb j hj)
  unfold corP
  rw [Nat.add_zero, Nat.mod_eq_of_lt hj, List.getElem?_eq_getElem hj, List.getElem?_eq_getElem (show j < a.length by omega)]
  rw [List.getD_eq_getElem?_getD, List.getElem?_eq_getElem (show j < a.length by omega)] at h1
  rw [List.getD_eq_getElem?_getD, List.getElem?_eq_getElem hj] at h2
  simp only [List.getD_eq_getElem?_getD, List.getElem?_eq_getElem hj, List.getElem?_eq_getElem (show j < a.length by omega)]
  simp only [Option.getD_some] at h1 h2 ⊢
  rcases h1 with ⟨h1, _⟩ | ⟨h1, _⟩ <;> rcases h2 with ⟨h2, _⟩ | ⟨h2, _⟩ <;> rw [h1, h2] <;> decide
theorem block_corr (cv dv cu : ByteArray) (g : Int) (l i : Nat) (hv : userU (cv, dv, g, (l : Int)) = true) (hcu : cu.data.toList.all isBit = true) (hlen : cv.size = cu.size) :
    ∃ x : Int, (x = 1 ∨ x = -1 ∨ x = 0) ∧ corrC (sigU (cv, dv, g, (l : Int))) cu.data.toList (l + i * cu.data.toList.length) = x * (g * corL cv.data.toList cu.data.toList 0) := by
  have hb := user_bd cv dv g l hv
  have hl2 : cu.data.toList.length = cv.data.toList.length := by rw [len_data, len_data, hlen]
  by_cases hi : i < dv.data.toList.length
  · have hd : dv.data.toList.all isBit = true := by have h5 := hb.2.2.2.2.1; unfold bitsB at h5; simp only [Bool.and_eq_true] at h5; exact h5.2
    have hbit := bit_toNat _ (bit_getD _ hd i hi)
    refine ⟨chipI (dv.data.toList.getD i 48), by rcases hbit with ⟨h, _⟩ | ⟨h, _⟩ <;> rw [h] <;> decide, ?_⟩
    rw [← chips_corL _ _ hb.2.1 hcu hl2.symm, ← sumTo_mul, ← sumTo_mul]
    unfold corrC
    refine sumTo_congr _ _ _ fun j hj => ?_
    unfold corrT sigU
    dsimp only
    rw [Int.toNat_natCast, Nat.add_assoc, getD_pad, getD_map_mul, hl2, spread_getD _ _ i j hi (by rw [← hl2]; exact hj)]
    generalize chipI (cu.data.toList.getD j 48) = p
    generalize chipI (dv.data.toList.getD i 48) = q
    generalize chipI (cv.data.toList.getD j 48) = r
    rw [Int.mul_left_comm p g, Int.mul_left_comm p q, Int.mul_left_comm g q]
  · refine ⟨0, .inr (.inr rfl), ?_⟩
    rw [Int.zero_mul]
    unfold corrC
    rw [← sumTo_zero cu.data.toList.length]
    refine sumTo_congr _ _ _ fun j hj => ?_
    unfold corrT sigU
    dsimp only
    rw [Int.toNat_natCast, Nat.add_assoc, getD_pad, getD_map_mul, getD_out _ _ (by
      rw [spreadL_len, hl2]
      have : dv.data.toList.length * cv.data.toList.length ≤ i * cv.data.toList.length := Nat.mul_le_mul_right _ (by omega)
      omega), Int.mul_zero, Int.mul_zero]
theorem sumTo_ge (f g : Nat → Int) : ∀ n, (∀ i, i < n → g i ≤ f i) → sumTo g n ≤ sumTo f n
  | 0, _ => Int.le_refl _
  | n + 1, h => by
    have h1 := sumTo_ge f g n fun i hi => h i (by omega)
    have h2 := h n (by omega)
    rw [sumTo_succ, sumTo_succ]; omega
theorem minK_ge (t : Nat → Int) (M : Int) : ∀ k, (∀ i, i < k → M ≤ t i) → 0 < k → M ≤ minK t k
  | 0, _, h => absurd h (by omega)
  | k + 1, h, _ => by
    by_cases hc : k = 0 ∨ t k < minK t k
    · rw [minK_lo t k hc]; exact h k (by omega)
    · rw [minK_hi t k hc]
      exact minK_ge t M k (fun i hi => h i (by omega)) (by omega)
theorem abs_mul_bd (g c x y : Int) (hg : 0 ≤ g) (hx : x = 1 ∨ x = -1 ∨ x = 0) (hy : y = 1 ∨ y = -1) : -(g * max c (-c)) ≤ y * (x * (g * c)) := by
  by_cases hc : 0 ≤ c
  · rw [show max c (-c) = c by omega]
    have := Int.mul_nonneg hg hc
    generalize g * c = P at this
    rcases hx with rfl | rfl | rfl <;> rcases hy with rfl | rfl <;> omega
  · rw [show max c (-c) = -c by omega, Int.mul_neg]
    have := Int.mul_nonneg hg (show 0 ≤ -c by omega)
    rw [Int.mul_neg] at this
    generalize g * c = P at this
    rcases hx with rfl | rfl | rfl <;> rcases hy with rfl | rfl <;> omega
theorem marg_ge (us : List (ByteArray × ByteArray × Int × Int)) (hub : usersB us = true) (k : Nat) (c d : ByteArray) (g : Int) (l : Nat) (hk : us[k]? = some (c, d, g, (l : Int))) (hall : us.all (sameU (c, d, g, (l : Int))) = true) (i : Nat) (hi : i < d.data.toList.length) :
    g * c.data.toList.length - sumTo (gapI us k) us.length ≤ margT (sendL us) c.data.toList l d.data.toList i := by
  have hu := users_at us hub
  have hklt : k < us.length := (List.getElem?_eq_some_iff.1 hk).1
  have hub1 := hu.2 _ (List.mem_of_getElem? hk)
  have hb := user_bd c d g l hub1
  have hd : d.data.toList.all isBit = true := by have h5 := hb.2.2.2.2.1; unfold bitsB at h5; simp only [Bool.and_eq_true] at h5; exact h5.2
  have hbit := bit_toNat _ (bit_getD _ hd i hi)
  have hy : chipI (d.data.toList.getD i 48) = 1 ∨ chipI (d.data.toList.getD i 48) = -1 := by rcases hbit with ⟨h, _⟩ | ⟨h, _⟩ <;> rw [h] <;> decide
  have hsq := chipI_sq (d.data.toList.getD i 48)
  unfold margT
  have hs := corrC_send us c.data.toList (l + i * c.data.toList.length) us.length (Nat.le_refl _)
  rw [List.take_of_length_le (Nat.le_refl _)] at hs
  rw [hs, Int.mul_comm (sumTo _ _) (chipI _), ← sumTo_mul]
  have hkey := sumTo_ge (fun v => chipI (d.data.toList.getD i 48) * corrC (sigU (us.getD v noU)) c.data.toList (l + i * c.data.toList.length))
    (fun v => (if v = k then g * c.data.toList.length else 0) + -gapI us k v) us.length (fun v hv => by
    show (if v = k then g * c.data.toList.length else 0) + -gapI us k v ≤ chipI (d.data.toList.getD i 48) * corrC (sigU (us.getD v noU)) c.data.toList (l + i * c.data.toList.length)
    by_cases hvk : v = k
    · subst hvk
      rw [if_pos rfl, show gapI us v v = 0 by unfold gapI; rw [if_pos rfl], getD_u hk, corr_holds _ _ _ _ (sig_holds c d g l i hi)]
      rw [Int.mul_assoc, ← Int.mul_assoc, hsq, Int.one_mul]; omega
    · rw [if_neg hvk]
      obtain ⟨u, hx⟩ : ∃ u, us[v]? = some u := ⟨_, List.getElem?_eq_getElem hv⟩
      obtain ⟨cv, dv, gv, lv⟩ := u
      have hsame := List.all_eq_true.1 hall _ (List.mem_of_getElem? hx)
      unfold sameU at hsame
      simp only [Bool.and_eq_true, beq_iff_eq] at hsame
      obtain ⟨rfl, hcs⟩ := hsame
      have huv := hu.2 _ (List.mem_of_getElem? hx)
      obtain ⟨x, hx3, hxe⟩ := block_corr cv dv c gv l i huv hb.2.1 hcs
      have hgv := (user_bd cv dv gv l huv).2.2.2.2.2.2.1
      have hgap : gapI us k v = gv * max (corL cv.data.toList c.data.toList 0) (-(corL cv.data.toList c.data.toList 0)) := by
        unfold gapI; rw [if_neg hvk, getD_u hx, getD_u hk]
      rw [hgap, getD_u hx, hxe]
      have := abs_mul_bd gv (corL cv.data.toList c.data.toList 0) x (chipI (d.data.toList.getD i 48)) hgv hx3 hy
      omega)
  rw [sumTo_add, sumTo_pick (fun _ => g * (c.data.toList.length : Int)) k us.length hklt, sumTo_neg'] at hkey
  omega
theorem sign_pos (b : UInt8) (x : Int) (h : isBit b = true) (hx : 0 < x * chipI b) : signC x = b := by
  rcases bit_toNat b h with ⟨rfl, _⟩ | ⟨rfl, _⟩
  · rw [show chipI 48 = 1 from rfl] at hx
    unfold signC; rw [if_neg (by omega)]
  · rw [show chipI 49 = -1 from rfl] at hx
    unfold signC; rw [if_pos (by omega)]
theorem bound_holds (us : List (ByteArray × ByteArray × Int × Int)) (hub : usersB us = true) (k : Nat) (c d : ByteArray) (g : Int) (l : Nat) (hk : us[k]? = some (c, d, g, (l : Int))) (hall : us.all (sameU (c, d, g, (l : Int))) = true) :
    (d.data.toList ≠ [] → ∃ m, margC (sendL us) c.data.toList l d.data.toList = (m, true) ∧ g * c.data.toList.length - sumTo (gapI us k) us.length ≤ m) ∧
    (sumTo (gapI us k) us.length < g * c.data.toList.length → recC (sendL us) c.data.toList l d.data.toList.length = (d.data.toList, true)) := by
  have hu := users_at us hub
  have hb := user_bd c d g l (hu.2 _ (List.mem_of_getElem? hk))
  have hd2 : d.data.toList.length ≤ 600 ∧ d.data.toList.all isBit = true := by have h1 := hb.2.2.2.2.1; unfold bitsB at h1; simpa only [Bool.and_eq_true, decide_eq_true_eq] using h1
  have hsb : sigB (sendL us) = true := by
    have := sendL_bd us hu.2 us.length (Nat.le_refl _)
    rw [List.take_of_length_le (Nat.le_refl _)] at this
    exact bdI_sig _ _ this.1 (by have := hu.1; omega) this.2
  have hge := marg_ge us hub k c d g l hk hall
  constructor
  · intro hne
    refine ⟨minK (margT (sendL us) c.data.toList l d.data.toList) d.data.toList.length, ?_, minK_ge _ _ _ hge (by cases hdd : d.data.toList with | nil => exact absurd hdd hne | cons a b => simp)⟩
    unfold margC
    rw [if_pos (show margOk (sendL us) c.data.toList l d.data.toList from ⟨hsb, hb.1, (within_iff _ _ _).2 ⟨by omega, by omega⟩, hb.2.2.2.2.1, hne⟩), Int.toNat_natCast]
  · intro hlt
    unfold recC
    rw [if_pos (lisB_mk _ _ l d.data.toList.length hsb hb.1 (by omega) hd2.1), Int.toNat_natCast, Int.toNat_natCast]
    refine Prod.ext ?_ rfl
    refine signs_back _ hd2.2 _ (desL_len _ _ _ _) fun i x hi hx => ?_
    rw [desL_at _ _ _ _ _ hi] at hx
    obtain rfl := Option.some.inj hx
    have h5 := hge i hi
    unfold margT at h5
    exact sign_pos _ _ (bit_getD _ hd2.2 i hi) (by omega)

end Go.Proofs.Ytlddefmakjnfdaa
