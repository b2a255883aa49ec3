/- Codes of families, draws of codes. Conditions: as each theorem says. -/
import Derived.Test.YtkebiigpfbconaaR4
import Derived.Test.YtkebiigpfbconaaPureW
import Derived.Test.YtkebiigpfbconaaPureH
import Derived.Test.YtkebiigpfbconaaC3
import Derived.Test.YtkebiigpfbconaaC11
namespace Go.Proofs.Ytkebiigpfbconaa
open Go.RowKit
set_option linter.unusedSimpArgs false
set_option linter.unusedVariables false
set_option maxRecDepth 100000

def goldL (n a b : Nat) (k : Int) : List UInt8 :=
  if k = -2 then runL n a 1 (2 ^ n - 1) else if k = -1 then runL n b 1 (2 ^ n - 1) else addBL (runL n a 1 (2 ^ n - 1)) (rotL (runL n b 1 (2 ^ n - 1)) k.toNat)
theorem goldL_a (n a b : Nat) : goldL n a b (-2) = runL n a 1 (2 ^ n - 1) := by unfold goldL; rw [if_pos rfl]
theorem goldL_b (n a b : Nat) : goldL n a b (-1) = runL n b 1 (2 ^ n - 1) := by unfold goldL; rw [if_neg (by decide), if_pos rfl]
theorem goldL_k (n a b k : Nat) : goldL n a b k = addBL (runL n a 1 (2 ^ n - 1)) (rotL (runL n b 1 (2 ^ n - 1)) k) := by unfold goldL; rw [if_neg (by omega), if_neg (by omega), Int.toNat_natCast]
theorem goldL_len (n a b : Nat) (k : Int) (h : k < (2 ^ n - 1 : Nat)) : (goldL n a b k).length = 2 ^ n - 1 := by
  unfold goldL
  split
  · exact runL_len _ _ _ _
  · split
    · exact runL_len _ _ _ _
    · rw [addBL_len _ _ (by rw [rotL_len _ _ (by rw [runL_len]; omega), runL_len, runL_len]), runL_len]
theorem goldL_bits (n a b : Nat) (k : Int) : (goldL n a b k).all isBit = true := by
  unfold goldL
  split
  · exact runL_bits _ _ _ _
  · split
    · exact runL_bits _ _ _ _
    · exact addBL_bits _ _
set_option maxHeartbeats 1000000 in
theorem spec_l3Gold (n a b : Nat) (k : Int) (w : World) (h2 : 2 ≤ n) (h8 : n ≤ 8) (ha : a < 2 ^ n) (hb : b < 2 ^ n) (hk0 : -2 ≤ k) (hk : k < (2 ^ n - 1 : Nat)) :
    Calls Try.prog 69 #[.int .i64 n, .int .i64 a, .int .i64 b, .int .i64 k] w (RetStr (goldL n a b k) w) := by
  have h256 := pow_256 n h8
  have HAB := Lib.hid (show a < 2 ^ n ∧ b < 2 ^ n from ⟨ha, hb⟩)
  clear ha hb
  by_cases c0 : k = -2
  · subst c0
    clear hk h256
    go_enter Try.func69, Try.ntmps69
    go_wp2_with fail
    refine (spec_l3Sequence n a w h2 h8 HAB.out.1).mono ?_
    rintro e w1 ⟨u, rfl, hu, hb⟩
    have HU := Lib.hid hu
    clear hu
    go_wp2_with fail
    go_ret
    exact ⟨u, rfl, by rw [goldL_a]; exact HU.out, hb⟩
  · by_cases c1 : k = -1
    · subst c1
      clear hk h256
      go_enter Try.func69, Try.ntmps69
      go_wp2_with fail
      refine (spec_l3Sequence n b w h2 h8 HAB.out.2).mono ?_
      rintro e w1 ⟨u, rfl, hu, hb⟩
      have HU := Lib.hid hu
      clear hu
      go_wp2_with fail
      go_ret
      exact ⟨u, rfl, by rw [goldL_b]; exact HU.out, hb⟩
    · obtain ⟨j, rfl⟩ := Int.eq_ofNat_of_zero_le (show 0 ≤ k by omega)
      have d0 : ((j : Int) == -2) = false := beq_eq_false_iff_ne.2 c0
      have d1 : ((j : Int) == -1) = false := beq_eq_false_iff_ne.2 c1
      have hj : j < 2 ^ n - 1 := by omega
      obtain ⟨N, hN⟩ : ∃ N, 2 ^ n - 1 = N := ⟨_, rfl⟩
      have HN := Lib.hid hN
      rw [hN] at hj
      have hN255 : N ≤ 255 := by omega
      clear hN c0 c1 hk hk0 h256
      go_enter Try.func69, Try.ntmps69
      go_wp2_with fail
      refine (spec_l3Sequence n a w h2 h8 HAB.out.1).mono ?_
      rintro e w1 ⟨u, rfl, hu, hb1⟩
      rw [HN.out] at hu
      have hus : u.size = N := by rw [str_size hu, runL_len]
      have HU := Lib.hid hu
      clear hu
      go_wp2_with fail
      refine (spec_l3Sequence n b w1 h2 h8 HAB.out.2).mono ?_
      rintro e w2 ⟨v, rfl, hv, hb2⟩
      rw [HN.out] at hv
      have hvs : v.size = N := by rw [str_size hv, runL_len]
      have HV := Lib.hid hv
      clear hv
      have hB2 := hb1.trans (hb2.mono hb1.size)
      clear hb1 hb2
      go_wp2_with fail
      refine (spec_l2Shift v j _ (by omega) (by omega)).mono ?_
      rintro e w3 ⟨t, m, rfl, ht, rfl⟩
      rw [HV.out] at ht
      have hts : t.size = N := by rw [str_size ht, rotL_len _ _ (by rw [runL_len]; omega), runL_len]
      have HT := Lib.hid ht
      clear ht
      go_wp2_with fail
      refine (spec_l2Add u t _ (by omega) (by omega) (by rw [HU.out]; exact runL_bits _ _ _ _) (by rw [HT.out]; exact rotL_bits _ _ (runL_bits _ _ _ _))).mono ?_
      rintro e w4 ⟨s, rfl, hs, hb4⟩
      rw [HU.out, HT.out] at hs
      have HS := Lib.hid hs
      have hB4 : Below w.heap.size w w4 := hB2.trans ((show Below w2.heap.size w2 w4 from ⟨hb4.os, hb4.tape, hb4.output, hb4.size, hb4.block⟩).mono hB2.size)
      clear hs hb4 hB2
      go_wp2_with fail
      go_ret
      exact ⟨s, rfl, by rw [goldL_k, HN.out]; exact HS.out, hB4⟩
theorem walshL_bitsA (n i : Nat) : (walshL n i).all isBit = true := by
  rw [List.all_eq_true]
  intro c hc
  obtain ⟨k, hk⟩ := List.getElem?_of_mem hc
  have hl : k < n := by
    have := (List.getElem?_eq_some_iff.1 hk).1
    simpa [walshL] using this
  rw [walshL_at n i k hl] at hk
  obtain rfl := Option.some.inj hk
  exact bitC_bit _
theorem walshL_lenA (n i : Nat) : (walshL n i).length = n := by simp [walshL]
theorem drawnQ_str {g : Nat} {K : Int} {l : List UInt8} {w w1 w2 : World} {e : Ending} (h1 : 1 ≤ l.length) (h2 : l.length ≤ 64) (h3 : l.all isBit = true) (h : RetStr l w1 e w2) (hb : Bel g w.heap.size w w1) (hr : Rdr w1 g K) : DrawnQ g K w e w2 := by
  obtain ⟨u, he, hu, hb2⟩ := h
  refine ⟨u, he, ?_, ?_, by rw [hu]; exact h3, hb.trans' (Bel.of_below hb2) hb.size, hr.below hb2⟩
  · rw [str_size hu]; exact h1
  · rw [str_size hu]; exact h2

end Go.Proofs.Ytkebiigpfbconaa
