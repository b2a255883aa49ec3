/- The walk of the law on GoldCode. Conditions: as the theorem says. -/
import Derived.Test.YteagfipmllplgaaR11
import Derived.Test.YteagfipmllplgaaR9
namespace Go.Proofs.Yteagfipmllplgaa
open Go.RowKit
set_option linter.unusedSimpArgs false
set_option linter.unusedVariables false
set_option maxRecDepth 100000

theorem addBL_back (a b : List UInt8) (ha : a.all isBit = true) (hb : b.all isBit = true) (hl : a.length = b.length) : addBL (addBL a b) a = b := by
  apply List.ext_getElem?
  intro i
  by_cases hi : i < a.length
  · have hx : a[i]? = some a[i] := List.getElem?_eq_getElem hi
    have hy : b[i]? = some b[i] := List.getElem?_eq_getElem (by omega)
    rw [addBL_at _ _ i _ _ (addBL_at _ _ i _ _ hx hy) hx, hy]
    have h1 := List.all_eq_true.1 ha _ (List.mem_of_getElem? hx)
    have h2 := List.all_eq_true.1 hb _ (List.mem_of_getElem? hy)
    generalize a[i] = x at *
    generalize b[i] = y at *
    unfold isBit at h1 h2
    simp only [Bool.or_eq_true, beq_iff_eq] at h1 h2
    rcases h1 with rfl | rfl <;> rcases h2 with rfl | rfl <;> rfl
  · rw [List.getElem?_eq_none (by rw [addBL_len _ _ (by rw [addBL_len _ _ hl]), addBL_len _ _ hl]; omega), List.getElem?_eq_none (by omega)]
set_option maxHeartbeats 400000 in
theorem laws_ssShift (s : ByteArray) (k : Nat) (w : World) (hs : seqB s.data.toList = true) (hk : k < s.size) :
    Calls Try.prog 46 #[.string s, .int .i64 k] w fun e w' => e = .returned (.string (ofL (rotL s.data.toList k))) ∧ Below w.heap.size w w' := by
  go_enter Try.func46, Try.ntmps46
  go_wp2_with fail
  refine (impl_ShiftBits s k w hs hk).mono ?_
  rintro e w1 ⟨t, m, rfl, ht, hw⟩
  obtain rfl := eq_ofL ht
  go_wp2_with fail
  go_ret
  exact ⟨rfl, by first | exact below_drewN (Below.refl _ _) m | (rw [hw]; exact below_drewN (Below.refl _ _) m)⟩
set_option maxHeartbeats 4000000 in
theorem walk_FnGoldCode (A0 : Option Addr) (n0 c0 : Nat) (z0 : List Int) (w : World) (h0 : RowIn .u8 w A0 n0 c0 z0) :
    Calls Try.prog 11 #[.slice A0 n0 c0] w fun e w' => e = .returned (.bool true) ∧ Below w.heap.size w w' := by
  by_cases hs0 : 1048576 < n0
  · go_enter Try.func11, Try.ntmps11
    go_wp2
    go_ret
    exact ⟨rfl, Below.refl _ _⟩
  replace hs0 : n0 ≤ 1048576 := by omega
  go_enter Try.func11, Try.ntmps11
  go_wp2_with fail
  refine (spec_DrawGoldCode _ _ _ _ _ h0).mono ?_
  rintro e w1 ⟨s, a, b, k, rfl, h9, hB1⟩
  clear h0
  have hS1 := hB1.size
  go_wp2_with fail
  refine (impl_GoldCode s a b k w1).mono ?_
  rintro e w2 ⟨u, rfl, hu, hb2⟩
  obtain rfl := eq_ofL hu
  have hB2 := hB1.trans (hb2.mono hS1)
  have hS2 := hB2.size
  clear hu hb2
  go_wp2_with fail
  refine (spec_GoldCode s a b k w2).mono ?_
  rintro e w3 ⟨u, rfl, hu, hb3⟩
  obtain rfl := eq_ofL hu
  have hB3 := hB2.trans (hb3.mono hS2)
  have hS3 := hB3.size
  clear hu hb3 hB1 hB2 hS1 hS2
  by_cases hyes : bothB s a b = true ∧ -2 ≤ k ∧ k ≤ two s - 2
  · obtain ⟨hv, hk1, hk2⟩ := hyes
    rw [goldC_in s a b k hv hk1 hk2]
    have hma : maxI s a = true := by unfold bothB at hv; simp only [Bool.and_eq_true] at hv; exact hv.2.1
    have hmb : maxI s b = true := by unfold bothB at hv; simp only [Bool.and_eq_true] at hv; exact hv.2.2
    obtain ⟨n, x, y, rfl, rfl, rfl, h2, h6, hx, hy, -, -, -, -⟩ := bothB_nat s a b hv
    have h64 : 2 ^ n ≤ 64 := by have h7 : 2 ^ n ≤ 2 ^ 6 := Nat.pow_le_pow_right (by omega) (by omega); exact h7
    have h4 : 4 ≤ 2 ^ n := by have h7 : 2 ^ 2 ≤ 2 ^ n := Nat.pow_le_pow_right (by omega) h2; exact h7
    have htw := two_int n
    rw [Int.toNat_natCast, Int.toNat_natCast, Int.toNat_natCast]
    have hca : ∀ w, Calls Try.prog 16 #[.int .i64 n, .int .i64 x] w (RetStrB (runL n x 1 (2 ^ n - 1)) true w) := fun w => by
      have h := impl_MaximalSequence n x w
      rwa [show mseqC (n : Int) x = (runL n x 1 (2 ^ n - 1), true) by unfold mseqC; rw [hma]; rfl] at h
    have hcb : ∀ w, Calls Try.prog 16 #[.int .i64 n, .int .i64 y] w (RetStrB (runL n y 1 (2 ^ n - 1)) true w) := fun w => by
      have h := impl_MaximalSequence n y w
      rwa [show mseqC (n : Int) y = (runL n y 1 (2 ^ n - 1), true) by unfold mseqC; rw [hmb]; rfl] at h
    have hfam := famL_yes (n : Int) x y hv
    rw [Int.toNat_natCast, Int.toNat_natCast, Int.toNat_natCast] at hfam
    have hcf := fun w => impl_GoldFamily (n : Int) x y w
    rw [hfam] at hcf
    have hGL := goldL_k n x y
    have hGA := goldL_a n x y
    have hGB := goldL_b n x y
    have hkN : k < ((2 ^ n - 1 : Nat) : Int) := by omega
    have hglen := goldL_len n x y k hkN
    have hgbits := goldL_bits n x y k
    obtain ⟨N, hN⟩ : ∃ N, 2 ^ n = N := ⟨_, rfl⟩
    rw [hN] at htw h64 h4 hca hcb hcf hGL hGA hGB hglen hkN
    rw [htw] at hk2
    obtain ⟨i, hik⟩ : ∃ i : Nat, k + 2 = i := ⟨(k + 2).toNat, by omega⟩
    have hfat := famK_at n x y (N + 1) i (by omega)
    rw [show (i : Int) - 2 = k by omega] at hfat
    obtain ⟨ra, hra⟩ : ∃ l, runL n x 1 (N - 1) = l := ⟨_, rfl⟩
    obtain ⟨rb, hrb⟩ : ∃ l, runL n y 1 (N - 1) = l := ⟨_, rfl⟩
    have hral : ra.length = N - 1 := by rw [← hra, runL_len]
    have hrbl : rb.length = N - 1 := by rw [← hrb, runL_len]
    have hrab : ra.all isBit = true := by rw [← hra]; exact runL_bits _ _ _ _
    have hrbb : rb.all isBit = true := by rw [← hrb]; exact runL_bits _ _ _ _
    rw [hra] at hca hGL hGA
    rw [hrb] at hcb hGL hGB
    obtain ⟨gk, hgk⟩ : ∃ l, goldL n x y k = l := ⟨_, rfl⟩
    rw [hgk] at hglen hgbits hfat ⊢
    have HCA := Lib.hid hca
    have HCB := Lib.hid hcb
    have HCF := Lib.hid hcf
    have HFAT := Lib.hid hfat
    have HFL := Lib.hid (famK_len n x y (N + 1))
    have hgs : (ofL gk).size = N - 1 := by rw [size_ofL, hglen]
    have HG := Lib.hid (show goldL n x y k = gk ∧ (∀ j : Nat, goldL n x y j = addBL ra (rotL rb j)) ∧ goldL n x y (-2) = ra ∧ goldL n x y (-1) = rb from ⟨hgk, hGL, hGA, hGB⟩)
    have HR := Lib.hid (show ra.length = N - 1 ∧ rb.length = N - 1 ∧ ra.all isBit = true ∧ rb.all isBit = true ∧ gk.all isBit = true ∧ gk.length = N - 1 from ⟨hral, hrbl, hrab, hrbb, hgbits, hglen⟩)
    clear hca hcb hcf hfat hv hma hmb hx hy htw hfam hGL hGA hGB hN hra hrb hgk hral hrbl hrab hrbb hgbits hglen
    go_wp2_with fail
    refine (HCA.out w3).mono ?_
    rintro e w4 ⟨u, rfl, hu, hb4⟩
    obtain rfl := eq_ofL hu
    have hB4 := hB3.trans (hb4.mono hS3)
    have hS4 := hB4.size
    clear hu hb4
    go_wp2_with fail
    refine (HCB.out w4).mono ?_
    rintro e w5 ⟨u, rfl, hu, hb5⟩
    obtain rfl := eq_ofL hu
    have hB5 := hB4.trans (hb5.mono hS4)
    have hS5 := hB5.size
    clear hu hb5
    go_wp2_with fail
    refine (HCF.out w5).mono ?_
    rintro e w6 ⟨A, m, c, rfl, ho, hb6⟩
    have hB6 := hB5.trans (hb6.mono hS5)
    have hml : m = N + 1 := by have := ho.1; rw [List.length_map, List.length_map, HFL.out] at this; omega
    obtain ⟨p, o, z, rfl, hpl, hzz, hcz⟩ := (own_rdS ho).at (show i < m by omega)
    have hz : z = ofL gk := by
      have h7 := hzz.out
      rw [List.getElem?_map, HFAT.out] at h7
      injection h7 with h7
      exact h7.symm
    subst hz
    have hnn : ((m : Int) != ((N - 1 : Nat) : Int) + 2) = false := by simp; omega
    have hnn2 : ((m : Int) != ((N - 1 : Nat) : Int) + 2) = false := by simp; omega
    clear ho hb6 hzz hB4 hB5 hS4 hS5
    rcases (show i = 0 ∨ i = 1 ∨ ∃ j, i = j + 2 by
      rcases Nat.lt_or_ge i 2 with h | h
      · omega
      · exact .inr (.inr ⟨i - 2, by omega⟩)) with rfl | rfl | ⟨j, rfl⟩
    · obtain rfl : k = -2 := by omega
      obtain rfl : gk = ra := by have h := HG.out.1; rw [HG.out.2.2.1] at h; exact h.symm
      rw [Nat.add_zero] at hcz
      clear hk1 hk2 hkN hik
      go_wp2_with fail
      go_ret
      exact ⟨rfl, hB6⟩
    · obtain rfl : k = -1 := by omega
      obtain rfl : gk = rb := by have h := HG.out.1; rw [HG.out.2.2.2] at h; exact h.symm
      clear hk1 hk2 hkN hik
      go_wp2_with fail
      go_ret
      exact ⟨rfl, hB6⟩
    · obtain rfl : k = (j : Int) := by omega
      have hgk := HG.out.1
      rw [HG.out.2.1 j] at hgk
      have hlr : (rotL rb j).length = N - 1 := by rw [rotL_len _ _ (by rw [HR.out.2.1]; omega), HR.out.2.1]
      have hbk := addBL_back ra (rotL rb j) HR.out.2.2.1 (rotL_bits _ _ HR.out.2.2.2.1) (by rw [hlr, HR.out.1])
      rw [hgk] at hbk
      have HBK := Lib.hid hbk
      have hjN : j < N - 1 := by omega
      have s1 : seqB (ofL gk).data.toList = true := by
        unfold seqB; rw [ofL_list, HR.out.2.2.2.2.1, HR.out.2.2.2.2.2, decide_eq_true (show 1 ≤ N - 1 by omega), decide_eq_true (show N - 1 ≤ 255 by omega)]; rfl
      have s2 : seqB (ofL ra).data.toList = true := by
        unfold seqB; rw [ofL_list, HR.out.2.2.1, HR.out.1, decide_eq_true (show 1 ≤ N - 1 by omega), decide_eq_true (show N - 1 ≤ 255 by omega)]; rfl
      have s3 : seqB (ofL rb).data.toList = true := by
        unfold seqB; rw [ofL_list, HR.out.2.2.2.1, HR.out.2.1, decide_eq_true (show 1 ≤ N - 1 by omega), decide_eq_true (show N - 1 ≤ 255 by omega)]; rfl
      have HS1 := Lib.hid s1
      have HS2 := Lib.hid s2
      have HS3 := Lib.hid s3
      clear hk1 hk2 hkN hik hgk hlr hbk s1 s2 s3
      go_wp2_with fail
      refine (impl_AddBits (ofL gk) (ofL ra) w6 HS1.out HS2.out (by rw [hgs, size_ofL, HR.out.1])).mono ?_
      rintro e w7 ⟨u, rfl, hu, hb7⟩
      rw [ofL_list, ofL_list, HBK.out] at hu
      obtain rfl := eq_ofL hu
      have hB7 := hB6.trans (hb7.mono hB6.size)
      clear hu hb7
      go_wp2_with fail
      refine (laws_ssShift (ofL rb) j w7 HS3.out (by rw [size_ofL, HR.out.2.1]; omega)).mono ?_
      rintro e w8 ⟨rfl, hb8⟩
      rw [ofL_list]
      go_wp2_with fail
      go_ret
      exact ⟨rfl, hB7.trans (hb8.mono hB7.size)⟩
  · rw [show goldC s a b k = ([], false) by unfold goldC; rw [if_neg hyes]]
    clear hyes
    go_wp2_with fail
    go_ret
    exact ⟨rfl, hB3⟩

end Go.Proofs.Yteagfipmllplgaa
