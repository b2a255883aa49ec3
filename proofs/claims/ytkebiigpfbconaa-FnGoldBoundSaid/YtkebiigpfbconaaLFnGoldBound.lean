/- The walk of the law on the bound of Gold codes. Conditions: as the theorem says. -/
import Derived.Test.YtkebiigpfbconaaC18
import Derived.Test.YtkebiigpfbconaaR11
import Derived.Test.YtkebiigpfbconaaPureO
namespace Go.Proofs.Ytkebiigpfbconaa
open Go.RowKit
set_option linter.unusedSimpArgs false
set_option linter.unusedVariables false
set_option maxRecDepth 100000

theorem lists_map_ofL (l : List (List UInt8)) : lists (l.map ofL) = l := by
  unfold lists
  rw [List.map_map]
  conv => rhs; rw [← List.map_id l]
  exact List.map_congr_left fun x _ => ofL_list x
theorem tmod_nat8 (a b : Nat) : (a : Int).tmod (b : Int) = ((a % b : Nat) : Int) := by rw [Int.tmod_eq_emod_of_nonneg (by omega)]; rfl
/-- What the law needs to know of a preferred pair. -/
theorem gold_law (s a b : Int) (h : isPrefC s a b = true) : ∃ n x y : Nat, s = n ∧ a = x ∧ b = y ∧ 3 ≤ n ∧ n ≤ 6 ∧ famL s a b = famK n x y (2 ^ n + 1) ∧ worstC (famK n x y (2 ^ n + 1)) ≤ goldB s ∧
    ∀ i k : Nat, k < i → i < 2 ^ n + 1 → pairB (ofL (goldL n x y ((i : Int) - 2))) (ofL (goldL n x y ((k : Int) - 2))) = true ∧ shB (goldL n x y ((i : Int) - 2)) (goldL n x y ((k : Int) - 2)) = false := by
  unfold isPrefC at h
  rw [Bool.and_eq_true, Bool.and_eq_true] at h
  obtain ⟨hb, hab, hp⟩ := h
  obtain ⟨n, x, y, rfl, rfl, rfl, h2, h6, hx, hy, _, _, hmx, hmy⟩ := bothB_nat s a b hb
  rw [Int.toNat_natCast, Int.toNat_natCast, Int.toNat_natCast] at hp
  have hfx := max_facts n x h2 h6 hx hmx
  have hfy := max_facts n y h2 h6 hy hmy
  have h3 : 3 ≤ n := by
    rcases (show n = 2 ∨ 3 ≤ n by omega) with rfl | h
    · have h1 := max_tap 2 x (by decide) (by decide) hx hmx
      have h4 := max_tap 2 y (by decide) (by decide) hy hmy
      obtain rfl : x = 3 := List.mem_singleton.1 h1
      obtain rfl : y = 3 := List.mem_singleton.1 h4
      exact absurd rfl (of_decide_eq_true hab)
    · exact h
  have h64 : 2 ^ n ≤ 64 := Nat.le_trans (Nat.pow_le_pow_right (by decide) h6) (by decide)
  have h8 : 8 ≤ 2 ^ n := Nat.le_trans (by decide) (Nat.pow_le_pow_right (by decide) h3)
  refine ⟨n, x, y, rfl, rfl, rfl, h3, h6, ?_, gold_worst hfx hfy h2 h6 hp, fun i k hki hi => ⟨?_, ?_⟩⟩
  · rw [famL_yes _ _ _ hb, Int.toNat_natCast, Int.toNat_natCast, Int.toNat_natCast]
  · have hsq : ∀ j : Nat, j < 2 ^ n + 1 → seqB (goldL n x y ((j : Int) - 2)) = true ∧ (goldL n x y ((j : Int) - 2)).length = 2 ^ n - 1 := fun j hj => by
      have hl := goldL_len n x y ((j : Int) - 2) (by omega)
      refine ⟨?_, hl⟩
      unfold seqB
      rw [hl, goldL_bits, decide_eq_true (by omega), decide_eq_true (by omega)]; rfl
    unfold pairB
    rw [ofL_list, ofL_list, (hsq i hi).1, (hsq k (by omega)).1, size_ofL, size_ofL, (hsq i hi).2, (hsq k (by omega)).2]; simp
  · refine shB_no _ _ fun j hj => ?_
    rw [goldL_len n x y _ (by omega)] at hj
    exact gold_shift hfx hfy h3 h6 hp i k j hki hi hj
set_option maxHeartbeats 8000000 in
theorem walk_FnGoldBound (A0 : Option Addr) (n0 c0 : Nat) (z0 : List Int) (A1 : Option Addr) (n1 c1 : Nat) (z1 : List Int) (w : World) (h0 : RowIn .u8 w A0 n0 c0 z0) (h1 : RowIn .u8 w A1 n1 c1 z1) :
    Calls Try.prog 6 #[.slice A0 n0 c0, .slice A1 n1 c1] w fun e w' => e = .returned (.bool true) ∧ Below w.heap.size w w' := by
  clear h1
  by_cases hs0 : 1048576 < n0
  · have d0 : decide ((1048576 : Int) < (n0 : Int)) = true := decide_eq_true (by omega)
    clear h0
    go_enter Try.func6, Try.ntmps6
    go_wp2
    go_ret
    exact ⟨rfl, Below.refl _ _⟩
  have d0 : decide ((1048576 : Int) < (n0 : Int)) = false := decide_eq_false (by omega)
  by_cases hs1 : 1048576 < n1
  · have d1 : decide ((1048576 : Int) < (n1 : Int)) = true := decide_eq_true (by omega)
    clear h0
    go_enter Try.func6, Try.ntmps6
    go_wp2
    go_ret
    exact ⟨rfl, Below.refl _ _⟩
  have d1 : decide ((1048576 : Int) < (n1 : Int)) = false := decide_eq_false (by omega)
  go_enter Try.func6, Try.ntmps6
  go_wp2_with fail
  refine (spec_DrawGoldFamily _ _ _ _ _ h0).mono ?_
  rintro e w1 ⟨s, a, b, rfl, h9, hB1⟩
  clear h0
  have hS1 := hB1.size
  go_wp2_with fail
  refine (impl_GoldFamily s a b w1).mono ?_
  rintro e w2 ⟨A, n, c, rfl, ho, hb2⟩
  have hB2 := hB1.trans (hb2.mono hS1)
  have hS2 := hB2.size
  have hn65 : n ≤ 65 := by
    have h7 := ho.1
    rw [List.length_map, List.length_map] at h7
    have := famL_len s a b
    omega
  clear hb2
  go_wp2_with fail
  refine (spec_GoldFamily s a b w2).mono ?_
  rintro e w3 ⟨A3, n3, c3, rfl, ho3, hb3⟩
  have ho' := own_below ho hb3
  have hB3 := hB2.trans (hb3.mono hS2)
  have hS3 := hB3.size
  have hcall := laws_ssTexts_same A A3 n c n3 c3 _ w3 (own_rdS ho') (own_rdS ho3) (by omega)
  clear ho ho3 hb3 hB1 hB2 hS1 hS2
  go_wp2_with fail
  refine hcall.mono ?_
  clear hcall
  rintro e w4 ⟨rfl, m4, rfl⟩
  have hB4 := below_drewN hB3 m4
  have ho4 : (w3.drewN m4).ownsRow w1.heap.size 9 1 (.slice A n c) n (((famL s a b).map ofL).map Value.string) := ho'
  generalize w3.drewN m4 = w4 at *
  clear hB3 ho' hS3
  have hS4 := hB4.size
  have HO := Lib.hid ho4
  clear ho4
  go_wp2_with fail
  refine (impl_IsPreferred s a b w4).mono ?_
  rintro e w5 ⟨rfl, hb5⟩
  have HO5 := Lib.hid (own_below HO.out hb5)
  have hB5 := hB4.trans (hb5.mono hS4)
  have hS5 := hB5.size
  clear hB4 hS4 hb5 HO
  have hn1 := tmod_nat8 n1 8
  have hlaw := gold_law s a b
  obtain ⟨p, hp⟩ : ∃ p, isPrefC s a b = p := ⟨_, rfl⟩
  rw [hp] at hlaw ⊢
  clear hp
  obtain ⟨q, hq⟩ : ∃ q, n1 % 8 = q := ⟨_, rfl⟩
  rw [hq] at hn1
  replace hn1 : (n1 : Int).tmod 8 = (q : Int) := hn1
  clear hq
  by_cases hgo : p = true ∧ ¬ (3 < s ∧ 0 < q)
  · obtain ⟨rfl, hnq⟩ := hgo
    obtain ⟨N, x, y, rfl, rfl, rfl, h3, h6, hfam, hworst, hsh⟩ := hlaw rfl
    have h64 : 2 ^ N ≤ 64 := Nat.le_trans (Nat.pow_le_pow_right (by decide) h6) (by decide)
    have ho5 := HO5.out
    rw [hfam] at ho5
    have hml : n = 2 ^ N + 1 := by have h7 := ho5.1; rw [List.length_map, List.length_map, famK_len] at h7; omega
    have hfat := famK_at N x y (2 ^ N + 1)
    have hbits := fun i => goldL_bits N x y i
    have hlen2 : ∀ u ∈ famK N x y (2 ^ N + 1), u.length ≤ 255 := fun u hu => by
      obtain ⟨j, hj, rfl⟩ := List.mem_map.1 hu
      rw [goldL_len N x y _ (by have := List.mem_range.1 hj; omega)]; omega
    obtain ⟨P, hP⟩ : ∃ P, 2 ^ N = P := ⟨_, rfl⟩
    have w1' : wrap64 (2 ^ N) = (P : Int) := (IntWalk.wrap64_in ((2 : Int) ^ N) (by rw [show (2 : Int) ^ N = (P : Int) by rw [← hP]; simp]; rw [hP] at h64; exact ⟨by omega, by omega⟩)).trans (by rw [← hP]; simp)
    have w2' : wrap64 (2 ^ (N : Int).toNat) = (P : Int) := w1'
    have HW1 := Lib.hid w1'
    have HW2 := Lib.hid w2'
    clear w1' w2'
    rw [hP] at hml hfat hlen2 hworst hsh ho5 h64
    subst hml
    obtain ⟨gb, rfl, hg1, hg2⟩ := own_some ho5 (show 0 < P + 1 by omega)
    obtain ⟨us, hus⟩ : ∃ us, famK N x y (P + 1) = us := ⟨_, rfl⟩
    rw [hus] at hfat hlen2 hworst ho5
    have HCELL := Lib.hid (fun (i : Nat) (hi : i < P + 1) => show ∃ u, Hid (u = ofL (goldL N x y ((i : Int) - 2))) ∧ w5.cell? ⟨gb, i, none⟩ = some (.string u) from
      ⟨_, rfl, (ho5.cellAt i (by omega)).trans (by rw [List.getElem?_map, List.getElem?_map, hfat i hi]; rfl)⟩)
    have HSB := Lib.hid (fun (i k : Nat) (u v : ByteArray) (hki : k < i) (hi : i < P + 1) (hu : Hid (u = ofL (goldL N x y ((i : Int) - 2)))) (hv : Hid (v = ofL (goldL N x y ((k : Int) - 2)))) (w : World) =>
      show Calls Try.prog 31 #[.string u, .string v] w (RetD (.tuple #[.int .i64 0, .bool false]) w) by
        have h7 := hsh i k hki hi
        refine impl_ShiftBetween_no u v w (by rw [hu.out, hv.out]; exact h7.1) (by rw [hu.out, hv.out, ofL_list, ofL_list]; exact h7.2))
    have hwc := fun d => impl_WorstCross (some ⟨gb, 0, none⟩) (P + 1) c (us.map ofL) (w5.drewN d) (own_rdS (show (w5.drewN d).ownsRow w1.heap.size 9 1 (.slice (some ⟨gb, 0, none⟩) (P + 1) c) (P + 1) ((us.map ofL).map Value.string) from ho5)) (by omega) (own_le ho5)
      (fun t ht => by
        obtain ⟨l, hl, rfl⟩ := List.mem_map.1 ht
        rw [size_ofL]; have := hlen2 l hl; omega)
    rw [lists_map_ofL] at hwc
    obtain ⟨W, hW⟩ : ∃ W, worstC us = W := ⟨_, rfl⟩
    obtain ⟨T, hT⟩ : ∃ T, goldB (N : Int) = T := ⟨_, rfl⟩
    have hgbc := fun w => impl_GoldBound (N : Int) w
    rw [hW] at hwc hworst
    rw [hT] at hgbc hworst
    have dW : decide (W ≤ T) = true := decide_eq_true hworst
    have HWC := Lib.hid hwc
    have HGB := Lib.hid hgbc
    have HQ := Lib.hid hnq
    clear hlaw hfam hworst hsh ho5 HO5 hbits hfat hlen2 hus hwc hgbc hW hT hP hnq
    have hcase : decide ((3 : Int) < (N : Int)) = false ∨ (decide ((3 : Int) < (N : Int)) = true ∧ q = 0) := by
      by_cases h7 : (3 : Int) < (N : Int)
      · refine .inr ⟨decide_eq_true h7, ?_⟩
        rcases Nat.eq_zero_or_pos q with h8 | h8
        · exact h8
        · exact absurd ⟨h7, h8⟩ HQ.out
      · exact .inl (decide_eq_false h7)
    clear HQ
    rcases hcase with e1 | ⟨e1, rfl⟩
    all_goals
      go_wp2_with fail
      refine (HGB.out w5).mono ?_
      rintro e w6 ⟨rfl, rfl⟩
      clear e1 hn1
      go_wp2_with fail
      go_loopw [10] (fun v wr => ∃ i d : Nat, i ≤ P + 1 ∧ v = .int .i64 i ∧ wr = w5.drewN d) (fun v _ => P + 1 - (intOf v).toNat)
      case atStart => exact ⟨0, 0, Nat.zero_le _, rfl, rfl⟩
      case round =>
        obtain ⟨i, d, hi, rfl, rfl⟩ := hrel
        by_cases hlt : i < P + 1
        · obtain ⟨u, hu, hcu⟩ := HCELL.out i hlt
          go_wp2_with fail
          go_loopw [11] (fun v wr => ∃ k d : Nat, k ≤ i ∧ v = .int .i64 k ∧ wr = w5.drewN d) (fun v _ => i - (intOf v).toNat)
          case atStart => exact ⟨0, d, Nat.zero_le _, rfl, rfl⟩
          case round =>
            obtain ⟨k, d, hk, rfl, rfl⟩ := hrel
            by_cases hlt2 : k < i
            · obtain ⟨v, hv, hcv⟩ := HCELL.out k (by omega)
              have hsb := HSB.out i k u v hlt2 hlt hu hv
              have HSB2 := Lib.hid hsb
              have hkP : (k : Int) < (P : Int) + 1 := by omega
              have hkP2 : k < P + 1 := by omega
              clear hsb
              go_wp2_with fail
              go_quiet ((go_at_call 31; refine (HSB2.out _).mono ?_; rintro e w' ⟨rfl, m, rfl⟩; exact ⟨rfl, _, (World.drewN_drewN _ _ _).trans (congrArg _ (Nat.add_assoc _ _ _))⟩))
              go_wp2_with fail
              go_roundw
              case rel => exact ⟨k + 1, _, by omega, by go_num, rfl⟩
              case measure => simp [intOf] <;> omega
            · obtain rfl : k = i := by omega
              go_wp2_with fail
              go_roundw
              case rel => exact ⟨k + 1, _, by omega, by go_num, rfl⟩
              case measure => simp [intOf] <;> omega
        · obtain rfl : i = P + 1 := by omega
          go_wp2_with fail
          refine (HWC.out d).mono ?_
          rintro e w7 ⟨rfl, m7, rfl⟩
          have w1' := HW1.out
          have w2' := HW2.out
          go_wp2_with fail
          go_ret
          exact ⟨rfl, below_drewN hB5 _⟩
  · have hcases : p = false ∨ (p = true ∧ decide (3 < s) = true ∧ 0 < q) := by
      cases p
      · exact .inl rfl
      · by_cases h3 : 3 < s ∧ 0 < q
        · exact .inr ⟨rfl, decide_eq_true h3.1, h3.2⟩
        · exact absurd ⟨rfl, h3⟩ hgo
    clear hgo hlaw
    rcases hcases with rfl | ⟨rfl, e1, e2⟩
    all_goals
      go_wp2_with fail
      refine (spec_GoldFamily s a b w5).mono ?_
      rintro e w6 ⟨A6, n6, c6, rfl, ho6, hb6⟩
      have ho' := own_below HO5.out hb6
      have hB6 := hB5.trans (hb6.mono hS5)
      have hcall := laws_ssTexts_same A A6 n c n6 c6 _ w6 (own_rdS ho') (own_rdS ho6) (by omega)
      clear ho' ho6 hb6 hB5 hS5
      go_wp2_with fail
      refine hcall.mono ?_
      clear hcall
      rintro e w7 ⟨rfl, m7, rfl⟩
      go_wp2_with fail
      go_ret
      exact ⟨rfl, below_drewN hB6 _⟩

end Go.Proofs.Ytkebiigpfbconaa
