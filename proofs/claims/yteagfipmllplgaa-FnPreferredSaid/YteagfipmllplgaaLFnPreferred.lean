/- The walk of the law on IsPreferred. Conditions: as the theorem says. -/
import Derived.Test.YteagfipmllplgaaR11
import Derived.Test.YteagfipmllplgaaPureK
namespace Go.Proofs.Yteagfipmllplgaa
open Go.RowKit
set_option linter.unusedSimpArgs false
set_option linter.unusedVariables false
set_option maxRecDepth 100000

theorem isPref_swap (s a b : Int) : isPrefC s b a = isPrefC s a b := by
  unfold isPrefC
  rw [show bothB s b a = bothB s a b by unfold bothB; rw [Bool.and_comm (maxI s b)]]
  rw [show prefN s.toNat b.toNat a.toNat = prefN s.toNat a.toNat b.toNat by unfold prefN; rw [vals_swap]]
  rw [show decide (b ≠ a) = decide (a ≠ b) by rw [Bool.eq_iff_iff]; simp only [decide_eq_true_eq]; exact ⟨fun h e => h e.symm, fun h e => h e.symm⟩]
theorem good_cases2 (t v : Int) : ((v == -1) = true ∧ goodV t v = true) ∨ ((v == -1) = false ∧ (v == -t) = true ∧ goodV t v = true) ∨ ((v == -1) = false ∧ (v == -t) = false ∧ (v == t - 2) = true ∧ goodV t v = true) ∨ ((v == -1) = false ∧ (v == -t) = false ∧ (v == t - 2) = false ∧ goodV t v = false) := by
  unfold goodV
  cases h1 : (v == -1)
  · cases h2 : (v == -t)
    · cases h3 : (v == t - 2)
      · exact .inr (.inr (.inr ⟨rfl, rfl, rfl, rfl⟩))
      · exact .inr (.inr (.inl ⟨rfl, rfl, rfl, rfl⟩))
    · exact .inr (.inl ⟨rfl, rfl, rfl⟩)
  · exact .inl ⟨rfl, rfl⟩
theorem all_next (l : List Int) (p : Int → Bool) (k : Nat) (x : Int) (h : l[k]? = some x) : (l.take (k + 1)).all p = ((l.take k).all p && p x) := by
  rw [take_add l k x h, List.all_append]; simp
set_option maxHeartbeats 4000000 in
theorem walk_FnPreferred (A0 : Option Addr) (n0 c0 : Nat) (z0 : List Int) (w : World) (h0 : RowIn .u8 w A0 n0 c0 z0) :
    Calls Try.prog 14 #[.slice A0 n0 c0] w fun e w' => e = .returned (.bool true) ∧ Below w.heap.size w w' := by
  by_cases hs0 : 1048576 < n0
  · go_enter Try.func14, Try.ntmps14
    go_wp2
    go_ret
    exact ⟨rfl, Below.refl _ _⟩
  replace hs0 : n0 ≤ 1048576 := by omega
  go_enter Try.func14, Try.ntmps14
  go_wp2_with fail
  refine (spec_DrawIsPreferred _ _ _ _ _ h0).mono ?_
  rintro e w1 ⟨s, a, b, rfl, h9, hB1⟩
  clear h0
  have hS1 := hB1.size
  go_wp2_with fail
  refine (impl_IsPreferred s a b w1).mono ?_
  rintro e w2 ⟨rfl, hb2⟩
  have hB2 := hB1.trans (hb2.mono hS1)
  have hS2 := hB2.size
  clear hb2
  go_wp2_with fail
  refine (spec_IsPreferred s a b w2).mono ?_
  rintro e w3 ⟨rfl, hb3⟩
  have hB3 := hB2.trans (hb3.mono hS2)
  have hS3 := hB3.size
  clear hb3 hB1 hB2 hS1 hS2
  have hsw := isPref_swap s a b
  have hpd : isPrefC s a b = (bothB s a b && (decide (a ≠ b) && prefN s.toNat a.toNat b.toNat)) := rfl
  have hbd : bothB s a b = (decide (s ≤ 6) && (maxI s a && maxI s b)) := rfl
  obtain ⟨p, hp⟩ : ∃ p, isPrefC s a b = p := ⟨_, rfl⟩
  rw [hp] at hsw hpd ⊢
  have HSW := Lib.hid hsw
  have HP := Lib.hid hp
  clear hsw hp
  have hca := fun w => impl_MaximalSequence s a w
  have hcb := fun w => impl_MaximalSequence s b w
  cases hma : maxI s a
  · obtain rfl : p = false := by rw [hpd, hbd, hma]; simp
    rw [show mseqC s a = ([], false) by unfold mseqC; rw [hma]; rfl] at hca
    have HCA := Lib.hid hca
    clear hca hcb hpd hbd hma
    go_wp2_with fail
    refine (HCA.out w3).mono ?_
    rintro e w4 ⟨u, rfl, hu, hb4⟩
    have hB4 := hB3.trans (hb4.mono hS3)
    have hS4 := hB4.size
    clear hu hb4
    go_wp2_with fail
    refine (impl_MaximalSequence s b w4).mono ?_
    rintro e w5 ⟨v, rfl, hv, hb5⟩
    clear hv
    generalize (mseqC s b).2 = q
    go_wp2_with fail
    go_ret
    exact ⟨rfl, hB4.trans (hb5.mono hS4)⟩
  · cases hmb : maxI s b
    · obtain rfl : p = false := by rw [hpd, hbd, hmb]; simp
      rw [show mseqC s a = (runL s.toNat a.toNat 1 (2 ^ s.toNat - 1), true) by unfold mseqC; rw [hma]; rfl] at hca
      rw [show mseqC s b = ([], false) by unfold mseqC; rw [hmb]; rfl] at hcb
      have HCA := Lib.hid hca
      have HCB := Lib.hid hcb
      clear hca hcb hpd hbd hma hmb
      go_wp2_with fail
      refine (HCA.out w3).mono ?_
      rintro e w4 ⟨u, rfl, hu, hb4⟩
      have hB4 := hB3.trans (hb4.mono hS3)
      have hS4 := hB4.size
      clear hu hb4
      go_wp2_with fail
      refine (HCB.out w4).mono ?_
      rintro e w5 ⟨v, rfl, hv, hb5⟩
      clear hv
      go_wp2_with fail
      go_ret
      exact ⟨rfl, hB4.trans (hb5.mono hS4)⟩
    · rw [show mseqC s a = (runL s.toNat a.toNat 1 (2 ^ s.toNat - 1), true) by unfold mseqC; rw [hma]; rfl] at hca
      rw [show mseqC s b = (runL s.toNat b.toNat 1 (2 ^ s.toNat - 1), true) by unfold mseqC; rw [hmb]; rfl] at hcb
      by_cases h6 : s ≤ 6
      · have hv : bothB s a b = true := by rw [hbd, hma, hmb, decide_eq_true h6]; rfl
        obtain ⟨n, x, y, rfl, rfl, rfl, h2, _, hx, hy, -, -, -, -⟩ := bothB_nat s a b hv
        have h64 : 2 ^ n ≤ 64 := by have h7 : 2 ^ n ≤ 2 ^ 6 := Nat.pow_le_pow_right (by omega) (by omega); exact h7
        rw [hv, Bool.true_and] at hpd
        rw [Int.toNat_natCast, Int.toNat_natCast] at hca hcb hpd
        rw [Int.toNat_natCast] at hpd
        obtain ⟨t, ht⟩ : ∃ t, goldB n = t := ⟨_, rfl⟩
        have htb := goldB_bd n h2 (by omega)
        rw [ht] at htb
        have HG := Lib.hid ht
        obtain ⟨ua, hua⟩ : ∃ u, ofL (runL n x 1 (2 ^ n - 1)) = u := ⟨_, rfl⟩
        obtain ⟨ub, hub⟩ : ∃ u, ofL (runL n y 1 (2 ^ n - 1)) = u := ⟨_, rfl⟩
        have hsa : ua.size ≤ 1048576 := by rw [← hua, size_ofL, runL_len]; omega
        have hsb : ub.size ≤ 1048576 := by rw [← hub, size_ofL, runL_len]; omega
        have hP : prefN n x y = (valsL (tabL ua ub)).all (goodV t) := by unfold prefN; rw [hua, hub, ht]
        have hvl : (valsL (tabL ua ub)).length ≤ 255 := Nat.le_trans (valsL_len _) (tabL_len _ _)
        have hcv := fun w => impl_CrossValues ua ub w hsa hsb
        obtain ⟨vs, hvs⟩ : ∃ vs, valsL (tabL ua ub) = vs := ⟨_, rfl⟩
        rw [hvs] at hP hvl hcv
        rw [hP] at hpd
        have HCV := Lib.hid hcv
        have HCA := Lib.hid hca
        have HCB := Lib.hid hcb
        have HUA := Lib.hid hua
        have HUB := Lib.hid hub
        have HPD := Lib.hid hpd
        clear hP hcv hca hcb hvs hua hub ht hx hy h64 hv hma hmb hpd hbd
        go_wp2_with fail
        refine (HCA.out w3).mono ?_
        rintro e w4 ⟨u, rfl, hu, hb4⟩
        obtain rfl : ua = u := by rw [eq_ofL hu, HUA.out]
        have hB4 := hB3.trans (hb4.mono hS3)
        have hS4 := hB4.size
        clear hu hb4
        go_wp2_with fail
        refine (HCB.out w4).mono ?_
        rintro e w5 ⟨u, rfl, hu, hb5⟩
        obtain rfl : ub = u := by rw [eq_ofL hu, HUB.out]
        have hB5 := hB4.trans (hb5.mono hS4)
        have hS5 := hB5.size
        clear hu hb5
        go_wp2_with fail
        refine (HCV.out w5).mono ?_
        rintro e w6 ⟨A, m, c, rfl, ho, hb6⟩
        have hB6 := hB5.trans (hb6.mono hS5)
        have hS6 := hB6.size
        have hvx := own_rdI ho
        have hml : vs.length = m := by have := ho.1; simpa using this
        have HML := Lib.hid hml
        have hm255 : m ≤ 255 := by omega
        clear hb6 ho hml hvl hB3 hB4 hB5 hS3 hS4 hS5
        go_wp2_with fail
        refine (impl_GoldBound (n : Int) w6).mono ?_
        rintro e w' ⟨rfl, rfl⟩
        rw [HG.out]
        obtain ⟨d, hd⟩ : ∃ d, ((x : Int) != (y : Int)) = d := ⟨_, rfl⟩
        have hdd : decide ((x : Int) ≠ y) = d := by rw [← hd, Bool.eq_iff_iff]; simp
        have HPD2 := Lib.hid (show p = (d && vs.all (goodV t)) by rw [HPD.out, hdd])
        clear hdd
        go_wp2_with fail
        go_loop [13, 14] (fun f v => ∃ k : Nat, k ≤ m ∧ v = .int .i64 k ∧ f = .bool (d && (vs.take k).all (goodV t))) (fun _ v => m - (intOf v).toNat)
        case atStart => exact ⟨0, Nat.zero_le _, rfl, by simp⟩
        case round =>
          obtain ⟨k, hk, rfl, rfl⟩ := hrel
          by_cases hlt : k < m
          · obtain ⟨q, o, v, rfl, hpb, hvv, hcy⟩ := hvx.at hlt
            have h1 : IntKind.i64.wrap (-t) = -t := IntWalk.i64_in _ ⟨by omega, by omega⟩
            have hnx := all_next vs (goodV t) k v hvv.out
            obtain ⟨f, hf⟩ : ∃ f, (d && (vs.take k).all (goodV t)) = f := ⟨_, rfl⟩
            have hnf : (d && (vs.take (k + 1)).all (goodV t)) = (f && goodV t v) := by rw [hnx, ← Bool.and_assoc, hf]
            rw [hf]
            have HNF := Lib.hid hnf
            clear hnx hf hnf hvv
            cases f
            · go_wp2
              go_round
              case rel => exact ⟨k + 1, by omega, by go_num, by rw [HNF.out]; rfl⟩
              case measure => simp [intOf]; omega
            · rcases good_cases2 t v with ⟨e1, hg⟩ | ⟨e1, e2, hg⟩ | ⟨e1, e2, e3, hg⟩ | ⟨e1, e2, e3, hg⟩
              all_goals
                have HG2 := Lib.hid hg
                clear hg
                go_wp2
                go_round
                case rel => exact ⟨k + 1, by omega, by go_num, by rw [HNF.out, HG2.out]; rfl⟩
                case measure => simp [intOf]; omega
          · obtain rfl : k = m := by omega
            have hfin : (d && (vs.take k).all (goodV t)) = p := by
              rw [List.take_of_length_le (by rw [HML.out]; exact Nat.le_refl _), HPD2.out]
            rw [hfin]
            clear hfin
            have hpp : (p == p) = true := by simp
            go_wp2_with fail
            refine (impl_IsPreferred n y x w6).mono ?_
            rintro e w7 ⟨rfl, hb7⟩
            rw [HSW.out]
            have hB7 := hB6.trans (hb7.mono hS6)
            go_wp2_with fail
            refine (spec_GoldBound (n : Int) w7).mono ?_
            rintro e w' ⟨rfl, rfl⟩
            rw [HG.out]
            have htt : (t == t) = true := by simp
            go_wp2_with fail
            go_ret
            exact ⟨rfl, hB7⟩
      · obtain rfl : p = false := by rw [hpd, hbd, decide_eq_false h6]; rfl
        have HCA := Lib.hid hca
        have HCB := Lib.hid hcb
        clear hca hcb hpd hbd hma hmb
        go_wp2_with fail
        refine (HCA.out w3).mono ?_
        rintro e w4 ⟨u, rfl, hu, hb4⟩
        have hB4 := hB3.trans (hb4.mono hS3)
        have hS4 := hB4.size
        clear hu hb4
        go_wp2_with fail
        refine (HCB.out w4).mono ?_
        rintro e w5 ⟨v, rfl, hv, hb5⟩
        clear hv
        go_wp2_with fail
        go_ret
        exact ⟨rfl, hB4.trans (hb5.mono hS4)⟩

end Go.Proofs.Yteagfipmllplgaa
