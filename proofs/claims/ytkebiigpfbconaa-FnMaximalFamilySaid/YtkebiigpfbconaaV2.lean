/- Preferred pairs of registers, in the program and in the reference. Conditions: as each theorem says. -/
import Derived.Test.YtkebiigpfbconaaV1
import Derived.Test.YtkebiigpfbconaaR8
namespace Go.Proofs.Ytkebiigpfbconaa
open Go.RowKit
set_option linter.unusedSimpArgs false
set_option linter.unusedVariables false
set_option maxRecDepth 100000

def goodV (t v : Int) : Bool := v == -1 || v == -t || v == t - 2
def prefN (n x y : Nat) : Bool := (valsL (tabL (ofL (runL n x 1 (2 ^ n - 1))) (ofL (runL n y 1 (2 ^ n - 1))))).all (goodV (goldB n))
def isPrefC (s a b : Int) : Bool := bothB s a b && (decide (a ≠ b) && prefN s.toNat a.toNat b.toNat)
theorem good_cases (t v : Int) : ((v != -1) = false ∧ goodV t v = true) ∨ ((v != -1) = true ∧ (v != -t) = false ∧ goodV t v = true) ∨ ((v != -1) = true ∧ (v != -t) = true ∧ (v != t - 2) = false ∧ goodV t v = true) ∨ ((v != -1) = true ∧ (v != -t) = true ∧ (v != t - 2) = true ∧ goodV t v = false) := by
  unfold goodV
  by_cases h1 : v = -1
  · left; simp [h1]
  · by_cases h2 : v = -t
    · right; left
      refine ⟨by simpa using h1, by simp [h2], by simp [h2]⟩
    · by_cases h3 : v = t - 2
      · right; right; left
        exact ⟨by simpa using h1, by simpa using h2, by simp [h3], by simp [h3]⟩
      · right; right; right
        exact ⟨by simpa using h1, by simpa using h2, by simpa using h3, by simp [h1, h2, h3]⟩
theorem goldB_bd (n : Nat) (h2 : 2 ≤ n) (h8 : n ≤ 8) : 0 ≤ goldB n ∧ goldB n ≤ 1000 := by
  unfold goldB
  rw [if_pos ⟨by omega, by omega⟩]
  have := two_pos (((n : Int) + 2) / 2)
  have := two_8 (((n : Int) + 2) / 2) (by omega)
  omega
theorem size_ofL (l : List UInt8) : (ofL l).size = l.length := str_size (ofL_list l)
set_option maxHeartbeats 2000000 in
theorem spec_l3Preferred (n x y : Nat) (w : World) (h2 : 2 ≤ n) (h8 : n ≤ 8) (hx : x < 2 ^ n) (hy : y < 2 ^ n) :
    Calls Try.prog 111 #[.int .i64 n, .int .i64 x, .int .i64 y] w fun e w' => e = .returned (.bool (prefN n x y)) ∧ Below w.heap.size w w' := by
  have h256 := pow_256 n h8
  obtain ⟨t, ht⟩ : ∃ t, goldB n = t := ⟨_, rfl⟩
  have htb := goldB_bd n h2 h8
  rw [ht] at htb
  have HG := Lib.hid ht
  obtain ⟨a, ha⟩ : ∃ a, ofL (runL n x 1 (2 ^ n - 1)) = a := ⟨_, rfl⟩
  obtain ⟨b, hb⟩ : ∃ b, ofL (runL n y 1 (2 ^ n - 1)) = b := ⟨_, rfl⟩
  have hsa : a.size ≤ 1048576 := by rw [← ha, size_ofL, runL_len]; omega
  have hsb : b.size ≤ 1048576 := by rw [← hb, size_ofL, runL_len]; omega
  have hP : prefN n x y = (valsL (tabL a b)).all (goodV t) := by unfold prefN; rw [ha, hb, ht]
  have hvl : (valsL (tabL a b)).length ≤ 255 := Nat.le_trans (valsL_len _) (tabL_len _ _)
  have hcv := fun w => spec_CrossValues a b w hsa hsb
  obtain ⟨vs, hvs⟩ : ∃ vs, valsL (tabL a b) = vs := ⟨_, rfl⟩
  rw [hvs] at hP hvl hcv
  rw [hP]
  have HCV := Lib.hid hcv
  have hca : ∀ w, Calls Try.prog 73 #[.int .i64 n, .int .i64 x] w fun e w' => e = .returned (.string a) ∧ Below w.heap.size w w' := fun w => (spec_l3Sequence n x w h2 h8 hx).mono (by rintro e w' ⟨u, rfl, hu, hb⟩; exact ⟨by rw [eq_ofL hu, ha], hb⟩)
  have hcb : ∀ w, Calls Try.prog 73 #[.int .i64 n, .int .i64 y] w fun e w' => e = .returned (.string b) ∧ Below w.heap.size w w' := fun w => (spec_l3Sequence n y w h2 h8 hy).mono (by rintro e w' ⟨u, rfl, hu, hb'⟩; exact ⟨by rw [eq_ofL hu, hb], hb'⟩)
  have HCA := Lib.hid hca
  have HCB := Lib.hid hcb
  clear hP hcv hca hcb hvs ha hb ht hx hy h256
  go_enter Try.func111, Try.ntmps111
  go_wp2_with fail
  refine (HCA.out w).mono ?_
  rintro e w1 ⟨rfl, hb1⟩
  go_wp2_with fail
  refine (HCB.out w1).mono ?_
  rintro e w2 ⟨rfl, hb2⟩
  have hB2 := hb1.trans (hb2.mono hb1.size)
  clear hb1 hb2
  go_wp2_with fail
  refine (HCV.out w2).mono ?_
  rintro e w3 ⟨A, m, c, rfl, ho, hb3⟩
  have hB3 := hB2.trans (hb3.mono hB2.size)
  have hx := own_rdI ho
  have hml : vs.length = m := by have := ho.1; simpa using this
  have HML := Lib.hid hml
  have hm255 : m ≤ 255 := by omega
  clear hb3 hB2 ho hml hvl
  go_wp2_with fail
  refine (spec_GoldBound (n : Int) w3).mono ?_
  rintro e w' ⟨rfl, rfl⟩
  rw [HG.out]
  go_wp2_with fail
  go_loop [9] (fun v => ∃ k : Nat, k ≤ m ∧ v = .int .i64 k ∧ Hid ((vs.take k).all (goodV t) = true)) (fun v => m - (intOf v).toNat)
  case atStart => exact ⟨0, Nat.zero_le _, rfl, by show _ = _; simp⟩
  case round =>
    obtain ⟨k, hk, rfl, hall⟩ := hrel
    by_cases hlt : k < m
    · obtain ⟨p, o, v, rfl, hpb, hvv, hcy⟩ := hx.at hlt
      have h1 : IntKind.i64.wrap (-t) = -t := IntWalk.i64_in _ ⟨by omega, by omega⟩
      rcases good_cases t v with ⟨e1, hg⟩ | ⟨e1, e2, hg⟩ | ⟨e1, e2, e3, hg⟩ | ⟨e1, e2, e3, hg⟩
      · have HG2 := Lib.hid hg
        clear hg
        go_wp2
        go_round
        case rel => exact ⟨k + 1, by omega, by go_num, allP_snoc _ _ _ _ hvv.out hall.out HG2.out⟩
        case measure => simp [intOf]; omega
      · have HG2 := Lib.hid hg
        clear hg
        go_wp2
        go_round
        case rel => exact ⟨k + 1, by omega, by go_num, allP_snoc _ _ _ _ hvv.out hall.out HG2.out⟩
        case measure => simp [intOf]; omega
      · have HG2 := Lib.hid hg
        clear hg
        go_wp2
        go_round
        case rel => exact ⟨k + 1, by omega, by go_num, allP_snoc _ _ _ _ hvv.out hall.out HG2.out⟩
        case measure => simp [intOf]; omega
      · have HG2 := Lib.hid hg
        clear hg
        go_wp2
        go_ret
        exact ⟨ret_bool (allP_false vs k _ v hvv.out HG2.out).symm, hB3⟩
    · go_wp2
      go_ret
      exact ⟨ret_bool (allP_take vs k _ (by rw [HML.out]; omega) hall.out).symm, hB3⟩
set_option maxHeartbeats 4000000 in
theorem impl_IsPreferred (s a b : Int) (w : World) :
    Calls Try.prog 29 #[.int .i64 s, .int .i64 a, .int .i64 b] w fun e w' => e = .returned (.bool (isPrefC s a b)) ∧ Below w.heap.size w w' := by
  by_cases h6 : s ≤ 6
  · by_cases hab : a = b
    · have hm : isPrefC s a b = false := by unfold isPrefC; rw [decide_eq_false (fun h => h hab)]; simp
      rw [hm]
      clear hm
      subst hab
      have e1 : (a == a) = true := by simp
      go_enter Try.func29, Try.ntmps29
      go_wp2_with fail
      go_ret
      exact ⟨rfl, Below.refl _ _⟩
    · have e1 : (a == b) = false := beq_eq_false_iff_ne.2 hab
      have HAB := Lib.hid hab
      clear hab
      have hca := impl_MaximalSequence s a w
      cases hma : maxI s a
      · have hm : isPrefC s a b = false := by unfold isPrefC bothB; rw [hma]; simp
        rw [hm]
        rw [show mseqC s a = ([], false) by unfold mseqC; rw [hma]; rfl] at hca
        clear hma hm
        go_enter Try.func29, Try.ntmps29
        go_wp2_with fail
        refine hca.mono ?_
        rintro e w1 ⟨u, rfl, hu, hb1⟩
        clear hca hu
        go_wp2_with fail
        refine (impl_MaximalSequence s b w1).mono ?_
        rintro e w2 ⟨v, rfl, hv, hb2⟩
        clear hv
        generalize (mseqC s b).2 = q
        go_wp2_with fail
        go_ret
        exact ⟨rfl, hb1.trans (hb2.mono hb1.size)⟩
      · cases hmb : maxI s b
        · have hm : isPrefC s a b = false := by unfold isPrefC bothB; rw [hmb]; simp
          rw [hm]
          rw [show mseqC s a = (runL s.toNat a.toNat 1 (2 ^ s.toNat - 1), true) by unfold mseqC; rw [hma]; rfl] at hca
          have hcb : ∀ w1, Calls Try.prog 33 #[.int .i64 s, .int .i64 b] w1 (RetStrB [] false w1) := fun w1 => by
            have h := impl_MaximalSequence s b w1
            rwa [show mseqC s b = ([], false) by unfold mseqC; rw [hmb]; rfl] at h
          clear hma hmb hm
          go_enter Try.func29, Try.ntmps29
          go_wp2_with fail
          refine hca.mono ?_
          rintro e w1 ⟨u, rfl, hu, hb1⟩
          clear hca hu
          go_wp2_with fail
          refine (hcb w1).mono ?_
          rintro e w2 ⟨v, rfl, hv, hb2⟩
          clear hv hcb
          go_wp2_with fail
          go_ret
          exact ⟨rfl, hb1.trans (hb2.mono hb1.size)⟩
        · have hv : bothB s a b = true := by unfold bothB; rw [hma, hmb, decide_eq_true h6]; rfl
          obtain ⟨n, x, y, rfl, rfl, rfl, h2, _, hx, hy, -, -, -, -⟩ := bothB_nat s a b hv
          have h64 : 2 ^ n ≤ 64 := by have h7 : 2 ^ n ≤ 2 ^ 6 := Nat.pow_le_pow_right (by omega) (by omega); exact h7
          rw [show mseqC (n : Int) x = (runL n x 1 (2 ^ n - 1), true) by unfold mseqC; rw [hma]; rfl] at hca
          have hcb : ∀ w1, Calls Try.prog 33 #[.int .i64 n, .int .i64 y] w1 (RetStrB (runL n y 1 (2 ^ n - 1)) true w1) := fun w1 => by
            have h := impl_MaximalSequence n y w1
            rwa [show mseqC (n : Int) y = (runL n y 1 (2 ^ n - 1), true) by unfold mseqC; rw [hmb]; rfl] at h
          have hM : isPrefC n x y = prefN n x y := by unfold isPrefC; rw [hv, decide_eq_true HAB.out]; rfl
          rw [hM]
          obtain ⟨t, ht⟩ : ∃ t, goldB n = t := ⟨_, rfl⟩
          have htb := goldB_bd n h2 (by omega)
          rw [ht] at htb
          have HG := Lib.hid ht
          obtain ⟨a, ha⟩ : ∃ a, ofL (runL n x 1 (2 ^ n - 1)) = a := ⟨_, rfl⟩
          obtain ⟨b, hb⟩ : ∃ b, ofL (runL n y 1 (2 ^ n - 1)) = b := ⟨_, rfl⟩
          have hsa : a.size ≤ 1048576 := by rw [← ha, size_ofL, runL_len]; omega
          have hsb : b.size ≤ 1048576 := by rw [← hb, size_ofL, runL_len]; omega
          have hP : prefN n x y = (valsL (tabL a b)).all (goodV t) := by unfold prefN; rw [ha, hb, ht]
          have hvl : (valsL (tabL a b)).length ≤ 255 := Nat.le_trans (valsL_len _) (tabL_len _ _)
          have hcv := fun w => impl_CrossValues a b w hsa hsb
          obtain ⟨vs, hvs⟩ : ∃ vs, valsL (tabL a b) = vs := ⟨_, rfl⟩
          rw [hvs] at hP hvl hcv
          rw [hP]
          have HCV := Lib.hid hcv
          have HCA := Lib.hid hca
          have HCB := Lib.hid hcb
          have HA := Lib.hid ha
          have HB := Lib.hid hb
          clear hP hcv hca hcb hvs ha hb ht hx hy h64 hv hma hmb hM
          go_enter Try.func29, Try.ntmps29
          go_wp2_with fail
          refine HCA.out.mono ?_
          rintro e w1 ⟨u, rfl, hu, hb1⟩
          obtain rfl : a = u := by rw [eq_ofL hu, HA.out]
          clear hu
          go_wp2_with fail
          refine (HCB.out w1).mono ?_
          rintro e w2 ⟨u, rfl, hu, hb2⟩
          obtain rfl : b = u := by rw [eq_ofL hu, HB.out]
          have hB2 := hb1.trans (hb2.mono hb1.size)
          clear hb1 hb2 hu
          go_wp2_with fail
          refine (impl_GoldBound (n : Int) w2).mono ?_
          rintro e w' ⟨rfl, rfl⟩
          rw [HG.out]
          go_wp2_with fail
          refine (HCV.out w2).mono ?_
          rintro e w3 ⟨A, m, c, rfl, ho, hb3⟩
          have hB3 := hB2.trans (hb3.mono hB2.size)
          have hx := own_rdI ho
          have hml : vs.length = m := by have := ho.1; simpa using this
          have HML := Lib.hid hml
          have hm255 : m ≤ 255 := by omega
          clear hb3 hB2 ho hml hvl
          go_wp2_with fail
          go_loop [45] (fun v => ∃ k : Nat, k ≤ m ∧ v = .int .i64 k ∧ Hid ((vs.take k).all (goodV t) = true)) (fun v => m - (intOf v).toNat)
          case atStart => exact ⟨0, Nat.zero_le _, rfl, by show _ = _; simp⟩
          case round =>
            obtain ⟨k, hk, rfl, hall⟩ := hrel
            by_cases hlt : k < m
            · obtain ⟨p, o, v, rfl, hpb, hvv, hcy⟩ := hx.at hlt
              have h1 : IntKind.i64.wrap (-t) = -t := IntWalk.i64_in _ ⟨by omega, by omega⟩
              rcases good_cases t v with ⟨e1, hg⟩ | ⟨e1, e2, hg⟩ | ⟨e1, e2, e3, hg⟩ | ⟨e1, e2, e3, hg⟩
              · have HG2 := Lib.hid hg
                clear hg
                go_wp2
                go_round
                case rel => exact ⟨k + 1, by omega, by go_num, allP_snoc _ _ _ _ hvv.out hall.out HG2.out⟩
                case measure => simp [intOf]; omega
              · have HG2 := Lib.hid hg
                clear hg
                go_wp2
                go_round
                case rel => exact ⟨k + 1, by omega, by go_num, allP_snoc _ _ _ _ hvv.out hall.out HG2.out⟩
                case measure => simp [intOf]; omega
              · have HG2 := Lib.hid hg
                clear hg
                go_wp2
                go_round
                case rel => exact ⟨k + 1, by omega, by go_num, allP_snoc _ _ _ _ hvv.out hall.out HG2.out⟩
                case measure => simp [intOf]; omega
              · have HG2 := Lib.hid hg
                clear hg
                go_wp2
                go_ret
                exact ⟨ret_bool (allP_false vs k _ v hvv.out HG2.out).symm, hB3⟩
            · go_wp2
              go_ret
              exact ⟨ret_bool (allP_take vs k _ (by rw [HML.out]; omega) hall.out).symm, hB3⟩
  · have hm : isPrefC s a b = false := by unfold isPrefC bothB; rw [decide_eq_false h6]; rfl
    rw [hm]
    clear hm
    go_enter Try.func29, Try.ntmps29
    go_wp2_with fail
    go_ret
    exact ⟨rfl, Below.refl _ _⟩

end Go.Proofs.Ytkebiigpfbconaa
