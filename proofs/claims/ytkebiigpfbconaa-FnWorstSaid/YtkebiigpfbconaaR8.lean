/- What Gold codes and their families give back, in the program and in the reference. Conditions: as each theorem says. -/
import Derived.Test.YtkebiigpfbconaaR7
import Derived.Test.YtkebiigpfbconaaR5
import Derived.Test.YtkebiigpfbconaaC7
import Derived.Test.YtkebiigpfbconaaC10
import Derived.Test.YtkebiigpfbconaaC11
namespace Go.Proofs.Ytkebiigpfbconaa
open Go.RowKit
set_option linter.unusedSimpArgs false
set_option linter.unusedVariables false
set_option maxRecDepth 100000

def bothB (s a b : Int) : Bool := decide (s ≤ 6) && (maxI s a && maxI s b)
def goldC (s a b k : Int) : List UInt8 × Bool := if bothB s a b = true ∧ -2 ≤ k ∧ k ≤ two s - 2 then (goldL s.toNat a.toNat b.toNat k, true) else ([], false)
theorem bothB_nat (s a b : Int) (h : bothB s a b = true) : ∃ n x y : Nat, s = n ∧ a = x ∧ b = y ∧ 2 ≤ n ∧ n ≤ 6 ∧ x < 2 ^ n ∧ y < 2 ^ n ∧ 1 ≤ x ∧ 1 ≤ y ∧ maxB n x = true ∧ maxB n y = true := by
  unfold bothB maxI at h
  simp only [Bool.and_eq_true, decide_eq_true_eq] at h
  obtain ⟨n, x, rfl, rfl, h2, h8, h1, hx⟩ := taps_nat s a h.2.1.1
  obtain ⟨n', y, hn, rfl, _, _, h1', hy⟩ := taps_nat n b h.2.2.1
  obtain rfl : n = n' := by omega
  exact ⟨n, x, y, rfl, rfl, rfl, h2, by omega, hx, hy, h1, h1', h.2.1.2, h.2.2.2⟩
theorem goldC_no (s a b k : Int) (h : bothB s a b = false) : goldC s a b k = ([], false) := by unfold goldC; rw [h, if_neg (by simp)]
theorem goldC_out (s a b k : Int) (h : ¬ (-2 ≤ k ∧ k ≤ two s - 2)) : goldC s a b k = ([], false) := by unfold goldC; rw [if_neg (fun hh => h hh.2)]
theorem goldC_in (s a b k : Int) (h : bothB s a b = true) (h1 : -2 ≤ k) (h2 : k ≤ two s - 2) : goldC s a b k = (goldL s.toNat a.toNat b.toNat k, true) := by unfold goldC; rw [if_pos ⟨h, h1, h2⟩]
set_option maxHeartbeats 1000000 in
theorem spec_l3Both (s a b : Int) (w : World) :
    Calls Try.prog 67 #[.int .i64 s, .int .i64 a, .int .i64 b] w fun e w' => e = .returned (.bool (bothB s a b)) ∧ Below w.heap.size w w' := by
  by_cases h6 : s ≤ 6
  · have hb : bothB s a b = (maxI s a && maxI s b) := by unfold bothB; rw [decide_eq_true h6, Bool.true_and]
    rw [hb]
    clear hb
    go_enter Try.func67, Try.ntmps67
    go_wp2_with fail
    refine (spec_IsMaximal s a w).mono ?_
    rintro e w1 ⟨rfl, hb1⟩
    cases hm : maxI s a
    · go_wp2_with fail
      go_ret
      exact ⟨ret_bool (by rw [hm]; rfl), hb1⟩
    · go_wp2_with fail
      refine (spec_IsMaximal s b w1).mono ?_
      rintro e w2 ⟨rfl, hb2⟩
      go_wp2_with fail
      go_ret
      exact ⟨ret_bool (by rw [hm]; rfl), hb1.trans (hb2.mono hb1.size)⟩
  · have hb : bothB s a b = false := by unfold bothB; rw [decide_eq_false h6]; rfl
    rw [hb]
    clear hb
    go_enter Try.func67, Try.ntmps67
    go_wp2_with fail
    go_ret
    exact ⟨rfl, Below.refl _ _⟩
set_option maxHeartbeats 1000000 in
theorem impl_ShiftBits (s : ByteArray) (k : Nat) (w : World) (hs : seqB s.data.toList = true) (hk : k < s.size) :
    Calls Try.prog 58 #[.string s, .int .i64 k] w fun e w' => ∃ (t : ByteArray) (m : Nat), e = .returned (.tuple #[.string t, .bool true]) ∧ t.data.toList = rotL s.data.toList k ∧ w' = w.drewN m := by
  have hb := seqB_bd s hs
  have HM := Lib.hid (Nat.mod_eq_of_lt hk)
  have HS := Lib.hid hs
  clear hs
  go_enter Try.func58, Try.ntmps58
  go_wp2_with (first
    | (go_at_call 11; refine (impl_SequenceValid _ _ (by unfold maxLen; omega)).mono ?_; rintro e w' ⟨rfl, rfl⟩; rw [HS.out])
    | (go_at_call 86; refine (impl_modulo k s.size _ (by omega) (by omega) (by omega)).mono ?_; rintro e w' ⟨rfl, rfl⟩; rw [HM.out]))
  go_quiet (fail)
  go_wp2
  go_ret2
  refine ⟨_, _, rfl, ?_, rfl⟩
  rw [str_app (l := s.data.toList.drop k) (m := s.data.toList.take k) ?_ ?_]; rfl
  · rw [← ByteArray.toList_eq, Lib.extract_toList, List.take_of_length_le (by rw [List.length_drop, len_data]; exact Nat.le_refl _)]
  · rw [← ByteArray.toList_eq]; exact extract0_list s k
theorem runL_seq (n a x k : Nat) (h1 : 1 ≤ k) (h2 : k ≤ 255) : seqB (runL n a x k) = true := by
  unfold seqB
  rw [runL_bits, runL_len, decide_eq_true h1, decide_eq_true h2]; rfl
set_option maxHeartbeats 2000000 in
theorem impl_GoldCode (s a b k : Int) (w : World) :
    Calls Try.prog 66 #[.int .i64 s, .int .i64 a, .int .i64 b, .int .i64 k] w (RetStrB (goldC s a b k).1 (goldC s a b k).2 w) := by
  by_cases h6 : s ≤ 6
  · have hca := impl_MaximalSequence s a w
    cases hma : maxI s a
    · rw [goldC_no s a b k (by unfold bothB; rw [hma]; simp)]
      rw [show mseqC s a = ([], false) by unfold mseqC; rw [hma]; rfl] at hca
      clear hma
      go_enter Try.func66, Try.ntmps66
      go_wp2_with fail
      refine hca.mono ?_
      rintro e w1 ⟨u, rfl, hu, hb1⟩
      clear hca hu
      go_wp2_with fail
      refine (impl_MaximalSequence s b w1).mono ?_
      rintro e w2 ⟨v, rfl, hv, hb2⟩
      clear hv
      generalize (mseqC s b).2 = q
      go_wp2_with fail
      go_ret2
      exact ⟨_, rfl, rfl, hb1.trans (hb2.mono hb1.size)⟩
    · cases hmb : maxI s b
      · rw [goldC_no s a b k (by unfold bothB; rw [hmb]; simp)]
        rw [show mseqC s a = (runL s.toNat a.toNat 1 (2 ^ s.toNat - 1), true) by unfold mseqC; rw [hma]; rfl] at hca
        have hcb : ∀ w1, Calls Try.prog 33 #[.int .i64 s, .int .i64 b] w1 (RetStrB [] false w1) := fun w1 => by
          have h := impl_MaximalSequence s b w1
          rwa [show mseqC s b = ([], false) by unfold mseqC; rw [hmb]; rfl] at h
        clear hma hmb
        go_enter Try.func66, Try.ntmps66
        go_wp2_with fail
        refine hca.mono ?_
        rintro e w1 ⟨u, rfl, hu, hb1⟩
        clear hca hu
        go_wp2_with fail
        refine (hcb w1).mono ?_
        rintro e w2 ⟨v, rfl, hv, hb2⟩
        clear hv hcb
        go_wp2_with fail
        go_ret2
        exact ⟨_, rfl, rfl, hb1.trans (hb2.mono hb1.size)⟩
      · have hv : bothB s a b = true := by unfold bothB; rw [hma, hmb, decide_eq_true h6]; rfl
        have HMA := Lib.hid hma
        have HMB := Lib.hid hmb
        obtain ⟨n, x, y, rfl, rfl, rfl, h2, _, hx, hy, -, -, -, -⟩ := bothB_nat s a b hv
        have h64 : 2 ^ n ≤ 64 := by have h7 : 2 ^ n ≤ 2 ^ 6 := Nat.pow_le_pow_right (by omega) (by omega); exact h7
        have h4 : 4 ≤ 2 ^ n := by have h7 : 2 ^ 2 ≤ 2 ^ n := Nat.pow_le_pow_right (by omega) h2; exact h7
        have htw := two_int n
        rw [show mseqC (n : Int) x = (runL n x 1 (2 ^ n - 1), true) by unfold mseqC; rw [hma]; rfl] at hca
        have hcb : ∀ w1, Calls Try.prog 33 #[.int .i64 n, .int .i64 y] w1 (RetStrB (runL n y 1 (2 ^ n - 1)) true w1) := fun w1 => by
          have h := impl_MaximalSequence n y w1
          rwa [show mseqC (n : Int) y = (runL n y 1 (2 ^ n - 1), true) by unfold mseqC; rw [hmb]; rfl] at h
        have HGO := Lib.hid (goldC_out (n : Int) x y k)
        have HGI := Lib.hid (goldC_in (n : Int) x y k hv)
        have HGL := Lib.hid (goldL_k n x y)
        obtain ⟨N, hN⟩ : ∃ N, 2 ^ n = N := ⟨_, rfl⟩
        have HN := Lib.hid hN
        rw [hN] at htw h64 h4 hca hcb HGL
        rw [htw] at HGO HGI
        have w1 : wrap64 (2 ^ n) = (N : Int) := (IntWalk.wrap64_in ((2 : Int) ^ n) (by rw [show (2 : Int) ^ n = (N : Int) by rw [← hN]; simp]; exact ⟨by omega, by omega⟩)).trans (by rw [← hN]; simp)
        have w2 : wrap64 (2 ^ (n : Int).toNat) = (N : Int) := w1
        have w3 : IntKind.i64.wrap ((N : Int) - 2) = (N : Int) - 2 := (IntWalk.i64_in _ ⟨by omega, by omega⟩)
        have HCA := Lib.hid hca
        have HCB := Lib.hid hcb
        clear hv hx hy hN hma hmb hca hcb htw
        by_cases hk : -2 ≤ k ∧ k ≤ (N : Int) - 2
        · rw [HGI.out hk.1 hk.2, Int.toNat_natCast, Int.toNat_natCast, Int.toNat_natCast]
          obtain ⟨hk1, hk2⟩ := hk
          go_enter Try.func66, Try.ntmps66
          go_wp2_with fail
          refine HCA.out.mono ?_
          rintro e wa ⟨u, rfl, hu, hb1⟩
          have hus : u.size = N - 1 := by rw [str_size hu, runL_len]
          have HU := Lib.hid hu
          clear hu
          go_wp2_with fail
          refine (HCB.out wa).mono ?_
          rintro e wb ⟨v, rfl, hv, hb2⟩
          have hvs : v.size = N - 1 := by rw [str_size hv, runL_len]
          have HV := Lib.hid hv
          have hB := hb1.trans (hb2.mono hb1.size)
          clear hv hb1 hb2
          by_cases e0 : k = -2
          · subst e0
            go_wp2_with fail
            go_ret2
            exact ⟨u, rfl, by rw [goldL_a, HN.out]; exact HU.out, hB⟩
          · by_cases e1 : k = -1
            · subst e1
              go_wp2_with fail
              go_ret2
              exact ⟨v, rfl, by rw [goldL_b, HN.out]; exact HV.out, hB⟩
            · obtain ⟨j, rfl⟩ := Int.eq_ofNat_of_zero_le (show 0 ≤ k by omega)
              have d0 : ((j : Int) == -2) = false := beq_eq_false_iff_ne.2 e0
              have d1 : ((j : Int) == -1) = false := beq_eq_false_iff_ne.2 e1
              clear e0 e1
              go_wp2_with fail
              refine (impl_ShiftBits v j _ (by rw [HV.out]; exact runL_seq _ _ _ _ (by omega) (by omega)) (by omega)).mono ?_
              rintro e wc ⟨t, m, rfl, ht, rfl⟩
              rw [HV.out] at ht
              have hts : t.size = N - 1 := by rw [str_size ht, rotL_len _ _ (by rw [runL_len]; omega), runL_len]
              have HT := Lib.hid ht
              clear ht
              go_wp2_with fail
              refine (impl_AddBits u t _ (by rw [HU.out]; exact runL_seq _ _ _ _ (by omega) (by omega)) (by
                rw [HT.out]; unfold seqB
                rw [rotL_bits _ _ (runL_bits _ _ _ _), rotL_len _ _ (by rw [runL_len]; omega), runL_len, decide_eq_true (show 1 ≤ N - 1 by omega), decide_eq_true (show N - 1 ≤ 255 by omega)]; rfl) (by omega)).mono ?_
              rintro e wd ⟨r, rfl, hr, hb4⟩
              rw [HU.out, HT.out] at hr
              have HR := Lib.hid hr
              have hB4 : Below w.heap.size w wd := hB.trans ((show Below wb.heap.size wb wd from ⟨hb4.os, hb4.tape, hb4.output, hb4.size, hb4.block⟩).mono hB.size)
              clear hr hb4 hB
              go_wp2_with fail
              go_ret2
              exact ⟨r, rfl, by rw [HGL.out]; exact HR.out, hB4⟩
        · rw [HGO.out hk]
          have hcs : k < -2 ∨ (-2 ≤ k ∧ (N : Int) - 2 < k) := by omega
          clear hk
          rcases hcs with hk | ⟨hk0, hk⟩
          all_goals
            go_enter Try.func66, Try.ntmps66
            go_wp2_with fail
            refine HCA.out.mono ?_
            rintro e wa ⟨u, rfl, hu, hb1⟩
            clear hu
            go_wp2_with fail
            refine (HCB.out wa).mono ?_
            rintro e wb ⟨v, rfl, hv, hb2⟩
            have hB := hb1.trans (hb2.mono hb1.size)
            clear hv hb1 hb2
            go_wp2_with fail
            go_ret2
            exact ⟨_, rfl, rfl, hB⟩
  · rw [goldC_no s a b k (by unfold bothB; rw [decide_eq_false h6]; rfl)]
    go_enter Try.func66, Try.ntmps66
    go_wp2_with fail
    go_ret2
    exact ⟨_, rfl, rfl, Below.refl _ _⟩

end Go.Proofs.Ytkebiigpfbconaa
