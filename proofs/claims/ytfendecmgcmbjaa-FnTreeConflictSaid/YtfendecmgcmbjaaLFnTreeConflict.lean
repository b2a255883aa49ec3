/- The walk of the law FnTreeConflict. Conditions: as the theorem says. -/
import Derived.Test.YtfendecmgcmbjaaC3
import Derived.Test.YtfendecmgcmbjaaC5
import Derived.Test.YtfendecmgcmbjaaC10
import Derived.Test.YtfendecmgcmbjaaDrawW
import Derived.Test.YtfendecmgcmbjaaPureC
namespace Go.Proofs.Ytfendecmgcmbjaa
open Go.RowKit
set_option linter.unusedSimpArgs false
set_option linter.unusedVariables false

set_option maxRecDepth 100000 in
set_option maxHeartbeats 2000000 in
theorem walk_FnTreeConflict (A : Option Addr) (n c : Nat) (zs : List Int) (w : World) (hx : RowIn .u8 w A n c zs) :
    Calls Try.prog 3 #[.slice A n c] w fun e w' => e = .returned (.bool true) ∧ Below w.heap.size w w' := by
  by_cases hbig_n : 1048576 < n
  · clear hx
    go_enter Try.func3, Try.ntmps3
    go_wp2
    go_ret
    exact ⟨rfl, Below.refl _ _⟩
  replace hbig_n : n ≤ 1048576 := by omega
  have hB0 : Below w.heap.size w w := Below.refl _ _
  go_enter Try.func3, Try.ntmps3
  go_wp2_with fail
  refine (spec_DrawTreeConflict _ _ _ _ _ hx).mono ?_
  rintro e w1 ⟨p, q, rfl, hp, hq, hb⟩
  have hS1 := hb.size
  have hB1 : Below w.heap.size w w1 := hB0.trans (hb.mono hB0.size)
  clear hb
  clear hx
  go_wp2_with fail
  refine (impl_TreeConflict p q _ (by unfold maxLen; omega) (by unfold maxLen; omega)).mono ?_
  rintro e w' ⟨rfl, rfl⟩
  go_wp2_with fail
  refine (spec_TreeConflict p q _ (by unfold maxLen; omega) (by unfold maxLen; omega)).mono ?_
  rintro e w2 hq
  obtain ⟨rfl, hb⟩ := retD_below hq
  clear hq
  have hS2 := hb.size
  have hB2 : Below w.heap.size w w2 := hB1.trans (hb.mono hB1.size)
  clear hb
  go_wp2_with fail
  refine (impl_TreeCode p _ (by unfold maxLen; omega)).mono ?_
  rintro e w3 ⟨a, rfl, ha, hb⟩
  have hS3 := hb.size
  have hB3 : Below w.heap.size w w3 := hB2.trans (hb.mono hB2.size)
  clear hb
  go_wp2_with fail
  refine (impl_TreeCode q _ (by unfold maxLen; omega)).mono ?_
  rintro e w4 ⟨b, rfl, hb', hb⟩
  have hS4 := hb.size
  have hB4 : Below w.heap.size w w4 := hB3.trans (hb.mono hB3.size)
  clear hb
  cases hpp : pathB p.data.toList
  · rw [show treeC p.data.toList = ([], false) by unfold treeC; rw [hpp]; rfl] at ha ⊢
    rw [show treeConfB p.data.toList q.data.toList = false by unfold treeConfB; rw [hpp]; rfl]
    cases (treeC q.data.toList).2
    all_goals
      go_wp2_with fail
      go_ret
      exact ⟨rfl, hB4⟩
  · rw [show treeC p.data.toList = (treeL p.data.toList, true) by unfold treeC; rw [hpp]; rfl] at ha ⊢
    cases hqq : pathB q.data.toList
    · rw [show treeC q.data.toList = ([], false) by unfold treeC; rw [hqq]; rfl] at hb' ⊢
      rw [show treeConfB p.data.toList q.data.toList = false by unfold treeConfB; rw [hpp, hqq]; rfl]
      go_wp2_with fail
      go_ret
      exact ⟨rfl, hB4⟩
    · rw [show treeC q.data.toList = (treeL q.data.toList, true) by unfold treeC; rw [hqq]; rfl] at hb' ⊢
      have htc : treeConfB p.data.toList q.data.toList = conflB p.data.toList q.data.toList := by unfold treeConfB; rw [hpp, hqq]; rfl
      have htc2 : treeConfB q.data.toList p.data.toList = conflB p.data.toList q.data.toList := by unfold treeConfB; rw [hpp, hqq, confl_symm]; rfl
      rw [htc]
      replace ha : a.data.toList = treeL p.data.toList := ha
      replace hb' : b.data.toList = treeL q.data.toList := hb'
      have hp6 := path_bd p hpp
      have hq6 := path_bd q hqq
      have hpb := path_bits _ hpp
      have hqb := path_bits _ hqq
      have has : a.size = 2 ^ p.size := by rw [str_size ha, treeL_len, len_data]
      have hbs : b.size = 2 ^ q.size := by rw [str_size hb', treeL_len, len_data]
      have HA := Lib.hid ha
      have HB := Lib.hid hb'
      have HPB := Lib.hid hpb
      have HQB := Lib.hid hqb
      have HAS := Lib.hid has
      have HBS := Lib.hid hbs
      have HTC2 := Lib.hid htc2
      clear ha hb' hpb hqb has hbs hpp hqq htc htc2
      obtain ⟨ok, hok⟩ : ∃ ok, conflB p.data.toList q.data.toList = ok := ⟨_, rfl⟩
      rw [hok] at HTC2 ⊢
      have HOK := Lib.hid hok
      clear hok
      have hle : p.size ≤ q.size → a.size ≤ b.size := fun h => by rw [HAS.out, HBS.out]; exact Nat.pow_le_pow_right (by omega) h
      have hlt : q.size < p.size → b.size < a.size := fun h => by rw [HAS.out, HBS.out]; exact Nat.pow_lt_pow_right (by omega) h
      have hA64 : a.size ≤ 64 := by rw [HAS.out]; have h5 : 2 ^ p.size ≤ 2 ^ 6 := Nat.pow_le_pow_right (by omega) hp6; exact h5
      have hB64 : b.size ≤ 64 := by rw [HBS.out]; have h5 : 2 ^ q.size ≤ 2 ^ 6 := Nat.pow_le_pow_right (by omega) hq6; exact h5
      have hA1 : 1 ≤ a.size := by rw [HAS.out]; exact Nat.one_le_two_pow
      have hB1 : 1 ≤ b.size := by rw [HBS.out]; exact Nat.one_le_two_pow
      by_cases hpq : p.size ≤ q.size
      · have hlen : decide (b.size < a.size) = false := decide_eq_false (by have := hle hpq; omega)
        have hlen2 := hle hpq
        clear hle hlt
        have HD := Lib.hid (fun (j : Nat) (hj : j < 2 ^ (q.size - p.size)) => part_dot p.data.toList q.data.toList j HPB.out HQB.out (by rw [len_data, len_data]; omega) (by rw [len_data, len_data]; exact hj))
        have HK : a.size * 2 ^ (q.size - p.size) = b.size := by rw [HAS.out, HBS.out, ← Nat.pow_add]; congr 1; omega
        obtain ⟨K, hK⟩ : ∃ K, 2 ^ (q.size - p.size) = K := ⟨_, rfl⟩
        have hK1 : 1 ≤ K := by rw [← hK]; exact Nat.one_le_two_pow
        rw [hK] at HK HD
        have HKK := Lib.hid hK
        clear hK
        go_wp2_with fail
        go_loopw [10, 11, 12, 13] (fun z v _ _ wr => ∃ j I d : Nat, j ≤ K ∧ a.size * j = I ∧ v = .int .i64 I ∧ z = .bool (j == 0 || !ok) ∧ w4.drewN d = wr) (fun _ v _ _ _ => b.size - (intOf v).toNat)
        case atStart => exact ⟨0, 0, 0, Nat.zero_le _, rfl, rfl, rfl, rfl⟩
        case round =>
          obtain ⟨j, I, d, hj, hI, rfl, rfl, rfl⟩ := hrel
          by_cases hlt2 : j < K
          · have hnext : a.size * (j + 1) = I + a.size := by rw [Nat.mul_succ, hI]
            have hIb : I + a.size ≤ b.size := by rw [← hnext, ← HK]; exact Nat.mul_le_mul_left _ hlt2
            have HNEXT := Lib.hid hnext
            have HI := Lib.hid hI
            have HKm := Lib.hid HK
            have hd := HD.out j hlt2
            have hext : (b.extract I (I + a.size)).data.toList = partL p.data.toList q.data.toList j := by
              rw [← ByteArray.toList_eq, Lib.extract_toList, HB.out, ← HI.out]
              unfold partL
              rw [len_data, ← HAS.out, Nat.add_sub_cancel_left]
            have hexs : (b.extract I (I + a.size)).size = a.size := by rw [ByteArray.size_extract]; omega
            have hcor : corL a.data.toList (b.extract I (I + a.size)).data.toList 0 = if ok = true then (if wP (q.data.toList.drop p.data.toList.length) j = 0 then (a.size : Int) else -(a.size : Int)) else 0 := by
              rw [corL_zero _ _ (by rw [len_data, len_data]; exact hexs.symm), hext, HA.out, hd, HOK.out, len_data, ← HAS.out]
            have hsq1 : seqB a.data.toList = true := by
              simp only [seqB, HA.out, treeL_bits, treeL_len, len_data, ← HAS.out, Bool.and_true, Bool.and_eq_true, decide_eq_true_eq]
              omega
            have hsq2 : seqB (b.extract I (I + a.size)).data.toList = true := by
              have h6 : (partL p.data.toList q.data.toList j).all isBit = true := by
                unfold partL
                exact List.all_eq_true.2 fun c hc => List.all_eq_true.1 (treeL_bits _) c (List.mem_of_mem_drop (List.mem_of_mem_take hc))
              have h7 : (b.extract I (I + a.size)).data.toList.length = a.size := by rw [len_data]; exact hexs
              rw [hext] at h7 ⊢
              simp only [seqB, h6, h7, Bool.and_true, Bool.and_eq_true, decide_eq_true_eq]
              omega
            have HCOR := Lib.hid hcor
            have HSQ1 := Lib.hid hsq1
            have HSQ2 := Lib.hid hsq2
            have HEXS := Lib.hid hexs
            clear hd hext hexs hcor hsq1 hsq2 hnext hI
            go_wp2_with fail
            refine (impl_CrossOf a (b.extract I (I + a.size)) 0 _ HSQ1.out HSQ2.out HEXS.out.symm (by rw [HEXS.out]; omega)).mono ?_
            rintro e w9 ⟨rfl, e2, rfl⟩
            rw [HCOR.out]
            cases ok
            · rw [if_neg (by decide), Bool.not_false, Bool.or_true]
              go_wp2_with fail
              go_roundw
              case rel => exact ⟨j + 1, I + a.size, _, by omega, HNEXT.out, by go_num, by rw [Bool.not_false, Bool.or_true], rfl⟩
              case measure => simp [intOf] <;> omega
            · rw [if_pos rfl, Bool.not_true, Bool.or_false]
              have e1 : ((a.size : Int) == 0) = false := beq_eq_false_iff_ne.2 (by omega)
              have e2 : ((-(a.size : Int)) == 0) = false := beq_eq_false_iff_ne.2 (by omega)
              have e3 : ((-(a.size : Int)) == (a.size : Int)) = false := beq_eq_false_iff_ne.2 (by omega)
              have f1 : ((a.size : Int) != 0) = true := by rw [bne, e1]; rfl
              have f2 : ((-(a.size : Int)) != 0) = true := by rw [bne, e2]; rfl
              have f3 : ((-(a.size : Int)) != (a.size : Int)) = true := by rw [bne, e3]; rfl
              by_cases hw : wP (q.data.toList.drop p.data.toList.length) j = 0
              · rw [if_pos hw]
                clear hw
                cases hj0 : (j == 0)
                all_goals
                  go_wp2_with fail
                  go_roundw
                  case rel => exact ⟨j + 1, I + a.size, _, by omega, HNEXT.out, by go_num, by simp, rfl⟩
                  case measure => simp [intOf] <;> omega
              · rw [if_neg hw]
                clear hw
                cases hj0 : (j == 0)
                all_goals
                  go_wp2_with fail
                  go_roundw
                  case rel => exact ⟨j + 1, I + a.size, _, by omega, HNEXT.out, by go_num, by simp, rfl⟩
                  case measure => simp [intOf] <;> omega
          · obtain rfl : K = j := by omega
            obtain rfl : I = b.size := by rw [← hI]; exact HK
            have hj0 : (K == 0) = false := beq_eq_false_iff_ne.2 (by omega)
            rw [hj0, Bool.false_or]
            have hb9 := below_drewN hB4 d
            generalize w4.drewN d = w9 at hb9 ⊢
            cases ok
            all_goals
              go_wp2_with fail
              refine (impl_TreeConflict q p _ (by unfold maxLen; omega) (by unfold maxLen; omega)).mono ?_
              rw [HTC2.out]
              rintro e w' ⟨rfl, rfl⟩
              go_wp2_with fail
              go_ret
              exact ⟨rfl, hb9⟩
      · have hlen : decide (b.size < a.size) = true := decide_eq_true (hlt (by omega))
        have hlen2 := hlt (by omega)
        have HOKs := Lib.hid (show conflB q.data.toList p.data.toList = ok by rw [confl_symm]; exact HOK.out)
        clear hle hlt
        have HD := Lib.hid (fun (j : Nat) (hj : j < 2 ^ (p.size - q.size)) => part_dot q.data.toList p.data.toList j HQB.out HPB.out (by rw [len_data, len_data]; omega) (by rw [len_data, len_data]; exact hj))
        have HK : b.size * 2 ^ (p.size - q.size) = a.size := by rw [HBS.out, HAS.out, ← Nat.pow_add]; congr 1; omega
        obtain ⟨K, hK⟩ : ∃ K, 2 ^ (p.size - q.size) = K := ⟨_, rfl⟩
        have hK1 : 1 ≤ K := by rw [← hK]; exact Nat.one_le_two_pow
        rw [hK] at HK HD
        have HKK := Lib.hid hK
        clear hK
        go_wp2_with fail
        go_loopw [10, 11, 12, 13] (fun z v _ _ wr => ∃ j I d : Nat, j ≤ K ∧ b.size * j = I ∧ v = .int .i64 I ∧ z = .bool (j == 0 || !ok) ∧ w4.drewN d = wr) (fun _ v _ _ _ => a.size - (intOf v).toNat)
        case atStart => exact ⟨0, 0, 0, Nat.zero_le _, rfl, rfl, rfl, rfl⟩
        case round =>
          obtain ⟨j, I, d, hj, hI, rfl, rfl, rfl⟩ := hrel
          by_cases hlt2 : j < K
          · have hnext : b.size * (j + 1) = I + b.size := by rw [Nat.mul_succ, hI]
            have hIb : I + b.size ≤ a.size := by rw [← hnext, ← HK]; exact Nat.mul_le_mul_left _ hlt2
            have HNEXT := Lib.hid hnext
            have HI := Lib.hid hI
            have HKm := Lib.hid HK
            have hd := HD.out j hlt2
            have hext : (a.extract I (I + b.size)).data.toList = partL q.data.toList p.data.toList j := by
              rw [← ByteArray.toList_eq, Lib.extract_toList, HA.out, ← HI.out]
              unfold partL
              rw [len_data, ← HBS.out, Nat.add_sub_cancel_left]
            have hexs : (a.extract I (I + b.size)).size = b.size := by rw [ByteArray.size_extract]; omega
            have hcor : corL b.data.toList (a.extract I (I + b.size)).data.toList 0 = if ok = true then (if wP (p.data.toList.drop q.data.toList.length) j = 0 then (b.size : Int) else -(b.size : Int)) else 0 := by
              rw [corL_zero _ _ (by rw [len_data, len_data]; exact hexs.symm), hext, HB.out, hd, HOKs.out, len_data, ← HBS.out]
            have hsq1 : seqB b.data.toList = true := by
              simp only [seqB, HB.out, treeL_bits, treeL_len, len_data, ← HBS.out, Bool.and_true, Bool.and_eq_true, decide_eq_true_eq]
              omega
            have hsq2 : seqB (a.extract I (I + b.size)).data.toList = true := by
              have h6 : (partL q.data.toList p.data.toList j).all isBit = true := by
                unfold partL
                exact List.all_eq_true.2 fun c hc => List.all_eq_true.1 (treeL_bits _) c (List.mem_of_mem_drop (List.mem_of_mem_take hc))
              have h7 : (a.extract I (I + b.size)).data.toList.length = b.size := by rw [len_data]; exact hexs
              rw [hext] at h7 ⊢
              simp only [seqB, h6, h7, Bool.and_true, Bool.and_eq_true, decide_eq_true_eq]
              omega
            have HCOR := Lib.hid hcor
            have HSQ1 := Lib.hid hsq1
            have HSQ2 := Lib.hid hsq2
            have HEXS := Lib.hid hexs
            clear hd hext hexs hcor hsq1 hsq2 hnext hI
            go_wp2_with fail
            refine (impl_CrossOf b (a.extract I (I + b.size)) 0 _ HSQ1.out HSQ2.out HEXS.out.symm (by rw [HEXS.out]; omega)).mono ?_
            rintro e w9 ⟨rfl, e2, rfl⟩
            rw [HCOR.out]
            cases ok
            · rw [if_neg (by decide), Bool.not_false, Bool.or_true]
              go_wp2_with fail
              go_roundw
              case rel => exact ⟨j + 1, I + b.size, _, by omega, HNEXT.out, by go_num, by rw [Bool.not_false, Bool.or_true], rfl⟩
              case measure => simp [intOf] <;> omega
            · rw [if_pos rfl, Bool.not_true, Bool.or_false]
              have e1 : ((b.size : Int) == 0) = false := beq_eq_false_iff_ne.2 (by omega)
              have e2 : ((-(b.size : Int)) == 0) = false := beq_eq_false_iff_ne.2 (by omega)
              have e3 : ((-(b.size : Int)) == (b.size : Int)) = false := beq_eq_false_iff_ne.2 (by omega)
              have f1 : ((b.size : Int) != 0) = true := by rw [bne, e1]; rfl
              have f2 : ((-(b.size : Int)) != 0) = true := by rw [bne, e2]; rfl
              have f3 : ((-(b.size : Int)) != (b.size : Int)) = true := by rw [bne, e3]; rfl
              by_cases hw : wP (p.data.toList.drop q.data.toList.length) j = 0
              · rw [if_pos hw]
                clear hw
                cases hj0 : (j == 0)
                all_goals
                  go_wp2_with fail
                  go_roundw
                  case rel => exact ⟨j + 1, I + b.size, _, by omega, HNEXT.out, by go_num, by simp, rfl⟩
                  case measure => simp [intOf] <;> omega
              · rw [if_neg hw]
                clear hw
                cases hj0 : (j == 0)
                all_goals
                  go_wp2_with fail
                  go_roundw
                  case rel => exact ⟨j + 1, I + b.size, _, by omega, HNEXT.out, by go_num, by simp, rfl⟩
                  case measure => simp [intOf] <;> omega
          · obtain rfl : K = j := by omega
            obtain rfl : I = a.size := by rw [← hI]; exact HK
            have hj0 : (K == 0) = false := beq_eq_false_iff_ne.2 (by omega)
            rw [hj0, Bool.false_or]
            have hb9 := below_drewN hB4 d
            generalize w4.drewN d = w9 at hb9 ⊢
            cases ok
            all_goals
              go_wp2_with fail
              refine (impl_TreeConflict q p _ (by unfold maxLen; omega) (by unfold maxLen; omega)).mono ?_
              rw [HTC2.out]
              rintro e w' ⟨rfl, rfl⟩
              go_wp2_with fail
              go_ret
              exact ⟨rfl, hb9⟩

end Go.Proofs.Ytfendecmgcmbjaa
