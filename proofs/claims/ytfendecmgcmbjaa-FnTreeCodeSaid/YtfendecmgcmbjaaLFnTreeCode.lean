/- The walk of the law FnTreeCode. Conditions: as the theorem says. -/
import Derived.Test.YtfendecmgcmbjaaC5
import Derived.Test.YtfendecmgcmbjaaC6
import Derived.Test.YtfendecmgcmbjaaC10
import Derived.Test.YtfendecmgcmbjaaDrawW
import Derived.Test.YtfendecmgcmbjaaPureW
namespace Go.Proofs.Ytfendecmgcmbjaa
open Go.RowKit
set_option linter.unusedSimpArgs false
set_option linter.unusedVariables false

set_option maxRecDepth 100000 in
set_option maxHeartbeats 2000000 in
theorem walk_FnTreeCode (A : Option Addr) (n c : Nat) (zs : List Int) (w : World) (hx : RowIn .u8 w A n c zs) :
    Calls Try.prog 6 #[.slice A n c] w fun e w' => e = .returned (.bool true) ∧ Below w.heap.size w w' := by
  by_cases hbig_n : 1048576 < n
  · clear hx
    go_enter Try.func6, Try.ntmps6
    go_wp2
    go_ret
    exact ⟨rfl, Below.refl _ _⟩
  replace hbig_n : n ≤ 1048576 := by omega
  have hB0 : Below w.heap.size w w := Below.refl _ _
  go_enter Try.func6, Try.ntmps6
  go_wp2_with fail
  refine (spec_DrawTreeCode _ _ _ _ _ hx).mono ?_
  rintro e w1 ⟨p, rfl, hp, hb⟩
  have hS1 := hb.size
  have hB1 : Below w.heap.size w w1 := hB0.trans (hb.mono hB0.size)
  clear hb
  clear hx
  go_wp2_with fail
  refine (impl_TreeCode p _ (by unfold maxLen; omega)).mono ?_
  rintro e w2 ⟨s, rfl, hs, hb⟩
  have hS2 := hb.size
  have hB2 : Below w.heap.size w w2 := hB1.trans (hb.mono hB1.size)
  clear hb
  go_wp2_with fail
  refine (spec_TreeCode p _ (by unfold maxLen; omega)).mono ?_
  rintro e w3 ⟨r, rfl, hr, hb⟩
  have hS3 := hb.size
  have hB3 : Below w.heap.size w w3 := hB2.trans (hb.mono hB2.size)
  clear hb
  obtain rfl := str_eq hs hr
  clear hr
  cases hpath : pathB p.data.toList
  · rw [show treeC p.data.toList = ([], false) by unfold treeC; rw [hpath]; rfl] at hs ⊢
    go_wp2_with fail
    go_ret
    exact ⟨rfl, hB3⟩
  · rw [show treeC p.data.toList = (treeL p.data.toList, true) by unfold treeC; rw [hpath]; rfl] at hs ⊢
    replace hs : s.data.toList = treeL p.data.toList := hs
    have hp6 := path_bd p hpath
    have hbits := path_bits _ hpath
    have hw := treeL_walsh p.data.toList
    have hvl := valP_lt p.data.toList
    rw [len_data] at hw hvl
    have hwi := windex_walsh p.size (valP p.data.toList) hp6 hvl
    rw [← hw, ← hs] at hwi
    have hss : s.size = 2 ^ p.size := by rw [str_size hs, treeL_len, len_data]
    have hP : 2 ^ p.size ≤ 64 := by have h5 : 2 ^ p.size ≤ 2 ^ 6 := Nat.pow_le_pow_right (by omega) hp6; exact h5
    obtain ⟨P, hPe⟩ : ∃ P, 2 ^ p.size = P := ⟨_, rfl⟩
    have hW1 := wrap_pow p.size (by omega)
    have hW2 : wrap64 ((2 : Int) ^ (p.size : Int).toNat) = ((2 ^ p.size : Nat) : Int) := by rw [Int.toNat_natCast]; exact hW1
    rw [hPe] at hvl hss hP hW1 hW2
    have HW1 := Lib.hid hW1
    have HW2 := Lib.hid hW2
    have HPE := Lib.hid hPe
    have HWI := Lib.hid hwi
    have HS := Lib.hid hs
    have HBITS := Lib.hid hbits
    have HPATH := Lib.hid hpath
    clear hw hwi hs hbits hpath hPe hW1 hW2
    go_wp2_with fail
    refine (impl_WalshIndex s _ (by omega)).mono ?_
    rw [HWI.out]
    rintro e w4 ⟨rfl, hb⟩
    have hS4 := hb.size
    have hB4 : Below w.heap.size w w4 := hB3.trans (hb.mono hB3.size)
    clear hb
    go_wp2_with fail
    go_loopw [10, 11] (fun o v wr => ∃ i : Nat, i ≤ p.size ∧ v = .int .i64 i ∧ o = .int .i64 (valP (p.data.toList.take i) : Nat) ∧ w4 = wr) (fun _ v _ => p.size - (intOf v).toNat)
    case atStart => exact ⟨0, Nat.zero_le _, rfl, rfl, rfl⟩
    case round =>
      obtain ⟨i, hi, rfl, rfl, rfl⟩ := hrel
      have hvi := valP_lt (p.data.toList.take i)
      rw [List.length_take, len_data, Nat.min_eq_left hi] at hvi
      have hpi : 2 ^ i ≤ 64 := by have h5 : 2 ^ i ≤ 2 ^ 6 := Nat.pow_le_pow_right (by omega) (by omega); exact h5
      by_cases hlt : i < p.size
      · have hsn := valP_snoc (p.data.toList.take i) p[i]
        rw [← take_snoc p i hlt, List.length_take, len_data, Nat.min_eq_left hi] at hsn
        have hbit := bit_toNat _ (List.all_eq_true.1 HBITS.out p[i] (List.mem_of_getElem? (data_at p i hlt)))
        have hw1 := wrap_pow i (by omega)
        have HWa := Lib.hid hw1
        clear hw1
        obtain ⟨Q, hPe⟩ : ∃ Q, 2 ^ i = Q := ⟨_, rfl⟩
        rw [hPe] at hsn hvi hpi HWa
        generalize valP (p.data.toList.take i) = V at *
        rcases hbit with ⟨h5, h6⟩ | ⟨h5, h6⟩
        · rw [h5, show bitN 48 = 0 from rfl, Nat.zero_mul, Nat.add_zero] at hsn
          have HSN := Lib.hid hsn
          clear hsn h5 hPe
          go_wp2
          go_roundw
          case rel => exact ⟨i + 1, by omega, by go_num, by rw [HSN.out] <;> go_num, trivial⟩
          case measure => simp [intOf] <;> omega
        · rw [h5, show bitN 49 = 1 from rfl, Nat.one_mul] at hsn
          have HSN := Lib.hid hsn
          have hws : wrap64 ((V : Int) + (Q : Int)) = (V : Int) + (Q : Int) := IntWalk.wrap64_in _ ⟨by omega, by omega⟩
          have HV := Lib.hid hvi
          have HQ := Lib.hid hpi
          have HWS := Lib.hid hws
          clear hsn h5 hPe hvi hpi hws
          have hw1 := HWa.out
          have hw2 : wrap64 ((2 : Int) ^ (i : Int).toNat) = (Q : Int) := by rw [Int.toNat_natCast]; exact hw1
          go_wp2
          clear hw1 hw2
          go_roundw
          case rel => exact ⟨i + 1, by omega, by go_num, by rw [HSN.out, Int.natCast_add]; exact congrArg _ HWS.out, trivial⟩
          case measure => simp [intOf] <;> omega
      · obtain rfl : i = p.size := by omega
        clear hvi hpi
        rw [List.take_of_length_le (by rw [len_data]; exact Nat.le_refl _)]
        generalize valP p.data.toList = V at *
        by_cases h0 : p.size = 0
        · have hpe : p.toList.isEmpty = true := by
            have h5 : p = ⟨#[]⟩ := str_eq (List.eq_nil_of_length_eq_zero (by rw [len_data]; exact h0)) rfl
            rw [h5]; first | rfl | simp
          have hmx : ¬ (0 : Int) < (p.size : Int) - 1 := by omega
          have hmx2 : ¬ (0 : Int) ≤ (p.size : Int) - 1 := by omega
          go_wp2_with fail
          refine (impl_TreeCode ByteArray.empty _ (by show 0 ≤ _; exact Nat.zero_le _)).mono ?_
          rintro e w5 ⟨t, rfl, ht, hb⟩
          rw [show treeC ByteArray.empty.data.toList = ([48], true) from rfl] at ht ⊢
          clear ht
          have hB5 := hB4.trans (hb.mono hB4.size)
          have hP0 := HPE.out
          have hw1 := HW1.out
          have hw2 := HW2.out
          rw [h0] at hP0
          obtain rfl : P = 1 := hP0.symm
          have HP := Lib.hid hP
          clear hP
          go_wp2_with fail
          go_ret
          exact ⟨rfl, hB5⟩
        · have hpe : p.toList.isEmpty = false := str_ne_nilW (fun h => h0 (by rw [← len_data, h]; rfl))
          obtain ⟨m, hm⟩ : ∃ m, p.size = m + 1 := ⟨p.size - 1, by omega⟩
          have hmx : (p.size : Int) - 1 = (m : Int) := by omega
          have HMM := Lib.hid hm
          have hmp : m ≤ p.size := by omega
          clear hm
          go_wp2_with fail
          refine (impl_TreeCode (p.extract 0 m) _ (by rw [ByteArray.size_extract]; unfold maxLen; omega)).mono ?_
          rintro e w5 ⟨t, rfl, ht, hb⟩
          have hB5 := hB4.trans (hb.mono hB4.size)
          have hex : (p.extract 0 m).data.toList = p.data.toList.take m := by rw [← ByteArray.toList_eq]; exact extract0_list p m
          have hpt : pathB (p.data.toList.take m) = true := by
            simp only [pathB, Bool.and_eq_true, decide_eq_true_eq, List.length_take, len_data]
            exact ⟨by omega, List.all_eq_true.2 fun c hc => List.all_eq_true.1 HBITS.out c (List.mem_of_mem_take hc)⟩
          rw [hex, show treeC (p.data.toList.take m) = (treeL (p.data.toList.take m), true) by unfold treeC; rw [hpt]; rfl] at ht ⊢
          replace ht : t.data.toList = treeL (p.data.toList.take m) := ht
          have hts : t.size = 2 ^ m := by rw [str_size ht, treeL_len, List.length_take, len_data, Nat.min_eq_left (by omega)]
          have hpp : 2 ^ m ≤ P := by rw [← HPE.out]; exact Nat.pow_le_pow_right (by omega) (by omega)
          have hpre : (s.extract 0 t.size).data.toList = t.data.toList := by
            rw [show (s.extract 0 t.size).data.toList = s.data.toList.take t.size from by rw [← ByteArray.toList_eq]; exact extract0_list s t.size, HS.out, ht, hts]
            have h5 := treeL_prefix (p.data.toList.take m) (p[m]'(by have := HMM.out; omega))
            rw [← take_snoc p m (by have := HMM.out; omega), List.length_take, len_data, Nat.min_eq_left (by omega), ← HMM.out, List.take_of_length_le (show p.data.toList.length ≤ p.size by rw [len_data]; exact Nat.le_refl _)] at h5
            exact h5
          have heq : ((s.extract 0 t.size).toList == t.toList) = true := by rw [str_bne hpre]; simp
          have htle : t.size ≤ s.size := by omega
          clear ht hex hpt hpre hpp hts
          have HP := Lib.hid hP
          have HVL := Lib.hid hvl
          clear hP hvl
          have hw1 : ∀ k : Nat, k = p.size → wrap64 ((2 : Int) ^ k) = (P : Int) := fun k hk => by rw [hk]; exact HW1.out
          go_wp2_with fail
          go_ret
          exact ⟨rfl, hB5⟩

end Go.Proofs.Ytfendecmgcmbjaa
