/- What the functions of chapter 3 give back, in the program and in the reference. Conditions: as each theorem says. -/
import Derived.Test.YtfendecmgcmbjaaC2
namespace Go.Proofs.Ytfendecmgcmbjaa
open Go.RowKit
set_option linter.unusedSimpArgs false
set_option linter.unusedVariables false

set_option maxHeartbeats 400000 in
theorem spec_l3Walsh (o i : Int) (w : World) (h0 : 0 ≤ o) (h6 : o ≤ 6) (hi0 : 0 ≤ i) (hi : i ≤ 1099511627776) :
    Calls Try.prog 68 #[.int .i64 o, .int .i64 i] w (RetStr (walshL (two o).toNat i.toNat) w) := by
  have t1 := two_pos o
  have t2 := two_6 o h6
  obtain ⟨n, hn⟩ : ∃ n : Nat, two o = n := ⟨(two o).toNat, by omega⟩
  obtain ⟨j, rfl⟩ := Int.eq_ofNat_of_zero_le hi0
  rw [hn] at t1 t2
  rw [show (two o).toNat = n by omega, Int.toNat_natCast]
  have HN := Lib.hid hn
  clear hn
  have hmk := run_make_row' (P := Try.prog) 22 5 (.int .u8 0) 1 Try.underlying22 Try.infoU8 rfl .i64 .i64 n (by omega) (by omega)
  go_enter Try.func68, Try.ntmps68
  go_wp2_with (go_at_call 72; refine (spec_l1Two _ _ (by omega) (by omega)).mono ?_; rintro e w' ⟨rfl, rfl⟩; rw [HN.out])
  clear hmk
  go_loopw [6] (fun v wr => ∃ k : Nat, k ≤ n ∧ v = .int .i64 k ∧ wr.ownsRow w.heap.size 5 1 (.slice (some ⟨w.heap.size, 0, none⟩) n n) n (Fill (bytes (walshL n j)) (.int .u8 0) k) ∧ Below w.heap.size w wr) (fun v _ => n - (intOf v).toNat)
  case atStart => exact ⟨0, Nat.zero_le _, rfl, by rw [fill_zero, bytes_len, walsh_len]; exact own_made _ _ _ _ (by unfold maxLen; omega), (Below.refl _ _).alloc (Nat.le_refl _) _⟩
  case round =>
    obtain ⟨k, hk, rfl, ho, hb⟩ := hrel
    by_cases hlt : k < n
    · have hc := ho.cellAt k (by omega)
      rw [fill_at _ _ _ (by rw [bytes_len, walsh_len]; exact hlt)] at hc
      have hf := ho.frozenAt k
      have HO := Lib.hid ho
      clear ho
      have hand := and_i64 j k (by omega) (by omega)
      have hj : j &&& k ≤ 1099511627776 := by have := @Nat.and_le_left j k; omega
      have hp := par_le (j &&& k)
      go_wp2_with (go_at_call 95; refine (spec_l1Parity _ _ (by omega) (by omega)).mono ?_; rintro e w' ⟨rfl, rfl⟩; rw [Int.toNat_natCast])
      go_roundw
      case rel =>
        have hs := HO.out.stored k (.int .u8 ((bitC (par (j &&& k))).toNat : Int))
        rw [fill_set _ _ _ _ (bytes_at _ _ _ (walsh_at _ _ _ hlt)), bitC_par] at hs
        exact ⟨k + 1, by omega, by go_num, hs.1, hb.setCell (Nat.le_refl _) _⟩
      case measure => simp [intOf]; omega
    · rw [fill_full _ _ _ (by rw [bytes_len, walsh_len]; omega)] at ho
      have hcv := own_string (P := Try.prog) (src := 22) (dst := 9) _ Try.underlying22 Try.underlying5 Try.underlying9 ho
      go_wp2
      go_ret
      exact ⟨_, rfl, rfl, hb⟩


set_option maxHeartbeats 400000 in
theorem spec_WalshCode (o i : Int) (w : World) :
    Calls Try.prog 24 #[.int .i64 o, .int .i64 i] w (RetStrB (walshC o i).1 (walshC o i).2 w) := by
  cases h1 : within 0 6 o
  · have hc : walshC o i = ([], false) := by simp [walshC, h1]
    rw [hc]
    clear hc
    go_enter Try.func24, Try.ntmps24
    go_wp2_with (go_at_call 71; refine (spec_l1In _ _ _ _).mono ?_; rintro e w' ⟨rfl, rfl⟩)
    go_ret2
    exact ⟨_, rfl, rfl, Below.refl _ _⟩
  · have h1' := h1
    unfold within at h1'
    simp at h1'
    obtain ⟨o0, o6⟩ := h1'
    have t1 := two_pos o
    have t2 := two_6 o o6
    cases h2 : within 0 (two o - 1) i
    · have hc : walshC o i = ([], false) := by simp [walshC, h2]
      rw [hc]
      clear hc
      go_enter Try.func24, Try.ntmps24
      go_wp2_with (first | (go_at_call 71; refine (spec_l1In _ _ _ _).mono ?_; rintro e w' ⟨rfl, rfl⟩) | (go_at_call 72; refine (spec_l1Two _ _ (by omega) (by omega)).mono ?_; rintro e w' ⟨rfl, rfl⟩))
      go_ret2
      exact ⟨_, rfl, rfl, Below.refl _ _⟩
    · have h2' := h2
      unfold within at h2'
      simp at h2'
      obtain ⟨i0, i6⟩ := h2'
      have hc : walshC o i = (walshL (two o).toNat i.toNat, true) := by simp [walshC, h1, h2]
      rw [hc]
      clear hc
      go_enter Try.func24, Try.ntmps24
      go_wp2_with (first | (go_at_call 71; refine (spec_l1In _ _ _ _).mono ?_; rintro e w' ⟨rfl, rfl⟩) | (go_at_call 72; refine (spec_l1Two _ _ (by omega) (by omega)).mono ?_; rintro e w' ⟨rfl, rfl⟩) | (go_at_call 68; refine (spec_l3Walsh _ _ _ (by omega) (by omega) (by omega) (by omega)).mono ?_; rintro e w' ⟨t, rfl, ht, hb⟩; have HT := Lib.hid ht; clear ht))
      go_ret2
      exact ⟨_, rfl, HT.out, hb⟩
set_option maxHeartbeats 400000 in
theorem impl_WalshCode (o i : Int) (w : World) :
    Calls Try.prog 23 #[.int .i64 o, .int .i64 i] w (RetStrB (walshC o i).1 (walshC o i).2 w) := by
  by_cases h1 : 0 ≤ o ∧ o ≤ 6
  · obtain ⟨o0, o6⟩ := h1
    have t1 := two_pos o
    have t2 := two_6 o o6
    have p3 : wrap64 (2 ^ o.toNat) = two o := IntWalk.wrap64_in (two o) ⟨by omega, by omega⟩
    by_cases h2 : 0 ≤ i ∧ i < two o
    · obtain ⟨i0, i6⟩ := h2
      have hc : walshC o i = (walshL (two o).toNat i.toNat, true) := by
        unfold walshC within; rw [if_pos]; simp; omega
      rw [hc]
      clear hc
      obtain ⟨n, hn⟩ : ∃ n : Nat, two o = n := ⟨(two o).toNat, by omega⟩
      obtain ⟨j, rfl⟩ := Int.eq_ofNat_of_zero_le i0
      rw [hn] at t1 t2 p3 i6
      rw [show (two o).toNat = n by omega, Int.toNat_natCast]
      clear hn
      have hmk := run_make_row' (P := Try.prog) 22 5 (.int .u8 0) 1 Try.underlying22 Try.infoU8 rfl .i64 .i64 n (by omega) (by omega)
      have d1 : decide (o < 0) = false := by simp; omega
      have d2 : decide (6 < o) = false := by simp; omega
      have d3 : decide ((j : Int) < 0) = false := by simp
      have d4 : decide (n ≤ j) = false := by simp; omega
      go_enter Try.func23, Try.ntmps23
      go_wp2
      clear hmk p3 d1 d2 d3 d4
      go_loopw [29] (fun v wr => ∃ k : Nat, k ≤ n ∧ v = .int .i64 k ∧ wr.ownsRow w.heap.size 5 1 (.slice (some ⟨w.heap.size, 0, none⟩) n n) n (Fill (bytes (walshL n j)) (.int .u8 0) k) ∧ Below w.heap.size w wr) (fun v _ => n - (intOf v).toNat)
      case atStart => exact ⟨0, Nat.zero_le _, rfl, by rw [fill_zero, bytes_len, walsh_len]; exact own_made _ _ _ _ (by unfold maxLen; omega), (Below.refl _ _).alloc (Nat.le_refl _) _⟩
      case round =>
        obtain ⟨k, hk, rfl, ho, hb⟩ := hrel
        by_cases hlt : k < n
        · have hc := ho.cellAt k (by omega)
          rw [fill_at _ _ _ (by rw [bytes_len, walsh_len]; exact hlt)] at hc
          have hf := ho.frozenAt k
          have HO := Lib.hid ho
          clear ho
          have hand := and_i64 j k (by omega) (by omega)
          have hj : j &&& k ≤ 1099511627776 := by have := @Nat.and_le_left j k; omega
          have hp := par_le (j &&& k)
          have hbit : RowKit.Hid ((if ((par (j &&& k) : Nat) : Int) = 0 then (48 : Int) else 49) = ((bitC (par (j &&& k))).toNat : Int)) := by
            show _ = _
            rw [bitC_par]; split <;> omega
          go_wp2_with (first | (go_at_call 70; refine (impl_Parity _ _ (by omega) (by omega)).mono ?_; rintro e w' ⟨rfl, rfl⟩; rw [Int.toNat_natCast]) | (go_at_call 69; refine (impl_bitOf _ _).mono ?_; rintro e w' ⟨rfl, rfl⟩; rw [hbit.out]))
          go_roundw
          case rel =>
            have hs := HO.out.stored k (.int .u8 ((bitC (par (j &&& k))).toNat : Int))
            rw [fill_set _ _ _ _ (bytes_at _ _ _ (walsh_at _ _ _ hlt))] at hs
            exact ⟨k + 1, by omega, by go_num, hs.1, hb.setCell (Nat.le_refl _) _⟩
          case measure => simp [intOf]; omega
        · rw [fill_full _ _ _ (by rw [bytes_len, walsh_len]; omega)] at ho
          have hcv := own_string (P := Try.prog) (src := 22) (dst := 9) _ Try.underlying22 Try.underlying5 Try.underlying9 ho
          go_wp2
          go_ret2
          exact ⟨_, rfl, rfl, hb⟩
    · have hc : walshC o i = ([], false) := by
        unfold walshC within; rw [if_neg]; simp; omega
      rw [hc]
      clear hc
      have hcs : i < 0 ∨ two o ≤ i := by omega
      rcases hcs with hi | hi
      all_goals
        go_enter Try.func23, Try.ntmps23
        go_wp2
        go_ret2
        exact ⟨_, rfl, rfl, Below.refl _ _⟩
  · have hc : walshC o i = ([], false) := by
      unfold walshC within; rw [if_neg]; simp; omega
    rw [hc]
    clear hc
    have hcs : o < 0 ∨ 6 < o := by omega
    rcases hcs with hi | hi
    all_goals
      go_enter Try.func23, Try.ntmps23
      go_wp2
      go_ret2
      exact ⟨_, rfl, rfl, Below.refl _ _⟩

set_option maxHeartbeats 400000 in
theorem impl_pathValid (s : ByteArray) (w : World) (hs : s.size ≤ maxLen) :
    Calls Try.prog 56 #[.string s] w fun e w' => e = .returned (.bool (pathB s.data.toList)) ∧ w = w' := by
  have hz := hs
  unfold maxLen at hz
  by_cases h : s.size ≤ 6
  all_goals
    go_enter Try.func56, Try.ntmps56
    go_wp2_with (go_at_call 84; refine (impl_isBits _ _ hs).mono ?_; rintro e w' ⟨rfl, rfl⟩)
    go_ret
    exact ⟨ret_bool (by first | exact pathB_of_bits s h | exact (pathB_no s h).symm), rfl⟩
set_option maxHeartbeats 400000 in
theorem spec_l3Path (s : ByteArray) (w : World) (hs : s.size ≤ maxLen) :
    Calls Try.prog 58 #[.string s] w fun e w' => e = .returned (.bool (pathB s.data.toList)) ∧ w = w' := by
  have hz := hs
  unfold maxLen at hz
  cases hb : bitsB s.data.toList
  all_goals
    go_enter Try.func58, Try.ntmps58
    go_wp2_with (go_at_call 92; refine (spec_l1Bits _ _ hs).mono ?_; rintro e w' ⟨rfl, rfl⟩)
    go_ret
    exact ⟨ret_bool (by first | exact (pathB_bits_no s hb).symm | exact pathB_bits_yes s hb), rfl⟩

set_option maxHeartbeats 400000 in
theorem lite_HasPrefix (s t : ByteArray) (w : World) (hs : s.size ≤ maxLen) (ht : t.size ≤ maxLen) :
    Calls Try.prog 91 #[.string s, .string t] w fun e w' => e = .returned (.bool (hasPre s.data.toList t.data.toList)) ∧ w = w' := by
  unfold maxLen at hs ht
  by_cases h : t.size ≤ s.size
  · go_enter Try.func91, Try.ntmps91
    go_wp2
    go_ret
    refine ⟨ret_bool ?_, rfl⟩
    unfold hasPre
    rw [extract0_list, Lib.toList_data, len_data, len_data, decide_eq_true h, Bool.true_and]
  · go_enter Try.func91, Try.ntmps91
    go_wp2
    go_ret
    refine ⟨ret_bool ?_, rfl⟩
    unfold hasPre
    rw [len_data, len_data, decide_eq_false h, Bool.false_and]
set_option maxHeartbeats 400000 in
theorem strings_HasPrefix (s t : ByteArray) (w : World) (hs : s.size ≤ maxLen) (ht : t.size ≤ maxLen) :
    Calls Try.prog 57 #[.string s, .string t] w fun e w' => e = .returned (.bool (hasPre s.data.toList t.data.toList)) ∧ w = w' := by
  go_enter Try.func57, Try.ntmps57
  go_wp2_with (go_at_call 91; refine (lite_HasPrefix _ _ _ hs ht).mono ?_; rintro e w' ⟨rfl, rfl⟩)
  go_ret
  exact ⟨rfl, rfl⟩
set_option maxHeartbeats 400000 in
theorem spec_l3Conflict (s t : ByteArray) (w : World) (hs : s.size ≤ maxLen) (ht : t.size ≤ maxLen) :
    Calls Try.prog 59 #[.string s, .string t] w (RetD (.bool (conflB s.data.toList t.data.toList)) w) := by
  unfold maxLen at hs ht
  by_cases h : t.size < s.size
  · go_enter Try.func59, Try.ntmps59
    go_wp2
    go_quiet (fail)
    go_wp2
    go_ret
    exact ⟨ret_bool (by rw [confl_le _ _ (by rw [len_data, len_data]; omega), extract0_list, Lib.toList_data, len_data]), _, rfl⟩
  · go_enter Try.func59, Try.ntmps59
    go_wp2
    go_quiet (fail)
    go_wp2
    go_ret
    exact ⟨ret_bool (by rw [confl_ge _ _ (by rw [len_data, len_data]; omega), extract0_list, Lib.toList_data, len_data]), _, rfl⟩
set_option maxHeartbeats 400000 in
theorem impl_TreeConflict (s t : ByteArray) (w : World) (hs : s.size ≤ maxLen) (ht : t.size ≤ maxLen) :
    Calls Try.prog 14 #[.string s, .string t] w fun e w' => e = .returned (.bool (treeConfB s.data.toList t.data.toList)) ∧ w = w' := by
  have hc := treeConf_cases s.data.toList t.data.toList
  rcases hc with ⟨h1, h⟩ | ⟨h1, h2, h⟩ | ⟨h1, h2, h3, h⟩ | ⟨h1, h2, h3, h⟩
  all_goals
    have H := Lib.hid h
    clear h
    go_enter Try.func14, Try.ntmps14
    go_wp2_with (first | (go_at_call 56; refine (impl_pathValid _ _ (by assumption)).mono ?_; rintro e w' ⟨rfl, rfl⟩) | (go_at_call 57; refine (strings_HasPrefix _ _ _ (by assumption) (by assumption)).mono ?_; rintro e w' ⟨rfl, rfl⟩))
    go_ret
    exact ⟨ret_bool (by rw [H.out]), rfl⟩
set_option maxHeartbeats 400000 in
theorem spec_TreeConflict (s t : ByteArray) (w : World) (hs : s.size ≤ maxLen) (ht : t.size ≤ maxLen) :
    Calls Try.prog 15 #[.string s, .string t] w (RetD (.bool (treeConfB s.data.toList t.data.toList)) w) := by
  have hc := treeConf_cases' s.data.toList t.data.toList
  rcases hc with ⟨h1, h⟩ | ⟨h1, h2, h⟩ | ⟨h1, h2, h⟩
  all_goals
    have H := Lib.hid h
    clear h
    go_enter Try.func15, Try.ntmps15
    go_wp2_with (first | (go_at_call 58; refine (spec_l3Path _ _ (by assumption)).mono ?_; rintro e w' ⟨rfl, rfl⟩) | (go_at_call 59; refine (spec_l3Conflict _ _ _ (by assumption) (by assumption)).mono ?_; rintro e w' ⟨rfl, m, rfl⟩))
    go_ret
    first
      | exact ⟨ret_bool (by rw [H.out]), _, rfl⟩
      | exact ⟨ret_bool (by rw [H.out]), 0, rfl⟩

end Go.Proofs.Ytfendecmgcmbjaa
