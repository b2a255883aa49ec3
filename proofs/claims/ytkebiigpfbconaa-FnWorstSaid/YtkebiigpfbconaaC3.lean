/- What the functions of chapter 3 give back, in the program and in the reference. Conditions: as each theorem says. -/
import Derived.Test.YtkebiigpfbconaaC2
namespace Go.Proofs.Ytkebiigpfbconaa
open Go.RowKit
set_option linter.unusedSimpArgs false
set_option linter.unusedVariables false


set_option maxHeartbeats 400000 in
theorem spec_GoldBound (a : Int) (w : World) :
    Calls Try.prog 122 #[.int .i64 a] w fun e w' => e = .returned (.int .i64 (goldB a)) ∧ w = w' := by
  by_cases h : 2 ≤ a ∧ a ≤ 8
  · obtain ⟨h1, h2⟩ := h
    have hw : within 2 8 a = true := by simp [within, h1, h2]
    have p1 := two_pos ((a + 2) / 2)
    have p2 := two_8 ((a + 2) / 2) (by omega)
    go_enter Try.func122, Try.ntmps122
    go_wp2_with (first | (go_at_call 47; refine (spec_l1In _ _ _ _).mono ?_; rintro e w' ⟨rfl, rfl⟩) | (go_at_call 68; refine (spec_l1Two _ _ (by omega) (by omega)).mono ?_; rintro e w' ⟨rfl, rfl⟩))
    go_ret
    exact ⟨ret_int (by unfold goldB; rw [if_pos ⟨h1, h2⟩]), rfl⟩
  · have hw : within 2 8 a = false := by unfold within; rw [Bool.eq_false_iff]; simp; omega
    go_enter Try.func122, Try.ntmps122
    go_wp2_with (go_at_call 47; refine (spec_l1In _ _ _ _).mono ?_; rintro e w' ⟨rfl, rfl⟩)
    go_ret
    exact ⟨ret_int (by unfold goldB; rw [if_neg h]), rfl⟩
set_option maxHeartbeats 400000 in
theorem impl_GoldBound (a : Int) (w : World) :
    Calls Try.prog 30 #[.int .i64 a] w fun e w' => e = .returned (.int .i64 (goldB a)) ∧ w = w' := by
  by_cases h1 : 2 ≤ a
  · by_cases h2 : a ≤ 8
    · have p1 := two_pos ((a + 2) / 2)
      have p2 := two_8 ((a + 2) / 2) (by omega)
      have p3 : wrap64 (2 ^ ((a + 2) / 2).toNat) = two ((a + 2) / 2) := IntWalk.wrap64_in (two ((a + 2) / 2)) ⟨by omega, by omega⟩
      go_enter Try.func30, Try.ntmps30
      go_wp2
      go_ret
      exact ⟨ret_int (by unfold goldB; rw [if_pos ⟨h1, h2⟩]), rfl⟩
    · go_enter Try.func30, Try.ntmps30
      go_wp2
      go_ret
      exact ⟨ret_int (by unfold goldB; rw [if_neg (by omega)]), rfl⟩
  · go_enter Try.func30, Try.ntmps30
    go_wp2
    go_ret
    exact ⟨ret_int (by unfold goldB; rw [if_neg (by omega)]), rfl⟩

set_option maxHeartbeats 400000 in
theorem impl_WalshCode (o i : Int) (w : World) :
    Calls Try.prog 76 #[.int .i64 o, .int .i64 i] w (RetStrB (walshC o i).1 (walshC o i).2 w) := by
  by_cases h1 : 0 ≤ o ∧ o ≤ 6
  · obtain ⟨o0, o6⟩ := h1
    have t1 := two_pos o
    have t2 := two_6 o o6
    have p3 : wrap64 (2 ^ o.toNat) = two o := IntWalk.wrap64_in (two o) ⟨by omega, by omega⟩
    by_cases h2 : 0 ≤ i ∧ i < two o
    · obtain ⟨i0, i6⟩ := h2
      have hc : walshC o i = (walshL (two o).toNat i.toNat, true) := by
        unfold walshC within; rw [if_pos]; simp; omega
      rw [hc]
      clear hc
      obtain ⟨n, hn⟩ : ∃ n : Nat, two o = n := ⟨(two o).toNat, by omega⟩
      obtain ⟨j, rfl⟩ := Int.eq_ofNat_of_zero_le i0
      rw [hn] at t1 t2 p3 i6
      rw [show (two o).toNat = n by omega, Int.toNat_natCast]
      clear hn
      have hmk := run_make_row' (P := Try.prog) 22 5 (.int .u8 0) 1 Try.underlying22 Try.infoU8 rfl .i64 .i64 n (by omega) (by omega)
      have d1 : decide (o < 0) = false := by simp; omega
      have d2 : decide (6 < o) = false := by simp; omega
      have d3 : decide ((j : Int) < 0) = false := by simp
      have d4 : decide (n ≤ j) = false := by simp; omega
      go_enter Try.func76, Try.ntmps76
      go_wp2
      clear hmk p3 d1 d2 d3 d4
      go_loopw [29] (fun v wr => ∃ k : Nat, k ≤ n ∧ v = .int .i64 k ∧ wr.ownsRow w.heap.size 5 1 (.slice (some ⟨w.heap.size, 0, none⟩) n n) n (Fill (bytes (walshL n j)) (.int .u8 0) k) ∧ Below w.heap.size w wr) (fun v _ => n - (intOf v).toNat)
      case atStart => exact ⟨0, Nat.zero_le _, rfl, by rw [fill_zero, bytes_len, walsh_len]; exact own_made _ _ _ _ (by unfold maxLen; omega), (Below.refl _ _).alloc (Nat.le_refl _) _⟩
      case round =>
        obtain ⟨k, hk, rfl, ho, hb⟩ := hrel
        by_cases hlt : k < n
        · have hc := ho.cellAt k (by omega)
          rw [fill_at _ _ _ (by rw [bytes_len, walsh_len]; exact hlt)] at hc
          have hf := ho.frozenAt k
          have HO := Lib.hid ho
          clear ho
          have hand := and_i64 j k (by omega) (by omega)
          have hj : j &&& k ≤ 1099511627776 := by have := @Nat.and_le_left j k; omega
          have hp := par_le (j &&& k)
          have hbit : RowKit.Hid ((if ((par (j &&& k) : Nat) : Int) = 0 then (48 : Int) else 49) = ((bitC (par (j &&& k))).toNat : Int)) := by
            show _ = _
            rw [bitC_par]; split <;> omega
          go_wp2_with (first | (go_at_call 97; refine (impl_Parity _ _ (by omega) (by omega)).mono ?_; rintro e w' ⟨rfl, rfl⟩; rw [Int.toNat_natCast]) | (go_at_call 92; refine (impl_bitOf _ _).mono ?_; rintro e w' ⟨rfl, rfl⟩; rw [hbit.out]))
          go_roundw
          case rel =>
            have hs := HO.out.stored k (.int .u8 ((bitC (par (j &&& k))).toNat : Int))
            rw [fill_set _ _ _ _ (bytes_at _ _ _ (walsh_at _ _ _ hlt))] at hs
            exact ⟨k + 1, by omega, by go_num, hs.1, hb.setCell (Nat.le_refl _) _⟩
          case measure => simp [intOf]; omega
        · rw [fill_full _ _ _ (by rw [bytes_len, walsh_len]; omega)] at ho
          have hcv := own_string (P := Try.prog) (src := 22) (dst := 9) _ Try.underlying22 Try.underlying5 Try.underlying9 ho
          go_wp2
          go_ret2
          exact ⟨_, rfl, rfl, hb⟩
    · have hc : walshC o i = ([], false) := by
        unfold walshC within; rw [if_neg]; simp; omega
      rw [hc]
      clear hc
      have hcs : i < 0 ∨ two o ≤ i := by omega
      rcases hcs with hi | hi
      all_goals
        go_enter Try.func76, Try.ntmps76
        go_wp2
        go_ret2
        exact ⟨_, rfl, rfl, Below.refl _ _⟩
  · have hc : walshC o i = ([], false) := by
      unfold walshC within; rw [if_neg]; simp; omega
    rw [hc]
    clear hc
    have hcs : o < 0 ∨ 6 < o := by omega
    rcases hcs with hi | hi
    all_goals
      go_enter Try.func76, Try.ntmps76
      go_wp2
      go_ret2
      exact ⟨_, rfl, rfl, Below.refl _ _⟩



end Go.Proofs.Ytkebiigpfbconaa
