/- What the functions of chapter 3 give back, in the program and in the reference. Conditions: as each theorem says. -/
import Derived.Test.YtlddefmakjnfdaaC2
namespace Go.Proofs.Ytlddefmakjnfdaa
open Go.RowKit
set_option linter.unusedSimpArgs false
set_option linter.unusedVariables false

set_option maxHeartbeats 400000 in
theorem spec_l3Walsh (o i : Int) (w : World) (h0 : 0 ≤ o) (h6 : o ≤ 6) (hi0 : 0 ≤ i) (hi : i ≤ 1099511627776) :
    Calls Try.prog 96 #[.int .i64 o, .int .i64 i] w (RetStr (walshL (two o).toNat i.toNat) w) := by
  have t1 := two_pos o
  have t2 := two_6 o h6
  obtain ⟨n, hn⟩ : ∃ n : Nat, two o = n := ⟨(two o).toNat, by omega⟩
  obtain ⟨j, rfl⟩ := Int.eq_ofNat_of_zero_le hi0
  rw [hn] at t1 t2
  rw [show (two o).toNat = n by omega, Int.toNat_natCast]
  have HN := Lib.hid hn
  clear hn
  have hmk := run_make_row' (P := Try.prog) 48 5 (.int .u8 0) 1 Try.underlying48 Try.infoU8 rfl .i64 .i64 n (by omega) (by omega)
  go_enter Try.func96, Try.ntmps96
  go_wp2_with (go_at_call 101; refine (spec_l1Two _ _ (by omega) (by omega)).mono ?_; rintro e w' ⟨rfl, rfl⟩; rw [HN.out])
  clear hmk
  go_loopw [6] (fun v wr => ∃ k : Nat, k ≤ n ∧ v = .int .i64 k ∧ wr.ownsRow w.heap.size 5 1 (.slice (some ⟨w.heap.size, 0, none⟩) n n) n (Fill (bytes (walshL n j)) (.int .u8 0) k) ∧ Below w.heap.size w wr) (fun v _ => n - (intOf v).toNat)
  case atStart => exact ⟨0, Nat.zero_le _, rfl, by rw [fill_zero, bytes_len, walsh_len]; exact own_made _ _ _ _ (by unfold maxLen; omega), (Below.refl _ _).alloc (Nat.le_refl _) _⟩
  case round =>
    obtain ⟨k, hk, rfl, ho, hb⟩ := hrel
    by_cases hlt : k < n
    · have hc := ho.cellAt k (by omega)
      rw [fill_at _ _ _ (by rw [bytes_len, walsh_len]; exact hlt)] at hc
      have hf := ho.frozenAt k
      have HO := Lib.hid ho
      clear ho
      have hand := and_i64 j k (by omega) (by omega)
      have hj : j &&& k ≤ 1099511627776 := by have := @Nat.and_le_left j k; omega
      have hp := par_le (j &&& k)
      go_wp2_with (go_at_call 102; refine (spec_l1Parity _ _ (by omega) (by omega)).mono ?_; rintro e w' ⟨rfl, rfl⟩; rw [Int.toNat_natCast])
      go_roundw
      case rel =>
        have hs := HO.out.stored k (.int .u8 ((bitC (par (j &&& k))).toNat : Int))
        rw [fill_set _ _ _ _ (bytes_at _ _ _ (walsh_at _ _ _ hlt)), bitC_par] at hs
        exact ⟨k + 1, by omega, by go_num, hs.1, hb.setCell (Nat.le_refl _) _⟩
      case measure => simp [intOf]; omega
    · rw [fill_full _ _ _ (by rw [bytes_len, walsh_len]; omega)] at ho
      have hcv := own_string (P := Try.prog) (src := 48) (dst := 9) _ Try.underlying48 Try.underlying5 Try.underlying9 ho
      go_wp2
      go_ret
      exact ⟨_, rfl, rfl, hb⟩





end Go.Proofs.Ytlddefmakjnfdaa
