/- What the functions of chapter 1 give back, in the program and in the reference. Conditions: as each theorem says. -/
import Derived.Test.YtkebiigpfbconaaProg
import Derived.Test.YtkebiigpfbconaaBase
import Derived.Test.YtkebiigpfbconaaPure
namespace Go.Proofs.Ytkebiigpfbconaa
open Go.RowKit
set_option linter.unusedSimpArgs false
set_option linter.unusedVariables false

theorem Try.infoU8 : (Try.prog.info? 5).map (fun i => (i.zero, i.size, i.bytes)) = some (some (.int .u8 0), 1, 1) := by kernel_rfl
theorem Try.infoI64 : (Try.prog.info? 3).map (fun i => (i.zero, i.size, i.bytes)) = some (some (.int .i64 0), 1, 8) := by kernel_rfl

set_option maxHeartbeats 400000 in
theorem impl_isBits (s : ByteArray) (w : World) (hs : s.size ≤ maxLen) :
    Calls Try.prog 48 #[.string s] w fun e w' => e = .returned (.bool (bitsB s.data.toList)) ∧ w = w' := by
  unfold maxLen at hs
  by_cases h : s.size ≤ 600
  · go_enter Try.func48, Try.ntmps48
    go_wp2
    go_loop [9] (fun v => ∃ k : Nat, k ≤ s.size ∧ v = .int .i64 k ∧ Hid ((s.data.toList.take k).all isBit = true)) (fun v => s.size - (intOf v).toNat)
    case atStart => exact ⟨0, Nat.zero_le _, rfl, by simp [Hid]⟩
    case round =>
      obtain ⟨k, hk, rfl, ha⟩ := hrel
      by_cases hlt : k < s.size
      · rcases bit_cases s[k] with ⟨h1, hb⟩ | ⟨h1, h2, hb⟩ | ⟨h1, h2, hb⟩
        · go_wp2
          go_round
          case rel => exact ⟨k + 1, by omega, by go_num, all_snoc s k hlt _ ha (by rw [hb.out]; rfl)⟩
          case measure => simp [intOf]; omega
        · go_wp2
          go_round
          case rel => exact ⟨k + 1, by omega, by go_num, all_snoc s k hlt _ ha (by rw [hb.out]; rfl)⟩
          case measure => simp [intOf]; omega
        · go_wp2
          go_ret
          exact ⟨ret_bool (by unfold bitsB; rw [all_false s k hlt _ hb.out]; simp), rfl⟩
      · go_wp2
        go_ret
        exact ⟨ret_bool (by unfold bitsB; rw [all_take s k hlt _ ha]; simpa using h), rfl⟩
  · go_enter Try.func48, Try.ntmps48
    go_wp2
    go_ret
    exact ⟨ret_bool (bitsB_long _ (by simpa using h)).symm, rfl⟩

set_option maxHeartbeats 400000 in
theorem spec_l1Bits (s : ByteArray) (w : World) (hs : s.size ≤ maxLen) :
    Calls Try.prog 78 #[.string s] w fun e w' => e = .returned (.bool (bitsB s.data.toList)) ∧ w = w' := by
  unfold maxLen at hs
  go_enter Try.func78, Try.ntmps78
  go_wp2
  go_loop [3] (fun v => ∃ k : Nat, k ≤ s.size ∧ v = .int .i64 k ∧ Hid ((s.data.toList.take k).all isBit = true)) (fun v => s.size - (intOf v).toNat)
  case atStart => exact ⟨0, Nat.zero_le _, rfl, by simp [Hid]⟩
  case round =>
    obtain ⟨k, hk, rfl, ha⟩ := hrel
    by_cases hlt : k < s.size
    · rcases bit_cases s[k] with ⟨h1, hb⟩ | ⟨h1, h2, hb⟩ | ⟨h1, h2, hb⟩
      · go_wp2
        go_round
        case rel => exact ⟨k + 1, by omega, by go_num, all_snoc s k hlt _ ha (by rw [hb.out]; rfl)⟩
        case measure => simp [intOf]; omega
      · go_wp2
        go_round
        case rel => exact ⟨k + 1, by omega, by go_num, all_snoc s k hlt _ ha (by rw [hb.out]; rfl)⟩
        case measure => simp [intOf]; omega
      · go_wp2
        go_ret
        exact ⟨ret_bool (by unfold bitsB; rw [all_false s k hlt _ hb.out]; simp), rfl⟩
    · go_wp2
      go_ret
      exact ⟨ret_bool (by rw [bitsB_all s (all_take s k hlt _ ha)]), rfl⟩

set_option maxHeartbeats 400000 in
theorem spec_l1In (a b c : Int) (w : World) :
    Calls Try.prog 47 #[.int .i64 a, .int .i64 b, .int .i64 c] w fun e w' => e = .returned (.bool (within b c a)) ∧ w = w' := by
  by_cases h1 : b ≤ a
  all_goals by_cases h2 : a ≤ c
  all_goals
    go_enter Try.func47, Try.ntmps47
    go_wp2
    go_ret
    simp [within, *]

set_option maxHeartbeats 400000 in
theorem spec_l1Two (a : Int) (w : World) (h1 : 0 ≤ a) (h2 : a ≤ 40) :
    Calls Try.prog 68 #[.int .i64 a] w fun e w' => e = .returned (.int .i64 (two a)) ∧ w = w' := by
  go_enter Try.func68, Try.ntmps68
  go_wp2
  go_ret
  have hp := two_pos a
  have hq := two_small a h2
  exact ⟨ret_int (show wrap64 (two a) = two a from IntWalk.wrap64_in (two a) ⟨by omega, by omega⟩), rfl⟩

set_option maxHeartbeats 400000 in
theorem impl_Parity (a : Int) (w : World) (h0 : 0 ≤ a) (hn : a ≤ 1099511627776) :
    Calls Try.prog 97 #[.int .i64 a] w fun e w' => e = .returned (.int .i64 (par a.toNat : Nat)) ∧ w = w' := by
  obtain ⟨n, rfl⟩ := Int.eq_ofNat_of_zero_le h0
  rw [Int.toNat_natCast]
  go_enter Try.func97, Try.ntmps97
  go_wp2
  go_loop [0, 3] (fun v s => ∃ m r : Nat, m ≤ n ∧ v = .int .i64 m ∧ s = .int .i64 r ∧ r ≤ 1 ∧ Hid ((r + par m) % 2 = par n)) (fun v _ => (intOf v).toNat)
  case atStart => exact ⟨n, 0, Nat.le_refl _, rfl, rfl, by omega, by show _ = _; have := par_le n; omega⟩
  case round =>
    obtain ⟨m, r, hm, rfl, rfl, hr, hp⟩ := hrel
    by_cases hpos : 0 < m
    · go_wp2
      go_round
      case rel =>
        refine ⟨m / 2, (r + m % 2) % 2, by omega, by go_num, ?_, by omega, ?_⟩
        · rw [and1_i64 m (by omega), xor01_i64 r (m % 2) hr (by omega)]
        · show _ = _
          have h1 := hp.out
          rw [par_step m] at h1
          omega
      case measure => simp [intOf]; omega
    · obtain rfl : m = 0 := by omega
      go_wp2
      go_ret
      have h1 := hp.out
      rw [par_zero] at h1
      exact ⟨ret_int (by omega), rfl⟩

set_option maxHeartbeats 400000 in
theorem spec_l1Parity (a : Int) (w : World) (h0 : 0 ≤ a) (hn : a ≤ 1099511627776) :
    Calls Try.prog 114 #[.int .i64 a] w fun e w' => e = .returned (.int .i64 (par a.toNat : Nat)) ∧ w = w' := by
  obtain ⟨n, rfl⟩ := Int.eq_ofNat_of_zero_le h0
  rw [Int.toNat_natCast]
  go_enter Try.func114, Try.ntmps114
  go_wp2
  go_loop [0, 3] (fun v s => ∃ m r : Nat, m ≤ n ∧ v = .int .i64 m ∧ s = .int .i64 r ∧ r ≤ 1 ∧ Hid ((r + par m) % 2 = par n)) (fun v _ => (intOf v).toNat)
  case atStart => exact ⟨n, 0, Nat.le_refl _, rfl, rfl, by omega, by show _ = _; have := par_le n; omega⟩
  case round =>
    obtain ⟨m, r, hm, rfl, rfl, hr, hp⟩ := hrel
    by_cases hpos : 0 < m
    · go_wp2
      go_round
      case rel =>
        refine ⟨m / 2, (r + m % 2) % 2, by omega, by go_num, ?_, by omega, ?_⟩
        · rw [show ((m : Int) % 2) = ((m % 2 : Nat) : Int) from rfl, xor01_i64 r (m % 2) hr (by omega)]
        · show _ = _
          have h1 := hp.out
          rw [par_step m] at h1
          omega
      case measure => simp [intOf]; omega
    · obtain rfl : m = 0 := by omega
      go_wp2
      go_ret
      have h1 := hp.out
      rw [par_zero] at h1
      exact ⟨ret_int (by omega), rfl⟩

set_option maxHeartbeats 400000 in
theorem impl_bitOf (a : Int) (w : World) :
    Calls Try.prog 92 #[.int .i64 a] w fun e w' => e = .returned (.int .u8 (if a = 0 then 48 else 49)) ∧ w = w' := by
  by_cases h : a = 0
  all_goals
    go_enter Try.func92, Try.ntmps92
    go_wp2
    go_ret
    simp [h]

end Go.Proofs.Ytkebiigpfbconaa
