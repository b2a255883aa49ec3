/- What the functions of chapter 1 give back, in the program and in the reference. Conditions: as each theorem says. -/
import Derived.Test.YtbkdfflmidgdeaaProg
import Derived.Test.YtbkdfflmidgdeaaBase
import Derived.Test.YtbkdfflmidgdeaaPure
namespace Go.Proofs.Ytbkdfflmidgdeaa
open Go.RowKit
set_option linter.unusedSimpArgs false
set_option linter.unusedVariables false

theorem Try.infoU8 : (Try.prog.info? 5).map (fun i => (i.zero, i.size, i.bytes)) = some (some (.int .u8 0), 1, 1) := by kernel_rfl
theorem Try.infoI64 : (Try.prog.info? 3).map (fun i => (i.zero, i.size, i.bytes)) = some (some (.int .i64 0), 1, 8) := by kernel_rfl

set_option maxHeartbeats 400000 in
theorem impl_isBits (s : ByteArray) (w : World) (hs : s.size ≤ maxLen) :
    Calls Try.prog 47 #[.string s] w fun e w' => e = .returned (.bool (bitsB s.data.toList)) ∧ w = w' := by
  unfold maxLen at hs
  by_cases h : s.size ≤ 600
  · go_enter Try.func47, Try.ntmps47
    go_wp2
    go_loop [9] (fun v => ∃ k : Nat, k ≤ s.size ∧ v = .int .i64 k ∧ Hid ((s.data.toList.take k).all isBit = true)) (fun v => s.size - (intOf v).toNat)
    case atStart => exact ⟨0, Nat.zero_le _, rfl, by simp [Hid]⟩
    case round =>
      obtain ⟨k, hk, rfl, ha⟩ := hrel
      by_cases hlt : k < s.size
      · rcases bit_cases s[k] with ⟨h1, hb⟩ | ⟨h1, h2, hb⟩ | ⟨h1, h2, hb⟩
        · go_wp2
          go_round
          case rel => exact ⟨k + 1, by omega, by go_num, all_snoc s k hlt _ ha (by rw [hb.out]; rfl)⟩
          case measure => simp [intOf]; omega
        · go_wp2
          go_round
          case rel => exact ⟨k + 1, by omega, by go_num, all_snoc s k hlt _ ha (by rw [hb.out]; rfl)⟩
          case measure => simp [intOf]; omega
        · go_wp2
          go_ret
          exact ⟨ret_bool (by unfold bitsB; rw [all_false s k hlt _ hb.out]; simp), rfl⟩
      · go_wp2
        go_ret
        exact ⟨ret_bool (by unfold bitsB; rw [all_take s k hlt _ ha]; simpa using h), rfl⟩
  · go_enter Try.func47, Try.ntmps47
    go_wp2
    go_ret
    exact ⟨ret_bool (bitsB_long _ (by simpa using h)).symm, rfl⟩

set_option maxHeartbeats 400000 in
theorem spec_l1Bits (s : ByteArray) (w : World) (hs : s.size ≤ maxLen) :
    Calls Try.prog 45 #[.string s] w fun e w' => e = .returned (.bool (bitsB s.data.toList)) ∧ w = w' := by
  unfold maxLen at hs
  go_enter Try.func45, Try.ntmps45
  go_wp2
  go_loop [3] (fun v => ∃ k : Nat, k ≤ s.size ∧ v = .int .i64 k ∧ Hid ((s.data.toList.take k).all isBit = true)) (fun v => s.size - (intOf v).toNat)
  case atStart => exact ⟨0, Nat.zero_le _, rfl, by simp [Hid]⟩
  case round =>
    obtain ⟨k, hk, rfl, ha⟩ := hrel
    by_cases hlt : k < s.size
    · rcases bit_cases s[k] with ⟨h1, hb⟩ | ⟨h1, h2, hb⟩ | ⟨h1, h2, hb⟩
      · go_wp2
        go_round
        case rel => exact ⟨k + 1, by omega, by go_num, all_snoc s k hlt _ ha (by rw [hb.out]; rfl)⟩
        case measure => simp [intOf]; omega
      · go_wp2
        go_round
        case rel => exact ⟨k + 1, by omega, by go_num, all_snoc s k hlt _ ha (by rw [hb.out]; rfl)⟩
        case measure => simp [intOf]; omega
      · go_wp2
        go_ret
        exact ⟨ret_bool (by unfold bitsB; rw [all_false s k hlt _ hb.out]; simp), rfl⟩
    · go_wp2
      go_ret
      exact ⟨ret_bool (by rw [bitsB_all s (all_take s k hlt _ ha)]), rfl⟩

set_option maxHeartbeats 400000 in
theorem spec_l1In (a b c : Int) (w : World) :
    Calls Try.prog 42 #[.int .i64 a, .int .i64 b, .int .i64 c] w fun e w' => e = .returned (.bool (within b c a)) ∧ w = w' := by
  by_cases h1 : b ≤ a
  all_goals by_cases h2 : a ≤ c
  all_goals
    go_enter Try.func42, Try.ntmps42
    go_wp2
    go_ret
    simp [within, *]





end Go.Proofs.Ytbkdfflmidgdeaa
