/- What the functions of chapter 4 give back, in the program and in the reference. Conditions: as each theorem says. -/
import Derived.Test.YtlddefmakjnfdaaLaw
namespace Go.Proofs.Ytlddefmakjnfdaa
open Go.RowKit
set_option linter.unusedSimpArgs false
set_option linter.unusedVariables false

set_option maxHeartbeats 400000 in
theorem impl_numbersWithin (A : Option Addr) (n c : Nat) (lo hi : Int) (xs : List Int) (w : World) (hx : RdI .i64 w A n xs) (hn : n ≤ maxLen) :
    Calls Try.prog 88 #[.slice A n c, .int .i64 lo, .int .i64 hi] w fun e w' => e = .returned (.bool (xs.all (within lo hi))) ∧ w = w' := by
  unfold maxLen at hn
  have lx := hx.len
  have LX := Lib.hid lx
  clear lx
  go_enter Try.func88, Try.ntmps88
  go_wp2
  go_loop [11] (fun v => ∃ k : Nat, k ≤ n ∧ v = .int .i64 k ∧ Hid ((xs.take k).all (within lo hi) = true)) (fun v => n - (intOf v).toNat)
  case atStart => exact ⟨0, Nat.zero_le _, rfl, by simp [Hid]⟩
  case round =>
    obtain ⟨k, hk, rfl, ha⟩ := hrel
    by_cases hlt : k < n
    · obtain ⟨b, o, x, rfl, hb, hxx, hcx⟩ := hx.at hlt
      have hcs : x < lo ∨ (¬ x < lo ∧ hi < x) ∨ (¬ x < lo ∧ ¬ hi < x) := by omega
      rcases hcs with h1 | ⟨h1, h2⟩ | ⟨h1, h2⟩
      · go_wp2
        go_ret
        exact ⟨ret_bool (allP_false _ _ _ _ hxx.out (by unfold within; rw [decide_eq_false (by omega)]; rfl)).symm, rfl⟩
      · go_wp2
        go_ret
        exact ⟨ret_bool (allP_false _ _ _ _ hxx.out (by unfold within; rw [decide_eq_false (show ¬ x ≤ hi by omega)]; simp)).symm, rfl⟩
      · go_wp2
        go_round
        case rel => exact ⟨k + 1, by omega, by go_num, allP_snoc _ _ _ _ hxx.out ha.out (by unfold within; rw [decide_eq_true (show lo ≤ x by omega), decide_eq_true (show x ≤ hi by omega)]; rfl)⟩
        case measure => simp [intOf]; omega
    · go_wp2
      go_ret
      exact ⟨ret_bool (allP_take _ _ _ (by rw [LX.out]; omega) ha.out).symm, rfl⟩

set_option maxHeartbeats 400000 in
theorem impl_SignalValid (A : Option Addr) (n c : Nat) (xs : List Int) (w : World) (hx : RdI .i64 w A n xs) (hn : n ≤ maxLen) :
    Calls Try.prog 56 #[.slice A n c] w fun e w' => e = .returned (.bool (sigB xs)) ∧ w = w' := by
  have hz := hn
  unfold maxLen at hz
  have lx := hx.len
  have LX := Lib.hid lx
  clear lx
  by_cases h : n ≤ 3000
  · go_enter Try.func56, Try.ntmps56
    go_wp2_with (go_at_call 88; refine (impl_numbersWithin _ _ _ _ _ _ _ hx hn).mono ?_; rintro e w' ⟨rfl, rfl⟩)
    go_ret
    exact ⟨ret_bool (by unfold sigB; rw [LX.out, decide_eq_true h, Bool.true_and]), rfl⟩
  · go_enter Try.func56, Try.ntmps56
    go_wp2
    go_ret
    exact ⟨ret_bool (by unfold sigB; rw [LX.out, decide_eq_false h, Bool.false_and]), rfl⟩

set_option maxHeartbeats 400000 in
theorem spec_SignalValid (A : Option Addr) (n c : Nat) (xs : List Int) (w : World) (hx : RdI .i64 w A n xs) (hn : n ≤ maxLen) :
    Calls Try.prog 86 #[.slice A n c] w fun e w' => e = .returned (.bool (sigB xs)) ∧ w = w' := by
  unfold maxLen at hn
  have lx := hx.len
  have LX := Lib.hid lx
  clear lx
  go_enter Try.func86, Try.ntmps86
  go_wp2
  go_loop [3] (fun v => ∃ k : Nat, k ≤ n ∧ v = .int .i64 k ∧ Hid ((xs.take k).all (within (-1000000) 1000000) = true)) (fun v => n - (intOf v).toNat)
  case atStart => exact ⟨0, Nat.zero_le _, rfl, by simp [Hid]⟩
  case round =>
    obtain ⟨k, hk, rfl, ha⟩ := hrel
    by_cases hlt : k < n
    · obtain ⟨b, o, x, rfl, hb, hxx, hcx⟩ := hx.at hlt
      cases hw : within (-1000000) 1000000 x
      · go_wp2_with (go_at_call 61; refine (spec_l1In _ _ _ _).mono ?_; rintro e w' ⟨rfl, rfl⟩)
        go_ret
        exact ⟨ret_bool (by unfold sigB; rw [allP_false _ _ _ _ hxx.out hw, Bool.and_false]), rfl⟩
      · go_wp2_with (go_at_call 61; refine (spec_l1In _ _ _ _).mono ?_; rintro e w' ⟨rfl, rfl⟩)
        go_round
        case rel => exact ⟨k + 1, by omega, by go_num, allP_snoc _ _ _ _ hxx.out ha.out hw⟩
        case measure => simp [intOf]; omega
    · go_wp2
      go_ret
      refine ⟨ret_bool ?_, rfl⟩
      unfold sigB
      rw [allP_take _ _ _ (by rw [LX.out]; omega) ha.out, LX.out, Bool.and_true]
      exact decide_eq_decide.2 (by omega)




set_option maxHeartbeats 1000000 in
theorem impl_UserValid (c d : ByteArray) (g l : Int) (w : World) (hc : c.size ≤ maxLen) (hd : d.size ≤ maxLen) :
    Calls Try.prog 43 #[.agg #[.string c, .string d, .int .i64 g, .int .i64 l]] w fun e w' => e = .returned (.bool (userB c.data.toList d.data.toList g l)) ∧ Below w.heap.size w w' := by
  have hcs := user_cases c.data.toList d.data.toList g l
  rw [len_data, len_data] at hcs
  rcases hcs with ⟨h1, h⟩ | ⟨h1, h2, h⟩ | ⟨h1, h2, h3, h⟩ | ⟨h1, h2, h3, h4, h⟩ | ⟨h1, h2, h3, h4, h5, h⟩ | ⟨h1, h2, h3, h4, h5, h6, h⟩ | ⟨h1, h2, h3, h4, h5, h6, h⟩
  iterate 6
    · rw [h]
      clear h
      go_enter Try.func43, Try.ntmps43
      go_wp2_with (first | (go_at_call 51; refine (impl_isBits _ _ (by assumption)).mono ?_; rintro e w' ⟨rfl, rfl⟩) | (go_at_call 52; refine (impl_SequenceValid _ _ (by assumption)).mono ?_; rintro e w' ⟨rfl, rfl⟩))
      go_ret
      exact ⟨rfl, (Below.refl _ _).alloc (Nat.le_refl _) _⟩
  · have b1 := (seqB_bd c h1).2
    have b2 := bitsB_bd d h2
    have hm := mul_bd d.size c.size 600 255 b2 b1
    rw [h]
    clear h
    go_enter Try.func43, Try.ntmps43
    go_wp2_with (first | (go_at_call 51; refine (impl_isBits _ _ (by assumption)).mono ?_; rintro e w' ⟨rfl, rfl⟩) | (go_at_call 52; refine (impl_SequenceValid _ _ (by assumption)).mono ?_; rintro e w' ⟨rfl, rfl⟩))
    go_ret
    exact ⟨rfl, (Below.refl _ _).alloc (Nat.le_refl _) _⟩

set_option maxHeartbeats 1000000 in
theorem spec_UserValid (c d : ByteArray) (g l : Int) (w : World) (hc : c.size ≤ maxLen) (hd : d.size ≤ maxLen) :
    Calls Try.prog 46 #[.agg #[.string c, .string d, .int .i64 g, .int .i64 l]] w fun e w' => e = .returned (.bool (userB c.data.toList d.data.toList g l)) ∧ Below w.heap.size w w' := by
  have hcs := user_cases' c.data.toList d.data.toList g l
  rw [len_data, len_data] at hcs
  rcases hcs with ⟨h1, h⟩ | ⟨h1, h2, h⟩ | ⟨h1, h2, h3, h⟩ | ⟨h1, h2, h3, h4, h⟩ | ⟨h1, h2, h3, h4, h5, h⟩
  iterate 4
    · rw [h]
      clear h
      go_enter Try.func46, Try.ntmps46
      go_wp2_with (first | (go_at_call 48; refine (spec_l1Bits _ _ (by assumption)).mono ?_; rintro e w' ⟨rfl, rfl⟩) | (go_at_call 49; refine (spec_SequenceValid _ _ (by assumption)).mono ?_; rintro e w' ⟨rfl, rfl⟩) | (go_at_call 61; refine (spec_l1In _ _ _ _).mono ?_; rintro e w' ⟨rfl, rfl⟩))
      go_ret
      exact ⟨rfl, (Below.refl _ _).alloc (Nat.le_refl _) _⟩
  · have b1 := (seqB_bd c h1).2
    have b2 := bitsB_bd d h2
    have hm := mul_bd d.size c.size 600 255 b2 b1
    rw [h]
    clear h
    go_enter Try.func46, Try.ntmps46
    go_wp2_with (first | (go_at_call 48; refine (spec_l1Bits _ _ (by assumption)).mono ?_; rintro e w' ⟨rfl, rfl⟩) | (go_at_call 49; refine (spec_SequenceValid _ _ (by assumption)).mono ?_; rintro e w' ⟨rfl, rfl⟩) | (go_at_call 61; refine (spec_l1In _ _ _ _).mono ?_; rintro e w' ⟨rfl, rfl⟩))
    go_ret
    exact ⟨rfl, (Below.refl _ _).alloc (Nat.le_refl _) _⟩

end Go.Proofs.Ytlddefmakjnfdaa
