/- What the functions of chapter 4 give back, in the program and in the reference. Conditions: as each theorem says. -/
import Derived.Test.YtbkdfflmidgdeaaLaw
namespace Go.Proofs.Ytbkdfflmidgdeaa
open Go.RowKit
set_option linter.unusedSimpArgs false
set_option linter.unusedVariables false

set_option maxHeartbeats 400000 in
theorem impl_numbersWithin (A : Option Addr) (n c : Nat) (lo hi : Int) (xs : List Int) (w : World) (hx : RdI .i64 w A n xs) (hn : n ≤ maxLen) :
    Calls Try.prog 60 #[.slice A n c, .int .i64 lo, .int .i64 hi] w fun e w' => e = .returned (.bool (xs.all (within lo hi))) ∧ w = w' := by
  unfold maxLen at hn
  have lx := hx.len
  have LX := Lib.hid lx
  clear lx
  go_enter Try.func60, Try.ntmps60
  go_wp2
  go_loop [11] (fun v => ∃ k : Nat, k ≤ n ∧ v = .int .i64 k ∧ Hid ((xs.take k).all (within lo hi) = true)) (fun v => n - (intOf v).toNat)
  case atStart => exact ⟨0, Nat.zero_le _, rfl, by simp [Hid]⟩
  case round =>
    obtain ⟨k, hk, rfl, ha⟩ := hrel
    by_cases hlt : k < n
    · obtain ⟨b, o, x, rfl, hb, hxx, hcx⟩ := hx.at hlt
      have hcs : x < lo ∨ (¬ x < lo ∧ hi < x) ∨ (¬ x < lo ∧ ¬ hi < x) := by omega
      rcases hcs with h1 | ⟨h1, h2⟩ | ⟨h1, h2⟩
      · go_wp2
        go_ret
        exact ⟨ret_bool (allP_false _ _ _ _ hxx.out (by unfold within; rw [decide_eq_false (by omega)]; rfl)).symm, rfl⟩
      · go_wp2
        go_ret
        exact ⟨ret_bool (allP_false _ _ _ _ hxx.out (by unfold within; rw [decide_eq_false (show ¬ x ≤ hi by omega)]; simp)).symm, rfl⟩
      · go_wp2
        go_round
        case rel => exact ⟨k + 1, by omega, by go_num, allP_snoc _ _ _ _ hxx.out ha.out (by unfold within; rw [decide_eq_true (show lo ≤ x by omega), decide_eq_true (show x ≤ hi by omega)]; rfl)⟩
        case measure => simp [intOf]; omega
    · go_wp2
      go_ret
      exact ⟨ret_bool (allP_take _ _ _ (by rw [LX.out]; omega) ha.out).symm, rfl⟩

set_option maxHeartbeats 400000 in
theorem impl_SignalValid (A : Option Addr) (n c : Nat) (xs : List Int) (w : World) (hx : RdI .i64 w A n xs) (hn : n ≤ maxLen) :
    Calls Try.prog 41 #[.slice A n c] w fun e w' => e = .returned (.bool (sigB xs)) ∧ w = w' := by
  have hz := hn
  unfold maxLen at hz
  have lx := hx.len
  have LX := Lib.hid lx
  clear lx
  by_cases h : n ≤ 3000
  · go_enter Try.func41, Try.ntmps41
    go_wp2_with (go_at_call 60; refine (impl_numbersWithin _ _ _ _ _ _ _ hx hn).mono ?_; rintro e w' ⟨rfl, rfl⟩)
    go_ret
    exact ⟨ret_bool (by unfold sigB; rw [LX.out, decide_eq_true h, Bool.true_and]), rfl⟩
  · go_enter Try.func41, Try.ntmps41
    go_wp2
    go_ret
    exact ⟨ret_bool (by unfold sigB; rw [LX.out, decide_eq_false h, Bool.false_and]), rfl⟩

set_option maxHeartbeats 400000 in
theorem spec_SignalValid (A : Option Addr) (n c : Nat) (xs : List Int) (w : World) (hx : RdI .i64 w A n xs) (hn : n ≤ maxLen) :
    Calls Try.prog 40 #[.slice A n c] w fun e w' => e = .returned (.bool (sigB xs)) ∧ w = w' := by
  unfold maxLen at hn
  have lx := hx.len
  have LX := Lib.hid lx
  clear lx
  go_enter Try.func40, Try.ntmps40
  go_wp2
  go_loop [3] (fun v => ∃ k : Nat, k ≤ n ∧ v = .int .i64 k ∧ Hid ((xs.take k).all (within (-1000000) 1000000) = true)) (fun v => n - (intOf v).toNat)
  case atStart => exact ⟨0, Nat.zero_le _, rfl, by simp [Hid]⟩
  case round =>
    obtain ⟨k, hk, rfl, ha⟩ := hrel
    by_cases hlt : k < n
    · obtain ⟨b, o, x, rfl, hb, hxx, hcx⟩ := hx.at hlt
      cases hw : within (-1000000) 1000000 x
      · go_wp2_with (go_at_call 42; refine (spec_l1In _ _ _ _).mono ?_; rintro e w' ⟨rfl, rfl⟩)
        go_ret
        exact ⟨ret_bool (by unfold sigB; rw [allP_false _ _ _ _ hxx.out hw, Bool.and_false]), rfl⟩
      · go_wp2_with (go_at_call 42; refine (spec_l1In _ _ _ _).mono ?_; rintro e w' ⟨rfl, rfl⟩)
        go_round
        case rel => exact ⟨k + 1, by omega, by go_num, allP_snoc _ _ _ _ hxx.out ha.out hw⟩
        case measure => simp [intOf]; omega
    · go_wp2
      go_ret
      refine ⟨ret_bool ?_, rfl⟩
      unfold sigB
      rw [allP_take _ _ _ (by rw [LX.out]; omega) ha.out, LX.out, Bool.and_true]
      exact decide_eq_decide.2 (by omega)



set_option maxHeartbeats 400000 in
theorem impl_EnergyOf (A : Option Addr) (n c : Nat) (xs : List Int) (w : World) (hx : RdI .i64 w A n xs) (hn : n ≤ maxLen) :
    Calls Try.prog 17 #[.slice A n c] w fun e w' => e = .returned (.int .i64 (energyOf xs)) ∧ w = w' := by
  have hz := hn
  unfold maxLen at hz
  have lx := hx.len
  have LX := Lib.hid lx
  clear lx
  cases hs : sigB xs
  · go_enter Try.func17, Try.ntmps17
    go_wp2_with (go_at_call 41; refine (impl_SignalValid _ _ _ _ _ hx hn).mono ?_; rintro e w' ⟨rfl, rfl⟩)
    go_ret
    exact ⟨ret_int (by unfold energyOf; rw [hs]; rfl), rfl⟩
  · obtain ⟨hlen, hall⟩ := sig_bd xs hs
    rw [LX.out] at hlen
    have HALL := Lib.hid hall
    clear hall
    go_enter Try.func17, Try.ntmps17
    go_wp2_with (go_at_call 41; refine (impl_SignalValid _ _ _ _ _ hx hn).mono ?_; rintro e w' ⟨rfl, rfl⟩)
    go_loop [3, 11] (fun s v => ∃ k : Nat, k ≤ n ∧ v = .int .i64 k ∧ s = .int .i64 (sumTo (fun i => xs.getD i 0 * xs.getD i 0) k)) (fun _ v => n - (intOf v).toNat)
    case atStart => exact ⟨0, Nat.zero_le _, rfl, rfl⟩
    case round =>
      obtain ⟨k, hk, rfl, rfl⟩ := hrel
      have hb := energy_bd xs HALL.out k
      have hb2 : (k : Int) * 1000000000000 ≤ 3000000000000000 := by omega
      generalize hc : sumTo (fun i => xs.getD i 0 * xs.getD i 0) k = c at *
      have HC := Lib.hid hc
      clear hc
      by_cases hlt : k < n
      · obtain ⟨b, o, x, rfl, hbb, hxx, hcx⟩ := hx.at hlt
        have hq := sq_bd x (sig_at xs k x HALL.out hxx.out).1 (sig_at xs k x HALL.out hxx.out).2
        go_wp2
        go_round
        case rel => exact ⟨k + 1, by omega, by go_num, by rw [sumTo_succ, HC.out, List.getD_eq_getElem?_getD, hxx.out]; rfl⟩
        case measure => simp [intOf]; omega
      · obtain rfl : k = n := by omega
        go_wp2
        go_ret
        exact ⟨ret_int (by unfold energyOf; rw [hs, if_pos rfl, ← HC.out, LX.out]), rfl⟩
set_option maxHeartbeats 400000 in
theorem spec_EnergyOf (A : Option Addr) (n c : Nat) (xs : List Int) (w : World) (hx : RdI .i64 w A n xs) (hn : n ≤ maxLen) :
    Calls Try.prog 15 #[.slice A n c] w (RetD (.int .i64 (energyOf xs)) w) := by
  have hz := hn
  unfold maxLen at hz
  have lx := hx.len
  have LX := Lib.hid lx
  clear lx
  cases hs : sigB xs
  · go_enter Try.func15, Try.ntmps15
    go_wp2_with (go_at_call 40; refine (spec_SignalValid _ _ _ _ _ hx hn).mono ?_; rintro e w' ⟨rfl, rfl⟩)
    go_ret
    exact ⟨ret_int (by unfold energyOf; rw [hs]; rfl), 0, rfl⟩
  · obtain ⟨hlen, hall⟩ := sig_bd xs hs
    rw [LX.out] at hlen
    have HALL := Lib.hid hall
    clear hall
    go_enter Try.func15, Try.ntmps15
    go_wp2_with (go_at_call 40; refine (spec_SignalValid _ _ _ _ _ hx hn).mono ?_; rintro e w' ⟨rfl, rfl⟩)
    go_loopw [3, 4] (fun s v wr => ∃ k m : Nat, k ≤ n ∧ v = .int .i64 k ∧ wr = w.drewN m ∧ s = .int .i64 (sumTo (fun i => xs.getD i 0 * xs.getD i 0) k)) (fun _ v _ => n - (intOf v).toNat)
    case atStart => exact ⟨0, 0, Nat.zero_le _, rfl, rfl, rfl⟩
    case round =>
      obtain ⟨k, m, hk, rfl, rfl, rfl⟩ := hrel
      have hb := energy_bd xs HALL.out k
      have hb2 : (k : Int) * 1000000000000 ≤ 3000000000000000 := by omega
      generalize hc : sumTo (fun i => xs.getD i 0 * xs.getD i 0) k = c at *
      have HC := Lib.hid hc
      clear hc
      by_cases hlt : k < n
      · obtain ⟨b, o, x, rfl, hbb, hxx, hcx⟩ := hx.at hlt
        have hq := sq_bd x (sig_at xs k x HALL.out hxx.out).1 (sig_at xs k x HALL.out hxx.out).2
        go_wp2
        go_quiet (fail)
        go_wp2
        go_roundw
        case rel => exact ⟨k + 1, _, by omega, by go_num, rfl, by rw [sumTo_succ, HC.out, List.getD_eq_getElem?_getD, hxx.out]; rfl⟩
        case measure => simp [intOf]; omega
      · obtain rfl : k = n := by omega
        go_wp2
        go_ret
        exact ⟨ret_int (by unfold energyOf; rw [hs, if_pos rfl, ← HC.out, LX.out]), _, rfl⟩



end Go.Proofs.Ytbkdfflmidgdeaa
