/- What the functions of chapter 4 give back, in the program and in the reference. Conditions: as each theorem says. -/
import Derived.Test.YthheafenlgdbiaaLaw
namespace Go.Proofs.Ythheafenlgdbiaa
open Go.RowKit
set_option linter.unusedSimpArgs false
set_option linter.unusedVariables false

set_option maxHeartbeats 400000 in
theorem impl_numbersWithin (A : Option Addr) (n c : Nat) (lo hi : Int) (xs : List Int) (w : World) (hx : RdI .i64 w A n xs) (hn : n ≤ maxLen) :
    Calls Try.prog 70 #[.slice A n c, .int .i64 lo, .int .i64 hi] w fun e w' => e = .returned (.bool (xs.all (within lo hi))) ∧ w = w' := by
  unfold maxLen at hn
  have lx := hx.len
  have LX := Lib.hid lx
  clear lx
  go_enter Try.func70, Try.ntmps70
  go_wp2
  go_loop [11] (fun v => ∃ k : Nat, k ≤ n ∧ v = .int .i64 k ∧ Hid ((xs.take k).all (within lo hi) = true)) (fun v => n - (intOf v).toNat)
  case atStart => exact ⟨0, Nat.zero_le _, rfl, by simp [Hid]⟩
  case round =>
    obtain ⟨k, hk, rfl, ha⟩ := hrel
    by_cases hlt : k < n
    · obtain ⟨b, o, x, rfl, hb, hxx, hcx⟩ := hx.at hlt
      have hcs : x < lo ∨ (¬ x < lo ∧ hi < x) ∨ (¬ x < lo ∧ ¬ hi < x) := by omega
      rcases hcs with h1 | ⟨h1, h2⟩ | ⟨h1, h2⟩
      · go_wp2
        go_ret
        exact ⟨ret_bool (allP_false _ _ _ _ hxx.out (by unfold within; rw [decide_eq_false (by omega)]; rfl)).symm, rfl⟩
      · go_wp2
        go_ret
        exact ⟨ret_bool (allP_false _ _ _ _ hxx.out (by unfold within; rw [decide_eq_false (show ¬ x ≤ hi by omega)]; simp)).symm, rfl⟩
      · go_wp2
        go_round
        case rel => exact ⟨k + 1, by omega, by go_num, allP_snoc _ _ _ _ hxx.out ha.out (by unfold within; rw [decide_eq_true (show lo ≤ x by omega), decide_eq_true (show x ≤ hi by omega)]; rfl)⟩
        case measure => simp [intOf]; omega
    · go_wp2
      go_ret
      exact ⟨ret_bool (allP_take _ _ _ (by rw [LX.out]; omega) ha.out).symm, rfl⟩

set_option maxHeartbeats 400000 in
theorem impl_SignalValid (A : Option Addr) (n c : Nat) (xs : List Int) (w : World) (hx : RdI .i64 w A n xs) (hn : n ≤ maxLen) :
    Calls Try.prog 54 #[.slice A n c] w fun e w' => e = .returned (.bool (sigB xs)) ∧ w = w' := by
  have hz := hn
  unfold maxLen at hz
  have lx := hx.len
  have LX := Lib.hid lx
  clear lx
  by_cases h : n ≤ 3000
  · go_enter Try.func54, Try.ntmps54
    go_wp2_with (go_at_call 70; refine (impl_numbersWithin _ _ _ _ _ _ _ hx hn).mono ?_; rintro e w' ⟨rfl, rfl⟩)
    go_ret
    exact ⟨ret_bool (by unfold sigB; rw [LX.out, decide_eq_true h, Bool.true_and]), rfl⟩
  · go_enter Try.func54, Try.ntmps54
    go_wp2
    go_ret
    exact ⟨ret_bool (by unfold sigB; rw [LX.out, decide_eq_false h, Bool.false_and]), rfl⟩

set_option maxHeartbeats 400000 in
theorem spec_SignalValid (A : Option Addr) (n c : Nat) (xs : List Int) (w : World) (hx : RdI .i64 w A n xs) (hn : n ≤ maxLen) :
    Calls Try.prog 82 #[.slice A n c] w fun e w' => e = .returned (.bool (sigB xs)) ∧ w = w' := by
  unfold maxLen at hn
  have lx := hx.len
  have LX := Lib.hid lx
  clear lx
  go_enter Try.func82, Try.ntmps82
  go_wp2
  go_loop [3] (fun v => ∃ k : Nat, k ≤ n ∧ v = .int .i64 k ∧ Hid ((xs.take k).all (within (-1000000) 1000000) = true)) (fun v => n - (intOf v).toNat)
  case atStart => exact ⟨0, Nat.zero_le _, rfl, by simp [Hid]⟩
  case round =>
    obtain ⟨k, hk, rfl, ha⟩ := hrel
    by_cases hlt : k < n
    · obtain ⟨b, o, x, rfl, hb, hxx, hcx⟩ := hx.at hlt
      cases hw : within (-1000000) 1000000 x
      · go_wp2_with (go_at_call 58; refine (spec_l1In _ _ _ _).mono ?_; rintro e w' ⟨rfl, rfl⟩)
        go_ret
        exact ⟨ret_bool (by unfold sigB; rw [allP_false _ _ _ _ hxx.out hw, Bool.and_false]), rfl⟩
      · go_wp2_with (go_at_call 58; refine (spec_l1In _ _ _ _).mono ?_; rintro e w' ⟨rfl, rfl⟩)
        go_round
        case rel => exact ⟨k + 1, by omega, by go_num, allP_snoc _ _ _ _ hxx.out ha.out hw⟩
        case measure => simp [intOf]; omega
    · go_wp2
      go_ret
      refine ⟨ret_bool ?_, rfl⟩
      unfold sigB
      rw [allP_take _ _ _ (by rw [LX.out]; omega) ha.out, LX.out, Bool.and_true]
      exact decide_eq_decide.2 (by omega)

set_option maxHeartbeats 400000 in
theorem impl_BitErrors (s t : ByteArray) (w : World) (hs : s.size ≤ maxLen) (ht : t.size ≤ maxLen) :
    Calls Try.prog 42 #[.string s, .string t] w (RetD (.int .i64 (errsOf s.data.toList t.data.toList)) w) := by
  have hs' := hs
  have ht' := ht
  unfold maxLen at hs' ht'
  have hcs : (bitsB s.data.toList = false ∧ errsOf s.data.toList t.data.toList = -1) ∨ (bitsB s.data.toList = true ∧ bitsB t.data.toList = false ∧ errsOf s.data.toList t.data.toList = -1) ∨
      (bitsB s.data.toList = true ∧ bitsB t.data.toList = true ∧ ((s.size : Int) != (t.size : Int)) = true ∧ errsOf s.data.toList t.data.toList = -1) ∨
      (bitsB s.data.toList = true ∧ bitsB t.data.toList = true ∧ ((s.size : Int) != (t.size : Int)) = false ∧ Hid (s.size = t.size) ∧ errsOf s.data.toList t.data.toList = (hamm s.data.toList t.data.toList : Int)) := by
    unfold errsOf
    rw [len_data, len_data]
    cases h1 : bitsB s.data.toList
    · simp
    · cases h2 : bitsB t.data.toList
      · simp
      · by_cases h3 : s.size = t.size
        · simp [h3, Hid]
        · simp [h3]; omega
  rcases hcs with ⟨h1, h⟩ | ⟨h1, h2, h⟩ | ⟨h1, h2, h3, h⟩ | ⟨h1, h2, h3, h4, h⟩
  iterate 3
    · have H := Lib.hid h
      clear h
      go_enter Try.func42, Try.ntmps42
      go_wp2_with (go_at_call 88; refine (impl_isBits _ _ (by assumption)).mono ?_; rintro e w' ⟨rfl, rfl⟩)
      go_ret
      exact ⟨ret_int H.out.symm, 0, rfl⟩
  · have H := Lib.hid h
    clear h
    go_enter Try.func42, Try.ntmps42
    go_wp2_with (go_at_call 88; refine (impl_isBits _ _ (by assumption)).mono ?_; rintro e w' ⟨rfl, rfl⟩)
    go_loopw [5, 24] (fun c v wr => ∃ k m : Nat, k ≤ s.size ∧ v = .int .i64 k ∧ wr = w.drewN m ∧ c = .int .i64 (cnt (fun i => s.data.toList[i]? != t.data.toList[i]?) k : Nat)) (fun _ v _ => s.size - (intOf v).toNat)
    case atStart => exact ⟨0, 0, Nat.zero_le _, rfl, rfl, rfl⟩
    case round =>
      obtain ⟨k, m, hk, rfl, rfl, rfl⟩ := hrel
      have hcl := cnt_le (fun i => s.data.toList[i]? != t.data.toList[i]?) k
      generalize hc : cnt (fun i => s.data.toList[i]? != t.data.toList[i]?) k = c at *
      have HC := Lib.hid hc
      clear hc
      by_cases hlt : k < s.size
      · have hlt' : k < t.size := by rw [← h4.out]; exact hlt
        rcases byte_cases s[k] t[k] with ⟨hb, hx⟩ | ⟨hb, hx⟩
        · go_wp2
          go_quiet (fail)
          go_wp2
          go_roundw
          case rel => exact ⟨k + 1, _, by omega, by go_num, rfl, by rw [cnt_no _ _ (by rw [differ_at s t k hlt hlt', hx.out]; simp), HC.out]⟩
          case measure => simp [intOf]; omega
        · go_wp2
          go_quiet (fail)
          go_wp2
          go_roundw
          case rel => exact ⟨k + 1, _, by omega, by go_num, rfl, by rw [cnt_yes _ _ (by rw [differ_at s t k hlt hlt']; simpa using hx.out), HC.out]; go_num⟩
          case measure => simp [intOf]; omega
      · obtain rfl : k = s.size := by omega
        go_wp2
        go_ret
        exact ⟨ret_int (by rw [H.out, ← HC.out]; unfold hamm; rw [len_data]), _, rfl⟩

set_option maxHeartbeats 400000 in
theorem spec_BitErrors (s t : ByteArray) (w : World) (hs : s.size ≤ maxLen) (ht : t.size ≤ maxLen) :
    Calls Try.prog 43 #[.string s, .string t] w (RetD (.int .i64 (errsOf s.data.toList t.data.toList)) w) := by
  have hs' := hs
  have ht' := ht
  unfold maxLen at hs' ht'
  have hcs : (bitsB s.data.toList = false ∧ errsOf s.data.toList t.data.toList = -1) ∨ (bitsB s.data.toList = true ∧ bitsB t.data.toList = false ∧ errsOf s.data.toList t.data.toList = -1) ∨
      (bitsB s.data.toList = true ∧ bitsB t.data.toList = true ∧ ((s.size : Int) != (t.size : Int)) = true ∧ errsOf s.data.toList t.data.toList = -1) ∨
      (bitsB s.data.toList = true ∧ bitsB t.data.toList = true ∧ ((s.size : Int) != (t.size : Int)) = false ∧ Hid (s.size = t.size) ∧ errsOf s.data.toList t.data.toList = (hamm s.data.toList t.data.toList : Int)) := by
    unfold errsOf
    rw [len_data, len_data]
    cases h1 : bitsB s.data.toList
    · simp
    · cases h2 : bitsB t.data.toList
      · simp
      · by_cases h3 : s.size = t.size
        · simp [h3, Hid]
        · simp [h3]; omega
  rcases hcs with ⟨h1, h⟩ | ⟨h1, h2, h⟩ | ⟨h1, h2, h3, h⟩ | ⟨h1, h2, h3, h4, h⟩
  iterate 3
    · have H := Lib.hid h
      clear h
      go_enter Try.func43, Try.ntmps43
      go_wp2_with (go_at_call 89; refine (spec_l1Bits _ _ (by assumption)).mono ?_; rintro e w' ⟨rfl, rfl⟩)
      go_ret
      exact ⟨ret_int H.out.symm, 0, rfl⟩
  · have H := Lib.hid h
    clear h
    go_enter Try.func43, Try.ntmps43
    go_wp2_with (go_at_call 89; refine (spec_l1Bits _ _ (by assumption)).mono ?_; rintro e w' ⟨rfl, rfl⟩)
    go_loopw [5, 6] (fun c v wr => ∃ k m : Nat, k ≤ s.size ∧ v = .int .i64 k ∧ wr = w.drewN m ∧ c = .int .i64 (cnt (fun i => s.data.toList[i]? != t.data.toList[i]?) k : Nat)) (fun _ v _ => s.size - (intOf v).toNat)
    case atStart => exact ⟨0, 0, Nat.zero_le _, rfl, rfl, rfl⟩
    case round =>
      obtain ⟨k, m, hk, rfl, rfl, rfl⟩ := hrel
      have hcl := cnt_le (fun i => s.data.toList[i]? != t.data.toList[i]?) k
      generalize hc : cnt (fun i => s.data.toList[i]? != t.data.toList[i]?) k = c at *
      have HC := Lib.hid hc
      clear hc
      by_cases hlt : k < s.size
      · have hlt' : k < t.size := by rw [← h4.out]; exact hlt
        rcases byte_cases s[k] t[k] with ⟨hb, hx⟩ | ⟨hb, hx⟩
        · go_wp2
          go_quiet (fail)
          go_wp2
          go_roundw
          case rel => exact ⟨k + 1, _, by omega, by go_num, rfl, by rw [cnt_no _ _ (by rw [differ_at s t k hlt hlt', hx.out]; simp), HC.out]⟩
          case measure => simp [intOf]; omega
        · go_wp2
          go_quiet (fail)
          go_wp2
          go_roundw
          case rel => exact ⟨k + 1, _, by omega, by go_num, rfl, by rw [cnt_yes _ _ (by rw [differ_at s t k hlt hlt']; simpa using hx.out), HC.out]; go_num⟩
          case measure => simp [intOf]; omega
      · obtain rfl : k = s.size := by omega
        go_wp2
        go_ret
        exact ⟨ret_int (by rw [H.out, ← HC.out]; unfold hamm; rw [len_data]), _, rfl⟩

set_option maxHeartbeats 400000 in
theorem impl_EnergyOf (A : Option Addr) (n c : Nat) (xs : List Int) (w : World) (hx : RdI .i64 w A n xs) (hn : n ≤ maxLen) :
    Calls Try.prog 53 #[.slice A n c] w fun e w' => e = .returned (.int .i64 (energyOf xs)) ∧ w = w' := by
  have hz := hn
  unfold maxLen at hz
  have lx := hx.len
  have LX := Lib.hid lx
  clear lx
  cases hs : sigB xs
  · go_enter Try.func53, Try.ntmps53
    go_wp2_with (go_at_call 54; refine (impl_SignalValid _ _ _ _ _ hx hn).mono ?_; rintro e w' ⟨rfl, rfl⟩)
    go_ret
    exact ⟨ret_int (by unfold energyOf; rw [hs]; rfl), rfl⟩
  · obtain ⟨hlen, hall⟩ := sig_bd xs hs
    rw [LX.out] at hlen
    have HALL := Lib.hid hall
    clear hall
    go_enter Try.func53, Try.ntmps53
    go_wp2_with (go_at_call 54; refine (impl_SignalValid _ _ _ _ _ hx hn).mono ?_; rintro e w' ⟨rfl, rfl⟩)
    go_loop [3, 11] (fun s v => ∃ k : Nat, k ≤ n ∧ v = .int .i64 k ∧ s = .int .i64 (sumTo (fun i => xs.getD i 0 * xs.getD i 0) k)) (fun _ v => n - (intOf v).toNat)
    case atStart => exact ⟨0, Nat.zero_le _, rfl, rfl⟩
    case round =>
      obtain ⟨k, hk, rfl, rfl⟩ := hrel
      have hb := energy_bd xs HALL.out k
      have hb2 : (k : Int) * 1000000000000 ≤ 3000000000000000 := by omega
      generalize hc : sumTo (fun i => xs.getD i 0 * xs.getD i 0) k = c at *
      have HC := Lib.hid hc
      clear hc
      by_cases hlt : k < n
      · obtain ⟨b, o, x, rfl, hbb, hxx, hcx⟩ := hx.at hlt
        have hq := sq_bd x (sig_at xs k x HALL.out hxx.out).1 (sig_at xs k x HALL.out hxx.out).2
        go_wp2
        go_round
        case rel => exact ⟨k + 1, by omega, by go_num, by rw [sumTo_succ, HC.out, List.getD_eq_getElem?_getD, hxx.out]; rfl⟩
        case measure => simp [intOf]; omega
      · obtain rfl : k = n := by omega
        go_wp2
        go_ret
        exact ⟨ret_int (by unfold energyOf; rw [hs, if_pos rfl, ← HC.out, LX.out]), rfl⟩



end Go.Proofs.Ythheafenlgdbiaa
