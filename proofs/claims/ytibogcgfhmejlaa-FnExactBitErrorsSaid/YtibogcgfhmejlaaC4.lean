/- What the functions of chapter 4 give back, in the program and in the reference. Conditions: as each theorem says. -/
import Derived.Test.YtibogcgfhmejlaaLaw
namespace Go.Proofs.Ytibogcgfhmejlaa
open Go.RowKit
set_option linter.unusedSimpArgs false
set_option linter.unusedVariables false

set_option maxHeartbeats 400000 in
theorem impl_numbersWithin (A : Option Addr) (n c : Nat) (lo hi : Int) (xs : List Int) (w : World) (hx : RdI .i64 w A n xs) (hn : n ≤ maxLen) :
    Calls Try.prog 31 #[.slice A n c, .int .i64 lo, .int .i64 hi] w fun e w' => e = .returned (.bool (xs.all (within lo hi))) ∧ w = w' := by
  unfold maxLen at hn
  have lx := hx.len
  have LX := Lib.hid lx
  clear lx
  go_enter Try.func31, Try.ntmps31
  go_wp2
  go_loop [11] (fun v => ∃ k : Nat, k ≤ n ∧ v = .int .i64 k ∧ Hid ((xs.take k).all (within lo hi) = true)) (fun v => n - (intOf v).toNat)
  case atStart => exact ⟨0, Nat.zero_le _, rfl, by simp [Hid]⟩
  case round =>
    obtain ⟨k, hk, rfl, ha⟩ := hrel
    by_cases hlt : k < n
    · obtain ⟨b, o, x, rfl, hb, hxx, hcx⟩ := hx.at hlt
      have hcs : x < lo ∨ (¬ x < lo ∧ hi < x) ∨ (¬ x < lo ∧ ¬ hi < x) := by omega
      rcases hcs with h1 | ⟨h1, h2⟩ | ⟨h1, h2⟩
      · go_wp2
        go_ret
        exact ⟨ret_bool (allP_false _ _ _ _ hxx.out (by unfold within; rw [decide_eq_false (by omega)]; rfl)).symm, rfl⟩
      · go_wp2
        go_ret
        exact ⟨ret_bool (allP_false _ _ _ _ hxx.out (by unfold within; rw [decide_eq_false (show ¬ x ≤ hi by omega)]; simp)).symm, rfl⟩
      · go_wp2
        go_round
        case rel => exact ⟨k + 1, by omega, by go_num, allP_snoc _ _ _ _ hxx.out ha.out (by unfold within; rw [decide_eq_true (show lo ≤ x by omega), decide_eq_true (show x ≤ hi by omega)]; rfl)⟩
        case measure => simp [intOf]; omega
    · go_wp2
      go_ret
      exact ⟨ret_bool (allP_take _ _ _ (by rw [LX.out]; omega) ha.out).symm, rfl⟩

set_option maxHeartbeats 400000 in
theorem impl_SignalValid (A : Option Addr) (n c : Nat) (xs : List Int) (w : World) (hx : RdI .i64 w A n xs) (hn : n ≤ maxLen) :
    Calls Try.prog 15 #[.slice A n c] w fun e w' => e = .returned (.bool (sigB xs)) ∧ w = w' := by
  have hz := hn
  unfold maxLen at hz
  have lx := hx.len
  have LX := Lib.hid lx
  clear lx
  by_cases h : n ≤ 3000
  · go_enter Try.func15, Try.ntmps15
    go_wp2_with (go_at_call 31; refine (impl_numbersWithin _ _ _ _ _ _ _ hx hn).mono ?_; rintro e w' ⟨rfl, rfl⟩)
    go_ret
    exact ⟨ret_bool (by unfold sigB; rw [LX.out, decide_eq_true h, Bool.true_and]), rfl⟩
  · go_enter Try.func15, Try.ntmps15
    go_wp2
    go_ret
    exact ⟨ret_bool (by unfold sigB; rw [LX.out, decide_eq_false h, Bool.false_and]), rfl⟩

set_option maxHeartbeats 400000 in
theorem spec_SignalValid (A : Option Addr) (n c : Nat) (xs : List Int) (w : World) (hx : RdI .i64 w A n xs) (hn : n ≤ maxLen) :
    Calls Try.prog 13 #[.slice A n c] w fun e w' => e = .returned (.bool (sigB xs)) ∧ w = w' := by
  unfold maxLen at hn
  have lx := hx.len
  have LX := Lib.hid lx
  clear lx
  go_enter Try.func13, Try.ntmps13
  go_wp2
  go_loop [3] (fun v => ∃ k : Nat, k ≤ n ∧ v = .int .i64 k ∧ Hid ((xs.take k).all (within (-1000000) 1000000) = true)) (fun v => n - (intOf v).toNat)
  case atStart => exact ⟨0, Nat.zero_le _, rfl, by simp [Hid]⟩
  case round =>
    obtain ⟨k, hk, rfl, ha⟩ := hrel
    by_cases hlt : k < n
    · obtain ⟨b, o, x, rfl, hb, hxx, hcx⟩ := hx.at hlt
      cases hw : within (-1000000) 1000000 x
      · go_wp2_with (go_at_call 25; refine (spec_l1In _ _ _ _).mono ?_; rintro e w' ⟨rfl, rfl⟩)
        go_ret
        exact ⟨ret_bool (by unfold sigB; rw [allP_false _ _ _ _ hxx.out hw, Bool.and_false]), rfl⟩
      · go_wp2_with (go_at_call 25; refine (spec_l1In _ _ _ _).mono ?_; rintro e w' ⟨rfl, rfl⟩)
        go_round
        case rel => exact ⟨k + 1, by omega, by go_num, allP_snoc _ _ _ _ hxx.out ha.out hw⟩
        case measure => simp [intOf]; omega
    · go_wp2
      go_ret
      refine ⟨ret_bool ?_, rfl⟩
      unfold sigB
      rw [allP_take _ _ _ (by rw [LX.out]; omega) ha.out, LX.out, Bool.and_true]
      exact decide_eq_decide.2 (by omega)

set_option maxHeartbeats 400000 in
theorem impl_BitErrors (s t : ByteArray) (w : World) (hs : s.size ≤ maxLen) (ht : t.size ≤ maxLen) :
    Calls Try.prog 18 #[.string s, .string t] w (RetD (.int .i64 (errsOf s.data.toList t.data.toList)) w) := by
  have hs' := hs
  have ht' := ht
  unfold maxLen at hs' ht'
  have hcs : (bitsB s.data.toList = false ∧ errsOf s.data.toList t.data.toList = -1) ∨ (bitsB s.data.toList = true ∧ bitsB t.data.toList = false ∧ errsOf s.data.toList t.data.toList = -1) ∨
      (bitsB s.data.toList = true ∧ bitsB t.data.toList = true ∧ ((s.size : Int) != (t.size : Int)) = true ∧ errsOf s.data.toList t.data.toList = -1) ∨
      (bitsB s.data.toList = true ∧ bitsB t.data.toList = true ∧ ((s.size : Int) != (t.size : Int)) = false ∧ Hid (s.size = t.size) ∧ errsOf s.data.toList t.data.toList = (hamm s.data.toList t.data.toList : Int)) := by
    unfold errsOf
    rw [len_data, len_data]
    cases h1 : bitsB s.data.toList
    · simp
    · cases h2 : bitsB t.data.toList
      · simp
      · by_cases h3 : s.size = t.size
        · simp [h3, Hid]
        · simp [h3]; omega
  rcases hcs with ⟨h1, h⟩ | ⟨h1, h2, h⟩ | ⟨h1, h2, h3, h⟩ | ⟨h1, h2, h3, h4, h⟩
  iterate 3
    · have H := Lib.hid h
      clear h
      go_enter Try.func18, Try.ntmps18
      go_wp2_with (go_at_call 33; refine (impl_isBits _ _ (by assumption)).mono ?_; rintro e w' ⟨rfl, rfl⟩)
      go_ret
      exact ⟨ret_int H.out.symm, 0, rfl⟩
  · have H := Lib.hid h
    clear h
    go_enter Try.func18, Try.ntmps18
    go_wp2_with (go_at_call 33; refine (impl_isBits _ _ (by assumption)).mono ?_; rintro e w' ⟨rfl, rfl⟩)
    go_loopw [5, 24] (fun c v wr => ∃ k m : Nat, k ≤ s.size ∧ v = .int .i64 k ∧ wr = w.drewN m ∧ c = .int .i64 (cnt (fun i => s.data.toList[i]? != t.data.toList[i]?) k : Nat)) (fun _ v _ => s.size - (intOf v).toNat)
    case atStart => exact ⟨0, 0, Nat.zero_le _, rfl, rfl, rfl⟩
    case round =>
      obtain ⟨k, m, hk, rfl, rfl, rfl⟩ := hrel
      have hcl := cnt_le (fun i => s.data.toList[i]? != t.data.toList[i]?) k
      generalize hc : cnt (fun i => s.data.toList[i]? != t.data.toList[i]?) k = c at *
      have HC := Lib.hid hc
      clear hc
      by_cases hlt : k < s.size
      · have hlt' : k < t.size := by rw [← h4.out]; exact hlt
        rcases byte_cases s[k] t[k] with ⟨hb, hx⟩ | ⟨hb, hx⟩
        · go_wp2
          go_quiet (fail)
          go_wp2
          go_roundw
          case rel => exact ⟨k + 1, _, by omega, by go_num, rfl, by rw [cnt_no _ _ (by rw [differ_at s t k hlt hlt', hx.out]; simp), HC.out]⟩
          case measure => simp [intOf]; omega
        · go_wp2
          go_quiet (fail)
          go_wp2
          go_roundw
          case rel => exact ⟨k + 1, _, by omega, by go_num, rfl, by rw [cnt_yes _ _ (by rw [differ_at s t k hlt hlt']; simpa using hx.out), HC.out]; go_num⟩
          case measure => simp [intOf]; omega
      · obtain rfl : k = s.size := by omega
        go_wp2
        go_ret
        exact ⟨ret_int (by rw [H.out, ← HC.out]; unfold hamm; rw [len_data]), _, rfl⟩

set_option maxHeartbeats 400000 in
theorem spec_BitErrors (s t : ByteArray) (w : World) (hs : s.size ≤ maxLen) (ht : t.size ≤ maxLen) :
    Calls Try.prog 17 #[.string s, .string t] w (RetD (.int .i64 (errsOf s.data.toList t.data.toList)) w) := by
  have hs' := hs
  have ht' := ht
  unfold maxLen at hs' ht'
  have hcs : (bitsB s.data.toList = false ∧ errsOf s.data.toList t.data.toList = -1) ∨ (bitsB s.data.toList = true ∧ bitsB t.data.toList = false ∧ errsOf s.data.toList t.data.toList = -1) ∨
      (bitsB s.data.toList = true ∧ bitsB t.data.toList = true ∧ ((s.size : Int) != (t.size : Int)) = true ∧ errsOf s.data.toList t.data.toList = -1) ∨
      (bitsB s.data.toList = true ∧ bitsB t.data.toList = true ∧ ((s.size : Int) != (t.size : Int)) = false ∧ Hid (s.size = t.size) ∧ errsOf s.data.toList t.data.toList = (hamm s.data.toList t.data.toList : Int)) := by
    unfold errsOf
    rw [len_data, len_data]
    cases h1 : bitsB s.data.toList
    · simp
    · cases h2 : bitsB t.data.toList
      · simp
      · by_cases h3 : s.size = t.size
        · simp [h3, Hid]
        · simp [h3]; omega
  rcases hcs with ⟨h1, h⟩ | ⟨h1, h2, h⟩ | ⟨h1, h2, h3, h⟩ | ⟨h1, h2, h3, h4, h⟩
  iterate 3
    · have H := Lib.hid h
      clear h
      go_enter Try.func17, Try.ntmps17
      go_wp2_with (go_at_call 32; refine (spec_l1Bits _ _ (by assumption)).mono ?_; rintro e w' ⟨rfl, rfl⟩)
      go_ret
      exact ⟨ret_int H.out.symm, 0, rfl⟩
  · have H := Lib.hid h
    clear h
    go_enter Try.func17, Try.ntmps17
    go_wp2_with (go_at_call 32; refine (spec_l1Bits _ _ (by assumption)).mono ?_; rintro e w' ⟨rfl, rfl⟩)
    go_loopw [5, 6] (fun c v wr => ∃ k m : Nat, k ≤ s.size ∧ v = .int .i64 k ∧ wr = w.drewN m ∧ c = .int .i64 (cnt (fun i => s.data.toList[i]? != t.data.toList[i]?) k : Nat)) (fun _ v _ => s.size - (intOf v).toNat)
    case atStart => exact ⟨0, 0, Nat.zero_le _, rfl, rfl, rfl⟩
    case round =>
      obtain ⟨k, m, hk, rfl, rfl, rfl⟩ := hrel
      have hcl := cnt_le (fun i => s.data.toList[i]? != t.data.toList[i]?) k
      generalize hc : cnt (fun i => s.data.toList[i]? != t.data.toList[i]?) k = c at *
      have HC := Lib.hid hc
      clear hc
      by_cases hlt : k < s.size
      · have hlt' : k < t.size := by rw [← h4.out]; exact hlt
        rcases byte_cases s[k] t[k] with ⟨hb, hx⟩ | ⟨hb, hx⟩
        · go_wp2
          go_quiet (fail)
          go_wp2
          go_roundw
          case rel => exact ⟨k + 1, _, by omega, by go_num, rfl, by rw [cnt_no _ _ (by rw [differ_at s t k hlt hlt', hx.out]; simp), HC.out]⟩
          case measure => simp [intOf]; omega
        · go_wp2
          go_quiet (fail)
          go_wp2
          go_roundw
          case rel => exact ⟨k + 1, _, by omega, by go_num, rfl, by rw [cnt_yes _ _ (by rw [differ_at s t k hlt hlt']; simpa using hx.out), HC.out]; go_num⟩
          case measure => simp [intOf]; omega
      · obtain rfl : k = s.size := by omega
        go_wp2
        go_ret
        exact ⟨ret_int (by rw [H.out, ← HC.out]; unfold hamm; rw [len_data]), _, rfl⟩


set_option maxHeartbeats 1000000 in
theorem impl_UserValid (c d : ByteArray) (g l : Int) (w : World) (hc : c.size ≤ maxLen) (hd : d.size ≤ maxLen) :
    Calls Try.prog 24 #[.agg #[.string c, .string d, .int .i64 g, .int .i64 l]] w fun e w' => e = .returned (.bool (userB c.data.toList d.data.toList g l)) ∧ Below w.heap.size w w' := by
  have hcs := user_cases c.data.toList d.data.toList g l
  rw [len_data, len_data] at hcs
  rcases hcs with ⟨h1, h⟩ | ⟨h1, h2, h⟩ | ⟨h1, h2, h3, h⟩ | ⟨h1, h2, h3, h4, h⟩ | ⟨h1, h2, h3, h4, h5, h⟩ | ⟨h1, h2, h3, h4, h5, h6, h⟩ | ⟨h1, h2, h3, h4, h5, h6, h⟩
  iterate 6
    · rw [h]
      clear h
      go_enter Try.func24, Try.ntmps24
      go_wp2_with (first | (go_at_call 33; refine (impl_isBits _ _ (by assumption)).mono ?_; rintro e w' ⟨rfl, rfl⟩) | (go_at_call 38; refine (impl_SequenceValid _ _ (by assumption)).mono ?_; rintro e w' ⟨rfl, rfl⟩))
      go_ret
      exact ⟨rfl, (Below.refl _ _).alloc (Nat.le_refl _) _⟩
  · have b1 := (seqB_bd c h1).2
    have b2 := bitsB_bd d h2
    have hm := mul_bd d.size c.size 600 255 b2 b1
    rw [h]
    clear h
    go_enter Try.func24, Try.ntmps24
    go_wp2_with (first | (go_at_call 33; refine (impl_isBits _ _ (by assumption)).mono ?_; rintro e w' ⟨rfl, rfl⟩) | (go_at_call 38; refine (impl_SequenceValid _ _ (by assumption)).mono ?_; rintro e w' ⟨rfl, rfl⟩))
    go_ret
    exact ⟨rfl, (Below.refl _ _).alloc (Nat.le_refl _) _⟩

set_option maxHeartbeats 1000000 in
theorem spec_UserValid (c d : ByteArray) (g l : Int) (w : World) (hc : c.size ≤ maxLen) (hd : d.size ≤ maxLen) :
    Calls Try.prog 22 #[.agg #[.string c, .string d, .int .i64 g, .int .i64 l]] w fun e w' => e = .returned (.bool (userB c.data.toList d.data.toList g l)) ∧ Below w.heap.size w w' := by
  have hcs := user_cases' c.data.toList d.data.toList g l
  rw [len_data, len_data] at hcs
  rcases hcs with ⟨h1, h⟩ | ⟨h1, h2, h⟩ | ⟨h1, h2, h3, h⟩ | ⟨h1, h2, h3, h4, h⟩ | ⟨h1, h2, h3, h4, h5, h⟩
  iterate 4
    · rw [h]
      clear h
      go_enter Try.func22, Try.ntmps22
      go_wp2_with (first | (go_at_call 32; refine (spec_l1Bits _ _ (by assumption)).mono ?_; rintro e w' ⟨rfl, rfl⟩) | (go_at_call 37; refine (spec_SequenceValid _ _ (by assumption)).mono ?_; rintro e w' ⟨rfl, rfl⟩) | (go_at_call 25; refine (spec_l1In _ _ _ _).mono ?_; rintro e w' ⟨rfl, rfl⟩))
      go_ret
      exact ⟨rfl, (Below.refl _ _).alloc (Nat.le_refl _) _⟩
  · have b1 := (seqB_bd c h1).2
    have b2 := bitsB_bd d h2
    have hm := mul_bd d.size c.size 600 255 b2 b1
    rw [h]
    clear h
    go_enter Try.func22, Try.ntmps22
    go_wp2_with (first | (go_at_call 32; refine (spec_l1Bits _ _ (by assumption)).mono ?_; rintro e w' ⟨rfl, rfl⟩) | (go_at_call 37; refine (spec_SequenceValid _ _ (by assumption)).mono ?_; rintro e w' ⟨rfl, rfl⟩) | (go_at_call 25; refine (spec_l1In _ _ _ _).mono ?_; rintro e w' ⟨rfl, rfl⟩))
    go_ret
    exact ⟨rfl, (Below.refl _ _).alloc (Nat.le_refl _) _⟩

end Go.Proofs.Ytibogcgfhmejlaa
