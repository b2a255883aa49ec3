/- What the functions on Barker codes, trees and orders give back, in the program and in the reference. Conditions: as each theorem says. -/
import Derived.Test.YtkebiigpfbconaaC4
import Derived.Test.YtkebiigpfbconaaPureF
namespace Go.Proofs.Ytkebiigpfbconaa
open Go.RowKit
set_option linter.unusedSimpArgs false
set_option linter.unusedVariables false
set_option maxRecDepth 100000


set_option maxHeartbeats 400000 in
theorem spec_AperiodicOf (s : ByteArray) (k : Nat) (w : World) (hs : s.size ≤ maxLen) (hk : k < s.size) (hq : seqB s.data.toList = true) :
    Calls Try.prog 46 #[.string s, .int .i64 k] w (RetD (.tuple #[.int .i64 (aperC s.data.toList k), .bool true]) w) := by
  have hz := seqB_bd s hq
  have hw : within 0 ((s.size : Int) - 1) k = true := (within_iff _ _ _).2 ⟨by omega, by omega⟩
  go_enter Try.func46, Try.ntmps46
  go_wp2_with (first | (go_at_call 45; refine (spec_SequenceValid _ _ hs).mono ?_; rintro e w' ⟨rfl, rfl⟩) | (go_at_call 47; refine (spec_l1In _ _ _ _).mono ?_; rintro e w' ⟨rfl, rfl⟩))
  go_loopw [6, 7] (fun u v wr => ∃ i d : Nat, i ≤ s.size - k ∧ v = .int .i64 i ∧ u = .int .i64 (sumTo (aperT s.data.toList k) i) ∧ wr = w.drewN d) (fun _ v _ => s.size - k - (intOf v).toNat)
  case atStart => exact ⟨0, 0, by omega, rfl, rfl, rfl⟩
  case round =>
    obtain ⟨i, d, hi, rfl, rfl, rfl⟩ := hrel
    have hb := aper_bd s.data.toList k i
    generalize hc : sumTo (aperT s.data.toList k) i = c at *
    have HC := Lib.hid hc
    clear hc
    by_cases hlt : i < s.size - k
    · have h1 : i < s.size := by omega
      obtain ⟨j, hj⟩ : ∃ j : Nat, i + k = j := ⟨_, rfl⟩
      have h2 : j < s.size := by omega
      have h5 : aperT s.data.toList k i = if s[i] = s[j] then 1 else -1 := by unfold aperT; rw [hj, data_at s i h1, data_at s j h2]; simp
      have hwr : IntKind.i64.wrap ((i : Int) + (k : Int)) = (j : Int) := by rw [IntWalk.i64_in _ ⟨by omega, by omega⟩]; omega
      rcases byte_same s[i] s[j] with ⟨h3, h4⟩ | ⟨h3, h4⟩
      · rw [if_pos h4.out] at h5
        have H5 := Lib.hid h5
        clear h5 h4
        go_wp2
        go_quiet (fail)
        go_wp2
        go_roundw
        case rel => exact ⟨i + 1, _, by omega, by go_num, by rw [sumTo_succ, HC.out, H5.out], rfl⟩
        case measure => simp [intOf]; omega
      · rw [if_neg h4.out] at h5
        have H5 := Lib.hid h5
        clear h5 h4
        go_wp2
        go_quiet (fail)
        go_wp2
        go_roundw
        case rel => exact ⟨i + 1, _, by omega, by go_num, by rw [sumTo_succ, HC.out, H5.out]; rfl, rfl⟩
        case measure => simp [intOf]; omega
    · obtain rfl : i = s.size - k := by omega
      go_wp2
      go_ret2
      exact ⟨by rw [← HC.out]; unfold aperC; rw [len_data]; rfl, _, rfl⟩
set_option maxHeartbeats 400000 in
theorem impl_AperiodicOf (s : ByteArray) (k : Nat) (w : World) (hs : s.size ≤ maxLen) (hk : k < s.size) (hq : seqB s.data.toList = true) :
    Calls Try.prog 14 #[.string s, .int .i64 k] w (RetD (.tuple #[.int .i64 (aperC s.data.toList k), .bool true]) w) := by
  have hz := seqB_bd s hq
  go_enter Try.func14, Try.ntmps14
  go_wp2_with (go_at_call 11; refine (impl_SequenceValid _ _ hs).mono ?_; rintro e w' ⟨rfl, rfl⟩)
  go_loopw [6, 25] (fun u v wr => ∃ i d : Nat, i ≤ s.size - k ∧ v = .int .i64 i ∧ u = .int .i64 (sumTo (aperT s.data.toList k) i) ∧ wr = w.drewN d) (fun _ v _ => s.size - k - (intOf v).toNat)
  case atStart => exact ⟨0, 0, by omega, rfl, rfl, rfl⟩
  case round =>
    obtain ⟨i, d, hi, rfl, rfl, rfl⟩ := hrel
    have hb := aper_bd s.data.toList k i
    generalize hc : sumTo (aperT s.data.toList k) i = c at *
    have HC := Lib.hid hc
    clear hc
    by_cases hlt : i < s.size - k
    · have h1 : i < s.size := by omega
      obtain ⟨j, hj⟩ : ∃ j : Nat, i + k = j := ⟨_, rfl⟩
      have h2 : j < s.size := by omega
      have h5 : aperT s.data.toList k i = if s[i] = s[j] then 1 else -1 := by unfold aperT; rw [hj, data_at s i h1, data_at s j h2]; simp
      have hwr : IntKind.i64.wrap ((i : Int) + (k : Int)) = (j : Int) := by rw [IntWalk.i64_in _ ⟨by omega, by omega⟩]; omega
      rcases byte_same s[i] s[j] with ⟨h3, h4⟩ | ⟨h3, h4⟩
      · rw [if_pos h4.out] at h5
        have H5 := Lib.hid h5
        clear h5 h4
        go_wp2
        go_quiet (fail)
        go_wp2
        go_roundw
        case rel => exact ⟨i + 1, _, by omega, by go_num, by rw [sumTo_succ, HC.out, H5.out], rfl⟩
        case measure => simp [intOf]; omega
      · rw [if_neg h4.out] at h5
        have H5 := Lib.hid h5
        clear h5 h4
        go_wp2
        go_quiet (fail)
        go_wp2
        go_roundw
        case rel => exact ⟨i + 1, _, by omega, by go_num, by rw [sumTo_succ, HC.out, H5.out]; rfl, rfl⟩
        case measure => simp [intOf]; omega
    · obtain rfl : i = s.size - k := by omega
      go_wp2
      go_ret2
      exact ⟨by rw [← HC.out]; unfold aperC; rw [len_data]; rfl, _, rfl⟩

set_option maxHeartbeats 400000 in
theorem spec_BarkerValid (s : ByteArray) (w : World) (hs : s.size ≤ maxLen) :
    Calls Try.prog 10 #[.string s] w (RetD (.bool (barkB s.data.toList)) w) := by
  cases hq : seqB s.data.toList
  · rw [barkB_no _ hq]
    have h1 := hs
    unfold maxLen at h1
    go_enter Try.func10, Try.ntmps10
    go_wp2_with fail
    go_loopw [3] (fun v wr => v = .int .i64 1 ∧ wr = w) (fun _ _ => 0)
    case atStart => exact ⟨rfl, rfl⟩
    case round =>
      obtain ⟨rfl, rfl⟩ := hrel
      go_wp2_with (go_at_call 45; refine (spec_SequenceValid _ _ hs).mono ?_; rintro e w' ⟨rfl, rfl⟩)
      all_goals
        go_ret
        exact ⟨rfl, 0, rfl⟩
  · have hz := seqB_bd s hq
    have HQ := Lib.hid hq
    go_enter Try.func10, Try.ntmps10
    go_wp2_with fail
    go_loopw [3] (fun v wr => ∃ k d : Nat, 1 ≤ k ∧ k ≤ s.size ∧ v = .int .i64 k ∧ wr = w.drewN d ∧ ∀ x, x < k → barkAt s.data.toList x = true) (fun v _ => s.size - (intOf v).toNat)
    case atStart => exact ⟨1, 0, by omega, by omega, rfl, rfl, fun x hx => by obtain rfl : x = 0 := (by omega); rfl⟩
    case round =>
      obtain ⟨k, d, hk1, hk, rfl, rfl, hall⟩ := hrel
      have HALL := Lib.hid hall
      clear hall
      by_cases hlt : k < s.size
      · have hat := barkAt_within s.data.toList k hk1
        cases hb : barkAt s.data.toList k
        all_goals
          rw [hb] at hat
          have hat' := hat.symm
          have HB := Lib.hid hb
          clear hb hat
        · go_wp2_with (first | (go_at_call 45; refine (spec_SequenceValid _ _ hs).mono ?_; rintro e w' ⟨rfl, rfl⟩) | (go_at_call 46; refine (spec_AperiodicOf _ _ _ hs hlt HQ.out).mono ?_; rintro e w' ⟨rfl, m, rfl⟩) | (go_at_call 47; refine (spec_l1In _ _ _ _).mono ?_; rintro e w' ⟨rfl, rfl⟩))
          go_ret
          exact ⟨ret_bool (barkB_not _ k (by rw [len_data]; exact hlt) HB.out).symm, _, rfl⟩
        · go_wp2_with (first | (go_at_call 45; refine (spec_SequenceValid _ _ hs).mono ?_; rintro e w' ⟨rfl, rfl⟩) | (go_at_call 46; refine (spec_AperiodicOf _ _ _ hs hlt HQ.out).mono ?_; rintro e w' ⟨rfl, m, rfl⟩) | (go_at_call 47; refine (spec_l1In _ _ _ _).mono ?_; rintro e w' ⟨rfl, rfl⟩))
          go_roundw
          case rel => exact ⟨k + 1, _, by omega, by omega, by go_num, rfl, bark_snoc _ k HALL.out HB.out⟩
          case measure => simp [intOf]; omega
      · obtain rfl : k = s.size := by omega
        go_wp2_with (go_at_call 45; refine (spec_SequenceValid _ _ hs).mono ?_; rintro e w' ⟨rfl, rfl⟩)
        go_ret
        exact ⟨ret_bool (barkB_yes _ HQ.out (by rw [len_data]; exact HALL.out)).symm, _, rfl⟩
set_option maxHeartbeats 400000 in
theorem impl_BarkerValid (s : ByteArray) (w : World) (hs : s.size ≤ maxLen) :
    Calls Try.prog 9 #[.string s] w (RetD (.bool (barkB s.data.toList)) w) := by
  cases hq : seqB s.data.toList
  · rw [barkB_no _ hq]
    go_enter Try.func9, Try.ntmps9
    go_wp2_with (go_at_call 11; refine (impl_SequenceValid _ _ hs).mono ?_; rintro e w' ⟨rfl, rfl⟩)
    go_ret
    exact ⟨rfl, 0, rfl⟩
  · have hz := seqB_bd s hq
    have HQ := Lib.hid hq
    go_enter Try.func9, Try.ntmps9
    go_wp2_with (go_at_call 11; refine (impl_SequenceValid _ _ hs).mono ?_; rintro e w' ⟨rfl, rfl⟩)
    go_loopw [3] (fun v wr => ∃ k d : Nat, 1 ≤ k ∧ k ≤ s.size ∧ v = .int .i64 k ∧ wr = w.drewN d ∧ ∀ x, x < k → barkAt s.data.toList x = true) (fun v _ => s.size - (intOf v).toNat)
    case atStart => exact ⟨1, 0, by omega, by omega, rfl, rfl, fun x hx => by obtain rfl : x = 0 := (by omega); rfl⟩
    case round =>
      obtain ⟨k, d, hk1, hk, rfl, rfl, hall⟩ := hrel
      have HALL := Lib.hid hall
      clear hall
      by_cases hlt : k < s.size
      · have hat := barkAt_within s.data.toList k hk1
        generalize hc : aperC s.data.toList k = c at *
        have HC := Lib.hid hc
        have HAT := Lib.hid hat
        clear hc hat
        rcases (show (c < -1 ∨ 1 < c) ∨ (-1 ≤ c ∧ c ≤ 1) by omega) with hcc | hcc
        · have hb : barkAt s.data.toList k = false := by rw [HAT.out]; exact within_no _ _ _ (by omega)
          have HB := Lib.hid hb
          clear hb
          rcases hcc with hcc | hcc
          all_goals
            go_wp2_with (go_at_call 14; refine (impl_AperiodicOf _ _ _ hs hlt HQ.out).mono ?_; rintro e w' ⟨rfl, m, rfl⟩; rw [HC.out])
            go_ret
            exact ⟨ret_bool (barkB_not _ k (by rw [len_data]; exact hlt) HB.out).symm, _, rfl⟩
        · have hb : barkAt s.data.toList k = true := by rw [HAT.out]; exact (within_iff _ _ _).2 hcc
          have HB := Lib.hid hb
          clear hb
          go_wp2_with (go_at_call 14; refine (impl_AperiodicOf _ _ _ hs hlt HQ.out).mono ?_; rintro e w' ⟨rfl, m, rfl⟩; rw [HC.out])
          go_roundw
          case rel => exact ⟨k + 1, _, by omega, by omega, by go_num, rfl, bark_snoc _ k HALL.out HB.out⟩
          case measure => simp [intOf]; omega
      · obtain rfl : k = s.size := by omega
        go_wp2_with fail
        go_ret
        exact ⟨ret_bool (barkB_yes _ HQ.out (by rw [len_data]; exact HALL.out)).symm, _, rfl⟩
/-! texts -/
theorem str_app {s t : ByteArray} {l m : List UInt8} (h : s.data.toList = l) (h' : t.data.toList = m) : (s ++ t).data.toList = l ++ m := by
  rw [ByteArray.data_append, Array.toList_append, h, h']
set_option maxHeartbeats 400000 in
theorem impl_changedBits (s : ByteArray) (w : World) (hs : s.size ≤ 1048576) (hb : s.data.toList.all isBit = true) :
    Calls Try.prog 50 #[.string s] w (RetStr (s.data.toList.map flipC) w) := by
  have HBIT := Lib.hid hb
  clear hb
  have hmk := run_make_row' (P := Try.prog) 22 5 (.int .u8 0) 1 Try.underlying22 Try.infoU8 rfl .i64 .i64 s.size (by omega) (by omega)
  go_enter Try.func50, Try.ntmps50
  go_wp2_with fail
  clear hmk
  go_loopw [10] (fun v wr => ∃ k : Nat, k ≤ s.size ∧ v = .int .i64 k ∧ wr.ownsRow w.heap.size 5 1 (.slice (some ⟨w.heap.size, 0, none⟩) s.size s.size) s.size (Fill (bytes (s.data.toList.map flipC)) (.int .u8 0) k) ∧ Below w.heap.size w wr) (fun v _ => s.size - (intOf v).toNat)
  case atStart => exact ⟨0, Nat.zero_le _, rfl, by rw [fill_zero, bytes_len, List.length_map, len_data]; exact own_made _ _ _ _ (by unfold maxLen; omega), (Below.refl _ _).alloc (Nat.le_refl _) _⟩
  case round =>
    obtain ⟨k, hk, rfl, ho, hb⟩ := hrel
    by_cases hlt : k < s.size
    · have hc := ho.cellAt k (by omega)
      rw [fill_at _ _ _ (by rw [bytes_len, List.length_map, len_data]; exact hlt)] at hc
      have hf := ho.frozenAt k
      have HO := Lib.hid ho
      clear ho
      have hbit := List.all_eq_true.1 HBIT.out s[k] (List.mem_of_getElem? (data_at s k hlt))
      have hfl := flip_bit _ hbit
      have HFL := Lib.hid hfl
      have hn := bit_toNat _ hbit
      clear hfl hbit
      go_wp2_with fail
      go_roundw
      case rel =>
        have hs := HO.out.stored k (.int .u8 ((flipC s[k]).toNat : Int))
        rw [fill_set _ _ _ _ (bytes_at _ _ _ (by rw [List.getElem?_map, data_at s k hlt]; rfl))] at hs
        rw [show (97 : Int) - (s[k].toNat : Int) = ((flipC s[k]).toNat : Int) from HFL.out]
        exact ⟨k + 1, by omega, by go_num, hs.1, hb.setCell (Nat.le_refl _) _⟩
      case measure => simp [intOf]; omega
    · rw [fill_full _ _ _ (by rw [bytes_len, List.length_map, len_data]; omega)] at ho
      have hcv := own_string (P := Try.prog) (src := 22) (dst := 9) _ Try.underlying22 Try.underlying5 Try.underlying9 ho
      go_wp2
      go_ret
      exact ⟨_, rfl, rfl, hb⟩
theorem flat_two (m : Nat) (l : List UInt8) : (List.replicate m (l ++ l)).flatten = (List.replicate (2 * m) l).flatten := by
  induction m with
  | zero => rfl
  | succ m ih => rw [List.replicate_succ, List.flatten_cons, ih, show 2 * (m + 1) = 2 * m + 1 + 1 by omega, List.replicate_succ, List.replicate_succ, List.flatten_cons, List.flatten_cons, List.append_assoc]
theorem flat_step (m : Nat) (l : List UInt8) : (List.replicate m l).flatten = (if m % 2 = 1 then l else []) ++ (List.replicate (m / 2) (l ++ l)).flatten := by
  rw [flat_two]
  split
  · obtain ⟨j, rfl⟩ : ∃ j, m = 2 * j + 1 := ⟨m / 2, by omega⟩
    rw [show 2 * ((2 * j + 1) / 2) = 2 * j by omega, List.replicate_succ, List.flatten_cons]
  · rw [show 2 * (m / 2) = m by omega]; rfl
theorem flat_len (m : Nat) (l : List UInt8) : (List.replicate m l).flatten.length = m * l.length := by simp
set_option maxHeartbeats 400000 in
theorem spec_l9Many (s : ByteArray) (l : List UInt8) (n : Nat) (w : World) (hs : s.data.toList = l) (hl : l.length ≤ 1048576) (hn : n ≤ 1048576) :
    Calls Try.prog 59 #[.string s, .int .i64 n] w fun e w' => ∃ t : ByteArray, e = .returned (.string t) ∧ t.data.toList = (List.replicate n l).flatten ∧ w = w' := by
  have hnl : n * l.length ≤ 1048576 * 1048576 := Nat.mul_le_mul hn hl
  have HS := Lib.hid hs
  clear hs
  go_enter Try.func59, Try.ntmps59
  go_wp2_with fail
  go_loop [0, 1, 5] (fun a b c => ∃ (m : Nat) (x y : ByteArray), b = .int .i64 m ∧ a = .string x ∧ c = .string y ∧ m ≤ n ∧ (m = 0 ∨ m * x.size ≤ n * l.length) ∧ y.data.toList ++ (List.replicate m x.data.toList).flatten = (List.replicate n l).flatten) (fun a b c => (intOf b).toNat)
  case atStart => exact ⟨n, _, _, rfl, rfl, rfl, Nat.le_refl _, .inr (by rw [str_size HS.out]; exact Nat.le_refl _), by rw [HS.out]; rfl⟩
  case round =>
    obtain ⟨m, x, y, rfl, rfl, rfl, hm, hx, hxy⟩ := hrel
    have hys : y.size + m * x.size = n * l.length := by
      have := congrArg List.length hxy
      rw [List.length_append, flat_len, flat_len, len_data, len_data] at this
      exact this
    have HXY := Lib.hid hxy
    have HX := Lib.hid hx
    clear hxy hx
    rcases Nat.eq_zero_or_pos m with h0 | h0
    · subst h0
      go_wp2_with fail
      go_ret
      exact ⟨_, rfl, by have := HXY.out; simpa using this, rfl⟩
    · have h1 : x.size ≤ m * x.size := Nat.le_mul_of_pos_left _ h0
      have h2 : m / 2 * (x.size + x.size) ≤ m * x.size := by rw [← Nat.two_mul, ← Nat.mul_assoc]; exact Nat.mul_le_mul_right _ (by omega)
      generalize hmx : m * x.size = mx at *
      have hst := flat_step m x.data.toList
      have H2 := Lib.hid h2
      have HST := Lib.hid hst
      clear h2 hst hmx
      rcases (show m % 2 = 1 ∨ m % 2 = 0 by omega) with hp | hp
      · have hq : (m : Int) % 2 = 1 := by omega
        go_wp2_with fail
        go_round
        case rel => exact ⟨m / 2, _, _, by go_num, rfl, rfl, by omega, .inr (by rw [ByteArray.size_append]; have := H2.out; omega), by
          have h5 := HXY.out
          rw [HST.out, if_pos hp] at h5
          rw [str_app rfl rfl, str_app rfl rfl, List.append_assoc]
          exact h5⟩
        case measure => simp [intOf]; omega
      · have hq : (m : Int) % 2 = 0 := by omega
        go_wp2_with fail
        go_round
        case rel => exact ⟨m / 2, _, _, by go_num, rfl, rfl, by omega, .inr (by rw [ByteArray.size_append]; have := H2.out; omega), by
          have h5 := HXY.out
          rw [HST.out, if_neg (by omega)] at h5
          rw [str_app rfl rfl]
          exact h5⟩
        case measure => simp [intOf]; omega
set_option maxHeartbeats 400000 in
theorem spec_l2Add (s t : ByteArray) (w : World) (hs : s.size ≤ 1048576) (hst : s.size = t.size) (hb : s.data.toList.all isBit = true) (hb' : t.data.toList.all isBit = true) :
    Calls Try.prog 85 #[.string s, .string t] w (RetStr (addBL s.data.toList t.data.toList) w) := by
  have hal : (bytes (addBL s.data.toList t.data.toList)).length = s.size := by rw [bytes_len, addBL_len _ _ (by rw [len_data, len_data]; exact hst), len_data]
  have HAL := Lib.hid hal
  have HB := Lib.hid hb
  have HB' := Lib.hid hb'
  have HSZ := Lib.hid hst
  clear hal hb hb' hst
  have hmk := run_make_row' (P := Try.prog) 22 5 (.int .u8 0) 1 Try.underlying22 Try.infoU8 rfl .i64 .i64 s.size (by omega) (by omega)
  go_enter Try.func85, Try.ntmps85
  go_wp2_with fail
  clear hmk
  go_loopw [6] (fun v wr => ∃ k : Nat, k ≤ s.size ∧ v = .int .i64 k ∧ wr.ownsRow w.heap.size 5 1 (.slice (some ⟨w.heap.size, 0, none⟩) s.size s.size) s.size (Fill (bytes (addBL s.data.toList t.data.toList)) (.int .u8 0) k) ∧ Below w.heap.size w wr) (fun v _ => s.size - (intOf v).toNat)
  case atStart => exact ⟨0, Nat.zero_le _, rfl, by rw [fill_zero, HAL.out]; exact own_made _ _ _ _ (by unfold maxLen; omega), (Below.refl _ _).alloc (Nat.le_refl _) _⟩
  case round =>
    obtain ⟨k, hk, rfl, ho, hb⟩ := hrel
    by_cases hlt : k < s.size
    · have hlt' : k < t.size := by have := HSZ.out; omega
      have hc := ho.cellAt k (by omega)
      rw [fill_at _ _ _ (by rw [HAL.out]; exact hlt)] at hc
      have hf := ho.frozenAt k
      have HO := Lib.hid ho
      clear ho
      have hxa := addBL_at _ _ k _ _ (data_at s k hlt) (data_at t k hlt')
      have HXA := Lib.hid hxa
      have hx := bit_toNat _ (List.all_eq_true.1 HB.out s[k] (List.mem_of_getElem? (data_at s k hlt)))
      have hy := bit_toNat _ (List.all_eq_true.1 HB'.out t[k] (List.mem_of_getElem? (data_at t k hlt')))
      clear hxa
      rcases hx with ⟨hx1, hx2⟩ | ⟨hx1, hx2⟩ <;> rcases hy with ⟨hy1, hy2⟩ | ⟨hy1, hy2⟩
      all_goals
        have HX1 := Lib.hid hx1
        have HY1 := Lib.hid hy1
        clear hx1 hy1
        go_wp2
        go_region
        all_goals go_wp2
        go_roundw
        case rel =>
          have hs := HO.out.stored k (.int .u8 ((xorC s[k] t[k]).toNat : Int))
          rw [fill_set _ _ _ _ (bytes_at _ _ _ HXA.out), HX1.out, HY1.out] at hs
          exact ⟨k + 1, by omega, by go_num, hs.1, (hb.setCell (Nat.le_refl _) _).drew⟩
        case measure => simp [intOf]; omega
    · rw [fill_full _ _ _ (by rw [HAL.out]; omega)] at ho
      have hcv := own_string (P := Try.prog) (src := 22) (dst := 9) _ Try.underlying22 Try.underlying5 Try.underlying9 ho
      go_wp2
      go_ret
      exact ⟨_, rfl, rfl, hb⟩
set_option maxHeartbeats 400000 in
theorem spec_l9Dec (n : Nat) (w : World) (hn : n ≤ 9) :
    Calls Try.prog 52 #[.int .i64 n] w (RetStr [digC n] w) := by
  have hcv := own_string (P := Try.prog) (src := 22) (dst := 9) [digC n] Try.underlying22 Try.underlying5 Try.underlying9 (own_lit w 5 1 (bytes [digC n]) rfl (by decide))
  rw [show bytes [digC n] = [Value.int .u8 (48 + (n : Int))] by unfold bytes; rw [List.map_cons, digC_toNat n hn]; rfl] at hcv
  go_enter Try.func52, Try.ntmps52
  go_wp2_with fail
  go_loopw [0, 3] (fun a b wr => a = .int .i64 n ∧ b = .string ⟨#[]⟩ ∧ wr = w) (fun _ _ _ => 0)
  case atStart => exact ⟨rfl, rfl, rfl⟩
  case round =>
    obtain ⟨rfl, rfl, rfl⟩ := hrel
    go_wp2_with fail
    go_ret
    exact ⟨_, rfl, by rw [str_app rfl rfl]; rfl, (Below.refl _ _).alloc (Nat.le_refl _) _⟩
set_option maxHeartbeats 1000000 in
theorem spec_FirstBarker (z : Int) (w : World) :
    Calls Try.prog 41 #[.int .i64 z] w (RetStrB (fbarkC z).1 (fbarkC z).2 w) := by
  by_cases hz : 1 ≤ z ∧ z ≤ 13
  · obtain ⟨n, rfl⟩ := Int.eq_ofNat_of_zero_le (show 0 ≤ z by omega)
    have h1 : 1 ≤ n := by omega
    have h13 : n ≤ 13 := by omega
    have hw : within 1 13 (n : Int) = true := (within_iff _ _ _).2 ⟨by omega, by omega⟩
    have hN := two_nat n
    have hNb : 2 ^ n ≤ 8192 := Nat.pow_le_pow_right (by omega) h13
    have hN1 := Nat.two_pow_pos n
    have hFS := fun x => fbarkC_some n x h1 h13
    have hFN := fbarkC_none n h1 h13
    generalize hNN : 2 ^ n = N at *
    have HFS := Lib.hid hFS
    have HFN := Lib.hid hFN
    have HN := Lib.hid hN
    clear hFS hFN hN hNN hz
    go_enter Try.func41, Try.ntmps41
    go_wp2_with (go_at_call 47; refine (spec_l1In _ _ _ _).mono ?_; rintro e w' ⟨rfl, rfl⟩)
    go_loopw [4] (fun v wr => ∃ x : Nat, x ≤ N ∧ v = .int .i64 x ∧ (∀ y, y < x → barkB (binL n y) = false) ∧ Below w.heap.size w wr) (fun v _ => N - (intOf v).toNat)
    case atStart => exact ⟨0, by omega, rfl, fun y hy => absurd hy (by omega), Below.refl _ _⟩
    case round =>
      obtain ⟨x, hx, rfl, hno, hb⟩ := hrel
      have HNO := Lib.hid hno
      clear hno
      by_cases hlt : x < N
      · go_wp2_with (go_at_call 68; refine (spec_l1Two _ _ (by omega) (by omega)).mono ?_; rintro e w' ⟨rfl, rfl⟩; rw [HN.out])
        go_loopw [5, 6] (fun s v wr' => ∃ (i : Nat) (t : ByteArray), i ≤ n ∧ v = .int .i64 ((i : Int) - 1) ∧ s = .string t ∧ t.data.toList = (binL n x).take (n - i) ∧ Below w.heap.size w wr') (fun s v _ => (intOf v + 1).toNat)
        case atStart => exact ⟨n, _, Nat.le_refl _, rfl, rfl, by rw [Nat.sub_self]; rfl, hb⟩
        case round =>
          obtain ⟨i, t, hi, rfl, rfl, ht, hb'⟩ := hrel
          have hts : t.size ≤ 13 := by rw [str_size ht, List.length_take]; omega
          have HT := Lib.hid ht
          clear ht
          rcases i with _ | j
          · rw [Nat.sub_zero, List.take_of_length_le (by rw [binL_len]; omega)] at HT
            cases hbk : barkB (binL n x)
            · have HBK := Lib.hid hbk
              go_wp2_with (go_at_call 10; refine (spec_BarkerValid _ _ (by unfold maxLen; omega)).mono ?_; rintro e w' ⟨rfl, m, rfl⟩; rw [HT.out])
              go_roundw
              case rel => exact ⟨x + 1, by omega, by go_num, below_snoc _ x HNO.out HBK.out, below_drewN hb' m⟩
              case measure => simp [intOf]; omega
            · have HBK := Lib.hid hbk
              go_wp2_with (go_at_call 10; refine (spec_BarkerValid _ _ (by unfold maxLen; omega)).mono ?_; rintro e w' ⟨rfl, m, rfl⟩; rw [HT.out])
              go_ret2
              rw [HFS.out x hlt HNO.out HBK.out]
              exact ⟨_, rfl, HT.out, below_drewN hb' m⟩
          · obtain ⟨P, hP⟩ : ∃ P : Nat, 2 ^ j = P := ⟨_, rfl⟩
            have hP1 : 1 ≤ P := by rw [← hP]; exact Nat.two_pow_pos j
            have hP2 : P ≤ 8192 := by rw [← hP]; exact Nat.le_trans (Nat.pow_le_pow_right (by omega) (show j ≤ 13 by omega)) (by decide)
            have htp := two_nat j
            have hst := binL_take n x j hi
            rw [hP] at htp hst
            have HTP := Lib.hid htp
            have HST := Lib.hid hst
            have hq := quo_bit x P (by omega)
            have HQ := Lib.hid hq
            clear htp hst hq hP
            rw [show ((j + 1 : Nat) : Int) - 1 = (j : Int) by omega]
            go_wp2_with (first | (go_at_call 68; refine (spec_l1Two _ _ (by omega) (by omega)).mono ?_; rintro e w' ⟨rfl, rfl⟩; rw [HTP.out]) | (go_at_call 52; rw [HQ.out]; refine (spec_l9Dec _ _ (by omega)).mono ?_; rintro e w' ⟨u, rfl, hu, hbu⟩; rw [digC_bit] at hu; have HU := Lib.hid hu; clear hu; have hus : u.size = 1 := (by rw [str_size HU.out]; rfl)))
            go_roundw
            case rel => exact ⟨j, _, by omega, by go_num, rfl, by rw [str_app HT.out HU.out, HST.out], hb'.trans (hbu.mono hb'.size)⟩
            case measure => simp [intOf]
      · obtain rfl : x = N := by omega
        go_wp2_with (go_at_call 68; refine (spec_l1Two _ _ (by omega) (by omega)).mono ?_; rintro e w' ⟨rfl, rfl⟩; rw [HN.out])
        go_ret2
        rw [HFN.out HNO.out]
        exact ⟨_, rfl, rfl, hb⟩
  · rw [fbarkC_out z hz]
    have hw : within 1 13 z = false := within_no _ _ _ hz
    clear hz
    go_enter Try.func41, Try.ntmps41
    go_wp2_with (go_at_call 47; refine (spec_l1In _ _ _ _).mono ?_; rintro e w' ⟨rfl, rfl⟩)
    go_ret2
    exact ⟨_, rfl, rfl, Below.refl _ _⟩

end Go.Proofs.Ytkebiigpfbconaa
