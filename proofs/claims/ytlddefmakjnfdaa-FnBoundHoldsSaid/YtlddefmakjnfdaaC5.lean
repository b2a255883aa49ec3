/- What the functions on Barker codes, trees and orders give back, in the program and in the reference. Conditions: as each theorem says. -/
import Derived.Test.YtlddefmakjnfdaaC4
import Derived.Test.YtlddefmakjnfdaaPureF
namespace Go.Proofs.Ytlddefmakjnfdaa
open Go.RowKit
set_option linter.unusedSimpArgs false
set_option linter.unusedVariables false



/-! texts -/
theorem str_app {s t : ByteArray} {l m : List UInt8} (h : s.data.toList = l) (h' : t.data.toList = m) : (s ++ t).data.toList = l ++ m := by
  rw [ByteArray.data_append, Array.toList_append, h, h']
theorem flat_two (m : Nat) (l : List UInt8) : (List.replicate m (l ++ l)).flatten = (List.replicate (2 * m) l).flatten := by
  induction m with
  | zero => rfl
  | succ m ih => rw [List.replicate_succ, List.flatten_cons, ih, show 2 * (m + 1) = 2 * m + 1 + 1 by omega, List.replicate_succ, List.replicate_succ, List.flatten_cons, List.flatten_cons, List.append_assoc]
theorem flat_step (m : Nat) (l : List UInt8) : (List.replicate m l).flatten = (if m % 2 = 1 then l else []) ++ (List.replicate (m / 2) (l ++ l)).flatten := by
  rw [flat_two]
  split
  · obtain ⟨j, rfl⟩ : ∃ j, m = 2 * j + 1 := ⟨m / 2, by omega⟩
    rw [show 2 * ((2 * j + 1) / 2) = 2 * j by omega, List.replicate_succ, List.flatten_cons]
  · rw [show 2 * (m / 2) = m by omega]; rfl
theorem flat_len (m : Nat) (l : List UInt8) : (List.replicate m l).flatten.length = m * l.length := by simp
set_option maxHeartbeats 400000 in
theorem spec_l9Many (s : ByteArray) (l : List UInt8) (n : Nat) (w : World) (hs : s.data.toList = l) (hl : l.length ≤ 1048576) (hn : n ≤ 1048576) :
    Calls Try.prog 77 #[.string s, .int .i64 n] w fun e w' => ∃ t : ByteArray, e = .returned (.string t) ∧ t.data.toList = (List.replicate n l).flatten ∧ w = w' := by
  have hnl : n * l.length ≤ 1048576 * 1048576 := Nat.mul_le_mul hn hl
  have HS := Lib.hid hs
  clear hs
  go_enter Try.func77, Try.ntmps77
  go_wp2_with fail
  go_loop [0, 1, 5] (fun a b c => ∃ (m : Nat) (x y : ByteArray), b = .int .i64 m ∧ a = .string x ∧ c = .string y ∧ m ≤ n ∧ (m = 0 ∨ m * x.size ≤ n * l.length) ∧ y.data.toList ++ (List.replicate m x.data.toList).flatten = (List.replicate n l).flatten) (fun a b c => (intOf b).toNat)
  case atStart => exact ⟨n, _, _, rfl, rfl, rfl, Nat.le_refl _, .inr (by rw [str_size HS.out]; exact Nat.le_refl _), by rw [HS.out]; rfl⟩
  case round =>
    obtain ⟨m, x, y, rfl, rfl, rfl, hm, hx, hxy⟩ := hrel
    have hys : y.size + m * x.size = n * l.length := by
      have := congrArg List.length hxy
      rw [List.length_append, flat_len, flat_len, len_data, len_data] at this
      exact this
    have HXY := Lib.hid hxy
    have HX := Lib.hid hx
    clear hxy hx
    rcases Nat.eq_zero_or_pos m with h0 | h0
    · subst h0
      go_wp2_with fail
      go_ret
      exact ⟨_, rfl, by have := HXY.out; simpa using this, rfl⟩
    · have h1 : x.size ≤ m * x.size := Nat.le_mul_of_pos_left _ h0
      have h2 : m / 2 * (x.size + x.size) ≤ m * x.size := by rw [← Nat.two_mul, ← Nat.mul_assoc]; exact Nat.mul_le_mul_right _ (by omega)
      generalize hmx : m * x.size = mx at *
      have hst := flat_step m x.data.toList
      have H2 := Lib.hid h2
      have HST := Lib.hid hst
      clear h2 hst hmx
      rcases (show m % 2 = 1 ∨ m % 2 = 0 by omega) with hp | hp
      · have hq : (m : Int) % 2 = 1 := by omega
        go_wp2_with fail
        go_round
        case rel => exact ⟨m / 2, _, _, by go_num, rfl, rfl, by omega, .inr (by rw [ByteArray.size_append]; have := H2.out; omega), by
          have h5 := HXY.out
          rw [HST.out, if_pos hp] at h5
          rw [str_app rfl rfl, str_app rfl rfl, List.append_assoc]
          exact h5⟩
        case measure => simp [intOf]; omega
      · have hq : (m : Int) % 2 = 0 := by omega
        go_wp2_with fail
        go_round
        case rel => exact ⟨m / 2, _, _, by go_num, rfl, rfl, by omega, .inr (by rw [ByteArray.size_append]; have := H2.out; omega), by
          have h5 := HXY.out
          rw [HST.out, if_neg (by omega)] at h5
          rw [str_app rfl rfl]
          exact h5⟩
        case measure => simp [intOf]; omega
set_option maxHeartbeats 400000 in
theorem spec_l2Add (s t : ByteArray) (w : World) (hs : s.size ≤ 1048576) (hst : s.size = t.size) (hb : s.data.toList.all isBit = true) (hb' : t.data.toList.all isBit = true) :
    Calls Try.prog 92 #[.string s, .string t] w (RetStr (addBL s.data.toList t.data.toList) w) := by
  have hal : (bytes (addBL s.data.toList t.data.toList)).length = s.size := by rw [bytes_len, addBL_len _ _ (by rw [len_data, len_data]; exact hst), len_data]
  have HAL := Lib.hid hal
  have HB := Lib.hid hb
  have HB' := Lib.hid hb'
  have HSZ := Lib.hid hst
  clear hal hb hb' hst
  have hmk := run_make_row' (P := Try.prog) 48 5 (.int .u8 0) 1 Try.underlying48 Try.infoU8 rfl .i64 .i64 s.size (by omega) (by omega)
  go_enter Try.func92, Try.ntmps92
  go_wp2_with fail
  clear hmk
  go_loopw [6] (fun v wr => ∃ k : Nat, k ≤ s.size ∧ v = .int .i64 k ∧ wr.ownsRow w.heap.size 5 1 (.slice (some ⟨w.heap.size, 0, none⟩) s.size s.size) s.size (Fill (bytes (addBL s.data.toList t.data.toList)) (.int .u8 0) k) ∧ Below w.heap.size w wr) (fun v _ => s.size - (intOf v).toNat)
  case atStart => exact ⟨0, Nat.zero_le _, rfl, by rw [fill_zero, HAL.out]; exact own_made _ _ _ _ (by unfold maxLen; omega), (Below.refl _ _).alloc (Nat.le_refl _) _⟩
  case round =>
    obtain ⟨k, hk, rfl, ho, hb⟩ := hrel
    by_cases hlt : k < s.size
    · have hlt' : k < t.size := by have := HSZ.out; omega
      have hc := ho.cellAt k (by omega)
      rw [fill_at _ _ _ (by rw [HAL.out]; exact hlt)] at hc
      have hf := ho.frozenAt k
      have HO := Lib.hid ho
      clear ho
      have hxa := addBL_at _ _ k _ _ (data_at s k hlt) (data_at t k hlt')
      have HXA := Lib.hid hxa
      have hx := bit_toNat _ (List.all_eq_true.1 HB.out s[k] (List.mem_of_getElem? (data_at s k hlt)))
      have hy := bit_toNat _ (List.all_eq_true.1 HB'.out t[k] (List.mem_of_getElem? (data_at t k hlt')))
      clear hxa
      rcases hx with ⟨hx1, hx2⟩ | ⟨hx1, hx2⟩ <;> rcases hy with ⟨hy1, hy2⟩ | ⟨hy1, hy2⟩
      all_goals
        have HX1 := Lib.hid hx1
        have HY1 := Lib.hid hy1
        clear hx1 hy1
        go_wp2
        go_region
        all_goals go_wp2
        go_roundw
        case rel =>
          have hs := HO.out.stored k (.int .u8 ((xorC s[k] t[k]).toNat : Int))
          rw [fill_set _ _ _ _ (bytes_at _ _ _ HXA.out), HX1.out, HY1.out] at hs
          exact ⟨k + 1, by omega, by go_num, hs.1, (hb.setCell (Nat.le_refl _) _).drew⟩
        case measure => simp [intOf]; omega
    · rw [fill_full _ _ _ (by rw [HAL.out]; omega)] at ho
      have hcv := own_string (P := Try.prog) (src := 48) (dst := 9) _ Try.underlying48 Try.underlying5 Try.underlying9 ho
      go_wp2
      go_ret
      exact ⟨_, rfl, rfl, hb⟩
set_option maxHeartbeats 400000 in
theorem spec_l2Invert (s : ByteArray) (w : World) (hs : s.size ≤ 1048576) (hb : s.data.toList.all isBit = true) :
    Calls Try.prog 85 #[.string s] w (RetStr (s.data.toList.map flipC) w) := by
  have HB := Lib.hid hb
  clear hb
  go_enter Try.func85, Try.ntmps85
  go_wp2_with (first | (go_at_call 77; refine (spec_l9Many _ [49] _ _ rfl (by decide) hs).mono ?_; rintro e w' ⟨t, rfl, ht, rfl⟩; have HT := Lib.hid ht; clear ht) | (go_at_call 92; refine (spec_l2Add s t _ hs (by rw [str_size HT.out, flat_len]; simp) HB.out (by rw [HT.out, flat_ones]; exact ones_bits _)).mono ?_; rintro e w' ⟨u, rfl, hu, hb⟩; have HU := Lib.hid hu; clear hu))
  go_ret
  exact ⟨_, rfl, by rw [HU.out, HT.out, flat_ones, show s.size = s.data.toList.length from (len_data s).symm, addBL_ones _ HB.out], hb⟩

end Go.Proofs.Ytlddefmakjnfdaa
