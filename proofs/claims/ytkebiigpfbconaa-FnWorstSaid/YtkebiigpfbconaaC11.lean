/- What the reference's correlation of two sequences gives back, and the number without its sign. Conditions: as each theorem says. -/
import Derived.Test.YtkebiigpfbconaaC10
namespace Go.Proofs.Ytkebiigpfbconaa
open Go.RowKit
set_option linter.unusedSimpArgs false
set_option linter.unusedVariables false
set_option maxRecDepth 100000

set_option maxHeartbeats 400000 in
theorem impl_absolute (z : Int) (w : World) (h1 : -1099511627776 ≤ z) (h2 : z ≤ 1099511627776) :
    Calls Try.prog 54 #[.int .i64 z] w fun e w' => e = .returned (.int .i64 (max z (-z))) ∧ w = w' := by
  rcases Int.lt_trichotomy z 0 with h | h | h
  all_goals
    go_enter Try.func54, Try.ntmps54
    go_wp2
    all_goals
      go_ret
      exact ⟨ret_int (by omega), rfl⟩
set_option maxHeartbeats 400000 in
theorem spec_l2Mod (k n : Nat) (w : World) (hn : 1 ≤ n) (hn2 : n ≤ 1048576) (hk : k < n) :
    Calls Try.prog 61 #[.int .i64 k, .int .i64 n] w fun e w' => e = .returned (.int .i64 (k : Int)) ∧ w = w' := by
  have hrt : (k : Int).tmod (n : Int) = (k : Int) := by rw [Int.tmod_eq_emod_of_nonneg (by omega)]; exact Int.emod_eq_of_lt (by omega) (by omega)
  have hrt2 : ((k : Int) + (n : Int)).tmod (n : Int) = (k : Int) := by rw [Int.tmod_eq_emod_of_nonneg (by omega), Int.add_emod_right]; exact Int.emod_eq_of_lt (by omega) (by omega)
  have hz1 : ((n : Int) == 0) = false := beq_eq_false_iff_ne.2 (by omega)
  have hz2 : ¬ (n : Int) = 0 := by omega
  have hz3 : ¬ n = 0 := by omega
  go_enter Try.func61, Try.ntmps61
  go_wp2
  go_ret
  exact ⟨rfl, rfl⟩
def rotL (s : List UInt8) (k : Nat) : List UInt8 := s.drop k ++ s.take k
theorem rotL_len (s : List UInt8) (k : Nat) (h : k ≤ s.length) : (rotL s k).length = s.length := by unfold rotL; rw [List.length_append, List.length_drop, List.length_take]; omega
theorem rotL_at (s : List UInt8) (k i : Nat) (h : k ≤ s.length) (hi : i < s.length) : (rotL s k)[i]? = s[(i + k) % s.length]? := by
  unfold rotL
  by_cases hc : i < s.length - k
  · rw [List.getElem?_append_left (by rw [List.length_drop]; exact hc), List.getElem?_drop, Nat.mod_eq_of_lt (by omega), Nat.add_comm]
  · rw [List.getElem?_append_right (by rw [List.length_drop]; omega), List.length_drop, List.getElem?_take_of_lt (by omega), Nat.mod_eq_sub_mod (by omega), Nat.mod_eq_of_lt (by omega)]
    congr 1
    omega
theorem rotL_bits (s : List UInt8) (k : Nat) (h : s.all isBit = true) : (rotL s k).all isBit = true := by
  unfold rotL
  rw [List.all_append, Bool.and_eq_true]
  exact ⟨List.all_eq_true.2 fun c hc => List.all_eq_true.1 h c (List.mem_of_mem_drop hc), List.all_eq_true.2 fun c hc => List.all_eq_true.1 h c (List.mem_of_mem_take hc)⟩
set_option maxHeartbeats 1000000 in
theorem spec_l2Shift (s : ByteArray) (k : Nat) (w : World) (hs : s.size ≤ 1048576) (hk : k < s.size) :
    Calls Try.prog 62 #[.string s, .int .i64 k] w fun e w' => ∃ (t : ByteArray) (m : Nat), e = .returned (.string t) ∧ t.data.toList = rotL s.data.toList k ∧ w' = w.drewN m := by
  go_enter Try.func62, Try.ntmps62
  go_wp2_with (go_at_call 61; refine (spec_l2Mod k s.size _ (by omega) hs hk).mono ?_; rintro e w' ⟨rfl, rfl⟩)
  go_quiet (fail)
  go_wp2
  go_ret
  refine ⟨_, _, rfl, ?_, rfl⟩
  rw [str_app (l := s.data.toList.drop k) (m := s.data.toList.take k) ?_ ?_]; rfl
  · rw [← ByteArray.toList_eq, Lib.extract_toList, List.take_of_length_le (by rw [List.length_drop, len_data]; exact Nat.le_refl _)]
  · rw [← ByteArray.toList_eq]; exact extract0_list s k
theorem sumTo_neg' (f : Nat → Int) (n : Nat) : sumTo (fun i => -f i) n = -sumTo f n := by
  induction n with
  | zero => rfl
  | succ n ih => rw [sumTo_succ, sumTo_succ, ih]; omega
def balL (s : List UInt8) : Int := sumTo (fun i => if s[i]? = some 48 then -1 else 1) s.length
set_option maxHeartbeats 1000000 in
theorem spec_l2Balance (s : ByteArray) (w : World) (hs : s.size ≤ 1048576) (hb : s.data.toList.all isBit = true) :
    Calls Try.prog 84 #[.string s] w fun e w' => e = .returned (.int .i64 (balL s.data.toList)) ∧ w = w' := by
  have HB := Lib.hid hb
  clear hb
  go_enter Try.func84, Try.ntmps84
  go_wp2
  go_loop [3, 4] (fun u v => ∃ i : Nat, i ≤ s.size ∧ v = .int .i64 i ∧ u = .int .i64 (sumTo (fun i => if s.data.toList[i]? = some 48 then -1 else 1) i)) (fun _ v => s.size - (intOf v).toNat)
  case atStart => exact ⟨0, Nat.zero_le _, rfl, rfl⟩
  case round =>
    obtain ⟨i, hi, rfl, rfl⟩ := hrel
    have hbd := sumTo_bd (fun i => if s.data.toList[i]? = some 48 then (-1 : Int) else 1) 1 i fun j _ => by
      show -(1 : Int) ≤ (if s.data.toList[j]? = some 48 then (-1 : Int) else 1) ∧ (if s.data.toList[j]? = some 48 then (-1 : Int) else 1) ≤ 1
      split <;> omega
    have hst := sumTo_succ (fun i => if s.data.toList[i]? = some 48 then (-1 : Int) else 1) i
    by_cases hlt : i < s.size
    · have hbit := bit_toNat _ (List.all_eq_true.1 HB.out s[i] (List.mem_of_getElem? (data_at s i hlt)))
      simp only [data_at s i hlt] at hst
      generalize sumTo (fun i => if s.data.toList[i]? = some 48 then (-1 : Int) else 1) i = c at *
      rcases hbit with ⟨h5, h6⟩ | ⟨h5, h6⟩
      · rw [h5, if_pos rfl] at hst
        have HST := Lib.hid hst
        clear hst h5
        go_wp2
        go_round
        case rel => exact ⟨i + 1, by omega, by go_num, by rw [HST.out]; go_num⟩
        case measure => simp [intOf] <;> omega
      · rw [h5, if_neg (by decide)] at hst
        have HST := Lib.hid hst
        clear hst h5
        go_wp2
        go_round
        case rel => exact ⟨i + 1, by omega, by go_num, by rw [HST.out]; go_num⟩
        case measure => simp [intOf] <;> omega
    · obtain rfl : i = s.size := by omega
      rw [show sumTo (fun i => if s.data.toList[i]? = some 48 then (-1 : Int) else 1) s.size = balL s.data.toList by unfold balL; rw [len_data]]
      clear hst hbd
      go_wp2
      go_ret
      exact ⟨rfl, rfl⟩
theorem bal_add (a b : List UInt8) (k : Nat) (ha : a.all isBit = true) (hb : b.all isBit = true) (hl : a.length = b.length) (hk : k ≤ b.length) : -balL (addBL a (rotL b k)) = corL a b k := by
  have h1 : (addBL a (rotL b k)).length = a.length := addBL_len _ _ (by rw [rotL_len _ _ hk]; exact hl)
  unfold balL corL
  rw [h1, ← sumTo_neg']
  refine sumTo_congr _ _ _ fun i hi => ?_
  have hi2 : i < b.length := by omega
  have hm : (i + k) % b.length < b.length := Nat.mod_lt _ (by omega)
  rw [addBL_at a (rotL b k) i a[i] b[(i + k) % b.length] (List.getElem?_eq_getElem hi) (by rw [rotL_at b k i hk hi2, List.getElem?_eq_getElem hm])]
  unfold corP
  rw [List.getElem?_eq_getElem hi, List.getElem?_eq_getElem hm]
  unfold xorC
  by_cases hc : a[i] = b[(i + k) % b.length]
  · rw [if_pos hc, if_pos rfl, if_pos (by rw [hc]; simp)]; rfl
  · rw [if_neg hc, if_neg (by decide), if_neg (by simpa using hc)]
set_option maxHeartbeats 1000000 in
theorem spec_l2Cross (s t : ByteArray) (k : Nat) (w : World) (hs : s.size ≤ 255) (hst : s.size = t.size) (hk : k < t.size) (hb : s.data.toList.all isBit = true) (hb' : t.data.toList.all isBit = true) :
    Calls Try.prog 57 #[.string s, .string t, .int .i64 k] w fun e w' => e = .returned (.int .i64 (corL s.data.toList t.data.toList k)) ∧ Below w.heap.size w w' := by
  have HB := Lib.hid hb
  have HB' := Lib.hid hb'
  have hc := bal_add s.data.toList t.data.toList k hb hb' (by rw [len_data, len_data]; exact hst) (by rw [len_data]; omega)
  have hcb := corL_bd s.data.toList t.data.toList k (by rw [len_data]; exact hs)
  clear hb hb'
  go_enter Try.func57, Try.ntmps57
  go_wp2_with fail
  refine (spec_l2Shift t k _ (by omega) hk).mono ?_
  rintro e w1 ⟨u, m, rfl, hu, rfl⟩
  have hus : u.size = t.size := by rw [str_size hu, rotL_len _ _ (by rw [len_data]; omega), len_data]
  go_wp2_with fail
  refine (spec_l2Add s u _ (by omega) (by omega) HB.out (by rw [hu]; exact rotL_bits _ _ HB'.out)).mono ?_
  rintro e w2 ⟨x, rfl, hx, hb2⟩
  rw [hu] at hx
  have hxs : x.size = s.size := by rw [str_size hx, addBL_len _ _ (by rw [rotL_len _ _ (by rw [len_data]; omega), len_data, len_data]; exact hst), len_data]
  have HX := Lib.hid hx
  have HC := Lib.hid hc
  have hB2 := (below_drewN (Below.refl w.heap.size w) m).trans hb2
  clear hx hc
  go_wp2_with fail
  refine (spec_l2Balance x _ (by omega) (by rw [HX.out]; exact addBL_bits _ _)).mono ?_
  rintro e w' ⟨rfl, rfl⟩
  rw [HX.out]
  have hbal : balL (addBL s.data.toList (rotL t.data.toList k)) = -corL s.data.toList t.data.toList k := by have := HC.out; omega
  obtain ⟨z, hz⟩ : ∃ z, corL s.data.toList t.data.toList k = z := ⟨_, rfl⟩
  rw [hbal, hz]
  rw [hz] at hcb
  have HZ := Lib.hid hz
  clear hbal hz
  go_wp2_with fail
  go_ret
  exact ⟨ret_int (by rw [HZ.out] <;> omega), hB2⟩

end Go.Proofs.Ytkebiigpfbconaa
