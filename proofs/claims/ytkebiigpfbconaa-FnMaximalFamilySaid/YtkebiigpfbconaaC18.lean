/- The shift between two sequences, taps in reverse order, comparison of lists of strings. Conditions: as each theorem says. -/
import Derived.Test.YtkebiigpfbconaaC15
import Derived.Test.YtkebiigpfbconaaC14
import Derived.Test.YtkebiigpfbconaaPureJ
namespace Go.Proofs.Ytkebiigpfbconaa
open Go.RowKit
set_option linter.unusedSimpArgs false
set_option linter.unusedVariables false
set_option maxRecDepth 100000

set_option maxHeartbeats 1000000 in
theorem laws_ssTexts_same (A A' : Option Addr) (n c n' c' : Nat) (xs : List ByteArray) (w : World) (hx : RdS w A n xs) (hy : RdS w A' n' xs) (hn : n ≤ 1048576) :
    Calls Try.prog 27 #[.slice A n c, .slice A' n' c'] w (RetD (.bool true) w) := by
  have lx := hx.len
  have ly := hy.len
  obtain rfl : n' = n := by omega
  clear ly
  go_enter Try.func27, Try.ntmps27
  go_wp2_with fail
  go_loopw [5] (fun v wr => ∃ i d : Nat, i ≤ n' ∧ v = .int .i64 i ∧ wr = w.drewN d) (fun v _ => n' - (intOf v).toNat)
  case atStart => exact ⟨0, 0, Nat.zero_le _, rfl, rfl⟩
  case round =>
    obtain ⟨i, d, hi, rfl, rfl⟩ := hrel
    by_cases hlt : i < n'
    · obtain ⟨b, o, x, rfl, hbl, hxx, hcx⟩ := RdS.at hx hlt
      obtain ⟨b', o', y, rfl, hbl', hyy, hcy⟩ := RdS.at hy hlt
      obtain rfl : y = x := by have h1 := hxx.out; rw [hyy.out] at h1; injection h1
      clear hxx hyy lx
      go_wp2_with fail
      go_quiet (fail)
      go_wp2
      go_roundw
      case rel => exact ⟨i + 1, _, by omega, by go_num, rfl⟩
      case measure => simp [intOf] <;> omega
    · obtain rfl : n' = i := by omega
      clear lx
      go_wp2
      go_ret
      exact ⟨rfl, _, rfl⟩
/-- Is one sequence a shift of the other one? -/
def shB (a b : List UInt8) : Bool := (List.range a.length).any fun k => rotL a k == b
theorem shB_yes (a b : List UInt8) (k : Nat) (hk : k < a.length) (h : rotL a k = b) : shB a b = true :=
  List.any_eq_true.2 ⟨k, List.mem_range.2 hk, by rw [h]; simp⟩
theorem shB_no (a b : List UInt8) (h : ∀ k, k < a.length → rotL a k ≠ b) : shB a b = false :=
  List.any_eq_false.2 fun k hk => by simpa using h k (List.mem_range.1 hk)
theorem bytes_beq (u t : ByteArray) (h : u.data.toList ≠ t.data.toList) : (u.toList == t.toList) = false := str_ne (fun e => h (by rw [e]))
theorem bytes_beq' (u t : ByteArray) (h : u.data.toList = t.data.toList) : (u.toList == t.toList) = true := by rw [str_eq h rfl]; simp
set_option maxHeartbeats 2000000 in
theorem impl_ShiftBetween (s t : ByteArray) (w : World) (hp : pairB s t = true) :
    Calls Try.prog 31 #[.string s, .string t] w fun e w' => ∃ (z : Int) (m : Nat), e = .returned (.tuple #[.int .i64 z, .bool (shB s.data.toList t.data.toList)]) ∧ (shB s.data.toList t.data.toList = false → z = 0) ∧ w' = w.drewN m := by
  have HP := Lib.hid (show (seqB s.data.toList && seqB t.data.toList && (s.size == t.size)) = true from hp)
  obtain ⟨_, _, hst, h1, h2, _, _⟩ := pairB_yes s t hp
  have HST := Lib.hid hst
  have HY := Lib.hid (shB_yes s.data.toList t.data.toList)
  have HN := Lib.hid (shB_no s.data.toList t.data.toList)
  clear hp hst
  go_enter Try.func31, Try.ntmps31
  go_wp2_with (go_at_call 53; refine (impl_sequencesValid _ _ _ (by omega) (by have := HST.out; omega)).mono ?_; rintro e w' ⟨rfl, rfl⟩; rw [HP.out])
  go_loopw [13] (fun v wr => ∃ k d : Nat, k ≤ s.size ∧ v = .int .i64 k ∧ wr = w.drewN d ∧ ∀ j, j < k → rotL s.data.toList j ≠ t.data.toList) (fun v _ => s.size - (intOf v).toNat)
  case atStart => exact ⟨0, 0, Nat.zero_le _, rfl, rfl, fun j hj => absurd hj (Nat.not_lt_zero _)⟩
  case round =>
    obtain ⟨k, d, hk, rfl, rfl, hno⟩ := hrel
    have HNO := Lib.hid hno
    clear hno
    by_cases hlt : k < s.size
    · have hu : (s.extract k s.size ++ s.extract 0 k).data.toList = rotL s.data.toList k := by
        rw [str_app (l := s.data.toList.drop k) (m := s.data.toList.take k) ?_ ?_]; rfl
        · rw [← ByteArray.toList_eq, Lib.extract_toList, List.take_of_length_le (by rw [List.length_drop, len_data]; exact Nat.le_refl _)]
        · rw [← ByteArray.toList_eq]; exact extract0_list s k
      by_cases hc : rotL s.data.toList k = t.data.toList
      · have hcmp := bytes_beq' (s.extract k s.size ++ s.extract 0 k) t (by rw [hu]; exact hc)
        have hyes := HY.out k (by rw [len_data]; exact hlt) hc
        have HYES := Lib.hid hyes
        clear hu hc hyes
        go_wp2
        go_quiet (fail)
        go_wp2
        go_ret2
        exact ⟨(k : Int), _, by rw [HYES.out]; rfl, fun h => (by rw [HYES.out] at h; cases h), World.drewN_drewN _ _ _⟩
      · have hcmp := bytes_beq (s.extract k s.size ++ s.extract 0 k) t (by rw [hu]; exact hc)
        have HC := Lib.hid hc
        clear hu hc
        go_wp2
        go_quiet (fail)
        go_wp2
        go_roundw
        case rel => exact ⟨k + 1, _, by omega, by go_num, rfl, fun j hj => by
          rcases Nat.lt_succ_iff_lt_or_eq.1 hj with h5 | rfl
          · exact HNO.out j h5
          · exact HC.out⟩
        case measure => simp [intOf]; omega
    · obtain rfl : k = s.size := by omega
      have hno := HN.out (by rw [len_data]; exact HNO.out)
      have HNN := Lib.hid hno
      clear hno
      go_wp2
      go_ret2
      exact ⟨0, _, by rw [HNN.out]; rfl, fun _ => rfl, rfl⟩
theorem impl_ShiftBetween_no (s t : ByteArray) (w : World) (hp : pairB s t = true) (h : shB s.data.toList t.data.toList = false) :
    Calls Try.prog 31 #[.string s, .string t] w (RetD (.tuple #[.int .i64 0, .bool false]) w) :=
  (impl_ShiftBetween s t w hp).mono (by
    rintro e w' ⟨z, m, rfl, hz, rfl⟩
    rw [h, hz h]
    exact ⟨rfl, m, rfl⟩)
theorem revT_lt (n t : Nat) (hn : 1 ≤ n) : ∀ i, i < n → revT n t i < 2 ^ n
  | 0, _ => Nat.one_lt_two_pow (by omega)
  | i + 1, hi => by
    have ih := revT_lt n t hn i (by omega)
    unfold revT
    split
    · exact Nat.or_lt_two_pow ih (Nat.pow_lt_pow_right (by decide) (by omega))
    · exact ih
set_option maxHeartbeats 2000000 in
theorem impl_ReverseTaps (n t : Nat) (w : World) (h2 : 2 ≤ n) (h8 : n ≤ 8) (h1 : 1 ≤ t) (ht : t < 2 ^ n) (ho : t % 2 = 1) :
    Calls Try.prog 38 #[.int .i64 n, .int .i64 t] w fun e w' => e = .returned (.int .i64 ((revT n t (n - 1) : Nat) : Int)) ∧ w = w' := by
  have h256 := pow_256 n h8
  have hv : tapsB n t = true := by rw [tapsB_nat n t h2 h8, decide_eq_true h1, decide_eq_true ht]; rfl
  have hb1 : bits .and .i64 (t : Int) 1 = 1 := by rw [and1_i64 t (by omega), ho]; rfl
  have HV := Lib.hid hv
  have HRT := Lib.hid (revT_lt n t (by omega))
  have HT := Lib.hid ht
  have ht2 : t < 256 := by omega
  clear hv ht ho h256
  go_enter Try.func38, Try.ntmps38
  go_wp2_with (go_at_call 74; refine (impl_tapsValid _ _ _).mono ?_; rintro e w' ⟨rfl, rfl⟩; rw [HV.out])
  go_loopw [5, 6] (fun u v wr => ∃ i : Nat, i + 1 ≤ n ∧ v = .int .i64 ((i + 1 : Nat) : Int) ∧ u = .int .i64 ((revT n t i : Nat) : Int) ∧ w = wr) (fun _ v _ => n - (intOf v).toNat)
  case atStart => exact ⟨0, by omega, rfl, rfl, rfl⟩
  case round =>
    obtain ⟨i, hi, rfl, rfl, rfl⟩ := hrel
    by_cases hlt : i + 1 < n
    · have hstep : revT n t (i + 1) = if t / 2 ^ (i + 1) % 2 = 1 then revT n t i ||| 2 ^ (n - (i + 1)) else revT n t i := rfl
      have hr := HRT.out i (by omega)
      have h256 := pow_256 n h8
      have hrb : revT n t i < 256 := by omega
      have hpl : 2 ^ (n - (i + 1)) < 256 := Nat.lt_of_le_of_lt (Nat.pow_le_pow_right (by decide) (show n - (i + 1) ≤ 7 by omega)) (by decide)
      have hq : bits .and .i64 ((t : Int) / 2 ^ (i + 1)) 1 = ((t / 2 ^ (i + 1) % 2 : Nat) : Int) := by
        have h3 := and1_i64 (t / 2 ^ (i + 1)) (by have := Nat.div_le_self t (2 ^ (i + 1)); omega)
        rwa [show ((t / 2 ^ (i + 1) : Nat) : Int) = (t : Int) / 2 ^ (i + 1) by simp] at h3
      obtain ⟨R, hR⟩ : ∃ R, revT n t i = R := ⟨_, rfl⟩
      obtain ⟨e, he⟩ : ∃ e, n - (i + 1) = e := ⟨_, rfl⟩
      rw [hR] at hstep hrb ⊢
      rw [he] at hstep hpl
      have hsub : IntKind.i64.wrap ((n : Int) - ((i : Int) + 1)) = (e : Int) := by rw [IntWalk.i64_in _ ⟨by omega, by omega⟩]; omega
      obtain ⟨P, hP⟩ : ∃ P, 2 ^ e = P := ⟨_, rfl⟩
      have w1 : wrap64 (2 ^ e) = (P : Int) := (IntWalk.wrap64_in ((2 : Int) ^ e) (by rw [show (2 : Int) ^ e = (P : Int) by rw [← hP]; simp]; rw [hP] at hpl; exact ⟨by omega, by omega⟩)).trans (by rw [← hP]; simp)
      have w2 : wrap64 (2 ^ (e : Int).toNat) = (P : Int) := w1
      rw [hP] at hstep hpl
      have hor := or_i64 R P (Nat.lt_trans hrb (by decide)) (Nat.lt_trans hpl (by decide))
      by_cases hc : t / 2 ^ (i + 1) % 2 = 1
      · rw [if_pos hc] at hstep
        rw [hc] at hq
        have HS := Lib.hid hstep
        clear hstep hc hP hr hR
        go_wp2
        clear w1 w2 hsub hor hq hb1
        go_roundw
        case rel => exact ⟨i + 1, by omega, by go_num, by rw [HS.out], trivial⟩
        case measure => simp [intOf] <;> omega
      · rw [if_neg hc] at hstep
        have hc0 : t / 2 ^ (i + 1) % 2 = 0 := by omega
        rw [hc0] at hq
        have HS := Lib.hid hstep
        clear hstep hc hc0 hP hr hR w1 w2 hsub hor
        go_wp2
        clear hq hb1
        go_roundw
        case rel => exact ⟨i + 1, by omega, by go_num, by rw [HS.out], trivial⟩
        case measure => simp [intOf] <;> omega
    · obtain rfl : n = i + 1 := by omega
      go_wp2
      go_ret
      exact ⟨by rw [Nat.add_sub_cancel]; rfl, rfl⟩

end Go.Proofs.Ytkebiigpfbconaa
