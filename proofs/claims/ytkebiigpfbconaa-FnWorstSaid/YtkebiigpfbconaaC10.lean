/- What correlations and sums of sequences give back in the program. Conditions: as each theorem says. -/
import Derived.Test.YtkebiigpfbconaaC5
import Derived.Test.YtkebiigpfbconaaC6
import Derived.Test.YtkebiigpfbconaaPureW
import Derived.Test.YtkebiigpfbconaaLaw
import Derived.Test.YtkebiigpfbconaaStr
import Derived.StillTailTactics
namespace Go.Proofs.Ytkebiigpfbconaa
open Go.RowKit
set_option linter.unusedSimpArgs false
set_option linter.unusedVariables false
set_option maxRecDepth 100000

theorem str_ne_nilW {d : ByteArray} (h : d.data.toList ≠ []) : d.toList.isEmpty = false := by
  have h1 := str_ne (s := d) (t := ⟨#[]⟩) (fun e => h (by rw [e]))
  cases hc : d.toList with
  | nil =>
    rw [hc] at h1
    have h2 : (⟨#[]⟩ : ByteArray).toList = [] := by first | rfl | simp
    rw [h2] at h1
    exact absurd h1 (by decide)
  | cons a l => rfl
/-- The correlation of two sequences, the second one shifted. -/
def corP (a b : List UInt8) (k i : Nat) : Bool := a[i]? == b[(i + k) % b.length]?
def corL (a b : List UInt8) (k : Nat) : Int := sumTo (fun i => if corP a b k i = true then 1 else -1) a.length
theorem sum_cnt (p : Nat → Bool) (n : Nat) : sumTo (fun i => if p i = true then 1 else -1) n = 2 * (cnt p n : Nat) - (n : Int) := by
  induction n with
  | zero => rfl
  | succ n ih =>
    rw [sumTo_succ, ih]
    by_cases h : p n = true
    · rw [if_pos h, cnt_yes p n h]; omega
    · rw [if_neg h, cnt_no p n (by simpa using h)]; omega
theorem corL_zero (a b : List UInt8) (h : a.length = b.length) : corL a b 0 = dotL a b := by
  unfold corL dotL
  refine sumTo_congr _ _ _ fun i hi => ?_
  unfold corP dotT
  rw [Nat.add_zero, Nat.mod_eq_of_lt (by omega)]
  by_cases hc : a[i]? = b[i]?
  · rw [if_pos hc, if_pos (by rw [hc]; simp)]
  · rw [if_neg hc, if_neg (by simpa using hc)]
theorem corL_bd (a b : List UInt8) (k : Nat) (h : a.length ≤ 255) : -255 ≤ corL a b k ∧ corL a b k ≤ 255 := by
  unfold corL
  rw [sum_cnt]
  have := cnt_le (corP a b k) a.length
  omega
set_option maxHeartbeats 400000 in
theorem impl_modulo (k n : Nat) (w : World) (hn : 1 ≤ n) (hn2 : n ≤ 1048576) (hk : k ≤ 1099511627776) :
    Calls Try.prog 86 #[.int .i64 k, .int .i64 n] w fun e w' => e = .returned (.int .i64 ((k % n : Nat) : Int)) ∧ w = w' := by
  obtain ⟨r, hr⟩ : ∃ r, k % n = r := ⟨_, rfl⟩
  have hrn : r < n := by rw [← hr]; exact Nat.mod_lt _ (by omega)
  have hri : (k : Int) % (n : Int) = (r : Int) := by rw [← hr]; rfl
  have hrt : (k : Int).tmod (n : Int) = (r : Int) := by rw [Int.tmod_eq_emod_of_nonneg (by omega)]; exact hri
  have hz1 : ((n : Int) == 0) = false := beq_eq_false_iff_ne.2 (by omega)
  have hz2 : ¬ (n : Int) = 0 := by omega
  have hz3 : ¬ n = 0 := by omega
  rw [hr]
  go_enter Try.func86, Try.ntmps86
  go_wp2
  go_ret
  exact ⟨rfl, rfl⟩
set_option maxHeartbeats 1000000 in
theorem impl_correlation (s t : ByteArray) (k : Nat) (w : World) (hs : s.size ≤ 255) (hst : s.size = t.size) (hk : k < t.size) :
    Calls Try.prog 55 #[.string s, .string t, .int .i64 k] w (RetD (.int .i64 (corL s.data.toList t.data.toList k)) w) := by
  have HST := Lib.hid hst
  have hts : t.size ≤ 255 := by omega
  clear hst
  have hn1 : 1 ≤ t.size := by omega
  go_enter Try.func55, Try.ntmps55
  go_wp2_with fail
  go_loopw [7, 8, 13] (fun u j v wr => ∃ i d q : Nat, i ≤ s.size ∧ v = .int .i64 i ∧ u = .int .i64 (cnt (corP s.data.toList t.data.toList k) i : Nat) ∧ j = .int .i64 q ∧ (i + k) % t.size = q ∧ wr = w.drewN d) (fun _ _ v _ => s.size - (intOf v).toNat)
  case atStart => exact ⟨0, 0, k, Nat.zero_le _, rfl, rfl, rfl, by rw [Nat.zero_add, Nat.mod_eq_of_lt hk], rfl⟩
  case round =>
    obtain ⟨i, d, q, hi, rfl, rfl, rfl, hq, rfl⟩ := hrel
    have hci := cnt_le (corP s.data.toList t.data.toList k) i
    by_cases hlt : i < s.size
    · have hqt : q < t.size := by rw [← hq]; exact Nat.mod_lt _ (by omega)
      have hP : corP s.data.toList t.data.toList k i = (s[i] == t[q]) := by
        unfold corP
        rw [len_data, hq, data_at s i hlt, data_at t q hqt]
        simp
      have hnext : (i + 1 + k) % t.size = (q + 1) % t.size := by rw [← hq, Nat.mod_add_mod]; congr 1; omega
      have HNEXT := Lib.hid hnext
      clear hnext hq
      have hcase : ((((s[i]).toNat : Int) == ((t[q]).toNat : Int)) = true ∧ cnt (corP s.data.toList t.data.toList k) (i + 1) = cnt (corP s.data.toList t.data.toList k) i + 1) ∨
          ((((s[i]).toNat : Int) == ((t[q]).toNat : Int)) = false ∧ cnt (corP s.data.toList t.data.toList k) (i + 1) = cnt (corP s.data.toList t.data.toList k) i) := by
        rcases byte_same s[i] t[q] with ⟨h3, h4⟩ | ⟨h3, h4⟩
        · exact .inl ⟨h3, cnt_yes _ _ (by rw [hP, h4.out]; simp)⟩
        · exact .inr ⟨h3, cnt_no _ _ (by rw [hP]; exact beq_eq_false_iff_ne.2 h4.out)⟩
      clear hP
      generalize cnt (corP s.data.toList t.data.toList k) i = c at *
      by_cases hqn : q + 1 = t.size
      · have hq1 : ((q : Int) + 1 == (t.size : Int)) = true := by simp; omega
        rcases hcase with ⟨h3, h4⟩ | ⟨h3, h4⟩
        all_goals
          have H4 := Lib.hid h4
          clear h4
          go_wp2
          go_quiet (fail)
          go_wp2
          go_roundw
          case rel => exact ⟨i + 1, _, 0, by omega, by go_num, by rw [H4.out] <;> go_num, rfl, by rw [HNEXT.out, hqn, Nat.mod_self], rfl⟩
          case measure => simp [intOf] <;> omega
      · have hq1 : ((q : Int) + 1 == (t.size : Int)) = false := beq_eq_false_iff_ne.2 (by omega)
        rcases hcase with ⟨h3, h4⟩ | ⟨h3, h4⟩
        all_goals
          have H4 := Lib.hid h4
          clear h4
          go_wp2
          go_quiet (fail)
          go_wp2
          go_roundw
          case rel => exact ⟨i + 1, _, q + 1, by omega, by go_num, by rw [H4.out] <;> go_num, by go_num, by rw [HNEXT.out, Nat.mod_eq_of_lt (by omega)], rfl⟩
          case measure => simp [intOf] <;> omega
    · obtain rfl : i = s.size := by omega
      have hend : 2 * ((cnt (corP s.data.toList t.data.toList k) s.size : Nat) : Int) - (s.size : Int) = corL s.data.toList t.data.toList k := by unfold corL; rw [sum_cnt, len_data]
      have HEND := Lib.hid hend
      clear hend
      go_wp2
      go_ret
      exact ⟨by rw [← HEND.out]; rfl, _, rfl⟩
set_option maxHeartbeats 400000 in
theorem impl_sequencesValid (s t : ByteArray) (w : World) (hs : s.size ≤ 1048576) (ht : t.size ≤ 1048576) :
    Calls Try.prog 53 #[.string s, .string t] w fun e w' => e = .returned (.bool (seqB s.data.toList && seqB t.data.toList && (s.size == t.size))) ∧ w = w' := by
  have hcmp : ((s.size : Int) == (t.size : Int)) = (s.size == t.size) := by
    by_cases h : s.size = t.size
    · rw [h]; simp
    · rw [beq_eq_false_iff_ne.2 h, beq_eq_false_iff_ne.2 (by omega)]
  cases h1 : seqB s.data.toList
  all_goals cases h2 : seqB t.data.toList
  all_goals
    go_enter Try.func53, Try.ntmps53
    go_wp2_with (go_at_call 11; refine (impl_SequenceValid _ _ (by unfold maxLen; omega)).mono ?_; rintro e w' ⟨rfl, rfl⟩; first | rw [h1] | rw [h2])
    go_ret
    first | exact ⟨rfl, rfl⟩ | exact ⟨ret_bool (by rw [hcmp]; rfl), rfl⟩ | exact ⟨ret_bool (by simp), rfl⟩
set_option maxHeartbeats 400000 in
theorem impl_CrossOf (s t : ByteArray) (k : Nat) (w : World) (hs : seqB s.data.toList = true) (ht : seqB t.data.toList = true) (hst : s.size = t.size) (hk : k < t.size) :
    Calls Try.prog 64 #[.string s, .string t, .int .i64 k] w (RetD (.tuple #[.int .i64 (corL s.data.toList t.data.toList k), .bool true]) w) := by
  have h1 := seqB_bd s hs
  have h2 := seqB_bd t ht
  have HB := Lib.hid (show (seqB s.data.toList && seqB t.data.toList && (s.size == t.size)) = true by rw [hs, ht, hst]; simp)
  have HM := Lib.hid (Nat.mod_eq_of_lt hk)
  have HST := Lib.hid hst
  clear hs ht hst
  go_enter Try.func64, Try.ntmps64
  go_wp2_with (first
    | (go_at_call 53; refine (impl_sequencesValid _ _ _ (by omega) (by omega)).mono ?_; rintro e w' ⟨rfl, rfl⟩; rw [HB.out])
    | (go_at_call 86; refine (impl_modulo k t.size _ (by omega) (by omega) (by omega)).mono ?_; rintro e w' ⟨rfl, rfl⟩; rw [HM.out])
    | (go_at_call 55; refine (impl_correlation s t k _ (by omega) HST.out hk).mono ?_; rintro e w' ⟨rfl, m, rfl⟩))
  go_ret2
  exact ⟨rfl, _, rfl⟩
theorem impl_bit_still (x : Nat) (hx : x ≤ 1) (w : World) : Calls Try.prog 92 #[.int .i64 (x : Int)] w fun e w' => e = .returned (.int .u8 ((bitC x).toNat : Int)) ∧ w' = w :=
  (impl_bitOf x w).mono fun e w' h => ⟨by
    rw [h.1]
    rcases (show x = 0 ∨ x = 1 by omega) with rfl | rfl <;> rfl, h.2.symm⟩
set_option maxHeartbeats 1000000 in
theorem impl_sumOfBits (s t : ByteArray) (w : World) (hs : s.size ≤ 1048576) (hst : s.size = t.size) (hb : s.data.toList.all isBit = true) (hb' : t.data.toList.all isBit = true) :
    Calls Try.prog 112 #[.string s, .string t] w (RetStr (addBL s.data.toList t.data.toList) w) := by
  have hal : (bytes (addBL s.data.toList t.data.toList)).length = s.size := by rw [bytes_len, addBL_len _ _ (by rw [len_data, len_data]; exact hst), len_data]
  have HAL := Lib.hid hal
  have HB := Lib.hid hb
  have HB' := Lib.hid hb'
  have HSZ := Lib.hid hst
  clear hal hb hb' hst
  have hmk := run_make_row' (P := Try.prog) 22 5 (.int .u8 0) 1 Try.underlying22 Try.infoU8 rfl .i64 .i64 s.size (by omega) (by omega)
  go_enter Try.func112, Try.ntmps112
  go_wp2_with fail
  clear hmk
  go_loopw [12] (fun v wr => ∃ k : Nat, k ≤ s.size ∧ v = .int .i64 k ∧ wr.ownsRow w.heap.size 5 1 (.slice (some ⟨w.heap.size, 0, none⟩) s.size s.size) s.size (Fill (bytes (addBL s.data.toList t.data.toList)) (.int .u8 0) k) ∧ Below w.heap.size w wr) (fun v _ => s.size - (intOf v).toNat)
  case atStart => exact ⟨0, Nat.zero_le _, rfl, by rw [fill_zero, HAL.out]; exact own_made _ _ _ _ (by unfold maxLen; omega), (Below.refl _ _).alloc (Nat.le_refl _) _⟩
  case round =>
    obtain ⟨k, hk, rfl, ho, hb⟩ := hrel
    by_cases hlt : k < s.size
    · have hlt' : k < t.size := by have := HSZ.out; omega
      have hc := ho.cellAt k (by omega)
      rw [fill_at _ _ _ (by rw [HAL.out]; exact hlt)] at hc
      have hf := ho.frozenAt k
      have HO := Lib.hid ho
      clear ho
      have HXA := Lib.hid (addBL_at _ _ k _ _ (data_at s k hlt) (data_at t k hlt'))
      obtain ⟨x, hx0, hx1, hxc⟩ : ∃ x : Nat, bits .xor .u8 ((s[k].toNat : Nat) : Int) ((t[k].toNat : Nat) : Int) = (x : Int) ∧ x ≤ 1 ∧ xorC s[k] t[k] = bitC x := by
        have hx := bit_toNat _ (List.all_eq_true.1 HB.out s[k] (List.mem_of_getElem? (data_at s k hlt)))
        have hy := bit_toNat _ (List.all_eq_true.1 HB'.out t[k] (List.mem_of_getElem? (data_at t k hlt')))
        rcases hx with ⟨hx1, hx2⟩ | ⟨hx1, hx2⟩ <;> rcases hy with ⟨hy1, hy2⟩ | ⟨hy1, hy2⟩ <;> rw [hx1, hy1]
        · exact ⟨0, by decide, by omega, by decide⟩
        · exact ⟨1, by decide, by omega, by decide⟩
        · exact ⟨1, by decide, by omega, by decide⟩
        · exact ⟨0, by decide, by omega, by decide⟩
      have HXC := Lib.hid hxc
      clear hxc
      have hwx : IntKind.i64.wrap (x : Int) = (x : Int) := IntWalk.i64_in _ ⟨by omega, by omega⟩
      go_wp2
      go_still_tail 12, (by kernel_rfl)
      still_call (impl_bit_still x hx1 _)
      repeat still_step
      refine wpStill_nil ?_
      go_wp2
      go_roundw
      case rel =>
        have hs := HO.out.stored k (.int .u8 ((xorC s[k] t[k]).toNat : Int))
        rw [fill_set _ _ _ _ (bytes_at _ _ _ HXA.out), HXC.out] at hs
        exact ⟨k + 1, by omega, by go_num, hs.1, (hb.setCell (Nat.le_refl _) _).drew⟩
      case measure => simp [intOf] <;> omega
    · rw [fill_full _ _ _ (by rw [HAL.out]; omega)] at ho
      have hcv := own_string (P := Try.prog) (src := 22) (dst := 9) _ Try.underlying22 Try.underlying5 Try.underlying9 ho
      go_wp2
      go_ret
      exact ⟨_, rfl, rfl, hb⟩
set_option maxHeartbeats 400000 in
theorem impl_AddBits (s t : ByteArray) (w : World) (hs : seqB s.data.toList = true) (ht : seqB t.data.toList = true) (hst : s.size = t.size) :
    Calls Try.prog 90 #[.string s, .string t] w (RetStrB (addBL s.data.toList t.data.toList) true w) := by
  have h1 := seqB_bd s hs
  have h2 := seqB_bd t ht
  have HB := Lib.hid (show (seqB s.data.toList && seqB t.data.toList && (s.size == t.size)) = true by rw [hs, ht, hst]; simp)
  have HS := Lib.hid hs
  have HT := Lib.hid ht
  have HST := Lib.hid hst
  clear hs ht hst
  go_enter Try.func90, Try.ntmps90
  go_wp2_with (first
    | (go_at_call 53; refine (impl_sequencesValid _ _ _ (by omega) (by omega)).mono ?_; rintro e w' ⟨rfl, rfl⟩; rw [HB.out])
    | (go_at_call 112; refine (impl_sumOfBits s t _ (by omega) HST.out (by have := HS.out; simp only [seqB, Bool.and_eq_true] at this; exact this.2) (by have := HT.out; simp only [seqB, Bool.and_eq_true] at this; exact this.2)).mono ?_; rintro e w2 ⟨u, rfl, hu, hb⟩; have HU := Lib.hid hu; have HB2 := Lib.hid hb; clear hu hb))
  go_ret2
  exact ⟨u, rfl, HU.out, HB2.out⟩
set_option maxHeartbeats 400000 in
theorem laws_ssWalsh (o i : Nat) (w : World) (ho : o ≤ 6) (hi : i < 2 ^ o) :
    Calls Try.prog 39 #[.int .i64 o, .int .i64 i] w (RetStr (walshL (2 ^ o) i) w) := by
  have hw := walshC_at (o : Int) (2 ^ o) i (by omega) (by omega) (two_nat o) hi
  have HW := Lib.hid hw
  clear hw
  go_enter Try.func39, Try.ntmps39
  go_wp2_with (go_at_call 76; refine (impl_WalshCode _ _ _).mono ?_; rintro e w2 ⟨u, rfl, hu, hb⟩; rw [HW.out] at hu ⊢; have HU := Lib.hid hu; have HB2 := Lib.hid hb; clear hu hb)
  go_ret
  exact ⟨u, rfl, HU.out, HB2.out⟩

end Go.Proofs.Ytkebiigpfbconaa
