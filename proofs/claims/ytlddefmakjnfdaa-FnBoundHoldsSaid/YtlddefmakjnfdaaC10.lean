/- What correlations and sums of sequences give back in the program. Conditions: as each theorem says. -/
import Derived.Test.YtlddefmakjnfdaaC5
import Derived.Test.YtlddefmakjnfdaaC6
import Derived.Test.YtlddefmakjnfdaaPureW
import Derived.Test.YtlddefmakjnfdaaLaw
import Derived.Test.YtlddefmakjnfdaaStr
import Derived.StillTailTactics
namespace Go.Proofs.Ytlddefmakjnfdaa
open Go.RowKit
set_option linter.unusedSimpArgs false
set_option linter.unusedVariables false
set_option maxRecDepth 100000

theorem str_ne_nilW {d : ByteArray} (h : d.data.toList ≠ []) : d.toList.isEmpty = false := by
  have h1 := str_ne (s := d) (t := ⟨#[]⟩) (fun e => h (by rw [e]))
  cases hc : d.toList with
  | nil =>
    rw [hc] at h1
    have h2 : (⟨#[]⟩ : ByteArray).toList = [] := by first | rfl | simp
    rw [h2] at h1
    exact absurd h1 (by decide)
  | cons a l => rfl
/-- The correlation of two sequences, the second one shifted. -/
def corP (a b : List UInt8) (k i : Nat) : Bool := a[i]? == b[(i + k) % b.length]?
def corL (a b : List UInt8) (k : Nat) : Int := sumTo (fun i => if corP a b k i = true then 1 else -1) a.length
theorem sum_cnt (p : Nat → Bool) (n : Nat) : sumTo (fun i => if p i = true then 1 else -1) n = 2 * (cnt p n : Nat) - (n : Int) := by
  induction n with
  | zero => rfl
  | succ n ih =>
    rw [sumTo_succ, ih]
    by_cases h : p n = true
    · rw [if_pos h, cnt_yes p n h]; omega
    · rw [if_neg h, cnt_no p n (by simpa using h)]; omega
theorem corL_zero (a b : List UInt8) (h : a.length = b.length) : corL a b 0 = dotL a b := by
  unfold corL dotL
  refine sumTo_congr _ _ _ fun i hi => ?_
  unfold corP dotT
  rw [Nat.add_zero, Nat.mod_eq_of_lt (by omega)]
  by_cases hc : a[i]? = b[i]?
  · rw [if_pos hc, if_pos (by rw [hc]; simp)]
  · rw [if_neg hc, if_neg (by simpa using hc)]
theorem corL_bd (a b : List UInt8) (k : Nat) (h : a.length ≤ 255) : -255 ≤ corL a b k ∧ corL a b k ≤ 255 := by
  unfold corL
  rw [sum_cnt]
  have := cnt_le (corP a b k) a.length
  omega
set_option maxHeartbeats 1000000 in
theorem impl_correlation (s t : ByteArray) (k : Nat) (w : World) (hs : s.size ≤ 255) (hst : s.size = t.size) (hk : k < t.size) :
    Calls Try.prog 69 #[.string s, .string t, .int .i64 k] w (RetD (.int .i64 (corL s.data.toList t.data.toList k)) w) := by
  have HST := Lib.hid hst
  have hts : t.size ≤ 255 := by omega
  clear hst
  have hn1 : 1 ≤ t.size := by omega
  go_enter Try.func69, Try.ntmps69
  go_wp2_with fail
  go_loopw [7, 8, 13] (fun u j v wr => ∃ i d q : Nat, i ≤ s.size ∧ v = .int .i64 i ∧ u = .int .i64 (cnt (corP s.data.toList t.data.toList k) i : Nat) ∧ j = .int .i64 q ∧ (i + k) % t.size = q ∧ wr = w.drewN d) (fun _ _ v _ => s.size - (intOf v).toNat)
  case atStart => exact ⟨0, 0, k, Nat.zero_le _, rfl, rfl, rfl, by rw [Nat.zero_add, Nat.mod_eq_of_lt hk], rfl⟩
  case round =>
    obtain ⟨i, d, q, hi, rfl, rfl, rfl, hq, rfl⟩ := hrel
    have hci := cnt_le (corP s.data.toList t.data.toList k) i
    by_cases hlt : i < s.size
    · have hqt : q < t.size := by rw [← hq]; exact Nat.mod_lt _ (by omega)
      have hP : corP s.data.toList t.data.toList k i = (s[i] == t[q]) := by
        unfold corP
        rw [len_data, hq, data_at s i hlt, data_at t q hqt]
        simp
      have hnext : (i + 1 + k) % t.size = (q + 1) % t.size := by rw [← hq, Nat.mod_add_mod]; congr 1; omega
      have HNEXT := Lib.hid hnext
      clear hnext hq
      have hcase : ((((s[i]).toNat : Int) == ((t[q]).toNat : Int)) = true ∧ cnt (corP s.data.toList t.data.toList k) (i + 1) = cnt (corP s.data.toList t.data.toList k) i + 1) ∨
          ((((s[i]).toNat : Int) == ((t[q]).toNat : Int)) = false ∧ cnt (corP s.data.toList t.data.toList k) (i + 1) = cnt (corP s.data.toList t.data.toList k) i) := by
        rcases byte_same s[i] t[q] with ⟨h3, h4⟩ | ⟨h3, h4⟩
        · exact .inl ⟨h3, cnt_yes _ _ (by rw [hP, h4.out]; simp)⟩
        · exact .inr ⟨h3, cnt_no _ _ (by rw [hP]; exact beq_eq_false_iff_ne.2 h4.out)⟩
      clear hP
      generalize cnt (corP s.data.toList t.data.toList k) i = c at *
      by_cases hqn : q + 1 = t.size
      · have hq1 : ((q : Int) + 1 == (t.size : Int)) = true := by simp; omega
        rcases hcase with ⟨h3, h4⟩ | ⟨h3, h4⟩
        all_goals
          have H4 := Lib.hid h4
          clear h4
          go_wp2
          go_quiet (fail)
          go_wp2
          go_roundw
          case rel => exact ⟨i + 1, _, 0, by omega, by go_num, by rw [H4.out] <;> go_num, rfl, by rw [HNEXT.out, hqn, Nat.mod_self], rfl⟩
          case measure => simp [intOf] <;> omega
      · have hq1 : ((q : Int) + 1 == (t.size : Int)) = false := beq_eq_false_iff_ne.2 (by omega)
        rcases hcase with ⟨h3, h4⟩ | ⟨h3, h4⟩
        all_goals
          have H4 := Lib.hid h4
          clear h4
          go_wp2
          go_quiet (fail)
          go_wp2
          go_roundw
          case rel => exact ⟨i + 1, _, q + 1, by omega, by go_num, by rw [H4.out] <;> go_num, by go_num, by rw [HNEXT.out, Nat.mod_eq_of_lt (by omega)], rfl⟩
          case measure => simp [intOf] <;> omega
    · obtain rfl : i = s.size := by omega
      have hend : 2 * ((cnt (corP s.data.toList t.data.toList k) s.size : Nat) : Int) - (s.size : Int) = corL s.data.toList t.data.toList k := by unfold corL; rw [sum_cnt, len_data]
      have HEND := Lib.hid hend
      clear hend
      go_wp2
      go_ret
      exact ⟨by rw [← HEND.out]; rfl, _, rfl⟩

end Go.Proofs.Ytlddefmakjnfdaa
