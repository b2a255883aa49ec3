/- Maximal registers of the reference, and draws of registers. Conditions: as each theorem says. -/
import Derived.Test.YtkebiigpfbconaaR2
import Derived.Test.YtkebiigpfbconaaDrawS
import Derived.Test.YtkebiigpfbconaaC11
namespace Go.Proofs.Ytkebiigpfbconaa
open Go.RowKit
set_option linter.unusedSimpArgs false
set_option linter.unusedVariables false
set_option maxRecDepth 100000

theorem mtapsL_len (n k : Nat) : (mtapsL n k).length ≤ k := by
  unfold mtapsL
  rw [List.length_map]
  exact Nat.le_trans (List.length_filter_le _ _) (by rw [List.length_range]; exact Nat.le_refl _)
theorem mtapsL_step (n j : Nat) (h : 1 ≤ j) : mtapsL n j = if maxB n j = true then mtapsL n (j - 1) ++ [(j : Int)] else mtapsL n (j - 1) := by
  obtain ⟨k, rfl⟩ : ∃ k, j = k + 1 := ⟨j - 1, by omega⟩
  rw [Nat.add_sub_cancel]
  unfold mtapsL
  rw [List.range_succ, List.filter_append, List.map_append]
  by_cases hc : maxB n (k + 1) = true
  · rw [if_pos hc, show List.filter (fun i => maxB n (i + 1)) [k] = [k] by simp [hc]]; rfl
  · rw [if_neg hc, show List.filter (fun i => maxB n (i + 1)) [k] = [] by simp [hc]]; simp
theorem mtapsL_mem (n k : Nat) (x : Int) (h : x ∈ mtapsL n k) : ∃ j : Nat, x = j ∧ 1 ≤ j ∧ j ≤ k ∧ maxB n j = true := by
  unfold mtapsL at h
  obtain ⟨i, hi, rfl⟩ := List.mem_map.1 h
  obtain ⟨h1, h2⟩ := List.mem_filter.1 hi
  exact ⟨i + 1, rfl, by omega, by have := List.mem_range.1 h1; omega, h2⟩
set_option maxHeartbeats 1000000 in
theorem spec_l1Maximal (n t : Nat) (w : World) (h2 : 2 ≤ n) (h8 : n ≤ 8) (h1 : 1 ≤ t) (ht : t < 2 ^ n) :
    Calls Try.prog 95 #[.int .i64 n, .int .i64 t] w fun e w' => e = .returned (.bool (maxB n t)) ∧ Below w.heap.size w w' := by
  have h256 := pow_256 n h8
  have h1N : 1 < 2 ^ n := Nat.one_lt_two_pow (by omega)
  have HT := Lib.hid (show 1 ≤ t ∧ t < 2 ^ n ∧ 1 < 2 ^ n from ⟨h1, ht, h1N⟩)
  have htw := two_int n
  have hM : maxB n t = (periodI n t 1 == ((2 ^ n - 1 : Nat) : Int)) := rfl
  obtain ⟨N, hN⟩ : ∃ N, 2 ^ n = N := ⟨_, rfl⟩
  have HN := Lib.hid hN
  rw [hN] at htw h256 h1N hM
  rw [show ((N - 1 : Nat) : Int) = (N : Int) - 1 by omega] at hM
  have HM := Lib.hid hM
  clear ht hN h1 hM
  go_enter Try.func95, Try.ntmps95
  go_wp2_with fail
  have hb0 : Below w.heap.size w (w.alloc (.cells #[.int .i64 n, .int .i64 t, .int .i64 1] 74)) := (Below.refl _ _).alloc (Nat.le_refl _) _
  refine (spec_PeriodOf n t 1 _ h2 h8 HT.out.1 HT.out.2.1 HT.out.2.2).mono ?_
  rintro e w1 ⟨rfl, hb1⟩
  have hB := hb0.trans (hb1.mono hb0.size)
  clear hb0 hb1
  generalize periodI n t 1 = z at *
  go_wp2_with fail
  refine (spec_l1Two (n : Int) _ (by omega) (by omega)).mono ?_
  rintro e w' ⟨rfl, rfl⟩
  rw [htw]
  go_wp2_with fail
  go_ret
  exact ⟨ret_bool (by rw [HM.out]), hB⟩
set_option maxHeartbeats 2000000 in
theorem spec_MaximalTaps (n : Nat) (w : World) (h2 : 2 ≤ n) (h8 : n ≤ 8) :
    Calls Try.prog 81 #[.int .i64 n] w (RetI .i64 3 (mtapsL n (2 ^ n - 1)) w) := by
  have h256 := pow_256 n h8
  have h1N : 1 < 2 ^ n := Nat.one_lt_two_pow (by omega)
  obtain ⟨N, hN⟩ : ∃ N, 2 ^ n = N := ⟨_, rfl⟩
  have HN := Lib.hid hN
  rw [hN] at h256 h1N ⊢
  clear hN
  go_enter Try.func81, Try.ntmps81
  go_wp2_with fail
  have HO := Lib.hid (own_empty w 3 w.heap.size (Nat.le_refl _))
  have HB := Lib.hid (show Below w.heap.size w (w.alloc (.cells #[] 3)) from (Below.refl _ _).alloc (Nat.le_refl _) _)
  go_loopw [3, 4] (fun s v wr => ∃ (j m c : Nat) (A : Option Addr), v = .int .i64 j ∧ s = .slice A m c ∧ wr.ownsRow w.heap.size 3 1 (.slice A m c) m ((mtapsL n (j - 1)).map (Value.int .i64)) ∧ 1 ≤ j ∧ j ≤ N ∧ Below w.heap.size w wr) (fun _ v _ => N - (intOf v).toNat)
  case atStart => exact ⟨1, 0, 0, _, rfl, rfl, HO.out, by omega, by omega, HB.out⟩
  case round =>
    obtain ⟨j, m, c, A, rfl, rfl, ho, h1, hj, hb⟩ := hrel
    have hz := hb.size
    have hml : m ≤ j - 1 := own_num ho (mtapsL_len n (j - 1))
    have HO1 := Lib.hid ho
    clear ho HO HB
    have htb := tapsB_nat n j h2 h8
    rw [decide_eq_true h1, Bool.true_and, HN.out] at htb
    by_cases hlt : j < N
    · rw [decide_eq_true hlt] at htb
      have HTB := Lib.hid htb
      have hst := mtapsL_step n j h1
      obtain ⟨b, hbm⟩ : ∃ b, maxB n j = b := ⟨_, rfl⟩
      have HBM := Lib.hid hbm
      rw [hbm] at hst
      have HST := Lib.hid hst
      clear htb hst hbm
      obtain ⟨wo, rfl⟩ : ∃ wo, wo = wr := ⟨_, rfl⟩
      go_wp2_with fail
      refine (spec_l1Taps (n : Int) (j : Int) _).mono ?_
      rintro e w' ⟨rfl, rfl⟩
      rw [HTB.out]
      go_wp2_with fail
      refine (spec_l1Maximal n j wo h2 h8 h1 (by rw [HN.out]; exact hlt)).mono ?_
      rintro e w2 ⟨rfl, hb2⟩
      rw [HBM.out]
      have hB2 := hb.trans (hb2.mono hz)
      have hz2 := hb2.size
      have HO2 := Lib.hid (own_below HO1.out hb2)
      clear hb hb2
      cases b
      · go_wp2_with fail
        go_roundw
        case rel => exact ⟨j + 1, m, c, A, by go_num, rfl, by rw [show j + 1 - 1 = j by omega, HST.out]; exact HO2.out, by omega, by omega, hB2⟩
        case measure => simp [intOf] <;> omega
      · go_wp2_with (at_builtin; refine wpList_append_rd _ rfl _ _ 33 rfl w.heap.size 3 (.int .i64 0) 8 Try.underlying33 Try.infoI64 rfl (.slice A m c) _ _ rfl (HO2.out.alloc _) _ _ _ [.int .i64 (j : Int)] rfl (rd_new _ [.int .i64 (j : Int)] _ 1 rfl) (by simp [Value.oneCell']) ?_ (by omega) ?_ ?_; omega; simp; omega; intro A' q c' w' hq ho hg; have HQ := Lib.hid hq; have HO3 := Lib.hid ho; have HG := Lib.hid hg; clear hq ho hg)
        go_roundw
        case rel =>
          have hl : ∀ k, Value.ownBlock (.slice A m c) = some k → w.heap.size ≤ k := fun k hk => (HO2.out.lt k hk).1
          exact ⟨j + 1, q, c', A', by go_num, rfl, by rw [show j + 1 - 1 = j by omega, HST.out, if_pos (by trivial), List.map_append]; exact HO3.out, by omega, by omega, (hB2.alloc (by omega) _).grown HG.out (by simp; omega) hl⟩
        case measure => simp [intOf] <;> omega
    · rw [decide_eq_false hlt] at htb
      have HTB := Lib.hid htb
      clear htb
      obtain rfl : N = j := by omega
      go_wp2_with fail
      refine (spec_l1Taps (n : Int) (N : Int) _).mono ?_
      rintro e w' ⟨rfl, rfl⟩
      rw [HTB.out]
      go_wp2_with fail
      go_ret
      exact retI_own HO1.out hb
/-- A register was drawn. -/
def DrawnR (g : Nat) (K : Int) (w : World) (e : Ending) (w' : World) : Prop :=
  ∃ n t x : Nat, e = .returned (regV n t x) ∧ 2 ≤ n ∧ n ≤ 8 ∧ t < 2 ^ n ∧ x < 2 ^ n ∧ Bel g w.heap.size w w' ∧ Rdr w' g K
theorem some_taps (n : Nat) (h2 : 2 ≤ n) (h8 : n ≤ 8) : ∃ t : Nat, ([3, 3, 3, 5, 3, 3, 29] : List Int)[n - 2]? = some (t : Int) ∧ t < 2 ^ n := by
  rcases (show n = 2 ∨ n = 3 ∨ n = 4 ∨ n = 5 ∨ n = 6 ∨ n = 7 ∨ n = 8 by omega) with rfl | rfl | rfl | rfl | rfl | rfl | rfl
  · exact ⟨3, rfl, by decide⟩
  · exact ⟨3, rfl, by decide⟩
  · exact ⟨3, rfl, by decide⟩
  · exact ⟨5, rfl, by decide⟩
  · exact ⟨3, rfl, by decide⟩
  · exact ⟨3, rfl, by decide⟩
  · exact ⟨29, rfl, by decide⟩
set_option maxHeartbeats 2000000 in
theorem spec_l1Some (g : Nat) (K : Int) (w : World) (h : Rdr w g K) (hK : K ≤ 1000000000) :
    Calls Try.prog 79 #[.pointer (some ⟨g, 0, none⟩)] w (DrawnR g (K + 4) w) := by
  have hgl := h.lt
  go_enter Try.func79, Try.ntmps79
  go_wp2_with fail
  have ho0 := own_lit w 74 3 [.int .i64 0, .int .i64 0, .int .i64 0] rfl (by unfold maxLen; omega)
  have hr0 : Rdr (w.alloc (.cells #[.int .i64 0, .int .i64 0, .int .i64 0] 74)) g K := h.alloc _
  have hb0 : Bel g w.heap.size w (w.alloc (.cells #[.int .i64 0, .int .i64 0, .int .i64 0] 74)) := (Bel.refl g _ w).alloc (Nat.le_refl _) _
  have hsz : (w.alloc (.cells #[.int .i64 0, .int .i64 0, .int .i64 0] 74)).heap.size = w.heap.size + 1 := by simp
  generalize (w.alloc (.cells #[.int .i64 0, .int .i64 0, .int .i64 0] 74)) = wa at *
  rw [← hsz]
  clear hsz
  refine (rd_num_lit g [3, 4, 5, 2, 6, 7, 8] _ 7 _ _ hr0 (by omega) rfl rfl (by decide) (by decide)).mono ?_
  rintro e w1 ⟨x, rfl, hx, hb1, hr1⟩
  obtain ⟨n, rfl, h2, h8⟩ : ∃ n : Nat, x = n ∧ 2 ≤ n ∧ n ≤ 8 := by
    simp only [List.mem_cons, List.not_mem_nil, or_false] at hx
    exact ⟨x.toNat, by omega, by omega, by omega⟩
  clear hx
  have ho1 := own_bel ho0 hb1 hgl
  have hB1 := hb0.trans' hb1 hb0.size
  clear ho0 hb0 hb1
  have hs1 := hB1.size
  have h256 := pow_256 n h8
  have h1N : 1 < 2 ^ n := Nat.one_lt_two_pow (by omega)
  have htw := two_int n
  obtain ⟨t', ht', htl⟩ := some_taps n h2 h8
  obtain ⟨N, hN⟩ : ∃ N, 2 ^ n = N := ⟨_, rfl⟩
  have HN := Lib.hid hN
  rw [hN] at htw h256 h1N htl
  clear hN
  go_wp2_with fail
  refine (spec_l1Two (n : Int) _ (by omega) (by omega)).mono ?_
  rintro e w' ⟨rfl, rfl⟩
  rw [htw]
  go_wp2_with fail
  refine (rd_pick _ _ _ _ hr1 (by omega) (by omega) (by omega)).mono ?_
  rintro e w2 ⟨m, rfl, hm0, hm1, hm2, hb2, hr2⟩
  obtain ⟨m, rfl⟩ := Int.eq_ofNat_of_zero_le hm0
  have hm3 := hm1 (by omega)
  clear hm1 hm2
  have ho2 := own_bel ho1 hb2 hgl
  have hB2 := hB1.trans' hb2 hs1
  clear ho1 hb2 hB1 hr1
  have hs2 := hB2.size
  go_wp2_with fail
  refine (rd_pick _ _ _ _ hr2 (by omega) (by omega) (by omega)).mono ?_
  rintro e w3 ⟨q, rfl, hq0, hq1, hq2, hb3, hr3⟩
  clear hq1 hq2
  have ho3 := own_bel ho2 hb3 hgl
  have hB3 := hB2.trans' hb3 hs2
  clear ho2 hb3 hB2 hr2
  have hs3 := hB3.size
  by_cases c0 : q = 0
  · have d0 : (q == 0) = true := by simp [c0]
    clear c0
    have hlit := own_lit w3 3 7 [.int .i64 3, .int .i64 3, .int .i64 3, .int .i64 5, .int .i64 3, .int .i64 3, .int .i64 29] rfl (by unfold maxLen; omega)
    have hc := hlit.cellAt (n - 2) (by omega)
    have hv : ([.int .i64 3, .int .i64 3, .int .i64 3, .int .i64 5, .int .i64 3, .int .i64 3, .int .i64 29] : List Value)[n - 2]? = some (.int .i64 (t' : Int)) := by
      have : ([.int .i64 3, .int .i64 3, .int .i64 3, .int .i64 5, .int .i64 3, .int .i64 3, .int .i64 29] : List Value) = ([3, 3, 3, 5, 3, 3, 29] : List Int).map (Value.int .i64) := rfl
      rw [this, List.getElem?_map, ht']; rfl
    rw [hv] at hc
    have hn2 : (n : Int) - 2 = ((n - 2 : Nat) : Int) := by omega
    clear ht' hv hlit
    go_wp2_with fail
    have hr4 := hr3.alloc (.cells #[.int .i64 3, .int .i64 3, .int .i64 3, .int .i64 5, .int .i64 3, .int .i64 3, .int .i64 29] 3)
    have ho4 := ho3.alloc (.cells #[.int .i64 3, .int .i64 3, .int .i64 3, .int .i64 5, .int .i64 3, .int .i64 3, .int .i64 29] 3)
    have hB4 := hB3.alloc hs3 (.cells #[.int .i64 3, .int .i64 3, .int .i64 3, .int .i64 5, .int .i64 3, .int .i64 3, .int .i64 29] 3)
    have hs4 := hB4.size
    clear hr3 ho3 hB3 hc
    generalize w3.alloc (.cells #[.int .i64 3, .int .i64 3, .int .i64 3, .int .i64 5, .int .i64 3, .int .i64 3, .int .i64 29] 3) = w4 at *
    refine (spec_l1Two (n : Int) _ (by omega) (by omega)).mono ?_
    rintro e w' ⟨rfl, rfl⟩
    rw [htw]
    go_wp2_with fail
    refine (rd_pick _ _ _ _ hr4 (by omega) (by omega) (by omega)).mono ?_
    rintro e w5 ⟨x, rfl, hx0, hx1, hx2, hb5, hr5⟩
    obtain ⟨x, rfl⟩ := Int.eq_ofNat_of_zero_le hx0
    have hx3 := hx1 (by omega)
    clear hx1 hx2
    have ho5 := own_bel ho4 hb5 hgl
    have hB5 := hB4.trans' hb5 hs4
    have hlt5 := hb5.size
    have e0 : w5.cell? ⟨w.heap.size, 0, none⟩ = some (.int .i64 0) := ho5.cellAt 0 (by omega)
    have e1 : w5.cell? ⟨w.heap.size, 1, none⟩ = some (.int .i64 0) := ho5.cellAt 1 (by omega)
    have e2 : w5.cell? ⟨w.heap.size, 2, none⟩ = some (.int .i64 0) := ho5.cellAt 2 (by omega)
    have f0 := ho5.frozenAt 0
    have f1 := ho5.frozenAt 1
    have f2 := ho5.frozenAt 2
    have h3 := own_three ho5 (.int .i64 n) (.int .i64 (t' : Int)) (.int .i64 x)
    have HR := Lib.hid (hr5.grown h3.2 (fun k hk => by injection hk with hk; omega))
    have HBB := Lib.hid (((hB5.setCell (p := ⟨w.heap.size, 0, none⟩) (.inr (Nat.le_refl _)) (.int .i64 n)).setCell (p := ⟨w.heap.size, 1, none⟩) (.inr (Nat.le_refl _)) (.int .i64 (t' : Int))).setCell (p := ⟨w.heap.size, 2, none⟩) (.inr (Nat.le_refl _)) (.int .i64 x))
    clear ho5 hB5 hb5 hr5 h3 hr4 ho4 hB4
    go_wp2_with fail
    refine bodyPost_ret (v := regV n (t' : Int) x) (by simp [results, Try.results79, go_sem, regV, e0, e1, e2]) rfl ?_
    exact ⟨n, t', x, rfl, h2, h8, by rw [HN.out]; exact htl, by rw [HN.out]; omega, HBB.out, HR.out.more (by omega)⟩
  · have d0 : (q == 0) = false := by simp [c0]
    clear c0 ht'
    have hr4 := hr3
    have ho4 := ho3
    have hB4 := hB3
    have hs4 := hs3
    clear hr3 ho3 hB3
    go_wp2_with fail
    refine (spec_l1Two (n : Int) _ (by omega) (by omega)).mono ?_
    rintro e w' ⟨rfl, rfl⟩
    rw [htw]
    go_wp2_with fail
    refine (rd_pick _ _ _ _ hr4 (by omega) (by omega) (by omega)).mono ?_
    rintro e w5 ⟨x, rfl, hx0, hx1, hx2, hb5, hr5⟩
    obtain ⟨x, rfl⟩ := Int.eq_ofNat_of_zero_le hx0
    have hx3 := hx1 (by omega)
    clear hx1 hx2
    have ho5 := own_bel ho4 hb5 hgl
    have hB5 := hB4.trans' hb5 hs4
    have hlt5 := hb5.size
    have e0 : w5.cell? ⟨w.heap.size, 0, none⟩ = some (.int .i64 0) := ho5.cellAt 0 (by omega)
    have e1 : w5.cell? ⟨w.heap.size, 1, none⟩ = some (.int .i64 0) := ho5.cellAt 1 (by omega)
    have e2 : w5.cell? ⟨w.heap.size, 2, none⟩ = some (.int .i64 0) := ho5.cellAt 2 (by omega)
    have f0 := ho5.frozenAt 0
    have f1 := ho5.frozenAt 1
    have f2 := ho5.frozenAt 2
    have h3 := own_three ho5 (.int .i64 n) (.int .i64 (1 + (m : Int))) (.int .i64 x)
    have HR := Lib.hid (hr5.grown h3.2 (fun k hk => by injection hk with hk; omega))
    have HBB := Lib.hid (((hB5.setCell (p := ⟨w.heap.size, 0, none⟩) (.inr (Nat.le_refl _)) (.int .i64 n)).setCell (p := ⟨w.heap.size, 1, none⟩) (.inr (Nat.le_refl _)) (.int .i64 (1 + (m : Int)))).setCell (p := ⟨w.heap.size, 2, none⟩) (.inr (Nat.le_refl _)) (.int .i64 x))
    clear ho5 hB5 hb5 hr5 h3 hr4 ho4 hB4
    go_wp2_with fail
    refine bodyPost_ret (v := regV n (1 + (m : Int)) x) (by simp [results, Try.results79, go_sem, regV, e0, e1, e2]) rfl ?_
    exact ⟨n, 1 + m, x, by rw [Int.natCast_add]; rfl, h2, h8, by rw [HN.out]; omega, by rw [HN.out]; omega, HBB.out, HR.out.more (by omega)⟩

end Go.Proofs.Ytkebiigpfbconaa
