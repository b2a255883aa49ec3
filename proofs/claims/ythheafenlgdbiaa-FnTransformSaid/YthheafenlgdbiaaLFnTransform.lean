/- The walk of the law FnTransform. Conditions: as the theorem says. -/
import Derived.Test.YthheafenlgdbiaaC6
import Derived.Test.YthheafenlgdbiaaDrawS
import Derived.Test.YthheafenlgdbiaaPureH
namespace Go.Proofs.Ythheafenlgdbiaa
open Go.RowKit
set_option linter.unusedSimpArgs false
set_option linter.unusedVariables false

set_option maxRecDepth 100000 in
set_option maxHeartbeats 2000000 in
theorem walk_FnTransform (A : Option Addr) (n c : Nat) (zs : List Int) (w : World) (hx : RowIn .u8 w A n c zs) :
    Calls Try.prog 14 #[.slice A n c] w fun e w' => e = .returned (.bool true) ∧ Below w.heap.size w w' := by
  by_cases hbig_n : 1048576 < n
  · clear hx
    go_enter Try.func14, Try.ntmps14
    go_wp2
    go_ret
    exact ⟨rfl, Below.refl _ _⟩
  replace hbig_n : n ≤ 1048576 := by omega
  have hB0 : Below w.heap.size w w := Below.refl _ _
  go_enter Try.func14, Try.ntmps14
  go_wp2_with fail
  refine (spec_DrawWalshTransform _ _ _ _ _ hx).mono ?_
  rintro e w1 ⟨As, ns, cs, z, rfl, ho, hn1, hb⟩
  have Os := Lib.hid ho
  clear ho
  have hS1 := hb.size
  have hB1 : Below w.heap.size w w1 := hB0.trans (hb.mono hB0.size)
  clear hb
  clear hx
  go_wp2_with fail
  refine (impl_WalshTransform _ _ _ _ _ (own_rdI Os.out) (by omega)).mono ?_
  rintro e w2 ⟨Ax, nx, cx, rfl, ho, hb⟩
  have Cs_2 := Lib.hid (own_below Os.out hb)
  have Ox := Lib.hid ho
  clear ho
  have hS2 := hb.size
  have hB2 : Below w.heap.size w w2 := hB1.trans (hb.mono hB1.size)
  clear hb
  go_wp2_with fail
  refine (spec_WalshTransform _ _ _ _ _ (own_rdI Cs_2.out) (by omega)).mono ?_
  rintro e w3 ⟨Ar, nr, cr, rfl, ho, hb⟩
  have Cs_3 := Lib.hid (own_below Cs_2.out hb)
  clear Cs_2
  have Cx_3 := Lib.hid (own_below Ox.out hb)
  have Or := Lib.hid ho
  clear ho
  have hS3 := hb.size
  have hB3 : Below w.heap.size w w3 := hB2.trans (hb.mono hB2.size)
  clear hb
  rcases wtranC_ways z with h | ⟨m, hm, hl, hz, h⟩
  · rw [h] at Cx_3 Or
    obtain rfl : nx = 0 := by have h5 := ((own_rdI Cx_3.out)).len; simp at h5; omega
    go_wp2_with fail
    refine (laws_ssInts _ _ _ _ _ _ _ _ _ (own_rdI Cx_3.out) (own_rdI Or.out) (own_cap Cx_3.out)).mono ?_
    rintro e w4 hq
    obtain ⟨rfl, hb⟩ := retD_below hq
    clear hq
    have Cs_4 := Lib.hid (own_below Cs_3.out hb)
    clear Cs_3
    have Cx_4 := Lib.hid (own_below Cx_3.out hb)
    clear Cx_3
    have Cr_4 := Lib.hid (own_below Or.out hb)
    have hS4 := hb.size
    have hB4 : Below w.heap.size w w4 := hB3.trans (hb.mono hB3.size)
    clear hb
    go_wp2_with fail
    clear Cr_4
    refine (spec_WalshTransform _ _ _ _ _ (own_rdI Cs_4.out) (by omega)).mono ?_
    rintro e w5 ⟨Aq, nq, cq, rfl, ho, hb⟩
    have Cs_5 := Lib.hid (own_below Cs_4.out hb)
    clear Cs_4
    have Cx_5 := Lib.hid (own_below Cx_4.out hb)
    clear Cx_4
    have Oq := Lib.hid ho
    clear ho
    have hS5 := hb.size
    have hB5 : Below w.heap.size w w5 := hB4.trans (hb.mono hB4.size)
    clear hb
    rw [h] at Oq
    go_wp2_with fail
    refine (laws_ssInts _ _ _ _ _ _ _ _ _ (own_rdI Cx_5.out) (own_rdI Oq.out) (own_cap Cx_5.out)).mono ?_
    rintro e w6 hq
    obtain ⟨rfl, hb⟩ := retD_below hq
    clear hq
    have Cs_6 := Lib.hid (own_below Cs_5.out hb)
    clear Cs_5
    have Cx_6 := Lib.hid (own_below Cx_5.out hb)
    clear Cx_5
    have Cq_6 := Lib.hid (own_below Oq.out hb)
    have hS6 := hb.size
    have hB6 : Below w.heap.size w w6 := hB5.trans (hb.mono hB5.size)
    clear hb
    go_wp2_with fail
    go_ret
    exact ⟨rfl, hB6⟩
  · rw [h] at Cx_3 Or
    clear h
    have hlz := ((own_rdI Cs_3.out)).len
    have hlx := ((own_rdI Cx_3.out)).len
    rw [wtranL_len] at hlx
    obtain rfl : nx = ns := by omega
    have h64 : nx ≤ 64 := by have h5 : 2 ^ m ≤ 2 ^ 6 := Nat.pow_le_pow_right (by omega) hm; omega
    have h1n : 1 ≤ nx := by have h5 : 1 ≤ 2 ^ m := Nat.one_le_two_pow; omega
    have hbx := wtranL_bd z m hm hl hz
    have htw := wtran_twice z m hl
    have hpa := parseval z m hl
    rw [hlz] at htw hpa
    have hxsq : ∀ i, 0 ≤ (wtranL z).getD i 0 * (wtranL z).getD i 0 ∧ (wtranL z).getD i 0 * (wtranL z).getD i 0 ≤ 4096000000000000 := by
      intro i
      have h5 := hbx i
      have h6 := mul_abs _ _ 64000000 64000000 h5 h5 (by decide)
      refine ⟨?_, by omega⟩
      generalize (wtranL z).getD i 0 = y
      rcases Int.le_total 0 y with h7 | h7
      · exact Int.mul_nonneg h7 h7
      · have h8 := Int.mul_nonneg (show 0 ≤ -y by omega) (show 0 ≤ -y by omega)
        rwa [Int.neg_mul_neg] at h8
    have hzsq : ∀ i, 0 ≤ z.getD i 0 * z.getD i 0 ∧ z.getD i 0 * z.getD i 0 ≤ 1000000000000 := by
      intro i
      have h5 := bdI_getD 1000000 z hz (by omega) i
      exact sq_bd _ h5.1 h5.2
    have hsx : ∀ i : Nat, -((i : Int) * 4096000000000000) ≤ sumTo (fun i => (wtranL z).getD i 0 * (wtranL z).getD i 0) i ∧ sumTo (fun i => (wtranL z).getD i 0 * (wtranL z).getD i 0) i ≤ (i : Int) * 4096000000000000 := fun i => sumTo_bd _ _ i fun j _ => ⟨by have := (hxsq j).1; omega, (hxsq j).2⟩
    have hsz : ∀ i : Nat, -((i : Int) * 1000000000000) ≤ sumTo (fun i => z.getD i 0 * z.getD i 0) i ∧ sumTo (fun i => z.getD i 0 * z.getD i 0) i ≤ (i : Int) * 1000000000000 := fun i => sumTo_bd _ _ i fun j _ => ⟨by have := (hzsq j).1; omega, (hzsq j).2⟩
    have HLZ := Lib.hid hlz
    have HBX := Lib.hid hbx
    have HTW := Lib.hid htw
    have HPA := Lib.hid hpa
    have HSX := Lib.hid hsx
    have HSZ := Lib.hid hsz
    have HZ := Lib.hid hz
    have HM := Lib.hid hm
    have HL := Lib.hid hl
    clear hlz hlx hbx htw hpa hsx hsz hz hm hl
    have HXSQ := Lib.hid hxsq
    have HZSQ := Lib.hid hzsq
    clear hxsq hzsq
    have hn0 : ((nx : Int) == 0) = false := by simp; omega
    go_wp2_with fail
    refine (laws_ssInts _ _ _ _ _ _ _ _ _ (own_rdI Cx_3.out) (own_rdI Or.out) (own_cap Cx_3.out)).mono ?_
    rintro e w4 hq
    obtain ⟨rfl, hb⟩ := retD_below hq
    clear hq
    have Cs_4 := Lib.hid (own_below Cs_3.out hb)
    clear Cs_3
    have Cx_4 := Lib.hid (own_below Cx_3.out hb)
    clear Cx_3
    have Cr_4 := Lib.hid (own_below Or.out hb)
    have hS4 := hb.size
    have hB4 : Below w.heap.size w w4 := hB3.trans (hb.mono hB3.size)
    clear hb
    clear Cr_4
    go_wp2_with fail
    go_loopw [6, 7, 8] (fun a b v wr => ∃ i d : Nat, i ≤ nx ∧ v = .int .i64 i ∧ a = .int .i64 (sumTo (fun i => z.getD i 0 * z.getD i 0) i) ∧ b = .int .i64 (sumTo (fun i => (wtranL z).getD i 0 * (wtranL z).getD i 0) i) ∧ (∀ j, j < i → -1000000 ≤ (wtranL z).getD j 0 ∧ (wtranL z).getD j 0 ≤ 1000000) ∧ w4.drewN d = wr) (fun _ _ v _ => nx - (intOf v).toNat)
    case atStart => exact ⟨0, 0, Nat.zero_le _, rfl, rfl, rfl, fun j hj => absurd hj (by omega), rfl⟩
    case round =>
      obtain ⟨i, d, hi, rfl, rfl, rfl, hin, rfl⟩ := hrel
      have HIN := Lib.hid hin
      clear hin
      have hbx := HSX.out i
      have hbz := HSZ.out i
      by_cases hlt : i < nx
      · obtain ⟨b, o, y, hA, hbl, hyy, hcy⟩ := ((own_rdI Cs_4.out)).at hlt
        obtain ⟨b', o', y', hA', hbl', hyy', hcy'⟩ := ((own_rdI Cx_4.out)).at hlt
        have hyg : z.getD i 0 = y := by rw [List.getD_eq_getElem?_getD, hyy.out]; rfl
        have hyg' : (wtranL z).getD i 0 = y' := by rw [List.getD_eq_getElem?_getD, hyy'.out]; rfl
        have hsq := HZSQ.out i
        have hsq' := HXSQ.out i
        have hyb := HBX.out i
        have hnz : sumTo (fun i => z.getD i 0 * z.getD i 0) (i + 1) = sumTo (fun i => z.getD i 0 * z.getD i 0) i + y * y := by rw [sumTo_succ, hyg]
        have hnx' : sumTo (fun i => (wtranL z).getD i 0 * (wtranL z).getD i 0) (i + 1) = sumTo (fun i => (wtranL z).getD i 0 * (wtranL z).getD i 0) i + y' * y' := by rw [sumTo_succ, hyg']
        rw [hyg] at hsq
        rw [hyg'] at hsq' hyb
        generalize sumTo (fun i => z.getD i 0 * z.getD i 0) i = sa at *
        generalize sumTo (fun i => (wtranL z).getD i 0 * (wtranL z).getD i 0) i = sb at *
        have HNZ := Lib.hid hnz
        have HNX := Lib.hid hnx'
        have HYG := Lib.hid hyg'
        clear hnz hnx' hyg hyg' hyy hyy'
        subst hA hA'
        go_wp2
        go_quiet (fail)
        go_wp2
        go_quiet (fail)
        by_cases hc1 : 1000000 < y'
        · go_wp2
          go_ret
          exact ⟨rfl, below_drewN hB4 _⟩
        · have hc1' : decide (y' > 1000000) = false := by simp; omega
          by_cases hc2 : y' < -1000000
          · go_wp2
            go_ret
            exact ⟨rfl, below_drewN hB4 _⟩
          · go_wp2
            go_roundw
            case rel => exact ⟨i + 1, _, by omega, by go_num, by rw [HNZ.out], by rw [HNX.out], fun j hj => by
                rcases Nat.lt_succ_iff_lt_or_eq.1 hj with h5 | rfl
                · exact HIN.out j h5
                · rw [HYG.out]; omega, rfl⟩
            case measure => simp [intOf]; omega
      · obtain rfl : i = nx := by omega
        have hb := below_drewN (Below.refl w4.heap.size w4) d
        generalize w4.drewN d = w5 at hb ⊢
        have Cs_5 := Lib.hid (own_below Cs_4.out hb)
        clear Cs_4
        have Cx_5 := Lib.hid (own_below Cx_4.out hb)
        clear Cx_4
        have hS5 := hb.size
        have hB5 : Below w.heap.size w w5 := hB4.trans (hb.mono hB4.size)
        clear hb
        rw [HPA.out]
        clear hbx
        generalize sumTo (fun i => z.getD i 0 * z.getD i 0) i = sa at hbz ⊢
        have hall : ∀ y ∈ wtranL z, -1000000 ≤ y ∧ y ≤ 1000000 := by
          intro y hy
          obtain ⟨j, hj, rfl⟩ := List.getElem_of_mem hy
          have h5 := HIN.out j (by rw [wtranL_len, HLZ.out] at hj; exact hj)
          rw [List.getD_eq_getElem?_getD, List.getElem?_eq_getElem hj] at h5
          exact h5
        have hw2 := wtranC_yes (wtranL z) m HM.out (by rw [wtranL_len]; exact HL.out) hall
        clear hall
        have HW2 := Lib.hid hw2
        clear hw2
        go_wp2_with fail
        refine (impl_WalshTransform _ _ _ _ _ (own_rdI Cx_5.out) (by omega)).mono ?_
        rw [HW2.out]
        rintro e w6 ⟨Ay, ny, cy, rfl, ho, hb⟩
        have Cs_6 := Lib.hid (own_below Cs_5.out hb)
        clear Cs_5
        have Cx_6 := Lib.hid (own_below Cx_5.out hb)
        clear Cx_5
        have Oy := Lib.hid ho
        clear ho
        have hS6 := hb.size
        have hB6 : Below w.heap.size w w6 := hB5.trans (hb.mono hB5.size)
        clear hb
        obtain rfl : ny = i := by have h5 := ((own_rdI Oy.out)).len; rw [wtranL_len, wtranL_len, HLZ.out] at h5; omega
        go_wp2_with fail
        go_loopw [10] (fun v wr => ∃ j d : Nat, j ≤ ny ∧ v = .int .i64 j ∧ w6.drewN d = wr) (fun v _ => ny - (intOf v).toNat)
        case atStart => exact ⟨0, 0, Nat.zero_le _, rfl, rfl⟩
        case round =>
          obtain ⟨j, d, hj, rfl, rfl⟩ := hrel
          by_cases hlt2 : j < ny
          · obtain ⟨b, o, y, hA, hbl, hyy, hcy⟩ := ((own_rdI Cs_6.out)).at hlt2
            obtain ⟨b', o', y', hA', hbl', hyy', hcy'⟩ := ((own_rdI Oy.out)).at hlt2
            have hyg : z.getD j 0 = y := by rw [List.getD_eq_getElem?_getD, hyy.out]; rfl
            have hyg' : (wtranL (wtranL z)).getD j 0 = y' := by rw [List.getD_eq_getElem?_getD, hyy'.out]; rfl
            have hyb := bdI_getD 1000000 z HZ.out (by omega) j
            have h5 := HTW.out j hlt2
            rw [hyg] at hyb h5
            rw [hyg'] at h5
            subst h5
            clear hyg hyg' hyy hyy'
            have h6 := mul_abs (ny : Int) y 64 1000000 hyb ⟨by omega, by omega⟩ (by decide)
            subst hA hA'
            go_wp2
            go_quiet (fail)
            go_wp2
            go_roundw
            case rel => exact ⟨j + 1, _, by omega, by go_num, rfl⟩
            case measure => simp [intOf]; omega
          · have h6 := mul_abs (ny : Int) sa 64 64000000000000 ⟨by omega, by omega⟩ ⟨by omega, by omega⟩ (by decide)
            have h7 : wrap64 ((ny : Int) * sa) = (ny : Int) * sa := IntWalk.wrap64_in _ ⟨by omega, by omega⟩
            go_wp2
            go_ret
            exact ⟨rfl, below_drewN hB6 _⟩

end Go.Proofs.Ythheafenlgdbiaa
