/- The walk of the law FnAddSignals. Conditions: as the theorem says. -/
import Derived.Test.YthheafenlgdbiaaC4b
import Derived.Test.YthheafenlgdbiaaDraw4b
import Derived.Test.YthheafenlgdbiaaPureG
namespace Go.Proofs.Ythheafenlgdbiaa
open Go.RowKit
set_option linter.unusedSimpArgs false
set_option linter.unusedVariables false

set_option maxRecDepth 100000 in
set_option maxHeartbeats 2000000 in
theorem walk_FnAddSignals (A : Option Addr) (n c : Nat) (zs : List Int) (w : World) (hx : RowIn .u8 w A n c zs) :
    Calls Try.prog 10 #[.slice A n c] w fun e w' => e = .returned (.bool true) ∧ Below w.heap.size w w' := by
  by_cases hbig_n : 1048576 < n
  · clear hx
    go_enter Try.func10, Try.ntmps10
    go_wp2
    go_ret
    exact ⟨rfl, Below.refl _ _⟩
  replace hbig_n : n ≤ 1048576 := by omega
  have hB0 : Below w.heap.size w w := Below.refl _ _
  go_enter Try.func10, Try.ntmps10
  go_wp2_with fail
  refine (spec_DrawAddSignals _ _ _ _ _ hx).mono ?_
  rintro e w1 ⟨Aa, na, ca, a, Ab, nb, cb, b, rfl, ho_a, ho_b, hna, hnb, hb⟩
  have Oa := Lib.hid ho_a
  clear ho_a
  have Ob := Lib.hid ho_b
  clear ho_b
  have hS1 := hb.size
  have hB1 : Below w.heap.size w w1 := hB0.trans (hb.mono hB0.size)
  clear hb
  clear hx
  go_wp2_with fail
  refine (impl_AddSignals _ _ _ _ _ _ _ _ _ (own_rdI Oa.out) (own_cap Oa.out) (own_rdI Ob.out) (own_cap Ob.out)).mono ?_
  rintro e w2 ⟨As, ns, cs, rfl, ho, hb⟩
  have Ca_2 := Lib.hid (own_below Oa.out hb)
  have Cb_2 := Lib.hid (own_below Ob.out hb)
  have Os := Lib.hid ho
  clear ho
  have hS2 := hb.size
  have hB2 : Below w.heap.size w w2 := hB1.trans (hb.mono hB1.size)
  clear hb
  go_wp2_with fail
  refine (spec_AddSignals _ _ _ _ _ _ _ _ _ (own_rdI Ca_2.out) (own_cap Ca_2.out) (own_rdI Cb_2.out) (own_cap Cb_2.out)).mono ?_
  rintro e w3 ⟨Ar, nr, cr, rfl, ho, hb⟩
  have Ca_3 := Lib.hid (own_below Ca_2.out hb)
  clear Ca_2
  have Cb_3 := Lib.hid (own_below Cb_2.out hb)
  clear Cb_2
  have Cs_3 := Lib.hid (own_below Os.out hb)
  have Or := Lib.hid ho
  clear ho
  have hS3 := hb.size
  have hB3 : Below w.heap.size w w3 := hB2.trans (hb.mono hB2.size)
  clear hb
  rcases addC_ways a b with h | ⟨h1, h2, h3, h⟩
  · rw [h] at Cs_3 Or ⊢
    go_wp2_with fail
    refine (laws_ssInts _ _ _ _ _ _ _ _ _ (own_rdI Cs_3.out) (own_rdI Or.out) (own_cap Cs_3.out)).mono ?_
    rintro e w4 hq
    obtain ⟨rfl, hb⟩ := retD_below hq
    clear hq
    have Ca_4 := Lib.hid (own_below Ca_3.out hb)
    clear Ca_3
    have Cb_4 := Lib.hid (own_below Cb_3.out hb)
    clear Cb_3
    have Cs_4 := Lib.hid (own_below Cs_3.out hb)
    clear Cs_3
    have Cr_4 := Lib.hid (own_below Or.out hb)
    have hS4 := hb.size
    have hB4 : Below w.heap.size w w4 := hB3.trans (hb.mono hB3.size)
    clear hb
    go_wp2_with fail
    refine (laws_ssInts _ _ _ _ _ _ _ _ _ (own_rdI Cs_4.out) (own_rdI Cr_4.out) (own_cap Cs_4.out)).mono ?_
    rintro e w5 hq
    obtain ⟨rfl, hb⟩ := retD_below hq
    clear hq
    have Ca_5 := Lib.hid (own_below Ca_4.out hb)
    clear Ca_4
    have Cb_5 := Lib.hid (own_below Cb_4.out hb)
    clear Cb_4
    have Cs_5 := Lib.hid (own_below Cs_4.out hb)
    clear Cs_4
    have Cr_5 := Lib.hid (own_below Cr_4.out hb)
    clear Cr_4
    have hS5 := hb.size
    have hB5 : Below w.heap.size w w5 := hB4.trans (hb.mono hB4.size)
    clear hb
    go_wp2_with fail
    go_ret
    exact ⟨rfl, hB5⟩
  · rw [h] at Cs_3 Or ⊢
    clear h
    go_wp2_with fail
    refine (laws_ssInts _ _ _ _ _ _ _ _ _ (own_rdI Cs_3.out) (own_rdI Or.out) (own_cap Cs_3.out)).mono ?_
    rintro e w4 hq
    obtain ⟨rfl, hb⟩ := retD_below hq
    clear hq
    have Ca_4 := Lib.hid (own_below Ca_3.out hb)
    clear Ca_3
    have Cb_4 := Lib.hid (own_below Cb_3.out hb)
    clear Cb_3
    have Cs_4 := Lib.hid (own_below Cs_3.out hb)
    clear Cs_3
    have Cr_4 := Lib.hid (own_below Or.out hb)
    have hS4 := hb.size
    have hB4 : Below w.heap.size w w4 := hB3.trans (hb.mono hB3.size)
    clear hb
    clear Cr_4
    have hal := Lib.hid ((own_rdI Ca_4.out).len)
    have hbl := Lib.hid ((own_rdI Cb_4.out).len)
    have hsl := Lib.hid ((own_rdI Cs_4.out).len)
    go_wp2_with fail
    refine (impl_AddSignals _ _ _ _ _ _ _ _ _ (own_rdI Cb_4.out) (own_cap Cb_4.out) (own_rdI Ca_4.out) (own_cap Ca_4.out)).mono ?_
    rw [add_other a b h1 h2 h3]
    rintro e w5 ⟨Ao, no, co, rfl, ho, hb⟩
    have Ca_5 := Lib.hid (own_below Ca_4.out hb)
    clear Ca_4
    have Cb_5 := Lib.hid (own_below Cb_4.out hb)
    clear Cb_4
    have Cs_5 := Lib.hid (own_below Cs_4.out hb)
    clear Cs_4
    have Oo := Lib.hid ho
    clear ho
    have hS5 := hb.size
    have hB5 : Below w.heap.size w w5 := hB4.trans (hb.mono hB4.size)
    clear hb
    go_wp2_with fail
    refine (impl_ScaleSignal _ _ _ _ _ _ (own_rdI Cb_5.out) (own_cap Cb_5.out)).mono ?_
    rw [neg_ok b h2]
    rintro e w6 ⟨Am, nm, cm, rfl, ho, hb⟩
    have Ca_6 := Lib.hid (own_below Ca_5.out hb)
    clear Ca_5
    have Cb_6 := Lib.hid (own_below Cb_5.out hb)
    clear Cb_5
    have Cs_6 := Lib.hid (own_below Cs_5.out hb)
    clear Cs_5
    have Co_6 := Lib.hid (own_below Oo.out hb)
    have Om := Lib.hid ho
    clear ho
    have hS6 := hb.size
    have hB6 : Below w.heap.size w w6 := hB5.trans (hb.mono hB5.size)
    clear hb
    go_wp2_with fail
    refine (impl_AddSignals _ _ _ _ _ _ _ _ _ (own_rdI Cs_6.out) (own_cap Cs_6.out) (own_rdI Om.out) (own_cap Om.out)).mono ?_
    rw [add_back a b h1 h2 h3]
    rintro e w7 ⟨Ak, nk, ck, rfl, ho, hb⟩
    have Ca_7 := Lib.hid (own_below Ca_6.out hb)
    clear Ca_6
    have Cb_7 := Lib.hid (own_below Cb_6.out hb)
    clear Cb_6
    have Cs_7 := Lib.hid (own_below Cs_6.out hb)
    clear Cs_6
    have Co_7 := Lib.hid (own_below Co_6.out hb)
    clear Co_6
    have Cm_7 := Lib.hid (own_below Om.out hb)
    have Ok := Lib.hid ho
    clear ho
    have hS7 := hb.size
    have hB7 : Below w.heap.size w w7 := hB6.trans (hb.mono hB6.size)
    clear hb
    have hkl := Lib.hid ((own_rdI Ok.out).len)
    have RK := Lib.hid (own_rdI Ok.out)
    have RA := Lib.hid (own_rdI Ca_7.out)
    go_wp2_with fail
    go_loop [15] (fun v => ∃ i : Nat, i ≤ nk ∧ v = .int .i64 i) (fun v => nk - (intOf v).toNat)
    case atStart => exact ⟨0, Nat.zero_le _, rfl⟩
    case round =>
      obtain ⟨i, hi, rfl⟩ := hrel
      have hkN : max a.length b.length = nk := by have := hkl.out; rwa [padL_len] at this
      have hnk : nk ≤ 10000 := by have := hal.out; have := hbl.out; omega
      by_cases hlt : i < nk
      · have hpa := padL_at (max a.length b.length) a i (by omega)
        have HPA := Lib.hid hpa
        have HKN := Lib.hid hkN
        clear hpa hkN
        obtain ⟨b1, o1, y, rfl, hb1, hyy, hcy⟩ := RdI.at RK.out hlt
        have hy := Option.some.inj (HPA.out.symm.trans hyy.out)
        by_cases hia : i < na
        · obtain ⟨b2, o2, x, rfl, hb2, hxx, hcx⟩ := RdI.at RA.out hia
          rw [List.getD_eq_getElem?_getD, hxx.out, Option.getD_some] at hy
          subst hy
          go_wp2_with fail
          go_round
          case rel => exact ⟨i + 1, by omega, by go_num⟩
          case measure => simp [intOf]; omega
        · rw [List.getD_eq_getElem?_getD, List.getElem?_eq_none (by rw [hal.out]; omega), Option.getD_none] at hy
          subst hy
          go_wp2_with fail
          go_round
          case rel => exact ⟨i + 1, by omega, by go_num⟩
          case measure => simp [intOf]; omega
      · have hns : ns = max na nb := by have h5 := hsl.out; rw [addL_len, hal.out, hbl.out] at h5; omega
        clear hkN
        rcases (show (na < nb ∧ ns = nb) ∨ (nb < na ∧ ns = na) ∨ (na = nb ∧ ns = nb) by omega) with ⟨hle, hsn⟩ | ⟨hle, hsn⟩ | ⟨hle, hsn⟩
        · have hsenb : ((ns : Int) == (nb : Int)) = true := by simp; omega
          clear hsn hns
          go_wp2_with fail
          refine (laws_ssInts _ _ _ _ _ _ _ _ _ (own_rdI Co_7.out) (own_rdI Cs_7.out) (own_cap Co_7.out)).mono ?_
          rintro e w8 hq
          obtain ⟨rfl, hb⟩ := retD_below hq
          clear hq
          have Ca_8 := Lib.hid (own_below Ca_7.out hb)
          clear Ca_7
          have Cb_8 := Lib.hid (own_below Cb_7.out hb)
          clear Cb_7
          have Cs_8 := Lib.hid (own_below Cs_7.out hb)
          clear Cs_7
          have Co_8 := Lib.hid (own_below Co_7.out hb)
          clear Co_7
          have Cm_8 := Lib.hid (own_below Cm_7.out hb)
          clear Cm_7
          have Ck_8 := Lib.hid (own_below Ok.out hb)
          have hS8 := hb.size
          have hB8 : Below w.heap.size w w8 := hB7.trans (hb.mono hB7.size)
          clear hb
          go_wp2_with fail
          all_goals
            go_ret
            exact ⟨rfl, hB8⟩
        · have hsena : ((ns : Int) == (na : Int)) = true := by simp; omega
          clear hsn hns
          go_wp2_with fail
          refine (laws_ssInts _ _ _ _ _ _ _ _ _ (own_rdI Co_7.out) (own_rdI Cs_7.out) (own_cap Co_7.out)).mono ?_
          rintro e w8 hq
          obtain ⟨rfl, hb⟩ := retD_below hq
          clear hq
          have Ca_8 := Lib.hid (own_below Ca_7.out hb)
          clear Ca_7
          have Cb_8 := Lib.hid (own_below Cb_7.out hb)
          clear Cb_7
          have Cs_8 := Lib.hid (own_below Cs_7.out hb)
          clear Cs_7
          have Co_8 := Lib.hid (own_below Co_7.out hb)
          clear Co_7
          have Cm_8 := Lib.hid (own_below Cm_7.out hb)
          clear Cm_7
          have Ck_8 := Lib.hid (own_below Ok.out hb)
          have hS8 := hb.size
          have hB8 : Below w.heap.size w w8 := hB7.trans (hb.mono hB7.size)
          clear hb
          go_wp2_with fail
          all_goals
            go_ret
            exact ⟨rfl, hB8⟩
        · have hsena : ((ns : Int) == (na : Int)) = true := by simp; omega
          have hsenb : ((ns : Int) == (nb : Int)) = true := by simp; omega
          clear hsn hns hle
          go_wp2_with fail
          refine (laws_ssInts _ _ _ _ _ _ _ _ _ (own_rdI Co_7.out) (own_rdI Cs_7.out) (own_cap Co_7.out)).mono ?_
          rintro e w8 hq
          obtain ⟨rfl, hb⟩ := retD_below hq
          clear hq
          have Ca_8 := Lib.hid (own_below Ca_7.out hb)
          clear Ca_7
          have Cb_8 := Lib.hid (own_below Cb_7.out hb)
          clear Cb_7
          have Cs_8 := Lib.hid (own_below Cs_7.out hb)
          clear Cs_7
          have Co_8 := Lib.hid (own_below Co_7.out hb)
          clear Co_7
          have Cm_8 := Lib.hid (own_below Cm_7.out hb)
          clear Cm_7
          have Ck_8 := Lib.hid (own_below Ok.out hb)
          have hS8 := hb.size
          have hB8 : Below w.heap.size w w8 := hB7.trans (hb.mono hB7.size)
          clear hb
          go_wp2_with fail
          all_goals
            go_ret
            exact ⟨rfl, hB8⟩

end Go.Proofs.Ythheafenlgdbiaa
