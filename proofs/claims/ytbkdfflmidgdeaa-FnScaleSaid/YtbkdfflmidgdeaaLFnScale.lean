/- The walk of the law FnScale. Conditions: as the theorem says. -/
import Derived.Test.YtbkdfflmidgdeaaC4b
import Derived.Test.YtbkdfflmidgdeaaDraw4
namespace Go.Proofs.Ytbkdfflmidgdeaa
open Go.RowKit
set_option linter.unusedSimpArgs false
set_option linter.unusedVariables false

set_option maxRecDepth 100000 in
set_option maxHeartbeats 2000000 in
theorem walk_FnScale (A : Option Addr) (n c : Nat) (zs : List Int) (A' : Option Addr) (n' c' : Nat) (zs' : List Int) (w : World) (hx : RowIn .u8 w A n c zs) (hx' : RowIn .u8 w A' n' c' zs') :
    Calls Try.prog 14 #[.slice A n c, .slice A' n' c'] w fun e w' => e = .returned (.bool true) ∧ Below w.heap.size w w' := by
  by_cases hbig_n : 1048576 < n
  · clear hx hx'
    go_enter Try.func14, Try.ntmps14
    go_wp2
    go_ret
    exact ⟨rfl, Below.refl _ _⟩
  replace hbig_n : n ≤ 1048576 := by omega
  clear hx'
  by_cases hbig_n' : 1048576 < n'
  · clear hx
    go_enter Try.func14, Try.ntmps14
    go_wp2
    go_ret
    exact ⟨rfl, Below.refl _ _⟩
  replace hbig_n' : n' ≤ 1048576 := by omega
  have hB0 : Below w.heap.size w w := Below.refl _ _
  go_enter Try.func14, Try.ntmps14
  go_wp2_with fail
  refine (spec_DrawScaleSignal _ _ _ _ _ hx).mono ?_
  rintro e w1 ⟨As, ns, cs, s, g, rfl, ho, hn1, hb⟩
  have Os := Lib.hid ho
  clear ho
  have hS1 := hb.size
  have hB1 : Below w.heap.size w w1 := hB0.trans (hb.mono hB0.size)
  clear hb
  clear hx
  go_wp2_with fail
  refine (impl_ScaleSignal _ _ _ _ _ _ (own_rdI Os.out) (own_cap Os.out)).mono ?_
  rintro e w2 ⟨Ax, nx, cx, rfl, ho, hb⟩
  have Cs_2 := Lib.hid (own_below Os.out hb)
  have Ox := Lib.hid ho
  clear ho
  have hS2 := hb.size
  have hB2 : Below w.heap.size w w2 := hB1.trans (hb.mono hB1.size)
  clear hb
  go_wp2_with fail
  refine (spec_ScaleSignal _ _ _ _ _ _ (own_rdI Cs_2.out) (own_cap Cs_2.out)).mono ?_
  rintro e w3 ⟨Ar, nr, cr, rfl, ho, hb⟩
  have Cs_3 := Lib.hid (own_below Cs_2.out hb)
  clear Cs_2
  have Cx_3 := Lib.hid (own_below Ox.out hb)
  have Or := Lib.hid ho
  clear ho
  have hS3 := hb.size
  have hB3 : Below w.heap.size w w3 := hB2.trans (hb.mono hB2.size)
  clear hb
  rcases scaleC_ways s g with h | ⟨h1, h2, h3, h4, h⟩
  · rw [h] at Cx_3 Or ⊢
    go_wp2_with fail
    refine (laws_ssInts _ _ _ _ _ _ _ _ _ (own_rdI Cx_3.out) (own_rdI Or.out) (own_cap Cx_3.out)).mono ?_
    rintro e w4 hq
    obtain ⟨rfl, hb⟩ := retD_below hq
    clear hq
    have Cs_4 := Lib.hid (own_below Cs_3.out hb)
    clear Cs_3
    have Cx_4 := Lib.hid (own_below Cx_3.out hb)
    clear Cx_3
    have Cr_4 := Lib.hid (own_below Or.out hb)
    have hS4 := hb.size
    have hB4 : Below w.heap.size w w4 := hB3.trans (hb.mono hB3.size)
    clear hb
    go_wp2_with fail
    refine (laws_ssInts _ _ _ _ _ _ _ _ _ (own_rdI Cx_4.out) (own_rdI Cr_4.out) (own_cap Cx_4.out)).mono ?_
    rintro e w5 hq
    obtain ⟨rfl, hb⟩ := retD_below hq
    clear hq
    have Cs_5 := Lib.hid (own_below Cs_4.out hb)
    clear Cs_4
    have Cx_5 := Lib.hid (own_below Cx_4.out hb)
    clear Cx_4
    have Cr_5 := Lib.hid (own_below Cr_4.out hb)
    clear Cr_4
    have hS5 := hb.size
    have hB5 : Below w.heap.size w w5 := hB4.trans (hb.mono hB4.size)
    clear hb
    go_wp2_with fail
    go_ret
    exact ⟨rfl, hB5⟩
  · rw [h] at Cx_3 Or ⊢
    clear h
    have HS4 := Lib.hid h4
    clear h4
    obtain ⟨m, hm, hm1, hm2⟩ : ∃ m : Int, (n' : Int) % 7 - 3 = m ∧ -3 ≤ m ∧ m ≤ 3 := ⟨_, rfl, by omega, by omega⟩
    have hm7 : (n' : Int) % 7 = m + 3 := by omega
    have HM := Lib.hid hm7
    clear hm hm7
    have hgm := mul_abs g m 1000000 3 ⟨hm1, hm2⟩ ⟨h2, h3⟩ (by decide)
    have hgg := mul_abs g g 1000000 1000000 ⟨h2, h3⟩ ⟨h2, h3⟩ (by decide)
    simp only [show (1000000 : Int) * 3 = 3000000 from rfl, show (1000000 : Int) * 1000000 = 1000000000000 from rfl] at hgm hgg
    go_wp2_with fail
    refine (laws_ssInts _ _ _ _ _ _ _ _ _ (own_rdI Cx_3.out) (own_rdI Or.out) (own_cap Cx_3.out)).mono ?_
    rintro e w4 hq
    obtain ⟨rfl, hb⟩ := retD_below hq
    clear hq
    have Cs_4 := Lib.hid (own_below Cs_3.out hb)
    clear Cs_3
    have Cx_4 := Lib.hid (own_below Cx_3.out hb)
    clear Cx_3
    have Cr_4 := Lib.hid (own_below Or.out hb)
    have hS4 := hb.size
    have hB4 : Below w.heap.size w w4 := hB3.trans (hb.mono hB3.size)
    clear hb
    clear Cr_4
    go_wp2_with fail
    rw [show (n' : Int) % 7 - 3 = m from by have := HM.out; omega]
    refine (impl_ScaleSignal _ _ _ _ _ _ (own_rdI Cx_4.out) (own_cap Cx_4.out)).mono ?_
    rintro e w5 ⟨Ay, ny, cy, rfl, ho, hb⟩
    have Cs_5 := Lib.hid (own_below Cs_4.out hb)
    clear Cs_4
    have Cx_5 := Lib.hid (own_below Cx_4.out hb)
    clear Cx_4
    have Oy := Lib.hid ho
    clear ho
    have hS5 := hb.size
    have hB5 : Below w.heap.size w w5 := hB4.trans (hb.mono hB4.size)
    clear hb
    go_wp2_with fail
    refine (impl_ScaleSignal _ _ _ _ _ _ (own_rdI Cs_5.out) (own_cap Cs_5.out)).mono ?_
    rintro e w6 ⟨Az, nz, cz, rfl, ho, hb⟩
    have Cs_6 := Lib.hid (own_below Cs_5.out hb)
    clear Cs_5
    have Cx_6 := Lib.hid (own_below Cx_5.out hb)
    clear Cx_5
    have Cy_6 := Lib.hid (own_below Oy.out hb)
    have Oz := Lib.hid ho
    clear ho
    have hS6 := hb.size
    have hB6 : Below w.heap.size w w6 := hB5.trans (hb.mono hB5.size)
    clear hb
    by_cases hG : -1000000 ≤ g * m ∧ g * m ≤ 1000000
    · have hag := scale_again s g m h1 HS4.out hm1 hm2 hG
      rw [hag] at Cy_6 ⊢
      clear hag
      have HEB := energyOf_bd _ HS4.out
      have hes := energy_scale s g h1 HS4.out
      rw [← hes] at HEB
      have HES := Lib.hid hes
      clear hes
      go_wp2_with fail
      refine (laws_ssInts _ _ _ _ _ _ _ _ _ (own_rdI Cy_6.out) (own_rdI Oz.out) (own_cap Cy_6.out)).mono ?_
      rintro e w7 hq
      obtain ⟨rfl, hb⟩ := retD_below hq
      clear hq
      have Cs_7 := Lib.hid (own_below Cs_6.out hb)
      clear Cs_6
      have Cx_7 := Lib.hid (own_below Cx_6.out hb)
      clear Cx_6
      have Cy_7 := Lib.hid (own_below Cy_6.out hb)
      clear Cy_6
      have Cz_7 := Lib.hid (own_below Oz.out hb)
      have hS7 := hb.size
      have hB7 : Below w.heap.size w w7 := hB6.trans (hb.mono hB6.size)
      clear hb
      go_wp2_with fail
      refine (impl_EnergyOf _ _ _ _ _ (own_rdI Cx_7.out) (own_cap Cx_7.out)).mono ?_
      rw [← HES.out]
      rintro e w' ⟨rfl, rfl⟩
      go_wp2_with fail
      refine (impl_EnergyOf _ _ _ _ _ (own_rdI Cs_7.out) (own_cap Cs_7.out)).mono ?_
      rintro e w' ⟨rfl, rfl⟩
      go_wp2_with fail
      go_ret
      exact ⟨rfl, hB7⟩
    · rw [scale_out s (g * m) hG] at Oz ⊢
      go_wp2_with fail
      all_goals
        go_ret
        exact ⟨rfl, hB6⟩

end Go.Proofs.Ytbkdfflmidgdeaa
