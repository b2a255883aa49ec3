/- The walk of the law on AddSignals. Conditions: as the theorem says. -/
import Derived.Test.YtbkdfflmidgdeaaC4b
namespace Go.Proofs.Ytbkdfflmidgdeaa
open Go.RowKit
set_option linter.unusedSimpArgs false
set_option linter.unusedVariables false

set_option maxHeartbeats 2000000 in
theorem walk_FnExactAddSignals (A0 : Option Addr) (n0 c0 : Nat) (z0 : List Int) (A1 : Option Addr) (n1 c1 : Nat) (z1 : List Int) (w : World) (h0 : RowIn .i64 w A0 n0 c0 z0) (h1 : RowIn .i64 w A1 n1 c1 z1) :
    Calls Try.prog 10 #[.slice A0 n0 c0, .slice A1 n1 c1] w fun e w' => e = .returned (.bool true) ∧ Below w.heap.size w w' := by
  obtain ⟨h0, hnc0, hcm0, hz0⟩ := h0
  clear hnc0 hcm0 hz0
  obtain ⟨h1, hnc1, hcm1, hz1⟩ := h1
  clear hnc1 hcm1 hz1
  by_cases hs0 : 1048576 < n0
  · go_enter Try.func10, Try.ntmps10
    go_wp2
    go_ret
    exact ⟨rfl, Below.refl _ _⟩
  replace hs0 : n0 ≤ 1048576 := by omega
  by_cases hs1 : 1048576 < n1
  · go_enter Try.func10, Try.ntmps10
    go_wp2
    go_ret
    exact ⟨rfl, Below.refl _ _⟩
  replace hs1 : n1 ≤ 1048576 := by omega
  have hB0 : Below w.heap.size w w := Below.refl _ _
  go_enter Try.func10, Try.ntmps10
  go_wp2_with fail
  refine (laws_toIntS _ _ _ _ _ (Rd.below h0 hB0) hs0).mono ?_
  rintro e w1 ⟨Ap0, np0, cp0, rfl, ho, hb⟩
  have Op0 := Lib.hid ho
  clear ho
  have hS1 := hb.size
  have hB1 : Below w.heap.size w w1 := hB0.trans (hb.mono hB0.size)
  clear hb
  go_wp2_with fail
  refine (laws_toIntS _ _ _ _ _ (Rd.below h1 hB1) hs1).mono ?_
  rintro e w2 ⟨Ap1, np1, cp1, rfl, ho, hb⟩
  have Cp0_2 := Lib.hid (own_below Op0.out hb)
  have Op1 := Lib.hid ho
  clear ho
  have hS2 := hb.size
  have hB2 : Below w.heap.size w w2 := hB1.trans (hb.mono hB1.size)
  clear hb
  go_wp2_with fail
  refine (spec_AddSignals _ _ _ _ _ _ _ _ _ (own_rdI Cp0_2.out) (own_cap Cp0_2.out) (own_rdI Op1.out) (own_cap Op1.out)).mono ?_
  rintro e w3 ⟨Ar, nr, cr, rfl, ho, hb⟩
  have Cp0_3 := Lib.hid (own_below Cp0_2.out hb)
  clear Cp0_2
  have Cp1_3 := Lib.hid (own_below Op1.out hb)
  have Or := Lib.hid ho
  clear ho
  have hS3 := hb.size
  have hB3 : Below w.heap.size w w3 := hB2.trans (hb.mono hB2.size)
  clear hb
  go_wp2_with fail
  clear Cp0_3
  clear Cp1_3
  refine (laws_toIntS _ _ _ _ _ (Rd.below h0 hB3) hs0).mono ?_
  rintro e w4 ⟨Ax0, nx0, cx0, rfl, ho, hb⟩
  have Cr_4 := Lib.hid (own_below Or.out hb)
  have Ox0 := Lib.hid ho
  clear ho
  have hS4 := hb.size
  have hB4 : Below w.heap.size w w4 := hB3.trans (hb.mono hB3.size)
  clear hb
  go_wp2_with fail
  refine (laws_toIntS _ _ _ _ _ (Rd.below h1 hB4) hs1).mono ?_
  rintro e w5 ⟨Ax1, nx1, cx1, rfl, ho, hb⟩
  have Cr_5 := Lib.hid (own_below Cr_4.out hb)
  clear Cr_4
  have Cx0_5 := Lib.hid (own_below Ox0.out hb)
  have Ox1 := Lib.hid ho
  clear ho
  have hS5 := hb.size
  have hB5 : Below w.heap.size w w5 := hB4.trans (hb.mono hB4.size)
  clear hb
  go_wp2_with fail
  refine (impl_AddSignals _ _ _ _ _ _ _ _ _ (own_rdI Cx0_5.out) (own_cap Cx0_5.out) (own_rdI Ox1.out) (own_cap Ox1.out)).mono ?_
  rintro e w6 ⟨Ag, ng, cg, rfl, ho, hb⟩
  have Cr_6 := Lib.hid (own_below Cr_5.out hb)
  clear Cr_5
  have Cx0_6 := Lib.hid (own_below Cx0_5.out hb)
  clear Cx0_5
  have Cx1_6 := Lib.hid (own_below Ox1.out hb)
  have Og := Lib.hid ho
  clear ho
  have hS6 := hb.size
  have hB6 : Below w.heap.size w w6 := hB5.trans (hb.mono hB5.size)
  clear hb
  go_wp2_with fail
  refine (laws_eqIntS _ _ _ _ _ _ _ _ _ (own_rdI Og.out) (own_rdI Cr_6.out) (own_cap Og.out)).mono ?_
  rintro e w7 hq
  obtain ⟨rfl, hb⟩ := retD_below hq
  clear hq
  have Cr_7 := Lib.hid (own_below Cr_6.out hb)
  clear Cr_6
  have Cx0_7 := Lib.hid (own_below Cx0_6.out hb)
  clear Cx0_6
  have Cx1_7 := Lib.hid (own_below Cx1_6.out hb)
  clear Cx1_6
  have Cg_7 := Lib.hid (own_below Og.out hb)
  have hS7 := hb.size
  have hB7 : Below w.heap.size w w7 := hB6.trans (hb.mono hB6.size)
  clear hb
  go_wp2_with fail
  refine (laws_toIntS _ _ _ _ _ (Rd.below h0 hB7) hs0).mono ?_
  rintro e w8 ⟨Ae0, ne0, ce0, rfl, ho, hb⟩
  have Cr_8 := Lib.hid (own_below Cr_7.out hb)
  clear Cr_7
  have Cx0_8 := Lib.hid (own_below Cx0_7.out hb)
  clear Cx0_7
  have Cx1_8 := Lib.hid (own_below Cx1_7.out hb)
  clear Cx1_7
  have Cg_8 := Lib.hid (own_below Cg_7.out hb)
  clear Cg_7
  have Oe0 := Lib.hid ho
  clear ho
  have hS8 := hb.size
  have hB8 : Below w.heap.size w w8 := hB7.trans (hb.mono hB7.size)
  clear hb
  go_wp2_with fail
  refine (laws_eqIntS _ _ _ _ _ _ _ _ _ (own_rdI Cx0_8.out) (own_rdI Oe0.out) (own_cap Cx0_8.out)).mono ?_
  rintro e w9 hq
  obtain ⟨rfl, hb⟩ := retD_below hq
  clear hq
  have Cr_9 := Lib.hid (own_below Cr_8.out hb)
  clear Cr_8
  have Cx0_9 := Lib.hid (own_below Cx0_8.out hb)
  clear Cx0_8
  have Cx1_9 := Lib.hid (own_below Cx1_8.out hb)
  clear Cx1_8
  have Cg_9 := Lib.hid (own_below Cg_8.out hb)
  clear Cg_8
  have Ce0_9 := Lib.hid (own_below Oe0.out hb)
  have hS9 := hb.size
  have hB9 : Below w.heap.size w w9 := hB8.trans (hb.mono hB8.size)
  clear hb
  go_wp2_with fail
  clear Ce0_9
  refine (laws_toIntS _ _ _ _ _ (Rd.below h1 hB9) hs1).mono ?_
  rintro e w10 ⟨Ae1, ne1, ce1, rfl, ho, hb⟩
  have Cr_10 := Lib.hid (own_below Cr_9.out hb)
  clear Cr_9
  have Cx0_10 := Lib.hid (own_below Cx0_9.out hb)
  clear Cx0_9
  have Cx1_10 := Lib.hid (own_below Cx1_9.out hb)
  clear Cx1_9
  have Cg_10 := Lib.hid (own_below Cg_9.out hb)
  clear Cg_9
  have Oe1 := Lib.hid ho
  clear ho
  have hS10 := hb.size
  have hB10 : Below w.heap.size w w10 := hB9.trans (hb.mono hB9.size)
  clear hb
  go_wp2_with fail
  refine (laws_eqIntS _ _ _ _ _ _ _ _ _ (own_rdI Cx1_10.out) (own_rdI Oe1.out) (own_cap Cx1_10.out)).mono ?_
  rintro e w11 hq
  obtain ⟨rfl, hb⟩ := retD_below hq
  clear hq
  have Cr_11 := Lib.hid (own_below Cr_10.out hb)
  clear Cr_10
  have Cx0_11 := Lib.hid (own_below Cx0_10.out hb)
  clear Cx0_10
  have Cx1_11 := Lib.hid (own_below Cx1_10.out hb)
  clear Cx1_10
  have Cg_11 := Lib.hid (own_below Cg_10.out hb)
  clear Cg_10
  have Ce1_11 := Lib.hid (own_below Oe1.out hb)
  have hS11 := hb.size
  have hB11 : Below w.heap.size w w11 := hB10.trans (hb.mono hB10.size)
  clear hb
  go_wp2_with fail
  clear Ce1_11
  have hnx0 := own_num Cx0_11.out (by rw [h0.len]; exact hs0)
  refine (laws_markIntS _ _ _ _ _ _ _ Cx0_11.out (by omega) (by omega) (by omega)).mono ?_
  rintro e w12 ⟨rfl, ho, hg⟩
  have Cr_12 := Lib.hid (World.ownsRow.kept Cr_11.out hg (own_apart' Or.out Cx0_11.out (by omega)))
  clear Cr_11
  have Cx1_12 := Lib.hid (World.ownsRow.kept Cx1_11.out hg (own_apart Ox0.out Cx1_11.out (by omega)))
  clear Cx1_11
  have Cg_12 := Lib.hid (World.ownsRow.kept Cg_11.out hg (own_apart Ox0.out Cg_11.out (by omega)))
  clear Cg_11
  have hb := own_below_of Cx0_11.out hg (by omega)
  have hS12 := hb.size
  have hB12 : Below w.heap.size w w12 := hB11.trans (hb.mono (by have := hB3.size; omega))
  have Cx0_12 := Lib.hid ho
  clear ho hg
  clear Cx0_11
  clear hb
  go_wp2_with fail
  have hnx1 := own_num Cx1_12.out (by rw [h1.len]; exact hs1)
  refine (laws_markIntS _ _ _ _ _ _ _ Cx1_12.out (by omega) (by omega) (by omega)).mono ?_
  rintro e w13 ⟨rfl, ho, hg⟩
  have Cr_13 := Lib.hid (World.ownsRow.kept Cr_12.out hg (own_apart' Or.out Cx1_12.out (by omega)))
  clear Cr_12
  have Cx0_13 := Lib.hid (World.ownsRow.kept Cx0_12.out hg (own_apart' Ox0.out Cx1_12.out (by omega)))
  clear Cx0_12
  have Cg_13 := Lib.hid (World.ownsRow.kept Cg_12.out hg (own_apart Ox1.out Cg_12.out (by omega)))
  clear Cg_12
  have hb := own_below_of Cx1_12.out hg (by omega)
  have hS13 := hb.size
  have hB13 : Below w.heap.size w w13 := hB12.trans (hb.mono (by have := hB4.size; omega))
  have Cx1_13 := Lib.hid ho
  clear ho hg
  clear Cx1_12
  clear hb
  go_wp2_with fail
  refine (laws_eqIntS _ _ _ _ _ _ _ _ _ (own_rdI Cg_13.out) (own_rdI Cr_13.out) (own_cap Cg_13.out)).mono ?_
  rintro e w14 hq
  obtain ⟨rfl, hb⟩ := retD_below hq
  clear hq
  have Cr_14 := Lib.hid (own_below Cr_13.out hb)
  clear Cr_13
  have Cx0_14 := Lib.hid (own_below Cx0_13.out hb)
  clear Cx0_13
  have Cx1_14 := Lib.hid (own_below Cx1_13.out hb)
  clear Cx1_13
  have Cg_14 := Lib.hid (own_below Cg_13.out hb)
  clear Cg_13
  have hS14 := hb.size
  have hB14 : Below w.heap.size w w14 := hB13.trans (hb.mono hB13.size)
  clear hb
  go_wp2_with fail
  clear Cx0_14
  clear Cx1_14
  have hng := own_num Cg_14.out (addC_len z0 z1)
  refine (laws_markIntS _ _ _ _ _ _ _ Cg_14.out (by omega) (by omega) (by omega)).mono ?_
  rintro e w15 ⟨rfl, ho, hg⟩
  have Cr_15 := Lib.hid (World.ownsRow.kept Cr_14.out hg (own_apart' Or.out Cg_14.out (by omega)))
  clear Cr_14
  have hb := own_below_of Cg_14.out hg (by omega)
  have hS15 := hb.size
  have hB15 : Below w.heap.size w w15 := hB14.trans (hb.mono (by have := hB5.size; omega))
  have Cg_15 := Lib.hid ho
  clear ho hg
  clear Cg_14
  clear hb
  go_wp2_with fail
  refine (laws_heldIntS _ _ _ _ _ (own_rdI Cg_15.out) (by omega) (by omega) (by omega)).mono ?_
  rintro e w' ⟨rfl, rfl⟩
  go_wp2_with fail
  refine (laws_toIntS _ _ _ _ _ (Rd.below h0 hB15) hs0).mono ?_
  rintro e w16 ⟨Ay0, ny0, cy0, rfl, ho, hb⟩
  have Cr_16 := Lib.hid (own_below Cr_15.out hb)
  clear Cr_15
  have Cg_16 := Lib.hid (own_below Cg_15.out hb)
  clear Cg_15
  have Oy0 := Lib.hid ho
  clear ho
  have hS16 := hb.size
  have hB16 : Below w.heap.size w w16 := hB15.trans (hb.mono hB15.size)
  clear hb
  go_wp2_with fail
  refine (laws_toIntS _ _ _ _ _ (Rd.below h1 hB16) hs1).mono ?_
  rintro e w17 ⟨Ay1, ny1, cy1, rfl, ho, hb⟩
  have Cr_17 := Lib.hid (own_below Cr_16.out hb)
  clear Cr_16
  have Cg_17 := Lib.hid (own_below Cg_16.out hb)
  clear Cg_16
  have Cy0_17 := Lib.hid (own_below Oy0.out hb)
  have Oy1 := Lib.hid ho
  clear ho
  have hS17 := hb.size
  have hB17 : Below w.heap.size w w17 := hB16.trans (hb.mono hB16.size)
  clear hb
  go_wp2_with fail
  refine (impl_AddSignals _ _ _ _ _ _ _ _ _ (own_rdI Cy0_17.out) (own_cap Cy0_17.out) (own_rdI Oy1.out) (own_cap Oy1.out)).mono ?_
  rintro e w18 ⟨Ah, nh, ch, rfl, ho, hb⟩
  have Cr_18 := Lib.hid (own_below Cr_17.out hb)
  clear Cr_17
  have Cg_18 := Lib.hid (own_below Cg_17.out hb)
  clear Cg_17
  have Cy0_18 := Lib.hid (own_below Cy0_17.out hb)
  clear Cy0_17
  have Cy1_18 := Lib.hid (own_below Oy1.out hb)
  have Oh := Lib.hid ho
  clear ho
  have hS18 := hb.size
  have hB18 : Below w.heap.size w w18 := hB17.trans (hb.mono hB17.size)
  clear hb
  go_wp2_with fail
  clear Cy0_18
  clear Cy1_18
  refine (laws_eqIntS _ _ _ _ _ _ _ _ _ (own_rdI Oh.out) (own_rdI Cr_18.out) (own_cap Oh.out)).mono ?_
  rintro e w19 hq
  obtain ⟨rfl, hb⟩ := retD_below hq
  clear hq
  have Cr_19 := Lib.hid (own_below Cr_18.out hb)
  clear Cr_18
  have Cg_19 := Lib.hid (own_below Cg_18.out hb)
  clear Cg_18
  have Ch_19 := Lib.hid (own_below Oh.out hb)
  have hS19 := hb.size
  have hB19 : Below w.heap.size w w19 := hB18.trans (hb.mono hB18.size)
  clear hb
  go_wp2_with fail
  clear Ch_19
  clear Cr_19
  refine (laws_heldIntS _ _ _ _ _ (own_rdI Cg_19.out) (by omega) (by omega) (by omega)).mono ?_
  rintro e w' ⟨rfl, rfl⟩
  go_wp2_with fail
  go_ret
  exact ⟨rfl, hB19⟩

end Go.Proofs.Ytbkdfflmidgdeaa
