/- The walk of the law on DespreadSignal. Conditions: as the theorem says. -/
import Derived.Test.YtlddefmakjnfdaaC9
namespace Go.Proofs.Ytlddefmakjnfdaa
open Go.RowKit
set_option linter.unusedSimpArgs false
set_option linter.unusedVariables false

set_option maxRecDepth 100000 in
set_option maxHeartbeats 2000000 in
theorem walk_FnExactDespreadSignal (A0 : Option Addr) (n0 c0 : Nat) (z0 : List Int) (s1 : ByteArray) (a2 : Int) (w : World) (h0 : RowIn .i64 w A0 n0 c0 z0) (h1 : s1.size ≤ maxLen) (_h2 : -9223372036854775808 ≤ a2 ∧ a2 ≤ 9223372036854775807) :
    Calls Try.prog 4 #[.slice A0 n0 c0, .string s1, .int .i64 a2] w fun e w' => e = .returned (.bool true) ∧ Below w.heap.size w w' := by
  obtain ⟨h0, hnc0, hcm0, hz0⟩ := h0
  clear hnc0 hcm0 hz0
  clear _h2
  by_cases hs0 : 1048576 < n0
  · go_enter Try.func4, Try.ntmps4
    go_wp2
    go_ret
    exact ⟨rfl, Below.refl _ _⟩
  replace hs0 : n0 ≤ 1048576 := by omega
  by_cases hs1 : 1048576 < s1.size
  · go_enter Try.func4, Try.ntmps4
    go_wp2
    go_ret
    exact ⟨rfl, Below.refl _ _⟩
  replace hs1 : s1.size ≤ 1048576 := by omega
  have hB0 : Below w.heap.size w w := Below.refl _ _
  go_enter Try.func4, Try.ntmps4
  go_wp2_with fail
  refine (laws_toIntS _ _ _ _ _ (Rd.below h0 hB0) hs0).mono ?_
  rintro e w1 ⟨Ap0, np0, cp0, rfl, ho, hb⟩
  have Op0 := Lib.hid ho
  clear ho
  have hS1 := hb.size
  have hB1 : Below w.heap.size w w1 := hB0.trans (hb.mono hB0.size)
  clear hb
  go_wp2_with fail
  refine (spec_DespreadSignal _ _ _ _ _ _ _ (own_rdI Op0.out) (own_cap Op0.out) hs1).mono ?_
  rintro e w2 ⟨Ar, nr, cr, rfl, ho, hb⟩
  have Cp0_2 := Lib.hid (own_below Op0.out hb)
  have Or := Lib.hid ho
  clear ho
  have hS2 := hb.size
  have hB2 : Below w.heap.size w w2 := hB1.trans (hb.mono hB1.size)
  clear hb
  go_wp2_with fail
  clear Cp0_2
  refine (laws_toIntS _ _ _ _ _ (Rd.below h0 hB2) hs0).mono ?_
  rintro e w3 ⟨Ax0, nx0, cx0, rfl, ho, hb⟩
  have Cr_3 := Lib.hid (own_below Or.out hb)
  have Ox0 := Lib.hid ho
  clear ho
  have hS3 := hb.size
  have hB3 : Below w.heap.size w w3 := hB2.trans (hb.mono hB2.size)
  clear hb
  go_wp2_with fail
  refine (impl_DespreadSignal _ _ _ _ _ _ _ (own_rdI Ox0.out) (own_cap Ox0.out) hs1).mono ?_
  rintro e w4 ⟨Ag, ng, cg, rfl, ho, hb⟩
  have Cr_4 := Lib.hid (own_below Cr_3.out hb)
  clear Cr_3
  have Cx0_4 := Lib.hid (own_below Ox0.out hb)
  have Og := Lib.hid ho
  clear ho
  have hS4 := hb.size
  have hB4 : Below w.heap.size w w4 := hB3.trans (hb.mono hB3.size)
  clear hb
  go_wp2_with fail
  refine (laws_eqIntS _ _ _ _ _ _ _ _ _ (own_rdI Og.out) (own_rdI Cr_4.out) (own_cap Og.out)).mono ?_
  rintro e w5 hq
  obtain ⟨rfl, hb⟩ := retD_below hq
  clear hq
  have Cr_5 := Lib.hid (own_below Cr_4.out hb)
  clear Cr_4
  have Cx0_5 := Lib.hid (own_below Cx0_4.out hb)
  clear Cx0_4
  have Cg_5 := Lib.hid (own_below Og.out hb)
  have hS5 := hb.size
  have hB5 : Below w.heap.size w w5 := hB4.trans (hb.mono hB4.size)
  clear hb
  go_wp2_with fail
  refine (laws_toIntS _ _ _ _ _ (Rd.below h0 hB5) hs0).mono ?_
  rintro e w6 ⟨Ae0, ne0, ce0, rfl, ho, hb⟩
  have Cr_6 := Lib.hid (own_below Cr_5.out hb)
  clear Cr_5
  have Cx0_6 := Lib.hid (own_below Cx0_5.out hb)
  clear Cx0_5
  have Cg_6 := Lib.hid (own_below Cg_5.out hb)
  clear Cg_5
  have Oe0 := Lib.hid ho
  clear ho
  have hS6 := hb.size
  have hB6 : Below w.heap.size w w6 := hB5.trans (hb.mono hB5.size)
  clear hb
  go_wp2_with fail
  refine (laws_eqIntS _ _ _ _ _ _ _ _ _ (own_rdI Cx0_6.out) (own_rdI Oe0.out) (own_cap Cx0_6.out)).mono ?_
  rintro e w7 hq
  obtain ⟨rfl, hb⟩ := retD_below hq
  clear hq
  have Cr_7 := Lib.hid (own_below Cr_6.out hb)
  clear Cr_6
  have Cx0_7 := Lib.hid (own_below Cx0_6.out hb)
  clear Cx0_6
  have Cg_7 := Lib.hid (own_below Cg_6.out hb)
  clear Cg_6
  have Ce0_7 := Lib.hid (own_below Oe0.out hb)
  have hS7 := hb.size
  have hB7 : Below w.heap.size w w7 := hB6.trans (hb.mono hB6.size)
  clear hb
  go_wp2_with fail
  clear Ce0_7
  have hnx0 := own_num Cx0_7.out (by rw [h0.len]; exact hs0)
  refine (laws_markIntS _ _ _ _ _ _ _ Cx0_7.out (by omega) (by omega) (by omega)).mono ?_
  rintro e w8 ⟨rfl, ho, hg⟩
  have Cr_8 := Lib.hid (World.ownsRow.kept Cr_7.out hg (own_apart' Or.out Cx0_7.out (by omega)))
  clear Cr_7
  have Cg_8 := Lib.hid (World.ownsRow.kept Cg_7.out hg (own_apart Ox0.out Cg_7.out (by omega)))
  clear Cg_7
  have hb := own_below_of Cx0_7.out hg (by omega)
  have hS8 := hb.size
  have hB8 : Below w.heap.size w w8 := hB7.trans (hb.mono (by have := hB2.size; omega))
  have Cx0_8 := Lib.hid ho
  clear ho hg
  clear Cx0_7
  clear hb
  go_wp2_with fail
  refine (laws_eqIntS _ _ _ _ _ _ _ _ _ (own_rdI Cg_8.out) (own_rdI Cr_8.out) (own_cap Cg_8.out)).mono ?_
  rintro e w9 hq
  obtain ⟨rfl, hb⟩ := retD_below hq
  clear hq
  have Cr_9 := Lib.hid (own_below Cr_8.out hb)
  clear Cr_8
  have Cx0_9 := Lib.hid (own_below Cx0_8.out hb)
  clear Cx0_8
  have Cg_9 := Lib.hid (own_below Cg_8.out hb)
  clear Cg_8
  have hS9 := hb.size
  have hB9 : Below w.heap.size w w9 := hB8.trans (hb.mono hB8.size)
  clear hb
  go_wp2_with fail
  clear Cx0_9
  have hng := own_num Cg_9.out (desC_len z0 s1.data.toList a2)
  refine (laws_markIntS _ _ _ _ _ _ _ Cg_9.out (by omega) (by omega) (by omega)).mono ?_
  rintro e w10 ⟨rfl, ho, hg⟩
  have Cr_10 := Lib.hid (World.ownsRow.kept Cr_9.out hg (own_apart' Or.out Cg_9.out (by omega)))
  clear Cr_9
  have hb := own_below_of Cg_9.out hg (by omega)
  have hS10 := hb.size
  have hB10 : Below w.heap.size w w10 := hB9.trans (hb.mono (by have := hB3.size; omega))
  have Cg_10 := Lib.hid ho
  clear ho hg
  clear Cg_9
  clear hb
  go_wp2_with fail
  refine (laws_heldIntS _ _ _ _ _ (own_rdI Cg_10.out) (by omega) (by omega) (by omega)).mono ?_
  rintro e w' ⟨rfl, rfl⟩
  go_wp2_with fail
  refine (laws_toIntS _ _ _ _ _ (Rd.below h0 hB10) hs0).mono ?_
  rintro e w11 ⟨Ay0, ny0, cy0, rfl, ho, hb⟩
  have Cr_11 := Lib.hid (own_below Cr_10.out hb)
  clear Cr_10
  have Cg_11 := Lib.hid (own_below Cg_10.out hb)
  clear Cg_10
  have Oy0 := Lib.hid ho
  clear ho
  have hS11 := hb.size
  have hB11 : Below w.heap.size w w11 := hB10.trans (hb.mono hB10.size)
  clear hb
  go_wp2_with fail
  refine (impl_DespreadSignal _ _ _ _ _ _ _ (own_rdI Oy0.out) (own_cap Oy0.out) hs1).mono ?_
  rintro e w12 ⟨Ah, nh, ch, rfl, ho, hb⟩
  have Cr_12 := Lib.hid (own_below Cr_11.out hb)
  clear Cr_11
  have Cg_12 := Lib.hid (own_below Cg_11.out hb)
  clear Cg_11
  have Cy0_12 := Lib.hid (own_below Oy0.out hb)
  have Oh := Lib.hid ho
  clear ho
  have hS12 := hb.size
  have hB12 : Below w.heap.size w w12 := hB11.trans (hb.mono hB11.size)
  clear hb
  go_wp2_with fail
  clear Cy0_12
  refine (laws_eqIntS _ _ _ _ _ _ _ _ _ (own_rdI Oh.out) (own_rdI Cr_12.out) (own_cap Oh.out)).mono ?_
  rintro e w13 hq
  obtain ⟨rfl, hb⟩ := retD_below hq
  clear hq
  have Cr_13 := Lib.hid (own_below Cr_12.out hb)
  clear Cr_12
  have Cg_13 := Lib.hid (own_below Cg_12.out hb)
  clear Cg_12
  have Ch_13 := Lib.hid (own_below Oh.out hb)
  have hS13 := hb.size
  have hB13 : Below w.heap.size w w13 := hB12.trans (hb.mono hB12.size)
  clear hb
  go_wp2_with fail
  clear Ch_13
  clear Cr_13
  refine (laws_heldIntS _ _ _ _ _ (own_rdI Cg_13.out) (by omega) (by omega) (by omega)).mono ?_
  rintro e w' ⟨rfl, rfl⟩
  go_wp2_with fail
  go_ret
  exact ⟨rfl, hB13⟩

end Go.Proofs.Ytlddefmakjnfdaa
