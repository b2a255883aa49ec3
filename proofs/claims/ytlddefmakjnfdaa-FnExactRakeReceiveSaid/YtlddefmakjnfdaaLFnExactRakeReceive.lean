/- The walk of the law on RakeReceive. Conditions: as the theorem says. -/
import Derived.Test.YtlddefmakjnfdaaC9
namespace Go.Proofs.Ytlddefmakjnfdaa
open Go.RowKit
set_option linter.unusedSimpArgs false
set_option linter.unusedVariables false

set_option maxRecDepth 100000 in
set_option maxHeartbeats 2000000 in
theorem walk_FnExactRakeReceive (A0 : Option Addr) (n0 c0 : Nat) (z0 : List Int) (s1 : ByteArray) (A2 : Option Addr) (n2 c2 : Nat) (z2 : List Int) (a3 : Int) (w : World) (h0 : RowIn .i64 w A0 n0 c0 z0) (h1 : s1.size ≤ maxLen) (h2 : RowIn .i64 w A2 n2 c2 z2) (_h3 : -9223372036854775808 ≤ a3 ∧ a3 ≤ 9223372036854775807) :
    Calls Try.prog 7 #[.slice A0 n0 c0, .string s1, .slice A2 n2 c2, .int .i64 a3] w fun e w' => e = .returned (.bool true) ∧ Below w.heap.size w w' := by
  obtain ⟨h0, hnc0, hcm0, hz0⟩ := h0
  clear hnc0 hcm0 hz0
  obtain ⟨h2, hnc2, hcm2, hz2⟩ := h2
  clear hnc2 hcm2 hz2
  clear _h3
  by_cases hs0 : 1048576 < n0
  · go_enter Try.func7, Try.ntmps7
    go_wp2
    go_ret
    exact ⟨rfl, Below.refl _ _⟩
  replace hs0 : n0 ≤ 1048576 := by omega
  by_cases hs1 : 1048576 < s1.size
  · go_enter Try.func7, Try.ntmps7
    go_wp2
    go_ret
    exact ⟨rfl, Below.refl _ _⟩
  replace hs1 : s1.size ≤ 1048576 := by omega
  by_cases hs2 : 1048576 < n2
  · go_enter Try.func7, Try.ntmps7
    go_wp2
    go_ret
    exact ⟨rfl, Below.refl _ _⟩
  replace hs2 : n2 ≤ 1048576 := by omega
  have hB0 : Below w.heap.size w w := Below.refl _ _
  go_enter Try.func7, Try.ntmps7
  go_wp2_with fail
  refine (laws_toIntS _ _ _ _ _ (Rd.below h0 hB0) hs0).mono ?_
  rintro e w1 ⟨Ap0, np0, cp0, rfl, ho, hb⟩
  have Op0 := Lib.hid ho
  clear ho
  have hS1 := hb.size
  have hB1 : Below w.heap.size w w1 := hB0.trans (hb.mono hB0.size)
  clear hb
  go_wp2_with fail
  refine (laws_toIntS _ _ _ _ _ (Rd.below h2 hB1) hs2).mono ?_
  rintro e w2 ⟨Ap2, np2, cp2, rfl, ho, hb⟩
  have Cp0_2 := Lib.hid (own_below Op0.out hb)
  have Op2 := Lib.hid ho
  clear ho
  have hS2 := hb.size
  have hB2 : Below w.heap.size w w2 := hB1.trans (hb.mono hB1.size)
  clear hb
  go_wp2_with fail
  refine (spec_RakeReceive _ _ _ _ _ _ _ _ _ _ _ (own_rdI Cp0_2.out) (own_cap Cp0_2.out) hs1 (own_rdI Op2.out) (own_cap Op2.out)).mono ?_
  rintro e w3 ⟨tr, rfl, ht, hb⟩
  have Tr := Lib.hid ht
  clear ht
  have Cp0_3 := Lib.hid (own_below Cp0_2.out hb)
  clear Cp0_2
  have Cp2_3 := Lib.hid (own_below Op2.out hb)
  have hS3 := hb.size
  have hB3 : Below w.heap.size w w3 := hB2.trans (hb.mono hB2.size)
  clear hb
  go_wp2_with fail
  clear Cp0_3
  clear Cp2_3
  refine (laws_toIntS _ _ _ _ _ (Rd.below h0 hB3) hs0).mono ?_
  rintro e w4 ⟨Ax0, nx0, cx0, rfl, ho, hb⟩
  have Ox0 := Lib.hid ho
  clear ho
  have hS4 := hb.size
  have hB4 : Below w.heap.size w w4 := hB3.trans (hb.mono hB3.size)
  clear hb
  go_wp2_with fail
  refine (laws_toIntS _ _ _ _ _ (Rd.below h2 hB4) hs2).mono ?_
  rintro e w5 ⟨Ax2, nx2, cx2, rfl, ho, hb⟩
  have Cx0_5 := Lib.hid (own_below Ox0.out hb)
  have Ox2 := Lib.hid ho
  clear ho
  have hS5 := hb.size
  have hB5 : Below w.heap.size w w5 := hB4.trans (hb.mono hB4.size)
  clear hb
  go_wp2_with fail
  refine (impl_RakeReceive _ _ _ _ _ _ _ _ _ _ _ (own_rdI Cx0_5.out) (own_cap Cx0_5.out) hs1 (own_rdI Ox2.out) (own_cap Ox2.out)).mono ?_
  rintro e w6 ⟨tg, rfl, ht, hb⟩
  have Tg := Lib.hid ht
  clear ht
  have Cx0_6 := Lib.hid (own_below Cx0_5.out hb)
  clear Cx0_5
  have Cx2_6 := Lib.hid (own_below Ox2.out hb)
  have hS6 := hb.size
  have hB6 : Below w.heap.size w w6 := hB5.trans (hb.mono hB5.size)
  obtain rfl := str_eq Tr.out Tg.out
  clear Tg
  clear hb
  go_wp2_with fail
  refine (laws_toIntS _ _ _ _ _ (Rd.below h0 hB6) hs0).mono ?_
  rintro e w7 ⟨Ae0, ne0, ce0, rfl, ho, hb⟩
  have Cx0_7 := Lib.hid (own_below Cx0_6.out hb)
  clear Cx0_6
  have Cx2_7 := Lib.hid (own_below Cx2_6.out hb)
  clear Cx2_6
  have Oe0 := Lib.hid ho
  clear ho
  have hS7 := hb.size
  have hB7 : Below w.heap.size w w7 := hB6.trans (hb.mono hB6.size)
  clear hb
  go_wp2_with fail
  refine (laws_eqIntS _ _ _ _ _ _ _ _ _ (own_rdI Cx0_7.out) (own_rdI Oe0.out) (own_cap Cx0_7.out)).mono ?_
  rintro e w8 hq
  obtain ⟨rfl, hb⟩ := retD_below hq
  clear hq
  have Cx0_8 := Lib.hid (own_below Cx0_7.out hb)
  clear Cx0_7
  have Cx2_8 := Lib.hid (own_below Cx2_7.out hb)
  clear Cx2_7
  have Ce0_8 := Lib.hid (own_below Oe0.out hb)
  have hS8 := hb.size
  have hB8 : Below w.heap.size w w8 := hB7.trans (hb.mono hB7.size)
  clear hb
  go_wp2_with fail
  clear Ce0_8
  refine (laws_toIntS _ _ _ _ _ (Rd.below h2 hB8) hs2).mono ?_
  rintro e w9 ⟨Ae2, ne2, ce2, rfl, ho, hb⟩
  have Cx0_9 := Lib.hid (own_below Cx0_8.out hb)
  clear Cx0_8
  have Cx2_9 := Lib.hid (own_below Cx2_8.out hb)
  clear Cx2_8
  have Oe2 := Lib.hid ho
  clear ho
  have hS9 := hb.size
  have hB9 : Below w.heap.size w w9 := hB8.trans (hb.mono hB8.size)
  clear hb
  go_wp2_with fail
  refine (laws_eqIntS _ _ _ _ _ _ _ _ _ (own_rdI Cx2_9.out) (own_rdI Oe2.out) (own_cap Cx2_9.out)).mono ?_
  rintro e w10 hq
  obtain ⟨rfl, hb⟩ := retD_below hq
  clear hq
  have Cx0_10 := Lib.hid (own_below Cx0_9.out hb)
  clear Cx0_9
  have Cx2_10 := Lib.hid (own_below Cx2_9.out hb)
  clear Cx2_9
  have Ce2_10 := Lib.hid (own_below Oe2.out hb)
  have hS10 := hb.size
  have hB10 : Below w.heap.size w w10 := hB9.trans (hb.mono hB9.size)
  clear hb
  go_wp2_with fail
  clear Ce2_10
  go_ret
  exact ⟨rfl, hB10⟩

end Go.Proofs.Ytlddefmakjnfdaa
