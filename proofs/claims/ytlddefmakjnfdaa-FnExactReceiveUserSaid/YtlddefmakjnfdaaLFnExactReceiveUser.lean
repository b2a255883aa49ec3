/- The walk of the law on ReceiveUser. Conditions: as the theorem says. -/
import Derived.Test.YtlddefmakjnfdaaC9
namespace Go.Proofs.Ytlddefmakjnfdaa
open Go.RowKit
set_option linter.unusedSimpArgs false
set_option linter.unusedVariables false

set_option maxRecDepth 100000 in
set_option maxHeartbeats 2000000 in
theorem walk_FnExactReceiveUser (A0 : Option Addr) (n0 c0 : Nat) (z0 : List Int) (s1 : ByteArray) (a2 : Int) (a3 : Int) (w : World) (h0 : RowIn .i64 w A0 n0 c0 z0) (h1 : s1.size ≤ maxLen) (_h2 : -9223372036854775808 ≤ a2 ∧ a2 ≤ 9223372036854775807) (_h3 : -9223372036854775808 ≤ a3 ∧ a3 ≤ 9223372036854775807) :
    Calls Try.prog 6 #[.slice A0 n0 c0, .string s1, .int .i64 a2, .int .i64 a3] w fun e w' => e = .returned (.bool true) ∧ Below w.heap.size w w' := by
  obtain ⟨h0, hnc0, hcm0, hz0⟩ := h0
  clear hnc0 hcm0 hz0
  clear _h2
  clear _h3
  by_cases hs0 : 1048576 < n0
  · go_enter Try.func6, Try.ntmps6
    go_wp2
    go_ret
    exact ⟨rfl, Below.refl _ _⟩
  replace hs0 : n0 ≤ 1048576 := by omega
  by_cases hs1 : 1048576 < s1.size
  · go_enter Try.func6, Try.ntmps6
    go_wp2
    go_ret
    exact ⟨rfl, Below.refl _ _⟩
  replace hs1 : s1.size ≤ 1048576 := by omega
  have hB0 : Below w.heap.size w w := Below.refl _ _
  go_enter Try.func6, Try.ntmps6
  go_wp2_with fail
  refine (laws_toIntS _ _ _ _ _ (Rd.below h0 hB0) hs0).mono ?_
  rintro e w1 ⟨Ap0, np0, cp0, rfl, ho, hb⟩
  have Op0 := Lib.hid ho
  clear ho
  have hS1 := hb.size
  have hB1 : Below w.heap.size w w1 := hB0.trans (hb.mono hB0.size)
  clear hb
  go_wp2_with fail
  refine (spec_ReceiveUser _ _ _ _ _ _ _ _ (own_rdI Op0.out) (own_cap Op0.out) hs1).mono ?_
  rintro e w2 ⟨tr, rfl, ht, hb⟩
  have Tr := Lib.hid ht
  clear ht
  have Cp0_2 := Lib.hid (own_below Op0.out hb)
  have hS2 := hb.size
  have hB2 : Below w.heap.size w w2 := hB1.trans (hb.mono hB1.size)
  clear hb
  go_wp2_with fail
  clear Cp0_2
  refine (laws_toIntS _ _ _ _ _ (Rd.below h0 hB2) hs0).mono ?_
  rintro e w3 ⟨Ax0, nx0, cx0, rfl, ho, hb⟩
  have Ox0 := Lib.hid ho
  clear ho
  have hS3 := hb.size
  have hB3 : Below w.heap.size w w3 := hB2.trans (hb.mono hB2.size)
  clear hb
  go_wp2_with fail
  refine (impl_ReceiveUser _ _ _ _ _ _ _ _ (own_rdI Ox0.out) (own_cap Ox0.out) hs1).mono ?_
  rintro e w4 ⟨tg, rfl, ht, hb⟩
  have Tg := Lib.hid ht
  clear ht
  have Cx0_4 := Lib.hid (own_below Ox0.out hb)
  have hS4 := hb.size
  have hB4 : Below w.heap.size w w4 := hB3.trans (hb.mono hB3.size)
  obtain rfl := str_eq Tr.out Tg.out
  clear Tg
  clear hb
  go_wp2_with fail
  refine (laws_toIntS _ _ _ _ _ (Rd.below h0 hB4) hs0).mono ?_
  rintro e w5 ⟨Ae0, ne0, ce0, rfl, ho, hb⟩
  have Cx0_5 := Lib.hid (own_below Cx0_4.out hb)
  clear Cx0_4
  have Oe0 := Lib.hid ho
  clear ho
  have hS5 := hb.size
  have hB5 : Below w.heap.size w w5 := hB4.trans (hb.mono hB4.size)
  clear hb
  go_wp2_with fail
  refine (laws_eqIntS _ _ _ _ _ _ _ _ _ (own_rdI Cx0_5.out) (own_rdI Oe0.out) (own_cap Cx0_5.out)).mono ?_
  rintro e w6 hq
  obtain ⟨rfl, hb⟩ := retD_below hq
  clear hq
  have Cx0_6 := Lib.hid (own_below Cx0_5.out hb)
  clear Cx0_5
  have Ce0_6 := Lib.hid (own_below Oe0.out hb)
  have hS6 := hb.size
  have hB6 : Below w.heap.size w w6 := hB5.trans (hb.mono hB5.size)
  clear hb
  go_wp2_with fail
  clear Ce0_6
  go_ret
  exact ⟨rfl, hB6⟩

end Go.Proofs.Ytlddefmakjnfdaa
