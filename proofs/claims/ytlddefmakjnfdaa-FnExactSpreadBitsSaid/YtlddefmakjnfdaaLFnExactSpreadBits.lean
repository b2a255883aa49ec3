/- The walk of the law on SpreadBits. Conditions: as the theorem says. -/
import Derived.Test.YtlddefmakjnfdaaC8
namespace Go.Proofs.Ytlddefmakjnfdaa
open Go.RowKit
set_option linter.unusedSimpArgs false
set_option linter.unusedVariables false

set_option maxRecDepth 100000 in
set_option maxHeartbeats 2000000 in
theorem walk_FnExactSpreadBits (s0 : ByteArray) (s1 : ByteArray) (w : World) (h0 : s0.size ≤ maxLen) (h1 : s1.size ≤ maxLen) :
    Calls Try.prog 3 #[.string s0, .string s1] w fun e w' => e = .returned (.bool true) ∧ Below w.heap.size w w' := by
  by_cases hs0 : 1048576 < s0.size
  · go_enter Try.func3, Try.ntmps3
    go_wp2
    go_ret
    exact ⟨rfl, Below.refl _ _⟩
  replace hs0 : s0.size ≤ 1048576 := by omega
  by_cases hs1 : 1048576 < s1.size
  · go_enter Try.func3, Try.ntmps3
    go_wp2
    go_ret
    exact ⟨rfl, Below.refl _ _⟩
  replace hs1 : s1.size ≤ 1048576 := by omega
  have hB0 : Below w.heap.size w w := Below.refl _ _
  go_enter Try.func3, Try.ntmps3
  go_wp2_with fail
  refine (spec_SpreadBits _ _ _ hs0 hs1).mono ?_
  rintro e w1 ⟨Ar, nr, cr, rfl, ho, hb⟩
  have Or := Lib.hid ho
  clear ho
  have hS1 := hb.size
  have hB1 : Below w.heap.size w w1 := hB0.trans (hb.mono hB0.size)
  clear hb
  go_wp2_with fail
  refine (impl_SpreadBits _ _ _ hs0 hs1).mono ?_
  rintro e w2 ⟨Ag, ng, cg, rfl, ho, hb⟩
  have Cr_2 := Lib.hid (own_below Or.out hb)
  have Og := Lib.hid ho
  clear ho
  have hS2 := hb.size
  have hB2 : Below w.heap.size w w2 := hB1.trans (hb.mono hB1.size)
  clear hb
  go_wp2_with fail
  refine (laws_eqIntS _ _ _ _ _ _ _ _ _ (own_rdI Og.out) (own_rdI Cr_2.out) (own_cap Og.out)).mono ?_
  rintro e w3 hq
  obtain ⟨rfl, hb⟩ := retD_below hq
  clear hq
  have Cr_3 := Lib.hid (own_below Cr_2.out hb)
  clear Cr_2
  have Cg_3 := Lib.hid (own_below Og.out hb)
  have hS3 := hb.size
  have hB3 : Below w.heap.size w w3 := hB2.trans (hb.mono hB2.size)
  clear hb
  go_wp2_with fail
  have hng := own_num Cg_3.out (spreadC_len s0.data.toList s1.data.toList)
  refine (laws_markIntS _ _ _ _ _ _ _ Cg_3.out (by omega) (by omega) (by omega)).mono ?_
  rintro e w4 ⟨rfl, ho, hg⟩
  have Cr_4 := Lib.hid (World.ownsRow.kept Cr_3.out hg (own_apart' Or.out Cg_3.out (by omega)))
  clear Cr_3
  have hb := own_below_of Cg_3.out hg (by omega)
  have hS4 := hb.size
  have hB4 : Below w.heap.size w w4 := hB3.trans (hb.mono (by have := hB1.size; omega))
  have Cg_4 := Lib.hid ho
  clear ho hg
  clear Cg_3
  clear hb
  go_wp2_with fail
  refine (laws_heldIntS _ _ _ _ _ (own_rdI Cg_4.out) (by omega) (by omega) (by omega)).mono ?_
  rintro e w' ⟨rfl, rfl⟩
  go_wp2_with fail
  refine (impl_SpreadBits _ _ _ hs0 hs1).mono ?_
  rintro e w5 ⟨Ah, nh, ch, rfl, ho, hb⟩
  have Cr_5 := Lib.hid (own_below Cr_4.out hb)
  clear Cr_4
  have Cg_5 := Lib.hid (own_below Cg_4.out hb)
  clear Cg_4
  have Oh := Lib.hid ho
  clear ho
  have hS5 := hb.size
  have hB5 : Below w.heap.size w w5 := hB4.trans (hb.mono hB4.size)
  clear hb
  go_wp2_with fail
  refine (laws_eqIntS _ _ _ _ _ _ _ _ _ (own_rdI Oh.out) (own_rdI Cr_5.out) (own_cap Oh.out)).mono ?_
  rintro e w6 hq
  obtain ⟨rfl, hb⟩ := retD_below hq
  clear hq
  have Cr_6 := Lib.hid (own_below Cr_5.out hb)
  clear Cr_5
  have Cg_6 := Lib.hid (own_below Cg_5.out hb)
  clear Cg_5
  have Ch_6 := Lib.hid (own_below Oh.out hb)
  have hS6 := hb.size
  have hB6 : Below w.heap.size w w6 := hB5.trans (hb.mono hB5.size)
  clear hb
  go_wp2_with fail
  clear Ch_6
  clear Cr_6
  refine (laws_heldIntS _ _ _ _ _ (own_rdI Cg_6.out) (by omega) (by omega) (by omega)).mono ?_
  rintro e w' ⟨rfl, rfl⟩
  go_wp2_with fail
  go_ret
  exact ⟨rfl, hB6⟩

end Go.Proofs.Ytlddefmakjnfdaa
