/- The walk of the law on GoldFamily. Conditions: as the theorem says. -/
import Derived.Test.YteagfipmllplgaaR9
import Derived.Test.YteagfipmllplgaaMarkT
namespace Go.Proofs.Yteagfipmllplgaa
open Go.RowKit
set_option linter.unusedSimpArgs false
set_option linter.unusedVariables false
set_option maxRecDepth 100000

set_option maxHeartbeats 2000000 in
theorem walk_FnExactGoldFamily (s a b : Int) (w : World) (h0 : -9223372036854775808 ≤ s ∧ s ≤ 9223372036854775807) (h1 : -9223372036854775808 ≤ a ∧ a ≤ 9223372036854775807) (h2 : -9223372036854775808 ≤ b ∧ b ≤ 9223372036854775807) :
    Calls Try.prog 6 #[.int .i64 s, .int .i64 a, .int .i64 b] w fun e w' => e = .returned (.bool true) ∧ Below w.heap.size w w' := by
  clear h0 h1 h2
  have hlen := famL_len s a b
  go_enter Try.func6, Try.ntmps6
  go_wp2_with fail
  refine (spec_GoldFamily s a b w).mono ?_
  rintro e w1 ⟨Ar, nr, cr, rfl, ho, hb⟩
  have Or := Lib.hid ho
  clear ho
  have hS1 := hb.size
  have hB1 : Below w.heap.size w w1 := hb
  clear hb
  go_wp2_with fail
  refine (impl_GoldFamily s a b w1).mono ?_
  rintro e w2 ⟨Ag, ng, cg, rfl, ho, hb⟩
  have Cr_2 := Lib.hid (own_below Or.out hb)
  have Og := Lib.hid ho
  have hng : ng ≤ 65 := by have := ho.1; rw [List.length_map, List.length_map] at this; omega
  clear ho
  have hS2 := hb.size
  have hB2 : Below w.heap.size w w2 := hB1.trans (hb.mono hB1.size)
  clear hb
  go_wp2_with fail
  refine (laws_eqStringS _ _ _ _ _ _ _ _ _ (own_rdS Og.out) (own_rdS Cr_2.out) (own_cap Og.out)).mono ?_
  rintro e w3 hq
  obtain ⟨rfl, hb⟩ := retD_below hq
  clear hq
  have Cr_3 := Lib.hid (own_below Cr_2.out hb)
  clear Cr_2
  have Cg_3 := Lib.hid (own_below Og.out hb)
  have hS3 := hb.size
  have hB3 : Below w.heap.size w w3 := hB2.trans (hb.mono hB2.size)
  clear hb
  go_wp2_with fail
  refine (laws_markStringS _ _ _ _ _ 1 _ Cg_3.out (by omega) (by omega) (by omega)).mono ?_
  rintro e w4 ⟨rfl, ho, hg⟩
  have Cr_4 := Lib.hid (World.ownsRow.kept Cr_3.out hg (own_apart' Or.out Cg_3.out (by omega)))
  clear Cr_3
  have hb := own_below_of Cg_3.out hg (by omega)
  have hS4 := hb.size
  have hB4 : Below w.heap.size w w4 := hB3.trans (hb.mono (by have := hB1.size; omega))
  have Cg_4 := Lib.hid ho
  clear ho hg
  clear Cg_3 hb
  go_wp2_with fail
  refine (laws_heldStringS _ _ _ 1 _ (own_rdS Cg_4.out) (by omega) (by omega) (by omega)).mono ?_
  rintro e w5 ⟨rfl, hb⟩
  have Cr_5 := Lib.hid (own_below Cr_4.out hb)
  clear Cr_4
  have Cg_5 := Lib.hid (own_below Cg_4.out hb)
  clear Cg_4
  have hS5 := hb.size
  have hB5 : Below w.heap.size w w5 := hB4.trans (hb.mono hB4.size)
  clear hb
  go_wp2_with fail
  refine (impl_GoldFamily s a b w5).mono ?_
  rintro e w6 ⟨Ah, nh, ch, rfl, ho, hb⟩
  have Cr_6 := Lib.hid (own_below Cr_5.out hb)
  clear Cr_5
  have Cg_6 := Lib.hid (own_below Cg_5.out hb)
  clear Cg_5
  have Oh := Lib.hid ho
  clear ho
  have hS6 := hb.size
  have hB6 : Below w.heap.size w w6 := hB5.trans (hb.mono hB5.size)
  clear hb
  go_wp2_with fail
  refine (laws_eqStringS _ _ _ _ _ _ _ _ _ (own_rdS Oh.out) (own_rdS Cr_6.out) (own_cap Oh.out)).mono ?_
  rintro e w7 hq
  obtain ⟨rfl, hb⟩ := retD_below hq
  clear hq
  have Cg_7 := Lib.hid (own_below Cg_6.out hb)
  clear Cg_6
  have hS7 := hb.size
  have hB7 : Below w.heap.size w w7 := hB6.trans (hb.mono hB6.size)
  clear hb
  go_wp2_with fail
  refine (laws_heldStringS _ _ _ 1 _ (own_rdS Cg_7.out) (by omega) (by omega) (by omega)).mono ?_
  rintro e w8 ⟨rfl, hb⟩
  have hB8 : Below w.heap.size w w8 := hB7.trans (hb.mono hB7.size)
  clear hb
  go_wp2_with fail
  go_ret
  exact ⟨rfl, hB8⟩

end Go.Proofs.Yteagfipmllplgaa
