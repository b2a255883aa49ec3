/- The walk of the law on PreferredPairs. Conditions: as the theorem says. -/
import Derived.Test.YteagfipmllplgaaPrefs
import Derived.Test.YteagfipmllplgaaMarkP
namespace Go.Proofs.Yteagfipmllplgaa
open Go.RowKit
set_option linter.unusedSimpArgs false
set_option linter.unusedVariables false
set_option maxRecDepth 100000

theorem prefsC_len (s : Int) : (prefsC s).length ≤ 70000 := by
  unfold prefsC
  split
  · have h1 := mtapsI_len s
    have h2 := pi_len s.toNat (mtapsI s) h1 (mtapsI s).length
    have h3 : (mtapsI s).length * 255 ≤ 255 * 255 := Nat.mul_le_mul_right _ h1
    omega
  · exact Nat.zero_le _
set_option maxHeartbeats 2000000 in
theorem walk_FnExactPreferredPairs (s : Int) (w : World) (h0 : -9223372036854775808 ≤ s ∧ s ≤ 9223372036854775807) :
    Calls Try.prog 4 #[.int .i64 s] w fun e w' => e = .returned (.bool true) ∧ Below w.heap.size w w' := by
  clear h0
  have hlen := prefsC_len s
  go_enter Try.func4, Try.ntmps4
  go_wp2_with fail
  refine (spec_PreferredPairs s w).mono ?_
  rintro e w1 ⟨Ar, nr, cr, rfl, ho, hb⟩
  have Or := Lib.hid ho
  clear ho
  have hS1 := hb.size
  have hB1 : Below w.heap.size w w1 := hb
  clear hb
  go_wp2_with fail
  refine (impl_PreferredPairs s w1).mono ?_
  rintro e w2 ⟨Ag, ng, cg, rfl, ho, hb⟩
  have Cr_2 := Lib.hid (own_below Or.out hb)
  have Og := Lib.hid ho
  have hng : ng ≤ 70000 := by have := ownP_num ho; omega
  clear ho
  have hS2 := hb.size
  have hB2 : Below w.heap.size w w2 := hB1.trans (hb.mono hB1.size)
  clear hb
  go_wp2_with fail
  refine (laws_eqPairS _ _ _ _ _ _ _ _ _ (own_rdP Og.out) (own_rdP Cr_2.out) (by omega)).mono ?_
  rintro e w3 ⟨rfl, hb⟩
  have Cr_3 := Lib.hid (own_below Cr_2.out hb)
  clear Cr_2
  have Cg_3 := Lib.hid (own_below Og.out hb)
  have hS3 := hb.size
  have hB3 : Below w.heap.size w w3 := hB2.trans (hb.mono hB2.size)
  clear hb
  go_wp2_with fail
  refine (laws_markPairS _ _ _ _ _ 1 _ Cg_3.out (by omega) (by omega) (by omega)).mono ?_
  rintro e w4 ⟨rfl, ho, hg⟩
  have Cr_4 := Lib.hid (World.ownsRow.kept Cr_3.out hg (own_apart' Or.out Cg_3.out (by omega)))
  clear Cr_3
  have hb := own_below_of Cg_3.out hg (by omega)
  have hS4 := hb.size
  have hB4 : Below w.heap.size w w4 := hB3.trans (hb.mono (by have := hB1.size; omega))
  have Cg_4 := Lib.hid ho
  clear ho hg
  clear Cg_3 hb
  go_wp2_with fail
  refine (laws_heldPairS _ _ _ 1 _ (own_rdP Cg_4.out) (by omega) (by omega) (by omega)).mono ?_
  rintro e w5 ⟨rfl, hw5⟩
  have hb : Below w4.heap.size w4 w5 := by rw [← hw5]; exact Below.refl _ _
  clear hw5
  have Cr_5 := Lib.hid (own_below Cr_4.out hb)
  clear Cr_4
  have Cg_5 := Lib.hid (own_below Cg_4.out hb)
  clear Cg_4
  have hS5 := hb.size
  have hB5 : Below w.heap.size w w5 := hB4.trans (hb.mono hB4.size)
  clear hb
  go_wp2_with fail
  refine (impl_PreferredPairs s w5).mono ?_
  rintro e w6 ⟨Ah, nh, ch, rfl, ho, hb⟩
  have Cr_6 := Lib.hid (own_below Cr_5.out hb)
  clear Cr_5
  have Cg_6 := Lib.hid (own_below Cg_5.out hb)
  clear Cg_5
  have Oh := Lib.hid ho
  clear ho
  have hS6 := hb.size
  have hB6 : Below w.heap.size w w6 := hB5.trans (hb.mono hB5.size)
  clear hb
  go_wp2_with fail
  refine (laws_eqPairS _ _ _ _ _ _ _ _ _ (own_rdP Oh.out) (own_rdP Cr_6.out) (by have := ownP_num Oh.out; omega)).mono ?_
  rintro e w7 ⟨rfl, hb⟩
  have Cg_7 := Lib.hid (own_below Cg_6.out hb)
  clear Cg_6
  have hS7 := hb.size
  have hB7 : Below w.heap.size w w7 := hB6.trans (hb.mono hB6.size)
  clear hb
  go_wp2_with fail
  refine (laws_heldPairS _ _ _ 1 _ (own_rdP Cg_7.out) (by omega) (by omega) (by omega)).mono ?_
  rintro e w8 ⟨rfl, hw8⟩
  have hb : Below w7.heap.size w7 w8 := by rw [← hw8]; exact Below.refl _ _
  clear hw8
  have hB8 : Below w.heap.size w w8 := hB7.trans (hb.mono hB7.size)
  clear hb
  go_wp2_with fail
  go_ret
  exact ⟨rfl, hB8⟩

end Go.Proofs.Yteagfipmllplgaa
