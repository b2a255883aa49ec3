/- The walk of the law FnChips. Conditions: as the theorem says. -/
import Derived.Test.YthheafenlgdbiaaC4b
import Derived.Test.YthheafenlgdbiaaDrawS
import Derived.Test.YthheafenlgdbiaaPureG
namespace Go.Proofs.Ythheafenlgdbiaa
open Go.RowKit
set_option linter.unusedSimpArgs false
set_option linter.unusedVariables false

set_option maxRecDepth 100000 in
set_option maxHeartbeats 2000000 in
theorem walk_FnChips (A : Option Addr) (n c : Nat) (zs : List Int) (w : World) (hx : RowIn .u8 w A n c zs) :
    Calls Try.prog 13 #[.slice A n c] w fun e w' => e = .returned (.bool true) ∧ Below w.heap.size w w' := by
  by_cases hbig_n : 1048576 < n
  · clear hx
    go_enter Try.func13, Try.ntmps13
    go_wp2
    go_ret
    exact ⟨rfl, Below.refl _ _⟩
  replace hbig_n : n ≤ 1048576 := by omega
  have hB0 : Below w.heap.size w w := Below.refl _ _
  go_enter Try.func13, Try.ntmps13
  go_wp2_with fail
  refine (spec_DrawChipsOf _ _ _ _ _ hx).mono ?_
  rintro e w1 ⟨t, rfl, hts, hb⟩
  have hS1 := hb.size
  have hB1 : Below w.heap.size w w1 := hB0.trans (hb.mono hB0.size)
  clear hb
  clear hx
  go_wp2_with fail
  refine (impl_ChipsOf t _ (by unfold maxLen; omega)).mono ?_
  rintro e w2 ⟨As, ns, cs, rfl, ho, hb⟩
  have Os := Lib.hid ho
  clear ho
  have hS2 := hb.size
  have hB2 : Below w.heap.size w w2 := hB1.trans (hb.mono hB1.size)
  clear hb
  go_wp2_with fail
  refine (spec_ChipsOf t _ (by unfold maxLen; omega)).mono ?_
  rintro e w3 ⟨Ar, nr, cr, rfl, ho, hb⟩
  have Cs_3 := Lib.hid (own_below Os.out hb)
  have Or := Lib.hid ho
  clear ho
  have hS3 := hb.size
  have hB3 : Below w.heap.size w w3 := hB2.trans (hb.mono hB2.size)
  clear hb
  rcases chipsC_ways t.data.toList with h | ⟨h1, h⟩
  · rw [h] at Cs_3 Or ⊢
    go_wp2_with fail
    refine (laws_ssInts _ _ _ _ _ _ _ _ _ (own_rdI Cs_3.out) (own_rdI Or.out) (own_cap Cs_3.out)).mono ?_
    rintro e w4 hq
    obtain ⟨rfl, hb⟩ := retD_below hq
    clear hq
    have Cs_4 := Lib.hid (own_below Cs_3.out hb)
    clear Cs_3
    have Cr_4 := Lib.hid (own_below Or.out hb)
    have hS4 := hb.size
    have hB4 : Below w.heap.size w w4 := hB3.trans (hb.mono hB3.size)
    clear hb
    go_wp2_with fail
    refine (laws_ssInts _ _ _ _ _ _ _ _ _ (own_rdI Cs_4.out) (own_rdI Cr_4.out) (own_cap Cs_4.out)).mono ?_
    rintro e w5 hq
    obtain ⟨rfl, hb⟩ := retD_below hq
    clear hq
    have Cs_5 := Lib.hid (own_below Cs_4.out hb)
    clear Cs_4
    have Cr_5 := Lib.hid (own_below Cr_4.out hb)
    clear Cr_4
    have hS5 := hb.size
    have hB5 : Below w.heap.size w w5 := hB4.trans (hb.mono hB4.size)
    clear hb
    go_wp2_with fail
    go_ret
    exact ⟨rfl, hB5⟩
  · rw [h] at Cs_3 Or ⊢
    clear h
    have H1 := Lib.hid h1
    clear h1
    go_wp2_with fail
    refine (laws_ssInts _ _ _ _ _ _ _ _ _ (own_rdI Cs_3.out) (own_rdI Or.out) (own_cap Cs_3.out)).mono ?_
    rintro e w4 hq
    obtain ⟨rfl, hb⟩ := retD_below hq
    clear hq
    have Cs_4 := Lib.hid (own_below Cs_3.out hb)
    clear Cs_3
    have Cr_4 := Lib.hid (own_below Or.out hb)
    have hS4 := hb.size
    have hB4 : Below w.heap.size w w4 := hB3.trans (hb.mono hB3.size)
    clear hb
    clear Cr_4
    go_wp2_with fail
    refine (impl_SignsOf _ _ _ _ _ (own_rdI Cs_4.out) (own_cap Cs_4.out)).mono ?_
    rw [signs_chips _ H1.out]
    rintro e w5 ⟨u, rfl, ht, hb⟩
    have Cs_5 := Lib.hid (own_below Cs_4.out hb)
    clear Cs_4
    have hS5 := hb.size
    have hB5 : Below w.heap.size w w5 := hB4.trans (hb.mono hB4.size)
    clear hb
    obtain rfl := str_eq ht rfl
    clear ht
    go_wp2_with fail
    refine (impl_EnergyOf _ _ _ _ _ (own_rdI Cs_5.out) (own_cap Cs_5.out)).mono ?_
    rw [energy_chips _ H1.out, len_data]
    rintro e w' ⟨rfl, rfl⟩
    go_wp2_with fail
    refine (impl_SignalValid _ _ _ _ _ (own_rdI Cs_5.out) (own_cap Cs_5.out)).mono ?_
    rw [chips_sig _ H1.out]
    rintro e w' ⟨rfl, rfl⟩
    go_wp2_with fail
    go_ret
    exact ⟨rfl, hB5⟩

end Go.Proofs.Ythheafenlgdbiaa
