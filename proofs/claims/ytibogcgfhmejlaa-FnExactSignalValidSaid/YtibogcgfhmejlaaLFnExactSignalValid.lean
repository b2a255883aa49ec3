/- The walk of the law on SignalValid. Conditions: as the theorem says. -/
import Derived.Test.YtibogcgfhmejlaaC4
namespace Go.Proofs.Ytibogcgfhmejlaa
open Go.RowKit
set_option linter.unusedSimpArgs false
set_option linter.unusedVariables false

set_option maxHeartbeats 400000 in
theorem walk_FnExactSignalValid (A : Option Addr) (n c : Nat) (zs : List Int) (w : World) (hx : RowIn .i64 w A n c zs) :
    Calls Try.prog 5 #[.slice A n c] w fun e w' => e = .returned (.bool true) ∧ Below w.heap.size w w' := by
  obtain ⟨hx, hnc, hcm, _hz⟩ := hx
  clear _hz
  have hnm : n ≤ maxLen := Nat.le_trans hnc hcm
  clear hnc hcm
  by_cases h : n ≤ 1048576
  · go_enter Try.func5, Try.ntmps5
    go_wp2_with fail
    refine (laws_toIntS _ _ _ _ _ hx h).mono ?_
    rintro e w1 ⟨A1, c1, rfl, ho1, hb1⟩
    have HO1 := Lib.hid ho1
    clear ho1
    go_wp2_with fail
    refine (spec_SignalValid _ _ _ _ _ (own_rdI HO1.out) (own_cap HO1.out)).mono ?_
    rintro e w' ⟨rfl, rfl⟩
    go_wp2_with fail
    refine (laws_toIntS _ _ _ _ _ (Rd.below hx hb1) h).mono ?_
    rintro e w2 ⟨A2, c2, rfl, ho2, hb2⟩
    have HO2 := Lib.hid ho2
    clear ho2
    go_wp2_with fail
    refine (impl_SignalValid _ _ _ _ _ (own_rdI HO2.out) (own_cap HO2.out)).mono ?_
    rintro e w' ⟨rfl, rfl⟩
    go_wp2_with fail
    refine (laws_toIntS _ _ _ _ _ (Rd.below (Rd.below hx hb1) hb2) h).mono ?_
    rintro e w3 ⟨A3, c3, rfl, ho3, hb3⟩
    have HO3 := Lib.hid ho3
    clear ho3
    go_wp2_with fail
    refine (laws_eqIntS _ _ _ _ _ _ _ _ _ (Rd.below (own_rdI HO2.out) hb3) (own_rdI HO3.out) (own_cap HO2.out)).mono ?_
    rintro e w4 ⟨rfl, m, rfl⟩
    go_wp2_with fail
    go_ret
    exact ⟨rfl, below_drewN (hb1.trans ((hb2.mono hb1.size).trans (hb3.mono (Nat.le_trans hb1.size hb2.size)))) _⟩
  · go_enter Try.func5, Try.ntmps5
    go_wp2
    go_ret
    exact ⟨rfl, Below.refl _ _⟩

end Go.Proofs.Ytibogcgfhmejlaa
