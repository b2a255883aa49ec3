/- The walk of the law on UserValid. Conditions: as the theorem says. -/
import Derived.Test.YtibogcgfhmejlaaC4
namespace Go.Proofs.Ytibogcgfhmejlaa
open Go.RowKit
set_option linter.unusedSimpArgs false
set_option linter.unusedVariables false

set_option maxHeartbeats 1000000 in
theorem walk_FnExactUserValid (c d : ByteArray) (g l : Int) (w : World) (hc : c.size ≤ maxLen) (hd : d.size ≤ maxLen) (_hg : -9223372036854775808 ≤ g ∧ g ≤ 9223372036854775807) (_hl : -9223372036854775808 ≤ l ∧ l ≤ 9223372036854775807) :
    Calls Try.prog 8 #[.agg #[.string c, .string d, .int .i64 g, .int .i64 l]] w fun e w' => e = .returned (.bool true) ∧ Below w.heap.size w w' := by
  clear _hg _hl
  generalize hv : (if (1048576 : Int) - c.size < 0 then (-1 : Int) else if (1048576 : Int) - c.size - d.size < 0 then -1 else (1048576 : Int) - c.size - d.size) = v
  have HV := Lib.hid hv
  clear hv
  by_cases h0 : v < 0
  · go_enter Try.func8, Try.ntmps8
    go_wp2_with fail
    refine (laws_szUser _ _ _ _ _ _ hc hd (by omega) (by omega)).mono ?_
    rw [HV.out]
    rintro e w1 ⟨rfl, hb1⟩
    go_wp2_with fail
    go_ret
    exact ⟨rfl, ((Below.refl _ _).alloc (Nat.le_refl _) _).trans (hb1.mono (by simp))⟩
  · go_enter Try.func8, Try.ntmps8
    go_wp2_with fail
    refine (laws_szUser _ _ _ _ _ _ hc hd (by omega) (by omega)).mono ?_
    rw [HV.out]
    rintro e w1 ⟨rfl, hb1⟩
    have hcell : ∀ j, w1.cell? ⟨w.heap.size, j, none⟩ = (w.alloc (.cells #[.string c, .string d, .int .i64 g, .int .i64 l] 34)).cell? ⟨w.heap.size, j, none⟩ := fun j => hb1.cell (p := ⟨w.heap.size, j, none⟩) (by simp)
    go_wp2_with fail
    refine (laws_toUser _ _ _ _ _).mono ?_
    rintro e w2 ⟨rfl, hb2⟩
    go_wp2_with fail
    refine (spec_UserValid _ _ _ _ _ hc hd).mono ?_
    rintro e w3 ⟨rfl, hb3⟩
    have hb13 := hb1.trans ((hb2.mono hb1.size).trans (hb3.mono (Nat.le_trans hb1.size hb2.size)))
    clear hcell hb2 hb3
    have hcell : ∀ j, w3.cell? ⟨w.heap.size, j, none⟩ = (w.alloc (.cells #[.string c, .string d, .int .i64 g, .int .i64 l] 34)).cell? ⟨w.heap.size, j, none⟩ := fun j => hb13.cell (p := ⟨w.heap.size, j, none⟩) (by simp)
    go_wp2_with fail
    refine (laws_toUser _ _ _ _ _).mono ?_
    rintro e w4 ⟨rfl, hb4⟩
    go_wp2_with fail
    refine (impl_UserValid _ _ _ _ _ hc hd).mono ?_
    rintro e w5 ⟨rfl, hb5⟩
    have hb15 := hb13.trans ((hb4.mono hb13.size).trans (hb5.mono (Nat.le_trans hb13.size hb4.size)))
    go_wp2_with fail
    go_ret
    exact ⟨rfl, ((Below.refl _ _).alloc (Nat.le_refl _) _).trans (hb15.mono (by simp))⟩

end Go.Proofs.Ytibogcgfhmejlaa
