/- The walk of the law FnSigns. Conditions: as the theorem says. -/
import Derived.Test.YthheafenlgdbiaaC4b
import Derived.Test.YthheafenlgdbiaaDrawS
import Derived.Test.YthheafenlgdbiaaPureH
namespace Go.Proofs.Ythheafenlgdbiaa
open Go.RowKit
set_option linter.unusedSimpArgs false
set_option linter.unusedVariables false

set_option maxRecDepth 100000 in
set_option maxHeartbeats 2000000 in
theorem walk_FnSigns (A : Option Addr) (n c : Nat) (zs : List Int) (A' : Option Addr) (n' c' : Nat) (zs' : List Int) (w : World) (hx : RowIn .u8 w A n c zs) (hx' : RowIn .u8 w A' n' c' zs') :
    Calls Try.prog 12 #[.slice A n c, .slice A' n' c'] w fun e w' => e = .returned (.bool true) ∧ Below w.heap.size w w' := by
  by_cases hbig_n : 1048576 < n
  · clear hx hx'
    go_enter Try.func12, Try.ntmps12
    go_wp2
    go_ret
    exact ⟨rfl, Below.refl _ _⟩
  replace hbig_n : n ≤ 1048576 := by omega
  clear hx'
  by_cases hbig_n' : 1048576 < n'
  · clear hx
    go_enter Try.func12, Try.ntmps12
    go_wp2
    go_ret
    exact ⟨rfl, Below.refl _ _⟩
  replace hbig_n' : n' ≤ 1048576 := by omega
  have hB0 : Below w.heap.size w w := Below.refl _ _
  go_enter Try.func12, Try.ntmps12
  go_wp2_with fail
  refine (spec_DrawSignsOf _ _ _ _ _ hx).mono ?_
  rintro e w1 ⟨As, ns, cs, s, rfl, ho, hn1, hb⟩
  have Os := Lib.hid ho
  clear ho
  have hS1 := hb.size
  have hB1 : Below w.heap.size w w1 := hB0.trans (hb.mono hB0.size)
  clear hb
  clear hx
  go_wp2_with fail
  refine (impl_SignsOf _ _ _ _ _ (own_rdI Os.out) (own_cap Os.out)).mono ?_
  rintro e w2 ⟨u, rfl, hu, hb⟩
  have Cs_2 := Lib.hid (own_below Os.out hb)
  have hS2 := hb.size
  have hB2 : Below w.heap.size w w2 := hB1.trans (hb.mono hB1.size)
  clear hb
  go_wp2_with fail
  refine (spec_SignsOf _ _ _ _ _ (own_rdI Cs_2.out) (own_cap Cs_2.out)).mono ?_
  rintro e w3 ⟨v, rfl, hv, hb⟩
  have Cs_3 := Lib.hid (own_below Cs_2.out hb)
  clear Cs_2
  have hS3 := hb.size
  have hB3 : Below w.heap.size w w3 := hB2.trans (hb.mono hB2.size)
  clear hb
  obtain rfl := str_eq hu hv
  clear hv
  rcases signsC_ways s with h | ⟨h1, h2, h⟩
  · rw [h] at hu ⊢
    go_wp2_with fail
    go_ret
    exact ⟨rfl, hB3⟩
  · rw [h] at hu ⊢
    clear h
    have HU := Lib.hid hu
    have hsl := Lib.hid ((own_rdI Cs_3.out).len)
    have H1 := Lib.hid h1
    have H2 := Lib.hid h2
    clear hu h1 h2
    have hul : u.size = ns := by rw [str_size HU.out, List.length_map]; exact hsl.out
    go_wp2_with fail
    refine (impl_ScaleSignal _ _ _ _ (1 + (n' : Int) % 9) _ (own_rdI Cs_3.out) (own_cap Cs_3.out)).mono ?_
    rintro e w4 ⟨Ax, nx, cx, rfl, ho, hb⟩
    have Cs_4 := Lib.hid (own_below Cs_3.out hb)
    clear Cs_3
    have Ox := Lib.hid ho
    clear ho
    have hS4 := hb.size
    have hB4 : Below w.heap.size w w4 := hB3.trans (hb.mono hB3.size)
    clear hb
    go_wp2_with fail
    refine (impl_ClipSignal _ _ _ _ (1 + (n' : Int) % 5) _ (own_rdI Cs_4.out) (own_cap Cs_4.out)).mono ?_
    rw [clipC_ok s _ H1.out (by omega) (by omega)]
    rintro e w5 ⟨Ay, ny, cy, rfl, ho, hb⟩
    have Cs_5 := Lib.hid (own_below Cs_4.out hb)
    clear Cs_4
    have Cx_5 := Lib.hid (own_below Ox.out hb)
    have Oy := Lib.hid ho
    clear ho
    have hS5 := hb.size
    have hB5 : Below w.heap.size w w5 := hB4.trans (hb.mono hB4.size)
    clear hb
    go_wp2_with fail
    refine (impl_SignsOf _ _ _ _ _ (own_rdI Cx_5.out) (own_cap Cx_5.out)).mono ?_
    rintro e w6 ⟨a, rfl, ha, hb⟩
    have Cs_6 := Lib.hid (own_below Cs_5.out hb)
    clear Cs_5
    have Cx_6 := Lib.hid (own_below Cx_5.out hb)
    clear Cx_5
    have Cy_6 := Lib.hid (own_below Oy.out hb)
    have hS6 := hb.size
    have hB6 : Below w.heap.size w w6 := hB5.trans (hb.mono hB5.size)
    clear hb
    go_wp2_with fail
    refine (impl_SignsOf _ _ _ _ _ (own_rdI Cy_6.out) (own_cap Cy_6.out)).mono ?_
    rw [signs_clip s _ H1.out (by omega) (by omega) H2.out]
    rintro e w7 ⟨b, rfl, hb', hb⟩
    have Cs_7 := Lib.hid (own_below Cs_6.out hb)
    clear Cs_6
    have Cx_7 := Lib.hid (own_below Cx_6.out hb)
    clear Cx_6
    have Cy_7 := Lib.hid (own_below Cy_6.out hb)
    clear Cy_6
    have hS7 := hb.size
    have hB7 : Below w.heap.size w w7 := hB6.trans (hb.mono hB6.size)
    clear hb
    obtain rfl := str_eq HU.out hb'
    clear hb'
    rcases scaleC_ways s (1 + (n' : Int) % 9) with h | ⟨h1, h2, h3, h4, h⟩
    · rw [h] at ha ⊢
      clear h ha
      go_wp2_with fail
      go_ret
      exact ⟨rfl, hB7⟩
    · rw [h] at ha ⊢
      clear h
      rw [signs_scale s _ (by omega) h4 H2.out] at ha
      obtain rfl := str_eq HU.out ha
      clear ha h4
      go_wp2_with fail
      go_ret
      exact ⟨rfl, hB7⟩

end Go.Proofs.Ythheafenlgdbiaa
