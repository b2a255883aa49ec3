/- The walk of the law FnExactWorstCross. Conditions: as the theorem says. -/
import Derived.Test.YtfendecmgcmbjaaC12
namespace Go.Proofs.Ytfendecmgcmbjaa
open Go.RowKit
set_option linter.unusedSimpArgs false
set_option linter.unusedVariables false

set_option maxRecDepth 100000 in
set_option maxHeartbeats 2000000 in
theorem walk_FnExactWorstCross (A : Option Addr) (n c : Nat) (ss : List ByteArray) (w : World) (hx : RowStr w A n c ss) :
    Calls Try.prog 11 #[.slice A n c] w fun e w' => e = .returned (.bool true) ∧ Below w.heap.size w w' := by
  obtain ⟨hx, hnc, hcm, hsz⟩ := hx
  have hB0 : Below w.heap.size w w := Below.refl _ _
  go_enter Try.func11, Try.ntmps11
  go_wp2_with fail
  refine (laws_szStringS _ _ _ _ _ hx (by omega) hsz).mono ?_
  rintro e w' ⟨⟨z, rfl, hz1, hz2, hz3⟩, rfl⟩
  clear hnc hcm hsz
  by_cases hz : z < 0
  · go_wp2_with fail
    go_ret
    exact ⟨rfl, Below.refl _ _⟩
  obtain ⟨hn, hs⟩ := hz3 (by omega)
  clear hz3
  have LX := Lib.hid (RdS.len hx)
  go_wp2_with fail
  refine (laws_toStringS _ _ _ _ _ (Rd.below hx hB0) hn).mono ?_
  rintro e w1 ⟨Ap, np, cp, rfl, ho, hb⟩
  have Op := Lib.hid ho
  clear ho
  have hS1 := hb.size
  have hB1 : Below w.heap.size w w1 := hB0.trans (hb.mono hB0.size)
  clear hb
  go_wp2_with fail
  refine (spec_WorstCross _ _ _ _ _ (own_rdS Op.out) (by have := (own_rdS Op.out).len; have := LX.out; omega) hs).mono ?_
  rintro e w2 ⟨rfl, hb⟩
  have Cp_2 := Lib.hid (own_below Op.out hb)
  have hS2 := hb.size
  have hB2 : Below w.heap.size w w2 := hB1.trans (hb.mono hB1.size)
  clear hb
  go_wp2_with fail
  clear Cp_2
  refine (laws_toStringS _ _ _ _ _ (Rd.below hx hB2) hn).mono ?_
  rintro e w3 ⟨Ax, nx, cx, rfl, ho, hb⟩
  have Ox := Lib.hid ho
  clear ho
  have hS3 := hb.size
  have hB3 : Below w.heap.size w w3 := hB2.trans (hb.mono hB2.size)
  clear hb
  go_wp2_with fail
  refine (impl_WorstCross _ _ _ _ _ (own_rdS Ox.out) (by have := (own_rdS Ox.out).len; have := LX.out; omega) (own_le Ox.out) hs).mono ?_
  rintro e w4 hq
  obtain ⟨rfl, hb⟩ := retD_below hq
  clear hq
  have Cx_4 := Lib.hid (own_below Ox.out hb)
  have hS4 := hb.size
  have hB4 : Below w.heap.size w w4 := hB3.trans (hb.mono hB3.size)
  clear hb
  go_wp2_with fail
  refine (laws_toStringS _ _ _ _ _ (Rd.below hx hB4) hn).mono ?_
  rintro e w5 ⟨Ae, ne, ce, rfl, ho, hb⟩
  have Cx_5 := Lib.hid (own_below Cx_4.out hb)
  clear Cx_4
  have Oe := Lib.hid ho
  clear ho
  have hS5 := hb.size
  have hB5 : Below w.heap.size w w5 := hB4.trans (hb.mono hB4.size)
  clear hb
  go_wp2_with fail
  refine (laws_eqStringS _ _ _ _ _ _ _ _ _ (own_rdS Cx_5.out) (own_rdS Oe.out) (own_cap Cx_5.out)).mono ?_
  rintro e w6 hq
  obtain ⟨rfl, hb⟩ := retD_below hq
  clear hq
  have Cx_6 := Lib.hid (own_below Cx_5.out hb)
  clear Cx_5
  have Ce_6 := Lib.hid (own_below Oe.out hb)
  have hS6 := hb.size
  have hB6 : Below w.heap.size w w6 := hB5.trans (hb.mono hB5.size)
  clear hb
  go_wp2_with fail
  go_ret
  exact ⟨rfl, hB6⟩

end Go.Proofs.Ytfendecmgcmbjaa
