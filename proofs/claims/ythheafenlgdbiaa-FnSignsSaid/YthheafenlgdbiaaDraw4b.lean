/- Draws of two signals. Conditions: as the theorem says. -/
import Derived.Test.YthheafenlgdbiaaDraw4
namespace Go.Proofs.Ythheafenlgdbiaa
open Go.RowKit
set_option linter.unusedSimpArgs false
set_option linter.unusedVariables false

/-- Two signals were drawn. -/
def DrewSS (w : World) (e : Ending) (w' : World) : Prop :=
  ∃ (A : Option Addr) (n c : Nat) (zs : List Int) (A' : Option Addr) (n' c' : Nat) (zs' : List Int), e = .returned (.tuple #[.slice A n c, .slice A' n' c']) ∧ w'.ownsRow w.heap.size 3 1 (.slice A n c) n (zs.map (Value.int .i64)) ∧
    w'.ownsRow w.heap.size 3 1 (.slice A' n' c') n' (zs'.map (Value.int .i64)) ∧ n ≤ 5000 ∧ n' ≤ 5000 ∧ Below w.heap.size w w'
theorem bel_join {g B : Nat} {w w1 w2 : World} (h1 : Bel g B w w1) (h2 : Bel g B w1 w2) (hs1 : w.heap.size ≤ w1.heap.size) (hs2 : w1.heap.size ≤ w2.heap.size) : Bel g B w w2 :=
  ⟨h2.os.trans h1.os, h2.tape.trans h1.tape, h2.output.trans h1.output, by omega, fun k hk hkg => (h2.block k hk hkg).trans (h1.block k hk hkg)⟩
set_option maxHeartbeats 1000000 in
theorem spec_DrawAddSignals (A : Option Addr) (n c : Nat) (zs : List Int) (w : World) (hx : RowIn .u8 w A n c zs) :
    Calls Try.prog 36 #[.slice A n c] w (DrewSS w) := by
  go_enter Try.func36, Try.ntmps36
  go_wp2_with fail
  refine (rd_open _ _ _ _ _ hx).mono ?_
  rintro e w1 ⟨g, rfl, hg, hr1, hb1⟩
  have hs1 := hb1.size
  go_wp2_with fail
  refine (spec_l4Some _ _ _ _ hr1 (by omega) (by omega) (by omega)).mono ?_
  rintro e w2 ⟨A2, n2, c2, z2, rfl, ho2, hn2, hb2, hr2⟩
  have hs2 := hb2.size
  have HO2 := Lib.hid ho2
  clear ho2
  go_wp2_with fail
  refine (spec_l4Bad _ w1.heap.size _ _ _ z2 _ _ hr2 (by omega) HO2.out hr1.lt hs2 (by omega)).mono ?_
  rintro e w3 ⟨A3, n3, c3, z3, rfl, ho3, hn3, hb3, hr3⟩
  have hs3 := hb3.size
  have HO3 := Lib.hid ho3
  clear ho3
  have hb13 : Bel g w1.heap.size w1 w3 := bel_join hb2 hb3 hs2 hs3
  go_wp2_with fail
  refine (spec_l4Some _ _ _ _ hr3 (by omega) (by omega) (by omega)).mono ?_
  rintro e w4 ⟨A4, n4, c4, z4, rfl, ho4, hn4, hb4, hr4⟩
  have hs4 := hb4.size
  have HO4 := Lib.hid ho4
  clear ho4
  go_wp2_with fail
  refine (spec_l4Bad _ w3.heap.size _ _ _ z4 _ _ hr4 (by omega) HO4.out hr3.lt hs4 (by omega)).mono ?_
  rintro e w5 ⟨A5, n5, c5, z5, rfl, ho5, hn5, hb5, hr5⟩
  have hs5 := hb5.size
  have HO5 := Lib.hid ho5
  clear ho5
  have hb35 : Bel g w3.heap.size w3 w5 := bel_join hb4 hb5 hs4 hs5
  have hb15 := hb13.trans' hb35 (by omega)
  have ho3' := own_bel HO3.out hb35 hr1.lt
  go_wp2_with fail
  go_ret2
  exact ⟨A3, n3, c3, z3, A5, n5, c5, z5, rfl, own_mono ho3' (by omega), own_mono HO5.out (by omega), hn3, hn5, hb1.trans ((hb15.mono hs1).to_below hg)⟩

end Go.Proofs.Ythheafenlgdbiaa
