/- The walk of the law FnFirstBarker. Conditions: as the theorem says. -/
import Derived.Test.YtfendecmgcmbjaaC5
import Derived.Test.YtfendecmgcmbjaaDrawW
import Derived.Test.YtfendecmgcmbjaaPureB
namespace Go.Proofs.Ytfendecmgcmbjaa
open Go.RowKit
set_option linter.unusedSimpArgs false
set_option linter.unusedVariables false

set_option maxRecDepth 100000 in
set_option maxHeartbeats 2000000 in
theorem walk_FnFirstBarker (A : Option Addr) (n c : Nat) (zs : List Int) (w : World) (hx : RowIn .u8 w A n c zs) :
    Calls Try.prog 9 #[.slice A n c] w fun e w' => e = .returned (.bool true) ∧ Below w.heap.size w w' := by
  by_cases hbig_n : 1048576 < n
  · clear hx
    go_enter Try.func9, Try.ntmps9
    go_wp2
    go_ret
    exact ⟨rfl, Below.refl _ _⟩
  replace hbig_n : n ≤ 1048576 := by omega
  have hB0 : Below w.heap.size w w := Below.refl _ _
  go_enter Try.func9, Try.ntmps9
  go_wp2_with fail
  refine (spec_DrawFirstBarker _ _ _ _ _ hx).mono ?_
  rintro e w1 ⟨z, rfl, hb⟩
  have hS1 := hb.size
  have hB1 : Below w.heap.size w w1 := hB0.trans (hb.mono hB0.size)
  clear hb
  clear hx
  go_wp2_with fail
  refine (impl_FirstBarker z _).mono ?_
  rintro e w2 ⟨s, rfl, hs, hb⟩
  have hS2 := hb.size
  have hB2 : Below w.heap.size w w2 := hB1.trans (hb.mono hB1.size)
  clear hb
  go_wp2_with fail
  refine (spec_FirstBarker z _).mono ?_
  rintro e w3 ⟨r, rfl, hr, hb⟩
  have hS3 := hb.size
  have hB3 : Below w.heap.size w w3 := hB2.trans (hb.mono hB2.size)
  clear hb
  obtain rfl := str_eq hs hr
  clear hr
  by_cases hz : 1 ≤ z ∧ z ≤ 13
  · obtain ⟨hz1, hz2⟩ := hz
    obtain ⟨m, rfl⟩ := Int.eq_ofNat_of_zero_le (show 0 ≤ z by omega)
    by_cases hk : m = 1 ∨ m = 2 ∨ m = 3 ∨ m = 4 ∨ m = 5 ∨ m = 7 ∨ m = 11 ∨ m = 13
    · obtain ⟨l, hl, hbk, hlen, h0⟩ := bark_known m hk
      rw [hl] at hs ⊢
      have hsz : s.size = m := by rw [str_size hs]; exact hlen
      have HBK := Lib.hid (show barkB s.data.toList = true by rw [hs]; exact hbk)
      have hpos : 0 < s.size := by omega
      have hs0 : ((s[0]'hpos).toNat : Int) = 48 := by
        have h5 := data_at s 0 hpos
        rw [hs] at h5
        have h6 := Option.some.inj (h5.symm.trans h0)
        rw [h6]; rfl
      clear hs hl hbk hlen h0
      rcases hk with rfl | rfl | rfl | rfl | rfl | rfl | rfl | rfl
      all_goals
        go_wp2_with fail
        refine (impl_BarkerValid s _ (by unfold maxLen; omega)).mono ?_
        rw [HBK.out]
        rintro e w4 hq
        obtain ⟨rfl, hb⟩ := retD_below hq
        clear hq
        have hS4 := hb.size
        have hB4 : Below w.heap.size w w4 := hB3.trans (hb.mono hB3.size)
        clear hb
        go_wp2_with fail
        go_ret
        exact ⟨rfl, hB4⟩
    · have hl := bark_others m (by omega)
      rw [hl] at hs ⊢
      clear hl
      rcases (show m = 6 ∨ m = 8 ∨ m = 9 ∨ m = 10 ∨ m = 12 by omega) with rfl | rfl | rfl | rfl | rfl
      all_goals
        go_wp2_with fail
        go_ret
        exact ⟨rfl, hB3⟩
  · have hl := fbarkC_out z hz
    rw [hl] at hs ⊢
    clear hl
    by_cases h1 : z < 1
    · have d1 : decide (z < 1) = true := decide_eq_true h1
      go_wp2_with fail
      go_ret
      exact ⟨rfl, hB3⟩
    · have d1 : decide (z < 1) = false := decide_eq_false h1
      have d2 : decide (13 < z) = true := decide_eq_true (by omega)
      go_wp2_with fail
      go_ret
      exact ⟨rfl, hB3⟩

end Go.Proofs.Ytfendecmgcmbjaa
