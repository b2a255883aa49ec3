/- Draws of Barker codes, families of strings and maximal registers. Conditions: as each theorem says. -/
import Derived.Test.YtkebiigpfbconaaR10
import Derived.Test.YtkebiigpfbconaaDrawW
import Derived.Test.YtkebiigpfbconaaR11
namespace Go.Proofs.Ytkebiigpfbconaa
open Go.RowKit
set_option linter.unusedSimpArgs false
set_option linter.unusedVariables false
set_option maxRecDepth 100000

theorem fbarkC_len (z : Int) : (fbarkC z).1.length ≤ 13 := by
  unfold fbarkC
  split
  · rename_i h
    have h5 := (within_iff _ _ _).1 h
    split
    · show (binL _ _).length ≤ 13
      rw [binL_len]; omega
    · exact Nat.zero_le _
  · exact Nat.zero_le _
set_option maxHeartbeats 2000000 in
theorem spec_DrawBarkerValid (A : Option Addr) (n c : Nat) (zs : List Int) (w : World) (hx : RowIn .u8 w A n c zs) :
    Calls Try.prog 8 #[.slice A n c] w (DrewT w) := by
  go_enter Try.func8, Try.ntmps8
  go_wp2_with fail
  refine (rd_open _ _ _ _ _ hx).mono ?_
  rintro e w1 ⟨g, rfl, hg, hr1, hb1⟩
  have hs1 := hb1.size
  go_wp2_with fail
  refine (rd_num_lit g [3, 4, 5, 7, 2, 1, 11, 13] _ 8 _ w1 hr1 (by omega) rfl rfl (by decide) (by decide)).mono ?_
  rintro e w2 ⟨x, rfl, hx, hb2, hr2⟩
  clear hx
  have hs2 := hb2.size
  go_wp2_with fail
  refine (spec_FirstBarker x w2).mono ?_
  rintro e w3 ⟨t, rfl, ht, hb3⟩
  have hts : t.size ≤ 13 := by rw [str_size ht]; exact fbarkC_len x
  have hr3 := hr2.below hb3
  have hb13 := hb2.trans' (Bel.of_below hb3) hs2
  have hs3 := hb13.size
  clear ht hb2 hb3 hr2
  obtain ⟨b, hb⟩ : ∃ b, (fbarkC x).2 = b := ⟨_, rfl⟩
  rw [hb]
  clear hb
  cases b
  · go_wp2_with fail
    refine (spec_l2Open g _ w3 hr3 (by omega)).mono ?_
    rintro e w4 ⟨u, rfl, hu, hb4, hr4⟩
    go_wp2_with fail
    go_ret
    exact ⟨u, rfl, hu, hb1.trans (((hb13.trans' hb4 hs3).mono hs1).to_below hg)⟩
  · go_wp2_with fail
    refine (rd_pick _ _ _ _ hr3 (by omega) (by omega) (by omega)).mono ?_
    rintro e w4 ⟨m, rfl, hm0, hm1, hm2, hb4, hr4⟩
    clear hm1 hm2
    have hb14 := hb13.trans' hb4 hs3
    have hs4 := hb14.size
    clear hb4 hb13 hr3
    by_cases c0 : 0 < m
    · have d0 : decide (0 < m) = true := decide_eq_true c0
      clear c0
      go_wp2_with fail
      refine (rd_pick _ _ _ _ hr4 (by omega) (by omega) (by omega)).mono ?_
      rintro e w5 ⟨k, rfl, hk0, hk1, hk2, hb5, hr5⟩
      obtain ⟨k, rfl⟩ := Int.eq_ofNat_of_zero_le hk0
      have hk3 := hk1 (by omega)
      clear hk1 hk2
      have hb15 := hb14.trans' hb5 hs4
      have hs5 := hb15.size
      clear hb5 hb14 hr4
      by_cases c1 : k < t.size
      · have d1 : decide ((k : Int) < (t.size : Int)) = true := decide_eq_true (by omega)
        go_wp2_with fail
        refine (rd_pick _ _ _ _ hr5 (by omega) (by omega) (by omega)).mono ?_
        rintro e w6 ⟨q, rfl, hq0, hq1, hq2, hb6, hr6⟩
        clear hq1 hq2
        have hb16 := hb15.trans' hb6 hs5
        clear hb6 hb15 hr5
        have hwk : IntKind.i64.wrap ((k : Int) + 1) = (k : Int) + 1 := IntWalk.i64_in _ ⟨by omega, by omega⟩
        by_cases c2 : q = 0
        · have d2 : (q == 0) = true := by simp [c2]
          clear c2
          go_wp2_with fail
          go_quiet (fail)
          go_wp2
          go_ret
          exact ⟨_, rfl, by rw [ByteArray.size_append, ByteArray.size_append, ByteArray.size_extract, ByteArray.size_extract]; show _ + 1 + _ ≤ 5000; omega, below_drewN (hb1.trans ((hb16.mono hs1).to_below hg)) _⟩
        · have d2 : (q == 0) = false := by simp [c2]
          clear c2
          go_wp2_with fail
          go_ret
          exact ⟨_, rfl, by omega, hb1.trans ((hb16.mono hs1).to_below hg)⟩
      · have d1 : decide ((k : Int) < (t.size : Int)) = false := decide_eq_false (by omega)
        go_wp2_with fail
        go_ret
        exact ⟨_, rfl, by omega, hb1.trans ((hb15.mono hs1).to_below hg)⟩
    · have d0 : decide (0 < m) = false := decide_eq_false c0
      clear c0
      go_wp2_with fail
      refine (spec_l2Open g _ w4 hr4 (by omega)).mono ?_
      rintro e w5 ⟨u, rfl, hu, hb5, hr5⟩
      go_wp2_with fail
      go_ret
      exact ⟨u, rfl, hu, hb1.trans (((hb14.trans' hb5 hs4).mono hs1).to_below hg)⟩
/-- A size and taps were drawn. -/
def DrewSZ (w : World) (e : Ending) (w' : World) : Prop := ∃ s a : Int, e = .returned (.tuple #[.int .i64 s, .int .i64 a]) ∧ s ≤ 9 ∧ Below w.heap.size w w'
set_option maxHeartbeats 1000000 in
theorem spec_DrawMaximalSequence (A : Option Addr) (n c : Nat) (zs : List Int) (w : World) (hx : RowIn .u8 w A n c zs) :
    Calls Try.prog 32 #[.slice A n c] w (DrewSZ w) := by
  go_enter Try.func32, Try.ntmps32
  go_wp2_with fail
  refine (rd_open _ _ _ _ _ hx).mono ?_
  rintro e w1 ⟨g, rfl, hg, hr1, hb1⟩
  have hs1 := hb1.size
  go_wp2_with fail
  refine (spec_l3Taps g _ w1 hr1 (by omega)).mono ?_
  rintro e w2 ⟨s, a, b, rfl, h9, hb2, hr2⟩
  go_wp2_with fail
  go_ret2
  exact ⟨s, a, rfl, h9, hb1.trans ((hb2.mono hs1).to_below hg)⟩

end Go.Proofs.Ytkebiigpfbconaa
