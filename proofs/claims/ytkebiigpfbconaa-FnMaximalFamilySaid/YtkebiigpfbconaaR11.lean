/- Draws of two registers. Conditions: as each theorem says. -/
import Derived.Test.YtkebiigpfbconaaPrefs
import Derived.Test.YtkebiigpfbconaaMarkP
import Derived.Test.YtkebiigpfbconaaR10
namespace Go.Proofs.Ytkebiigpfbconaa
open Go.RowKit
set_option linter.unusedSimpArgs false
set_option linter.unusedVariables false
set_option maxRecDepth 100000

theorem prefsC_len0 (s : Int) : (prefsC s).length ≤ 70000 := by
  unfold prefsC
  split
  · have h1 := mtapsI_len s
    have h2 := pi_len s.toNat (mtapsI s) h1 (mtapsI s).length
    have h3 : (mtapsI s).length * 255 ≤ 255 * 255 := Nat.mul_le_mul_right _ h1
    omega
  · exact Nat.zero_le _
def DrawnIII (g : Nat) (K : Int) (w : World) (e : Ending) (w' : World) : Prop :=
  ∃ s a b : Int, e = .returned (.tuple #[.int .i64 s, .int .i64 a, .int .i64 b]) ∧ s ≤ 9 ∧ Bel g w.heap.size w w' ∧ Rdr w' g K
set_option maxHeartbeats 4000000 in
theorem spec_l3Taps (g : Nat) (K : Int) (w : World) (h : Rdr w g K) (hK : K ≤ 100000000) :
    Calls Try.prog 65 #[.pointer (some ⟨g, 0, none⟩)] w (DrawnIII g (K + 20) w) := by
  have hgl := h.lt
  go_enter Try.func65, Try.ntmps65
  go_wp2_with fail
  refine (rd_num_lit g [3, 3, 4, 2, 3, 5] _ 6 _ w h (by omega) rfl rfl (by decide) (by decide)).mono ?_
  rintro e w1 ⟨z, rfl, hz, hb1, hr1⟩
  obtain ⟨n, rfl, h2, h5⟩ : ∃ n : Nat, z = n ∧ 2 ≤ n ∧ n ≤ 5 := by
    simp only [List.mem_cons, List.not_mem_nil, or_false] at hz
    exact ⟨z.toNat, by omega, by omega, by omega⟩
  clear hz
  have hs1 := hb1.size
  have hplen := prefsC_len0 (n : Int)
  have hsome := mtapsL_some n h2 (by omega)
  have hmI := mtapsI_in n h2 (by omega)
  have hmlen := mtapsI_len (n : Int)
  rw [← hmI] at hsome
  go_wp2_with fail
  refine (spec_PreferredPairs (n : Int) w1).mono ?_
  rintro e w2 ⟨A, q, c, rfl, hop, hb2⟩
  have hr2 := hr1.below hb2
  have hB2 := hb1.trans' (Bel.of_below hb2) hs1
  have hs2 := hB2.size
  have hql := ownP_num hop
  clear hb2 hb1 hr1
  go_wp2_with fail
  refine (spec_MaximalTaps_any (n : Int) w2).mono ?_
  rintro e w3 ⟨B, m, d, rfl, hot, hb3⟩
  have hr3 := hr2.below hb3
  have hop3 := own_below hop hb3
  have hB3 := hB2.trans' (Bel.of_below hb3) hs2
  have hs3 := hB3.size
  have hml : (mtapsI (n : Int)).length = m := by have := hot.1; simpa using this
  have hg1 : g < w1.heap.size := by omega
  have hg2 : g < w2.heap.size := by omega
  clear hop hb3 hB2 hr2 hmI
  generalize mtapsI (n : Int) = ts at *
  generalize prefsC (n : Int) = ps at *
  go_wp2_with fail
  refine (rd_pick _ _ _ _ hr3 (by omega) (by omega) (by omega)).mono ?_
  rintro e w4 ⟨k, rfl, hk0, hk1, hk2, hb4, hr4⟩
  obtain ⟨k, rfl⟩ := Int.eq_ofNat_of_zero_le hk0
  have hk3 := hk1 (by omega)
  clear hk1 hk2
  have hot4 := own_bel hot hb4 hg2
  have hop4 := own_bel hop3 hb4 hg1
  have hB4 := hB3.trans' hb4 hs3
  have hs4 := hB4.size
  obtain ⟨b, o, x, rfl, hbl, hx, hcx⟩ := (own_rdI hot4).at (show k < m by omega)
  clear hot hop3 hb4 hB3 hr3
  go_wp2_with fail
  refine (rd_pick _ _ _ _ hr4 (by omega) (by omega) (by omega)).mono ?_
  rintro e w5 ⟨j, rfl, hj0, hj1, hj2, hb5, hr5⟩
  obtain ⟨j, rfl⟩ := Int.eq_ofNat_of_zero_le hj0
  have hj3 := hj1 (by omega)
  clear hj1 hj2
  have hot5 := own_bel hot4 hb5 hg2
  have hop5 := own_bel hop4 hb5 hg1
  have hB5 := hB4.trans' hb5 hs4
  have hs5 := hB5.size
  obtain ⟨b', o', y, hbo, hbl', hy, hcy⟩ := (own_rdI hot5).at (show j < m by omega)
  injection hbo with hbo
  injection hbo with hbo1 hbo2
  subst hbo1
  subst hbo2
  clear hot4 hop4 hb5 hB4 hr4 hcx hx hy hot5
  by_cases hq0 : q = 0
  · go_wp2_with fail
    refine (rd_pick _ _ _ _ hr5 (by omega) (by omega) (by omega)).mono ?_
    rintro e wt ⟨t, rfl, ht0, ht1, ht2, hbt, hrt⟩
    clear ht1 ht2
    have hBt := hB5.trans' hbt hs5
    have hst := hBt.size
    clear hbt
    by_cases c0 : t = 0
    · have d0 : (t == 0) = true := by simp [c0]
      clear c0
      go_wp2_with fail
      refine (rd_num_lit g [0, 1, -1, 2] _ 4 _ wt hrt (by omega) rfl rfl (by decide) (by decide)).mono ?_
      rintro e wu ⟨z, rfl, hz, hbu, hru⟩
      clear hz
      go_wp2_with fail
      go_ret3
      exact ⟨(n : Int), z, _, rfl, by omega, hBt.trans' hbu hst, hru.more (by omega)⟩
    · have d0 : (t == 0) = false := by simp [c0]
      clear c0
      by_cases c1 : t = 1
      · have d1 : (t == 1) = true := by simp [c1]
        clear c1
        go_wp2_with fail
        refine (rd_num_lit g [1, 7, 9, (n : Int) + 1] _ 4 _ wt hrt (by omega) rfl rfl (by decide) (by decide)).mono ?_
        rintro e wu ⟨z, rfl, hz, hbu, hru⟩
        have hz9 : z ≤ 9 := by
          simp only [List.mem_cons, List.not_mem_nil, or_false] at hz
          omega
        clear hz
        go_wp2_with fail
        go_ret3
        exact ⟨z, _, _, rfl, hz9, hBt.trans' hbu hst, hru.more (by omega)⟩
      · have d1 : (t == 1) = false := by simp [c1]
        clear c1
        go_wp2_with fail
        go_ret3
        exact ⟨(n : Int), _, _, rfl, by omega, hBt, hrt.more (by omega)⟩
  · go_wp2_with fail
    refine (rd_pick _ _ _ _ hr5 (by omega) (by omega) (by omega)).mono ?_
    rintro e w6 ⟨p, rfl, hp0, hp1, hp2, hb6, hr6⟩
    have hop6 := own_bel hop5 hb6 hg1
    have hB6 := hB5.trans' hb6 hs5
    have hs6 := hB6.size
    clear hp1 hp2 hb6 hop5
    by_cases hp : 0 < p
    · go_wp2_with fail
      refine (rd_pick _ _ _ _ hr6 (by omega) (by omega) (by omega)).mono ?_
      rintro e w7 ⟨u, rfl, hu0, hu1, hu2, hb7, hr7⟩
      obtain ⟨u, rfl⟩ := Int.eq_ofNat_of_zero_le hu0
      have hu3 := hu1 (by omega)
      have hop7 := own_bel hop6 hb7 hg1
      have hB7 := hB6.trans' hb7 hs6
      have hs7 := hB7.size
      clear hu1 hu2 hb7 hop6
      obtain ⟨bp, op, x1, x2, rfl, hbp, hpp, hc1, hc2⟩ := (own_rdP hop7).at (show u < q by omega)
      clear hop7 hpp
      go_wp2_with fail
      have hr8 := hr7.alloc (.cells #[.int .i64 x1, .int .i64 x2] 89)
      have hB8 := hB7.alloc hs7 (.cells #[.int .i64 x1, .int .i64 x2] 89)
      have hs8 := hB8.size
      generalize w7.alloc (.cells #[.int .i64 x1, .int .i64 x2] 89) = w8 at *
      refine (rd_pick _ _ _ _ hr8 (by omega) (by omega) (by omega)).mono ?_
      rintro e wt ⟨t, rfl, ht0, ht1, ht2, hbt, hrt⟩
      clear ht1 ht2
      have hBt := hB8.trans' hbt hs8
      have hst := hBt.size
      clear hbt
      by_cases c0 : t = 0
      · have d0 : (t == 0) = true := by simp [c0]
        clear c0
        go_wp2_with fail
        refine (rd_num_lit g [0, 1, -1, 2] _ 4 _ wt hrt (by omega) rfl rfl (by decide) (by decide)).mono ?_
        rintro e wu ⟨z, rfl, hz, hbu, hru⟩
        clear hz
        go_wp2_with fail
        go_ret3
        exact ⟨(n : Int), z, _, rfl, by omega, hBt.trans' hbu hst, hru.more (by omega)⟩
      · have d0 : (t == 0) = false := by simp [c0]
        clear c0
        by_cases c1 : t = 1
        · have d1 : (t == 1) = true := by simp [c1]
          clear c1
          go_wp2_with fail
          refine (rd_num_lit g [1, 7, 9, (n : Int) + 1] _ 4 _ wt hrt (by omega) rfl rfl (by decide) (by decide)).mono ?_
          rintro e wu ⟨z, rfl, hz, hbu, hru⟩
          have hz9 : z ≤ 9 := by
            simp only [List.mem_cons, List.not_mem_nil, or_false] at hz
            omega
          clear hz
          go_wp2_with fail
          go_ret3
          exact ⟨z, _, _, rfl, hz9, hBt.trans' hbu hst, hru.more (by omega)⟩
        · have d1 : (t == 1) = false := by simp [c1]
          clear c1
          go_wp2_with fail
          go_ret3
          exact ⟨(n : Int), _, _, rfl, by omega, hBt, hrt.more (by omega)⟩
    · go_wp2_with fail
      refine (rd_pick _ _ _ _ hr6 (by omega) (by omega) (by omega)).mono ?_
      rintro e wt ⟨t, rfl, ht0, ht1, ht2, hbt, hrt⟩
      clear ht1 ht2
      have hBt := hB6.trans' hbt hs6
      have hst := hBt.size
      clear hbt
      by_cases c0 : t = 0
      · have d0 : (t == 0) = true := by simp [c0]
        clear c0
        go_wp2_with fail
        refine (rd_num_lit g [0, 1, -1, 2] _ 4 _ wt hrt (by omega) rfl rfl (by decide) (by decide)).mono ?_
        rintro e wu ⟨z, rfl, hz, hbu, hru⟩
        clear hz
        go_wp2_with fail
        go_ret3
        exact ⟨(n : Int), z, _, rfl, by omega, hBt.trans' hbu hst, hru.more (by omega)⟩
      · have d0 : (t == 0) = false := by simp [c0]
        clear c0
        by_cases c1 : t = 1
        · have d1 : (t == 1) = true := by simp [c1]
          clear c1
          go_wp2_with fail
          refine (rd_num_lit g [1, 7, 9, (n : Int) + 1] _ 4 _ wt hrt (by omega) rfl rfl (by decide) (by decide)).mono ?_
          rintro e wu ⟨z, rfl, hz, hbu, hru⟩
          have hz9 : z ≤ 9 := by
            simp only [List.mem_cons, List.not_mem_nil, or_false] at hz
            omega
          clear hz
          go_wp2_with fail
          go_ret3
          exact ⟨z, _, _, rfl, hz9, hBt.trans' hbu hst, hru.more (by omega)⟩
        · have d1 : (t == 1) = false := by simp [c1]
          clear c1
          go_wp2_with fail
          go_ret3
          exact ⟨(n : Int), _, _, rfl, by omega, hBt, hrt.more (by omega)⟩
def DrewIII (w : World) (e : Ending) (w' : World) : Prop := ∃ s a b : Int, e = .returned (.tuple #[.int .i64 s, .int .i64 a, .int .i64 b]) ∧ s ≤ 9 ∧ Below w.heap.size w w'
set_option maxHeartbeats 1000000 in
theorem spec_DrawGoldFamily (A : Option Addr) (n c : Nat) (zs : List Int) (w : World) (hx : RowIn .u8 w A n c zs) :
    Calls Try.prog 25 #[.slice A n c] w (DrewIII w) := by
  go_enter Try.func25, Try.ntmps25
  go_wp2_with fail
  refine (rd_open _ _ _ _ _ hx).mono ?_
  rintro e w1 ⟨g, rfl, hg, hr1, hb1⟩
  have hs1 := hb1.size
  go_wp2_with fail
  refine (spec_l3Taps g _ w1 hr1 (by omega)).mono ?_
  rintro e w2 ⟨s, a, b, rfl, h9, hb2, hr2⟩
  go_wp2_with fail
  go_ret3
  exact ⟨s, a, b, rfl, h9, hb1.trans ((hb2.mono hs1).to_below hg)⟩

end Go.Proofs.Ytkebiigpfbconaa
