/- Draws of two sequences. Conditions: as each theorem says. -/
import Derived.Test.YteagfipmllplgaaR4
namespace Go.Proofs.Yteagfipmllplgaa
open Go.RowKit
set_option linter.unusedSimpArgs false
set_option linter.unusedVariables false
set_option maxRecDepth 100000

set_option maxHeartbeats 400000 in
theorem spec_l2Mod_any (k n : Nat) (w : World) (hn : 1 ≤ n) (hn2 : n ≤ 1048576) (hk : k ≤ 1048576) :
    Calls Try.prog 87 #[.int .i64 k, .int .i64 n] w fun e w' => e = .returned (.int .i64 ((k % n : Nat) : Int)) ∧ w = w' := by
  obtain ⟨r, hr⟩ : ∃ r, k % n = r := ⟨_, rfl⟩
  have hrn : r < n := by rw [← hr]; exact Nat.mod_lt _ (by omega)
  have hrt : (k : Int).tmod (n : Int) = (r : Int) := by rw [Int.tmod_eq_emod_of_nonneg (by omega), ← hr]; rfl
  have hrt0 : (k : Int) % (n : Int) = (r : Int) := by rw [← hr]; rfl
  have hrt2 : ((r : Int) + (n : Int)).tmod (n : Int) = (r : Int) := by rw [Int.tmod_eq_emod_of_nonneg (by omega), Int.add_emod_right]; exact Int.emod_eq_of_lt (by omega) (by omega)
  have hrt3 : ((r : Int) + (n : Int)) % (n : Int) = (r : Int) := by rw [Int.add_emod_right]; exact Int.emod_eq_of_lt (by omega) (by omega)
  have hz1 : ((n : Int) == 0) = false := beq_eq_false_iff_ne.2 (by omega)
  have hz2 : ¬ (n : Int) = 0 := by omega
  have hz3 : ¬ n = 0 := by omega
  rw [hr]
  clear hr
  go_enter Try.func87, Try.ntmps87
  go_wp2
  go_ret
  exact ⟨rfl, rfl⟩
set_option maxHeartbeats 1000000 in
theorem spec_l2Shift_any (s : ByteArray) (k : Nat) (w : World) (hs : s.size ≤ 1048576) (h1 : 1 ≤ s.size) (hk : k ≤ 1048576) :
    Calls Try.prog 88 #[.string s, .int .i64 k] w fun e w' => ∃ (t : ByteArray) (m : Nat), e = .returned (.string t) ∧ t.data.toList = rotL s.data.toList (k % s.size) ∧ w' = w.drewN m := by
  have hlt : k % s.size < s.size := Nat.mod_lt _ (by omega)
  obtain ⟨r, hr⟩ : ∃ r, k % s.size = r := ⟨_, rfl⟩
  rw [hr] at hlt ⊢
  have HR := Lib.hid hr
  clear hr
  go_enter Try.func88, Try.ntmps88
  go_wp2_with (go_at_call 87; refine (spec_l2Mod_any k s.size _ (by omega) hs hk).mono ?_; rintro e w' ⟨rfl, rfl⟩; rw [HR.out])
  go_quiet (fail)
  go_wp2
  go_ret
  refine ⟨_, _, rfl, ?_, rfl⟩
  rw [str_app (l := s.data.toList.drop r) (m := s.data.toList.take r) ?_ ?_]; rfl
  · rw [← ByteArray.toList_eq, Lib.extract_toList, List.take_of_length_le (by rw [List.length_drop, len_data]; exact Nat.le_refl _)]
  · rw [← ByteArray.toList_eq]; exact extract0_list s r
set_option maxHeartbeats 1000000 in
theorem spec_l2Open (g : Nat) (K : Int) (w : World) (h : Rdr w g K) (hK : K ≤ 100000000) :
    Calls Try.prog 84 #[.pointer (some ⟨g, 0, none⟩)] w (DrawnT g (K + 1202) 5000 w) := by
  go_enter Try.func84, Try.ntmps84
  go_wp2_with fail
  refine (spec_l2Some g K w h (by omega)).mono ?_
  rintro e w1 ⟨s, rfl, hs1, hs2, hs3, hb, hr⟩
  go_wp2_with fail
  refine (spec_l2Bad g s _ w1 hr (by omega) (by omega)).mono ?_
  rintro e w2 ⟨t, rfl, ht, hb2, hr2⟩
  go_wp2_with fail
  go_ret
  exact ⟨t, rfl, ht, hb.trans' hb2 hb.size, hr2.more (by omega)⟩
def DrawnTT (g : Nat) (K : Int) (w : World) (e : Ending) (w' : World) : Prop :=
  ∃ t u : ByteArray, e = .returned (.tuple #[.string t, .string u]) ∧ t.size ≤ 5000 ∧ u.size ≤ 5000 ∧ Bel g w.heap.size w w' ∧ Rdr w' g K
set_option maxHeartbeats 4000000 in
theorem spec_l2Two (g : Nat) (K : Int) (w : World) (h : Rdr w g K) (hK : K ≤ 100000000) :
    Calls Try.prog 92 #[.pointer (some ⟨g, 0, none⟩)] w (DrawnTT g (K + 3000) w) := by
  go_enter Try.func92, Try.ntmps92
  go_wp2_with fail
  refine (spec_l2Some g K w h (by omega)).mono ?_
  rintro e w1 ⟨s, rfl, hs1, hs2, hs3, hb1, hr1⟩
  have hz1 := hb1.size
  clear hs3
  go_wp2_with fail
  refine (rd_pick _ _ _ _ hr1 (by omega) (by omega) (by omega)).mono ?_
  rintro e w2 ⟨k, rfl, hk0, hk1, hk2, hb2, hr2⟩
  obtain ⟨k, rfl⟩ := Int.eq_ofNat_of_zero_le hk0
  have hk3 := hk1 (by omega)
  have hB2 := hb1.trans' hb2 hz1
  have hz2 := hB2.size
  clear hk1 hk2 hb1 hb2
  go_wp2_with fail
  refine (spec_l2Shift_any s k w2 (by omega) (by omega) (by omega)).mono ?_
  rintro e w3 ⟨t, m, rfl, ht, hw3⟩
  have hts : t.size = s.size := by rw [str_size ht, rotL_len _ _ (by rw [len_data]; exact Nat.le_of_lt (Nat.mod_lt _ (by omega))), len_data]
  have hb3 : Below w2.heap.size w2 w3 := by rw [hw3]; exact below_drewN (Below.refl _ _) m
  have hr3 := hr2.below hb3
  have hB3 := hB2.trans' (Bel.of_below hb3) hz2
  have hz3 := hB3.size
  clear ht hw3 hb3
  go_wp2_with fail
  refine (rd_pick _ _ _ _ hr3 (by omega) (by omega) (by omega)).mono ?_
  rintro e w4 ⟨q, rfl, hq0, hq1, hq2, hb4, hr4⟩
  clear hq1 hq2
  have hB4 := hB3.trans' hb4 hz3
  have hz4 := hB4.size
  clear hb4
  by_cases c0 : q = 0
  · have d0 : (q == 0) = true := by simp [c0]
    clear c0
    go_wp2_with fail
    refine (rd_pick _ _ _ _ hr4 (by omega) (by omega) (by omega)).mono ?_
    rintro e w5 ⟨j, rfl, hj0, hj1, hj2, hb5, hr5⟩
    obtain ⟨j, rfl⟩ := Int.eq_ofNat_of_zero_le hj0
    have hj3 := hj1 (by omega)
    have hB5 := hB4.trans' hb5 hz4
    have hz5 := hB5.size
    clear hj1 hj2 hb5
    have hjt : j < t.size := by omega
    have hsz1 : (ByteArray.mk #[49]).size = 1 := rfl
    go_wp2_with fail
    go_quiet (fail)
    rename_i nq
    have hb6 : Below w5.heap.size w5 (w5.drewN nq) := below_drewN (Below.refl _ _) nq
    have hr6 := hr5.below hb6
    have hB6 := hB5.trans' (Bel.of_below hb6) hz5
    have hz6 := hB6.size
    clear hb6
    generalize w5.drewN nq = w6 at *
    go_wp2_with fail
    refine (rd_pick _ _ _ _ hr6 (by omega) (by omega) (by omega)).mono ?_
    rintro e wp ⟨q2, rfl, hq20, hq21, hq22, hbp, hrp⟩
    clear hq21 hq22
    have hBp := hB6.trans' hbp hz6
    have hsp := hBp.size
    clear hbp
    by_cases z0 : q2 = 0
    · have dz : (q2 == 0) = true := by simp [z0]
      clear z0
      go_wp2_with fail
      refine (spec_l2Some g _ wp hrp (by omega)).mono ?_
      rintro e wq ⟨v, rfl, hv1, hv2, hv3, hbq, hrq⟩
      have hBq := hBp.trans' hbq hsp
      have hsq := hBq.size
      clear hbq
      go_wp2_with fail
      refine (spec_l2Bad g s _ wq hrq (by omega) (by omega)).mono ?_
      rintro e wr ⟨x, rfl, hx, hbr, hrr⟩
      have hBr := hBq.trans' hbr hsq
      have hsr := hBr.size
      clear hbr
      go_wp2_with fail
      refine (spec_l2Bad g v _ wr hrr (by omega) (by omega)).mono ?_
      rintro e wt ⟨y, rfl, hy, hbt, hrt⟩
      go_wp2_with fail
      go_ret2
      exact ⟨x, y, rfl, hx, hy, hBr.trans' hbt hsr, hrt.more (by omega)⟩
    · have dz : (q2 == 0) = false := by simp [z0]
      clear z0
      go_wp2_with fail
      refine (spec_l2Bad g s _ wp hrp (by omega) (by omega)).mono ?_
      rintro e wr ⟨x, rfl, hx, hbr, hrr⟩
      have hBr := hBp.trans' hbr hsp
      have hsr := hBr.size
      clear hbr
      go_wp2_with fail
      refine (spec_l2Bad g _ _ wr hrr (by omega) (by simp [ByteArray.size_append, ByteArray.size_extract]; omega)).mono ?_
      rintro e wt ⟨y, rfl, hy, hbt, hrt⟩
      go_wp2_with fail
      go_ret2
      exact ⟨x, y, rfl, hx, hy, hBr.trans' hbt hsr, hrt.more (by omega)⟩
  · have d0 : (q == 0) = false := by simp [c0]
    clear c0
    by_cases c1 : q = 1
    · have d1 : (q == 1) = true := by simp [c1]
      clear c1
      go_wp2_with fail
      go_loopw [5] (fun v wr => ∃ u : ByteArray, v = .string u ∧ u.size ≤ s.size ∧ Bel g w.heap.size w wr ∧ Rdr wr g (K + 1300 + u.size)) (fun v _ => match v with | .string u => s.size - u.size | _ => 0)
      case atStart => exact ⟨⟨#[]⟩, rfl, Nat.zero_le _, hB4, hr4.more (by omega)⟩
      case round =>
        obtain ⟨u, rfl, hus, hBu, hru⟩ := hrel
        have hzu := hBu.size
        by_cases hlt : u.size < s.size
        · obtain ⟨wo, rfl⟩ : ∃ wo, wo = wr := ⟨_, rfl⟩
          go_wp2_with fail
          refine (rd_pick _ _ _ _ hru (by omega) (by omega) (by omega)).mono ?_
          rintro e w5 ⟨j, rfl, hj0, hj1, hj2, hb5, hr5⟩
          obtain ⟨j, rfl⟩ := Int.eq_ofNat_of_zero_le hj0
          have hj3 := hj1 (by omega)
          have hB5 := hBu.trans' hb5 hzu
          have hz5 := hB5.size
          clear hj1 hj2 hb5
          go_wp2_with fail
          refine (spec_l9Dec j w5 (by omega)).mono ?_
          rintro e w6 ⟨x, rfl, hx, hb6⟩
          have hxs : x.size = 1 := by rw [str_size hx]; rfl
          clear hx
          have hr6 := hr5.below hb6
          have hB6 := hB5.trans' (Bel.of_below hb6) hz5
          clear hb6
          go_wp2_with fail
          go_roundw
          case rel => exact ⟨_, rfl, by rw [ByteArray.size_append]; omega, hB6, hr6.more (by rw [ByteArray.size_append]; omega)⟩
          case measure => simp [ByteArray.size_append]; omega
        · have hru' := hru.more (show K + 1300 + u.size ≤ K + 1364 by omega)
          obtain ⟨wo, rfl⟩ : ∃ wo, wo = wr := ⟨_, rfl⟩
          go_wp2_with fail
          refine (rd_pick _ _ _ _ hru' (by omega) (by omega) (by omega)).mono ?_
          rintro e wp ⟨q2, rfl, hq20, hq21, hq22, hbp, hrp⟩
          clear hq21 hq22
          have hBp := hBu.trans' hbp hzu
          have hsp := hBp.size
          clear hbp
          by_cases z0 : q2 = 0
          · have dz : (q2 == 0) = true := by simp [z0]
            clear z0
            go_wp2_with fail
            refine (spec_l2Some g _ wp hrp (by omega)).mono ?_
            rintro e wq ⟨v, rfl, hv1, hv2, hv3, hbq, hrq⟩
            have hBq := hBp.trans' hbq hsp
            have hsq := hBq.size
            clear hbq
            go_wp2_with fail
            refine (spec_l2Bad g s _ wq hrq (by omega) (by omega)).mono ?_
            rintro e wr ⟨x, rfl, hx, hbr, hrr⟩
            have hBr := hBq.trans' hbr hsq
            have hsr := hBr.size
            clear hbr
            go_wp2_with fail
            refine (spec_l2Bad g v _ wr hrr (by omega) (by omega)).mono ?_
            rintro e wt ⟨y, rfl, hy, hbt, hrt⟩
            go_wp2_with fail
            go_ret2
            exact ⟨x, y, rfl, hx, hy, hBr.trans' hbt hsr, hrt.more (by omega)⟩
          · have dz : (q2 == 0) = false := by simp [z0]
            clear z0
            go_wp2_with fail
            refine (spec_l2Bad g s _ wp hrp (by omega) (by omega)).mono ?_
            rintro e wr ⟨x, rfl, hx, hbr, hrr⟩
            have hBr := hBp.trans' hbr hsp
            have hsr := hBr.size
            clear hbr
            go_wp2_with fail
            refine (spec_l2Bad g _ _ wr hrr (by omega) (by omega)).mono ?_
            rintro e wt ⟨y, rfl, hy, hbt, hrt⟩
            go_wp2_with fail
            go_ret2
            exact ⟨x, y, rfl, hx, hy, hBr.trans' hbt hsr, hrt.more (by omega)⟩
    · have d1 : (q == 1) = false := by simp [c1]
      clear c1
      go_wp2_with fail
      refine (rd_pick _ _ _ _ hr4 (by omega) (by omega) (by omega)).mono ?_
      rintro e wp ⟨q2, rfl, hq20, hq21, hq22, hbp, hrp⟩
      clear hq21 hq22
      have hBp := hB4.trans' hbp hz4
      have hsp := hBp.size
      clear hbp
      by_cases z0 : q2 = 0
      · have dz : (q2 == 0) = true := by simp [z0]
        clear z0
        go_wp2_with fail
        refine (spec_l2Some g _ wp hrp (by omega)).mono ?_
        rintro e wq ⟨v, rfl, hv1, hv2, hv3, hbq, hrq⟩
        have hBq := hBp.trans' hbq hsp
        have hsq := hBq.size
        clear hbq
        go_wp2_with fail
        refine (spec_l2Bad g s _ wq hrq (by omega) (by omega)).mono ?_
        rintro e wr ⟨x, rfl, hx, hbr, hrr⟩
        have hBr := hBq.trans' hbr hsq
        have hsr := hBr.size
        clear hbr
        go_wp2_with fail
        refine (spec_l2Bad g v _ wr hrr (by omega) (by omega)).mono ?_
        rintro e wt ⟨y, rfl, hy, hbt, hrt⟩
        go_wp2_with fail
        go_ret2
        exact ⟨x, y, rfl, hx, hy, hBr.trans' hbt hsr, hrt.more (by omega)⟩
      · have dz : (q2 == 0) = false := by simp [z0]
        clear z0
        go_wp2_with fail
        refine (spec_l2Bad g s _ wp hrp (by omega) (by omega)).mono ?_
        rintro e wr ⟨x, rfl, hx, hbr, hrr⟩
        have hBr := hBp.trans' hbr hsp
        have hsr := hBr.size
        clear hbr
        go_wp2_with fail
        refine (spec_l2Bad g _ _ wr hrr (by omega) (by omega)).mono ?_
        rintro e wt ⟨y, rfl, hy, hbt, hrt⟩
        go_wp2_with fail
        go_ret2
        exact ⟨x, y, rfl, hx, hy, hBr.trans' hbt hsr, hrt.more (by omega)⟩
set_option maxHeartbeats 1000000 in
theorem spec_DrawCrossValues (A : Option Addr) (n c : Nat) (zs : List Int) (w : World) (hx : RowIn .u8 w A n c zs) :
    Calls Try.prog 53 #[.slice A n c] w (DrewTT w) := by
  go_enter Try.func53, Try.ntmps53
  go_wp2_with fail
  refine (rd_open _ _ _ _ _ hx).mono ?_
  rintro e w1 ⟨g, rfl, hg, hr1, hb1⟩
  have hs1 := hb1.size
  go_wp2_with fail
  refine (spec_l2Two g _ w1 hr1 (by omega)).mono ?_
  rintro e w2 ⟨t, u, rfl, ht, hu, hb2, hr2⟩
  go_wp2_with fail
  go_ret2
  exact ⟨t, u, rfl, ht, hu, hb1.trans ((hb2.mono hs1).to_below hg)⟩
set_option maxHeartbeats 1000000 in
theorem spec_DrawRunLengths (A : Option Addr) (n c : Nat) (zs : List Int) (w : World) (hx : RowIn .u8 w A n c zs) :
    Calls Try.prog 47 #[.slice A n c] w (DrewT w) := by
  go_enter Try.func47, Try.ntmps47
  go_wp2_with fail
  refine (rd_open _ _ _ _ _ hx).mono ?_
  rintro e w1 ⟨g, rfl, hg, hr1, hb1⟩
  have hs1 := hb1.size
  go_wp2_with fail
  refine (rd_pick _ _ _ _ hr1 (by omega) (by omega) (by omega)).mono ?_
  rintro e w2 ⟨q, rfl, hq0, hq1, hq2, hb2, hr2⟩
  clear hq1 hq2
  have hs2 := hb2.size
  by_cases c0 : q = 0
  · have d0 : (q == 0) = true := by simp [c0]
    clear c0
    go_wp2_with fail
    refine (rd_pick _ _ _ _ hr2 (by omega) (by omega) (by omega)).mono ?_
    rintro e w3 ⟨k, rfl, hk0, hk1, hk2, hb3, hr3⟩
    obtain ⟨k, rfl⟩ := Int.eq_ofNat_of_zero_le hk0
    have hk3 := hk1 (by omega)
    clear hk1 hk2
    go_wp2_with fail
    rw [show (1 + (k : Int)) = ((1 + k : Nat) : Int) by omega]
    refine (spec_l9Many _ [49] (1 + k) _ rfl (by decide) (by omega)).mono ?_
    rintro e w4 ⟨t, rfl, ht, rfl⟩
    have hts : t.size = 1 + k := by rw [str_size ht, flat_len]; simp
    clear ht
    go_wp2_with fail
    go_ret
    exact ⟨t, rfl, by omega, hb1.trans (((hb2.trans' hb3 hs2).mono hs1).to_below hg)⟩
  · have d0 : (q == 0) = false := by simp [c0]
    clear c0
    go_wp2_with fail
    refine (spec_l2Open g _ w2 hr2 (by omega)).mono ?_
    rintro e w3 ⟨t, rfl, ht, hb3, hr3⟩
    go_wp2_with fail
    go_ret
    exact ⟨t, rfl, ht, hb1.trans (((hb2.trans' hb3 hs2).mono hs1).to_below hg)⟩

end Go.Proofs.Yteagfipmllplgaa
