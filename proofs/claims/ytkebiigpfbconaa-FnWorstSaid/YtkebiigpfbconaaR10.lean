/- Draws of two sequences. Conditions: as each theorem says. -/
import Derived.Test.YtkebiigpfbconaaR4
namespace Go.Proofs.Ytkebiigpfbconaa
open Go.RowKit
set_option linter.unusedSimpArgs false
set_option linter.unusedVariables false
set_option maxRecDepth 100000

set_option maxHeartbeats 400000 in
theorem spec_l2Mod_any (k n : Nat) (w : World) (hn : 1 ≤ n) (hn2 : n ≤ 1048576) (hk : k ≤ 1048576) :
    Calls Try.prog 61 #[.int .i64 k, .int .i64 n] w fun e w' => e = .returned (.int .i64 ((k % n : Nat) : Int)) ∧ w = w' := by
  obtain ⟨r, hr⟩ : ∃ r, k % n = r := ⟨_, rfl⟩
  have hrn : r < n := by rw [← hr]; exact Nat.mod_lt _ (by omega)
  have hrt : (k : Int).tmod (n : Int) = (r : Int) := by rw [Int.tmod_eq_emod_of_nonneg (by omega), ← hr]; rfl
  have hrt0 : (k : Int) % (n : Int) = (r : Int) := by rw [← hr]; rfl
  have hrt2 : ((r : Int) + (n : Int)).tmod (n : Int) = (r : Int) := by rw [Int.tmod_eq_emod_of_nonneg (by omega), Int.add_emod_right]; exact Int.emod_eq_of_lt (by omega) (by omega)
  have hrt3 : ((r : Int) + (n : Int)) % (n : Int) = (r : Int) := by rw [Int.add_emod_right]; exact Int.emod_eq_of_lt (by omega) (by omega)
  have hz1 : ((n : Int) == 0) = false := beq_eq_false_iff_ne.2 (by omega)
  have hz2 : ¬ (n : Int) = 0 := by omega
  have hz3 : ¬ n = 0 := by omega
  rw [hr]
  clear hr
  go_enter Try.func61, Try.ntmps61
  go_wp2
  go_ret
  exact ⟨rfl, rfl⟩
set_option maxHeartbeats 1000000 in
theorem spec_l2Shift_any (s : ByteArray) (k : Nat) (w : World) (hs : s.size ≤ 1048576) (h1 : 1 ≤ s.size) (hk : k ≤ 1048576) :
    Calls Try.prog 62 #[.string s, .int .i64 k] w fun e w' => ∃ (t : ByteArray) (m : Nat), e = .returned (.string t) ∧ t.data.toList = rotL s.data.toList (k % s.size) ∧ w' = w.drewN m := by
  have hlt : k % s.size < s.size := Nat.mod_lt _ (by omega)
  obtain ⟨r, hr⟩ : ∃ r, k % s.size = r := ⟨_, rfl⟩
  rw [hr] at hlt ⊢
  have HR := Lib.hid hr
  clear hr
  go_enter Try.func62, Try.ntmps62
  go_wp2_with (go_at_call 61; refine (spec_l2Mod_any k s.size _ (by omega) hs hk).mono ?_; rintro e w' ⟨rfl, rfl⟩; rw [HR.out])
  go_quiet (fail)
  go_wp2
  go_ret
  refine ⟨_, _, rfl, ?_, rfl⟩
  rw [str_app (l := s.data.toList.drop r) (m := s.data.toList.take r) ?_ ?_]; rfl
  · rw [← ByteArray.toList_eq, Lib.extract_toList, List.take_of_length_le (by rw [List.length_drop, len_data]; exact Nat.le_refl _)]
  · rw [← ByteArray.toList_eq]; exact extract0_list s r
set_option maxHeartbeats 1000000 in
theorem spec_l2Open (g : Nat) (K : Int) (w : World) (h : Rdr w g K) (hK : K ≤ 100000000) :
    Calls Try.prog 44 #[.pointer (some ⟨g, 0, none⟩)] w (DrawnT g (K + 1202) 5000 w) := by
  go_enter Try.func44, Try.ntmps44
  go_wp2_with fail
  refine (spec_l2Some g K w h (by omega)).mono ?_
  rintro e w1 ⟨s, rfl, hs1, hs2, hs3, hb, hr⟩
  go_wp2_with fail
  refine (spec_l2Bad g s _ w1 hr (by omega) (by omega)).mono ?_
  rintro e w2 ⟨t, rfl, ht, hb2, hr2⟩
  go_wp2_with fail
  go_ret
  exact ⟨t, rfl, ht, hb.trans' hb2 hb.size, hr2.more (by omega)⟩
set_option maxHeartbeats 1000000 in
theorem spec_DrawRunLengths (A : Option Addr) (n c : Nat) (zs : List Int) (w : World) (hx : RowIn .u8 w A n c zs) :
    Calls Try.prog 20 #[.slice A n c] w (DrewT w) := by
  go_enter Try.func20, Try.ntmps20
  go_wp2_with fail
  refine (rd_open _ _ _ _ _ hx).mono ?_
  rintro e w1 ⟨g, rfl, hg, hr1, hb1⟩
  have hs1 := hb1.size
  go_wp2_with fail
  refine (rd_pick _ _ _ _ hr1 (by omega) (by omega) (by omega)).mono ?_
  rintro e w2 ⟨q, rfl, hq0, hq1, hq2, hb2, hr2⟩
  clear hq1 hq2
  have hs2 := hb2.size
  by_cases c0 : q = 0
  · have d0 : (q == 0) = true := by simp [c0]
    clear c0
    go_wp2_with fail
    refine (rd_pick _ _ _ _ hr2 (by omega) (by omega) (by omega)).mono ?_
    rintro e w3 ⟨k, rfl, hk0, hk1, hk2, hb3, hr3⟩
    obtain ⟨k, rfl⟩ := Int.eq_ofNat_of_zero_le hk0
    have hk3 := hk1 (by omega)
    clear hk1 hk2
    go_wp2_with fail
    rw [show (1 + (k : Int)) = ((1 + k : Nat) : Int) by omega]
    refine (spec_l9Many _ [49] (1 + k) _ rfl (by decide) (by omega)).mono ?_
    rintro e w4 ⟨t, rfl, ht, rfl⟩
    have hts : t.size = 1 + k := by rw [str_size ht, flat_len]; simp
    clear ht
    go_wp2_with fail
    go_ret
    exact ⟨t, rfl, by omega, hb1.trans (((hb2.trans' hb3 hs2).mono hs1).to_below hg)⟩
  · have d0 : (q == 0) = false := by simp [c0]
    clear c0
    go_wp2_with fail
    refine (spec_l2Open g _ w2 hr2 (by omega)).mono ?_
    rintro e w3 ⟨t, rfl, ht, hb3, hr3⟩
    go_wp2_with fail
    go_ret
    exact ⟨t, rfl, ht, hb1.trans (((hb2.trans' hb3 hs2).mono hs1).to_below hg)⟩

end Go.Proofs.Ytkebiigpfbconaa
