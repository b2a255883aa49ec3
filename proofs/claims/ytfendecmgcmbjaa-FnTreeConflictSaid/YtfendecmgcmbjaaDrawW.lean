/- Draws of chapter 3: indices, paths, lists of paths. Conditions: as each theorem says. -/
import Derived.Test.YtfendecmgcmbjaaDrawS
import Derived.Test.YtfendecmgcmbjaaC7
namespace Go.Proofs.Ytfendecmgcmbjaa
open Go.RowKit
set_option linter.unusedSimpArgs false
set_option linter.unusedVariables false
set_option maxRecDepth 100000

set_option maxHeartbeats 1000000 in
theorem spec_l3Bent (g : Nat) (s : ByteArray) (K : Int) (w : World) (h : Rdr w g K) (hK : K ≤ 1000000000) (hs : s.size ≤ 1000) :
    Calls Try.prog 55 #[.pointer (some ⟨g, 0, none⟩), .string s] w (DrawnT g (K + 1) 1010 w) := by
  go_enter Try.func55, Try.ntmps55
  go_wp2_with fail
  refine (rd_pick _ _ _ _ h (by omega) (by omega) (by omega)).mono ?_
  rintro e w1 ⟨m, rfl, hm0, hm1, hm2, hb, hr⟩
  clear hm1 hm2
  by_cases c0 : m = 0
  · have d0 : (m == 0) = true := by simp [c0]
    clear c0
    go_wp2_with fail
    go_ret
    exact ⟨_, rfl, by rw [ByteArray.size_append]; show s.size + 1 ≤ 1010; omega, hb, hr⟩
  · have d0 : (m == 0) = false := by simp [c0]
    clear c0
    by_cases c1 : m = 1
    · have d1 : (m == 1) = true := by simp [c1]
      clear c1
      go_wp2_with fail
      go_ret
      exact ⟨_, rfl, by show 7 ≤ 1010; omega, hb, hr⟩
    · have d1 : (m == 1) = false := by simp [c1]
      clear c1
      go_wp2_with fail
      go_ret
      exact ⟨_, rfl, by omega, hb, hr⟩
/-- Two numbers were drawn. -/
def DrawnII (g : Nat) (K : Int) (w : World) (e : Ending) (w' : World) : Prop :=
  ∃ x y : Int, e = .returned (.tuple #[.int .i64 x, .int .i64 y]) ∧ Bel g w.heap.size w w' ∧ Rdr w' g K
def DrewII (w : World) (e : Ending) (w' : World) : Prop := ∃ x y : Int, e = .returned (.tuple #[.int .i64 x, .int .i64 y]) ∧ Below w.heap.size w w'
def DrewI (w : World) (e : Ending) (w' : World) : Prop := ∃ x : Int, e = .returned (.int .i64 x) ∧ Below w.heap.size w w'
set_option maxHeartbeats 1000000 in
theorem spec_l3Index (g : Nat) (K : Int) (w : World) (h : Rdr w g K) (hK : K ≤ 1000000000) :
    Calls Try.prog 64 #[.pointer (some ⟨g, 0, none⟩)] w (DrawnII g (K + 4) w) := by
  go_enter Try.func64, Try.ntmps64
  go_wp2_with fail
  refine (rd_pick _ _ _ _ h (by omega) (by omega) (by omega)).mono ?_
  rintro e w1 ⟨m, rfl, hm0, hm1, hm2, hb1, hr1⟩
  have hm3 := hm1 (by omega)
  clear hm1 hm2
  have hs1 := hb1.size
  go_wp2_with fail
  refine (spec_l1Two m _ hm0 (by omega)).mono ?_
  rintro e w' ⟨rfl, rfl⟩
  have ht1 := two_pos m
  have ht2 := two_8 m (by omega)
  go_wp2_with fail
  refine (rd_pick _ _ _ _ hr1 (by omega) (by omega) (by omega)).mono ?_
  rintro e w2 ⟨i, rfl, hi0, hi1, hi2, hb2, hr2⟩
  clear hi1 hi2
  have hs2 := hb2.size
  go_wp2_with fail
  refine (rd_pick _ _ _ _ hr2 (by omega) (by omega) (by omega)).mono ?_
  rintro e w3 ⟨q, rfl, hq0, hq1, hq2, hb3, hr3⟩
  clear hq1 hq2
  have hs3 := hb3.size
  have hb13 := (hb1.trans' hb2 hs1).trans' hb3 (by omega)
  by_cases c0 : q = 0
  · have d0 : (q == 0) = true := by simp [c0]
    clear c0
    go_wp2_with fail
    refine (rd_num_lit g [-1, 7, 6] _ 3 _ w3 hr3 (by omega) rfl rfl (by decide) (by decide)).mono ?_
    rintro e w4 ⟨x, rfl, hx, hb4, hr4⟩
    clear hx
    go_wp2_with fail
    go_ret2
    exact ⟨x, i, rfl, hb13.trans' hb4 (by omega), hr4.more (by omega)⟩
  · have d0 : (q == 0) = false := by simp [c0]
    clear c0
    by_cases c1 : q = 1
    · have d1 : (q == 1) = true := by simp [c1]
      clear c1
      go_wp2_with fail
      refine (spec_l1Two m _ hm0 (by omega)).mono ?_
      rintro e w' ⟨rfl, rfl⟩
      go_wp2_with fail
      refine (rd_num_lit g [-1, two m, 9223372036854775807] _ 3 _ w3 hr3 (by omega) rfl rfl (by simp) (by decide)).mono ?_
      rintro e w4 ⟨x, rfl, hx, hb4, hr4⟩
      clear hx
      go_wp2_with fail
      go_ret2
      exact ⟨m, x, rfl, hb13.trans' hb4 (by omega), hr4.more (by omega)⟩
    · have d1 : (q == 1) = false := by simp [c1]
      clear c1
      go_wp2_with fail
      go_ret2
      exact ⟨m, i, rfl, hb13, hr3.more (by omega)⟩
set_option maxHeartbeats 1000000 in
theorem spec_DrawWalshCode (A : Option Addr) (n c : Nat) (zs : List Int) (w : World) (hx : RowIn .u8 w A n c zs) :
    Calls Try.prog 22 #[.slice A n c] w (DrewII w) := by
  go_enter Try.func22, Try.ntmps22
  go_wp2_with fail
  refine (rd_open _ _ _ _ _ hx).mono ?_
  rintro e w1 ⟨g, rfl, hg, hr1, hb1⟩
  have hs1 := hb1.size
  go_wp2_with fail
  refine (spec_l3Index g _ _ hr1 (by omega)).mono ?_
  rintro e w2 ⟨x, y, rfl, hb2, hr2⟩
  go_wp2_with fail
  go_ret2
  exact ⟨x, y, rfl, hb1.trans ((hb2.mono hs1).to_below hg)⟩
set_option maxHeartbeats 1000000 in
theorem spec_DrawFirstBarker (A : Option Addr) (n c : Nat) (zs : List Int) (w : World) (hx : RowIn .u8 w A n c zs) :
    Calls Try.prog 34 #[.slice A n c] w (DrewI w) := by
  go_enter Try.func34, Try.ntmps34
  go_wp2_with fail
  refine (rd_open _ _ _ _ _ hx).mono ?_
  rintro e w1 ⟨g, rfl, hg, hr1, hb1⟩
  have hs1 := hb1.size
  go_wp2_with fail
  refine (rd_pick _ _ _ _ hr1 (by omega) (by omega) (by omega)).mono ?_
  rintro e w2 ⟨m, rfl, hm0, hm1, hm2, hb2, hr2⟩
  clear hm1 hm2
  have hs2 := hb2.size
  by_cases c0 : m = 0
  · have d0 : (m == 0) = true := by simp [c0]
    clear c0
    go_wp2_with fail
    refine (rd_num_lit g [0, 14, -1, 12] _ 4 _ w2 hr2 (by omega) rfl rfl (by decide) (by decide)).mono ?_
    rintro e w3 ⟨x, rfl, hx, hb3, hr3⟩
    clear hx
    go_wp2_with fail
    go_ret
    exact ⟨x, rfl, hb1.trans (((hb2.trans' hb3 (by omega)).mono hs1).to_below hg)⟩
  · have d0 : (m == 0) = false := by simp [c0]
    clear c0
    go_wp2_with fail
    refine (rd_pick _ _ _ _ hr2 (by omega) (by omega) (by omega)).mono ?_
    rintro e w3 ⟨x, rfl, hx0, hx1, hx2, hb3, hr3⟩
    have hx3 := hx1 (by omega)
    clear hx1 hx2
    go_wp2_with fail
    go_ret
    exact ⟨_, rfl, hb1.trans (((hb2.trans' hb3 (by omega)).mono hs1).to_below hg)⟩
set_option maxHeartbeats 1000000 in
theorem spec_DrawTreeCode (A : Option Addr) (n c : Nat) (zs : List Int) (w : World) (hx : RowIn .u8 w A n c zs) :
    Calls Try.prog 26 #[.slice A n c] w (DrewT w) := by
  go_enter Try.func26, Try.ntmps26
  go_wp2_with fail
  refine (rd_open _ _ _ _ _ hx).mono ?_
  rintro e w1 ⟨g, rfl, hg, hr1, hb1⟩
  have hs1 := hb1.size
  go_wp2_with fail
  refine (spec_l1String g 6 _ _ hr1 (by omega) (by omega)).mono ?_
  rintro e w2 ⟨t, rfl, ht, hbits, hb2, hr2⟩
  have hs2 := hb2.size
  clear hbits
  go_wp2_with fail
  refine (spec_l3Bent g t _ _ hr2 (by omega) (by omega)).mono ?_
  rintro e w3 ⟨u, rfl, hu, hb3, hr3⟩
  go_wp2_with fail
  go_ret
  exact ⟨u, rfl, by omega, hb1.trans (((hb2.trans' hb3 (by omega)).mono hs1).to_below hg)⟩
set_option maxHeartbeats 1000000 in
theorem spec_DrawWalshIndex (A : Option Addr) (n c : Nat) (zs : List Int) (w : World) (hx : RowIn .u8 w A n c zs) :
    Calls Try.prog 18 #[.slice A n c] w (DrewT w) := by
  go_enter Try.func18, Try.ntmps18
  go_wp2_with fail
  refine (rd_open _ _ _ _ _ hx).mono ?_
  rintro e w1 ⟨g, rfl, hg, hr1, hb1⟩
  have hs1 := hb1.size
  go_wp2_with fail
  refine (spec_l3Index g _ _ hr1 (by omega)).mono ?_
  rintro e w2 ⟨x, y, rfl, hb2, hr2⟩
  have hs2 := hb2.size
  go_wp2_with fail
  refine (spec_WalshCode x y _).mono ?_
  rintro e w3 ⟨t, rfl, ht, hb3⟩
  have hs3 := hb3.size
  have hts : t.size ≤ 64 := by
    rw [str_size ht]
    unfold walshC
    split
    · rename_i h
      have h5 := (within_iff _ _ _).1 h.1
      have h6 := two_6 x h5.2
      have h7 := two_pos x
      show (walshL _ _).length ≤ 64
      rw [walsh_len]; omega
    · exact Nat.zero_le _
  have hr3 := hr2.below hb3
  have hb13 := hb2.trans' (Bel.of_below hb3) hs2
  clear ht
  go_wp2_with fail
  refine (rd_pick _ _ _ _ hr3 (by omega) (by omega) (by omega)).mono ?_
  rintro e w4 ⟨m, rfl, hm0, hm1, hm2, hb4, hr4⟩
  clear hm1 hm2
  have hs4 := hb4.size
  have hb14 := hb13.trans' hb4 (by omega)
  by_cases c0 : m = 0 ∧ 0 < t.size
  · obtain ⟨c0, c1⟩ := c0
    have d0 : (m == 0) = true := by simp [c0]
    have d1 : decide (0 < t.size) = true := decide_eq_true c1
    clear c0
    go_wp2_with fail
    refine (rd_pick _ _ _ _ hr4 (by omega) (by omega) (by omega)).mono ?_
    rintro e w5 ⟨k, rfl, hk0, hk1, hk2, hb5, hr5⟩
    obtain ⟨k, rfl⟩ := Int.eq_ofNat_of_zero_le hk0
    have hk3 := hk1 (by omega)
    clear hk1 hk2
    have hwk : IntKind.i64.wrap ((k : Int) + 1) = (k : Int) + 1 := IntWalk.i64_in _ ⟨by omega, by omega⟩
    go_wp2_with fail
    go_quiet (fail)
    go_wp2
    go_ret
    exact ⟨_, rfl, by rw [ByteArray.size_append, ByteArray.size_append, ByteArray.size_extract, ByteArray.size_extract]; show _ + 1 + _ ≤ 5000; omega, below_drewN (hb1.trans ((((hb14.trans' hb5 (by omega)).mono hs1).to_below hg))) _⟩
  · by_cases c1 : m = 0
    · have d0 : (m == 0) = true := by simp [c1]
      have d1 : decide (0 < t.size) = false := decide_eq_false fun h => c0 ⟨c1, h⟩
      clear c0 c1
      go_wp2_with fail
      refine (spec_l2Bad g t _ _ hr4 (by omega) (by omega)).mono ?_
      rintro e w5 ⟨u, rfl, hu, hb5, hr5⟩
      go_wp2_with fail
      go_ret
      exact ⟨u, rfl, hu, hb1.trans (((hb14.trans' hb5 (by omega)).mono hs1).to_below hg)⟩
    · have d0 : (m == 0) = false := by simp [c1]
      clear c0 c1
      go_wp2_with fail
      refine (spec_l2Bad g t _ _ hr4 (by omega) (by omega)).mono ?_
      rintro e w5 ⟨u, rfl, hu, hb5, hr5⟩
      go_wp2_with fail
      go_ret
      exact ⟨u, rfl, hu, hb1.trans (((hb14.trans' hb5 (by omega)).mono hs1).to_below hg)⟩
set_option maxHeartbeats 2000000 in
theorem spec_DrawTreeConflict (A : Option Addr) (n c : Nat) (zs : List Int) (w : World) (hx : RowIn .u8 w A n c zs) :
    Calls Try.prog 13 #[.slice A n c] w (DrewTT w) := by
  go_enter Try.func13, Try.ntmps13
  go_wp2_with fail
  refine (rd_open _ _ _ _ _ hx).mono ?_
  rintro e w1 ⟨g, rfl, hg, hr1, hb1⟩
  have hs1 := hb1.size
  go_wp2_with fail
  refine (spec_l1String g 6 _ _ hr1 (by omega) (by omega)).mono ?_
  rintro e w2 ⟨t, rfl, ht, hbits, hb2, hr2⟩
  have hs2 := hb2.size
  clear hbits
  have hwt : IntKind.i64.wrap ((t.size : Int) + 1) = (t.size : Int) + 1 := IntWalk.i64_in _ ⟨by omega, by omega⟩
  have hr2' : Rdr w2.drew g (0 + 1100) := hr2
  go_wp2_with fail
  go_region_with (first | (go_at_call 54; refine (rd_pick _ _ _ _ hr2' (by omega) (by omega) (by omega)).mono ?_; rintro e w3 ⟨k, rfl, hk0, hk1, hk2, hb3, hr3⟩; obtain ⟨k, rfl⟩ := Int.eq_ofNat_of_zero_le hk0; have hk3 := hk1 (by omega); clear hk1 hk2) | (go_at_call 53; refine (spec_l1String g 3 _ _ hr3 (by omega) (by omega)).mono ?_; rintro e w4 ⟨u, rfl, hu, hbits, hb4, hr4⟩; clear hbits))
  all_goals
    have hs3 : w2.heap.size ≤ w3.heap.size := hb3.size
    have hs4 := hb4.size
    have hb24 : Bel g w2.heap.size w2 w4 := Bel.trans' (⟨hb3.os, hb3.tape, hb3.output, hb3.size, hb3.block⟩ : Bel g w2.heap.size w2 w3) hb4 hs3
    have hb14 := hb2.trans' hb24 hs2
    clear hb3 hb24 hr2'
    by_cases h6 : 6 < k + u.size
    · go_wp2_with fail
      refine (spec_l3Bent g t _ _ hr4 (by omega) (by omega)).mono ?_
      rintro e w5 ⟨p, rfl, hp, hb5, hr5⟩
      have hs5 := hb5.size
      go_wp2_with fail
      refine (spec_l3Bent g _ _ _ hr5 (by omega) (by simp only [ByteArray.size_append, ByteArray.size_extract]; omega)).mono ?_
      rintro e w6 ⟨q, rfl, hq, hb6, hr6⟩
      go_wp2_with fail
      go_ret2
      exact ⟨p, q, rfl, by omega, by omega, hb1.trans ((((hb14.trans' hb5 (by omega)).trans' hb6 (by omega)).mono hs1).to_below hg)⟩
    · go_wp2_with fail
      refine (spec_l3Bent g t _ _ hr4 (by omega) (by omega)).mono ?_
      rintro e w5 ⟨p, rfl, hp, hb5, hr5⟩
      have hs5 := hb5.size
      go_wp2_with fail
      refine (spec_l3Bent g _ _ _ hr5 (by omega) (by simp only [ByteArray.size_append, ByteArray.size_extract]; omega)).mono ?_
      rintro e w6 ⟨q, rfl, hq, hb6, hr6⟩
      go_wp2_with fail
      go_ret2
      exact ⟨p, q, rfl, by omega, by omega, hb1.trans ((((hb14.trans' hb5 (by omega)).trans' hb6 (by omega)).mono hs1).to_below hg)⟩

end Go.Proofs.Ytfendecmgcmbjaa
