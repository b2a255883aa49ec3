/- Codes of families, draws of codes. Conditions: as each theorem says. -/
import Derived.Test.YtlddefmakjnfdaaR4
import Derived.Test.YtlddefmakjnfdaaPureW
import Derived.Test.YtlddefmakjnfdaaPureH
import Derived.Test.YtlddefmakjnfdaaC3
import Derived.Test.YtlddefmakjnfdaaC11
namespace Go.Proofs.Ytlddefmakjnfdaa
open Go.RowKit
set_option linter.unusedSimpArgs false
set_option linter.unusedVariables false
set_option maxRecDepth 100000

def goldL (n a b : Nat) (k : Int) : List UInt8 :=
  if k = -2 then runL n a 1 (2 ^ n - 1) else if k = -1 then runL n b 1 (2 ^ n - 1) else addBL (runL n a 1 (2 ^ n - 1)) (rotL (runL n b 1 (2 ^ n - 1)) k.toNat)
theorem goldL_a (n a b : Nat) : goldL n a b (-2) = runL n a 1 (2 ^ n - 1) := by unfold goldL; rw [if_pos rfl]
theorem goldL_b (n a b : Nat) : goldL n a b (-1) = runL n b 1 (2 ^ n - 1) := by unfold goldL; rw [if_neg (by decide), if_pos rfl]
theorem goldL_k (n a b k : Nat) : goldL n a b k = addBL (runL n a 1 (2 ^ n - 1)) (rotL (runL n b 1 (2 ^ n - 1)) k) := by unfold goldL; rw [if_neg (by omega), if_neg (by omega), Int.toNat_natCast]
theorem goldL_len (n a b : Nat) (k : Int) (h : k < (2 ^ n - 1 : Nat)) : (goldL n a b k).length = 2 ^ n - 1 := by
  unfold goldL
  split
  · exact runL_len _ _ _ _
  · split
    · exact runL_len _ _ _ _
    · rw [addBL_len _ _ (by rw [rotL_len _ _ (by rw [runL_len]; omega), runL_len, runL_len]), runL_len]
theorem goldL_bits (n a b : Nat) (k : Int) : (goldL n a b k).all isBit = true := by
  unfold goldL
  split
  · exact runL_bits _ _ _ _
  · split
    · exact runL_bits _ _ _ _
    · exact addBL_bits _ _
set_option maxHeartbeats 1000000 in
theorem spec_l3Gold (n a b : Nat) (k : Int) (w : World) (h2 : 2 ≤ n) (h8 : n ≤ 8) (ha : a < 2 ^ n) (hb : b < 2 ^ n) (hk0 : -2 ≤ k) (hk : k < (2 ^ n - 1 : Nat)) :
    Calls Try.prog 97 #[.int .i64 n, .int .i64 a, .int .i64 b, .int .i64 k] w (RetStr (goldL n a b k) w) := by
  have h256 := pow_256 n h8
  have HAB := Lib.hid (show a < 2 ^ n ∧ b < 2 ^ n from ⟨ha, hb⟩)
  clear ha hb
  by_cases c0 : k = -2
  · subst c0
    clear hk h256
    go_enter Try.func97, Try.ntmps97
    go_wp2_with fail
    refine (spec_l3Sequence n a w h2 h8 HAB.out.1).mono ?_
    rintro e w1 ⟨u, rfl, hu, hb⟩
    have HU := Lib.hid hu
    clear hu
    go_wp2_with fail
    go_ret
    exact ⟨u, rfl, by rw [goldL_a]; exact HU.out, hb⟩
  · by_cases c1 : k = -1
    · subst c1
      clear hk h256
      go_enter Try.func97, Try.ntmps97
      go_wp2_with fail
      refine (spec_l3Sequence n b w h2 h8 HAB.out.2).mono ?_
      rintro e w1 ⟨u, rfl, hu, hb⟩
      have HU := Lib.hid hu
      clear hu
      go_wp2_with fail
      go_ret
      exact ⟨u, rfl, by rw [goldL_b]; exact HU.out, hb⟩
    · obtain ⟨j, rfl⟩ := Int.eq_ofNat_of_zero_le (show 0 ≤ k by omega)
      have d0 : ((j : Int) == -2) = false := beq_eq_false_iff_ne.2 c0
      have d1 : ((j : Int) == -1) = false := beq_eq_false_iff_ne.2 c1
      have hj : j < 2 ^ n - 1 := by omega
      obtain ⟨N, hN⟩ : ∃ N, 2 ^ n - 1 = N := ⟨_, rfl⟩
      have HN := Lib.hid hN
      rw [hN] at hj
      have hN255 : N ≤ 255 := by omega
      clear hN c0 c1 hk hk0 h256
      go_enter Try.func97, Try.ntmps97
      go_wp2_with fail
      refine (spec_l3Sequence n a w h2 h8 HAB.out.1).mono ?_
      rintro e w1 ⟨u, rfl, hu, hb1⟩
      rw [HN.out] at hu
      have hus : u.size = N := by rw [str_size hu, runL_len]
      have HU := Lib.hid hu
      clear hu
      go_wp2_with fail
      refine (spec_l3Sequence n b w1 h2 h8 HAB.out.2).mono ?_
      rintro e w2 ⟨v, rfl, hv, hb2⟩
      rw [HN.out] at hv
      have hvs : v.size = N := by rw [str_size hv, runL_len]
      have HV := Lib.hid hv
      clear hv
      have hB2 := hb1.trans (hb2.mono hb1.size)
      clear hb1 hb2
      go_wp2_with fail
      refine (spec_l2Shift v j _ (by omega) (by omega)).mono ?_
      rintro e w3 ⟨t, m, rfl, ht, rfl⟩
      rw [HV.out] at ht
      have hts : t.size = N := by rw [str_size ht, rotL_len _ _ (by rw [runL_len]; omega), runL_len]
      have HT := Lib.hid ht
      clear ht
      go_wp2_with fail
      refine (spec_l2Add u t _ (by omega) (by omega) (by rw [HU.out]; exact runL_bits _ _ _ _) (by rw [HT.out]; exact rotL_bits _ _ (runL_bits _ _ _ _))).mono ?_
      rintro e w4 ⟨s, rfl, hs, hb4⟩
      rw [HU.out, HT.out] at hs
      have HS := Lib.hid hs
      have hB4 : Below w.heap.size w w4 := hB2.trans ((show Below w2.heap.size w2 w4 from ⟨hb4.os, hb4.tape, hb4.output, hb4.size, hb4.block⟩).mono hB2.size)
      clear hs hb4 hB2
      go_wp2_with fail
      go_ret
      exact ⟨s, rfl, by rw [goldL_k, HN.out]; exact HS.out, hB4⟩
theorem walshL_bitsA (n i : Nat) : (walshL n i).all isBit = true := by
  rw [List.all_eq_true]
  intro c hc
  obtain ⟨k, hk⟩ := List.getElem?_of_mem hc
  have hl : k < n := by
    have := (List.getElem?_eq_some_iff.1 hk).1
    simpa [walshL] using this
  rw [walshL_at n i k hl] at hk
  obtain rfl := Option.some.inj hk
  exact bitC_bit _
theorem walshL_lenA (n i : Nat) : (walshL n i).length = n := by simp [walshL]
theorem drawnQ_str {g : Nat} {K : Int} {l : List UInt8} {w w1 w2 : World} {e : Ending} (h1 : 1 ≤ l.length) (h2 : l.length ≤ 64) (h3 : l.all isBit = true) (h : RetStr l w1 e w2) (hb : Bel g w.heap.size w w1) (hr : Rdr w1 g K) : DrawnQ g K w e w2 := by
  obtain ⟨u, he, hu, hb2⟩ := h
  refine ⟨u, he, ?_, ?_, by rw [hu]; exact h3, hb.trans' (Bel.of_below hb2) hb.size, hr.below hb2⟩
  · rw [str_size hu]; exact h1
  · rw [str_size hu]; exact h2
set_option maxHeartbeats 2000000 in
theorem spec_l4Code (g : Nat) (K : Int) (w : World) (h : Rdr w g K) (hK : K ≤ 100000000) :
    Calls Try.prog 75 #[.pointer (some ⟨g, 0, none⟩)] w (DrawnQ g (K + 1300) w) := by
  have hgl := h.lt
  go_enter Try.func75, Try.ntmps75
  go_wp2_with fail
  refine (rd_pick _ _ _ _ h (by omega) (by omega) (by omega)).mono ?_
  rintro e w1 ⟨q, rfl, hq0, hq1, hq2, hb1, hr1⟩
  clear hq1 hq2
  have hs1 := hb1.size
  by_cases c0 : q = 0
  · have d0 : (q == 0) = true := by simp [c0]
    clear c0
    go_wp2_with fail
    refine (rd_pick _ _ _ _ hr1 (by omega) (by omega) (by omega)).mono ?_
    rintro e w2 ⟨k, rfl, hk0, hk1, hk2, hb2, hr2⟩
    have hk3 := hk1 (by omega)
    have hB2 := hb1.trans' hb2 hs1
    clear hk1 hk2 hb1 hb2 hr1
    have ht1 := two_pos k
    have ht2 := two_6 k (by omega)
    go_wp2_with fail
    refine (spec_l3Walsh k 0 w2 hk0 (by omega) (by omega) (by omega)).mono ?_
    rintro e w3 ⟨u, rfl, hu, hb3⟩
    go_wp2_with fail
    go_ret
    exact drawnQ_str (by rw [walshL_lenA]; omega) (by rw [walshL_lenA]; omega) (walshL_bitsA _ _) ⟨u, rfl, hu, hb3⟩ hB2 (hr2.more (by omega))
  · have d0 : (q == 0) = false := by simp [c0]
    clear c0
    by_cases c1 : q = 1
    · have d1 : (q == 1) = true := by simp [c1]
      clear c1
      go_wp2_with fail
      refine (rd_pick _ _ _ _ hr1 (by omega) (by omega) (by omega)).mono ?_
      rintro e w2 ⟨k, rfl, hk0, hk1, hk2, hb2, hr2⟩
      have hk3 := hk1 (by omega)
      have hB2 := hb1.trans' hb2 hs1
      clear hk1 hk2 hb1 hb2 hr1
      go_wp2_with fail
      refine (spec_l3Walsh 3 k w2 (by omega) (by omega) (by omega) (by omega)).mono ?_
      rintro e w3 ⟨u, rfl, hu, hb3⟩
      go_wp2_with fail
      go_ret
      have h8 : (two 3).toNat = 8 := by decide
      exact drawnQ_str (by rw [walshL_lenA, h8]; omega) (by rw [walshL_lenA, h8]; omega) (walshL_bitsA _ _) ⟨u, rfl, hu, hb3⟩ hB2 (hr2.more (by omega))
    · have d1 : (q == 1) = false := by simp [c1]
      clear c1
      by_cases c2 : q = 2
      · have d2 : (q == 2) = true := by simp [c2]
        clear c2
        go_wp2_with fail
        refine (rd_pick _ _ _ _ hr1 (by omega) (by omega) (by omega)).mono ?_
        rintro e w2 ⟨k, rfl, hk0, hk1, hk2, hb2, hr2⟩
        have hk3 := hk1 (by omega)
        have hB2 := hb1.trans' hb2 hs1
        clear hk1 hk2 hb1 hb2 hr1
        go_wp2_with fail
        refine (spec_l3Gold 3 3 5 (k - 2) w2 (by omega) (by omega) (by decide) (by decide) (by omega) (by show k - 2 < ((7 : Nat) : Int); omega)).mono ?_
        rintro e w3 ⟨u, rfl, hu, hb3⟩
        go_wp2_with fail
        go_ret
        have hl := goldL_len 3 3 5 (k - 2) (by show k - 2 < ((7 : Nat) : Int); omega)
        have h7 : 2 ^ 3 - 1 = 7 := by decide
        exact drawnQ_str (by rw [hl, h7]; omega) (by rw [hl, h7]; omega) (goldL_bits _ _ _ _) ⟨u, rfl, hu, hb3⟩ hB2 (hr2.more (by omega))
      · have d2 : (q == 2) = false := by simp [c2]
        clear c2
        go_wp2_with fail
        refine (spec_l2Some g _ w1 hr1 (by omega)).mono ?_
        rintro e w2 ⟨u, rfl, hu1, hu2, hub, hb2, hr2⟩
        have HUB := Lib.hid hub
        clear hub
        go_wp2_with fail
        go_ret
        exact ⟨u, rfl, hu1, hu2, HUB.out, hb1.trans' hb2 hs1, hr2.more (by omega)⟩
set_option maxHeartbeats 2000000 in
theorem spec_DrawSpreadBits (A : Option Addr) (n c : Nat) (zs : List Int) (w : World) (hx : RowIn .u8 w A n c zs) :
    Calls Try.prog 36 #[.slice A n c] w (DrewTT w) := by
  go_enter Try.func36, Try.ntmps36
  go_wp2_with fail
  refine (rd_open _ _ _ _ _ hx).mono ?_
  rintro e w1 ⟨g, rfl, hg, hr1, hb1⟩
  have hs1 := hb1.size
  go_wp2_with fail
  refine (spec_l1String g 10 _ _ hr1 (by omega) (by omega)).mono ?_
  rintro e w2 ⟨t, rfl, ht, hbits, hb2, hr2⟩
  have hs2 := hb2.size
  clear hbits hr1
  go_wp2_with fail
  refine (spec_l4Code g _ _ hr2 (by omega)).mono ?_
  rintro e w3 ⟨u, rfl, hu1, hu2, hbits, hb3, hr3⟩
  have hB3 := hb2.trans' hb3 hs2
  have hs3 := hB3.size
  clear hbits hr2 hb2 hb3
  go_wp2_with fail
  refine (rd_pick _ _ _ _ hr3 (by omega) (by omega) (by omega)).mono ?_
  rintro e w4 ⟨m, rfl, hm0, hm1, hm2, hb4, hr4⟩
  have hB4 := hB3.trans' hb4 hs3
  have hs4 := hB4.size
  clear hm1 hm2 hr3 hB3 hb4
  by_cases c0 : m = 0
  · have d0 : (m == 0) = true := by simp [c0]
    clear c0
    go_wp2_with fail
    refine (rd_num_lit g [300, 301, 50] _ 3 _ w4 hr4 (by omega) rfl rfl (by decide) (by decide)).mono ?_
    rintro e w5 ⟨z, rfl, hz, hb5, hr5⟩
    have hz2 : 0 ≤ z ∧ z ≤ 301 := by
      simp only [List.mem_cons, List.not_mem_nil, or_false] at hz
      omega
    obtain ⟨z, rfl⟩ := Int.eq_ofNat_of_zero_le hz2.1
    have hB5 := hB4.trans' hb5 hs4
    have hs5 := hB5.size
    clear hz hr4 hB4 hb5
    go_wp2_with fail
    refine (spec_l9Many _ [48, 49] z _ rfl (by decide) (by omega)).mono ?_
    rintro e w' ⟨v, rfl, hv, rfl⟩
    have hvs : v.size = z * 2 := by rw [str_size hv, flat_len]; rfl
    clear hv
    go_wp2_with fail
    refine (spec_l2Bad g v _ _ hr5 (by omega) (by omega)).mono ?_
    rintro e w6 ⟨p, rfl, hp, hb6, hr6⟩
    have hB6 := hB5.trans' hb6 hs5
    have hs6 := hB6.size
    go_wp2_with fail
    refine (spec_l2Bad g u _ _ hr6 (by omega) (by omega)).mono ?_
    rintro e w7 ⟨q, rfl, hq, hb7, hr7⟩
    go_wp2_with fail
    go_ret2
    exact ⟨p, q, rfl, hp, hq, hb1.trans (((hB6.trans' hb7 hs6).mono hs1).to_below hg)⟩
  · have d0 : (m == 0) = false := by simp [c0]
    clear c0
    go_wp2_with fail
    refine (spec_l2Bad g t _ _ hr4 (by omega) (by omega)).mono ?_
    rintro e w6 ⟨p, rfl, hp, hb6, hr6⟩
    have hB6 := hB4.trans' hb6 hs4
    have hs6 := hB6.size
    go_wp2_with fail
    refine (spec_l2Bad g u _ _ hr6 (by omega) (by omega)).mono ?_
    rintro e w7 ⟨q, rfl, hq, hb7, hr7⟩
    go_wp2_with fail
    go_ret2
    exact ⟨p, q, rfl, hp, hq, hb1.trans (((hB6.trans' hb7 hs6).mono hs1).to_below hg)⟩

end Go.Proofs.Ytlddefmakjnfdaa
