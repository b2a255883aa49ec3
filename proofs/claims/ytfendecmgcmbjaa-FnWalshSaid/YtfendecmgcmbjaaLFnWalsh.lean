/- The walk of the law FnWalsh. Conditions: as the theorem says. -/
import Derived.Test.YtfendecmgcmbjaaC3
import Derived.Test.YtfendecmgcmbjaaC6
import Derived.Test.YtfendecmgcmbjaaC10
import Derived.Test.YtfendecmgcmbjaaDrawW
import Derived.Test.YtfendecmgcmbjaaPureW
namespace Go.Proofs.Ytfendecmgcmbjaa
open Go.RowKit
set_option linter.unusedSimpArgs false
set_option linter.unusedVariables false

set_option maxRecDepth 100000 in
set_option maxHeartbeats 2000000 in
theorem walk_FnWalsh (A : Option Addr) (n c : Nat) (zs : List Int) (w : World) (hx : RowIn .u8 w A n c zs) :
    Calls Try.prog 5 #[.slice A n c] w fun e w' => e = .returned (.bool true) ∧ Below w.heap.size w w' := by
  by_cases hbig_n : 1048576 < n
  · clear hx
    go_enter Try.func5, Try.ntmps5
    go_wp2
    go_ret
    exact ⟨rfl, Below.refl _ _⟩
  replace hbig_n : n ≤ 1048576 := by omega
  have hB0 : Below w.heap.size w w := Below.refl _ _
  go_enter Try.func5, Try.ntmps5
  go_wp2_with fail
  refine (spec_DrawWalshCode _ _ _ _ _ hx).mono ?_
  rintro e w1 ⟨x, y, rfl, hb⟩
  have hS1 := hb.size
  have hB1 : Below w.heap.size w w1 := hB0.trans (hb.mono hB0.size)
  clear hb
  clear hx
  go_wp2_with fail
  refine (impl_WalshCode x y _).mono ?_
  rintro e w2 ⟨s, rfl, hs, hb⟩
  have hS2 := hb.size
  have hB2 : Below w.heap.size w w2 := hB1.trans (hb.mono hB1.size)
  clear hb
  go_wp2_with fail
  refine (spec_WalshCode x y _).mono ?_
  rintro e w3 ⟨r, rfl, hr, hb⟩
  have hS3 := hb.size
  have hB3 : Below w.heap.size w w3 := hB2.trans (hb.mono hB2.size)
  clear hb
  obtain rfl := str_eq hs hr
  clear hr
  by_cases hv : within 0 6 x = true ∧ within 0 (two x - 1) y = true
  · obtain ⟨hv1, hv2⟩ := hv
    have h1 := (within_iff _ _ _).1 hv1
    have h2 := (within_iff _ _ _).1 hv2
    obtain ⟨o, rfl⟩ := Int.eq_ofNat_of_zero_le h1.1
    obtain ⟨i, rfl⟩ := Int.eq_ofNat_of_zero_le h2.1
    have h3 := two_nat o
    have hi2 : i < 2 ^ o := by rw [h3] at h2; omega
    have ho6 : o ≤ 6 := by omega
    rw [walshC_at (o : Int) (2 ^ o) i (by omega) (by omega) h3 hi2] at hs ⊢
    replace hs : s.data.toList = walshL (2 ^ o) i := hs
    have hW1 := wrap_pow o (by omega)
    have HWI := Lib.hid (windex_walsh o i ho6 hi2)
    rw [← hs] at HWI
    have hss : s.size = 2 ^ o := by rw [str_size hs, walsh_len]
    have hP : 2 ^ o ≤ 64 := by have h5 : 2 ^ o ≤ 2 ^ 6 := Nat.pow_le_pow_right (by omega) ho6; exact h5
    have HSQ := Lib.hid (walsh_seq o i ho6)
    rw [← hs] at HSQ
    have HS := Lib.hid hs
    obtain ⟨N, hN⟩ : ∃ N, 2 ^ o = N := ⟨_, rfl⟩
    have HI := Lib.hid hi2
    have HN := Lib.hid hN
    rw [hN] at hW1 hss hP hi2
    clear hs h3 h2 h1 hv1 hv2 hN
    have hW2 : wrap64 ((2 : Int) ^ (o : Int).toNat) = (N : Int) := by rw [Int.toNat_natCast]; exact hW1
    go_wp2_with fail
    try rw [hW1]
    clear hW1 hW2
    refine (impl_WalshIndex s _ (by omega)).mono ?_
    rw [HWI.out]
    rintro e w4 ⟨rfl, hb⟩
    have hS4 := hb.size
    have hB4 : Below w.heap.size w w4 := hB3.trans (hb.mono hB3.size)
    clear hb
    go_wp2_with fail
    go_loopw [12] (fun v wr => ∃ j : Nat, j ≤ N ∧ v = .int .i64 j ∧ Below w.heap.size w wr) (fun v _ => N - (intOf v).toNat)
    case atStart => exact ⟨0, Nat.zero_le _, rfl, hB4⟩
    case round =>
      obtain ⟨j, hj, rfl, hbj⟩ := hrel
      by_cases hlt : j < N
      · have hsz := hbj.size
        have HJ := Lib.hid (show j < 2 ^ o by rw [HN.out]; exact hlt)
        obtain ⟨wo, rfl⟩ : ∃ wo, wo = wr := ⟨_, rfl⟩
        go_wp2_with fail
        refine (laws_ssWalsh o j _ ho6 HJ.out).mono ?_
        rintro e w5 ⟨t, rfl, ht, hb5⟩
        have hs5 := hb5.size
        have hB5 := hbj.trans (hb5.mono hsz)
        have HT := Lib.hid ht
        have HTQ := Lib.hid (walsh_seq o j ho6)
        rw [← ht] at HTQ
        have hts : t.size = N := by rw [str_size ht, walsh_len, HN.out]
        have HC := Lib.hid (show corL s.data.toList t.data.toList 0 = if i = j then (N : Int) else 0 by
          rw [corL_zero _ _ (by rw [len_data, len_data]; omega), HS.out, HT.out, walsh_ortho o i j HI.out HJ.out, HN.out])
        have HA := Lib.hid (show addBL s.data.toList t.data.toList = walshL (2 ^ o) (i ^^^ j) by rw [HS.out, HT.out, walsh_add])
        clear ht hb5
        go_wp2_with fail
        refine (impl_CrossOf s t 0 _ HSQ.out HTQ.out (by omega) (by omega)).mono ?_
        rintro e w6 hq
        obtain ⟨rfl, hb6⟩ := retD_below hq
        have hs6 := hb6.size
        have hB6 := hB5.trans (hb6.mono (by omega))
        have hxor := xor_i64 i j (by omega) (by omega)
        have HX := Lib.hid (Nat.xor_lt_two_pow HI.out HJ.out)
        obtain ⟨q, hqe⟩ : ∃ q, i ^^^ j = q := ⟨_, rfl⟩
        rw [hqe] at hxor HX HA
        clear hqe
        rw [HC.out]
        clear hq hb6 HC
        by_cases hij : i = j
        · rw [if_pos hij]
          have e0 : ((i : Int) == (j : Int)) = true := by rw [hij]; simp
          have e1 : ((N : Int) == 0) = false := beq_eq_false_iff_ne.2 (by omega)
          have e3 : ((i : Int) != (j : Int)) = false := by rw [bne, e0]; rfl
          clear hij
          go_wp2_with fail
          refine (impl_AddBits s t _ HSQ.out HTQ.out (by omega)).mono ?_
          rintro e w7 ⟨u, rfl, hu, hb7⟩
          have hs7 := hb7.size
          have hB7 := hB6.trans (hb7.mono (by omega))
          have HU := Lib.hid hu
          clear hu hb7
          go_wp2_with fail
          refine (laws_ssWalsh o q _ ho6 HX.out).mono ?_
          rintro e w8 ⟨x, rfl, hx, hb8⟩
          have hB8 := hB7.trans (hb8.mono (by omega))
          obtain rfl : u = x := str_eq HU.out (by rw [hx, HA.out])
          clear hx hb8
          go_wp2_with fail
          go_roundw
          case rel => exact ⟨j + 1, by omega, by go_num, hB8⟩
          case measure => simp [intOf] <;> omega
        · rw [if_neg hij]
          have e1 : ((0 : Int) == (N : Int)) = false := beq_eq_false_iff_ne.2 (by omega)
          have e2 : ((i : Int) == (j : Int)) = false := beq_eq_false_iff_ne.2 (by omega)
          have e3 : ((i : Int) != (j : Int)) = true := by rw [bne, e2]; rfl
          go_wp2_with fail
          refine (impl_AddBits s t _ HSQ.out HTQ.out (by omega)).mono ?_
          rintro e w7 ⟨u, rfl, hu, hb7⟩
          have hs7 := hb7.size
          have hB7 := hB6.trans (hb7.mono (by omega))
          have HU := Lib.hid hu
          clear hu hb7
          go_wp2_with fail
          refine (laws_ssWalsh o q _ ho6 HX.out).mono ?_
          rintro e w8 ⟨x, rfl, hx, hb8⟩
          have hB8 := hB7.trans (hb8.mono (by omega))
          obtain rfl : u = x := str_eq HU.out (by rw [hx, HA.out])
          clear hx hb8
          go_wp2_with fail
          go_roundw
          case rel => exact ⟨j + 1, by omega, by go_num, hB8⟩
          case measure => simp [intOf] <;> omega
      · obtain rfl : j = N := by omega
        go_wp2_with fail
        go_ret
        exact ⟨rfl, hbj⟩
  · have hn : walshC x y = ([], false) := by unfold walshC; rw [if_neg hv]
    rw [hn] at hs ⊢
    clear hn
    go_wp2_with fail
    go_ret
    exact ⟨rfl, hB3⟩

end Go.Proofs.Ytfendecmgcmbjaa
