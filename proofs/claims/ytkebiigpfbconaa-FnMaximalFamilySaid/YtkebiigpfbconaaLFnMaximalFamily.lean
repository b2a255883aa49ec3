/- The walk of the law on maximal sequences of one size. Conditions: as the theorem says. -/
import Derived.Test.YtkebiigpfbconaaC17
import Derived.Test.YtkebiigpfbconaaC18
import Derived.Test.YtkebiigpfbconaaDrawB
import Derived.Test.YtkebiigpfbconaaPrefs
import Derived.Test.YtkebiigpfbconaaC10
import Derived.Test.YtkebiigpfbconaaLawT
import Derived.Deep.RegionHeld3
namespace Go.Proofs.Ytkebiigpfbconaa
open Go.RowKit
set_option linter.unusedSimpArgs false
set_option linter.unusedVariables false
set_option maxRecDepth 100000

/-- Is one of the decimations by 1 to k - 1 a shift of the other sequence? -/
def someB (S O : List UInt8) (k : Nat) : Bool := (List.range k).any fun i => decide (1 ≤ i) && shB (decL S i) O
theorem someB_one (S O : List UInt8) : someB S O 1 = false := rfl
theorem someB_step (S O : List UInt8) (k : Nat) (h : 1 ≤ k) : someB S O (k + 1) = (someB S O k || shB (decL S k) O) := by
  unfold someB
  rw [List.range_succ, List.any_append]
  simp [h]
theorem tmod_natM (a b : Nat) : (a : Int).tmod (b : Int) = ((a % b : Nat) : Int) := by rw [Int.tmod_eq_emod_of_nonneg (by omega)]; rfl
theorem walsh_zero8 : walshL (2 ^ 3) 0 = List.replicate 8 48 := by kernel_rfl
/-- What the law needs to know of a maximal register of a size up to 6. -/
theorem maxfam_law (s a : Int) (h : maxI s a = true) (h6 : s ≤ 6) : ∃ n x : Nat, s = n ∧ a = x ∧ 2 ≤ n ∧ n ≤ 6 ∧ 1 ≤ x ∧ x < 2 ^ n ∧ x ∈ tapL n ∧ mseqC s a = (runL n x 1 (2 ^ n - 1), true) ∧ (x : Int) ∈ mtapsL n (2 ^ n - 1) := by
  unfold maxI at h
  have h' := h
  rw [Bool.and_eq_true] at h
  obtain ⟨n, x, rfl, rfl, h2, h8, h1, hx⟩ := taps_nat s a h.1
  have hm : maxB n x = true := h.2
  have hn6 : n ≤ 6 := by omega
  refine ⟨n, x, rfl, rfl, h2, hn6, h1, hx, max_tap n x h2 hn6 hx hm, ?_, ?_⟩
  · unfold mseqC
    rw [show maxI (n : Int) (x : Int) = true from h', if_pos rfl]; rfl
  · unfold mtapsL
    exact List.mem_map.2 ⟨x - 1, List.mem_filter.2 ⟨List.mem_range.2 (by omega), by rw [show x - 1 + 1 = x by omega]; exact hm⟩, by rw [show x - 1 + 1 = x by omega]⟩
theorem mseq_tap (n x : Nat) (h2 : 2 ≤ n) (h6 : n ≤ 6) (hx : x ∈ tapL n) (h1 : 1 ≤ x) : mseqC n x = (runL n x 1 (2 ^ n - 1), true) := by
  obtain ⟨hm, hl⟩ := tap_max n x h2 h6 hx
  unfold mseqC maxI
  rw [tapsB_nat n x h2 (by omega), decide_eq_true h1, decide_eq_true hl]
  show (if (true && maxB n x) = true then _ else _) = _
  rw [hm]; rfl
theorem pair_of (s t : ByteArray) (N : Nat) (h1 : 1 ≤ N) (h2 : N ≤ 255) (hs : s.data.toList.length = N) (ht : t.data.toList.length = N) (hb : s.data.toList.all isBit = true) (hb' : t.data.toList.all isBit = true) : pairB s t = true := by
  unfold pairB seqB
  rw [hs, ht, hb, hb', decide_eq_true h1, decide_eq_true h2, ← len_data s, ← len_data t, hs, ht]; simp
theorem rev_bits (l : List UInt8) (h : l.all isBit = true) : l.reverse.all isBit = true := by rw [List.all_reverse]; exact h
set_option maxHeartbeats 8000000 in
theorem walk_FnMaximalFamily (A0 : Option Addr) (n0 c0 : Nat) (z0 : List Int) (A1 : Option Addr) (n1 c1 : Nat) (z1 : List Int) (w : World) (h0 : RowIn .u8 w A0 n0 c0 z0) (h1 : RowIn .u8 w A1 n1 c1 z1) :
    Calls Try.prog 7 #[.slice A0 n0 c0, .slice A1 n1 c1] w fun e w' => e = .returned (.bool true) ∧ Below w.heap.size w w' := by
  clear h1
  by_cases hs0 : 1048576 < n0
  · have d0 : decide ((1048576 : Int) < (n0 : Int)) = true := decide_eq_true (by omega)
    clear h0
    go_enter Try.func7, Try.ntmps7
    go_wp2
    go_ret
    exact ⟨rfl, Below.refl _ _⟩
  have d0 : decide ((1048576 : Int) < (n0 : Int)) = false := decide_eq_false (by omega)
  by_cases hs1 : 1048576 < n1
  · have d1 : decide ((1048576 : Int) < (n1 : Int)) = true := decide_eq_true (by omega)
    clear h0
    go_enter Try.func7, Try.ntmps7
    go_wp2
    go_ret
    exact ⟨rfl, Below.refl _ _⟩
  have d1 : decide ((1048576 : Int) < (n1 : Int)) = false := decide_eq_false (by omega)
  go_enter Try.func7, Try.ntmps7
  go_wp2_with fail
  refine (spec_DrawMaximalSequence _ _ _ _ _ h0).mono ?_
  rintro e w1 ⟨s, a, rfl, h9, hB1⟩
  clear h0
  have hS1 := hB1.size
  have hlaw := maxfam_law s a
  have hno : maxI s a = false → mseqC s a = ([], false) := fun h => by unfold mseqC; rw [h]; rfl
  have hyes : maxI s a = true → (mseqC s a).2 = true := fun h => by unfold mseqC; rw [h]; rfl
  obtain ⟨mb, hmb⟩ : ∃ mb, maxI s a = mb := ⟨_, rfl⟩
  have hmx := fun w => impl_IsMaximal s a w
  rw [hmb] at hlaw hno hyes hmx
  have hca := fun w => impl_MaximalSequence s a w
  have hcs := fun w => spec_MaximalSequence s a w
  have hok : (mseqC s a).2 = mb := by
    cases mb
    · rw [hno rfl]
    · exact hyes rfl
  rw [hok] at hca hcs
  obtain ⟨l, hl⟩ : ∃ l, (mseqC s a).1 = l := ⟨_, rfl⟩
  rw [hl] at hca hcs
  obtain ⟨u, hu⟩ : ∃ u, ofL l = u := ⟨_, rfl⟩
  have hul : u.data.toList = l := by rw [← hu, ofL_list]
  have HCA := Lib.hid hca
  have HCS := Lib.hid hcs
  have HMX := Lib.hid hmx
  have HUL := Lib.hid hul
  have HLAW := Lib.hid hlaw
  have HLL := Lib.hid hl
  clear hca hcs hmx hno hyes hok hlaw hul hmb hl
  go_wp2_with fail
  refine (HCA.out w1).mono ?_
  rintro e w2 ⟨v, rfl, hv, hb2⟩
  obtain rfl : v = u := by rw [eq_ofL hv, hu]
  have hB2 := hB1.trans (hb2.mono hS1)
  have hS2 := hB2.size
  clear hv hb2 hB1 hS1
  go_wp2_with fail
  refine (HCS.out w2).mono ?_
  rintro e w3 ⟨v', rfl, hv, hb3⟩
  obtain rfl : v' = v := by rw [eq_ofL hv, hu]
  have hB3 := hB2.trans (hb3.mono hS2)
  have hS3 := hB3.size
  clear hv hb3 hB2 hS2 hu
  have euu : (v'.toList == v'.toList) = true := by simp
  have euu2 : (v'.toList != v'.toList) = false := by simp
  by_cases hgo : mb = true ∧ s ≤ 6
  · obtain ⟨rfl, h6⟩ := hgo
    obtain ⟨n, x, rfl, rfl, h2, hn6, hx1, hxl, hxt, hms, hmem⟩ := HLAW.out rfl h6
    have hSl : v'.data.toList = runL n x 1 (2 ^ n - 1) := by
      have hll := HLL.out
      rw [hms] at hll
      rw [HUL.out, ← hll]
    have h64 : 2 ^ n ≤ 64 := Nat.le_trans (Nat.pow_le_pow_right (by decide) hn6) (by decide)
    have h4 : 4 ≤ 2 ^ n := Nat.le_trans (by decide) (Nat.pow_le_pow_right (by decide) h2)
    have hnl : n < 2 ^ n := Nat.lt_two_pow_self
    obtain ⟨hodd, hrt, ⟨jr, hjr, hrot⟩, htk⟩ := rev_wit n x h2 hn6 hxt
    have hfw := fun o ho => fam_wit n x o h2 hn6 hxt ho
    rw [← hSl] at hrot htk hfw
    have hmt := fun w => impl_MaximalTaps (n : Int) w
    rw [mtapsI_in n h2 (by omega)] at hmt
    have hzm := fun o ho => mtapsL_mem n (2 ^ n - 1) o ho
    have hzlen := mtapsL_len n (2 ^ n - 1)
    have hmj := fun j (hj : j ∈ tapL n) (h1 : 1 ≤ j) w => impl_MaximalSequence n j w
    have hmq : ∀ j, j ∈ tapL n → 1 ≤ j → ∀ w, Calls Try.prog 33 #[.int .i64 n, .int .i64 j] w (RetStrB (runL n j 1 (2 ^ n - 1)) true w) := fun j hj h1 w => by
      have h := impl_MaximalSequence n j w
      rwa [mseq_tap n j h2 hn6 hj h1] at h
    have hrlen := fun t => runL_len n t 1 (2 ^ n - 1)
    have hmtap := fun j (hj : j < 2 ^ n) (hm : maxB n j = true) => max_tap n j h2 hn6 hj hm
    obtain ⟨N, hN⟩ : ∃ N, 2 ^ n - 1 = N := ⟨_, rfl⟩
    rw [hN] at hSl hrot hjr hfw hmt hzm hzlen hmq hmem hrlen
    have hvs : v'.size = N := by rw [← len_data, hSl, hrlen]
    have hN3 : 3 ≤ N := by omega
    have hN63 : N ≤ 63 := by omega
    have hnN : n ≤ N := by omega
    have hvb : v'.data.toList.all isBit = true := by rw [hSl]; exact runL_bits _ _ _ _
    have hvq : seqB v'.data.toList = true := by unfold seqB; rw [hvb, len_data, hvs, decide_eq_true (show 1 ≤ N by omega), decide_eq_true (show N ≤ 255 by omega)]; rfl
    obtain ⟨zs, hzs⟩ : ∃ zs, mtapsL n N = zs := ⟨_, rfl⟩
    rw [hzs] at hmt hzm hzlen hmem
    have hz1 : 1 ≤ zs.length := List.length_pos_of_mem hmem
    have hrt1 : 1 ≤ revT n x (n - 1) := by
      rcases Nat.eq_zero_or_pos (revT n x (n - 1)) with h | h
      · have h7 := (tap_max n _ h2 hn6 hrt).1
        rw [h] at h7
        rcases (show n = 2 ∨ n = 3 ∨ n = 4 ∨ n = 5 ∨ n = 6 by omega) with rfl | rfl | rfl | rfl | rfl <;> exact absurd hrt (by rw [h]; decide)
      · exact h
    have HMT := Lib.hid hmt
    have HZM := Lib.hid hzm
    have HMQ := Lib.hid hmq
    have HFW := Lib.hid hfw
    have HMTAP := Lib.hid hmtap
    have HRLEN := Lib.hid hrlen
    have HVB := Lib.hid hvb
    have HVQ := Lib.hid hvq
    have HRT := Lib.hid (show revT n x (n - 1) ∈ tapL n ∧ 1 ≤ revT n x (n - 1) from ⟨hrt, hrt1⟩)
    have HROT := Lib.hid (show jr < N ∧ rotL (runL n (revT n x (n - 1)) 1 N) jr = v'.data.toList.reverse from ⟨hjr, hrot⟩)
    have HRV := Lib.hid (fun w => impl_ReverseTaps n x w h2 (by omega) hx1 hxl hodd)
    have HX := Lib.hid (show x < 2 ^ n ∧ 2 ^ n - 1 = N ∧ 4 ≤ 2 ^ n from ⟨hxl, hN, h4⟩)
    have d6 : decide ((6 : Int) < (n : Int)) = false := decide_eq_false (by omega)
    -- the end's comparison
    have hw8 : ∀ w, Calls Try.prog 39 #[.int .i64 3, .int .i64 0] w (RetStr (List.replicate 8 48) w) := fun w => by
      have h := laws_ssWalsh 3 0 w (by decide) (by decide)
      rw [walsh_zero8] at h
      exact h
    obtain ⟨t8, ht8⟩ : ∃ t8, ofL (List.replicate 8 48) = t8 := ⟨_, rfl⟩
    have ht8l : t8.data.toList = List.replicate 8 48 := by rw [← ht8, ofL_list]
    have ht8s : t8.size = 8 := by rw [← len_data, ht8l]; rfl
    have hcmp : ((v'.extract 0 n).toList == ((⟨#[49]⟩ : ByteArray) ++ t8.extract 0 (n - 1)).toList) = true := by
      refine bytes_beq' _ _ ?_
      rw [str_app (s := (⟨#[49]⟩ : ByteArray)) (t := t8.extract 0 (n - 1)) (l := [49]) (m := List.replicate (n - 1) 48) rfl (by
        rw [← ByteArray.toList_eq, extract0_list, ht8l, List.take_replicate, Nat.min_eq_left (by omega)])]
      rw [← ByteArray.toList_eq, extract0_list, htk]; rfl
    have HCMP := Lib.hid hcmp
    have HW8 := Lib.hid hw8
    have HT8 := Lib.hid (show ofL (List.replicate 8 48) = t8 ∧ t8.size = 8 from ⟨ht8, ht8s⟩)
    clear hSl h64 h4 hnl hodd hrt hrot hjr htk hfw hmt hzm hmj hmq hrlen hmtap hN hvb hvq hzs hmem hrt1 hxl hxt hms hw8 ht8 ht8l ht8s hcmp HLL HUL HLAW HCA HCS
    go_wp2_with fail
    refine (HMX.out w3).mono ?_
    rintro e w4 ⟨rfl, hb4⟩
    have hB4 := hB3.trans (hb4.mono hS3)
    have hS4 := hB4.size
    clear hb4 hB3 hS3
    go_wp2_with fail
    refine (HMT.out w4).mono ?_
    rintro e w5 ⟨A, m, c, rfl, ho, hb5⟩
    have hB5 := hB4.trans (hb5.mono hS4)
    have hS5 := hB5.size
    have hml : zs.length = m := (own_rdI (k := .i64) ho).len
    have hq : n1 % m < m := Nat.mod_lt _ (by omega)
    obtain ⟨q, hqq⟩ : ∃ q, n1 % m = q := ⟨_, rfl⟩
    rw [hqq] at hq
    obtain ⟨g, rfl, hg1, hg2⟩ := own_some ho hq
    obtain ⟨o, hoz⟩ : ∃ o, zs[q]? = some o := ⟨_, List.getElem?_eq_getElem (by omega)⟩
    obtain ⟨j, rfl, hj1, hjN, hjm⟩ := HZM.out o (List.mem_of_getElem? hoz)
    have hcell : w5.cell? ⟨g, q, none⟩ = some (.int .i64 (j : Int)) := (ho.cellAt q (by omega)).trans (by rw [List.getElem?_map, hoz]; rfl)
    have hjt := HMTAP.out j (by have := HX.out; omega) hjm
    have hrem : (n1 : Int).tmod (m : Int) = (q : Int) := by rw [tmod_natM, hqq]
    have hm0 : ((m : Int) == 0) = false := beq_eq_false_iff_ne.2 (by omega)
    have hm1 : ¬ (m : Int) = 0 := by omega
    have HJ := Lib.hid (HFW.out j hjt)
    have HJC := Lib.hid (HMQ.out j hjt hj1)
    clear hb5 hB4 hS4 ho hqq hoz hjm hjt hml hzlen hz1
    go_wp2_with fail
    refine (HJC.out w5).mono ?_
    rintro e w6 ⟨t, rfl, ht, hb6⟩
    have hB6 := hB5.trans (hb6.mono hS5)
    have hS6 := hB6.size
    have htl : t.data.toList.length = N := by rw [ht, HRLEN.out]
    have htb : t.data.toList.all isBit = true := by rw [ht]; exact runL_bits _ _ _ _
    have HT := Lib.hid ht
    have HTL := Lib.hid htl
    have HTB := Lib.hid htb
    clear hb6 hB5 hS5 ht htl htb hcell hrem hm0 hm1 hq hg1 hg2
    go_wp2_with fail
    go_loopw [14, 15] (fun sm v wr => ∃ (k : Nat) (b : Bool), 1 ≤ k ∧ k ≤ v'.size ∧ v = .int .i64 k ∧ sm = .bool b ∧ Hid (someB v'.data.toList t.data.toList k = b) ∧ Below w.heap.size w wr) (fun _ v _ => v'.size - (intOf v).toNat)
    case atStart => exact ⟨1, false, by omega, by omega, rfl, rfl, someB_one _ _, hB6⟩
    case round =>
      obtain ⟨k, b, hk1, hk, rfl, rfl, hsm, hb⟩ := hrel
      have hz := hb.size
      by_cases hlt : k < v'.size
      · have hstep := someB_step v'.data.toList t.data.toList k hk1
        rw [hsm.out] at hstep
        have HST := Lib.hid hstep
        obtain ⟨wo, rfl⟩ : ∃ wo, wo = wr := ⟨_, rfl⟩
        clear hstep
        go_wp2_with fail
        refine (impl_DecimateBits v' k wo HVQ.out (by omega)).mono ?_
        rintro e w7 ⟨y, rfl, hy, hb7⟩
        have hB7 := hb.trans (hb7.mono hz)
        have hp : pairB y t = true := pair_of y t N (by omega) (by omega) (by rw [hy, decL_len, len_data, hvs]) HTL.out (by rw [hy]; exact decL_bits _ _ HVB.out) HTB.out
        have hsb := impl_ShiftBetween y t w7 hp
        rw [hy] at hsb
        obtain ⟨sh, hsh⟩ : ∃ sh, shB (decL v'.data.toList k) t.data.toList = sh := ⟨_, rfl⟩
        rw [hsh] at hsb
        have HSH := Lib.hid hsh
        clear hy hp hsh hb hb7
        go_wp2_with fail
        refine hsb.mono ?_
        clear hsb
        rintro e w8 ⟨z, m8, rfl, hz8, rfl⟩
        clear hz8
        cases b
        all_goals
          go_wp2_with fail
          go_roundw
          case rel => first | exact ⟨k + 1, sh, by omega, by omega, by go_num, rfl, by rw [HST.out, HSH.out]; rfl, below_drewN hB7 _⟩ | exact ⟨k + 1, true, by omega, by omega, by go_num, rfl, by rw [HST.out, HSH.out]; rfl, below_drewN hB7 _⟩
          case measure => simp [intOf] <;> omega
      · obtain rfl : k = v'.size := by omega
        have hyes : someB v'.data.toList t.data.toList v'.size = true := by
          obtain ⟨k, jj, hk1, hkN, hjj, hr⟩ := HJ.out
          refine List.any_eq_true.2 ⟨k, List.mem_range.2 (by omega), ?_⟩
          rw [decide_eq_true hk1, Bool.true_and]
          exact shB_yes _ _ jj (by rw [decL_len, len_data, hvs]; exact hjj) (by rw [hr, HT.out])
        obtain rfl : b = true := by rw [← hsm.out, hyes]
        clear hyes hsm
        obtain ⟨wo, rfl⟩ : ∃ wo, wo = wr := ⟨_, rfl⟩
        go_wp2_with fail
        refine (impl_ReverseBits v' wo HVQ.out).mono ?_
        rintro e w7 ⟨r, rfl, hr, hb7⟩
        have hB7 := hb.trans (hb7.mono hz)
        have hS7 := hB7.size
        clear hb hb7
        go_wp2_with fail
        refine (HRV.out w7).mono ?_
        rintro e w7' ⟨rfl, rfl⟩
        go_wp2_with fail
        refine (HMQ.out _ HRT.out.1 HRT.out.2 w7).mono ?_
        rintro e w8 ⟨y, rfl, hy, hb8⟩
        have hB8 := hB7.trans (hb8.mono hS7)
        have hp : pairB y r = true := pair_of y r N (by omega) (by omega) (by rw [hy, HRLEN.out]) (by rw [hr, List.length_reverse, len_data, hvs]) (by rw [hy]; exact runL_bits _ _ _ _) (by rw [hr]; exact rev_bits _ HVB.out)
        have hsb := impl_ShiftBetween y r w8 hp
        rw [show shB y.data.toList r.data.toList = true from shB_yes _ _ jr (by rw [hy, HRLEN.out]; exact HROT.out.1) (by rw [hy, hr]; exact HROT.out.2)] at hsb
        clear hy hr hp hb8 hB7 hS7
        go_wp2_with fail
        refine hsb.mono ?_
        clear hsb
        rintro e w9 ⟨z, m9, rfl, hz9, rfl⟩
        clear hz9
        have hB9 := below_drewN hB8 m9
        generalize w8.drewN m9 = w9 at *
        have hS9 := hB9.size
        have hcmp := HCMP.out
        have ht8s := HT8.out.2
        obtain ⟨p, hp⟩ : ∃ p, n - 1 = p := ⟨_, rfl⟩
        rw [hp] at hcmp
        have hwn : IntKind.i64.wrap ((n : Int) - 1) = (p : Int) := by rw [IntWalk.i64_in _ ⟨by omega, by omega⟩]; omega
        have hp0 : (0 : Int) ≤ (p : Int) := by omega
        have hp8 : (p : Int) ≤ 8 := by omega
        have hn0 : (0 : Int) ≤ (n : Int) := by omega
        have hnv : (n : Int) ≤ (v'.size : Int) := by omega
        have hnN' : (n : Int) ≤ (N : Int) := by omega
        have he8 : (t8.extract 0 p).size ≤ 8 := by rw [ByteArray.size_extract]; omega
        have hcs4 : 1 + min p 8 ≤ 9223372036854775807 := by omega
        obtain ⟨e8, hee⟩ : ∃ e8, t8.extract 0 p = e8 := ⟨_, rfl⟩
        rw [hee] at he8 hcmp
        have hcs : e8.size + 1 ≤ 9223372036854775807 := by omega
        have hcs2 : 1 + e8.size ≤ 9223372036854775807 := by omega
        have hcs3 : ¬ 9223372036854775807 < 1 + e8.size := by omega
        have hcs4' : ¬ 9223372036854775806 < e8.size := by omega
        have hcs5 : ¬ 1 + e8.size > 9223372036854775807 := by omega
        have hcs6 : ¬ 9223372036854775807 < e8.size + 1 := by omega
        clear hp
        go_wp2_with fail
        go_region_held3 (fun w' => True) (exact trivial) ((go_at_call 39; refine (HW8.out _).mono ?_; rintro e w10 ⟨t9, rfl, ht9, hb10⟩; obtain rfl : t9 = t8 := (by rw [eq_ofL ht9, HT8.out.1]); clear ht9))
        all_goals
          go_wp2
          go_ret
          exact ⟨rfl, hB9.trans ((⟨hb10.os, hb10.tape, hb10.output, hb10.size, hb10.block⟩ : Below w9.heap.size w9 w10).mono hS9)⟩
  · have hcases : mb = false ∨ (mb = true ∧ decide (6 < s) = true) := by
      cases mb
      · exact .inl rfl
      · by_cases h3 : 6 < s
        · exact .inr ⟨rfl, decide_eq_true h3⟩
        · exact absurd ⟨rfl, by omega⟩ hgo
    clear hgo HLAW
    rcases hcases with rfl | ⟨rfl, e1⟩
    all_goals
      go_wp2_with fail
      refine (HMX.out w3).mono ?_
      rintro e w4 ⟨rfl, hb4⟩
      have hB4 := hB3.trans (hb4.mono hS3)
      have hS4 := hB4.size
      clear hb4 hB3 hS3
      go_wp2_with fail
      refine (HMX.out w4).mono ?_
      rintro e w5 ⟨rfl, hb5⟩
      go_wp2_with fail
      go_ret
      exact ⟨rfl, hB4.trans (hb5.mono hS4)⟩

end Go.Proofs.Ytkebiigpfbconaa
