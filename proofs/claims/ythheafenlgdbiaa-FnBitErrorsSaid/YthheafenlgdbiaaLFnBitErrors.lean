/- The walk of the law FnBitErrors. Conditions: as the theorem says. -/
import Derived.Test.YthheafenlgdbiaaC4
import Derived.Test.YthheafenlgdbiaaC6
import Derived.Test.YthheafenlgdbiaaDrawS
import Derived.Test.YthheafenlgdbiaaLawT
import Derived.Test.YthheafenlgdbiaaPureH
namespace Go.Proofs.Ythheafenlgdbiaa
open Go.RowKit
set_option linter.unusedSimpArgs false
set_option linter.unusedVariables false

set_option maxRecDepth 100000 in
set_option maxHeartbeats 2000000 in
theorem walk_FnBitErrors (A : Option Addr) (n c : Nat) (zs : List Int) (w : World) (hx : RowIn .u8 w A n c zs) :
    Calls Try.prog 11 #[.slice A n c] w fun e w' => e = .returned (.bool true) ∧ Below w.heap.size w w' := by
  by_cases hbig_n : 1048576 < n
  · clear hx
    go_enter Try.func11, Try.ntmps11
    go_wp2
    go_ret
    exact ⟨rfl, Below.refl _ _⟩
  replace hbig_n : n ≤ 1048576 := by omega
  have hB0 : Below w.heap.size w w := Below.refl _ _
  go_enter Try.func11, Try.ntmps11
  go_wp2_with fail
  refine (spec_DrawBitErrors _ _ _ _ _ hx).mono ?_
  rintro e w1 ⟨s, t, rfl, hss, htt, hb⟩
  have hS1 := hb.size
  have hB1 : Below w.heap.size w w1 := hB0.trans (hb.mono hB0.size)
  clear hb
  clear hx
  go_wp2_with fail
  rcases errsOf_ways s.data.toList t.data.toList with h | ⟨h1, h2, h3, h⟩
  · 
    refine (impl_BitErrors s t _ (by unfold maxLen; omega) (by unfold maxLen; omega)).mono ?_
    rw [h]
    rintro e w2 hq
    obtain ⟨rfl, hb⟩ := retD_below hq
    clear hq
    have hS2 := hb.size
    have hB2 : Below w.heap.size w w2 := hB1.trans (hb.mono hB1.size)
    clear hb
    go_wp2_with fail
    refine (spec_BitErrors s t _ (by unfold maxLen; omega) (by unfold maxLen; omega)).mono ?_
    rw [h]
    rintro e w3 hq
    obtain ⟨rfl, hb⟩ := retD_below hq
    clear hq
    have hS3 := hb.size
    have hB3 : Below w.heap.size w w3 := hB2.trans (hb.mono hB2.size)
    clear hb
    go_wp2_with fail
    refine (spec_BitErrors s t _ (by unfold maxLen; omega) (by unfold maxLen; omega)).mono ?_
    rw [h]
    rintro e w4 hq
    obtain ⟨rfl, hb⟩ := retD_below hq
    clear hq
    have hS4 := hb.size
    have hB4 : Below w.heap.size w w4 := hB3.trans (hb.mono hB3.size)
    clear hb
    go_wp2_with fail
    go_ret
    exact ⟨rfl, hB4⟩
  · have hm0 := hamm_le s.data.toList t.data.toList
    obtain ⟨hm1, hbs⟩ := bitsB_parts _ h1
    obtain ⟨hm2, hbt⟩ := bitsB_parts _ h2
    have hsym := hamm_symm _ _ h3
    have hby := hamm_by s.data.toList t.data.toList s.data.toList.reverse (by simp)
    have hq1 := hamm_le s.data.toList s.data.toList.reverse
    have hq2 := hamm_le s.data.toList.reverse t.data.toList
    have hz0 := hamm_zero _ _ h3
    rw [List.length_reverse] at hq2
    have hst : s.size = t.size := by rw [← len_data, ← len_data]; exact h3
    rw [len_data] at hm0 hm1 hq1 hq2
    generalize hm : hamm s.data.toList t.data.toList = m at *
    generalize hp : hamm s.data.toList s.data.toList.reverse = p at *
    generalize hq' : hamm s.data.toList.reverse t.data.toList = q at *
    have HM := Lib.hid hm
    have HP := Lib.hid hp
    have HQ := Lib.hid hq'
    have HBS := Lib.hid hbs
    have HBT := Lib.hid hbt
    have H1 := Lib.hid h1
    have H2 := Lib.hid h2
    have H3 := Lib.hid h3
    have H := Lib.hid h
    have HSYM := Lib.hid hsym
    have HZ := Lib.hid hz0
    clear hm hp hq' hbs hbt h1 h2 h3 h hsym hz0 hm2
    refine (impl_BitErrors s t _ (by unfold maxLen; omega) (by unfold maxLen; omega)).mono ?_
    rw [H.out]
    rintro e w2 hq
    obtain ⟨rfl, hb⟩ := retD_below hq
    clear hq
    have hS2 := hb.size
    have hB2 : Below w.heap.size w w2 := hB1.trans (hb.mono hB1.size)
    clear hb
    go_wp2_with fail
    refine (spec_BitErrors s t _ (by unfold maxLen; omega) (by unfold maxLen; omega)).mono ?_
    rw [H.out]
    rintro e w3 hq
    obtain ⟨rfl, hb⟩ := retD_below hq
    clear hq
    have hS3 := hb.size
    have hB3 : Below w.heap.size w w3 := hB2.trans (hb.mono hB2.size)
    clear hb
    go_wp2_with fail
    refine (laws_ssTurned s _ (by omega)).mono ?_
    rintro e w4 ⟨u, rfl, hu, hb⟩
    have hS4 := hb.size
    have hB4 : Below w.heap.size w w4 := hB3.trans (hb.mono hB3.size)
    clear hb
    have hus : u.size = s.size := by rw [str_size hu]; simp
    have HU := Lib.hid hu
    clear hu
    go_wp2_with fail
    refine (laws_ssXor s t _ (by omega) hst HBS.out HBT.out).mono ?_
    rintro e w5 ⟨x, rfl, hx, hb⟩
    have hS5 := hb.size
    have hB5 : Below w.heap.size w w5 := hB4.trans (hb.mono hB4.size)
    clear hb
    have hxs : x.size = s.size := by rw [str_size hx, addBL_len _ _ H3.out]; simp
    have HX := Lib.hid hx
    clear hx
    go_wp2_with fail
    go_loopw [8, 9] (fun o v wr => ∃ i : Nat, i ≤ s.size ∧ v = .int .i64 i ∧ o = .int .i64 (cnt (fun i => s.data.toList[i]? != t.data.toList[i]?) i : Nat) ∧ w5 = wr) (fun _ v _ => s.size - (intOf v).toNat)
    case atStart => exact ⟨0, Nat.zero_le _, rfl, rfl, rfl⟩
    case round =>
      obtain ⟨i, hi, rfl, rfl, rfl⟩ := hrel
      have hci := cnt_le (fun i => s.data.toList[i]? != t.data.toList[i]?) i
      by_cases hlt : i < s.size
      · have hlx : i < x.size := by omega
        have hlt2 : i < t.size := by omega
        have hxa := addBL_at _ _ i _ _ (data_at s i hlt) (data_at t i hlt2)
        rw [← HX.out, data_at x i hlx] at hxa
        have hxe := Option.some.inj hxa
        have hd := differ_at s t i hlt hlt2
        clear hxa
        by_cases he : s[i] = t[i]
        · have hcn := cnt_no (fun i => s.data.toList[i]? != t.data.toList[i]?) i (by show (_ != _) = false; rw [hd, he]; simp)
          have hx48 : (x[i].toNat : Int) = 48 := by rw [hxe]; unfold xorC; rw [if_pos he]; rfl
          have HCN := Lib.hid hcn
          generalize hc : cnt (fun i => s.data.toList[i]? != t.data.toList[i]?) i = c at *
          clear hxe hd he hcn hc
          go_wp2
          go_roundw
          case rel => exact ⟨i + 1, by omega, by go_num, by rw [HCN.out] <;> go_num, trivial⟩
          case measure => simp [intOf]; omega
        · have hcn := cnt_yes (fun i => s.data.toList[i]? != t.data.toList[i]?) i (by show (_ != _) = true; rw [hd]; simpa using he)
          have hx49 : (x[i].toNat : Int) = 49 := by rw [hxe]; unfold xorC; rw [if_neg he]; rfl
          have HCN := Lib.hid hcn
          generalize hc : cnt (fun i => s.data.toList[i]? != t.data.toList[i]?) i = c at *
          clear hxe hd he hcn hc
          go_wp2
          go_roundw
          case rel => exact ⟨i + 1, by omega, by go_num, by rw [HCN.out] <;> go_num, trivial⟩
          case measure => simp [intOf]; omega
      · have hone : cnt (fun i => s.data.toList[i]? != t.data.toList[i]?) i = m := by
          rw [← HM.out, show i = s.data.toList.length by rw [len_data]; omega]; rfl
        rw [hone]
        clear hone hci
        have hcase : (((m : Int) == 0) = true ∧ (s.toList == t.toList) = true) ∨ (((m : Int) == 0) = false ∧ (s.toList == t.toList) = false) := by
          have h5 := str_bne (s := t) (t := s) rfl
          by_cases h0 : m = 0
          · left
            exact ⟨by simp [h0], by rw [h5, HZ.out.1 h0]; simp⟩
          · right
            exact ⟨by simp [h0], by rw [h5]; exact beq_eq_false_iff_ne.2 fun h => h0 (HZ.out.2 h)⟩
        rcases hcase with ⟨e1, e2⟩ | ⟨e1, e2⟩
        all_goals
          go_wp2_with fail
          refine (impl_BitErrors t s _ (by unfold maxLen; omega) (by unfold maxLen; omega)).mono ?_
          rw [errsOf_ok _ _ H2.out H1.out H3.out.symm, HSYM.out]
          rintro e w6 hq
          obtain ⟨rfl, hb⟩ := retD_below hq
          clear hq
          have hS6 := hb.size
          have hB6 : Below w.heap.size w w6 := hB5.trans (hb.mono hB5.size)
          clear hb
          go_wp2_with fail
          refine (impl_BitErrors s u _ (by unfold maxLen; omega) (by unfold maxLen; omega)).mono ?_
          rw [HU.out, errsOf_ok _ _ H1.out (bitsB_rev _ H1.out) (by simp), HP.out]
          rintro e w7 hq
          obtain ⟨rfl, hb⟩ := retD_below hq
          clear hq
          have hS7 := hb.size
          have hB7 : Below w.heap.size w w7 := hB6.trans (hb.mono hB6.size)
          clear hb
          go_wp2_with fail
          refine (impl_BitErrors u t _ (by unfold maxLen; omega) (by unfold maxLen; omega)).mono ?_
          rw [HU.out, errsOf_ok _ _ (bitsB_rev _ H1.out) H2.out (by rw [List.length_reverse]; exact H3.out), HQ.out]
          rintro e w8 hq
          obtain ⟨rfl, hb⟩ := retD_below hq
          clear hq
          have hS8 := hb.size
          have hB8 : Below w.heap.size w w8 := hB7.trans (hb.mono hB7.size)
          clear hb
          go_wp2_with fail
          go_ret
          exact ⟨rfl, hB8⟩

end Go.Proofs.Ythheafenlgdbiaa
