/- The walk of the law FnAllocate. Conditions: as the theorem says. -/
import Derived.Test.YtfendecmgcmbjaaC3
import Derived.Test.YtfendecmgcmbjaaC7
import Derived.Test.YtfendecmgcmbjaaDrawT
import Derived.Test.YtfendecmgcmbjaaPureA
namespace Go.Proofs.Ytfendecmgcmbjaa
open Go.RowKit
set_option linter.unusedSimpArgs false
set_option linter.unusedVariables false

set_option maxRecDepth 100000 in
set_option maxHeartbeats 2000000 in
theorem walk_FnAllocate (A : Option Addr) (n c : Nat) (zs : List Int) (w : World) (hx : RowIn .u8 w A n c zs) :
    Calls Try.prog 8 #[.slice A n c] w fun e w' => e = .returned (.bool true) ∧ Below w.heap.size w w' := by
  by_cases hbig_n : 1048576 < n
  · clear hx
    go_enter Try.func8, Try.ntmps8
    go_wp2
    go_ret
    exact ⟨rfl, Below.refl _ _⟩
  replace hbig_n : n ≤ 1048576 := by omega
  have hB0 : Below w.heap.size w w := Below.refl _ _
  go_enter Try.func8, Try.ntmps8
  go_wp2_with fail
  refine (spec_DrawAllocateTree _ _ _ _ _ hx).mono ?_
  rintro e w1 ⟨As, ns, cs, ss, z, rfl, ho, hn1, hsz, hb⟩
  have Os := Lib.hid ho
  clear ho
  have hS1 := hb.size
  have hB1 : Below w.heap.size w w1 := hB0.trans (hb.mono hB0.size)
  clear hb
  clear hx
  have HSZ := Lib.hid hsz
  clear hsz
  go_wp2_with fail
  refine (impl_AllocateTree _ _ _ ss z _ (own_rdS Os.out) (by omega) (fun s hs => by have := HSZ.out s hs; omega)).mono ?_
  rintro e w2 ⟨t, rfl, ht, hb⟩
  have Cs_2 := Lib.hid (own_below Os.out hb)
  have hS2 := hb.size
  have hB2 : Below w.heap.size w w2 := hB1.trans (hb.mono hB1.size)
  clear hb
  go_wp2_with fail
  refine (spec_AllocateTree _ _ _ ss z _ (own_rdS Cs_2.out) (by omega) (fun s hs => by have := HSZ.out s hs; omega)).mono ?_
  rintro e w3 ⟨r, rfl, hr, hb⟩
  have Cs_3 := Lib.hid (own_below Cs_2.out hb)
  clear Cs_2
  have hS3 := hb.size
  have hB3 : Below w.heap.size w w3 := hB2.trans (hb.mono hB2.size)
  clear hb
  obtain rfl := str_eq ht hr
  clear hr
  rcases alloc_ways (lists ss) z with ⟨N, hN, h1, h2⟩ | ⟨d, p, r, rfl, hd, hl70, hall, hfl, h1, h2⟩
  · rw [h1] at ht ⊢
    clear ht h1
    have H2 := Lib.hid h2
    clear h2
    rcases hN with rfl | rfl
    all_goals
      go_wp2_with fail
      refine (impl_FreePaths _ _ _ ss z _ (own_rdS Cs_3.out) (by omega) (fun s hs => by have := HSZ.out s hs; omega)).mono ?_
      rw [H2.out]
      rintro e w4 ⟨rfl, hb⟩
      have Cs_4 := Lib.hid (own_below Cs_3.out hb)
      clear Cs_3
      have hS4 := hb.size
      have hB4 : Below w.heap.size w w4 := hB3.trans (hb.mono hB3.size)
      clear hb
      go_wp2_with fail
      refine (spec_FreePaths _ _ _ ss z _ (own_rdS Cs_4.out) (by omega) (fun s hs => by have := HSZ.out s hs; omega)).mono ?_
      rw [H2.out]
      rintro e w5 ⟨rfl, hb⟩
      have Cs_5 := Lib.hid (own_below Cs_4.out hb)
      clear Cs_4
      have hS5 := hb.size
      have hB5 : Below w.heap.size w w5 := hB4.trans (hb.mono hB4.size)
      clear hb
      go_wp2_with fail
      refine (spec_FreePaths _ _ _ ss z _ (own_rdS Cs_5.out) (by omega) (fun s hs => by have := HSZ.out s hs; omega)).mono ?_
      rw [H2.out]
      rintro e w6 ⟨rfl, hb⟩
      have Cs_6 := Lib.hid (own_below Cs_5.out hb)
      clear Cs_5
      have hS6 := hb.size
      have hB6 : Below w.heap.size w w6 := hB5.trans (hb.mono hB5.size)
      clear hb
      go_wp2_with fail
      go_ret
      exact ⟨rfl, hB6⟩
  · rw [h1] at ht ⊢
    replace ht : t.data.toList = p := ht
    have hft := free_taken (lists ss) (lists ss ++ [p]) d p r hfl (freeAt_snoc _ _)
    have hft2 := free_taken (lists ss) (p :: lists ss) d p r hfl (freeAt_cons _ _)
    have hM := free_le (lists ss) d
    rw [hfl, List.length_cons] at hM
    have hP : 2 ^ d ≤ 64 := by have h5 : 2 ^ d ≤ 2 ^ 6 := Nat.pow_le_pow_right (by omega) hd; exact h5
    obtain ⟨M, hMe⟩ : ∃ M, r.length = M := ⟨_, rfl⟩
    have hM64 : M ≤ 63 := by omega
    rw [hMe] at h2
    obtain ⟨f1, f2, f3, f4, f5⟩ := hft
    have hts : t.size = d := by rw [str_size ht]; exact f2
    have hpp : pathB p = true := by rw [f3]; exact binL_path d 0 hd
    have hls : lists (ss ++ [t]) = lists ss ++ [p] := by unfold lists; rw [List.map_append]; simp [ht]
    have hls2 : lists (t :: ss) = p :: lists ss := by unfold lists; rw [List.map_cons, ht]
    have hn70 : (lists ss).length = ns := by rw [lists_len]; exact (own_rdS Cs_3.out).len
    have HF := Lib.hid (show freeC (lists (ss ++ [t])) d = (M : Int) by
      rw [hls, freeC_mk _ d hd (by rw [List.length_append, hn70]; simp; omega) (by rw [List.all_append, hall]; simp [hpp]), f1, hMe])
    have HAL := Lib.hid (show allocC (lists (t :: ss)) d = headC r by
      rw [hls2, allocC_mk _ d hd (by rw [List.length_cons, hn70]; omega) (by rw [List.all_cons, hpp, hall]; rfl), hft2.1])
    have HT := Lib.hid ht
    have H2 := Lib.hid h2
    have F4 := Lib.hid f4
    have F5 := Lib.hid f5
    have HME := Lib.hid hMe
    clear ht h1 h2 hft2 hM hP hMe f1 f2 f3 f4 f5 hpp hls hls2 hn70 hall hl70 hfl
    go_wp2_with fail
    refine (impl_FreePaths _ _ _ ss d _ (own_rdS Cs_3.out) (by omega) (fun s hs => by have := HSZ.out s hs; omega)).mono ?_
    rw [H2.out]
    rintro e w4 ⟨rfl, hb⟩
    have Cs_4 := Lib.hid (own_below Cs_3.out hb)
    clear Cs_3
    have hS4 := hb.size
    have hB4 : Below w.heap.size w w4 := hB3.trans (hb.mono hB3.size)
    clear hb
    go_wp2_with fail
    refine (spec_FreePaths _ _ _ ss d _ (own_rdS Cs_4.out) (by omega) (fun s hs => by have := HSZ.out s hs; omega)).mono ?_
    rw [H2.out]
    rintro e w5 ⟨rfl, hb⟩
    have Cs_5 := Lib.hid (own_below Cs_4.out hb)
    clear Cs_4
    have hS5 := hb.size
    have hB5 : Below w.heap.size w w5 := hB4.trans (hb.mono hB4.size)
    clear hb
    go_wp2_with fail
    go_loopw [10] (fun v wr => ∃ i : Nat, i ≤ ns ∧ v = .int .i64 i ∧ w5 = wr) (fun v _ => ns - (intOf v).toNat)
    case atStart => exact ⟨0, Nat.zero_le _, rfl, rfl⟩
    case round =>
      obtain ⟨i, hi, rfl, rfl⟩ := hrel
      by_cases hlt : i < ns
      · obtain ⟨b, o, x, rfl, hbl, hxx, hcx⟩ := RdS.at (own_rdS Cs_5.out) hlt
        have hxs := HSZ.out x (List.mem_of_getElem? hxx.out)
        have HTC := Lib.hid (show treeConfB t.data.toList x.data.toList = false by
          unfold treeConfB
          rw [HT.out, F4.out x.data.toList (List.mem_of_getElem? (lists_at _ _ _ hxx.out)), Bool.and_false])
        go_wp2_with (go_at_call 14; refine (impl_TreeConflict t x _ (by unfold maxLen; omega) (by unfold maxLen; omega)).mono ?_; rintro e w' ⟨rfl, rfl⟩; rw [HTC.out])
        go_roundw
        case rel => exact ⟨i + 1, by omega, by go_num, trivial⟩
        case measure => simp [intOf] <;> omega
      · obtain rfl : i = ns := by omega
        have hone : ∀ u ∈ ss.map Value.string, u.oneCell' = true := fun u hu => by obtain ⟨s, _, rfl⟩ := List.mem_map.1 hu; rfl
        have HONE := Lib.hid hone
        clear hone
        have Rs := Lib.hid (Rd.below (own_rdS Cs_5.out) ((Below.refl _ _).alloc (Nat.le_refl _) (.cells #[] 9)))
        have OE := Lib.hid (own_empty w5 9 w5.heap.size (Nat.le_refl _))
        go_wp2_with (first
          | (at_builtin; refine wpList_append_rd _ rfl (.tmp 95) (.tmp 96) 39 rfl w5.heap.size 9 (.string ⟨#[]⟩) 16 Try.underlying39 Try.infoStr rfl (.slice (some ⟨w5.heap.size, 0, none⟩) 0 0) _ _ rfl OE.out _ _ _ _ rfl Rs.out HONE.out ?_ (by omega) ?_ ?_; omega; simp; intro A6 q6 c6 wa hq ho hg; have Q6 := Lib.hid hq.out; have O6 := Lib.hid ho; have hb6 := own_below_of OE.out hg (by simp); have B6 := Lib.hid (((Below.refl _ _).alloc (Nat.le_refl _) _).trans hb6); clear hq ho hg hb6; have b6 : q6 ≤ 5000 := (by have := Q6.out; omega); have s6 := B6.out.size)
          | (at_builtin; refine wpList_append_rd _ rfl (.tmp 97) (.tmp 99) 39 rfl w5.heap.size 9 (.string ⟨#[]⟩) 16 Try.underlying39 Try.infoStr rfl (.slice A6 q6 c6) _ _ rfl (O6.out.alloc _) _ _ _ [_] rfl (rd_new _ [_] _ 1 rfl) (by simp [Value.oneCell']) ?_ (by omega) ?_ ?_; omega; simp; omega; intro A7 q7 c7 wb hq ho hg; have Q7 := Lib.hid hq.out; have O7 := Lib.hid ho; have hb7 := (B6.out.alloc (by omega) _).trans (own_below_of (O6.out.alloc _) hg (by simp; omega)); have B7 := Lib.hid hb7; clear hq ho hg hb7; have b7 : q7 ≤ 10000 := (by have := Q7.out; omega); have s7 := B7.out.size))
        have hrow : RdS wb A7 q7 (ss ++ [t]) := by
          have h5 := O7.out
          have h6 : (ss ++ [t]).map Value.string = ss.map Value.string ++ [Value.string t] := by simp
          rw [List.nil_append, ← h6] at h5
          exact own_rdS h5
        refine (impl_FreePaths A7 q7 c7 (ss ++ [t]) d _ hrow (by omega) (fun s hs => by have := sizes_snoc HSZ.out (show t.size ≤ 1020 by omega) s hs; omega)).mono ?_
        rintro e wc ⟨rfl, hbc⟩
        rw [HF.out]
        have hsc := hbc.size
        have BC := Lib.hid (B7.out.trans (hbc.mono s7))
        clear hrow hbc
        have OT := Lib.hid (own_lit wc 9 1 [.string t] rfl (by unfold maxLen; omega))
        have Rs2 := Lib.hid (Rd.below (Rd.below (own_rdS Cs_5.out) BC.out) ((Below.refl _ _).alloc (Nat.le_refl _) (.cells #[.string t] 9)))
        go_wp2_with (at_builtin; refine wpList_append_rd _ rfl (.tmp 105) (.tmp 106) 39 rfl wc.heap.size 9 (.string ⟨#[]⟩) 16 Try.underlying39 Try.infoStr rfl (.slice (some ⟨wc.heap.size, 0, none⟩) 1 1) _ _ rfl OT.out _ _ _ _ rfl Rs2.out HONE.out ?_ (by omega) ?_ ?_; omega; simp; intro A8 q8 c8 wd hq ho hg; have Q8 := Lib.hid hq.out; have O8 := Lib.hid ho; have hb8 := own_below_of OT.out hg (by simp); have B8 := Lib.hid (((Below.refl _ _).alloc (Nat.le_refl _) _).trans hb8); clear hq ho hg hb8; have b8 : q8 ≤ 10000 := (by have := Q8.out; omega); have s8 := B8.out.size)
        have hrow : RdS wd A8 q8 (t :: ss) := by
          have h5 := O8.out
          have h6 : (t :: ss).map Value.string = [Value.string t] ++ ss.map Value.string := by simp
          rw [← h6] at h5
          exact own_rdS h5
        refine (impl_AllocateTree A8 q8 c8 (t :: ss) d _ hrow (by omega) (fun s hs => by
          rcases List.mem_cons.1 hs with h5 | h5
          · rw [h5]; omega
          · have := HSZ.out s h5; omega)).mono ?_
        rintro e we ⟨u, rfl, hu, hbe⟩
        rw [HAL.out] at hu ⊢
        have BE := Lib.hid (BC.out.trans ((B8.out.trans (hbe.mono s8)).mono (by have := B7.out.size; omega)))
        have hBE := hB5.trans (BE.out.mono hB5.size)
        clear hrow hbe HAL HF
        cases r with
        | nil =>
          obtain rfl : M = 0 := by rw [← HME.out]; rfl
          rw [show headC [] = ([], false) from rfl] at hu ⊢
          clear hu
          go_wp2_with fail
          go_ret
          exact ⟨rfl, hBE⟩
        | cons y s =>
          obtain ⟨g1, g2⟩ := F5.out y s rfl
          rw [show headC (y :: s) = (y, true) from rfl] at hu ⊢
          replace hu : u.data.toList = y := hu
          have hM1 : M = s.length + 1 := by rw [← HME.out]; rfl
          have l1 : Op.bytesLess u.toList t.toList = false := by rw [ByteArray.toList_eq, ByteArray.toList_eq, hu, HT.out]; exact g1
          have l2 : (u.toList == t.toList) = false := by rw [ByteArray.toList_eq, ByteArray.toList_eq, hu, HT.out]; exact g2
          have l3 : (((M + 1 : Nat) : Int) == 1) = false := beq_eq_false_iff_ne.2 (by omega)
          have hM0 : 1 ≤ M := by omega
          clear hu hM1 g1 g2
          go_wp2_with fail
          go_ret
          exact ⟨rfl, hBE⟩

end Go.Proofs.Ytfendecmgcmbjaa
