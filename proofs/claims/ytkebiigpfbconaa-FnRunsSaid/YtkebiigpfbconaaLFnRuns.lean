/- The walk of the law on RunLengths. Conditions: as the theorem says. -/
import Derived.Test.YtkebiigpfbconaaC16
import Derived.Test.YtkebiigpfbconaaR10
namespace Go.Proofs.Ytkebiigpfbconaa
open Go.RowKit
set_option linter.unusedSimpArgs false
set_option linter.unusedVariables false
set_option maxRecDepth 100000

theorem nxB_data (s t : ByteArray) (i : Nat) (ht : t.data.toList = rotL s.data.toList (1 % s.size)) (hi : i < s.size) (hi2 : i < t.size) : nxB s.data.toList i = (s[i] != t[i]) := by
  unfold nxB
  rw [len_data, ← ht, List.getD_eq_getElem?_getD, List.getD_eq_getElem?_getD, data_at s i hi, data_at t i hi2]; rfl
theorem sumI_step (zs : List Int) (i : Nat) (x : Int) (h : zs[i]? = some x) : sumI (zs.take (i + 1)) = sumI (zs.take i) + x := by
  rw [take_add zs i x h, sumI_app]; show _ + (x + 0) = _; omega
theorem sorted_at (zs : List Int) (h : zs.Pairwise (· ≤ ·)) (i : Nat) (x y : Int) (hx : zs[i]? = some x) (hy : zs[i + 1]? = some y) : x ≤ y := by
  obtain ⟨h1, rfl⟩ := List.getElem?_eq_some_iff.1 hx
  obtain ⟨h2, rfl⟩ := List.getElem?_eq_some_iff.1 hy
  exact List.pairwise_iff_getElem.1 h i (i + 1) h1 h2 (Nat.lt_succ_self _)
set_option maxHeartbeats 8000000 in
theorem walk_FnRuns (A0 : Option Addr) (n0 c0 : Nat) (z0 : List Int) (w : World) (h0 : RowIn .u8 w A0 n0 c0 z0) :
    Calls Try.prog 5 #[.slice A0 n0 c0] w fun e w' => e = .returned (.bool true) ∧ Below w.heap.size w w' := by
  by_cases hs0 : 1048576 < n0
  · go_enter Try.func5, Try.ntmps5
    go_wp2
    go_ret
    exact ⟨rfl, Below.refl _ _⟩
  replace hs0 : n0 ≤ 1048576 := by omega
  go_enter Try.func5, Try.ntmps5
  go_wp2_with fail
  refine (spec_DrawRunLengths _ _ _ _ _ h0).mono ?_
  rintro e w1 ⟨s, rfl, hsz, hB1⟩
  clear h0
  have hS1 := hB1.size
  have hsm : s.size ≤ maxLen := by unfold maxLen; omega
  go_wp2_with fail
  refine (impl_RunLengths s w1 hsm).mono ?_
  rintro e w2 ⟨A, n, c, rfl, ho, hb2⟩
  have hB2 := hB1.trans (hb2.mono hS1)
  have hS2 := hB2.size
  clear hb2
  go_wp2_with fail
  refine (spec_RunLengths s w2 hsm).mono ?_
  rintro e w3 ⟨A3, n3, c3, rfl, ho3, hb3⟩
  have ho' := own_below ho hb3
  have hB3 := hB2.trans (hb3.mono hS2)
  have hS3 := hB3.size
  have hn4 : (runsC s.data.toList).length = n := (own_rdI (k := .i64) ho').len
  have hnm := own_cap ho'
  have hcall := laws_ssInts A A3 n c n3 c3 _ _ w3 (own_rdI (k := .i64) ho') (own_rdI (k := .i64) ho3) hnm
  rw [decide_eq_true rfl] at hcall
  clear ho ho3 hb3 hB1 hB2 hS1 hS2
  go_wp2_with fail
  refine hcall.mono ?_
  clear hcall
  rintro e w4 ⟨rfl, m4, rfl⟩
  cases hq : seqB s.data.toList
  · have hn0 : n = 0 := by rw [← hn4]; unfold runsC; rw [hq]; rfl
    subst hn0
    have HQ := Lib.hid hq
    have HO := Lib.hid (show (w3.drewN m4).ownsRow w1.heap.size 3 1 (.slice A 0 c) 0 ((runsC s.data.toList).map (Value.int .i64)) from ho')
    have hB4 := below_drewN hB3 m4
    generalize w3.drewN m4 = w4 at *
    have hS4 := hB4.size
    clear hq ho' hB3
    go_wp2_with fail
    refine (spec_RunLengths s w4 hsm).mono ?_
    rintro e w5 ⟨A5, n5, c5, rfl, ho5, hb5⟩
    have ho' := own_below HO.out hb5
    have hB5 := hB4.trans (hb5.mono hS4)
    have hcall := laws_ssInts A A5 0 c n5 c5 _ _ w5 (own_rdI (k := .i64) ho') (own_rdI (k := .i64) ho5) hnm
    rw [decide_eq_true rfl] at hcall
    clear ho5 hb5 hB4
    go_wp2_with fail
    refine hcall.mono ?_
    clear hcall
    rintro e w6 ⟨rfl, m6, rfl⟩
    go_wp2_with (go_at_call 11; refine (impl_SequenceValid _ _ hsm).mono ?_; rintro e w' ⟨rfl, rfl⟩; rw [HQ.out])
    go_ret
    exact ⟨rfl, below_drewN hB5 _⟩
  · have hz := seqB_bd s hq
    have hbits : s.data.toList.all isBit = true := by unfold seqB at hq; exact (Bool.and_eq_true _ _ ▸ hq).2
    have hl0 : 0 < s.data.toList.length := by rw [len_data]; omega
    have hrl : runsC s.data.toList = runsL s.data.toList := by unfold runsC; rw [hq, if_pos rfl]
    rw [hrl] at ho' hn4
    have hlen := runs_len s.data.toList hl0
    have hok := runs_ok s.data.toList hl0
    have hcor := nx_cor s.data.toList hl0
    have hev := nx_even s.data.toList hl0 hbits
    rw [len_data] at hlen hok hcor hev
    obtain ⟨zs, hzs⟩ : ∃ zs, runsL s.data.toList = zs := ⟨_, rfl⟩
    rw [hzs] at ho' hn4 hlen hok
    have hn1 : 1 ≤ n := by rw [← hn4, hlen]; omega
    have hcnt := cnt_le (nxB s.data.toList) s.size
    have hn255 : n ≤ 255 := by rw [← hn4, hlen]; omega
    have HSUM := Lib.hid hok.1
    have HEL := Lib.hid hok.2.1
    have HSO := Lib.hid hok.2.2
    have HNL := Lib.hid hn4
    have HQ := Lib.hid hq
    obtain ⟨C, hC⟩ : ∃ C, cnt (nxB s.data.toList) s.size = C := ⟨_, rfl⟩
    rw [hC] at hlen hcor hev hcnt
    have HC := Lib.hid hC
    have HLEN := Lib.hid hlen
    have HCOR := Lib.hid hcor
    have HEV := Lib.hid hev
    have HB := Lib.hid (below_drewN hB3 m4)
    have HO := Lib.hid (show (w3.drewN m4).ownsRow w1.heap.size 3 1 (.slice A n c) n (zs.map (Value.int .i64)) from ho')
    have dn : ((n : Int) == 0) = false := beq_eq_false_iff_ne.2 (by omega)
    clear hq hbits hl0 hrl hn4 hlen hok hcor hev hzs hC hB3 ho' hcnt
    generalize w3.drewN m4 = w4 at *
    obtain ⟨g, rfl, hg1, hg2⟩ := own_some HO.out (show 0 < n by omega)
    have HCELL := Lib.hid (fun (i : Nat) (y : Int) (hi : i < n) (hy : zs[i]? = some y) => show w4.cell? ⟨g, i, none⟩ = some (.int .i64 y) from (HO.out.cellAt i (by omega)).trans (by rw [List.getElem?_map, hy]; rfl))
    have HAT := Lib.hid (fun (i : Nat) (hi : i < n) => show ∃ y, zs[i]? = some y from ⟨_, List.getElem?_eq_getElem (by rw [HNL.out]; exact hi)⟩)
    go_wp2_with fail
    go_loopw [5, 6] (fun z v wr => ∃ (i d : Nat) (x : Int), i ≤ n ∧ v = .int .i64 i ∧ z = .int .i64 x ∧ wr = w4.drewN d ∧ Hid (x = sumI (zs.take i)) ∧ 0 ≤ x ∧ x ≤ 255 * i) (fun _ v _ => n - (intOf v).toNat)
    case atStart => exact ⟨0, 0, 0, by omega, rfl, rfl, rfl, rfl, by omega, by omega⟩
    case round =>
      obtain ⟨i, d, x, hi, rfl, rfl, rfl, hx, hx0, hx1⟩ := hrel
      by_cases hlt : i < n
      · obtain ⟨y, hyy⟩ := HAT.out i hlt
        have hcy := HCELL.out i y hlt hyy
        have hyb := HEL.out y (List.mem_of_getElem? hyy)
        have hst := sumI_step zs i y hyy
        rw [← hx.out] at hst
        have HST := Lib.hid hst
        have hwx : IntKind.i64.wrap (x + y) = x + y := IntWalk.i64_in _ ⟨by omega, by omega⟩
        have dy : decide (y < 1) = false := decide_eq_false (by omega)
        have hy1 : 1 ≤ y := hyb.1
        have hy2 : y ≤ 255 := by omega
        clear hst hx hyb
        by_cases hi0 : i = 0
        · subst hi0
          clear hyy
          go_wp2_with fail
          go_quiet (fail)
          go_wp2_with fail
          clear hwx
          go_roundw
          case rel => exact ⟨0 + 1, _, x + y, by omega, by go_num, rfl, rfl, HST.out.symm, by omega, by omega⟩
          case measure => simp [intOf] <;> omega
        · obtain ⟨j, rfl⟩ : ∃ j, i = j + 1 := ⟨i - 1, by omega⟩
          obtain ⟨u, hu⟩ := HAT.out j (by omega)
          have hcu := HCELL.out j u (by omega) hu
          have hle := sorted_at zs HSO.out j u y hu hyy
          have dyu : decide (y < u) = false := decide_eq_false (by omega)
          have hwj : IntKind.i64.wrap (((j + 1 : Nat) : Int) - 1) = (j : Int) := by rw [IntWalk.i64_in _ ⟨by omega, by omega⟩]; omega
          have hwj2 : IntKind.i64.wrap ((j : Int) + 1 - 1) = (j : Int) := by rw [IntWalk.i64_in _ ⟨by omega, by omega⟩]; omega
          have dj : decide ((0 : Int) < (j : Int) + 1) = true := decide_eq_true (by omega)
          clear hyy hu hle
          go_wp2_with fail
          go_quiet (fail)
          go_wp2_with fail
          clear hwx hwj hwj2
          go_roundw
          case rel => exact ⟨j + 1 + 1, _, x + y, by omega, by go_num, rfl, rfl, HST.out.symm, by omega, by omega⟩
          case measure => simp [intOf] <;> omega
      · obtain rfl : n = i := by omega
        have hxs := hx.out
        rw [List.take_of_length_le (by rw [HNL.out]; exact Nat.le_refl _), HSUM.out] at hxs
        subst hxs
        have hB5 := below_drewN HB.out d
        generalize w4.drewN d = w5 at *
        have hS5 := hB5.size
        have hsh := laws_ssShift_any s 1 w5 HQ.out (by omega)
        go_wp2_with fail
        refine hsh.mono ?_
        clear hsh
        rintro e w6 ⟨rfl, hb6⟩
        have hB6 := hB5.trans (hb6.mono hS5)
        obtain ⟨t, ht⟩ : ∃ t, ofL (rotL s.data.toList (1 % s.size)) = t := ⟨_, rfl⟩
        rw [ht]
        have htd : t.data.toList = rotL s.data.toList (1 % s.size) := by rw [← ht, ofL_list]
        have hts : t.size = s.size := by
          have := Nat.mod_lt 1 (show 0 < s.size by omega)
          rw [← len_data, htd, rotL_len _ _ (by rw [len_data]; omega), len_data]
        have HNX := Lib.hid (fun i hi hi2 => nxB_data s t i htd hi hi2)
        have HTS := Lib.hid hts
        have hB6' := Lib.hid hB6
        clear htd hts ht hb6 hB5 hB6 hx hx0 hx1
        go_wp2_with fail
        go_loopw [7, 9] (fun z v wr => ∃ (i d : Nat), i ≤ s.size ∧ v = .int .i64 i ∧ z = .int .i64 (cnt (nxB s.data.toList) i) ∧ wr = w6.drewN d) (fun _ v _ => s.size - (intOf v).toNat)
        case atStart => exact ⟨0, 0, by omega, rfl, rfl, rfl⟩
        case round =>
          obtain ⟨i, d, hi, rfl, rfl, rfl⟩ := hrel
          have hcl := cnt_le (nxB s.data.toList) i
          by_cases hlt : i < s.size
          · have hi2 : i < t.size := by rw [HTS.out]; exact hlt
            have hnx := HNX.out i hlt hi2
            have hyes := cnt_yes (nxB s.data.toList) i
            have hno := cnt_no (nxB s.data.toList) i
            obtain ⟨C0, hC0⟩ : ∃ C0, cnt (nxB s.data.toList) i = C0 := ⟨_, rfl⟩
            rw [hC0] at hcl hyes hno ⊢
            rcases byte_same s[i] t[i] with ⟨h3, h4⟩ | ⟨h3, h4⟩
            · have hs1 := hno (by rw [hnx, bne_no8 h4.out])
              have HS1 := Lib.hid hs1
              clear hs1 hno hyes hnx h4 hC0
              go_wp2_with fail
              go_quiet (fail)
              go_wp2_with fail
              go_roundw
              case rel => exact ⟨i + 1, _, by omega, by go_num, by rw [HS1.out], rfl⟩
              case measure => simp [intOf] <;> omega
            · have hs1 := hyes (by rw [hnx, bne_yes8 h4.out])
              have HS1 := Lib.hid hs1
              clear hs1 hno hyes hnx h4 hC0
              go_wp2_with fail
              go_quiet (fail)
              go_wp2_with fail
              go_roundw
              case rel => exact ⟨i + 1, _, by omega, by go_num, by rw [HS1.out]; go_num, rfl⟩
              case measure => simp [intOf] <;> omega
          · obtain rfl : i = s.size := by omega
            rw [HC.out] at hcl ⊢
            have hau := impl_AutoOf_any s 1 (w6.drewN d) HQ.out (by omega)
            rw [HCOR.out] at hau
            have hnC := HLEN.out
            rw [HNL.out] at hnC
            have hev := HEV.out
            have e1 : ((n : Int) == max (C : Int) 1) = true := beq_iff_eq.2 (by omega)
            have e2 : (C : Int).tmod 2 = 0 := by rw [Int.tmod_eq_emod_of_nonneg (by omega)]; omega
            have e3 : IntKind.i64.wrap (2 * (C : Int)) = 2 * (C : Int) := IntWalk.i64_in _ ⟨by omega, by omega⟩
            have e4 : IntKind.i64.wrap ((s.size : Int) - 2 * (C : Int)) = (s.size : Int) - 2 * (C : Int) := IntWalk.i64_in _ ⟨by omega, by omega⟩
            clear hnC hev
            go_wp2_with fail
            refine hau.mono ?_
            clear hau
            rintro e w7 ⟨rfl, m7, rfl⟩
            go_wp2_with fail
            go_ret
            exact ⟨rfl, below_drewN hB6'.out _⟩

end Go.Proofs.Ytkebiigpfbconaa
