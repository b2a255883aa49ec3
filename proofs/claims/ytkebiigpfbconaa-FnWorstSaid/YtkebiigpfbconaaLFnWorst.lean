/- The walk of the law on the greatest correlation of a family. Conditions: as the theorem says. -/
import Derived.Test.YtkebiigpfbconaaC15
import Derived.Test.YtkebiigpfbconaaC14
import Derived.Test.YtkebiigpfbconaaDrawX
import Derived.Test.YtkebiigpfbconaaPureZ
import Derived.Deep.RegionHeld3
namespace Go.Proofs.Ytkebiigpfbconaa
open Go.RowKit
set_option linter.unusedSimpArgs false
set_option linter.unusedVariables false
set_option maxRecDepth 100000

/-- None of the correlations that were looked at is the greatest one. -/
def noneTo (us : List (List UInt8)) (W : Int) (L i k s : Nat) : Prop :=
  W ≠ 0 ∧ ∀ i' k' s', k' ≤ i' → i' < us.length → s' < L → ¬ (i' = k' ∧ s' = 0) → (i' < i ∨ i' = i ∧ (k' < k ∨ k' = k ∧ s' < s)) →
    corL (us.getD k' []) (us.getD i' []) s' ≠ W ∧ -corL (us.getD k' []) (us.getD i' []) s' ≠ W
theorem none_start (us : List (List UInt8)) (W : Int) (L : Nat) (h : W ≠ 0) : noneTo us W L 0 0 0 := ⟨h, fun i' k' s' _ _ _ _ h => absurd h (by omega)⟩
theorem none_s (us : List (List UInt8)) (W : Int) (L i k s : Nat) (h : noneTo us W L i k s) (hc : ¬ (i = k ∧ s = 0) → corL (us.getD k []) (us.getD i []) s ≠ W ∧ -corL (us.getD k []) (us.getD i []) s ≠ W) : noneTo us W L i k (s + 1) :=
  ⟨h.1, fun i' k' s' h1 h2 h3 h4 h5 => by
    by_cases he : i' = i ∧ k' = k ∧ s' = s
    · obtain ⟨rfl, rfl, rfl⟩ := he
      exact hc h4
    · exact h.2 i' k' s' h1 h2 h3 h4 (by omega)⟩
theorem none_k (us : List (List UInt8)) (W : Int) (L i k : Nat) (h : noneTo us W L i k L) : noneTo us W L i (k + 1) 0 :=
  ⟨h.1, fun i' k' s' h1 h2 h3 h4 h5 => h.2 i' k' s' h1 h2 h3 h4 (by omega)⟩
theorem none_i (us : List (List UInt8)) (W : Int) (L i : Nat) (h : noneTo us W L i (i + 1) 0) : noneTo us W L (i + 1) 0 0 :=
  ⟨h.1, fun i' k' s' h1 h2 h3 h4 h5 => h.2 i' k' s' h1 h2 h3 h4 (by omega)⟩
theorem none_end (us : List (List UInt8)) (hf : famB us = true) (h : noneTo us (worstC us) (us.headD []).length us.length 0 0) : False :=
  worst_some us hf h.1 fun i k s h1 h2 h3 h4 => h.2 i k s h1 h2 h3 h4 (by omega)
theorem tmod_natW (a b : Nat) : (a : Int).tmod (b : Int) = ((a % b : Nat) : Int) := by rw [Int.tmod_eq_emod_of_nonneg (by omega)]; rfl
theorem lists_set (ss : List ByteArray) (t : ByteArray) : lists (ss.set 0 t) = (lists ss).set 0 t.data.toList := by unfold lists; rw [List.map_set]
theorem lists_take (ss : List ByteArray) (k : Nat) : lists (ss.take k) = (lists ss).take k := by unfold lists; rw [List.map_take]
set_option maxHeartbeats 8000000 in
theorem walk_FnWorst (A0 : Option Addr) (n0 c0 : Nat) (z0 : List Int) (A1 : Option Addr) (n1 c1 : Nat) (z1 : List Int) (w : World) (h0 : RowIn .u8 w A0 n0 c0 z0) (h1 : RowIn .u8 w A1 n1 c1 z1) :
    Calls Try.prog 4 #[.slice A0 n0 c0, .slice A1 n1 c1] w fun e w' => e = .returned (.bool true) ∧ Below w.heap.size w w' := by
  clear h1
  by_cases hs0 : 1048576 < n0
  · have d0 : decide ((1048576 : Int) < (n0 : Int)) = true := decide_eq_true (by omega)
    clear h0
    go_enter Try.func4, Try.ntmps4
    go_wp2
    go_ret
    exact ⟨rfl, Below.refl _ _⟩
  have d0 : decide ((1048576 : Int) < (n0 : Int)) = false := decide_eq_false (by omega)
  by_cases hs1 : 1048576 < n1
  · have d1 : decide ((1048576 : Int) < (n1 : Int)) = true := decide_eq_true (by omega)
    clear h0
    go_enter Try.func4, Try.ntmps4
    go_wp2
    go_ret
    exact ⟨rfl, Below.refl _ _⟩
  have d1 : decide ((1048576 : Int) < (n1 : Int)) = false := decide_eq_false (by omega)
  go_enter Try.func4, Try.ntmps4
  go_wp2_with fail
  refine (spec_DrawWorstCross _ _ _ _ _ h0).mono ?_
  rintro e w1 ⟨A, n, c, ss, rfl, hx, hnc, hn6, hsz, hB1⟩
  clear h0
  have hS1 := hB1.size
  have hsz2 : ∀ s ∈ ss, s.size ≤ 1048576 := fun s hs => by have := hsz s hs; omega
  have hcs := fun wk (hb : Below w1.heap.size w1 wk) => spec_WorstCross A n c ss wk (Rd.below hx hb) (by omega) hsz2
  have hci := impl_WorstCross A n c ss w1 hx (by omega) hnc hsz2
  obtain ⟨W, hW⟩ : ∃ W, worstC (lists ss) = W := ⟨_, rfl⟩
  rw [hW] at hci hcs
  have HCS := Lib.hid hcs
  have HW := Lib.hid hW
  clear hcs hW
  go_wp2_with fail
  refine hci.mono ?_
  clear hci
  rintro e w2 ⟨rfl, m2, rfl⟩
  have hb2 := below_drewN (Below.refl w1.heap.size w1) m2
  generalize w1.drewN m2 = w2 at *
  go_wp2_with fail
  refine (HCS.out w2 hb2).mono ?_
  rintro e w3 ⟨rfl, hb3'⟩
  have hb3 := hb2.trans (hb3'.mono hb2.size)
  clear hb3' hb2
  have eW : (W == W) = true := by simp
  have eW2 : (W != W) = false := by simp
  cases hf : famB (lists ss)
  · obtain rfl : W = -1 := by rw [← HW.out]; unfold worstC; rw [hf]; rfl
    clear hf
    go_wp2_with fail
    refine (HCS.out w3 hb3).mono ?_
    rintro e w4 ⟨rfl, hb4⟩
    go_wp2_with fail
    go_ret
    exact ⟨rfl, hB1.trans ((hb3.trans (hb4.mono hb3.size)).mono hS1)⟩
  · obtain ⟨hu1, hu70, hall⟩ := fam_at _ hf
    have hW0 : 0 ≤ W := by rw [← HW.out]; exact worst_nonneg _ hf
    have hln : (lists ss).length = n := by rw [lists_len, hx.len]
    have hn1 : 1 ≤ n := by omega
    obtain ⟨b0, o0, x0, hA, hbl0, hx0, hc00⟩ := RdS.at hx (i := 0) (by omega)
    subst hA
    have hhd : (lists ss).headD [] = x0.data.toList := head_lists ss x0 hx0.out
    obtain ⟨L, hL⟩ : ∃ L, x0.size = L := ⟨_, rfl⟩
    have hLL : ((lists ss).headD []).length = L := by rw [hhd, len_data, hL]
    have hseq : ∀ x ∈ ss, seqB x.data.toList = true ∧ x.size = L := fun x hxm => by
      have h7 := hall x.data.toList (List.mem_map.2 ⟨x, hxm, rfl⟩)
      exact ⟨h7.1, by rw [← len_data, h7.2, hLL]⟩
    have hLb : 1 ≤ L ∧ L ≤ 255 := by have := seqB_bd x0 (hseq x0 (List.mem_of_getElem? hx0.out)).1; omega
    have HSEQ := Lib.hid hseq
    have HF := Lib.hid hf
    have HLL := Lib.hid hLL
    have HHD := Lib.hid hhd
    have HX0 := Lib.hid hL
    have HLN := Lib.hid hln
    have HXA := Lib.hid hx
    have hx0m := List.mem_of_getElem? hx0.out
    have HX0M := Lib.hid hx0m
    have HSZ := Lib.hid hsz2
    -- the string at place i, and what the bounds say of the correlations
    have HAT := Lib.hid (fun (i : Nat) (hi : i < n) => show ∃ x, Hid (ss[i]? = some x) ∧ (∀ wk, Below w1.heap.size w1 wk → wk.cell? ⟨b0, o0 + i, none⟩ = some (.string x)) by
      obtain ⟨b', o', x, hA, hbl, hxx, hcx⟩ := RdS.at hx hi
      injection hA with hA
      injection hA with hA1 hA2 _
      subst hA1 hA2
      exact ⟨x, hxx.out, fun wk hb => (hb.cell (p := ⟨b0, o0 + i, none⟩) hbl).trans hcx⟩)
    have HBD := Lib.hid (fun (i k s : Nat) (xi xk : ByteArray) (hxi : Hid (ss[i]? = some xi)) (hxk : Hid (ss[k]? = some xk)) (hki : k ≤ i) (hi : i < n) (hs : s < L) (hne : ¬ (i = k ∧ s = 0)) =>
      show corL xk.data.toList xi.data.toList s ≤ W ∧ -corL xk.data.toList xi.data.toList s ≤ W by
        have h7 := worst_bound (lists ss) hf i k s hki (by rw [hln]; exact hi) (by rw [hLL]; exact hs) hne
        rw [getD_lists ss k xk hxk.out, getD_lists ss i xi hxi.out, HW.out] at h7
        exact h7)
    clear hf hu1 hu70 hall hln hhd hL hLL hseq hx hx0m hsz2 hsz hc00 hbl0
    have hB3 := hB1.trans (hb3.mono hS1)
    have dW : decide (W < 0) = false := decide_eq_false (by omega)
    have HB3 := Lib.hid hb3
    have hSb := hb3.size
    clear hb3
    go_wp2_with fail
    go_loopw [7, 8] (fun sm v wr => ∃ (i : Nat) (b : Bool), i ≤ n ∧ v = .int .i64 i ∧ sm = .bool b ∧ Hid (b = false → noneTo (lists ss) W L i 0 0) ∧ Below w1.heap.size w1 wr ∧ w1.heap.size ≤ wr.heap.size) (fun _ v _ => n - (intOf v).toNat)
    case atStart => exact ⟨0, _, Nat.zero_le _, rfl, rfl, fun h => none_start _ _ _ (by simpa using h), HB3.out, hSb⟩
    case round =>
      obtain ⟨i, b, hi, rfl, rfl, hno, hb, hsz⟩ := hrel
      clear HB3 hSb hB3
      by_cases hlt : i < n
      · obtain ⟨xi, hxi, hci⟩ := HAT.out i hlt
        have HCI := Lib.hid hci
        have hli : (i : Int) < (n : Int) := by omega
        obtain ⟨wo, rfl⟩ : ∃ wo, wo = wr := ⟨_, rfl⟩
        clear hci
        go_wp2_with fail
        go_loopw [7, 9] (fun sm v wr => ∃ (k : Nat) (b : Bool), k ≤ i + 1 ∧ v = .int .i64 k ∧ sm = .bool b ∧ Hid (b = false → noneTo (lists ss) W L i k 0) ∧ Below w1.heap.size w1 wr ∧ w1.heap.size ≤ wr.heap.size) (fun _ v _ => i + 1 - (intOf v).toNat)
        case atStart => exact ⟨0, b, Nat.zero_le _, rfl, rfl, hno, hb, hsz⟩
        case round =>
          obtain ⟨k, b, hk, rfl, rfl, hno, hb, hsz⟩ := hrel
          by_cases hlt2 : k ≤ i
          · obtain ⟨xk, hxk, hck⟩ := HAT.out k (by omega)
            have hck' := hck wr hb
            have hci' := HCI.out wr hb
            have hkn : (k : Int) < (n : Int) := by omega
            have hkn2 : k < n := by omega
            have hsi := HSEQ.out xi (List.mem_of_getElem? hxi.out)
            have hsk := HSEQ.out xk (List.mem_of_getElem? hxk.out)
            have hpair : pairB xk xi = true := by unfold pairB; rw [hsi.1, hsk.1, hsi.2, hsk.2]; simp
            have hct := fun w => impl_CrossTable xk xi w (by omega) (by omega)
            rw [show tabL xk xi = corsL xk.data.toList xi.data.toList by unfold tabL; rw [hpair, if_pos rfl]] at hct
            have HCT := Lib.hid hct
            have hcl : (corsL xk.data.toList xi.data.toList).length = L := by rw [corsL_len, len_data, hsk.2]
            have HCL := Lib.hid hcl
            have hd2 : decide ((k : Int) ≤ (i : Int)) = true := decide_eq_true (by omega)
            have HCK := Lib.hid hck
            have hci2 : wr.drew.cell? ⟨b0, o0 + i, none⟩ = some (.string xi) := hci'
            have hck2 : wr.drew.cell? ⟨b0, o0 + k, none⟩ = some (.string xk) := hck'
            clear hck hpair hct hcl hsi hsk
            go_wp2_with fail
            go_region_held3 (fun w' => w'.cell? ⟨b0, o0 + i, none⟩ = some (.string xi) ∧ w'.cell? ⟨b0, o0 + k, none⟩ = some (.string xk)) (first | exact ⟨hci', hck'⟩ | exact ⟨hci2, hck2⟩ | exact ⟨hea, heb⟩) ((go_at_call 18; refine (HCT.out _).mono ?_; rintro e w7 ⟨B, m, d, rfl, ho, hb7⟩; have hB7 : Below w1.heap.size w1 w7 := hb.trans ((⟨hb7.os, hb7.tape, hb7.output, hb7.size, hb7.block⟩ : Below wr.heap.size wr w7).mono hsz); have hea := HCI.out w7 hB7; have heb := HCK.out w7 hB7; have HO7 := Lib.hid ho; clear ho hb7))
            have hml : L = m := by have h7 := HO7.out.1; rw [List.length_map, HCL.out] at h7; omega
            subst hml
            obtain ⟨g, rfl, hg1, hg2⟩ := own_some HO7.out (show 0 < L by omega)
            have HCELL := Lib.hid (fun (s : Nat) (hs : s < L) => show w7.cell? ⟨g, s, none⟩ = some (.int .i64 (corL xk.data.toList xi.data.toList s)) from
              (HO7.out.cellAt s (by omega)).trans (by rw [List.getElem?_map, corsL_at _ _ _ (by rw [← corsL_len xk.data.toList xi.data.toList, HCL.out]; exact hs)]; rfl))
            have HCB := Lib.hid (fun s => corL_bd xk.data.toList xi.data.toList s (by rw [← corsL_len xk.data.toList xi.data.toList, HCL.out]; omega))
            have hsz7 := hB7.size
            have HGK := Lib.hid (getD_lists ss k xk hxk.out)
            have HGI := Lib.hid (getD_lists ss i xi hxi.out)
            clear hea heb hci' hck' hci2 hck2 hb hsz HCT
            go_wp2_with fail
            go_loopw [7, 11] (fun sm v wr => ∃ (s : Nat) (b : Bool), s ≤ L ∧ v = .int .i64 s ∧ sm = .bool b ∧ Hid (b = false → noneTo (lists ss) W L i k s) ∧ w7 = wr) (fun _ v _ => L - (intOf v).toNat)
            case atStart => exact ⟨0, b, Nat.zero_le _, rfl, rfl, hno, rfl⟩
            case round =>
              obtain ⟨s, b, hs, rfl, rfl, hno, rfl⟩ := hrel
              by_cases hlt3 : s < L
              · by_cases hzz : i = k ∧ s = 0
                · obtain ⟨hik, rfl⟩ := hzz
                  have eik : ((i : Int) == (k : Int)) = true := beq_iff_eq.2 (by omega)
                  have eik2 : (i == k) = true := beq_iff_eq.2 hik
                  go_wp2_with fail
                  go_roundw
                  case rel => exact ⟨0 + 1, b, by omega, by go_num, rfl, fun h => none_s _ _ _ _ _ _ (hno.out h) (fun h2 => absurd ⟨hik, rfl⟩ h2), trivial⟩
                  case measure => simp [intOf] <;> omega
                · have hcell := HCELL.out s hlt3
                  have hcb := HCB.out s
                  have hbd := HBD.out i k s xi xk hxi hxk hlt2 hlt hlt3 hzz
                  have hstep := none_s (lists ss) W L i k s
                  rw [HGK.out, HGI.out] at hstep
                  obtain ⟨cc, hcc⟩ : ∃ cc, corL xk.data.toList xi.data.toList s = cc := ⟨_, rfl⟩
                  rw [hcc] at hcell hcb hbd hstep
                  have hneg : IntKind.i64.wrap (-cc) = -cc := IntWalk.i64_in _ ⟨by omega, by omega⟩
                  have dc1 : decide (W < cc) = false := decide_eq_false (by omega)
                  have dc2 : decide (W < -cc) = false := decide_eq_false (by omega)
                  have HST := Lib.hid hstep
                  clear hstep hcc hbd hcb
                  have hikc : (((i : Int) == (k : Int)) = false ∧ (i == k) = false) ∨ ((((i : Int) == (k : Int)) = true ∧ (i == k) = true) ∧ ((s : Int) == 0) = false ∧ (s == 0) = false) := by
                    by_cases h7 : i = k
                    · have h8 : s ≠ 0 := fun h => hzz ⟨h7, h⟩
                      exact .inr ⟨⟨beq_iff_eq.2 (by omega), beq_iff_eq.2 h7⟩, beq_eq_false_iff_ne.2 (by omega), beq_eq_false_iff_ne.2 h8⟩
                    · exact .inl ⟨beq_eq_false_iff_ne.2 (by omega), beq_eq_false_iff_ne.2 h7⟩
                  have hbc : b = true ∨ (b = false ∧ (cc == W) = true) ∨ (b = false ∧ (cc == W) = false ∧ (-cc == W) = true) ∨ (b = false ∧ (cc == W) = false ∧ (-cc == W) = false ∧ Hid (cc ≠ W ∧ -cc ≠ W)) := by
                    cases b
                    · by_cases h7 : cc = W
                      · exact .inr (.inl ⟨rfl, beq_iff_eq.2 h7⟩)
                      · by_cases h8 : -cc = W
                        · exact .inr (.inr (.inl ⟨rfl, beq_eq_false_iff_ne.2 h7, beq_iff_eq.2 h8⟩))
                        · exact .inr (.inr (.inr ⟨rfl, beq_eq_false_iff_ne.2 h7, beq_eq_false_iff_ne.2 h8, h7, h8⟩))
                    · exact .inl rfl
                  clear hzz
                  rcases hikc with ⟨eik, eik2⟩ | ⟨⟨eik, eik2⟩, es1, es2⟩
                  all_goals
                    rcases hbc with rfl | ⟨rfl, ew⟩ | ⟨rfl, ew, en⟩ | ⟨rfl, ew, en, hne⟩
                    · go_wp2_with fail
                      go_roundw
                      case rel => exact ⟨s + 1, true, by omega, by go_num, rfl, fun h => (by cases h), trivial⟩
                      case measure => simp [intOf] <;> omega
                    · go_wp2_with fail
                      go_roundw
                      case rel => exact ⟨s + 1, true, by omega, by go_num, rfl, fun h => (by cases h), trivial⟩
                      case measure => simp [intOf] <;> omega
                    · go_wp2_with fail
                      go_roundw
                      case rel => exact ⟨s + 1, true, by omega, by go_num, rfl, fun h => (by cases h), trivial⟩
                      case measure => simp [intOf] <;> omega
                    · go_wp2_with fail
                      go_roundw
                      case rel => exact ⟨s + 1, false, by omega, by go_num, rfl, fun h => HST.out (hno.out h) (fun _ => hne.out), trivial⟩
                      case measure => simp [intOf] <;> omega
              · obtain rfl : L = s := by omega
                go_wp2_with fail
                go_roundw
                case rel => exact ⟨k + 1, b, by omega, by go_num, rfl, fun h => none_k _ _ _ _ _ (hno.out h), hB7, hsz7⟩
                case measure => simp [intOf] <;> omega
          · obtain rfl : k = i + 1 := by omega
            have hd2 : decide (((i + 1 : Nat) : Int) ≤ (i : Int)) = false := decide_eq_false (by omega)
            obtain ⟨wp, rfl⟩ : ∃ wp, wp = wr := ⟨_, rfl⟩
            go_wp2_with fail
            go_roundw
            case rel => exact ⟨i + 1, b, by omega, by go_num, rfl, fun h => none_i _ _ _ _ (hno.out h), hb, hsz⟩
            case measure => simp [intOf] <;> omega
      · obtain rfl : n = i := by omega
        obtain rfl : b = true := by
          cases b
          · exfalso
            have h7 := hno.out rfl
            rw [← HW.out, ← HLL.out] at h7
            have h8 := HLN.out
            exact none_end (lists ss) HF.out (by rw [h8]; exact h7)
          · rfl
        have hsq0 := HSEQ.out x0 HX0M.out
        have hsL := HX0.out
        obtain ⟨xx, hxx, hc0⟩ := HAT.out 0 (by omega)
        obtain rfl : xx = x0 := by have h7 := hxx.out; rw [hx0.out] at h7; injection h7 with h7; exact h7.symm
        have hcell0 : wr.cell? ⟨b0, o0, none⟩ = some (.string xx) := hc0 wr hb
        have hinv := impl_InvertBits xx wr hsq0.1
        obtain ⟨wo, rfl⟩ : ∃ wo, wo = wr := ⟨_, rfl⟩
        have hn0 : (0 : Int) < (n : Int) := by omega
        have HC0 := Lib.hid hc0
        clear hc0 hxx hno
        go_wp2_with fail
        refine hinv.mono ?_
        clear hinv
        rintro e w5 ⟨y, rfl, hy, hb5⟩
        have hB5 := hb.trans (hb5.mono hsz)
        have hsz5 := hB5.size
        have hyl : y.size = L := by rw [← len_data, hy, List.length_map, len_data, hsL]
        have hyq : seqB y.data.toList = true := by
          unfold seqB
          rw [len_data, hyl, hy, flipC_bits, decide_eq_true hLb.1, decide_eq_true hLb.2]; rfl
        have HY := Lib.hid hy
        have HYQ := Lib.hid hyq
        have HYL := Lib.hid hyl
        have HRD := Lib.hid (fun wk (hk : Below w1.heap.size w1 wk) => show Rd wk (some ⟨b0, o0, none⟩) n 1 (ss.map Value.string) from Rd.below HXA.out hk)
        have HE5 := Lib.hid (own_empty w5 9 w5.heap.size (Nat.le_refl _))
        have HA5 := Lib.hid (hB5.alloc hsz5 (.cells #[] 9))
        have hrem : (n1 : Int).tmod 9 = ((n1 % 9 : Nat) : Int) := tmod_natW n1 9
        have hq8 : n1 % 9 < 9 := Nat.mod_lt _ (by decide)
        obtain ⟨q9, hq9⟩ : ∃ q9, n1 % 9 = q9 := ⟨_, rfl⟩
        rw [hq9] at hrem hq8
        clear hb5 hy hyl hyq hb hsz hcell0 hq9
        go_wp2_with (at_builtin; refine wpList_append_rd _ rfl _ _ 30 rfl w5.heap.size 9 (.string ⟨#[]⟩) 16 Try.underlying30 infoStrW rfl (.slice (some ⟨w5.heap.size, 0, none⟩) 0 0) _ _ rfl HE5.out _ _ _ (ss.map Value.string) rfl (HRD.out _ HA5.out) (by intro v hv; obtain ⟨x, _, rfl⟩ := List.mem_map.1 hv; rfl) ?_ (by omega) ?_ ?_; omega; simp; intro A' q' c'' w6 hq ho hg'; have HQ := Lib.hid hq.out; have HO6 := Lib.hid ho; have HG6 := Lib.hid hg'; clear hq ho hg')
        have hB6 : Below w1.heap.size w1 w6 := HA5.out.grown HG6.out (by simp; omega) (fun k hk => by have := (HE5.out.lt k hk).1; omega)
        have hsz6 := hB6.size
        have hqn : q' = n := by have := HQ.out; omega
        rw [hqn] at HO6 ⊢
        have ho6 : w6.ownsRow w5.heap.size 9 1 (.slice A' n c'') n (ss.map Value.string) := by have h7 := HO6.out; rwa [List.nil_append] at h7
        obtain ⟨g, rfl, hg1, hg2⟩ := own_some ho6 (show 0 < n by omega)
        have hsh := laws_ssShift_any y q9 w6 HYQ.out (by omega)
        have HO := Lib.hid ho6
        clear ho6 hqn hrem HO6 HG6 HQ HE5 HA5
        refine hsh.mono ?_
        clear hsh
        rintro e w7 ⟨rfl, hb7⟩
        have ho7 := own_below HO.out hb7
        have hB7 := hB6.trans (hb7.mono hsz6)
        obtain ⟨t, ht⟩ : ∃ t, ofL (rotL y.data.toList (q9 % y.size)) = t := ⟨_, rfl⟩
        rw [ht]
        have htl : t.data.toList = rotL (xx.data.toList.map flipC) (q9 % L) := by rw [← ht, ofL_list, HY.out, HYL.out]
        have hmL : q9 % L < L := Nat.mod_lt _ (by omega)
        have hts : t.size ≤ 255 := by
          rw [← len_data, htl, rotL_len _ _ (by rw [List.length_map, len_data]; omega), List.length_map, len_data]; omega
        have hlt' : lists (ss.set 0 t) = turnL (lists ss) (q9 % L) := by rw [lists_set, htl]; unfold turnL; rw [HHD.out]
        have hwt : worstC (lists (ss.set 0 t)) = W := by rw [hlt', worstC_turn _ _ HF.out (by rw [HLL.out]; exact hmL), HW.out]
        have hw1 : worstC (lists (ss.take 1)) ≤ W := by rw [lists_take, ← HW.out]; exact worstC_one _ HF.out
        have hc7 : w7.cell? ⟨g, 0, none⟩ = some (.string xx) := (ho7.cellAt 0 (by omega)).trans (by rw [List.getElem?_map, hx0.out]; rfl)
        have hf7 : w7.frozen? ⟨g, 0, none⟩ = false := ho7.frozenAt 0
        have hst : (w7.setCell ⟨g, 0, none⟩ (.string t)).ownsRow w5.heap.size 9 1 (.slice (some ⟨g, 0, none⟩) n c'') n ((ss.set 0 t).map Value.string) := by
          have h7 := (ho7.stored 0 (.string t)).1
          rw [List.map_set]
          exact h7
        have hB8 := hB7.setCell (p := ⟨g, 0, none⟩) (Nat.le_trans hsz5 hg1) (.string t)
        have hwc := impl_WorstCross (some ⟨g, 0, none⟩) n c'' (ss.set 0 t) _ (own_rdS hst) (by omega) (own_le hst) (fun s hs => by
          rcases List.mem_or_eq_of_mem_set hs with h7 | h7
          · exact HSZ.out s h7
          · rw [h7]; omega)
        rw [hwt] at hwc
        obtain ⟨V, hV⟩ : ∃ V, worstC (lists (ss.take 1)) = V := ⟨_, rfl⟩
        have hwo := fun d => impl_WorstCross (some ⟨b0, o0, none⟩) 1 c (ss.take 1) ((w7.setCell ⟨g, 0, none⟩ (.string t)).drewN d) (by
          have h7 := rd_upto (HRD.out _ (below_drewN hB8 d)) (k := 1) (by omega)
          rw [← List.map_take] at h7
          exact h7) (by decide) (by omega) (fun s hs => HSZ.out s (List.mem_of_mem_take hs))
        rw [hV] at hw1 hwo
        have dV : decide (V ≤ W) = true := decide_eq_true hw1
        have hc1 : (1 : Int) ≤ (c : Int) := by omega
        have HWC := Lib.hid hwc
        have HWO := Lib.hid hwo
        have HB8 := Lib.hid hB8
        clear ho7 ht htl hmL hts hlt' hwt hw1 hst hB8 hwc hwo hV HO hb7
        go_wp2_with fail
        refine HWC.out.mono ?_
        rintro e w9 ⟨rfl, m9, rfl⟩
        clear hc7 hf7
        go_wp2_with fail
        refine (HWO.out _).mono ?_
        rintro e w10 ⟨rfl, m10, rfl⟩
        go_wp2_with fail
        go_ret
        exact ⟨rfl, hB1.trans ((below_drewN HB8.out _).mono hS1)⟩

end Go.Proofs.Ytkebiigpfbconaa
