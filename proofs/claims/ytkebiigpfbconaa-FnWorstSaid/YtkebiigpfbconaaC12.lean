/- The greatest correlation of a family, in the program and in the reference. Conditions: as each theorem says. -/
import Derived.Test.YtkebiigpfbconaaC11
import Derived.Test.YtkebiigpfbconaaC7
import Derived.StillTailTactics
namespace Go.Proofs.Ytkebiigpfbconaa
open Go.RowKit
set_option linter.unusedSimpArgs false
set_option linter.unusedVariables false
set_option maxRecDepth 100000

def absI (z : Int) : Int := max z (-z)
def gW (us : List (List UInt8)) (i j s : Nat) : Int := if i = j ∧ s = 0 then 0 else absI (corL (us.getD i []) (us.getD j []) s)
def w3 (us : List (List UInt8)) (i j : Nat) (m : Int) : Nat → Int
  | 0 => m
  | s + 1 => max (w3 us i j m s) (gW us i j s)
def w2 (us : List (List UInt8)) (n i : Nat) (m : Int) : Nat → Int
  | 0 => m
  | q + 1 => w3 us i (i + q) (w2 us n i m q) n
def w1 (us : List (List UInt8)) (n : Nat) : Nat → Int
  | 0 => 0
  | i + 1 => w2 us n i (w1 us n i) (us.length - i)
def famB (us : List (List UInt8)) : Bool := within 1 70 (us.length : Int) && us.all fun s => seqB s && seqB (us.headD []) && (s.length == (us.headD []).length)
def worstC (us : List (List UInt8)) : Int := if famB us = true then w1 us (us.headD []).length us.length else -1
theorem absI_bd (z : Int) (h : -255 ≤ z ∧ z ≤ 255) : 0 ≤ absI z ∧ absI z ≤ 255 := by unfold absI; omega
theorem gW_bd (us : List (List UInt8)) (h : ∀ s ∈ us, s.length ≤ 255) (i j s : Nat) : 0 ≤ gW us i j s ∧ gW us i j s ≤ 255 := by
  unfold gW
  split
  · omega
  · refine absI_bd _ (corL_bd _ _ _ ?_)
    rw [List.getD_eq_getElem?_getD]
    cases hx : us[i]? with
    | none => exact Nat.zero_le _
    | some x => exact h x (List.mem_of_getElem? hx)
theorem w3_bd (us : List (List UInt8)) (h : ∀ s ∈ us, s.length ≤ 255) (i j : Nat) (m : Int) (hm : 0 ≤ m ∧ m ≤ 255) (s : Nat) : 0 ≤ w3 us i j m s ∧ w3 us i j m s ≤ 255 := by
  induction s with
  | zero => exact hm
  | succ s ih =>
    have := gW_bd us h i j s
    show 0 ≤ max (w3 us i j m s) (gW us i j s) ∧ max (w3 us i j m s) (gW us i j s) ≤ 255
    omega
theorem w2_bd (us : List (List UInt8)) (h : ∀ s ∈ us, s.length ≤ 255) (n i : Nat) (m : Int) (hm : 0 ≤ m ∧ m ≤ 255) (q : Nat) : 0 ≤ w2 us n i m q ∧ w2 us n i m q ≤ 255 := by
  induction q with
  | zero => exact hm
  | succ q ih => exact w3_bd us h i (i + q) _ ih n
theorem w1_bd (us : List (List UInt8)) (h : ∀ s ∈ us, s.length ≤ 255) (n i : Nat) : 0 ≤ w1 us n i ∧ w1 us n i ≤ 255 := by
  induction i with
  | zero => exact ⟨Int.le_refl _, by show (0 : Int) ≤ 255; omega⟩
  | succ i ih => exact w2_bd us h n i _ ih _
theorem fam_at (us : List (List UInt8)) (h : famB us = true) : 1 ≤ us.length ∧ us.length ≤ 70 ∧ ∀ s ∈ us, seqB s = true ∧ s.length = (us.headD []).length := by
  unfold famB at h
  rw [Bool.and_eq_true] at h
  have h1 := (within_iff _ _ _).1 h.1
  refine ⟨by omega, by omega, fun s hs => ?_⟩
  have h2 := List.all_eq_true.1 h.2 s hs
  rw [Bool.and_eq_true, Bool.and_eq_true] at h2
  exact ⟨h2.1.1, by simpa using h2.2⟩
theorem fam_not (us : List (List UInt8)) (i : Nat) (x : List UInt8) (hx : us[i]? = some x) (h : (seqB x && seqB (us.headD []) && (x.length == (us.headD []).length)) = false) : famB us = false := by
  unfold famB
  cases hc : us.all fun s => seqB s && seqB (us.headD []) && (s.length == (us.headD []).length)
  · rw [Bool.and_false]
  · have := List.all_eq_true.1 hc x (List.mem_of_getElem? hx)
    rw [h] at this; exact absurd this (by decide)
theorem fam_mk (us : List (List UInt8)) (h1 : 1 ≤ us.length) (h2 : us.length ≤ 70) (h : ∀ (i : Nat) (x : List UInt8), us[i]? = some x → (seqB x && seqB (us.headD []) && (x.length == (us.headD []).length)) = true) : famB us = true := by
  unfold famB
  rw [(within_iff 1 70 _).2 ⟨by omega, by omega⟩, Bool.true_and]
  refine List.all_eq_true.2 fun s hs => ?_
  obtain ⟨i, hi⟩ := List.getElem?_of_mem hs
  exact h i s hi
theorem head_lists (ss : List ByteArray) (x : ByteArray) (h : ss[0]? = some x) : (lists ss).headD [] = x.data.toList := by
  cases ss with
  | nil => simp at h
  | cons y s =>
    obtain rfl : y = x := by simpa using h
    rfl
theorem getD_lists (ss : List ByteArray) (i : Nat) (x : ByteArray) (h : ss[i]? = some x) : (lists ss).getD i [] = x.data.toList := by
  rw [List.getD_eq_getElem?_getD, lists_at ss i x h]; rfl
theorem size_beq (a b : ByteArray) : (a.data.toList.length == b.data.toList.length) = (a.size == b.size) := by rw [len_data, len_data]
set_option maxHeartbeats 8000000 in
theorem impl_WorstCross (A : Option Addr) (n c : Nat) (ss : List ByteArray) (w : World) (hx : RdS w A n ss) (hn : n ≤ 1048576) (hnc : n ≤ c) (hs : ∀ s ∈ ss, s.size ≤ 1048576) :
    Calls Try.prog 16 #[.slice A n c] w (RetD (.int .i64 (worstC (lists ss))) w) := by
  have LX := Lib.hid hx.len
  have HS := Lib.hid hs
  clear hs
  have no : famB (lists ss) = false → worstC (lists ss) = -1 := fun h => by unfold worstC; rw [h]; rfl
  have NO := Lib.hid no
  clear no
  by_cases h1 : n < 1
  · go_enter Try.func16, Try.ntmps16
    go_wp2_with fail
    go_ret
    exact ⟨by rw [NO.out (by
      cases hf : famB (lists ss)
      · rfl
      · have := (fam_at _ hf).1; rw [lists_len, LX.out] at this; omega)]; rfl, 0, rfl⟩
  by_cases h2 : 70 < n
  · have d1 : decide (n < 1) = false := decide_eq_false h1
    go_enter Try.func16, Try.ntmps16
    go_wp2_with fail
    go_ret
    exact ⟨by rw [NO.out (by
      cases hf : famB (lists ss)
      · rfl
      · have := (fam_at _ hf).2.1; rw [lists_len, LX.out] at this; omega)]; rfl, 0, rfl⟩
  have d1 : decide ((n : Int) < 1) = false := decide_eq_false (by omega)
  have d2 : decide ((70 : Int) < (n : Int)) = false := decide_eq_false (by omega)
  obtain ⟨b, o, x0, hA, hbl, hx0, hc0⟩ := RdS.at hx (i := 0) (by omega)
  subst hA
  have hc0' : w.cell? ⟨b, o, none⟩ = some (.string x0) := hc0
  clear hc0
  have HH := Lib.hid (head_lists ss x0 hx0.out)
  have hs0 := HS.out x0 (List.mem_of_getElem? hx0.out)
  go_enter Try.func16, Try.ntmps16
  go_wp2_with fail
  clear d1 d2
  go_loopw [22] (fun v wr => ∃ i : Nat, i ≤ n ∧ v = .int .i64 i ∧ (∀ (q : Nat) (x : List UInt8), q < i → (lists ss)[q]? = some x → (seqB x && seqB ((lists ss).headD []) && (x.length == ((lists ss).headD []).length)) = true) ∧ w = wr) (fun v _ => n - (intOf v).toNat)
  case atStart => exact ⟨0, Nat.zero_le _, rfl, fun q x hq => absurd hq (by omega), rfl⟩
  case round =>
    obtain ⟨i, hi, rfl, hall, rfl⟩ := hrel
    have HALL := Lib.hid hall
    clear hall
    by_cases hlt : i < n
    · obtain ⟨b', o', x, hA, hbl', hxx, hcx⟩ := RdS.at hx hlt
      injection hA with hA
      injection hA with hA1 hA2 _
      subst hA1 hA2
      have hxs := HS.out x (List.mem_of_getElem? hxx.out)
      have hcond : (seqB x.data.toList && seqB ((lists ss).headD []) && (x.data.toList.length == ((lists ss).headD []).length)) = (seqB x.data.toList && seqB x0.data.toList && (x.size == x0.size)) := by rw [HH.out, size_beq]
      have HCOND := Lib.hid hcond
      clear hcond
      cases hv : (seqB x.data.toList && seqB x0.data.toList && (x.size == x0.size))
      · go_wp2_with (go_at_call 53; refine (impl_sequencesValid x x0 _ hxs hs0).mono ?_; rintro e w' ⟨rfl, rfl⟩; rw [hv])
        go_ret
        exact ⟨by rw [NO.out (fam_not _ i _ (lists_at _ _ _ hxx.out) (by rw [HCOND.out, hv]))]; rfl, 0, rfl⟩
      · go_wp2_with (go_at_call 53; refine (impl_sequencesValid x x0 _ hxs hs0).mono ?_; rintro e w' ⟨rfl, rfl⟩; rw [hv])
        go_roundw
        case rel => exact ⟨i + 1, by omega, by go_num, fun q y hq hy => by
          rcases Nat.lt_succ_iff_lt_or_eq.1 hq with h5 | rfl
          · exact HALL.out q y h5 hy
          · rw [lists_at _ _ _ hxx.out] at hy
            obtain rfl := Option.some.inj hy
            rw [HCOND.out, hv], trivial⟩
        case measure => simp [intOf] <;> omega
    · obtain rfl : n = i := by omega
      have hfam : famB (lists ss) = true := fam_mk _ (by rw [lists_len, LX.out]; omega) (by rw [lists_len, LX.out]; omega) fun q y hy => HALL.out q y (by
        have := (List.getElem?_eq_some_iff.1 hy).1; rw [lists_len, LX.out] at this; exact this) hy
      obtain ⟨_, _, hmem⟩ := fam_at _ hfam
      have hz0 := seqB_bd x0 ((hmem x0.data.toList (List.mem_of_getElem? (lists_at _ _ _ hx0.out))).1)
      have hsz : ∀ x ∈ ss, seqB x.data.toList = true ∧ x.size = x0.size := fun x hx => by
        obtain ⟨h5, h6⟩ := hmem x.data.toList (List.mem_map.2 ⟨x, hx, rfl⟩)
        rw [HH.out, len_data, len_data] at h6
        exact ⟨h5, h6⟩
      have h255 : ∀ s ∈ lists ss, s.length ≤ 255 := fun s hs => by rw [(hmem s hs).2, HH.out, len_data]; omega
      have HSZ := Lib.hid hsz
      have H255 := Lib.hid h255
      have HV := Lib.hid (show worstC (lists ss) = w1 (lists ss) x0.size n by unfold worstC; rw [hfam, if_pos rfl, HH.out, len_data, lists_len, LX.out])
      have HLL := Lib.hid (show (lists ss).length = n by rw [lists_len, LX.out])
      clear hfam hmem hsz h255 NO HALL
      go_wp2_with fail
      go_loopw [5, 35] (fun m v wr => ∃ i d : Nat, i ≤ n ∧ v = .int .i64 i ∧ m = .int .i64 (w1 (lists ss) x0.size i) ∧ w.drewN d = wr) (fun _ v _ => n - (intOf v).toNat)
      case atStart => exact ⟨0, 0, Nat.zero_le _, rfl, rfl, rfl⟩
      case round =>
        obtain ⟨i, d, hi, rfl, rfl, rfl⟩ := hrel
        have hmb := w1_bd (lists ss) H255.out x0.size i
        obtain ⟨m, hm⟩ : ∃ m, w1 (lists ss) x0.size i = m := ⟨_, rfl⟩
        rw [hm] at hmb ⊢
        have HM := Lib.hid hm
        clear hm
        by_cases hlt : i < n
        · obtain ⟨b', o', x, hA, hbl', hxx, hcx⟩ := RdS.at hx hlt
          injection hA with hA
          injection hA with hA1 hA2 _
          subst hA1 hA2
          obtain ⟨hxq, hxs⟩ := HSZ.out x (List.mem_of_getElem? hxx.out)
          have HGX := Lib.hid (getD_lists ss i x hxx.out)
          have HXQ := Lib.hid hxq
          have hx255 : x.size ≤ 255 := by omega
          have hx1 : 1 ≤ x.size := by omega
          have HXS := Lib.hid hxs
          clear hxq hxs
          generalize hwd : w.drewN d = wd at *
          have hrd : RdS wd (some ⟨b, o, none⟩) n ss := by rw [← hwd]; exact hx
          have hcx' : wd.cell? ⟨b, o + i, none⟩ = some (.string x) := by rw [← hwd]; exact hcx
          have HWD := Lib.hid hwd
          have HRD := Lib.hid hrd
          clear hcx hwd hrd
          have h31 : w3 (lists ss) i i m 1 = m := by
            show max m (gW (lists ss) i i 0) = m
            unfold gW; rw [if_pos ⟨rfl, rfl⟩]; omega
          go_wp2_with fail
          go_loopw [5, 8] (fun u v wr => ∃ k e : Nat, 1 ≤ k ∧ k ≤ x.size ∧ v = .int .i64 k ∧ u = .int .i64 (w3 (lists ss) i i m k) ∧ wd.drewN e = wr) (fun _ v _ => x.size - (intOf v).toNat)
          case atStart => exact ⟨1, 0, Nat.le_refl _, by omega, rfl, by rw [h31], rfl⟩
          case round =>
            obtain ⟨k, e, hk1, hk, rfl, rfl, rfl⟩ := hrel
            have hkb := w3_bd (lists ss) H255.out i i m hmb k
            have hw3 : w3 (lists ss) i i m (k + 1) = max (w3 (lists ss) i i m k) (gW (lists ss) i i k) := rfl
            have HW3 := Lib.hid hw3
            clear hw3
            by_cases hlt3 : k < x.size
            · generalize w3 (lists ss) i i m k = mk at *
              go_wp2_with fail
              refine (impl_correlation x x k _ (by omega) (by omega) (by omega)).mono ?_
              rintro e9 w' ⟨rfl, e8, rfl⟩
              obtain ⟨z, hz⟩ : ∃ z, corL x.data.toList x.data.toList k = z := ⟨_, rfl⟩
              have hzb := corL_bd x.data.toList x.data.toList k (by rw [len_data]; omega)
              rw [hz] at hzb ⊢
              have hg : gW (lists ss) i i k = absI z := by
                unfold gW
                rw [if_neg (by omega), HGX.out, hz]
              have HG := Lib.hid hg
              clear hz hg
              go_wp2_with fail
              refine (impl_absolute z _ (by omega) (by omega)).mono ?_
              rintro e9 w' ⟨rfl, rfl⟩
              obtain ⟨v, hv⟩ : ∃ v, max z (-z) = v := ⟨_, rfl⟩
              have hvb : 0 ≤ v ∧ v ≤ 255 := by omega
              rw [hv]
              have HV2 := Lib.hid (show gW (lists ss) i i k = v by rw [HG.out]; exact hv)
              clear hv HG hzb
              rcases Int.lt_trichotomy mk v with ht | ht | ht
              all_goals
                go_wp2_with fail
                go_roundw
                case rel => exact ⟨k + 1, _, by omega, by omega, by go_num, by rw [HW3.out, HV2.out]; exact congrArg _ (by omega), rfl⟩
                case measure => simp [intOf] <;> omega
            · obtain rfl : k = x.size := by omega
              have hw21 : w2 (lists ss) x0.size i m 1 = w3 (lists ss) i i m x.size := by rw [HXS.out]; rfl
              rw [← hw21]
              clear hkb HW3 hw21 h31
              have HMB := Lib.hid hmb
              clear hmb
              by_cases hcj : c = i + 1
              · have hni : n = i + 1 := by omega
                have HNI := Lib.hid hni
                have hz : (n : Int) - ((i : Int) + 1) = 0 := by omega
                have hzn : n - (i + 1) = 0 := by omega
                subst hcj
                go_wp2_with fail
                go_loopw [5, 58] (fun u v wr => ∃ e : Nat, v = .int .i64 ((0 : Nat) : Int) ∧ u = .int .i64 (w2 (lists ss) x0.size i m 1) ∧ wd.drewN e = wr) (fun _ v _ => 0)
                case atStart => exact ⟨_, rfl, rfl, rfl⟩
                case round =>
                  obtain ⟨e2, rfl, rfl, rfl⟩ := hrel
                  go_wp2_with fail
                  go_roundw
                  case rel => exact ⟨i + 1, _, by omega, by go_num, by
                    show _ = Value.int .i64 (w2 (lists ss) x0.size i (w1 (lists ss) x0.size i) ((lists ss).length - i))
                    rw [HM.out, HLL.out, HNI.out, Nat.add_sub_cancel_left], by rw [← HWD.out]; exact (World.drewN_drewN _ _ _).symm⟩
                  case measure => simp [intOf] <;> omega
              · go_wp2_with fail
                go_loopw [5, 58] (fun u v wr => ∃ q e : Nat, q ≤ n - (i + 1) ∧ v = .int .i64 q ∧ u = .int .i64 (w2 (lists ss) x0.size i m (q + 1)) ∧ wd.drewN e = wr) (fun _ v _ => n - (i + 1) - (intOf v).toNat)
                case atStart => exact ⟨0, _, Nat.zero_le _, rfl, rfl, rfl⟩
                case round =>
                  obtain ⟨q, e2, hq, rfl, rfl, rfl⟩ := hrel
                  have hm2b := w2_bd (lists ss) H255.out x0.size i m HMB.out (q + 1)
                  have hw2n : w2 (lists ss) x0.size i m (q + 1 + 1) = w3 (lists ss) i (i + (q + 1)) (w2 (lists ss) x0.size i m (q + 1)) x.size := by rw [HXS.out]; rfl
                  have HW2N := Lib.hid hw2n
                  clear hw2n
                  by_cases hlt4 : q < n - (i + 1)
                  · obtain ⟨m2, hm2⟩ : ∃ m2, w2 (lists ss) x0.size i m (q + 1) = m2 := ⟨_, rfl⟩
                    rw [hm2] at hm2b HW2N ⊢
                    clear hm2
                    obtain ⟨b'', o'', y, hA, hbl'', hyy, hcy⟩ := RdS.at HRD.out (show i + (q + 1) < n by omega)
                    injection hA with hA
                    injection hA with hA1 hA2 _
                    subst hA1 hA2
                    obtain ⟨hyq, hys⟩ := HSZ.out y (List.mem_of_getElem? hyy.out)
                    have HGY := Lib.hid (getD_lists ss (i + (q + 1)) y hyy.out)
                    have hcy' : wd.cell? ⟨b, o + (i + 1) + q, none⟩ = some (.string y) := by rw [show o + (i + 1) + q = o + (i + (q + 1)) by omega]; exact hcy
                    have HYQ := Lib.hid hyq
                    have HYS := Lib.hid (hys.trans HXS.out.symm)
                    clear hyq hcy hys
                    have d4 : decide ((q : Int) < (n : Int) - ((i : Int) + 1)) = true := decide_eq_true (by omega)
                    have d5 : decide (q < n - (i + 1)) = true := decide_eq_true hlt4
                    go_wp2_with fail
                    go_loopw [5, 64] (fun u v wr => ∃ k e : Nat, k ≤ x.size ∧ v = .int .i64 k ∧ u = .int .i64 (w3 (lists ss) i (i + (q + 1)) m2 k) ∧ wd.drewN e = wr) (fun _ v _ => x.size - (intOf v).toNat)
                    case atStart => exact ⟨0, _, Nat.zero_le _, rfl, rfl, rfl⟩
                    case round =>
                      obtain ⟨k, e3, hk, rfl, rfl, rfl⟩ := hrel
                      have hkb := w3_bd (lists ss) H255.out i (i + (q + 1)) m2 hm2b k
                      have hw3 : w3 (lists ss) i (i + (q + 1)) m2 (k + 1) = max (w3 (lists ss) i (i + (q + 1)) m2 k) (gW (lists ss) i (i + (q + 1)) k) := rfl
                      have HW3 := Lib.hid hw3
                      clear hw3
                      by_cases hlt5 : k < x.size
                      · generalize w3 (lists ss) i (i + (q + 1)) m2 k = mk at *
                        go_wp2_with fail
                        refine (impl_correlation x y k _ (by omega) HYS.out.symm (by rw [HYS.out]; omega)).mono ?_
                        rintro e9 w' ⟨rfl, e8, rfl⟩
                        obtain ⟨z, hz⟩ : ∃ z, corL x.data.toList y.data.toList k = z := ⟨_, rfl⟩
                        have hzb := corL_bd x.data.toList y.data.toList k (by rw [len_data]; omega)
                        rw [hz] at hzb ⊢
                        have hg : gW (lists ss) i (i + (q + 1)) k = absI z := by
                          unfold gW
                          rw [if_neg (by omega), HGX.out, HGY.out, hz]
                        have HG := Lib.hid hg
                        clear hz hg
                        go_wp2_with fail
                        refine (impl_absolute z _ (by omega) (by omega)).mono ?_
                        rintro e9 w' ⟨rfl, rfl⟩
                        obtain ⟨v, hv⟩ : ∃ v, max z (-z) = v := ⟨_, rfl⟩
                        have hvb : 0 ≤ v ∧ v ≤ 255 := by omega
                        rw [hv]
                        have HV2 := Lib.hid (show gW (lists ss) i (i + (q + 1)) k = v by rw [HG.out]; exact hv)
                        clear hv HG hzb
                        rcases Int.lt_trichotomy mk v with ht | ht | ht
                        all_goals
                          go_wp2_with fail
                          go_roundw
                          case rel => exact ⟨k + 1, _, by omega, by go_num, by rw [HW3.out, HV2.out]; exact congrArg _ (by omega), rfl⟩
                          case measure => simp [intOf] <;> omega
                      · obtain rfl : k = x.size := by omega
                        rw [← HW2N.out]
                        clear hkb HW3
                        go_wp2_with fail
                        go_roundw
                        case rel => exact ⟨q + 1, _, by omega, by go_num, rfl, rfl⟩
                        case measure => simp [intOf] <;> omega
                  · obtain rfl : q = n - (i + 1) := by omega
                    have hw1 : w1 (lists ss) x0.size (i + 1) = w2 (lists ss) x0.size i m (n - (i + 1) + 1) := by
                      show w2 (lists ss) x0.size i (w1 (lists ss) x0.size i) ((lists ss).length - i) = _
                      rw [HM.out, HLL.out]
                      congr 1
                      omega
                    rw [← hw1]
                    clear hw1 hm2b HW2N
                    go_wp2_with fail
                    go_roundw
                    case rel => exact ⟨i + 1, _, by omega, by go_num, rfl, by rw [← HWD.out]; exact (World.drewN_drewN _ _ _).symm⟩
                    case measure => simp [intOf] <;> omega
        · obtain rfl : n = i := by omega
          go_wp2_with fail
          go_ret
          exact ⟨by rw [HV.out, HM.out]; rfl, _, rfl⟩
set_option maxHeartbeats 400000 in
theorem spec_l2Pair (s t : ByteArray) (w : World) (hs : s.size ≤ 1048576) (ht : t.size ≤ 1048576) :
    Calls Try.prog 83 #[.string s, .string t] w fun e w' => e = .returned (.bool (seqB s.data.toList && seqB t.data.toList && (s.size == t.size))) ∧ w = w' := by
  have hcmp : ((s.size : Int) == (t.size : Int)) = (s.size == t.size) := by
    by_cases h : s.size = t.size
    · rw [h]; simp
    · rw [beq_eq_false_iff_ne.2 h, beq_eq_false_iff_ne.2 (by omega)]
  cases h1 : seqB s.data.toList
  all_goals cases h2 : seqB t.data.toList
  all_goals
    go_enter Try.func83, Try.ntmps83
    go_wp2_with (go_at_call 45; refine (spec_SequenceValid _ _ (by unfold maxLen; omega)).mono ?_; rintro e w' ⟨rfl, rfl⟩; first | rw [h1] | rw [h2])
    go_ret
    first | exact ⟨rfl, rfl⟩ | exact ⟨ret_bool (by rw [hcmp]; rfl), rfl⟩ | exact ⟨ret_bool (by simp), rfl⟩
set_option maxHeartbeats 1000000 in
theorem spec_l3Family (A : Option Addr) (n c : Nat) (ss : List ByteArray) (w : World) (hx : RdS w A n ss) (hn : n ≤ 1048576) (hs : ∀ s ∈ ss, s.size ≤ 1048576) :
    Calls Try.prog 56 #[.slice A n c] w (RetD (.bool (famB (lists ss))) w) := by
  have LX := Lib.hid hx.len
  have HS := Lib.hid hs
  clear hs
  by_cases h0 : n = 0
  · subst h0
    have hf : famB (lists ss) = within 1 70 0 := by
      obtain rfl : ss = [] := List.eq_nil_of_length_eq_zero LX.out
      show (within 1 70 0 && true) = _
      rw [Bool.and_true]
    rw [hf]
    clear hf
    go_enter Try.func56, Try.ntmps56
    go_wp2_with fail
    go_loopw [3] (fun v wr => v = .int .i64 ((0 : Nat) : Int) ∧ w = wr) (fun _ _ => 0)
    case atStart => exact ⟨rfl, rfl⟩
    case round =>
      obtain ⟨rfl, rfl⟩ := hrel
      go_wp2_with (go_at_call 47; refine (spec_l1In _ _ _ _).mono ?_; rintro e w' ⟨rfl, rfl⟩)
      go_ret
      exact ⟨rfl, 0, rfl⟩
  obtain ⟨b, o, x0, hA, hbl, hx0, hc0⟩ := RdS.at hx (i := 0) (by omega)
  subst hA
  have hc0' : w.cell? ⟨b, o, none⟩ = some (.string x0) := hc0
  clear hc0
  have HH := Lib.hid (head_lists ss x0 hx0.out)
  have hs0 := HS.out x0 (List.mem_of_getElem? hx0.out)
  go_enter Try.func56, Try.ntmps56
  go_wp2_with fail
  go_loopw [3] (fun v wr => ∃ i d : Nat, i ≤ n ∧ v = .int .i64 i ∧ (∀ (q : Nat) (x : List UInt8), q < i → (lists ss)[q]? = some x → (seqB x && seqB ((lists ss).headD []) && (x.length == ((lists ss).headD []).length)) = true) ∧ w.drewN d = wr) (fun v _ => n - (intOf v).toNat)
  case atStart => exact ⟨0, 0, Nat.zero_le _, rfl, fun q x hq => absurd hq (by omega), rfl⟩
  case round =>
    obtain ⟨i, d, hi, rfl, hall, rfl⟩ := hrel
    have HALL := Lib.hid hall
    clear hall
    by_cases hlt : i < n
    · obtain ⟨b', o', x, hA, hbl', hxx, hcx⟩ := RdS.at hx hlt
      injection hA with hA
      injection hA with hA1 hA2 _
      subst hA1 hA2
      have hxs := HS.out x (List.mem_of_getElem? hxx.out)
      have hcond : (seqB x.data.toList && seqB ((lists ss).headD []) && (x.data.toList.length == ((lists ss).headD []).length)) = (seqB x.data.toList && seqB x0.data.toList && (x.size == x0.size)) := by rw [HH.out, size_beq]
      have HCOND := Lib.hid hcond
      have hpar := fun w => spec_l2Pair x x0 w hxs hs0
      clear hcond
      cases hv : (seqB x.data.toList && seqB x0.data.toList && (x.size == x0.size))
      · rw [hv] at hpar
        go_wp2
        go_quiet ((go_at_call 83; refine (hpar _).mono ?_; rintro e w' ⟨rfl, rfl⟩; exact ⟨rfl, _, rfl⟩))
        go_wp2
        go_ret
        exact ⟨by rw [fam_not _ i _ (lists_at _ _ _ hxx.out) (by rw [HCOND.out, hv])]; rfl, _, World.drewN_drewN _ _ _⟩
      · rw [hv] at hpar
        go_wp2
        go_quiet ((go_at_call 83; refine (hpar _).mono ?_; rintro e w' ⟨rfl, rfl⟩; exact ⟨rfl, _, rfl⟩))
        go_wp2
        go_roundw
        case rel => exact ⟨i + 1, _, by omega, by go_num, fun q y hq hy => by
          rcases Nat.lt_succ_iff_lt_or_eq.1 hq with h5 | rfl
          · exact HALL.out q y h5 hy
          · rw [lists_at _ _ _ hxx.out] at hy
            obtain rfl := Option.some.inj hy
            rw [HCOND.out, hv], rfl⟩
        case measure => simp [intOf] <;> omega
    · obtain rfl : n = i := by omega
      have hf : famB (lists ss) = within 1 70 (n : Int) := by
        unfold famB
        rw [lists_len, LX.out, List.all_eq_true.2 fun s hs => by
          obtain ⟨q, hq⟩ := List.getElem?_of_mem hs
          exact HALL.out q s (by have := (List.getElem?_eq_some_iff.1 hq).1; rw [lists_len, LX.out] at this; exact this) hq, Bool.and_true]
      have HF := Lib.hid hf
      clear hf
      go_wp2_with (go_at_call 47; refine (spec_l1In _ _ _ _).mono ?_; rintro e w' ⟨rfl, rfl⟩)
      go_ret
      exact ⟨by rw [HF.out]; rfl, _, rfl⟩
set_option maxHeartbeats 8000000 in
theorem spec_WorstCross (A : Option Addr) (n c : Nat) (ss : List ByteArray) (w : World) (hx : RdS w A n ss) (hn : n ≤ 1048576) (hs : ∀ s ∈ ss, s.size ≤ 1048576) :
    Calls Try.prog 17 #[.slice A n c] w fun e w' => e = .returned (.int .i64 (worstC (lists ss))) ∧ Below w.heap.size w w' := by
  have LX := Lib.hid hx.len
  cases hf : famB (lists ss)
  · have hw : worstC (lists ss) = -1 := by unfold worstC; rw [hf]; rfl
    rw [hw]
    clear hw
    go_enter Try.func17, Try.ntmps17
    go_wp2_with (go_at_call 56; refine (spec_l3Family _ _ _ _ _ hx hn hs).mono ?_; rintro e w' ⟨rfl, m, rfl⟩; rw [hf])
    go_ret
    exact ⟨rfl, below_drewN (Below.refl _ _) _⟩
  obtain ⟨hn1, hn70, hmem⟩ := fam_at _ hf
  rw [lists_len, LX.out] at hn1 hn70
  obtain ⟨b, o, x0, hA, hbl, hx0, hc0⟩ := RdS.at hx (i := 0) (by omega)
  subst hA
  have hc0' : w.cell? ⟨b, o, none⟩ = some (.string x0) := hc0
  clear hc0
  have HH := Lib.hid (head_lists ss x0 hx0.out)
  have hz0 := seqB_bd x0 ((hmem x0.data.toList (List.mem_of_getElem? (lists_at _ _ _ hx0.out))).1)
  have hsz : ∀ x ∈ ss, seqB x.data.toList = true ∧ x.size = x0.size := fun x hx => by
    obtain ⟨h5, h6⟩ := hmem x.data.toList (List.mem_map.2 ⟨x, hx, rfl⟩)
    rw [HH.out, len_data, len_data] at h6
    exact ⟨h5, h6⟩
  have h255 : ∀ s ∈ lists ss, s.length ≤ 255 := fun s hs => by rw [(hmem s hs).2, HH.out, len_data]; omega
  have HSZ := Lib.hid hsz
  have H255 := Lib.hid h255
  have HV := Lib.hid (show worstC (lists ss) = w1 (lists ss) x0.size n by unfold worstC; rw [hf, if_pos rfl, HH.out, len_data, lists_len, LX.out])
  have HLL := Lib.hid (show (lists ss).length = n by rw [lists_len, LX.out])
  have HS := Lib.hid hs
  have HF := Lib.hid hf
  clear hmem hsz h255 hs hf
  go_enter Try.func17, Try.ntmps17
  go_wp2_with (go_at_call 56; refine (spec_l3Family _ _ _ _ _ hx hn HS.out).mono ?_; rintro e w' ⟨rfl, m, rfl⟩; rw [HF.out])
  go_loopw [3, 4] (fun m v wr => ∃ i : Nat, i ≤ n ∧ v = .int .i64 i ∧ m = .int .i64 (w1 (lists ss) x0.size i) ∧ Below w.heap.size w wr) (fun _ v _ => n - (intOf v).toNat)
  case atStart => exact ⟨0, Nat.zero_le _, rfl, rfl, below_drewN (Below.refl _ _) _⟩
  case round =>
    obtain ⟨i, hi, rfl, rfl, hb⟩ := hrel
    have hmb := w1_bd (lists ss) H255.out x0.size i
    obtain ⟨m, hm⟩ : ∃ m, w1 (lists ss) x0.size i = m := ⟨_, rfl⟩
    rw [hm] at hmb ⊢
    have HM := Lib.hid hm
    have HMB := Lib.hid hmb
    clear hm hmb
    by_cases hlt : i < n
    · have d1 : decide ((i : Int) < (n : Int)) = true := decide_eq_true (by omega)
      have d1' : decide (i < n) = true := decide_eq_true hlt
      obtain ⟨wo, rfl⟩ : ∃ wo, wo = wr := ⟨_, rfl⟩
      go_wp2_with fail
      go_loopw [3, 5] (fun u v wr => ∃ q : Nat, i + q ≤ n ∧ v = .int .i64 ((i + q : Nat) : Int) ∧ u = .int .i64 (w2 (lists ss) x0.size i m q) ∧ Below w.heap.size w wr) (fun _ v _ => n - (intOf v).toNat)
      case atStart => exact ⟨0, by omega, rfl, rfl, hb⟩
      case round =>
        obtain ⟨q, hq, rfl, rfl, hb2⟩ := hrel
        have hm2b := w2_bd (lists ss) H255.out x0.size i m HMB.out q
        have HW2N := Lib.hid (show w2 (lists ss) x0.size i m (q + 1) = w3 (lists ss) i (i + q) (w2 (lists ss) x0.size i m q) x0.size from rfl)
        obtain ⟨j, hj⟩ : ∃ j, i + q = j := ⟨_, rfl⟩
        rw [hj] at hq HW2N ⊢
        by_cases hlt2 : j < n
        · obtain ⟨m2, hm2⟩ : ∃ m2, w2 (lists ss) x0.size i m q = m2 := ⟨_, rfl⟩
          rw [hm2] at hm2b HW2N ⊢
          clear hm2
          have HJ := Lib.hid hj
          clear hj
          have d2 : decide ((j : Int) < (n : Int)) = true := decide_eq_true (by omega)
          have d2' : decide (j < n) = true := decide_eq_true hlt2
          obtain ⟨wo2, rfl⟩ : ∃ wo, wo = wr := ⟨_, rfl⟩
          go_wp2_with fail
          go_loopw [3, 6, 7] (fun u v _ wr => ∃ s : Nat, s ≤ x0.size ∧ v = .int .i64 s ∧ u = .int .i64 (w3 (lists ss) i j m2 s) ∧ Below w.heap.size w wr) (fun _ v _ _ => x0.size - (intOf v).toNat)
          case atStart => exact ⟨0, Nat.zero_le _, rfl, rfl, hb2⟩
          case round =>
            obtain ⟨s, hs, rfl, rfl, hb3⟩ := hrel
            have hkb := w3_bd (lists ss) H255.out i j m2 hm2b s
            have HW3 := Lib.hid (show w3 (lists ss) i j m2 (s + 1) = max (w3 (lists ss) i j m2 s) (gW (lists ss) i j s) from rfl)
            have hc0r : wr.cell? ⟨b, o, none⟩ = some (.string x0) := (hb3.cell (p := ⟨b, o, none⟩) hbl).trans hc0'
            by_cases hlt3 : s < x0.size
            · generalize w3 (lists ss) i j m2 s = mk at *
              by_cases hskip : i = j ∧ s = 0
              · obtain ⟨hij, hs0⟩ := hskip
                have HG := Lib.hid (show gW (lists ss) i j s = 0 by unfold gW; rw [if_pos ⟨hij, hs0⟩])
                have e1 : ((i : Int) == (j : Int)) = true := by rw [hij]; simp
                have e2 : ((i : Int) != (j : Int)) = false := by rw [bne, e1]; rfl
                have e3 : decide ((0 : Int) < (s : Int)) = false := decide_eq_false (by omega)
                have e4 : decide (0 < s) = false := decide_eq_false (by omega)
                clear hij hs0
                go_wp2_with fail
                go_roundw
                case rel => exact ⟨s + 1, by omega, by go_num, by rw [HW3.out, HG.out]; exact congrArg _ (by omega), hb3⟩
                case measure => simp [intOf] <;> omega
              · obtain ⟨b1, o1, x, hA, hbl1, hxx, hcx⟩ := RdS.at hx hlt
                injection hA with hA
                injection hA with hA1 hA2 _
                subst hA1 hA2
                obtain ⟨b2, o2, y, hA, hbl2, hyy, hcy⟩ := RdS.at hx hlt2
                injection hA with hA
                injection hA with hA1 hA2 _
                subst hA1 hA2
                have hcxr : wr.cell? ⟨b, o + i, none⟩ = some (.string x) := (hb3.cell (p := ⟨b, o + i, none⟩) hbl).trans hcx
                have hcyr : wr.cell? ⟨b, o + j, none⟩ = some (.string y) := (hb3.cell (p := ⟨b, o + j, none⟩) hbl).trans hcy
                obtain ⟨hxq, hxs⟩ := HSZ.out x (List.mem_of_getElem? hxx.out)
                obtain ⟨hyq, hys⟩ := HSZ.out y (List.mem_of_getElem? hyy.out)
                have HXQ := Lib.hid hxq
                have HYQ := Lib.hid hyq
                have HXS := Lib.hid hxs
                have HYS := Lib.hid hys
                have HGX := Lib.hid (getD_lists ss i x hxx.out)
                have HGY := Lib.hid (getD_lists ss j y hyy.out)
                clear hcx hcy hxq hyq hxs hys
                obtain ⟨z, hz⟩ : ∃ z, corL x.data.toList y.data.toList s = z := ⟨_, rfl⟩
                have hzb := corL_bd x.data.toList y.data.toList s (by rw [len_data, HXS.out]; omega)
                rw [hz] at hzb
                have HG := Lib.hid (show gW (lists ss) i j s = absI z by unfold gW; rw [if_neg hskip, HGX.out, HGY.out, hz])
                have HZ := Lib.hid hz
                clear hz
                have hcross := fun w => spec_l2Cross x y s w (by rw [HXS.out]; omega) (by rw [HXS.out, HYS.out]) (by rw [HYS.out]; exact hlt3) (by have := HXQ.out; simp only [seqB, Bool.and_eq_true] at this; exact this.2) (by have := HYQ.out; simp only [seqB, Bool.and_eq_true] at this; exact this.2)
                rw [HZ.out] at hcross
                have HCR := Lib.hid hcross
                clear hcross
                have hguard : (((i : Int) == (j : Int)) = false ∧ ((i : Int) != (j : Int)) = true) ∨ (((i : Int) == (j : Int)) = true ∧ ((i : Int) != (j : Int)) = false ∧ decide ((0 : Int) < (s : Int)) = true ∧ decide (0 < s) = true) := by
                  by_cases hij : i = j
                  · right
                    have e1 : ((i : Int) == (j : Int)) = true := by rw [hij]; simp
                    exact ⟨e1, by rw [bne, e1]; rfl, decide_eq_true (by omega), decide_eq_true (by omega)⟩
                  · left
                    have e1 : ((i : Int) == (j : Int)) = false := beq_eq_false_iff_ne.2 (by omega)
                    exact ⟨e1, by rw [bne, e1]; rfl⟩
                clear hskip
                rcases hguard with ⟨g1, g2⟩ | ⟨g1, g2, g3, g4⟩
                all_goals
                  go_wp2
                  go_still_tail 9, (by kernel_rfl)
                  change wpList _ _ _ _ _ wr.drew
                  have hbd : Below w.heap.size w wr.drew := hb3.drew
                  generalize wr.drew = wd at hbd ⊢
                  go_wp2_with fail
                  refine (HCR.out _).mono ?_
                  rintro e9 w9 ⟨rfl, hb9⟩
                  have hb10 := hbd.trans (hb9.mono hbd.size)
                  clear hb9
                  rcases Int.lt_trichotomy z 0 with hz1 | hz1 | hz1
                  · rcases Int.lt_trichotomy mk (-z) with ht | ht | ht
                    all_goals
                      go_wp2_with fail
                      go_roundw
                      case rel => exact ⟨s + 1, by omega, by go_num, by rw [HW3.out, HG.out]; exact congrArg _ (by unfold absI; omega), hb10⟩
                      case measure => simp [intOf] <;> omega
                  · rcases Int.lt_trichotomy mk 0 with ht | ht | ht
                    all_goals
                      go_wp2_with fail
                      go_roundw
                      case rel => exact ⟨s + 1, by omega, by go_num, by rw [HW3.out, HG.out]; exact congrArg _ (by unfold absI; omega), hb10⟩
                      case measure => simp [intOf] <;> omega
                  · rcases Int.lt_trichotomy mk z with ht | ht | ht
                    all_goals
                      go_wp2_with fail
                      go_roundw
                      case rel => exact ⟨s + 1, by omega, by go_num, by rw [HW3.out, HG.out]; exact congrArg _ (by unfold absI; omega), hb10⟩
                      case measure => simp [intOf] <;> omega
            · obtain rfl : s = x0.size := by omega
              rw [← HW2N.out]
              clear hkb HW3
              go_wp2_with fail
              go_roundw
              case rel => exact ⟨q + 1, by have := HJ.out; omega, by have := HJ.out; go_num, rfl, hb3⟩
              case measure => simp [intOf] <;> omega
        · obtain rfl : n = j := by omega
          have hw1 : w1 (lists ss) x0.size (i + 1) = w2 (lists ss) x0.size i m q := by
            show w2 (lists ss) x0.size i (w1 (lists ss) x0.size i) ((lists ss).length - i) = _
            rw [HM.out, HLL.out]
            congr 1
            omega
          rw [← hw1]
          clear hw1 hm2b HW2N
          go_wp2_with fail
          go_roundw
          case rel => exact ⟨i + 1, by omega, by go_num, rfl, hb2⟩
          case measure => simp [intOf] <;> omega
    · obtain rfl : n = i := by omega
      go_wp2_with fail
      go_ret
      exact ⟨by rw [HV.out, HM.out]; rfl, hb⟩

end Go.Proofs.Ytkebiigpfbconaa
