/- What CutSignal, DelaySignal and AddSignals give back, in the program and in the reference. Conditions: as each theorem says. -/
import Derived.Test.YtlddefmakjnfdaaC4a
namespace Go.Proofs.Ytlddefmakjnfdaa
open Go.RowKit
set_option linter.unusedSimpArgs false
set_option linter.unusedVariables false
set_option maxRecDepth 100000



set_option maxHeartbeats 400000 in
theorem impl_Delay1 (A : Option Addr) (n c : Nat) (zs : List Int) (k : Nat) (w : World) (hx : RdI .i64 w A n zs) (hn : n ≤ maxLen) (hk : k ≤ 3000) (h1 : sigB zs = true) :
    Calls Try.prog 41 #[.slice A n c, .int .i64 k] w (RetIB 3 (resC (List.replicate k 0 ++ zs)).1 (resC (List.replicate k 0 ++ zs)).2 w) := by
  have hsz := (sig_bd zs h1).1
  have lx := hx.len
  have LX := Lib.hid lx
  rw [lx] at hsz
  clear lx
  have hmk := run_make_row' (P := Try.prog) 22 3 (.int .i64 0) 8 Try.underlying22 Try.infoI64 rfl .i64 .i64 (k + n) (by omega) (by omega)
  rw [Int.natCast_add] at hmk
  have hlen : ((List.replicate k 0 ++ zs).map (Value.int .i64)).length = k + n := by rw [List.length_map, List.length_append, List.length_replicate, LX.out]
  generalize hL : List.map (Value.int .i64) (List.replicate k 0 ++ zs) = L at *
  have HL := Lib.hid hL
  have HLEN := Lib.hid hlen
  clear hlen
  have hx1 : zs.length = n := LX.out
  by_cases h0 : n = 0
  · have hcp := copy_made (P := Try.prog) w 22 22 3 3 3 (.int .i64 0) (k + n) 0 n n (some ⟨w.heap.size, 0, none⟩) A n c n _ Try.underlying22 (by kernel_rfl) hx (ints_one _ _) (fun _ => rfl) (by omega) (by omega)
    have hrow : ((List.replicate 0 (Value.int .i64 0) ++ ((zs.map (Value.int .i64)).take n ++ List.replicate (k + n - 0 - n) (Value.int .i64 0)))) = L := by
      rw [← hL]
      obtain rfl : zs = [] := List.eq_nil_of_length_eq_zero (by omega)
      subst h0
      simp
    rw [hrow] at hcp
    clear hrow hL hx1
    have h00 : n ≤ 0 := by omega
    clear h0
    go_enter Try.func41, Try.ntmps41
    go_wp2_with (first | (go_at_call 56; refine (impl_SignalValid _ _ _ _ _ hx hn).mono ?_; rintro e w' ⟨rfl, rfl⟩))
    refine (impl_signalOrNone w.heap.size _ _ _ (List.replicate k 0 ++ zs) _ (by rw [HL.out]; exact own_lit w _ _ _ HLEN.out (by unfold maxLen; omega))).mono ?_
    rintro e w2 hr
    have hr2 := retIB_res ((Below.refl _ _).alloc (Nat.le_refl _) _) hr
    obtain ⟨A2, n2, c2, rfl, ho2, hb2⟩ := hr2
    have HO2 := Lib.hid ho2
    clear ho2 hr
    go_wp2_with fail
    go_ret2
    exact ⟨_, _, _, rfl, HO2.out, hb2⟩
  · have hcp := copy_made (P := Try.prog) w 22 22 3 3 3 (.int .i64 0) (k + n) k n n (some ⟨w.heap.size, k, none⟩) A n c n _ Try.underlying22 (by kernel_rfl) hx (ints_one _ _) (fun _ => rfl) (by omega) (by omega)
    have hrow : ((List.replicate k (Value.int .i64 0) ++ ((zs.map (Value.int .i64)).take n ++ List.replicate (k + n - k - n) (Value.int .i64 0)))) = L := by
      rw [← hL, List.take_of_length_le (by rw [List.length_map]; omega), show k + n - k - n = 0 by omega]
      simp
    rw [hrow] at hcp
    clear hrow hL hx1
    go_enter Try.func41, Try.ntmps41
    go_wp2_with (first | (go_at_call 56; refine (impl_SignalValid _ _ _ _ _ hx hn).mono ?_; rintro e w' ⟨rfl, rfl⟩))
    refine (impl_signalOrNone w.heap.size _ _ _ (List.replicate k 0 ++ zs) _ (by rw [HL.out]; exact own_lit w _ _ _ HLEN.out (by unfold maxLen; omega))).mono ?_
    rintro e w2 hr
    have hr2 := retIB_res ((Below.refl _ _).alloc (Nat.le_refl _) _) hr
    obtain ⟨A2, n2, c2, rfl, ho2, hb2⟩ := hr2
    have HO2 := Lib.hid ho2
    clear ho2 hr
    go_wp2_with fail
    go_ret2
    exact ⟨_, _, _, rfl, HO2.out, hb2⟩
set_option maxHeartbeats 400000 in
theorem impl_DelaySignal (A : Option Addr) (n c : Nat) (zs : List Int) (k : Int) (w : World) (hx : RdI .i64 w A n zs) (hn : n ≤ maxLen) :
    Calls Try.prog 41 #[.slice A n c, .int .i64 k] w (RetIB 3 (delayC zs k).1 (delayC zs k).2 w) := by
  have hcs := sig_cases zs 0 3000 k (resC (List.replicate k.toNat 0 ++ zs)) ([], false)
  rw [← delayC] at hcs
  rcases hcs with ⟨h1, h⟩ | ⟨h1, h2, h3, h⟩ | ⟨h1, h2, h3, h4, h⟩ | ⟨h1, h2, h3, h4, h⟩
  iterate 3
    · rw [h]
      clear h
      go_enter Try.func41, Try.ntmps41
      go_wp2_with (go_at_call 56; refine (impl_SignalValid _ _ _ _ _ hx hn).mono ?_; rintro e w' ⟨rfl, rfl⟩)
      go_ret2
      exact retIB_nil _ _
  · rw [h]
    obtain ⟨j, rfl⟩ := Int.eq_ofNat_of_zero_le h2
    rw [Int.toNat_natCast]
    exact impl_Delay1 A n c zs j w hx hn (by omega) h1
set_option maxHeartbeats 400000 in
theorem spec_l4Delay1 (A : Option Addr) (n c : Nat) (zs : List Int) (k : Nat) (w : World) (hx : RdI .i64 w A n zs) (hn : n ≤ maxLen) (hk : k ≤ 3000) (h1 : sigB zs = true) :
    Calls Try.prog 94 #[.slice A n c, .int .i64 k] w (RetI .i64 3 (List.replicate k 0 ++ zs) w) := by
  have hsz := (sig_bd zs h1).1
  have lx := hx.len
  have LX := Lib.hid lx
  rw [lx] at hsz
  clear lx
  have hmk := run_make_row' (P := Try.prog) 22 3 (.int .i64 0) 8 Try.underlying22 Try.infoI64 rfl .i64 .i64 k (by omega) (by omega)
  have hown := own_made w (.int .i64 0) k 3 (by unfold maxLen; omega)
  have HOWN := Lib.hid hown
  clear hown
  have hrow : Hid (List.replicate k (Value.int .i64 0) ++ zs.map (Value.int .i64) = (List.replicate k 0 ++ zs).map (Value.int .i64)) := by show _ = _; simp
  have H1 := Lib.hid (Rd.below hx ((Below.refl _ _).alloc (Nat.le_refl _) (.cells (madeCells #[.int .i64 0] k) 3)))
  go_enter Try.func94, Try.ntmps94
  go_wp2_with (at_builtin; refine wpList_append_rd _ rfl _ _ 22 rfl w.heap.size 3 (.int .i64 0) 8 Try.underlying22 Try.infoI64 rfl _ _ _ rfl HOWN.out _ _ _ _ rfl H1.out (ints_one _ _) ?_ (by omega) ?_ ?_; omega; simp; intro A' q c' w' hq ho hg; have HO := Lib.hid ho; have HG := Lib.hid hg; clear ho hg)
  go_ret
  exact retI_own (by have h5 := HO.out; rw [hrow.out] at h5; exact h5) (((Below.refl _ _).alloc (Nat.le_refl _) _).trans (own_below_of HOWN.out HG.out (by simp)))

set_option maxHeartbeats 400000 in
theorem impl_AddSignals_m (A A' : Option Addr) (n c m c' : Nat) (xs ys : List Int) (w : World) (hx : RdI .i64 w A n xs) (hy : RdI .i64 w A' m ys) (hn : n ≤ maxLen) (hm : m ≤ maxLen) (h1 : sigB xs = true) (h2 : sigB ys = true) (hc : n < m) :
    Calls Try.prog 42 #[.slice A n c, .slice A' m c'] w (RetIB 3 (resC (addL xs ys)).1 (resC (addL xs ys)).2 w) := by
  have lx := hx.len
  have ly := hy.len
  have hsx : n ≤ 3000 := by have := (sig_bd xs h1).1; omega
  have hsy : m ≤ 3000 := by have := (sig_bd ys h2).1; omega
  have hbx := Lib.hid (sig_bdI xs h1)
  have hby := Lib.hid (sig_bdI ys h2)
  have hmk := run_make_row' (P := Try.prog) 22 3 (.int .i64 0) 8 Try.underlying22 Try.infoI64 rfl .i64 .i64 m (by omega) (by omega)
  have hcp := copy_made (P := Try.prog) w 22 22 3 3 3 (.int .i64 0) m 0 m m (some ⟨w.heap.size, 0, none⟩) A n c n _ Try.underlying22 (by kernel_rfl) hx (ints_one _ _) (fun _ => rfl) (by omega) (by omega)
  have hrow : ((List.replicate 0 (Value.int .i64 0) ++ ((xs.map (Value.int .i64)).take n ++ List.replicate (m - 0 - n) (Value.int .i64 0)))) = (padL m xs).map (Value.int .i64) := by
    rw [padL_eq m xs (by omega), List.take_of_length_le (by rw [List.length_map]; omega), List.map_append, lx]
    simp
  rw [hrow] at hcp
  clear hrow
  have hmax : max xs.length ys.length = m := by omega
  have hal : ((addL xs ys).map (Value.int .i64)).length = m := by rw [List.length_map, addL_len, hmax]
  have hpl : ((padL m xs).map (Value.int .i64)).length = m := by rw [List.length_map, padL_len]
  have HAT : Hid (∀ k, k < m → ((addL xs ys).map (Value.int .i64))[k]? = some (.int .i64 (xs.getD k 0 + ys.getD k 0))) := fun k hk => by rw [List.getElem?_map, addL_at _ _ _ (by omega)]; rfl
  have HPT : Hid (∀ k, k < m → ((padL m xs).map (Value.int .i64))[k]? = some (.int .i64 (xs.getD k 0))) := fun k hk => by rw [List.getElem?_map, padL_at _ _ _ hk]; rfl
  have HEND : Hid (∀ i, m ≤ i → ((padL m xs).map (Value.int .i64))[i]? = ((addL xs ys).map (Value.int .i64))[i]?) := fun i hi => by
    by_cases hiN : i < m
    · rw [HPT.out i hiN, HAT.out i hiN]
      have : ys.getD i 0 = 0 := by rw [List.getD_eq_getElem?_getD, List.getElem?_eq_none (by omega)]; rfl
      rw [this, Int.add_zero]
    · rw [List.getElem?_eq_none (by omega), List.getElem?_eq_none (by omega)]
  generalize hPL : List.map (Value.int .i64) (padL m xs) = PL at *
  generalize hAL : List.map (Value.int .i64) (addL xs ys) = AL at *
  have HAL := Lib.hid hAL
  have HPLL := Lib.hid hpl
  have HALL := Lib.hid hal
  clear hPL hAL hpl hal hmax lx ly
  go_enter Try.func42, Try.ntmps42
  go_wp2_with (go_at_call 56; refine (impl_SignalValid _ _ _ _ _ (by assumption) (by assumption)).mono ?_; rintro e w' ⟨rfl, rfl⟩)
  clear hmk hcp
  go_loopw [28] (fun v wr => ∃ k : Nat, k ≤ m ∧ v = .int .i64 k ∧ wr.ownsRow w.heap.size 3 1 (.slice (some ⟨w.heap.size, 0, none⟩) m m) m (Mix AL PL k) ∧ Below w.heap.size w wr) (fun v _ => m - (intOf v).toNat)
  case atStart => exact ⟨0, Nat.zero_le _, rfl, by rw [mix_zero]; exact own_lit w _ _ _ HPLL.out (by unfold maxLen; omega), (Below.refl _ _).alloc (Nat.le_refl _) _⟩
  case round =>
    obtain ⟨k, hk, rfl, ho, hb⟩ := hrel
    by_cases hlt : k < m
    · obtain ⟨b, o, y, rfl, hlb, hyy, hcy⟩ := hy.at hlt
      have hcr : wr.cell? ⟨b, o + k, none⟩ = some (.int .i64 y) := (hb.cell (p := ⟨b, o + k, none⟩) hlb).trans hcy
      have hcc := (ho.cellAt k (by omega)).trans (mix_old _ _ _ _ (by rw [HALL.out]; omega) (HPT.out k (by omega)))
      have hf := ho.frozenAt k
      have hxb := bdI_getD _ _ hbx.out (by decide) k
      have hyb := bdI_at _ _ hby.out k y hyy.out
      have hsum := HAT.out k (by omega)
      have hyg : ys.getD k 0 = y := by rw [List.getD_eq_getElem?_getD, hyy.out]; rfl
      rw [hyg] at hsum
      have HSUM := Lib.hid hsum
      have HO := Lib.hid ho
      clear ho hcy hsum hyg
      generalize xs.getD k 0 = x at *
      go_wp2
      go_roundw
      case rel =>
        have hs := HO.out.stored k (.int .i64 (x + y))
        rw [mix_set _ _ _ _ HSUM.out (by rw [HPLL.out]; omega)] at hs
        exact ⟨k + 1, by omega, by go_num, hs.1, hb.setCell (Nat.le_refl _) _⟩
      case measure => simp [intOf]; omega
    · obtain rfl : k = m := by omega
      rw [mix_end _ _ _ HEND.out (by rw [HALL.out]; omega), ← HAL.out] at ho
      have HO := Lib.hid ho
      clear ho
      go_wp2_with fail
      refine (impl_signalOrNone _ _ _ _ _ _ HO.out).mono ?_
      rintro e w2 hr
      have hr2 := retIB_res hb hr
      obtain ⟨A2, n2, c2, rfl, ho2, hb2⟩ := hr2
      have HO2 := Lib.hid ho2
      clear ho2 hr
      go_wp2_with fail
      go_ret2
      exact ⟨_, _, _, rfl, HO2.out, hb2⟩
set_option maxHeartbeats 400000 in
theorem impl_AddSignals_n (A A' : Option Addr) (n c m c' : Nat) (xs ys : List Int) (w : World) (hx : RdI .i64 w A n xs) (hy : RdI .i64 w A' m ys) (hn : n ≤ maxLen) (hm : m ≤ maxLen) (h1 : sigB xs = true) (h2 : sigB ys = true) (hc : m ≤ n) :
    Calls Try.prog 42 #[.slice A n c, .slice A' m c'] w (RetIB 3 (resC (addL xs ys)).1 (resC (addL xs ys)).2 w) := by
  have lx := hx.len
  have ly := hy.len
  have hsx : n ≤ 3000 := by have := (sig_bd xs h1).1; omega
  have hsy : m ≤ 3000 := by have := (sig_bd ys h2).1; omega
  have hbx := Lib.hid (sig_bdI xs h1)
  have hby := Lib.hid (sig_bdI ys h2)
  have hmk := run_make_row' (P := Try.prog) 22 3 (.int .i64 0) 8 Try.underlying22 Try.infoI64 rfl .i64 .i64 n (by omega) (by omega)
  have hcp := copy_made (P := Try.prog) w 22 22 3 3 3 (.int .i64 0) n 0 n n (some ⟨w.heap.size, 0, none⟩) A n c n _ Try.underlying22 (by kernel_rfl) hx (ints_one _ _) (fun _ => rfl) (by omega) (by omega)
  have hrow : ((List.replicate 0 (Value.int .i64 0) ++ ((xs.map (Value.int .i64)).take n ++ List.replicate (n - 0 - n) (Value.int .i64 0)))) = (padL n xs).map (Value.int .i64) := by
    rw [padL_eq n xs (by omega), List.take_of_length_le (by rw [List.length_map]; omega), List.map_append, lx]
    simp
  rw [hrow] at hcp
  clear hrow
  have hmax : max xs.length ys.length = n := by omega
  have hal : ((addL xs ys).map (Value.int .i64)).length = n := by rw [List.length_map, addL_len, hmax]
  have hpl : ((padL n xs).map (Value.int .i64)).length = n := by rw [List.length_map, padL_len]
  have HAT : Hid (∀ k, k < n → ((addL xs ys).map (Value.int .i64))[k]? = some (.int .i64 (xs.getD k 0 + ys.getD k 0))) := fun k hk => by rw [List.getElem?_map, addL_at _ _ _ (by omega)]; rfl
  have HPT : Hid (∀ k, k < n → ((padL n xs).map (Value.int .i64))[k]? = some (.int .i64 (xs.getD k 0))) := fun k hk => by rw [List.getElem?_map, padL_at _ _ _ hk]; rfl
  have HEND : Hid (∀ i, m ≤ i → ((padL n xs).map (Value.int .i64))[i]? = ((addL xs ys).map (Value.int .i64))[i]?) := fun i hi => by
    by_cases hiN : i < n
    · rw [HPT.out i hiN, HAT.out i hiN]
      have : ys.getD i 0 = 0 := by rw [List.getD_eq_getElem?_getD, List.getElem?_eq_none (by omega)]; rfl
      rw [this, Int.add_zero]
    · rw [List.getElem?_eq_none (by omega), List.getElem?_eq_none (by omega)]
  generalize hPL : List.map (Value.int .i64) (padL n xs) = PL at *
  generalize hAL : List.map (Value.int .i64) (addL xs ys) = AL at *
  have HAL := Lib.hid hAL
  have HPLL := Lib.hid hpl
  have HALL := Lib.hid hal
  clear hPL hAL hpl hal hmax lx ly
  go_enter Try.func42, Try.ntmps42
  go_wp2_with (go_at_call 56; refine (impl_SignalValid _ _ _ _ _ (by assumption) (by assumption)).mono ?_; rintro e w' ⟨rfl, rfl⟩)
  clear hmk hcp
  go_loopw [28] (fun v wr => ∃ k : Nat, k ≤ m ∧ v = .int .i64 k ∧ wr.ownsRow w.heap.size 3 1 (.slice (some ⟨w.heap.size, 0, none⟩) n n) n (Mix AL PL k) ∧ Below w.heap.size w wr) (fun v _ => m - (intOf v).toNat)
  case atStart => exact ⟨0, Nat.zero_le _, rfl, by rw [mix_zero]; exact own_lit w _ _ _ HPLL.out (by unfold maxLen; omega), (Below.refl _ _).alloc (Nat.le_refl _) _⟩
  case round =>
    obtain ⟨k, hk, rfl, ho, hb⟩ := hrel
    by_cases hlt : k < m
    · obtain ⟨b, o, y, rfl, hlb, hyy, hcy⟩ := hy.at hlt
      have hcr : wr.cell? ⟨b, o + k, none⟩ = some (.int .i64 y) := (hb.cell (p := ⟨b, o + k, none⟩) hlb).trans hcy
      have hcc := (ho.cellAt k (by omega)).trans (mix_old _ _ _ _ (by rw [HALL.out]; omega) (HPT.out k (by omega)))
      have hf := ho.frozenAt k
      have hxb := bdI_getD _ _ hbx.out (by decide) k
      have hyb := bdI_at _ _ hby.out k y hyy.out
      have hsum := HAT.out k (by omega)
      have hyg : ys.getD k 0 = y := by rw [List.getD_eq_getElem?_getD, hyy.out]; rfl
      rw [hyg] at hsum
      have HSUM := Lib.hid hsum
      have HO := Lib.hid ho
      clear ho hcy hsum hyg
      generalize xs.getD k 0 = x at *
      go_wp2
      go_roundw
      case rel =>
        have hs := HO.out.stored k (.int .i64 (x + y))
        rw [mix_set _ _ _ _ HSUM.out (by rw [HPLL.out]; omega)] at hs
        exact ⟨k + 1, by omega, by go_num, hs.1, hb.setCell (Nat.le_refl _) _⟩
      case measure => simp [intOf]; omega
    · obtain rfl : k = m := by omega
      rw [mix_end _ _ _ HEND.out (by rw [HALL.out]; omega), ← HAL.out] at ho
      have HO := Lib.hid ho
      clear ho
      go_wp2_with fail
      refine (impl_signalOrNone _ _ _ _ _ _ HO.out).mono ?_
      rintro e w2 hr
      have hr2 := retIB_res hb hr
      obtain ⟨A2, n2, c2, rfl, ho2, hb2⟩ := hr2
      have HO2 := Lib.hid ho2
      clear ho2 hr
      go_wp2_with fail
      go_ret2
      exact ⟨_, _, _, rfl, HO2.out, hb2⟩
set_option maxHeartbeats 400000 in
theorem impl_AddSignals (A : Option Addr) (n c : Nat) (xs : List Int) (A' : Option Addr) (m c' : Nat) (ys : List Int) (w : World) (hx : RdI .i64 w A n xs) (hn : n ≤ maxLen) (hy : RdI .i64 w A' m ys) (hm : m ≤ maxLen) :
    Calls Try.prog 42 #[.slice A n c, .slice A' m c'] w (RetIB 3 (addC xs ys).1 (addC xs ys).2 w) := by
  cases h1 : sigB xs
  · have h : addC xs ys = ([], false) := by simp [addC, h1]
    rw [h]
    clear h
    go_enter Try.func42, Try.ntmps42
    go_wp2_with (go_at_call 56; refine (impl_SignalValid _ _ _ _ _ (by assumption) (by assumption)).mono ?_; rintro e w' ⟨rfl, rfl⟩)
    go_ret2
    exact retIB_nil _ _
  · cases h2 : sigB ys
    · have h : addC xs ys = ([], false) := by simp [addC, h2]
      rw [h]
      clear h
      go_enter Try.func42, Try.ntmps42
      go_wp2_with (go_at_call 56; refine (impl_SignalValid _ _ _ _ _ (by assumption) (by assumption)).mono ?_; rintro e w' ⟨rfl, rfl⟩)
      go_ret2
      exact retIB_nil _ _
    · have h : addC xs ys = resC (addL xs ys) := by simp [addC, h1, h2]
      rw [h]
      by_cases hc : n < m
      · exact impl_AddSignals_m A A' n c m c' xs ys w hx hy hn hm h1 h2 hc
      · exact impl_AddSignals_n A A' n c m c' xs ys w hx hy hn hm h1 h2 (by omega)
set_option maxHeartbeats 400000 in
theorem spec_l4Add_m (A A' : Option Addr) (n c m c' : Nat) (xs ys : List Int) (w : World) (hx : RdI .i64 w A n xs) (hy : RdI .i64 w A' m ys) (hn : n ≤ 1048576) (hm : m ≤ 1048576) (h1 : bdI 1000000000000000 xs) (h2 : bdI 1000000000000000 ys) (hc : n < m) :
    Calls Try.prog 62 #[.slice A n c, .slice A' m c'] w (RetI .i64 3 (addL xs ys) w) := by
  have lx := hx.len
  have ly := hy.len
  have hbx := Lib.hid h1
  have hby := Lib.hid h2
  clear h1 h2
  have hmk := run_make_row' (P := Try.prog) 22 3 (.int .i64 0) 8 Try.underlying22 Try.infoI64 rfl .i64 .i64 m (by omega) (by omega)
  have hcp := copy_made (P := Try.prog) w 22 22 3 3 3 (.int .i64 0) m 0 m m (some ⟨w.heap.size, 0, none⟩) A n c n _ Try.underlying22 (by kernel_rfl) hx (ints_one _ _) (fun _ => rfl) (by omega) (by omega)
  have hrow : ((List.replicate 0 (Value.int .i64 0) ++ ((xs.map (Value.int .i64)).take n ++ List.replicate (m - 0 - n) (Value.int .i64 0)))) = (padL m xs).map (Value.int .i64) := by
    rw [padL_eq m xs (by omega), List.take_of_length_le (by rw [List.length_map]; omega), List.map_append, lx]
    simp
  rw [hrow] at hcp
  clear hrow
  have hmax : max xs.length ys.length = m := by omega
  have hal : ((addL xs ys).map (Value.int .i64)).length = m := by rw [List.length_map, addL_len, hmax]
  have hpl : ((padL m xs).map (Value.int .i64)).length = m := by rw [List.length_map, padL_len]
  have HAT : Hid (∀ k, k < m → ((addL xs ys).map (Value.int .i64))[k]? = some (.int .i64 (xs.getD k 0 + ys.getD k 0))) := fun k hk => by rw [List.getElem?_map, addL_at _ _ _ (by omega)]; rfl
  have HPT : Hid (∀ k, k < m → ((padL m xs).map (Value.int .i64))[k]? = some (.int .i64 (xs.getD k 0))) := fun k hk => by rw [List.getElem?_map, padL_at _ _ _ hk]; rfl
  have HEND : Hid (∀ i, m ≤ i → ((padL m xs).map (Value.int .i64))[i]? = ((addL xs ys).map (Value.int .i64))[i]?) := fun i hi => by
    by_cases hiN : i < m
    · rw [HPT.out i hiN, HAT.out i hiN]
      have : ys.getD i 0 = 0 := by rw [List.getD_eq_getElem?_getD, List.getElem?_eq_none (by omega)]; rfl
      rw [this, Int.add_zero]
    · rw [List.getElem?_eq_none (by omega), List.getElem?_eq_none (by omega)]
  generalize hPL : List.map (Value.int .i64) (padL m xs) = PL at *
  generalize hAL : List.map (Value.int .i64) (addL xs ys) = AL at *
  have HAL := Lib.hid hAL
  have HPLL := Lib.hid hpl
  have HALL := Lib.hid hal
  clear hPL hAL hpl hal hmax lx ly
  go_enter Try.func62, Try.ntmps62
  go_wp2
  clear hmk hcp
  go_loopw [6] (fun v wr => ∃ k : Nat, k ≤ m ∧ v = .int .i64 k ∧ wr.ownsRow w.heap.size 3 1 (.slice (some ⟨w.heap.size, 0, none⟩) m m) m (Mix AL PL k) ∧ Below w.heap.size w wr) (fun v _ => m - (intOf v).toNat)
  case atStart => exact ⟨0, Nat.zero_le _, rfl, by rw [mix_zero]; exact own_lit w _ _ _ HPLL.out (by unfold maxLen; omega), (Below.refl _ _).alloc (Nat.le_refl _) _⟩
  case round =>
    obtain ⟨k, hk, rfl, ho, hb⟩ := hrel
    by_cases hlt : k < m
    · obtain ⟨b, o, y, rfl, hlb, hyy, hcy⟩ := hy.at hlt
      have hcr : wr.cell? ⟨b, o + k, none⟩ = some (.int .i64 y) := (hb.cell (p := ⟨b, o + k, none⟩) hlb).trans hcy
      have hcc := (ho.cellAt k (by omega)).trans (mix_old _ _ _ _ (by rw [HALL.out]; omega) (HPT.out k (by omega)))
      have hf := ho.frozenAt k
      have hxb := bdI_getD _ _ hbx.out (by decide) k
      have hyb := bdI_at _ _ hby.out k y hyy.out
      have hsum := HAT.out k (by omega)
      have hyg : ys.getD k 0 = y := by rw [List.getD_eq_getElem?_getD, hyy.out]; rfl
      rw [hyg] at hsum
      have HSUM := Lib.hid hsum
      have HO := Lib.hid ho
      clear ho hcy hsum hyg
      generalize xs.getD k 0 = x at *
      go_wp2
      go_region
      all_goals go_wp2
      go_roundw
      case rel =>
        have hs := HO.out.stored k (.int .i64 (x + y))
        rw [mix_set _ _ _ _ HSUM.out (by rw [HPLL.out]; omega)] at hs
        exact ⟨k + 1, by omega, by go_num, hs.1, (hb.setCell (Nat.le_refl _) _).drew⟩
      case measure => simp [intOf]; omega
    · obtain rfl : k = m := by omega
      rw [mix_end _ _ _ HEND.out (by rw [HALL.out]; omega), ← HAL.out] at ho
      go_wp2
      go_ret
      exact retI_own ho hb
set_option maxHeartbeats 400000 in
theorem spec_l4Add_n (A A' : Option Addr) (n c m c' : Nat) (xs ys : List Int) (w : World) (hx : RdI .i64 w A n xs) (hy : RdI .i64 w A' m ys) (hn : n ≤ 1048576) (hm : m ≤ 1048576) (h1 : bdI 1000000000000000 xs) (h2 : bdI 1000000000000000 ys) (hc : m ≤ n) :
    Calls Try.prog 62 #[.slice A n c, .slice A' m c'] w (RetI .i64 3 (addL xs ys) w) := by
  have lx := hx.len
  have ly := hy.len
  have hbx := Lib.hid h1
  have hby := Lib.hid h2
  clear h1 h2
  have hmk := run_make_row' (P := Try.prog) 22 3 (.int .i64 0) 8 Try.underlying22 Try.infoI64 rfl .i64 .i64 n (by omega) (by omega)
  have hcp := copy_made (P := Try.prog) w 22 22 3 3 3 (.int .i64 0) n 0 n n (some ⟨w.heap.size, 0, none⟩) A n c n _ Try.underlying22 (by kernel_rfl) hx (ints_one _ _) (fun _ => rfl) (by omega) (by omega)
  have hrow : ((List.replicate 0 (Value.int .i64 0) ++ ((xs.map (Value.int .i64)).take n ++ List.replicate (n - 0 - n) (Value.int .i64 0)))) = (padL n xs).map (Value.int .i64) := by
    rw [padL_eq n xs (by omega), List.take_of_length_le (by rw [List.length_map]; omega), List.map_append, lx]
    simp
  rw [hrow] at hcp
  clear hrow
  have hmax : max xs.length ys.length = n := by omega
  have hal : ((addL xs ys).map (Value.int .i64)).length = n := by rw [List.length_map, addL_len, hmax]
  have hpl : ((padL n xs).map (Value.int .i64)).length = n := by rw [List.length_map, padL_len]
  have HAT : Hid (∀ k, k < n → ((addL xs ys).map (Value.int .i64))[k]? = some (.int .i64 (xs.getD k 0 + ys.getD k 0))) := fun k hk => by rw [List.getElem?_map, addL_at _ _ _ (by omega)]; rfl
  have HPT : Hid (∀ k, k < n → ((padL n xs).map (Value.int .i64))[k]? = some (.int .i64 (xs.getD k 0))) := fun k hk => by rw [List.getElem?_map, padL_at _ _ _ hk]; rfl
  have HEND : Hid (∀ i, m ≤ i → ((padL n xs).map (Value.int .i64))[i]? = ((addL xs ys).map (Value.int .i64))[i]?) := fun i hi => by
    by_cases hiN : i < n
    · rw [HPT.out i hiN, HAT.out i hiN]
      have : ys.getD i 0 = 0 := by rw [List.getD_eq_getElem?_getD, List.getElem?_eq_none (by omega)]; rfl
      rw [this, Int.add_zero]
    · rw [List.getElem?_eq_none (by omega), List.getElem?_eq_none (by omega)]
  generalize hPL : List.map (Value.int .i64) (padL n xs) = PL at *
  generalize hAL : List.map (Value.int .i64) (addL xs ys) = AL at *
  have HAL := Lib.hid hAL
  have HPLL := Lib.hid hpl
  have HALL := Lib.hid hal
  clear hPL hAL hpl hal hmax lx ly
  go_enter Try.func62, Try.ntmps62
  go_wp2
  clear hmk hcp
  go_loopw [6] (fun v wr => ∃ k : Nat, k ≤ m ∧ v = .int .i64 k ∧ wr.ownsRow w.heap.size 3 1 (.slice (some ⟨w.heap.size, 0, none⟩) n n) n (Mix AL PL k) ∧ Below w.heap.size w wr) (fun v _ => m - (intOf v).toNat)
  case atStart => exact ⟨0, Nat.zero_le _, rfl, by rw [mix_zero]; exact own_lit w _ _ _ HPLL.out (by unfold maxLen; omega), (Below.refl _ _).alloc (Nat.le_refl _) _⟩
  case round =>
    obtain ⟨k, hk, rfl, ho, hb⟩ := hrel
    by_cases hlt : k < m
    · obtain ⟨b, o, y, rfl, hlb, hyy, hcy⟩ := hy.at hlt
      have hcr : wr.cell? ⟨b, o + k, none⟩ = some (.int .i64 y) := (hb.cell (p := ⟨b, o + k, none⟩) hlb).trans hcy
      have hcc := (ho.cellAt k (by omega)).trans (mix_old _ _ _ _ (by rw [HALL.out]; omega) (HPT.out k (by omega)))
      have hf := ho.frozenAt k
      have hxb := bdI_getD _ _ hbx.out (by decide) k
      have hyb := bdI_at _ _ hby.out k y hyy.out
      have hsum := HAT.out k (by omega)
      have hyg : ys.getD k 0 = y := by rw [List.getD_eq_getElem?_getD, hyy.out]; rfl
      rw [hyg] at hsum
      have HSUM := Lib.hid hsum
      have HO := Lib.hid ho
      clear ho hcy hsum hyg
      generalize xs.getD k 0 = x at *
      go_wp2
      go_region
      all_goals go_wp2
      go_roundw
      case rel =>
        have hs := HO.out.stored k (.int .i64 (x + y))
        rw [mix_set _ _ _ _ HSUM.out (by rw [HPLL.out]; omega)] at hs
        exact ⟨k + 1, by omega, by go_num, hs.1, (hb.setCell (Nat.le_refl _) _).drew⟩
      case measure => simp [intOf]; omega
    · obtain rfl : k = m := by omega
      rw [mix_end _ _ _ HEND.out (by rw [HALL.out]; omega), ← HAL.out] at ho
      go_wp2
      go_ret
      exact retI_own ho hb
theorem spec_l4Add (A : Option Addr) (n c : Nat) (xs : List Int) (A' : Option Addr) (m c' : Nat) (ys : List Int) (w : World) (hx : RdI .i64 w A n xs) (hy : RdI .i64 w A' m ys) (hn : n ≤ 1048576) (hm : m ≤ 1048576) (h1 : bdI 1000000000000000 xs) (h2 : bdI 1000000000000000 ys) :
    Calls Try.prog 62 #[.slice A n c, .slice A' m c'] w (RetI .i64 3 (addL xs ys) w) := by
  by_cases hc : n < m
  · exact spec_l4Add_m A A' n c m c' xs ys w hx hy hn hm h1 h2 hc
  · exact spec_l4Add_n A A' n c m c' xs ys w hx hy hn hm h1 h2 (by omega)

end Go.Proofs.Ytlddefmakjnfdaa
