/- What the sums of signals of users give back, in the program and in the reference. Conditions: as each theorem says. -/
import Derived.Test.YtlddefmakjnfdaaUsr3
import Derived.Test.YtlddefmakjnfdaaC8
import Derived.Deep.RegionHeld3
namespace Go.Proofs.Ytlddefmakjnfdaa
open Go.RowKit
set_option linter.unusedSimpArgs false
set_option linter.unusedVariables false
set_option maxRecDepth 100000

def sigU (u : ByteArray × ByteArray × Int × Int) : List Int := List.replicate u.2.2.2.toNat 0 ++ (spreadL u.2.1.data.toList u.1.data.toList).map (u.2.2.1 * ·)
def sendL (us : List (ByteArray × ByteArray × Int × Int)) : List Int := us.foldl (fun s u => addL s (sigU u)) []
theorem sendL_snoc (us : List (ByteArray × ByteArray × Int × Int)) (u : ByteArray × ByteArray × Int × Int) : sendL (us ++ [u]) = addL (sendL us) (sigU u) := by unfold sendL; rw [List.foldl_append]; rfl
def sendC (us : List (ByteArray × ByteArray × Int × Int)) : List Int × Bool := if usersB us = true then (sendL us, true) else ([], false)
theorem bdI_sig (M : Int) (zs : List Int) (h : bdI M zs) (hM : M ≤ 1000000) (hl : zs.length ≤ 3000) : sigB zs = true :=
  sigB_mk zs hl fun z hz => by have := h z hz; omega
theorem bdI_mono (M N : Int) (zs : List Int) (h : bdI M zs) (hM : M ≤ N) : bdI N zs := fun z hz => by have := h z hz; omega
theorem scale_bd (d c : List UInt8) (g : Int) (h0 : 0 ≤ g) (h1 : g ≤ 1000) : bdI 1000 ((spreadL d c).map (g * ·)) := by
  intro z hz
  obtain ⟨x, hx, rfl⟩ := List.mem_map.1 hz
  have := spreadL_bd d c x hx
  have h5 : x = -1 ∨ x = 0 ∨ x = 1 := by omega
  show -1000 ≤ g * x ∧ g * x ≤ 1000
  rcases h5 with rfl | rfl | rfl
  · rw [Int.mul_neg, Int.mul_one]; omega
  · rw [Int.mul_zero]; omega
  · rw [Int.mul_one]; omega
theorem pad_bd (M : Int) (k : Nat) (zs : List Int) (h : bdI M zs) (hM : 0 ≤ M) : bdI M (List.replicate k 0 ++ zs) := by
  intro z hz
  rcases List.mem_append.1 hz with h1 | h1
  · have := (List.mem_replicate.1 h1).2; omega
  · exact h z h1
theorem add_bd (M N : Int) (xs ys : List Int) (hx : bdI M xs) (hy : bdI N ys) (hM : 0 ≤ M) (hN : 0 ≤ N) : bdI (M + N) (addL xs ys) := by
  intro z hz
  unfold addL at hz
  obtain ⟨i, _, rfl⟩ := List.mem_map.1 hz
  have h1 := bdI_getD M xs hx hM i
  have h2 := bdI_getD N ys hy hN i
  omega
theorem user_len (c d : ByteArray) (g l : Int) (h : userU (c, d, g, l) = true) : (spreadL d.data.toList c.data.toList).length = d.size * c.size ∧ l.toNat + d.size * c.size ≤ 3000 := by
  have hb := user_bd c d g l h
  obtain ⟨k, rfl⟩ := Int.eq_ofNat_of_zero_le hb.2.2.2.2.2.2.2.2.1
  have h5 := hb.2.2.2.2.2.2.2.2.2.2
  rw [← Int.natCast_mul] at h5
  rw [spreadL_len, len_data, len_data, Int.toNat_natCast]
  exact ⟨rfl, by omega⟩
theorem user_spread (c d : ByteArray) (g l : Int) (h : userU (c, d, g, l) = true) : spreadOk d.data.toList c.data.toList := by
  have hb := user_bd c d g l h
  have hl := user_len c d g l h
  exact ⟨hb.2.2.2.2.1, hb.1, by rw [len_data, len_data]; omega⟩
theorem sigU_bd (u : ByteArray × ByteArray × Int × Int) (h : userU u = true) : bdI 1000 (sigU u) ∧ (sigU u).length ≤ 3000 := by
  obtain ⟨c, d, g, l⟩ := u
  have hb := user_bd c d g l h
  have hl := user_len c d g l h
  refine ⟨pad_bd 1000 _ _ (scale_bd _ _ g hb.2.2.2.2.2.2.1 hb.2.2.2.2.2.2.2.1) (by omega), ?_⟩
  unfold sigU
  rw [List.length_append, List.length_replicate, List.length_map, hl.1]
  exact hl.2
theorem sendL_bd (us : List (ByteArray × ByteArray × Int × Int)) (h : ∀ u ∈ us, userU u = true) : ∀ k, k ≤ us.length → bdI (1000 * k) (sendL (us.take k)) ∧ (sendL (us.take k)).length ≤ 3000
  | 0, _ => ⟨fun z hz => by simp [sendL] at hz, by simp [sendL]⟩
  | k + 1, hk => by
    have ih := sendL_bd us h k (by omega)
    have hx : us[k]? = some us[k] := List.getElem?_eq_getElem (by omega)
    rw [take_add us k _ hx, sendL_snoc]
    have hu := sigU_bd us[k] (h _ (List.mem_of_getElem? hx))
    refine ⟨?_, by rw [addL_len]; omega⟩
    have := add_bd (1000 * k) 1000 _ _ ih.1 hu.1 (by omega) (by omega)
    rwa [show (1000 * ((k + 1 : Nat) : Int)) = 1000 * k + 1000 by omega]
set_option maxHeartbeats 4000000 in
theorem spec_l4Send (A : Option Addr) (n c : Nat) (us : List (ByteArray × ByteArray × Int × Int)) (w : World) (hx : RdU w A n us) (hub : usersB us = true) :
    Calls Try.prog 71 #[.slice A n c] w (RetI .i64 3 (sendL us) w) := by
  have hu := users_at us hub
  have HL := Lib.hid hx.len
  have hn8 : n ≤ 8 := by have := hu.1; have := hx.len; omega
  have HU := Lib.hid hu.2
  have HBD := Lib.hid (sendL_bd us hu.2)
  clear hu hub
  go_enter Try.func71, Try.ntmps71
  go_wp2_with fail
  have HO := Lib.hid (own_empty w 3 w.heap.size (Nat.le_refl _))
  have HB := Lib.hid (show Below w.heap.size w (w.alloc (.cells #[] 3)) from (Below.refl _ _).alloc (Nat.le_refl _) _)
  go_loopw [3, 4] (fun s' v wr => ∃ (i m d : Nat) (B : Option Addr), v = .int .i64 i ∧ s' = .slice B m d ∧ wr.ownsRow w.heap.size 3 1 (.slice B m d) m ((sendL (us.take i)).map (Value.int .i64)) ∧ i ≤ n ∧ Below w.heap.size w wr) (fun _ v _ => n - (intOf v).toNat)
  case atStart => exact ⟨0, 0, 0, _, rfl, rfl, HO.out, by omega, HB.out⟩
  case round =>
    obtain ⟨i, m, d, B, rfl, rfl, ho, hi, hb⟩ := hrel
    have hz := hb.size
    clear HO HB
    by_cases hlt : i < n
    · obtain ⟨b, o, x1, x2, x3, x4, rfl, hgl, hxx, hc1, hc2, hc3, hc4⟩ := hx.at hlt
      have hux := HU.out _ (List.mem_of_getElem? hxx.out)
      have hxb := user_bd x1 x2 x3 x4 hux
      have hxl := user_len x1 x2 x3 x4 hux
      obtain ⟨l, rfl⟩ := Int.eq_ofNat_of_zero_le hxb.2.2.2.2.2.2.2.2.1
      rw [Int.toNat_natCast] at hxl
      have hst := take_add us i _ hxx.out
      have hsend : sendL (us.take (i + 1)) = addL (sendL (us.take i)) (List.replicate l 0 ++ (spreadL x2.data.toList x1.data.toList).map (x3 * ·)) := by rw [hst, sendL_snoc]; rfl
      have HSEND := Lib.hid hsend
      have hbd := HBD.out i (by have := HL.out; omega)
      have hm3 : m ≤ 3000 := own_num ho hbd.2
      have H1 := Lib.hid (bdI_mono _ 1000000000000000 _ hbd.1 (by omega))
      have hsb := scale_bd x2.data.toList x1.data.toList x3 hxb.2.2.2.2.2.2.1 hxb.2.2.2.2.2.2.2.1
      have H2 := Lib.hid (bdI_mono _ 1000000000000000 _ (pad_bd 1000 l _ hsb (by omega)) (by omega))
      have H3 := Lib.hid (bdI_sig 1 _ (spreadL_bd x2.data.toList x1.data.toList) (by omega) (by rw [hxl.1]; omega))
      have H4 := Lib.hid (bdI_sig 1000 _ hsb (by omega) (by rw [List.length_map, hxl.1]; omega))
      have HXL := Lib.hid hxl.1
      have hl3 : l + x2.size * x1.size ≤ 3000 := hxl.2
      have HXB := Lib.hid hxb
      have hl3' : l ≤ 3000 := by omega
      obtain ⟨P, hP⟩ : ∃ P, x2.size * x1.size = P := ⟨_, rfl⟩
      rw [hP] at hl3 HXL
      clear hux hxl hst hsend hbd hsb hxb hP
      replace hc1 := (hb.cell (p := ⟨b, o + i * 4, none⟩) hgl).trans hc1
      replace hc2 := (hb.cell (p := ⟨b, o + i * 4 + 1, none⟩) hgl).trans hc2
      replace hc3 := (hb.cell (p := ⟨b, o + i * 4 + 2, none⟩) hgl).trans hc3
      replace hc4 := (hb.cell (p := ⟨b, o + i * 4 + 3, none⟩) hgl).trans hc4
      have HO1 := Lib.hid ho
      clear ho
      obtain ⟨wo, rfl⟩ : ∃ wo, wo = wr := ⟨_, rfl⟩
      go_wp2_with fail
      have hb2 : Below w.heap.size w (wo.alloc (.cells #[.string x1, .string x2, .int .i64 x3, .int .i64 (l : Int)] 55)) := hb.alloc hz _
      have ho2 := own_lit wo 55 4 [.string x1, .string x2, .int .i64 x3, .int .i64 (l : Int)] rfl (by decide)
      have HO2 := Lib.hid (HO1.out.alloc (.cells #[.string x1, .string x2, .int .i64 x3, .int .i64 (l : Int)] 55))
      replace ho2 : (wo.alloc (.cells #[.string x1, .string x2, .int .i64 x3, .int .i64 (l : Int)] 55)).ownsRow wo.heap.size 55 1 (.slice (some ⟨wo.heap.size, 0, none⟩) 4 4) 4 [.string x1, .string x2, .int .i64 x3, .int .i64 (l : Int)] := ho2
      clear hc1 hc2 hc3 hc4 HO1
      generalize wo.alloc (.cells #[.string x1, .string x2, .int .i64 x3, .int .i64 (l : Int)] 55) = wn at *
      have hcw : ∀ w', Below wn.heap.size wn w' → w'.cell? ⟨wo.heap.size, 0, none⟩ = some (.string x1) ∧ w'.cell? ⟨wo.heap.size, 1, none⟩ = some (.string x2) ∧ w'.cell? ⟨wo.heap.size, 2, none⟩ = some (.int .i64 x3) ∧ w'.cell? ⟨wo.heap.size, 3, none⟩ = some (.int .i64 (l : Int)) := fun w' h =>
        have h2 := own_below ho2 h
        ⟨h2.cellAt 0 (by omega), h2.cellAt 1 (by omega), h2.cellAt 2 (by omega), h2.cellAt 3 (by omega)⟩
      have HCW := Lib.hid hcw
      have HA := Lib.hid (hcw wn (Below.refl _ _))
      have HA' := Lib.hid (hcw wn.drew (Below.refl _ _).drew)
      obtain ⟨e0, e1, e2, e3⟩ := hcw wn (Below.refl _ _)
      clear hcw ho2
      have hz2 := hb2.size
      go_wp2_with fail
      go_region_held3 (fun w' => w'.cell? ⟨wo.heap.size, 0, none⟩ = some (.string x1) ∧ w'.cell? ⟨wo.heap.size, 1, none⟩ = some (.string x2) ∧ w'.cell? ⟨wo.heap.size, 2, none⟩ = some (.int .i64 x3) ∧ w'.cell? ⟨wo.heap.size, 3, none⟩ = some (.int .i64 (l : Int))) (first | exact HA.out | exact HA'.out | exact HF1.out | exact HF2.out | exact HF3.out | exact HF4.out) (first
        | (go_at_call 50; refine (spec_l4Spread x2 x1 _ HXB.out.2.2.2.2.2.1 HXB.out.2.2.2.1 HXB.out.2.1).mono ?_; rintro e wa ⟨A1, n1, c1, rfl, hoa, hba⟩; have hbA : Below wn.heap.size wn wa := ⟨hba.os, hba.tape, hba.output, hba.size, hba.block⟩; have HF1 := Lib.hid (HCW.out wa hbA); have O1 := Lib.hid hoa; clear hoa)
        | (go_at_call 95; refine (spec_l4Scale _ _ _ _ x3 _ (own_rdI O1.out) H3.out (by have := HXB.out.2.2.2.2.2.2.1; omega) (by have := HXB.out.2.2.2.2.2.2.2.1; omega)).mono ?_; rintro e wb ⟨A2, n2, c2, rfl, hob, hbb⟩; have hbB : Below wn.heap.size wn wb := hbA.trans ((show Below wa.heap.size wa wb from ⟨hbb.os, hbb.tape, hbb.output, hbb.size, hbb.block⟩).mono hbA.size); have HF2 := Lib.hid (HCW.out wb hbB); have O2 := Lib.hid hob; clear hob)
        | (go_at_call 94; refine (spec_l4Delay1 _ _ _ _ l _ (own_rdI O2.out) (own_cap O2.out) hl3' H4.out).mono ?_; rintro e wc ⟨A3, n3, c3, rfl, hoc, hbc⟩; have hbC : Below wn.heap.size wn wc := hbB.trans ((show Below wb.heap.size wb wc from ⟨hbc.os, hbc.tape, hbc.output, hbc.size, hbc.block⟩).mono hbB.size); have HF3 := Lib.hid (HCW.out wc hbC); have O3 := Lib.hid hoc; clear hoc)
        | (go_at_call 62; refine (spec_l4Add _ _ _ _ _ _ _ _ _ (own_rdI (own_below HO2.out hbC)) (own_rdI O3.out) (by omega) (own_num O3.out (by rw [List.length_append, List.length_replicate, List.length_map, HXL.out]; omega)) H1.out H2.out).mono ?_; rintro e we ⟨A4, n4, c4, rfl, hoe, hbe⟩; have hbE : Below wn.heap.size wn we := hbC.trans ((show Below wc.heap.size wc we from ⟨hbe.os, hbe.tape, hbe.output, hbe.size, hbe.block⟩).mono hbC.size); have HF4 := Lib.hid (HCW.out we hbE); have O4 := Lib.hid (own_mono hoe (show w.heap.size ≤ wc.heap.size from Nat.le_trans hz2 hbC.size)); clear hoe))
      go_wp2_with fail
      go_roundw
      case rel => exact ⟨i + 1, n4, c4, A4, by go_num, rfl, by rw [HSEND.out]; exact O4.out, by omega, hb2.trans (hbE.mono hz2)⟩
      case measure => simp [intOf]; omega
    · obtain rfl : i = n := by omega
      rw [List.take_of_length_le (by rw [HL.out]; exact Nat.le_refl _)] at ho
      have HO1 := Lib.hid ho
      clear ho
      go_wp2_with fail
      go_ret
      exact retI_own HO1.out hb
set_option maxHeartbeats 1000000 in
theorem spec_SendAll (A : Option Addr) (n c : Nat) (us : List (ByteArray × ByteArray × Int × Int)) (w : World) (hx : RdU w A n us) (hn : n ≤ 1048576) (hs : ∀ u ∈ us, u.1.size ≤ 1048576 ∧ u.2.1.size ≤ 1048576) :
    Calls Try.prog 33 #[.slice A n c] w (RetIB 3 (sendC us).1 (sendC us).2 w) := by
  have hv := spec_l4Users A n c us w hx hn hs
  cases hub : usersB us
  · rw [show sendC us = ([], false) by unfold sendC; rw [hub, if_neg (by decide)]]
    rw [hub] at hv
    clear hub hs
    go_enter Try.func33, Try.ntmps33
    go_wp2_with fail
    refine hv.mono ?_
    rintro e w1 ⟨rfl, hb1⟩
    go_wp2_with fail
    go_ret2
    exact ⟨_, 0, 0, rfl, own_empty w1 3 w.heap.size hb1.size, hb1.alloc hb1.size _⟩
  · rw [show sendC us = (sendL us, true) by unfold sendC; rw [hub, if_pos rfl]]
    rw [hub] at hv
    have HUB := Lib.hid hub
    clear hub hs
    go_enter Try.func33, Try.ntmps33
    go_wp2_with fail
    refine hv.mono ?_
    rintro e w1 ⟨rfl, hb1⟩
    go_wp2_with fail
    refine (spec_l4Send A n c us w1 (Rd.below hx hb1) HUB.out).mono ?_
    rintro e w2 ⟨B, m, d, rfl, ho, hb2⟩
    have HO := Lib.hid (own_mono ho hb1.size)
    clear ho
    go_wp2_with fail
    go_ret2
    exact ⟨B, m, d, rfl, HO.out, hb1.trans (hb2.mono hb1.size)⟩
set_option maxHeartbeats 4000000 in
theorem impl_SendAll (A : Option Addr) (n c : Nat) (us : List (ByteArray × ByteArray × Int × Int)) (w : World) (hx : RdU w A n us) (hn : n ≤ 1048576) (hs : ∀ u ∈ us, u.1.size ≤ 1048576 ∧ u.2.1.size ≤ 1048576) :
    Calls Try.prog 34 #[.slice A n c] w (RetIB 3 (sendC us).1 (sendC us).2 w) := by
  have hv := impl_usersValid A n c us w hx hn hs
  cases hub : usersB us
  · rw [show sendC us = ([], false) by unfold sendC; rw [hub, if_neg (by decide)]]
    rw [hub] at hv
    clear hub hs
    go_enter Try.func34, Try.ntmps34
    go_wp2_with fail
    refine hv.mono ?_
    rintro e w1 ⟨rfl, hb1⟩
    go_wp2_with fail
    go_ret2
    exact ⟨none, 0, 0, rfl, World.ownsRow_nil _ _ _ _, hb1⟩
  · rw [show sendC us = (sendL us, true) by unfold sendC; rw [hub, if_pos rfl]]
    rw [hub] at hv
    have hu := users_at us hub
    have HL := Lib.hid hx.len
    have hn8 : n ≤ 8 := by have := hu.1; have := hx.len; omega
    have HU := Lib.hid hu.2
    have HBD := Lib.hid (sendL_bd us hu.2)
    clear hu hub hs hn
    go_enter Try.func34, Try.ntmps34
    go_wp2_with fail
    refine hv.mono ?_
    rintro e w1 ⟨rfl, hb1⟩
    clear hv
    have hz1 := hb1.size
    go_wp2_with fail
    have HO := Lib.hid (own_empty w1 3 w.heap.size hz1)
    have HB := Lib.hid (hb1.alloc hz1 (.cells #[] 3))
    clear hb1
    go_loopw [4, 19] (fun s' v wr => ∃ (i m d : Nat) (B : Option Addr), v = .int .i64 i ∧ s' = .slice B m d ∧ wr.ownsRow w.heap.size 3 1 (.slice B m d) m ((sendL (us.take i)).map (Value.int .i64)) ∧ i ≤ n ∧ Below w.heap.size w wr) (fun _ v _ => n - (intOf v).toNat)
    case atStart => exact ⟨0, 0, 0, _, rfl, rfl, HO.out, by omega, HB.out⟩
    case round =>
      obtain ⟨i, m, d, B, rfl, rfl, ho, hi, hb⟩ := hrel
      have hz := hb.size
      clear HO HB
      by_cases hlt : i < n
      · obtain ⟨b, o, x1, x2, x3, x4, rfl, hgl, hxx, hc1, hc2, hc3, hc4⟩ := hx.at hlt
        have hux := HU.out _ (List.mem_of_getElem? hxx.out)
        have hxb := user_bd x1 x2 x3 x4 hux
        have hxl := user_len x1 x2 x3 x4 hux
        have hok := user_spread x1 x2 x3 x4 hux
        obtain ⟨l, rfl⟩ := Int.eq_ofNat_of_zero_le hxb.2.2.2.2.2.2.2.2.1
        rw [Int.toNat_natCast] at hxl
        have hst := take_add us i _ hxx.out
        have hsend : sendL (us.take (i + 1)) = addL (sendL (us.take i)) (List.replicate l 0 ++ (spreadL x2.data.toList x1.data.toList).map (x3 * ·)) := by rw [hst, sendL_snoc]; rfl
        have HSEND := Lib.hid hsend
        have hbd := HBD.out i (by have := HL.out; omega)
        have hbd2 := HBD.out (i + 1) (by have := HL.out; omega)
        have hm3 : m ≤ 3000 := own_num ho hbd.2
        have hsb := scale_bd x2.data.toList x1.data.toList x3 hxb.2.2.2.2.2.2.1 hxb.2.2.2.2.2.2.2.1
        have s1 := bdI_sig (1000 * (i : Int)) _ hbd.1 (by omega) hbd.2
        have s2 := bdI_sig (1000 * ((i + 1 : Nat) : Int)) _ hbd2.1 (by omega) hbd2.2
        have s3 := bdI_sig 1 _ (spreadL_bd x2.data.toList x1.data.toList) (by omega) (by rw [hxl.1]; omega)
        have s4 := bdI_sig 1000 _ hsb (by omega) (by rw [List.length_map, hxl.1]; omega)
        have s5 := bdI_sig 1000 _ (pad_bd 1000 l _ hsb (by omega)) (by omega) (by rw [List.length_append, List.length_replicate, List.length_map, hxl.1]; exact hxl.2)
        rw [hsend] at s2
        have k1 : spreadC x2.data.toList x1.data.toList = (spreadL x2.data.toList x1.data.toList, true) := by unfold spreadC; rw [if_pos hok]
        have k2 : scaleC (spreadL x2.data.toList x1.data.toList) x3 = ((spreadL x2.data.toList x1.data.toList).map (x3 * ·), true) := by
          unfold scaleC resC
          rw [if_pos ⟨s3, (within_iff _ _ _).2 ⟨by have := hxb.2.2.2.2.2.2.1; omega, by have := hxb.2.2.2.2.2.2.2.1; omega⟩⟩, if_pos s4]
        have k3 : delayC ((spreadL x2.data.toList x1.data.toList).map (x3 * ·)) (l : Int) = (List.replicate l 0 ++ (spreadL x2.data.toList x1.data.toList).map (x3 * ·), true) := by
          unfold delayC resC
          rw [if_pos ⟨s4, (within_iff _ _ _).2 ⟨by omega, by have := hxl.2; omega⟩⟩, Int.toNat_natCast, if_pos s5]
        have k4 : addC (sendL (us.take i)) (List.replicate l 0 ++ (spreadL x2.data.toList x1.data.toList).map (x3 * ·)) = (addL (sendL (us.take i)) (List.replicate l 0 ++ (spreadL x2.data.toList x1.data.toList).map (x3 * ·)), true) := by
          unfold addC resC
          rw [if_pos ⟨s1, s5⟩, if_pos s2]
        have hsz : x2.size ≤ 1048576 ∧ x1.size ≤ 1048576 := ⟨by have := hxb.2.2.2.2.2.1; omega, by have := hxb.2.2.2.1; omega⟩
        generalize spreadL x2.data.toList x1.data.toList = p1 at *
        generalize p1.map (x3 * ·) = p2 at *
        generalize List.replicate l (0 : Int) ++ p2 = p3 at *
        generalize sendL (us.take i) = q0 at *
        have K1 := Lib.hid k1
        have K2 := Lib.hid k2
        have K3 := Lib.hid k3
        have K4 := Lib.hid k4
        clear hux hxl hok hst hsend hbd hbd2 hsb s1 s2 s3 s4 s5 k1 k2 k3 k4 hxb
        replace hc1 := (hb.cell (p := ⟨b, o + i * 4, none⟩) hgl).trans hc1
        replace hc2 := (hb.cell (p := ⟨b, o + i * 4 + 1, none⟩) hgl).trans hc2
        replace hc3 := (hb.cell (p := ⟨b, o + i * 4 + 2, none⟩) hgl).trans hc3
        replace hc4 := (hb.cell (p := ⟨b, o + i * 4 + 3, none⟩) hgl).trans hc4
        have HO1 := Lib.hid ho
        clear ho
        obtain ⟨wo, rfl⟩ : ∃ wo, wo = wr := ⟨_, rfl⟩
        go_wp2_with fail
        have hb2 : Below w.heap.size w (wo.alloc (.cells #[.string x1, .string x2, .int .i64 x3, .int .i64 (l : Int)] 55)) := hb.alloc hz _
        have ho2 := own_lit wo 55 4 [.string x1, .string x2, .int .i64 x3, .int .i64 (l : Int)] rfl (by decide)
        have HO2 := Lib.hid (HO1.out.alloc (.cells #[.string x1, .string x2, .int .i64 x3, .int .i64 (l : Int)] 55))
        replace ho2 : (wo.alloc (.cells #[.string x1, .string x2, .int .i64 x3, .int .i64 (l : Int)] 55)).ownsRow wo.heap.size 55 1 (.slice (some ⟨wo.heap.size, 0, none⟩) 4 4) 4 [.string x1, .string x2, .int .i64 x3, .int .i64 (l : Int)] := ho2
        clear hc1 hc2 hc3 hc4 HO1
        generalize wo.alloc (.cells #[.string x1, .string x2, .int .i64 x3, .int .i64 (l : Int)] 55) = wn at *
        have hz2 := hb2.size
        have hcw : ∀ w', Below wn.heap.size wn w' → w'.cell? ⟨wo.heap.size, 2, none⟩ = some (.int .i64 x3) ∧ w'.cell? ⟨wo.heap.size, 3, none⟩ = some (.int .i64 (l : Int)) := fun w' h =>
          have h2 := own_below ho2 h
          ⟨h2.cellAt 2 (by omega), h2.cellAt 3 (by omega)⟩
        have HCW := Lib.hid hcw
        clear hcw ho2
        refine (impl_SpreadBits x2 x1 wn hsz.1 hsz.2).mono ?_
        rw [K1.out]
        rintro e wa ⟨A1, n1, c1, rfl, hoa, hba⟩
        have O1 := Lib.hid hoa
        obtain ⟨e2, e3⟩ := HCW.out wa hba
        have hza := hba.size
        clear hoa
        go_wp2_with fail
        refine (impl_ScaleSignal _ _ _ _ x3 wa (own_rdI O1.out) (own_cap O1.out)).mono ?_
        rw [K2.out]
        rintro e wb ⟨A2, n2, c2, rfl, hob, hbb⟩
        have O2 := Lib.hid hob
        have hbB := hba.trans (hbb.mono hza)
        have hzb := hbB.size
        clear e2 e3 hob hbb hba
        obtain ⟨e2, e3⟩ := HCW.out wb hbB
        go_wp2_with fail
        refine (impl_DelaySignal _ _ _ _ (l : Int) wb (own_rdI O2.out) (own_cap O2.out)).mono ?_
        rw [K3.out]
        rintro e wc ⟨A3, n3, c3, rfl, hoc, hbc⟩
        have O3 := Lib.hid hoc
        have hbC := hbB.trans (hbc.mono hzb)
        have hzc := hbC.size
        clear e2 e3 hoc hbc hbB
        go_wp2_with fail
        refine (impl_AddSignals _ _ _ _ _ _ _ _ wc (own_rdI (own_below HO2.out hbC)) (own_cap HO2.out) (own_rdI O3.out) (own_cap O3.out)).mono ?_
        rw [K4.out]
        rintro e we ⟨A4, n4, c4, rfl, hoe, hbe⟩
        have hbE := hbC.trans (hbe.mono hzc)
        have O4 := Lib.hid (own_mono hoe (show w.heap.size ≤ wc.heap.size from Nat.le_trans hz2 hzc))
        clear hoe hbe
        go_wp2_with fail
        go_roundw
        case rel => exact ⟨i + 1, n4, c4, A4, by go_num, rfl, by rw [HSEND.out]; exact O4.out, by omega, hb2.trans (hbE.mono hz2)⟩
        case measure => simp [intOf]; omega
      · obtain rfl : i = n := by omega
        rw [List.take_of_length_le (by rw [HL.out]; exact Nat.le_refl _)] at ho
        have HO1 := Lib.hid ho
        clear ho
        go_wp2_with fail
        go_ret2
        exact ⟨B, m, d, rfl, HO1.out, hb⟩

end Go.Proofs.Ytlddefmakjnfdaa
