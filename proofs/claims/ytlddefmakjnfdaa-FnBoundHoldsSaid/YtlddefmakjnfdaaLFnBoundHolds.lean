/- The walk of the law FnBoundHolds. Conditions: as the theorem says. -/
import Derived.Test.YtlddefmakjnfdaaPureI
import Derived.Test.YtlddefmakjnfdaaDrawU3
import Derived.Test.YtlddefmakjnfdaaC13
namespace Go.Proofs.Ytlddefmakjnfdaa
open Go.RowKit
set_option linter.unusedSimpArgs false
set_option linter.unusedVariables false
set_option maxRecDepth 100000

theorem ext_toListB {a b : ByteArray} (h : a.data.toList = b.data.toList) : a = b := by
  have : a.data = b.data := Array.ext' h
  cases a; cases b; simp at this; rw [this]
theorem intf_pos (us : List (ByteArray × ByteArray × Int × Int)) (k : Int) (h : ¬ intfC us k < 0) :
    usersB us = true ∧ ∃ q : Nat, k = q ∧ q < us.length ∧ us.all (sameU (us.getD q noU)) = true ∧ intfC us k = sumTo (gapI us q) us.length := by
  unfold intfC at *
  by_cases h1 : usersB us = true ∧ 0 ≤ k ∧ k < us.length
  · rw [if_pos h1] at *
    by_cases h2 : us.all (sameU (us.getD k.toNat noU)) = true
    · rw [if_pos h2]
      exact ⟨h1.1, k.toNat, by omega, by omega, h2, rfl⟩
    · rw [if_neg h2] at h; exact absurd (show (-1 : Int) < 0 by omega) h
  · rw [if_neg h1] at h; exact absurd (show (-1 : Int) < 0 by omega) h
set_option maxHeartbeats 4000000 in
theorem walk_FnBoundHolds (A : Option Addr) (n c : Nat) (zs : List Int) (w : World) (hx : RowIn .u8 w A n c zs) :
    Calls Try.prog 12 #[.slice A n c] w fun e w' => e = .returned (.bool true) ∧ Below w.heap.size w w' := by
  by_cases hbig_n : 1048576 < n
  · clear hx
    go_enter Try.func12, Try.ntmps12
    go_wp2
    go_ret
    exact ⟨rfl, Below.refl _ _⟩
  replace hbig_n : n ≤ 1048576 := by omega
  go_enter Try.func12, Try.ntmps12
  go_wp2_with fail
  refine (spec_DrawInterferenceBound _ _ _ _ _ hx).mono ?_
  rintro e w1 ⟨Al, m, cl, us, k, rfl, ho, hm9, hsz, hB1⟩
  have hS1 := hB1.size
  have hml : us.length = m := ownU_num ho
  have HS := Lib.hid (show ∀ u ∈ us, u.1.size ≤ 1048576 ∧ u.2.1.size ≤ 1048576 from fun u hu => by have := hsz u hu; omega)
  have OL := Lib.hid ho
  have HML := Lib.hid hml
  clear hx hsz ho hml
  go_wp2_with fail
  refine (impl_InterferenceBound Al m cl us k w1 (own_rdU OL.out) (by omega) HS.out).mono ?_
  rintro e w2 ⟨rfl, hb⟩
  have CL := Lib.hid (own_below OL.out hb)
  have hB2 := hB1.trans (hb.mono hB1.size)
  clear hb OL
  go_wp2_with fail
  refine (spec_InterferenceBound Al m cl us k w2 (own_rdU CL.out) (by omega) HS.out).mono ?_
  rintro e w3 ⟨rfl, hb⟩
  have CL3 := Lib.hid (own_below CL.out hb)
  have hB3 := hB2.trans (hb.mono hB2.size)
  clear hb CL hB2
  by_cases hneg : intfC us k < 0
  · obtain ⟨V, hV⟩ : ∃ V, intfC us k = V := ⟨_, rfl⟩
    have HV := Lib.hid hV
    rw [hV] at hneg ⊢
    have hd0 : decide (V < 0) = true := decide_eq_true hneg
    clear hV
    go_wp2_with fail
    refine (spec_InterferenceBound Al m cl us k w3 (own_rdU CL3.out) (by omega) HS.out).mono ?_
    rintro e w4 ⟨rfl, hb⟩
    rw [HV.out]
    have hB4 := hB3.trans (hb.mono hB3.size)
    go_wp2_with fail
    go_ret
    exact ⟨rfl, hB4⟩
  · obtain ⟨hub, q, rfl, hql, hall, hN⟩ := intf_pos us k hneg
    rw [hN] at hneg ⊢
    have hgb := gaps_bd us hub q us.length
    have hqm : q < m := by have := HML.out; omega
    have hq0 : (0 : Int) ≤ (q : Int) := by omega
    have hq1 : (q : Int) < (m : Int) := by omega
    obtain ⟨b, o, x1, x2, x3, x4, rfl, hgl, hxx, hc1, hc2, hc3, hc4⟩ := (own_rdU CL3.out).at hqm
    have hu := users_at us hub
    have hux := hu.2 _ (List.mem_of_getElem? hxx.out)
    have hxb := user_bd x1 x2 x3 x4 hux
    obtain ⟨l, rfl⟩ := Int.eq_ofNat_of_zero_le hxb.2.2.2.2.2.2.2.2.1
    rw [getD_u hxx.out] at hall
    have hbh := bound_holds us hub q x1 x2 x3 l hxx.out hall
    rw [len_data, len_data] at hbh
    have hm8 : m ≤ 8 := by have := hu.1; have := HML.out; omega
    rw [HML.out] at hgb hbh hneg ⊢
    obtain ⟨N, hN'⟩ : ∃ N, sumTo (gapI us q) m = N := ⟨_, rfl⟩
    rw [hN'] at hgb hbh hneg ⊢
    have hN0 : 0 ≤ N := hgb.1
    have hN1 : N ≤ 2040000 := by omega
    have hx1 : x1.size ≤ 255 := hxb.2.2.2.1
    have hx2 : x2.size ≤ 600 := hxb.2.2.2.2.2.1
    have hx30 : 0 ≤ x3 := hxb.2.2.2.2.2.2.1
    have hx31 : x3 ≤ 1000 := hxb.2.2.2.2.2.2.2.1
    have hP0 : 0 ≤ x3 * (x1.size : Int) := Int.mul_nonneg hx30 (by omega)
    have hP1 : x3 * (x1.size : Int) ≤ 1000 * 255 := Int.mul_le_mul hx31 (by omega) (by omega) (by omega)
    have hwr : IntKind.i64.wrap (x3 * (x1.size : Int)) = x3 * (x1.size : Int) := IntWalk.i64_in _ ⟨by omega, by omega⟩
    have hlen3 : (sendL us).length ≤ 3000 := by
      have := (sendL_bd us hu.2 us.length (Nat.le_refl _)).2
      rwa [List.take_of_length_le (Nat.le_refl _)] at this
    have hdn : decide (N < 0) = false := decide_eq_false (by omega)
    have HBH := Lib.hid hbh
    have HUB := Lib.hid hub
    clear hneg hbh hub hu hux hxb hall hN hN' hgb
    go_wp2_with fail
    refine (impl_SendAll _ m cl us w3 (own_rdU CL3.out) (by omega) HS.out).mono ?_
    rw [send_yes us HUB.out]
    rintro e w4 ⟨As, ns, cs, rfl, ho, hb⟩
    have hns : ns ≤ 3000 := own_num ho hlen3
    have OS := Lib.hid ho
    have hB4 := hB3.trans (hb.mono hB3.size)
    have e1 := (hb.cell (p := ⟨b, o + q * 4, none⟩) hgl).trans hc1
    have e2 := (hb.cell (p := ⟨b, o + q * 4 + 1, none⟩) hgl).trans hc2
    have e3 := (hb.cell (p := ⟨b, o + q * 4 + 2, none⟩) hgl).trans hc3
    have e4 := (hb.cell (p := ⟨b, o + q * 4 + 3, none⟩) hgl).trans hc4
    clear ho hb hc1 hc2 hc3 hc4 CL3 hlen3
    have hz4 := hB4.size
    go_wp2_with fail
    have hB5 := hB4.alloc hz4 (.cells #[.string x1, .string x2, .int .i64 x3, .int .i64 (l : Int)] 55)
    have ho2 := own_lit w4 55 4 [.string x1, .string x2, .int .i64 x3, .int .i64 (l : Int)] rfl (by decide)
    replace ho2 : (w4.alloc (.cells #[.string x1, .string x2, .int .i64 x3, .int .i64 (l : Int)] 55)).ownsRow w4.heap.size 55 1 (.slice (some ⟨w4.heap.size, 0, none⟩) 4 4) 4 [.string x1, .string x2, .int .i64 x3, .int .i64 (l : Int)] := ho2
    have O5 := Lib.hid (OS.out.alloc (.cells #[.string x1, .string x2, .int .i64 x3, .int .i64 (l : Int)] 55))
    clear e1 e2 e3 e4 OS
    generalize w4.alloc (.cells #[.string x1, .string x2, .int .i64 x3, .int .i64 (l : Int)] 55) = w5 at *
    have hcn : ∀ W, Below w5.heap.size w5 W → W.cell? ⟨w4.heap.size, 0, none⟩ = some (.string x1) ∧ W.cell? ⟨w4.heap.size, 1, none⟩ = some (.string x2) ∧ W.cell? ⟨w4.heap.size, 2, none⟩ = some (.int .i64 x3) ∧ W.cell? ⟨w4.heap.size, 3, none⟩ = some (.int .i64 (l : Int)) := fun W h =>
      have h2 := own_below ho2 h
      ⟨h2.cellAt 0 (by omega), h2.cellAt 1 (by omega), h2.cellAt 2 (by omega), h2.cellAt 3 (by omega)⟩
    have HCN := Lib.hid hcn
    clear hcn ho2
    refine (impl_MarginOf As ns cs _ x1 (l : Int) x2 w5 (own_rdI O5.out) (by unfold maxLen; omega) (by omega) (by omega)).mono ?_
    rintro e w6 ⟨rfl, hb⟩
    have O6 := Lib.hid (own_below O5.out hb)
    have hB6 := hB5.trans (hb.mono hB5.size)
    have HA := Lib.hid (HCN.out w6 hb)
    have HA' := Lib.hid (HCN.out w6.drew hb.drew)
    obtain ⟨e1, e2, e3, e4⟩ := HCN.out w6 hb
    have h56 := hb
    clear hb O5
    have hd : (x2 = ⟨#[]⟩ ∧ margC (sendL us) x1.data.toList (l : Int) x2.data.toList = (0, false) ∧ x2.toList.isEmpty = true) ∨ (∃ M, margC (sendL us) x1.data.toList (l : Int) x2.data.toList = (M, true) ∧ x3 * (x1.size : Int) - N ≤ M ∧ x2.toList.isEmpty = false) := by
      by_cases hd0 : x2 = ⟨#[]⟩
      · exact .inl ⟨hd0, if_neg fun h => h.2.2.2.2 (by rw [hd0]), by rw [hd0]; first | rfl | simp⟩
      · have hdl : x2.data.toList ≠ [] := fun h => hd0 (ext_toListB h)
        obtain ⟨M, h1, h2⟩ := HBH.out.1 hdl
        exact .inr ⟨M, h1, h2, str_ne_nil hdl⟩
    obtain ⟨P, hP⟩ : ∃ P, x3 * (x1.size : Int) = P := ⟨_, rfl⟩
    have hrec := HBH.out.2
    rw [hP] at hd hP0 hP1 hwr hrec
    have hwq : IntKind.i64.wrap (P - N) = P - N := IntWalk.i64_in _ ⟨by omega, by omega⟩
    have HR := Lib.hid hrec
    have hz6 := hB6.size
    clear hrec HBH
    rcases hd with ⟨hd0, hmg, hpe⟩ | ⟨M, hmg, hM, hpe⟩
    · rw [hmg]
      clear hmg hd0
      by_cases hPN : P ≤ N
      · have hdp : decide (P ≤ N) = true := decide_eq_true hPN
        clear hPN
        go_wp2_with fail
        go_quiet (fail)
        go_wp2
        go_ret
        exact ⟨rfl, below_drewN hB6 _⟩
      · have hdp : decide (P ≤ N) = false := decide_eq_false hPN
        have HQ := Lib.hid (HR.out (by omega))
        clear hPN
        have HSS := Lib.hid (show ∀ (W : World), Below w6.heap.size w6 W → Calls Try.prog 38 #[.slice As ns cs, .string x1, .int .i64 (l : Int), .int .i64 (x2.size : Int)] W (fun e w' => e = .returned (.string x2) ∧ Below w6.heap.size w6 w') from fun W hW =>
          (laws_ssUser _ _ _ _ x1 (l : Int) (x2.size : Int) W (Rd.below (own_rdI O6.out) hW) (by unfold maxLen; omega) (by omega)).mono (by rintro e w' ⟨t, rfl, ht, hb⟩; exact ⟨by rw [ext_toListB (ht.trans (congrArg Prod.fst HQ.out))], hW.trans (hb.mono hW.size)⟩))
        clear HQ HR O6
        go_wp2_with fail
        go_region_held3 (fun w' => w'.cell? ⟨w4.heap.size, 0, none⟩ = some (.string x1) ∧ w'.cell? ⟨w4.heap.size, 1, none⟩ = some (.string x2) ∧ w'.cell? ⟨w4.heap.size, 2, none⟩ = some (.int .i64 x3) ∧ w'.cell? ⟨w4.heap.size, 3, none⟩ = some (.int .i64 (l : Int))) (first | exact HA.out | exact HA'.out | exact FWA.out) ((go_at_call 38; refine (HSS.out _ (Below.refl _ _).drew).mono ?_; rintro e wa ⟨rfl, BWA⟩; have FWA := Lib.hid (HCN.out wa (h56.trans (BWA.mono h56.size)))))
        go_wp2_with fail
        go_ret
        exact ⟨rfl, hB6.trans (BWA.mono hz6)⟩
    · rw [hmg]
      have hdm : decide (M < P - N) = false := decide_eq_false (by omega)
      clear hmg
      by_cases hPN : P ≤ N
      · have hdp : decide (P ≤ N) = true := decide_eq_true hPN
        clear hPN
        go_wp2_with fail
        go_quiet (fail)
        go_wp2
        go_ret
        exact ⟨rfl, below_drewN hB6 _⟩
      · have hdp : decide (P ≤ N) = false := decide_eq_false hPN
        have HQ := Lib.hid (HR.out (by omega))
        clear hPN
        have HSS := Lib.hid (show ∀ (W : World), Below w6.heap.size w6 W → Calls Try.prog 38 #[.slice As ns cs, .string x1, .int .i64 (l : Int), .int .i64 (x2.size : Int)] W (fun e w' => e = .returned (.string x2) ∧ Below w6.heap.size w6 w') from fun W hW =>
          (laws_ssUser _ _ _ _ x1 (l : Int) (x2.size : Int) W (Rd.below (own_rdI O6.out) hW) (by unfold maxLen; omega) (by omega)).mono (by rintro e w' ⟨t, rfl, ht, hb⟩; exact ⟨by rw [ext_toListB (ht.trans (congrArg Prod.fst HQ.out))], hW.trans (hb.mono hW.size)⟩))
        clear HQ HR O6
        go_wp2_with fail
        go_region_held3 (fun w' => w'.cell? ⟨w4.heap.size, 0, none⟩ = some (.string x1) ∧ w'.cell? ⟨w4.heap.size, 1, none⟩ = some (.string x2) ∧ w'.cell? ⟨w4.heap.size, 2, none⟩ = some (.int .i64 x3) ∧ w'.cell? ⟨w4.heap.size, 3, none⟩ = some (.int .i64 (l : Int))) (first | exact HA.out | exact HA'.out | exact FWA.out) ((go_at_call 38; refine (HSS.out _ (Below.refl _ _).drew).mono ?_; rintro e wa ⟨rfl, BWA⟩; have FWA := Lib.hid (HCN.out wa (h56.trans (BWA.mono h56.size)))))
        go_wp2_with fail
        go_ret
        exact ⟨rfl, hB6.trans (BWA.mono hz6)⟩

end Go.Proofs.Ytlddefmakjnfdaa
