/- The walk of the law FnReceive. Conditions: as the theorem says. -/
import Derived.Test.YtlddefmakjnfdaaC13
import Derived.Test.YtlddefmakjnfdaaDrawU2
import Derived.Test.YtlddefmakjnfdaaPureU
namespace Go.Proofs.Ytlddefmakjnfdaa
open Go.RowKit
set_option linter.unusedSimpArgs false
set_option linter.unusedVariables false
set_option maxRecDepth 100000

theorem ext_toList {a b : ByteArray} (h : a.data.toList = b.data.toList) : a = b := by
  have : a.data = b.data := Array.ext' h
  cases a; cases b; simp at this; rw [this]
set_option maxHeartbeats 4000000 in
theorem walk_FnReceive (A : Option Addr) (n c : Nat) (zs : List Int) (w : World) (hx : RowIn .u8 w A n c zs) :
    Calls Try.prog 13 #[.slice A n c] w fun e w' => e = .returned (.bool true) ∧ Below w.heap.size w w' := by
  by_cases hbig_n : 1048576 < n
  · clear hx
    go_enter Try.func13, Try.ntmps13
    go_wp2
    go_ret
    exact ⟨rfl, Below.refl _ _⟩
  replace hbig_n : n ≤ 1048576 := by omega
  go_enter Try.func13, Try.ntmps13
  go_wp2_with fail
  refine (spec_DrawUserValid _ _ _ _ _ hx).mono ?_
  rintro e w1 ⟨k, d, a, l, rfl, hk, hd, hb1⟩
  have hS1 := hb1.size
  clear hx
  go_wp2_with fail
  have hb2 : Below w.heap.size w (w1.alloc (.cells #[.string k, .string d, .int .i64 a, .int .i64 l] 55)) := hb1.alloc hS1 _
  have ho2 := own_lit w1 55 4 [.string k, .string d, .int .i64 a, .int .i64 l] rfl (by decide)
  replace ho2 : (w1.alloc (.cells #[.string k, .string d, .int .i64 a, .int .i64 l] 55)).ownsRow w1.heap.size 55 1 (.slice (some ⟨w1.heap.size, 0, none⟩) 4 4) 4 [.string k, .string d, .int .i64 a, .int .i64 l] := ho2
  generalize w1.alloc (.cells #[.string k, .string d, .int .i64 a, .int .i64 l] 55) = w2 at *
  have hcw : ∀ w', Below w2.heap.size w2 w' → w'.cell? ⟨w1.heap.size, 0, none⟩ = some (.string k) ∧ w'.cell? ⟨w1.heap.size, 1, none⟩ = some (.string d) ∧ w'.cell? ⟨w1.heap.size, 2, none⟩ = some (.int .i64 a) ∧ w'.cell? ⟨w1.heap.size, 3, none⟩ = some (.int .i64 l) := fun w' h =>
    have h2 := own_below ho2 h
    ⟨h2.cellAt 0 (by omega), h2.cellAt 1 (by omega), h2.cellAt 2 (by omega), h2.cellAt 3 (by omega)⟩
  have HCW := Lib.hid hcw
  obtain ⟨e0, e1, e2, e3⟩ := hcw w2 (Below.refl _ _)
  have hz2 := hb2.size
  clear hcw ho2
  go_wp2_with fail
  refine (impl_UserValid k d a l w2 (by unfold maxLen; omega) (by unfold maxLen; omega)).mono ?_
  rintro e w3 ⟨rfl, hb3⟩
  have hB3 := hb2.trans (hb3.mono hz2)
  clear e0 e1 e2 e3
  obtain ⟨e0, e1, e2, e3⟩ := HCW.out w3 hb3
  have hc3 := hb3
  clear hb3
  go_wp2_with fail
  refine (spec_UserValid k d a l w3 (by unfold maxLen; omega) (by unfold maxLen; omega)).mono ?_
  rintro e w4 ⟨rfl, hb4⟩
  have hc4 := hc3.trans (hb4.mono hc3.size)
  have hB4 := hB3.trans (hb4.mono hB3.size)
  clear e0 e1 e2 e3
  obtain ⟨e0, e1, e2, e3⟩ := HCW.out w4 hc4
  clear hb4 hc3 hB3
  cases hV : userB k.data.toList d.data.toList a l
  · go_wp2_with fail
    refine (spec_UserValid k d a l w4 (by unfold maxLen; omega) (by unfold maxLen; omega)).mono ?_
    rintro e w5 ⟨rfl, hb5⟩
    rw [hV]
    have hB5 := hB4.trans (hb5.mono hB4.size)
    go_wp2_with fail
    go_ret
    exact ⟨rfl, hB5⟩
  · by_cases ha0 : a = 0
    · subst ha0
      go_wp2_with fail
      refine (spec_UserValid k d 0 l w4 (by unfold maxLen; omega) (by unfold maxLen; omega)).mono ?_
      rintro e w5 ⟨rfl, hb5⟩
      rw [hV]
      have hB5 := hB4.trans (hb5.mono hB4.size)
      go_wp2_with fail
      go_ret
      exact ⟨rfl, hB5⟩
    · have hU : userU (k, d, a, l) = true := hV
      have d0 : (a == 0) = false := by simp [ha0]
      have hbd := user_bd k d a l hU
      obtain ⟨l, rfl⟩ := Int.eq_ofNat_of_zero_le hbd.2.2.2.2.2.2.2.2.1
      have ha1 : 0 < a := by omega
      have hr1 := sig_rec k d a l hU ha1
      have hr2 := sig_rec k d 1 l (user_one _ _ _ _ hU) (by omega)
      have hcl := clip_sigU k d a (l : Int) hU ha1
      have hsn := send_one _ hU
      have hlen := (sigU_bd _ hU).2
      have hlen2 := (sigU_bd _ (user_one _ _ _ _ hU)).2
      rw [len_data] at hr1 hr2
      have HU := Lib.hid hU
      have HR1 := Lib.hid hr1
      have HR2 := Lib.hid hr2
      have HCL := Lib.hid hcl
      have HSN := Lib.hid hsn
      have hks : k.size ≤ 255 := hbd.2.2.2.1
      have hag : a ≤ 1000 := hbd.2.2.2.2.2.2.2.1
      clear hr1 hr2 hcl hsn hU ha0 hbd
      clear hV
      have ho5 := World.ownsRow_lit (base := w4.heap.size) (e := 55) (size := 4) w4 #[.string k, .string d, .int .i64 a, .int .i64 (l : Int)] 1 (Nat.le_refl _) (by decide) (by simp)
      have hc5 : Below w2.heap.size w2 (w4.alloc (.cells #[.string k, .string d, .int .i64 a, .int .i64 (l : Int)] 55)) := hc4.alloc hc4.size _
      have hB5 := hB4.alloc hB4.size (.cells #[.string k, .string d, .int .i64 a, .int .i64 (l : Int)] 55)
      go_wp2_with fail
      generalize w4.alloc (.cells #[.string k, .string d, .int .i64 a, .int .i64 (l : Int)] 55) = w5 at *
      refine (impl_SendAll _ 1 1 [(k, d, a, (l : Int))] w5 (own_rdU ho5) (by omega) (fun u hu => by rw [List.mem_singleton] at hu; subst hu; exact ⟨by show k.size ≤ _; omega, by show d.size ≤ _; omega⟩)).mono ?_
      rw [HSN.out]
      rintro e w6 ⟨As, ns, cs, rfl, ho, hb6⟩
      have hns : ns ≤ 3000 := own_num ho hlen
      have OS := Lib.hid ho
      have hc6 := hc5.trans (hb6.mono hc5.size)
      have hB6 := hB5.trans (hb6.mono hB5.size)
      clear e0 e1 e2 e3
      obtain ⟨e0, e1, e2, e3⟩ := HCW.out w6 hc6
      clear ho ho5 hb6 hc5 hB5 hlen
      go_wp2_with fail
      refine (impl_MarginOf As ns cs _ k (l : Int) d w6 (own_rdI OS.out) (by unfold maxLen; omega) (by omega) (by omega)).mono ?_
      rintro e w7 ⟨rfl, hb7⟩
      have C7 := Lib.hid (own_below OS.out hb7)
      have hc7 := hc6.trans (hb7.mono hc6.size)
      have hB7 := hB6.trans (hb7.mono hB6.size)
      clear e0 e1 e2 e3
      obtain ⟨e0, e1, e2, e3⟩ := HCW.out w7 hc7
      clear hb7 hc6 hB6 OS
      by_cases hd0 : d = ⟨#[]⟩
      · have hpe : d.toList.isEmpty = true := by rw [hd0]; first | rfl | simp
        rw [show margC (sigU (k, d, a, (l : Int))) k.data.toList (l : Int) d.data.toList = (0, false) from if_neg fun h => h.2.2.2.2 (by rw [hd0])]
        clear hd0
        go_wp2_with fail
        refine (impl_ClipSignal As ns cs _ 1 w7 (own_rdI C7.out) (by unfold maxLen; omega)).mono ?_
        rw [HCL.out]
        rintro e w8 ⟨At, nt, ct, rfl, ho, hb8⟩
        have hnt : nt ≤ 3000 := own_num ho hlen2
        have C8 := Lib.hid (own_below C7.out hb8)
        have CT := Lib.hid ho
        have hc8 := hc7.trans (hb8.mono hc7.size)
        have hB8 := hB7.trans (hb8.mono hB7.size)
        have HQ1 := Lib.hid (congrArg Prod.fst HR1.out.1)
        have HQ2 := Lib.hid (congrArg Prod.fst HR2.out.1)
        clear ho hb8 hlen2 C7 HR1 HR2 HCL HSN HU
        obtain ⟨Z1, hZ1⟩ : ∃ Z, sigU (k, d, a, (l : Int)) = Z := ⟨_, rfl⟩
        obtain ⟨Z2, hZ2⟩ : ∃ Z, sigU (k, d, 1, (l : Int)) = Z := ⟨_, rfl⟩
        rw [hZ1] at C8 HQ1
        rw [hZ2] at CT HQ2
        have HSS := Lib.hid (show ∀ (A' : Option Addr) (n' c' : Nat) (W : World), ((A' = As ∧ n' = ns ∧ c' = cs) ∨ (A' = At ∧ n' = nt ∧ c' = ct)) → Below w8.heap.size w8 W → Calls Try.prog 38 #[.slice A' n' c', .string k, .int .i64 (l : Int), .int .i64 (d.size : Int)] W (fun e w' => e = .returned (.string d) ∧ Below w8.heap.size w8 w') from by
          intro A' n' c' W h hW
          rcases h with ⟨rfl, rfl, rfl⟩ | ⟨rfl, rfl, rfl⟩
          · exact (laws_ssUser _ _ _ Z1 k (l : Int) (d.size : Int) W (Rd.below (own_rdI C8.out) hW) (by unfold maxLen; omega) (by omega)).mono (by rintro e w' ⟨t, rfl, ht, hb⟩; exact ⟨by rw [ext_toList (ht.trans HQ1.out)], hW.trans (hb.mono hW.size)⟩)
          · exact (laws_ssUser _ _ _ Z2 k (l : Int) (d.size : Int) W (Rd.below (own_rdI CT.out) hW) (by unfold maxLen; omega) (by omega)).mono (by rintro e w' ⟨t, rfl, ht, hb⟩; exact ⟨by rw [ext_toList (ht.trans HQ2.out)], hW.trans (hb.mono hW.size)⟩))
        clear hZ1 hZ2 C8 CT HQ1 HQ2
        have HA := Lib.hid (HCW.out w8 hc8)
        have HA' := Lib.hid (HCW.out w8.drew hc8.drew)
        clear e0 e1 e2 e3
        obtain ⟨e0, e1, e2, e3⟩ := HCW.out w8 hc8
        go_wp2_with fail
        refine wp_region_noPanic ?_
        refine wp_region_held_drew (S := (fun w' => w'.cell? ⟨w1.heap.size, 0, none⟩ = some (.string k) ∧ w'.cell? ⟨w1.heap.size, 1, none⟩ = some (.string d) ∧ w'.cell? ⟨w1.heap.size, 2, none⟩ = some (.int .i64 a) ∧ w'.cell? ⟨w1.heap.size, 3, none⟩ = some (.int .i64 (l : Int)))) (by kernel_rfl) HA'.out (fun hHeld => ?_)
        refine wpAnyH_take (i := 0) (v := ?_) (by simp only [List.getElem?_toArray, List.getElem?_cons_succ, List.getElem?_cons_zero]; rfl) (by kernel_rfl) (by kernel_rfl) (by kernel_rfl) (fun _ _ _ h => (h : False).elim) (Or.inl ⟨by rfl, ?_⟩) (by assumption) ?_
        rotate_left 1
        · intro w hSw; (try dsimp only at hSw); go_simp; try with_reducible rfl
        try simp only [Act.put, List.setIfInBounds_toArray, List.set_cons_zero, List.set_cons_succ]
        refine wpAnyH_take (i := 1) (v := ?_) (by simp only [List.getElem?_toArray, List.getElem?_cons_succ, List.getElem?_cons_zero]; rfl) (by kernel_rfl) (by kernel_rfl) (by kernel_rfl) (fun _ _ _ h => (h : False).elim) (Or.inl ⟨by rfl, ?_⟩) (by assumption) ?_
        rotate_left 1
        · intro w hSw; (try dsimp only at hSw); go_simp; try with_reducible rfl
        try simp only [Act.put, List.setIfInBounds_toArray, List.set_cons_zero, List.set_cons_succ]
        refine wpAnyH_take (i := 2) (v := ?_) (by simp only [List.getElem?_toArray, List.getElem?_cons_succ, List.getElem?_cons_zero]; rfl) (by kernel_rfl) (by kernel_rfl) (by kernel_rfl) (fun _ _ _ h => (h : False).elim) (Or.inl ⟨by rfl, ?_⟩) (by assumption) ?_
        rotate_left 1
        · intro w hSw; (try dsimp only at hSw); go_simp; try with_reducible rfl
        try simp only [Act.put, List.setIfInBounds_toArray, List.set_cons_zero, List.set_cons_succ]
        refine wpAnyH_take (i := 3) (v := ?_) (by simp only [List.getElem?_toArray, List.getElem?_cons_succ, List.getElem?_cons_zero]; rfl) (by kernel_rfl) (by kernel_rfl) (by kernel_rfl) (fun _ _ _ h => (h : False).elim) (Or.inl ⟨by rfl, ?_⟩) (by assumption) ?_
        rotate_left 1
        · intro w hSw; (try dsimp only at hSw); go_simp; try with_reducible rfl
        try simp only [Act.put, List.setIfInBounds_toArray, List.set_cons_zero, List.set_cons_succ]
        refine wpAnyH_take (i := 4) (v := ?_) (by simp only [List.getElem?_toArray, List.getElem?_cons_succ, List.getElem?_cons_zero]; rfl) (by kernel_rfl) (by kernel_rfl) (by kernel_rfl) (fun _ _ _ h => (h : False).elim) (Or.inl ⟨by rfl, ?_⟩) (by assumption) ?_
        rotate_left 1
        · intro w hSw; (try dsimp only at hSw); go_simp; try with_reducible rfl
        try simp only [Act.put, List.setIfInBounds_toArray, List.set_cons_zero, List.set_cons_succ]
        refine wpAnyH_take (i := 5) (v := ?_) (by simp only [List.getElem?_toArray, List.getElem?_cons_succ, List.getElem?_cons_zero]; rfl) (by kernel_rfl) (by kernel_rfl) (by kernel_rfl) (fun _ _ _ h => (h : False).elim) (Or.inl ⟨by rfl, ?_⟩) (by assumption) ?_
        rotate_left 1
        · intro w hSw; (try dsimp only at hSw); go_simp; try with_reducible rfl
        try simp only [Act.put, List.setIfInBounds_toArray, List.set_cons_zero, List.set_cons_succ]
        refine wpAnyH_take (i := 6) (v := ?_) (by simp only [List.getElem?_toArray, List.getElem?_cons_succ, List.getElem?_cons_zero]; rfl) (by kernel_rfl) (by kernel_rfl) (by kernel_rfl) (fun _ _ _ h => (h : False).elim) (Or.inl ⟨by rfl, ?_⟩) (by assumption) ?_
        rotate_left 1
        · intro w hSw; (try dsimp only at hSw); go_simp; try with_reducible rfl
        try simp only [Act.put, List.setIfInBounds_toArray, List.set_cons_zero, List.set_cons_succ]
        refine wpAnyH_take (i := 7) (v := ?_) (by simp only [List.getElem?_toArray, List.getElem?_cons_succ, List.getElem?_cons_zero]; rfl) (by kernel_rfl) (by kernel_rfl) (by kernel_rfl) (fun _ _ _ h => (h : False).elim) (Or.inl ⟨by rfl, ?_⟩) (by assumption) ?_
        rotate_left 1
        · intro w hSw; (try dsimp only at hSw); go_simp; try with_reducible rfl
        try simp only [Act.put, List.setIfInBounds_toArray, List.set_cons_zero, List.set_cons_succ]
        refine wpAnyH_take (i := 8) (v := ?_) (by simp only [List.getElem?_toArray, List.getElem?_cons_succ, List.getElem?_cons_zero]; rfl) (by kernel_rfl) (by kernel_rfl) (by kernel_rfl) (fun _ _ _ h => (h : False).elim) (Or.inl ⟨by rfl, ?_⟩) (by assumption) ?_
        rotate_left 1
        · intro w hSw; (try dsimp only at hSw); go_simp; try with_reducible rfl
        try simp only [Act.put, List.setIfInBounds_toArray, List.set_cons_zero, List.set_cons_succ]
        refine wpAnyH_take (i := 9) (v := ?_) (by simp only [List.getElem?_toArray, List.getElem?_cons_succ, List.getElem?_cons_zero]; rfl) (by kernel_rfl) (by kernel_rfl) (by kernel_rfl) (fun _ _ _ h => (h : False).elim) (Or.inl ⟨by rfl, ?_⟩) (by assumption) ?_
        rotate_left 1
        · intro w hSw; (try dsimp only at hSw); go_simp; try with_reducible rfl
        try simp only [Act.put, List.setIfInBounds_toArray, List.set_cons_zero, List.set_cons_succ]
        refine wpAnyH_take (i := 11) (v := ?_) (by simp only [List.getElem?_toArray, List.getElem?_cons_succ, List.getElem?_cons_zero]; rfl) (by kernel_rfl) (by kernel_rfl) (by kernel_rfl) (fun _ _ _ h => (h : False).elim) (Or.inl ⟨by rfl, ?_⟩) (by assumption) ?_
        rotate_left 1
        · intro w hSw; (try dsimp only at hSw); go_simp; try with_reducible rfl
        try simp only [Act.put, List.setIfInBounds_toArray, List.set_cons_zero, List.set_cons_succ]
        refine wpAnyH_take (i := 12) (v := ?_) (by simp only [List.getElem?_toArray, List.getElem?_cons_succ, List.getElem?_cons_zero]; rfl) (by kernel_rfl) (by kernel_rfl) (by kernel_rfl) (fun _ _ _ h => (h : False).elim) (Or.inl ⟨by rfl, ?_⟩) (by assumption) ?_
        rotate_left 1
        · intro w hSw; (try dsimp only at hSw); go_simp; try with_reducible rfl
        try simp only [Act.put, List.setIfInBounds_toArray, List.set_cons_zero, List.set_cons_succ]
        refine wpAnyH_ready (rs := [10]) (by kernel_rfl) (by simp) ?_
        refine AllReadyH.cons rfl (fun K hK => ?_) AllReadyH.nil
        go_simp
        refine (HSS.out _ _ _ _ (by first | exact .inl ⟨rfl, rfl, rfl⟩ | exact .inr ⟨rfl, rfl, rfl⟩) (by first | exact BWA | exact (Below.refl _ _).drew)).mono ?_
        rintro e wa ⟨rfl, BWA⟩
        have FWA := Lib.hid (HCW.out wa (hc8.trans (BWA.mono hc8.size)))
        go_wp2_with fail
        refine hK.out _ _ FWA.out (fun hHeld2 => ?_)
        clear hHeld hK K
        have hHeld := hHeld2
        clear hHeld2
        try simp only [Act.put, List.setIfInBounds_toArray, List.set_cons_zero, List.set_cons_succ]
        refine wpAnyH_take (i := 13) (v := ?_) (by simp only [List.getElem?_toArray, List.getElem?_cons_succ, List.getElem?_cons_zero]; rfl) (by kernel_rfl) (by kernel_rfl) (by kernel_rfl) (fun _ _ _ h => (h : False).elim) (Or.inl ⟨by rfl, ?_⟩) (by assumption) ?_
        rotate_left 1
        · intro w hSw; (try dsimp only at hSw); go_simp; try with_reducible rfl
        try simp only [Act.put, List.setIfInBounds_toArray, List.set_cons_zero, List.set_cons_succ]
        refine wpAnyH_take (i := 14) (v := ?_) (by simp only [List.getElem?_toArray, List.getElem?_cons_succ, List.getElem?_cons_zero]; rfl) (by kernel_rfl) (by kernel_rfl) (by kernel_rfl) (fun _ _ _ h => (h : False).elim) (Or.inl ⟨by rfl, ?_⟩) (by assumption) ?_
        rotate_left 1
        · intro w hSw; (try dsimp only at hSw); go_simp; try with_reducible rfl
        try simp only [Act.put, List.setIfInBounds_toArray, List.set_cons_zero, List.set_cons_succ]
        refine wpAnyH_take (i := 15) (v := ?_) (by simp only [List.getElem?_toArray, List.getElem?_cons_succ, List.getElem?_cons_zero]; rfl) (by kernel_rfl) (by kernel_rfl) (by kernel_rfl) (fun _ _ _ h => (h : False).elim) (Or.inl ⟨by rfl, ?_⟩) (by assumption) ?_
        rotate_left 1
        · intro w hSw; (try dsimp only at hSw); go_simp; try with_reducible rfl
        try simp only [Act.put, List.setIfInBounds_toArray, List.set_cons_zero, List.set_cons_succ]
        refine wpAnyH_take (i := 16) (v := ?_) (by simp only [List.getElem?_toArray, List.getElem?_cons_succ, List.getElem?_cons_zero]; rfl) (by kernel_rfl) (by kernel_rfl) (by kernel_rfl) (fun _ _ _ h => (h : False).elim) (Or.inl ⟨by rfl, ?_⟩) (by assumption) ?_
        rotate_left 1
        · intro w hSw; (try dsimp only at hSw); go_simp; try with_reducible rfl
        try simp only [Act.put, List.setIfInBounds_toArray, List.set_cons_zero, List.set_cons_succ]
        refine wpAnyH_take (i := 17) (v := ?_) (by simp only [List.getElem?_toArray, List.getElem?_cons_succ, List.getElem?_cons_zero]; rfl) (by kernel_rfl) (by kernel_rfl) (by kernel_rfl) (fun _ _ _ h => (h : False).elim) (Or.inl ⟨by rfl, ?_⟩) (by assumption) ?_
        rotate_left 1
        · intro w hSw; (try dsimp only at hSw); go_simp; try with_reducible rfl
        try simp only [Act.put, List.setIfInBounds_toArray, List.set_cons_zero, List.set_cons_succ]
        refine wpAnyH_take (i := 18) (v := ?_) (by simp only [List.getElem?_toArray, List.getElem?_cons_succ, List.getElem?_cons_zero]; rfl) (by kernel_rfl) (by kernel_rfl) (by kernel_rfl) (fun _ _ _ h => (h : False).elim) (Or.inl ⟨by rfl, ?_⟩) (by assumption) ?_
        rotate_left 1
        · intro w hSw; (try dsimp only at hSw); go_simp; try with_reducible rfl
        try simp only [Act.put, List.setIfInBounds_toArray, List.set_cons_zero, List.set_cons_succ]
        refine wpAnyH_take (i := 19) (v := ?_) (by simp only [List.getElem?_toArray, List.getElem?_cons_succ, List.getElem?_cons_zero]; rfl) (by kernel_rfl) (by kernel_rfl) (by kernel_rfl) (fun _ _ _ h => (h : False).elim) (Or.inl ⟨by rfl, ?_⟩) (by assumption) ?_
        rotate_left 1
        · intro w hSw; (try dsimp only at hSw); go_simp; try with_reducible rfl
        try simp only [Act.put, List.setIfInBounds_toArray, List.set_cons_zero, List.set_cons_succ]
        refine wpAnyH_take (i := 20) (v := ?_) (by simp only [List.getElem?_toArray, List.getElem?_cons_succ, List.getElem?_cons_zero]; rfl) (by kernel_rfl) (by kernel_rfl) (by kernel_rfl) (fun _ _ _ h => (h : False).elim) (Or.inl ⟨by rfl, ?_⟩) (by assumption) ?_
        rotate_left 1
        · intro w hSw; (try dsimp only at hSw); go_simp; try with_reducible rfl
        try simp only [Act.put, List.setIfInBounds_toArray, List.set_cons_zero, List.set_cons_succ]
        refine wpAnyH_take (i := 21) (v := ?_) (by simp only [List.getElem?_toArray, List.getElem?_cons_succ, List.getElem?_cons_zero]; rfl) (by kernel_rfl) (by kernel_rfl) (by kernel_rfl) (fun _ _ _ h => (h : False).elim) (Or.inl ⟨by rfl, ?_⟩) (by assumption) ?_
        rotate_left 1
        · intro w hSw; (try dsimp only at hSw); go_simp; try with_reducible rfl
        try simp only [Act.put, List.setIfInBounds_toArray, List.set_cons_zero, List.set_cons_succ]
        refine wpAnyH_take (i := 22) (v := ?_) (by simp only [List.getElem?_toArray, List.getElem?_cons_succ, List.getElem?_cons_zero]; rfl) (by kernel_rfl) (by kernel_rfl) (by kernel_rfl) (fun _ _ _ h => (h : False).elim) (Or.inl ⟨by rfl, ?_⟩) (by assumption) ?_
        rotate_left 1
        · intro w hSw; (try dsimp only at hSw); go_simp; try with_reducible rfl
        try simp only [Act.put, List.setIfInBounds_toArray, List.set_cons_zero, List.set_cons_succ]
        refine wpAnyH_take (i := 23) (v := ?_) (by simp only [List.getElem?_toArray, List.getElem?_cons_succ, List.getElem?_cons_zero]; rfl) (by kernel_rfl) (by kernel_rfl) (by kernel_rfl) (fun _ _ _ h => (h : False).elim) (Or.inl ⟨by rfl, ?_⟩) (by assumption) ?_
        rotate_left 1
        · intro w hSw; (try dsimp only at hSw); go_simp; try with_reducible rfl
        try simp only [Act.put, List.setIfInBounds_toArray, List.set_cons_zero, List.set_cons_succ]
        refine wpAnyH_take (i := 24) (v := ?_) (by simp only [List.getElem?_toArray, List.getElem?_cons_succ, List.getElem?_cons_zero]; rfl) (by kernel_rfl) (by kernel_rfl) (by kernel_rfl) (fun _ _ _ h => (h : False).elim) (Or.inl ⟨by rfl, ?_⟩) (by assumption) ?_
        rotate_left 1
        · intro w hSw; (try dsimp only at hSw); go_simp; try with_reducible rfl
        try simp only [Act.put, List.setIfInBounds_toArray, List.set_cons_zero, List.set_cons_succ]
        refine wpAnyH_take (i := 25) (v := ?_) (by simp only [List.getElem?_toArray, List.getElem?_cons_succ, List.getElem?_cons_zero]; rfl) (by kernel_rfl) (by kernel_rfl) (by kernel_rfl) (fun _ _ _ h => (h : False).elim) (Or.inl ⟨by rfl, ?_⟩) (by assumption) ?_
        rotate_left 1
        · intro w hSw; (try dsimp only at hSw); go_simp; try with_reducible rfl
        try simp only [Act.put, List.setIfInBounds_toArray, List.set_cons_zero, List.set_cons_succ]
        refine wpAnyH_take (i := 26) (v := ?_) (by simp only [List.getElem?_toArray, List.getElem?_cons_succ, List.getElem?_cons_zero]; rfl) (by kernel_rfl) (by kernel_rfl) (by kernel_rfl) (fun _ _ _ h => (h : False).elim) (Or.inl ⟨by rfl, ?_⟩) (by assumption) ?_
        rotate_left 1
        · intro w hSw; (try dsimp only at hSw); go_simp; try with_reducible rfl
        try simp only [Act.put, List.setIfInBounds_toArray, List.set_cons_zero, List.set_cons_succ]
        refine wpAnyH_take (i := 28) (v := ?_) (by simp only [List.getElem?_toArray, List.getElem?_cons_succ, List.getElem?_cons_zero]; rfl) (by kernel_rfl) (by kernel_rfl) (by kernel_rfl) (fun _ _ _ h => (h : False).elim) (Or.inl ⟨by rfl, ?_⟩) (by assumption) ?_
        rotate_left 1
        · intro w hSw; (try dsimp only at hSw); go_simp; try with_reducible rfl
        try simp only [Act.put, List.setIfInBounds_toArray, List.set_cons_zero, List.set_cons_succ]
        refine wpAnyH_take (i := 29) (v := ?_) (by simp only [List.getElem?_toArray, List.getElem?_cons_succ, List.getElem?_cons_zero]; rfl) (by kernel_rfl) (by kernel_rfl) (by kernel_rfl) (fun _ _ _ h => (h : False).elim) (Or.inl ⟨by rfl, ?_⟩) (by assumption) ?_
        rotate_left 1
        · intro w hSw; (try dsimp only at hSw); go_simp; try with_reducible rfl
        try simp only [Act.put, List.setIfInBounds_toArray, List.set_cons_zero, List.set_cons_succ]
        refine wpAnyH_ready (rs := [27]) (by kernel_rfl) (by simp) ?_
        refine AllReadyH.cons rfl (fun K hK => ?_) AllReadyH.nil
        go_simp
        refine (HSS.out _ _ _ _ (by first | exact .inl ⟨rfl, rfl, rfl⟩ | exact .inr ⟨rfl, rfl, rfl⟩) (by first | exact BWA | exact (Below.refl _ _).drew)).mono ?_
        rintro e wa ⟨rfl, BWA⟩
        have FWA := Lib.hid (HCW.out wa (hc8.trans (BWA.mono hc8.size)))
        go_wp2_with fail
        refine hK.out _ _ FWA.out (fun hHeld2 => ?_)
        clear hHeld hK K
        have hHeld := hHeld2
        clear hHeld2
        try simp only [Act.put, List.setIfInBounds_toArray, List.set_cons_zero, List.set_cons_succ]
        refine wpAnyH_take (i := 30) (v := ?_) (by simp only [List.getElem?_toArray, List.getElem?_cons_succ, List.getElem?_cons_zero]; rfl) (by kernel_rfl) (by kernel_rfl) (by kernel_rfl) (fun _ _ _ h => (h : False).elim) (Or.inl ⟨by rfl, ?_⟩) (by assumption) ?_
        rotate_left 1
        · intro w hSw; (try dsimp only at hSw); go_simp; try with_reducible rfl
        try simp only [Act.put, List.setIfInBounds_toArray, List.set_cons_zero, List.set_cons_succ]
        refine wpAnyH_take (i := 31) (v := ?_) (by simp only [List.getElem?_toArray, List.getElem?_cons_succ, List.getElem?_cons_zero]; rfl) (by kernel_rfl) (by kernel_rfl) (by kernel_rfl) (fun _ _ _ h => (h : False).elim) (Or.inl ⟨by rfl, ?_⟩) (by assumption) ?_
        rotate_left 1
        · intro w hSw; (try dsimp only at hSw); go_simp; try with_reducible rfl
        try simp only [Act.put, List.setIfInBounds_toArray, List.set_cons_zero, List.set_cons_succ]
        refine wpAnyH_take (i := 32) (v := ?_) (by simp only [List.getElem?_toArray, List.getElem?_cons_succ, List.getElem?_cons_zero]; rfl) (by kernel_rfl) (by kernel_rfl) (by kernel_rfl) (fun _ _ _ h => (h : False).elim) (Or.inl ⟨by rfl, ?_⟩) (by assumption) ?_
        rotate_left 1
        · intro w hSw; (try dsimp only at hSw); go_simp; try with_reducible rfl
        try simp only [Act.put, List.setIfInBounds_toArray, List.set_cons_zero, List.set_cons_succ]
        refine wpAnyH_take (i := 33) (v := ?_) (by simp only [List.getElem?_toArray, List.getElem?_cons_succ, List.getElem?_cons_zero]; rfl) (by kernel_rfl) (by kernel_rfl) (by kernel_rfl) (fun _ _ _ h => (h : False).elim) (Or.inl ⟨by rfl, ?_⟩) (by assumption) ?_
        rotate_left 1
        · intro w hSw; (try dsimp only at hSw); go_simp; try with_reducible rfl
        try simp only [Act.put, List.setIfInBounds_toArray, List.set_cons_zero, List.set_cons_succ]
        refine wpAnyH_take (i := 34) (v := ?_) (by simp only [List.getElem?_toArray, List.getElem?_cons_succ, List.getElem?_cons_zero]; rfl) (by kernel_rfl) (by kernel_rfl) (by kernel_rfl) (fun _ _ _ h => (h : False).elim) (Or.inl ⟨by rfl, ?_⟩) (by assumption) ?_
        rotate_left 1
        · intro w hSw; (try dsimp only at hSw); go_simp; try with_reducible rfl
        try simp only [Act.put, List.setIfInBounds_toArray, List.set_cons_zero, List.set_cons_succ]
        refine wpAnyH_take (i := 35) (v := ?_) (by simp only [List.getElem?_toArray, List.getElem?_cons_succ, List.getElem?_cons_zero]; rfl) (by kernel_rfl) (by kernel_rfl) (by kernel_rfl) (fun _ _ _ h => (h : False).elim) (Or.inl ⟨by rfl, ?_⟩) (by assumption) ?_
        rotate_left 1
        · intro w hSw; (try dsimp only at hSw); go_simp; try with_reducible rfl
        try simp only [Act.put, List.setIfInBounds_toArray, List.set_cons_zero, List.set_cons_succ]
        refine wpAnyH_take (i := 36) (v := ?_) (by simp only [List.getElem?_toArray, List.getElem?_cons_succ, List.getElem?_cons_zero]; rfl) (by kernel_rfl) (by kernel_rfl) (by kernel_rfl) (fun _ _ _ h => (h : False).elim) (Or.inl ⟨by rfl, ?_⟩) (by assumption) ?_
        rotate_left 1
        · intro w hSw; (try dsimp only at hSw); go_simp; try with_reducible rfl
        try simp only [Act.put, List.setIfInBounds_toArray, List.set_cons_zero, List.set_cons_succ]
        refine wpAnyH_take (i := 37) (v := ?_) (by simp only [List.getElem?_toArray, List.getElem?_cons_succ, List.getElem?_cons_zero]; rfl) (by kernel_rfl) (by kernel_rfl) (by kernel_rfl) (fun _ _ _ h => (h : False).elim) (Or.inl ⟨by rfl, ?_⟩) (by assumption) ?_
        rotate_left 1
        · intro w hSw; (try dsimp only at hSw); go_simp; try with_reducible rfl
        try simp only [Act.put, List.setIfInBounds_toArray, List.set_cons_zero, List.set_cons_succ]
        refine wpAnyH_take (i := 38) (v := ?_) (by simp only [List.getElem?_toArray, List.getElem?_cons_succ, List.getElem?_cons_zero]; rfl) (by kernel_rfl) (by kernel_rfl) (by kernel_rfl) (fun _ _ _ h => (h : False).elim) (Or.inl ⟨by rfl, ?_⟩) (by assumption) ?_
        rotate_left 1
        · intro w hSw; (try dsimp only at hSw); go_simp; try with_reducible rfl
        try simp only [Act.put, List.setIfInBounds_toArray, List.set_cons_zero, List.set_cons_succ]
        refine wpAnyH_take (i := 39) (v := ?_) (by simp only [List.getElem?_toArray, List.getElem?_cons_succ, List.getElem?_cons_zero]; rfl) (by kernel_rfl) (by kernel_rfl) (by kernel_rfl) (fun _ _ _ h => (h : False).elim) (Or.inl ⟨by rfl, ?_⟩) (by assumption) ?_
        rotate_left 1
        · intro w hSw; (try dsimp only at hSw); go_simp; try with_reducible rfl
        try simp only [Act.put, List.setIfInBounds_toArray, List.set_cons_zero, List.set_cons_succ]
        refine wpAnyH_take (i := 40) (v := ?_) (by simp only [List.getElem?_toArray, List.getElem?_cons_succ, List.getElem?_cons_zero]; rfl) (by kernel_rfl) (by kernel_rfl) (by kernel_rfl) (fun _ _ _ h => (h : False).elim) (Or.inl ⟨by rfl, ?_⟩) (by assumption) ?_
        rotate_left 1
        · intro w hSw; (try dsimp only at hSw); go_simp; try with_reducible rfl
        try simp only [Act.put, List.setIfInBounds_toArray, List.set_cons_zero, List.set_cons_succ]
        refine wpAnyH_take (i := 41) (v := ?_) (by simp only [List.getElem?_toArray, List.getElem?_cons_succ, List.getElem?_cons_zero]; rfl) (by kernel_rfl) (by kernel_rfl) (by kernel_rfl) (fun _ _ _ h => (h : False).elim) (Or.inl ⟨by rfl, ?_⟩) (by assumption) ?_
        rotate_left 1
        · intro w hSw; (try dsimp only at hSw); go_simp; try with_reducible rfl
        try simp only [Act.put, List.setIfInBounds_toArray, List.set_cons_zero, List.set_cons_succ]
        refine wpAnyH_take (i := 42) (v := ?_) (by simp only [List.getElem?_toArray, List.getElem?_cons_succ, List.getElem?_cons_zero]; rfl) (by kernel_rfl) (by kernel_rfl) (by kernel_rfl) (fun _ _ _ h => (h : False).elim) (Or.inl ⟨by rfl, ?_⟩) (by assumption) ?_
        rotate_left 1
        · intro w hSw; (try dsimp only at hSw); go_simp; try with_reducible rfl
        try simp only [Act.put, List.setIfInBounds_toArray, List.set_cons_zero, List.set_cons_succ]
        refine wpAnyH_take (i := 43) (v := undef) (by simp only [List.getElem?_toArray, List.getElem?_cons_succ, List.getElem?_cons_zero]; rfl) (by kernel_rfl) (by kernel_rfl) (by kernel_rfl) (fun _ _ _ h => (h : False).elim) (Or.inr ⟨by rfl, rfl⟩) (by assumption) ?_
        try simp only [Act.put, List.setIfInBounds_toArray, List.set_cons_zero, List.set_cons_succ]
        refine wpAnyH_take (i := 44) (v := undef) (by simp only [List.getElem?_toArray, List.getElem?_cons_succ, List.getElem?_cons_zero]; rfl) (by kernel_rfl) (by kernel_rfl) (by kernel_rfl) (fun _ _ _ h => (h : False).elim) (Or.inr ⟨by rfl, rfl⟩) (by assumption) ?_
        try simp only [Act.put, List.setIfInBounds_toArray, List.set_cons_zero, List.set_cons_succ]
        refine wpAnyH_take (i := 45) (v := undef) (by simp only [List.getElem?_toArray, List.getElem?_cons_succ, List.getElem?_cons_zero]; rfl) (by kernel_rfl) (by kernel_rfl) (by kernel_rfl) (fun _ _ _ h => (h : False).elim) (Or.inr ⟨by rfl, rfl⟩) (by assumption) ?_
        try simp only [Act.put, List.setIfInBounds_toArray, List.set_cons_zero, List.set_cons_succ]
        refine wpAnyH_take (i := 46) (v := undef) (by simp only [List.getElem?_toArray, List.getElem?_cons_succ, List.getElem?_cons_zero]; rfl) (by kernel_rfl) (by kernel_rfl) (by kernel_rfl) (fun _ _ _ h => (h : False).elim) (Or.inr ⟨by rfl, rfl⟩) (by assumption) ?_
        try simp only [Act.put, List.setIfInBounds_toArray, List.set_cons_zero, List.set_cons_succ]
        refine wpAnyH_take (i := 47) (v := undef) (by simp only [List.getElem?_toArray, List.getElem?_cons_succ, List.getElem?_cons_zero]; rfl) (by kernel_rfl) (by kernel_rfl) (by kernel_rfl) (fun _ _ _ h => (h : False).elim) (Or.inr ⟨by rfl, rfl⟩) (by assumption) ?_
        try simp only [Act.put, List.setIfInBounds_toArray, List.set_cons_zero, List.set_cons_succ]
        refine wpAnyH_take (i := 48) (v := undef) (by simp only [List.getElem?_toArray, List.getElem?_cons_succ, List.getElem?_cons_zero]; rfl) (by kernel_rfl) (by kernel_rfl) (by kernel_rfl) (fun _ _ _ h => (h : False).elim) (Or.inr ⟨by rfl, rfl⟩) (by assumption) ?_
        try simp only [Act.put, List.setIfInBounds_toArray, List.set_cons_zero, List.set_cons_succ]
        refine wpAnyH_take (i := 49) (v := undef) (by simp only [List.getElem?_toArray, List.getElem?_cons_succ, List.getElem?_cons_zero]; rfl) (by kernel_rfl) (by kernel_rfl) (by kernel_rfl) (fun _ _ _ h => (h : False).elim) (Or.inr ⟨by rfl, rfl⟩) (by assumption) ?_
        try simp only [Act.put, List.setIfInBounds_toArray, List.set_cons_zero, List.set_cons_succ]
        refine wpAnyH_take (i := 50) (v := undef) (by simp only [List.getElem?_toArray, List.getElem?_cons_succ, List.getElem?_cons_zero]; rfl) (by kernel_rfl) (by kernel_rfl) (by kernel_rfl) (fun _ _ _ h => (h : False).elim) (Or.inr ⟨by rfl, rfl⟩) (by assumption) ?_
        try simp only [Act.put, List.setIfInBounds_toArray, List.set_cons_zero, List.set_cons_succ]
        refine wpAnyH_take (i := 51) (v := ?_) (by simp only [List.getElem?_toArray, List.getElem?_cons_succ, List.getElem?_cons_zero]; rfl) (by kernel_rfl) (by kernel_rfl) (by kernel_rfl) (fun _ _ _ h => (h : False).elim) (Or.inl ⟨by rfl, ?_⟩) (by assumption) ?_
        rotate_left 1
        · intro w hSw; (try dsimp only at hSw); go_simp; try with_reducible rfl
        try simp only [Act.put, List.setIfInBounds_toArray, List.set_cons_zero, List.set_cons_succ]
        refine wpAnyH_take (i := 52) (v := ?_) (by simp only [List.getElem?_toArray, List.getElem?_cons_succ, List.getElem?_cons_zero]; rfl) (by kernel_rfl) (by kernel_rfl) (by kernel_rfl) (fun _ _ _ h => (h : False).elim) (Or.inl ⟨by rfl, ?_⟩) (by assumption) ?_
        rotate_left 1
        · intro w hSw; (try dsimp only at hSw); go_simp; try with_reducible rfl
        try simp only [Act.put, List.setIfInBounds_toArray, List.set_cons_zero, List.set_cons_succ]
        refine wpAnyH_take (i := 53) (v := ?_) (by simp only [List.getElem?_toArray, List.getElem?_cons_succ, List.getElem?_cons_zero]; rfl) (by kernel_rfl) (by kernel_rfl) (by kernel_rfl) (fun _ _ _ h => (h : False).elim) (Or.inl ⟨by rfl, ?_⟩) (by assumption) ?_
        rotate_left 1
        · intro w hSw; (try dsimp only at hSw); go_simp; try with_reducible rfl
        try simp only [Act.put, List.setIfInBounds_toArray, List.set_cons_zero, List.set_cons_succ]
        refine wpAnyH_done (by kernel_rfl) ?_ _
        refine NoPanic.normal ?_
        go_wp2_with fail
        go_ret
        exact ⟨rfl, hB8.trans (BWA.mono hB8.size)⟩
      · have hdl : d.data.toList ≠ [] := fun h => hd0 (ext_toList h)
        have hpe : d.toList.isEmpty = false := str_ne_nil hdl
        rw [HR1.out.2 hdl, len_data]
        clear hd0 hdl
        have hP0 : 0 ≤ a * (k.size : Int) := Int.mul_nonneg (by omega) (by omega)
        have hP1 : a * (k.size : Int) ≤ 1000 * 255 := Int.mul_le_mul hag (by omega) (by omega) (by omega)
        have hwr : IntKind.i64.wrap (a * (k.size : Int)) = a * (k.size : Int) := IntWalk.i64_in _ ⟨by omega, by omega⟩
        go_wp2_with fail
        refine (impl_ClipSignal As ns cs _ 1 w7 (own_rdI C7.out) (by unfold maxLen; omega)).mono ?_
        rw [HCL.out]
        rintro e w8 ⟨At, nt, ct, rfl, ho, hb8⟩
        have hnt : nt ≤ 3000 := own_num ho hlen2
        have C8 := Lib.hid (own_below C7.out hb8)
        have CT := Lib.hid ho
        have hc8 := hc7.trans (hb8.mono hc7.size)
        have hB8 := hB7.trans (hb8.mono hB7.size)
        have HQ1 := Lib.hid (congrArg Prod.fst HR1.out.1)
        have HQ2 := Lib.hid (congrArg Prod.fst HR2.out.1)
        clear ho hb8 hlen2 C7 HR1 HR2 HCL HSN HU
        obtain ⟨Z1, hZ1⟩ : ∃ Z, sigU (k, d, a, (l : Int)) = Z := ⟨_, rfl⟩
        obtain ⟨Z2, hZ2⟩ : ∃ Z, sigU (k, d, 1, (l : Int)) = Z := ⟨_, rfl⟩
        rw [hZ1] at C8 HQ1
        rw [hZ2] at CT HQ2
        have HSS := Lib.hid (show ∀ (A' : Option Addr) (n' c' : Nat) (W : World), ((A' = As ∧ n' = ns ∧ c' = cs) ∨ (A' = At ∧ n' = nt ∧ c' = ct)) → Below w8.heap.size w8 W → Calls Try.prog 38 #[.slice A' n' c', .string k, .int .i64 (l : Int), .int .i64 (d.size : Int)] W (fun e w' => e = .returned (.string d) ∧ Below w8.heap.size w8 w') from by
          intro A' n' c' W h hW
          rcases h with ⟨rfl, rfl, rfl⟩ | ⟨rfl, rfl, rfl⟩
          · exact (laws_ssUser _ _ _ Z1 k (l : Int) (d.size : Int) W (Rd.below (own_rdI C8.out) hW) (by unfold maxLen; omega) (by omega)).mono (by rintro e w' ⟨t, rfl, ht, hb⟩; exact ⟨by rw [ext_toList (ht.trans HQ1.out)], hW.trans (hb.mono hW.size)⟩)
          · exact (laws_ssUser _ _ _ Z2 k (l : Int) (d.size : Int) W (Rd.below (own_rdI CT.out) hW) (by unfold maxLen; omega) (by omega)).mono (by rintro e w' ⟨t, rfl, ht, hb⟩; exact ⟨by rw [ext_toList (ht.trans HQ2.out)], hW.trans (hb.mono hW.size)⟩))
        clear hZ1 hZ2 C8 CT HQ1 HQ2
        have HA := Lib.hid (HCW.out w8 hc8)
        have HA' := Lib.hid (HCW.out w8.drew hc8.drew)
        clear e0 e1 e2 e3
        obtain ⟨e0, e1, e2, e3⟩ := HCW.out w8 hc8
        go_wp2_with fail
        go_region_held3 (fun w' => w'.cell? ⟨w1.heap.size, 0, none⟩ = some (.string k) ∧ w'.cell? ⟨w1.heap.size, 1, none⟩ = some (.string d) ∧ w'.cell? ⟨w1.heap.size, 2, none⟩ = some (.int .i64 a) ∧ w'.cell? ⟨w1.heap.size, 3, none⟩ = some (.int .i64 (l : Int))) (first | exact HA.out | exact HA'.out | exact FWA.out) ((go_at_call 38; refine (HSS.out _ _ _ _ (by first | exact .inl ⟨rfl, rfl, rfl⟩ | exact .inr ⟨rfl, rfl, rfl⟩) (by first | exact BWA | exact (Below.refl _ _).drew)).mono ?_; rintro e wa ⟨rfl, BWA⟩; have FWA := Lib.hid (HCW.out wa (hc8.trans (BWA.mono hc8.size)))))
        go_wp2_with fail
        go_ret
        exact ⟨rfl, hB8.trans (BWA.mono hB8.size)⟩

end Go.Proofs.Ytlddefmakjnfdaa
