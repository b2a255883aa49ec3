/- Draws of sequences and codes. Conditions: as each theorem says. -/
import Derived.Test.YtkebiigpfbconaaR3
import Derived.Test.YtkebiigpfbconaaPureM
import Derived.Deep.RegionHeld3
namespace Go.Proofs.Ytkebiigpfbconaa
open Go.RowKit
set_option linter.unusedSimpArgs false
set_option linter.unusedVariables false
set_option maxRecDepth 100000

/-- A sequence was drawn. -/
def DrawnQ (g : Nat) (K : Int) (w : World) (e : Ending) (w' : World) : Prop :=
  ∃ t : ByteArray, e = .returned (.string t) ∧ 1 ≤ t.size ∧ t.size ≤ 64 ∧ t.data.toList.all isBit = true ∧ Bel g w.heap.size w w' ∧ Rdr w' g K
theorem drawnQ_run {g n t x k : Nat} {K : Int} {w w1 w2 : World} {e : Ending} (h1 : 1 ≤ k) (h2 : k ≤ 64) (h : RetStr (runL n t x k) w1 e w2) (hb : Bel g w.heap.size w w1) (hr : Rdr w1 g K) : DrawnQ g K w e w2 := by
  obtain ⟨u, he, hu, hb2⟩ := h
  refine ⟨u, he, ?_, ?_, by rw [hu]; exact runL_bits _ _ _ _, hb.trans' (Bel.of_below hb2) hb.size, hr.below hb2⟩
  · rw [str_size hu, runL_len]; exact h1
  · rw [str_size hu, runL_len]; exact h2
theorem flat_bits (n : Nat) (l : List UInt8) (h : l.all isBit = true) : (List.replicate n l).flatten.all isBit = true := by
  rw [List.all_eq_true]
  intro c hc
  obtain ⟨m, hm, hcm⟩ := List.mem_flatten.1 hc
  obtain rfl := List.eq_of_mem_replicate hm
  exact List.all_eq_true.1 h c hcm
set_option maxHeartbeats 4000000 in
theorem spec_l2Some (g : Nat) (K : Int) (w : World) (h : Rdr w g K) (hK : K ≤ 500000000) :
    Calls Try.prog 51 #[.pointer (some ⟨g, 0, none⟩)] w (DrawnQ g (K + 1200) w) := by
  have hgl := h.lt
  go_enter Try.func51, Try.ntmps51
  go_wp2_with fail
  refine (rd_pick _ _ _ _ h (by omega) (by omega) (by omega)).mono ?_
  rintro e w1 ⟨q, rfl, hq0, hq1, hq2, hb1, hr1⟩
  clear hq1 hq2
  have hs1 := hb1.size
  by_cases c0 : q = 0
  · have d0 : (q == 0) = true := by simp [c0]
    clear c0
    go_wp2_with fail
    refine (spec_l1Some g _ w1 hr1 (by omega)).mono ?_
    rintro e w2 ⟨n, t, x, rfl, h2, h8, ht, hx, hb2, hr2⟩
    have hB2 := hb1.trans' hb2 hs1
    have hs2 := hB2.size
    have HTX := Lib.hid (show t < 2 ^ n ∧ x < 2 ^ n from ⟨ht, hx⟩)
    clear hb1 hb2 hr1 ht hx
    unfold regV
    go_wp2_with fail
    have ho := own_lit w2 74 3 [.int .i64 n, .int .i64 t, .int .i64 x] rfl (by unfold maxLen; omega)
    have hr3 : Rdr (w2.alloc (.cells #[.int .i64 n, .int .i64 t, .int .i64 x] 74)) g (K + 1 + 4) := hr2.alloc _
    have hB3 : Bel g w.heap.size w (w2.alloc (.cells #[.int .i64 n, .int .i64 t, .int .i64 x] 74)) := hB2.alloc hs2 _
    have hg2 : g < w2.heap.size := by omega
    generalize (w2.alloc (.cells #[.int .i64 n, .int .i64 t, .int .i64 x] 74)) = w3 at *
    have hs3 := hB3.size
    have c0 : w3.cell? ⟨w2.heap.size, 0, none⟩ = some (.int .i64 n) := ho.cellAt 0 (by omega)
    have c1 : w3.cell? ⟨w2.heap.size, 1, none⟩ = some (.int .i64 t) := ho.cellAt 1 (by omega)
    have c2 : w3.cell? ⟨w2.heap.size, 2, none⟩ = some (.int .i64 x) := ho.cellAt 2 (by omega)
    have hr3' : Rdr w3.drew g (K + 1 + 4) := hr3
    have HO := Lib.hid (show w3.drew.ownsRow w2.heap.size 74 1 (.slice (some ⟨w2.heap.size, 0, none⟩) 3 3) 3 [.int .i64 n, .int .i64 t, .int .i64 x] from ho)
    clear ho hr3 hr2 hB2
    have c0' : w3.drew.cell? ⟨w2.heap.size, 0, none⟩ = some (.int .i64 n) := c0
    have c1' : w3.drew.cell? ⟨w2.heap.size, 1, none⟩ = some (.int .i64 t) := c1
    have c2' : w3.drew.cell? ⟨w2.heap.size, 2, none⟩ = some (.int .i64 x) := c2
    go_region_held3 (fun w' => w'.cell? ⟨w2.heap.size, 0, none⟩ = some (.int .i64 n) ∧ w'.cell? ⟨w2.heap.size, 1, none⟩ = some (.int .i64 t) ∧ w'.cell? ⟨w2.heap.size, 2, none⟩ = some (.int .i64 x)) (first | exact ⟨c0, c1, c2⟩ | exact ⟨c0', c1', c2'⟩ | exact ⟨e0, e1, e2⟩ | exact ⟨i0, i1, i2⟩) (first
      | (go_at_call 43; refine (rd_pick _ _ _ _ hr3' (by omega) (by omega) (by omega)).mono ?_; rintro e w4 ⟨k, rfl, hk0, hk1, hk2, hb4, hr4⟩; obtain ⟨k, rfl⟩ := Int.eq_ofNat_of_zero_le hk0; have hk3 := hk1 (by omega); clear hk1 hk2; have ho4 := own_bel HO.out hb4 hg2; have e0 : w4.cell? ⟨w2.heap.size, 0, none⟩ = some (.int .i64 n) := ho4.cellAt 0 (by omega); have e1 : w4.cell? ⟨w2.heap.size, 1, none⟩ = some (.int .i64 t) := ho4.cellAt 1 (by omega); have e2 : w4.cell? ⟨w2.heap.size, 2, none⟩ = some (.int .i64 x) := ho4.cellAt 2 (by omega); have HO4 := Lib.hid ho4; clear ho4)
      | (go_at_call 80; rw [show IntKind.i64.wrap (1 + (k : Int)) = ((1 + k : Nat) : Int) from (IntWalk.i64_in _ ⟨by omega, by omega⟩).trans (by omega)]; refine (spec_l1Run n t x (1 + k) _ h2 h8 HTX.out.1 HTX.out.2 (by omega)).mono ?_; rintro e w5 ⟨u, rfl, hu, hb5⟩; have ho5 := own_below HO4.out hb5; have i0 : w5.cell? ⟨w2.heap.size, 0, none⟩ = some (.int .i64 n) := ho5.cellAt 0 (by omega); have i1 : w5.cell? ⟨w2.heap.size, 1, none⟩ = some (.int .i64 t) := ho5.cellAt 1 (by omega); have i2 : w5.cell? ⟨w2.heap.size, 2, none⟩ = some (.int .i64 x) := ho5.cellAt 2 (by omega); have HU := Lib.hid hu; clear ho5 hu))
    have hb34 : Bel g w3.heap.size w3 w4 := ⟨hb4.os, hb4.tape, hb4.output, hb4.size, hb4.block⟩
    have hB4 := hB3.trans' hb34 hs3
    go_wp2_with fail
    go_ret
    exact drawnQ_run (by omega) (by omega) ⟨u, rfl, HU.out, hb5⟩ hB4 (hr4.more (by omega))
  · have d0 : (q == 0) = false := by simp [c0]
    clear c0
    by_cases c1 : q = 1
    · have d1 : (q == 1) = true := by simp [c1]
      clear c1
      go_wp2_with fail
      refine (rd_num_lit g [3, 4, 5, 2] _ 4 _ w1 hr1 (by omega) rfl rfl (by decide) (by decide)).mono ?_
      rintro e w2 ⟨z, rfl, hz, hb2, hr2⟩
      obtain ⟨n, rfl, h2, h5⟩ : ∃ n : Nat, z = n ∧ 2 ≤ n ∧ n ≤ 5 := by
        simp only [List.mem_cons, List.not_mem_nil, or_false] at hz
        exact ⟨z.toNat, by omega, by omega, by omega⟩
      clear hz
      have hB2 := hb1.trans' hb2 hs1
      have hs2 := hB2.size
      clear hb1 hb2 hr1
      go_wp2_with fail
      refine (spec_MaximalTaps n w2 h2 (by omega)).mono ?_
      rintro e w3 ⟨A, m, c, rfl, ho, hb3⟩
      have hml := (own_rdI ho).len
      have hsome := mtapsL_some n h2 (by omega)
      have hmax := mtapsL_len n (2 ^ n - 1)
      have hr3 := hr2.below hb3
      have hB3 := hB2.trans' (Bel.of_below hb3) hs2
      have hs3 := hB3.size
      have hg2 : g < w2.heap.size := by omega
      have h32 : 2 ^ n ≤ 32 := by have h7 : 2 ^ n ≤ 2 ^ 5 := Nat.pow_le_pow_right (by omega) h5; exact h7
      have h4 : 4 ≤ 2 ^ n := by have h7 : 2 ^ 2 ≤ 2 ^ n := Nat.pow_le_pow_right (by omega) h2; exact h7
      have htw := two_int n
      obtain ⟨N, hN⟩ : ∃ N, 2 ^ n = N := ⟨_, rfl⟩
      have HN := Lib.hid hN
      rw [hN] at hml hsome hmax h32 h4 htw ho
      clear hN hb3 hB2 hr2
      have hr3' : Rdr w3.drew g (K + 1 + 1) := hr3
      obtain ⟨b, rfl, hb0, hb1'⟩ := own_some ho (show 0 < m by omega)
      have HO := Lib.hid (show w3.drew.ownsRow w2.heap.size 3 1 (.slice (some ⟨b, 0, none⟩) m c) m ((mtapsL n (N - 1)).map (Value.int .i64)) from ho)
      clear ho hr3
      go_wp2_with fail
      go_region_with (first
        | (go_at_call 43; refine (rd_pick _ _ _ _ hr3' (by omega) (by omega) (by omega)).mono ?_; rintro e w4 ⟨k, rfl, hk0, hk1, hk2, hb4, hr4⟩; obtain ⟨k, rfl⟩ := Int.eq_ofNat_of_zero_le hk0; have hk3 := hk1 (by omega); clear hk1 hk2; have ho4 := own_bel HO.out hb4 hg2; obtain ⟨b', o', y, hbo, hbb, hy, hcy⟩ := (own_rdI ho4).at (show k < m by omega); injection hbo with hbo; injection hbo with hbo1 hbo2; subst hbo1; subst hbo2; obtain ⟨j, rfl, hj1, hj2, hj3⟩ := mtapsL_mem _ _ _ (List.mem_of_getElem? hy.out); rw [Nat.zero_add] at hcy; clear hy hj3 ho4)
        | (go_at_call 68; refine (spec_l1Two (n : Int) _ (by omega) (by omega)).mono ?_; rintro e w' ⟨rfl, rfl⟩; rw [htw])
        | (go_at_call 80; rw [show IntKind.i64.wrap ((N : Int) - 1) = ((N - 1 : Nat) : Int) from (IntWalk.i64_in _ ⟨by omega, by omega⟩).trans (by omega)]; refine (spec_l1Run n j 1 (N - 1) _ h2 (by omega) (by rw [HN.out]; omega) (by rw [HN.out]; omega) (by omega)).mono ?_; rintro e w5 ⟨u, rfl, hu, hb5⟩; have HU := Lib.hid hu; clear hu))
      all_goals
        have hb34 : Bel g w3.heap.size w3 w4 := ⟨hb4.os, hb4.tape, hb4.output, hb4.size, hb4.block⟩
        have hB4 := hB3.trans' hb34 hs3
        go_wp2_with fail
        go_ret
        exact drawnQ_run (by omega) (by omega) ⟨u, rfl, HU.out, hb5⟩ hB4 (hr4.more (by omega))
    · have d1 : (q == 1) = false := by simp [c1]
      clear c1
      by_cases c2 : q = 2
      · have d2 : (q == 2) = true := by simp [c2]
        clear c2
        go_wp2_with fail
        refine (spec_l1String g 5 _ w1 hr1 (by omega) (by omega)).mono ?_
        rintro e w2 ⟨t, rfl, ht, hbits, hb2, hr2⟩
        have hB2 := hb1.trans' hb2 hs1
        have hs2 := hB2.size
        have HBT := Lib.hid hbits
        clear hb1 hb2 hr1 hbits
        go_wp2_with fail
        refine (rd_pick _ _ _ _ hr2 (by omega) (by omega) (by omega)).mono ?_
        rintro e w3 ⟨k, rfl, hk0, hk1, hk2, hb3, hr3⟩
        obtain ⟨k, rfl⟩ := Int.eq_ofNat_of_zero_le hk0
        have hk3 := hk1 (by omega)
        clear hk1 hk2
        have hB3 := hB2.trans' hb3 hs2
        clear hB2 hb3 hr2
        go_wp2_with fail
        rw [show (1 : Int) + (k : Int) = ((1 + k : Nat) : Int) by omega]
        have hpl : (t.data.toList ++ [49]).length = t.size + 1 := by rw [List.length_append, len_data]; rfl
        refine (spec_l9Many _ (t.data.toList ++ [49]) (1 + k) _ (str_app rfl rfl) (by omega) (by omega)).mono ?_
        rintro e w' ⟨u, rfl, hu, rfl⟩
        have hus : u.size = (1 + k) * (t.size + 1) := by rw [str_size hu, flat_len, hpl]
        have hub : (1 + k) * (t.size + 1) ≤ 4 * 6 := Nat.mul_le_mul (by omega) (by omega)
        have hua : 1 ≤ (1 + k) * (t.size + 1) := Nat.mul_pos (by omega) (by omega)
        have HUB := Lib.hid (show u.data.toList.all isBit = true by rw [hu]; exact flat_bits _ _ (by rw [List.all_append, HBT.out]; rfl))
        have hu1 : 1 ≤ u.size := by omega
        have hu2 : u.size ≤ 64 := by omega
        clear hu hus hub hua hpl
        go_wp2_with fail
        go_ret
        exact ⟨u, rfl, hu1, hu2, HUB.out, hB3, hr3.more (by omega)⟩
      · have d2 : (q == 2) = false := by simp [c2]
        clear c2
        go_wp2_with fail
        refine (spec_l1String g 24 _ w1 hr1 (by omega) (by omega)).mono ?_
        rintro e w2 ⟨t, rfl, ht, hbits, hb2, hr2⟩
        have hB2 := hb1.trans' hb2 hs1
        have HBT := Lib.hid hbits
        clear hb1 hb2 hr1 hbits
        go_wp2_with fail
        go_ret
        exact ⟨_, rfl, by rw [ByteArray.size_append]; show 1 ≤ t.size + 1; omega, by rw [ByteArray.size_append]; show t.size + 1 ≤ 64; omega, by rw [str_app rfl rfl, List.all_append, HBT.out]; rfl, hB2, hr2.more (by omega)⟩

end Go.Proofs.Ytkebiigpfbconaa
