/- What the program's maximal registers and sequences give back. Conditions: as each theorem says. -/
import Derived.Test.YtkebiigpfbconaaR6
import Derived.Test.YtkebiigpfbconaaR3
namespace Go.Proofs.Ytkebiigpfbconaa
open Go.RowKit
set_option linter.unusedSimpArgs false
set_option linter.unusedVariables false
set_option maxRecDepth 100000

def maxI (s t : Int) : Bool := tapsB s t && maxB s.toNat t.toNat
def mseqC (s t : Int) : List UInt8 × Bool := if maxI s t = true then (runL s.toNat t.toNat 1 (2 ^ s.toNat - 1), true) else ([], false)
theorem taps_nat (s t : Int) (h : tapsB s t = true) : ∃ n m : Nat, s = n ∧ t = m ∧ 2 ≤ n ∧ n ≤ 8 ∧ 1 ≤ m ∧ m < 2 ^ n := by
  unfold tapsB at h
  rw [Bool.and_eq_true, within_iff, within_iff] at h
  obtain ⟨n, rfl⟩ := Int.eq_ofNat_of_zero_le (show 0 ≤ s by omega)
  obtain ⟨m, rfl⟩ := Int.eq_ofNat_of_zero_le (show 0 ≤ t by omega)
  rw [two_int] at h
  exact ⟨n, m, rfl, rfl, by omega, by omega, by omega, by omega⟩
set_option maxHeartbeats 1000000 in
theorem impl_PeriodOf (n t x : Nat) (w : World) (h2 : 2 ≤ n) (h8 : n ≤ 8) (h1 : 1 ≤ t) (ht : t < 2 ^ n) (hx : x < 2 ^ n) :
    Calls Try.prog 75 #[regV n t x] w fun e w' => e = .returned (.int .i64 (periodI n t x)) ∧ Below w.heap.size w w' := by
  have HTX := Lib.hid (show 1 ≤ t ∧ t < 2 ^ n ∧ x < 2 ^ n from ⟨h1, ht, hx⟩)
  clear h1 ht hx
  unfold regV
  go_enter Try.func75, Try.ntmps75
  go_wp2_with fail
  have hb0 : Below w.heap.size w (w.alloc (.cells #[.int .i64 n, .int .i64 t, .int .i64 x] 74)) := (Below.refl _ _).alloc (Nat.le_refl _) _
  have o1 := own_lit w 74 3 [.int .i64 n, .int .i64 t, .int .i64 x] rfl (by unfold maxLen; omega)
  generalize (w.alloc (.cells #[.int .i64 n, .int .i64 t, .int .i64 x] 74)) = wa at *
  refine (impl_RegisterValid n t x wa h2 h8 HTX.out.1 HTX.out.2.1 HTX.out.2.2).mono ?_
  rintro e w1 ⟨rfl, hb1⟩
  have p1 := own_below o1 hb1
  have hB1 := hb0.trans (hb1.mono hb0.size)
  have c0 : w1.cell? ⟨w.heap.size, 0, none⟩ = some (.int .i64 n) := p1.cellAt 0 (by omega)
  have c1 : w1.cell? ⟨w.heap.size, 1, none⟩ = some (.int .i64 t) := p1.cellAt 1 (by omega)
  have c2 : w1.cell? ⟨w.heap.size, 2, none⟩ = some (.int .i64 x) := p1.cellAt 2 (by omega)
  clear o1 p1 hb0 hb1
  have hs1 := hB1.size
  go_wp2_with fail
  refine (impl_orbitOf n t x w1 h2 h8 HTX.out.2.1 HTX.out.2.2).mono ?_
  rintro e w2 ⟨L, rfl, hb2⟩
  go_wp2_with fail
  go_ret
  exact ⟨rfl, hB1.trans (hb2.mono hs1)⟩
set_option maxHeartbeats 1000000 in
theorem impl_IsMaximal (s t : Int) (w : World) :
    Calls Try.prog 35 #[.int .i64 s, .int .i64 t] w fun e w' => e = .returned (.bool (maxI s t)) ∧ Below w.heap.size w w' := by
  cases hv : tapsB s t
  · have hm : maxI s t = false := by unfold maxI; rw [hv]; rfl
    rw [hm]
    have HV := Lib.hid hv
    clear hm hv
    go_enter Try.func35, Try.ntmps35
    go_wp2
    go_quiet ((go_at_call 74; refine (impl_tapsValid _ _ _).mono ?_; rintro e w' ⟨rfl, rfl⟩; rw [HV.out]; exact ⟨rfl, _, rfl⟩))
    go_wp2
    go_ret
    exact ⟨rfl, below_drewN (Below.refl _ _) _⟩
  · obtain ⟨n, m, rfl, rfl, h2, h8, h1, hm⟩ := taps_nat s t hv
    have h256 := pow_256 n h8
    have h1N : 1 < 2 ^ n := Nat.one_lt_two_pow (by omega)
    have HT := Lib.hid (show 1 ≤ m ∧ m < 2 ^ n ∧ 1 < 2 ^ n from ⟨h1, hm, h1N⟩)
    have HM := Lib.hid (show maxI n m = (periodI n m 1 == ((2 ^ n - 1 : Nat) : Int)) by unfold maxI; rw [hv]; rfl)
    have HV := Lib.hid hv
    obtain ⟨N, hN⟩ : ∃ N, 2 ^ n = N := ⟨_, rfl⟩
    rw [hN] at h256 h1N HM
    have w1 : wrap64 (2 ^ n) = (N : Int) := (IntWalk.wrap64_in ((2 : Int) ^ n) (by rw [show (2 : Int) ^ n = (N : Int) by rw [← hN]; simp]; exact ⟨by omega, by omega⟩)).trans (by rw [← hN]; simp)
    have w2 : wrap64 (2 ^ (n : Int).toNat) = (N : Int) := w1
    have w3 : IntKind.i64.wrap ((N : Int) - 1) = ((N - 1 : Nat) : Int) := (IntWalk.i64_in _ ⟨by omega, by omega⟩).trans (by omega)
    have W4 := Lib.hid (show IntKind.i64.wrap ((2 : Int) ^ n) = (N : Int) from (IntWalk.i64_in ((2 : Int) ^ n) (by rw [show (2 : Int) ^ n = (N : Int) by rw [← hN]; simp]; exact ⟨by omega, by omega⟩)).trans (by rw [← hN]; simp))
    clear hv h1 hm hN
    go_enter Try.func35, Try.ntmps35
    go_wp2_with fail
    go_region_with (first
      | (go_at_call 74; refine (impl_tapsValid _ _ _).mono ?_; rintro e w' ⟨rfl, rfl⟩; rw [HV.out])
      | (go_at_call 75; refine (impl_PeriodOf n m 1 _ h2 h8 HT.out.1 HT.out.2.1 HT.out.2.2).mono ?_; rintro e w2 ⟨rfl, hb1⟩))
    all_goals
      go_wp2
      go_ret
      exact ⟨ret_bool (by rw [HM.out, W4.out, w3]), ⟨hb1.os, hb1.tape, hb1.output, hb1.size, hb1.block⟩⟩
set_option maxHeartbeats 4000000 in
theorem impl_RunRegister (n t x k : Nat) (w : World) (h2 : 2 ≤ n) (h8 : n ≤ 8) (h1 : 1 ≤ t) (ht : t < 2 ^ n) (hx : x < 2 ^ n) (hk : k ≤ 600) :
    Calls Try.prog 71 #[regV n t x, .int .i64 k] w (RetStrB (runL n t x k) true w) := by
  have h256 := pow_256 n h8
  have HTX := Lib.hid (show 1 ≤ t ∧ t < 2 ^ n ∧ x < 2 ^ n from ⟨h1, ht, hx⟩)
  have HL := Lib.hid (show (bytes (runL n t x k)).length = k by rw [bytes_len, runL_len])
  have H256 := Lib.hid h256
  clear h1 ht hx h256
  have hmk := run_make_row' (P := Try.prog) 22 5 (.int .u8 0) 1 Try.underlying22 Try.infoU8 rfl .i64 .i64 k (by omega) (by omega)
  have d1 : decide ((k : Int) < 0) = false := by simp
  have d2 : decide ((600 : Int) < (k : Int)) = false := by simp; omega
  have d3 : decide (600 < k) = false := by simp; omega
  unfold regV
  go_enter Try.func71, Try.ntmps71
  go_wp2_with fail
  have hb0 : Below w.heap.size w (w.alloc (.cells #[.int .i64 n, .int .i64 t, .int .i64 x] 74)) := (Below.refl _ _).alloc (Nat.le_refl _) _
  have o1 := own_lit w 74 3 [.int .i64 n, .int .i64 t, .int .i64 x] rfl (by unfold maxLen; omega)
  generalize (w.alloc (.cells #[.int .i64 n, .int .i64 t, .int .i64 x] 74)) = wa at *
  have hsa : w.heap.size < wa.heap.size := by
    rcases o1.2 with ⟨hv, h0⟩ | ⟨g, cap, cur, hv, hbg, hg, _⟩
    · cases hv
    · injection hv with e1; injection e1 with e1; injection e1 with e1; subst e1; exact (Array.getElem?_eq_some_iff.1 hg).1
  refine (impl_RegisterValid n t x wa h2 h8 HTX.out.1 HTX.out.2.1 HTX.out.2.2).mono ?_
  rintro e wb ⟨rfl, hb1⟩
  have p1 := own_below o1 hb1
  have hB1 := hb0.trans (hb1.mono hb0.size)
  have hsb : w.heap.size < wb.heap.size := Nat.lt_of_lt_of_le hsa hb1.size
  clear o1 hb0 hb1 hsa
  go_wp2_with fail
  clear hmk d1 d2 d3
  have HO1 := Lib.hid (p1.alloc (.cells (madeCells #[.int .u8 0] k) 5))
  have HO2 := Lib.hid (own_made wb (.int .u8 0) k 5 (by unfold maxLen; omega))
  have HB0 := Lib.hid (hB1.alloc (Nat.le_of_lt hsb) (.cells (madeCells #[.int .u8 0] k) 5))
  obtain ⟨G, hG⟩ : ∃ G, wb.heap.size = G := ⟨_, rfl⟩
  rw [hG] at HO2 hsb ⊢
  clear p1 hB1
  go_loopw [23] (fun v wr => ∃ i : Nat, i ≤ k ∧ v = .int .i64 i ∧ wr.ownsRow w.heap.size 74 1 (.slice (some ⟨w.heap.size, 0, none⟩) 3 3) 3 [.int .i64 n, .int .i64 t, .int .i64 (st n t x i : Nat)] ∧
      wr.ownsRow G 5 1 (.slice (some ⟨G, 0, none⟩) k k) k (Fill (bytes (runL n t x k)) (.int .u8 0) i) ∧ Below w.heap.size w wr) (fun v _ => k - (intOf v).toNat)
  case atStart => exact ⟨0, Nat.zero_le _, rfl, HO1.out, by rw [fill_zero, HL.out]; exact HO2.out, HB0.out⟩
  case round =>
    obtain ⟨i, hi, rfl, ho1, ho2, hb⟩ := hrel
    by_cases hlt : i < k
    · have hs := st_lt n t x i (by omega) HTX.out.2.2
      have HS := Lib.hid hs
      have hs256 : st n t x i < 256 := by have := H256.out; omega
      have HNX := Lib.hid (show st n t x (i + 1) = stepN n t (st n t x i) from rfl)
      have hra := runL_at n t x k i hlt
      obtain ⟨y, hy⟩ : ∃ y, st n t x i = y := ⟨_, rfl⟩
      rw [hy] at ho1 hs256 HNX HS hra
      clear hy hs
      have hand := and1_i64 y (by omega)
      have HRA := Lib.hid hra
      have HY2 := Lib.hid (show y % 2 ≤ 1 by omega)
      have c0 : wr.cell? ⟨w.heap.size, 0, none⟩ = some (.int .i64 n) := ho1.cellAt 0 (by omega)
      have c1 : wr.cell? ⟨w.heap.size, 1, none⟩ = some (.int .i64 t) := ho1.cellAt 1 (by omega)
      have c2 : wr.cell? ⟨w.heap.size, 2, none⟩ = some (.int .i64 y) := ho1.cellAt 2 (by omega)
      have hc := ho2.cellAt i (by omega)
      rw [fill_at _ _ _ (by rw [HL.out]; exact hlt)] at hc
      have hf := ho2.frozenAt i
      have HO1' := Lib.hid ho1
      have HO2' := Lib.hid ho2
      clear ho1 ho2 hra HO1 HO2 HB0
      obtain ⟨wo, rfl⟩ : ∃ wo, wo = wr := ⟨_, rfl⟩
      go_wp2_with fail
      refine (impl_bit_still (y % 2) HY2.out _).mono ?_
      rintro e w' ⟨rfl, rfl⟩
      go_wp2_with fail
      have hst2 := HO2'.out.stored i (.int .u8 ((bitC (y % 2)).toNat : Int))
      rw [fill_set _ _ _ _ (bytes_at _ _ _ HRA.out)] at hst2
      have ho1' := World.ownsRow.kept HO1'.out hst2.2 (.inr (by show some w.heap.size ≠ some G; intro h; injection h with h; omega))
      have hb1 : Below w.heap.size w (World.setCell _ ⟨G, i, none⟩ (.int .u8 ((bitC (y % 2)).toNat : Int))) := hb.setCell (Nat.le_of_lt hsb) _
      have HO1'' := Lib.hid ho1'
      have HO2'' := Lib.hid hst2.1
      clear ho1' hst2
      generalize World.setCell _ ⟨G, i, none⟩ (.int .u8 ((bitC (y % 2)).toNat : Int)) = wp at *
      refine (impl_nextState n t y wp h2 h8 HTX.out.2.1 HS.out).mono ?_
      rintro e w2 ⟨rfl, hb2⟩
      have o1 := own_below HO1''.out hb2
      have o2 := own_below HO2''.out hb2
      have hB2 := hb1.trans (hb2.mono hb1.size)
      clear c0 c1 c2 hc hf
      have c0 : w2.cell? ⟨w.heap.size, 0, none⟩ = some (.int .i64 n) := o1.cellAt 0 (by omega)
      have c1 : w2.cell? ⟨w.heap.size, 1, none⟩ = some (.int .i64 t) := o1.cellAt 1 (by omega)
      have c2 : w2.cell? ⟨w.heap.size, 2, none⟩ = some (.int .i64 y) := o1.cellAt 2 (by omega)
      have f2 := o1.frozenAt 2
      have O1 := Lib.hid o1
      have O2 := Lib.hid o2
      clear o1 o2 hb2
      go_wp2
      go_roundw
      case rel =>
        have h3 := O1.out.stored 2 (.int .i64 (stepN n t y : Nat))
        exact ⟨i + 1, by omega, by go_num, by rw [HNX.out]; exact h3.1, World.ownsRow.kept O2.out h3.2 (.inr (by show some G ≠ some w.heap.size; intro h; injection h with h; omega)), hB2.setCell (Nat.le_refl _) _⟩
      case measure => simp [intOf] <;> omega
    · obtain rfl : k = i := by omega
      rw [fill_full _ _ _ (by rw [HL.out]; omega)] at ho2
      have hcv := own_string (P := Try.prog) (src := 22) (dst := 9) _ Try.underlying22 Try.underlying5 Try.underlying9 ho2
      clear HO1 HO2 HB0
      go_wp2
      go_ret2
      exact ⟨_, rfl, rfl, hb⟩
set_option maxHeartbeats 1000000 in
theorem impl_MaximalSequence (s t : Int) (w : World) :
    Calls Try.prog 33 #[.int .i64 s, .int .i64 t] w (RetStrB (mseqC s t).1 (mseqC s t).2 w) := by
  cases hv : maxI s t
  · have hm : mseqC s t = ([], false) := by unfold mseqC; rw [hv, if_neg (by decide)]
    rw [hm]
    clear hm
    have HV := Lib.hid hv
    clear hv
    go_enter Try.func33, Try.ntmps33
    go_wp2_with fail
    refine (impl_IsMaximal s t w).mono ?_
    rintro e w1 ⟨rfl, hb1⟩
    rw [HV.out]
    go_wp2_with fail
    go_ret2
    exact ⟨_, rfl, rfl, hb1⟩
  · have hm : mseqC s t = (runL s.toNat t.toNat 1 (2 ^ s.toNat - 1), true) := by unfold mseqC; rw [hv, if_pos rfl]
    rw [hm]
    have hv2 := hv
    unfold maxI at hv2
    rw [Bool.and_eq_true] at hv2
    obtain ⟨n, m, rfl, rfl, h2, h8, h1, hmn⟩ := taps_nat s t hv2.1
    have h256 := pow_256 n h8
    have h1N : 1 < 2 ^ n := Nat.one_lt_two_pow (by omega)
    have HT := Lib.hid (show 1 ≤ m ∧ m < 2 ^ n ∧ 1 < 2 ^ n from ⟨h1, hmn, h1N⟩)
    have HV := Lib.hid hv
    rw [Int.toNat_natCast, Int.toNat_natCast]
    obtain ⟨N, hN⟩ : ∃ N, 2 ^ n = N := ⟨_, rfl⟩
    rw [hN] at h256 h1N ⊢
    have w1 : wrap64 (2 ^ n) = (N : Int) := (IntWalk.wrap64_in ((2 : Int) ^ n) (by rw [show (2 : Int) ^ n = (N : Int) by rw [← hN]; simp]; exact ⟨by omega, by omega⟩)).trans (by rw [← hN]; simp)
    have w2 : wrap64 (2 ^ (n : Int).toNat) = (N : Int) := w1
    have w3 : IntKind.i64.wrap ((N : Int) - 1) = ((N - 1 : Nat) : Int) := (IntWalk.i64_in _ ⟨by omega, by omega⟩).trans (by omega)
    clear hm hv hv2 h1 hmn hN
    go_enter Try.func33, Try.ntmps33
    go_wp2_with fail
    refine (impl_IsMaximal n m w).mono ?_
    rintro e wb ⟨rfl, hb1⟩
    rw [HV.out]
    go_wp2_with fail
    refine (impl_RunRegister n m 1 (N - 1) wb h2 h8 HT.out.1 HT.out.2.1 HT.out.2.2 (by omega)).mono ?_
    rintro e wc ⟨u, rfl, hu, hb2⟩
    have HU := Lib.hid hu
    clear hu
    go_wp2_with fail
    go_ret2
    exact ⟨u, rfl, HU.out, hb1.trans (hb2.mono hb1.size)⟩
set_option maxHeartbeats 1000000 in
theorem spec_IsMaximal (s t : Int) (w : World) :
    Calls Try.prog 72 #[.int .i64 s, .int .i64 t] w fun e w' => e = .returned (.bool (maxI s t)) ∧ Below w.heap.size w w' := by
  cases hv : tapsB s t
  · have hm : maxI s t = false := by unfold maxI; rw [hv]; rfl
    rw [hm]
    have HV := Lib.hid hv
    clear hm hv
    go_enter Try.func72, Try.ntmps72
    go_wp2_with (go_at_call 94; refine (spec_l1Taps _ _ _).mono ?_; rintro e w' ⟨rfl, rfl⟩; rw [HV.out])
    go_ret
    exact ⟨rfl, Below.refl _ _⟩
  · obtain ⟨n, m, rfl, rfl, h2, h8, h1, hm⟩ := taps_nat s t hv
    have HT := Lib.hid (show 1 ≤ m ∧ m < 2 ^ n from ⟨h1, hm⟩)
    have HM := Lib.hid (show maxI n m = maxB n m by unfold maxI; rw [hv]; rfl)
    have HV := Lib.hid hv
    clear hv h1 hm
    go_enter Try.func72, Try.ntmps72
    go_wp2_with (first
      | (go_at_call 94; refine (spec_l1Taps _ _ _).mono ?_; rintro e w' ⟨rfl, rfl⟩; rw [HV.out])
      | (go_at_call 95; refine (spec_l1Maximal n m _ h2 h8 HT.out.1 HT.out.2).mono ?_; rintro e w2 ⟨rfl, hb1⟩))
    go_ret
    exact ⟨ret_bool (by rw [HM.out]), hb1⟩
set_option maxHeartbeats 1000000 in
theorem spec_MaximalSequence (s t : Int) (w : World) :
    Calls Try.prog 34 #[.int .i64 s, .int .i64 t] w (RetStrB (mseqC s t).1 (mseqC s t).2 w) := by
  cases hv : maxI s t
  · have hm : mseqC s t = ([], false) := by unfold mseqC; rw [hv, if_neg (by decide)]
    rw [hm]
    clear hm
    have HV := Lib.hid hv
    clear hv
    go_enter Try.func34, Try.ntmps34
    go_wp2_with fail
    refine (spec_IsMaximal s t w).mono ?_
    rintro e w1 ⟨rfl, hb1⟩
    rw [HV.out]
    go_wp2_with fail
    go_ret2
    exact ⟨_, rfl, rfl, hb1⟩
  · have hm : mseqC s t = (runL s.toNat t.toNat 1 (2 ^ s.toNat - 1), true) := by unfold mseqC; rw [hv, if_pos rfl]
    rw [hm]
    have hv2 := hv
    unfold maxI at hv2
    rw [Bool.and_eq_true] at hv2
    obtain ⟨n, m, rfl, rfl, h2, h8, h1, hmn⟩ := taps_nat s t hv2.1
    have HV := Lib.hid hv
    have HT := Lib.hid hmn
    rw [Int.toNat_natCast, Int.toNat_natCast]
    clear hm hv hv2 h1 hmn
    go_enter Try.func34, Try.ntmps34
    go_wp2_with fail
    refine (spec_IsMaximal n m w).mono ?_
    rintro e wb ⟨rfl, hb1⟩
    rw [HV.out]
    go_wp2_with fail
    refine (spec_l3Sequence n m wb h2 h8 HT.out).mono ?_
    rintro e wc ⟨u, rfl, hu, hb2⟩
    have HU := Lib.hid hu
    clear hu
    go_wp2_with fail
    go_ret2
    exact ⟨u, rfl, HU.out, hb1.trans (hb2.mono hb1.size)⟩

end Go.Proofs.Ytkebiigpfbconaa
