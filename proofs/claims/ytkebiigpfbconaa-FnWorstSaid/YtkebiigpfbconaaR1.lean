/- What the reference's registers give back. Conditions: as each theorem says. -/
import Derived.Test.YtkebiigpfbconaaC1
import Derived.Test.YtkebiigpfbconaaPureS
import Derived.Test.YtkebiigpfbconaaLaw
import Derived.StillTailTactics
namespace Go.Proofs.Ytkebiigpfbconaa
open Go.RowKit
set_option linter.unusedSimpArgs false
set_option linter.unusedVariables false
set_option maxRecDepth 100000

/-- A register as a value. -/
def regV (n t x : Int) : Value := .agg #[.int .i64 n, .int .i64 t, .int .i64 x]
theorem spec_parity_still (a : Nat) (ha : a ≤ 1099511627776) (w : World) : Calls Try.prog 114 #[.int .i64 (a : Int)] w fun e w' => e = .returned (.int .i64 ((par a : Nat) : Int)) ∧ w' = w :=
  (spec_l1Parity (a : Int) w (by omega) (by omega)).mono fun e w' h => ⟨by rw [h.1]; rfl, h.2.symm⟩
theorem spec_two_still (a : Int) (h1 : 0 ≤ a) (h2 : a ≤ 40) (w : World) : Calls Try.prog 68 #[.int .i64 a] w fun e w' => e = .returned (.int .i64 (two a)) ∧ w' = w :=
  (spec_l1Two a w h1 h2).mono fun e w' h => ⟨h.1, h.2.symm⟩
set_option maxHeartbeats 1000000 in
theorem spec_l1Step (n t x : Nat) (w : World) (h2 : 2 ≤ n) (h8 : n ≤ 8) (ht : t < 2 ^ n) (hx : x < 2 ^ n) :
    Calls Try.prog 99 #[regV n t x] w fun e w' => e = .returned (regV n t (stepN n t x : Nat)) ∧ Below w.heap.size w w' := by
  have h256 : 2 ^ n ≤ 256 := by have h5 : 2 ^ n ≤ 2 ^ 8 := Nat.pow_le_pow_right (by omega) h8; exact h5
  have hand := and_i64 x t (by omega) (by omega)
  have hle : x &&& t ≤ x := Nat.and_le_left
  obtain ⟨T, hT, hTb⟩ : ∃ T : Nat, two ((n : Int) - 1) = T ∧ T ≤ 256 := by
    have h5 := two_pos ((n : Int) - 1)
    have h6 := two_8 ((n : Int) - 1) (by omega)
    exact ⟨(two ((n : Int) - 1)).toNat, by omega, by omega⟩
  have hTn : T = 2 ^ (n - 1) := by
    have h5 := two_nat (n - 1)
    rw [show ((n - 1 : Nat) : Int) = (n : Int) - 1 by omega, hT] at h5
    exact_mod_cast h5
  obtain ⟨p, hp, hpb⟩ : ∃ p, par (x &&& t) = p ∧ p ≤ 1 := ⟨_, rfl, par_le _⟩
  have hst : stepN n t x = x / 2 + p * T := by unfold stepN; rw [hp, hTn]
  obtain ⟨q, hq, hqb⟩ : ∃ q : Nat, p * T = q ∧ q ≤ 256 := ⟨p * T, rfl, by rcases (show p = 0 ∨ p = 1 by omega) with h | h <;> rw [h] <;> omega⟩
  rw [hst, hq]
  have hqi : (p : Int) * (T : Int) = (q : Int) := by rw [← Int.natCast_mul, hq]
  have hx2 : (x : Int).tdiv 2 = ((x / 2 : Nat) : Int) := by rw [Int.tdiv_eq_ediv_of_nonneg (by omega)]; rfl
  have hx3 : (x : Int) / 2 = ((x / 2 : Nat) : Int) := rfl
  obtain ⟨y, hy⟩ : ∃ y, x / 2 = y := ⟨_, rfl⟩
  rw [hy] at hx2 hx3 ⊢
  have hyb : y ≤ 128 := by omega
  have w1 : IntKind.i64.wrap (y : Int) = (y : Int) := IntWalk.i64_in _ ⟨by omega, by omega⟩
  have w2 : IntKind.i64.wrap ((n : Int) - 1) = (n : Int) - 1 := IntWalk.i64_in _ ⟨by omega, by omega⟩
  have w3 : IntKind.i64.wrap (q : Int) = (q : Int) := IntWalk.i64_in _ ⟨by omega, by omega⟩
  have w4 : IntKind.i64.wrap ((y : Int) + (q : Int)) = (y : Int) + (q : Int) := IntWalk.i64_in _ ⟨by omega, by omega⟩
  have hxt : x &&& t ≤ 1099511627776 := by omega
  have HN1 := Lib.hid (show 0 ≤ (n : Int) - 1 ∧ (n : Int) - 1 ≤ 40 by omega)
  clear hst hTn hq hy
  unfold regV
  go_enter Try.func99, Try.ntmps99
  go_wp2
  have ho1 := (own_lit w 74 3 [.int .i64 n, .int .i64 t, .int .i64 x] rfl (by unfold maxLen; omega)).alloc (.cells #[.int .i64 0, .int .i64 0, .int .i64 0] 74)
  have ho2 := own_lit (w.alloc (.cells #[.int .i64 n, .int .i64 t, .int .i64 x] 74)) 74 3 [.int .i64 0, .int .i64 0, .int .i64 0] rfl (by unfold maxLen; omega)
  have hb1 : Below w.heap.size w ((w.alloc (.cells #[.int .i64 n, .int .i64 t, .int .i64 x] 74)).alloc (.cells #[.int .i64 0, .int .i64 0, .int .i64 0] 74)) := ((Below.refl _ _).alloc (Nat.le_refl _) _).alloc (by simp) _
  have hsz : (w.alloc (.cells #[.int .i64 n, .int .i64 t, .int .i64 x] 74)).heap.size = w.heap.size + 1 := by simp
  rw [hsz] at ho2
  generalize ((w.alloc (.cells #[.int .i64 n, .int .i64 t, .int .i64 x] 74)).alloc (.cells #[.int .i64 0, .int .i64 0, .int .i64 0] 74)) = wa at *
  have c0 : wa.cell? ⟨w.heap.size, 0, none⟩ = some (.int .i64 n) := ho1.cellAt 0 (by omega)
  have c1 : wa.cell? ⟨w.heap.size, 1, none⟩ = some (.int .i64 t) := ho1.cellAt 1 (by omega)
  have c2 : wa.cell? ⟨w.heap.size, 2, none⟩ = some (.int .i64 x) := ho1.cellAt 2 (by omega)
  have f2 := ho1.frozenAt 2
  have d0 : wa.cell? ⟨w.heap.size + 1, 0, none⟩ = some (.int .i64 0) := ho2.cellAt 0 (by omega)
  have d1 : wa.cell? ⟨w.heap.size + 1, 1, none⟩ = some (.int .i64 0) := ho2.cellAt 1 (by omega)
  have d2 : wa.cell? ⟨w.heap.size + 1, 2, none⟩ = some (.int .i64 0) := ho2.cellAt 2 (by omega)
  have e0 := ho2.frozenAt 0
  have e1 := ho2.frozenAt 1
  have e2 := ho2.frozenAt 2
  have HB := Lib.hid hb1
  clear ho1 ho2 hb1 hsz
  go_still_tail 16, (by kernel_rfl)
  still_call (spec_parity_still (x &&& t) hxt _)
  repeat still_step
  still_call (spec_two_still ((n : Int) - 1) HN1.out.1 HN1.out.2 _)
  repeat still_step
  refine wpStill_nil ?_
  go_wp2
  refine bodyPost_ret (v := .agg #[.int .i64 n, .int .i64 t, .int .i64 ((y + q : Nat) : Int)]) (by simp [results, Try.results99, go_sem, d0, d1, d2]) rfl ⟨rfl, ?_⟩
  exact ((((HB.out.setCell (by simp) _).setCell (by simp) _).setCell (by simp) _).setCell (by simp) _).drew
theorem own_three {w : World} {B E g : Nat} {a b c : Value} (h : w.ownsRow B E 1 (.slice (some ⟨g, 0, none⟩) 3 3) 3 [a, b, c]) (x y z : Value) :
    (((w.setCell ⟨g, 0, none⟩ x).setCell ⟨g, 1, none⟩ y).setCell ⟨g, 2, none⟩ z).ownsRow B E 1 (.slice (some ⟨g, 0, none⟩) 3 3) 3 [x, y, z] ∧ w.grownBy (((w.setCell ⟨g, 0, none⟩ x).setCell ⟨g, 1, none⟩ y).setCell ⟨g, 2, none⟩ z) (some g) := by
  have h1 := h.stored 0 x
  have h2 := h1.1.stored 1 y
  have h3 := h2.1.stored 2 z
  exact ⟨h3.1, grown_trans (grown_trans h1.2 h2.2) h3.2⟩
set_option maxHeartbeats 2000000 in
theorem spec_l1Run (n t x k : Nat) (w : World) (h2 : 2 ≤ n) (h8 : n ≤ 8) (ht : t < 2 ^ n) (hx : x < 2 ^ n) (hk : k ≤ 1048576) :
    Calls Try.prog 80 #[regV n t x, .int .i64 k] w (RetStr (runL n t x k) w) := by
  have h256 : 2 ^ n ≤ 256 := by have h5 : 2 ^ n ≤ 2 ^ 8 := Nat.pow_le_pow_right (by omega) h8; exact h5
  have HTX := Lib.hid (show t < 2 ^ n ∧ x < 2 ^ n from ⟨ht, hx⟩)
  have HL := Lib.hid (show (bytes (runL n t x k)).length = k by rw [bytes_len, runL_len])
  have H256 := Lib.hid h256
  clear ht hx h256
  have hmk := run_make_row' (P := Try.prog) 22 5 (.int .u8 0) 1 Try.underlying22 Try.infoU8 rfl .i64 .i64 k (by omega) (by omega)
  unfold regV
  go_enter Try.func80, Try.ntmps80
  go_wp2_with fail
  clear hmk
  have ho1 := (own_lit w 74 3 [.int .i64 n, .int .i64 t, .int .i64 x] rfl (by unfold maxLen; omega)).alloc (.cells (madeCells #[.int .u8 0] k) 5)
  have ho2 := own_made (w.alloc (.cells #[.int .i64 n, .int .i64 t, .int .i64 x] 74)) (.int .u8 0) k 5 (by unfold maxLen; omega)
  have hsz : (w.alloc (.cells #[.int .i64 n, .int .i64 t, .int .i64 x] 74)).heap.size = w.heap.size + 1 := by simp
  rw [hsz] at ho2
  have HO1 := Lib.hid ho1
  have HO2 := Lib.hid ho2
  clear ho1 ho2 hsz
  go_loopw [6] (fun v wr => ∃ i : Nat, i ≤ k ∧ v = .int .i64 i ∧ wr.ownsRow w.heap.size 74 1 (.slice (some ⟨w.heap.size, 0, none⟩) 3 3) 3 [.int .i64 n, .int .i64 t, .int .i64 (st n t x i : Nat)] ∧
      wr.ownsRow (w.heap.size + 1) 5 1 (.slice (some ⟨w.heap.size + 1, 0, none⟩) k k) k (Fill (bytes (runL n t x k)) (.int .u8 0) i) ∧ Below w.heap.size w wr) (fun v _ => k - (intOf v).toNat)
  case atStart => exact ⟨0, Nat.zero_le _, rfl, HO1.out, by rw [fill_zero, HL.out]; exact HO2.out, ((Below.refl _ _).alloc (Nat.le_refl _) _).alloc (by simp) _⟩
  case round =>
    obtain ⟨i, hi, rfl, ho1, ho2, hb⟩ := hrel
    by_cases hlt : i < k
    · have hs := st_lt n t x i (by omega) HTX.out.2
      have HS := Lib.hid hs
      have hs256 : st n t x i < 256 := by have := H256.out; omega
      have HNX := Lib.hid (show st n t x (i + 1) = stepN n t (st n t x i) from rfl)
      have hra := runL_at n t x k i hlt
      obtain ⟨y, hy⟩ : ∃ y, st n t x i = y := ⟨_, rfl⟩
      rw [hy] at ho1 hs256 HNX HS hra
      clear hy hs
      have hbm := bitC_mod y
      have HRA := Lib.hid hra
      have HBM := Lib.hid hbm
      have hrem : (y : Int).tmod 2 = ((y % 2 : Nat) : Int) := by rw [Int.tmod_eq_emod_of_nonneg (by omega)]; rfl
      have hy2 : y % 2 ≤ 1 := by omega
      have c0 : wr.cell? ⟨w.heap.size, 0, none⟩ = some (.int .i64 n) := ho1.cellAt 0 (by omega)
      have c1 : wr.cell? ⟨w.heap.size, 1, none⟩ = some (.int .i64 t) := ho1.cellAt 1 (by omega)
      have c2 : wr.cell? ⟨w.heap.size, 2, none⟩ = some (.int .i64 y) := ho1.cellAt 2 (by omega)
      have hc := ho2.cellAt i (by omega)
      rw [fill_at _ _ _ (by rw [HL.out]; exact hlt)] at hc
      have hf := ho2.frozenAt i
      have HO1 := Lib.hid ho1
      have HO2 := Lib.hid ho2
      clear ho1 ho2 hra hbm
      obtain ⟨wo, rfl⟩ : ∃ wo, wo = wr := ⟨_, rfl⟩
      go_wp2_with fail
      have hval : (48 : Int) + (y : Int) % 2 = ((bitC (y % 2)).toNat : Int) := by rw [HBM.out]; rfl
      rw [hval]
      have hst2 := HO2.out.stored i (.int .u8 ((bitC (y % 2)).toNat : Int))
      rw [fill_set _ _ _ _ (bytes_at _ _ _ HRA.out)] at hst2
      have ho1' := World.ownsRow.kept HO1.out hst2.2 (.inr (by show some w.heap.size ≠ some (w.heap.size + 1); intro h; injection h with h; omega))
      have hb1 : Below w.heap.size w (wo.setCell ⟨w.heap.size + 1, i, none⟩ (.int .u8 ((bitC (y % 2)).toNat : Int))) := hb.setCell (by simp) _
      have HO1' := Lib.hid ho1'
      have HO2' := Lib.hid hst2.1
      clear ho1' hst2 hval
      generalize wo.setCell ⟨w.heap.size + 1, i, none⟩ (.int .u8 ((bitC (y % 2)).toNat : Int)) = wp at *
      refine (spec_l1Step n t y wp h2 h8 HTX.out.1 HS.out).mono ?_
      rintro e w2 ⟨rfl, hb2⟩
      have o1 := own_below HO1'.out hb2
      have o2 := own_below HO2'.out hb2
      have hB2 := hb1.trans (hb2.mono hb1.size)
      clear c0 c1 c2 hc hf
      have c0 : w2.cell? ⟨w.heap.size, 0, none⟩ = some (.int .i64 n) := o1.cellAt 0 (by omega)
      have c1 : w2.cell? ⟨w.heap.size, 1, none⟩ = some (.int .i64 t) := o1.cellAt 1 (by omega)
      have c2 : w2.cell? ⟨w.heap.size, 2, none⟩ = some (.int .i64 y) := o1.cellAt 2 (by omega)
      have f0 := o1.frozenAt 0
      have f1 := o1.frozenAt 1
      have f2 := o1.frozenAt 2
      have O1 := Lib.hid o1
      have O2 := Lib.hid o2
      clear o1 o2 hb2
      unfold regV
      go_wp2
      go_roundw
      case rel =>
        have h3 := own_three O1.out (.int .i64 n) (.int .i64 t) (.int .i64 (stepN n t y : Nat))
        exact ⟨i + 1, by omega, by go_num, by rw [HNX.out]; exact h3.1, World.ownsRow.kept O2.out h3.2 (.inr (by show some (w.heap.size + 1) ≠ some w.heap.size; intro h; injection h with h; omega)),
          ((hB2.setCell (Nat.le_refl _) _).setCell (Nat.le_refl _) _).setCell (Nat.le_refl _) _⟩
      case measure => simp [intOf] <;> omega
    · obtain rfl : k = i := by omega
      rw [fill_full _ _ _ (by rw [HL.out]; omega)] at ho2
      have hcv := own_string (P := Try.prog) (src := 22) (dst := 9) _ Try.underlying22 Try.underlying5 Try.underlying9 ho2
      go_wp2
      go_ret
      exact ⟨_, rfl, rfl, hb⟩

end Go.Proofs.Ytkebiigpfbconaa
