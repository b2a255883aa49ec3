/- What the reference's registers give back: periods and taps of maximal ones. Conditions: as each theorem says. -/
import Derived.Test.YtkebiigpfbconaaR1
import Derived.Test.YtkebiigpfbconaaRdr
namespace Go.Proofs.Ytkebiigpfbconaa
open Go.RowKit
set_option linter.unusedSimpArgs false
set_option linter.unusedVariables false
set_option maxRecDepth 100000

theorem two_int (n : Nat) : two (n : Int) = ((2 ^ n : Nat) : Int) := two_nat n
theorem pow_256 (n : Nat) (h : n ≤ 8) : 2 ^ n ≤ 256 := by have h5 : 2 ^ n ≤ 2 ^ 8 := Nat.pow_le_pow_right (by omega) h; exact h5
set_option maxHeartbeats 400000 in
theorem spec_l3Sequence (n t : Nat) (w : World) (h2 : 2 ≤ n) (h8 : n ≤ 8) (ht : t < 2 ^ n) :
    Calls Try.prog 73 #[.int .i64 n, .int .i64 t] w (RetStr (runL n t 1 (2 ^ n - 1)) w) := by
  have h256 := pow_256 n h8
  have h1 : 1 < 2 ^ n := Nat.one_lt_two_pow (by omega)
  have HT := Lib.hid ht
  have htw := two_int n
  obtain ⟨N, hN⟩ : ∃ N, 2 ^ n = N := ⟨_, rfl⟩
  have HN := Lib.hid hN
  rw [hN] at htw h256 h1 ⊢
  clear ht hN
  go_enter Try.func73, Try.ntmps73
  go_wp2_with fail
  refine (spec_l1Two (n : Int) _ (by omega) (by omega)).mono ?_
  rintro e w' ⟨rfl, rfl⟩
  rw [htw]
  go_wp2_with fail
  rw [show (N : Int) - 1 = ((N - 1 : Nat) : Int) by omega]
  refine (spec_l1Run n t 1 (N - 1) w h2 h8 HT.out (by rw [HN.out]; exact h1) (by omega)).mono ?_
  rintro e w2 ⟨u, rfl, hu, hb⟩
  have HU := Lib.hid hu
  clear hu
  go_wp2_with fail
  go_ret
  exact ⟨u, rfl, HU.out, hb⟩
set_option maxHeartbeats 400000 in
theorem spec_l1Taps (s t : Int) (w : World) :
    Calls Try.prog 94 #[.int .i64 s, .int .i64 t] w fun e w' => e = .returned (.bool (tapsB s t)) ∧ w = w' := by
  cases h1 : within 2 8 s
  · go_enter Try.func94, Try.ntmps94
    go_wp2_with (go_at_call 47; refine (spec_l1In _ _ _ _).mono ?_; rintro e w' ⟨rfl, rfl⟩; rw [h1])
    go_ret
    exact ⟨ret_bool (by unfold tapsB; rw [h1]; rfl), rfl⟩
  · have h2 := (within_iff _ _ _).1 h1
    have h3 := two_pos s
    have h4 := two_8 s h2.2
    go_enter Try.func94, Try.ntmps94
    go_wp2_with (first | (go_at_call 47; refine (spec_l1In _ _ _ _).mono ?_; rintro e w' ⟨rfl, rfl⟩; first | rw [h1] | skip) | (go_at_call 68; refine (spec_l1Two s _ (by omega) (by omega)).mono ?_; rintro e w' ⟨rfl, rfl⟩))
    go_ret
    exact ⟨ret_bool (by unfold tapsB; rw [h1]; rfl), rfl⟩
theorem tapsB_nat (n t : Nat) (h2 : 2 ≤ n) (h8 : n ≤ 8) : tapsB n t = (decide (1 ≤ t) && decide (t < 2 ^ n)) := by
  unfold tapsB
  rw [(within_iff 2 8 _).2 ⟨by omega, by omega⟩, Bool.true_and, two_int]
  have h1 : 1 ≤ 2 ^ n := Nat.one_le_two_pow
  unfold within
  rw [Bool.eq_iff_iff]
  simp only [Bool.and_eq_true, decide_eq_true_eq]
  omega
set_option maxHeartbeats 1000000 in
theorem spec_RegisterValid (n t x : Nat) (w : World) (h2 : 2 ≤ n) (h8 : n ≤ 8) (h1 : 1 ≤ t) (ht : t < 2 ^ n) (hx : x < 2 ^ n) :
    Calls Try.prog 123 #[regV n t x] w fun e w' => e = .returned (.bool true) ∧ Below w.heap.size w w' := by
  have htb := tapsB_nat n t h2 h8
  rw [decide_eq_true h1, decide_eq_true ht] at htb
  have hin : within 0 (two (n : Int) - 1) (x : Int) = true := (within_iff _ _ _).2 ⟨by omega, by rw [two_int]; omega⟩
  have h3 := two_pos (n : Int)
  have h4 := two_8 (n : Int) (by omega)
  have w2 : IntKind.i64.wrap (two (n : Int) - 1) = two (n : Int) - 1 := IntWalk.i64_in _ ⟨by omega, by omega⟩
  have HTB := Lib.hid (show tapsB n t = true from htb)
  have HIN := Lib.hid hin
  have HN := Lib.hid (show 0 ≤ (n : Int) ∧ (n : Int) ≤ 40 by omega)
  clear htb hin ht hx h1
  unfold regV
  go_enter Try.func123, Try.ntmps123
  go_wp2
  have ho1 := own_lit w 74 3 [.int .i64 n, .int .i64 t, .int .i64 x] rfl (by unfold maxLen; omega)
  have hb1 : Below w.heap.size w (w.alloc (.cells #[.int .i64 n, .int .i64 t, .int .i64 x] 74)) := (Below.refl _ _).alloc (Nat.le_refl _) _
  generalize (w.alloc (.cells #[.int .i64 n, .int .i64 t, .int .i64 x] 74)) = wa at *
  have c0 : wa.cell? ⟨w.heap.size, 0, none⟩ = some (.int .i64 n) := ho1.cellAt 0 (by omega)
  have c1 : wa.cell? ⟨w.heap.size, 1, none⟩ = some (.int .i64 t) := ho1.cellAt 1 (by omega)
  have c2 : wa.cell? ⟨w.heap.size, 2, none⟩ = some (.int .i64 x) := ho1.cellAt 2 (by omega)
  clear ho1
  go_quiet ((first | (go_at_call 94; refine (spec_l1Taps _ _ _).mono ?_; rintro e w' ⟨rfl, rfl⟩; rw [HTB.out]; exact ⟨rfl, _, rfl⟩) | (go_at_call 68; refine (spec_l1Two (n : Int) _ HN.out.1 HN.out.2).mono ?_; rintro e w' ⟨rfl, rfl⟩; exact ⟨rfl, _, rfl⟩) | (go_at_call 47; refine (spec_l1In _ _ _ _).mono ?_; rintro e w' ⟨rfl, rfl⟩; rw [HIN.out]; exact ⟨rfl, _, rfl⟩)))
  go_wp2
  go_ret
  exact ⟨rfl, below_drewN hb1 _⟩
def seenL (n t x k : Nat) : List Value := (List.range (2 ^ n)).map fun s => Value.int .i64 (seenI n t x k s)
theorem seenL_len (n t x k : Nat) : (seenL n t x k).length = 2 ^ n := by simp [seenL]
theorem seenL_at (n t x k s : Nat) (h : s < 2 ^ n) : (seenL n t x k)[s]? = some (.int .i64 (seenI n t x k s)) := by simp [seenL, h]
theorem seenL_zero (n t x : Nat) : seenL n t x 0 = List.replicate (2 ^ n) (.int .i64 (-1)) := by
  unfold seenL
  simp only [seenI_zero]
  rw [List.map_const', List.length_range]
theorem seenL_set (n t x k : Nat) (hs : st n t x k < 2 ^ n) (h : seenI n t x k (st n t x k) = -1) : (seenL n t x k).set (st n t x k) (.int .i64 k) = seenL n t x (k + 1) := by
  apply List.ext_getElem?
  intro i
  rw [List.getElem?_set]
  by_cases hi : i < 2 ^ n
  · rw [seenL_at n t x (k + 1) i hi, seenI_new n t x k h i]
    by_cases hc : st n t x k = i
    · rw [if_pos hc, if_pos (by rw [seenL_len]; exact hs), if_pos hc.symm]
    · rw [if_neg hc, if_neg (fun h => hc h.symm), seenL_at n t x k i hi]
  · rw [List.getElem?_eq_none (l := seenL n t x (k + 1)) (by rw [seenL_len]; omega)]
    by_cases hc : st n t x k = i
    · omega
    · rw [if_neg hc, List.getElem?_eq_none (by rw [seenL_len]; omega)]
theorem fresh_succ (n t x k : Nat) (h : freshTo n t x k) (h2 : seenI n t x k (st n t x k) = -1) : freshTo n t x (k + 1) := by
  intro j hj
  rcases Nat.lt_succ_iff_lt_or_eq.1 hj with h3 | rfl
  · exact h j h3
  · exact h2
theorem seenI_neg (n t x k s : Nat) (h : seenI n t x k s < 0) : seenI n t x k s = -1 := by
  have := (seenI_bd n t x k s).1; omega
/-- A register was walked to the first state met again. -/
def Walked (n t x : Nat) (w : World) (e : Ending) (w' : World) : Prop :=
  ∃ (A : Option Addr) (m c k : Nat), e = .returned (.tuple #[.slice A m c, .int .i64 k, regV n t (st n t x k : Nat)]) ∧ w'.ownsRow w.heap.size 3 1 (.slice A m c) m (seenL n t x k) ∧ freshTo n t x k ∧ ¬ seenI n t x k (st n t x k) < 0 ∧ Below w.heap.size w w'
set_option maxHeartbeats 4000000 in
theorem spec_l1Walk (n t x : Nat) (w : World) (h2 : 2 ≤ n) (h8 : n ≤ 8) (ht : t < 2 ^ n) (hx : x < 2 ^ n) :
    Calls Try.prog 124 #[regV n t x] w (Walked n t x w) := by
  have h256 := pow_256 n h8
  have HTX := Lib.hid (show t < 2 ^ n ∧ x < 2 ^ n from ⟨ht, hx⟩)
  have htw := two_int n
  obtain ⟨N, hN⟩ : ∃ N, 2 ^ n = N := ⟨_, rfl⟩
  have HN := Lib.hid hN
  rw [hN] at htw h256
  clear ht hx hN
  have hmk := run_make_row' (P := Try.prog) 33 3 (.int .i64 0) 8 Try.underlying33 Try.infoI64 rfl .i64 .i64 N (by omega) (by omega)
  unfold regV
  go_enter Try.func124, Try.ntmps124
  go_wp2_with fail
  refine (spec_l1Two (n : Int) _ (by omega) (by omega)).mono ?_
  rintro e w' ⟨rfl, rfl⟩
  rw [htw]
  go_wp2_with fail
  clear hmk htw
  have ho1 := ((own_lit w 74 3 [.int .i64 n, .int .i64 t, .int .i64 x] rfl (by unfold maxLen; omega)).alloc (.cells #[.int .i64 0, .int .i64 0, .int .i64 0] 74)).alloc (.cells (madeCells #[.int .i64 0] N) 3)
  have ho2 := (own_lit (w.alloc (.cells #[.int .i64 n, .int .i64 t, .int .i64 x] 74)) 74 3 [.int .i64 0, .int .i64 0, .int .i64 0] rfl (by unfold maxLen; omega)).alloc (.cells (madeCells #[.int .i64 0] N) 3)
  have ho3 := own_made ((w.alloc (.cells #[.int .i64 n, .int .i64 t, .int .i64 x] 74)).alloc (.cells #[.int .i64 0, .int .i64 0, .int .i64 0] 74)) (.int .i64 0) N 3 (by unfold maxLen; omega)
  have hsz : (w.alloc (.cells #[.int .i64 n, .int .i64 t, .int .i64 x] 74)).heap.size = w.heap.size + 1 := by simp
  have hsz2 : ((w.alloc (.cells #[.int .i64 n, .int .i64 t, .int .i64 x] 74)).alloc (.cells #[.int .i64 0, .int .i64 0, .int .i64 0] 74)).heap.size = w.heap.size + 2 := by simp
  rw [hsz] at ho2
  rw [hsz2] at ho3
  have hb0 : Below w.heap.size w ((((w.alloc (.cells #[.int .i64 n, .int .i64 t, .int .i64 x] 74)).alloc (.cells #[.int .i64 0, .int .i64 0, .int .i64 0] 74))).alloc (.cells (madeCells #[.int .i64 0] N) 3)) := (((Below.refl _ _).alloc (Nat.le_refl _) _).alloc (by simp) _).alloc (by simp; omega) _
  generalize ((((w.alloc (.cells #[.int .i64 n, .int .i64 t, .int .i64 x] 74)).alloc (.cells #[.int .i64 0, .int .i64 0, .int .i64 0] 74))).alloc (.cells (madeCells #[.int .i64 0] N) 3)) = wa at *
  have HO1 := Lib.hid ho1
  have HO2 := Lib.hid ho2
  have HO3 := Lib.hid ho3
  have HB0 := Lib.hid hb0
  clear ho1 ho2 ho3 hb0 hsz hsz2
  go_loopw [6] (fun v wr => ∃ i : Nat, i ≤ N ∧ v = .int .i64 i ∧ wr.ownsRow w.heap.size 74 1 (.slice (some ⟨w.heap.size, 0, none⟩) 3 3) 3 [.int .i64 n, .int .i64 t, .int .i64 x] ∧
      wr.ownsRow (w.heap.size + 1) 74 1 (.slice (some ⟨w.heap.size + 1, 0, none⟩) 3 3) 3 [.int .i64 0, .int .i64 0, .int .i64 0] ∧
      wr.ownsRow (w.heap.size + 2) 3 1 (.slice (some ⟨w.heap.size + 2, 0, none⟩) N N) N (Fill (List.replicate N (.int .i64 (-1))) (.int .i64 0) i) ∧ Below w.heap.size w wr) (fun v _ => N - (intOf v).toNat)
  case atStart => exact ⟨0, Nat.zero_le _, rfl, HO1.out, HO2.out, by rw [fill_zero, List.length_replicate]; exact HO3.out, HB0.out⟩
  case round =>
    obtain ⟨i, hi, rfl, o1, o2, o3, hb⟩ := hrel
    by_cases hlt : i < N
    · have hc := o3.cellAt i (by omega)
      rw [fill_at _ _ _ (by rw [List.length_replicate]; exact hlt)] at hc
      have hf := o3.frozenAt i
      have O1 := Lib.hid o1
      have O2 := Lib.hid o2
      have O3 := Lib.hid o3
      clear o1 o2 o3
      go_wp2
      go_roundw
      case rel =>
        have hs := O3.out.stored i (.int .i64 (-1))
        rw [fill_set _ _ _ _ (by rw [List.getElem?_replicate, if_pos hlt])] at hs
        exact ⟨i + 1, by omega, by go_num, World.ownsRow.kept O1.out hs.2 (.inr (by show some (w.heap.size) ≠ some (w.heap.size + 2); intro h; injection h with h; omega)), World.ownsRow.kept O2.out hs.2 (.inr (by show some (w.heap.size + 1) ≠ some (w.heap.size + 2); intro h; injection h with h; omega)), hs.1, hb.setCell (by show _ ≤ _ + _; omega) _⟩
      case measure => simp [intOf] <;> omega
    · rw [fill_full _ _ _ (by rw [List.length_replicate]; omega)] at o3
      obtain ⟨wb, rfl⟩ : ∃ wb, wb = wr := ⟨_, rfl⟩
      have O1 := Lib.hid o1
      have O2 := Lib.hid o2
      have O3 := Lib.hid o3
      clear o1 o2 o3 HO1 HO2 HO3 HB0
      go_wp2_with fail
      go_loopw [7] (fun v wr => ∃ k : Nat, k ≤ N ∧ v = .int .i64 k ∧ wr.ownsRow w.heap.size 74 1 (.slice (some ⟨w.heap.size, 0, none⟩) 3 3) 3 [.int .i64 n, .int .i64 t, .int .i64 (st n t x k : Nat)] ∧
          wr.ownsRow (w.heap.size + 1) 74 1 (.slice (some ⟨w.heap.size + 1, 0, none⟩) 3 3) 3 [.int .i64 0, .int .i64 0, .int .i64 0] ∧
          wr.ownsRow (w.heap.size + 2) 3 1 (.slice (some ⟨w.heap.size + 2, 0, none⟩) N N) N (seenL n t x k) ∧ freshTo n t x k ∧ Below w.heap.size w wr) (fun v _ => N + 1 - (intOf v).toNat)
      case atStart => exact ⟨0, Nat.zero_le _, rfl, O1.out, O2.out, by rw [seenL_zero, HN.out]; exact O3.out, fun j hj => absurd hj (by omega), hb⟩
      case round =>
        obtain ⟨k, hk, rfl, o1, o2, o3, hfr, hb2⟩ := hrel
        have hs := st_lt n t x k (by omega) HTX.out.2
        have HS := Lib.hid hs
        have hsN : st n t x k < N := by rw [← HN.out]; exact hs
        have HNX := Lib.hid (show st n t x (k + 1) = stepN n t (st n t x k) from rfl)
        have hc := o3.cellAt (st n t x k) (by omega)
        rw [seenL_at n t x k _ hs] at hc
        have HSET := Lib.hid (seenL_set n t x k hs)
        have HFS := Lib.hid (fresh_succ n t x k hfr)
        have HNEG := Lib.hid (seenI_neg n t x k (st n t x k))
        have HSB := Lib.hid (seenI_bd n t x k (st n t x k))
        have HFR := Lib.hid hfr
        clear hs hfr
        obtain ⟨y, hy⟩ : ∃ y, st n t x k = y := ⟨_, rfl⟩
        have HY := Lib.hid hy
        rw [hy] at o1 hc hsN HS HNX HNEG HSB HSET HFS
        clear hy
        obtain ⟨z, hz⟩ : ∃ z, seenI n t x k y = z := ⟨_, rfl⟩
        have HZ := Lib.hid hz
        rw [hz] at hc HNEG HSB HSET HFS
        clear hz
        have hf := o3.frozenAt y
        have c0 : wr.cell? ⟨w.heap.size, 0, none⟩ = some (.int .i64 n) := o1.cellAt 0 (by omega)
        have c1 : wr.cell? ⟨w.heap.size, 1, none⟩ = some (.int .i64 t) := o1.cellAt 1 (by omega)
        have c2 : wr.cell? ⟨w.heap.size, 2, none⟩ = some (.int .i64 y) := o1.cellAt 2 (by omega)
        by_cases hneg : z < 0
        · have hz1 := HNEG.out hneg
          subst hz1
          have HSET' := Lib.hid (HSET.out rfl)
          have hfs := HFS.out rfl
          have hkN := fresh_le n t x (k + 1) (by omega) HTX.out.2 hfs
          rw [HN.out] at hkN
          have HFS' := Lib.hid hfs
          clear HSET HFS hfs
          have O1 := Lib.hid o1
          have O2 := Lib.hid o2
          have O3 := Lib.hid o3
          clear o1 o2 o3
          obtain ⟨wc, rfl⟩ : ∃ wc, wc = wr := ⟨_, rfl⟩
          go_wp2_with fail
          have hst := O3.out.stored y (.int .i64 k)
          rw [HSET'.out] at hst
          have o1 := World.ownsRow.kept O1.out hst.2 (.inr (by show some (w.heap.size) ≠ some (w.heap.size + 2); intro h; injection h with h; omega))
          have o2 := World.ownsRow.kept O2.out hst.2 (.inr (by show some (w.heap.size + 1) ≠ some (w.heap.size + 2); intro h; injection h with h; omega))
          have o3 := hst.1
          have hb3 : Below w.heap.size w (wc.setCell ⟨w.heap.size + 2, y, none⟩ (.int .i64 k)) := hb2.setCell (Nat.le_add_right _ _) _
          clear hst c0 c1 c2 hc hf O1 O2 O3
          generalize wc.setCell ⟨w.heap.size + 2, y, none⟩ (.int .i64 k) = wd at *
          refine (spec_l1Step n t y wd h2 h8 HTX.out.1 HS.out).mono ?_
          rintro e w2 ⟨rfl, hb4⟩
          have p1 := own_below o1 hb4
          have p2 := own_below o2 hb4
          have p3 := own_below o3 hb4
          have hB4 := hb3.trans (hb4.mono hb3.size)
          clear o1 o2 o3 hb3 hb4
          have c0 : w2.cell? ⟨w.heap.size, 0, none⟩ = some (.int .i64 n) := p1.cellAt 0 (by omega)
          have c1 : w2.cell? ⟨w.heap.size, 1, none⟩ = some (.int .i64 t) := p1.cellAt 1 (by omega)
          have c2 : w2.cell? ⟨w.heap.size, 2, none⟩ = some (.int .i64 y) := p1.cellAt 2 (by omega)
          have f0 := p1.frozenAt 0
          have f1 := p1.frozenAt 1
          have f2 := p1.frozenAt 2
          have P1 := Lib.hid p1
          have P2 := Lib.hid p2
          have P3 := Lib.hid p3
          clear p1 p2 p3
          unfold regV
          go_wp2
          go_roundw
          case rel =>
            have h3 := own_three P1.out (.int .i64 n) (.int .i64 t) (.int .i64 (stepN n t y : Nat))
            exact ⟨k + 1, hkN, by go_num, by rw [HNX.out]; exact h3.1, World.ownsRow.kept P2.out h3.2 (.inr (by show some (w.heap.size + 1) ≠ some (w.heap.size); intro h; injection h with h; omega)), World.ownsRow.kept P3.out h3.2 (.inr (by show some (w.heap.size + 2) ≠ some (w.heap.size); intro h; injection h with h; omega)), HFS'.out,
              ((hB4.setCell (Nat.le_refl _) _).setCell (Nat.le_refl _) _).setCell (Nat.le_refl _) _⟩
          case measure => simp [intOf] <;> omega
        · have hd : decide (z < 0) = false := decide_eq_false hneg
          have d0 : wr.cell? ⟨w.heap.size + 1, 0, none⟩ = some (.int .i64 0) := o2.cellAt 0 (by omega)
          have d1 : wr.cell? ⟨w.heap.size + 1, 1, none⟩ = some (.int .i64 0) := o2.cellAt 1 (by omega)
          have d2 : wr.cell? ⟨w.heap.size + 1, 2, none⟩ = some (.int .i64 0) := o2.cellAt 2 (by omega)
          have e0 := o2.frozenAt 0
          have e1 := o2.frozenAt 1
          have e2 := o2.frozenAt 2
          have O2 := Lib.hid o2
          have O3 := Lib.hid o3
          clear o1 o2 o3
          go_wp2
          go_region
          all_goals
            go_wp2
            refine bodyPost_ret (v := .tuple #[.slice (some ⟨w.heap.size + 2, 0, none⟩) N N, .int .i64 k, .agg #[.int .i64 n, .int .i64 t, .int .i64 y]]) (by simp [results, Try.results124, go_sem, d0, d1, d2]) rfl ?_
            have h3 := own_three O2.out (.int .i64 n) (.int .i64 t) (.int .i64 y)
            refine ⟨_, N, N, k, by rw [HY.out]; rfl, own_mono (own_below (World.ownsRow.kept O3.out h3.2 (.inr (by show some (w.heap.size + 2) ≠ some (w.heap.size + 1); intro h; injection h with h; omega))) (Below.refl _ _).drew) (by omega), HFR.out, by rw [HY.out, HZ.out]; omega, ((((hb2.setCell (Nat.le_add_right _ _) _).setCell (Nat.le_add_right _ _) _).setCell (Nat.le_add_right _ _) _)).drew⟩
theorem period_walk (n t x k : Nat) (hn : 1 ≤ n) (hx : x < 2 ^ n) (hf : freshTo n t x k) (hk : ¬ seenI n t x k (st n t x k) < 0) : periodI n t x = (k : Int) - seenI n t x k (st n t x k) := by
  have h1 : walkN n t x (2 ^ n + 1) 0 = k := by
    refine walkN_end n t x _ 0 k (Nat.zero_le _) ?_ (fun j _ hj => ?_) hk
    · have := fresh_le n t x k hn hx hf; omega
    · have := hf j hj; omega
  unfold periodI
  rw [h1]
set_option maxHeartbeats 1000000 in
theorem spec_PeriodOf (n t x : Nat) (w : World) (h2 : 2 ≤ n) (h8 : n ≤ 8) (h1 : 1 ≤ t) (ht : t < 2 ^ n) (hx : x < 2 ^ n) :
    Calls Try.prog 113 #[regV n t x] w fun e w' => e = .returned (.int .i64 (periodI n t x)) ∧ Below w.heap.size w w' := by
  have HTX := Lib.hid (show 1 ≤ t ∧ t < 2 ^ n ∧ x < 2 ^ n from ⟨h1, ht, hx⟩)
  have h256 := pow_256 n h8
  obtain ⟨N, hN⟩ : ∃ N, 2 ^ n = N := ⟨_, rfl⟩
  have HN := Lib.hid hN
  rw [hN] at h256
  clear h1 ht hx hN
  unfold regV
  go_enter Try.func113, Try.ntmps113
  go_wp2_with fail
  have hb0 : Below w.heap.size w (w.alloc (.cells #[.int .i64 n, .int .i64 t, .int .i64 x] 74)) := (Below.refl _ _).alloc (Nat.le_refl _) _
  have o1 := own_lit w 74 3 [.int .i64 n, .int .i64 t, .int .i64 x] rfl (by unfold maxLen; omega)
  generalize (w.alloc (.cells #[.int .i64 n, .int .i64 t, .int .i64 x] 74)) = wa at *
  refine (spec_RegisterValid n t x wa h2 h8 HTX.out.1 HTX.out.2.1 HTX.out.2.2).mono ?_
  rintro e w1 ⟨rfl, hb1⟩
  have p1 := own_below o1 hb1
  have hB1 := hb0.trans (hb1.mono hb0.size)
  have c0 : w1.cell? ⟨w.heap.size, 0, none⟩ = some (.int .i64 n) := p1.cellAt 0 (by omega)
  have c1 : w1.cell? ⟨w.heap.size, 1, none⟩ = some (.int .i64 t) := p1.cellAt 1 (by omega)
  have c2 : w1.cell? ⟨w.heap.size, 2, none⟩ = some (.int .i64 x) := p1.cellAt 2 (by omega)
  clear o1 p1 hb0 hb1
  have hs1 := hB1.size
  go_wp2_with fail
  refine (spec_l1Walk n t x w1 h2 h8 HTX.out.2.1 HTX.out.2.2).mono ?_
  rintro e w2 ⟨A, m, c, k, rfl, ho, hfr, hneg, hb2⟩
  have hs := st_lt n t x k (by omega) HTX.out.2.2
  have hml : m = N := by have := ho.1; rw [seenL_len, HN.out] at this; omega
  subst hml
  have hkN := fresh_le n t x k (by omega) HTX.out.2.2 hfr
  rw [HN.out] at hkN
  have HP := Lib.hid (period_walk n t x k (by omega) HTX.out.2.2 hfr hneg)
  have hsb := seenI_bd n t x k (st n t x k)
  obtain ⟨g, rfl, hg1, hg2⟩ := own_some ho (show 0 < m by have := HN.out; have : 1 ≤ 2 ^ n := Nat.one_le_two_pow; omega)
  have hc := ho.cellAt (st n t x k) (by rw [HN.out] at hs; omega)
  rw [seenL_at n t x k _ hs] at hc
  have hsN : st n t x k < m := by rw [HN.out] at hs; exact hs
  have hB2 := hB1.trans (hb2.mono hs1)
  clear c0 c1 c2 hneg hfr hs hb2
  obtain ⟨y, hy⟩ : ∃ y, st n t x k = y := ⟨_, rfl⟩
  rw [hy] at hc hsN HP hsb ⊢
  obtain ⟨z, hz⟩ : ∃ z, seenI n t x k y = z := ⟨_, rfl⟩
  rw [hz] at hc HP hsb
  have hc' := (ho.alloc (.cells #[.int .i64 0, .int .i64 0, .int .i64 0] 74)).cellAt y (by omega)
  have hcz : (seenL n t x k)[y]? = some (.int .i64 z) := by rw [seenL_at n t x k y (by rw [HN.out]; exact hsN), hz]
  rw [hcz] at hc'
  have HO := Lib.hid ho
  clear ho hz hy hcz
  unfold regV
  go_wp2_with fail
  go_ret
  exact ⟨ret_int (by rw [HP.out]), hB2.alloc (by have := hB2.size; omega) _⟩

end Go.Proofs.Ytkebiigpfbconaa
