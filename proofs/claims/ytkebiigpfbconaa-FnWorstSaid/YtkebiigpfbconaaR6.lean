/- What the program's registers give back. Conditions: as each theorem says. -/
import Derived.Test.YtkebiigpfbconaaR5
import Derived.Test.YtkebiigpfbconaaC1
namespace Go.Proofs.Ytkebiigpfbconaa
open Go.RowKit
set_option linter.unusedSimpArgs false
set_option linter.unusedVariables false
set_option maxRecDepth 100000

theorem or_high (y p m : Nat) (hy : y < 2 ^ m) (hp : p ≤ 1) : y ||| p * 2 ^ m = y + p * 2 ^ m := by
  rcases (show p = 0 ∨ p = 1 by omega) with rfl | rfl
  · simp
  · have h := Nat.two_pow_add_eq_or_of_lt hy 1
    rw [Nat.mul_one] at h
    rw [Nat.one_mul, Nat.or_comm]
    omega
theorem impl_parity_q (a : Nat) (ha : a ≤ 1099511627776) (w : World) : Calls Try.prog 97 #[.int .i64 (a : Int)] w fun e w' => e = .returned (.int .i64 ((par a : Nat) : Int)) ∧ w = w' :=
  (impl_Parity (a : Int) w (by omega) (by omega)).mono fun e w' h => ⟨by rw [h.1]; rfl, h.2⟩
set_option maxHeartbeats 1000000 in
theorem impl_nextState (n t x : Nat) (w : World) (h2 : 2 ≤ n) (h8 : n ≤ 8) (ht : t < 2 ^ n) (hx : x < 2 ^ n) :
    Calls Try.prog 93 #[regV n t x] w fun e w' => e = .returned (.int .i64 (stepN n t x : Nat)) ∧ Below w.heap.size w w' := by
  have h256 := pow_256 n h8
  have hand := and_i64 x t (by omega) (by omega)
  have hle : x &&& t ≤ x := Nat.and_le_left
  obtain ⟨m, rfl⟩ : ∃ m, n = m + 1 := ⟨n - 1, by omega⟩
  have hm128 : 2 ^ m ≤ 128 := by have h5 : 2 ^ m ≤ 2 ^ 7 := Nat.pow_le_pow_right (by omega) (by omega); exact h5
  have hxm : x / 2 < 2 ^ m := by rw [Nat.pow_succ] at hx; omega
  have hst : stepN (m + 1) t x = x / 2 ||| par (x &&& t) * 2 ^ m := by
    rw [or_high _ _ _ hxm (par_le _)]; unfold stepN; rw [Nat.add_sub_cancel]
  obtain ⟨T, hT⟩ : ∃ T, 2 ^ m = T := ⟨_, rfl⟩
  have HT := Lib.hid hT
  obtain ⟨p, hp, hpb⟩ : ∃ p, par (x &&& t) = p ∧ p ≤ 1 := ⟨_, rfl, par_le _⟩
  rw [hT] at hst hm128 hxm
  rw [hp] at hst
  obtain ⟨y, hy⟩ : ∃ y, x / 2 = y := ⟨_, rfl⟩
  rw [hy] at hst hxm
  obtain ⟨q, hq, hqb⟩ : ∃ q : Nat, p * T = q ∧ q ≤ 128 := ⟨p * T, rfl, by rcases (show p = 0 ∨ p = 1 by omega) with h | h <;> rw [h] <;> omega⟩
  rw [hq] at hst
  have hor := or_i64 y q (by omega) (by omega)
  have hx3 : (x : Int) / 2 = ((y : Nat) : Int) := by rw [← hy]; rfl
  have hqi : (p : Int) * (T : Int) = (q : Int) := by rw [← Int.natCast_mul, hq]
  have hxt : x &&& t ≤ 1099511627776 := by omega
  have hw1 : IntKind.i64.wrap (((m + 1 : Nat) : Int) - 1) = (m : Int) := (IntWalk.i64_in _ ⟨by omega, by omega⟩).trans (by omega)
  have hw2 : wrap64 ((p : Int) * 2 ^ m) = (q : Int) := by
    rw [show ((p : Int) * 2 ^ m) = (q : Int) by rw [← hqi, ← HT.out]; simp]
    exact IntWalk.wrap64_in _ ⟨by omega, by omega⟩
  have HST := Lib.hid hst
  clear hst hq hT hqi hy hx ht
  unfold regV
  go_enter Try.func93, Try.ntmps93
  go_wp2
  have ho1 := own_lit w 74 3 [.int .i64 ((m + 1 : Nat) : Int), .int .i64 t, .int .i64 x] rfl (by unfold maxLen; omega)
  have hb1 : Below w.heap.size w (w.alloc (.cells #[.int .i64 ((m + 1 : Nat) : Int), .int .i64 t, .int .i64 x] 74)) := (Below.refl _ _).alloc (Nat.le_refl _) _
  generalize (w.alloc (.cells #[.int .i64 ((m + 1 : Nat) : Int), .int .i64 t, .int .i64 x] 74)) = wa at *
  have c0 : wa.cell? ⟨w.heap.size, 0, none⟩ = some (.int .i64 ((m + 1 : Nat) : Int)) := ho1.cellAt 0 (by omega)
  have c1 : wa.cell? ⟨w.heap.size, 1, none⟩ = some (.int .i64 t) := ho1.cellAt 1 (by omega)
  have c2 : wa.cell? ⟨w.heap.size, 2, none⟩ = some (.int .i64 x) := ho1.cellAt 2 (by omega)
  have HB := Lib.hid hb1
  clear ho1 hb1
  go_quiet ((go_at_call 97; refine (impl_parity_q (x &&& t) hxt _).mono ?_; rintro e w' ⟨rfl, rfl⟩; rw [hp]; exact ⟨rfl, _, rfl⟩))
  go_wp2
  go_ret
  exact ⟨ret_int (by rw [HST.out]), below_drewN ((Below.refl _ _).alloc (Nat.le_refl _) _) _⟩
set_option maxHeartbeats 400000 in
theorem impl_tapsValid (s t : Int) (w : World) :
    Calls Try.prog 74 #[.int .i64 s, .int .i64 t] w fun e w' => e = .returned (.bool (tapsB s t)) ∧ w = w' := by
  by_cases h1 : 2 ≤ s
  · by_cases h2 : s ≤ 8
    · have t1 := two_pos s
      have t2 := two_8 s h2
      have p3 : wrap64 (2 ^ s.toNat) = two s := IntWalk.wrap64_in (two s) ⟨by omega, by omega⟩
      by_cases h3 : 0 < t
      · have hc : tapsB s t = decide (t < two s) := by unfold tapsB within; rw [Bool.eq_iff_iff]; simp only [Bool.and_eq_true, decide_eq_true_eq]; omega
        rw [hc]
        clear hc
        go_enter Try.func74, Try.ntmps74
        go_wp2
        go_ret
        exact ⟨rfl, rfl⟩
      · have hc : tapsB s t = false := by unfold tapsB within; rw [Bool.eq_false_iff]; simp only [ne_eq, Bool.and_eq_true, decide_eq_true_eq]; omega
        rw [hc]
        clear hc
        go_enter Try.func74, Try.ntmps74
        go_wp2
        go_ret
        exact ⟨rfl, rfl⟩
    · have hc : tapsB s t = false := by unfold tapsB within; rw [Bool.eq_false_iff]; simp only [ne_eq, Bool.and_eq_true, decide_eq_true_eq]; omega
      rw [hc]
      clear hc
      go_enter Try.func74, Try.ntmps74
      go_wp2
      go_ret
      exact ⟨rfl, rfl⟩
  · have hc : tapsB s t = false := by unfold tapsB within; rw [Bool.eq_false_iff]; simp only [ne_eq, Bool.and_eq_true, decide_eq_true_eq]; omega
    rw [hc]
    clear hc
    go_enter Try.func74, Try.ntmps74
    go_wp2
    go_ret
    exact ⟨rfl, rfl⟩
set_option maxHeartbeats 1000000 in
theorem impl_RegisterValid (n t x : Nat) (w : World) (h2 : 2 ≤ n) (h8 : n ≤ 8) (h1 : 1 ≤ t) (ht : t < 2 ^ n) (hx : x < 2 ^ n) :
    Calls Try.prog 91 #[regV n t x] w fun e w' => e = .returned (.bool true) ∧ Below w.heap.size w w' := by
  have htb := tapsB_nat n t h2 h8
  rw [decide_eq_true h1, decide_eq_true ht] at htb
  have h3 := two_int n
  have h256 := pow_256 n h8
  have HTB := Lib.hid (show tapsB n t = true from htb)
  obtain ⟨N, hN⟩ : ∃ N, 2 ^ n = N := ⟨_, rfl⟩
  rw [hN] at h3 h256 hx
  have w1 : wrap64 (2 ^ n) = (N : Int) := (IntWalk.wrap64_in ((2 : Int) ^ n) (by rw [show (2 : Int) ^ n = (N : Int) by rw [← hN]; simp]; exact ⟨by omega, by omega⟩)).trans (by rw [← hN]; simp)
  have w2 : wrap64 (2 ^ (n : Int).toNat) = (N : Int) := w1
  have d1 : decide ((x : Int) < (N : Int)) = true := decide_eq_true (by omega)
  clear htb ht h1 h3 hN
  unfold regV
  go_enter Try.func91, Try.ntmps91
  go_wp2
  have ho1 := own_lit w 74 3 [.int .i64 n, .int .i64 t, .int .i64 x] rfl (by unfold maxLen; omega)
  have hb1 : Below w.heap.size w (w.alloc (.cells #[.int .i64 n, .int .i64 t, .int .i64 x] 74)) := (Below.refl _ _).alloc (Nat.le_refl _) _
  generalize (w.alloc (.cells #[.int .i64 n, .int .i64 t, .int .i64 x] 74)) = wa at *
  have c0 : wa.cell? ⟨w.heap.size, 0, none⟩ = some (.int .i64 n) := ho1.cellAt 0 (by omega)
  have c1 : wa.cell? ⟨w.heap.size, 1, none⟩ = some (.int .i64 t) := ho1.cellAt 1 (by omega)
  have c2 : wa.cell? ⟨w.heap.size, 2, none⟩ = some (.int .i64 x) := ho1.cellAt 2 (by omega)
  clear ho1
  go_quiet ((go_at_call 74; refine (impl_tapsValid _ _ _).mono ?_; rintro e w' ⟨rfl, rfl⟩; rw [HTB.out]; exact ⟨rfl, _, rfl⟩))
  go_wp2
  go_ret
  exact ⟨rfl, below_drewN hb1 _⟩

def visL (n t x k : Nat) : List Value := (List.range 256).map fun s => Value.int .i64 (seenI n t x k s + 1)
theorem visL_len (n t x k : Nat) : (visL n t x k).length = 256 := by simp [visL]
theorem visL_at (n t x k s : Nat) (h : s < 256) : (visL n t x k)[s]? = some (.int .i64 (seenI n t x k s + 1)) := by simp [visL, h]
theorem visL_zero (n t x : Nat) : visL n t x 0 = List.replicate 256 (.int .i64 0) := by
  unfold visL
  simp only [seenI_zero]
  rw [List.map_const', List.length_range]
  rfl
theorem visL_set (n t x k : Nat) (hs : st n t x k < 256) (h : seenI n t x k (st n t x k) = -1) : (visL n t x k).set (st n t x k) (.int .i64 ((k : Int) + 1)) = visL n t x (k + 1) := by
  apply List.ext_getElem?
  intro i
  rw [List.getElem?_set]
  by_cases hi : i < 256
  · rw [visL_at n t x (k + 1) i hi, seenI_new n t x k h i]
    by_cases hc : st n t x k = i
    · rw [if_pos hc, if_pos (by rw [visL_len]; exact hs), if_pos hc.symm]
    · rw [if_neg hc, if_neg (fun h => hc h.symm), visL_at n t x k i hi]
  · rw [List.getElem?_eq_none (l := visL n t x (k + 1)) (by rw [visL_len]; omega)]
    by_cases hc : st n t x k = i
    · omega
    · rw [if_neg hc, List.getElem?_eq_none (by rw [visL_len]; omega)]
set_option maxHeartbeats 4000000 in
theorem impl_orbitOf (n t x : Nat) (w : World) (h2 : 2 ≤ n) (h8 : n ≤ 8) (ht : t < 2 ^ n) (hx : x < 2 ^ n) :
    Calls Try.prog 96 #[regV n t x] w fun e w' => ∃ L : Int, e = .returned (.tuple #[.int .i64 L, .int .i64 (periodI n t x)]) ∧ Below w.heap.size w w' := by
  have h256 := pow_256 n h8
  have HTX := Lib.hid (show t < 2 ^ n ∧ x < 2 ^ n from ⟨ht, hx⟩)
  obtain ⟨N, hN⟩ : ∃ N, 2 ^ n = N := ⟨_, rfl⟩
  have HN := Lib.hid hN
  rw [hN] at h256
  clear ht hx hN
  unfold regV
  go_enter Try.func96, Try.ntmps96
  go_wp2_with fail
  have hzc : Try.zeroCells107 = (List.replicate 256 (Value.int .i64 0)).toArray := by kernel_rfl
  rw [hzc]
  have ho1 := (own_lit w 74 3 [.int .i64 n, .int .i64 t, .int .i64 x] rfl (by unfold maxLen; omega)).alloc (.cells (List.replicate 256 (Value.int .i64 0)).toArray 107)
  have ho2 := own_lit (w.alloc (.cells #[.int .i64 n, .int .i64 t, .int .i64 x] 74)) 107 256 (List.replicate 256 (Value.int .i64 0)) (List.length_replicate ..) (by unfold maxLen; omega)
  have hb0 : Below w.heap.size w ((w.alloc (.cells #[.int .i64 n, .int .i64 t, .int .i64 x] 74)).alloc (.cells (List.replicate 256 (Value.int .i64 0)).toArray 107)) := ((Below.refl _ _).alloc (Nat.le_refl _) _).alloc (by simp) _
  have hsz : (w.alloc (.cells #[.int .i64 n, .int .i64 t, .int .i64 x] 74)).heap.size = w.heap.size + 1 := by simp
  rw [hsz] at ho2
  generalize ((w.alloc (.cells #[.int .i64 n, .int .i64 t, .int .i64 x] 74)).alloc (.cells (List.replicate 256 (Value.int .i64 0)).toArray 107)) = wa at *
  have HO1 := Lib.hid ho1
  have HO2 := Lib.hid ho2
  have HB0 := Lib.hid hb0
  clear ho1 ho2 hb0 hsz hzc
  go_loopw [5] (fun v wr => ∃ k : Nat, k ≤ N ∧ v = .int .i64 k ∧ wr.ownsRow w.heap.size 74 1 (.slice (some ⟨w.heap.size, 0, none⟩) 3 3) 3 [.int .i64 n, .int .i64 t, .int .i64 (st n t x k : Nat)] ∧
      wr.ownsRow (w.heap.size + 1) 107 1 (.slice (some ⟨w.heap.size + 1, 0, none⟩) 256 256) 256 (visL n t x k) ∧ freshTo n t x k ∧ Below w.heap.size w wr) (fun v _ => N + 1 - (intOf v).toNat)
  case atStart => exact ⟨0, Nat.zero_le _, rfl, HO1.out, by rw [visL_zero]; exact HO2.out, fun j hj => absurd hj (by omega), HB0.out⟩
  case round =>
    obtain ⟨k, hk, rfl, o1, o3, hfr, hb2⟩ := hrel
    have hs := st_lt n t x k (by omega) HTX.out.2
    have HS := Lib.hid hs
    have hsN : st n t x k < N := by rw [← HN.out]; exact hs
    have HNX := Lib.hid (show st n t x (k + 1) = stepN n t (st n t x k) from rfl)
    have hc := o3.cellAt (st n t x k) (by omega)
    rw [visL_at n t x k _ (by omega)] at hc
    have HSET := Lib.hid (visL_set n t x k (by omega))
    have HFS := Lib.hid (fresh_succ n t x k hfr)
    have HNEG := Lib.hid (seenI_neg n t x k (st n t x k))
    have HSB := Lib.hid (seenI_bd n t x k (st n t x k))
    have HPW := Lib.hid (period_walk n t x k (by omega) HTX.out.2 hfr)
    clear hs hfr
    obtain ⟨y, hy⟩ : ∃ y, st n t x k = y := ⟨_, rfl⟩
    have HY := Lib.hid hy
    rw [hy] at o1 hc hsN HS HNX HNEG HSB HSET HFS HPW
    clear hy
    obtain ⟨z, hz⟩ : ∃ z, seenI n t x k y = z := ⟨_, rfl⟩
    have HZ := Lib.hid hz
    rw [hz] at hc HNEG HSB HSET HFS HPW
    clear hz
    have hf := o3.frozenAt y
    have c0 : wr.cell? ⟨w.heap.size, 0, none⟩ = some (.int .i64 n) := o1.cellAt 0 (by omega)
    have c1 : wr.cell? ⟨w.heap.size, 1, none⟩ = some (.int .i64 t) := o1.cellAt 1 (by omega)
    have c2 : wr.cell? ⟨w.heap.size, 2, none⟩ = some (.int .i64 y) := o1.cellAt 2 (by omega)
    by_cases hneg : z < 0
    · have hz1 := HNEG.out hneg
      subst hz1
      have HSET' := Lib.hid (HSET.out rfl)
      have hfs := HFS.out rfl
      have hkN := fresh_le n t x (k + 1) (by omega) HTX.out.2 hfs
      rw [HN.out] at hkN
      have HFS' := Lib.hid hfs
      replace hc : wr.cell? ⟨w.heap.size + 1, y, none⟩ = some (.int .i64 0) := hc
      clear HSET HFS hfs HPW
      have O1 := Lib.hid o1
      have O3 := Lib.hid o3
      clear o1 o3
      obtain ⟨wc, rfl⟩ : ∃ wc, wc = wr := ⟨_, rfl⟩
      go_wp2_with fail
      have hst := O3.out.stored y (.int .i64 ((k : Int) + 1))
      rw [HSET'.out] at hst
      have o1 := World.ownsRow.kept O1.out hst.2 (.inr (by show some (w.heap.size) ≠ some (w.heap.size + 1); intro h; injection h with h; omega))
      have o3 := hst.1
      have hb3 : Below w.heap.size w (wc.setCell ⟨w.heap.size + 1, y, none⟩ (.int .i64 ((k : Int) + 1))) := hb2.setCell (Nat.le_add_right _ _) _
      clear hst c0 c1 c2 hc hf O1 O3
      generalize wc.setCell ⟨w.heap.size + 1, y, none⟩ (.int .i64 ((k : Int) + 1)) = wd at *
      refine (impl_nextState n t y wd h2 h8 HTX.out.1 HS.out).mono ?_
      rintro e w2 ⟨rfl, hb4⟩
      have p1 := own_below o1 hb4
      have p3 := own_below o3 hb4
      have hB4 := hb3.trans (hb4.mono hb3.size)
      clear o1 o3 hb3 hb4
      have c0 : w2.cell? ⟨w.heap.size, 0, none⟩ = some (.int .i64 n) := p1.cellAt 0 (by omega)
      have c1 : w2.cell? ⟨w.heap.size, 1, none⟩ = some (.int .i64 t) := p1.cellAt 1 (by omega)
      have c2 : w2.cell? ⟨w.heap.size, 2, none⟩ = some (.int .i64 y) := p1.cellAt 2 (by omega)
      have f2 := p1.frozenAt 2
      have P1 := Lib.hid p1
      have P3 := Lib.hid p3
      clear p1 p3
      go_wp2
      go_roundw
      case rel =>
        have h3 := P1.out.stored 2 (.int .i64 (stepN n t y : Nat))
        exact ⟨k + 1, hkN, by go_num, by rw [HNX.out]; exact h3.1, World.ownsRow.kept P3.out h3.2 (.inr (by show some (w.heap.size + 1) ≠ some (w.heap.size); intro h; injection h with h; omega)), HFS'.out, hB4.setCell (Nat.le_refl _) _⟩
      case measure => simp [intOf] <;> omega
    · have hd : ((z + 1 : Int) == 0) = false := beq_eq_false_iff_ne.2 (by omega)
      have hzb := HSB.out
      have HP := Lib.hid (HPW.out hneg)
      clear HPW HSET HFS HNEG o1 o3
      go_wp2_with fail
      go_ret2
      exact ⟨⟨z, by rw [HP.out]; rfl⟩, hb2⟩

end Go.Proofs.Ytkebiigpfbconaa
