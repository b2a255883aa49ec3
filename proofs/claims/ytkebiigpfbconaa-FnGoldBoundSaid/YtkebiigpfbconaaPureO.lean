/- The correlations of a family of Gold codes: plain law. Conditions: as each theorem says. -/
import Derived.Test.YtkebiigpfbconaaPureL
import Derived.Test.YtkebiigpfbconaaPureZ
import Derived.Test.YtkebiigpfbconaaR9
import Derived.Test.YtkebiigpfbconaaV2
namespace Go.Proofs.Ytkebiigpfbconaa
open Go.RowKit
set_option linter.unusedSimpArgs false
set_option linter.unusedVariables false
set_option maxRecDepth 100000

/-! states are added without carries -/
theorem xor_mod2 (a b : Nat) : (a ^^^ b) % 2 = (a % 2 + b % 2) % 2 := by
  have h := Nat.xor_mod_two_pow (a := a) (b := b) (n := 1)
  rw [Nat.pow_one] at h
  rw [h]; exact xor01 (a % 2) (b % 2) (by omega) (by omega)
theorem step_split (m p y : Nat) (hy : y < 2 ^ m) : (y + p * 2 ^ m) % 2 ^ m = y ∧ (y + p * 2 ^ m) / 2 ^ m = p := by
  constructor
  · rw [Nat.add_mul_mod_self_right, Nat.mod_eq_of_lt hy]
  · rw [Nat.add_mul_div_right _ _ (Nat.two_pow_pos m), Nat.div_eq_of_lt hy, Nat.zero_add]
theorem xor_split (m p q y z : Nat) (hy : y < 2 ^ m) (hz : z < 2 ^ m) (hp : p ≤ 1) (hq : q ≤ 1) : (y + p * 2 ^ m) ^^^ (z + q * 2 ^ m) = (y ^^^ z) + (p + q) % 2 * 2 ^ m := by
  have h1 := step_split m p y hy
  have h2 := step_split m q z hz
  have hd := Nat.div_add_mod ((y + p * 2 ^ m) ^^^ (z + q * 2 ^ m)) (2 ^ m)
  rw [Nat.xor_div_two_pow, Nat.xor_mod_two_pow, h1.1, h1.2, h2.1, h2.2, xor01 p q hp hq] at hd
  rw [← hd, Nat.mul_comm (2 ^ m), Nat.add_comm]
theorem stepN_xor (n t x y : Nat) (hn : 1 ≤ n) (hx : x < 2 ^ n) (hy : y < 2 ^ n) : stepN n t (x ^^^ y) = stepN n t x ^^^ stepN n t y := by
  obtain ⟨m, rfl⟩ : ∃ m, n = m + 1 := ⟨n - 1, by omega⟩
  have hx2 : x / 2 < 2 ^ m := by rw [Nat.pow_succ] at hx; omega
  have hy2 : y / 2 < 2 ^ m := by rw [Nat.pow_succ] at hy; omega
  unfold stepN
  rw [Nat.add_sub_cancel, xor_split m _ _ _ _ hx2 hy2 (par_le _) (par_le _), Nat.xor_div_two, Nat.and_xor_distrib_right,
    par_xor]
theorem st_xor (n t x y i : Nat) (hn : 1 ≤ n) (hx : x < 2 ^ n) (hy : y < 2 ^ n) : st n t (x ^^^ y) i = st n t x i ^^^ st n t y i := by
  induction i with
  | zero => rfl
  | succ i ih =>
    show stepN n t (st n t (x ^^^ y) i) = stepN n t (st n t x i) ^^^ stepN n t (st n t y i)
    rw [ih, stepN_xor n t _ _ hn (st_lt n t x i hn hx) (st_lt n t y i hn hy)]
theorem st_add (n t x i j : Nat) : st n t x (i + j) = st n t (st n t x i) j := by
  induction j with
  | zero => rfl
  | succ j ih => show stepN n t (st n t x (i + j)) = stepN n t (st n t (st n t x i) j); rw [ih]
theorem st_zero (n t i : Nat) : st n t 0 i = 0 := by
  induction i with
  | zero => rfl
  | succ i ih =>
    show stepN n t (st n t 0 i) = 0
    rw [ih]; unfold stepN; rw [Nat.zero_and, par_zero]; simp
/-! what follows for a maximal register -/
theorem st_N {n t : Nat} (h : MaxF n t) (x : Nat) (hx : x < 2 ^ n) : st n t x (2 ^ n - 1) = x := by
  by_cases h0 : x = 0
  · subst h0; exact st_zero _ _ _
  · obtain ⟨j, hj, rfl⟩ := h.all x (by omega) hx
    rw [← st_add, Nat.add_comm, st_add, h.back]
theorem st_mod {n t : Nat} (h : MaxF n t) (hn : 0 < 2 ^ n - 1) (x : Nat) (hx : x < 2 ^ n) (m : Nat) : st n t x (m % (2 ^ n - 1)) = st n t x m := by
  induction m using Nat.strongRecOn with
  | ind m ih =>
    by_cases hm : m < 2 ^ n - 1
    · rw [Nat.mod_eq_of_lt hm]
    · rw [Nat.mod_eq_sub_mod (by omega), ih (m - (2 ^ n - 1)) (by omega)]
      have e : m = 2 ^ n - 1 + (m - (2 ^ n - 1)) := by omega
      conv => rhs; rw [e]
      rw [st_add, st_N h x hx]
theorem st_pos {n t : Nat} (h : MaxF n t) (hn : 0 < 2 ^ n - 1) (x : Nat) (hx : x < 2 ^ n) (h0 : x ≠ 0) (j : Nat) : st n t x j ≠ 0 := by
  intro e
  rw [← st_mod h hn x hx] at e
  have hr : j % (2 ^ n - 1) < 2 ^ n - 1 := Nat.mod_lt _ hn
  have h1 := st_N h x hx
  rw [show 2 ^ n - 1 = j % (2 ^ n - 1) + (2 ^ n - 1 - j % (2 ^ n - 1)) by omega, st_add, e, st_zero] at h1
  exact h0 h1.symm
theorem st_one {n t : Nat} (h : MaxF n t) (j : Nat) (hj : j < 2 ^ n - 1) (e : st n t 1 j = 1) : j = 0 := by
  rcases Nat.eq_zero_or_pos j with h0 | h0
  · exact h0
  · exact absurd e (h.once j h0 hj)
theorem st_inj {n t : Nat} (h : MaxF n t) (i j : Nat) (hij : i < j) (hj : j < 2 ^ n - 1) : st n t 1 i ≠ st n t 1 j := by
  intro e
  have h1 : st n t 1 (2 ^ n - 1) = st n t 1 (2 ^ n - 1 + (j - i)) := by
    rw [show 2 ^ n - 1 = i + (2 ^ n - 1 - i) by omega, st_add, e, ← st_add]
    congr 1
    omega
  rw [st_add, h.back] at h1
  exact h.once (j - i) (by omega) (by omega) h1.symm
/-! codes -/
def bitS (n a b x y i : Nat) : Nat := (st n a x i % 2 + st n b y i % 2) % 2
def cdL (n a b x y : Nat) : List UInt8 := (List.range (2 ^ n - 1)).map fun i => bitC (bitS n a b x y i)
theorem cdL_len (n a b x y : Nat) : (cdL n a b x y).length = 2 ^ n - 1 := by simp [cdL]
theorem cdL_at (n a b x y i : Nat) (h : i < 2 ^ n - 1) : (cdL n a b x y)[i]? = some (bitC (bitS n a b x y i)) := by simp [cdL, h]
theorem cdL_bits (n a b x y : Nat) : (cdL n a b x y).all isBit = true := by
  rw [List.all_eq_true]
  intro c hc
  obtain ⟨i, _, rfl⟩ := List.mem_map.1 hc
  exact bitC_bit _
theorem bitC_beq (p q : Nat) (hp : p ≤ 1) (hq : q ≤ 1) : (bitC p == bitC q) = (p == q) := by
  have h1 : p = 0 ∨ p = 1 := by omega
  have h2 : q = 0 ∨ q = 1 := by omega
  rcases h1 with rfl | rfl <;> rcases h2 with rfl | rfl <;> rfl
theorem xorC_bitC (p q : Nat) (hp : p ≤ 1) (hq : q ≤ 1) : xorC (bitC p) (bitC q) = bitC ((p + q) % 2) := by
  have h1 : p = 0 ∨ p = 1 := by omega
  have h2 : q = 0 ∨ q = 1 := by omega
  rcases h1 with rfl | rfl <;> rcases h2 with rfl | rfl <;> rfl
def fF (n a b X Y : Nat) : Int := sumTo (fun i => sgN (st n a X i + st n b Y i)) (2 ^ n - 1)
theorem cor_cd {n a b : Nat} (ha : MaxF n a) (hb : MaxF n b) (hn : 1 ≤ n) (x y x' y' s : Nat) (hx : x < 2 ^ n) (hy : y < 2 ^ n) (hx' : x' < 2 ^ n) (hy' : y' < 2 ^ n) :
    corL (cdL n a b x y) (cdL n a b x' y') s = fF n a b (x ^^^ st n a x' s) (y ^^^ st n b y' s) := by
  have h1 : 0 < 2 ^ n - 1 := by have := Nat.one_lt_two_pow (n := n) (by omega); omega
  unfold corL fF
  rw [cdL_len]
  refine sumTo_congr _ _ _ fun i hi => ?_
  have hm : (i + s) % (2 ^ n - 1) < 2 ^ n - 1 := Nat.mod_lt _ h1
  have e1 : st n a x' ((i + s) % (2 ^ n - 1)) = st n a (st n a x' s) i := by rw [st_mod ha h1 x' hx', Nat.add_comm, st_add]
  have e2 : st n b y' ((i + s) % (2 ^ n - 1)) = st n b (st n b y' s) i := by rw [st_mod hb h1 y' hy', Nat.add_comm, st_add]
  unfold corP
  rw [cdL_len, cdL_at n a b x y i hi, cdL_at n a b x' y' _ hm, some_beq, bitC_beq _ _ (by unfold bitS; omega) (by unfold bitS; omega),
    st_xor n a x _ i hn hx (st_lt n a x' s hn hx'), st_xor n b y _ i hn hy (st_lt n b y' s hn hy')]
  unfold bitS sgN
  rw [e1, e2]
  have m1 := xor_mod2 (st n a x i) (st n a (st n a x' s) i)
  have m2 := xor_mod2 (st n b y i) (st n b (st n b y' s) i)
  generalize st n a x i ^^^ st n a (st n a x' s) i = P at m1 ⊢
  generalize st n b y i ^^^ st n b (st n b y' s) i = Q at m2 ⊢
  generalize st n a x i = A at m1 ⊢
  generalize st n a (st n a x' s) i = B at m1 ⊢
  generalize st n b y i = C at m2 ⊢
  generalize st n b (st n b y' s) i = D at m2 ⊢
  by_cases hc : (A % 2 + C % 2) % 2 = (B % 2 + D % 2) % 2
  · rw [if_pos (by rw [hc]; simp), if_pos (by omega)]
  · rw [if_neg (by simpa using hc), if_neg (by omega)]
theorem st_at {n t : Nat} (h : MaxF n t) (hn : 0 < 2 ^ n - 1) (h1 : 1 < 2 ^ n) (p i : Nat) : st n t (st n t 1 p) i = st n t 1 ((i + p) % (2 ^ n - 1)) := by
  rw [st_mod h hn 1 h1, ← st_add, Nat.add_comm]
theorem fF_X0 {n a b : Nat} (ha : MaxF n a) (h1 : 1 < 2 ^ n) (X : Nat) (h0 : X ≠ 0) (hX : X < 2 ^ n) : fF n a b X 0 = -1 := by
  have hn : 0 < 2 ^ n - 1 := by omega
  obtain ⟨p, hp, rfl⟩ := ha.all X (by omega) hX
  unfold fF
  rw [← ha.sum, ← sumTo_cyc (fun i => sgN (st n a 1 i)) (2 ^ n - 1) hn p]
  exact sumTo_congr _ _ _ fun i hi => by rw [st_zero, Nat.add_zero, st_at ha hn h1]
theorem fF_0Y {n a b : Nat} (hb : MaxF n b) (h1 : 1 < 2 ^ n) (Y : Nat) (h0 : Y ≠ 0) (hY : Y < 2 ^ n) : fF n a b 0 Y = -1 := by
  have hn : 0 < 2 ^ n - 1 := by omega
  obtain ⟨p, hp, rfl⟩ := hb.all Y (by omega) hY
  unfold fF
  rw [← hb.sum, ← sumTo_cyc (fun i => sgN (st n b 1 i)) (2 ^ n - 1) hn p]
  exact sumTo_congr _ _ _ fun i hi => by rw [st_zero, Nat.zero_add, st_at hb hn h1]
theorem fF_XY {n a b : Nat} (ha : MaxF n a) (hb : MaxF n b) (hn1 : 1 ≤ n) (h1 : 1 < 2 ^ n) (X Y : Nat) (h0 : X ≠ 0) (hX : X < 2 ^ n) (h0' : Y ≠ 0) (hY : Y < 2 ^ n) : ∃ r, r < 2 ^ n - 1 ∧ fF n a b X Y = fF n a b 1 (st n b 1 r) := by
  have hn : 0 < 2 ^ n - 1 := by omega
  obtain ⟨p, hp, rfl⟩ := ha.all X (by omega) hX
  obtain ⟨r, hr, hre⟩ := hb.all (st n b Y (2 ^ n - 1 - p)) (by have := st_pos hb hn Y hY h0' (2 ^ n - 1 - p); omega) (st_lt n b Y _ hn1 hY)
  refine ⟨r, hr, ?_⟩
  rw [hre]
  unfold fF
  rw [← sumTo_cyc (fun i => sgN (st n a 1 i + st n b (st n b Y (2 ^ n - 1 - p)) i)) (2 ^ n - 1) hn p]
  refine sumTo_congr _ _ _ fun i hi => ?_
  show _ = sgN (st n a 1 ((i + p) % (2 ^ n - 1)) + st n b (st n b Y (2 ^ n - 1 - p)) ((i + p) % (2 ^ n - 1)))
  rw [st_at ha hn h1, st_mod hb hn _ (st_lt n b Y _ hn1 hY), ← st_add, show 2 ^ n - 1 - p + (i + p) = 2 ^ n - 1 + i by omega, st_add n b Y, st_N hb Y hY]
/-! the family -/
def fx (j : Nat) : Nat := if j = 1 then 0 else 1
def fy (n b j : Nat) : Nat := if j = 0 then 0 else if j = 1 then 1 else st n b 1 (j - 2)
theorem run_cd1 (n a b : Nat) : runL n a 1 (2 ^ n - 1) = cdL n a b 1 0 := by
  unfold runL cdL
  refine List.map_congr_left fun i _ => ?_
  unfold bitS
  rw [st_zero, Nat.zero_mod, Nat.add_zero, Nat.mod_mod]
theorem run_cd2 (n a b : Nat) : runL n b 1 (2 ^ n - 1) = cdL n a b 0 1 := by
  unfold runL cdL
  refine List.map_congr_left fun i _ => ?_
  unfold bitS
  rw [st_zero, Nat.zero_mod, Nat.zero_add, Nat.mod_mod]
theorem gold_cd {n a b : Nat} (hb : MaxF n b) (h1 : 1 < 2 ^ n) (j : Nat) (hj : j < 2 ^ n + 1) : goldL n a b ((j : Int) - 2) = cdL n a b (fx j) (fy n b j) := by
  have hn : 0 < 2 ^ n - 1 := by omega
  by_cases h0 : j = 0
  · subst h0
    rw [show ((0 : Nat) : Int) - 2 = -2 by omega, goldL_a, run_cd1 n a b]; rfl
  · by_cases h2 : j = 1
    · subst h2
      rw [show ((1 : Nat) : Int) - 2 = -1 by omega, goldL_b, run_cd2 n a b]; rfl
    · obtain ⟨k, rfl⟩ : ∃ k, j = k + 2 := ⟨j - 2, by omega⟩
      have hk : k < 2 ^ n - 1 := by omega
      have hrl : (runL n b 1 (2 ^ n - 1)).length = 2 ^ n - 1 := runL_len _ _ _ _
      have hro : (rotL (runL n b 1 (2 ^ n - 1)) k).length = 2 ^ n - 1 := by rw [rotL_len _ _ (by omega), hrl]
      rw [show ((k + 2 : Nat) : Int) - 2 = (k : Int) by omega, goldL_k]
      unfold fx fy
      rw [if_neg h2, if_neg h0, if_neg h2, Nat.add_sub_cancel]
      apply List.ext_getElem?
      intro i
      by_cases hi : i < 2 ^ n - 1
      · have hm : (i + k) % (2 ^ n - 1) < 2 ^ n - 1 := Nat.mod_lt _ hn
        rw [addBL_at _ _ i _ _ (runL_at n a 1 _ i hi) (show (rotL (runL n b 1 (2 ^ n - 1)) k)[i]? = some (bitC (st n b 1 ((i + k) % (2 ^ n - 1)) % 2)) by
          rw [rotL_at _ _ _ (by omega) (by omega), hrl, runL_at n b 1 _ _ hm]), cdL_at n a b _ _ i hi, xorC_bitC _ _ (by omega) (by omega)]
        unfold bitS
        rw [st_at hb hn h1]
      · rw [List.getElem?_eq_none (by rw [addBL_len _ _ (by rw [runL_len, hro]), runL_len]; omega), List.getElem?_eq_none (by rw [cdL_len]; omega)]
theorem fx_lt (n j : Nat) (h1 : 1 < 2 ^ n) : fx j < 2 ^ n := by unfold fx; split <;> omega
theorem fy_lt (n b j : Nat) (hn : 1 ≤ n) (h1 : 1 < 2 ^ n) : fy n b j < 2 ^ n := by
  unfold fy
  split
  · omega
  · split
    · omega
    · exact st_lt n b 1 _ hn h1
theorem xor_zero_iff (x y : Nat) (h : x ^^^ y = 0) : x = y := by
  have h2 := congrArg (fun z => z ^^^ y) h
  simp only [Nat.xor_assoc, Nat.xor_self, Nat.xor_zero, Nat.zero_xor] at h2
  exact h2
theorem gold_apart {n a b : Nat} (ha : MaxF n a) (hb : MaxF n b) (h1 : 1 < 2 ^ n) (i j s : Nat) (hi : i < 2 ^ n + 1) (hj : j < 2 ^ n + 1) (hs : s < 2 ^ n - 1) (hne : ¬ (i = j ∧ s = 0)) :
    ¬ (fx i ^^^ st n a (fx j) s = 0 ∧ fy n b i ^^^ st n b (fy n b j) s = 0) := by
  rintro ⟨e1, e2⟩
  have hn : 0 < 2 ^ n - 1 := by omega
  replace e1 := xor_zero_iff _ _ e1
  replace e2 := xor_zero_iff _ _ e2
  by_cases hj1 : j = 1
  · subst hj1
    have hx : st n a (fx 1) s = 0 := st_zero n a s
    rw [hx] at e1
    have hi1 : i = 1 := by
      unfold fx at e1
      by_cases h : i = 1
      · exact h
      · rw [if_neg h] at e1; omega
    subst hi1
    exact hne ⟨rfl, st_one hb s hs e2.symm⟩
  · have hfj : fx j = 1 := by unfold fx; rw [if_neg hj1]
    rw [hfj] at e1
    have hi1 : i ≠ 1 := by
      rintro rfl
      exact st_pos ha hn 1 h1 (by decide) s e1.symm
    have hfi : fx i = 1 := by unfold fx; rw [if_neg hi1]
    rw [hfi] at e1
    have hs0 := st_one ha s hs e1.symm
    subst hs0
    have e3 : fy n b i = fy n b j := e2
    unfold fy at e3
    rw [if_neg hi1, if_neg hj1] at e3
    by_cases hi0 : i = 0
    · by_cases hj0 : j = 0
      · exact hne ⟨by rw [hi0, hj0], rfl⟩
      · rw [if_pos hi0, if_neg hj0] at e3
        exact st_pos hb hn 1 h1 (by decide) (j - 2) e3.symm
    · by_cases hj0 : j = 0
      · rw [if_neg hi0, if_pos hj0] at e3
        exact st_pos hb hn 1 h1 (by decide) (i - 2) e3
      · rw [if_neg hi0, if_neg hj0] at e3
        rcases Nat.lt_trichotomy (i - 2) (j - 2) with h | h | h
        · exact st_inj hb _ _ h (by omega) e3
        · exact hne ⟨by omega, rfl⟩
        · exact st_inj hb _ _ h (by omega) e3.symm
theorem pref_at (n a b : Nat) (h2 : 2 ≤ n) (h6 : n ≤ 6) (hp : prefN n a b = true) (r : Nat) (hr : r < 2 ^ n - 1) : goodV (goldB n) (corL (runL n a 1 (2 ^ n - 1)) (runL n b 1 (2 ^ n - 1)) r) = true := by
  have h64 : 2 ^ n ≤ 64 := by have h7 : 2 ^ n ≤ 2 ^ 6 := Nat.pow_le_pow_right (by omega) h6; exact h7
  unfold prefN at hp
  refine List.all_eq_true.1 hp _ ((valsL_ok _).2 _ |>.2 ?_)
  have hpb : pairB (ofL (runL n a 1 (2 ^ n - 1))) (ofL (runL n b 1 (2 ^ n - 1))) = true := by
    unfold pairB
    rw [ofL_list, ofL_list, runL_seq n a 1 _ (by omega) (by omega), runL_seq n b 1 _ (by omega) (by omega), size_ofL, size_ofL, runL_len, runL_len]
    simp
  unfold tabL
  rw [if_pos hpb, ofL_list, ofL_list]
  exact (corsL_mem _ _ _).2 ⟨r, by rw [runL_len]; exact hr, rfl⟩
theorem gold_abs {n a b : Nat} (ha : MaxF n a) (hb : MaxF n b) (h2 : 2 ≤ n) (h6 : n ≤ 6) (hp : prefN n a b = true) (X Y : Nat) (hX : X < 2 ^ n) (hY : Y < 2 ^ n) (hne : ¬ (X = 0 ∧ Y = 0)) : absI (fF n a b X Y) ≤ goldB n := by
  have h1 : 1 < 2 ^ n := Nat.one_lt_two_pow (by omega)
  have ht : 2 ≤ goldB n := by
    unfold goldB
    rw [if_pos ⟨by omega, by omega⟩]
    have := two_pos (((n : Int) + 2) / 2)
    omega
  by_cases hX0 : X = 0
  · subst hX0
    rw [fF_0Y hb h1 Y (fun e => hne ⟨rfl, e⟩) hY]
    unfold absI; omega
  · by_cases hY0 : Y = 0
    · subst hY0
      rw [fF_X0 ha h1 X hX0 hX]
      unfold absI; omega
    · obtain ⟨r, hr, he⟩ := fF_XY ha hb (by omega) h1 X Y hX0 hX hY0 hY
      have hg := pref_at n a b h2 h6 hp r hr
      rw [run_cd1 n a b, run_cd2 n a b, cor_cd ha hb (by omega) 1 0 0 1 r h1 (by omega) (by omega) h1, st_zero, Nat.xor_zero, Nat.zero_xor] at hg
      rw [he]
      generalize fF n a b 1 (st n b 1 r) = z at hg ⊢
      unfold goodV at hg
      simp only [Bool.or_eq_true, beq_iff_eq] at hg
      unfold absI
      omega
theorem gold_cor {n a b : Nat} (ha : MaxF n a) (hb : MaxF n b) (h2 : 2 ≤ n) (h6 : n ≤ 6) (hp : prefN n a b = true) (i j s : Nat) (hi : i < 2 ^ n + 1) (hj : j < 2 ^ n + 1) (hs : s < 2 ^ n - 1) (hne : ¬ (i = j ∧ s = 0)) :
    absI (corL (goldL n a b ((i : Int) - 2)) (goldL n a b ((j : Int) - 2)) s) ≤ goldB n := by
  have h1 : 1 < 2 ^ n := Nat.one_lt_two_pow (by omega)
  rw [gold_cd hb h1 i hi, gold_cd hb h1 j hj, cor_cd ha hb (by omega) _ _ _ _ s (fx_lt n i h1) (fy_lt n b i (by omega) h1) (fx_lt n j h1) (fy_lt n b j (by omega) h1)]
  exact gold_abs ha hb h2 h6 hp _ _ (Nat.xor_lt_two_pow (fx_lt n i h1) (st_lt n a _ s (by omega) (fx_lt n j h1))) (Nat.xor_lt_two_pow (fy_lt n b i (by omega) h1) (st_lt n b _ s (by omega) (fy_lt n b j (by omega) h1))) (gold_apart ha hb h1 i j s hi hj hs hne)
theorem gold_fam (n a b : Nat) (h2 : 2 ≤ n) (h6 : n ≤ 6) : famB (famK n a b (2 ^ n + 1)) = true ∧ ((famK n a b (2 ^ n + 1)).headD []).length = 2 ^ n - 1 := by
  have h64 : 2 ^ n ≤ 64 := by have h7 : 2 ^ n ≤ 2 ^ 6 := Nat.pow_le_pow_right (by omega) h6; exact h7
  have h4 : 4 ≤ 2 ^ n := by have h7 : 2 ^ 2 ≤ 2 ^ n := Nat.pow_le_pow_right (by omega) h2; exact h7
  have hsq : ∀ j : Nat, j < 2 ^ n + 1 → seqB (goldL n a b ((j : Int) - 2)) = true ∧ (goldL n a b ((j : Int) - 2)).length = 2 ^ n - 1 := fun j hj => by
    have hl := goldL_len n a b ((j : Int) - 2) (by omega)
    refine ⟨?_, hl⟩
    unfold seqB
    rw [hl, goldL_bits, decide_eq_true (by omega), decide_eq_true (by omega)]; rfl
  have hh : (famK n a b (2 ^ n + 1)).headD [] = goldL n a b ((0 : Nat) - 2 : Int) := by
    rw [List.headD_eq_head?_getD, List.head?_eq_getElem?, famK_at n a b _ 0 (by omega)]; rfl
  refine ⟨fam_mk _ (by rw [famK_len]; omega) (by rw [famK_len]; omega) fun i x hx => ?_, by rw [hh]; exact (hsq 0 (by omega)).2⟩
  have hi : i < 2 ^ n + 1 := by rw [← famK_len n a b (2 ^ n + 1)]; exact (List.getElem?_eq_some_iff.1 hx).1
  rw [famK_at n a b _ i hi] at hx
  injection hx with hx
  subst hx
  rw [hh, (hsq i hi).1, (hsq 0 (by omega)).1, (hsq i hi).2, (hsq 0 (by omega)).2]; simp
theorem gold_worst {n a b : Nat} (ha : MaxF n a) (hb : MaxF n b) (h2 : 2 ≤ n) (h6 : n ≤ 6) (hp : prefN n a b = true) : worstC (famK n a b (2 ^ n + 1)) ≤ goldB n := by
  obtain ⟨hf, hl⟩ := gold_fam n a b h2 h6
  have ht : 2 ≤ goldB n := by
    unfold goldB
    rw [if_pos ⟨by omega, by omega⟩]
    have := two_pos (((n : Int) + 2) / 2)
    omega
  unfold worstC
  rw [hf, if_pos rfl, hl]
  rcases w1_att (famK n a b (2 ^ n + 1)) (2 ^ n - 1) (famK n a b (2 ^ n + 1)).length with h | ⟨i, j, s, hi, hij, hj, hs, h⟩
  · rw [h]; omega
  · rw [h]
    rw [famK_len] at hi hj
    unfold gW
    by_cases hc : i = j ∧ s = 0
    · rw [if_pos hc]; omega
    · rw [if_neg hc, List.getD_eq_getElem?_getD, List.getD_eq_getElem?_getD, famK_at n a b _ i hi, famK_at n a b _ j hj]
      exact gold_cor ha hb h2 h6 hp i j s hi hj hs hc
theorem cor_self (l : List UInt8) (m : List UInt8) (j : Nat) (hlm : l.length = m.length) (hj : j < m.length) (h : rotL m j = l) : corL l m j = l.length := by
  have : ∀ k, k ≤ l.length → sumTo (fun i => if corP l m j i = true then 1 else -1) k = (k : Int) := by
    intro k hk
    induction k with
    | zero => rfl
    | succ k ih =>
      have hkl : k < m.length := by omega
      have : corP l m j k = true := by
        unfold corP
        rw [← h, rotL_at m j k (by omega) hkl]
        simp
      rw [sumTo_succ, ih (by omega), this, if_pos rfl]; omega
  exact this _ (Nat.le_refl _)
theorem gold_shift {n a b : Nat} (ha : MaxF n a) (hb : MaxF n b) (h3 : 3 ≤ n) (h6 : n ≤ 6) (hp : prefN n a b = true) (i k j : Nat) (hki : k < i) (hi : i < 2 ^ n + 1) (hj : j < 2 ^ n - 1) :
    rotL (goldL n a b ((i : Int) - 2)) j ≠ goldL n a b ((k : Int) - 2) := by
  intro e
  have hli := goldL_len n a b ((i : Int) - 2) (by omega)
  have hlk := goldL_len n a b ((k : Int) - 2) (by omega)
  have hc := gold_cor ha hb (by omega) h6 hp k i j (by omega) hi hj (by omega)
  rw [cor_self _ _ j (by rw [hli, hlk]) (by rw [hli]; exact hj) e, hlk] at hc
  rcases (show n = 3 ∨ n = 4 ∨ n = 5 ∨ n = 6 by omega) with rfl | rfl | rfl | rfl <;> exact absurd hc (by decide)

end Go.Proofs.Ytkebiigpfbconaa
