/- Plain law of the laws on signs, errors of bits and transforms. Conditions: none. -/
import Derived.Test.YtkebiigpfbconaaPureG
namespace Go.Proofs.Ytkebiigpfbconaa
open Go.RowKit
set_option linter.unusedSimpArgs false
set_option linter.unusedVariables false

/-! signs -/
theorem signsC_ways (zs : List Int) : signsC zs = ([], false) ∨ (sigB zs = true ∧ zs.length ≤ 600 ∧ signsC zs = (zs.map signC, true)) := by
  unfold signsC
  by_cases h : sigB zs = true ∧ zs.length ≤ 600
  · rw [if_pos h]; exact .inr ⟨h.1, h.2, rfl⟩
  · rw [if_neg h]; exact .inl rfl
theorem sign_scale (g z : Int) (h : 1 ≤ g) : signC (g * z) = signC z := by
  unfold signC
  by_cases hz : z < 0
  · rw [if_pos hz, if_pos (Int.mul_neg_of_pos_of_neg (by omega) hz)]
  · rw [if_neg hz, if_neg (by have := Int.mul_nonneg (show 0 ≤ g by omega) (show 0 ≤ z by omega); omega)]
theorem signs_scale (zs : List Int) (g : Int) (h : 1 ≤ g) (h1 : sigB (zs.map (g * ·)) = true) (h2 : zs.length ≤ 600) : signsC (zs.map (g * ·)) = (zs.map signC, true) := by
  unfold signsC
  rw [if_pos ⟨h1, by rw [List.length_map]; exact h2⟩, List.map_map]
  congr 1
  exact List.map_congr_left fun z _ => sign_scale g z h
theorem sign_clip (m z : Int) (h : 1 ≤ m) : signC (clipI m z) = signC z := by
  unfold signC clipI
  by_cases hz : z < 0
  · rw [if_pos hz, if_pos (by omega)]
  · rw [if_neg hz, if_neg (by omega)]
theorem signs_clip (zs : List Int) (m : Int) (h0 : sigB zs = true) (h : 1 ≤ m) (h1 : m ≤ 1000000) (h2 : zs.length ≤ 600) : signsC (zs.map (clipI m)) = (zs.map signC, true) := by
  unfold signsC
  rw [if_pos ⟨clip_sig zs m h0 (by omega) h1, by rw [List.length_map]; exact h2⟩, List.map_map]
  congr 1
  exact List.map_congr_left fun z _ => sign_clip m z h
theorem clipC_ok (zs : List Int) (m : Int) (h : sigB zs = true) (h0 : 0 ≤ m) (h1 : m ≤ 1000000) : clipC zs m = (zs.map (clipI m), true) := by
  unfold clipC
  rw [if_pos ⟨h, (within_iff _ _ _).2 ⟨h0, h1⟩⟩]

/-! errors of bits -/
theorem cnt_congr (p q : Nat → Bool) (n : Nat) (h : ∀ i, i < n → p i = q i) : cnt p n = cnt q n := by
  induction n with
  | zero => rfl
  | succ n ih =>
    show cnt p n + _ = cnt q n + _
    rw [ih fun i hi => h i (by omega), h n (by omega)]
theorem cnt_or (p q r : Nat → Bool) (n : Nat) (h : ∀ i, i < n → p i = true → q i = true ∨ r i = true) : cnt p n ≤ cnt q n + cnt r n := by
  induction n with
  | zero => exact Nat.zero_le _
  | succ n ih =>
    have h1 := ih fun i hi => h i (by omega)
    have h2 := h n (by omega)
    show cnt p n + (if p n = true then 1 else 0) ≤ cnt q n + (if q n = true then 1 else 0) + (cnt r n + (if r n = true then 1 else 0))
    by_cases hp : p n = true
    · rcases h2 hp with hq | hq
      · rw [if_pos hp, if_pos hq]; omega
      · rw [if_pos hp, if_pos hq]; omega
    · rw [if_neg hp]; omega
theorem cnt_zero (p : Nat → Bool) (n : Nat) (h : cnt p n = 0) : ∀ i, i < n → p i = false := by
  induction n with
  | zero => intro i hi; omega
  | succ n ih =>
    have h' : cnt p n + (if p n = true then 1 else 0) = 0 := h
    intro i hi
    rcases Nat.lt_succ_iff_lt_or_eq.1 hi with hi | rfl
    · exact ih (by omega) i hi
    · cases hc : p i with
      | false => rfl
      | true => rw [if_pos hc] at h'; omega
theorem hamm_symm (a b : List UInt8) (h : a.length = b.length) : hamm b a = hamm a b := by
  unfold hamm
  rw [h]
  refine cnt_congr _ _ _ fun i _ => ?_
  rw [Bool.eq_iff_iff, bne_iff_ne, bne_iff_ne]
  exact ⟨fun h => h.symm, fun h => h.symm⟩
theorem hamm_by (a b c : List UInt8) (h : a.length = c.length) : hamm a b ≤ hamm a c + hamm c b := by
  unfold hamm
  rw [h]
  refine cnt_or _ _ _ _ fun i _ hp => ?_
  by_cases h1 : a[i]? = c[i]?
  · right; rw [← h1]; exact hp
  · left; rw [bne_iff_ne]; exact h1
theorem hamm_le (a b : List UInt8) : hamm a b ≤ a.length := cnt_le _ _
theorem hamm_zero (a b : List UInt8) (h : a.length = b.length) : (hamm a b = 0) ↔ a = b := by
  constructor
  · intro h0
    apply List.ext_getElem?
    intro i
    by_cases hi : i < a.length
    · have := cnt_zero _ _ h0 i hi
      simpa using this
    · rw [List.getElem?_eq_none (by omega), List.getElem?_eq_none (by omega)]
  · rintro rfl
    show cnt _ _ = 0
    have : ∀ n, cnt (fun i => a[i]? != a[i]?) n = 0 := by
      intro n
      induction n with
      | zero => rfl
      | succ n ih => show cnt _ n + _ = 0; rw [ih]; simp
    exact this _
theorem hamm_int (a b : List UInt8) (h : a.length = b.length) : (((hamm a b : Nat) : Int) == 0) = (a == b) := by
  have := hamm_zero a b h
  by_cases h0 : a = b
  · rw [this.2 h0, h0]; simp
  · have h1 : ¬ hamm a b = 0 := fun h => h0 (this.1 h)
    have h2 : (a == b) = false := by simp [h0]
    rw [h2]
    simp; omega
theorem errsOf_ways (a b : List UInt8) : errsOf a b = -1 ∨ (bitsB a = true ∧ bitsB b = true ∧ a.length = b.length ∧ errsOf a b = (hamm a b : Int)) := by
  unfold errsOf
  by_cases h : bitsB a = true ∧ bitsB b = true ∧ a.length = b.length
  · rw [if_pos h]; exact .inr ⟨h.1, h.2.1, h.2.2, rfl⟩
  · rw [if_neg h]; exact .inl rfl
theorem errsOf_ok (a b : List UInt8) (h1 : bitsB a = true) (h2 : bitsB b = true) (h3 : a.length = b.length) : errsOf a b = (hamm a b : Int) := by
  unfold errsOf; rw [if_pos ⟨h1, h2, h3⟩]
theorem bitsB_rev (a : List UInt8) (h : bitsB a = true) : bitsB a.reverse = true := by
  obtain ⟨h1, h2⟩ := bitsB_parts a h
  simp only [bitsB, List.length_reverse, List.all_reverse, h2, Bool.and_true, decide_eq_true_eq]
  exact h1
theorem addBL_bits (a b : List UInt8) : (addBL a b).all isBit = true := by
  rw [List.all_eq_true]
  intro c hc
  obtain ⟨i, hi, rfl⟩ := List.getElem_of_mem hc
  simp only [addBL, List.getElem_zipWith]
  unfold xorC
  split <;> decide

/-! transforms -/
def sg (i k : Nat) : Int := if par (i &&& k) = 0 then 1 else -1
theorem sg_symm (i k : Nat) : sg i k = sg k i := by unfold sg; rw [Nat.and_comm]
theorem wterm_sg (zs : List Int) (i k : Nat) : wterm zs i k = sg i k * zs.getD k 0 := by unfold wterm sg; split <;> omega
theorem sumTo_congr (f g : Nat → Int) (n : Nat) (h : ∀ i, i < n → f i = g i) : sumTo f n = sumTo g n := by
  induction n with
  | zero => rfl
  | succ n ih => rw [sumTo_succ, sumTo_succ, ih fun i hi => h i (by omega), h n (by omega)]
theorem sumTo_add (f g : Nat → Int) (n : Nat) : sumTo (fun i => f i + g i) n = sumTo f n + sumTo g n := by
  induction n with
  | zero => rfl
  | succ n ih => rw [sumTo_succ, sumTo_succ, sumTo_succ, ih]; omega
theorem sumTo_mul (f : Nat → Int) (c : Int) (n : Nat) : sumTo (fun i => c * f i) n = c * sumTo f n := by
  induction n with
  | zero => show (0 : Int) = c * 0; omega
  | succ n ih => rw [sumTo_succ, sumTo_succ, ih, Int.mul_add]
theorem sumTo_zero (n : Nat) : sumTo (fun _ => 0) n = 0 := by
  induction n with
  | zero => rfl
  | succ n ih => rw [sumTo_succ, ih]; rfl
theorem sumTo_swap (f : Nat → Nat → Int) (n m : Nat) : sumTo (fun i => sumTo (f i) m) n = sumTo (fun j => sumTo (fun i => f i j) n) m := by
  induction n with
  | zero => show (0 : Int) = _; exact (sumTo_zero m).symm
  | succ n ih =>
    rw [sumTo_succ, ih, ← sumTo_add]
    rfl
theorem sumTo_pick (f : Nat → Int) (k n : Nat) (h : k < n) : sumTo (fun i => if i = k then f i else 0) n = f k := by
  induction n with
  | zero => omega
  | succ n ih =>
    rw [sumTo_succ]
    by_cases hk : k = n
    · subst hk
      rw [if_pos rfl, sumTo_congr _ (fun _ => 0) k fun i hi => if_neg (by omega), sumTo_zero]
      omega
    · rw [ih (by omega), if_neg (by omega)]; omega
theorem sumTo_pairs (f : Nat → Int) (n : Nat) : sumTo f (2 * n) = sumTo (fun i => f (2 * i) + f (2 * i + 1)) n := by
  induction n with
  | zero => rfl
  | succ n ih =>
    rw [show 2 * (n + 1) = 2 * n + 1 + 1 by omega, sumTo_succ, sumTo_succ, sumTo_succ, ih]
    omega
theorem par_and (i k : Nat) : par (i &&& k) = (i % 2 * (k % 2) + par (i / 2 &&& k / 2)) % 2 := by
  have h1 : (i &&& k) % 2 = i % 2 * (k % 2) := by
    have h0 := Nat.and_mod_two_eq_one (a := i) (b := k)
    rcases Nat.mod_two_eq_zero_or_one i with h | h <;> rcases Nat.mod_two_eq_zero_or_one k with h' | h' <;> rw [h, h'] <;> omega
  rw [par_step, h1, Nat.and_div_two]
theorem par_01 (n : Nat) : par n = 0 ∨ par n = 1 := by have := par_le n; omega
theorem sg_even (i k : Nat) : sg (2 * i) k = sg i (k / 2) := by
  unfold sg
  rw [par_and, show 2 * i % 2 = 0 by omega, show 2 * i / 2 = i by omega]
  rcases par_01 (i &&& k / 2) with h | h <;> rw [h] <;> simp
theorem sg_odd (i k : Nat) : sg (2 * i + 1) k = (if k % 2 = 0 then 1 else -1) * sg i (k / 2) := by
  unfold sg
  rw [par_and, show (2 * i + 1) % 2 = 1 by omega, show (2 * i + 1) / 2 = i by omega]
  rcases par_01 (i &&& k / 2) with h | h <;> rw [h] <;> rcases Nat.mod_two_eq_zero_or_one k with h' | h' <;> rw [h'] <;> simp
theorem sg_sq (i k : Nat) : sg i k * sg i k = 1 := by unfold sg; split <;> rfl
theorem sg_ortho (m : Nat) : ∀ j k : Nat, j < 2 ^ m → k < 2 ^ m → sumTo (fun i => sg i j * sg i k) (2 ^ m) = if j = k then (2 ^ m : Nat) else 0 := by
  induction m with
  | zero =>
    intro j k hj hk
    obtain rfl : j = 0 := by omega
    obtain rfl : k = 0 := by omega
    show 0 + sg 0 0 * sg 0 0 = _
    rw [sg_sq]; rfl
  | succ m ih =>
    intro j k hj hk
    rw [show 2 ^ (m + 1) = 2 * 2 ^ m by rw [Nat.pow_succ]; omega] at *
    rw [sumTo_pairs]
    have h1 : ∀ i, sg (2 * i) j * sg (2 * i) k + sg (2 * i + 1) j * sg (2 * i + 1) k = (if j % 2 = k % 2 then 2 else 0) * (sg i (j / 2) * sg i (k / 2)) := by
      intro i
      rw [sg_even, sg_even, sg_odd, sg_odd]
      rcases Nat.mod_two_eq_zero_or_one j with h | h <;> rcases Nat.mod_two_eq_zero_or_one k with h' | h' <;> rw [h, h'] <;> simp [Int.neg_mul, Int.mul_neg] <;> omega
    rw [sumTo_congr _ _ _ fun i _ => h1 i, sumTo_mul, ih _ _ (by omega) (by omega)]
    by_cases hc : j % 2 = k % 2
    · by_cases hd : j / 2 = k / 2
      · have hjk : j = k := by omega
        rw [if_pos hc, if_pos hd, if_pos hjk]; omega
      · have hjk : ¬ j = k := fun h => hd (by rw [h])
        rw [if_pos hc, if_neg hd, if_neg hjk]; omega
    · have hjk : ¬ j = k := fun h => hc (by rw [h])
      rw [if_neg hc, if_neg hjk]; omega
theorem wtranL_getD (zs : List Int) (i : Nat) (h : i < zs.length) : (wtranL zs).getD i 0 = sumTo (fun k => sg i k * zs.getD k 0) zs.length := by
  rw [List.getD_eq_getElem?_getD, wtranL_at zs i h, Option.getD_some]
  exact sumTo_congr _ _ _ fun k _ => wterm_sg zs i k
theorem wtran_twice (zs : List Int) (m : Nat) (hm : zs.length = 2 ^ m) (i : Nat) (h : i < zs.length) : (wtranL (wtranL zs)).getD i 0 = (zs.length : Int) * zs.getD i 0 := by
  rw [wtranL_getD _ i (by rw [wtranL_len]; exact h), wtranL_len]
  have h1 : ∀ k, k < zs.length → sg i k * (wtranL zs).getD k 0 = sumTo (fun j => zs.getD j 0 * (sg k i * sg k j)) zs.length := by
    intro k hk
    rw [wtranL_getD zs k hk, ← sumTo_mul]
    refine sumTo_congr _ _ _ fun j _ => ?_
    rw [sg_symm i k, ← Int.mul_assoc, Int.mul_comm (zs.getD j 0)]
  rw [sumTo_congr _ _ _ h1, sumTo_swap]
  have h2 : ∀ j, j < zs.length → sumTo (fun k => zs.getD j 0 * (sg k i * sg k j)) zs.length = if j = i then (zs.length : Int) * zs.getD j 0 else 0 := by
    intro j hj
    rw [sumTo_mul, hm, sg_ortho m i j (by omega) (by omega)]
    by_cases hij : i = j
    · rw [if_pos hij, if_pos hij.symm, Int.mul_comm]
    · rw [if_neg hij, if_neg (fun h => hij h.symm)]; omega
  rw [sumTo_congr _ _ _ h2, sumTo_pick _ i _ h]
theorem parseval (zs : List Int) (m : Nat) (hm : zs.length = 2 ^ m) : sumTo (fun i => (wtranL zs).getD i 0 * (wtranL zs).getD i 0) zs.length = (zs.length : Int) * sumTo (fun i => zs.getD i 0 * zs.getD i 0) zs.length := by
  have h1 : ∀ i, i < zs.length → (wtranL zs).getD i 0 * (wtranL zs).getD i 0 = sumTo (fun k => zs.getD k 0 * (sg k i * (wtranL zs).getD i 0)) zs.length := by
    intro i hi
    conv => lhs; lhs; rw [wtranL_getD zs i hi]
    rw [Int.mul_comm, ← sumTo_mul]
    refine sumTo_congr _ _ _ fun k _ => ?_
    rw [sg_symm i k, Int.mul_comm (sg k i) (zs.getD k 0), Int.mul_comm, Int.mul_assoc]
  rw [sumTo_congr _ _ _ h1, sumTo_swap, ← sumTo_mul]
  refine sumTo_congr _ _ _ fun k hk => ?_
  rw [sumTo_mul]
  have h2 := wtranL_getD (wtranL zs) k (by rw [wtranL_len]; exact hk)
  rw [wtran_twice zs m hm k hk, wtranL_len] at h2
  rw [← h2, ← Int.mul_assoc, ← Int.mul_assoc, Int.mul_comm (zs.getD k 0)]
theorem wtranC_ways (zs : List Int) : wtranC zs = [] ∨ ∃ m : Nat, m ≤ 6 ∧ zs.length = 2 ^ m ∧ (∀ z ∈ zs, -1000000 ≤ z ∧ z ≤ 1000000) ∧ wtranC zs = wtranL zs := by
  unfold wtranC
  by_cases h : 0 ≤ orderC zs.length ∧ zs.all (within (-1000000) 1000000) = true
  · rw [if_pos h]
    rcases orderC_ways zs.length with h1 | ⟨k, hk, hl, _⟩
    · omega
    · exact .inr ⟨k, hk, hl, all_within zs _ h.2, rfl⟩
  · rw [if_neg h]; exact .inl rfl
theorem wtranL_bd (zs : List Int) (m : Nat) (hm : m ≤ 6) (hl : zs.length = 2 ^ m) (h : ∀ z ∈ zs, -1000000 ≤ z ∧ z ≤ 1000000) (i : Nat) : -64000000 ≤ (wtranL zs).getD i 0 ∧ (wtranL zs).getD i 0 ≤ 64000000 := by
  have hp : 2 ^ m ≤ 2 ^ 6 := Nat.pow_le_pow_right (by omega) hm
  by_cases hi : i < zs.length
  · rw [List.getD_eq_getElem?_getD, wtranL_at zs i hi, Option.getD_some]
    have := wsum_bd zs h i zs.length
    omega
  · rw [List.getD_eq_getElem?_getD, List.getElem?_eq_none (by rw [wtranL_len]; omega), Option.getD_none]; omega
theorem wtranC_yes (zs : List Int) (m : Nat) (hm : m ≤ 6) (hl : zs.length = 2 ^ m) (h : ∀ z ∈ zs, -1000000 ≤ z ∧ z ≤ 1000000) : wtranC zs = wtranL zs := by
  unfold wtranC
  have h8 : orderC zs.length = (m : Int) := by
    rw [hl]
    refine orderC_some _ m hm (fun x hx => ?_) (by simp)
    have : 2 ^ x < 2 ^ m := Nat.pow_lt_pow_right (by omega) hx
    simp; omega
  rw [if_pos ⟨by omega, by rw [List.all_eq_true]; exact fun y hy => (within_iff _ _ _).2 (h y hy)⟩]

end Go.Proofs.Ytkebiigpfbconaa
