/- The greatest correlation of a family: what it is the greatest of, and what does not change it. Conditions: as each theorem says. -/
import Derived.Test.YtkebiigpfbconaaPureK
namespace Go.Proofs.Ytkebiigpfbconaa
open Go.RowKit
set_option linter.unusedSimpArgs false
set_option linter.unusedVariables false

theorem w3_ge (us : List (List UInt8)) (i j : Nat) (m : Int) (n : Nat) : m ≤ w3 us i j m n ∧ ∀ s, s < n → gW us i j s ≤ w3 us i j m n := by
  induction n with
  | zero => exact ⟨Int.le_refl _, fun s hs => absurd hs (Nat.not_lt_zero _)⟩
  | succ n ih =>
    have e : w3 us i j m (n + 1) = max (w3 us i j m n) (gW us i j n) := rfl
    rw [e]
    refine ⟨by have := ih.1; omega, fun s hs => ?_⟩
    by_cases h : s = n
    · subst h; omega
    · have := ih.2 s (by omega); omega
theorem w3_att (us : List (List UInt8)) (i j : Nat) (m : Int) (n : Nat) : w3 us i j m n = m ∨ ∃ s, s < n ∧ w3 us i j m n = gW us i j s := by
  induction n with
  | zero => exact .inl rfl
  | succ n ih =>
    have e : w3 us i j m (n + 1) = max (w3 us i j m n) (gW us i j n) := rfl
    rw [e]
    by_cases h : w3 us i j m n ≤ gW us i j n
    · exact .inr ⟨n, Nat.lt_succ_self _, by omega⟩
    · rw [show max (w3 us i j m n) (gW us i j n) = w3 us i j m n by omega]
      rcases ih with ih | ⟨s, hs, ih⟩
      · exact .inl ih
      · exact .inr ⟨s, by omega, ih⟩
theorem w2_ge (us : List (List UInt8)) (n i : Nat) (m : Int) (q : Nat) : m ≤ w2 us n i m q ∧ ∀ p s, p < q → s < n → gW us i (i + p) s ≤ w2 us n i m q := by
  induction q with
  | zero => exact ⟨Int.le_refl _, fun p s hp => absurd hp (Nat.not_lt_zero _)⟩
  | succ q ih =>
    have e : w2 us n i m (q + 1) = w3 us i (i + q) (w2 us n i m q) n := rfl
    rw [e]
    have h3 := w3_ge us i (i + q) (w2 us n i m q) n
    refine ⟨by have := ih.1; have := h3.1; omega, fun p s hp hs => ?_⟩
    by_cases h : p = q
    · subst h; exact h3.2 s hs
    · have := ih.2 p s (by omega) hs; have := h3.1; omega
theorem w2_att (us : List (List UInt8)) (n i : Nat) (m : Int) (q : Nat) : w2 us n i m q = m ∨ ∃ p s, p < q ∧ s < n ∧ w2 us n i m q = gW us i (i + p) s := by
  induction q with
  | zero => exact .inl rfl
  | succ q ih =>
    have e : w2 us n i m (q + 1) = w3 us i (i + q) (w2 us n i m q) n := rfl
    rw [e]
    rcases w3_att us i (i + q) (w2 us n i m q) n with h | ⟨s, hs, h⟩
    · rw [h]
      rcases ih with ih | ⟨p, s, hp, hs, ih⟩
      · exact .inl ih
      · exact .inr ⟨p, s, by omega, hs, ih⟩
    · exact .inr ⟨q, s, by omega, hs, h⟩
theorem w1_ge (us : List (List UInt8)) (n k : Nat) : 0 ≤ w1 us n k ∧ ∀ i j s, i < k → i ≤ j → j < us.length → s < n → gW us i j s ≤ w1 us n k := by
  induction k with
  | zero => exact ⟨Int.le_refl _, fun i j s hi => absurd hi (Nat.not_lt_zero _)⟩
  | succ k ih =>
    have e : w1 us n (k + 1) = w2 us n k (w1 us n k) (us.length - k) := rfl
    rw [e]
    have h2 := w2_ge us n k (w1 us n k) (us.length - k)
    refine ⟨by have := ih.1; have := h2.1; omega, fun i j s hi hij hj hs => ?_⟩
    by_cases h : i = k
    · subst h
      have := h2.2 (j - i) s (by omega) hs
      rwa [show i + (j - i) = j by omega] at this
    · have := ih.2 i j s (by omega) hij hj hs; have := h2.1; omega
theorem w1_att (us : List (List UInt8)) (n k : Nat) : w1 us n k = 0 ∨ ∃ i j s, i < k ∧ i ≤ j ∧ j < us.length ∧ s < n ∧ w1 us n k = gW us i j s := by
  induction k with
  | zero => exact .inl rfl
  | succ k ih =>
    have e : w1 us n (k + 1) = w2 us n k (w1 us n k) (us.length - k) := rfl
    rw [e]
    rcases w2_att us n k (w1 us n k) (us.length - k) with h | ⟨p, s, hp, hs, h⟩
    · rw [h]
      rcases ih with ih | ⟨i, j, s, hi, hij, hj, hs, ih⟩
      · exact .inl ih
      · exact .inr ⟨i, j, s, by omega, hij, hj, hs, ih⟩
    · exact .inr ⟨k, k + p, s, by omega, by omega, by omega, hs, h⟩
theorem w1_le (us vs : List (List UInt8)) (n : Nat) (hl : us.length ≤ vs.length) (h : ∀ i j s, i ≤ j → j < us.length → s < n → ∃ r, r < n ∧ gW us i j s = gW vs i j r) : w1 us n us.length ≤ w1 vs n vs.length := by
  rcases w1_att us n us.length with h0 | ⟨i, j, s, hi, hij, hj, hs, he⟩
  · rw [h0]; exact (w1_ge vs n _).1
  · rw [he]
    obtain ⟨r, hr, h2⟩ := h i j s hij hj hs
    rw [h2]
    exact (w1_ge vs n _).2 i j r (by omega) hij (by omega) hr
/-! shifts and changes -/
theorem cor_rot (a b : List UInt8) (m s : Nat) (h : a.length = b.length) (hm : m < a.length) : corL (rotL a m) b s = corL a b ((s + (a.length - m)) % a.length) := by
  have h0 : 0 < a.length := by omega
  unfold corL
  rw [rotL_len a m (by omega), ← sumTo_cyc (fun i => if corP a b ((s + (a.length - m)) % a.length) i = true then 1 else -1) a.length h0 m]
  refine sumTo_congr _ _ _ fun i hi => ?_
  have he : corP (rotL a m) b s i = corP a b ((s + (a.length - m)) % a.length) ((i + m) % a.length) := by
    unfold corP
    rw [rotL_at a m i (by omega) hi, ← h, ← Nat.add_mod, show i + m + (s + (a.length - m)) = i + s + a.length by omega, Nat.add_mod_right]
  show (if corP (rotL a m) b s i = true then (1 : Int) else -1) = if corP a b ((s + (a.length - m)) % a.length) ((i + m) % a.length) = true then 1 else -1
  rw [he]
theorem cor_rot2 (a : List UInt8) (m s : Nat) (hm : m < a.length) : corL (rotL a m) (rotL a m) s = corL a a s := by
  have h0 : 0 < a.length := by omega
  unfold corL
  rw [rotL_len a m (by omega), ← sumTo_cyc (fun i => if corP a a s i = true then 1 else -1) a.length h0 m]
  refine sumTo_congr _ _ _ fun i hi => ?_
  have he : corP (rotL a m) (rotL a m) s i = corP a a s ((i + m) % a.length) := by
    unfold corP
    rw [rotL_at a m i (by omega) hi, rotL_len a m (by omega), rotL_at a m _ (by omega) (Nat.mod_lt _ h0), Nat.mod_add_mod, Nat.mod_add_mod, show i + s + m = i + m + s by omega]
  show (if corP (rotL a m) (rotL a m) s i = true then (1 : Int) else -1) = if corP a a s ((i + m) % a.length) = true then 1 else -1
  rw [he]
theorem flip_eq (x y : UInt8) (hx : isBit x = true) (hy : isBit y = true) : (flipC x == y) = !(x == y) ∧ (flipC x == flipC y) = (x == y) := by
  unfold isBit at hx hy
  have h1 : x = 48 ∨ x = 49 := by simpa [Bool.or_eq_true, beq_iff_eq] using hx
  have h2 : y = 48 ∨ y = 49 := by simpa [Bool.or_eq_true, beq_iff_eq] using hy
  rcases h1 with rfl | rfl <;> rcases h2 with rfl | rfl <;> exact ⟨rfl, rfl⟩
theorem some_beq (x y : UInt8) : (some x == some y) = (x == y) := rfl
theorem cor_flip (a b : List UInt8) (s : Nat) (h : a.length = b.length) (ha : a.all isBit = true) (hb : b.all isBit = true) : corL (a.map flipC) b s = -corL a b s := by
  unfold corL
  rw [List.length_map, ← sumTo_neg']
  refine sumTo_congr _ _ _ fun i hi => ?_
  have hm : (i + s) % b.length < b.length := Nat.mod_lt _ (by omega)
  unfold corP
  rw [List.getElem?_map, List.getElem?_eq_getElem hi, List.getElem?_eq_getElem hm, Option.map_some, some_beq, some_beq, (flip_eq _ _ (List.all_eq_true.1 ha _ (List.getElem_mem hi)) (List.all_eq_true.1 hb _ (List.getElem_mem hm))).1]
  cases (a[i] == b[(i + s) % b.length]) <;> rfl
theorem cor_flip2 (a : List UInt8) (s : Nat) (ha : a.all isBit = true) : corL (a.map flipC) (a.map flipC) s = corL a a s := by
  unfold corL
  rw [List.length_map]
  refine sumTo_congr _ _ _ fun i hi => ?_
  have hm : (i + s) % a.length < a.length := Nat.mod_lt _ (by omega)
  unfold corP
  rw [List.length_map, List.getElem?_map, List.getElem?_map, List.getElem?_eq_getElem hi, List.getElem?_eq_getElem hm, Option.map_some, Option.map_some, some_beq, some_beq, (flip_eq _ _ (List.all_eq_true.1 ha _ (List.getElem_mem hi)) (List.all_eq_true.1 ha _ (List.getElem_mem hm))).2]
theorem rot_map (a : List UInt8) (m : Nat) : rotL (a.map flipC) m = (rotL a m).map flipC := by
  unfold rotL; rw [List.map_append, List.map_drop, List.map_take]
theorem absI_neg (z : Int) : absI (-z) = absI z := by unfold absI; omega
/-- The first one changed and shifted. -/
def turnL (us : List (List UInt8)) (m : Nat) : List (List UInt8) := us.set 0 (rotL ((us.headD []).map flipC) m)
theorem turnL_len (us : List (List UInt8)) (m : Nat) : (turnL us m).length = us.length := by simp [turnL]
theorem turn_head (us : List (List UInt8)) (m : Nat) (h : 0 < us.length) : (turnL us m).getD 0 [] = rotL ((us.getD 0 []).map flipC) m ∧ us.headD [] = us.getD 0 [] := by
  cases us with
  | nil => exact absurd h (Nat.not_lt_zero _)
  | cons a l => exact ⟨rfl, rfl⟩
theorem turn_tail (us : List (List UInt8)) (m j : Nat) (hj : 0 < j) : (turnL us m).getD j [] = us.getD j [] := by
  unfold turnL
  rw [List.getD_eq_getElem?_getD, List.getElem?_set_ne (by omega), List.getD_eq_getElem?_getD]
theorem gW_turn (us : List (List UInt8)) (m n : Nat) (h0 : 0 < us.length) (hs : ∀ s ∈ us, s.all isBit = true ∧ s.length = n) (hm : m < n) (i j s : Nat) (hij : i ≤ j) (hj : j < us.length) :
    gW (turnL us m) i j s = if i = 0 ∧ 0 < j then gW us i j ((s + (n - m)) % n) else gW us i j s := by
  have hat : ∀ j, j < us.length → us.getD j [] ∈ us := fun j hj => by
    rw [List.getD_eq_getElem?_getD, List.getElem?_eq_getElem hj]; exact List.getElem_mem hj
  by_cases hi : i = 0
  · subst hi
    have ha := hs _ (hat 0 h0)
    have hb := hs _ (hat j hj)
    by_cases hj0 : 0 < j
    · rw [if_pos ⟨rfl, hj0⟩]
      unfold gW
      rw [if_neg (by omega), if_neg (by omega), (turn_head us m h0).1, turn_tail us m j hj0, rot_map, cor_flip _ _ _ (by rw [rotL_len _ _ (by omega)]; omega) (rotL_bits _ _ ha.1) hb.1, absI_neg, cor_rot _ _ _ _ (by omega) (by omega), ha.2]
    · obtain rfl : j = 0 := by omega
      rw [if_neg (by omega)]
      unfold gW
      by_cases hs0 : s = 0
      · rw [if_pos ⟨rfl, hs0⟩, if_pos ⟨rfl, hs0⟩]
      · rw [if_neg (by omega), if_neg (by omega), (turn_head us m h0).1, cor_rot2 _ _ _ (by rw [List.length_map]; omega), cor_flip2 _ _ ha.1]
  · rw [if_neg (by omega)]
    unfold gW
    rw [turn_tail us m i (by omega), turn_tail us m j (by omega)]
theorem worst_turn (us : List (List UInt8)) (m n : Nat) (h0 : 0 < us.length) (hs : ∀ s ∈ us, s.all isBit = true ∧ s.length = n) (hm : m < n) : w1 (turnL us m) n (turnL us m).length = w1 us n us.length := by
  have hn : 0 < n := by omega
  refine Int.le_antisymm (w1_le _ _ n (by rw [turnL_len]; exact Nat.le_refl _) fun i j s hij hj hs' => ?_) (w1_le _ _ n (by rw [turnL_len]; exact Nat.le_refl _) fun i j s hij hj hs' => ?_)
  · rw [turnL_len] at hj
    rw [gW_turn us m n h0 hs hm i j s hij hj]
    by_cases hc : i = 0 ∧ 0 < j
    · rw [if_pos hc]; exact ⟨_, Nat.mod_lt _ hn, rfl⟩
    · rw [if_neg hc]; exact ⟨s, hs', rfl⟩
  · by_cases hc : i = 0 ∧ 0 < j
    · refine ⟨(s + m) % n, Nat.mod_lt _ hn, ?_⟩
      rw [gW_turn us m n h0 hs hm i j _ hij hj, if_pos hc, Nat.mod_add_mod, show s + m + (n - m) = s + n by omega, Nat.add_mod_right, Nat.mod_eq_of_lt hs']
    · refine ⟨s, hs', ?_⟩
      rw [gW_turn us m n h0 hs hm i j _ hij hj, if_neg hc]
theorem fam_turn (us : List (List UInt8)) (m : Nat) (h : famB us = true) (hm : m < (us.headD []).length) : famB (turnL us m) = true ∧ ((turnL us m).headD []).length = (us.headD []).length := by
  obtain ⟨h1, h70, hall⟩ := fam_at us h
  cases us with
  | nil => exact absurd h1 (by decide)
  | cons a l =>
    have hd : ((turnL (a :: l) m).headD []) = rotL (a.map flipC) m := rfl
    have hm' : m < a.length := hm
    have hlen : (rotL (a.map flipC) m).length = a.length := by rw [rotL_len _ _ (by rw [List.length_map]; omega), List.length_map]
    have ha := (hall a List.mem_cons_self).1
    have hsq : seqB (rotL (a.map flipC) m) = true := by
      unfold seqB at ha ⊢
      rw [hlen, rotL_bits _ _ (flipC_bits a), Bool.and_true]
      exact (Bool.and_eq_true _ _ ▸ ha).1
    refine ⟨fam_mk _ (by rw [turnL_len]; exact h1) (by rw [turnL_len]; exact h70) fun i x hx => ?_, by rw [hd]; exact hlen⟩
    rw [hd, hsq, Bool.and_true, hlen]
    cases i with
    | zero =>
      obtain rfl : rotL (a.map flipC) m = x := by simpa [turnL] using hx
      rw [hsq, hlen]; simp
    | succ i =>
      have hx' : (a :: l)[i + 1]? = some x := by rw [← hx]; rfl
      have := hall x (List.mem_of_getElem? hx')
      rw [this.1, this.2]; simp
theorem worstC_turn (us : List (List UInt8)) (m : Nat) (h : famB us = true) (hm : m < (us.headD []).length) : worstC (turnL us m) = worstC us := by
  obtain ⟨h1, h2⟩ := fam_turn us m h hm
  obtain ⟨h3, h70, hall⟩ := fam_at us h
  unfold worstC
  rw [h1, h, if_pos rfl, if_pos rfl, h2]
  refine worst_turn us m _ h3 (fun s hs => ⟨?_, (hall s hs).2⟩) hm
  have := (hall s hs).1
  unfold seqB at this
  exact (Bool.and_eq_true _ _ ▸ this).2
theorem worstC_one (us : List (List UInt8)) (h : famB us = true) : worstC (us.take 1) ≤ worstC us := by
  obtain ⟨h1, h70, hall⟩ := fam_at us h
  cases us with
  | nil => exact absurd h1 (by decide)
  | cons a l =>
    have hf : famB [a] = true := by
      refine fam_mk _ (by simp) (by simp) fun i x hx => ?_
      cases i with
      | zero =>
        obtain rfl : a = x := by simpa using hx
        have := (hall a List.mem_cons_self).1
        show (seqB a && seqB a && (a.length == a.length)) = true
        rw [this]; simp
      | succ i => simp at hx
    show worstC [a] ≤ worstC (a :: l)
    unfold worstC
    rw [hf, h, if_pos rfl, if_pos rfl]
    show w1 [a] a.length [a].length ≤ w1 (a :: l) a.length (a :: l).length
    refine w1_le _ _ _ (by simp) fun i j s hij hj hs => ⟨s, hs, ?_⟩
    have hj1 : j < 1 := hj
    obtain rfl : j = 0 := by omega
    obtain rfl : i = 0 := by omega
    rfl
theorem worst_bound (us : List (List UInt8)) (h : famB us = true) (i k s : Nat) (hki : k ≤ i) (hi : i < us.length) (hs : s < (us.headD []).length) (hne : ¬ (i = k ∧ s = 0)) :
    corL (us.getD k []) (us.getD i []) s ≤ worstC us ∧ -corL (us.getD k []) (us.getD i []) s ≤ worstC us := by
  have h1 := (w1_ge us (us.headD []).length us.length).2 k i s (by omega) hki hi hs
  unfold worstC
  rw [h, if_pos rfl]
  unfold gW at h1
  rw [if_neg (by omega)] at h1
  unfold absI at h1
  omega
/-- No correlation that was looked at has the greatest number. -/
theorem worst_some (us : List (List UInt8)) (h : famB us = true) (h0 : worstC us ≠ 0) (hno : ∀ i k s, k ≤ i → i < us.length → s < (us.headD []).length → ¬ (i = k ∧ s = 0) → corL (us.getD k []) (us.getD i []) s ≠ worstC us ∧ -corL (us.getD k []) (us.getD i []) s ≠ worstC us) : False := by
  have he : worstC us = w1 us (us.headD []).length us.length := by unfold worstC; rw [h, if_pos rfl]
  rw [he] at h0 hno
  rcases w1_att us (us.headD []).length us.length with h1 | ⟨k, i, s, hk, hki, hi, hs, h1⟩
  · exact h0 h1
  · by_cases hc : k = i ∧ s = 0
    · unfold gW at h1
      rw [if_pos hc] at h1
      exact h0 h1
    · have := hno i k s hki hi hs (fun e => hc ⟨e.1.symm, e.2⟩)
      unfold gW at h1
      rw [if_neg hc] at h1
      unfold absI at h1
      omega
theorem worst_nonneg (us : List (List UInt8)) (h : famB us = true) : 0 ≤ worstC us := by
  unfold worstC; rw [h, if_pos rfl]; exact (w1_ge us _ _).1

end Go.Proofs.Ytkebiigpfbconaa
