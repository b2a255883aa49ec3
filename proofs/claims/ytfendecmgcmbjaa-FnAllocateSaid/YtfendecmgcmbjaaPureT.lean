/- Plain law of free paths: two below each, and how many there are. Conditions: none. -/
import Derived.Test.YtfendecmgcmbjaaPureW
namespace Go.Proofs.Ytfendecmgcmbjaa
open Go.RowKit
set_option linter.unusedSimpArgs false
set_option linter.unusedVariables false

theorem freeK_cnt (us : List (List UInt8)) (d k : Nat) : (freeK us d k).length = cnt (fun x => freeAt us (binL d x)) k := by
  induction k with
  | zero => rfl
  | succ k ih =>
    cases h : freeAt us (binL d k)
    · rw [freeK_no us d k h, cnt_no _ _ h, ih]
    · rw [freeK_yes us d k h, List.length_append, cnt_yes _ _ h, ih]; rfl
theorem freeL_cnt (us : List (List UInt8)) (d : Nat) : (freeL us d).length = cnt (fun x => freeAt us (binL d x)) (2 ^ d) := freeK_cnt us d (2 ^ d)
theorem binL_next (d x b : Nat) (hb : b ≤ 1) : binL (d + 1) (2 * x + b) = binL d x ++ [bitC b] := by
  apply List.ext_getElem?
  intro i
  by_cases hi : i < d
  · rw [List.getElem?_append_left (by rw [binL_len]; exact hi), binL_at _ _ _ hi, binL_at _ _ _ (by omega)]
    congr 2
    rw [show d + 1 - 1 - i = d - 1 - i + 1 by omega, Nat.pow_succ, Nat.mul_comm (2 ^ (d - 1 - i)) 2, ← Nat.div_div_eq_div_mul, show (2 * x + b) / 2 = x by omega]
  · by_cases hi2 : i = d
    · subst hi2
      rw [List.getElem?_append_right (by rw [binL_len]; exact Nat.le_refl _), binL_len, Nat.sub_self, binL_at _ _ _ (by omega), show i + 1 - 1 - i = 0 by omega, Nat.pow_zero, Nat.div_one]
      show some (bitC ((2 * x + b) % 2)) = some (bitC b)
      congr 2
      omega
    · rw [List.getElem?_eq_none (l := binL (d + 1) _) (by rw [binL_len]; omega), List.getElem?_eq_none (l := _ ++ _) (by rw [List.length_append, binL_len]; simp; omega)]
theorem confl_up (x q : List UInt8) (b : UInt8) (h : conflB (x ++ [b]) q = true) : conflB x q = true := by
  rcases Nat.le_total q.length x.length with hl | hl
  · rw [confl_le _ _ hl]
    rw [confl_le _ _ (by rw [List.length_append]; omega), List.take_append_of_le_length hl] at h
    exact h
  · rw [confl_ge _ _ hl]
    by_cases hq : q.length = x.length
    · rw [confl_le _ _ (by rw [List.length_append]; omega), List.take_append_of_le_length (by omega), hq, List.take_of_length_le (Nat.le_refl _)] at h
      rw [List.take_of_length_le (by omega)]; exact h
    · rw [confl_ge _ _ (by rw [List.length_append]; simp; omega)] at h
      have h2 : x ++ [b] = q.take (x ++ [b]).length := by simpa using h
      have h3 := congrArg (List.take x.length) h2
      rw [List.take_append_of_le_length (Nat.le_refl _), List.take_of_length_le (Nat.le_refl _), List.take_take, Nat.min_eq_left (by rw [List.length_append]; omega)] at h3
      rw [← h3]; simp
theorem confl_short (x q : List UInt8) (b : UInt8) (hl : q.length ≤ x.length) : conflB (x ++ [b]) q = conflB x q := by
  rw [confl_le _ _ hl, confl_le _ _ (by rw [List.length_append]; omega), List.take_append_of_le_length hl]
theorem freeAt_up (us : List (List UInt8)) (x : List UInt8) (b : UInt8) (h : freeAt us x = true) : freeAt us (x ++ [b]) = true := by
  unfold freeAt at *
  rw [List.all_eq_true] at *
  intro q hq
  have h1 := h q hq
  cases hc : conflB (x ++ [b]) q
  · rfl
  · rw [confl_up x q b hc] at h1; exact absurd h1 (by decide)
theorem freeAt_short (us : List (List UInt8)) (x : List UInt8) (b : UInt8) (hs : ∀ q ∈ us, q.length ≤ x.length) : freeAt us (x ++ [b]) = freeAt us x := by
  unfold freeAt
  rw [Bool.eq_iff_iff, List.all_eq_true, List.all_eq_true]
  constructor
  · intro h q hq; rw [← confl_short x q b (hs q hq)]; exact h q hq
  · intro h q hq; rw [confl_short x q b (hs q hq)]; exact h q hq
theorem cnt_pairs (p : Nat → Bool) (n : Nat) : cnt p (2 * n) = cnt (fun x => p (2 * x)) n + cnt (fun x => p (2 * x + 1)) n := by
  induction n with
  | zero => rfl
  | succ n ih =>
    show cnt p (2 * n) + (if p (2 * n) = true then 1 else 0) + (if p (2 * n + 1) = true then 1 else 0) = cnt _ n + (if p (2 * n) = true then 1 else 0) + (cnt _ n + (if p (2 * n + 1) = true then 1 else 0))
    rw [ih]; omega
theorem cnt_mono (p q : Nat → Bool) (n : Nat) (h : ∀ i, i < n → p i = true → q i = true) : cnt p n ≤ cnt q n := by
  have h1 := cnt_or p q (fun _ => false) n fun i hi hp => .inl (h i hi hp)
  have h2 : cnt (fun _ => false) n = 0 := by
    clear h h1
    induction n with
    | zero => rfl
    | succ n ih => rw [cnt_no _ _ rfl, ih]
  omega
theorem free_twice (us : List (List UInt8)) (d : Nat) : 2 * (freeL us d).length ≤ (freeL us (d + 1)).length := by
  rw [freeL_cnt, freeL_cnt, Nat.pow_succ, Nat.mul_comm (2 ^ d) 2, cnt_pairs]
  have h1 := cnt_mono (fun x => freeAt us (binL d x)) (fun x => freeAt us (binL (d + 1) (2 * x))) (2 ^ d) fun i _ h => by
    show freeAt us (binL (d + 1) (2 * i + 0)) = true
    rw [binL_next d i 0 (by omega)]; exact freeAt_up us _ _ h
  have h2 := cnt_mono (fun x => freeAt us (binL d x)) (fun x => freeAt us (binL (d + 1) (2 * x + 1))) (2 ^ d) fun i _ h => by
    show freeAt us (binL (d + 1) (2 * i + 1)) = true
    rw [binL_next d i 1 (by omega)]; exact freeAt_up us _ _ h
  omega
theorem free_equal (us : List (List UInt8)) (d : Nat) (hs : ∀ q ∈ us, q.length ≤ d) : (freeL us (d + 1)).length = 2 * (freeL us d).length := by
  rw [freeL_cnt, freeL_cnt, Nat.pow_succ, Nat.mul_comm (2 ^ d) 2, cnt_pairs]
  have h1 := cnt_congr (fun x => freeAt us (binL (d + 1) (2 * x))) (fun x => freeAt us (binL d x)) (2 ^ d) fun i _ => by
    show freeAt us (binL (d + 1) (2 * i + 0)) = _
    rw [binL_next d i 0 (by omega)]; exact freeAt_short us _ _ (by rw [binL_len]; exact hs)
  have h2 := cnt_congr (fun x => freeAt us (binL (d + 1) (2 * x + 1))) (fun x => freeAt us (binL d x)) (2 ^ d) fun i _ => by
    show freeAt us (binL (d + 1) (2 * i + 1)) = _
    rw [binL_next d i 1 (by omega)]; exact freeAt_short us _ _ (by rw [binL_len]; exact hs)
  omega
theorem free_none (d : Nat) : (freeL [] d).length = 2 ^ d := by
  rw [freeL_cnt]
  have : ∀ k, cnt (fun x => freeAt [] (binL d x)) k = k := by
    intro k
    induction k with
    | zero => rfl
    | succ k ih => rw [cnt_yes _ _ rfl, ih]
  exact this _
theorem free_le (us : List (List UInt8)) (d : Nat) : (freeL us d).length ≤ 2 ^ d := by rw [freeL_cnt]; exact cnt_le _ _
theorem freeC_ways (us : List (List UInt8)) (z : Int) : (freeC us z = -1) ∨ (∃ d : Nat, z = d ∧ d ≤ 6 ∧ us.length ≤ 70 ∧ us.all pathB = true ∧ usedB us z = true ∧ freeC us z = ((freeL us d).length : Int)) := by
  unfold freeC
  cases h : usedB us z
  · rw [if_neg (by decide)]; exact .inl rfl
  · rw [if_pos rfl]
    have h' := h
    unfold usedB at h'
    simp only [Bool.and_eq_true, decide_eq_true_eq] at h'
    have h1 := (within_iff _ _ _).1 h'.1.1
    exact .inr ⟨z.toNat, by omega, by omega, h'.1.2, h'.2, rfl, rfl⟩
theorem freeC_mk (us : List (List UInt8)) (d : Nat) (h1 : d ≤ 6) (h2 : us.length ≤ 70) (h3 : us.all pathB = true) : freeC us d = ((freeL us d).length : Int) := by
  unfold freeC usedB
  rw [(within_iff 0 6 (d : Int)).2 ⟨by omega, by omega⟩, h3, show decide (us.length ≤ 70) = true from decide_eq_true h2]
  rfl
theorem alloc_len (us : List (List UInt8)) (z : Int) : (allocC us z).1.length ≤ 6 := by
  unfold allocC
  cases h : usedB us z
  · rw [if_neg (by decide)]; exact Nat.zero_le _
  · rw [if_pos rfl]
    unfold usedB at h
    simp only [Bool.and_eq_true, decide_eq_true_eq] at h
    have h1 := (within_iff _ _ _).1 h.1.1
    cases hf : freeL us z.toNat with
    | nil => exact Nat.zero_le _
    | cons p r =>
      have hp : p ∈ freeL us z.toNat := by rw [hf]; exact List.mem_cons_self
      unfold freeL at hp
      obtain ⟨hp, _⟩ := List.mem_filter.1 hp
      obtain ⟨k, _, rfl⟩ := List.mem_map.1 hp
      show (binL z.toNat k).length ≤ 6
      rw [binL_len]; omega

end Go.Proofs.Ytfendecmgcmbjaa
