/- Plain laws of Walsh codes, trees and free paths. Conditions: none. -/
import Derived.Test.YtkebiigpfbconaaPureH
namespace Go.Proofs.Ytkebiigpfbconaa
open Go.RowKit
set_option linter.unusedSimpArgs false
set_option linter.unusedVariables false

/-! Walsh codes -/
theorem par_xor : ∀ a b : Nat, par (a ^^^ b) = (par a + par b) % 2 := by
  intro a
  induction a using Nat.strongRecOn with
  | _ a ih =>
    intro b
    by_cases ha : a = 0
    · subst ha
      rw [Nat.zero_xor, par_zero]
      have := par_le b
      omega
    · rw [par_step (a ^^^ b), par_step a, par_step b, Nat.xor_div_two, ih (a / 2) (by omega)]
      have h1 : (a ^^^ b) % 2 = (a % 2 + b % 2) % 2 := by
        have h0 := Nat.testBit_xor a b 0
        rw [Nat.testBit_zero, Nat.testBit_zero, Nat.testBit_zero] at h0
        rcases Nat.mod_two_eq_zero_or_one a with h | h <;> rcases Nat.mod_two_eq_zero_or_one b with h' | h' <;> rcases Nat.mod_two_eq_zero_or_one (a ^^^ b) with h'' | h'' <;> rw [h, h', h''] at h0 <;> rw [h, h', h''] <;> first | rfl | exact absurd h0 (by decide)
      rw [h1]
      omega
theorem walshL_at (n i k : Nat) (h : k < n) : (walshL n i)[k]? = some (bitC (par (i &&& k))) := walsh_at n i k h
theorem bitC_eq (a b : Nat) (ha : a ≤ 1) (hb : b ≤ 1) : (bitC a = bitC b) ↔ a = b := by
  rcases (show a = 0 ∨ a = 1 by omega) with rfl | rfl <;> rcases (show b = 0 ∨ b = 1 by omega) with rfl | rfl <;> decide
theorem xor_bitC (a b : Nat) (ha : a ≤ 1) (hb : b ≤ 1) : xorC (bitC a) (bitC b) = bitC ((a + b) % 2) := by
  rcases (show a = 0 ∨ a = 1 by omega) with rfl | rfl <;> rcases (show b = 0 ∨ b = 1 by omega) with rfl | rfl <;> decide
theorem walsh_add (n i k : Nat) : addBL (walshL n i) (walshL n k) = walshL n (i ^^^ k) := by
  apply List.ext_getElem?
  intro j
  by_cases hj : j < n
  · rw [addBL_at _ _ j _ _ (walshL_at n i j hj) (walshL_at n k j hj), walshL_at n _ j hj, xor_bitC _ _ (par_le _) (par_le _), Nat.and_xor_distrib_right, par_xor]
  · rw [List.getElem?_eq_none (l := walshL n (i ^^^ k)) (by rw [walsh_len]; omega), List.getElem?_eq_none (l := addBL _ _) (by rw [addBL_len _ _ (by rw [walsh_len, walsh_len]), walsh_len]; omega)]
/-- The correlation of two codes without a shift. -/
def dotT (a b : List UInt8) (i : Nat) : Int := if a[i]? = b[i]? then 1 else -1
def dotL (a b : List UInt8) : Int := sumTo (dotT a b) a.length
theorem dot_walsh (n i k : Nat) : dotL (walshL n i) (walshL n k) = sumTo (fun j => sg j i * sg j k) n := by
  unfold dotL
  rw [walsh_len]
  refine sumTo_congr _ _ _ fun j hj => ?_
  unfold dotT
  rw [walshL_at n i j hj, walshL_at n k j hj, sg_symm j i, sg_symm j k]
  unfold sg
  have h1 := par_01 (i &&& j)
  have h2 := par_01 (k &&& j)
  rcases h1 with h1 | h1 <;> rcases h2 with h2 | h2 <;> rw [h1, h2] <;> decide
theorem walsh_ortho (m i k : Nat) (hi : i < 2 ^ m) (hk : k < 2 ^ m) : dotL (walshL (2 ^ m) i) (walshL (2 ^ m) k) = if i = k then ((2 ^ m : Nat) : Int) else 0 := by
  rw [dot_walsh, sg_ortho m i k hi hk]
  split <;> rfl
theorem dotL_self (a : List UInt8) : dotL a a = a.length := by
  unfold dotL
  rw [sumTo_congr _ (fun _ => 1) _ fun i _ => by unfold dotT; rw [if_pos rfl]]
  induction a.length with
  | zero => rfl
  | succ n ih => rw [sumTo_succ, ih]; omega
theorem walsh_inj (m i k : Nat) (hi : i < 2 ^ m) (hk : k < 2 ^ m) (h : walshL (2 ^ m) i = walshL (2 ^ m) k) : i = k := by
  have h1 := walsh_ortho m i k hi hk
  rw [h, dotL_self, walsh_len] at h1
  have h2 : 1 ≤ 2 ^ m := Nat.one_le_two_pow
  by_cases hc : i = k
  · exact hc
  · rw [if_neg hc] at h1; omega
theorem orderC_pow (m : Nat) (hm : m ≤ 6) : orderC (2 ^ m) = (m : Int) := by
  refine orderC_some _ m hm (fun x hx => ?_) (by simp)
  have : 2 ^ x < 2 ^ m := Nat.pow_lt_pow_right (by omega) hx
  simp; omega
theorem windex_walsh (m i : Nat) (hm : m ≤ 6) (hi : i < 2 ^ m) : windexC (walshL (2 ^ m) i) = ((i : Int), true) := by
  refine windexC_some _ i (by rw [walsh_len, orderC_pow m hm]; omega) (by rw [walsh_len]; exact hi) (fun y hy => ?_) (by rw [walsh_len]; simp)
  rw [walsh_len]
  exact beq_eq_false_iff_ne.2 fun h => by have := walsh_inj m y i (by omega) hi h; omega
theorem walsh_bits (n i : Nat) : (walshL n i).all isBit = true := by
  rw [List.all_eq_true]
  intro c hc
  obtain ⟨k, hk, rfl⟩ := List.mem_map.1 hc
  exact bitC_bit _
theorem walsh_seq (m i : Nat) (hm : m ≤ 6) : seqB (walshL (2 ^ m) i) = true := by
  have h1 : 1 ≤ 2 ^ m := Nat.one_le_two_pow
  have h2 : 2 ^ m ≤ 2 ^ 6 := Nat.pow_le_pow_right (by omega) hm
  simp only [seqB, walsh_len, walsh_bits, Bool.and_true, Bool.and_eq_true, decide_eq_true_eq]
  omega
/-- Some Walsh code of the orders below o, and of order o with an index below k, is s. -/
def someW (s : List UInt8) (o k : Nat) : Bool := ((List.range o).any fun o' => (List.range (2 ^ o')).any fun k' => walshL (2 ^ o') k' == s) || (List.range k).any fun k' => walshL (2 ^ o) k' == s
theorem someW_zero (s : List UInt8) : someW s 0 0 = false := rfl
theorem someW_next (s : List UInt8) (o k : Nat) : someW s o (k + 1) = (someW s o k || walshL (2 ^ o) k == s) := by
  unfold someW
  rw [List.range_succ, List.any_append, Bool.or_assoc]
  simp
theorem someW_end (s : List UInt8) (o : Nat) : someW s (o + 1) 0 = someW s o (2 ^ o) := by
  unfold someW
  rw [List.range_succ, List.any_append]
  simp
theorem someW_all (s : List UInt8) : someW s 7 0 = (windexC s).2 := by
  unfold someW
  rw [List.range_zero, List.any_nil, Bool.or_false]
  rw [Bool.eq_iff_iff, List.any_eq_true]
  constructor
  · rintro ⟨o, ho, h⟩
    obtain ⟨k, hk, h⟩ := List.any_eq_true.1 h
    have ho := List.mem_range.1 ho
    have hk := List.mem_range.1 hk
    have h : walshL (2 ^ o) k = s := by simpa using h
    rw [← h, windex_walsh o k (by omega) hk]
  · intro h
    unfold windexC at h
    by_cases h0 : 0 ≤ orderC s.length
    · rw [if_pos h0] at h
      rcases orderC_ways s.length with h1 | ⟨m, hm, hl, h1⟩
      · omega
      · cases hf : firstN (fun i => walshL s.length i == s) s.length with
        | none => rw [hf] at h; exact absurd h (by decide)
        | some i =>
          unfold firstN at hf
          have h2 := List.find?_some hf
          have h3 := List.mem_range.1 (List.mem_of_find?_eq_some hf)
          rw [hl] at h2 h3
          exact ⟨m, List.mem_range.2 (by omega), List.any_eq_true.2 ⟨i, List.mem_range.2 h3, h2⟩⟩
    · rw [if_neg h0] at h; exact absurd h (by decide)
theorem windex_lt (s : List UInt8) (h : (windexC s).2 = true) : 0 ≤ (windexC s).1 ∧ (windexC s).1 < s.length := by
  unfold windexC at h ⊢
  by_cases h0 : 0 ≤ orderC s.length
  · rw [if_pos h0] at h ⊢
    cases hf : firstN (fun i => walshL s.length i == s) s.length with
    | none => rw [hf] at h; exact absurd h (by decide)
    | some i =>
      unfold firstN at hf
      have h3 := List.mem_range.1 (List.mem_of_find?_eq_some hf)
      show (0 : Int) ≤ (i : Int) ∧ (i : Int) < s.length
      omega
  · rw [if_neg h0] at h; exact absurd h (by decide)

/-! trees -/
def bitN (c : UInt8) : Nat := if c = 48 then 0 else 1
theorem bitN_le (c : UInt8) : bitN c ≤ 1 := by unfold bitN; split <;> omega
/-- The number of a path, its first bit the lowest. -/
def valP : List UInt8 → Nat
  | [] => 0
  | b :: p => bitN b + 2 * valP p
def wP (p : List UInt8) (k : Nat) : Nat := par (valP p &&& k)
theorem wP_le (p : List UInt8) (k : Nat) : wP p k ≤ 1 := par_le _
theorem wP_nil (k : Nat) : wP [] k = 0 := by show par (0 &&& k) = 0; rw [Nat.zero_and, par_zero]
theorem wP_cons (b : UInt8) (p : List UInt8) (k : Nat) : wP (b :: p) k = (bitN b * (k % 2) + wP p (k / 2)) % 2 := by
  unfold wP
  have := bitN_le b
  rw [par_and, show valP (b :: p) = bitN b + 2 * valP p from rfl, show (bitN b + 2 * valP p) % 2 = bitN b by omega, show (bitN b + 2 * valP p) / 2 = valP p by omega]
theorem valP_lt (p : List UInt8) : valP p < 2 ^ p.length := by
  induction p with
  | nil => exact Nat.zero_lt_one
  | cons b p ih =>
    have := bitN_le b
    show bitN b + 2 * valP p < 2 ^ (p.length + 1)
    rw [Nat.pow_succ]; omega
theorem wP_append (p q : List UInt8) (i j : Nat) (hi : i < 2 ^ p.length) : wP (p ++ q) (i + 2 ^ p.length * j) = (wP p i + wP q j) % 2 := by
  induction p generalizing i with
  | nil =>
    obtain rfl : i = 0 := by simpa using hi
    rw [wP_nil, List.nil_append]
    simp only [List.length_nil, Nat.pow_zero, Nat.one_mul, Nat.zero_add]
    have := wP_le q j
    omega
  | cons b p ih =>
    rw [List.length_cons, Nat.pow_succ] at *
    rw [List.cons_append, wP_cons, wP_cons]
    have h1 : (i + 2 ^ p.length * 2 * j) % 2 = i % 2 := by
      rw [Nat.mul_comm (2 ^ p.length) 2, Nat.mul_assoc, Nat.add_mul_mod_self_left]
    have h2 : (i + 2 ^ p.length * 2 * j) / 2 = i / 2 + 2 ^ p.length * j := by
      rw [Nat.mul_comm (2 ^ p.length) 2, Nat.mul_assoc, Nat.add_mul_div_left _ _ (by omega)]
    rw [h1, h2, ih (i / 2) (by omega)]
    omega
theorem bitN_flip (n : Nat) (h : n ≤ 1) : flipC (bitC n) = bitC ((n + 1) % 2) := by
  rcases (show n = 0 ∨ n = 1 by omega) with rfl | rfl <;> decide
theorem treeL_walsh (p : List UInt8) : treeL p = walshL (2 ^ p.length) (valP p) := by
  suffices h : ∀ q : List UInt8, treeL q.reverse = walshL (2 ^ q.reverse.length) (valP q.reverse) by
    have := h p.reverse
    rwa [List.reverse_reverse] at this
  intro q
  induction q with
  | nil =>
    show [(48 : UInt8)] = [bitC (par (0 &&& 0))]
    rw [Nat.zero_and, par_zero]; rfl
  | cons b q ih =>
    rw [List.reverse_cons, treeL_snoc, ih]
    generalize q.reverse = p
    apply List.ext_getElem?
    intro k
    have hl : (walshL (2 ^ p.length) (valP p)).length = 2 ^ p.length := walsh_len _ _
    rw [List.length_append, List.length_singleton, Nat.pow_succ]
    by_cases hk : k < 2 ^ p.length
    · unfold treeS
      rw [List.getElem?_append_left (by rw [hl]; exact hk), walshL_at _ _ _ hk, walshL_at _ _ _ (by omega)]
      have h1 := wP_append p [b] k 0 hk
      rw [Nat.mul_zero, Nat.add_zero] at h1
      have h2 : wP [b] 0 = 0 := by unfold wP; rw [Nat.and_zero, par_zero]
      have h3 := wP_le p k
      unfold wP at h1 h2 h3
      rw [h1, h2]
      congr 2
      omega
    · by_cases hk2 : k < 2 ^ p.length * 2
      · have h1 := wP_append p [b] (k - 2 ^ p.length) 1 (by omega)
        rw [Nat.mul_one, Nat.sub_add_cancel (by omega)] at h1
        have h2 : wP [b] 1 = bitN b := by
          have h5 := bitN_le b
          rw [wP_cons, wP_nil]; omega
        rw [h2] at h1
        have h3 := wP_le p (k - 2 ^ p.length)
        unfold treeS
        rw [List.getElem?_append_right (by rw [hl]; omega), hl, walshL_at _ _ _ hk2]
        unfold wP at h1 h3
        rw [h1]
        by_cases hb : b = 48
        · rw [if_pos hb, walshL_at _ _ _ (by omega)]
          congr 2
          unfold bitN; rw [if_pos hb]; omega
        · rw [if_neg hb, List.getElem?_map, walshL_at _ _ _ (by omega), Option.map_some, bitN_flip _ h3]
          congr 2
          unfold bitN; rw [if_neg hb]
      · have h5 : (treeS (walshL (2 ^ p.length) (valP p)) b).length ≤ k := by
          unfold treeS
          rw [List.length_append, hl]
          split
          · rw [hl]; omega
          · rw [List.length_map, hl]; omega
        rw [List.getElem?_eq_none (l := walshL (2 ^ p.length * 2) _) (by rw [walsh_len]; omega), List.getElem?_eq_none h5]
theorem treeL_prefix (p : List UInt8) (b : UInt8) : (treeL (p ++ [b])).take (2 ^ p.length) = treeL p := by
  rw [treeL_snoc]
  unfold treeS
  rw [List.take_append_of_le_length (by rw [treeL_len]; omega), List.take_of_length_le (by rw [treeL_len]; omega)]
theorem valP_snoc (p : List UInt8) (b : UInt8) : valP (p ++ [b]) = valP p + bitN b * 2 ^ p.length := by
  induction p with
  | nil => show bitN b + 2 * 0 = 0 + bitN b * 1; omega
  | cons a p ih =>
    show bitN a + 2 * valP (p ++ [b]) = bitN a + 2 * valP p + bitN b * 2 ^ (p.length + 1)
    rw [ih, Nat.pow_succ]
    generalize 2 ^ p.length = P
    have h5 : 2 * (bitN b * P) = bitN b * (P * 2) := by rw [Nat.mul_comm P 2, ← Nat.mul_assoc, ← Nat.mul_assoc, Nat.mul_comm 2]
    rw [Nat.mul_add]
    omega

end Go.Proofs.Ytkebiigpfbconaa
