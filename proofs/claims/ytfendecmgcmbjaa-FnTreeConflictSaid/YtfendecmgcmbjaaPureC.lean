/- Plain law of conflicts of paths: the parts of a longer code. Conditions: none. -/
import Derived.Test.YtfendecmgcmbjaaPureW
namespace Go.Proofs.Ytfendecmgcmbjaa
open Go.RowKit
set_option linter.unusedSimpArgs false
set_option linter.unusedVariables false

theorem bitN_inj (a b : UInt8) (ha : isBit a = true) (hb : isBit b = true) (h : bitN a = bitN b) : a = b := by
  rcases bit_toNat a ha with ⟨rfl, _⟩ | ⟨rfl, _⟩ <;> rcases bit_toNat b hb with ⟨rfl, _⟩ | ⟨rfl, _⟩ <;> first | rfl | exact absurd h (by decide)
theorem valP_inj : ∀ p q : List UInt8, p.length = q.length → p.all isBit = true → q.all isBit = true → valP p = valP q → p = q := by
  intro p
  induction p with
  | nil => intro q hl _ _ _; exact (List.eq_nil_of_length_eq_zero hl.symm).symm
  | cons a p ih =>
    intro q hl hp hq h
    cases q with
    | nil => simp at hl
    | cons b q =>
      rw [List.all_cons, Bool.and_eq_true] at hp hq
      have h1 := bitN_le a
      have h2 := bitN_le b
      have h3 : bitN a + 2 * valP p = bitN b + 2 * valP q := h
      have h4 := bitN_inj a b hp.1 hq.1 (by omega)
      have h5 := ih q (by simpa using hl) hp.2 hq.2 (by omega)
      rw [h4, h5]
theorem treeL_at (p : List UInt8) (i : Nat) (h : i < 2 ^ p.length) : (treeL p)[i]? = some (bitC (wP p i)) := by
  rw [treeL_walsh, walshL_at _ _ _ h]; rfl
/-- A part of the code of q, of the length of the code of p. -/
def partL (p q : List UInt8) (j : Nat) : List UInt8 := ((treeL q).drop (2 ^ p.length * j)).take (2 ^ p.length)
theorem part_at (p q : List UInt8) (j i : Nat) (hpq : p.length ≤ q.length) (hj : j < 2 ^ (q.length - p.length)) (h : i < 2 ^ p.length) : (partL p q j)[i]? = some (bitC ((wP (q.take p.length) i + wP (q.drop p.length) j) % 2)) := by
  unfold partL
  have hlen : 2 ^ p.length * 2 ^ (q.length - p.length) = 2 ^ q.length := by rw [← Nat.pow_add]; congr 1; omega
  have hm : 2 ^ p.length * j + 2 ^ p.length ≤ 2 ^ q.length := by
    rw [← hlen, ← Nat.mul_succ]
    exact Nat.mul_le_mul_left _ hj
  rw [List.getElem?_take_of_lt h, List.getElem?_drop, treeL_at q _ (by omega)]
  have hl : (q.take p.length).length = p.length := by rw [List.length_take]; omega
  have h1 := wP_append (q.take p.length) (q.drop p.length) i j (by rw [hl]; exact h)
  rw [hl, List.take_append_drop] at h1
  rw [Nat.add_comm (2 ^ p.length * j) i, h1]
theorem part_len (p q : List UInt8) (j : Nat) (hpq : p.length ≤ q.length) (hj : j < 2 ^ (q.length - p.length)) : (partL p q j).length = 2 ^ p.length := by
  unfold partL
  have hlen : 2 ^ p.length * 2 ^ (q.length - p.length) = 2 ^ q.length := by rw [← Nat.pow_add]; congr 1; omega
  have hm : 2 ^ p.length * j + 2 ^ p.length ≤ 2 ^ q.length := by
    rw [← hlen, ← Nat.mul_succ]
    exact Nat.mul_le_mul_left _ hj
  rw [List.length_take, List.length_drop, treeL_len]; omega
theorem sumTo_neg (f : Nat → Int) (n : Nat) : sumTo (fun i => -f i) n = -sumTo f n := by
  induction n with
  | zero => rfl
  | succ n ih => rw [sumTo_succ, sumTo_succ, ih]; omega
theorem bit01 (a b c : Nat) (ha : a ≤ 1) (hb : b ≤ 1) (hc : c ≤ 1) : (if some (bitC a) = some (bitC ((b + c) % 2)) then (1 : Int) else -1) = if c = 0 then (if some (bitC a) = some (bitC b) then 1 else -1) else -(if some (bitC a) = some (bitC b) then 1 else -1) := by
  rcases (show a = 0 ∨ a = 1 by omega) with rfl | rfl <;> rcases (show b = 0 ∨ b = 1 by omega) with rfl | rfl <;> rcases (show c = 0 ∨ c = 1 by omega) with rfl | rfl <;> decide
theorem part_dot (p q : List UInt8) (j : Nat) (hp : p.all isBit = true) (hq : q.all isBit = true) (hpq : p.length ≤ q.length) (hj : j < 2 ^ (q.length - p.length)) :
    dotL (treeL p) (partL p q j) = if conflB p q = true then (if wP (q.drop p.length) j = 0 then ((2 ^ p.length : Nat) : Int) else -((2 ^ p.length : Nat) : Int)) else 0 := by
  have hl : (q.take p.length).length = p.length := by rw [List.length_take]; omega
  have h0 : dotL (treeL p) (treeL (q.take p.length)) = if valP p = valP (q.take p.length) then ((2 ^ p.length : Nat) : Int) else 0 := by
    rw [treeL_walsh, treeL_walsh, hl]
    exact walsh_ortho p.length _ _ (valP_lt p) (by have := valP_lt (q.take p.length); rwa [hl] at this)
  have h1 : dotL (treeL p) (partL p q j) = if wP (q.drop p.length) j = 0 then dotL (treeL p) (treeL (q.take p.length)) else -dotL (treeL p) (treeL (q.take p.length)) := by
    have h2 : ∀ i, i < 2 ^ p.length → dotT (treeL p) (partL p q j) i = if wP (q.drop p.length) j = 0 then dotT (treeL p) (treeL (q.take p.length)) i else -dotT (treeL p) (treeL (q.take p.length)) i := by
      intro i hi
      unfold dotT
      rw [treeL_at p i hi, part_at p q j i hpq hj hi, treeL_at (q.take p.length) i (by rw [hl]; exact hi)]
      exact bit01 _ _ _ (wP_le _ _) (wP_le _ _) (wP_le _ _)
    unfold dotL
    rw [treeL_len, sumTo_congr _ _ _ h2]
    by_cases hc : wP (q.drop p.length) j = 0
    · simp only [if_pos hc]
    · simp only [if_neg hc]; exact sumTo_neg _ _
  have h3 : conflB p q = true ↔ valP p = valP (q.take p.length) := by
    rw [confl_ge p q hpq]
    constructor
    · intro h
      have h5 : p = q.take p.length := by simpa using h
      rw [← h5]
    · intro h
      have h4 := valP_inj p (q.take p.length) hl.symm hp (List.all_eq_true.2 fun c hc => List.all_eq_true.1 hq c (List.mem_of_mem_take hc)) h
      rw [← h4]; simp
  rw [h1, h0]
  by_cases hc : conflB p q = true
  · rw [if_pos hc, if_pos (h3.1 hc)]
  · rw [if_neg hc, if_neg (fun h => hc (h3.2 h))]
    split <;> rfl

end Go.Proofs.Ytfendecmgcmbjaa
