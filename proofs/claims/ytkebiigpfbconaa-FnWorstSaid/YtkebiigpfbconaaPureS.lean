/- What registers reckon, in plain Lean. Conditions: none. -/
import Derived.Test.YtkebiigpfbconaaPureF
namespace Go.Proofs.Ytkebiigpfbconaa
open Go.RowKit
set_option linter.unusedSimpArgs false
set_option linter.unusedVariables false

/-- One step of a register of size n with the taps t. -/
def stepN (n t x : Nat) : Nat := x / 2 + par (x &&& t) * 2 ^ (n - 1)
def st (n t x : Nat) : Nat → Nat
  | 0 => x
  | i + 1 => stepN n t (st n t x i)
theorem stepN_lt (n t x : Nat) (hn : 1 ≤ n) (hx : x < 2 ^ n) : stepN n t x < 2 ^ n := by
  have h1 := par_le (x &&& t)
  obtain ⟨m, rfl⟩ : ∃ m, n = m + 1 := ⟨n - 1, by omega⟩
  unfold stepN
  rw [Nat.pow_succ] at *
  rw [Nat.add_sub_cancel]
  rcases (show par (x &&& t) = 0 ∨ par (x &&& t) = 1 by omega) with h | h <;> rw [h] <;> omega
theorem st_lt (n t x i : Nat) (hn : 1 ≤ n) (hx : x < 2 ^ n) : st n t x i < 2 ^ n := by
  induction i with
  | zero => exact hx
  | succ i ih => exact stepN_lt n t _ hn ih
theorem st_shift (n t x i : Nat) : st n t (stepN n t x) i = st n t x (i + 1) := by
  induction i with
  | zero => rfl
  | succ i ih => show stepN n t (st n t (stepN n t x) i) = stepN n t (st n t x (i + 1)); rw [ih]
def runL (n t x k : Nat) : List UInt8 := (List.range k).map fun i => bitC (st n t x i % 2)
theorem runL_len (n t x k : Nat) : (runL n t x k).length = k := by simp [runL]
theorem runL_at (n t x k i : Nat) (h : i < k) : (runL n t x k)[i]? = some (bitC (st n t x i % 2)) := by simp [runL, h]
theorem runL_bits (n t x k : Nat) : (runL n t x k).all isBit = true := by
  rw [List.all_eq_true]
  intro c hc
  obtain ⟨i, _, rfl⟩ := List.mem_map.1 hc
  exact bitC_bit _
/-- The first index at which the state s is met, among the first k. -/
def seenN (n t x k s : Nat) : Option Nat := (List.range k).find? fun j => st n t x j == s
def seenI (n t x k s : Nat) : Int := match seenN n t x k s with | some j => (j : Int) | none => -1
theorem seenI_zero (n t x s : Nat) : seenI n t x 0 s = -1 := rfl
theorem seenI_new (n t x k : Nat) (h : seenI n t x k (st n t x k) = -1) (s : Nat) : seenI n t x (k + 1) s = if s = st n t x k then (k : Int) else seenI n t x k s := by
  unfold seenI seenN at *
  rw [List.range_succ, List.find?_append]
  by_cases hs : s = st n t x k
  · subst hs
    rw [if_pos rfl]
    cases hf : (List.range k).find? (fun j => st n t x j == st n t x k) with
    | some j => rw [hf] at h; exact absurd h (by simp)
    | none => simp
  · rw [if_neg hs]
    have h1 : ¬ st n t x k = s := fun h => hs h.symm
    cases hf : (List.range k).find? (fun j => st n t x j == s) with
    | some j => simp
    | none => simp [h1]
theorem seenI_bd (n t x k s : Nat) : -1 ≤ seenI n t x k s ∧ seenI n t x k s < max k 1 := by
  unfold seenI seenN
  cases hf : (List.range k).find? (fun j => st n t x j == s) with
  | none => simp; omega
  | some j =>
    have := List.mem_range.1 (List.mem_of_find?_eq_some hf)
    simp; omega
theorem seenI_yes (n t x k s : Nat) (h : ¬ seenI n t x k s < 0) : ∃ j, j < k ∧ st n t x j = s ∧ seenI n t x k s = j := by
  unfold seenI seenN at *
  cases hf : (List.range k).find? (fun j => st n t x j == s) with
  | none => rw [hf] at h; exact absurd (show (-1 : Int) < 0 by omega) h
  | some j =>
    have h1 := List.mem_range.1 (List.mem_of_find?_eq_some hf)
    have h2 := List.find?_some hf
    exact ⟨j, h1, by simpa using h2, rfl⟩
/-- No state is met again among the first k. -/
def freshTo (n t x k : Nat) : Prop := ∀ j, j < k → seenI n t x j (st n t x j) = -1
theorem fresh_inj (n t x k : Nat) (h : freshTo n t x k) : ∀ i j, i < j → j < k → st n t x i ≠ st n t x j := by
  intro i j hij hj he
  have h1 := h j hj
  unfold seenI seenN at h1
  cases hf : (List.range j).find? (fun q => st n t x q == st n t x j) with
  | some q => rw [hf] at h1; exact absurd h1 (by simp)
  | none =>
    have := List.find?_eq_none.1 hf i (List.mem_range.2 hij)
    rw [he] at this; simp at this
theorem pigeon (N : Nat) : ∀ l : List Nat, l.Nodup → (∀ a ∈ l, a < N) → l.length ≤ N := by
  induction N with
  | zero =>
    intro l _ h
    cases l with
    | nil => exact Nat.le_refl _
    | cons a l => exact absurd (h a List.mem_cons_self) (by omega)
  | succ N ih =>
    intro l hn h
    have h1 := ih (l.erase N) (hn.erase N) fun a ha => by
      have h2 := (List.Nodup.mem_erase_iff hn).1 ha
      have h3 := h a h2.2
      have h4 := h2.1
      omega
    by_cases hm : N ∈ l
    · rw [List.length_erase_of_mem hm] at h1; omega
    · rw [List.erase_of_not_mem hm] at h1; omega
theorem fresh_le (n t x k : Nat) (hn : 1 ≤ n) (hx : x < 2 ^ n) (h : freshTo n t x k) : k ≤ 2 ^ n := by
  have hnd : ((List.range k).map (st n t x)).Nodup := by
    rw [List.nodup_iff_pairwise_ne, List.pairwise_map]
    exact List.Pairwise.imp_of_mem (fun {a b} ha hb hab => fresh_inj n t x k h a b hab (List.mem_range.1 hb)) List.pairwise_lt_range
  have := pigeon (2 ^ n) _ hnd fun a ha => by
    obtain ⟨i, _, rfl⟩ := List.mem_map.1 ha
    exact st_lt n t x i hn hx
  simpa using this
/-- The period of a register by walking on till a state is met again. -/
def walkN (n t x : Nat) : Nat → Nat → Nat
  | 0, k => k
  | f + 1, k => if seenI n t x k (st n t x k) < 0 then walkN n t x f (k + 1) else k
def periodI (n t x : Nat) : Int := (walkN n t x (2 ^ n + 1) 0 : Nat) - seenI n t x (walkN n t x (2 ^ n + 1) 0) (st n t x (walkN n t x (2 ^ n + 1) 0))
theorem walkN_end (n t x f k e : Nat) (hke : k ≤ e) (hf : e < k + f) (h : ∀ j, k ≤ j → j < e → seenI n t x j (st n t x j) < 0) (he : ¬ seenI n t x e (st n t x e) < 0) : walkN n t x f k = e := by
  induction f generalizing k with
  | zero => omega
  | succ f ih =>
    show (if seenI n t x k (st n t x k) < 0 then walkN n t x f (k + 1) else k) = e
    by_cases hc : k = e
    · subst hc; rw [if_neg he]
    · rw [if_pos (h k (Nat.le_refl _) (by omega))]
      exact ih (k + 1) (by omega) (by omega) fun j h1 h2 => h j (by omega) h2
def tapsB (s t : Int) : Bool := within 2 8 s && within 1 (two s - 1) t
def regB (s t x : Int) : Bool := tapsB s t && within 0 (two s - 1) x
def maxB (n t : Nat) : Bool := periodI n t 1 == ((2 ^ n - 1 : Nat) : Int)
def mtapsL (n k : Nat) : List Int := ((List.range k).filter fun i => maxB n (i + 1)).map fun i => ((i + 1 : Nat) : Int)

end Go.Proofs.Ytkebiigpfbconaa
