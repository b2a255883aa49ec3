/- Maximal registers of the sizes 2 to 6: which they are, and what their states do. Conditions: as each theorem says. -/
import Derived.Test.YtkebiigpfbconaaPureS
import Derived.Test.YtkebiigpfbconaaPureH
namespace Go.Proofs.Ytkebiigpfbconaa
open Go.RowKit
set_option linter.unusedSimpArgs false
set_option linter.unusedVariables false
set_option maxRecDepth 100000

/-! a form that reckons fast -/
def parG : Nat → Nat → Nat
  | 0, _ => 0
  | f + 1, x => (x % 2 + parG f (x / 2)) % 2
theorem parG_eq : ∀ (f x : Nat), x < 2 ^ f → parG f x = par x
  | 0, x, h => by
    obtain rfl : x = 0 := by simpa using h
    rw [par_zero]; rfl
  | f + 1, x, h => by
    rw [par_step x]
    show (x % 2 + parG f (x / 2)) % 2 = _
    rw [parG_eq f (x / 2) (by rw [Nat.pow_succ] at h; omega)]
def stepG (n t x : Nat) : Nat := x / 2 + parG n (x &&& t) * 2 ^ (n - 1)
theorem stepG_eq (n t x : Nat) (hx : x < 2 ^ n) : stepG n t x = stepN n t x := by
  unfold stepG stepN; rw [parG_eq n _ (Nat.lt_of_le_of_lt Nat.and_le_left hx)]
/-- The first k states from x on. -/
def orb (n t : Nat) : Nat → Nat → List Nat
  | _, 0 => []
  | x, k + 1 => x :: orb n t (stepG n t x) k
theorem orb_eq (n t : Nat) (hn : 1 ≤ n) : ∀ (k x : Nat), x < 2 ^ n → orb n t x k = (List.range k).map (st n t x)
  | 0, x, _ => rfl
  | k + 1, x, hx => by
    show x :: orb n t (stepG n t x) k = _
    rw [stepG_eq n t x hx, orb_eq n t hn k _ (stepN_lt n t x hn hx), List.range_succ_eq_map, List.map_cons, List.map_map]
    congr 1
    exact List.map_congr_left fun i _ => st_shift n t x i
theorem orb_len (n t : Nat) : ∀ (k x : Nat), (orb n t x k).length = k
  | 0, _ => rfl
  | k + 1, x => by show (orb n t _ k).length + 1 = _; rw [orb_len n t k]
theorem orb_at (n t k i : Nat) (hn : 1 ≤ n) (hi : i < k) : (orb n t 1 k)[i]? = some (st n t 1 i) := by
  rw [orb_eq n t hn k 1 (Nat.one_lt_two_pow (by omega)), List.getElem?_map, List.getElem?_range hi]; rfl
theorem orb_getD (n t k i : Nat) (hn : 1 ≤ n) (hi : i < k) : (orb n t 1 k).getD i 0 = st n t 1 i := by
  rw [List.getD_eq_getElem?_getD, orb_at n t k i hn hi]; rfl
/-! what a maximal register does -/
theorem fresh_or (n t x : Nat) : ∀ m, freshTo n t x m ∨ ∃ k, k < m ∧ freshTo n t x k ∧ ¬ seenI n t x k (st n t x k) < 0
  | 0 => .inl fun j hj => absurd hj (Nat.not_lt_zero _)
  | m + 1 => by
    rcases fresh_or n t x m with h | ⟨k, hk, h⟩
    · by_cases hc : seenI n t x m (st n t x m) < 0
      · refine .inl fun j hj => ?_
        by_cases hjm : j = m
        · subst hjm
          have := seenI_bd n t x j (st n t x j)
          omega
        · exact h j (by omega)
      · exact .inr ⟨m, Nat.lt_succ_self _, h, hc⟩
    · exact .inr ⟨k, by omega, h⟩
theorem max_walk (n t : Nat) (h1 : 1 ≤ n) (hm : maxB n t = true) : ∃ k e, freshTo n t 1 k ∧ st n t 1 e = st n t 1 k ∧ k = e + (2 ^ n - 1) ∧ k ≤ 2 ^ n := by
  have h2 : 1 < 2 ^ n := Nat.one_lt_two_pow (by omega)
  rcases fresh_or n t 1 (2 ^ n + 1) with h | ⟨k, hk, hf, hc⟩
  · have := fresh_le n t 1 _ h1 h2 h; omega
  · obtain ⟨e, he, hes, hei⟩ := seenI_yes n t 1 k _ hc
    refine ⟨k, e, hf, hes, ?_, by omega⟩
    have hw : walkN n t 1 (2 ^ n + 1) 0 = k := walkN_end n t 1 _ 0 k (Nat.zero_le _) (by omega) (fun j _ hj => by have := hf j hj; omega) hc
    unfold maxB at hm
    rw [beq_iff_eq] at hm
    unfold periodI at hm
    rw [hw, hei] at hm
    omega
def distB : List Nat → Bool
  | [] => true
  | a :: l => !(l.any (Nat.beq a)) && distB l
theorem distB_of : ∀ l : List Nat, l.Pairwise (· ≠ ·) → distB l = true
  | [], _ => rfl
  | a :: l, h => by
    rw [List.pairwise_cons] at h
    show (!(l.any (Nat.beq a)) && distB l) = true
    rw [distB_of l h.2, Bool.and_true, Bool.not_eq_true', List.any_eq_false]
    intro b hb
    have := h.1 b hb
    simp [this]
def fastM (n t : Nat) : Bool := distB (orb n t 1 (2 ^ n - 1)) && (Nat.beq ((orb n t 1 (2 ^ n)).getD (2 ^ n - 1) 0) 1 || Nat.beq ((orb n t 1 (2 ^ n + 1)).getD (2 ^ n) 0) (stepG n t 1))
theorem max_fast (n t : Nat) (h1 : 1 ≤ n) (hm : maxB n t = true) : fastM n t = true := by
  obtain ⟨k, e, hf, hes, hke, hk⟩ := max_walk n t h1 hm
  have h2 : 1 < 2 ^ n := Nat.one_lt_two_pow (by omega)
  have hd : distB (orb n t 1 (2 ^ n - 1)) = true := by
    refine distB_of _ ?_
    rw [orb_eq n t h1 _ 1 h2, List.pairwise_map]
    exact List.Pairwise.imp_of_mem (fun {a b} ha hb hab => fresh_inj n t 1 k hf a b hab (by have := List.mem_range.1 hb; omega)) List.pairwise_lt_range
  unfold fastM
  rw [hd, Bool.true_and, Bool.or_eq_true]
  rcases (show e = 0 ∨ e = 1 by omega) with rfl | rfl
  · refine .inl ?_
    rw [orb_getD n t _ _ h1 (by omega), show 2 ^ n - 1 = k by omega, ← hes]; rfl
  · refine .inr ?_
    rw [orb_getD n t _ _ h1 (by omega), show 2 ^ n = k by omega, ← hes, stepG_eq n t 1 h2]
    exact Nat.beq_refl _
/-- The maximal taps. -/
def tapL (n : Nat) : List Nat := if n = 2 then [3] else if n = 3 then [3, 5] else if n = 4 then [3, 9] else if n = 5 then [5, 9, 15, 23, 27, 29] else if n = 6 then [3, 27, 33, 39, 45, 51] else []
def onlyB (n : Nat) : Bool := (List.range (2 ^ n)).all fun t => !fastM n t || (tapL n).any (Nat.beq t)
theorem only2 : onlyB 2 = true := by kernel_rfl
theorem only3 : onlyB 3 = true := by kernel_rfl
theorem only4 : onlyB 4 = true := by kernel_rfl
theorem only5 : onlyB 5 = true := by kernel_rfl
theorem only6 : onlyB 6 = true := by kernel_rfl
theorem sizes6 {p : Nat → Prop} (h2 : p 2) (h3 : p 3) (h4 : p 4) (h5 : p 5) (h6 : p 6) (n : Nat) (hn2 : 2 ≤ n) (hn6 : n ≤ 6) : p n := by
  rcases (show n = 2 ∨ n = 3 ∨ n = 4 ∨ n = 5 ∨ n = 6 by omega) with rfl | rfl | rfl | rfl | rfl
  · exact h2
  · exact h3
  · exact h4
  · exact h5
  · exact h6
theorem max_tap (n t : Nat) (h2 : 2 ≤ n) (h6 : n ≤ 6) (ht : t < 2 ^ n) (hm : maxB n t = true) : t ∈ tapL n := by
  have h := sizes6 (p := fun n => onlyB n = true) only2 only3 only4 only5 only6 n h2 h6
  have := List.all_eq_true.1 h t (List.mem_range.2 ht)
  rw [max_fast n t (by omega) hm] at this
  obtain ⟨x, hx, he⟩ := List.any_eq_true.1 (show (tapL n).any (Nat.beq t) = true from this)
  rw [Nat.eq_of_beq_eq_true he]; exact hx
def oddN : List Nat → Nat
  | [] => 0
  | x :: l => x % 2 + oddN l
theorem oddN_app (l m : List Nat) : oddN (l ++ m) = oddN l + oddN m := by
  induction l with
  | nil => show _ = 0 + _; rw [Nat.zero_add]; rfl
  | cons x l ih => show x % 2 + oddN (l ++ m) = x % 2 + oddN l + _; rw [ih]; omega
def sgN (x : Nat) : Int := if x % 2 = 0 then 1 else -1
theorem sum_odd (f : Nat → Nat) (k : Nat) : sumTo (fun i => sgN (f i)) k = (k : Int) - 2 * (oddN ((List.range k).map f) : Nat) := by
  induction k with
  | zero => rfl
  | succ k ih =>
    rw [sumTo_succ, ih, List.range_succ, List.map_append, oddN_app]
    show _ + sgN (f k) = _ - 2 * ((_ + (f k % 2 + 0) : Nat) : Int)
    unfold sgN
    split <;> omega
/-- It comes back to 1, visits all states but 0, and all but one more than half of them are odd. -/
def doesB (n t : Nat) : Bool :=
  Nat.beq ((orb n t 1 (2 ^ n)).getD (2 ^ n - 1) 0) 1 && ((List.range (2 ^ n - 1)).all fun z => (orb n t 1 (2 ^ n - 1)).any (Nat.beq (z + 1))) && Nat.beq (oddN (orb n t 1 (2 ^ n - 1))) (2 ^ (n - 1)) &&
    ((orb n t 1 (2 ^ n - 1)).drop 1).all (fun x => !(Nat.beq x 1))
def allDo (n : Nat) : Bool := (tapL n).all (doesB n)
theorem do2 : allDo 2 = true := by kernel_rfl
theorem do3 : allDo 3 = true := by kernel_rfl
theorem do4 : allDo 4 = true := by kernel_rfl
theorem do5 : allDo 5 = true := by kernel_rfl
theorem do6 : allDo 6 = true := by kernel_rfl
structure MaxF (n t : Nat) : Prop where
  back : st n t 1 (2 ^ n - 1) = 1
  all : ∀ z, 1 ≤ z → z < 2 ^ n → ∃ j, j < 2 ^ n - 1 ∧ st n t 1 j = z
  sum : sumTo (fun i => sgN (st n t 1 i)) (2 ^ n - 1) = -1
  once : ∀ j, 0 < j → j < 2 ^ n - 1 → st n t 1 j ≠ 1
theorem max_facts (n t : Nat) (h2 : 2 ≤ n) (h6 : n ≤ 6) (ht : t < 2 ^ n) (hm : maxB n t = true) : MaxF n t := by
  have h := sizes6 (p := fun n => allDo n = true) do2 do3 do4 do5 do6 n h2 h6
  have hd := List.all_eq_true.1 h t (max_tap n t h2 h6 ht hm)
  have h1 : 1 < 2 ^ n := Nat.one_lt_two_pow (by omega)
  unfold doesB at hd
  rw [Bool.and_eq_true, Bool.and_eq_true, Bool.and_eq_true] at hd
  obtain ⟨⟨⟨c1, c2⟩, c3⟩, c4⟩ := hd
  rw [orb_getD n t _ _ (by omega) (by omega)] at c1
  refine ⟨Nat.eq_of_beq_eq_true c1, fun z hz1 hz => ?_, ?_, fun j hj1 hj => ?_⟩
  · have := List.all_eq_true.1 c2 (z - 1) (List.mem_range.2 (by omega))
    obtain ⟨x, hx, he⟩ := List.any_eq_true.1 this
    have hxz : z - 1 + 1 = x := Nat.eq_of_beq_eq_true he
    rw [orb_eq n t (by omega) _ 1 h1] at hx
    obtain ⟨j, hj, hjx⟩ := List.mem_map.1 hx
    exact ⟨j, List.mem_range.1 hj, by rw [hjx]; omega⟩
  · rw [sum_odd, ← orb_eq n t (by omega) _ 1 h1, Nat.eq_of_beq_eq_true c3]
    obtain ⟨m, rfl⟩ : ∃ m, n = m + 1 := ⟨n - 1, by omega⟩
    rw [Nat.add_sub_cancel, Nat.pow_succ]
    have : 0 < 2 ^ m := Nat.two_pow_pos m
    omega
  · have hx : ((orb n t 1 (2 ^ n - 1)).drop 1)[j - 1]? = some (st n t 1 j) := by
      rw [List.getElem?_drop, show 1 + (j - 1) = j by omega, orb_at n t _ j (by omega) hj]
    have := List.all_eq_true.1 c4 _ (List.mem_of_getElem? hx)
    intro e
    rw [e] at this
    exact absurd this (by decide)

end Go.Proofs.Ytkebiigpfbconaa
