/- Any two maximal sequences of a size up to 6 are shifts of decimations of each other; that of reversed taps is a shift of the sequence in reverse order: plain law. Conditions: as each theorem says. -/
import Derived.Test.YtkebiigpfbconaaPureL
import Derived.Test.YtkebiigpfbconaaC15
namespace Go.Proofs.Ytkebiigpfbconaa
open Go.RowKit
set_option linter.unusedSimpArgs false
set_option linter.unusedVariables false
set_option maxRecDepth 100000

def seqN (n t : Nat) : List Nat := (orb n t 1 (2 ^ n - 1)).map (· % 2)
theorem run_seq (n t : Nat) (hn : 1 ≤ n) : runL n t 1 (2 ^ n - 1) = (seqN n t).map bitC := by
  unfold runL seqN
  rw [orb_eq n t hn _ 1 (Nat.one_lt_two_pow (by omega)), List.map_map, List.map_map]; rfl
theorem seqN_len (n t : Nat) : (seqN n t).length = 2 ^ n - 1 := by unfold seqN; rw [List.length_map, orb_len]
def rotN (l : List Nat) (k : Nat) : List Nat := l.drop k ++ l.take k
def decN (l : List Nat) (k : Nat) : List Nat := (List.range l.length).map fun i => l.getD (k * i % l.length) 0
theorem rot_bitC (l : List Nat) (k : Nat) : rotL (l.map bitC) k = (rotN l k).map bitC := by unfold rotL rotN; rw [List.map_append, List.map_drop, List.map_take]
theorem dec_bitC (l : List Nat) (k : Nat) : decL (l.map bitC) k = (decN l k).map bitC := by
  unfold decL decN
  rw [List.length_map, List.map_map]
  refine List.map_congr_left fun i hi => ?_
  have h : k * i % l.length < l.length := Nat.mod_lt _ (by have := List.mem_range.1 hi; omega)
  show (l.map bitC).getD _ 48 = bitC (l.getD _ 0)
  rw [List.getD_eq_getElem?_getD, List.getD_eq_getElem?_getD, List.getElem?_map, List.getElem?_eq_getElem h]; rfl
def eqN : List Nat → List Nat → Bool
  | [], [] => true
  | a :: l, b :: m => Nat.beq a b && eqN l m
  | _, _ => false
theorem eqN_eq : ∀ l m : List Nat, eqN l m = true → l = m
  | [], [], _ => rfl
  | [], _ :: _, h => by cases h
  | _ :: _, [], h => by cases h
  | a :: l, b :: m, h => by
    have h' : (Nat.beq a b && eqN l m) = true := h
    rw [Bool.and_eq_true] at h'
    rw [Nat.eq_of_beq_eq_true h'.1, eqN_eq l m h'.2]
/-- Taps, other taps, by how much to decimate, by how much to shift. -/
def witL (n : Nat) : List (Nat × Nat × Nat × Nat) :=
  if n = 2 then [(3, 3, 1, 0)]
  else if n = 3 then [(3, 3, 1, 0), (3, 5, 3, 4), (5, 3, 3, 1), (5, 5, 1, 0)]
  else if n = 4 then [(3, 3, 1, 0), (3, 9, 7, 10), (9, 3, 7, 8), (9, 9, 1, 0)]
  else if n = 5 then [(5, 5, 1, 0), (5, 9, 15, 21), (5, 15, 7, 21), (5, 23, 5, 17), (5, 27, 11, 2), (5, 29, 3, 0), (9, 5, 15, 26), (9, 9, 1, 0), (9, 15, 3, 7), (9, 23, 11, 16), (9, 27, 5, 10), (9, 29, 7, 19), (15, 5, 5, 6), (15, 9, 11, 5), (15, 15, 1, 0), (15, 23, 7, 15), (15, 27, 3, 18), (15, 29, 15, 2), (23, 5, 7, 6), (23, 9, 3, 5), (23, 15, 5, 10), (23, 23, 1, 0), (23, 27, 15, 11), (23, 29, 11, 26), (27, 5, 3, 2), (27, 9, 7, 3), (27, 15, 11, 23), (27, 23, 15, 5), (27, 27, 1, 0), (27, 29, 5, 17), (29, 5, 11, 13), (29, 9, 5, 21), (29, 15, 15, 14), (29, 23, 3, 20), (29, 27, 7, 25), (29, 29, 1, 0)]
  else if n = 6 then [(3, 3, 1, 0), (3, 27, 13, 47), (3, 33, 31, 56), (3, 39, 5, 0), (3, 45, 11, 4), (3, 51, 23, 43), (27, 3, 5, 9), (27, 27, 1, 0), (27, 33, 23, 41), (27, 39, 11, 41), (27, 45, 31, 7), (27, 51, 13, 31), (33, 3, 31, 52), (33, 27, 11, 2), (33, 33, 1, 0), (33, 39, 23, 17), (33, 45, 13, 25), (33, 51, 5, 33), (39, 3, 13, 31), (39, 27, 23, 53), (39, 33, 11, 50), (39, 39, 1, 0), (39, 45, 5, 39), (39, 51, 31, 19), (45, 3, 23, 19), (45, 27, 31, 38), (45, 33, 5, 24), (45, 39, 13, 41), (45, 45, 1, 0), (45, 51, 11, 28), (51, 3, 11, 19), (51, 27, 5, 57), (51, 33, 13, 41), (51, 39, 31, 26), (51, 45, 23, 7), (51, 51, 1, 0)]
  else []
def famW (n : Nat) : Bool := (tapL n).all fun t => (tapL n).all fun o => (witL n).any fun q =>
  Nat.beq q.1 t && (Nat.beq q.2.1 o && (Nat.ble 1 q.2.2.1 && (Nat.ble (q.2.2.1 + 1) (2 ^ n - 1) && (Nat.ble (q.2.2.2 + 1) (2 ^ n - 1) && eqN (rotN (decN (seqN n t) q.2.2.1) q.2.2.2) (seqN n o)))))
theorem fam2 : famW 2 = true := by kernel_rfl
theorem fam3 : famW 3 = true := by kernel_rfl
theorem fam4 : famW 4 = true := by kernel_rfl
theorem fam5 : famW 5 = true := by kernel_rfl
theorem fam6 : famW 6 = true := by kernel_rfl
theorem fam_wit (n t o : Nat) (h2 : 2 ≤ n) (h6 : n ≤ 6) (ht : t ∈ tapL n) (ho : o ∈ tapL n) :
    ∃ k j, 1 ≤ k ∧ k < 2 ^ n - 1 ∧ j < 2 ^ n - 1 ∧ rotL (decL (runL n t 1 (2 ^ n - 1)) k) j = runL n o 1 (2 ^ n - 1) := by
  have h := sizes6 (p := fun n => famW n = true) fam2 fam3 fam4 fam5 fam6 n h2 h6
  obtain ⟨q, hq, hc⟩ := List.any_eq_true.1 (List.all_eq_true.1 (List.all_eq_true.1 h t ht) o ho)
  rw [Bool.and_eq_true, Bool.and_eq_true, Bool.and_eq_true, Bool.and_eq_true, Bool.and_eq_true] at hc
  obtain ⟨_, _, h1, hk, hj, he⟩ := hc
  have hk' := Nat.le_of_ble_eq_true hk
  have hj' := Nat.le_of_ble_eq_true hj
  refine ⟨q.2.2.1, q.2.2.2, Nat.le_of_ble_eq_true h1, by omega, by omega, ?_⟩
  rw [run_seq n t (by omega), run_seq n o (by omega), dec_bitC, rot_bitC, eqN_eq _ _ he]
/-- The taps in reverse order, from the first i ones. -/
def revT (n t : Nat) : Nat → Nat
  | 0 => 1
  | i + 1 => if t / 2 ^ (i + 1) % 2 = 1 then revT n t i ||| 2 ^ (n - (i + 1)) else revT n t i
def revW (n : Nat) : Bool := (tapL n).all fun t => Nat.beq (t % 2) 1 && ((tapL n).any (Nat.beq (revT n t (n - 1))) &&
  (((List.range (2 ^ n - 1)).any fun j => eqN (rotN (seqN n (revT n t (n - 1))) j) (seqN n t).reverse) && eqN ((seqN n t).take n) (1 :: List.replicate (n - 1) 0)))
theorem rev2 : revW 2 = true := by kernel_rfl
theorem rev3 : revW 3 = true := by kernel_rfl
theorem rev4 : revW 4 = true := by kernel_rfl
theorem rev5 : revW 5 = true := by kernel_rfl
theorem rev6 : revW 6 = true := by kernel_rfl
theorem rev_wit (n t : Nat) (h2 : 2 ≤ n) (h6 : n ≤ 6) (ht : t ∈ tapL n) :
    t % 2 = 1 ∧ revT n t (n - 1) ∈ tapL n ∧ (∃ j, j < 2 ^ n - 1 ∧ rotL (runL n (revT n t (n - 1)) 1 (2 ^ n - 1)) j = (runL n t 1 (2 ^ n - 1)).reverse) ∧ (runL n t 1 (2 ^ n - 1)).take n = 49 :: List.replicate (n - 1) 48 := by
  have h := sizes6 (p := fun n => revW n = true) rev2 rev3 rev4 rev5 rev6 n h2 h6
  have hc := List.all_eq_true.1 h t ht
  rw [Bool.and_eq_true, Bool.and_eq_true, Bool.and_eq_true] at hc
  obtain ⟨c1, c2, c3, c4⟩ := hc
  obtain ⟨x, hx, he⟩ := List.any_eq_true.1 c2
  obtain ⟨j, hj, hr⟩ := List.any_eq_true.1 c3
  refine ⟨Nat.eq_of_beq_eq_true c1, by rw [Nat.eq_of_beq_eq_true he]; exact hx, ⟨j, List.mem_range.1 hj, ?_⟩, ?_⟩
  · rw [run_seq n _ (by omega), run_seq n t (by omega), rot_bitC, eqN_eq _ _ hr, List.map_reverse]
  · rw [run_seq n t (by omega), ← List.map_take, eqN_eq _ _ c4, List.map_cons, List.map_replicate]; rfl
def maxW (n : Nat) : Bool := (tapL n).all fun t => maxB n t && Nat.ble (t + 1) (2 ^ n)
theorem maxw2 : maxW 2 = true := by kernel_rfl
theorem maxw3 : maxW 3 = true := by kernel_rfl
theorem maxw4 : maxW 4 = true := by kernel_rfl
theorem maxw5 : maxW 5 = true := by kernel_rfl
theorem maxw6 : maxW 6 = true := by kernel_rfl
theorem tap_max (n t : Nat) (h2 : 2 ≤ n) (h6 : n ≤ 6) (ht : t ∈ tapL n) : maxB n t = true ∧ t < 2 ^ n := by
  have h := sizes6 (p := fun n => maxW n = true) maxw2 maxw3 maxw4 maxw5 maxw6 n h2 h6
  have hc := List.all_eq_true.1 h t ht
  rw [Bool.and_eq_true] at hc
  exact ⟨hc.1, Nat.le_of_ble_eq_true hc.2⟩

end Go.Proofs.Ytkebiigpfbconaa
