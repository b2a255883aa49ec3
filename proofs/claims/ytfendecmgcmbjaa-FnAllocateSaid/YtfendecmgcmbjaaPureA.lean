/- Plain law of the first free path: what is left when it is taken. Conditions: none. -/
import Derived.Test.YtfendecmgcmbjaaPureT
namespace Go.Proofs.Ytfendecmgcmbjaa
open Go.RowKit
set_option linter.unusedSimpArgs false
set_option linter.unusedVariables false

theorem less_snoc : ∀ (u v : List UInt8) (a b : UInt8), u.length = v.length → Op.bytesLess (u ++ [a]) (v ++ [b]) = (Op.bytesLess u v || (u == v && decide (a < b))) := by
  intro u
  induction u with
  | nil =>
    intro v a b h
    obtain rfl : v = [] := (List.eq_nil_of_length_eq_zero h.symm)
    show (decide (a < b) || (a == b && Op.bytesLess [] [])) = _
    simp [Op.bytesLess]
  | cons x u ih =>
    intro v a b h
    cases v with
    | nil => simp at h
    | cons y v =>
      show (decide (x < y) || (x == y && Op.bytesLess (u ++ [a]) (v ++ [b]))) = ((decide (x < y) || (x == y && Op.bytesLess u v)) || ((x :: u) == (y :: v) && decide (a < b)))
      rw [ih v a b (by simpa using h)]
      by_cases hxy : x = y
      · subst hxy
        simp
      · have h1 : (x == y) = false := by simpa using hxy
        have h2 : ((x :: u) == (y :: v)) = false := by simp [hxy]
        rw [h1, h2]; simp
theorem less_binL (d : Nat) : ∀ x y : Nat, x < y → y < 2 ^ d → Op.bytesLess (binL d x) (binL d y) = true := by
  induction d with
  | zero => intro x y h1 h2; simp at h2; omega
  | succ d ih =>
    intro x y h1 h2
    rw [Nat.pow_succ] at h2
    have hx := binL_next d (x / 2) (x % 2) (by omega)
    have hy := binL_next d (y / 2) (y % 2) (by omega)
    rw [Nat.div_add_mod] at hx hy
    rw [hx, hy, less_snoc _ _ _ _ (by rw [binL_len, binL_len])]
    by_cases hc : x / 2 < y / 2
    · rw [ih _ _ hc (by omega)]; rfl
    · have h3 : x / 2 = y / 2 := by omega
      rw [h3, show x % 2 = 0 by omega, show y % 2 = 1 by omega]
      simp [bitC]
theorem less_asymm : ∀ u v : List UInt8, Op.bytesLess u v = true → Op.bytesLess v u = false ∧ (v == u) = false := by
  intro u
  induction u with
  | nil =>
    intro v h
    cases v with
    | nil => exact absurd h (by decide)
    | cons y v => exact ⟨rfl, rfl⟩
  | cons x u ih =>
    intro v h
    cases v with
    | nil => exact absurd h (by simp [Op.bytesLess])
    | cons y v =>
      have h1 : x < y ∨ (x = y ∧ Op.bytesLess u v = true) := by
        have h2 : (decide (x < y) || (x == y && Op.bytesLess u v)) = true := h
        simpa using h2
      rcases h1 with h1 | ⟨rfl, h1⟩
      · have h3 : ¬ y < x := fun h => by
          have := UInt8.lt_iff_toNat_lt.1 h1
          have := UInt8.lt_iff_toNat_lt.1 h
          omega
        have h4 : ¬ y = x := fun h => by
          have := UInt8.lt_iff_toNat_lt.1 h1
          rw [h] at this; omega
        constructor
        · show (decide (y < x) || (y == x && Op.bytesLess v u)) = false
          simp [h3, h4]
        · simp [h4]
      · obtain ⟨h5, h6⟩ := ih v h1
        constructor
        · show (decide (x < x) || (x == x && Op.bytesLess v u)) = false
          rw [h5]
          have : ¬ x < x := fun h => by
            have := UInt8.lt_iff_toNat_lt.1 h
            omega
          simp [this]
        · have h7 : ¬ v = u := by simpa using h6
          simp [h7]
theorem binL_inj (d x y : Nat) (hx : x < 2 ^ d) (hy : y < 2 ^ d) (h : binL d x = binL d y) : x = y := by
  rcases Nat.lt_trichotomy x y with h1 | h1 | h1
  · have := (less_asymm _ _ (less_binL d x y h1 hy)).2
    rw [h] at this; simp at this
  · exact h1
  · have := (less_asymm _ _ (less_binL d y x h1 hx)).2
    rw [h] at this; simp at this
/-- The numbers of the free paths. -/
def freeI (us : List (List UInt8)) (d : Nat) : List Nat := (List.range (2 ^ d)).filter fun x => freeAt us (binL d x)
theorem freeL_I (us : List (List UInt8)) (d : Nat) : freeL us d = (freeI us d).map (binL d) := by
  unfold freeL freeI
  rw [List.filter_map]; rfl
theorem filter_one (l : List Nat) (x : Nat) (hp : List.Pairwise (· < ·) (x :: l)) : (x :: l).filter (fun y => !(y == x)) = l := by
  rw [List.filter_cons_of_neg (by simp)]
  apply List.filter_eq_self.2
  intro y hy
  have := List.rel_of_pairwise_cons hp hy
  simp; omega
theorem free_taken (us us' : List (List UInt8)) (d : Nat) (p : List UInt8) (r : List (List UInt8)) (h : freeL us d = p :: r) (hu : ∀ x, freeAt us' x = (freeAt us x && !conflB x p)) :
    freeL us' d = r ∧ p.length = d ∧ pathB p = pathB (binL d 0) ∧ (∀ q ∈ us, conflB p q = false) ∧ ∀ y s, r = y :: s → Op.bytesLess y p = false ∧ (y == p) = false := by
  rw [freeL_I] at h
  have hmem : ∀ x ∈ freeI us d, x < 2 ^ d ∧ freeAt us (binL d x) = true := fun x hx => by
    obtain ⟨h1, h2⟩ := List.mem_filter.1 hx
    exact ⟨List.mem_range.1 h1, h2⟩
  have hpw : List.Pairwise (· < ·) (freeI us d) := List.Pairwise.filter _ List.pairwise_lt_range
  have hI' : freeI us' d = (freeI us d).filter fun x => !conflB (binL d x) p := by
    unfold freeI
    rw [List.filter_filter]
    congr 1
    funext x
    rw [hu, Bool.and_comm]
  cases hI : freeI us d with
  | nil => rw [hI] at h; exact absurd h (by simp)
  | cons x0 xs =>
    rw [hI] at h hpw hmem hI'
    rw [List.map_cons] at h
    injection h with h1 h2
    have hx0 := hmem x0 List.mem_cons_self
    have hfl : freeI us' d = xs := by
      refine Eq.trans ?_ (filter_one xs x0 hpw)
      rw [hI']
      apply List.filter_congr
      intro x hx
      have hxb := hmem x hx
      rw [← h1, confl_le _ _ (by rw [binL_len, binL_len]; exact Nat.le_refl _), binL_len, List.take_of_length_le (by rw [binL_len]; exact Nat.le_refl _)]
      by_cases hc : x = x0
      · rw [hc]; simp
      · have : ¬ binL d x = binL d x0 := fun h => hc (binL_inj d x x0 hxb.1 hx0.1 h)
        rw [beq_eq_false_iff_ne.2 this, beq_eq_false_iff_ne.2 hc]
    refine ⟨by rw [freeL_I, hfl]; exact h2, by rw [← h1, binL_len], ?_, ?_, ?_⟩
    · rw [← h1]
      simp only [pathB, binL_len, binL_bits]
    · intro q hq
      have h3 := hx0.2
      rw [h1] at h3
      unfold freeAt at h3
      have h4 := List.all_eq_true.1 h3 q hq
      simpa using h4
    · intro y s hys
      rw [hys] at h2
      cases hxs : xs with
      | nil => rw [hxs] at h2; exact absurd h2 (by simp)
      | cons x1 xs' =>
        rw [hxs, List.map_cons] at h2
        injection h2 with h3 h4
        have hlt := List.rel_of_pairwise_cons hpw (show x1 ∈ xs by rw [hxs]; exact List.mem_cons_self)
        have hx1 := hmem x1 (List.mem_cons_of_mem _ (by rw [hxs]; exact List.mem_cons_self))
        rw [← h1, ← h3]
        exact less_asymm _ _ (less_binL d x0 x1 hlt hx1.1)
theorem freeAt_snoc (us : List (List UInt8)) (p x : List UInt8) : freeAt (us ++ [p]) x = (freeAt us x && !conflB x p) := by
  unfold freeAt; rw [List.all_append]; simp
theorem freeAt_cons (us : List (List UInt8)) (p x : List UInt8) : freeAt (p :: us) x = (freeAt us x && !conflB x p) := by
  unfold freeAt; rw [List.all_cons, Bool.and_comm]

theorem alloc_ways (us : List (List UInt8)) (z : Int) : (∃ N : Int, (N = -1 ∨ N = 0) ∧ allocC us z = ([], false) ∧ freeC us z = N) ∨
    (∃ (d : Nat) (p : List UInt8) (r : List (List UInt8)), z = d ∧ d ≤ 6 ∧ us.length ≤ 70 ∧ us.all pathB = true ∧ freeL us d = p :: r ∧ allocC us z = (p, true) ∧ freeC us z = ((r.length + 1 : Nat) : Int)) := by
  rcases freeC_ways us z with h | ⟨d, rfl, hd, hl, ha, hu, h⟩
  · cases hu : usedB us z
    · exact .inl ⟨-1, .inl rfl, by unfold allocC; rw [hu]; rfl, h⟩
    · unfold freeC at h; rw [hu, if_pos rfl] at h; omega
  · cases hf : freeL us d with
    | nil => exact .inl ⟨0, .inr rfl, by unfold allocC; rw [hu, if_pos rfl, Int.toNat_natCast, hf], by rw [h, hf]; rfl⟩
    | cons p r => exact .inr ⟨d, p, r, rfl, hd, hl, ha, hf, by unfold allocC; rw [hu, if_pos rfl, Int.toNat_natCast, hf], by rw [h, hf, List.length_cons]⟩
def headC (r : List (List UInt8)) : List UInt8 × Bool := match r with | [] => ([], false) | p :: _ => (p, true)
theorem allocC_mk (us : List (List UInt8)) (d : Nat) (h1 : d ≤ 6) (h2 : us.length ≤ 70) (h3 : us.all pathB = true) : allocC us d = headC (freeL us d) := by
  unfold allocC usedB headC
  rw [(within_iff 0 6 (d : Int)).2 ⟨by omega, by omega⟩, h3, show decide (us.length ≤ 70) = true from decide_eq_true h2, if_pos (show (true && true && true) = true from rfl), Int.toNat_natCast]
  cases freeL us d <;> rfl

end Go.Proofs.Ytfendecmgcmbjaa
