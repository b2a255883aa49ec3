/- Sorted lists: insertion, the different numbers of a list. Conditions: as each theorem says. -/
import Derived.Test.YtkebiigpfbconaaPure
namespace Go.Proofs.Ytkebiigpfbconaa
set_option linter.unusedSimpArgs false
set_option linter.unusedVariables false

def insL (x : Int) : List Int → List Int
  | [] => [x]
  | y :: ys => if x < y then x :: y :: ys else y :: insL x ys
theorem insL_mem (x z : Int) (l : List Int) : z ∈ insL x l ↔ z = x ∨ z ∈ l := by
  induction l with
  | nil => simp [insL]
  | cons y ys ih =>
    unfold insL
    split
    · simp
    · rw [List.mem_cons, ih, List.mem_cons]
      constructor
      · rintro (h | h | h)
        · exact .inr (.inl h)
        · exact .inl h
        · exact .inr (.inr h)
      · rintro (h | h | h)
        · exact .inr (.inl h)
        · exact .inl h
        · exact .inr (.inr h)
theorem insL_len (x : Int) (l : List Int) : (insL x l).length = l.length + 1 := by
  induction l with
  | nil => rfl
  | cons y ys ih => unfold insL; split <;> simp [ih]
theorem insL_perm (x : Int) (l : List Int) : (insL x l).Perm (x :: l) := by
  induction l with
  | nil => exact List.Perm.refl _
  | cons y ys ih =>
    unfold insL
    split
    · exact List.Perm.refl _
    · exact (List.Perm.cons y ih).trans (List.Perm.swap x y ys)
theorem insL_strict (x : Int) (l : List Int) (h : l.Pairwise (· < ·)) (hx : x ∉ l) : (insL x l).Pairwise (· < ·) := by
  induction l with
  | nil => simp [insL]
  | cons y ys ih =>
    obtain ⟨h1, h2⟩ := List.pairwise_cons.1 h
    unfold insL
    split
    · rename_i hlt
      exact List.pairwise_cons.2 ⟨fun z hz => (List.mem_cons.1 hz).elim (fun e => e ▸ hlt) (fun hz => Int.lt_trans hlt (h1 z hz)), h⟩
    · rename_i hlt
      refine List.pairwise_cons.2 ⟨fun z hz => ?_, ih h2 (fun hm => hx (List.mem_cons_of_mem _ hm))⟩
      rcases (insL_mem x z ys).1 hz with rfl | hz
      · have : z ≠ y := fun e => hx (e ▸ List.mem_cons_self ..)
        omega
      · exact h1 z hz
theorem insL_sorted (x : Int) (l : List Int) (h : l.Pairwise (· ≤ ·)) : (insL x l).Pairwise (· ≤ ·) := by
  induction l with
  | nil => simp [insL]
  | cons y ys ih =>
    obtain ⟨h1, h2⟩ := List.pairwise_cons.1 h
    unfold insL
    split
    · rename_i hlt
      exact List.pairwise_cons.2 ⟨fun z hz => (List.mem_cons.1 hz).elim (fun e => e ▸ Int.le_of_lt hlt) (fun hz => Int.le_trans (Int.le_of_lt hlt) (h1 z hz)), h⟩
    · rename_i hlt
      refine List.pairwise_cons.2 ⟨fun z hz => ?_, ih h2⟩
      rcases (insL_mem x z ys).1 hz with rfl | hz
      · omega
      · exact h1 z hz
/-- Two strictly ascending lists with the same members are the same. -/
theorem strict_eq : ∀ (l m : List Int), l.Pairwise (· < ·) → m.Pairwise (· < ·) → (∀ z, z ∈ l ↔ z ∈ m) → l = m
  | [], [], _, _, _ => rfl
  | [], y :: ys, _, _, h => absurd ((h y).2 (List.mem_cons_self ..)) (by simp)
  | x :: xs, [], _, _, h => absurd ((h x).1 (List.mem_cons_self ..)) (by simp)
  | x :: xs, y :: ys, hl, hm, h => by
    obtain ⟨l1, l2⟩ := List.pairwise_cons.1 hl
    obtain ⟨m1, m2⟩ := List.pairwise_cons.1 hm
    have hxy : x = y := by
      rcases List.mem_cons.1 ((h x).1 (List.mem_cons_self ..)) with h1 | h1
      · exact h1
      · rcases List.mem_cons.1 ((h y).2 (List.mem_cons_self ..)) with h2 | h2
        · exact h2.symm
        · have := m1 x h1; have := l1 y h2; omega
    subst hxy
    rw [strict_eq xs ys l2 m2 fun z => ?_]
    constructor
    · intro hz
      rcases List.mem_cons.1 ((h z).1 (List.mem_cons_of_mem _ hz)) with h1 | h1
      · have := l1 z hz; omega
      · exact h1
    · intro hz
      rcases List.mem_cons.1 ((h z).2 (List.mem_cons_of_mem _ hz)) with h1 | h1
      · have := m1 z hz; omega
      · exact h1
theorem sorted_eq : ∀ (l m : List Int), l.Pairwise (· ≤ ·) → m.Pairwise (· ≤ ·) → l.Perm m → l = m
  | [], m, _, _, h => (List.Perm.nil_eq h)
  | x :: xs, [], _, _, h => absurd h.length_eq (by simp)
  | x :: xs, y :: ys, hl, hm, h => by
    obtain ⟨l1, l2⟩ := List.pairwise_cons.1 hl
    obtain ⟨m1, m2⟩ := List.pairwise_cons.1 hm
    have hxy : x = y := by
      rcases List.mem_cons.1 (h.mem_iff.1 (List.mem_cons_self ..)) with h1 | h1
      · exact h1
      · rcases List.mem_cons.1 (h.mem_iff.2 (List.mem_cons_self ..)) with h2 | h2
        · exact h2.symm
        · have := m1 x h1; have := l1 y h2; omega
    subst hxy
    rw [sorted_eq xs ys l2 m2 (List.Perm.cons_inv h)]
theorem snoc_ind {p : List Int → Prop} (h0 : p []) (h1 : ∀ l x, p l → p (l ++ [x])) (l : List Int) : p l := by
  have h : ∀ k, p (l.take k) := by
    intro k
    induction k with
    | zero => simpa using h0
    | succ k ih =>
      by_cases hk : k < l.length
      · rw [List.take_succ_eq_append_getElem hk]; exact h1 _ _ ih
      · rw [List.take_of_length_le (by omega)]; rw [List.take_of_length_le (by omega)] at ih; exact ih
  have := h l.length
  rwa [List.take_of_length_le (Nat.le_refl _)] at this
/-- The list sorted by insertion. -/
def sortL (l : List Int) : List Int := l.foldl (fun o x => insL x o) []
theorem sortL_snoc (l : List Int) (x : Int) : sortL (l ++ [x]) = insL x (sortL l) := by simp [sortL, List.foldl_append]
theorem sortL_ok (l : List Int) : (sortL l).Pairwise (· ≤ ·) ∧ (sortL l).Perm l := by
  refine snoc_ind (p := fun l => (sortL l).Pairwise (· ≤ ·) ∧ (sortL l).Perm l) ?_ ?_ l
  · exact ⟨List.Pairwise.nil, List.Perm.refl _⟩
  · intro l x ih
    rw [sortL_snoc]
    refine ⟨insL_sorted _ _ ih.1, (insL_perm _ _).trans ((List.Perm.cons x ih.2).trans ?_)⟩
    exact (List.perm_append_comm (l₁ := [x]) (l₂ := l))
theorem sortL_merge (l : List Int) : sortL l = l.mergeSort fun x y => decide (x ≤ y) := by
  refine sorted_eq _ _ (sortL_ok l).1 ?_ ((sortL_ok l).2.trans (List.mergeSort_perm _ _).symm)
  have h := List.pairwise_mergeSort (le := fun x y : Int => decide (x ≤ y)) (fun a b c h1 h2 => by simp at *; omega) (fun a b => by simp; omega) l
  exact h.imp fun hab => by simpa using hab
/-- The different numbers of a list, ascending. -/
def valsL (l : List Int) : List Int := l.foldl (fun o x => if x ∈ o then o else insL x o) []
theorem valsL_snoc (l : List Int) (x : Int) : valsL (l ++ [x]) = if x ∈ valsL l then valsL l else insL x (valsL l) := by unfold valsL; rw [List.foldl_append]; rfl
theorem valsL_ok (l : List Int) : (valsL l).Pairwise (· < ·) ∧ ∀ z, z ∈ valsL l ↔ z ∈ l := by
  refine snoc_ind (p := fun l => (valsL l).Pairwise (· < ·) ∧ ∀ z, z ∈ valsL l ↔ z ∈ l) ?_ ?_ l
  · exact ⟨List.Pairwise.nil, fun z => Iff.rfl⟩
  · intro l x ih
    rw [valsL_snoc]
    split
    · rename_i h
      refine ⟨ih.1, fun z => ?_⟩
      rw [ih.2, List.mem_append, List.mem_singleton]
      constructor
      · exact .inl
      · rintro (h1 | rfl)
        · exact h1
        · exact (ih.2 _).1 h
    · rename_i h
      refine ⟨insL_strict _ _ ih.1 h, fun z => ?_⟩
      rw [insL_mem, ih.2, List.mem_append, List.mem_singleton, or_comm]
theorem valsL_len (l : List Int) : (valsL l).length ≤ l.length := by
  refine snoc_ind (p := fun l => (valsL l).length ≤ l.length) ?_ ?_ l
  · exact Nat.le_refl _
  · intro l x ih
    rw [valsL_snoc, List.length_append, List.length_singleton]
    split
    · omega
    · rw [insL_len]; omega
/-- The first k of a sorted list, each once. -/
def onceL (l : List Int) (k : Nat) : List Int := (List.range k).filterMap fun i => if i = 0 ∨ l.getD i 0 ≠ l.getD (i - 1) 0 then some (l.getD i 0) else none
theorem onceL_step (l : List Int) (k : Nat) : onceL l (k + 1) = if k = 0 ∨ l.getD k 0 ≠ l.getD (k - 1) 0 then onceL l k ++ [l.getD k 0] else onceL l k := by
  unfold onceL
  rw [List.range_succ, List.filterMap_append]
  by_cases h : k = 0 ∨ l.getD k 0 ≠ l.getD (k - 1) 0
  · rw [if_pos h]; simp only [List.filterMap_cons, if_pos h, List.filterMap_nil]
  · rw [if_neg h]; simp only [List.filterMap_cons, if_neg h, List.filterMap_nil, List.append_nil]
theorem onceL_ok (l : List Int) (hs : l.Pairwise (· ≤ ·)) : ∀ k, k ≤ l.length → (onceL l k).Pairwise (· < ·) ∧ (∀ z, z ∈ onceL l k ↔ z ∈ l.take k)
  | 0, _ => ⟨List.Pairwise.nil, fun z => by simp [onceL]⟩
  | k + 1, hk => by
    obtain ⟨h1, h2⟩ := onceL_ok l hs k (by omega)
    have hg : l.getD k 0 = l[k] := by simp [List.getD, List.getElem?_eq_getElem (show k < l.length by omega)]
    have ht : l.take (k + 1) = l.take k ++ [l.getD k 0] := by rw [hg]; exact (List.take_succ_eq_append_getElem (show k < l.length by omega))
    have hle : ∀ z ∈ l.take k, z ≤ l.getD k 0 := by
      intro z hz
      obtain ⟨i, hi, rfl⟩ := List.mem_iff_getElem.1 hz
      rw [List.length_take] at hi
      rw [List.getElem_take, hg]
      exact List.pairwise_iff_getElem.1 hs i k (by omega) (by omega) (by omega)
    rw [onceL_step, ht]
    by_cases hc : k = 0 ∨ l.getD k 0 ≠ l.getD (k - 1) 0
    · rw [if_pos hc]
      refine ⟨?_, fun z => by rw [List.mem_append, List.mem_append, h2]⟩
      refine List.pairwise_append.2 ⟨h1, List.pairwise_singleton _ _, fun a ha b hb => ?_⟩
      rw [List.mem_singleton] at hb
      subst hb
      have ha2 := (h2 a).1 ha
      rcases hc with rfl | hc
      · simp at ha2
      · have hk0 : k ≠ 0 := by rintro rfl; exact hc rfl
        have hg1 : l.getD (k - 1) 0 = l[k - 1] := by simp [List.getD, List.getElem?_eq_getElem (show k - 1 < l.length by omega)]
        obtain ⟨i, hi, rfl⟩ := List.mem_iff_getElem.1 ha2
        rw [List.length_take] at hi
        rw [List.getElem_take]
        have h3 : l[k - 1] ≤ l[k] := List.pairwise_iff_getElem.1 hs (k - 1) k (by omega) (by omega) (by omega)
        have h4 : l[i] ≤ l[k - 1] := by
          rcases Nat.lt_or_eq_of_le (show i ≤ k - 1 by omega) with h | h
          · exact List.pairwise_iff_getElem.1 hs i (k - 1) (by omega) (by omega) h
          · subst h; exact Int.le_refl _
        rw [hg, hg1] at hc
        rw [hg]
        omega
    · rw [if_neg hc]
      refine ⟨h1, fun z => ?_⟩
      rw [List.mem_append, List.mem_singleton, h2]
      constructor
      · exact .inl
      · rintro (h | rfl)
        · exact h
        · have hk0 : k ≠ 0 := fun h => hc (.inl h)
          have he : l.getD k 0 = l.getD (k - 1) 0 := Decidable.byContradiction fun h => hc (.inr h)
          rw [he]
          have hg1 : l.getD (k - 1) 0 = l[k - 1] := by simp [List.getD, List.getElem?_eq_getElem (show k - 1 < l.length by omega)]
          rw [hg1]
          refine List.mem_iff_getElem.2 ⟨k - 1, by rw [List.length_take]; omega, by rw [List.getElem_take]⟩
theorem once_vals (l : List Int) : onceL (l.mergeSort fun x y => decide (x ≤ y)) l.length = valsL l := by
  rw [← sortL_merge]
  have hl : (sortL l).length = l.length := (sortL_ok l).2.length_eq
  have h := onceL_ok (sortL l) (sortL_ok l).1 l.length (by omega)
  refine strict_eq _ _ h.1 (valsL_ok l).1 fun z => ?_
  rw [h.2, List.take_of_length_le (by omega), (valsL_ok l).2, (sortL_ok l).2.mem_iff]

end Go.Proofs.Ytkebiigpfbconaa
