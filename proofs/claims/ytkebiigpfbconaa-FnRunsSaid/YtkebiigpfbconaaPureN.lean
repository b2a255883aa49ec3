/- Runs of a cyclic string: plain law. Conditions: as each theorem says. -/
import Derived.Test.YtkebiigpfbconaaPureV
import Derived.Test.YtkebiigpfbconaaPureK
import Derived.Test.YtkebiigpfbconaaR5
namespace Go.Proofs.Ytkebiigpfbconaa
open Go.RowKit
set_option linter.unusedSimpArgs false
set_option linter.unusedVariables false

/-- Does the bit i of s differ from the one before it (around the end)? -/
def chB (s : List UInt8) (i : Nat) : Bool := s.getD i 48 != s.getD ((i + s.length - 1) % s.length) 48
/-- The first of n places at which p is true, or n. -/
def fstN (p : Nat → Bool) : Nat → Nat
  | 0 => 0
  | n + 1 => if fstN p n = n ∧ p n = false then n + 1 else fstN p n
theorem fstN_is (p : Nat → Bool) : ∀ n k, k ≤ n → (∀ j, j < k → p j = false) → (k = n ∨ p k = true) → fstN p n = k
  | 0, k, h, _, _ => by have : k = 0 := by omega
                        subst this; rfl
  | n + 1, k, h, hf, hk => by
    unfold fstN
    by_cases hkn : k = n + 1
    · subst hkn
      have ih := fstN_is p n n (Nat.le_refl _) (fun j hj => hf j (by omega)) (.inl rfl)
      rw [ih, if_pos ⟨rfl, hf n (by omega)⟩]
    · have hk' : p k = true := hk.resolve_left hkn
      have ih := fstN_is p n k (by omega) hf (.inr hk')
      rw [ih, if_neg]
      rintro ⟨rfl, h0⟩
      rw [h0] at hk'; cases hk'
theorem fstN_le (p : Nat → Bool) : ∀ n, fstN p n ≤ n
  | 0 => Nat.le_refl _
  | n + 1 => by unfold fstN; have := fstN_le p n; split <;> omega
theorem fstN_lo (p : Nat → Bool) : ∀ n j, j < fstN p n → p j = false
  | 0, j, h => absurd h (Nat.not_lt_zero _)
  | n + 1, j, h => by
    unfold fstN at h
    split at h
    · rename_i hc
      by_cases hj : j = n
      · rw [hj]; exact hc.2
      · exact fstN_lo p n j (by omega)
    · exact fstN_lo p n j h
theorem fstN_at (p : Nat → Bool) : ∀ n, fstN p n < n → p (fstN p n) = true
  | 0, h => absurd h (Nat.not_lt_zero _)
  | n + 1, h => by
    unfold fstN at h ⊢
    split at h
    · omega
    · rename_i hc
      rw [if_neg hc]
      by_cases he : fstN p n = n
      · cases hp : p n
        · exact absurd ⟨he, hp⟩ hc
        · rw [he]; exact hp
      · exact fstN_at p n (by have := fstN_le p n; omega)
/-- Does a run of T end at i? -/
def endB (T : List UInt8) (i : Nat) : Bool := (i + 1 == T.length) || (T.getD (i + 1) 48 != T.getD i 48)
/-- The runs that have ended before k, and the length of the one that has not. -/
def cK (T : List UInt8) : Nat → List Int × Int
  | 0 => ([], 0)
  | k + 1 => if endB T k = true then ((cK T k).1 ++ [(cK T k).2 + 1], 0) else ((cK T k).1, (cK T k).2 + 1)
theorem cK_end (T : List UInt8) (k : Nat) (h : endB T k = true) : cK T (k + 1) = ((cK T k).1 ++ [(cK T k).2 + 1], 0) := by show (if _ then _ else _) = _; rw [if_pos h]
theorem cK_on (T : List UInt8) (k : Nat) (h : endB T k = false) : cK T (k + 1) = ((cK T k).1, (cK T k).2 + 1) := by show (if _ then _ else _) = _; rw [if_neg (by rw [h]; decide)]
/-- The lengths that the program has at hand behind k bits. -/
def lK (T : List UInt8) : Nat → List Int
  | 0 => []
  | k + 1 => (cK T k).1 ++ [(cK T k).2 + 1]
theorem cK_cur (T : List UInt8) (k : Nat) : 0 ≤ (cK T k).2 ∧ (cK T k).2 ≤ k := by
  induction k with
  | zero => exact ⟨Int.le_refl _, Int.le_refl _⟩
  | succ k ih =>
    cases h : endB T k
    · rw [cK_on T k h]
      show 0 ≤ (cK T k).2 + 1 ∧ (cK T k).2 + 1 ≤ _
      omega
    · rw [cK_end T k h]
      show (0 : Int) ≤ 0 ∧ (0 : Int) ≤ _
      omega
theorem cK_len (T : List UInt8) (k : Nat) : (cK T k).1.length ≤ k := by
  induction k with
  | zero => exact Nat.le_refl _
  | succ k ih =>
    cases h : endB T k
    · rw [cK_on T k h]; exact Nat.le_succ_of_le ih
    · rw [cK_end T k h]; show ((cK T k).1 ++ [_]).length ≤ _; rw [List.length_append, List.length_singleton]; omega
theorem lK_new (T : List UInt8) (k : Nat) (h : (cK T k).2 = 0) : lK T k = (cK T k).1 := by
  cases k with
  | zero => rfl
  | succ k =>
    cases he : endB T k
    · rw [cK_on T k he] at h
      have := cK_cur T k
      have h : (cK T k).2 + 1 = 0 := h
      omega
    · rw [cK_end T k he]; rfl
theorem lK_old (T : List UInt8) (k : Nat) (h : (cK T k).2 ≠ 0) : lK T k = (cK T k).1 ++ [(cK T k).2] := by
  cases k with
  | zero => exact absurd rfl h
  | succ k =>
    cases he : endB T k
    · rw [cK_on T k he]; rfl
    · rw [cK_end T k he] at h; exact absurd rfl h
theorem lK_last (T : List UInt8) (h : 0 < T.length) : lK T T.length = (cK T T.length).1 := by
  obtain ⟨k, hk⟩ : ∃ k, T.length = k + 1 := ⟨T.length - 1, by omega⟩
  refine lK_new T _ ?_
  rw [hk, cK_end T k (by unfold endB; rw [hk]; simp)]
/-- The lengths of all runs. -/
def runsL (s : List UInt8) : List Int := if fstN (chB s) s.length = s.length then [(s.length : Int)] else sortL (cK (rotL s (fstN (chB s) s.length)) s.length).1
theorem rot_getD (s : List UInt8) (k i : Nat) (hk : k < s.length) (hi : i < s.length) : (rotL s k).getD i 48 = s.getD ((k + i) % s.length) 48 := by
  rw [List.getD_eq_getElem?_getD, List.getD_eq_getElem?_getD]
  unfold rotL
  by_cases h : k + i < s.length
  · rw [List.getElem?_append_left (by rw [List.length_drop]; omega), List.getElem?_drop, Nat.mod_eq_of_lt h]
  · rw [List.getElem?_append_right (by rw [List.length_drop]; omega), List.length_drop, List.getElem?_take, if_pos (by omega)]
    rw [Nat.mod_eq_sub_mod (by omega), Nat.mod_eq_of_lt (by omega), show i - (s.length - k) = k + i - s.length by omega]
theorem mod_prev (f i n : Nat) (hn : 0 < n) : ((f + (i + 1)) % n + n - 1) % n = (f + i) % n := by
  rw [show f + (i + 1) = (f + i) + 1 by omega]
  generalize f + i = x
  have h1 := Nat.mod_lt x hn
  have h2 : (x + 1) % n = (x % n + 1) % n := by rw [Nat.mod_add_mod]
  rw [h2]
  by_cases h : x % n + 1 = n
  · rw [h, Nat.mod_self, Nat.zero_add, Nat.mod_eq_of_lt (by omega)]; omega
  · rw [Nat.mod_eq_of_lt (show x % n + 1 < n by omega), show x % n + 1 + n - 1 = x % n + n by omega, Nat.add_mod_right, Nat.mod_eq_of_lt h1]
/-- A run begins where the bit differs from the one before. -/
theorem cK_new (s : List UInt8) (f : Nat) (hf : f < s.length) (hc : chB s f = true) : ∀ i, i < s.length → ((cK (rotL s f) i).2 = 0 ↔ chB s ((f + i) % s.length) = true)
  | 0, _ => by
    rw [Nat.add_zero, Nat.mod_eq_of_lt hf]
    exact ⟨fun _ => hc, fun _ => rfl⟩
  | i + 1, hi => by
    have hlen := rotL_len s f (by omega)
    have he : endB (rotL s f) i = chB s ((f + (i + 1)) % s.length) := by
      unfold endB chB
      rw [hlen, beq_eq_false_iff_ne.2 (by omega), Bool.false_or, rot_getD s f _ hf hi, rot_getD s f i hf (by omega), mod_prev f i s.length (by omega)]
    have h0 := cK_cur (rotL s f) i
    cases hb : endB (rotL s f) i
    · rw [cK_on _ _ hb, ← he, hb]
      exact ⟨fun h => absurd (show (cK (rotL s f) i).2 + 1 = 0 from h) (by omega), fun h => by cases h⟩
    · rw [cK_end _ _ hb, ← he, hb]
      exact ⟨fun _ => rfl, fun _ => rfl⟩
/-! what the law says -/
def sumI (l : List Int) : Int := l.foldr (· + ·) 0
theorem sumI_app (a b : List Int) : sumI (a ++ b) = sumI a + sumI b := by
  unfold sumI
  induction a with
  | nil => simp
  | cons x a ih => simp only [List.cons_append, List.foldr_cons, ih]; omega
theorem sumI_perm {a b : List Int} (h : a.Perm b) : sumI a = sumI b := by
  induction h with
  | nil => rfl
  | cons x _ ih => unfold sumI at *; simp only [List.foldr_cons, ih]
  | swap x y l => unfold sumI; simp only [List.foldr_cons]; omega
  | trans _ _ h1 h2 => exact h1.trans h2
theorem cK_sum (T : List UInt8) (k : Nat) : sumI (cK T k).1 + (cK T k).2 = k ∧ ∀ x ∈ (cK T k).1, 1 ≤ x ∧ x ≤ k := by
  induction k with
  | zero => exact ⟨rfl, fun x hx => by cases hx⟩
  | succ k ih =>
    have hc := cK_cur T k
    cases h : endB T k
    · rw [cK_on T k h]
      exact ⟨by show sumI (cK T k).1 + ((cK T k).2 + 1) = _; omega, fun x hx => by have := ih.2 x hx; omega⟩
    · rw [cK_end T k h]
      refine ⟨?_, fun x hx => ?_⟩
      · show sumI ((cK T k).1 ++ [(cK T k).2 + 1]) + 0 = _
        rw [sumI_app, show sumI [(cK T k).2 + 1] = (cK T k).2 + 1 + 0 from rfl]; omega
      · rcases List.mem_append.1 hx with hx | hx
        · have := ih.2 x hx; omega
        · rw [List.mem_singleton] at hx; omega
theorem cK_count (T : List UInt8) (k : Nat) : (cK T k).1.length = cnt (endB T) k := by
  induction k with
  | zero => rfl
  | succ k ih =>
    cases h : endB T k
    · rw [cK_on T k h, cnt_no _ _ h]; exact ih
    · rw [cK_end T k h, cnt_yes _ _ h]; show ((cK T k).1 ++ [_]).length = _; rw [List.length_append, ih]; rfl
/-- Does the bit i differ from the next one (around the end)? -/
def nxB (s : List UInt8) (i : Nat) : Bool := s.getD i 48 != (rotL s (1 % s.length)).getD i 48
theorem cnt_of_sum (p q : Nat → Bool) (n : Nat) (h : sumTo (fun i => if p i = true then 1 else -1) n = sumTo (fun i => if q i = true then 1 else -1) n) : cnt p n = cnt q n := by
  rw [sum_cnt, sum_cnt] at h; omega
theorem cnt_cyc (p : Nat → Bool) (n k : Nat) (h : 0 < n) : cnt (fun i => p ((i + k) % n)) n = cnt p n :=
  cnt_of_sum _ _ _ (sumTo_cyc (fun i => if p i = true then 1 else -1) n h k)
theorem bne_comm8 (a b : UInt8) : (a != b) = (b != a) := by
  by_cases h : a = b
  · rw [h]
  · have h2 : ¬ b = a := fun e => h e.symm
    rw [bne_iff_ne.2 h, bne_iff_ne.2 h2]
theorem nx_ch (s : List UInt8) (i : Nat) (hi : i < s.length) : nxB s i = chB s ((i + 1) % s.length) := by
  have h0 : 0 < s.length := by omega
  unfold nxB chB
  rw [rot_getD s _ i (Nat.mod_lt _ h0) hi, bne_comm8]
  rw [show (1 % s.length + i) % s.length = (i + 1) % s.length by rw [Nat.mod_add_mod, Nat.add_comm]]
  have := mod_prev 0 i s.length h0
  rw [Nat.zero_add, Nat.zero_add, Nat.mod_eq_of_lt hi] at this
  rw [this]
theorem nx_cnt (s : List UInt8) (h : 0 < s.length) : cnt (nxB s) s.length = cnt (chB s) s.length := by
  rw [← cnt_cyc (chB s) s.length 1 h]
  exact cnt_congr _ _ _ fun i hi => nx_ch s i hi
theorem run_cnt (s : List UInt8) (f : Nat) (hf : f < s.length) (hc : chB s f = true) : (cK (rotL s f) s.length).1.length = cnt (chB s) s.length := by
  have hlen := rotL_len s f (by omega)
  rw [cK_count, ← cnt_cyc (chB s) s.length (f + 1) (by omega)]
  refine cnt_congr _ _ _ fun i hi => ?_
  show endB (rotL s f) i = chB s ((i + (f + 1)) % s.length)
  by_cases hi2 : i + 1 = s.length
  · rw [show i + (f + 1) = f + s.length by omega, Nat.add_mod_right, Nat.mod_eq_of_lt hf, hc]
    unfold endB
    rw [hlen, beq_iff_eq.2 hi2]; rfl
  · unfold endB chB
    rw [hlen, beq_eq_false_iff_ne.2 hi2, Bool.false_or, rot_getD s f _ hf (by omega), rot_getD s f i hf hi, show i + (f + 1) = f + (i + 1) by omega, mod_prev f i s.length (by omega)]
theorem runs_len (s : List UInt8) (h : 0 < s.length) : (runsL s).length = max (cnt (nxB s) s.length) 1 := by
  rw [nx_cnt s h]
  unfold runsL
  by_cases hc : fstN (chB s) s.length = s.length
  · rw [if_pos hc]
    have h0 : cnt (chB s) s.length = 0 := by
      have : ∀ k, k ≤ s.length → cnt (chB s) k = 0 := by
        intro k hk
        induction k with
        | zero => rfl
        | succ k ih => rw [cnt_no _ _ (fstN_lo (chB s) s.length k (by omega))]; exact ih (by omega)
      exact this _ (Nat.le_refl _)
    rw [h0]; rfl
  · rw [if_neg hc]
    have hlt : fstN (chB s) s.length < s.length := by have := fstN_le (chB s) s.length; omega
    have hat := fstN_at (chB s) s.length hlt
    have h1 := run_cnt s _ hlt hat
    have h2 : 0 < cnt (chB s) s.length := by
      have : ∀ n j, j < n → chB s j = true → 0 < cnt (chB s) n := by
        intro n
        induction n with
        | zero => intro j hj; omega
        | succ n ih =>
          intro j hj hp
          by_cases hjn : j = n
          · subst hjn; rw [cnt_yes _ _ hp]; omega
          · have := ih j (by omega) hp
            cases hq : chB s n
            · rw [cnt_no _ _ hq]; exact this
            · rw [cnt_yes _ _ hq]; omega
      exact this _ _ hlt hat
    rw [(sortL_ok _).2.length_eq, h1]; omega
theorem runs_ok (s : List UInt8) (h : 0 < s.length) : sumI (runsL s) = s.length ∧ (∀ x ∈ runsL s, 1 ≤ x ∧ x ≤ s.length) ∧ (runsL s).Pairwise (· ≤ ·) := by
  unfold runsL
  by_cases hc : fstN (chB s) s.length = s.length
  · rw [if_pos hc]
    refine ⟨by show (s.length : Int) + 0 = _; omega, fun x hx => ?_, by simp⟩
    rw [List.mem_singleton] at hx; omega
  · rw [if_neg hc]
    have hlt : fstN (chB s) s.length < s.length := by have := fstN_le (chB s) s.length; omega
    generalize fstN (chB s) s.length = f at hlt
    have hlen := rotL_len s f (by omega)
    have hs := cK_sum (rotL s f) s.length
    have h0 : (cK (rotL s f) s.length).2 = 0 := by
      obtain ⟨k, hk⟩ : ∃ k, s.length = k + 1 := ⟨s.length - 1, by omega⟩
      rw [hk, cK_end _ k (by unfold endB; rw [hlen, hk]; simp)]
    refine ⟨?_, fun x hx => hs.2 x ((sortL_ok _).2.mem_iff.1 hx), (sortL_ok _).1⟩
    rw [sumI_perm (sortL_ok _).2]; omega
theorem nx_cor (s : List UInt8) (h : 0 < s.length) : corL s s (1 % s.length) = s.length - 2 * (cnt (nxB s) s.length : Nat) := by
  unfold corL
  rw [sum_cnt]
  have : ∀ n, n ≤ s.length → cnt (corP s s (1 % s.length)) n + cnt (nxB s) n = n := by
    intro n hn
    induction n with
    | zero => rfl
    | succ n ih =>
      have ih := ih (by omega)
      have hnx : nxB s n = !corP s s (1 % s.length) n := by
        unfold nxB corP
        rw [rot_getD s _ n (Nat.mod_lt _ h) (by omega), Nat.add_comm (1 % s.length) n]
        have hm : (n + 1 % s.length) % s.length < s.length := Nat.mod_lt _ h
        rw [List.getD_eq_getElem?_getD, List.getD_eq_getElem?_getD, List.getElem?_eq_getElem hm, List.getElem?_eq_getElem (show n < s.length by omega)]
        rfl
      cases hc : corP s s (1 % s.length) n
      · rw [cnt_no _ _ hc, cnt_yes _ _ (by rw [hnx, hc]; rfl)]; omega
      · rw [cnt_yes _ _ hc, cnt_no _ _ (by rw [hnx, hc]; rfl)]; omega
  have := this s.length (Nat.le_refl _)
  omega
theorem nx_even (s : List UInt8) (h : 0 < s.length) (hb : s.all isBit = true) : cnt (nxB s) s.length % 2 = 0 := by
  have hbit : ∀ i, i < s.length → s.getD i 48 = 48 ∨ s.getD i 48 = 49 := fun i hi => by
    have h1 : isBit (s.getD i 48) = true := by
      rw [List.getD_eq_getElem?_getD, List.getElem?_eq_getElem hi]
      exact List.all_eq_true.1 hb _ (List.getElem_mem hi)
    rcases bit_toNat _ h1 with ⟨h2, _⟩ | ⟨h2, _⟩
    · exact .inl h2
    · exact .inr h2
  have key : ∀ k, k < s.length → (cnt (nxB s) k % 2 = 0 ↔ s.getD k 48 = s.getD 0 48) := by
    intro k hk
    induction k with
    | zero => exact ⟨fun _ => rfl, fun _ => rfl⟩
    | succ k ih =>
      have ih := ih (by omega)
      have hnx : nxB s k = (s.getD k 48 != s.getD (k + 1) 48) := by
        unfold nxB
        rw [rot_getD s _ k (Nat.mod_lt _ h) (by omega), Nat.mod_add_mod, Nat.add_comm 1 k, Nat.mod_eq_of_lt hk]
      cases hc : nxB s k
      · rw [cnt_no _ _ hc, ih]
        rw [hnx] at hc
        rw [show s.getD k 48 = s.getD (k + 1) 48 by simpa using hc]
      · rw [cnt_yes _ _ hc]
        rw [hnx] at hc
        have hne : s.getD k 48 ≠ s.getD (k + 1) 48 := by simpa using hc
        have h1 := hbit k (by omega)
        have h2 := hbit (k + 1) hk
        have h3 := hbit 0 h
        constructor
        · intro hm
          have : ¬ s.getD k 48 = s.getD 0 48 := fun e => by have := ih.2 e; omega
          rcases h1 with h1 | h1 <;> rcases h2 with h2 | h2 <;> rcases h3 with h3 | h3 <;> simp_all
        · intro e
          have : ¬ cnt (nxB s) k % 2 = 0 := fun hm => hne ((ih.1 hm).trans e.symm)
          omega
  obtain ⟨k, hk⟩ : ∃ k, s.length = k + 1 := ⟨s.length - 1, by omega⟩
  have hnx : nxB s k = (s.getD k 48 != s.getD 0 48) := by
    unfold nxB
    rw [rot_getD s _ k (Nat.mod_lt _ h) (by omega), Nat.mod_add_mod, Nat.add_comm 1 k, ← hk, Nat.mod_self]
  have hkk := key k (by omega)
  have e : cnt (nxB s) s.length = cnt (nxB s) (k + 1) := by rw [hk]
  rw [e]
  cases hc : nxB s k
  · rw [cnt_no _ _ hc]
    rw [hnx] at hc
    exact hkk.2 (by simpa using hc)
  · rw [cnt_yes _ _ hc]
    rw [hnx] at hc
    have hne : s.getD k 48 ≠ s.getD 0 48 := by simpa using hc
    have : ¬ cnt (nxB s) k % 2 = 0 := fun hm => hne (hkk.1 hm)
    omega

end Go.Proofs.Ytkebiigpfbconaa
