/- Barker codes in reverse order, with all bits changed, and with every other bit changed: plain law. Conditions: as each theorem says. -/
import Derived.Test.YtkebiigpfbconaaPureH
namespace Go.Proofs.Ytkebiigpfbconaa
open Go.RowKit
set_option linter.unusedSimpArgs false
set_option linter.unusedVariables false

theorem sumTo_frontY (f : Nat → Int) (n : Nat) : sumTo f (n + 1) = f 0 + sumTo (fun i => f (i + 1)) n := by
  induction n with
  | zero => rw [sumTo_succ]; show 0 + f 0 = f 0 + 0; omega
  | succ n ih => rw [sumTo_succ, ih, sumTo_succ]; omega
theorem sumTo_rev (n : Nat) : ∀ f : Nat → Int, sumTo (fun i => f (n - 1 - i)) n = sumTo f n := by
  induction n with
  | zero => intro f; rfl
  | succ n ih =>
    intro f
    rw [sumTo_succ, sumTo_frontY f n, ← ih (fun i => f (i + 1))]
    rw [sumTo_congr (fun i => f (n + 1 - 1 - i)) (fun i => f (n - 1 - i + 1)) n (fun i hi => by rw [show n + 1 - 1 - i = n - 1 - i + 1 by omega])]
    rw [show n + 1 - 1 - n = 0 by omega]; omega
theorem bit_or (c : UInt8) (h : isBit c = true) : c = 48 ∨ c = 49 := by
  unfold isBit at h
  simpa [Bool.or_eq_true, beq_iff_eq] using h
theorem bit_getD (s : List UInt8) (i : Nat) (hb : s.all isBit = true) (h : i < s.length) : s[i]? = some (s.getD i 48) ∧ (s.getD i 48 = 48 ∨ s.getD i 48 = 49) := by
  have h1 : s[i]? = some s[i] := List.getElem?_eq_getElem h
  have h2 : s.getD i 48 = s[i] := by rw [List.getD_eq_getElem?_getD, h1]; rfl
  exact ⟨by rw [h2, h1], by rw [h2]; exact bit_or _ (List.all_eq_true.1 hb _ (List.getElem_mem h))⟩
theorem aper_rev (s : List UInt8) (k : Nat) (hk : k < s.length) : aperC s.reverse k = aperC s k := by
  unfold aperC
  rw [List.length_reverse, ← sumTo_rev (s.length - k) (aperT s k)]
  refine sumTo_congr _ _ _ fun i hi => ?_
  unfold aperT
  rw [List.getElem?_reverse (by omega), List.getElem?_reverse (by omega)]
  rw [show s.length - k - 1 - i + k = s.length - 1 - i by omega, show s.length - 1 - (i + k) = s.length - k - 1 - i by omega]
  by_cases h : s[s.length - 1 - i]? = s[s.length - k - 1 - i]?
  · rw [if_pos h, if_pos h.symm]
  · rw [if_neg h, if_neg fun e => h e.symm]
theorem aper_flip (s : List UInt8) (k : Nat) (hk : k < s.length) (hb : s.all isBit = true) : aperC (s.map flipC) k = aperC s k := by
  unfold aperC
  rw [List.length_map]
  refine sumTo_congr _ _ _ fun i hi => ?_
  obtain ⟨h1, h2⟩ := bit_getD s i hb (by omega)
  obtain ⟨h3, h4⟩ := bit_getD s (i + k) hb (by omega)
  unfold aperT
  rw [List.getElem?_map, List.getElem?_map, h1, h3]
  generalize s.getD i 48 = x at h2 ⊢
  generalize s.getD (i + k) 48 = y at h4 ⊢
  rcases h2 with rfl | rfl <;> rcases h4 with rfl | rfl <;> rfl
/-- Every other bit changed, from the second one on. -/
def altL (s : List UInt8) : List UInt8 := (List.range s.length).map fun i => if i % 2 = 1 then flipC (s.getD i 48) else s.getD i 48
theorem altL_len (s : List UInt8) : (altL s).length = s.length := by simp [altL]
theorem altL_at (s : List UInt8) (i : Nat) (h : i < s.length) : (altL s)[i]? = some (if i % 2 = 1 then flipC (s.getD i 48) else s.getD i 48) := by simp [altL, h]
theorem altL_even (s : List UInt8) (i : Nat) (h : i % 2 = 0) : (altL s)[i]? = s[i]? := by
  by_cases hi : i < s.length
  · rw [altL_at s i hi, if_neg (by omega), List.getD_eq_getElem?_getD, List.getElem?_eq_getElem hi]; rfl
  · rw [List.getElem?_eq_none (by rw [altL_len]; omega), List.getElem?_eq_none (by omega)]
theorem altL_bits (s : List UInt8) (hb : s.all isBit = true) : (altL s).all isBit = true := by
  rw [List.all_eq_true]
  intro c hc
  obtain ⟨i, hi, rfl⟩ := List.mem_map.1 hc
  have h2 := (bit_getD s i hb (List.mem_range.1 hi)).2
  generalize s.getD i 48 = x at h2 ⊢
  by_cases ho : i % 2 = 1
  · rw [if_pos ho]; rcases h2 with rfl | rfl <;> rfl
  · rw [if_neg ho]; rcases h2 with rfl | rfl <;> rfl
theorem aperT_alt (s : List UInt8) (k i : Nat) (hi : i + k < s.length) (hb : s.all isBit = true) : aperT (altL s) k i = if k % 2 = 1 then (-1) * aperT s k i else aperT s k i := by
  obtain ⟨h1, h2⟩ := bit_getD s i hb (by omega)
  obtain ⟨h3, h4⟩ := bit_getD s (i + k) hb (by omega)
  unfold aperT
  rw [altL_at s i (by omega), altL_at s (i + k) hi, h1, h3]
  generalize s.getD i 48 = x at h2 ⊢
  generalize s.getD (i + k) 48 = y at h4 ⊢
  by_cases ho : k % 2 = 1
  · rw [if_pos ho]
    by_cases hp : i % 2 = 1
    · rw [if_pos hp, if_neg (show ¬ (i + k) % 2 = 1 by omega)]
      rcases h2 with rfl | rfl <;> rcases h4 with rfl | rfl <;> rfl
    · rw [if_neg hp, if_pos (show (i + k) % 2 = 1 by omega)]
      rcases h2 with rfl | rfl <;> rcases h4 with rfl | rfl <;> rfl
  · rw [if_neg ho]
    by_cases hp : i % 2 = 1
    · rw [if_pos hp, if_pos (show (i + k) % 2 = 1 by omega)]
      rcases h2 with rfl | rfl <;> rcases h4 with rfl | rfl <;> rfl
    · rw [if_neg hp, if_neg (show ¬ (i + k) % 2 = 1 by omega)]
theorem aper_alt (s : List UInt8) (k : Nat) (hk : k < s.length) (hb : s.all isBit = true) : aperC (altL s) k = if k % 2 = 1 then (-1) * aperC s k else aperC s k := by
  unfold aperC
  rw [altL_len]
  by_cases ho : k % 2 = 1
  · rw [if_pos ho, ← sumTo_mul]
    exact sumTo_congr _ _ _ fun i hi => by rw [aperT_alt s k i (by omega) hb, if_pos ho]
  · rw [if_neg ho]
    exact sumTo_congr _ _ _ fun i hi => by rw [aperT_alt s k i (by omega) hb, if_neg ho]
theorem within_neg (z : Int) : within (-1) 1 ((-1) * z) = within (-1) 1 z := by
  rw [Bool.eq_iff_iff, within_iff, within_iff]; omega
theorem bark_same (s t : List UInt8) (hl : t.length = s.length) (hs : s.all isBit = true) (ht : t.all isBit = true) (h : ∀ k, k < s.length → within (-1) 1 (aperC t k) = within (-1) 1 (aperC s k)) : barkB t = barkB s := by
  have h1 : seqB t = seqB s := by unfold seqB; rw [hl, hs, ht]
  unfold barkB
  rw [h1, hl]
  congr 1
  rw [Bool.eq_iff_iff, List.all_eq_true, List.all_eq_true]
  constructor
  · intro hh k hk
    have := hh k hk
    unfold barkAt at this ⊢
    rw [← h k (List.mem_range.1 hk)]; exact this
  · intro hh k hk
    have := hh k hk
    unfold barkAt at this ⊢
    rw [h k (List.mem_range.1 hk)]; exact this
theorem bark_rev (s : List UInt8) (hs : s.all isBit = true) : barkB s.reverse = barkB s :=
  bark_same s _ (List.length_reverse) hs (by rw [List.all_reverse]; exact hs) fun k hk => by rw [aper_rev s k hk]
theorem bark_flip (s : List UInt8) (hs : s.all isBit = true) : barkB (s.map flipC) = barkB s :=
  bark_same s _ (List.length_map _) hs (flipC_bits s) fun k hk => by rw [aper_flip s k hk hs]
theorem bark_alt (s : List UInt8) (hs : s.all isBit = true) : barkB (altL s) = barkB s :=
  bark_same s _ (altL_len s) hs (altL_bits s hs) fun k hk => by
    rw [aper_alt s k hk hs]
    by_cases ho : k % 2 = 1
    · rw [if_pos ho, within_neg]
    · rw [if_neg ho]
/-- Are the first k ones all good? -/
def goodB (s : List UInt8) (k : Nat) : Bool := (List.range k).all (barkAt s)
theorem goodB_one (s : List UInt8) : goodB s 1 = true := rfl
theorem goodB_step (s : List UInt8) (k : Nat) : goodB s (k + 1) = (goodB s k && barkAt s k) := by
  unfold goodB
  rw [List.range_succ, List.all_append]
  simp
theorem goodB_end (s : List UInt8) (h : seqB s = true) : goodB s s.length = barkB s := by unfold goodB barkB; rw [h, Bool.true_and]

end Go.Proofs.Ytkebiigpfbconaa
