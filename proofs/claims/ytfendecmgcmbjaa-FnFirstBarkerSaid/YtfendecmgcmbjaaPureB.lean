/- Which lengths have a Barker code. Conditions: none. -/
import Derived.Test.YtfendecmgcmbjaaPureW
import Derived.KernelRfl
namespace Go.Proofs.Ytfendecmgcmbjaa
open Go.RowKit
set_option linter.unusedSimpArgs false
set_option linter.unusedVariables false

def bitAt (n x i : Nat) : Nat := x / 2 ^ (n - 1 - i) % 2
def okK (n x k : Nat) : Bool := Nat.ble (n - k) (2 * cnt (fun i => Nat.beq (bitAt n x i) (bitAt n x (i + k))) (n - k) + 1) && Nat.ble (2 * cnt (fun i => Nat.beq (bitAt n x i) (bitAt n x (i + k))) (n - k)) (n - k + 1)
def chk (n x : Nat) : Nat → Bool
  | 0 => true
  | k + 1 => okK n x (k + 1) && chk n x k
def allR (p : Nat → Bool) : Nat → Nat → Bool
  | lo, 0 => p lo
  | lo, k + 1 => allR p lo k && allR p (lo + 2 ^ k) k
theorem allR_at (p : Nat → Bool) (k : Nat) : ∀ lo, allR p lo k = true → ∀ x, lo ≤ x → x < lo + 2 ^ k → p x = true := by
  induction k with
  | zero =>
    intro lo h x h1 h2
    obtain rfl : x = lo := by simp at h2; omega
    exact h
  | succ k ih =>
    intro lo h x h1 h2
    have h' : allR p lo k = true ∧ allR p (lo + 2 ^ k) k = true := by
      have : (allR p lo k && allR p (lo + 2 ^ k) k) = true := h
      simpa using this
    rw [Nat.pow_succ] at h2
    by_cases hx : x < lo + 2 ^ k
    · exact ih lo h'.1 x h1 hx
    · exact ih _ h'.2 x (by omega) (by omega)
theorem sum_cntB (p : Nat → Bool) (n : Nat) : sumTo (fun i => if p i = true then 1 else -1) n = 2 * (cnt p n : Nat) - (n : Int) := by
  induction n with
  | zero => rfl
  | succ n ih =>
    rw [sumTo_succ, ih]
    by_cases h : p n = true
    · rw [if_pos h, cnt_yes p n h]; omega
    · rw [if_neg h, cnt_no p n (by simpa using h)]; omega
theorem okK_aper (n x k : Nat) (hk : k < n) : okK n x k = within (-1) 1 (aperC (binL n x) k) := by
  have h1 : aperC (binL n x) k = 2 * (cnt (fun i => Nat.beq (bitAt n x i) (bitAt n x (i + k))) (n - k) : Nat) - ((n - k : Nat) : Int) := by
    unfold aperC
    rw [binL_len, ← sum_cntB]
    refine sumTo_congr _ _ _ fun i hi => ?_
    unfold aperT
    rw [binL_at n x i (by omega), binL_at n x (i + k) (by omega)]
    have h2 := bitC_eq (bitAt n x i) (bitAt n x (i + k)) (by unfold bitAt; omega) (by unfold bitAt; omega)
    show (if some (bitC (bitAt n x i)) = some (bitC (bitAt n x (i + k))) then (1 : Int) else -1) = _
    by_cases hc : bitAt n x i = bitAt n x (i + k)
    · rw [if_pos (by rw [hc]), if_pos (by rw [hc]; exact Nat.beq_refl _)]
    · rw [if_neg (fun h => hc (h2.1 (Option.some.inj h))), if_neg (fun h => hc (Nat.eq_of_beq_eq_true h))]
  rw [h1]
  unfold okK
  generalize cnt (fun i => Nat.beq (bitAt n x i) (bitAt n x (i + k))) (n - k) = e
  rw [Bool.eq_iff_iff, Bool.and_eq_true, Nat.ble_eq, Nat.ble_eq, within_iff]
  omega
theorem chk_at (n x k : Nat) (h : chk n x k = true) : ∀ j, 1 ≤ j → j ≤ k → okK n x j = true := by
  induction k with
  | zero => intro j h1 h2; omega
  | succ k ih =>
    have h' : okK n x (k + 1) = true ∧ chk n x k = true := by
      have : (okK n x (k + 1) && chk n x k) = true := h
      simpa using this
    intro j h1 h2
    by_cases hj : j = k + 1
    · rw [hj]; exact h'.1
    · exact ih h'.2 j h1 (by omega)
theorem chk_mk (n x k : Nat) (h : ∀ j, 1 ≤ j → j ≤ k → okK n x j = true) : chk n x k = true := by
  induction k with
  | zero => rfl
  | succ k ih =>
    show (okK n x (k + 1) && chk n x k) = true
    rw [h (k + 1) (by omega) (by omega), ih fun j h1 h2 => h j h1 (by omega)]
    rfl
theorem chk_bark (n x : Nat) (h1 : 1 ≤ n) (h2 : n ≤ 13) : chk n x (n - 1) = barkB (binL n x) := by
  rw [Bool.eq_iff_iff]
  constructor
  · intro h
    refine barkB_yes _ (binL_seq n x h1 (by omega)) fun k hk => ?_
    rw [binL_len] at hk
    by_cases h0 : k = 0
    · subst h0; rfl
    · rw [barkAt_within _ _ (by omega), ← okK_aper n x k hk]
      exact chk_at n x (n - 1) h k (by omega) (by omega)
  · intro h
    refine chk_mk _ _ _ fun j hj1 hj2 => ?_
    rw [okK_aper n x j (by omega)]
    cases hb : within (-1) 1 (aperC (binL n x) j)
    · exfalso
      rw [barkB_not (binL n x) j (by rw [binL_len]; omega) (by rw [barkAt_within _ _ hj1]; exact hb)] at h
      exact absurd h (by decide)
    · rfl
theorem bark_none (n : Nat) (h1 : 1 ≤ n) (h2 : n ≤ 13) (h : allR (fun x => !chk n x (n - 1)) 0 n = true) : fbarkC n = ([], false) := by
  refine fbarkC_none n h1 h2 fun y hy => ?_
  have h3 := allR_at _ n 0 h y (Nat.zero_le _) (by omega)
  rw [← chk_bark n y h1 h2]
  simpa using h3
theorem bark_some (n x : Nat) (h1 : 1 ≤ n) (h2 : n ≤ 13) (hx : x < 2 ^ (n - 1)) (h : chk n x (n - 1) = true) : ∃ l : List UInt8, fbarkC n = (l, true) ∧ barkB l = true ∧ l.length = n ∧ l[0]? = some 48 := by
  have hp : 2 ^ n = 2 * 2 ^ (n - 1) := by rw [← Nat.pow_succ']; congr 1; omega
  rw [chk_bark n x h1 h2] at h
  cases hf : firstN (fun x => barkB (binL n x)) (2 ^ n) with
  | none =>
    exfalso
    unfold firstN at hf
    have := List.find?_eq_none.1 hf x (List.mem_range.2 (by omega))
    exact this h
  | some y =>
    unfold firstN at hf
    obtain ⟨hy1, hy2, hy3⟩ := List.find?_range_eq_some.1 hf
    have hyx : y ≤ x := by
      rcases Nat.lt_or_ge x y with hlt | hge
      · have := hy3 x hlt
        rw [h] at this; exact absurd this (by decide)
      · exact hge
    refine ⟨binL n y, ?_, hy1, binL_len n y, ?_⟩
    · unfold fbarkC
      rw [if_pos ((within_iff 1 13 (n : Int)).2 ⟨by omega, by omega⟩), Int.toNat_natCast]
      unfold firstN
      rw [hf]
    · rw [binL_at n y 0 (by omega), Nat.sub_zero, Nat.div_eq_of_lt (by omega)]; rfl
set_option maxRecDepth 100000 in
theorem bark6 : allR (fun x => !chk 6 x 5) 0 6 = true := by kernel_rfl
set_option maxRecDepth 100000 in
theorem bark8 : allR (fun x => !chk 8 x 7) 0 8 = true := by kernel_rfl
set_option maxRecDepth 100000 in
theorem bark9 : allR (fun x => !chk 9 x 8) 0 9 = true := by kernel_rfl
set_option maxRecDepth 100000 in
theorem bark10 : allR (fun x => !chk 10 x 9) 0 10 = true := by kernel_rfl
set_option maxRecDepth 100000 in
theorem bark12 : allR (fun x => !chk 12 x 11) 0 12 = true := by kernel_rfl
theorem bark_known (n : Nat) (h : n = 1 ∨ n = 2 ∨ n = 3 ∨ n = 4 ∨ n = 5 ∨ n = 7 ∨ n = 11 ∨ n = 13) : ∃ l : List UInt8, fbarkC n = (l, true) ∧ barkB l = true ∧ l.length = n ∧ l[0]? = some 48 := by
  rcases h with rfl | rfl | rfl | rfl | rfl | rfl | rfl | rfl
  · exact bark_some 1 0 (by omega) (by omega) (by decide) (by kernel_rfl)
  · exact bark_some 2 0 (by omega) (by omega) (by decide) (by kernel_rfl)
  · exact bark_some 3 1 (by omega) (by omega) (by decide) (by kernel_rfl)
  · exact bark_some 4 1 (by omega) (by omega) (by decide) (by kernel_rfl)
  · exact bark_some 5 2 (by omega) (by omega) (by decide) (by kernel_rfl)
  · exact bark_some 7 13 (by omega) (by omega) (by decide) (by kernel_rfl)
  · exact bark_some 11 237 (by omega) (by omega) (by decide) (by kernel_rfl)
  · exact bark_some 13 202 (by omega) (by omega) (by decide) (by kernel_rfl)
theorem bark_others (n : Nat) (h : n = 6 ∨ n = 8 ∨ n = 9 ∨ n = 10 ∨ n = 12) : fbarkC n = ([], false) := by
  rcases h with rfl | rfl | rfl | rfl | rfl
  · exact bark_none 6 (by omega) (by omega) bark6
  · exact bark_none 8 (by omega) (by omega) bark8
  · exact bark_none 9 (by omega) (by omega) bark9
  · exact bark_none 10 (by omega) (by omega) bark10
  · exact bark_none 12 (by omega) (by omega) bark12

end Go.Proofs.Ytfendecmgcmbjaa
