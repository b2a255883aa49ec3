/- Plain law of the laws on signals and bits. Conditions: none. -/
import Derived.Test.YtkebiigpfbconaaPureF
namespace Go.Proofs.Ytkebiigpfbconaa
open Go.RowKit
set_option linter.unusedSimpArgs false
set_option linter.unusedVariables false

theorem addC_ways (a b : List Int) : addC a b = ([], false) ∨ (sigB a = true ∧ sigB b = true ∧ sigB (addL a b) = true ∧ addC a b = (addL a b, true)) := by
  unfold addC
  by_cases h : sigB a = true ∧ sigB b = true
  · rw [if_pos h]
    rcases resC_cases (addL a b) with h5 | ⟨h5, h6⟩
    · exact .inl h5
    · exact .inr ⟨h.1, h.2, h5, h6⟩
  · rw [if_neg h]; exact .inl rfl
theorem addL_symm (a b : List Int) : addL b a = addL a b := by
  unfold addL
  rw [Nat.max_comm]
  apply List.map_congr_left
  intro i _
  omega
theorem add_other (a b : List Int) (h1 : sigB a = true) (h2 : sigB b = true) (h3 : sigB (addL a b) = true) : addC b a = (addL a b, true) := by
  unfold addC
  rw [if_pos ⟨h2, h1⟩, addL_symm]
  unfold resC
  rw [if_pos h3]
theorem neg_sig (b : List Int) (h : sigB b = true) : sigB (b.map ((-1) * ·)) = true := by
  obtain ⟨hl, hz⟩ := sig_bd b h
  refine sigB_mk _ (by simpa using hl) fun z hz' => ?_
  obtain ⟨y, hy, rfl⟩ := List.mem_map.1 hz'
  have := hz y hy
  show -1000000 ≤ -1 * y ∧ -1 * y ≤ 1000000
  omega
theorem neg_ok (b : List Int) (h : sigB b = true) : scaleC b (-1) = (b.map ((-1) * ·), true) := by
  unfold scaleC
  rw [if_pos ⟨h, (within_iff _ _ _).2 ⟨by omega, by omega⟩⟩]
  unfold resC
  rw [if_pos (neg_sig b h)]
theorem addL_neg (a b : List Int) : addL (addL a b) (b.map ((-1) * ·)) = padL (max a.length b.length) a := by
  unfold addL padL
  simp only [List.length_map, List.length_range]
  rw [show max (max a.length b.length) b.length = max a.length b.length by omega]
  apply List.map_congr_left
  intro i hi
  have hi := List.mem_range.1 hi
  rw [List.getD_eq_getElem?_getD, List.getElem?_map, List.getElem?_range hi, Option.map_some, Option.getD_some, List.getD_eq_getElem?_getD (l := List.map _ b), List.getElem?_map, List.getD_eq_getElem?_getD (l := b)]
  cases b[i]? with
  | none => simp
  | some y =>
    show a.getD i 0 + y + -1 * y = a.getD i 0
    omega
theorem padL_sig (n : Nat) (a : List Int) (h : sigB a = true) (hn : n ≤ 3000) : sigB (padL n a) = true := by
  obtain ⟨hl, hz⟩ := sig_bd a h
  refine sigB_mk _ (by rw [padL_len]; exact hn) fun z hz' => ?_
  unfold padL at hz'
  obtain ⟨i, hi, rfl⟩ := List.mem_map.1 hz'
  exact bdI_getD 1000000 a hz (by omega) i
theorem add_back (a b : List Int) (h1 : sigB a = true) (h2 : sigB b = true) (h3 : sigB (addL a b) = true) : addC (addL a b) (b.map ((-1) * ·)) = (padL (max a.length b.length) a, true) := by
  unfold addC
  rw [if_pos ⟨h3, neg_sig b h2⟩, addL_neg]
  unfold resC
  have := (sig_bd a h1).1
  have := (sig_bd b h2).1
  rw [if_pos (padL_sig _ a h1 (by omega))]
/-! chips and signs -/
theorem chipsC_ways (l : List UInt8) : chipsC l = ([], false) ∨ (bitsB l = true ∧ chipsC l = (l.map chipI, true)) := by
  unfold chipsC
  by_cases h : bitsB l = true
  · rw [if_pos h]; exact .inr ⟨h, rfl⟩
  · rw [if_neg h]; exact .inl rfl
theorem bitsB_parts (l : List UInt8) (h : bitsB l = true) : l.length ≤ 600 ∧ l.all isBit = true := by
  simp only [bitsB, Bool.and_eq_true, decide_eq_true_eq] at h; exact h
theorem chips_sig (l : List UInt8) (h : bitsB l = true) : sigB (l.map chipI) = true := by
  have := (bitsB_parts l h).1
  refine sigB_mk _ (by rw [List.length_map]; omega) fun z hz => ?_
  obtain ⟨y, _, rfl⟩ := List.mem_map.1 hz
  have := chipI_bd y
  omega
theorem sign_chip (c : UInt8) (h : isBit c = true) : signC (chipI c) = c := by
  rcases bit_toNat c h with ⟨rfl, _⟩ | ⟨rfl, _⟩ <;> decide
theorem signs_chips (l : List UInt8) (h : bitsB l = true) : signsC (l.map chipI) = (l, true) := by
  obtain ⟨h1, h2⟩ := bitsB_parts l h
  unfold signsC
  rw [if_pos ⟨chips_sig l h, by rw [List.length_map]; exact h1⟩, List.map_map]
  congr 1
  conv => rhs; rw [← List.map_id l]
  exact List.map_congr_left fun c hc => sign_chip c (List.all_eq_true.1 h2 c hc)
theorem enL_chips (l : List UInt8) : enL (l.map chipI) = (l.length : Int) := by
  induction l with
  | nil => rfl
  | cons c l ih =>
    show chipI c * chipI c + enL (l.map chipI) = _
    rw [ih, show chipI c * chipI c = 1 by unfold chipI; split <;> rfl]
    simp; omega
theorem energy_chips (l : List UInt8) (h : bitsB l = true) : energyOf (l.map chipI) = (l.length : Int) := by rw [energyOf_en _ (chips_sig l h), enL_chips]

end Go.Proofs.Ytkebiigpfbconaa
