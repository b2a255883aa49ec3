/- Spread data is received: the correlations of a signal that holds spread data. Conditions: none. -/
import Derived.Test.YtlddefmakjnfdaaPureR
import Derived.Test.YtlddefmakjnfdaaPureH
namespace Go.Proofs.Ytlddefmakjnfdaa
open Go.RowKit
set_option linter.unusedSimpArgs false
set_option linter.unusedVariables false

theorem chipI_sq (x : UInt8) : chipI x * chipI x = 1 := by unfold chipI; split <;> rfl
theorem sumTo_const (a : Int) (n : Nat) : sumTo (fun _ => a) n = a * n := by
  induction n with
  | zero => show (0 : Int) = a * 0; omega
  | succ n ih => rw [sumTo_succ, ih, Int.natCast_add, Int.mul_add]; omega
/-- A signal holds a code, times a. -/
def holdsAt (s : List Int) (c : List UInt8) (f : Nat) (a : Int) : Prop := ∀ j, j < c.length → s.getD (f + j) 0 = a * chipI (c.getD j 48)
theorem corr_holds (s : List Int) (c : List UInt8) (f : Nat) (a : Int) (h : holdsAt s c f a) : corrC s c f = a * c.length := by
  unfold corrC
  rw [← sumTo_const]
  refine sumTo_congr _ _ _ fun j hj => ?_
  unfold corrT
  rw [h j hj, Int.mul_comm, Int.mul_assoc, chipI_sq, Int.mul_one]
theorem spread_getD (d c : List UInt8) (i j : Nat) (hi : i < d.length) (hj : j < c.length) : (spreadL d c).getD (i * c.length + j) 0 = chipI (d.getD i 48) * chipI (c.getD j 48) := by
  have h1 : (i * c.length + j) / c.length = i := by rw [Nat.mul_comm, Nat.mul_add_div (by omega), Nat.div_eq_of_lt hj]; rfl
  have h2 : (i * c.length + j) % c.length = j := by rw [Nat.mul_comm, Nat.mul_add_mod, Nat.mod_eq_of_lt hj]
  rw [List.getD_eq_getElem?_getD, spreadL_at d c _ d[i] c[j] (by rw [h1]; exact List.getElem?_eq_getElem hi) (by rw [h2]; exact List.getElem?_eq_getElem hj)]
  rw [List.getD_eq_getElem?_getD, List.getD_eq_getElem?_getD, List.getElem?_eq_getElem hi, List.getElem?_eq_getElem hj]
  rfl
theorem spread_corr (d c : List UInt8) (i : Nat) (hi : i < d.length) : corrC (spreadL d c) c (i * c.length) = chipI (d.getD i 48) * c.length :=
  corr_holds _ _ _ _ fun j hj => spread_getD d c i j hi hj
theorem bit_getD (d : List UInt8) (h : d.all isBit = true) (i : Nat) (hi : i < d.length) : isBit (d.getD i 48) = true := by
  rw [List.getD_eq_getElem?_getD, List.getElem?_eq_getElem hi]
  exact List.all_eq_true.1 h _ (List.getElem_mem hi)
theorem sign_chipA (b : UInt8) (a : Int) (h : isBit b = true) (ha : 0 < a) : signC (chipI b * a) = b := by
  rcases bit_toNat b h with ⟨rfl, _⟩ | ⟨rfl, _⟩
  · unfold signC; rw [show chipI 48 = 1 from rfl, if_neg (by omega)]
  · unfold signC; rw [show chipI 49 = -1 from rfl, if_pos (by omega)]
theorem signs_back (d : List UInt8) (hd : d.all isBit = true) (l : List Int) (hl : l.length = d.length) (h : ∀ i x, i < d.length → l[i]? = some x → signC x = d.getD i 48) : l.map signC = d := by
  apply List.ext_getElem?
  intro i
  by_cases hi : i < d.length
  · rw [List.getElem?_map, List.getElem?_eq_getElem (by omega : i < l.length), List.getElem?_eq_getElem hi]
    rw [Option.map_some, h i _ hi (List.getElem?_eq_getElem (by omega : i < l.length)), List.getD_eq_getElem?_getD, List.getElem?_eq_getElem hi]
    rfl
  · rw [List.getElem?_eq_none (by rw [List.length_map]; omega), List.getElem?_eq_none (by omega)]
theorem spread_sig (d c : List UInt8) (h : d.length * c.length ≤ 3000) : sigB (spreadL d c) = true := by
  unfold sigB
  rw [Bool.and_eq_true, decide_eq_true_eq, spreadL_len]
  refine ⟨h, List.all_eq_true.2 fun z hz => (within_iff _ _ _).2 ?_⟩
  have := spreadL_bd d c z hz
  omega
theorem spread_des (d c : List UInt8) (h : spreadOk d c) : desC (spreadL d c) c d.length = (desL (spreadL d c) c 0 d.length, true) := by
  obtain ⟨h1, h2, h3⟩ := h
  have hd : d.length ≤ 600 := by unfold bitsB at h1; simp only [Bool.and_eq_true, decide_eq_true_eq] at h1; exact h1.1
  unfold desC
  rw [if_pos (show lisB (spreadL d c) c 0 d.length = true from lisB_mk _ _ 0 d.length (spread_sig d c h3) h2 (by omega) hd), Int.toNat_natCast]
theorem spread_des_at (d c : List UInt8) (i : Nat) (hi : i < d.length) : (desL (spreadL d c) c 0 d.length)[i]? = some (chipI (d.getD i 48) * c.length) := by
  rw [desL_at _ _ _ _ _ hi, Nat.zero_add, spread_corr d c i hi]
theorem spread_rec (d c : List UInt8) (h : spreadOk d c) : recC (spreadL d c) c 0 d.length = (d, true) := by
  obtain ⟨h1, h2, h3⟩ := h
  have hd : d.length ≤ 600 ∧ d.all isBit = true := by unfold bitsB at h1; simpa only [Bool.and_eq_true, decide_eq_true_eq] using h1
  have hc : 1 ≤ c.length := by unfold seqB at h2; simp only [Bool.and_eq_true, decide_eq_true_eq] at h2; exact h2.1.1
  unfold recC
  rw [if_pos (show lisB (spreadL d c) c 0 d.length = true from lisB_mk _ _ 0 d.length (spread_sig d c h3) h2 (by omega) hd.1), Int.toNat_natCast]
  refine Prod.ext ?_ rfl
  refine signs_back d hd.2 _ (desL_len _ _ _ _) fun i x hi hx => ?_
  have h5 := spread_des_at d c i hi
  rw [show ((0 : Int)).toNat = 0 from rfl] at hx
  rw [hx] at h5
  obtain rfl := Option.some.inj h5
  exact sign_chipA _ _ (bit_getD d hd.2 i hi) (by omega)

end Go.Proofs.Ytlddefmakjnfdaa
