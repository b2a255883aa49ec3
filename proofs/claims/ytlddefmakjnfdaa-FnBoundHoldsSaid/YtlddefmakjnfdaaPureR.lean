/- What spreading, correlating, receiving and sending reckon, in plain Lean. Conditions: none. -/
import Derived.Test.YtlddefmakjnfdaaPureG
namespace Go.Proofs.Ytlddefmakjnfdaa
open Go.RowKit
set_option linter.unusedSimpArgs false
set_option linter.unusedVariables false

/-! spread data -/
def spreadL (d c : List UInt8) : List Int := (d.map fun b => c.map fun x => chipI b * chipI x).flatten
theorem spreadL_len (d c : List UInt8) : (spreadL d c).length = d.length * c.length := by
  unfold spreadL
  induction d with
  | nil => simp
  | cons b d ih => rw [List.map_cons, List.flatten_cons, List.length_append, ih, List.length_map, List.length_cons, Nat.add_mul]; omega
theorem spreadL_at (d c : List UInt8) (i : Nat) (b x : UInt8) (hb : d[i / c.length]? = some b) (hx : c[i % c.length]? = some x) : (spreadL d c)[i]? = some (chipI b * chipI x) := by
  have hc : 0 < c.length := by
    have := (List.getElem?_eq_some_iff.1 hx).1; omega
  unfold spreadL
  induction d generalizing i with
  | nil => simp at hb
  | cons b0 d ih =>
    rw [List.map_cons, List.flatten_cons]
    by_cases hi : i < c.length
    · rw [List.getElem?_append_left (by rw [List.length_map]; exact hi), List.getElem?_map]
      rw [Nat.div_eq_of_lt hi] at hb
      rw [Nat.mod_eq_of_lt hi] at hx
      rw [hx]
      obtain rfl : b0 = b := by simpa using hb
      rfl
    · rw [List.getElem?_append_right (by rw [List.length_map]; omega), List.length_map]
      refine ih (i - c.length) ?_ ?_
      · rw [show i / c.length = (i - c.length) / c.length + 1 by rw [← Nat.sub_add_cancel (show c.length ≤ i by omega), Nat.add_div_right _ hc]; simp] at hb
        simpa using hb
      · rw [show i % c.length = (i - c.length) % c.length by rw [← Nat.sub_add_cancel (show c.length ≤ i by omega), Nat.add_mod_right]; simp] at hx
        exact hx
theorem spreadL_snoc (d c : List UInt8) (k : Nat) (b : UInt8) (h : d[k]? = some b) : spreadL (d.take (k + 1)) c = spreadL (d.take k) c ++ c.map (fun x => chipI b * chipI x) := by
  obtain ⟨hk, rfl⟩ := List.getElem?_eq_some_iff.1 h
  unfold spreadL
  rw [List.take_succ_eq_append_getElem hk, List.map_append, List.flatten_append]
  simp
theorem chip_flip (x : UInt8) (h : isBit x = true) : chipI (flipC x) = -chipI x := by
  rcases bit_toNat x h with ⟨rfl, _⟩ | ⟨rfl, _⟩ <;> decide
theorem chips_same (c : List UInt8) : c.map (fun x => chipI 48 * chipI x) = c.map chipI := by
  apply List.map_congr_left
  intro x _
  show 1 * chipI x = chipI x
  omega
theorem chips_flip (b : UInt8) (hb : ¬ b = 48) (c : List UInt8) (h : c.all isBit = true) : c.map (fun x => chipI b * chipI x) = (c.map flipC).map chipI := by
  rw [List.map_map]
  apply List.map_congr_left
  intro x hx
  show chipI b * chipI x = chipI (flipC x)
  rw [chip_flip x (List.all_eq_true.1 h x hx)]
  unfold chipI
  rw [if_neg hb]
  omega
theorem chip_mul_bd (b x : UInt8) : -1 ≤ chipI b * chipI x ∧ chipI b * chipI x ≤ 1 := by
  have h1 := chipI_bd b
  have h2 := chipI_bd x
  unfold chipI at *
  split <;> split <;> omega
theorem spreadL_bd (d c : List UInt8) : bdI 1 (spreadL d c) := by
  intro z hz
  unfold spreadL at hz
  obtain ⟨l, hl, hz⟩ := List.mem_flatten.1 hz
  obtain ⟨b, _, rfl⟩ := List.mem_map.1 hl
  obtain ⟨x, _, rfl⟩ := List.mem_map.1 hz
  exact chip_mul_bd b x
def spreadOk (d c : List UInt8) : Prop := bitsB d = true ∧ seqB c = true ∧ d.length * c.length ≤ 3000
instance (d c : List UInt8) : Decidable (spreadOk d c) := by unfold spreadOk; infer_instance
def spreadC (d c : List UInt8) : List Int × Bool := if spreadOk d c then (spreadL d c, true) else ([], false)
theorem spreadC_ways (d c : List UInt8) : (¬ spreadOk d c ∧ spreadC d c = ([], false)) ∨ (spreadOk d c ∧ spreadC d c = (spreadL d c, true)) := by
  unfold spreadC
  by_cases h : spreadOk d c
  · rw [if_pos h]; exact .inr ⟨h, rfl⟩
  · rw [if_neg h]; exact .inl ⟨h, rfl⟩
theorem spreadC_len (d c : List UInt8) : (spreadC d c).1.length ≤ 1048576 := by
  rcases spreadC_ways d c with ⟨_, h⟩ | ⟨h0, h⟩ <;> rw [h]
  · simp
  · rw [spreadL_len]; have := h0.2.2; omega

/-! correlations with a signal -/
def corrT (s : List Int) (c : List UInt8) (f i : Nat) : Int := chipI (c.getD i 48) * s.getD (f + i) 0
def corrC (s : List Int) (c : List UInt8) (f : Nat) : Int := sumTo (corrT s c f) c.length
theorem getD_out (s : List Int) (i : Nat) (h : s.length ≤ i) : s.getD i 0 = 0 := by rw [List.getD_eq_getElem?_getD, List.getElem?_eq_none h]; rfl
theorem sumTo_tail (f : Nat → Int) (k n : Nat) (hk : k ≤ n) (h : ∀ i, k ≤ i → i < n → f i = 0) : sumTo f k = sumTo f n := by
  induction n with
  | zero => obtain rfl : k = 0 := by omega
            rfl
  | succ n ih =>
    by_cases hc : k = n + 1
    · rw [hc]
    · rw [sumTo_succ, h n (by omega) (by omega), ← ih (by omega) fun i h1 h2 => h i h1 (by omega)]; omega
theorem corr_stop (s : List Int) (c : List UInt8) (f k : Nat) (hk : k ≤ c.length) (h : k = c.length ∨ s.length ≤ f + k) : sumTo (corrT s c f) k = corrC s c f := by
  rcases h with rfl | h
  · rfl
  · refine sumTo_tail _ _ _ hk fun i h1 h2 => ?_
    unfold corrT
    rw [getD_out s (f + i) (by omega)]
    omega
theorem chip_mul (c : UInt8) (x M : Int) (h : -M ≤ x ∧ x ≤ M) : -M ≤ chipI c * x ∧ chipI c * x ≤ M := by
  unfold chipI; split <;> omega
theorem corrT_bd (s : List Int) (M : Int) (hM : 0 ≤ M) (h : bdI M s) (c : List UInt8) (f i : Nat) : -M ≤ corrT s c f i ∧ corrT s c f i ≤ M := chip_mul _ _ _ (bdI_getD M s h hM _)
theorem corrK_bd (s : List Int) (h : bdI 1000000 s) (c : List UInt8) (f k : Nat) : -(k * 1000000) ≤ sumTo (corrT s c f) k ∧ sumTo (corrT s c f) k ≤ k * 1000000 := sumTo_bd _ _ _ fun i _ => corrT_bd s 1000000 (by omega) h c f i
theorem corr_bd (s : List Int) (h : bdI 1000000 s) (c : List UInt8) (hc : c.length ≤ 255) (f : Nat) : -255000000 ≤ corrC s c f ∧ corrC s c f ≤ 255000000 := by
  have := corrK_bd s h c f c.length
  unfold corrC
  omega
def desL (s : List Int) (c : List UInt8) (f n : Nat) : List Int := (List.range n).map fun i => corrC s c (f + i * c.length)
theorem desL_len (s : List Int) (c : List UInt8) (f n : Nat) : (desL s c f n).length = n := by simp [desL]
theorem desL_at (s : List Int) (c : List UInt8) (f n i : Nat) (h : i < n) : (desL s c f n)[i]? = some (corrC s c (f + i * c.length)) := by simp [desL, h]
theorem desL_snoc (s : List Int) (c : List UInt8) (f k : Nat) : desL s c f (k + 1) = desL s c f k ++ [corrC s c (f + k * c.length)] := by simp [desL, List.range_succ]
theorem desL_bd (s : List Int) (h : bdI 1000000 s) (c : List UInt8) (hc : c.length ≤ 255) (f n : Nat) : bdI 255000000 (desL s c f n) := by
  intro z hz
  unfold desL at hz
  obtain ⟨i, _, rfl⟩ := List.mem_map.1 hz
  exact corr_bd s h c hc _
def lisB (s : List Int) (c : List UInt8) (f n : Int) : Bool := sigB s && seqB c && within 0 3000 f && within 0 600 n
def desC (s : List Int) (c : List UInt8) (n : Int) : List Int × Bool := if lisB s c 0 n = true then (desL s c 0 n.toNat, true) else ([], false)
theorem within_big (lo hi z : Int) (h : hi < z) : within lo hi z = false := by
  cases h2 : within lo hi z
  · rfl
  · have := (within_iff _ _ _).1 h2; omega
theorem within_low (lo hi z : Int) (h : z < lo) : within lo hi z = false := by
  cases h2 : within lo hi z
  · rfl
  · have := (within_iff _ _ _).1 h2; omega
theorem lisB_yes (s : List Int) (c : List UInt8) (f n : Int) (h : lisB s c f n = true) : sigB s = true ∧ seqB c = true ∧ (∃ j : Nat, f = j ∧ j ≤ 3000) ∧ (∃ m : Nat, n = m ∧ m ≤ 600) := by
  unfold lisB at h
  simp only [Bool.and_eq_true] at h
  obtain ⟨⟨⟨h1, h2⟩, h3⟩, h4⟩ := h
  have h3 := (within_iff _ _ _).1 h3
  have h4 := (within_iff _ _ _).1 h4
  exact ⟨h1, h2, ⟨f.toNat, by omega, by omega⟩, ⟨n.toNat, by omega, by omega⟩⟩
theorem lisB_mk (s : List Int) (c : List UInt8) (j m : Nat) (h1 : sigB s = true) (h2 : seqB c = true) (h3 : j ≤ 3000) (h4 : m ≤ 600) : lisB s c j m = true := by
  unfold lisB
  rw [h1, h2, (within_iff _ _ _).2 ⟨by omega, by omega⟩, (within_iff _ _ _).2 ⟨by omega, by omega⟩]; rfl
theorem desC_ways (s : List Int) (c : List UInt8) (n : Int) : (lisB s c 0 n = false ∧ desC s c n = ([], false)) ∨ (∃ m : Nat, n = m ∧ m ≤ 600 ∧ sigB s = true ∧ seqB c = true ∧ lisB s c 0 n = true ∧ desC s c n = (desL s c 0 m, true)) := by
  unfold desC
  cases h : lisB s c 0 n
  · rw [if_neg (by decide)]; exact .inl ⟨rfl, rfl⟩
  · obtain ⟨h1, h2, _, m, rfl, h4⟩ := lisB_yes _ _ _ _ h
    rw [if_pos rfl]
    exact .inr ⟨m, rfl, h4, h1, h2, rfl, by rw [Int.toNat_natCast]⟩
theorem desC_len (s : List Int) (c : List UInt8) (n : Int) : (desC s c n).1.length ≤ 1048576 := by
  rcases desC_ways s c n with ⟨_, h⟩ | ⟨m, _, hm, _, _, _, h⟩ <;> rw [h]
  · simp
  · rw [desL_len]; omega
def recC (s : List Int) (c : List UInt8) (f n : Int) : List UInt8 × Bool := if lisB s c f n = true then ((desL s c f.toNat n.toNat).map signC, true) else ([], false)
theorem recC_ways (s : List Int) (c : List UInt8) (f n : Int) : (lisB s c f n = false ∧ recC s c f n = ([], false)) ∨ (∃ j m : Nat, f = j ∧ n = m ∧ j ≤ 3000 ∧ m ≤ 600 ∧ sigB s = true ∧ seqB c = true ∧ lisB s c f n = true ∧ recC s c f n = ((desL s c j m).map signC, true)) := by
  unfold recC
  cases h : lisB s c f n
  · rw [if_neg (by decide)]; exact .inl ⟨rfl, rfl⟩
  · obtain ⟨h1, h2, ⟨j, rfl, h3⟩, m, rfl, h4⟩ := lisB_yes _ _ _ _ h
    rw [if_pos rfl]
    exact .inr ⟨j, m, rfl, rfl, h3, h4, h1, h2, rfl, by rw [Int.toNat_natCast, Int.toNat_natCast]⟩

/-! margins -/
def margT (s : List Int) (c : List UInt8) (f : Nat) (d : List UInt8) (i : Nat) : Int := corrC s c (f + i * c.length) * chipI (d.getD i 48)
def minK (t : Nat → Int) : Nat → Int
  | 0 => 0
  | k + 1 => if k = 0 ∨ t k < minK t k then t k else minK t k
theorem minK_lo (t : Nat → Int) (k : Nat) (h : k = 0 ∨ t k < minK t k) : minK t (k + 1) = t k := by show (if _ then _ else _) = _; rw [if_pos h]
theorem minK_hi (t : Nat → Int) (k : Nat) (h : ¬ (k = 0 ∨ t k < minK t k)) : minK t (k + 1) = minK t k := by show (if _ then _ else _) = _; rw [if_neg h]
theorem minK_bd (t : Nat → Int) (M : Int) (hM : 0 ≤ M) (k : Nat) (h : ∀ i, i < k → -M ≤ t i ∧ t i ≤ M) : -M ≤ minK t k ∧ minK t k ≤ M := by
  induction k with
  | zero => exact ⟨by show -M ≤ 0; omega, by show (0 : Int) ≤ M; omega⟩
  | succ k ih =>
    have h1 := ih fun i hi => h i (by omega)
    have h2 := h k (by omega)
    by_cases hc : k = 0 ∨ t k < minK t k
    · rw [minK_lo t k hc]; exact h2
    · rw [minK_hi t k hc]; exact h1
theorem mul_chip (c : UInt8) (x M : Int) (h : -M ≤ x ∧ x ≤ M) : -M ≤ x * chipI c ∧ x * chipI c ≤ M := by rw [Int.mul_comm]; exact chip_mul c x M h
theorem margT_bd (s : List Int) (h : bdI 1000000 s) (c : List UInt8) (hc : c.length ≤ 255) (f : Nat) (d : List UInt8) (i : Nat) : -255000000 ≤ margT s c f d i ∧ margT s c f d i ≤ 255000000 := mul_chip _ _ _ (corr_bd s h c hc _)
def margOk (s : List Int) (c : List UInt8) (f : Int) (d : List UInt8) : Prop := sigB s = true ∧ seqB c = true ∧ within 0 3000 f = true ∧ bitsB d = true ∧ d ≠ []
instance (s : List Int) (c : List UInt8) (f : Int) (d : List UInt8) : Decidable (margOk s c f d) := by unfold margOk; infer_instance
def margC (s : List Int) (c : List UInt8) (f : Int) (d : List UInt8) : Int × Bool := if margOk s c f d then (minK (margT s c f.toNat d) d.length, true) else (0, false)
theorem margC_ways (s : List Int) (c : List UInt8) (f : Int) (d : List UInt8) : (¬ margOk s c f d ∧ margC s c f d = (0, false)) ∨ (∃ j : Nat, f = j ∧ j ≤ 3000 ∧ margOk s c f d ∧ margC s c f d = (minK (margT s c j d) d.length, true)) := by
  unfold margC
  by_cases h : margOk s c f d
  · rw [if_pos h]
    have h3 := (within_iff _ _ _).1 h.2.2.1
    exact .inr ⟨f.toNat, by omega, by omega, h, rfl⟩
  · rw [if_neg h]; exact .inl ⟨h, rfl⟩

/-! several delays -/
def rakeK (s : List Int) (c : List UInt8) (ds : List Int) (n k : Nat) : List Int := (List.range n).map fun i => sumTo (fun q => corrC s c ((ds.getD q 0).toNat + i * c.length)) k
theorem rakeK_len (s : List Int) (c : List UInt8) (ds : List Int) (n k : Nat) : (rakeK s c ds n k).length = n := by simp [rakeK]
theorem rakeK_at (s : List Int) (c : List UInt8) (ds : List Int) (n k i : Nat) (h : i < n) : (rakeK s c ds n k)[i]? = some (sumTo (fun q => corrC s c ((ds.getD q 0).toNat + i * c.length)) k) := by simp [rakeK, h]
theorem rakeK_zero (s : List Int) (c : List UInt8) (ds : List Int) (n : Nat) : rakeK s c ds n 0 = List.replicate n 0 := by
  unfold rakeK
  simp [sumTo, List.map_const']
theorem rakeK_bd (s : List Int) (h : bdI 1000000 s) (c : List UInt8) (hc : c.length ≤ 255) (ds : List Int) (n k : Nat) : bdI (k * 255000000) (rakeK s c ds n k) := by
  intro z hz
  unfold rakeK at hz
  obtain ⟨i, _, rfl⟩ := List.mem_map.1 hz
  exact sumTo_bd _ _ _ fun q _ => corr_bd s h c hc _
theorem rakeK_add (s : List Int) (c : List UInt8) (ds : List Int) (n k j : Nat) (h : ds[k]? = some (j : Int)) : addL (rakeK s c ds n k) (desL s c j n) = rakeK s c ds n (k + 1) := by
  unfold addL
  rw [rakeK_len, desL_len, Nat.max_self]
  unfold rakeK
  apply List.map_congr_left
  intro i hi
  have hi := List.mem_range.1 hi
  have h1 : (ds.getD k 0).toNat = j := by rw [List.getD_eq_getElem?_getD, h]; simp
  rw [sumTo_succ, h1]
  congr 1
  · rw [List.getD_eq_getElem?_getD, List.getElem?_map, List.getElem?_range hi]; rfl
  · rw [List.getD_eq_getElem?_getD, desL_at _ _ _ _ _ hi]; rfl
def rakeOk (s : List Int) (c : List UInt8) (ds : List Int) (n : Int) : Prop := lisB s c 0 n = true ∧ 1 ≤ ds.length ∧ ds.length ≤ 8 ∧ ds.all (within 0 3000) = true
instance (s : List Int) (c : List UInt8) (ds : List Int) (n : Int) : Decidable (rakeOk s c ds n) := by unfold rakeOk; infer_instance
def rakeC (s : List Int) (c : List UInt8) (ds : List Int) (n : Int) : List UInt8 × Bool := if rakeOk s c ds n then ((rakeK s c ds n.toNat ds.length).map signC, true) else ([], false)
theorem rakeC_no (s : List Int) (c : List UInt8) (ds : List Int) (n : Int) (h : ¬ rakeOk s c ds n) : rakeC s c ds n = ([], false) := if_neg h
theorem rakeC_yes (s : List Int) (c : List UInt8) (ds : List Int) (m : Nat) (h : rakeOk s c ds m) : rakeC s c ds m = ((rakeK s c ds m ds.length).map signC, true) := by
  unfold rakeC; rw [if_pos h, Int.toNat_natCast]

end Go.Proofs.Ytlddefmakjnfdaa
