/- Plain law on families of codes: what the functions of chapters 2 and 3 give back, as lists. Conditions: none. -/
import Derived.Test.YtkebiigpfbconaaPure
namespace Go.Proofs.Ytkebiigpfbconaa
open Go.RowKit
set_option linter.unusedSimpArgs false
set_option linter.unusedVariables false

theorem byte_same (a b : UInt8) : (((a.toNat : Int) == (b.toNat : Int)) = true ∧ RowKit.Hid (a = b)) ∨ (((a.toNat : Int) == (b.toNat : Int)) = false ∧ RowKit.Hid (a ≠ b)) := by
  rcases byte_cases a b with ⟨h1, h2⟩ | ⟨h1, h2⟩
  · exact .inl ⟨by simpa [bne] using h1, h2⟩
  · exact .inr ⟨by simpa [bne] using h1, h2⟩

/-! the first number that has a property -/
def firstN (p : Nat → Bool) (n : Nat) : Option Nat := (List.range n).find? p
theorem firstN_some (p : Nat → Bool) (n k : Nat) (hk : k < n) (h : ∀ x, x < k → p x = false) (hp : p k = true) : firstN p n = some k := by
  unfold firstN
  rw [List.find?_range_eq_some]
  exact ⟨hp, by simpa using hk, fun j hj => by simp [h j hj]⟩
theorem firstN_none (p : Nat → Bool) (n : Nat) (h : ∀ x, x < n → p x = false) : firstN p n = none := by
  unfold firstN
  rw [List.find?_eq_none]
  intro x hx
  simp [h x (List.mem_range.1 hx)]
theorem below_snoc (p : Nat → Bool) (k : Nat) (h : ∀ x, x < k → p x = false) (hp : p k = false) : ∀ x, x < k + 1 → p x = false := fun x hx => by
  rcases Nat.lt_or_ge x k with h1 | h1
  · exact h x h1
  · obtain rfl : x = k := by omega
    exact hp

/-! bits that are added -/
def flipC (c : UInt8) : UInt8 := if c = 48 then 49 else 48
def xorC (a b : UInt8) : UInt8 := if a = b then 48 else 49
def addBL (a b : List UInt8) : List UInt8 := List.zipWith xorC a b
theorem addBL_len (a b : List UInt8) (h : a.length = b.length) : (addBL a b).length = a.length := by simp [addBL, h]
theorem addBL_at (a b : List UInt8) (k : Nat) (x y : UInt8) (hx : a[k]? = some x) (hy : b[k]? = some y) : (addBL a b)[k]? = some (xorC x y) := by simp [addBL, List.getElem?_zipWith, hx, hy]
theorem addBL_ones (a : List UInt8) (h : a.all isBit = true) : addBL a (List.replicate a.length 49) = a.map flipC := by
  induction a with
  | nil => rfl
  | cons x a ih =>
    simp only [List.all_cons, Bool.and_eq_true] at h
    show xorC x 49 :: addBL a (List.replicate a.length 49) = flipC x :: a.map flipC
    rw [ih h.2]
    congr 1
    have := h.1
    simp [isBit] at this
    rcases this with rfl | rfl <;> decide
theorem flip_bit (c : UInt8) (h : isBit c = true) : (48 + 49 - (c.toNat : Int)) = ((flipC c).toNat : Int) := by
  simp [isBit] at h
  rcases h with rfl | rfl <;> decide
theorem flipC_bits (a : List UInt8) : (a.map flipC).all isBit = true := by
  rw [List.all_eq_true]
  intro x hx
  obtain ⟨y, _, rfl⟩ := List.mem_map.1 hx
  unfold flipC; split <;> decide
theorem bitC_bit (n : Nat) : isBit (bitC n) = true := by unfold bitC; split <;> decide
theorem bit_toNat (c : UInt8) (h : isBit c = true) : (c = 48 ∧ (c.toNat : Int) = 48) ∨ (c = 49 ∧ (c.toNat : Int) = 49) := by
  simp [isBit] at h
  rcases h with rfl | rfl
  · exact .inl ⟨rfl, rfl⟩
  · exact .inr ⟨rfl, rfl⟩

/-! numbers as bits, the highest one first -/
def binL (d n : Nat) : List UInt8 := (List.range d).map fun i => bitC (n / 2 ^ (d - 1 - i) % 2)
theorem binL_len (d n : Nat) : (binL d n).length = d := by simp [binL]
theorem binL_at (d n i : Nat) (h : i < d) : (binL d n)[i]? = some (bitC (n / 2 ^ (d - 1 - i) % 2)) := by simp [binL, h]
theorem binL_bits (d n : Nat) : (binL d n).all isBit = true := by
  rw [List.all_eq_true]
  intro x hx
  obtain ⟨i, _, rfl⟩ := List.mem_map.1 hx
  exact bitC_bit _
theorem binL_path (d n : Nat) (h : d ≤ 6) : pathB (binL d n) = true := by simp only [pathB, binL_len, binL_bits]; simpa using h
theorem bitC_mod (n : Nat) : ((bitC (n % 2)).toNat : Int) = 48 + ((n % 2 : Nat) : Int) := by
  rcases Nat.mod_two_eq_zero_or_one n with h | h <;> rw [h] <;> rfl
theorem shr_i (n k : Nat) : n >>> k = n / 2 ^ k := Nat.shiftRight_eq_div_pow n k
theorem two_nat (k : Nat) : two (k : Int) = ((2 ^ k : Nat) : Int) := by unfold two; rw [Int.toNat_natCast]; simp

/-! the order of a length -/
def orderC (n : Nat) : Int := match firstN (fun k => 2 ^ k == n) 7 with | some k => k | none => -1
theorem orderC_some (n k : Nat) (hk : k ≤ 6) (h : ∀ x, x < k → (2 ^ x == n) = false) (hp : (2 ^ k == n) = true) : orderC n = k := by
  unfold orderC; rw [firstN_some (fun k => 2 ^ k == n) 7 k (by omega) h hp]
theorem orderC_none (n : Nat) (h : ∀ x, x < 7 → (2 ^ x == n) = false) : orderC n = -1 := by
  unfold orderC; rw [firstN_none (fun k => 2 ^ k == n) 7 h]
theorem orderC_ways (n : Nat) : orderC n = -1 ∨ ∃ k : Nat, k ≤ 6 ∧ n = 2 ^ k ∧ orderC n = k := by
  by_cases h : ∃ k, k < 7 ∧ n = 2 ^ k
  · obtain ⟨k, hk, rfl⟩ := h
    refine .inr ⟨k, by omega, rfl, orderC_some _ k (by omega) (fun x hx => ?_) (by simp)⟩
    have := Nat.pow_lt_pow_right (a := 2) (by omega) hx
    simp; omega
  · refine .inl (orderC_none n fun x hx => ?_)
    simp only [beq_eq_false_iff_ne, ne_eq]
    exact fun e => h ⟨x, hx, e.symm⟩
theorem orderC_bd (n : Nat) : -1 ≤ orderC n ∧ orderC n ≤ 6 := by
  rcases orderC_ways n with h | ⟨k, hk, _, h⟩ <;> rw [h] <;> omega
theorem orderC_len (n : Nat) (h : 0 ≤ orderC n) : 1 ≤ n ∧ n ≤ 64 := by
  rcases orderC_ways n with h1 | ⟨k, hk, rfl, h1⟩
  · omega
  · have := Nat.pow_le_pow_right (n := 2) (by omega) hk
    have := Nat.two_pow_pos k
    omega
theorem orderC_two (n : Nat) (h : 0 ≤ orderC n) : two (orderC n) = n := by
  rcases orderC_ways n with h1 | ⟨k, hk, rfl, h1⟩
  · omega
  · rw [h1, two_nat]

/-! the correlation of a sequence with itself that does not repeat -/
def aperT (s : List UInt8) (k i : Nat) : Int := if s[i]? = s[i + k]? then 1 else -1
def aperC (s : List UInt8) (k : Nat) : Int := sumTo (aperT s k) (s.length - k)
theorem aperT_bd (s : List UInt8) (k i : Nat) : -1 ≤ aperT s k i ∧ aperT s k i ≤ 1 := by unfold aperT; split <;> omega
theorem aper_bd (s : List UInt8) (k n : Nat) : -(n : Int) ≤ sumTo (aperT s k) n ∧ sumTo (aperT s k) n ≤ n := by
  have := sumTo_bd (aperT s k) 1 n (fun i _ => aperT_bd s k i)
  omega
def aperP (s : List UInt8) (k : Int) : Int × Bool := if seqB s = true ∧ within 0 ((s.length : Int) - 1) k = true then (aperC s k.toNat, true) else (0, false)
theorem aperP_ok (s : List UInt8) (k : Nat) (h : seqB s = true) (hk : k < s.length) : aperP s k = (aperC s k, true) := by
  unfold aperP; rw [if_pos ⟨h, (within_iff _ _ _).2 ⟨by omega, by omega⟩⟩, Int.toNat_natCast]
def barkAt (s : List UInt8) (k : Nat) : Bool := k == 0 || within (-1) 1 (aperC s k)
def barkB (s : List UInt8) : Bool := seqB s && (List.range s.length).all (barkAt s)
theorem barkB_no (s : List UInt8) (h : seqB s = false) : barkB s = false := by simp [barkB, h]
theorem barkB_yes (s : List UInt8) (h : seqB s = true) (ha : ∀ k, k < s.length → barkAt s k = true) : barkB s = true := by
  simp only [barkB, h, Bool.true_and, List.all_eq_true, List.mem_range]
  exact ha
theorem barkB_not (s : List UInt8) (k : Nat) (hk : k < s.length) (h : barkAt s k = false) : barkB s = false := by
  cases hs : seqB s
  · exact barkB_no s hs
  · rw [Bool.eq_false_iff]
    intro hb
    simp only [barkB, hs, Bool.true_and, List.all_eq_true, List.mem_range] at hb
    rw [hb k hk] at h
    cases h
theorem barkAt_within (s : List UInt8) (k : Nat) (hk : 1 ≤ k) : barkAt s k = within (-1) 1 (aperC s k) := by
  unfold barkAt
  rw [show (k == 0) = false by simp; omega]
  simp
theorem bark_snoc (s : List UInt8) (k : Nat) (h : ∀ x, x < k → barkAt s x = true) (hp : barkAt s k = true) : ∀ x, x < k + 1 → barkAt s x = true := fun x hx => by
  rcases Nat.lt_or_ge x k with h1 | h1
  · exact h x h1
  · obtain rfl : x = k := by omega
    exact hp
def fbarkC (n : Int) : List UInt8 × Bool := if within 1 13 n = true then match firstN (fun x => barkB (binL n.toNat x)) (2 ^ n.toNat) with | some x => (binL n.toNat x, true) | none => ([], false) else ([], false)
theorem fbarkC_some (n x : Nat) (h1 : 1 ≤ n) (h2 : n ≤ 13) (hx : x < 2 ^ n) (h : ∀ y, y < x → barkB (binL n y) = false) (hp : barkB (binL n x) = true) : fbarkC n = (binL n x, true) := by
  unfold fbarkC
  rw [if_pos ((within_iff _ _ _).2 ⟨by omega, by omega⟩), Int.toNat_natCast, firstN_some (fun x => barkB (binL n x)) _ x hx h hp]
theorem fbarkC_none (n : Nat) (h1 : 1 ≤ n) (h2 : n ≤ 13) (h : ∀ y, y < 2 ^ n → barkB (binL n y) = false) : fbarkC n = ([], false) := by
  unfold fbarkC
  rw [if_pos ((within_iff _ _ _).2 ⟨by omega, by omega⟩), Int.toNat_natCast, firstN_none (fun x => barkB (binL n x)) _ h]
theorem fbarkC_out (n : Int) (h : ¬ (1 ≤ n ∧ n ≤ 13)) : fbarkC n = ([], false) := by
  unfold fbarkC
  rw [if_neg (by rw [within_no _ _ _ h]; decide)]

/-! the index of a Walsh code -/
def windexC (s : List UInt8) : Int × Bool := if 0 ≤ orderC s.length then match firstN (fun i => walshL s.length i == s) s.length with | some i => ((i : Int), true) | none => (0, false) else (0, false)
theorem windexC_some (s : List UInt8) (i : Nat) (h0 : 0 ≤ orderC s.length) (hi : i < s.length) (h : ∀ y, y < i → (walshL s.length y == s) = false) (hp : (walshL s.length i == s) = true) : windexC s = ((i : Int), true) := by
  unfold windexC
  rw [if_pos h0, firstN_some (fun i => walshL s.length i == s) _ i hi h hp]
theorem windexC_none (s : List UInt8) (h0 : 0 ≤ orderC s.length) (h : ∀ y, y < s.length → (walshL s.length y == s) = false) : windexC s = (0, false) := by
  unfold windexC
  rw [if_pos h0, firstN_none (fun i => walshL s.length i == s) _ h]
theorem windexC_out (s : List UInt8) (h0 : ¬ 0 ≤ orderC s.length) : windexC s = (0, false) := by
  unfold windexC; rw [if_neg h0]

/-! the transform -/
def wterm (zs : List Int) (i k : Nat) : Int := if par (i &&& k) = 0 then zs.getD k 0 else - zs.getD k 0
def wtranL (zs : List Int) : List Int := (List.range zs.length).map fun i => sumTo (wterm zs i) zs.length
def wtranC (zs : List Int) : List Int := if 0 ≤ orderC zs.length ∧ zs.all (within (-1000000) 1000000) = true then wtranL zs else []
theorem wtranL_len (zs : List Int) : (wtranL zs).length = zs.length := by simp [wtranL]
theorem wtranL_at (zs : List Int) (i : Nat) (h : i < zs.length) : (wtranL zs)[i]? = some (sumTo (wterm zs i) zs.length) := by simp [wtranL, h]
theorem wtranC_len (zs : List Int) : (wtranC zs).length ≤ 1048576 := by
  unfold wtranC; split
  · rename_i h; rw [wtranL_len]; have := orderC_len _ h.1; omega
  · simp
theorem all_within (zs : List Int) (M : Int) (h : zs.all (within (-M) M) = true) : ∀ z ∈ zs, -M ≤ z ∧ z ≤ M := fun z hz => (within_iff _ _ _).1 (List.all_eq_true.1 h z hz)
theorem wterm_bd (zs : List Int) (h : ∀ z ∈ zs, -1000000 ≤ z ∧ z ≤ 1000000) (i k : Nat) : -1000000 ≤ wterm zs i k ∧ wterm zs i k ≤ 1000000 := by
  have := bdI_getD 1000000 zs h (by omega) k
  unfold wterm; split <;> omega
theorem wsum_bd (zs : List Int) (h : ∀ z ∈ zs, -1000000 ≤ z ∧ z ≤ 1000000) (i k : Nat) : -(k * 1000000) ≤ sumTo (wterm zs i) k ∧ sumTo (wterm zs i) k ≤ k * 1000000 := sumTo_bd _ _ _ fun j _ => wterm_bd zs h i j
theorem wterm_mul (zs : List Int) (i k : Nat) : zs.getD k 0 * (1 - 2 * ((par (i &&& k) : Nat) : Int)) = wterm zs i k := by
  unfold wterm
  have := par_le (i &&& k)
  by_cases h : par (i &&& k) = 0
  · rw [if_pos h, h]; simp
  · rw [if_neg h, show par (i &&& k) = 1 by omega]; simp

/-! the tree of codes -/
def treeS (c : List UInt8) (b : UInt8) : List UInt8 := c ++ (if b = 48 then c else c.map flipC)
def treeL (p : List UInt8) : List UInt8 := p.foldl treeS [48]
def treeC (p : List UInt8) : List UInt8 × Bool := if pathB p = true then (treeL p, true) else ([], false)
theorem treeL_snoc (p : List UInt8) (b : UInt8) : treeL (p ++ [b]) = treeS (treeL p) b := by simp [treeL]
theorem treeL_len (p : List UInt8) : (treeL p).length = 2 ^ p.length := by
  suffices h : ∀ c : List UInt8, (p.foldl treeS c).length = c.length * 2 ^ p.length by rw [treeL, h]; simp
  induction p with
  | nil => intro c; simp
  | cons b p ih =>
    intro c
    rw [List.foldl_cons, ih, List.length_cons, Nat.pow_succ]
    have : (treeS c b).length = 2 * c.length := by unfold treeS; split <;> simp <;> omega
    rw [this, Nat.mul_comm (2 ^ p.length) 2, ← Nat.mul_assoc, Nat.mul_comm 2 c.length]
theorem treeS_bits (c : List UInt8) (b : UInt8) (h : c.all isBit = true) : (treeS c b).all isBit = true := by
  unfold treeS
  split
  · rw [List.all_append, h]; rfl
  · rw [List.all_append, h, flipC_bits]; rfl
theorem treeL_bits (p : List UInt8) : (treeL p).all isBit = true := by
  suffices h : ∀ c : List UInt8, c.all isBit = true → (p.foldl treeS c).all isBit = true by exact h _ (by decide)
  induction p with
  | nil => intro c h; exact h
  | cons b p ih => intro c h; rw [List.foldl_cons]; exact ih _ (treeS_bits c b h)

/-! free paths -/
def freeAt (used : List (List UInt8)) (p : List UInt8) : Bool := used.all fun q => !conflB p q
def freeL (used : List (List UInt8)) (d : Nat) : List (List UInt8) := ((List.range (2 ^ d)).map (binL d)).filter (freeAt used)
def freeK (used : List (List UInt8)) (d k : Nat) : List (List UInt8) := ((List.range k).map (binL d)).filter (freeAt used)
theorem freeK_yes (used : List (List UInt8)) (d k : Nat) (h : freeAt used (binL d k) = true) : freeK used d (k + 1) = freeK used d k ++ [binL d k] := by
  unfold freeK; rw [List.range_succ, List.map_append, List.filter_append]; simp [h]
theorem freeK_no (used : List (List UInt8)) (d k : Nat) (h : freeAt used (binL d k) = false) : freeK used d (k + 1) = freeK used d k := by
  unfold freeK; rw [List.range_succ, List.map_append, List.filter_append]; simp [h]
theorem freeK_len (used : List (List UInt8)) (d k : Nat) : (freeK used d k).length ≤ k := by
  unfold freeK; have := List.length_filter_le (freeAt used) ((List.range k).map (binL d)); simpa using this
def usedB (used : List (List UInt8)) (d : Int) : Bool := within 0 6 d && decide (used.length ≤ 70) && used.all pathB
def freeC (used : List (List UInt8)) (d : Int) : Int := if usedB used d = true then ((freeL used d.toNat).length : Int) else -1
def allocC (used : List (List UInt8)) (d : Int) : List UInt8 × Bool := if usedB used d = true then match freeL used d.toNat with | [] => ([], false) | p :: _ => (p, true) else ([], false)
theorem pow_cast (k : Nat) : ((2 ^ k : Nat) : Int) = (2 : Int) ^ k := by simp
theorem wrap_pow (k : Nat) (hk : k ≤ 40) : wrap64 ((2 : Int) ^ k) = ((2 ^ k : Nat) : Int) := by
  have := Nat.pow_le_pow_right (n := 2) (by omega) hk
  rw [← pow_cast]
  generalize 2 ^ k = z at *
  exact IntWalk.wrap64_in _ ⟨by omega, by omega⟩
theorem pow_test (k n : Nat) (hk : k ≤ 40) : (wrap64 ((2 : Int) ^ k) == (n : Int)) = (2 ^ k == n) := by
  rw [wrap_pow k hk, Bool.eq_iff_iff]
  simp only [beq_iff_eq]
  exact Int.ofNat_inj
theorem two_test (k n : Nat) : (two (k : Int) == (n : Int)) = (2 ^ k == n) := by
  rw [two_nat, Bool.eq_iff_iff]
  simp only [beq_iff_eq]
  exact Int.ofNat_inj
theorem path_bits (l : List UInt8) (h : pathB l = true) : l.all isBit = true := by simp only [pathB, Bool.and_eq_true] at h; exact h.2
theorem path_bd (s : ByteArray) (h : pathB s.data.toList = true) : s.size ≤ 6 := by
  simp only [pathB, Bool.and_eq_true, decide_eq_true_eq, len_data] at h; exact h.1
theorem flat_ones (n : Nat) : (List.replicate n [(49 : UInt8)]).flatten = List.replicate n 49 := by
  induction n with
  | zero => rfl
  | succ n ih => rw [List.replicate_succ, List.flatten_cons, ih]; rfl
theorem ones_bits (n : Nat) : (List.replicate n (49 : UInt8)).all isBit = true := by
  rw [List.all_eq_true]; intro x hx; rw [(List.mem_replicate.1 hx).2]; decide
def digC (n : Nat) : UInt8 := UInt8.ofNat (48 + n)
theorem digC_toNat (n : Nat) (h : n ≤ 9) : ((digC n).toNat : Int) = 48 + (n : Int) := by
  have : ∀ m, m < 10 → ((digC m).toNat : Int) = 48 + (m : Int) := by decide
  exact this n (by omega)
theorem digC_bit (n : Nat) : digC (n % 2) = bitC (n % 2) := by
  rcases Nat.mod_two_eq_zero_or_one n with h | h <;> rw [h] <;> rfl
theorem binL_take (d n j : Nat) (h : j < d) : (binL d n).take (d - j) = (binL d n).take (d - (j + 1)) ++ [bitC (n / 2 ^ j % 2)] := by
  have := binL_at d n (d - (j + 1)) (by omega)
  rw [show d - 1 - (d - (j + 1)) = j by omega] at this
  rw [show d - j = d - (j + 1) + 1 by omega, take_add _ _ _ this]
theorem binL_seq (d n : Nat) (h : 1 ≤ d) (h' : d ≤ 255) : seqB (binL d n) = true := by simp only [seqB, binL_len, binL_bits]; simp; omega
theorem quo_bit (x P : Nat) (hx : x ≤ 1048576) : (wrap64 ((x : Int) / (P : Int))).tmod 2 = ((x / P % 2 : Nat) : Int) := by
  have h := Nat.div_le_self x P
  rw [show (x : Int) / (P : Int) = ((x / P : Nat) : Int) by simp]
  generalize x / P = q at *
  rw [IntWalk.wrap64_in _ ⟨by omega, by omega⟩, Int.tmod_eq_emod_of_nonneg (by omega)]
  omega

end Go.Proofs.Ytkebiigpfbconaa
