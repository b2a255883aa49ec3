/- Plain functions on lists and numbers that the program and the reference compute, and facts on them. Conditions: none. No program in sight. -/
import Derived.WalkKit
import Derived.Lib.Strings
namespace Go.Proofs.Ytkebiigpfbconaa
set_option linter.unusedSimpArgs false
set_option linter.unusedVariables false

/-! bits -/
def isBit (c : UInt8) : Bool := c == 48 || c == 49
def bitsB (l : List UInt8) : Bool := decide (l.length ≤ 600) && l.all isBit
def seqB (l : List UInt8) : Bool := decide (1 ≤ l.length) && decide (l.length ≤ 255) && l.all isBit
def pathB (l : List UInt8) : Bool := decide (l.length ≤ 6) && l.all isBit

theorem bit_cases (c : UInt8) : (((c.toNat : Int) != 48) = false ∧ RowKit.Hid (c = 48)) ∨ (((c.toNat : Int) != 48) = true ∧ ((c.toNat : Int) != 49) = false ∧ RowKit.Hid (c = 49)) ∨
    (((c.toNat : Int) != 48) = true ∧ ((c.toNat : Int) != 49) = true ∧ RowKit.Hid (isBit c = false)) := by
  by_cases h : c = 48
  · subst h; exact .inl ⟨by decide, rfl⟩
  · by_cases h' : c = 49
    · subst h'; exact .inr (.inl ⟨by decide, by decide, rfl⟩)
    · have n1 : c.toNat ≠ 48 := fun e => h (UInt8.toNat_inj.1 (by simpa using e))
      have n2 : c.toNat ≠ 49 := fun e => h' (UInt8.toNat_inj.1 (by simpa using e))
      refine .inr (.inr ⟨by simp; omega, by simp; omega, ?_⟩)
      show isBit c = false
      simp [isBit, h, h']
theorem bitsB_long (l : List UInt8) (h : 600 < l.length) : bitsB l = false := by
  unfold bitsB; rw [decide_eq_false (by omega)]; rfl
theorem take_snoc (s : ByteArray) (k : Nat) (h : k < s.size) : s.data.toList.take (k + 1) = s.data.toList.take k ++ [s[k]] := by
  rw [List.take_succ_eq_append_getElem (by simpa using h)]; rfl
theorem all_snoc (s : ByteArray) (k : Nat) (h : k < s.size) (p : UInt8 → Bool) (ha : (s.data.toList.take k).all p = true) (hp : p s[k] = true) : (s.data.toList.take (k + 1)).all p = true := by
  rw [take_snoc s k h, List.all_append, ha]; simp [hp]
theorem all_false (s : ByteArray) (k : Nat) (h : k < s.size) (p : UInt8 → Bool) (hp : p s[k] = false) : s.data.toList.all p = false := by
  rw [List.all_eq_false]
  exact ⟨s[k], by rw [Array.mem_toList_iff]; exact Array.getElem_mem _, by simp [hp]⟩
theorem all_take (s : ByteArray) (k : Nat) (h : ¬ k < s.size) (p : UInt8 → Bool) (ha : (s.data.toList.take k).all p = true) : s.data.toList.all p = true := by
  rwa [List.take_of_length_le (by simp; omega)] at ha
theorem bitsB_all (s : ByteArray) (h : s.data.toList.all isBit = true) : bitsB s.data.toList = decide ((s.size : Int) ≤ 600) := by
  unfold bitsB; rw [h, Bool.and_true]; exact decide_eq_decide.2 (by simp; omega)
theorem pathB_of_bits (s : ByteArray) (h : s.size ≤ 6) : bitsB s.data.toList = pathB s.data.toList := by
  unfold bitsB pathB
  rw [show s.data.toList.length = s.size by simp, decide_eq_true h, decide_eq_true (show s.size ≤ 600 by omega)]
theorem pathB_no (s : ByteArray) (h : ¬ s.size ≤ 6) : pathB s.data.toList = false := by
  unfold pathB
  rw [show s.data.toList.length = s.size by simp, decide_eq_false h]; rfl
theorem pathB_bits_no (s : ByteArray) (h : bitsB s.data.toList = false) : pathB s.data.toList = false := by
  by_cases h1 : s.size ≤ 6
  · rw [← pathB_of_bits s h1, h]
  · exact pathB_no s h1
theorem pathB_bits_yes (s : ByteArray) (h : bitsB s.data.toList = true) : decide ((s.size : Int) ≤ 6) = pathB s.data.toList := by
  by_cases h1 : s.size ≤ 6
  · rw [← pathB_of_bits s h1, h]; simp; omega
  · rw [pathB_no s h1]; simp; omega
theorem len_data0 (s : ByteArray) : s.data.toList.length = s.size := by simp
theorem seqB_of_bits (s : ByteArray) (h1 : 1 ≤ s.size) (h2 : s.size ≤ 255) : bitsB s.data.toList = seqB s.data.toList := by
  unfold bitsB seqB
  rw [len_data0, decide_eq_true h1, decide_eq_true h2, decide_eq_true (show s.size ≤ 600 by omega)]; rfl
theorem seqB_no (s : ByteArray) (h : ¬ (1 ≤ s.size ∧ s.size ≤ 255)) : seqB s.data.toList = false := by
  unfold seqB
  rw [len_data0, ← Bool.decide_and, decide_eq_false h]; rfl
theorem seqB_bits_no (s : ByteArray) (h : bitsB s.data.toList = false) : seqB s.data.toList = false := by
  by_cases h1 : 1 ≤ s.size ∧ s.size ≤ 255
  · rw [← seqB_of_bits s h1.1 h1.2, h]
  · exact seqB_no s h1
theorem len_data (s : ByteArray) : s.data.toList.length = s.size := by simp

def within (lo hi : Int) (z : Int) : Bool := decide (lo ≤ z) && decide (z ≤ hi)
def sigB (zs : List Int) : Bool := decide (zs.length ≤ 3000) && zs.all (within (-1000000) 1000000)

theorem seqB_bits_yes (s : ByteArray) (h : bitsB s.data.toList = true) : within 1 255 (s.size : Int) = seqB s.data.toList := by
  by_cases h1 : 1 ≤ s.size ∧ s.size ≤ 255
  · rw [← seqB_of_bits s h1.1 h1.2, h]; unfold within; simp; omega
  · rw [seqB_no s h1]; unfold within; rw [Bool.eq_false_iff]; simp; omega

/-! powers of two -/
def two (a : Int) : Int := 2 ^ a.toNat
theorem two_pos (a : Int) : 1 ≤ two a := by
  unfold two; have : 0 < (2 : Int) ^ a.toNat := Int.pow_pos (by decide); omega
theorem two_le (a b : Int) (h : a ≤ b) : two a ≤ two b := by
  unfold two
  have : (2 : Nat) ^ a.toNat ≤ 2 ^ b.toNat := Nat.pow_le_pow_right (by decide) (by omega)
  exact_mod_cast this
theorem two_small (a : Int) (h : a ≤ 40) : two a ≤ 1099511627776 := two_le a 40 h
theorem two_8 (a : Int) (h : a ≤ 8) : two a ≤ 256 := two_le a 8 h
theorem two_6 (a : Int) (h : a ≤ 6) : two a ≤ 64 := two_le a 6 h

/-! bits of numbers -/
theorem bv_i64 (a : Nat) (ha : a < 9223372036854775808) : (BitVec.ofInt 64 (a : Int)).toNat = a := by
  rw [BitVec.ofInt_natCast, BitVec.toNat_ofNat]; exact Nat.mod_eq_of_lt (by omega)
theorem and_i64 (a b : Nat) (ha : a < 9223372036854775808) (hb : b < 9223372036854775808) : bits .and .i64 (a : Int) (b : Int) = ((a &&& b : Nat) : Int) := by
  have hx : a &&& b < 2 ^ 63 := Nat.and_lt_two_pow _ (by omega)
  show IntKind.i64.wrap ((BitVec.ofInt 64 (a : Int) &&& BitVec.ofInt 64 (b : Int)).toNat : Int) = _
  rw [BitVec.toNat_and, bv_i64 a ha, bv_i64 b hb, IntKind.wrap_i64]; omega
theorem or_i64 (a b : Nat) (ha : a < 9223372036854775808) (hb : b < 9223372036854775808) : bits .or .i64 (a : Int) (b : Int) = ((a ||| b : Nat) : Int) := by
  have hx : a ||| b < 2 ^ 63 := Nat.or_lt_two_pow (by omega) (by omega)
  show IntKind.i64.wrap ((BitVec.ofInt 64 (a : Int) ||| BitVec.ofInt 64 (b : Int)).toNat : Int) = _
  rw [BitVec.toNat_or, bv_i64 a ha, bv_i64 b hb, IntKind.wrap_i64]; omega
theorem xor_i64 (a b : Nat) (ha : a < 9223372036854775808) (hb : b < 9223372036854775808) : bits .xor .i64 (a : Int) (b : Int) = ((a ^^^ b : Nat) : Int) := by
  have hx : a ^^^ b < 2 ^ 63 := Nat.xor_lt_two_pow (by omega) (by omega)
  show IntKind.i64.wrap ((BitVec.ofInt 64 (a : Int) ^^^ BitVec.ofInt 64 (b : Int)).toNat : Int) = _
  rw [BitVec.toNat_xor, bv_i64 a ha, bv_i64 b hb, IntKind.wrap_i64]; omega
theorem and1_i64 (a : Nat) (ha : a < 9223372036854775808) : bits .and .i64 (a : Int) 1 = ((a % 2 : Nat) : Int) := by
  rw [show (1 : Int) = ((1 : Nat) : Int) from rfl, and_i64 a 1 ha (by decide), Nat.and_one_is_mod]
theorem xor01 (r q : Nat) (hr : r ≤ 1) (hq : q ≤ 1) : r ^^^ q = (r + q) % 2 := by
  have h1 : r = 0 ∨ r = 1 := by omega
  have h2 : q = 0 ∨ q = 1 := by omega
  rcases h1 with rfl | rfl <;> rcases h2 with rfl | rfl <;> rfl
theorem xor01_i64 (r q : Nat) (hr : r ≤ 1) (hq : q ≤ 1) : bits .xor .i64 (r : Int) (q : Int) = (((r + q) % 2 : Nat) : Int) := by
  rw [xor_i64 r q (by omega) (by omega), xor01 r q hr hq]

/-- The sum of the binary digits, modulo 2. -/
def par (n : Nat) : Nat := if n = 0 then 0 else (n % 2 + par (n / 2)) % 2
theorem par_zero : par 0 = 0 := by rw [par]; simp
theorem par_step (n : Nat) : par n = (n % 2 + par (n / 2)) % 2 := by
  by_cases h : n = 0
  · subst h; simp [par_zero]
  · rw [par]; simp [h]
theorem par_le (n : Nat) : par n ≤ 1 := by
  rw [par]; split <;> omega

def goldB (a : Int) : Int := if 2 ≤ a ∧ a ≤ 8 then 1 + two ((a + 2) / 2) else -1

/-! beginnings -/
def hasPre (s t : List UInt8) : Bool := decide (t.length ≤ s.length) && (s.take t.length == t)
def conflB (p q : List UInt8) : Bool := p.take (min p.length q.length) == q.take (min p.length q.length)
theorem confl_le (p q : List UInt8) (h : q.length ≤ p.length) : conflB p q = (p.take q.length == q) := by
  unfold conflB; rw [Nat.min_eq_right h, List.take_length]
theorem confl_ge (p q : List UInt8) (h : p.length ≤ q.length) : conflB p q = (p == q.take p.length) := by
  unfold conflB; rw [Nat.min_eq_left h, List.take_length]
theorem beq_swap (a b : List UInt8) : (a == b) = (b == a) := by
  rw [Bool.eq_iff_iff, beq_iff_eq, beq_iff_eq]; exact eq_comm
theorem confl_hasPre (p q : List UInt8) : (hasPre p q || hasPre q p) = conflB p q := by
  unfold hasPre
  by_cases h : q.length ≤ p.length
  · rw [confl_le p q h, decide_eq_true h, Bool.true_and]
    by_cases h' : p.length ≤ q.length
    · have e : p.length = q.length := by omega
      rw [decide_eq_true h', Bool.true_and, ← e, List.take_length, e, List.take_length, beq_swap q p, Bool.or_self]
    · rw [decide_eq_false h', Bool.false_and, Bool.or_false]
  · rw [confl_ge p q (by omega), decide_eq_false h, Bool.false_and, Bool.false_or, decide_eq_true (by omega), Bool.true_and, beq_swap]
theorem confl_symm (p q : List UInt8) : conflB p q = conflB q p := by
  rw [← confl_hasPre, ← confl_hasPre, Bool.or_comm]
theorem extract0_list (s : ByteArray) (n : Nat) : (s.extract 0 n).toList = s.data.toList.take n := by
  rw [Lib.extract_toList]; simp

def treeConfB (p q : List UInt8) : Bool := pathB p && pathB q && conflB p q
theorem treeConf_cases (p q : List UInt8) : (pathB p = false ∧ treeConfB p q = false) ∨ (pathB p = true ∧ pathB q = false ∧ treeConfB p q = false) ∨
    (pathB p = true ∧ pathB q = true ∧ hasPre p q = true ∧ treeConfB p q = true) ∨ (pathB p = true ∧ pathB q = true ∧ hasPre p q = false ∧ treeConfB p q = hasPre q p) := by
  unfold treeConfB
  rw [← confl_hasPre]
  cases pathB p <;> cases pathB q <;> cases hasPre p q <;> simp
theorem treeConf_cases' (p q : List UInt8) : (pathB p = false ∧ treeConfB p q = false) ∨ (pathB p = true ∧ pathB q = false ∧ treeConfB p q = false) ∨
    (pathB p = true ∧ pathB q = true ∧ treeConfB p q = conflB p q) := by
  unfold treeConfB
  cases pathB p <;> cases pathB q <;> simp

/-! Walsh codes -/
def bitC (n : Nat) : UInt8 := if n = 0 then 48 else 49
def walshL (n i : Nat) : List UInt8 := (List.range n).map fun k => bitC (par (i &&& k))
theorem walsh_len (n i : Nat) : (walshL n i).length = n := by simp [walshL]
theorem walsh_at (n i k : Nat) (h : k < n) : (walshL n i)[k]? = some (bitC (par (i &&& k))) := by simp [walshL, h]
def walshC (o i : Int) : List UInt8 × Bool := if within 0 6 o = true ∧ within 0 (two o - 1) i = true then (walshL (two o).toNat i.toNat, true) else ([], false)
theorem bitC_par (m : Nat) : ((bitC (par m)).toNat : Int) = 48 + (par m : Nat) := by
  have := par_le m
  have h : par m = 0 ∨ par m = 1 := by omega
  rcases h with h | h <;> rw [h] <;> rfl

/-! counting and adding up to a number -/
def cnt (p : Nat → Bool) : Nat → Nat
  | 0 => 0
  | k + 1 => cnt p k + (if p k = true then 1 else 0)
theorem cnt_le (p : Nat → Bool) (k : Nat) : cnt p k ≤ k := by
  induction k with
  | zero => exact Nat.le_refl _
  | succ k ih => unfold cnt; split <;> omega
theorem cnt_yes (p : Nat → Bool) (k : Nat) (h : p k = true) : cnt p (k + 1) = cnt p k + 1 := by show cnt p k + _ = _; rw [if_pos h]
theorem cnt_no (p : Nat → Bool) (k : Nat) (h : p k = false) : cnt p (k + 1) = cnt p k := by show cnt p k + _ = _; rw [if_neg (by simp [h])]; rfl
def sumTo (f : Nat → Int) : Nat → Int
  | 0 => 0
  | k + 1 => sumTo f k + f k
theorem sumTo_succ (f : Nat → Int) (k : Nat) : sumTo f (k + 1) = sumTo f k + f k := rfl
theorem sumTo_bd (f : Nat → Int) (B : Int) (k : Nat) (h : ∀ i, i < k → -B ≤ f i ∧ f i ≤ B) : -(k * B) ≤ sumTo f k ∧ sumTo f k ≤ k * B := by
  induction k with
  | zero => simp [sumTo]
  | succ k ih =>
    have h1 := ih fun i hi => h i (by omega)
    have h2 := h k (by omega)
    have h3 : ((k + 1 : Nat) : Int) * B = k * B + B := by rw [Int.natCast_add, Int.add_mul]; simp
    rw [sumTo_succ, h3]; omega

theorem byte_cases (a b : UInt8) : (((a.toNat : Int) != (b.toNat : Int)) = false ∧ RowKit.Hid (a = b)) ∨ (((a.toNat : Int) != (b.toNat : Int)) = true ∧ RowKit.Hid (a ≠ b)) := by
  by_cases h : a = b
  · subst h; exact .inl ⟨by simp, rfl⟩
  · refine .inr ⟨?_, h⟩
    have : a.toNat ≠ b.toNat := fun e => h (UInt8.toNat_inj.1 e)
    simp; omega
theorem data_at (s : ByteArray) (k : Nat) (h : k < s.size) : s.data.toList[k]? = some s[k] := by
  rw [List.getElem?_eq_getElem (by simpa using h)]; rfl
/-- In how many places two lists differ. -/
def hamm (a b : List UInt8) : Nat := cnt (fun i => a[i]? != b[i]?) a.length
def errsOf (a b : List UInt8) : Int := if bitsB a = true ∧ bitsB b = true ∧ a.length = b.length then (hamm a b : Int) else -1
theorem differ_at (s t : ByteArray) (k : Nat) (h : k < s.size) (h' : k < t.size) : (s.data.toList[k]? != t.data.toList[k]?) = (s[k] != t[k]) := by
  rw [data_at s k h, data_at t k h']; rfl

def userB (c d : List UInt8) (g l : Int) : Bool := seqB c && bitsB d && within 0 1000 g && within 0 1000 l && decide ((d.length : Int) * c.length + l ≤ 3000)

/-! signals -/
theorem sig_at (zs : List Int) (k : Nat) (x : Int) (h : ∀ z ∈ zs, -1000000 ≤ z ∧ z ≤ 1000000) (hx : zs[k]? = some x) : -1000000 ≤ x ∧ x ≤ 1000000 := h x (List.mem_of_getElem? hx)
theorem sig_bd (zs : List Int) (h : sigB zs = true) : zs.length ≤ 3000 ∧ ∀ z ∈ zs, -1000000 ≤ z ∧ z ≤ 1000000 := by
  unfold sigB at h
  rw [Bool.and_eq_true, decide_eq_true_eq, List.all_eq_true] at h
  refine ⟨h.1, fun z hz => ?_⟩
  have := h.2 z hz
  unfold within at this
  simpa using this
theorem sq_bd (x : Int) (h1 : -1000000 ≤ x) (h2 : x ≤ 1000000) : 0 ≤ x * x ∧ x * x ≤ 1000000000000 := by
  have a : 0 ≤ (1000000 - x) * (1000000 + x) := Int.mul_nonneg (by omega) (by omega)
  have b : (1000000 - x) * (1000000 + x) = 1000000000000 - x * x := by
    rw [Int.sub_mul, Int.mul_add, Int.mul_add, Int.mul_comm x 1000000]; omega
  have c : 0 ≤ x * x := by
    rcases Int.le_total 0 x with h | h
    · exact Int.mul_nonneg h h
    · exact Int.mul_nonneg_of_nonpos_of_nonpos h h
  omega
theorem energy_bd (zs : List Int) (h : ∀ z ∈ zs, -1000000 ≤ z ∧ z ≤ 1000000) (k : Nat) :
    0 ≤ sumTo (fun i => zs.getD i 0 * zs.getD i 0) k ∧ sumTo (fun i => zs.getD i 0 * zs.getD i 0) k ≤ k * 1000000000000 := by
  have hz : ∀ i, 0 ≤ zs.getD i 0 * zs.getD i 0 ∧ zs.getD i 0 * zs.getD i 0 ≤ 1000000000000 := by
    intro i
    rw [List.getD_eq_getElem?_getD]
    cases hx : zs[i]? with
    | none => simp
    | some x => exact sq_bd x (sig_at zs i x h hx).1 (sig_at zs i x h hx).2
  induction k with
  | zero => simp [sumTo]
  | succ k ih => have := hz k; rw [sumTo_succ]; omega
def energyOf (zs : List Int) : Int := if sigB zs = true then sumTo (fun i => zs.getD i 0 * zs.getD i 0) zs.length else -1

theorem user_cases (c d : List UInt8) (g l : Int) : (seqB c = false ∧ userB c d g l = false) ∨ (seqB c = true ∧ bitsB d = false ∧ userB c d g l = false) ∨
    (seqB c = true ∧ bitsB d = true ∧ g < 0 ∧ userB c d g l = false) ∨ (seqB c = true ∧ bitsB d = true ∧ 0 ≤ g ∧ 1000 < g ∧ userB c d g l = false) ∨
    (seqB c = true ∧ bitsB d = true ∧ 0 ≤ g ∧ g ≤ 1000 ∧ l < 0 ∧ userB c d g l = false) ∨ (seqB c = true ∧ bitsB d = true ∧ 0 ≤ g ∧ g ≤ 1000 ∧ 0 ≤ l ∧ 1000 < l ∧ userB c d g l = false) ∨
    (seqB c = true ∧ bitsB d = true ∧ 0 ≤ g ∧ g ≤ 1000 ∧ 0 ≤ l ∧ l ≤ 1000 ∧ userB c d g l = decide ((d.length : Int) * c.length + l ≤ 3000)) := by
  cases h1 : seqB c
  · exact .inl ⟨rfl, by simp [userB, h1]⟩
  · cases h2 : bitsB d
    · exact .inr (.inl ⟨rfl, rfl, by simp [userB, h1, h2]⟩)
    · by_cases h3 : g < 0
      · exact .inr (.inr (.inl ⟨rfl, rfl, h3, by unfold userB within; rw [decide_eq_false (show ¬ 0 ≤ g by omega)]; simp⟩))
      · by_cases h4 : 1000 < g
        · exact .inr (.inr (.inr (.inl ⟨rfl, rfl, by omega, h4, by unfold userB within; rw [decide_eq_false (show ¬ g ≤ 1000 by omega)]; simp⟩)))
        · by_cases h5 : l < 0
          · exact .inr (.inr (.inr (.inr (.inl ⟨rfl, rfl, by omega, by omega, h5, by unfold userB within; rw [decide_eq_false (show ¬ 0 ≤ l by omega)]; simp⟩))))
          · by_cases h6 : 1000 < l
            · exact .inr (.inr (.inr (.inr (.inr (.inl ⟨rfl, rfl, by omega, by omega, by omega, h6, by unfold userB within; rw [decide_eq_false (show ¬ l ≤ 1000 by omega)]; simp⟩)))))
            · refine .inr (.inr (.inr (.inr (.inr (.inr ⟨rfl, rfl, by omega, by omega, by omega, by omega, ?_⟩)))))
              unfold userB within
              rw [h1, h2, decide_eq_true (show 0 ≤ g by omega), decide_eq_true (show g ≤ 1000 by omega), decide_eq_true (show 0 ≤ l by omega), decide_eq_true (show l ≤ 1000 by omega)]
              simp
theorem user_cases' (c d : List UInt8) (g l : Int) : (seqB c = false ∧ userB c d g l = false) ∨ (seqB c = true ∧ bitsB d = false ∧ userB c d g l = false) ∨
    (seqB c = true ∧ bitsB d = true ∧ within 0 1000 g = false ∧ userB c d g l = false) ∨ (seqB c = true ∧ bitsB d = true ∧ within 0 1000 g = true ∧ within 0 1000 l = false ∧ userB c d g l = false) ∨
    (seqB c = true ∧ bitsB d = true ∧ within 0 1000 g = true ∧ within 0 1000 l = true ∧ (0 ≤ l ∧ l ≤ 1000) ∧ userB c d g l = decide ((d.length : Int) * c.length + l ≤ 3000)) := by
  unfold userB
  have hl : within 0 1000 l = true → 0 ≤ l ∧ l ≤ 1000 := by unfold within; simp
  cases h1 : seqB c <;> cases h2 : bitsB d <;> cases h3 : within 0 1000 g <;> cases h4 : within 0 1000 l <;> simp
  exact hl h4
theorem bitsB_at (s : ByteArray) (h : bitsB s.data.toList = true) : s.data.toList.all isBit = true := by
  unfold bitsB at h
  rw [Bool.and_eq_true] at h
  exact h.2
theorem mul_bd (a b A B : Nat) (ha : a ≤ A) (hb : b ≤ B) : 0 ≤ (a : Int) * (b : Int) ∧ (a : Int) * (b : Int) ≤ ((A * B : Nat) : Int) := by
  have h : a * b ≤ A * B := Nat.mul_le_mul ha hb
  have e : (a : Int) * (b : Int) = ((a * b : Nat) : Int) := by simp
  rw [e]; omega
theorem seqB_bd (s : ByteArray) (h : seqB s.data.toList = true) : 1 ≤ s.size ∧ s.size ≤ 255 := by
  by_cases h1 : 1 ≤ s.size ∧ s.size ≤ 255
  · exact h1
  · rw [seqB_no s h1] at h; cases h
theorem bitsB_bd (s : ByteArray) (h : bitsB s.data.toList = true) : s.size ≤ 600 := by
  unfold bitsB at h
  rw [Bool.and_eq_true, decide_eq_true_eq, len_data] at h
  exact h.1
theorem take_add {α : Type} (l : List α) (k : Nat) (x : α) (hx : l[k]? = some x) : l.take (k + 1) = l.take k ++ [x] := by
  rw [List.take_add_one, hx]; rfl
theorem take_snoc_eq {α : Type} (l m : List α) (k : Nat) (x y : α) (hx : l[k]? = some x) (hy : m[k]? = some y) (h : l.take k = m.take k) (hxy : x = y) : l.take (k + 1) = m.take (k + 1) := by
  rw [take_add l k x hx, take_add m k y hy, h, hxy]
theorem ne_of_at {α : Type} (l m : List α) (k : Nat) (x y : α) (hx : l[k]? = some x) (hy : m[k]? = some y) (hxy : x ≠ y) : l ≠ m := by
  rintro rfl; rw [hx] at hy; exact hxy (by injection hy)
theorem allP_snoc {α : Type} (l : List α) (k : Nat) (p : α → Bool) (x : α) (hx : l[k]? = some x) (ha : (l.take k).all p = true) (hp : p x = true) : (l.take (k + 1)).all p = true := by
  rw [take_add l k x hx, List.all_append, ha]; simp [hp]
theorem allP_false {α : Type} (l : List α) (k : Nat) (p : α → Bool) (x : α) (hx : l[k]? = some x) (hp : p x = false) : l.all p = false := by
  rw [List.all_eq_false]; exact ⟨x, List.mem_of_getElem? hx, by simp [hp]⟩
theorem allP_take {α : Type} (l : List α) (k : Nat) (p : α → Bool) (h : l.length ≤ k) (ha : (l.take k).all p = true) : l.all p = true := by
  rwa [List.take_of_length_le h] at ha

/-! signals that are made out of signals -/
def resC (zs : List Int) : List Int × Bool := if sigB zs = true then (zs, true) else ([], false)
def cutC (zs : List Int) (j k : Int) : List Int × Bool := if sigB zs = true ∧ within 0 zs.length j = true ∧ within 0 (zs.length - j) k = true then ((zs.drop j.toNat).take k.toNat, true) else ([], false)
def clipI (m x : Int) : Int := max (-m) (min m x)
def clipC (zs : List Int) (m : Int) : List Int × Bool := if sigB zs = true ∧ within 0 1000000 m = true then (zs.map (clipI m), true) else ([], false)
def signC (x : Int) : UInt8 := if x < 0 then 49 else 48
def signsC (zs : List Int) : List UInt8 × Bool := if sigB zs = true ∧ zs.length ≤ 600 then (zs.map signC, true) else ([], false)
def chipI (c : UInt8) : Int := if c = 48 then 1 else -1
def chipsC (l : List UInt8) : List Int × Bool := if bitsB l = true then (l.map chipI, true) else ([], false)
def scaleC (zs : List Int) (g : Int) : List Int × Bool := if sigB zs = true ∧ within (-1000000) 1000000 g = true then resC (zs.map (g * ·)) else ([], false)
def delayC (zs : List Int) (k : Int) : List Int × Bool := if sigB zs = true ∧ within 0 3000 k = true then resC (List.replicate k.toNat 0 ++ zs) else ([], false)
def addL (xs ys : List Int) : List Int := (List.range (max xs.length ys.length)).map fun i => xs.getD i 0 + ys.getD i 0
def addC (xs ys : List Int) : List Int × Bool := if sigB xs = true ∧ sigB ys = true then resC (addL xs ys) else ([], false)
theorem within_iff (a b x : Int) : within a b x = true ↔ a ≤ x ∧ x ≤ b := by unfold within; simp
theorem within_no (a b x : Int) (h : ¬ (a ≤ x ∧ x ≤ b)) : within a b x = false := by
  rw [Bool.eq_false_iff]; intro h'; exact h ((within_iff a b x).1 h')
/-- The ways through 'a signal, and a number between two others'. -/
theorem sig_cases {α : Type} (zs : List Int) (a b x : Int) (u v : α) :
    (sigB zs = false ∧ (if sigB zs = true ∧ within a b x = true then u else v) = v) ∨ (sigB zs = true ∧ x < a ∧ within a b x = false ∧ (if sigB zs = true ∧ within a b x = true then u else v) = v) ∨
    (sigB zs = true ∧ a ≤ x ∧ b < x ∧ within a b x = false ∧ (if sigB zs = true ∧ within a b x = true then u else v) = v) ∨
    (sigB zs = true ∧ a ≤ x ∧ x ≤ b ∧ within a b x = true ∧ (if sigB zs = true ∧ within a b x = true then u else v) = u) := by
  cases hs : sigB zs
  · simp
  · by_cases h1 : x < a
    · have hw := within_no a b x (by omega)
      exact .inr (.inl ⟨rfl, h1, hw, by rw [hw]; simp⟩)
    · by_cases h2 : b < x
      · have hw := within_no a b x (by omega)
        exact .inr (.inr (.inl ⟨rfl, by omega, h2, hw, by rw [hw]; simp⟩))
      · have hw := (within_iff a b x).2 ⟨by omega, by omega⟩
        exact .inr (.inr (.inr ⟨rfl, by omega, by omega, hw, by rw [hw]; simp⟩))
theorem mul_abs (g x G X : Int) (hx : -X ≤ x ∧ x ≤ X) (hg : -G ≤ g ∧ g ≤ G) (hG : 0 ≤ G) : -(G * X) ≤ g * x ∧ g * x ≤ G * X := by
  have a : 0 ≤ (G - g) * (X + x) := Int.mul_nonneg (by omega) (by omega)
  have b : 0 ≤ (G + g) * (X - x) := Int.mul_nonneg (by omega) (by omega)
  have c : 0 ≤ (G - g) * (X - x) := Int.mul_nonneg (by omega) (by omega)
  have d : 0 ≤ (G + g) * (X + x) := Int.mul_nonneg (by omega) (by omega)
  rw [Int.sub_mul, Int.mul_add, Int.mul_add] at a
  rw [Int.add_mul, Int.mul_sub, Int.mul_sub] at b
  rw [Int.sub_mul, Int.mul_sub, Int.mul_sub] at c
  rw [Int.add_mul, Int.mul_add, Int.mul_add] at d
  omega
theorem mul_sig (g x : Int) (hx : -1000000 ≤ x ∧ x ≤ 1000000) (hg : -1000000 ≤ g ∧ g ≤ 1000000) : -1000000000000 ≤ g * x ∧ g * x ≤ 1000000000000 := by
  have := mul_abs g x 1000000 1000000 hx hg (by decide); simpa using this
theorem mul_sig' (g x : Int) (hx : -1000000 ≤ x ∧ x ≤ 1000000) (hg : -1000000 ≤ g ∧ g ≤ 1000000) : -1000000000000 ≤ x * g ∧ x * g ≤ 1000000000000 := by
  rw [Int.mul_comm]; exact mul_sig g x hx hg
theorem chipI_bd (c : UInt8) : -1 ≤ chipI c ∧ chipI c ≤ 1 := by unfold chipI; split <;> omega
theorem chip_bit (c : UInt8) (h : isBit c = true) : 1 - 2 * ((c.toNat : Int) - 48) = chipI c := by
  unfold isBit at h
  rw [Bool.or_eq_true, beq_iff_eq, beq_iff_eq] at h
  rcases h with rfl | rfl <;> rfl

theorem cut_cases (zs : List Int) (a b : Int) : (sigB zs = false ∧ cutC zs a b = ([], false)) ∨ (sigB zs = true ∧ a < 0 ∧ cutC zs a b = ([], false)) ∨ (sigB zs = true ∧ 0 ≤ a ∧ (zs.length : Int) < a ∧ cutC zs a b = ([], false)) ∨
    (sigB zs = true ∧ 0 ≤ a ∧ a ≤ (zs.length : Int) ∧ b < 0 ∧ cutC zs a b = ([], false)) ∨ (sigB zs = true ∧ 0 ≤ a ∧ a ≤ (zs.length : Int) ∧ 0 ≤ b ∧ (zs.length : Int) - a < b ∧ cutC zs a b = ([], false)) ∨
    (sigB zs = true ∧ 0 ≤ a ∧ a ≤ (zs.length : Int) ∧ 0 ≤ b ∧ b ≤ (zs.length : Int) - a ∧ cutC zs a b = ((zs.drop a.toNat).take b.toNat, true)) := by
  cases hs : sigB zs
  · exact .inl ⟨rfl, by unfold cutC; rw [hs]; simp⟩
  · by_cases h1 : a < 0
    · exact .inr (.inl ⟨rfl, h1, by unfold cutC; rw [within_no 0 _ a (by omega)]; simp⟩)
    · by_cases h2 : (zs.length : Int) < a
      · exact .inr (.inr (.inl ⟨rfl, by omega, h2, by unfold cutC; rw [within_no 0 _ a (by omega)]; simp⟩))
      · by_cases h3 : b < 0
        · exact .inr (.inr (.inr (.inl ⟨rfl, by omega, by omega, h3, by unfold cutC; rw [within_no 0 _ b (by omega)]; simp⟩)))
        · by_cases h4 : (zs.length : Int) - a < b
          · exact .inr (.inr (.inr (.inr (.inl ⟨rfl, by omega, by omega, by omega, h4, by unfold cutC; rw [within_no 0 _ b (by omega)]; simp⟩))))
          · exact .inr (.inr (.inr (.inr (.inr ⟨rfl, by omega, by omega, by omega, by omega, by
              unfold cutC; rw [hs, (within_iff 0 _ a).2 ⟨by omega, by omega⟩, (within_iff 0 _ b).2 ⟨by omega, by omega⟩]; simp⟩))))
theorem sigB_len (zs : List Int) (h : sigB zs = true) : zs.length ≤ 1048576 := by have := (sig_bd zs h).1; omega
theorem resC_len (zs : List Int) : (resC zs).1.length ≤ 1048576 := by
  unfold resC; split
  · rename_i h; exact sigB_len zs h
  · simp
theorem cutC_len (zs : List Int) (j k : Int) : (cutC zs j k).1.length ≤ 1048576 := by
  unfold cutC; split
  · rename_i h; have := sigB_len zs h.1; simp only [List.length_take, List.length_drop]; omega
  · simp
theorem clipC_len (zs : List Int) (m : Int) : (clipC zs m).1.length ≤ 1048576 := by
  unfold clipC; split
  · rename_i h; have := sigB_len zs h.1; simpa using this
  · simp
theorem scaleC_len (zs : List Int) (m : Int) : (scaleC zs m).1.length ≤ 1048576 := by
  unfold scaleC; split
  · exact resC_len _
  · simp
theorem delayC_len (zs : List Int) (m : Int) : (delayC zs m).1.length ≤ 1048576 := by
  unfold delayC; split
  · exact resC_len _
  · simp
theorem addC_len (xs ys : List Int) : (addC xs ys).1.length ≤ 1048576 := by
  unfold addC; split
  · exact resC_len _
  · simp
theorem chipsC_len (l : List UInt8) : (chipsC l).1.length ≤ 1048576 := by
  unfold chipsC; split
  · rename_i h; unfold bitsB at h; rw [Bool.and_eq_true, decide_eq_true_eq] at h; simp; omega
  · simp

/-! sums of lists -/
def bdI (M : Int) (zs : List Int) : Prop := ∀ z ∈ zs, -M ≤ z ∧ z ≤ M
theorem bdI_getD (M : Int) (zs : List Int) (h : bdI M zs) (hM : 0 ≤ M) (k : Nat) : -M ≤ zs.getD k 0 ∧ zs.getD k 0 ≤ M := by
  rw [List.getD_eq_getElem?_getD]
  cases hx : zs[k]? with
  | none => simp; omega
  | some x => exact h x (List.mem_of_getElem? hx)
theorem bdI_at (M : Int) (zs : List Int) (h : bdI M zs) (k : Nat) (x : Int) (hx : zs[k]? = some x) : -M ≤ x ∧ x ≤ M := h x (List.mem_of_getElem? hx)
theorem sig_bdI (zs : List Int) (h : sigB zs = true) : bdI 1000000000000000 zs := fun z hz => by
  have := (sig_bd zs h).2 z hz; omega
theorem addL_len (xs ys : List Int) : (addL xs ys).length = max xs.length ys.length := by simp [addL]
theorem addL_at (xs ys : List Int) (k : Nat) (h : k < max xs.length ys.length) : (addL xs ys)[k]? = some (xs.getD k 0 + ys.getD k 0) := by simp [addL, h]
/-- A list, filled up with zeros. -/
def padL (N : Nat) (xs : List Int) : List Int := (List.range N).map fun i => xs.getD i 0
theorem padL_len (N : Nat) (xs : List Int) : (padL N xs).length = N := by simp [padL]
theorem padL_at (N : Nat) (xs : List Int) (k : Nat) (h : k < N) : (padL N xs)[k]? = some (xs.getD k 0) := by simp [padL, h]
theorem padL_eq (N : Nat) (xs : List Int) (h : xs.length ≤ N) : padL N xs = xs ++ List.replicate (N - xs.length) 0 := by
  apply List.ext_getElem?
  intro i
  by_cases hi : i < N
  · rw [padL_at N xs i hi, List.getD_eq_getElem?_getD]
    by_cases hx : i < xs.length
    · rw [List.getElem?_append_left hx, List.getElem?_eq_getElem hx]; rfl
    · rw [List.getElem?_append_right (by omega), List.getElem?_eq_none (by omega), List.getElem?_replicate, if_pos (by omega)]; rfl
  · rw [List.getElem?_eq_none (by rw [padL_len]; omega), List.getElem?_eq_none (by simp; omega)]

/-! limits -/
theorem clipC_cases (zs : List Int) (m : Int) : clipC zs m = ([], false) ∨ (sigB zs = true ∧ 0 ≤ m ∧ m ≤ 1000000 ∧ clipC zs m = (zs.map (clipI m), true)) := by
  unfold clipC
  by_cases h : sigB zs = true ∧ within 0 1000000 m = true
  · rw [if_pos h]
    have := (within_iff 0 1000000 m).1 h.2
    exact .inr ⟨h.1, this.1, this.2, rfl⟩
  · rw [if_neg h]; exact .inl rfl
theorem clipI_bd (m x : Int) (h0 : 0 ≤ m) : -m ≤ clipI m x ∧ clipI m x ≤ m := by unfold clipI; omega
theorem clipI_in (m x : Int) (h1 : -m ≤ x) (h2 : x ≤ m) : clipI m x = x := by unfold clipI; omega
theorem clipI_hi (m x : Int) (h0 : 0 ≤ m) (h : m < x) : clipI m x = m := by unfold clipI; omega
theorem clipI_lo (m x : Int) (h0 : 0 ≤ m) (h : x < -m) : clipI m x = -m := by unfold clipI; omega
theorem sigB_mk (zs : List Int) (h1 : zs.length ≤ 3000) (h2 : ∀ z ∈ zs, -1000000 ≤ z ∧ z ≤ 1000000) : sigB zs = true := by
  unfold sigB
  rw [Bool.and_eq_true, decide_eq_true_eq, List.all_eq_true]
  exact ⟨h1, fun z hz => (within_iff _ _ _).2 (h2 z hz)⟩
theorem clip_sig (zs : List Int) (m : Int) (h : sigB zs = true) (h0 : 0 ≤ m) (h1 : m ≤ 1000000) : sigB (zs.map (clipI m)) = true := by
  refine sigB_mk _ (by rw [List.length_map]; exact (sig_bd zs h).1) fun z hz => ?_
  obtain ⟨x, _, rfl⟩ := List.mem_map.1 hz
  have := clipI_bd m x h0; omega
theorem clip_again (zs : List Int) (m : Int) (h : sigB zs = true) (h0 : 0 ≤ m) (h1 : m ≤ 1000000) : clipC (zs.map (clipI m)) m = (zs.map (clipI m), true) := by
  unfold clipC
  rw [if_pos ⟨clip_sig zs m h h0 h1, (within_iff _ _ _).2 ⟨h0, h1⟩⟩, List.map_map]
  congr 1
  apply List.map_congr_left
  intro x _
  have := clipI_bd m x h0
  exact clipI_in m _ this.1 this.2

/-! delays and parts -/
theorem resC_cases (zs : List Int) : resC zs = ([], false) ∨ (sigB zs = true ∧ resC zs = (zs, true)) := by
  unfold resC
  by_cases h : sigB zs = true
  · rw [if_pos h]; exact .inr ⟨h, rfl⟩
  · rw [if_neg h]; exact .inl rfl
theorem delayC_cases (zs : List Int) (k : Int) : delayC zs k = ([], false) ∨ (sigB zs = true ∧ 0 ≤ k ∧ k ≤ 3000 ∧ sigB (List.replicate k.toNat 0 ++ zs) = true ∧ delayC zs k = (List.replicate k.toNat 0 ++ zs, true)) := by
  unfold delayC
  by_cases h : sigB zs = true ∧ within 0 3000 k = true
  · rw [if_pos h]
    have := (within_iff 0 3000 k).1 h.2
    rcases resC_cases (List.replicate k.toNat 0 ++ zs) with h5 | ⟨h5, h6⟩
    · exact .inl h5
    · exact .inr ⟨h.1, this.1, this.2, h5, h6⟩
  · rw [if_neg h]; exact .inl rfl
theorem cutC_ok (zs : List Int) (j k : Nat) (h : sigB zs = true) (hj : j + k ≤ zs.length) : cutC zs j k = ((zs.drop j).take k, true) := by
  unfold cutC
  rw [if_pos ⟨h, (within_iff _ _ _).2 ⟨by omega, by omega⟩, (within_iff _ _ _).2 ⟨by omega, by omega⟩⟩]; rfl
theorem cutC_ways (zs : List Int) (a b : Int) : cutC zs a b = ([], false) ∨ (sigB zs = true ∧ ∃ j k : Nat, a = j ∧ b = k ∧ j + k ≤ zs.length ∧ cutC zs a b = ((zs.drop j).take k, true)) := by
  rcases cut_cases zs a b with ⟨_, h⟩ | ⟨_, _, h⟩ | ⟨_, _, _, h⟩ | ⟨_, _, _, _, h⟩ | ⟨_, _, _, _, _, h⟩ | ⟨h1, h2, h3, h4, h5, h⟩
  iterate 5
    · exact .inl h
  · exact .inr ⟨h1, a.toNat, b.toNat, by omega, by omega, by omega, h⟩
theorem cut_delay_back (s : List Int) (k n : Nat) (h : sigB (List.replicate k 0 ++ s) = true) (hn : s.length = n) : cutC (List.replicate k 0 ++ s) (k : Nat) (n : Nat) = (s, true) := by
  rw [cutC_ok _ k n h (by simp; omega), List.drop_append_of_le_length (by simp), List.drop_eq_nil_of_le (by simp), List.nil_append, List.take_of_length_le (by omega)]
theorem cut_delay_zeros (s : List Int) (k : Nat) (h : sigB (List.replicate k 0 ++ s) = true) : cutC (List.replicate k 0 ++ s) 0 (k : Nat) = (List.replicate k 0, true) := by
  have := cutC_ok (List.replicate k 0 ++ s) 0 k h (by simp)
  rw [show ((0 : Nat) : Int) = 0 from rfl] at this
  rw [this, List.drop_zero, List.take_append_of_le_length (by simp), List.take_of_length_le (by simp)]
theorem cut_first (s : List Int) (j : Nat) (h : sigB s = true) (hj : j ≤ s.length) : cutC s 0 (j : Nat) = (s.take j, true) := by
  have := cutC_ok s 0 j h (by omega)
  rw [show ((0 : Nat) : Int) = 0 from rfl] at this
  rw [this, List.drop_zero]
theorem cut_last (s : List Int) (j k n : Nat) (h : sigB s = true) (hn : s.length = n) (hj : j + k ≤ n) : cutC s ((j : Int) + (k : Int)) ((n : Int) - (j : Int) - (k : Int)) = (s.drop (j + k), true) := by
  have := cutC_ok s (j + k) (n - j - k) h (by omega)
  rw [show ((j : Int) + (k : Int)) = ((j + k : Nat) : Int) by omega, show (n : Int) - (j : Int) - (k : Int) = ((n - j - k : Nat) : Int) by omega, this, List.take_of_length_le (by rw [List.length_drop]; omega)]
theorem cut_join (s : List Int) (j k : Nat) : s.take j ++ (s.drop j).take k ++ s.drop (j + k) = s := by
  rw [List.append_assoc, ← List.drop_drop, List.take_append_drop, List.take_append_drop]
/-- The energy of numbers. -/
def enL : List Int → Int
  | [] => 0
  | z :: r => z * z + enL r
theorem enL_append (a b : List Int) : enL (a ++ b) = enL a + enL b := by
  induction a with
  | nil => simp [enL]
  | cons x a ih => simp [enL, ih]; omega
theorem sumTo_en (zs : List Int) (k : Nat) (hk : k ≤ zs.length) : sumTo (fun i => zs.getD i 0 * zs.getD i 0) k = enL (zs.take k) := by
  induction k with
  | zero => simp [sumTo, enL]
  | succ k ih =>
    have hx : zs[k]? = some zs[k] := List.getElem?_eq_getElem (by omega)
    rw [sumTo_succ, ih (by omega), take_add zs k _ hx, enL_append, List.getD_eq_getElem?_getD, hx]
    simp [enL]
theorem energyOf_en (zs : List Int) (h : sigB zs = true) : energyOf zs = enL zs := by
  unfold energyOf
  rw [if_pos h, sumTo_en zs _ (Nat.le_refl _), List.take_length]
theorem enL_zeros (k : Nat) : enL (List.replicate k 0) = 0 := by
  induction k with
  | zero => rfl
  | succ k ih => rw [List.replicate_succ]; simp [enL, ih]
theorem energy_zeros (k : Nat) (h : k ≤ 3000) : energyOf (List.replicate k 0) = 0 := by
  rw [energyOf_en _ (sigB_mk _ (by simpa using h) (fun z hz => by rw [(List.mem_replicate.1 hz).2]; omega)), enL_zeros]
theorem energy_delay (s : List Int) (k : Nat) (h : sigB (List.replicate k 0 ++ s) = true) (h1 : sigB s = true) : energyOf (List.replicate k 0 ++ s) = energyOf s := by
  rw [energyOf_en _ h, energyOf_en _ h1, enL_append, enL_zeros]; omega
theorem scaleC_ways (s : List Int) (g : Int) : scaleC s g = ([], false) ∨ (sigB s = true ∧ -1000000 ≤ g ∧ g ≤ 1000000 ∧ sigB (s.map (g * ·)) = true ∧ scaleC s g = (s.map (g * ·), true)) := by
  unfold scaleC
  by_cases h : sigB s = true ∧ within (-1000000) 1000000 g = true
  · rw [if_pos h]
    have := (within_iff (-1000000) 1000000 g).1 h.2
    rcases resC_cases (s.map (g * ·)) with h5 | ⟨h5, h6⟩
    · exact .inl h5
    · exact .inr ⟨h.1, this.1, this.2, h5, h6⟩
  · rw [if_neg h]; exact .inl rfl
theorem scale_again (s : List Int) (g m : Int) (h1 : sigB s = true) (h4 : sigB (s.map (g * ·)) = true) (hm1 : -3 ≤ m) (hm2 : m ≤ 3) (hG : -1000000 ≤ g * m ∧ g * m ≤ 1000000) : scaleC (s.map (g * ·)) m = scaleC s (g * m) := by
  unfold scaleC
  rw [if_pos ⟨h4, (within_iff _ _ _).2 ⟨by omega, by omega⟩⟩, if_pos ⟨h1, (within_iff _ _ _).2 hG⟩, List.map_map]
  congr 1
  apply List.map_congr_left
  intro z hz
  show m * (g * z) = g * m * z
  rw [← Int.mul_assoc, Int.mul_comm m g]
theorem scale_out (s : List Int) (g : Int) (hG : ¬ (-1000000 ≤ g ∧ g ≤ 1000000)) : scaleC s g = ([], false) := by
  unfold scaleC
  rw [if_neg (fun h => hG ((within_iff _ _ _).1 h.2))]
theorem enL_scale (g : Int) (s : List Int) : enL (s.map (g * ·)) = g * g * enL s := by
  induction s with
  | nil => simp [enL]
  | cons x s ih =>
    show g * x * (g * x) + enL (s.map (g * ·)) = g * g * (x * x + enL s)
    rw [ih, Int.mul_add]
    congr 1
    rw [Int.mul_assoc, Int.mul_left_comm x g x, ← Int.mul_assoc]
theorem energy_scale (s : List Int) (g : Int) (h1 : sigB s = true) (h4 : sigB (s.map (g * ·)) = true) : g * g * energyOf s = energyOf (s.map (g * ·)) := by
  rw [energyOf_en _ h1, energyOf_en _ h4, enL_scale]
theorem energyOf_bd (s : List Int) (h : sigB s = true) : -1 ≤ energyOf s ∧ energyOf s ≤ 3000000000000000 := by
  obtain ⟨hl, hz⟩ := sig_bd s h
  have := energy_bd s hz s.length
  unfold energyOf
  rw [if_pos h]
  omega

end Go.Proofs.Ytkebiigpfbconaa
