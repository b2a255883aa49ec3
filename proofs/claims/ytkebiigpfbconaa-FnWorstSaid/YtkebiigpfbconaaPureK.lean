/- Sums round a circle; the correlations of two sequences in either order. Conditions: as each theorem says. -/
import Derived.Test.YtkebiigpfbconaaC14
import Derived.Test.YtkebiigpfbconaaPureV
namespace Go.Proofs.Ytkebiigpfbconaa
set_option linter.unusedSimpArgs false
set_option linter.unusedVariables false

theorem sumTo_front (f : Nat → Int) (n : Nat) : sumTo f (n + 1) = f 0 + sumTo (fun i => f (i + 1)) n := by
  induction n with
  | zero => rw [sumTo_succ]; show 0 + f 0 = f 0 + 0; omega
  | succ n ih => rw [sumTo_succ, ih, sumTo_succ]; omega
theorem sumTo_cyc1 (f : Nat → Int) (n : Nat) (h : 0 < n) : sumTo (fun i => f ((i + 1) % n)) n = sumTo f n := by
  obtain ⟨m, rfl⟩ : ∃ m, n = m + 1 := ⟨n - 1, by omega⟩
  rw [sumTo_succ, sumTo_front, Nat.mod_self]
  rw [sumTo_congr (fun i => f ((i + 1) % (m + 1))) (fun i => f (i + 1)) m (fun i hi => by rw [Nat.mod_eq_of_lt (by omega)])]
  omega
theorem sumTo_cyc (f : Nat → Int) (n : Nat) (h : 0 < n) (k : Nat) : sumTo (fun i => f ((i + k) % n)) n = sumTo f n := by
  induction k with
  | zero => exact sumTo_congr _ _ n fun i hi => by rw [Nat.add_zero, Nat.mod_eq_of_lt hi]
  | succ k ih =>
    rw [← ih, ← sumTo_cyc1 (fun i => f ((i + k) % n)) n h]
    refine sumTo_congr _ _ n fun i hi => ?_
    show f ((i + (k + 1)) % n) = f (((i + 1) % n + k) % n)
    rw [Nat.mod_add_mod, show i + (k + 1) = i + 1 + k by omega]
theorem corL_swap (a b : List UInt8) (h : a.length = b.length) (k : Nat) (hk : k < b.length) : corL b a k = corL a b ((b.length - k) % b.length) := by
  unfold corL
  rw [← h, ← sumTo_cyc (fun i => if corP a b ((a.length - k) % a.length) i = true then 1 else -1) a.length (by omega) k]
  refine sumTo_congr _ _ _ fun i hi => ?_
  have he : corP b a k i = corP a b ((a.length - k) % a.length) ((i + k) % a.length) := by
    unfold corP
    rw [← h, show ((i + k) % a.length + (a.length - k) % a.length) % a.length = i by
      rw [← Nat.add_mod, show i + k + (a.length - k) = i + a.length by omega, Nat.add_mod_right, Nat.mod_eq_of_lt hi], Bool.eq_iff_iff, beq_iff_eq, beq_iff_eq]
    exact ⟨Eq.symm, Eq.symm⟩
  show (if corP b a k i = true then (1 : Int) else -1) = if corP a b ((a.length - k) % a.length) ((i + k) % a.length) = true then 1 else -1
  rw [he]
theorem corsL_mem (a b : List UInt8) (z : Int) : z ∈ corsL a b ↔ ∃ k, k < a.length ∧ corL a b k = z := by
  unfold corsL
  rw [List.mem_map]
  constructor
  · rintro ⟨k, hk, rfl⟩; exact ⟨k, List.mem_range.1 hk, rfl⟩
  · rintro ⟨k, hk, rfl⟩; exact ⟨k, List.mem_range.2 hk, rfl⟩
theorem cors_swap (a b : List UInt8) (h : a.length = b.length) (z : Int) (hz : z ∈ corsL a b) : z ∈ corsL b a := by
  obtain ⟨k, hk, rfl⟩ := (corsL_mem a b z).1 hz
  refine (corsL_mem b a _).2 ⟨(a.length - k) % a.length, ?_, ?_⟩
  · rw [h]; exact Nat.mod_lt _ (by omega)
  · exact (corL_swap b a h.symm k hk).symm
theorem pairB_swap (s t : ByteArray) : pairB s t = pairB t s := by
  unfold pairB
  rw [Bool.and_comm (seqB s.data.toList), Bool.eq_iff_iff]
  simp only [Bool.and_eq_true, beq_iff_eq]
  exact ⟨fun h => ⟨h.1, h.2.symm⟩, fun h => ⟨h.1, h.2.symm⟩⟩
theorem vals_swap (s t : ByteArray) : valsL (tabL s t) = valsL (tabL t s) := by
  refine strict_eq _ _ (valsL_ok _).1 (valsL_ok _).1 fun z => ?_
  rw [(valsL_ok _).2, (valsL_ok _).2]
  unfold tabL
  rw [pairB_swap t s]
  cases hp : pairB s t
  · rw [if_neg (by decide), if_neg (by decide)]
  · rw [if_pos rfl, if_pos rfl]
    have hl := (pairB_yes s t hp).2.2.1
    exact ⟨cors_swap _ _ (by rw [len_data, len_data]; exact hl) z, cors_swap _ _ (by rw [len_data, len_data]; exact hl.symm) z⟩

end Go.Proofs.Ytkebiigpfbconaa
