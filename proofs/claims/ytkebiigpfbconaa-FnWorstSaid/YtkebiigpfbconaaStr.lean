/- Lists of strings: what comes in, what the law's own helpers give back. Conditions: as each theorem says. -/
import Derived.Test.YtkebiigpfbconaaLaw
import Derived.SliceStrings
namespace Go.Proofs.Ytkebiigpfbconaa
open Go.RowKit
set_option linter.unusedSimpArgs false
set_option linter.unusedVariables false


/-- In the world w the slice at A reads as the strings ss. -/
def RdS (w : World) (A : Option Addr) (n : Nat) (ss : List ByteArray) : Prop := Rd w A n 1 (ss.map Value.string)
theorem RdS.len {w : World} {A : Option Addr} {n : Nat} {ss : List ByteArray} (h : RdS w A n ss) : ss.length = n := by have := h.1; simpa using this
theorem RdS.at {w : World} {A : Option Addr} {n : Nat} {ss : List ByteArray} (h : RdS w A n ss) {i : Nat} (hi : i < n) :
    ∃ b o x, A = some ⟨b, o, none⟩ ∧ b < w.heap.size ∧ Hid (ss[i]? = some x) ∧ w.cell? ⟨b, o + i, none⟩ = some (.string x) := by
  obtain ⟨b, o, hA, hb, hc⟩ := h.2 (by omega)
  have hl := h.len
  refine ⟨b, o, ss[i], hA, hb, List.getElem?_eq_getElem _, hc i _ ?_⟩
  rw [List.getElem?_map, List.getElem?_eq_getElem (by omega)]; rfl
/-- A slice of strings that came in. -/
def RowStr (w : World) (A : Option Addr) (n c : Nat) (ss : List ByteArray) : Prop := RdS w A n ss ∧ n ≤ c ∧ c ≤ maxLen ∧ ∀ s ∈ ss, s.size ≤ maxLen
theorem rowStr_nil (w : World) : RowStr w none 0 0 [] := ⟨⟨by simp, fun h => absurd h (by omega)⟩, Nat.le_refl _, Nat.zero_le _, by simp⟩
theorem rowStr_mk {w : World} {x : Addr} {l c : Nat} {ss : List ByteArray} (hl : l ≤ c) (hm : c ≤ maxLen) (hz : ss.length = c)
    (hcell : ∀ i, i < ss.length → w.cell? (x.add i) = some (.string (ss.getD i ByteArray.empty))) (hsz : ∀ s ∈ ss, s.size ≤ maxLen) : RowStr w (some x) l c (ss.take l) := by
  refine ⟨⟨by rw [List.length_map, List.length_take]; omega, fun hn => ?_⟩, hl, hm, fun z hz' => hsz z (List.mem_of_mem_take hz')⟩
  obtain ⟨b, o, spot⟩ := x
  have h0 := hcell 0 (by omega)
  have hs : spot = none := by simpa [Addr.add] using World.cell?_spot h0
  subst hs
  refine ⟨b, o, rfl, by simpa [Addr.add] using World.block_lt_of_cell? w _ h0, fun j u hu => ?_⟩
  rw [List.getElem?_map] at hu
  obtain ⟨y, hy, rfl⟩ := Option.map_eq_some_iff.1 hu
  rw [List.getElem?_take] at hy
  split at hy
  · rename_i hj
    have hjl := (List.getElem?_eq_some_iff.1 hy).1
    have := hcell j hjl
    have e : (⟨b, o, none⟩ : Addr).add j = ⟨b, o + j, none⟩ := by unfold Addr.add; split <;> simp_all
    rw [e] at this
    rw [this, List.getD_eq_getElem?_getD, hy]; rfl
  · cases hy
/-- The call gave back a new list of the strings ss. -/
def RetS (E : TypeId) (ss : List ByteArray) (w : World) (e : Ending) (w' : World) : Prop :=
  ∃ A n c, e = .returned (.slice A n c) ∧ w'.ownsRow w.heap.size E 1 (.slice A n c) n (ss.map Value.string) ∧ Below w.heap.size w w'
theorem own_rdS {w : World} {base E n c : Nat} {A : Option Addr} {ss : List ByteArray} (h : w.ownsRow base E 1 (.slice A n c) n (ss.map Value.string)) : RdS w A n ss := own_rd h
theorem str_ne {s t : ByteArray} (h : s ≠ t) : (s.toList == t.toList) = false := by
  rw [beq_eq_false_iff_ne]
  intro e
  rw [ByteArray.toList_eq, ByteArray.toList_eq] at e
  exact h (str_eq e rfl)


end Go.Proofs.Ytkebiigpfbconaa
