/- What the functions on free paths give back, in the program and in the reference. Conditions: as each theorem says. -/
import Derived.Test.YtkebiigpfbconaaC5
import Derived.Test.YtkebiigpfbconaaStr
import Derived.WalkMore
namespace Go.Proofs.Ytkebiigpfbconaa
open Go.RowKit
set_option linter.unusedSimpArgs false
set_option linter.unusedVariables false

def lists (ss : List ByteArray) : List (List UInt8) := ss.map fun s => s.data.toList
def ofL (l : List UInt8) : ByteArray := ⟨l.toArray⟩
theorem ofL_list (l : List UInt8) : (ofL l).data.toList = l := by simp [ofL]
theorem eq_ofL {t : ByteArray} {l : List UInt8} (h : t.data.toList = l) : t = ofL l := str_eq h (ofL_list l)
theorem lists_len (ss : List ByteArray) : (lists ss).length = ss.length := by simp [lists]
theorem lists_at (ss : List ByteArray) (k : Nat) (s : ByteArray) (h : ss[k]? = some s) : (lists ss)[k]? = some s.data.toList := by simp [lists, h]
theorem usedB_path (us : List (List UInt8)) (d : Int) (k : Nat) (p : List UInt8) (hp : us[k]? = some p) (h : pathB p = false) : usedB us d = false := by
  unfold usedB; rw [allP_false us k pathB p hp h, Bool.and_false]
theorem usedB_all (us : List (List UInt8)) (d : Int) (h : us.all pathB = true) : usedB us d = (within 0 6 d && decide (us.length ≤ 70)) := by
  unfold usedB; rw [h, Bool.and_true]
theorem usedB_out (us : List (List UInt8)) (d : Int) (h : ¬ (us.length ≤ 70 ∧ 0 ≤ d ∧ d ≤ 6)) : usedB us d = false := by
  unfold usedB
  by_cases h1 : us.length ≤ 70
  · rw [within_no 0 6 d (fun h2 => h ⟨h1, h2⟩)]; simp
  · rw [decide_eq_false h1]; simp
theorem usedB_yes (us : List (List UInt8)) (d : Int) (h : usedB us d = true) : us.length ≤ 70 ∧ 0 ≤ d ∧ d ≤ 6 ∧ us.all pathB = true := by
  unfold usedB at h
  simp only [Bool.and_eq_true, decide_eq_true_eq] at h
  have := (within_iff _ _ _).1 h.1.1
  exact ⟨h.1.2, this.1, this.2, h.2⟩


/-- The call gave back a new list of the strings ss, and b. -/
def RetSB (E : TypeId) (ss : List ByteArray) (b : Bool) (w : World) (e : Ending) (w' : World) : Prop :=
  ∃ A n c, e = .returned (.tuple #[.slice A n c, .bool b]) ∧ w'.ownsRow w.heap.size E 1 (.slice A n c) n (ss.map Value.string) ∧ Below w.heap.size w w'
theorem retSB_nil (E : TypeId) (w : World) : RetSB E [] false w (.returned (.tuple #[.slice none 0 0, .bool false])) w := ⟨none, 0, 0, rfl, World.ownsRow_nil _ _ _ _, Below.refl _ _⟩
theorem treeConf_paths (p q : List UInt8) (h : pathB p = true) (h' : pathB q = true) : treeConfB p q = conflB p q := by unfold treeConfB; rw [h, h']; rfl
def freeP (us : List (List UInt8)) (d : Int) : List (List UInt8) := if usedB us d = true then freeL us d.toNat else []

theorem freeC_no (us : List (List UInt8)) (d : Int) (h : usedB us d = false) : freeC us d = -1 := by unfold freeC; rw [h]; rfl
theorem freeC_yes (us : List (List UInt8)) (d : Int) (h : usedB us d = true) : freeC us d = ((freeL us d.toNat).length : Int) := by unfold freeC; rw [h]; rfl
theorem freeP_no (us : List (List UInt8)) (d : Int) (h : usedB us d = false) : freeP us d = [] := by unfold freeP; rw [h]; rfl
theorem freeP_yes (us : List (List UInt8)) (d : Int) (h : usedB us d = true) : freeP us d = freeL us d.toNat := by unfold freeP; rw [h]; rfl
theorem allocC_no (us : List (List UInt8)) (d : Int) (h : usedB us d = false) : allocC us d = ([], false) := by unfold allocC; rw [h]; rfl
theorem allocC_nil (us : List (List UInt8)) (d : Int) (h : usedB us d = true) (hl : freeL us d.toNat = []) : allocC us d = ([], false) := by unfold allocC; rw [h, hl]; rfl
theorem allocC_cons (us : List (List UInt8)) (d : Int) (p : List UInt8) (r : List (List UInt8)) (h : usedB us d = true) (hl : freeL us d.toNat = p :: r) : allocC us d = (p, true) := by unfold allocC; rw [h, hl]; rfl
theorem ownS_len {w : World} {base E n c : Nat} {A : Option Addr} {ls : List (List UInt8)} (h : w.ownsRow base E 1 (.slice A n c) n ((ls.map ofL).map Value.string)) : ls.length = n := by
  have := h.1
  simpa using this

end Go.Proofs.Ytkebiigpfbconaa
