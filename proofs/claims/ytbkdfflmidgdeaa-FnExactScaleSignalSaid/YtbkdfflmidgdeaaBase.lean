/- Words on memory that all the walks of this seat share: a slice that reads as a list, a row of the call's own, results that are strings or slices. Conditions: none. -/
import Derived.WalkKit
import Derived.WalkSpells
import Derived.WalkLawsBesides
import Derived.Lib.Hide
import Derived.Below
import Derived.Laws.OwnMore
import Derived.Deep.Draws
import Derived.Deep.QuietTactic
import Derived.BigQuiet
import Derived.Deep.OwnRows
import Derived.Laws.IdiomStrings
namespace Go.Proofs.Ytbkdfflmidgdeaa
open Go.RowKit
set_option linter.unusedSimpArgs false
set_option linter.unusedVariables false

/-- In the world w the slice of n elements of s cells each at A reads as the cells xs. -/
def Rd (w : World) (A : Option Addr) (n s : Nat) (xs : List Value) : Prop :=
  xs.length = n * s ∧ (0 < n → ∃ b o, A = some ⟨b, o, none⟩ ∧ b < w.heap.size ∧ ∀ j u, xs[j]? = some u → w.cell? ⟨b, o + j, none⟩ = some u)

/-- The same for numbers of the kind k. -/
def RdI (k : IntKind) (w : World) (A : Option Addr) (n : Nat) (zs : List Int) : Prop := Rd w A n 1 (zs.map (Value.int k))

theorem RdI.len {k : IntKind} {w : World} {A : Option Addr} {n : Nat} {zs : List Int} (h : RdI k w A n zs) : zs.length = n := by
  have := h.1; simpa using this

theorem RdI.at {k : IntKind} {w : World} {A : Option Addr} {n : Nat} {zs : List Int} (h : RdI k w A n zs) {i : Nat} (hi : i < n) :
    ∃ b o x, A = some ⟨b, o, none⟩ ∧ b < w.heap.size ∧ Hid (zs[i]? = some x) ∧ w.cell? ⟨b, o + i, none⟩ = some (.int k x) := by
  obtain ⟨b, o, hA, hb, hc⟩ := h.2 (by omega)
  have hl := h.len
  refine ⟨b, o, zs[i], hA, hb, List.getElem?_eq_getElem _, hc i _ ?_⟩
  rw [List.getElem?_map, List.getElem?_eq_getElem (by omega)]; rfl

/-- A slice of numbers that came in: it reads as zs, it fits. -/
def RowIn (k : IntKind) (w : World) (A : Option Addr) (n c : Nat) (zs : List Int) : Prop := RdI k w A n zs ∧ n ≤ c ∧ c ≤ maxLen ∧ ∀ z ∈ zs, (Lit.int k z).wf = true

theorem Rd.below {w w' : World} {A : Option Addr} {n s : Nat} {xs : List Value} (h : Rd w A n s xs) (hb : Below w.heap.size w w') : Rd w' A n s xs :=
  ⟨h.1, fun hn => by
    obtain ⟨b, o, hA, hlt, hc⟩ := h.2 hn
    exact ⟨b, o, hA, Nat.lt_of_lt_of_le hlt hb.size, fun j u hu => (hb.cell (p := ⟨b, o + j, none⟩) hlt).trans (hc j u hu)⟩⟩

theorem ret_bool {a b : Bool} (h : a = b) : Ending.returned (.bool a) = .returned (.bool b) := by rw [h]
theorem ret_int {k : IntKind} {a b : Int} (h : a = b) : Ending.returned (.int k a) = .returned (.int k b) := by rw [h]

/-! a row that is filled from its head on -/
def Fill (ys : List Value) (z : Value) (k : Nat) : List Value := ys.take k ++ List.replicate (ys.length - k) z
theorem fill_zero (ys : List Value) (z : Value) : Fill ys z 0 = List.replicate ys.length z := by simp [Fill]
theorem fill_full (ys : List Value) (z : Value) (k : Nat) (h : ys.length ≤ k) : Fill ys z k = ys := by
  unfold Fill; rw [List.take_of_length_le h, Nat.sub_eq_zero_of_le h]; simp
theorem fill_len (ys : List Value) (z : Value) (k : Nat) (h : k ≤ ys.length) : (Fill ys z k).length = ys.length := by
  unfold Fill; rw [List.length_append, List.length_take, List.length_replicate]; omega
theorem fill_set (ys : List Value) (z : Value) (k : Nat) (u : Value) (h : ys[k]? = some u) : (Fill ys z k).set k u = Fill ys z (k + 1) := by
  have hk : k < ys.length := (List.getElem?_eq_some_iff.1 h).1
  unfold Fill
  rw [List.set_append_right _ _ (by simp; omega), List.length_take, Nat.min_eq_left (by omega), Nat.sub_self]
  obtain ⟨m, hm⟩ : ∃ m, ys.length - k = m + 1 := ⟨ys.length - k - 1, by omega⟩
  rw [hm, List.replicate_succ, List.set_cons_zero, List.take_add_one, h, show ys.length - (k + 1) = m by omega]
  simp
theorem fill_at (ys : List Value) (z : Value) (k : Nat) (h : k < ys.length) : (Fill ys z k)[k]? = some z := by
  unfold Fill
  rw [List.getElem?_append_right (by simp; omega), List.length_take, Nat.min_eq_left (by omega), Nat.sub_self]
  rw [List.getElem?_replicate, if_pos (by omega)]

def bytes (l : List UInt8) : List Value := l.map fun b => Value.int .u8 (b.toNat : Int)
theorem bytes_len (l : List UInt8) : (bytes l).length = l.length := by simp [bytes]
theorem bytes_at (l : List UInt8) (k : Nat) (c : UInt8) (h : l[k]? = some c) : (bytes l)[k]? = some (.int .u8 (c.toNat : Int)) := by simp [bytes, h]

/-- A row of bytes of the call's own, as a string. -/
theorem own_string {P : Program} {w : World} {base e src dst n c : Nat} {A : Option Addr} (l : List UInt8) (hs : P.underlying src = some (.slice e)) (he : P.underlying e = some (.int .u8)) (hd : P.underlying dst = some .string)
    (h : w.ownsRow base e 1 (.slice A n c) n (bytes l)) : (convert src dst (.slice A n c)).run P w = .ok (.string ⟨l.toArray⟩) w := by
  have hl : l.length = n := by have := h.1; rw [bytes_len] at this; omega
  rcases h.2 with ⟨hv, h0⟩ | ⟨g, cap, cur, hv, _⟩
  · injection hv with h1 h2 h3
    subst h1; subst h0
    obtain rfl : l = [] := List.eq_nil_of_length_eq_zero hl
    rw [run_convert_bytes_string w src dst e _ _ _ hs he hd]
    simp [Conv.bytesToString]
    rfl
  · injection hv with h1 h2 h3
    subst h1; subst hl
    refine run_convert_bytes_back w src dst e ⟨g, 0, none⟩ c l hs he hd fun j hj => ?_
    exact h.cells (g := g) rfl j _ (bytes_at l j _ (List.getElem?_eq_getElem hj))

/-- A new row of n zeros. -/
theorem own_made (w : World) (z : Value) (n e : Nat) (h : n ≤ maxLen) : (w.alloc (.cells (madeCells #[z] n) e)).ownsRow w.heap.size e 1 (.slice (some ⟨w.heap.size, 0, none⟩) n n) n (List.replicate n z) := by
  have := World.ownsRow_lit (base := w.heap.size) (e := e) (size := 1) w (madeCells #[z] n) n (Nat.le_refl _) h (by rw [size_madeCells]; omega)
  rwa [toList_madeCells_one] at this

/-- The call gave back a string of the bytes l, and nothing that was there has turned. -/
def RetStr (l : List UInt8) (w : World) (e : Ending) (w' : World) : Prop := ∃ t : ByteArray, e = .returned (.string t) ∧ t.data.toList = l ∧ Below w.heap.size w w'

/-- The same beside a bool. -/
def RetStrB (l : List UInt8) (b : Bool) (w : World) (e : Ending) (w' : World) : Prop := ∃ t : ByteArray, e = .returned (.tuple #[.string t, .bool b]) ∧ t.data.toList = l ∧ Below w.heap.size w w'

theorem str_eq {s t : ByteArray} {l : List UInt8} (h : s.data.toList = l) (h' : t.data.toList = l) : s = t := by
  apply ByteArray.ext
  apply Array.ext'
  rw [h, h']
theorem str_size {s : ByteArray} {l : List UInt8} (h : s.data.toList = l) : s.size = l.length := by rw [← h]; simp
theorem str_empty : (ByteArray.mk #[]).data.toList = [] := rfl

/-- The call gave back v and only drew. -/
def RetD (v : Value) (w : World) (e : Ending) (w' : World) : Prop := e = .returned v ∧ ∃ m, w' = w.drewN m

end Go.Proofs.Ytbkdfflmidgdeaa
