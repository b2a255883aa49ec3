/- What the laws' helpers on lists of pairs do. Conditions: as each theorem says. -/
import Derived.Test.YtkebiigpfbconaaPairs
namespace Go.Proofs.Ytkebiigpfbconaa
open Go.RowKit
set_option linter.unusedSimpArgs false
set_option linter.unusedVariables false
set_option maxRecDepth 100000

def RdP (w : World) (A : Option Addr) (n : Nat) (ps : List (Int × Int)) : Prop := Rd w A n 2 (pcells ps)
theorem RdP.len {w : World} {A : Option Addr} {n : Nat} {ps : List (Int × Int)} (h : RdP w A n ps) : ps.length = n := by
  have := h.1; rw [pcells_len] at this; omega
theorem RdP.at {w : World} {A : Option Addr} {n : Nat} {ps : List (Int × Int)} (h : RdP w A n ps) {i : Nat} (hi : i < n) :
    ∃ b o x y, A = some ⟨b, o, none⟩ ∧ b < w.heap.size ∧ Hid (ps[i]? = some (x, y)) ∧ w.cell? ⟨b, o + i * 2, none⟩ = some (.int .i64 x) ∧ w.cell? ⟨b, o + i * 2 + 1, none⟩ = some (.int .i64 y) := by
  obtain ⟨b, o, hA, hb, hc⟩ := h.2 (by omega)
  have hl := h.len
  have hx : ps[i]? = some ps[i] := List.getElem?_eq_getElem (by omega)
  have h2 := pcells_at ps i _ hx
  exact ⟨b, o, ps[i].1, ps[i].2, hA, hb, hx, hc _ _ h2.1, by rw [Nat.add_assoc]; exact hc _ _ h2.2⟩
theorem own_rdP {w : World} {base E n c : Nat} {A : Option Addr} {ps : List (Int × Int)} (h : w.ownsRow base E 2 (.slice A n c) n (pcells ps)) : RdP w A n ps := own_rd h

end Go.Proofs.Ytkebiigpfbconaa
