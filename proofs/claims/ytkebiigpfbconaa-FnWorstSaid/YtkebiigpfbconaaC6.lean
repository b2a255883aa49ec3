/- What the functions on Walsh codes give back, in the program and in the reference. Conditions: as each theorem says. -/
import Derived.Test.YtkebiigpfbconaaC5
namespace Go.Proofs.Ytkebiigpfbconaa
open Go.RowKit
set_option linter.unusedSimpArgs false
set_option linter.unusedVariables false

theorem walshC_at (o : Int) (n i : Nat) (h0 : 0 ≤ o) (h6 : o ≤ 6) (h2 : two o = n) (hi : i < n) : walshC o i = (walshL n i, true) := by
  unfold walshC
  rw [if_pos ⟨(within_iff _ _ _).2 ⟨h0, h6⟩, (within_iff _ _ _).2 ⟨by omega, by omega⟩⟩, h2, Int.toNat_natCast, Int.toNat_natCast]
theorem walshC_neg (o i : Int) (h : o < 0) : walshC o i = ([], false) := by
  unfold walshC
  rw [if_neg (fun hc => by have := (within_iff _ _ _).1 hc.1; omega)]
theorem str_bne {t s : ByteArray} {l : List UInt8} (h : t.data.toList = l) : (t.toList == s.toList) = (l == s.data.toList) := by
  rw [ByteArray.toList_eq, ByteArray.toList_eq, h]
/-! the transform -/
theorem set_same {α : Type} (l : List α) (i : Nat) (v : α) (h : l[i]? = some v) : l.set i v = l := by
  apply List.ext_getElem?
  intro j
  rw [List.getElem?_set]
  split
  · rename_i e; subst e
    have := (List.getElem?_eq_some_iff.1 h).1
    rw [if_pos this, h]
  · rfl
theorem retI_nil (k : IntKind) (E : TypeId) (w : World) : RetI k E [] w (.returned (.slice none 0 0)) w := ⟨none, 0, 0, rfl, World.ownsRow_nil _ _ _ _, Below.refl _ _⟩
theorem wtranC_out (zs : List Int) (n : Nat) (hn : zs.length = n) (h : orderC n < 0) : wtranC zs = [] := by
  unfold wtranC; rw [hn, if_neg (fun hc => by have := hc.1; omega)]
theorem wtranC_bad (zs : List Int) (h : zs.all (within (-1000000) 1000000) = false) : wtranC zs = [] := by
  unfold wtranC; rw [if_neg (fun hc => by rw [h] at hc; exact absurd hc.2 (by decide))]
theorem wtranC_ok (zs : List Int) (n : Nat) (hn : zs.length = n) (h0 : 0 ≤ orderC n) (h : zs.all (within (-1000000) 1000000) = true) : wtranC zs = wtranL zs := by
  unfold wtranC; rw [hn, if_pos ⟨h0, h⟩]

end Go.Proofs.Ytkebiigpfbconaa
