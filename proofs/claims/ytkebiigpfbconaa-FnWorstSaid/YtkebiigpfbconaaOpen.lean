/- What a walk is told of a slice that came in. Conditions: none. -/
import Derived.Test.YtkebiigpfbconaaRows
import Derived.Test.YtkebiigpfbconaaBase
import Derived.ProofKit
import Derived.OpenShut
namespace Go.Proofs.Ytkebiigpfbconaa
open Go.RowKit
set_option linter.unusedSimpArgs false
set_option linter.unusedVariables false

theorem rowIn_nil (k : IntKind) (w : World) : RowIn k w none 0 0 [] := ⟨⟨by simp, fun h => absurd h (by omega)⟩, Nat.le_refl _, Nat.zero_le _, by simp⟩
theorem rowIn_mk {k : IntKind} {w : World} {x : Addr} {l c : Nat} {zs : List Int} (hl : l ≤ c) (hm : c ≤ maxLen) (hz : zs.length = c)
    (hcell : ∀ i, i < zs.length → w.cell? (x.add i) = some (.int k (zs.getD i 0))) (hwz : ∀ n ∈ zs, (Lit.int k n).wf = true) : RowIn k w (some x) l c (zs.take l) := by
  refine ⟨⟨by rw [List.length_map, List.length_take]; omega, fun hn => ?_⟩, hl, hm, fun z hz' => hwz z (List.mem_of_mem_take hz')⟩
  obtain ⟨b, o, spot⟩ := x
  have h0 := hcell 0 (by omega)
  have hs : spot = none := by simpa [Addr.add] using World.cell?_spot h0
  subst hs
  refine ⟨b, o, rfl, by simpa [Addr.add] using World.block_lt_of_cell? w _ h0, fun j u hu => ?_⟩
  rw [List.getElem?_map] at hu
  obtain ⟨y, hy, rfl⟩ := Option.map_eq_some_iff.1 hu
  rw [List.getElem?_take] at hy
  split at hy
  · rename_i hj
    have hjl := (List.getElem?_eq_some_iff.1 hy).1
    have := hcell j hjl
    have e : (⟨b, o, none⟩ : Addr).add j = ⟨b, o + j, none⟩ := by unfold Addr.add; split <;> simp_all
    rw [e] at this
    rw [this, List.getD_eq_getElem?_getD, hy]; rfl
  · cases hy

end Go.Proofs.Ytkebiigpfbconaa
