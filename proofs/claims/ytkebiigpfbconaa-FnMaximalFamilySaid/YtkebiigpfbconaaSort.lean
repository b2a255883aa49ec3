/- The library's sort of a slice of numbers that the call has built. Conditions: as each theorem says. -/
import Derived.Test.YtkebiigpfbconaaLaw
import Derived.Test.YtkebiigpfbconaaPureV
import Derived.Shelf.Slices.In.SortNone
import Derived.Shelf.Slices.In.SortAlone
import Derived.Lib.SortBridge
import Derived.Sort.EveryDepth
import Derived.Sort.OwnSortedInts
namespace Go.Proofs.Ytkebiigpfbconaa
open Go.RowKit Go.Shelf Go.Sort
set_option linter.unusedSimpArgs false
set_option linter.unusedVariables false
set_option maxRecDepth 100000

/-- The numbers of the sort's functions and types in this translation (printed by a program). -/
def laysSort_ren : Go.Shelf.Ren := ⟨fun | 189 => 60 | 125 => 88 | 257 => 87 | 128 => 109 | 129 => 110 | 294 => 100 | 295 => 101 | 296 => 102 | 297 => 103 | 298 => 104 | 299 => 105 | 216 => 106 | 300 => 107 | 301 => 108 | 328 => 115 | 329 => 116 | 330 => 117 | 331 => 118 | 332 => 119 | 215 => 120 | 343 => 125 | n => n, fun | 28 => 33 | 3 => 3 | 46 => 46 | 0 => 0 | 51 => 104 | 53 => 106 | 4 => 4 | 183 => 98 | 182 => 97 | 131 => 27 | 5 => 5 | 9 => 9 | 218 => 108 | 222 => 112 | 228 => 117 | 229 => 47 | n => n, fun | n => n⟩
theorem laysSort : Go.Proofs.Lays.n189 Try.prog laysSort_ren where
  mixed := by kernel_rfl
  f125 := Try.func88.trans (congrArg some (by kernel_rfl))
  f128 := Try.func109.trans (congrArg some (by kernel_rfl))
  f129 := Try.func110.trans (congrArg some (by kernel_rfl))
  f189 := Try.func60.trans (congrArg some (by kernel_rfl))
  f215 := Try.func120.trans (congrArg some (by kernel_rfl))
  f216 := Try.func106.trans (congrArg some (by kernel_rfl))
  f257 := Try.func87.trans (congrArg some (by kernel_rfl))
  f294 := Try.func100.trans (congrArg some (by kernel_rfl))
  f295 := Try.func101.trans (congrArg some (by kernel_rfl))
  f296 := Try.func102.trans (congrArg some (by kernel_rfl))
  f297 := Try.func103.trans (congrArg some (by kernel_rfl))
  f298 := Try.func104.trans (congrArg some (by kernel_rfl))
  f299 := Try.func105.trans (congrArg some (by kernel_rfl))
  f300 := Try.func107.trans (congrArg some (by kernel_rfl))
  f301 := Try.func108.trans (congrArg some (by kernel_rfl))
  f328 := Try.func115.trans (congrArg some (by kernel_rfl))
  f329 := Try.func116.trans (congrArg some (by kernel_rfl))
  f330 := Try.func117.trans (congrArg some (by kernel_rfl))
  f331 := Try.func118.trans (congrArg some (by kernel_rfl))
  f332 := Try.func119.trans (congrArg some (by kernel_rfl))
  f343 := Try.func125.trans (congrArg some (by kernel_rfl))
  t0 := Try.underlying0
  a0 := Try.isAgg0
  z0 := Try.sizeOf0
  v0 := Try.zeroValue0
  t3 := Try.underlying3
  a3 := Try.isAgg3
  z3 := Try.sizeOf3
  v3 := Try.zeroValue3
  t4 := Try.underlying4
  a4 := Try.isAgg4
  z4 := Try.sizeOf4
  v4 := Try.zeroValue4
  t5 := Try.underlying5
  a5 := Try.isAgg5
  z5 := Try.sizeOf5
  v5 := Try.zeroValue5
  t9 := Try.underlying9
  a9 := Try.isAgg9
  z9 := Try.sizeOf9
  v9 := Try.zeroValue9
  t28 := Try.underlying33
  a28 := Try.isAgg33
  z28 := Try.sizeOf33
  v28 := Try.zeroValue33
  t46 := Try.underlying46
  a46 := Try.isAgg46
  z46 := Try.sizeOf46
  v46 := Try.zeroValue46
  t51 := Try.underlying104
  a51 := Try.isAgg104
  z51 := Try.sizeOf104
  v51 := Try.zeroValue104
  t53 := Try.underlying106
  a53 := Try.isAgg106
  z53 := Try.sizeOf106
  v53 := Try.zeroValue106
  t131 := Try.underlying27
  a131 := Try.isAgg27
  z131 := Try.sizeOf27
  v131 := Try.zeroValue27
  t182 := Try.underlying97
  a182 := Try.isAgg97
  z182 := Try.sizeOf97
  v182 := Try.zeroValue97
  t183 := Try.underlying98
  a183 := Try.isAgg98
  z183 := Try.sizeOf98
  v183 := Try.zeroValue98
  t218 := Try.underlying108
  a218 := Try.isAgg108
  z218 := Try.sizeOf108
  v218 := Try.zeroValue108
  t222 := Try.underlying112
  a222 := Try.isAgg112
  z222 := Try.sizeOf112
  v222 := Try.zeroValue112
  t228 := Try.underlying117
  a228 := Try.isAgg117
  z228 := Try.sizeOf117
  v228 := Try.zeroValue117
  t229 := Try.underlying47
  a229 := Try.isAgg47
  z229 := Try.sizeOf47
  v229 := Try.zeroValue47

theorem holds_own {w : World} {base E g n c : Nat} {zs : List Int} (ho : w.ownsRow base E 1 (.slice (some ⟨g, 0, none⟩) n c) n (zs.map (Value.int .i64))) (h0 : 0 < n) :
    ∃ cur, base ≤ g ∧ w.heap[g]? = some (.cells cur E (0, 0)) ∧ zs.length ≤ c ∧ c ≤ maxLen ∧ cur.size = c * 1 ∧ cur.toList.take zs.length = zs.map (Value.int .i64) ∧ zs.length = n := by
  have hl : zs.length = n := by simpa using ho.1
  rcases ho.2 with ⟨hv, h1⟩ | ⟨g', cap, cur, hv, hb, hg, hnc, hcm, hcs, ht⟩
  · omega
  · injection hv with e1 e2 e3
    injection e1 with e1
    injection e1 with e1
    subst e1
    subst e3
    exact ⟨cur, hb, hg, by omega, hcm, hcs, by rw [hl]; simpa using ht, hl⟩
theorem slices_Sort_own (base E g n c : Nat) (zs : List Int) (w : World) (ho : w.ownsRow base E 1 (.slice (some ⟨g, 0, none⟩) n c) n (zs.map (Value.int .i64))) (h0 : 0 < n) (hn : n ≤ 1048576) :
    Calls Try.prog 60 #[.slice (some ⟨g, 0, none⟩) n c] w fun e w' => e = .returned (.tuple #[]) ∧
      w'.ownsRow base E 1 (.slice (some ⟨g, 0, none⟩) n c) n ((sortL zs).map (Value.int .i64)) ∧ w.grownBy w' (some g) := by
  obtain ⟨cur, hb, hg, hzc, hcm, hcs, ht, hl⟩ := holds_own ho h0
  have hH := holds_of_blockI hg ht
  have hlt : g < w.heap.size := (Array.getElem?_eq_some_iff.1 hg).1
  have hcall := calls_of_every_depth (fun D => AnyS.slices_Sort_int_alone laysSort D g 0 c zs w hH hlt (by omega))
  rw [hl] at hcall
  refine hcall.mono ?_
  rintro e w' ⟨rfl, q, os, rfl⟩
  rw [sortL_merge]
  have hms : (zs.mergeSort fun x y => decide (x ≤ y)).length = zs.length := List.length_mergeSort _
  refine ⟨rfl, ?_, grownBy_sortedI _⟩
  have := ownsRow_sortedI (w := w) (base := base) (n := q) (os := os) hms hb hg hzc hcm hcs
  rw [hl] at this
  exact this
theorem slices_Sort_none (A : Option Addr) (c : Nat) (w : World) :
    Calls Try.prog 60 #[.slice A 0 c] w fun e w' => e = .returned (.tuple #[]) ∧ w' = w :=
  Any.slices_Sort_int_none laysSort A c w

end Go.Proofs.Ytkebiigpfbconaa
