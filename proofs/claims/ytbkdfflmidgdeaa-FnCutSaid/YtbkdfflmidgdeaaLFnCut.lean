/- The walk of the law FnCut. Conditions: as the theorem says. -/
import Derived.Test.YtbkdfflmidgdeaaC4b
import Derived.Test.YtbkdfflmidgdeaaDraw4
namespace Go.Proofs.Ytbkdfflmidgdeaa
open Go.RowKit
set_option linter.unusedSimpArgs false
set_option linter.unusedVariables false

set_option maxRecDepth 100000 in
set_option maxHeartbeats 2000000 in
theorem walk_FnCut (A : Option Addr) (n c : Nat) (zs : List Int) (w : World) (hx : RowIn .u8 w A n c zs) :
    Calls Try.prog 12 #[.slice A n c] w fun e w' => e = .returned (.bool true) ∧ Below w.heap.size w w' := by
  by_cases hbig_n : 1048576 < n
  · clear hx
    go_enter Try.func12, Try.ntmps12
    go_wp2
    go_ret
    exact ⟨rfl, Below.refl _ _⟩
  replace hbig_n : n ≤ 1048576 := by omega
  have hB0 : Below w.heap.size w w := Below.refl _ _
  go_enter Try.func12, Try.ntmps12
  go_wp2_with fail
  refine (spec_DrawCutSignal _ _ _ _ _ hx).mono ?_
  rintro e w1 ⟨As, ns, cs, s, a, d, rfl, ho, hn1, hb⟩
  have Os := Lib.hid ho
  clear ho
  have hS1 := hb.size
  have hB1 : Below w.heap.size w w1 := hB0.trans (hb.mono hB0.size)
  clear hb
  clear hx
  go_wp2_with fail
  refine (impl_CutSignal _ _ _ _ _ _ _ (own_rdI Os.out) (own_cap Os.out) (own_le Os.out)).mono ?_
  rintro e w2 ⟨Ax, nx, cx, rfl, ho, hb⟩
  have Cs_2 := Lib.hid (own_below Os.out hb)
  have Ox := Lib.hid ho
  clear ho
  have hS2 := hb.size
  have hB2 : Below w.heap.size w w2 := hB1.trans (hb.mono hB1.size)
  clear hb
  go_wp2_with fail
  refine (spec_CutSignal _ _ _ _ _ _ _ (own_rdI Cs_2.out) (own_cap Cs_2.out) (own_le Cs_2.out)).mono ?_
  rintro e w3 ⟨Ar, nr, cr, rfl, ho, hb⟩
  have Cs_3 := Lib.hid (own_below Cs_2.out hb)
  clear Cs_2
  have Cx_3 := Lib.hid (own_below Ox.out hb)
  have Or := Lib.hid ho
  clear ho
  have hS3 := hb.size
  have hB3 : Below w.heap.size w w3 := hB2.trans (hb.mono hB2.size)
  clear hb
  rcases cutC_ways s a d with h | ⟨h1, j, k, rfl, rfl, hjk, h⟩
  · rw [h] at Cx_3 Or ⊢
    go_wp2_with fail
    refine (laws_ssInts _ _ _ _ _ _ _ _ _ (own_rdI Cx_3.out) (own_rdI Or.out) (own_cap Cx_3.out)).mono ?_
    rintro e w4 hq
    obtain ⟨rfl, hb⟩ := retD_below hq
    clear hq
    have Cs_4 := Lib.hid (own_below Cs_3.out hb)
    clear Cs_3
    have Cx_4 := Lib.hid (own_below Cx_3.out hb)
    clear Cx_3
    have Cr_4 := Lib.hid (own_below Or.out hb)
    have hS4 := hb.size
    have hB4 : Below w.heap.size w w4 := hB3.trans (hb.mono hB3.size)
    clear hb
    go_wp2_with fail
    refine (laws_ssInts _ _ _ _ _ _ _ _ _ (own_rdI Cx_4.out) (own_rdI Cr_4.out) (own_cap Cx_4.out)).mono ?_
    rintro e w5 hq
    obtain ⟨rfl, hb⟩ := retD_below hq
    clear hq
    have Cs_5 := Lib.hid (own_below Cs_4.out hb)
    clear Cs_4
    have Cx_5 := Lib.hid (own_below Cx_4.out hb)
    clear Cx_4
    have Cr_5 := Lib.hid (own_below Cr_4.out hb)
    clear Cr_4
    have hS5 := hb.size
    have hB5 : Below w.heap.size w w5 := hB4.trans (hb.mono hB4.size)
    clear hb
    go_wp2_with fail
    go_ret
    exact ⟨rfl, hB5⟩
  · rw [h] at Cx_3 Or ⊢
    clear h
    go_wp2_with fail
    refine (laws_ssInts _ _ _ _ _ _ _ _ _ (own_rdI Cx_3.out) (own_rdI Or.out) (own_cap Cx_3.out)).mono ?_
    rintro e w4 hq
    obtain ⟨rfl, hb⟩ := retD_below hq
    clear hq
    have Cs_4 := Lib.hid (own_below Cs_3.out hb)
    clear Cs_3
    have Cx_4 := Lib.hid (own_below Cx_3.out hb)
    clear Cx_3
    have Cr_4 := Lib.hid (own_below Or.out hb)
    have hS4 := hb.size
    have hB4 : Below w.heap.size w w4 := hB3.trans (hb.mono hB3.size)
    clear hb
    clear Cr_4
    have hsl := Lib.hid ((own_rdI Cs_4.out).len)
    have hxl := Lib.hid ((own_rdI Cx_4.out).len)
    rw [hsl.out] at hjk
    go_wp2_with fail
    refine (impl_CutSignal _ _ _ _ _ _ _ (own_rdI Cs_4.out) (own_cap Cs_4.out) (own_le Cs_4.out)).mono ?_
    rw [cut_first s j h1 (by rw [hsl.out]; omega)]
    rintro e w5 ⟨Af, nf, cf, rfl, ho, hb⟩
    have Cs_5 := Lib.hid (own_below Cs_4.out hb)
    clear Cs_4
    have Cx_5 := Lib.hid (own_below Cx_4.out hb)
    clear Cx_4
    have Of := Lib.hid ho
    clear ho
    have hS5 := hb.size
    have hB5 : Below w.heap.size w w5 := hB4.trans (hb.mono hB4.size)
    clear hb
    go_wp2_with fail
    refine (impl_CutSignal _ _ _ _ _ _ _ (own_rdI Cs_5.out) (own_cap Cs_5.out) (own_le Cs_5.out)).mono ?_
    rw [cut_last s j k ns h1 hsl.out (by omega)]
    rintro e w6 ⟨Al, nl, cl, rfl, ho, hb⟩
    have Cs_6 := Lib.hid (own_below Cs_5.out hb)
    clear Cs_5
    have Cx_6 := Lib.hid (own_below Cx_5.out hb)
    clear Cx_5
    have Cf_6 := Lib.hid (own_below Of.out hb)
    have Ol := Lib.hid ho
    clear ho
    have hS6 := hb.size
    have hB6 : Below w.heap.size w w6 := hB5.trans (hb.mono hB5.size)
    clear hb
    have hfl := Lib.hid ((own_rdI Cf_6.out).len)
    have hll := Lib.hid ((own_rdI Ol.out).len)
    have bf : nf ≤ 5000 := by have h5 := hfl.out; rw [List.length_take] at h5; have h6 := hsl.out; omega
    have bl : nl ≤ 5000 := by have h5 := hll.out; rw [List.length_drop] at h5; have h6 := hsl.out; omega
    have bx : nx ≤ 5000 := by have h5 := hxl.out; rw [List.length_take, List.length_drop] at h5; have h6 := hsl.out; omega
    have Rf := Lib.hid (Rd.below (own_rdI Cf_6.out) ((Below.refl _ _).alloc (Nat.le_refl _) (.cells #[] 3)))
    have OE := Lib.hid (own_empty w6 3 w6.heap.size (Nat.le_refl _))
    go_wp2_with (first
      | (at_builtin; refine wpList_append_rd _ rfl (.tmp 79) (.tmp 80) 22 rfl w6.heap.size 3 (.int .i64 0) 8 Try.underlying22 Try.infoI64 rfl (.slice (some ⟨w6.heap.size, 0, none⟩) 0 0) _ _ rfl OE.out _ _ _ _ rfl Rf.out (ints_one _ _) ?_ (by omega) ?_ ?_; omega; simp; intro A6 q6 c6 wa hq ho hg; have Q6 := Lib.hid hq.out; have O6 := Lib.hid ho; have hb6 := own_below_of OE.out hg (by simp); have B6 := Lib.hid (((Below.refl _ _).alloc (Nat.le_refl _) _).trans hb6); clear hq ho hg hb6; have Rx := Lib.hid (Rd.below (own_rdI Cx_6.out) B6.out); have b6 : q6 ≤ 5000 := (by have := Q6.out; omega); have s6 := B6.out.size)
      | (at_builtin; refine wpList_append_rd _ rfl (.tmp 81) (.tmp 82) 22 rfl w6.heap.size 3 (.int .i64 0) 8 Try.underlying22 Try.infoI64 rfl (.slice A6 q6 c6) _ _ rfl O6.out _ _ _ _ rfl Rx.out (ints_one _ _) ?_ (by omega) ?_ ?_; omega; omega; intro A7 q7 c7 wb hq ho hg; have Q7 := Lib.hid hq.out; have O7 := Lib.hid ho; have hb7 := own_below_of O6.out hg (by omega); have B7 := Lib.hid (B6.out.trans hb7); clear hq ho hg hb7; have Rl := Lib.hid (Rd.below (own_rdI Ol.out) B7.out); have b7 : q7 ≤ 10000 := (by have := Q7.out; omega); have s7 := B7.out.size)
      | (at_builtin; refine wpList_append_rd _ rfl (.tmp 83) (.tmp 84) 22 rfl w6.heap.size 3 (.int .i64 0) 8 Try.underlying22 Try.infoI64 rfl (.slice A7 q7 c7) _ _ rfl O7.out _ _ _ _ rfl Rl.out (ints_one _ _) ?_ (by omega) ?_ ?_; omega; omega; intro A8 q8 c8 wc hq ho hg; have Q8 := Lib.hid hq.out; have O8 := Lib.hid ho; have hb8 := own_below_of O7.out hg (by omega); have B8 := Lib.hid (B7.out.trans hb8); clear hq ho hg hb8))
    have hrow : RdI .i64 wc A8 q8 s := by
      have h5 := O8.out
      rw [List.nil_append, ← List.map_append, ← List.map_append, cut_join] at h5
      exact own_rdI h5
    have hlen : ((nx : Int) == (k : Int)) = true := by
      have h5 := hxl.out
      have h6 := hsl.out
      rw [List.length_take, List.length_drop] at h5
      simp; omega
    refine (laws_ssInts _ _ _ _ _ _ _ _ _ hrow (Rd.below (own_rdI Cs_6.out) B8.out) (own_cap O8.out)).mono ?_
    rintro e wd hq
    obtain ⟨rfl, hb⟩ := retD_below hq
    clear hq
    go_wp2_with fail
    go_ret
    exact ⟨rfl, hB6.trans ((B8.out.mono hB6.size).trans (hb.mono (by have := hB6.size; have := B8.out.size; omega)))⟩

end Go.Proofs.Ytbkdfflmidgdeaa
