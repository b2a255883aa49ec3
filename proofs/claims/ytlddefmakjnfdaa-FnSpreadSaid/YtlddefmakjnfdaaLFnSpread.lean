/- The walk of the law FnSpread. Conditions: as the theorem says. -/
import Derived.Test.YtlddefmakjnfdaaC13
import Derived.Test.YtlddefmakjnfdaaR5
import Derived.Test.YtlddefmakjnfdaaPureX
namespace Go.Proofs.Ytlddefmakjnfdaa
open Go.RowKit
set_option linter.unusedSimpArgs false
set_option linter.unusedVariables false

set_option maxRecDepth 100000 in
set_option maxHeartbeats 2000000 in
theorem walk_FnSpread (A : Option Addr) (n c : Nat) (zs : List Int) (w : World) (hx : RowIn .u8 w A n c zs) :
    Calls Try.prog 10 #[.slice A n c] w fun e w' => e = .returned (.bool true) ∧ Below w.heap.size w w' := by
  by_cases hbig_n : 1048576 < n
  · clear hx
    go_enter Try.func10, Try.ntmps10
    go_wp2
    go_ret
    exact ⟨rfl, Below.refl _ _⟩
  replace hbig_n : n ≤ 1048576 := by omega
  have hB0 : Below w.heap.size w w := Below.refl _ _
  go_enter Try.func10, Try.ntmps10
  go_wp2_with fail
  refine (spec_DrawSpreadBits _ _ _ _ _ hx).mono ?_
  rintro e w1 ⟨s, t, rfl, hss, htt, hb⟩
  have hS1 := hb.size
  have hB1 : Below w.heap.size w w1 := hB0.trans (hb.mono hB0.size)
  clear hb
  clear hx
  go_wp2_with fail
  refine (impl_SpreadBits s t _ (by omega) (by omega)).mono ?_
  rintro e w2 ⟨Ax, nx, cx, rfl, ho, hb⟩
  have Ox := Lib.hid ho
  clear ho
  have hS2 := hb.size
  have hB2 : Below w.heap.size w w2 := hB1.trans (hb.mono hB1.size)
  clear hb
  go_wp2_with fail
  refine (spec_SpreadBits s t _ (by omega) (by omega)).mono ?_
  rintro e w3 ⟨Ay, ny, cy, rfl, ho, hb⟩
  have Cx_3 := Lib.hid (own_below Ox.out hb)
  have Oy := Lib.hid ho
  clear ho
  have hS3 := hb.size
  have hB3 : Below w.heap.size w w3 := hB2.trans (hb.mono hB2.size)
  clear hb
  rcases spreadC_ways s.data.toList t.data.toList with ⟨h0, h⟩ | ⟨h0, h⟩
  · rw [h] at Cx_3 Oy ⊢
    clear h0 h
    go_wp2_with fail
    refine (laws_ssInts _ _ _ _ _ _ _ _ _ (own_rdI Cx_3.out) (own_rdI Oy.out) (own_cap Cx_3.out)).mono ?_
    rintro e w4 hq
    obtain ⟨rfl, hb⟩ := retD_below hq
    clear hq
    have Cx_4 := Lib.hid (own_below Cx_3.out hb)
    clear Cx_3
    have Cy_4 := Lib.hid (own_below Oy.out hb)
    have hS4 := hb.size
    have hB4 : Below w.heap.size w w4 := hB3.trans (hb.mono hB3.size)
    clear hb
    go_wp2_with fail
    refine (laws_ssInts _ _ _ _ _ _ _ _ _ (own_rdI Cx_4.out) (own_rdI Cy_4.out) (own_cap Cx_4.out)).mono ?_
    rintro e w5 hq
    obtain ⟨rfl, hb⟩ := retD_below hq
    clear hq
    have Cx_5 := Lib.hid (own_below Cx_4.out hb)
    clear Cx_4
    have Cy_5 := Lib.hid (own_below Cy_4.out hb)
    clear Cy_4
    have hS5 := hb.size
    have hB5 : Below w.heap.size w w5 := hB4.trans (hb.mono hB4.size)
    clear hb
    go_wp2_with fail
    go_ret
    exact ⟨rfl, hB5⟩
  · rw [h] at Cx_3 Oy ⊢
    clear h
    have hlx := ((own_rdI Cx_3.out)).len
    rw [spreadL_len, len_data, len_data] at hlx
    have hd := spread_des _ _ h0
    rw [len_data] at hd
    have hrr := spread_rec _ _ h0
    rw [len_data] at hrr
    have hbits : s.data.toList.all isBit = true := by have := h0.1; unfold bitsB at this; simp only [Bool.and_eq_true] at this; exact this.2
    have ht1 : 1 ≤ t.size := by have := h0.2.1; unfold seqB at this; simp only [Bool.and_eq_true, decide_eq_true_eq, len_data] at this; exact this.1.1
    have ht2 : t.size ≤ 255 := by have := h0.2.1; unfold seqB at this; simp only [Bool.and_eq_true, decide_eq_true_eq, len_data] at this; exact this.1.2
    have hs2 : s.size ≤ 600 := by have := h0.1; unfold bitsB at this; simp only [Bool.and_eq_true, decide_eq_true_eq, len_data] at this; exact this.1
    have HD := Lib.hid hd
    have HR := Lib.hid hrr
    have HBITS := Lib.hid hbits
    have HLX := Lib.hid hlx
    clear hd hrr hbits h0 hlx
    go_wp2_with fail
    refine (laws_ssInts _ _ _ _ _ _ _ _ _ (own_rdI Cx_3.out) (own_rdI Oy.out) (own_cap Cx_3.out)).mono ?_
    rintro e w4 hq
    obtain ⟨rfl, hb⟩ := retD_below hq
    clear hq
    have Cx_4 := Lib.hid (own_below Cx_3.out hb)
    clear Cx_3
    have Cy_4 := Lib.hid (own_below Oy.out hb)
    have hS4 := hb.size
    have hB4 : Below w.heap.size w w4 := hB3.trans (hb.mono hB3.size)
    clear hb
    go_wp2_with fail
    clear Cy_4
    refine (impl_DespreadSignal _ _ _ _ t (s.size : Int) _ (own_rdI Cx_4.out) (own_cap Cx_4.out) (by omega)).mono ?_
    rw [HD.out]
    rintro e w5 ⟨Az, nz, cz, rfl, ho, hb⟩
    have Cx_5 := Lib.hid (own_below Cx_4.out hb)
    clear Cx_4
    have Oz := Lib.hid ho
    clear ho
    have hS5 := hb.size
    have hB5 : Below w.heap.size w w5 := hB4.trans (hb.mono hB4.size)
    clear hb
    have hnz : nz = s.size := by have h5 := ((own_rdI Oz.out)).len; rw [desL_len] at h5; omega
    subst hnz
    go_wp2_with fail
    have hwn : IntKind.i64.wrap (-(t.size : Int)) = -(t.size : Int) := IntWalk.i64_in _ ⟨by omega, by omega⟩
    go_loopw [11] (fun v wr => ∃ i m : Nat, i ≤ s.size ∧ v = .int .i64 i ∧ wr = w5.drewN m) (fun v _ => s.size - (intOf v).toNat)
    case atStart => exact ⟨0, 0, Nat.zero_le _, rfl, rfl⟩
    case round =>
      obtain ⟨i, m, hi, rfl, rfl⟩ := hrel
      by_cases hlt : i < s.size
      · obtain ⟨b, rfl, hb1, hb2⟩ := own_some Oz.out (show 0 < s.size by omega)
        have hc := (Oz.out).cellAt i (by omega)
        have hsl : i < s.data.toList.length := by rw [len_data]; exact hlt
        have hat := spread_des_at s.data.toList t.data.toList i hsl
        rw [len_data] at hat
        have hgd : s.data.toList.getD i 48 = s[i] := by rw [List.getD_eq_getElem?_getD, data_at s i hlt]; rfl
        rw [List.getElem?_map, hat, hgd] at hc
        have hib : isBit s[i] = true := by have := bit_getD _ HBITS.out i hsl; rw [hgd] at this; exact this
        have hbt := bit_toNat s[i] hib
        clear hat hgd hib
        rcases hbt with ⟨h48, _⟩ | ⟨h49, _⟩
        · have hsi : (s[i].toNat : Int) = 48 := by rw [h48]; rfl
          have hv : chipI s[i] * (t.size : Int) = t.size := by rw [h48]; show 1 * _ = _; omega
          replace hc : w5.cell? ⟨b, i, none⟩ = some (.int .i64 (chipI s[i] * (t.size : Int))) := hc
          generalize chipI s[i] * (t.size : Int) = V at hc hv
          have hb0 : (V != (t.size : Int)) = false := by rw [hv]; simp
          have hb0' : (V == (t.size : Int)) = true := by rw [hv]; simp
          have hb2 : decide (V < 0) = false := decide_eq_false (by omega)
          have hs0 : ((s[i].toNat : Int) == 49) = false := by rw [hsi]; rfl
          clear hv h48
          go_wp2
          go_wp2
          go_quiet (fail)
          go_wp2
          go_roundw
          case rel => exact ⟨i + 1, m + nq, by omega, by go_num, rfl⟩
          case measure => simp [intOf] <;> omega
        · have hsi : (s[i].toNat : Int) = 49 := by rw [h49]; rfl
          have hv : chipI s[i] * (t.size : Int) = -t.size := by rw [h49]; show (-1) * _ = _; omega
          replace hc : w5.cell? ⟨b, i, none⟩ = some (.int .i64 (chipI s[i] * (t.size : Int))) := hc
          generalize chipI s[i] * (t.size : Int) = V at hc hv
          have hb0 : (V != (t.size : Int)) = true := bne_iff_ne.2 (by omega)
          have hb0' : (V == (t.size : Int)) = false := beq_eq_false_iff_ne.2 (by omega)
          have hb1' : (V == -(t.size : Int)) = true := by rw [hv]; simp
          have hb1 : (V != -(t.size : Int)) = false := by rw [hv]; simp
          have hb2 : decide (V < 0) = true := decide_eq_true (by omega)
          have hs0 : ((s[i].toNat : Int) == 49) = true := by rw [hsi]; rfl
          clear hv h49
          go_wp2
          go_wp2
          go_quiet (fail)
          go_wp2
          go_roundw
          case rel => exact ⟨i + 1, m + nq, by omega, by go_num, rfl⟩
          case measure => simp [intOf] <;> omega
      · clear hwn
        go_wp2_with fail
        obtain ⟨w6, hw⟩ : ∃ x, x = w5.drewN m := ⟨_, rfl⟩
        rw [← hw]
        have hb : Below w5.heap.size w5 w6 := by rw [hw]; exact below_drewN (Below.refl _ _) m
        clear hw
        have Cx_6 := Lib.hid (own_below Cx_5.out hb)
        clear Cx_5
        have Cz_6 := Lib.hid (own_below Oz.out hb)
        have hS6 := hb.size
        have hB6 : Below w.heap.size w w6 := hB5.trans (hb.mono hB5.size)
        clear hb
        refine (laws_ssUser _ _ _ _ t 0 (s.size : Int) _ (own_rdI Cx_6.out) (own_cap Cx_6.out) (by omega)).mono ?_
        rw [HR.out]
        rintro e w7 ⟨u, rfl, hu, hb⟩
        have Cx_7 := Lib.hid (own_below Cx_6.out hb)
        clear Cx_6
        have Cz_7 := Lib.hid (own_below Cz_6.out hb)
        clear Cz_6
        have hS7 := hb.size
        have hB7 : Below w.heap.size w w7 := hB6.trans (hb.mono hB6.size)
        clear hb
        obtain rfl := str_eq hu rfl
        clear hu
        have hmb : u.size * t.size ≤ 600 * 255 := Nat.mul_le_mul hs2 ht2
        have hwm : IntKind.i64.wrap ((u.size : Int) * (t.size : Int)) = (nx : Int) := by
          have h5 := HLX.out
          rw [← Int.natCast_mul, h5]
          exact IntWalk.i64_in _ ⟨by omega, by omega⟩
        clear hmb
        go_wp2_with fail
        go_ret
        exact ⟨rfl, hB7⟩

end Go.Proofs.Ytlddefmakjnfdaa
