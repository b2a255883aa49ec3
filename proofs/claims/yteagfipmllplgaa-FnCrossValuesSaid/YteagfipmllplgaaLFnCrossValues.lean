/- The walk of the law on CrossValues. Conditions: as the theorem says. -/
import Derived.Test.YteagfipmllplgaaR10
import Derived.Test.YteagfipmllplgaaV1
namespace Go.Proofs.Yteagfipmllplgaa
open Go.RowKit
set_option linter.unusedSimpArgs false
set_option linter.unusedVariables false
set_option maxRecDepth 100000

theorem mem_next (x y : Int) (l : List Int) (k : Nat) (hy : l[k]? = some y) : decide (x ∈ l.take (k + 1)) = (decide (x ∈ l.take k) || (y == x)) := by
  rw [take_add l k y hy, Bool.eq_iff_iff]
  simp only [List.mem_append, List.mem_singleton, Bool.or_eq_true, decide_eq_true_eq, beq_iff_eq]
  exact ⟨fun h => h.imp id Eq.symm, fun h => h.imp id Eq.symm⟩
set_option maxHeartbeats 4000000 in
theorem walk_FnCrossValues (A0 : Option Addr) (n0 c0 : Nat) (z0 : List Int) (w : World) (h0 : RowIn .u8 w A0 n0 c0 z0) :
    Calls Try.prog 13 #[.slice A0 n0 c0] w fun e w' => e = .returned (.bool true) ∧ Below w.heap.size w w' := by
  by_cases hs0 : 1048576 < n0
  · go_enter Try.func13, Try.ntmps13
    go_wp2
    go_ret
    exact ⟨rfl, Below.refl _ _⟩
  replace hs0 : n0 ≤ 1048576 := by omega
  go_enter Try.func13, Try.ntmps13
  go_wp2_with fail
  refine (spec_DrawCrossValues _ _ _ _ _ h0).mono ?_
  rintro e w1 ⟨s, t, rfl, hs, ht, hB1⟩
  clear h0
  have hS1 := hB1.size
  go_wp2_with fail
  refine (impl_CrossValues s t w1 (by omega) (by omega)).mono ?_
  rintro e w2 ⟨A, n, c, rfl, ho, hb⟩
  have OV2 := Lib.hid ho
  have hB2 := hB1.trans (hb.mono hS1)
  have hS2 := hb.size
  clear ho hb
  go_wp2_with fail
  refine (impl_CrossTable s t w2 (by omega) (by omega)).mono ?_
  rintro e w3 ⟨B, m, d, rfl, ho, hb⟩
  have OT3 := Lib.hid ho
  have OV3 := Lib.hid (own_below OV2.out hb)
  have hB3 := hB2.trans (hb.mono hB2.size)
  clear ho hb
  go_wp2_with fail
  refine (spec_CrossValues s t w3 (by omega) (by omega)).mono ?_
  rintro e w4 ⟨C, q, f, rfl, ho, hb⟩
  have OT4 := Lib.hid (own_below OT3.out hb)
  have OV4 := Lib.hid (own_below OV3.out hb)
  have OW4 := Lib.hid ho
  have hB4 := hB3.trans (hb.mono hB3.size)
  clear ho hb
  go_wp2_with fail
  refine (laws_ssInts _ _ _ _ _ _ _ _ _ (own_rdI OV4.out) (own_rdI OW4.out) (own_cap OV4.out)).mono ?_
  rintro e w5 hq
  obtain ⟨rfl, hb⟩ := retD_below hq
  clear hq
  have hv := own_rdI (own_below OV4.out hb)
  have htb := own_rdI (own_below OT4.out hb)
  have hB5 := hB4.trans (hb.mono hB4.size)
  have hn255 : n ≤ 255 := own_num OV4.out (Nat.le_trans (valsL_len _) (tabL_len s t))
  have hm255 : m ≤ 255 := own_num OT4.out (tabL_len s t)
  clear hb OV2 OT3 OV3 OT4 OV4 OW4 hB1 hB2 hB3 hB4 hS1 hS2
  obtain ⟨hso, hme⟩ := valsL_ok (tabL s t)
  generalize valsL (tabL s t) = vs at *
  generalize tabL s t = zs at *
  have hlv := hv.len
  have hlt := htb.len
  have HLV := Lib.hid hlv
  have HLT := Lib.hid hlt
  have HSO := Lib.hid hso
  have HME := Lib.hid hme
  clear hlv hlt hso hme hs ht
  go_wp2_with fail
  go_loopw [7] (fun v wr => ∃ i e : Nat, i ≤ n ∧ v = .int .i64 i ∧ wr = w5.drewN e) (fun v _ => n - (intOf v).toNat)
  case atStart => exact ⟨0, 0, Nat.zero_le _, rfl, rfl⟩
  case round =>
    obtain ⟨i, e, hi, rfl, rfl⟩ := hrel
    by_cases hin : i < n
    · obtain ⟨b, o, x, rfl, hb, hxx, hcx⟩ := hv.at hin
      go_wp2_with fail
      go_loopw [8, 9] (fun f v wr => ∃ k d : Nat, k ≤ m ∧ v = .int .i64 k ∧ f = .bool (decide (x ∈ zs.take k)) ∧ wr = w5.drewN d) (fun _ v _ => m - (intOf v).toNat)
      case atStart => exact ⟨0, e, Nat.zero_le _, rfl, by simp, rfl⟩
      case round =>
        obtain ⟨k, d, hk, rfl, rfl, rfl⟩ := hrel
        by_cases hkm : k < m
        · obtain ⟨b', o', y, rfl, hb', hyy, hcy⟩ := htb.at hkm
          have hnx := mem_next x y zs k hyy.out
          obtain ⟨f, hf⟩ : ∃ f, decide (x ∈ zs.take k) = f := ⟨_, rfl⟩
          rw [hf] at hnx ⊢
          obtain ⟨g, hg⟩ : ∃ g, (y == x) = g := ⟨_, rfl⟩
          rw [hg] at hnx
          have HNX := Lib.hid hnx
          clear hnx hf
          cases f
          · cases g
            all_goals
              go_wp2
              go_quiet (fail)
              go_wp2
              go_roundw
              case rel => exact ⟨k + 1, _, by omega, by go_num, by rw [HNX.out]; rfl, rfl⟩
              case measure => simp [intOf]; omega
          · go_wp2
            go_quiet (fail)
            go_wp2
            go_roundw
            case rel => exact ⟨k + 1, _, by omega, by go_num, by rw [HNX.out]; rfl, rfl⟩
            case measure => simp [intOf]; omega
        · have hxz : decide (x ∈ zs.take k) = true := by
            rw [List.take_of_length_le (by rw [HLT.out]; omega)]
            exact decide_eq_true ((HME.out x).1 (List.mem_of_getElem? hxx.out))
          rw [hxz]
          clear hxz
          by_cases h0 : i = 0
          · subst h0
            go_wp2
            go_quiet (fail)
            go_wp2
            go_roundw
            case rel => exact ⟨0 + 1, _, by omega, by go_num, rfl⟩
            case measure => simp [intOf]; omega
          · obtain ⟨j, rfl⟩ : ∃ j, i = j + 1 := ⟨i - 1, by omega⟩
            have hd0 : decide (0 < (j : Int) + 1) = true := decide_eq_true (by omega)
            obtain ⟨b2, o2, y, hbo, hb2, hyy, hcy⟩ := hv.at (show j < n by omega)
            injection hbo with hbo
            injection hbo with hbo1 hbo2
            subst hbo1
            subst hbo2
            have hlt2 : y < x := by
              obtain ⟨p1, p2⟩ := List.getElem?_eq_some_iff.1 hxx.out
              obtain ⟨p3, p4⟩ := List.getElem?_eq_some_iff.1 hyy.out
              have := List.pairwise_iff_getElem.1 HSO.out j (j + 1) p3 p1 (by omega)
              rw [p2, p4] at this
              exact this
            have hle : decide (x ≤ y) = false := decide_eq_false (by omega)
            clear hlt2
            go_wp2
            go_quiet (fail)
            go_wp2
            go_roundw
            case rel => exact ⟨j + 1 + 1, _, by omega, by go_num, rfl⟩
            case measure => simp [intOf]; omega
    · go_wp2_with fail
      go_loopw [10] (fun v wr => ∃ i e : Nat, i ≤ m ∧ v = .int .i64 i ∧ wr = w5.drewN e) (fun v _ => m - (intOf v).toNat)
      case atStart => exact ⟨0, e, Nat.zero_le _, rfl, rfl⟩
      case round =>
        obtain ⟨i2, e2, hi2, rfl, rfl⟩ := hrel
        by_cases hin2 : i2 < m
        · obtain ⟨b, o, x, rfl, hb, hxx, hcx⟩ := htb.at hin2
          go_wp2_with fail
          go_loopw [11, 12] (fun f v wr => ∃ k d : Nat, k ≤ n ∧ v = .int .i64 k ∧ f = .bool (decide (x ∈ vs.take k)) ∧ wr = w5.drewN d) (fun _ v _ => n - (intOf v).toNat)
          case atStart => exact ⟨0, e2, Nat.zero_le _, rfl, by simp, rfl⟩
          case round =>
            obtain ⟨k, d, hk, rfl, rfl, rfl⟩ := hrel
            by_cases hkm : k < n
            · obtain ⟨b', o', y, rfl, hb', hyy, hcy⟩ := hv.at hkm
              have hnx := mem_next x y vs k hyy.out
              obtain ⟨f, hf⟩ : ∃ f, decide (x ∈ vs.take k) = f := ⟨_, rfl⟩
              rw [hf] at hnx ⊢
              have hsw : (x == y) = (y == x) := by rw [Bool.eq_iff_iff, beq_iff_eq, beq_iff_eq]; exact ⟨Eq.symm, Eq.symm⟩
              obtain ⟨g, hg⟩ : ∃ g, (x == y) = g := ⟨_, rfl⟩
              rw [← hsw, hg] at hnx
              have HNX := Lib.hid hnx
              clear hnx hf hsw
              cases f
              · cases g
                all_goals
                  go_wp2
                  go_quiet (fail)
                  go_wp2
                  go_roundw
                  case rel => exact ⟨k + 1, _, by omega, by go_num, by rw [HNX.out]; rfl, rfl⟩
                  case measure => simp [intOf]; omega
              · go_wp2
                go_quiet (fail)
                go_wp2
                go_roundw
                case rel => exact ⟨k + 1, _, by omega, by go_num, by rw [HNX.out]; rfl, rfl⟩
                case measure => simp [intOf]; omega
            · have hxz : decide (x ∈ vs.take k) = true := by
                rw [List.take_of_length_le (by rw [HLV.out]; omega)]
                exact decide_eq_true ((HME.out x).2 (List.mem_of_getElem? hxx.out))
              rw [hxz]
              clear hxz
              go_wp2
              go_roundw
              case rel => exact ⟨i2 + 1, _, by omega, by go_num, rfl⟩
              case measure => simp [intOf]; omega
        · go_wp2
          go_ret
          exact ⟨rfl, below_drewN hB5 _⟩

end Go.Proofs.Yteagfipmllplgaa
