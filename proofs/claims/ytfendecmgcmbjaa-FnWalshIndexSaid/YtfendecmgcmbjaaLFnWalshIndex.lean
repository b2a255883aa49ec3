/- The walk of the law FnWalshIndex. Conditions: as the theorem says. -/
import Derived.Test.YtfendecmgcmbjaaC6
import Derived.Test.YtfendecmgcmbjaaC10
import Derived.Test.YtfendecmgcmbjaaDrawW
import Derived.Test.YtfendecmgcmbjaaPureW
namespace Go.Proofs.Ytfendecmgcmbjaa
open Go.RowKit
set_option linter.unusedSimpArgs false
set_option linter.unusedVariables false

set_option maxHeartbeats 2000000 in
theorem walk_FnWalshIndex (A : Option Addr) (n c : Nat) (zs : List Int) (w : World) (hx : RowIn .u8 w A n c zs) :
    Calls Try.prog 4 #[.slice A n c] w fun e w' => e = .returned (.bool true) ∧ Below w.heap.size w w' := by
  by_cases hbig_n : 1048576 < n
  · clear hx
    go_enter Try.func4, Try.ntmps4
    go_wp2
    go_ret
    exact ⟨rfl, Below.refl _ _⟩
  replace hbig_n : n ≤ 1048576 := by omega
  have hB0 : Below w.heap.size w w := Below.refl _ _
  go_enter Try.func4, Try.ntmps4
  go_wp2_with fail
  refine (spec_DrawWalshIndex _ _ _ _ _ hx).mono ?_
  rintro e w1 ⟨s, rfl, hss, hb⟩
  have hS1 := hb.size
  have hB1 : Below w.heap.size w w1 := hB0.trans (hb.mono hB0.size)
  clear hb
  clear hx
  go_wp2_with fail
  refine (impl_WalshIndex s _ (by omega)).mono ?_
  rintro e w2 ⟨rfl, hb⟩
  have hS2 := hb.size
  have hB2 : Below w.heap.size w w2 := hB1.trans (hb.mono hB1.size)
  clear hb
  go_wp2_with fail
  refine (spec_WalshIndex s _ (by omega)).mono ?_
  rintro e w3 ⟨rfl, hb⟩
  have hS3 := hb.size
  have hB3 : Below w.heap.size w w3 := hB2.trans (hb.mono hB2.size)
  clear hb
  have hall := someW_all s.data.toList
  have hlt := windex_lt s.data.toList
  have HALL := Lib.hid hall
  have HLT := Lib.hid hlt
  clear hall hlt
  generalize hW : windexC s.data.toList = W at *
  obtain ⟨W1, W2⟩ := W
  replace HALL : Hid (someW s.data.toList 7 0 = W2) := HALL
  clear hW
  go_wp2_with fail
  go_loopw [8, 9] (fun f v wr => ∃ o : Nat, o ≤ 7 ∧ v = .int .i64 o ∧ f = .bool (someW s.data.toList o 0) ∧ Below w.heap.size w wr) (fun _ v _ => 7 - (intOf v).toNat)
  case atStart => exact ⟨0, by omega, rfl, rfl, hB3⟩
  case round =>
    obtain ⟨o, ho, rfl, rfl, hbo⟩ := hrel
    by_cases hlt : o < 7
    · have hend := someW_end s.data.toList o
      have HEND := Lib.hid hend
      have hw1 := wrap_pow o (by omega)
      have hw2 : wrap64 ((2 : Int) ^ (o : Int).toNat) = ((2 ^ o : Nat) : Int) := by rw [Int.toNat_natCast]; exact hw1
      clear hend
      have HP64 := Lib.hid (show 2 ^ o ≤ 64 by have h5 : 2 ^ o ≤ 2 ^ 6 := Nat.pow_le_pow_right (by omega) (by omega); exact h5)
      obtain ⟨N, hN⟩ : ∃ N, 2 ^ o = N := ⟨_, rfl⟩
      rw [hN] at hw1 hw2 HEND HP64
      have HN := Lib.hid hN
      clear hN
      have d6 : decide ((o : Int) ≤ 6) = true := decide_eq_true (by omega)
      obtain ⟨wo, rfl⟩ : ∃ wo, wo = wr := ⟨_, rfl⟩
      go_wp2_with fail
      go_loopw [8, 10] (fun f v wr => ∃ j : Nat, j ≤ N ∧ v = .int .i64 j ∧ f = .bool (someW s.data.toList o j) ∧ Below w.heap.size w wr) (fun _ v _ => N - (intOf v).toNat)
      case atStart => exact ⟨0, Nat.zero_le _, rfl, rfl, hbo⟩
      case round =>
        obtain ⟨j, hj, rfl, rfl, hbj⟩ := hrel
        have h64 := HP64.out
        by_cases hlt2 : j < N
        · have hnx := someW_next s.data.toList o j
          have HNX := Lib.hid hnx
          clear hnx
          cases hsm : someW s.data.toList o j
          · rw [hsm] at HNX
            go_wp2_with fail
            refine (laws_ssWalsh o j _ (by omega) (by rw [HN.out]; exact hlt2)).mono ?_
            rintro e w5 ⟨t, rfl, ht, hb5⟩
            have hcmp : (t.toList == s.toList) = (walshL (2 ^ o) j == s.data.toList) := str_bne ht
            have hszj := hbj.size
            rw [← hcmp] at HNX
            clear ht hcmp
            cases hc : (t.toList == s.toList)
            all_goals
              rw [hc] at HNX
              go_wp2_with fail
              go_roundw
              case rel => exact ⟨j + 1, by omega, by go_num, by rw [HNX.out]; rfl, hbj.trans (hb5.mono hszj)⟩
              case measure => simp [intOf] <;> omega
          · rw [hsm] at HNX
            go_wp2_with fail
            go_roundw
            case rel => exact ⟨j + 1, by omega, by go_num, by rw [HNX.out]; rfl, hbj⟩
            case measure => simp [intOf] <;> omega
        · obtain rfl : j = N := by omega
          go_wp2_with fail
          go_roundw
          case rel => exact ⟨o + 1, by omega, by go_num, by rw [HEND.out], hbj⟩
          case measure => simp [intOf] <;> omega
    · obtain rfl : o = 7 := by omega
      rw [HALL.out]
      cases W2
      · go_wp2_with fail
        go_ret
        exact ⟨rfl, hbo⟩
      · have hlt := HLT.out rfl
        obtain ⟨h0, h1⟩ := hlt
        rw [len_data] at h1
        have h1' : W1 < (s.size : Int) := h1
        go_wp2_with fail
        go_ret
        exact ⟨rfl, hbo⟩

end Go.Proofs.Ytfendecmgcmbjaa
