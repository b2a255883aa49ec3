/- Marks on lists of users. Conditions: as each theorem says. -/
import Derived.Test.YtlddefmakjnfdaaUsr2
import Derived.Test.YtlddefmakjnfdaaMarkT
namespace Go.Proofs.Ytlddefmakjnfdaa
open Go.RowKit
set_option linter.unusedSimpArgs false
set_option linter.unusedVariables false
set_option maxRecDepth 100000

theorem list_at {xs : List Value} {i N : Nat} (h : xs.length = N) (hi : i < N) : ∃ u, xs[i]? = some u := ⟨_, List.getElem?_eq_getElem (by omega)⟩
set_option maxHeartbeats 4000000 in
theorem laws_markUserS (B : Nat) (A : Option Addr) (n c : Nat) (xs : List Value) (w : World) (ho : w.ownsRow B 55 4 (.slice A n c) n xs) (hn : n ≤ 1048576) :
    Calls Try.prog 35 #[.slice A n c, .int .i64 1] w fun e w' => e = .returned (.int .i64 ((1 + 4 * n : Nat) : Int)) ∧ w.grownBy w' (Value.ownBlock (.slice A n c)) := by
  go_enter Try.func35, Try.ntmps35
  go_wp2
  go_loopw [1, 5] (fun q v wr => ∃ (j : Nat) (ys : List Value), j ≤ n ∧ v = .int .i64 j ∧ q = .int .i64 ((1 + 4 * j : Nat) : Int) ∧ wr.ownsRow B 55 4 (.slice A n c) n ys ∧ w.grownBy wr (Value.ownBlock (.slice A n c))) (fun _ v _ => n - (intOf v).toNat)
  case atStart => exact ⟨0, xs, Nat.zero_le _, rfl, by simp, ho, grown_refl _ _⟩
  case round =>
    obtain ⟨j, ys, hj, rfl, rfl, hw, hg⟩ := hrel
    by_cases hlt : j < n
    · obtain ⟨g, rfl, hBg, hgl⟩ := own_some hw hlt
      have HW := Lib.hid hw
      have HG := Lib.hid hg
      clear hw ho hg
      obtain ⟨wo, rfl⟩ : ∃ wo, wo = wr := ⟨_, rfl⟩
      go_wp2_with fail
      rw [show ((1 : Int) + 4 * (j : Int)) = ((1 + 4 * j : Nat) : Int) by omega]
      refine (laws_markText (1 + 4 * j) wo (by omega) (by omega)).mono ?_
      rintro e w2 ⟨u, rfl, hu, hb2⟩
      have hw2 := own_below HW.out hb2
      obtain ⟨v0, hv0⟩ := list_at (i := j * 4) hw2.1 (by omega)
      have hc0 := (hw2.cellAt (j * 4) (by omega)).trans hv0
      have hf0 := hw2.frozenAt (j * 4)
      have hs1 := hw2.stored (j * 4) (.string u)
      have HS1 := Lib.hid hs1.1
      have HG1 := Lib.hid (grown_trans HG.out (grown_trans (below_grown hb2 _) hs1.2))
      clear hw2 hv0 hs1 hu hb2 HW HG
      go_wp2_with fail
      clear hc0 hf0
      generalize w2.setCell ⟨g, j * 4, none⟩ (.string u) = w3 at *
      rw [show ((1 : Int) + 4 * (j : Int) + 1) = ((1 + 4 * j + 1 : Nat) : Int) by omega]
      refine (laws_markText (1 + 4 * j + 1) w3 (by omega) (by omega)).mono ?_
      rintro e w4 ⟨u2, rfl, hu2, hb4⟩
      have hw4 := own_below HS1.out hb4
      obtain ⟨v1, hv1⟩ := list_at (i := j * 4 + 1) hw4.1 (by omega)
      obtain ⟨v2, hv2⟩ := list_at (i := j * 4 + 2) hw4.1 (by omega)
      obtain ⟨v3, hv3⟩ := list_at (i := j * 4 + 3) hw4.1 (by omega)
      have hc1 := (hw4.cellAt (j * 4 + 1) (by omega)).trans hv1
      have hc2 := (hw4.cellAt (j * 4 + 2) (by omega)).trans hv2
      have hc3 := (hw4.cellAt (j * 4 + 3) (by omega)).trans hv3
      have hf1 := hw4.frozenAt (j * 4 + 1)
      have hf2 := hw4.frozenAt (j * 4 + 2)
      have hf3 := hw4.frozenAt (j * 4 + 3)
      have ht1 := hw4.stored (j * 4 + 1) (.string u2)
      have ht2 := ht1.1.stored (j * 4 + 2) (.int .i64 (1 + 4 * (j : Int) + 1 + 1))
      have ht3 := ht2.1.stored (j * 4 + 3) (.int .i64 (1 + 4 * (j : Int) + 1 + 1 + 1))
      have hg1 := ht1.1.frozenAt (j * 4 + 2)
      have hg2 := ht2.1.frozenAt (j * 4 + 3)
      have HT := Lib.hid ht3.1
      have HGT := Lib.hid (grown_trans HG1.out (grown_trans (below_grown hb4 _) (grown_trans ht1.2 (grown_trans ht2.2 ht3.2))))
      clear hw4 hv1 hv2 hv3 ht1 ht2 ht3 hu2 hb4 HS1 HG1
      go_wp2_with fail
      go_roundw
      case rel => exact ⟨j + 1, _, by omega, by go_num, by rw [show ((1 + 4 * (j + 1) : Nat) : Int) = 1 + 4 * (j : Int) + 1 + 1 + 1 + 1 by omega], HT.out, HGT.out⟩
      case measure => simp [intOf]; omega
    · obtain rfl : j = n := by omega
      have HG := Lib.hid hg
      clear hw hg ho
      go_wp2
      go_ret
      exact ⟨rfl, HG.out⟩

end Go.Proofs.Ytlddefmakjnfdaa
