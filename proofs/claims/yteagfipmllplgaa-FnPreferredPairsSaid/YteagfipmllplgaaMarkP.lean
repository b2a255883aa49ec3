/- What the laws' helpers on lists of pairs do. Conditions: as each theorem says. -/
import Derived.Test.YteagfipmllplgaaPairs
namespace Go.Proofs.Yteagfipmllplgaa
open Go.RowKit
set_option linter.unusedSimpArgs false
set_option linter.unusedVariables false
set_option maxRecDepth 100000

def RdP (w : World) (A : Option Addr) (n : Nat) (ps : List (Int × Int)) : Prop := Rd w A n 2 (pcells ps)
theorem RdP.len {w : World} {A : Option Addr} {n : Nat} {ps : List (Int × Int)} (h : RdP w A n ps) : ps.length = n := by
  have := h.1; rw [pcells_len] at this; omega
theorem RdP.at {w : World} {A : Option Addr} {n : Nat} {ps : List (Int × Int)} (h : RdP w A n ps) {i : Nat} (hi : i < n) :
    ∃ b o x y, A = some ⟨b, o, none⟩ ∧ b < w.heap.size ∧ Hid (ps[i]? = some (x, y)) ∧ w.cell? ⟨b, o + i * 2, none⟩ = some (.int .i64 x) ∧ w.cell? ⟨b, o + i * 2 + 1, none⟩ = some (.int .i64 y) := by
  obtain ⟨b, o, hA, hb, hc⟩ := h.2 (by omega)
  have hl := h.len
  have hx : ps[i]? = some ps[i] := List.getElem?_eq_getElem (by omega)
  have h2 := pcells_at ps i _ hx
  exact ⟨b, o, ps[i].1, ps[i].2, hA, hb, hx, hc _ _ h2.1, by rw [Nat.add_assoc]; exact hc _ _ h2.2⟩
theorem own_rdP {w : World} {base E n c : Nat} {A : Option Addr} {ps : List (Int × Int)} (h : w.ownsRow base E 2 (.slice A n c) n (pcells ps)) : RdP w A n ps := own_rd h
set_option maxHeartbeats 400000 in
theorem laws_eqPair (a b c d : Int) (w : World) :
    Calls Try.prog 64 #[.agg #[.int .i64 a, .int .i64 b], .agg #[.int .i64 c, .int .i64 d]] w fun e w' => e = .returned (.bool (decide ((a, b) = (c, d)))) ∧ Below w.heap.size w w' := by
  by_cases h1 : a = c
  · subst h1
    by_cases h2 : b = d
    · subst h2
      have e1 : (a != a) = false := by simp
      have e2 : (b != b) = false := by simp
      rw [decide_eq_true (show (a, b) = (a, b) from rfl)]
      go_enter Try.func64, Try.ntmps64
      go_wp2
      go_ret
      exact ⟨rfl, ((Below.refl _ _).alloc (Nat.le_refl _) _).alloc (by simp) _⟩
    · have e1 : (a != a) = false := by simp
      have e2 : (b != d) = true := by simpa using h2
      rw [decide_eq_false (show ¬ (a, b) = (a, d) from fun h => h2 (by injection h))]
      go_enter Try.func64, Try.ntmps64
      go_wp2
      go_ret
      exact ⟨rfl, ((Below.refl _ _).alloc (Nat.le_refl _) _).alloc (by simp) _⟩
  · have e1 : (a != c) = true := by simpa using h1
    rw [decide_eq_false (show ¬ (a, b) = (c, d) from fun h => h1 (by injection h))]
    go_enter Try.func64, Try.ntmps64
    go_wp2
    go_ret
    exact ⟨rfl, ((Below.refl _ _).alloc (Nat.le_refl _) _).alloc (by simp) _⟩
set_option maxHeartbeats 1000000 in
theorem laws_eqPairS (A A' : Option Addr) (n c n' c' : Nat) (xs ys : List (Int × Int)) (w : World) (hx : RdP w A n xs) (hy : RdP w A' n' ys) (hn : n ≤ 1048576) :
    Calls Try.prog 19 #[.slice A n c, .slice A' n' c'] w fun e w' => e = .returned (.bool (decide (xs = ys))) ∧ Below w.heap.size w w' := by
  have lx := hx.len
  have ly := hy.len
  by_cases hnn : n = n'
  · subst hnn
    have LX := Lib.hid lx
    have LY := Lib.hid ly
    clear lx ly
    go_enter Try.func19, Try.ntmps19
    go_wp2
    go_loopw [5] (fun v wr => ∃ k : Nat, k ≤ n ∧ v = .int .i64 k ∧ Hid (xs.take k = ys.take k) ∧ Below w.heap.size w wr) (fun v _ => n - (intOf v).toNat)
    case atStart => exact ⟨0, Nat.zero_le _, rfl, rfl, Below.refl _ _⟩
    case round =>
      obtain ⟨k, hk, rfl, ht, hb⟩ := hrel
      have hz := hb.size
      by_cases hlt : k < n
      · obtain ⟨b, o, x1, x2, rfl, hgl, hxx, hc1, hc2⟩ := hx.at hlt
        obtain ⟨b', o', y1, y2, rfl, hgl', hyy, hd1, hd2⟩ := hy.at hlt
        replace hc1 := (hb.cell (p := ⟨b, o + k * 2, none⟩) hgl).trans hc1
        replace hc2 := (hb.cell (p := ⟨b, o + k * 2 + 1, none⟩) hgl).trans hc2
        replace hd1 := (hb.cell (p := ⟨b', o' + k * 2, none⟩) hgl').trans hd1
        replace hd2 := (hb.cell (p := ⟨b', o' + k * 2 + 1, none⟩) hgl').trans hd2
        have hc1' : wr.drew.cell? ⟨b, o + k * 2, none⟩ = some (.int .i64 x1) := hc1
        have hc2' : wr.drew.cell? ⟨b, o + k * 2 + 1, none⟩ = some (.int .i64 x2) := hc2
        have hd1' : wr.drew.cell? ⟨b', o' + k * 2, none⟩ = some (.int .i64 y1) := hd1
        have hd2' : wr.drew.cell? ⟨b', o' + k * 2 + 1, none⟩ = some (.int .i64 y2) := hd2
        obtain ⟨f, hf⟩ : ∃ f, decide ((x1, x2) = (y1, y2)) = f := ⟨_, rfl⟩
        have HF := Lib.hid hf
        clear hf
        obtain ⟨wq, rfl⟩ : ∃ wq, wq = wr := ⟨_, rfl⟩
        go_wp2_with fail
        go_region_held3 (fun w' => w'.cell? ⟨b, o + k * 2, none⟩ = some (.int .i64 x1) ∧ w'.cell? ⟨b, o + k * 2 + 1, none⟩ = some (.int .i64 x2) ∧ w'.cell? ⟨b', o' + k * 2, none⟩ = some (.int .i64 y1) ∧ w'.cell? ⟨b', o' + k * 2 + 1, none⟩ = some (.int .i64 y2)) (first | exact ⟨hc1, hc2, hd1, hd2⟩ | exact ⟨hc1', hc2', hd1', hd2'⟩ | exact ⟨he1, he2, hf1, hf2⟩) ((go_at_call 64; refine (laws_eqPair x1 x2 y1 y2 _).mono ?_; rintro e w2 ⟨rfl, hb2⟩; rw [HF.out]; have he1 : w2.cell? ⟨b, o + k * 2, none⟩ = some (.int .i64 x1) := (hb2.cell (p := ⟨b, o + k * 2, none⟩) (Nat.lt_of_lt_of_le hgl hz)).trans hc1; have he2 : w2.cell? ⟨b, o + k * 2 + 1, none⟩ = some (.int .i64 x2) := (hb2.cell (p := ⟨b, o + k * 2 + 1, none⟩) (Nat.lt_of_lt_of_le hgl hz)).trans hc2; have hf1 : w2.cell? ⟨b', o' + k * 2, none⟩ = some (.int .i64 y1) := (hb2.cell (p := ⟨b', o' + k * 2, none⟩) (Nat.lt_of_lt_of_le hgl' hz)).trans hd1; have hf2 : w2.cell? ⟨b', o' + k * 2 + 1, none⟩ = some (.int .i64 y2) := (hb2.cell (p := ⟨b', o' + k * 2 + 1, none⟩) (Nat.lt_of_lt_of_le hgl' hz)).trans hd2))
        have hB2 : Below w.heap.size w w2 := hb.trans ((show Below wq.heap.size wq w2 from ⟨hb2.os, hb2.tape, hb2.output, hb2.size, hb2.block⟩).mono hz)
        cases f
        case true =>
          have HXY := Lib.hid (of_decide_eq_true HF.out)
          go_wp2_with fail
          go_roundw
          case rel => exact ⟨k + 1, by omega, by go_num, take_snoc_eq _ _ _ _ _ hxx.out hyy.out ht.out HXY.out, hB2⟩
          case measure => simp [intOf]; omega
        case false =>
          have HXY := Lib.hid (of_decide_eq_false HF.out)
          go_wp2_with fail
          go_ret
          exact ⟨ret_bool (decide_eq_false (ne_of_at _ _ _ _ _ hxx.out hyy.out HXY.out)).symm, hB2⟩
      · go_wp2
        go_ret
        have e1 : xs.take k = xs := List.take_of_length_le (by rw [LX.out]; omega)
        have e2 : ys.take k = ys := List.take_of_length_le (by rw [LY.out]; omega)
        have h3 := ht.out
        rw [e1, e2] at h3
        exact ⟨ret_bool (decide_eq_true h3).symm, hb⟩
  · have hne : ((n : Int) != (n' : Int)) = true := by simp; omega
    go_enter Try.func19, Try.ntmps19
    go_wp2
    go_ret
    exact ⟨ret_bool (decide_eq_false (by rintro rfl; omega)).symm, Below.refl _ _⟩
def pmarks (k : Int) (n : Nat) : List (Int × Int) := (List.range n).map fun (i : Nat) => (k + 2 * (i : Int), k + 2 * (i : Int) + 1)
theorem pmarks_len (k : Int) (n : Nat) : (pmarks k n).length = n := by simp [pmarks]
theorem pmarks_at (k : Int) (n i : Nat) (h : i < n) : (pmarks k n)[i]? = some (k + 2 * (i : Int), k + 2 * (i : Int) + 1) := by simp [pmarks, h]
set_option maxHeartbeats 1000000 in
theorem laws_markPairS (B : Nat) (A : Option Addr) (n c : Nat) (xs : List Value) (k : Int) (w : World) (ho : w.ownsRow B 40 2 (.slice A n c) n xs) (h0 : 0 ≤ k) (h1 : k ≤ 1099511627776) (hn : n ≤ 1099511627776) :
    Calls Try.prog 20 #[.slice A n c, .int .i64 k] w fun e w' => e = .returned (.int .i64 (k + 2 * (n : Int))) ∧ w'.ownsRow B 40 2 (.slice A n c) n (pcells (pmarks k n)) ∧ w.grownBy w' (Value.ownBlock (.slice A n c)) := by
  have hl : xs.length = n * 2 := ho.1
  have HL := Lib.hid hl
  have HM := Lib.hid (show (pcells (pmarks k n)).length = n * 2 by rw [pcells_len, pmarks_len])
  clear hl
  go_enter Try.func20, Try.ntmps20
  go_wp2
  go_loopw [1, 5] (fun q v wr => ∃ j : Nat, j ≤ n ∧ v = .int .i64 j ∧ q = .int .i64 (k + 2 * j) ∧ wr.ownsRow B 40 2 (.slice A n c) n (Mix (pcells (pmarks k n)) xs (j * 2)) ∧ w.grownBy wr (Value.ownBlock (.slice A n c))) (fun _ v _ => n - (intOf v).toNat)
  case atStart => exact ⟨0, Nat.zero_le _, rfl, by simp, by rw [Nat.zero_mul, mix_zero]; exact ho, grown_refl _ _⟩
  case round =>
    obtain ⟨j, hj, rfl, rfl, hw, hg⟩ := hrel
    by_cases hlt : j < n
    · obtain ⟨g, rfl, hBg, hgl⟩ := own_some hw hlt
      obtain ⟨u, hu⟩ := mix_at (pcells (pmarks k n)) xs (j * 2) (by rw [HM.out]; omega) (by rw [HL.out]; omega)
      have hc := (hw.cellAt (j * 2) (by omega)).trans hu
      have hf := hw.frozenAt (j * 2)
      have hf1 := hw.frozenAt (j * 2 + 1)
      have hp := pcells_at (pmarks k n) j _ (pmarks_at k n j hlt)
      have hs1 := hw.stored (j * 2) (.int .i64 (k + 2 * j))
      rw [mix_set _ _ _ _ hp.1 (by rw [HL.out]; omega)] at hs1
      obtain ⟨u2, hu2⟩ := mix_at (pcells (pmarks k n)) xs (j * 2 + 1) (by rw [HM.out]; omega) (by rw [HL.out]; omega)
      have hc2 := (hs1.1.cellAt (j * 2 + 1) (by omega)).trans hu2
      have hs2 := hs1.1.stored (j * 2 + 1) (.int .i64 (k + 2 * j + 1))
      rw [mix_set _ _ _ _ hp.2 (by rw [HL.out]; omega)] at hs2
      have HS := Lib.hid (show _ ∧ _ from ⟨hs2.1, grown_trans hg (grown_trans hs1.2 hs2.2)⟩)
      have hf2 := hs1.1.frozenAt (j * 2 + 1)
      clear hw hu hu2 hs1 hs2 hp ho hg
      go_wp2
      go_roundw
      case rel => exact ⟨j + 1, by omega, by go_num, by rw [show k + 2 * (((j + 1 : Nat)) : Int) = k + 2 * (j : Int) + 1 + 1 by omega], by rw [show (j + 1) * 2 = j * 2 + 1 + 1 by omega]; exact HS.out.1, HS.out.2⟩
      case measure => simp [intOf]; omega
    · obtain rfl : j = n := by omega
      rw [mix_full _ _ _ (by rw [HM.out]; exact Nat.le_refl _) (by rw [HL.out]; exact Nat.le_refl _)] at hw
      have HW := Lib.hid hw
      have HG := Lib.hid hg
      clear hw hg ho
      go_wp2
      go_ret
      exact ⟨rfl, HW.out, HG.out⟩
set_option maxHeartbeats 1000000 in
theorem laws_heldPairS (A : Option Addr) (n c : Nat) (k : Int) (w : World) (hx : RdP w A n (pmarks k n)) (h0 : 0 ≤ k) (h1 : k ≤ 1099511627776) (hn : n ≤ 1099511627776) :
    Calls Try.prog 21 #[.slice A n c, .int .i64 k] w fun e w' => e = .returned (.int .i64 (k + 2 * (n : Int))) ∧ w = w' := by
  go_enter Try.func21, Try.ntmps21
  go_wp2
  go_loop [1, 5] (fun q v => ∃ j : Nat, j ≤ n ∧ v = .int .i64 j ∧ q = .int .i64 (k + 2 * j)) (fun _ v => n - (intOf v).toNat)
  case atStart => exact ⟨0, Nat.zero_le _, rfl, by simp⟩
  case round =>
    obtain ⟨j, hj, rfl, rfl⟩ := hrel
    by_cases hlt : j < n
    · obtain ⟨b, o, x, y, rfl, hb, hxx, hc1, hc2⟩ := hx.at hlt
      obtain ⟨rfl, rfl⟩ : x = k + 2 * (j : Int) ∧ y = k + 2 * (j : Int) + 1 := by have h3 := hxx.out; rw [pmarks_at _ _ _ hlt] at h3; injection h3 with h3; injection h3 with h4 h5; exact ⟨h4.symm, h5.symm⟩
      have hne : ((k + 2 * (j : Int)) != (k + 2 * (j : Int))) = false := by simp
      have hne2 : ((k + 2 * (j : Int) + 1) != (k + 2 * (j : Int) + 1)) = false := by simp
      go_wp2
      go_round
      case rel => exact ⟨j + 1, by omega, by go_num, by rw [show k + 2 * (((j + 1 : Nat)) : Int) = k + 2 * (j : Int) + 1 + 1 by omega]⟩
      case measure => simp [intOf]; omega
    · obtain rfl : j = n := by omega
      go_wp2
      go_ret
      exact ⟨rfl, rfl⟩

end Go.Proofs.Yteagfipmllplgaa
