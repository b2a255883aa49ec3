/- What the families of Gold codes give back, in the program and in the reference. Conditions: as each theorem says. -/
import Derived.Test.YtkebiigpfbconaaR8
namespace Go.Proofs.Ytkebiigpfbconaa
open Go.RowKit
set_option linter.unusedSimpArgs false
set_option linter.unusedVariables false
set_option maxRecDepth 100000

theorem Try.infoStr : (Try.prog.info? 9).map (fun i => (i.zero, i.size, i.bytes)) = some (some (.string ⟨#[]⟩), 1, 16) := by kernel_rfl
def famK (n x y i : Nat) : List (List UInt8) := (List.range i).map fun j : Nat => goldL n x y ((j : Int) - 2)
theorem famK_len (n x y i : Nat) : (famK n x y i).length = i := by simp [famK]
theorem famK_step (n x y i : Nat) : famK n x y (i + 1) = famK n x y i ++ [goldL n x y ((i : Int) - 2)] := by simp [famK, List.range_succ]
theorem famK_at (n x y i j : Nat) (h : j < i) : (famK n x y i)[j]? = some (goldL n x y ((j : Int) - 2)) := by simp [famK, h]
def famL (s a b : Int) : List (List UInt8) := if bothB s a b = true then famK s.toNat a.toNat b.toNat (2 ^ s.toNat + 1) else []
theorem famL_no (s a b : Int) (h : bothB s a b = false) : famL s a b = [] := by unfold famL; rw [h, if_neg (by decide)]
theorem famL_yes (s a b : Int) (h : bothB s a b = true) : famL s a b = famK s.toNat a.toNat b.toNat (2 ^ s.toNat + 1) := by unfold famL; rw [h, if_pos rfl]
theorem famL_len (s a b : Int) : (famL s a b).length ≤ 65 := by
  cases h : bothB s a b
  · rw [famL_no _ _ _ h]; exact Nat.zero_le _
  · obtain ⟨n, x, y, rfl, rfl, rfl, h2, h6, _⟩ := bothB_nat s a b h
    rw [famL_yes _ _ _ h, famK_len, Int.toNat_natCast]
    have h7 : 2 ^ n ≤ 2 ^ 6 := Nat.pow_le_pow_right (by omega) (by omega)
    omega
set_option maxHeartbeats 2000000 in
theorem spec_GoldFamily (s a b : Int) (w : World) :
    Calls Try.prog 28 #[.int .i64 s, .int .i64 a, .int .i64 b] w (RetS 9 ((famL s a b).map ofL) w) := by
  cases hv : bothB s a b
  · rw [famL_no s a b hv]
    have HV := Lib.hid hv
    clear hv
    go_enter Try.func28, Try.ntmps28
    go_wp2_with fail
    have HO := Lib.hid (own_empty w 9 w.heap.size (Nat.le_refl _))
    have HB := (show Below w.heap.size w (w.alloc (.cells #[] 9)) from (Below.refl _ _).alloc (Nat.le_refl _) _)
    generalize w.alloc (.cells #[] 9) = wa at *
    refine (spec_l3Both s a b wa).mono ?_
    rintro e w1 ⟨rfl, hb1⟩
    rw [HV.out]
    go_wp2_with fail
    go_ret
    exact ⟨_, _, _, rfl, own_below HO.out hb1, HB.trans (hb1.mono HB.size)⟩
  · have HV := Lib.hid hv
    obtain ⟨n, x, y, rfl, rfl, rfl, h2, h6, hx, hy, -, -, -, -⟩ := bothB_nat s a b hv
    rw [famL_yes _ _ _ hv, Int.toNat_natCast, Int.toNat_natCast, Int.toNat_natCast]
    have h64 : 2 ^ n ≤ 64 := by have h7 : 2 ^ n ≤ 2 ^ 6 := Nat.pow_le_pow_right (by omega) (by omega); exact h7
    have h4 : 4 ≤ 2 ^ n := by have h7 : 2 ^ 2 ≤ 2 ^ n := Nat.pow_le_pow_right (by omega) h2; exact h7
    have htw := two_int n
    have HT := Lib.hid (show x < 2 ^ n ∧ y < 2 ^ n from ⟨hx, hy⟩)
    obtain ⟨N, hN⟩ : ∃ N, 2 ^ n = N := ⟨_, rfl⟩
    have HN := Lib.hid hN
    rw [hN] at htw h64 h4 ⊢
    clear hv hx hy hN
    go_enter Try.func28, Try.ntmps28
    go_wp2_with fail
    have HO0 := (own_empty w 9 w.heap.size (Nat.le_refl _))
    have HB0 := (show Below w.heap.size w (w.alloc (.cells #[] 9)) from (Below.refl _ _).alloc (Nat.le_refl _) _)
    have hgs : (w.alloc (.cells #[] 9)).heap.size = w.heap.size + 1 := by simp
    generalize w.alloc (.cells #[] 9) = wa at *
    refine (spec_l3Both n x y wa).mono ?_
    rintro e w1 ⟨rfl, hb1⟩
    rw [HV.out]
    have HO := Lib.hid (own_below HO0 hb1)
    have HB := Lib.hid (HB0.trans (hb1.mono HB0.size))
    clear HO0 HB0 hb1 hgs
    go_wp2_with fail
    go_loopw [7, 8] (fun s v wr => ∃ (i m c : Nat) (A : Option Addr), v = .int .i64 ((i : Int) - 2) ∧ s = .slice A m c ∧ wr.ownsRow w.heap.size 9 1 (.slice A m c) m (((famK n x y i).map ofL).map Value.string) ∧ i ≤ N + 1 ∧ Below w.heap.size w wr) (fun _ v _ => (N + 1 - intOf v).toNat)
    case atStart => exact ⟨0, 0, 0, _, rfl, rfl, HO.out, by omega, HB.out⟩
    case round =>
      obtain ⟨i, m, c, A, rfl, rfl, ho, hi, hb⟩ := hrel
      have hml : m = i := by have := ho.1; rw [List.length_map, List.length_map, famK_len] at this; omega
      have hz := hb.size
      subst hml
      have HO1 := Lib.hid ho
      clear ho HO HB
      by_cases hlt : m < N + 1
      · have d0 : decide ((m : Int) - 2 < (N : Int) - 1) = true := decide_eq_true (by omega)
        obtain ⟨wo, rfl⟩ : ∃ wo, wo = wr := ⟨_, rfl⟩
        go_wp2_with (go_at_call 68; refine (spec_l1Two (n : Int) _ (by omega) (by omega)).mono ?_; rintro e w' ⟨rfl, rfl⟩; rw [htw])
        refine (spec_l3Gold n x y ((m : Int) - 2) wo h2 (by omega) HT.out.1 HT.out.2 (by omega) (by rw [HN.out]; omega)).mono ?_
        rintro e w2 ⟨u, rfl, hu, hb2⟩
        obtain rfl := eq_ofL hu
        have hB2 := hb.trans (hb2.mono hz)
        have hz2 := hb2.size
        have HO2 := Lib.hid (own_below HO1.out hb2)
        clear hb hb2 hu
        go_wp2_with (at_builtin; refine wpList_append_rd _ rfl _ _ 30 rfl w.heap.size 9 (.string ⟨#[]⟩) 16 Try.underlying30 Try.infoStr rfl (.slice A m c) _ _ rfl (HO2.out.alloc _) _ _ _ [.string (ofL (goldL n x y ((m : Int) - 2)))] rfl (rd_new _ [.string (ofL (goldL n x y ((m : Int) - 2)))] _ 1 rfl) (by simp [Value.oneCell']) ?_ (by omega) ?_ ?_; omega; simp; omega; intro A' q c' w' hq ho hg; have HQ := Lib.hid hq; have HO3 := Lib.hid ho; have HG := Lib.hid hg; clear hq ho hg)
        go_roundw
        case rel =>
          have hl : ∀ k, Value.ownBlock (.slice A m c) = some k → w.heap.size ≤ k := fun k hk => (HO2.out.lt k hk).1
          exact ⟨m + 1, q, c', A', by go_num, rfl, by rw [famK_step, List.map_append, List.map_append]; exact HO3.out, by omega, (hB2.alloc (by omega) _).grown HG.out (by simp; omega) hl⟩
        case measure => simp [intOf] <;> omega
      · have d0 : decide ((m : Int) - 2 < (N : Int) - 1) = false := decide_eq_false (by omega)
        obtain rfl : N + 1 = m := by omega
        go_wp2_with (go_at_call 68; refine (spec_l1Two (n : Int) _ (by omega) (by omega)).mono ?_; rintro e w' ⟨rfl, rfl⟩; rw [htw])
        go_ret
        exact ⟨_, _, _, rfl, HO1.out, hb⟩
set_option maxHeartbeats 2000000 in
theorem impl_GoldFamily (s a b : Int) (w : World) :
    Calls Try.prog 26 #[.int .i64 s, .int .i64 a, .int .i64 b] w (RetS 9 ((famL s a b).map ofL) w) := by
  obtain ⟨N, hNb, hin, hout⟩ : ∃ N : Nat, N ≤ 65 ∧ (∀ i : Nat, i < N → (goldC s a b ((i : Int) - 2)) = (goldL s.toNat a.toNat b.toNat ((i : Int) - 2), true)) ∧ (∀ i : Nat, i = N → goldC s a b ((i : Int) - 2) = ([], false) ∧ famL s a b = famK s.toNat a.toNat b.toNat N) := by
    cases hv : bothB s a b
    · exact ⟨0, by omega, fun i hi => by omega, fun i hi => ⟨goldC_no _ _ _ _ hv, by rw [famL_no _ _ _ hv]; rfl⟩⟩
    · obtain ⟨n, x, y, rfl, rfl, rfl, h2, h6, _⟩ := bothB_nat s a b hv
      have h64 : 2 ^ n ≤ 64 := by have h7 : 2 ^ n ≤ 2 ^ 6 := Nat.pow_le_pow_right (by omega) (by omega); exact h7
      have htw := two_int n
      refine ⟨2 ^ n + 1, by omega, fun i hi => goldC_in _ _ _ _ hv (by omega) (by omega), fun i hi => ⟨goldC_out _ _ _ _ (by omega), by rw [famL_yes _ _ _ hv, Int.toNat_natCast]⟩⟩
  have HIN := Lib.hid hin
  have HOUT := Lib.hid hout
  clear hin hout
  go_enter Try.func26, Try.ntmps26
  go_wp2_with fail
  have HO := Lib.hid (own_empty w 9 w.heap.size (Nat.le_refl _))
  have HB := Lib.hid (show Below w.heap.size w (w.alloc (.cells #[] 9)) from (Below.refl _ _).alloc (Nat.le_refl _) _)
  go_loopw [7, 8] (fun s' v wr => ∃ (i m c : Nat) (A : Option Addr), v = .int .i64 ((i : Int) - 2) ∧ s' = .slice A m c ∧ wr.ownsRow w.heap.size 9 1 (.slice A m c) m (((famK s.toNat a.toNat b.toNat i).map ofL).map Value.string) ∧ i ≤ N ∧ Below w.heap.size w wr) (fun _ v _ => (N + 1 - intOf v).toNat)
  case atStart => exact ⟨0, 0, 0, _, rfl, rfl, HO.out, by omega, HB.out⟩
  case round =>
    obtain ⟨i, m, c, A, rfl, rfl, ho, hi, hb⟩ := hrel
    have hml : m = i := by have := ho.1; rw [List.length_map, List.length_map, famK_len] at this; omega
    have hz := hb.size
    subst hml
    have HO1 := Lib.hid ho
    clear ho HO HB
    by_cases hlt : m < N
    · obtain ⟨wo, rfl⟩ : ∃ wo, wo = wr := ⟨_, rfl⟩
      have hcall := impl_GoldCode s a b ((m : Int) - 2) wo
      rw [HIN.out m hlt] at hcall
      go_wp2_with fail
      refine hcall.mono ?_
      clear hcall
      rintro e w2 ⟨u, rfl, hu, hb2⟩
      obtain rfl := eq_ofL hu
      have hB2 := hb.trans (hb2.mono hz)
      have hz2 := hb2.size
      have HO2 := Lib.hid (own_below HO1.out hb2)
      clear hb hb2 hu
      go_wp2_with (at_builtin; refine wpList_append_rd _ rfl _ _ 30 rfl w.heap.size 9 (.string ⟨#[]⟩) 16 Try.underlying30 Try.infoStr rfl (.slice A m c) _ _ rfl (HO2.out.alloc _) _ _ _ [.string (ofL (goldL s.toNat a.toNat b.toNat ((m : Int) - 2)))] rfl (rd_new _ [.string (ofL (goldL s.toNat a.toNat b.toNat ((m : Int) - 2)))] _ 1 rfl) (by simp [Value.oneCell']) ?_ (by omega) ?_ ?_; omega; simp; omega; intro A' q c' w' hq ho hg; have HQ := Lib.hid hq; have HO3 := Lib.hid ho; have HG := Lib.hid hg; clear hq ho hg)
      go_roundw
      case rel =>
        have hl : ∀ k, Value.ownBlock (.slice A m c) = some k → w.heap.size ≤ k := fun k hk => (HO2.out.lt k hk).1
        exact ⟨m + 1, q, c', A', by go_num, rfl, by rw [famK_step, List.map_append, List.map_append]; exact HO3.out, by omega, (hB2.alloc (by omega) _).grown HG.out (by simp; omega) hl⟩
      case measure => simp [intOf] <;> omega
    · obtain rfl : m = N := by omega
      obtain ⟨wo, rfl⟩ : ∃ wo, wo = wr := ⟨_, rfl⟩
      have hcall := impl_GoldCode s a b ((m : Int) - 2) wo
      rw [(HOUT.out m rfl).1] at hcall
      go_wp2_with fail
      refine hcall.mono ?_
      clear hcall
      rintro e w2 ⟨u, rfl, hu, hb2⟩
      clear hu
      go_wp2_with fail
      go_ret
      exact ⟨_, _, _, rfl, by rw [(HOUT.out m rfl).2]; exact own_below HO1.out hb2, hb.trans (hb2.mono hz)⟩

end Go.Proofs.Ytkebiigpfbconaa
