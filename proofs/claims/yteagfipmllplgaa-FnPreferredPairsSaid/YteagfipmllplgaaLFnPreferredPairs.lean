/- The walk of the law on PreferredPairs. Conditions: as the theorem says. -/
import Derived.Test.YteagfipmllplgaaR11
import Derived.Test.YteagfipmllplgaaPureR
import Derived.Test.YteagfipmllplgaaPureK
import Derived.BigQuiet
import Derived.Laws.StructEq
namespace Go.Proofs.Yteagfipmllplgaa
open Go.RowKit
set_option linter.unusedSimpArgs false
set_option linter.unusedVariables false
set_option maxRecDepth 100000

theorem isPref_swap2 (s a b : Int) : isPrefC s b a = isPrefC s a b := by
  unfold isPrefC
  rw [show bothB s b a = bothB s a b by unfold bothB; rw [Bool.and_comm (maxI s b)]]
  rw [show prefN s.toNat b.toNat a.toNat = prefN s.toNat a.toNat b.toNat by unfold prefN; rw [vals_swap]]
  rw [show decide (b ≠ a) = decide (a ≠ b) by rw [Bool.eq_iff_iff]; simp only [decide_eq_true_eq]; exact ⟨fun h e => h e.symm, fun h e => h e.symm⟩]
def lexP (p q : Int × Int) : Prop := p.1 < q.1 ∨ p.1 = q.1 ∧ p.2 < q.2
theorem pk_mem (n : Nat) (l : List Int) (i k : Nat) (p : Int × Int) (h : p ∈ pk n l i k) : ∃ j, i < j ∧ j < k ∧ p = (l.getD i 0, l.getD j 0) := by
  induction k with
  | zero => unfold pk at h; cases h
  | succ k ih =>
    unfold pk at h
    split at h
    · rename_i hc
      rcases List.mem_append.1 h with h | h
      · obtain ⟨j, h1, h2, h3⟩ := ih h
        exact ⟨j, h1, by omega, h3⟩
      · rw [List.mem_singleton] at h
        exact ⟨k, hc.1, by omega, h⟩
    · obtain ⟨j, h1, h2, h3⟩ := ih h
      exact ⟨j, h1, by omega, h3⟩
theorem pi_mem (n : Nat) (l : List Int) (i : Nat) (p : Int × Int) (h : p ∈ pi n l i) : ∃ i' j, i' < i ∧ i' < j ∧ j < l.length ∧ p = (l.getD i' 0, l.getD j 0) := by
  induction i with
  | zero => unfold pi at h; cases h
  | succ i ih =>
    unfold pi at h
    rcases List.mem_append.1 h with h | h
    · obtain ⟨i', j, h1, h2⟩ := ih h
      exact ⟨i', j, by omega, h2⟩
    · obtain ⟨j, h1, h2, h3⟩ := pk_mem n l i _ p h
      exact ⟨i, j, by omega, h1, h2, h3⟩
theorem getD_lt (l : List Int) (hs : l.Pairwise (· < ·)) (i j : Nat) (h : i < j) (hj : j < l.length) : l.getD i 0 < l.getD j 0 := by
  have h1 : l.getD i 0 = l[i] := by simp [List.getD, List.getElem?_eq_getElem (show i < l.length by omega)]
  have h2 : l.getD j 0 = l[j] := by simp [List.getD, List.getElem?_eq_getElem hj]
  rw [h1, h2]
  exact List.pairwise_iff_getElem.1 hs i j (by omega) hj h
theorem pk_lex (n : Nat) (l : List Int) (hs : l.Pairwise (· < ·)) (i k : Nat) (hk : k ≤ l.length) : (pk n l i k).Pairwise lexP := by
  induction k with
  | zero => exact List.Pairwise.nil
  | succ k ih =>
    unfold pk
    split
    · refine List.pairwise_append.2 ⟨ih (by omega), List.pairwise_singleton _ _, fun p hp q hq => ?_⟩
      rw [List.mem_singleton] at hq
      subst hq
      obtain ⟨j, h1, h2, rfl⟩ := pk_mem n l i k p hp
      exact .inr ⟨rfl, getD_lt l hs j k h2 (by omega)⟩
    · exact ih (by omega)
theorem pi_lex (n : Nat) (l : List Int) (hs : l.Pairwise (· < ·)) (i : Nat) (hi : i ≤ l.length) : (pi n l i).Pairwise lexP := by
  induction i with
  | zero => exact List.Pairwise.nil
  | succ i ih =>
    unfold pi
    refine List.pairwise_append.2 ⟨ih (by omega), pk_lex n l hs i _ (Nat.le_refl _), fun p hp q hq => ?_⟩
    obtain ⟨i', j, h1, _, _, rfl⟩ := pi_mem n l i p hp
    obtain ⟨j', _, _, rfl⟩ := pk_mem n l i _ q hq
    exact .inl (getD_lt l hs i' i h1 (by omega))
def gcnt (n : Nat) (l : List Int) (i k : Nat) : Int := if i < k ∧ prefI n (l.getD i 0) (l.getD k 0) = true then 1 else 0
theorem pk_cnt (n : Nat) (l : List Int) (i k : Nat) : ((pk n l i k).length : Int) = sumTo (gcnt n l i) k := by
  induction k with
  | zero => rfl
  | succ k ih =>
    rw [sumTo_succ, ← ih, show pk n l i (k + 1) = if i < k ∧ prefI n (l.getD i 0) (l.getD k 0) = true then pk n l i k ++ [(l.getD i 0, l.getD k 0)] else pk n l i k from rfl]
    unfold gcnt
    split
    · rw [List.length_append, List.length_singleton]; omega
    · omega
theorem pi_cnt (n : Nat) (l : List Int) (i : Nat) : ((pi n l i).length : Int) = sumTo (fun i => sumTo (gcnt n l i) l.length) i := by
  induction i with
  | zero => rfl
  | succ i ih =>
    rw [sumTo_succ, ← ih, ← pk_cnt, show pi n l (i + 1) = pi n l i ++ pk n l i l.length from rfl, List.length_append]; omega
theorem pairs_cnt (n : Nat) (l : List Int) : sumTo (fun i => sumTo (fun k => gcnt n l k i) i) l.length = ((pi n l l.length).length : Int) := by
  rw [pi_cnt, sumTo_swap]
  refine sumTo_congr _ _ _ fun i hi => ?_
  exact sumTo_tail _ i l.length (by omega) fun k h1 h2 => by unfold gcnt; rw [if_neg (by omega)]
theorem gcnt_bd (n : Nat) (l : List Int) (i k : Nat) : 0 ≤ gcnt n l k i ∧ gcnt n l k i ≤ 1 := by unfold gcnt; split <;> omega
theorem gcnt_sum (n : Nat) (l : List Int) (i : Nat) : ∀ k : Nat, 0 ≤ sumTo (fun k => gcnt n l k i) k ∧ sumTo (fun k => gcnt n l k i) k ≤ k
  | 0 => by show (0 : Int) ≤ 0 ∧ (0 : Int) ≤ _; omega
  | k + 1 => by have := gcnt_sum n l i k; have := gcnt_bd n l i k; rw [sumTo_succ]; omega
theorem gcnt_sums (n : Nat) (l : List Int) (h : l.length ≤ 255) : ∀ i : Nat, i ≤ l.length → 0 ≤ sumTo (fun i => sumTo (fun k => gcnt n l k i) i) i ∧ sumTo (fun i => sumTo (fun k => gcnt n l k i) i) i ≤ 255 * i
  | 0, _ => by show (0 : Int) ≤ 0 ∧ (0 : Int) ≤ _; omega
  | i + 1, hi => by have := gcnt_sums n l h i (by omega); have := gcnt_sum n l i i; rw [sumTo_succ]; omega
set_option maxHeartbeats 1000000 in
theorem spec_DrawPreferredPairs (A : Option Addr) (n c : Nat) (zs : List Int) (w : World) (hx : RowIn .u8 w A n c zs) :
    Calls Try.prog 31 #[.slice A n c] w fun e w' => ∃ s : Int, e = .returned (.int .i64 s) ∧ s ≤ 7 ∧ Below w.heap.size w w' := by
  go_enter Try.func31, Try.ntmps31
  go_wp2_with fail
  refine (rd_open _ _ _ _ _ hx).mono ?_
  rintro e w1 ⟨g, rfl, hg, hr1, hb1⟩
  have hs1 := hb1.size
  go_wp2_with fail
  refine (rd_num_lit g [3, 5, 4, 2, 3, 5, 1, 7, -1] _ 9 _ w1 hr1 (by omega) rfl rfl (by decide) (by decide)).mono ?_
  rintro e w2 ⟨z, rfl, hz, hb2, hr2⟩
  have hz7 : z ≤ 7 := by
    simp only [List.mem_cons, List.not_mem_nil, or_false] at hz
    omega
  clear hz
  go_wp2_with fail
  go_ret
  exact ⟨z, rfl, hz7, hb1.trans ((hb2.mono hs1).to_below hg)⟩
set_option maxHeartbeats 8000000 in
theorem walk_FnPreferredPairs (A0 : Option Addr) (n0 c0 : Nat) (z0 : List Int) (w : World) (h0 : RowIn .u8 w A0 n0 c0 z0) :
    Calls Try.prog 8 #[.slice A0 n0 c0] w fun e w' => e = .returned (.bool true) ∧ Below w.heap.size w w' := by
  by_cases hs0 : 1048576 < n0
  · go_enter Try.func8, Try.ntmps8
    go_wp2
    go_ret
    exact ⟨rfl, Below.refl _ _⟩
  replace hs0 : n0 ≤ 1048576 := by omega
  go_enter Try.func8, Try.ntmps8
  go_wp2_with fail
  refine (spec_DrawPreferredPairs _ _ _ _ _ h0).mono ?_
  rintro e w1 ⟨s, rfl, h7, hB1⟩
  clear h0
  have hS1 := hB1.size
  have hplen := prefsC_len0 s
  go_wp2_with fail
  refine (impl_PreferredPairs s w1).mono ?_
  rintro e w2 ⟨A, n, c, rfl, ho, hb2⟩
  have hB2 := hB1.trans (hb2.mono hS1)
  have hS2 := hB2.size
  have OL2 := Lib.hid ho
  have hnl := ownP_num ho
  clear hb2 ho
  go_wp2_with fail
  refine (spec_PreferredPairs s w2).mono ?_
  rintro e w3 ⟨B, m, d, rfl, ho, hb3⟩
  have hB3 := hB2.trans (hb3.mono hS2)
  have hS3 := hB3.size
  have hml := ownP_num ho
  obtain rfl : n = m := by omega
  have hL := own_rdP (own_below OL2.out hb3)
  have hW := own_rdP ho
  clear hb3 ho OL2 hB1 hB2 hS1 hS2 hml
  have hlex : (prefsC s).Pairwise lexP ∧ ∀ p ∈ prefsC s, p.1 < p.2 := by
    unfold prefsC
    split
    · have hso : (mtapsI s).Pairwise (· < ·) := by
        by_cases h : 2 ≤ s ∧ s ≤ 8
        · obtain ⟨q, rfl⟩ := Int.eq_ofNat_of_zero_le (show 0 ≤ s by omega)
          rw [mtapsI_in q (by omega) (by omega)]; exact mtapsL_sorted _ _
        · rw [mtapsI_out s h]; exact List.Pairwise.nil
      refine ⟨pi_lex _ _ hso _ (Nat.le_refl _), fun p hp => ?_⟩
      obtain ⟨i', j, h1, h2, h3, rfl⟩ := pi_mem _ _ _ _ hp
      exact getD_lt _ hso i' j h2 h3
    · exact ⟨List.Pairwise.nil, fun p hp => by cases hp⟩
  have hcnt : s ≤ 6 → sumTo (fun i => sumTo (fun k => gcnt s.toNat (mtapsI s) k i) i) (mtapsI s).length = (n : Int) := fun h => by
    rw [pairs_cnt, ← hnl]; unfold prefsC; rw [if_pos h]
  have hno : 6 < s → n = 0 := fun h => by rw [← hnl]; unfold prefsC; rw [if_neg (by omega)]; rfl
  have HCNT := Lib.hid hcnt
  have HNO := Lib.hid hno
  have hn7 : n ≤ 70000 := by omega
  generalize prefsC s = ps at *
  have HLEX := Lib.hid hlex
  clear hcnt hno hlex hnl hplen
  go_wp2_with fail
  go_loopw [6] (fun v wr => ∃ i e : Nat, i ≤ n ∧ v = .int .i64 i ∧ wr = w3.drewN e) (fun v _ => n - (intOf v).toNat)
  case atStart => exact ⟨0, 0, Nat.zero_le _, rfl, rfl⟩
  case round =>
    obtain ⟨i, e, hi, rfl, rfl⟩ := hrel
    by_cases hin : i < n
    · obtain ⟨b, o, x1, x2, rfl, hgl, hxx, hc1, hc2⟩ := hL.at hin
      obtain ⟨b', o', y1, y2, rfl, hgl', hyy, hd1, hd2⟩ := hW.at hin
      obtain ⟨rfl, rfl⟩ : x1 = y1 ∧ x2 = y2 := by
        have h5 := hxx.out; rw [hyy.out] at h5; injection h5 with h5; injection h5 with h6 h7; exact ⟨h6.symm, h7.symm⟩
      have hx12 : x1 < x2 := HLEX.out.2 _ (List.mem_of_getElem? hxx.out)
      have hle : decide (x2 ≤ x1) = false := decide_eq_false (by omega)
      by_cases h0 : i = 0
      · subst h0
        rw [Nat.zero_mul, Nat.add_zero] at hc1 hc2 hd1 hd2
        go_wp2_with fail
        simp only [List.append_eq, List.cons_append, List.nil_append]
        go_quiet (fail)
        go_wp2_with fail
        go_roundw
        case rel => exact ⟨0 + 1, _, by omega, by go_num, rfl⟩
        case measure => simp [intOf]; omega
      · obtain ⟨j, rfl⟩ : ∃ j, i = j + 1 := ⟨i - 1, by omega⟩
        have hd0 : decide (0 < (j : Int) + 1) = true := decide_eq_true (by omega)
        obtain ⟨b2, o2, y1, y2, hbo, hgl2, hyy2, he1, he2⟩ := hL.at (show j < n by omega)
        injection hbo with hbo
        injection hbo with hbo1 hbo2
        subst hbo1
        subst hbo2
        have hlx : lexP (y1, y2) (x1, x2) := by
          obtain ⟨p1, p2⟩ := List.getElem?_eq_some_iff.1 hxx.out
          obtain ⟨p3, p4⟩ := List.getElem?_eq_some_iff.1 hyy2.out
          have := List.pairwise_iff_getElem.1 HLEX.out.1 j (j + 1) p3 p1 (by omega)
          rw [p2, p4] at this
          exact this
        rcases hlx with hl1 | ⟨hl1, hl2⟩
        · have hl1 : y1 < x1 := hl1
          have g1 : decide (x1 < y1) = false := decide_eq_false (by omega)
          have g2 : (x1 == y1) = false := beq_eq_false_iff_ne.2 (by omega)
          clear hl1
          go_wp2_with fail
          try simp only [List.append_eq, List.cons_append, List.nil_append]
          go_quiet (fail)
          go_wp2_with fail
          go_roundw
          case rel => exact ⟨j + 1 + 1, _, by omega, by go_num, rfl⟩
          case measure => simp [intOf]; omega
        · obtain rfl : y1 = x1 := hl1
          have hl2 : y2 < x2 := hl2
          have g1 : decide (y1 < y1) = false := decide_eq_false (by omega)
          have g2 : (y1 == y1) = true := by simp
          have g3 : decide (x2 ≤ y2) = false := decide_eq_false (by omega)
          clear hl2
          go_wp2_with fail
          try simp only [List.append_eq, List.cons_append, List.nil_append]
          go_quiet (fail)
          go_wp2_with fail
          go_roundw
          case rel => exact ⟨j + 1 + 1, _, by omega, by go_num, rfl⟩
          case measure => simp [intOf]; omega
    · have hB4 : Below w.heap.size w (w3.drewN e) := below_drewN hB3 e
      clear hL hW
      obtain ⟨w4, hw4⟩ : ∃ x, x = w3.drewN e := ⟨_, rfl⟩
      rw [← hw4] at hB4 ⊢
      clear hw4 hB3 hS3
      have hS4 := hB4.size
      have htl := mtapsI_len s
      have hpr := fun h => mtaps_pref s h
      have hcb := gcnt_sums s.toNat (mtapsI s) htl
      have hcall := fun w => impl_MaximalTaps s w
      generalize mtapsI s = zs at *
      have HPR := Lib.hid hpr
      have HCB := Lib.hid hcb
      have HCALL := Lib.hid hcall
      clear hpr hcb hcall
      go_wp2_with fail
      refine (HCALL.out w4).mono ?_
      rintro e w5 ⟨T, m, f, rfl, ho, hb5⟩
      have hB5 := hB4.trans (hb5.mono hS4)
      have hS5 := hB5.size
      have ht := own_rdI ho
      have hml : zs.length = m := by have := ho.1; simpa using this
      have HML := Lib.hid hml
      have hm255 : m ≤ 255 := by omega
      clear ho hb5 hB4 hS4 hml
      by_cases h6 : s ≤ 6
      · have HPR6 := Lib.hid (HPR.out h6)
        have HC6 := Lib.hid (HCNT.out h6)
        have d6 : decide (s ≤ 6) = true := decide_eq_true h6
        obtain ⟨N, hN⟩ : ∃ N, s.toNat = N := ⟨_, rfl⟩
        rw [hN] at HPR6 HC6 HCB
        clear hN HPR HCNT HNO
        go_wp2_with fail
        go_loopw [8, 9] (fun q v wr => ∃ i : Nat, i ≤ m ∧ v = .int .i64 i ∧ q = .int .i64 (sumTo (fun i => sumTo (fun k => gcnt N zs k i) i) i) ∧ Below w5.heap.size w5 wr) (fun _ v _ => m - (intOf v).toNat)
        case atStart => exact ⟨0, Nat.zero_le _, rfl, rfl, Below.refl _ _⟩
        case round =>
          obtain ⟨i, hi, rfl, rfl, hb⟩ := hrel
          have hcb := HCB.out i (by rw [HML.out]; exact hi)
          have hz := hb.size
          by_cases hin : i < m
          · have HSU := Lib.hid (show sumTo (fun i => sumTo (fun k => gcnt N zs k i) i) (i + 1) = sumTo (fun i => sumTo (fun k => gcnt N zs k i) i) i + sumTo (fun k => gcnt N zs k i) i from rfl)
            obtain ⟨S, hS⟩ : ∃ S, sumTo (fun i => sumTo (fun k => gcnt N zs k i) i) i = S := ⟨_, rfl⟩
            rw [hS] at hcb HSU ⊢
            clear hS
            obtain ⟨b, o, a, rfl, hgl, haa, hca⟩ := ht.at hin
            obtain ⟨wo, rfl⟩ : ∃ wo, wo = wr := ⟨_, rfl⟩
            go_wp2_with fail
            go_loopw [8, 10] (fun q v wr => ∃ k : Nat, k ≤ i ∧ v = .int .i64 k ∧ q = .int .i64 (S + sumTo (fun k => gcnt N zs k i) k) ∧ Below w5.heap.size w5 wr) (fun _ v _ => i - (intOf v).toNat)
            case atStart => exact ⟨0, Nat.zero_le _, rfl, by show _ = Value.int .i64 (S + 0); rw [Int.add_zero], hb⟩
            case round =>
              obtain ⟨k, hk, rfl, rfl, hb2⟩ := hrel
              have hz2 := hb2.size
              have hgs := gcnt_sum N zs i k
              by_cases hki : k < i
              · obtain ⟨b', o', x, hbo, hgl', hxx, hcx⟩ := ht.at (show k < m by omega)
                injection hbo with hbo
                injection hbo with hbo1 hbo2
                subst hbo1
                subst hbo2
                have hpr : isPrefC s a x = prefI N x a := by rw [← isPref_swap2]; exact HPR6.out k i x a hki hxx.out haa.out
                obtain ⟨f, hf⟩ : ∃ f, prefI N x a = f := ⟨_, rfl⟩
                rw [hf] at hpr
                have HGF := Lib.hid (show sumTo (fun k => gcnt N zs k i) (k + 1) = sumTo (fun k => gcnt N zs k i) k + (if f = true then 1 else 0) by
                  rw [sumTo_succ]
                  show _ + gcnt N zs k i = _
                  unfold gcnt
                  rw [getD_of hxx.out, getD_of haa.out, hf]
                  cases f
                  · rw [if_neg (by simp), if_neg (by decide)]
                  · rw [if_pos ⟨hki, rfl⟩, if_pos rfl])
                obtain ⟨G, hG⟩ : ∃ G, sumTo (fun k => gcnt N zs k i) k = G := ⟨_, rfl⟩
                rw [hG] at hgs HGF ⊢
                have HPF := Lib.hid hpr
                clear hG hf hpr
                have hk0 : (0 : Int) ≤ (k : Int) := by omega
                have hk1 : (k : Int) < (m : Int) := by omega
                have hk2 : (k : Int) ≤ (m : Int) := by omega
                have hkm : k < m := by omega
                have hcw : ∀ w', Below w5.heap.size w5 w' → w'.cell? ⟨b, o + i, none⟩ = some (.int .i64 a) ∧ w'.cell? ⟨b, o + k, none⟩ = some (.int .i64 x) := fun w' h =>
                  ⟨(h.cell (p := ⟨b, _, none⟩) hgl).trans hca, (h.cell (p := ⟨b, _, none⟩) hgl).trans hcx⟩
                have HCW := Lib.hid hcw
                have HA := Lib.hid (hcw wr hb2)
                have HA' := Lib.hid (hcw wr.drew hb2.drew)
                obtain ⟨e1, e2⟩ := hcw wr hb2
                clear hcw
                obtain ⟨wq, rfl⟩ : ∃ wq, wq = wr := ⟨_, rfl⟩
                go_wp2_with fail
                go_region_held3 (fun w' => w'.cell? ⟨b, o + i, none⟩ = some (.int .i64 a) ∧ w'.cell? ⟨b, o + k, none⟩ = some (.int .i64 x)) (first | exact HA.out | exact HA'.out | exact HA2.out) ((go_at_call 30; refine (impl_IsPreferred s a x _).mono ?_; rintro e w7 ⟨rfl, hb7⟩; rw [HPF.out]; have hB7 : Below w5.heap.size w5 w7 := hb2.trans ((show Below wq.heap.size wq w7 from ⟨hb7.os, hb7.tape, hb7.output, hb7.size, hb7.block⟩).mono hz2); have HA2 := Lib.hid (HCW.out w7 hB7)))
                cases f
                · go_wp2_with fail
                  go_roundw
                  case rel => exact ⟨k + 1, by omega, by go_num, by rw [HGF.out, if_neg (by decide), Int.add_zero], hB7⟩
                  case measure => simp [intOf]; omega
                · go_wp2_with fail
                  go_roundw
                  case rel => exact ⟨k + 1, by omega, by go_num, by rw [HGF.out, if_pos rfl, Int.add_assoc], hB7⟩
                  case measure => simp [intOf]; omega
              · obtain rfl : k = i := by omega
                go_wp2_with fail
                go_roundw
                case rel => exact ⟨k + 1, by omega, by go_num, by rw [HSU.out], hb2⟩
                case measure => simp [intOf]; omega
          · obtain rfl : i = m := by omega
            have hc6 := HC6.out
            rw [HML.out] at hc6
            rw [hc6]
            have hnn : ((n : Int) == (n : Int)) = true := by simp
            go_wp2_with fail
            go_ret
            exact ⟨rfl, hB5.trans (hb.mono hS5)⟩
      · obtain rfl : n = 0 := HNO.out (by omega)
        have d6 : decide (s ≤ 6) = false := decide_eq_false h6
        go_wp2_with fail
        go_loopw [8, 9] (fun q v wr => v = .int .i64 ((0 : Nat) : Int) ∧ q = .int .i64 0 ∧ w5 = wr) (fun _ v _ => 0)
        case atStart => exact ⟨rfl, rfl, rfl⟩
        case round =>
          obtain ⟨rfl, rfl, rfl⟩ := hrel
          by_cases hm0 : 0 < m
          all_goals
            go_wp2_with fail
            go_ret
            exact ⟨rfl, hB5⟩

end Go.Proofs.Yteagfipmllplgaa
