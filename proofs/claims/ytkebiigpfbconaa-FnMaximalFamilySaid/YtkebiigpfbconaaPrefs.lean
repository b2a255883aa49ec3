/- Lists of maximal taps and of preferred pairs, in the program and in the reference. Conditions: as each theorem says. -/
import Derived.Test.YtkebiigpfbconaaPairs
import Derived.Test.YtkebiigpfbconaaV2
namespace Go.Proofs.Ytkebiigpfbconaa
open Go.RowKit
set_option linter.unusedSimpArgs false
set_option linter.unusedVariables false
set_option maxRecDepth 100000

def mtapsI (s : Int) : List Int := if within 2 8 s = true then mtapsL s.toNat (2 ^ s.toNat - 1) else []
theorem mtapsI_in (n : Nat) (h2 : 2 ≤ n) (h8 : n ≤ 8) : mtapsI n = mtapsL n (2 ^ n - 1) := by
  unfold mtapsI
  rw [if_pos ((within_iff _ _ _).2 ⟨by omega, by omega⟩), Int.toNat_natCast]
theorem mtapsI_out (s : Int) (h : ¬ (2 ≤ s ∧ s ≤ 8)) : mtapsI s = [] := by
  unfold mtapsI
  rw [within_no _ _ _ h, if_neg (by decide)]
theorem mtapsI_len (s : Int) : (mtapsI s).length ≤ 255 := by
  by_cases h : 2 ≤ s ∧ s ≤ 8
  · obtain ⟨n, rfl⟩ := Int.eq_ofNat_of_zero_le (show 0 ≤ s by omega)
    rw [mtapsI_in n (by omega) (by omega)]
    have := mtapsL_len n (2 ^ n - 1)
    have := pow_256 n (by omega)
    omega
  · rw [mtapsI_out s h]; exact Nat.zero_le _
set_option maxHeartbeats 1000000 in
theorem spec_MaximalTaps_any (s : Int) (w : World) :
    Calls Try.prog 81 #[.int .i64 s] w (RetI .i64 3 (mtapsI s) w) := by
  by_cases h : 2 ≤ s ∧ s ≤ 8
  · obtain ⟨n, rfl⟩ := Int.eq_ofNat_of_zero_le (show 0 ≤ s by omega)
    rw [mtapsI_in n (by omega) (by omega)]
    exact spec_MaximalTaps n w (by omega) (by omega)
  · rw [mtapsI_out s h]
    have htb : tapsB s 1 = false := by unfold tapsB; rw [within_no _ _ _ h]; rfl
    have HTB := Lib.hid htb
    clear h htb
    go_enter Try.func81, Try.ntmps81
    go_wp2_with fail
    go_loopw [3, 4] (fun s' v wr => v = .int .i64 1 ∧ s' = .slice (some ⟨w.heap.size, 0, none⟩) 0 0 ∧ w.alloc (.cells #[] 3) = wr) (fun _ _ _ => 0)
    case atStart => exact ⟨rfl, rfl, rfl⟩
    case round =>
      obtain ⟨rfl, rfl, hwr⟩ := hrel
      go_wp2_with fail
      refine (spec_l1Taps s 1 _).mono ?_
      rintro e w' ⟨rfl, rfl⟩
      rw [HTB.out]
      go_wp2_with fail
      go_ret
      rw [← hwr]
      exact ⟨_, _, _, rfl, own_empty w 3 w.heap.size (Nat.le_refl _), (Below.refl _ _).alloc (Nat.le_refl _) _⟩
set_option maxHeartbeats 2000000 in
theorem impl_MaximalTaps (s : Int) (w : World) :
    Calls Try.prog 36 #[.int .i64 s] w (RetI .i64 3 (mtapsI s) w) := by
  by_cases h : 2 ≤ s ∧ s ≤ 8
  · obtain ⟨n, rfl⟩ := Int.eq_ofNat_of_zero_le (show 0 ≤ s by omega)
    have h2 : 2 ≤ n := by omega
    have h8 : n ≤ 8 := by omega
    rw [mtapsI_in n h2 h8]
    clear h
    have h256 := pow_256 n h8
    have h1N : 1 < 2 ^ n := Nat.one_lt_two_pow (by omega)
    obtain ⟨N, hN⟩ : ∃ N, 2 ^ n = N := ⟨_, rfl⟩
    have HN := Lib.hid hN
    rw [hN] at h256 h1N ⊢
    have w1 : wrap64 (2 ^ n) = (N : Int) := (IntWalk.wrap64_in ((2 : Int) ^ n) (by rw [show (2 : Int) ^ n = (N : Int) by rw [← hN]; simp]; exact ⟨by omega, by omega⟩)).trans (by rw [← hN]; simp)
    have w2 : wrap64 (2 ^ (n : Int).toNat) = (N : Int) := w1
    have W1 := Lib.hid w1
    clear hN
    go_enter Try.func36, Try.ntmps36
    go_wp2_with fail
    have HO := Lib.hid (own_empty w 3 w.heap.size (Nat.le_refl _))
    have HB := Lib.hid (show Below w.heap.size w (w.alloc (.cells #[] 3)) from (Below.refl _ _).alloc (Nat.le_refl _) _)
    go_loopw [3, 4] (fun s v wr => ∃ (j m c : Nat) (A : Option Addr), v = .int .i64 j ∧ s = .slice A m c ∧ wr.ownsRow w.heap.size 3 1 (.slice A m c) m ((mtapsL n (j - 1)).map (Value.int .i64)) ∧ 1 ≤ j ∧ j ≤ N ∧ Below w.heap.size w wr) (fun _ v _ => N - (intOf v).toNat)
    case atStart => exact ⟨1, 0, 0, _, rfl, rfl, HO.out, by omega, by omega, HB.out⟩
    case round =>
      obtain ⟨j, m, c, A, rfl, rfl, ho, h1, hj, hb⟩ := hrel
      have hz := hb.size
      have hml : m ≤ j - 1 := own_num ho (mtapsL_len n (j - 1))
      have HO1 := Lib.hid ho
      clear ho HO HB
      by_cases hlt : j < N
      · have htb := tapsB_nat n j h2 h8
        rw [decide_eq_true h1, Bool.true_and, HN.out, decide_eq_true hlt] at htb
        have hst := mtapsL_step n j h1
        have hmi : maxI n j = maxB n j := by unfold maxI; rw [htb]; rfl
        obtain ⟨b, hbm⟩ : ∃ b, maxB n j = b := ⟨_, rfl⟩
        rw [hbm] at hst hmi
        have HBM := Lib.hid hmi
        have HST := Lib.hid hst
        clear htb hst hbm hmi
        obtain ⟨wo, rfl⟩ : ∃ wo, wo = wr := ⟨_, rfl⟩
        go_wp2_with fail
        refine (impl_IsMaximal n j wo).mono ?_
        rintro e w3 ⟨rfl, hb2⟩
        rw [HBM.out]
        have hB2 := hb.trans (hb2.mono hz)
        have hz2 := hb2.size
        have HO2 := Lib.hid (own_below HO1.out hb2)
        clear hb hb2
        cases b
        · go_wp2_with fail
          go_roundw
          case rel => exact ⟨j + 1, m, c, A, by go_num, rfl, by rw [show j + 1 - 1 = j by omega, HST.out]; exact HO2.out, by omega, by omega, hB2⟩
          case measure => simp [intOf] <;> omega
        · go_wp2_with (at_builtin; refine wpList_append_rd _ rfl _ _ 33 rfl w.heap.size 3 (.int .i64 0) 8 Try.underlying33 Try.infoI64 rfl (.slice A m c) _ _ rfl (HO2.out.alloc _) _ _ _ [.int .i64 (j : Int)] rfl (rd_new _ [.int .i64 (j : Int)] _ 1 rfl) (by simp [Value.oneCell']) ?_ (by omega) ?_ ?_; omega; simp; omega; intro A' q c' w' hq ho hg; have HQ := Lib.hid hq; have HO3 := Lib.hid ho; have HG := Lib.hid hg; clear hq ho hg)
          go_roundw
          case rel =>
            have hl : ∀ k, Value.ownBlock (.slice A m c) = some k → w.heap.size ≤ k := fun k hk => (HO2.out.lt k hk).1
            exact ⟨j + 1, q, c', A', by go_num, rfl, by rw [show j + 1 - 1 = j by omega, HST.out, if_pos (by trivial), List.map_append]; exact HO3.out, by omega, by omega, (hB2.alloc (by omega) _).grown HG.out (by simp; omega) hl⟩
          case measure => simp [intOf] <;> omega
      · obtain rfl : N = j := by omega
        go_wp2_with fail
        go_ret
        exact retI_own HO1.out hb
  · rw [mtapsI_out s h]
    have hcs : s < 2 ∨ (2 ≤ s ∧ 8 < s) := by omega
    clear h
    rcases hcs with h | ⟨h0, h⟩
    all_goals
      go_enter Try.func36, Try.ntmps36
      go_wp2_with fail
      go_ret
      exact ⟨none, 0, 0, rfl, World.ownsRow_nil _ _ _ _, Below.refl _ _⟩
/-- The preferred pairs of the taps i with those before the place k. -/
def prefI (n : Nat) (a b : Int) : Bool := prefN n a.toNat b.toNat
def pk (n : Nat) (l : List Int) (i : Nat) : Nat → List (Int × Int)
  | 0 => []
  | k + 1 => if i < k ∧ prefI n (l.getD i 0) (l.getD k 0) = true then pk n l i k ++ [(l.getD i 0, l.getD k 0)] else pk n l i k
def pi (n : Nat) (l : List Int) : Nat → List (Int × Int)
  | 0 => []
  | i + 1 => pi n l i ++ pk n l i l.length
def prefsC (s : Int) : List (Int × Int) := if s ≤ 6 then pi s.toNat (mtapsI s) (mtapsI s).length else []
theorem pk_low (n : Nat) (l : List Int) (i : Nat) : ∀ k, k ≤ i + 1 → pk n l i k = []
  | 0, _ => rfl
  | k + 1, h => by unfold pk; rw [if_neg (by omega)]; exact pk_low n l i k (by omega)
theorem pk_len (n : Nat) (l : List Int) (i k : Nat) : (pk n l i k).length ≤ k := by
  induction k with
  | zero => exact Nat.le_refl _
  | succ k ih =>
    unfold pk
    split
    · rw [List.length_append, List.length_singleton]; omega
    · omega
theorem pi_len (n : Nat) (l : List Int) (h : l.length ≤ 255) (i : Nat) : (pi n l i).length ≤ i * 255 := by
  induction i with
  | zero => exact Nat.le_refl _
  | succ i ih => unfold pi; rw [List.length_append]; have := pk_len n l i l.length; omega
theorem pk_yes (n : Nat) (l : List Int) (i k : Nat) (a b : Int) (ha : l.getD i 0 = a) (hb : l.getD k 0 = b) (hi : i < k) (h : prefI n a b = true) : pk n l i (k + 1) = pk n l i k ++ [(a, b)] := by
  conv => lhs; unfold pk
  rw [ha, hb, if_pos ⟨hi, h⟩]
theorem pk_no (n : Nat) (l : List Int) (i k : Nat) (a b : Int) (ha : l.getD i 0 = a) (hb : l.getD k 0 = b) (h : prefI n a b = false) : pk n l i (k + 1) = pk n l i k := by
  conv => lhs; unfold pk
  rw [ha, hb, if_neg (by rw [h]; simp)]
theorem getD_of {l : List Int} {k : Nat} {x : Int} (h : l[k]? = some x) : l.getD k 0 = x := by simp [List.getD, h]
/-- The call gave back a new list of the pairs ps. -/
def RetP (E : TypeId) (ps : List (Int × Int)) (w : World) (e : Ending) (w' : World) : Prop :=
  ∃ A n c, e = .returned (.slice A n c) ∧ w'.ownsRow w.heap.size E 2 (.slice A n c) n (pcells ps) ∧ Below w.heap.size w w'
theorem own_emptyN (w : World) (E : TypeId) (base s : Nat) (h : base ≤ w.heap.size) : (w.alloc (.cells #[] E)).ownsRow base E s (.slice (some ⟨w.heap.size, 0, none⟩) 0 0) 0 [] := by
  exact ⟨(Nat.zero_mul s).symm, .inr ⟨w.heap.size, 0, #[], rfl, h, heap_alloc_new w _, Nat.le_refl _, Nat.zero_le _, (Nat.zero_mul s).symm, by rw [Nat.zero_mul]; rfl⟩⟩
set_option maxHeartbeats 4000000 in
theorem spec_PreferredPairs (s : Int) (w : World) :
    Calls Try.prog 89 #[.int .i64 s] w (RetP 89 (prefsC s) w) := by
  by_cases h6 : 6 < s
  · rw [show prefsC s = [] by unfold prefsC; rw [if_neg (by omega)]]
    go_enter Try.func89, Try.ntmps89
    go_wp2_with fail
    go_ret
    exact ⟨_, 0, 0, rfl, own_emptyN w 89 w.heap.size 2 (Nat.le_refl _), (Below.refl _ _).alloc (Nat.le_refl _) _⟩
  · have hP : prefsC s = pi s.toNat (mtapsI s) (mtapsI s).length := by unfold prefsC; rw [if_pos (by omega)]
    rw [hP]
    clear hP
    have HLEN := Lib.hid (mtapsI_len s)
    have hmem : ∀ x ∈ mtapsI s, ∃ j : Nat, x = j ∧ 2 ≤ s ∧ s ≤ 8 ∧ 1 ≤ j ∧ j < 2 ^ s.toNat := by
      intro x hx
      by_cases h : 2 ≤ s ∧ s ≤ 8
      · obtain ⟨n, rfl⟩ := Int.eq_ofNat_of_zero_le (show 0 ≤ s by omega)
        rw [mtapsI_in n (by omega) (by omega)] at hx
        obtain ⟨j, rfl, h1, h2, _⟩ := mtapsL_mem _ _ _ hx
        exact ⟨j, rfl, h.1, h.2, h1, by rw [Int.toNat_natCast]; omega⟩
      · rw [mtapsI_out s h] at hx; cases hx
    have HMEM := Lib.hid hmem
    clear hmem
    have hcall := fun w => spec_MaximalTaps_any s w
    generalize mtapsI s = zs at *
    have HC := Lib.hid hcall
    clear hcall
    go_enter Try.func89, Try.ntmps89
    go_wp2_with fail
    have HO0 := own_emptyN w 89 w.heap.size 2 (Nat.le_refl _)
    have HB0 := (show Below w.heap.size w (w.alloc (.cells #[] 89)) from (Below.refl _ _).alloc (Nat.le_refl _) _)
    generalize (w.alloc (.cells #[] 89)) = wa at *
    refine (HC.out wa).mono ?_
    rintro e w1 ⟨B, n, d, rfl, hot, hb1⟩
    have HO := Lib.hid (own_below HO0 hb1)
    have HB := Lib.hid (HB0.trans (hb1.mono HB0.size))
    have HT := Lib.hid (own_mono hot HB0.size)
    have hnl : zs.length = n := by have := hot.1; simpa using this
    have hn255 : n ≤ 255 := by have := HLEN.out; omega
    have HNL := Lib.hid hnl
    clear HO0 HB0 hot hb1 hnl HLEN
    go_wp2_with fail
    go_loopw [3, 5] (fun s' v wr => ∃ (i m c : Nat) (A : Option Addr), v = .int .i64 i ∧ s' = .slice A m c ∧ wr.ownsRow w.heap.size 89 2 (.slice A m c) m (pcells (pi s.toNat zs i)) ∧ wr.ownsRow w.heap.size 3 1 (.slice B n d) n (zs.map (Value.int .i64)) ∧ i ≤ n ∧ Below w.heap.size w wr) (fun _ v _ => n - (intOf v).toNat)
    case atStart => exact ⟨0, 0, 0, _, rfl, rfl, HO.out, HT.out, by omega, HB.out⟩
    case round =>
      obtain ⟨i, m, c, A, rfl, rfl, ho, hot, hi, hb⟩ := hrel
      have HO1 := Lib.hid ho
      have HT1 := Lib.hid hot
      have HB1 := Lib.hid hb
      clear HO HT HB ho hot hb
      by_cases hin : i < n
      · obtain ⟨g, hBg, _, _⟩ := own_some HT1.out hin
        subst hBg
        obtain ⟨wo, rfl⟩ : ∃ wo, wo = wr := ⟨_, rfl⟩
        go_wp2_with fail
        go_loopw [3, 6] (fun s' v wr => ∃ (k m c : Nat) (A : Option Addr), v = .int .i64 k ∧ s' = .slice A m c ∧ wr.ownsRow w.heap.size 89 2 (.slice A m c) m (pcells (pi s.toNat zs i ++ pk s.toNat zs i k)) ∧ wr.ownsRow w.heap.size 3 1 (.slice (some ⟨g, 0, none⟩) n d) n (zs.map (Value.int .i64)) ∧ i < k ∧ k ≤ n ∧ Below w.heap.size w wr) (fun _ v _ => n - (intOf v).toNat)
        case atStart => exact ⟨i + 1, m, c, A, by go_num, rfl, by rw [pk_low _ _ _ _ (Nat.le_refl _), List.append_nil]; exact HO1.out, HT1.out, by omega, by omega, HB1.out⟩
        case round =>
          obtain ⟨k, m, c, A, rfl, rfl, ho, hot, hik, hk, hb⟩ := hrel
          by_cases hkn : k < n
          · obtain ⟨a, ha⟩ : ∃ a, zs[i]? = some a := ⟨_, List.getElem?_eq_getElem (by rw [HNL.out]; exact hin)⟩
            obtain ⟨b, hbk⟩ : ∃ b, zs[k]? = some b := ⟨_, List.getElem?_eq_getElem (by rw [HNL.out]; exact hkn)⟩
            obtain ⟨x, rfl, h2, h8, hx1, hx⟩ := HMEM.out a (List.mem_of_getElem? ha)
            obtain ⟨y, rfl, _, _, hy1, hy⟩ := HMEM.out b (List.mem_of_getElem? hbk)
            obtain ⟨p, rfl⟩ := Int.eq_ofNat_of_zero_le (show 0 ≤ s by omega)
            rw [Int.toNat_natCast] at hx hy ho
            have hca := hot.cellAt i (by omega)
            have hcb := hot.cellAt k (by omega)
            rw [List.getElem?_map, ha] at hca
            rw [List.getElem?_map, hbk] at hcb
            replace hca : wr.cell? ⟨g, i, none⟩ = some (.int .i64 (x : Int)) := hca
            replace hcb : wr.cell? ⟨g, k, none⟩ = some (.int .i64 (y : Int)) := hcb
            have hca' : wr.drew.cell? ⟨g, i, none⟩ = some (.int .i64 (x : Int)) := hca
            have hcb' : wr.drew.cell? ⟨g, k, none⟩ = some (.int .i64 (y : Int)) := hcb
            have hpy := pk_yes p zs i k x y (getD_of ha) (getD_of hbk) hik
            have hpn := pk_no p zs i k x y (getD_of ha) (getD_of hbk)
            have HPY := Lib.hid hpy
            have HPN := Lib.hid hpn
            have HXY := Lib.hid (show x < 2 ^ p ∧ y < 2 ^ p ∧ 2 ≤ p ∧ p ≤ 8 from ⟨hx, hy, by omega, by omega⟩)
            have hgl : g < wr.heap.size := by
              rcases hot.2 with ⟨hv, h0⟩ | ⟨g', cap, cur, hv, hbg, hg, _⟩
              · cases hv
              · injection hv with e1; injection e1 with e1; injection e1 with e1; subst e1; exact (Array.getElem?_eq_some_iff.1 hg).1
            have hz := hb.size
            have hm64 : m ≤ 65025 + 255 := by
              have h5 := ownP_num ho
              rw [List.length_append] at h5
              have h6 := pi_len p zs (by rw [HNL.out]; exact hn255) i
              have h7 := pk_len p zs i k
              omega
            have HO2 := Lib.hid ho
            have HT2 := Lib.hid hot
            clear ho hot hpy hpn hx hy ha hbk h2 h8 HO1 HT1 HB1
            obtain ⟨wq, rfl⟩ : ∃ wq, wq = wr := ⟨_, rfl⟩
            go_wp2_with fail
            go_region_held3 (fun w' => w'.cell? ⟨g, i, none⟩ = some (.int .i64 (x : Int)) ∧ w'.cell? ⟨g, k, none⟩ = some (.int .i64 (y : Int))) (first | exact ⟨hca, hcb⟩ | exact ⟨hca', hcb'⟩ | exact ⟨hea, heb⟩) ((go_at_call 111; refine (spec_l3Preferred p x y _ HXY.out.2.2.1 HXY.out.2.2.2 HXY.out.1 HXY.out.2.1).mono ?_; rintro e w2 ⟨rfl, hb2⟩; have hea : w2.cell? ⟨g, i, none⟩ = some (.int .i64 (x : Int)) := (hb2.cell (p := ⟨g, i, none⟩) hgl).trans hca; have heb : w2.cell? ⟨g, k, none⟩ = some (.int .i64 (y : Int)) := (hb2.cell (p := ⟨g, k, none⟩) hgl).trans hcb))
            have hb2' : Below wq.heap.size wq w2 := ⟨hb2.os, hb2.tape, hb2.output, hb2.size, hb2.block⟩
            have HO3 := Lib.hid (own_below HO2.out hb2')
            have HT3 := Lib.hid (own_below HT2.out hb2')
            have hB2 := hb.trans (hb2'.mono hz)
            have hz2 := hB2.size
            clear hb2 hb2' hca hcb hca' hcb' hb
            obtain ⟨f, hf⟩ : ∃ f, prefN p x y = f := ⟨_, rfl⟩
            rw [hf]
            have HF := Lib.hid (show prefI p x y = f from hf)
            clear hf
            cases f
            · go_wp2_with fail
              go_roundw
              case rel => exact ⟨k + 1, m, c, A, by go_num, rfl, by rw [Int.toNat_natCast, HPN.out HF.out]; exact HO3.out, HT3.out, by omega, by omega, hB2⟩
              case measure => simp [intOf] <;> omega
            · go_wp2_with fail
              go_region_law (go_loud (refine step_append_rdN rfl (.tmp 37) (.tmp 47) 86 rfl w.heap.size 89 2 (.agg #[.int .i64 0, .int .i64 0]) 16 Try.underlying86 Try.infoPair rfl (by decide) (.slice A m c) m _ (by simp [Act.eval, Act.put]) (own_below HO3.out ((Below.refl _ _).alloc (Nat.le_refl _) _).drew) _ 1 1 [.int .i64 (x : Int), .int .i64 (y : Int)] (by simp [Act.eval, Act.put]) (rd_newN _ [.int .i64 (x : Int), .int .i64 (y : Int)] _ 1 2 rfl) (by decide) (by simp [Value.oneCell']) (by omega) (by omega) (by have h5 := hB2.size; simp at h5 ⊢; omega) ?_); intro A' q c' w' hq ho hg; have HQ := Lib.hid hq; have HO4 := Lib.hid ho; have HG := Lib.hid hg; clear hq ho hg)
              all_goals
                go_wp2_with fail
                go_roundw
                case rel =>
                  have hl : ∀ k, Value.ownBlock (.slice A m c) = some k → w.heap.size ≤ k := fun k hk => (HO3.out.lt k hk).1
                  have ht4 := own_below HT3.out (((Below.refl _ _).alloc (Nat.le_refl _) (.cells #[.int .i64 (x : Int), .int .i64 (y : Int)] 89)).drew)
                  have ho4 := own_below HO3.out (((Below.refl _ _).alloc (Nat.le_refl _) (.cells #[.int .i64 (x : Int), .int .i64 (y : Int)] 89)).drew)
                  exact ⟨k + 1, q, c', A', by go_num, rfl, by rw [Int.toNat_natCast, HPY.out HF.out, ← List.append_assoc, pcells_snoc]; exact HO4.out, World.ownsRow.kept ht4 HG.out (own_diff ht4 ho4 (by decide)), by omega, by omega, ((hB2.alloc hz2 _).drew).grown HG.out (by have := hB2.size; simp; omega) hl⟩
                case measure => simp [intOf] <;> omega
          · obtain rfl : k = n := by omega
            go_wp2_with fail
            go_roundw
            case rel => exact ⟨i + 1, m, c, A, by go_num, rfl, by unfold pi; rw [HNL.out]; exact ho, hot, by omega, hb⟩
            case measure => simp [intOf] <;> omega
      · obtain rfl : i = n := by omega
        go_wp2_with fail
        go_ret
        exact ⟨A, m, c, rfl, by rw [HNL.out]; exact HO1.out, HB1.out⟩
theorem mtapsL_sorted (n k : Nat) : (mtapsL n k).Pairwise (· < ·) := by
  unfold mtapsL
  rw [List.pairwise_map]
  exact (List.Pairwise.filter _ List.pairwise_lt_range).imp fun h => by omega
theorem mtaps_pref (s : Int) (h6 : s ≤ 6) (i k : Nat) (a b : Int) (hik : i < k) (ha : (mtapsI s)[i]? = some a) (hb : (mtapsI s)[k]? = some b) : isPrefC s a b = prefI s.toNat a b := by
  by_cases h : 2 ≤ s ∧ s ≤ 8
  · obtain ⟨n, rfl⟩ := Int.eq_ofNat_of_zero_le (show 0 ≤ s by omega)
    have h2 : 2 ≤ n := by omega
    have h8 : n ≤ 8 := by omega
    rw [mtapsI_in n h2 h8] at ha hb
    obtain ⟨x, rfl, hx1, hx2, hxm⟩ := mtapsL_mem _ _ _ (List.mem_of_getElem? ha)
    obtain ⟨y, rfl, hy1, hy2, hym⟩ := mtapsL_mem _ _ _ (List.mem_of_getElem? hb)
    have hlt : (x : Int) < y := by
      obtain ⟨p1, p2⟩ := List.getElem?_eq_some_iff.1 ha
      obtain ⟨p3, p4⟩ := List.getElem?_eq_some_iff.1 hb
      have := List.pairwise_iff_getElem.1 (mtapsL_sorted n (2 ^ n - 1)) i k p1 p3 hik
      rw [p2, p4] at this
      exact this
    have h1N : 1 < 2 ^ n := Nat.one_lt_two_pow (by omega)
    have m1 : maxI n x = true := by
      unfold maxI
      rw [tapsB_nat n x h2 h8, decide_eq_true hx1, decide_eq_true (show x < 2 ^ n by omega), Int.toNat_natCast, Int.toNat_natCast, hxm]; rfl
    have m2 : maxI n y = true := by
      unfold maxI
      rw [tapsB_nat n y h2 h8, decide_eq_true hy1, decide_eq_true (show y < 2 ^ n by omega), Int.toNat_natCast, Int.toNat_natCast, hym]; rfl
    unfold isPrefC bothB prefI
    rw [m1, m2, decide_eq_true h6, decide_eq_true (show (x : Int) ≠ y by omega)]; rfl
  · rw [mtapsI_out s h] at ha; simp at ha

end Go.Proofs.Ytkebiigpfbconaa
