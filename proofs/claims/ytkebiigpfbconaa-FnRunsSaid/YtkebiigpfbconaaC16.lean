/- What the lengths of runs give back, in the program and in the reference. Conditions: as each theorem says. -/
import Derived.Test.YtkebiigpfbconaaC15
import Derived.Test.YtkebiigpfbconaaV1
import Derived.Test.YtkebiigpfbconaaPureN
namespace Go.Proofs.Ytkebiigpfbconaa
open Go.RowKit
set_option linter.unusedSimpArgs false
set_option linter.unusedVariables false
set_option maxRecDepth 100000

def runsC (s : List UInt8) : List Int := if seqB s = true then runsL s else []
theorem chB_data (s : ByteArray) (i r : Nat) (hi : i < s.size) (hr : r < s.size) (h : (i + s.size - 1) % s.size = r) : chB s.data.toList i = (s[i] != s[r]) := by
  unfold chB
  rw [len_data, h, List.getD_eq_getElem?_getD, List.getD_eq_getElem?_getD, data_at s i hi, data_at s r hr]; rfl
theorem bne_yes8 {a b : UInt8} (h : ¬ a = b) : (a != b) = true := by simpa using h
theorem bne_no8 {a b : UInt8} (h : a = b) : (a != b) = false := by simp [h]
theorem lK_one (T : List UInt8) (k : Nat) (h : (cK T k).2 = 0) : lK T (k + 1) = lK T k ++ [1] := by
  rw [lK_new T k h]; show (cK T k).1 ++ [(cK T k).2 + 1] = _; rw [h]; rfl
theorem lK_more (T : List UInt8) (k : Nat) (h : (cK T k).2 ≠ 0) : ∃ (l : List Int) (z : Int), lK T k = l ++ [z] ∧ lK T (k + 1) = l ++ [z + 1] ∧ l.length ≤ k ∧ 0 ≤ z ∧ z ≤ k :=
  ⟨(cK T k).1, (cK T k).2, lK_old T k h, rfl, cK_len T k, (cK_cur T k).1, (cK_cur T k).2⟩
theorem set_last {α : Type} (l : List α) (a b : α) : (l ++ [a]).set l.length b = l ++ [b] := by
  rw [List.set_append_right _ _ (Nat.le_refl _), Nat.sub_self]; rfl
theorem lK_len (T : List UInt8) (k : Nat) : (lK T k).length ≤ k := by
  cases k with
  | zero => exact Nat.le_refl _
  | succ k => show ((cK T k).1 ++ [_]).length ≤ _; have := cK_len T k; rw [List.length_append, List.length_singleton]; omega
theorem own_last {w : World} {base E q c : Nat} {A : Option Addr} {zs : List Int} {x : Int} (h : w.ownsRow base E 1 (.slice A q c) q (zs.map (Value.int .i64) ++ [.int .i64 x])) :
    ∃ g p, A = some ⟨g, 0, none⟩ ∧ base ≤ g ∧ q = p + 1 ∧ w.cell? ⟨g, p, none⟩ = some (.int .i64 x) ∧ w.frozen? ⟨g, p, none⟩ = false ∧ Hid (zs.length = p) ∧
      Hid (∀ y, (w.setCell ⟨g, p, none⟩ (.int .i64 y)).ownsRow base E 1 (.slice A q c) q ((zs ++ [y]).map (Value.int .i64))) := by
  have hl : q = zs.length + 1 := by have := h.1; rw [List.length_append, List.length_map, List.length_singleton] at this; omega
  obtain ⟨g, rfl, hg1, hg2⟩ := own_some h (show zs.length < q by omega)
  have hc := h.cellAt zs.length (by omega)
  rw [List.getElem?_append_right (by rw [List.length_map]; exact Nat.le_refl _), List.length_map, Nat.sub_self] at hc
  refine ⟨g, zs.length, rfl, hg1, hl, hc, h.frozenAt _, rfl, fun y => ?_⟩
  have hst := (h.stored zs.length (.int .i64 y)).1
  have e : (zs.map (Value.int .i64) ++ [Value.int .i64 x]).set zs.length (Value.int .i64 y) = (zs ++ [y]).map (Value.int .i64) := by
    have := set_last (zs.map (Value.int .i64)) (Value.int .i64 x) (Value.int .i64 y)
    rw [List.length_map] at this
    rw [this, List.map_append]; rfl
  rw [e] at hst
  exact hst
set_option maxHeartbeats 8000000 in
theorem impl_RunLengths (s : ByteArray) (w : World) (hs : s.size ≤ maxLen) :
    Calls Try.prog 21 #[.string s] w (RetI .i64 3 (runsC s.data.toList) w) := by
  cases hq : seqB s.data.toList
  · rw [show runsC s.data.toList = [] by unfold runsC; rw [hq]; rfl]
    go_enter Try.func21, Try.ntmps21
    go_wp2_with (go_at_call 11; refine (impl_SequenceValid _ _ hs).mono ?_; rintro e w' ⟨rfl, rfl⟩; rw [hq])
    go_ret
    exact ⟨none, 0, 0, rfl, World.ownsRow_nil _ _ _ _, Below.refl _ _⟩
  · have hz := seqB_bd s hq
    rw [show runsC s.data.toList = runsL s.data.toList by unfold runsC; rw [hq, if_pos rfl]]
    have HRL := Lib.hid (show runsL s.data.toList = if fstN (chB s.data.toList) s.size = s.size then [(s.size : Int)] else sortL (cK (rotL s.data.toList (fstN (chB s.data.toList) s.size)) s.size).1 by unfold runsL; rw [len_data])
    have HQ := Lib.hid hq
    clear hq
    go_enter Try.func21, Try.ntmps21
    go_wp2_with (go_at_call 11; refine (impl_SequenceValid _ _ hs).mono ?_; rintro e w' ⟨rfl, rfl⟩; rw [HQ.out])
    go_loopw [4] (fun v wr => ∃ i d : Nat, i ≤ s.size ∧ v = .int .i64 i ∧ wr = w.drewN d ∧ ∀ j, j < i → chB s.data.toList j = false) (fun v _ => s.size - (intOf v).toNat)
    case atStart => exact ⟨0, 0, by omega, rfl, rfl, fun j hj => absurd hj (Nat.not_lt_zero _)⟩
    case round =>
      obtain ⟨i, d, hi, rfl, rfl, hno⟩ := hrel
      have HNO := Lib.hid hno
      clear hno
      by_cases hlt : i < s.size
      · have hr : (i + s.size - 1) % s.size < s.size := Nat.mod_lt _ (by omega)
        obtain ⟨r, hrr⟩ : ∃ r, (i + s.size - 1) % s.size = r := ⟨_, rfl⟩
        rw [hrr] at hr
        have hch := chB_data s i r hlt hr hrr
        obtain ⟨x, hx⟩ : ∃ x : Nat, i + s.size - 1 = x := ⟨_, rfl⟩
        rw [hx] at hrr
        have hw1 : IntKind.i64.wrap ((i : Int) + (s.size : Int)) = (i : Int) + (s.size : Int) := IntWalk.i64_in _ ⟨by omega, by omega⟩
        have hw2 : IntKind.i64.wrap ((i : Int) + (s.size : Int) - 1) = (x : Int) := by rw [IntWalk.i64_in _ ⟨by omega, by omega⟩]; omega
        have hrem : (x : Int).tmod (s.size : Int) = (r : Int) := by rw [Int.tmod_eq_emod_of_nonneg (by omega), ← hrr]; rfl
        have hz1 : ((s.size : Int) == 0) = false := beq_eq_false_iff_ne.2 (by omega)
        have hz2 : ¬ (s.size : Int) = 0 := by omega
        have d0 : decide ((i : Int) < (s.size : Int)) = true := decide_eq_true (by omega)
        have d1 : ((i : Int) == (s.size : Int)) = false := beq_eq_false_iff_ne.2 (by omega)
        clear hx hrr
        rcases byte_same s[i] s[r] with ⟨h3, h4⟩ | ⟨h3, h4⟩
        · rw [bne_no8 h4.out] at hch
          have HCH := Lib.hid hch
          clear hch h4
          go_wp2
          go_quiet (fail)
          go_wp2
          go_roundw
          case rel => exact ⟨i + 1, _, by omega, by go_num, rfl, fun j hj => by
            rcases Nat.lt_succ_iff_lt_or_eq.1 hj with h5 | rfl
            · exact HNO.out j h5
            · exact HCH.out⟩
          case measure => simp [intOf]; omega
        · rw [bne_yes8 h4.out] at hch
          have hf : fstN (chB s.data.toList) s.size = i := fstN_is _ _ _ hi HNO.out (.inr hch)
          have hend := HRL.out
          rw [hf, if_neg (by omega)] at hend
          have hlast := lK_last (rotL s.data.toList i) (by rw [rotL_len _ _ (by rw [len_data]; omega), len_data]; omega)
          rw [rotL_len _ _ (by rw [len_data]; omega), len_data] at hlast
          rw [← hlast] at hend
          replace hend := hend.symm
          have HEND := Lib.hid hend
          have HNEW := Lib.hid (cK_new s.data.toList i (by rw [len_data]; exact hlt) hch)
          have HLEN := Lib.hid (lK_len (rotL s.data.toList i))
          have HONE := Lib.hid (lK_one (rotL s.data.toList i))
          have HMORE := Lib.hid (lK_more (rotL s.data.toList i))
          obtain ⟨T, hT⟩ : ∃ T, rotL s.data.toList i = T := ⟨_, rfl⟩
          rw [hT] at HEND HNEW HLEN HONE HMORE
          clear hch h4 hf hend hT hlast
          go_wp2
          go_quiet (fail)
          go_wp2
          clear h3
          go_loopw [5, 39] (fun s' v wr => ∃ (k m c : Nat) (A : Option Addr), v = .int .i64 k ∧ s' = .slice A m c ∧ wr.ownsRow w.heap.size 3 1 (.slice A m c) m ((lK T k).map (Value.int .i64)) ∧ k ≤ s.size ∧ Below w.heap.size w wr) (fun _ v _ => s.size - (intOf v).toNat)
          case atStart => exact ⟨0, 0, 0, _, rfl, rfl, own_empty _ _ _ (Nat.le_refl _), by omega, (below_drewN (Below.refl _ _) _).alloc (Nat.le_refl _) _⟩
          case round =>
            obtain ⟨k, m, c, A, rfl, rfl, ho, hk, hb⟩ := hrel
            have hz0 := hb.size
            have hmk : m ≤ k := own_num ho (HLEN.out k)
            by_cases hlt2 : k < s.size
            · have hqlt : (i + k) % s.size < s.size := Nat.mod_lt _ (by omega)
              have hnew := HNEW.out k (by rw [len_data]; exact hlt2)
              rw [len_data] at hnew
              obtain ⟨q, hqq⟩ : ∃ q, (i + k) % s.size = q := ⟨_, rfl⟩
              rw [hqq] at hqlt hnew
              have hr2 : (q + s.size - 1) % s.size < s.size := Nat.mod_lt _ (by omega)
              obtain ⟨r2, hrr2⟩ : ∃ r, (q + s.size - 1) % s.size = r := ⟨_, rfl⟩
              rw [hrr2] at hr2
              have hch2 := chB_data s q r2 hqlt hr2 hrr2
              obtain ⟨y, hy⟩ : ∃ y : Nat, q + s.size - 1 = y := ⟨_, rfl⟩
              rw [hy] at hrr2
              have v0 : IntKind.i64.wrap ((i : Int) + (k : Int)) = ((i + k : Nat) : Int) := by rw [IntWalk.i64_in _ ⟨by omega, by omega⟩]; omega
              have v1 : ((i + k : Nat) : Int).tmod (s.size : Int) = (q : Int) := by rw [Int.tmod_eq_emod_of_nonneg (by omega), ← hqq]; rfl
              have v2 : IntKind.i64.wrap ((q : Int) + (s.size : Int)) = (q : Int) + (s.size : Int) := IntWalk.i64_in _ ⟨by omega, by omega⟩
              have v3 : IntKind.i64.wrap ((q : Int) + (s.size : Int) - 1) = (y : Int) := by rw [IntWalk.i64_in _ ⟨by omega, by omega⟩]; omega
              have v4 : (y : Int).tmod (s.size : Int) = (r2 : Int) := by rw [Int.tmod_eq_emod_of_nonneg (by omega), ← hrr2]; rfl
              have d2 : decide ((k : Int) < (s.size : Int)) = true := decide_eq_true (by omega)
              obtain ⟨u, hu⟩ : ∃ u : Nat, i + k = u := ⟨_, rfl⟩
              rw [hu] at v0 v1
              clear hy hrr2 hqq hu
              rcases byte_same s[q] s[r2] with ⟨h3, h4⟩ | ⟨h3, h4⟩
              · rw [bne_no8 h4.out] at hch2
                obtain ⟨l, z, hl1, hl2, hl3, hz1', hz2'⟩ := HMORE.out k (fun e => by have := hnew.1 e; rw [hch2] at this; cases this)
                rw [hl1, List.map_append] at ho
                obtain ⟨g, p, rfl, hg1, rfl, hc, hf, hzp, hset⟩ := own_last ho
                have HL2 := Lib.hid hl2
                clear ho hnew hch2 h4 hl1 hl2
                go_wp2
                go_quiet (fail)
                go_wp2
                go_roundw
                case rel => exact ⟨k + 1, _, _, _, by go_num, rfl, by rw [HL2.out]; exact hset.out _, by omega, (below_drewN hb _).setCell (p := ⟨g, p, none⟩) hg1 _⟩
                case measure => simp [intOf] <;> omega
              · rw [bne_yes8 h4.out] at hch2
                have hone := HONE.out k (hnew.2 hch2)
                have HONE2 := Lib.hid hone
                have HO1 := Lib.hid ho
                have HL := Lib.hid (show ∀ k, Value.ownBlock (.slice A m c) = some k → w.heap.size ≤ k from fun k hk => (HO1.out.lt k hk).1)
                clear ho hnew hch2 h4 hone
                go_wp2
                go_quiet (fail)
                go_wp2_with (at_builtin; refine wpList_append_rd _ rfl _ _ 33 rfl w.heap.size 3 (.int .i64 0) 8 Try.underlying33 Try.infoI64 rfl (.slice A m c) _ _ rfl (HO1.out.alloc _) _ _ _ [.int .i64 0] rfl (rd_new _ [.int .i64 0] _ 1 rfl) (by simp [Value.oneCell']) ?_ (by omega) ?_ ?_; omega; simp; omega; intro A' q' c' w' hq' ho' hg'; obtain ⟨g, p, rfl, hg1, rfl, hc, hf, hzp, hset⟩ := own_last ho'; have hpb : p ≤ 255 := (by have h7 := hzp.out; have h8 := HLEN.out k; omega); have hb3 : Below w.heap.size w w' := ((below_drewN hb _).alloc hz0 _).grown hg' (by simp; omega) HL.out; clear hq' ho' hg')
                go_roundw
                case rel => exact ⟨k + 1, _, _, _, by go_num, rfl, by rw [HONE2.out]; exact hset.out _, by omega, hb3.setCell (p := ⟨g, p, none⟩) hg1 _⟩
                case measure => simp [intOf] <;> omega
            · obtain rfl : k = s.size := by omega
              have HO1 := Lib.hid ho
              clear ho
              go_wp2_with fail
              refine (slices_Sort_any _ _ _ _ _ _ _ HO1.out (by omega) hb.size).mono ?_
              rintro e w2 ⟨rfl, ho2, hb2⟩
              rw [HEND.out] at ho2
              go_wp2_with fail
              go_ret
              exact retI_own ho2 (hb.trans hb2)
      · obtain rfl : i = s.size := by omega
        have hf : fstN (chB s.data.toList) s.size = s.size := fstN_is _ _ _ (Nat.le_refl _) HNO.out (.inl rfl)
        have hend := HRL.out
        rw [hf, if_pos rfl] at hend
        have HEND := Lib.hid hend
        clear hf hend
        go_wp2
        go_quiet (fail)
        go_wp2
        go_ret
        exact retI_own (by rw [HEND.out]; exact own_lit _ _ _ _ rfl (by unfold maxLen; omega)) ((below_drewN (Below.refl _ _) _).alloc (Nat.le_refl _) _)
theorem tmod_nat (a b : Nat) : (a : Int).tmod (b : Int) = ((a % b : Nat) : Int) := by rw [Int.tmod_eq_emod_of_nonneg (by omega)]; rfl
set_option maxHeartbeats 400000 in
theorem spec_l2Mod_prev (i n : Nat) (w : World) (hi : i < n) (hn2 : n ≤ 1048576) :
    Calls Try.prog 61 #[.int .i64 ((i : Int) - 1), .int .i64 n] w fun e w' => e = .returned (.int .i64 (((i + n - 1) % n : Nat) : Int)) ∧ w' = w := by
  obtain ⟨m, hm⟩ : ∃ m : Int, ((i : Int) - 1).tmod (n : Int) = m := ⟨_, rfl⟩
  have hmb : -1 ≤ m ∧ m < n ∧ (m + (n : Int)).tmod (n : Int) = (((i + n - 1) % n : Nat) : Int) := by
    by_cases h0 : i = 0
    · subst h0
      by_cases h1 : n = 1
      · subst h1; rw [← hm]; decide
      · have e : ((0 : Nat) : Int) - 1 = -1 := by omega
        rw [e] at hm
        have h2 : (-1 : Int).tmod (n : Int) = -1 := by
          have := Int.neg_tmod 1 (n : Int)
          rw [this, show ((1 : Int)).tmod (n : Int) = 1 by
            rw [Int.tmod_eq_emod_of_nonneg (by omega)]; exact Int.emod_eq_of_lt (by omega) (by omega)]
        rw [h2] at hm
        subst hm
        refine ⟨by omega, by omega, ?_⟩
        rw [show (-1 : Int) + (n : Int) = ((0 + n - 1 : Nat) : Int) by omega, tmod_nat]
    · obtain ⟨j, rfl⟩ : ∃ j, i = j + 1 := ⟨i - 1, by omega⟩
      rw [show ((j + 1 : Nat) : Int) - 1 = (j : Int) by omega, tmod_nat, Nat.mod_eq_of_lt (by omega)] at hm
      subst hm
      refine ⟨by omega, by omega, ?_⟩
      rw [show (j : Int) + (n : Int) = ((j + 1 + n - 1 : Nat) : Int) by omega, tmod_nat]
  obtain ⟨h1, h2, h3⟩ := hmb
  obtain ⟨r, hr⟩ : ∃ r, (i + n - 1) % n = r := ⟨_, rfl⟩
  rw [hr] at h3 ⊢
  have hz1 : ((n : Int) == 0) = false := beq_eq_false_iff_ne.2 (by omega)
  have hz2 : ¬ (n : Int) = 0 := by omega
  have hz3 : ¬ n = 0 := by omega
  go_enter Try.func61, Try.ntmps61
  go_wp2
  go_ret
  exact ⟨rfl, rfl⟩
theorem endB_data (t : List UInt8) (T : ByteArray) (i : Nat) (ht : T.data.toList = t) (hi : i + 1 < T.size) : endB t i = (T[i + 1] != T[i]) := by
  subst ht
  unfold endB
  rw [len_data, beq_eq_false_iff_ne.2 (by omega), Bool.false_or, List.getD_eq_getElem?_getD, List.getD_eq_getElem?_getD, data_at T (i + 1) hi, data_at T i (by omega)]; rfl
theorem endB_last (t : List UInt8) (i : Nat) (h : i + 1 = t.length) : endB t i = true := by unfold endB; rw [beq_iff_eq.2 h]; rfl
set_option maxHeartbeats 8000000 in
theorem spec_RunLengths (s : ByteArray) (w : World) (hs : s.size ≤ maxLen) :
    Calls Try.prog 23 #[.string s] w (RetI .i64 3 (runsC s.data.toList) w) := by
  cases hq : seqB s.data.toList
  · rw [show runsC s.data.toList = [] by unfold runsC; rw [hq]; rfl]
    go_enter Try.func23, Try.ntmps23
    go_wp2_with (go_at_call 45; refine (spec_SequenceValid _ _ hs).mono ?_; rintro e w' ⟨rfl, rfl⟩; rw [hq])
    go_ret
    exact retI_own (zs := []) (own_empty _ _ _ (Nat.le_refl _)) ((Below.refl _ _).alloc (Nat.le_refl _) _)
  · have hz := seqB_bd s hq
    rw [show runsC s.data.toList = runsL s.data.toList by unfold runsC; rw [hq, if_pos rfl]]
    have HRL := Lib.hid (show runsL s.data.toList = if fstN (chB s.data.toList) s.size = s.size then [(s.size : Int)] else sortL (cK (rotL s.data.toList (fstN (chB s.data.toList) s.size)) s.size).1 by unfold runsL; rw [len_data])
    have HQ := Lib.hid hq
    clear hq
    go_enter Try.func23, Try.ntmps23
    go_wp2_with (go_at_call 45; refine (spec_SequenceValid _ _ hs).mono ?_; rintro e w' ⟨rfl, rfl⟩; rw [HQ.out])
    have HO0 := Lib.hid (own_empty w 3 w.heap.size (Nat.le_refl _))
    have HB0 := Lib.hid (show Below w.heap.size w (w.alloc (.cells #[] 3)) from (Below.refl _ _).alloc (Nat.le_refl _) _)
    generalize w.alloc (.cells #[] 3) = wa at *
    go_loopw [4, 5] (fun f v wr => ∃ (i d : Nat) (z : Int), i ≤ s.size ∧ v = .int .i64 i ∧ f = .int .i64 z ∧ wr = wa.drewN d ∧ Hid ((∀ j, j < i → chB s.data.toList j = false) ∧ z = -1 ∨ ∃ g : Nat, i = g + 1 ∧ z = g ∧ chB s.data.toList g = true ∧ ∀ j, j < g → chB s.data.toList j = false)) (fun _ v _ => s.size - (intOf v).toNat)
    case atStart => exact ⟨0, 0, -1, by omega, rfl, rfl, rfl, .inl ⟨fun j hj => absurd hj (Nat.not_lt_zero _), rfl⟩⟩
    case round =>
      obtain ⟨i, d, z, hi, rfl, rfl, rfl, hcase⟩ := hrel
      rcases hcase.out with ⟨hno, rfl⟩ | ⟨g, rfl, rfl, hch, hno⟩
      · have HNO := Lib.hid hno
        clear hno hcase
        by_cases hlt : i < s.size
        · have hr : (i + s.size - 1) % s.size < s.size := Nat.mod_lt _ (by omega)
          have hl2 := fun w => spec_l2Mod_prev i s.size w hlt (by omega)
          obtain ⟨r, hrr⟩ : ∃ r, (i + s.size - 1) % s.size = r := ⟨_, rfl⟩
          rw [hrr] at hr hl2
          have hch := chB_data s i r hlt hr hrr
          have HL2 := Lib.hid hl2
          have hw1 : IntKind.i64.wrap ((i : Int) - 1) = (i : Int) - 1 := IntWalk.i64_in _ ⟨by omega, by omega⟩
          have d0 : decide ((i : Int) < (s.size : Int)) = true := decide_eq_true (by omega)
          clear hl2 hrr
          rcases byte_same s[i] s[r] with ⟨h3, h4⟩ | ⟨h3, h4⟩
          · rw [bne_no8 h4.out] at hch
            have HCH := Lib.hid hch
            clear hch h4
            go_wp2_with fail
            go_quiet ((go_at_call 61; refine (HL2.out _).mono ?_; rintro e w' ⟨rfl, rfl⟩; exact ⟨rfl, _, rfl⟩))
            go_wp2
            go_roundw
            case rel => exact ⟨i + 1, _, -1, by omega, by go_num, rfl, rfl, .inl ⟨fun j hj => by
              rcases Nat.lt_succ_iff_lt_or_eq.1 hj with h5 | rfl
              · exact HNO.out j h5
              · exact HCH.out, rfl⟩⟩
            case measure => simp [intOf]; omega
          · rw [bne_yes8 h4.out] at hch
            have HCH := Lib.hid hch
            clear hch h4
            go_wp2_with fail
            go_quiet ((go_at_call 61; refine (HL2.out _).mono ?_; rintro e w' ⟨rfl, rfl⟩; exact ⟨rfl, _, rfl⟩))
            go_wp2
            go_roundw
            case rel => exact ⟨i + 1, _, i, by omega, by go_num, rfl, rfl, .inr ⟨i, rfl, rfl, HCH.out, HNO.out⟩⟩
            case measure => simp [intOf]; omega
        · obtain rfl : i = s.size := by omega
          have hf : fstN (chB s.data.toList) s.size = s.size := fstN_is _ _ _ (Nat.le_refl _) HNO.out (.inl rfl)
          have hend := HRL.out
          rw [hf, if_pos rfl] at hend
          have HEND := Lib.hid hend
          clear hf hend
          go_wp2
          go_ret
          exact retI_own (by rw [HEND.out]; exact own_mono (own_lit (wa.drewN d) 3 1 [.int .i64 (s.size : Int)] rfl (by unfold maxLen; omega)) (below_drewN HB0.out _).size) ((below_drewN HB0.out _).alloc (below_drewN HB0.out _).size _)
      · have hf : fstN (chB s.data.toList) s.size = g := fstN_is _ _ _ (by omega) hno (.inr hch)
        have hend := HRL.out
        rw [hf, if_neg (by omega)] at hend
        have HEND := Lib.hid hend
        have hTl : (rotL s.data.toList g).length = s.size := by rw [rotL_len _ _ (by rw [len_data]; omega), len_data]
        have hc1 := spec_l2Shift s g (wa.drewN d) (by omega) (by omega)
        obtain ⟨T, hT⟩ : ∃ T, rotL s.data.toList g = T := ⟨_, rfl⟩
        rw [hT] at HEND hTl hc1
        have HT := Lib.hid hTl
        have d0 : decide ((g : Int) < 0) = false := decide_eq_false (by omega)
        clear hf hend hch hno hT hcase hTl
        go_wp2_with fail
        all_goals
          refine hc1.mono ?_
          clear hc1
          rintro e w1 ⟨t, m1, rfl, ht, rfl⟩
          have hts : t.size = s.size := by rw [← len_data, ht, HT.out]
          have HTS := Lib.hid ht
          clear ht
          go_wp2_with fail
          go_loopw [3, 7, 8] (fun o n v wr => ∃ (i m c : Nat) (z : Int) (A : Option Addr), v = .int .i64 i ∧ n = .int .i64 z ∧ o = .slice A m c ∧ wr.ownsRow w.heap.size 3 1 (.slice A m c) m ((sortL (cK T i).1).map (Value.int .i64)) ∧ Hid (z = (cK T i).2) ∧ i ≤ s.size ∧ Below w.heap.size w wr) (fun _ _ v _ => s.size - (intOf v).toNat)
          case atStart => exact ⟨0, 0, 0, 0, _, rfl, rfl, rfl, HO0.out, rfl, by omega, below_drewN HB0.out _⟩
          case round =>
            obtain ⟨i, m, c, z, A, rfl, rfl, rfl, ho, hzc, hi2, hb⟩ := hrel
            have hz0 := hb.size
            have hcur := cK_cur T i
            rw [← hzc.out] at hcur
            have hcl := cK_len T i
            have hml : m ≤ i := own_num ho (by rw [(sortL_ok _).2.length_eq]; exact hcl)
            have HO1 := Lib.hid ho
            clear hcl ho
            by_cases hlt : i < s.size
            · have hins := fun w hx => spec_l1Insert A m c (sortL (cK T i).1) (z + 1) w hx (by omega)
              have HINS := Lib.hid hins
              have hw2 : IntKind.i64.wrap (z + 1) = z + 1 := IntWalk.i64_in _ ⟨by omega, by omega⟩
              have dlt : decide ((i : Int) < (s.size : Int)) = true := decide_eq_true (by omega)
              have hstep : ∀ e, e = (cK T i).1 ++ [z + 1] → sortL e = insL (z + 1) (sortL (cK T i).1) := fun e h => by rw [h, sortL_snoc]
              have HSTEP := Lib.hid hstep
              have HRD := Lib.hid (fun n => own_rdI (show (wr.drewN n).ownsRow w.heap.size 3 1 (.slice A m c) m ((sortL (cK T i).1).map (Value.int .i64)) from HO1.out))
              clear hins hstep
              by_cases hla : i + 1 = s.size
              · have he := cK_end T i (endB_last T i (by rw [HT.out]; exact hla))
                rw [← hzc.out] at he
                have HE := Lib.hid he
                have d1 : ((i : Int) == (s.size : Int) - 1) = true := beq_iff_eq.2 (by omega)
                have hw1 : IntKind.i64.wrap ((s.size : Int) - 1) = (s.size : Int) - 1 := IntWalk.i64_in _ ⟨by omega, by omega⟩
                clear he
                go_wp2_with fail
                go_quiet (fail)
                go_wp2_with fail
                refine (HINS.out _ (HRD.out _)).mono ?_
                rintro e w2 ⟨A', q, c', rfl, ho, hb2⟩
                have HO3 := Lib.hid (own_mono ho hz0)
                have hB2 := (below_drewN hb _).trans (hb2.mono hz0)
                clear ho hb hb2
                go_wp2_with fail
                clear hw1 hw2
                go_roundw
                case rel => exact ⟨i + 1, q, c', 0, A', by go_num, rfl, rfl, by rw [HE.out, HSTEP.out _ rfl]; exact HO3.out, by rw [HE.out]; rfl, by omega, hB2⟩
                case measure => simp [intOf] <;> omega
              · have hlt3 : i + 1 < t.size := by omega
                have heb := endB_data T t i HTS.out hlt3
                have d1 : ((i : Int) == (s.size : Int) - 1) = false := beq_eq_false_iff_ne.2 (by omega)
                have hw1 : IntKind.i64.wrap ((s.size : Int) - 1) = (s.size : Int) - 1 := IntWalk.i64_in _ ⟨by omega, by omega⟩
                have hw3 : IntKind.i64.wrap ((i : Int) + 1) = ((i + 1 : Nat) : Int) := by rw [IntWalk.i64_in _ ⟨by omega, by omega⟩]; omega
                obtain ⟨j, hj⟩ : ∃ j, i + 1 = j := ⟨_, rfl⟩
                rw [hj] at hw3 hlt3
                have hi3 : i < t.size := by omega
                have hj4 : j < s.size := by omega
                have heb2 : endB T i = (t[j] != t[i]) := by subst hj; exact heb
                rcases byte_same t[j] t[i] with ⟨h3, h4⟩ | ⟨h3, h4⟩
                · rw [bne_no8 h4.out] at heb2
                  have he := cK_on T i heb2
                  rw [← hzc.out] at he
                  have HE := Lib.hid he
                  clear heb heb2 he h4
                  go_wp2_with fail
                  go_quiet (fail)
                  go_wp2_with fail
                  clear hw1 hw2 hw3
                  go_roundw
                  case rel => exact ⟨i + 1, m, c, z + 1, A, by go_num, rfl, rfl, by rw [HE.out]; exact HO1.out, by rw [HE.out]; rfl, by omega, below_drewN hb _⟩
                  case measure => simp [intOf] <;> omega
                · rw [bne_yes8 h4.out] at heb2
                  have he := cK_end T i heb2
                  rw [← hzc.out] at he
                  have HE := Lib.hid he
                  clear heb heb2 he h4
                  go_wp2_with fail
                  go_quiet (fail)
                  go_wp2_with fail
                  refine (HINS.out _ (HRD.out _)).mono ?_
                  rintro e w2 ⟨A', q, c', rfl, ho, hb2⟩
                  have HO3 := Lib.hid (own_mono ho hz0)
                  have hB2 := (below_drewN hb _).trans (hb2.mono hz0)
                  clear ho hb hb2
                  go_wp2_with fail
                  clear hw1 hw2 hw3
                  go_roundw
                  case rel => exact ⟨i + 1, q, c', 0, A', by go_num, rfl, rfl, by rw [HE.out, HSTEP.out _ rfl]; exact HO3.out, by rw [HE.out]; rfl, by omega, hB2⟩
                  case measure => simp [intOf] <;> omega
            · obtain rfl : i = s.size := by omega
              have dlt : decide ((s.size : Int) < (s.size : Int)) = false := decide_eq_false (by omega)
              go_wp2_with fail
              go_ret
              exact retI_own (by rw [HEND.out]; exact HO1.out) hb

end Go.Proofs.Ytkebiigpfbconaa
