/- What spreading, correlating and receiving give back, in the program and in the reference. Conditions: as each theorem says. -/
import Derived.Test.YtlddefmakjnfdaaC4b
import Derived.Test.YtlddefmakjnfdaaC5
import Derived.Test.YtlddefmakjnfdaaPureR
import Derived.Test.YtlddefmakjnfdaaRdr
import Derived.StillTailTactics
namespace Go.Proofs.Ytlddefmakjnfdaa
open Go.RowKit
set_option linter.unusedSimpArgs false
set_option linter.unusedVariables false
set_option maxRecDepth 100000

theorem wrapI (z : Int) (h1 : -9223372036854775808 ≤ z) (h2 : z ≤ 9223372036854775807) : IntKind.i64.wrap z = z := IntWalk.i64_in z ⟨h1, h2⟩
theorem chip_spec (c : UInt8) (h : isBit c = true) : (1 - 2 * ((c.toNat : Int) - 48)) = chipI c := by
  rcases bit_toNat c h with ⟨rfl, h⟩ | ⟨rfl, h⟩ <;> rw [h] <;> rfl
theorem seqB_parts (l : List UInt8) (h : seqB l = true) : 1 ≤ l.length ∧ l.length ≤ 255 ∧ l.all isBit = true := by
  simp only [seqB, Bool.and_eq_true, decide_eq_true_eq] at h; exact ⟨h.1.1, h.1.2, h.2⟩
theorem str_getD (s : ByteArray) (k : Nat) (h : k < s.size) : s.data.toList.getD k 48 = s[k] := by rw [List.getD_eq_getElem?_getD, data_at s k h]; rfl
theorem impl_chip_still (c : UInt8) (w : World) : Calls Try.prog 53 #[.int .u8 (c.toNat : Int)] w fun e w' => e = .returned (.int .i64 (chipI c)) ∧ w' = w :=
  (impl_chipOf c w).mono fun e w' h => ⟨h.1, h.2.symm⟩
set_option maxHeartbeats 1000000 in
theorem impl_SpreadBits (s t : ByteArray) (w : World) (hs : s.size ≤ 1048576) (ht : t.size ≤ 1048576) :
    Calls Try.prog 15 #[.string s, .string t] w (RetIB 3 (spreadC s.data.toList t.data.toList).1 (spreadC s.data.toList t.data.toList).2 w) := by
  rcases spreadC_ways s.data.toList t.data.toList with ⟨h0, h⟩ | ⟨⟨h1, h2, h3⟩, h⟩
  · rw [h]
    clear h
    unfold spreadOk at h0
    rw [len_data, len_data] at h0
    cases h1 : bitsB s.data.toList
    · go_enter Try.func15, Try.ntmps15
      go_wp2_with (go_at_call 51; refine (impl_isBits _ _ (by unfold maxLen; omega)).mono ?_; rintro e w' ⟨rfl, rfl⟩; rw [h1])
      go_ret2
      exact retIB_nil _ _
    · cases h2 : seqB t.data.toList
      · go_enter Try.func15, Try.ntmps15
        go_wp2_with (first | (go_at_call 51; refine (impl_isBits _ _ (by unfold maxLen; omega)).mono ?_; rintro e w' ⟨rfl, rfl⟩; rw [h1]) | (go_at_call 52; refine (impl_SequenceValid _ _ (by unfold maxLen; omega)).mono ?_; rintro e w' ⟨rfl, rfl⟩; rw [h2]))
        go_ret2
        exact retIB_nil _ _
      · have h3 : ¬ s.size * t.size ≤ 3000 := fun h => h0 ⟨h1, h2, h⟩
        have hb := bitsB_bd s h1
        have hq := seqB_bd t h2
        have hm := mul_bd s.size t.size 600 255 hb hq.2
        have h4 : (3000 : Int) < (s.size : Int) * (t.size : Int) := by rw [← Int.natCast_mul]; omega
        clear h0
        go_enter Try.func15, Try.ntmps15
        go_wp2_with (first | (go_at_call 51; refine (impl_isBits _ _ (by unfold maxLen; omega)).mono ?_; rintro e w' ⟨rfl, rfl⟩; rw [h1]) | (go_at_call 52; refine (impl_SequenceValid _ _ (by unfold maxLen; omega)).mono ?_; rintro e w' ⟨rfl, rfl⟩; rw [h2]))
        go_ret2
        exact retIB_nil _ _
  · rw [h]
    clear h
    have hb := bitsB_bd s h1
    have hq := seqB_bd t h2
    rw [len_data, len_data] at h3
    have hln := spreadL_len s.data.toList t.data.toList
    rw [len_data, len_data] at hln
    have H1 := Lib.hid h1
    have H2 := Lib.hid h2
    obtain ⟨N, hN⟩ : ∃ N, s.size * t.size = N := ⟨_, rfl⟩
    have hNi : (s.size : Int) * (t.size : Int) = (N : Int) := by rw [← Int.natCast_mul, hN]
    rw [hN] at h3 hln
    have HN := Lib.hid hN
    have HL := Lib.hid hln
    have hmk := run_make_row' (P := Try.prog) 22 3 (.int .i64 0) 8 Try.underlying22 Try.infoI64 rfl .i64 .i64 N (by omega) (by omega)
    have d3 : decide ((3000 : Int) < (N : Int)) = false := by simp; omega
    clear hN hln h1 h2
    go_enter Try.func15, Try.ntmps15
    go_wp2_with (first | (go_at_call 51; refine (impl_isBits _ _ (by unfold maxLen; omega)).mono ?_; rintro e w' ⟨rfl, rfl⟩; rw [H1.out]) | (go_at_call 52; refine (impl_SequenceValid _ _ (by unfold maxLen; omega)).mono ?_; rintro e w' ⟨rfl, rfl⟩; rw [H2.out]))
    clear hmk d3 hNi
    go_loopw [32] (fun v wr => ∃ k : Nat, k ≤ N ∧ v = .int .i64 k ∧ wr.ownsRow w.heap.size 3 1 (.slice (some ⟨w.heap.size, 0, none⟩) N N) N (Fill ((spreadL s.data.toList t.data.toList).map (Value.int .i64)) (.int .i64 0) k) ∧ Below w.heap.size w wr) (fun v _ => N - (intOf v).toNat)
    case atStart => exact ⟨0, Nat.zero_le _, rfl, by rw [fill_zero, List.length_map, HL.out]; exact own_made _ _ _ _ (by unfold maxLen; omega), (Below.refl _ _).alloc (Nat.le_refl _) _⟩
    case round =>
      obtain ⟨k, hk, rfl, ho, hb'⟩ := hrel
      by_cases hlt : k < N
      · obtain ⟨q, hq1⟩ : ∃ q, k / t.size = q := ⟨_, rfl⟩
        obtain ⟨r, hr1⟩ : ∃ r, k % t.size = r := ⟨_, rfl⟩
        have hqs : q < s.size := by rw [← hq1]; exact Nat.div_lt_of_lt_mul (by rw [Nat.mul_comm, HN.out]; exact hlt)
        have hrs : r < t.size := by rw [← hr1]; exact Nat.mod_lt _ (by omega)
        have hqi : (k : Int) / (t.size : Int) = (q : Int) := by rw [← hq1]; rfl
        have hri : (k : Int) % (t.size : Int) = (r : Int) := by rw [← hr1]; rfl
        have hqt : (k : Int).tdiv (t.size : Int) = (q : Int) := by rw [Int.tdiv_eq_ediv_of_nonneg (by omega)]; exact hqi
        have hrt : (k : Int).tmod (t.size : Int) = (r : Int) := by rw [Int.tmod_eq_emod_of_nonneg (by omega)]; exact hri
        have hsl := spreadL_at s.data.toList t.data.toList k s[q] t[r] (by rw [len_data, hq1]; exact data_at s q hqs) (by rw [len_data, hr1]; exact data_at t r hrs)
        have HSL := Lib.hid hsl
        have hbd := chip_mul_bd s[q] t[r]
        have hc := ho.cellAt k (by omega)
        rw [fill_at _ _ _ (by rw [List.length_map, HL.out]; exact hlt)] at hc
        have hf := ho.frozenAt k
        have HO := Lib.hid ho
        clear ho hsl hq1 hr1
        go_wp2
        have hz1 : ((t.size : Int) == 0) = false := beq_eq_false_iff_ne.2 (by omega)
        have hz2 : ¬ (t.size : Int) = 0 := by omega
        have hz3 : ¬ t.size = 0 := by omega
        have hwq : IntKind.i64.wrap (q : Int) = (q : Int) := wrapI _ (by omega) (by omega)
        have hwr : IntKind.i64.wrap (r : Int) = (r : Int) := wrapI _ (by omega) (by omega)
        have hwm : IntKind.i64.wrap (chipI s[q] * chipI t[r]) = chipI s[q] * chipI t[r] := wrapI _ (by omega) (by omega)
        go_still_tail 18, (by kernel_rfl)
        still_call (impl_chip_still _ _)
        repeat still_step
        still_call (impl_chip_still _ _)
        repeat still_step
        refine wpStill_nil ?_
        go_wp2
        go_roundw
        case rel =>
          have hs := HO.out.stored k (.int .i64 (chipI s[q] * chipI t[r]))
          rw [fill_set _ _ _ _ (by rw [List.getElem?_map, HSL.out]; rfl)] at hs
          exact ⟨k + 1, by omega, by go_num, hs.1, (hb'.setCell (Nat.le_refl _) _).drew⟩
        case measure => simp [intOf]; omega
      · rw [fill_full _ _ _ (by rw [List.length_map, HL.out]; omega)] at ho
        go_wp2
        go_ret2
        exact retIB_own ho hb'
set_option maxHeartbeats 1000000 in
theorem spec_l4Spread (s t : ByteArray) (w : World) (hs : s.size ≤ 600) (ht : t.size ≤ 255) (hb : t.data.toList.all isBit = true) :
    Calls Try.prog 50 #[.string s, .string t] w (RetI .i64 3 (spreadL s.data.toList t.data.toList) w) := by
  have HB := Lib.hid hb
  clear hb
  go_enter Try.func50, Try.ntmps50
  go_wp2_with fail
  go_loopw [5, 6] (fun o v wr => ∃ (i : Nat) (A : Option Addr) (n c : Nat), i ≤ s.size ∧ v = .int .i64 i ∧ o = .slice A n c ∧ wr.ownsRow w.heap.size 3 1 (.slice A n c) n ((spreadL (s.data.toList.take i) t.data.toList).map (Value.int .i64)) ∧ Below w.heap.size w wr) (fun _ v _ => s.size - (intOf v).toNat)
  case atStart => exact ⟨0, _, 0, 0, Nat.zero_le _, rfl, rfl, own_empty w _ _ (Nat.le_refl _), (Below.refl _ _).alloc (Nat.le_refl _) _⟩
  case round =>
    obtain ⟨i, A, n, c, hi, rfl, rfl, ho, hb⟩ := hrel
    have hnl := (own_rdI ho).len
    rw [spreadL_len, List.length_take, len_data, len_data, Nat.min_eq_left hi] at hnl
    have hn : n ≤ 153000 := by
      have h5 : i * t.size ≤ 600 * 255 := Nat.mul_le_mul (by omega) ht
      omega
    have HO := Lib.hid ho
    have hsz := hb.size
    clear ho hnl
    by_cases hlt : i < s.size
    · have hsn := spreadL_snoc s.data.toList t.data.toList i s[i] (data_at s i hlt)
      rcases byte_same s[i] 48 with ⟨h3, h4⟩ | ⟨h3, h4⟩
      all_goals change ((s[i].toNat : Int) == 48) = _ at h3
      · rw [h4.out, chips_same] at hsn
        have HSN := Lib.hid hsn
        clear hsn
        obtain ⟨wo, rfl⟩ : ∃ wo, wo = wr := ⟨_, rfl⟩
        go_wp2_with fail
        refine (spec_l4Chips t _ (by omega) HB.out).mono ?_
        rintro e w2 ⟨A2, n2, c2, rfl, ho2, hb2⟩
        have hn2 := (own_rdI ho2).len
        rw [List.length_map, len_data] at hn2
        have hs2 := hb2.size
        have HO' := Lib.hid (own_below HO.out hb2)
        have HR2 := Lib.hid (own_rdI ho2)
        clear ho2
        go_wp2_with (at_builtin; refine wpList_append_rd _ rfl _ _ 22 rfl w.heap.size 3 (.int .i64 0) 8 Try.underlying22 Try.infoI64 rfl (.slice A n c) _ _ rfl HO'.out _ _ _ _ rfl HR2.out (ints_one _ _) ?_ (by omega) ?_ ?_; omega; omega; intro A' q c' w' hq ho hg; have HQ := Lib.hid hq.out; have HO2 := Lib.hid ho; have HG := Lib.hid hg; clear hq ho hg)
        go_roundw
        case rel => exact ⟨i + 1, A', q, c', by omega, by go_num, rfl, by rw [HSN.out, List.map_append]; exact HO2.out, (hb.trans (hb2.mono hsz)).trans (own_below_of HO'.out HG.out (by omega))⟩
        case measure => simp [intOf]; omega
      · rw [chips_flip _ h4.out _ HB.out] at hsn
        have HSN := Lib.hid hsn
        clear hsn
        obtain ⟨wo, rfl⟩ : ∃ wo, wo = wr := ⟨_, rfl⟩
        go_wp2_with fail
        refine (spec_l2Invert t _ (by omega) HB.out).mono ?_
        rintro e w1 ⟨u, rfl, hu, hb1⟩
        have hs1 := hb1.size
        have hus : u.size = t.size := by rw [str_size hu]; simp
        go_wp2_with fail
        refine (spec_l4Chips u _ (by omega) (by rw [hu]; exact flipC_bits _)).mono ?_
        rintro e w2 ⟨A2, n2, c2, rfl, ho2, hb2⟩
        have hn2 := (own_rdI ho2).len
        rw [List.length_map, len_data] at hn2
        have hs2 := hb2.size
        have hb12 := hb1.trans (hb2.mono hs1)
        have HO' := Lib.hid (own_below HO.out hb12)
        rw [hu] at ho2
        have HR2 := Lib.hid (own_rdI ho2)
        clear ho2
        go_wp2_with (at_builtin; refine wpList_append_rd _ rfl _ _ 22 rfl w.heap.size 3 (.int .i64 0) 8 Try.underlying22 Try.infoI64 rfl (.slice A n c) _ _ rfl HO'.out _ _ _ _ rfl HR2.out (ints_one _ _) ?_ (by omega) ?_ ?_; omega; omega; intro A' q c' w' hq ho hg; have HQ := Lib.hid hq.out; have HO2 := Lib.hid ho; have HG := Lib.hid hg; clear hq ho hg)
        go_roundw
        case rel => exact ⟨i + 1, A', q, c', by omega, by go_num, rfl, by rw [HSN.out, List.map_append]; exact HO2.out, (hb.trans (hb12.mono hsz)).trans (own_below_of HO'.out HG.out (by omega))⟩
        case measure => simp [intOf]; omega
    · have h5 := HO.out
      rw [List.take_of_length_le (by rw [len_data]; omega)] at h5
      have HO5 := Lib.hid h5
      clear h5
      go_wp2
      go_ret
      exact retI_own HO5.out hb
set_option maxHeartbeats 1000000 in
theorem spec_SpreadBits (s t : ByteArray) (w : World) (hs : s.size ≤ 1048576) (ht : t.size ≤ 1048576) :
    Calls Try.prog 14 #[.string s, .string t] w (RetIB 3 (spreadC s.data.toList t.data.toList).1 (spreadC s.data.toList t.data.toList).2 w) := by
  rcases spreadC_ways s.data.toList t.data.toList with ⟨h0, h⟩ | ⟨⟨h1, h2, h3⟩, h⟩
  · rw [h]
    clear h
    unfold spreadOk at h0
    rw [len_data, len_data] at h0
    cases h1 : bitsB s.data.toList
    · go_enter Try.func14, Try.ntmps14
      go_wp2_with (go_at_call 48; refine (spec_l1Bits _ _ (by unfold maxLen; omega)).mono ?_; rintro e w' ⟨rfl, rfl⟩; rw [h1])
      go_ret2
      exact retIB_empty _ _
    · cases h2 : seqB t.data.toList
      · go_enter Try.func14, Try.ntmps14
        go_wp2_with (first | (go_at_call 48; refine (spec_l1Bits _ _ (by unfold maxLen; omega)).mono ?_; rintro e w' ⟨rfl, rfl⟩; rw [h1]) | (go_at_call 49; refine (spec_SequenceValid _ _ (by unfold maxLen; omega)).mono ?_; rintro e w' ⟨rfl, rfl⟩; rw [h2]))
        go_ret2
        exact retIB_empty _ _
      · have h3 : ¬ s.size * t.size ≤ 3000 := fun h => h0 ⟨h1, h2, h⟩
        have hb := bitsB_bd s h1
        have hq := seqB_bd t h2
        have hm := mul_bd s.size t.size 600 255 hb hq.2
        have h4 : (3000 : Int) < (s.size : Int) * (t.size : Int) := by rw [← Int.natCast_mul]; omega
        clear h0
        go_enter Try.func14, Try.ntmps14
        go_wp2_with (first | (go_at_call 48; refine (spec_l1Bits _ _ (by unfold maxLen; omega)).mono ?_; rintro e w' ⟨rfl, rfl⟩; rw [h1]) | (go_at_call 49; refine (spec_SequenceValid _ _ (by unfold maxLen; omega)).mono ?_; rintro e w' ⟨rfl, rfl⟩; rw [h2]))
        go_ret2
        exact retIB_empty _ _
  · rw [h]
    clear h
    have hb := bitsB_bd s h1
    have hq := seqB_bd t h2
    rw [len_data, len_data] at h3
    have H1 := Lib.hid h1
    have H2 := Lib.hid h2
    obtain ⟨N, hN⟩ : ∃ N, s.size * t.size = N := ⟨_, rfl⟩
    have hNi : (s.size : Int) * (t.size : Int) = (N : Int) := by rw [← Int.natCast_mul, hN]
    rw [hN] at h3
    have d3 : decide ((3000 : Int) < (N : Int)) = false := by simp; omega
    clear hN h1 h2
    go_enter Try.func14, Try.ntmps14
    go_wp2_with (first | (go_at_call 48; refine (spec_l1Bits _ _ (by unfold maxLen; omega)).mono ?_; rintro e w' ⟨rfl, rfl⟩; rw [H1.out]) | (go_at_call 49; refine (spec_SequenceValid _ _ (by unfold maxLen; omega)).mono ?_; rintro e w' ⟨rfl, rfl⟩; rw [H2.out]) | (go_at_call 50; refine (spec_l4Spread s t _ hb hq.2 (seqB_parts _ H2.out).2.2).mono ?_; rintro e w2 ⟨A2, n2, c2, rfl, ho, hb2⟩; have HO := Lib.hid ho; have HB2 := Lib.hid hb2; clear ho hb2))
    go_ret2
    exact retIB_own HO.out HB2.out
set_option maxHeartbeats 1000000 in
theorem impl_correlationAt (A : Option Addr) (n c : Nat) (zs : List Int) (t : ByteArray) (f : Nat) (w : World) (hx : RdI .i64 w A n zs) (hn : n ≤ 1048576) (hz : bdI 1000000 zs) (ht : t.size ≤ 255) (hf : f ≤ 1048576) :
    Calls Try.prog 89 #[.slice A n c, .string t, .int .i64 f] w (RetD (.int .i64 (corrC zs t.data.toList f)) w) := by
  have lx := hx.len
  have LX := Lib.hid lx
  have HZ := Lib.hid hz
  clear lx hz
  go_enter Try.func89, Try.ntmps89
  go_wp2_with fail
  go_loopw [7, 8] (fun u v wr => ∃ i d : Nat, i ≤ t.size ∧ v = .int .i64 i ∧ u = .int .i64 (sumTo (corrT zs t.data.toList f) i) ∧ wr = w.drewN d) (fun _ v _ => t.size - (intOf v).toNat)
  case atStart => exact ⟨0, 0, Nat.zero_le _, rfl, rfl, rfl⟩
  case round =>
    obtain ⟨i, d, hi, rfl, rfl, rfl⟩ := hrel
    have hb := corrK_bd zs HZ.out t.data.toList f i
    by_cases hlt : i < t.size
    · obtain ⟨j, hj⟩ : ∃ j : Nat, f + i = j := ⟨_, rfl⟩
      have hji : (f : Int) + (i : Int) = (j : Int) := by omega
      have hwr : IntKind.i64.wrap ((f : Int) + (i : Int)) = (j : Int) := by rw [IntWalk.i64_in _ ⟨by omega, by omega⟩]; omega
      have hwr2 : IntKind.i64.wrap (j : Int) = (j : Int) := IntWalk.i64_in _ ⟨by omega, by omega⟩
      by_cases hjn : j < n
      · obtain ⟨b, o, x, rfl, hbb, hxx, hcx⟩ := hx.at hjn
        have hxb := HZ.out x (List.mem_of_getElem? hxx.out)
        have hct : corrT zs t.data.toList f i = chipI t[i] * x := by unfold corrT; rw [str_getD t i hlt, hj, List.getD_eq_getElem?_getD, hxx.out]; rfl
        have hcb := chip_mul t[i] x 1000000 hxb
        have hst := sumTo_succ (corrT zs t.data.toList f) i
        rw [hct] at hst
        have HST := Lib.hid hst
        generalize sumTo (corrT zs t.data.toList f) i = sc at *
        have hw1 : IntKind.i64.wrap (chipI t[i] * x) = chipI t[i] * x := IntWalk.i64_in _ ⟨by omega, by omega⟩
        have hw2 : IntKind.i64.wrap (sc + chipI t[i] * x) = sc + chipI t[i] * x := IntWalk.i64_in _ ⟨by omega, by omega⟩
        clear hct hst
        go_wp2
        go_quiet ((go_at_call 53; refine (impl_chipOf _ _).mono ?_; rintro e w' ⟨rfl, rfl⟩; exact ⟨rfl, _, rfl⟩))
        go_wp2
        go_roundw
        case rel => exact ⟨i + 1, _, by omega, by go_num, by rw [HST.out], rfl⟩
        case measure => simp [intOf]; omega
      · have hend := corr_stop zs t.data.toList f i (by rw [len_data]; omega) (.inr (by rw [LX.out]; omega))
        have dj : decide ((j : Int) < (n : Int)) = false := by simp; omega
        go_wp2
        go_ret
        exact ⟨by rw [hend]; rfl, _, rfl⟩
    · have hend := corr_stop zs t.data.toList f i (by rw [len_data]; omega) (.inl (by rw [len_data]; omega))
      go_wp2
      go_ret
      exact ⟨by rw [hend]; rfl, _, rfl⟩
set_option maxHeartbeats 1000000 in
theorem spec_l4Dot (A : Option Addr) (n c : Nat) (zs : List Int) (t : ByteArray) (f : Nat) (w : World) (hx : RdI .i64 w A n zs) (hn : n ≤ 1048576) (hz : bdI 1000000 zs) (ht : t.size ≤ 255) (hbits : t.data.toList.all isBit = true) (hf : f ≤ 1048576) :
    Calls Try.prog 87 #[.slice A n c, .int .i64 f, .string t] w (RetD (.int .i64 (corrC zs t.data.toList f)) w) := by
  have lx := hx.len
  have LX := Lib.hid lx
  have HZ := Lib.hid hz
  have HB := Lib.hid hbits
  clear lx hz hbits
  go_enter Try.func87, Try.ntmps87
  go_wp2_with fail
  go_loopw [7, 8] (fun u v wr => ∃ i d : Nat, i ≤ t.size ∧ v = .int .i64 i ∧ u = .int .i64 (sumTo (corrT zs t.data.toList f) i) ∧ wr = w.drewN d) (fun _ v _ => t.size - (intOf v).toNat)
  case atStart => exact ⟨0, 0, Nat.zero_le _, rfl, rfl, rfl⟩
  case round =>
    obtain ⟨i, d, hi, rfl, rfl, rfl⟩ := hrel
    have hb := corrK_bd zs HZ.out t.data.toList f i
    by_cases hlt : i < t.size
    · obtain ⟨j, hj⟩ : ∃ j : Nat, f + i = j := ⟨_, rfl⟩
      have hji : (f : Int) + (i : Int) = (j : Int) := by omega
      have hwr : IntKind.i64.wrap ((f : Int) + (i : Int)) = (j : Int) := by rw [IntWalk.i64_in _ ⟨by omega, by omega⟩]; omega
      have hwr2 : IntKind.i64.wrap (j : Int) = (j : Int) := IntWalk.i64_in _ ⟨by omega, by omega⟩
      by_cases hjn : j < n
      · obtain ⟨b, o, x, rfl, hbb, hxx, hcx⟩ := hx.at hjn
        have hxb := HZ.out x (List.mem_of_getElem? hxx.out)
        have hbit := List.all_eq_true.1 HB.out t[i] (List.mem_of_getElem? (data_at t i hlt))
        have hct : corrT zs t.data.toList f i = x * chipI t[i] := by unfold corrT; rw [str_getD t i hlt, hj, List.getD_eq_getElem?_getD, hxx.out, Int.mul_comm]; rfl
        have hst := sumTo_succ (corrT zs t.data.toList f) i
        rw [hct] at hst
        generalize sumTo (corrT zs t.data.toList f) i = sc at *
        have hw2 : IntKind.i64.wrap (sc + x) = sc + x := IntWalk.i64_in _ ⟨by omega, by omega⟩
        have hw3 : IntKind.i64.wrap (sc + -x) = sc + -x := IntWalk.i64_in _ ⟨by omega, by omega⟩
        have hw1 : IntKind.i64.wrap x = x := IntWalk.i64_in _ ⟨by omega, by omega⟩
        have hw4 : IntKind.i64.wrap (x * -1) = -x := by rw [IntWalk.i64_in _ ⟨by omega, by omega⟩]; omega
        have hw5 : IntKind.i64.wrap (-x) = -x := IntWalk.i64_in _ ⟨by omega, by omega⟩
        clear hct
        rcases bit_toNat _ hbit with ⟨h5, h6⟩ | ⟨h5, h6⟩
        · rw [h5, show chipI 48 = 1 from rfl, Int.mul_one] at hst
          have HST := Lib.hid hst
          clear hst h5 hbit
          go_wp2
          go_quiet (fail)
          go_wp2
          go_roundw
          case rel => exact ⟨i + 1, _, by omega, by go_num, by rw [HST.out], rfl⟩
          case measure => simp [intOf]; omega
        · rw [h5, show chipI 49 = -1 from rfl, show x * -1 = -x by omega] at hst
          have HST := Lib.hid hst
          clear hst h5 hbit
          go_wp2
          go_quiet (fail)
          go_wp2
          go_roundw
          case rel => exact ⟨i + 1, _, by omega, by go_num, by rw [HST.out], rfl⟩
          case measure => simp [intOf]; omega
      · have hend := corr_stop zs t.data.toList f i (by rw [len_data]; omega) (.inr (by rw [LX.out]; omega))
        have dj : decide ((j : Int) < (n : Int)) = false := by simp; omega
        go_wp2
        go_ret
        exact ⟨by rw [hend]; rfl, _, rfl⟩
    · have hend := corr_stop zs t.data.toList f i (by rw [len_data]; omega) (.inl (by rw [len_data]; omega))
      go_wp2
      go_ret
      exact ⟨by rw [hend]; rfl, _, rfl⟩
def recB (s : List Int) (c : List UInt8) (f : Int) : Bool := sigB s && seqB c && within 0 3000 f
set_option maxHeartbeats 1000000 in
theorem impl_receptionValid (A : Option Addr) (n c : Nat) (zs : List Int) (t : ByteArray) (f : Int) (w : World) (hx : RdI .i64 w A n zs) (hn : n ≤ maxLen) (ht : t.size ≤ 1048576) :
    Calls Try.prog 58 #[.slice A n c, .string t, .int .i64 f] w fun e w' => e = .returned (.bool (recB zs t.data.toList f)) ∧ w = w' := by
  cases h1 : sigB zs
  · go_enter Try.func58, Try.ntmps58
    go_wp2_with (go_at_call 56; refine (impl_SignalValid _ _ _ _ _ hx hn).mono ?_; rintro e w' ⟨rfl, rfl⟩; rw [h1])
    go_ret
    exact ⟨ret_bool (by unfold recB; rw [h1]; rfl), rfl⟩
  · cases h2 : seqB t.data.toList
    · go_enter Try.func58, Try.ntmps58
      go_wp2_with (first | (go_at_call 56; refine (impl_SignalValid _ _ _ _ _ hx hn).mono ?_; rintro e w' ⟨rfl, rfl⟩; rw [h1]) | (go_at_call 52; refine (impl_SequenceValid _ _ (by unfold maxLen; omega)).mono ?_; rintro e w' ⟨rfl, rfl⟩; rw [h2]))
      go_ret
      exact ⟨ret_bool (by unfold recB; rw [h1, h2]; rfl), rfl⟩
    · by_cases h3 : f < 0
      · go_enter Try.func58, Try.ntmps58
        go_wp2_with (first | (go_at_call 56; refine (impl_SignalValid _ _ _ _ _ hx hn).mono ?_; rintro e w' ⟨rfl, rfl⟩; rw [h1]) | (go_at_call 52; refine (impl_SequenceValid _ _ (by unfold maxLen; omega)).mono ?_; rintro e w' ⟨rfl, rfl⟩; rw [h2]))
        go_ret
        exact ⟨ret_bool (by unfold recB; rw [h1, h2, within_low _ _ _ h3]; rfl), rfl⟩
      · by_cases h4 : 3000 < f
        · go_enter Try.func58, Try.ntmps58
          go_wp2_with (first | (go_at_call 56; refine (impl_SignalValid _ _ _ _ _ hx hn).mono ?_; rintro e w' ⟨rfl, rfl⟩; rw [h1]) | (go_at_call 52; refine (impl_SequenceValid _ _ (by unfold maxLen; omega)).mono ?_; rintro e w' ⟨rfl, rfl⟩; rw [h2]))
          go_ret
          exact ⟨ret_bool (by unfold recB; rw [h1, h2, within_big _ _ _ h4]; simp; omega), rfl⟩
        · go_enter Try.func58, Try.ntmps58
          go_wp2_with (first | (go_at_call 56; refine (impl_SignalValid _ _ _ _ _ hx hn).mono ?_; rintro e w' ⟨rfl, rfl⟩; rw [h1]) | (go_at_call 52; refine (impl_SequenceValid _ _ (by unfold maxLen; omega)).mono ?_; rintro e w' ⟨rfl, rfl⟩; rw [h2]))
          go_ret
          exact ⟨ret_bool (by unfold recB; rw [h1, h2, (within_iff 0 3000 f).2 ⟨by omega, by omega⟩]; rfl), rfl⟩
set_option maxHeartbeats 1000000 in
theorem spec_l4Listen (A : Option Addr) (n c : Nat) (zs : List Int) (t : ByteArray) (f k : Int) (w : World) (hx : RdI .i64 w A n zs) (hn : n ≤ maxLen) (ht : t.size ≤ 1048576) :
    Calls Try.prog 54 #[.slice A n c, .string t, .int .i64 f, .int .i64 k] w fun e w' => e = .returned (.bool (lisB zs t.data.toList f k)) ∧ w = w' := by
  cases h1 : sigB zs
  all_goals cases h2 : seqB t.data.toList
  all_goals cases h3 : within 0 3000 f
  all_goals
    go_enter Try.func54, Try.ntmps54
    go_wp2_with (first | (go_at_call 86; refine (spec_SignalValid _ _ _ _ _ hx hn).mono ?_; rintro e w' ⟨rfl, rfl⟩; rw [h1]) | (go_at_call 49; refine (spec_SequenceValid _ _ (by unfold maxLen; omega)).mono ?_; rintro e w' ⟨rfl, rfl⟩; rw [h2]) | (go_at_call 61; refine (spec_l1In _ _ _ _).mono ?_; rintro e w' ⟨rfl, rfl⟩; first | rw [h3] | skip))
    go_ret
    exact ⟨ret_bool (by unfold lisB; rw [h1, h2, h3]; rfl), rfl⟩
set_option maxHeartbeats 1000000 in
theorem impl_correlationsFrom (A : Option Addr) (n c : Nat) (zs : List Int) (t : ByteArray) (f k : Nat) (w : World) (hx : RdI .i64 w A n zs) (hn : n ≤ 1048576) (hz : bdI 1000000 zs) (ht : t.size ≤ 255) (hf : f ≤ 3000) (hk : k ≤ 600) :
    Calls Try.prog 57 #[.slice A n c, .string t, .int .i64 f, .int .i64 k] w (RetI .i64 3 (desL zs t.data.toList f k) w) := by
  have HZ := Lib.hid hz
  have HL := Lib.hid (desL_len zs t.data.toList f k)
  clear hz
  have hmk := run_make_row' (P := Try.prog) 22 3 (.int .i64 0) 8 Try.underlying22 Try.infoI64 rfl .i64 .i64 k (by omega) (by omega)
  go_enter Try.func57, Try.ntmps57
  go_wp2_with fail
  clear hmk
  go_loopw [15] (fun v wr => ∃ i : Nat, i ≤ k ∧ v = .int .i64 i ∧ wr.ownsRow w.heap.size 3 1 (.slice (some ⟨w.heap.size, 0, none⟩) k k) k (Fill ((desL zs t.data.toList f k).map (Value.int .i64)) (.int .i64 0) i) ∧ Below w.heap.size w wr) (fun v _ => k - (intOf v).toNat)
  case atStart => exact ⟨0, Nat.zero_le _, rfl, by rw [fill_zero, List.length_map, HL.out]; exact own_made _ _ _ _ (by unfold maxLen; omega), (Below.refl _ _).alloc (Nat.le_refl _) _⟩
  case round =>
    obtain ⟨i, hi, rfl, ho, hb⟩ := hrel
    by_cases hlt : i < k
    · have hda := desL_at zs t.data.toList f k i hlt
      obtain ⟨j, hj⟩ : ∃ j : Nat, i * t.size = j := ⟨_, rfl⟩
      have hjb : j ≤ 153000 := by
        have h5 : i * t.size ≤ 600 * 255 := Nat.mul_le_mul (by omega) ht
        omega
      have hji : (i : Int) * (t.size : Int) = (j : Int) := by rw [← Int.natCast_mul, hj]
      rw [len_data, hj] at hda
      have HDA := Lib.hid hda
      have HO := Lib.hid ho
      have hsz := hb.size
      clear ho hda
      go_wp2_with fail
      rw [← Int.natCast_add]
      refine (impl_correlationAt A n c zs t (f + j) _ (Rd.below hx hb) hn HZ.out ht (by omega)).mono ?_
      rintro e w2 hq
      obtain ⟨rfl, hb2⟩ := retD_below hq
      have ho2 := own_below HO.out hb2
      clear hq
      have hc := ho2.cellAt i (by omega)
      rw [fill_at _ _ _ (by rw [List.length_map, HL.out]; exact hlt)] at hc
      have hf' := ho2.frozenAt i
      have HO2 := Lib.hid ho2
      clear ho2
      go_wp2
      go_roundw
      case rel =>
        have hs := HO2.out.stored i (.int .i64 (corrC zs t.data.toList (f + j)))
        rw [fill_set _ _ _ _ (by rw [List.getElem?_map, HDA.out]; rfl)] at hs
        exact ⟨i + 1, by omega, by go_num, hs.1, (hb.trans (hb2.mono hsz)).setCell (Nat.le_refl _) _⟩
      case measure => simp [intOf]; omega
    · rw [fill_full _ _ _ (by rw [List.length_map, HL.out]; omega)] at ho
      go_wp2
      go_ret
      exact retI_own ho hb
set_option maxHeartbeats 1000000 in
theorem spec_l4Despread (A : Option Addr) (n c : Nat) (zs : List Int) (t : ByteArray) (f k : Nat) (w : World) (hx : RdI .i64 w A n zs) (hn : n ≤ 1048576) (hz : bdI 1000000 zs) (ht : t.size ≤ 255) (hbits : t.data.toList.all isBit = true) (hf : f ≤ 3000) (hk : k ≤ 600) :
    Calls Try.prog 55 #[.slice A n c, .string t, .int .i64 f, .int .i64 k] w (RetI .i64 3 (desL zs t.data.toList f k) w) := by
  have HZ := Lib.hid hz
  have HB := Lib.hid hbits
  clear hz hbits
  go_enter Try.func55, Try.ntmps55
  go_wp2_with fail
  go_loopw [9, 10] (fun o v wr => ∃ (i : Nat) (B : Option Addr) (d : Nat), i ≤ k ∧ v = .int .i64 i ∧ o = .slice B i d ∧ wr.ownsRow w.heap.size 3 1 (.slice B i d) i ((desL zs t.data.toList f i).map (Value.int .i64)) ∧ Below w.heap.size w wr) (fun _ v _ => k - (intOf v).toNat)
  case atStart => exact ⟨0, _, 0, Nat.zero_le _, rfl, rfl, own_empty w _ _ (Nat.le_refl _), (Below.refl _ _).alloc (Nat.le_refl _) _⟩
  case round =>
    obtain ⟨i, B, d, hi, rfl, rfl, ho, hb⟩ := hrel
    by_cases hlt : i < k
    · have hda := desL_snoc zs t.data.toList f i
      obtain ⟨j, hj⟩ : ∃ j : Nat, i * t.size = j := ⟨_, rfl⟩
      have hjb : j ≤ 153000 := by
        have h5 : i * t.size ≤ 600 * 255 := Nat.mul_le_mul (by omega) ht
        omega
      have hji : (i : Int) * (t.size : Int) = (j : Int) := by rw [← Int.natCast_mul, hj]
      rw [len_data, hj] at hda
      have HDA := Lib.hid hda
      have HO := Lib.hid ho
      have hsz := hb.size
      clear ho hda
      obtain ⟨wo, rfl⟩ : ∃ wo, wo = wr := ⟨_, rfl⟩
      go_wp2_with fail
      rw [← Int.natCast_add]
      refine (spec_l4Dot A n c zs t (f + j) _ (Rd.below hx hb) hn HZ.out ht HB.out (by omega)).mono ?_
      rintro e w2 hq
      obtain ⟨rfl, hb2⟩ := retD_below hq
      have hs2 := hb2.size
      have HO2 := Lib.hid ((own_below HO.out hb2).alloc (.cells #[.int .i64 (corrC zs t.data.toList (f + j))] 3))
      clear hq
      go_wp2_with (at_builtin; refine wpList_append_rd _ rfl _ _ 22 rfl w.heap.size 3 (.int .i64 0) 8 Try.underlying22 Try.infoI64 rfl (.slice B i d) _ _ rfl HO2.out _ _ _ [.int .i64 (corrC zs t.data.toList (f + j))] rfl (rd_new _ [.int .i64 _] _ 1 rfl) (by simp [Value.oneCell']) ?_ (by omega) ?_ ?_; omega; simp; omega; intro A' q c' w' hq ho hg; have HQ := Lib.hid hq.out; have HO3 := Lib.hid ho; have HG := Lib.hid hg; clear hq ho hg)
      go_roundw
      case rel =>
        have hq := HQ.out
        subst hq
        exact ⟨i + 1, A', c', by omega, by go_num, rfl, by rw [HDA.out, List.map_append]; exact HO3.out, ((hb.trans (hb2.mono hsz)).alloc (by omega) _).trans (own_below_of HO2.out HG.out (by simp; omega))⟩
      case measure => simp [intOf]; omega
    · obtain rfl : i = k := by omega
      have HO := Lib.hid ho
      clear ho
      go_wp2
      go_ret
      exact retI_own HO.out hb

end Go.Proofs.Ytlddefmakjnfdaa
