/- What despreading and receiving give back, in the program and in the reference. Conditions: as each theorem says. -/
import Derived.Test.YtlddefmakjnfdaaC8
import Derived.Test.YtlddefmakjnfdaaStr
namespace Go.Proofs.Ytlddefmakjnfdaa
open Go.RowKit
set_option linter.unusedSimpArgs false
set_option linter.unusedVariables false
set_option maxRecDepth 100000

theorem retStrB_nil (w : World) : RetStrB [] false w (.returned (.tuple #[.string ⟨#[]⟩, .bool false])) w := ⟨_, rfl, rfl, Below.refl _ _⟩
theorem rdI_small {zs : List Int} {w : World} {A : Option Addr} {n : Nat} (hx : RdI .i64 w A n zs) (h : sigB zs = true) : n ≤ 3000 := by
  have := (sig_bd zs h).1
  rw [hx.len] at this; exact this
set_option maxHeartbeats 1000000 in
theorem impl_DespreadSignal (A : Option Addr) (n c : Nat) (zs : List Int) (t : ByteArray) (k : Int) (w : World) (hx : RdI .i64 w A n zs) (hn : n ≤ maxLen) (ht : t.size ≤ 1048576) :
    Calls Try.prog 21 #[.slice A n c, .string t, .int .i64 k] w (RetIB 3 (desC zs t.data.toList k).1 (desC zs t.data.toList k).2 w) := by
  have no : lisB zs t.data.toList 0 k = false → RetIB 3 (desC zs t.data.toList k).1 (desC zs t.data.toList k).2 w (.returned (.tuple #[.slice none 0 0, .bool false])) w := by
    intro h
    have : desC zs t.data.toList k = ([], false) := by unfold desC; rw [h]; rfl
    rw [this]; exact retIB_nil _ _
  have NO := Lib.hid no
  clear no
  cases h1 : sigB zs
  · go_enter Try.func21, Try.ntmps21
    go_wp2_with ((go_at_call 56; refine (impl_SignalValid _ _ _ _ _ hx hn).mono ?_; rintro e w' ⟨rfl, rfl⟩; rw [h1]))
    go_ret2
    exact NO.out (by unfold lisB; rw [h1]; rfl)
  · cases h2 : seqB t.data.toList
    · go_enter Try.func21, Try.ntmps21
      go_wp2_with (first | (go_at_call 56; refine (impl_SignalValid _ _ _ _ _ hx hn).mono ?_; rintro e w' ⟨rfl, rfl⟩; rw [h1]) | (go_at_call 52; refine (impl_SequenceValid _ _ (by unfold maxLen; omega)).mono ?_; rintro e w' ⟨rfl, rfl⟩; rw [h2]))
      go_ret2
      exact NO.out (by unfold lisB; rw [h1, h2]; rfl)
    · by_cases h3 : k < 0
      · go_enter Try.func21, Try.ntmps21
        go_wp2_with (first | (go_at_call 56; refine (impl_SignalValid _ _ _ _ _ hx hn).mono ?_; rintro e w' ⟨rfl, rfl⟩; rw [h1]) | (go_at_call 52; refine (impl_SequenceValid _ _ (by unfold maxLen; omega)).mono ?_; rintro e w' ⟨rfl, rfl⟩; rw [h2]))
        go_ret2
        exact NO.out (by unfold lisB; rw [h1, h2, within_low _ _ _ h3]; rfl)
      · by_cases h4 : 600 < k
        · have h3' : decide (k < 0) = false := by simp; omega
          go_enter Try.func21, Try.ntmps21
          go_wp2_with (first | (go_at_call 56; refine (impl_SignalValid _ _ _ _ _ hx hn).mono ?_; rintro e w' ⟨rfl, rfl⟩; rw [h1]) | (go_at_call 52; refine (impl_SequenceValid _ _ (by unfold maxLen; omega)).mono ?_; rintro e w' ⟨rfl, rfl⟩; rw [h2]))
          go_ret2
          exact NO.out (by unfold lisB; rw [h1, h2, within_big _ _ _ h4]; rfl)
        · clear NO
          have h3' : decide (k < 0) = false := by simp; omega
          have h4' : decide (600 < k) = false := by simp; omega
          obtain ⟨m, rfl⟩ := Int.eq_ofNat_of_zero_le (show 0 ≤ k by omega)
          have hq := seqB_bd t h2
          have hsm := rdI_small hx h1
          have hd : desC zs t.data.toList m = (desL zs t.data.toList 0 m, true) := (by
            have hl0 : lisB zs t.data.toList 0 m = true := lisB_mk zs _ 0 m h1 h2 (by omega) (by omega)
            unfold desC; rw [if_pos hl0, Int.toNat_natCast])
          rw [hd]
          clear hd
          go_enter Try.func21, Try.ntmps21
          go_wp2_with (first | (go_at_call 56; refine (impl_SignalValid _ _ _ _ _ hx hn).mono ?_; rintro e w' ⟨rfl, rfl⟩; rw [h1]) | (go_at_call 52; refine (impl_SequenceValid _ _ (by unfold maxLen; omega)).mono ?_; rintro e w' ⟨rfl, rfl⟩; rw [h2]) | (go_at_call 57; refine (impl_correlationsFrom A n c zs t 0 m _ hx (by omega) (sig_bd zs h1).2 hq.2 (by omega) (by omega)).mono ?_; rintro e w' ⟨A2, n2, c2, rfl, ho, hb2⟩; have HO := Lib.hid ho; have HB2 := Lib.hid hb2; clear ho hb2))
          go_ret2
          exact retIB_own HO.out HB2.out
set_option maxHeartbeats 1000000 in
theorem spec_DespreadSignal (A : Option Addr) (n c : Nat) (zs : List Int) (t : ByteArray) (k : Int) (w : World) (hx : RdI .i64 w A n zs) (hn : n ≤ maxLen) (ht : t.size ≤ 1048576) :
    Calls Try.prog 19 #[.slice A n c, .string t, .int .i64 k] w (RetIB 3 (desC zs t.data.toList k).1 (desC zs t.data.toList k).2 w) := by
  rcases desC_ways zs t.data.toList k with ⟨hl, h⟩ | ⟨m, rfl, hm, h1, h2, hl, h⟩
  · rw [h]
    clear h
    go_enter Try.func19, Try.ntmps19
    go_wp2_with ((go_at_call 54; refine (spec_l4Listen _ _ _ _ _ _ _ _ hx hn ht).mono ?_; rintro e w' ⟨rfl, rfl⟩; rw [hl]))
    go_ret2
    exact retIB_empty _ _
  · rw [h]
    clear h
    have hq := seqB_bd t h2
    have hsm := rdI_small hx h1
    go_enter Try.func19, Try.ntmps19
    go_wp2_with (first | (go_at_call 54; refine (spec_l4Listen _ _ _ _ _ _ _ _ hx hn ht).mono ?_; rintro e w' ⟨rfl, rfl⟩; rw [hl]) | (go_at_call 55; refine (spec_l4Despread A n c zs t 0 m _ hx (by omega) (sig_bd zs h1).2 hq.2 (seqB_parts _ h2).2.2 (by omega) (by omega)).mono ?_; rintro e w' ⟨A2, n2, c2, rfl, ho, hb2⟩; have HO := Lib.hid ho; have HB2 := Lib.hid hb2; clear ho hb2))
    go_ret2
    exact retIB_own HO.out HB2.out
set_option maxHeartbeats 1000000 in
theorem impl_ReceiveUser (A : Option Addr) (n c : Nat) (zs : List Int) (t : ByteArray) (f k : Int) (w : World) (hx : RdI .i64 w A n zs) (hn : n ≤ maxLen) (ht : t.size ≤ 1048576) :
    Calls Try.prog 25 #[.slice A n c, .string t, .int .i64 f, .int .i64 k] w (RetStrB (recC zs t.data.toList f k).1 (recC zs t.data.toList f k).2 w) := by
  have no : lisB zs t.data.toList f k = false → RetStrB (recC zs t.data.toList f k).1 (recC zs t.data.toList f k).2 w (.returned (.tuple #[.string ⟨#[]⟩, .bool false])) w := by
    intro h
    have : recC zs t.data.toList f k = ([], false) := by unfold recC; rw [h]; rfl
    rw [this]; exact retStrB_nil _
  have NO := Lib.hid no
  clear no
  cases hr : recB zs t.data.toList f
  · go_enter Try.func25, Try.ntmps25
    go_wp2_with ((go_at_call 58; refine (impl_receptionValid _ _ _ _ _ _ _ hx hn ht).mono ?_; rintro e w' ⟨rfl, rfl⟩; rw [hr]))
    go_ret2
    exact NO.out (by unfold recB at hr; unfold lisB; rw [hr]; rfl)
  · by_cases h3 : k < 0
    · go_enter Try.func25, Try.ntmps25
      go_wp2_with ((go_at_call 58; refine (impl_receptionValid _ _ _ _ _ _ _ hx hn ht).mono ?_; rintro e w' ⟨rfl, rfl⟩; rw [hr]))
      go_ret2
      exact NO.out (by unfold lisB; rw [within_low _ _ _ h3, Bool.and_false])
    · by_cases h4 : 600 < k
      · have h3' : decide (k < 0) = false := by simp; omega
        go_enter Try.func25, Try.ntmps25
        go_wp2_with ((go_at_call 58; refine (impl_receptionValid _ _ _ _ _ _ _ hx hn ht).mono ?_; rintro e w' ⟨rfl, rfl⟩; rw [hr]))
        go_ret2
        exact NO.out (by unfold lisB; rw [within_big _ _ _ h4, Bool.and_false])
      · clear NO
        have h3' : decide (k < 0) = false := by simp; omega
        have h4' : decide (600 < k) = false := by simp; omega
        rcases recC_ways zs t.data.toList f k with ⟨hl, h⟩ | ⟨j, m, rfl, rfl, hj, hm, h1, h2, hl, h⟩
        · exfalso
          unfold lisB at hl
          unfold recB at hr
          rw [hr, (within_iff 0 600 k).2 ⟨by omega, by omega⟩] at hl
          exact absurd hl (by decide)
        · rw [h]
          clear h hl
          have hq := seqB_bd t h2
          have hsm := rdI_small hx h1
          go_enter Try.func25, Try.ntmps25
          go_wp2_with (first | (go_at_call 58; refine (impl_receptionValid _ _ _ _ _ _ _ hx hn ht).mono ?_; rintro e w' ⟨rfl, rfl⟩; rw [hr]) | (go_at_call 57; refine (impl_correlationsFrom A n c zs t j m _ hx (by omega) (sig_bd zs h1).2 hq.2 (by omega) (by omega)).mono ?_; rintro e w' ⟨A2, n2, c2, rfl, ho, hb2⟩; have HO := Lib.hid ho; have HB2 := Lib.hid hb2; clear ho hb2) | (go_at_call 60; refine (impl_signsOfSums _ _ _ _ _ (own_rdI HO.out) (own_num HO.out (by rw [desL_len]; omega))).mono ?_; rintro e w3 ⟨u, rfl, hu, hb3⟩; have HU := Lib.hid hu; have HB3 := Lib.hid hb3; clear hu hb3))
          go_ret2
          exact ⟨u, rfl, HU.out, HB2.out.trans (HB3.out.mono HB2.out.size)⟩
set_option maxHeartbeats 1000000 in
theorem spec_ReceiveUser (A : Option Addr) (n c : Nat) (zs : List Int) (t : ByteArray) (f k : Int) (w : World) (hx : RdI .i64 w A n zs) (hn : n ≤ maxLen) (ht : t.size ≤ 1048576) :
    Calls Try.prog 24 #[.slice A n c, .string t, .int .i64 f, .int .i64 k] w (RetStrB (recC zs t.data.toList f k).1 (recC zs t.data.toList f k).2 w) := by
  rcases recC_ways zs t.data.toList f k with ⟨hl, h⟩ | ⟨j, m, rfl, rfl, hj, hm, h1, h2, hl, h⟩
  · rw [h]
    clear h
    go_enter Try.func24, Try.ntmps24
    go_wp2_with ((go_at_call 54; refine (spec_l4Listen _ _ _ _ _ _ _ _ hx hn ht).mono ?_; rintro e w' ⟨rfl, rfl⟩; rw [hl]))
    go_ret2
    exact retStrB_nil _
  · rw [h]
    clear h
    have hq := seqB_bd t h2
    have hsm := rdI_small hx h1
    go_enter Try.func24, Try.ntmps24
    go_wp2_with (first | (go_at_call 54; refine (spec_l4Listen _ _ _ _ _ _ _ _ hx hn ht).mono ?_; rintro e w' ⟨rfl, rfl⟩; rw [hl]) | (go_at_call 55; refine (spec_l4Despread A n c zs t j m _ hx (by omega) (sig_bd zs h1).2 hq.2 (seqB_parts _ h2).2.2 (by omega) (by omega)).mono ?_; rintro e w' ⟨A2, n2, c2, rfl, ho, hb2⟩; have HO := Lib.hid ho; have HB2 := Lib.hid hb2; clear ho hb2) | (go_at_call 59; refine (spec_l4Signs _ _ _ _ _ (own_rdI HO.out) (own_num HO.out (by rw [desL_len]; omega))).mono ?_; rintro e w3 ⟨u, rfl, hu, hb3⟩; have HU := Lib.hid hu; have HB3 := Lib.hid hb3; clear hu hb3))
    go_ret2
    exact ⟨u, rfl, HU.out, HB2.out.trans (HB3.out.mono HB2.out.size)⟩
def RetIntB (x : Int) (b : Bool) (w : World) (e : Ending) (w' : World) : Prop := e = .returned (.tuple #[.int .i64 x, .bool b]) ∧ Below w.heap.size w w'
theorem margOk_not (zs : List Int) (c : List UInt8) (f : Int) (d : List UInt8) (h : ¬ margOk zs c f d) : recB zs c f = false ∨ (recB zs c f = true ∧ bitsB d = false) ∨ (recB zs c f = true ∧ bitsB d = true ∧ d = []) := by
  cases hr : recB zs c f
  · exact .inl rfl
  · right
    unfold recB at hr
    simp only [Bool.and_eq_true] at hr
    cases hb : bitsB d
    · exact .inl ⟨rfl, rfl⟩
    · right
      refine ⟨rfl, rfl, ?_⟩
      by_cases hd : d = []
      · exact hd
      · exact absurd ⟨hr.1.1, hr.1.2, hr.2, hb, hd⟩ h
theorem margOk_rec (zs : List Int) (c : List UInt8) (f : Int) (d : List UInt8) (h : margOk zs c f d) : recB zs c f = true := by
  obtain ⟨h1, h2, h3, _⟩ := h
  unfold recB; rw [h1, h2, h3]; rfl
theorem margOk_lis (zs : List Int) (c : List UInt8) (f : Int) (d : List UInt8) (h : margOk zs c f d) : lisB zs c f d.length = true := by
  obtain ⟨h1, h2, h3, h4, _⟩ := h
  have h5 := (bitsB_parts _ h4).1
  unfold lisB; rw [h1, h2, h3, (within_iff 0 600 _).2 ⟨by omega, by omega⟩]; rfl
theorem lis_rec (zs : List Int) (c : List UInt8) (f : Int) (d : List UInt8) (h : bitsB d = true) : lisB zs c f d.length = recB zs c f := by
  have h5 := (bitsB_parts _ h).1
  unfold lisB recB; rw [(within_iff 0 600 _).2 ⟨by omega, by omega⟩, Bool.and_true]
theorem str_nil {d : ByteArray} (h : d.data.toList = []) : d = ⟨#[]⟩ := str_eq h rfl
theorem size_pos {d : ByteArray} (h : d.data.toList ≠ []) : 1 ≤ d.size := by
  rw [← len_data]
  exact List.length_pos_iff.2 h
theorem str_ne_nil {d : ByteArray} (h : d.data.toList ≠ []) : d.toList.isEmpty = false := by
  have h1 := str_ne (s := d) (t := ⟨#[]⟩) (fun e => h (by rw [e]))
  cases hc : d.toList with
  | nil =>
    rw [hc] at h1
    have h2 : (⟨#[]⟩ : ByteArray).toList = [] := by first | rfl | simp
    rw [h2] at h1
    exact absurd h1 (by decide)
  | cons a l => rfl
set_option maxHeartbeats 2000000 in
theorem impl_MarginOf (A : Option Addr) (n c : Nat) (zs : List Int) (t : ByteArray) (f : Int) (d : ByteArray) (w : World) (hx : RdI .i64 w A n zs) (hn : n ≤ maxLen) (ht : t.size ≤ 1048576) (hd : d.size ≤ 1048576) :
    Calls Try.prog 23 #[.slice A n c, .string t, .int .i64 f, .string d] w (RetIntB (margC zs t.data.toList f d.data.toList).1 (margC zs t.data.toList f d.data.toList).2 w) := by
  rcases margC_ways zs t.data.toList f d.data.toList with ⟨h0, h⟩ | ⟨j, rfl, hj, hok, h⟩
  · rw [h]
    clear h
    rcases margOk_not _ _ _ _ h0 with hr | ⟨hr, hb⟩ | ⟨hr, hb, he⟩
    · go_enter Try.func23, Try.ntmps23
      go_wp2_with ((go_at_call 58; refine (impl_receptionValid _ _ _ _ _ _ _ hx hn ht).mono ?_; rintro e w' ⟨rfl, rfl⟩; rw [hr]))
      go_ret2
      exact ⟨rfl, Below.refl _ _⟩
    · go_enter Try.func23, Try.ntmps23
      go_wp2_with (first | (go_at_call 58; refine (impl_receptionValid _ _ _ _ _ _ _ hx hn ht).mono ?_; rintro e w' ⟨rfl, rfl⟩; rw [hr]) | (go_at_call 51; refine (impl_isBits _ _ (by unfold maxLen; omega)).mono ?_; rintro e w' ⟨rfl, rfl⟩; rw [hb]))
      go_ret2
      exact ⟨rfl, Below.refl _ _⟩
    · obtain rfl := str_nil he
      go_enter Try.func23, Try.ntmps23
      go_wp2_with (first | (go_at_call 58; refine (impl_receptionValid _ _ _ _ _ _ _ hx hn ht).mono ?_; rintro e w' ⟨rfl, rfl⟩; rw [hr]) | (go_at_call 51; refine (impl_isBits _ _ (by unfold maxLen; omega)).mono ?_; rintro e w' ⟨rfl, rfl⟩; rw [hb]))
      go_ret2
      exact ⟨rfl, Below.refl _ _⟩
  · rw [h]
    clear h
    have hr := margOk_rec _ _ _ _ hok
    obtain ⟨h1, h2, _, hb, hne⟩ := hok
    have hq := seqB_bd t h2
    have hsm := rdI_small hx h1
    have hds := bitsB_bd d hb
    have hsz := size_pos hne
    have hnn := str_ne_nil hne
    have HZ := Lib.hid (sig_bd zs h1).2
    go_enter Try.func23, Try.ntmps23
    go_wp2_with (first | (go_at_call 58; refine (impl_receptionValid _ _ _ _ _ _ _ hx hn ht).mono ?_; rintro e w' ⟨rfl, rfl⟩; rw [hr]) | (go_at_call 51; refine (impl_isBits _ _ (by unfold maxLen; omega)).mono ?_; rintro e w' ⟨rfl, rfl⟩; rw [hb]) | (go_at_call 57; refine (impl_correlationsFrom A n c zs t j d.size _ hx (by omega) (sig_bd zs h1).2 hq.2 (by omega) (by omega)).mono ?_; rintro e w' ⟨A2, n2, c2, rfl, ho, hb2⟩; have HO := Lib.hid ho; have HB2 := Lib.hid hb2; have HN := Lib.hid (own_rdI ho).len; clear ho hb2))
    have hn2 : n2 = d.size := by have h5 := HN.out; rw [desL_len] at h5; omega
    obtain ⟨w2, rfl⟩ : ∃ w2, w2 = w' := ⟨_, rfl⟩
    subst hn2
    clear hr hb hnn h1 h2
    go_loopw [10, 34] (fun u v wr => ∃ i : Nat, i ≤ d.size ∧ v = .int .i64 i ∧ u = .int .i64 (minK (margT zs t.data.toList j d.data.toList) i) ∧ w2 = wr) (fun _ v _ => d.size - (intOf v).toNat)
    case atStart => exact ⟨0, Nat.zero_le _, rfl, rfl, rfl⟩
    case round =>
      obtain ⟨i, hi, rfl, rfl, rfl⟩ := hrel
      have hmb := minK_bd (margT zs t.data.toList j d.data.toList) 255000000 (by omega) i fun i _ => margT_bd zs HZ.out _ (by rw [len_data]; omega) j _ i
      have hlo := minK_lo (margT zs t.data.toList j d.data.toList) i
      have hhi := minK_hi (margT zs t.data.toList j d.data.toList) i
      by_cases hlt : i < d.size
      · obtain ⟨b, q, x, rfl, hbl, hxx, hcx⟩ := (own_rdI HO.out).at hlt
        have hx0 := hxx.out
        rw [desL_at _ _ _ _ _ hlt] at hx0
        have hx1 := corr_bd zs HZ.out t.data.toList (by rw [len_data]; omega) (j + i * t.data.toList.length)
        have hmt : margT zs t.data.toList j d.data.toList i = x * chipI d[i] := by unfold margT; rw [str_getD d i hlt, Option.some.inj hx0]
        rw [Option.some.inj hx0] at hx1
        have hxc := mul_chip d[i] x 255000000 hx1
        rw [hmt] at hlo hhi
        generalize minK (margT zs t.data.toList j d.data.toList) i = mk at *
        have hw1 : IntKind.i64.wrap (x * chipI d[i]) = x * chipI d[i] := IntWalk.i64_in _ ⟨by omega, by omega⟩
        generalize hxe : x * chipI d[i] = xe at *
        have HXE := Lib.hid hxe
        by_cases hc : i = 0 ∨ xe < mk
        · have h5 := hlo hc
          have H5 := Lib.hid h5
          clear hx0 hmt hlo hhi h5
          by_cases hi0 : i = 0
          · have hi1 : ((i : Int) == 0) = true := by simp [hi0]
            clear hi0 hc
            go_wp2_with (go_at_call 53; refine (impl_chipOf _ _).mono ?_; rintro e w' ⟨rfl, rfl⟩)
            go_roundw
            case rel => exact ⟨i + 1, by omega, by go_num, by rw [H5.out], trivial⟩
            case measure => simp [intOf] <;> omega
          · have hc := hc.resolve_left hi0
            have hi1 : ((i : Int) == 0) = false := beq_eq_false_iff_ne.2 (by omega)
            go_wp2_with (go_at_call 53; refine (impl_chipOf _ _).mono ?_; rintro e w' ⟨rfl, rfl⟩)
            go_roundw
            case rel => exact ⟨i + 1, by omega, by go_num, by rw [H5.out], trivial⟩
            case measure => simp [intOf] <;> omega
        · have h5 := hhi hc
          have H5 := Lib.hid h5
          clear hx0 hmt hlo hhi h5
          have hi1 : ((i : Int) == 0) = false := beq_eq_false_iff_ne.2 (by omega)
          have hc1 : decide (xe < mk) = false := by simp; omega
          go_wp2_with (go_at_call 53; refine (impl_chipOf _ _).mono ?_; rintro e w' ⟨rfl, rfl⟩)
          go_roundw
          case rel => exact ⟨i + 1, by omega, by go_num, by rw [H5.out], trivial⟩
          case measure => simp [intOf] <;> omega
      · obtain rfl : i = d.size := by omega
        go_wp2
        go_ret2
        exact ⟨by rw [len_data]; rfl, HB2.out⟩
set_option maxHeartbeats 2000000 in
theorem spec_MarginOf (A : Option Addr) (n c : Nat) (zs : List Int) (t : ByteArray) (f : Int) (d : ByteArray) (w : World) (hx : RdI .i64 w A n zs) (hn : n ≤ maxLen) (ht : t.size ≤ 1048576) (hd : d.size ≤ 1048576) :
    Calls Try.prog 22 #[.slice A n c, .string t, .int .i64 f, .string d] w (RetIntB (margC zs t.data.toList f d.data.toList).1 (margC zs t.data.toList f d.data.toList).2 w) := by
  rcases margC_ways zs t.data.toList f d.data.toList with ⟨h0, h⟩ | ⟨j, rfl, hj, hok, h⟩
  · rw [h]
    clear h
    cases hb : bitsB d.data.toList
    · go_enter Try.func22, Try.ntmps22
      go_wp2_with ((go_at_call 48; refine (spec_l1Bits _ _ (by unfold maxLen; omega)).mono ?_; rintro e w' ⟨rfl, rfl⟩; rw [hb]))
      go_ret2
      exact ⟨rfl, Below.refl _ _⟩
    · have hl := lis_rec zs t.data.toList f d.data.toList hb
      rw [len_data] at hl
      rcases margOk_not _ _ _ _ h0 with hr | ⟨hr, hb'⟩ | ⟨hr, hb', he⟩
      · rw [hr] at hl
        go_enter Try.func22, Try.ntmps22
        go_wp2_with (first | (go_at_call 48; refine (spec_l1Bits _ _ (by unfold maxLen; omega)).mono ?_; rintro e w' ⟨rfl, rfl⟩; rw [hb]) | (go_at_call 54; refine (spec_l4Listen _ _ _ _ _ _ _ _ hx hn ht).mono ?_; rintro e w' ⟨rfl, rfl⟩; rw [hl]))
        go_ret2
        exact ⟨rfl, Below.refl _ _⟩
      · rw [hb] at hb'; exact absurd hb' (by decide)
      · rw [hr] at hl
        have hnn : d.toList.isEmpty = true := by rw [str_nil he]; first | rfl | simp
        go_enter Try.func22, Try.ntmps22
        go_wp2_with (first | (go_at_call 48; refine (spec_l1Bits _ _ (by unfold maxLen; omega)).mono ?_; rintro e w' ⟨rfl, rfl⟩; rw [hb]) | (go_at_call 54; refine (spec_l4Listen _ _ _ _ _ _ _ _ hx hn ht).mono ?_; rintro e w' ⟨rfl, rfl⟩; rw [hl]))
        go_ret2
        exact ⟨rfl, Below.refl _ _⟩
  · rw [h]
    clear h
    have hl := margOk_lis _ _ _ _ hok
    rw [len_data] at hl
    obtain ⟨h1, h2, _, hb, hne⟩ := hok
    have hq := seqB_bd t h2
    have hsm := rdI_small hx h1
    have hds := bitsB_bd d hb
    have hsz := size_pos hne
    have hnn := str_ne_nil hne
    have HZ := Lib.hid (sig_bd zs h1).2
    have HB := Lib.hid (bitsB_parts _ hb).2
    go_enter Try.func22, Try.ntmps22
    go_wp2_with (first | (go_at_call 48; refine (spec_l1Bits _ _ (by unfold maxLen; omega)).mono ?_; rintro e w' ⟨rfl, rfl⟩; rw [hb]) | (go_at_call 54; refine (spec_l4Listen _ _ _ _ _ _ _ _ hx hn ht).mono ?_; rintro e w' ⟨rfl, rfl⟩; rw [hl]) | (go_at_call 55; refine (spec_l4Despread A n c zs t j d.size _ hx (by omega) (sig_bd zs h1).2 hq.2 (seqB_parts _ h2).2.2 (by omega) (by omega)).mono ?_; rintro e w' ⟨A2, n2, c2, rfl, ho, hb2⟩; have HO := Lib.hid ho; have HB2 := Lib.hid hb2; have HN := Lib.hid (own_rdI ho).len; clear ho hb2))
    have hn2 : n2 = d.size := by have h5 := HN.out; rw [desL_len] at h5; omega
    obtain ⟨w2, rfl⟩ : ∃ w2, w2 = w' := ⟨_, rfl⟩
    subst hn2
    clear hl hb hnn h1 h2
    go_loopw [11, 12, 13] (fun u v _ wr => ∃ i e : Nat, i ≤ d.size ∧ v = .int .i64 i ∧ u = .int .i64 (minK (margT zs t.data.toList j d.data.toList) i) ∧ w2.drewN e = wr) (fun _ v _ _ => d.size - (intOf v).toNat)
    case atStart => exact ⟨0, 0, Nat.zero_le _, rfl, rfl, rfl⟩
    case round =>
      obtain ⟨i, e, hi, rfl, rfl, rfl⟩ := hrel
      have hmb := minK_bd (margT zs t.data.toList j d.data.toList) 255000000 (by omega) i fun i _ => margT_bd zs HZ.out _ (by rw [len_data]; omega) j _ i
      have hlo := minK_lo (margT zs t.data.toList j d.data.toList) i
      have hhi := minK_hi (margT zs t.data.toList j d.data.toList) i
      by_cases hlt : i < d.size
      · obtain ⟨b, q, x, rfl, hbl, hxx, hcx⟩ := (own_rdI HO.out).at hlt
        have hx0 := hxx.out
        rw [desL_at _ _ _ _ _ hlt] at hx0
        have hx1 := corr_bd zs HZ.out t.data.toList (by rw [len_data]; omega) (j + i * t.data.toList.length)
        have hmt : margT zs t.data.toList j d.data.toList i = x * chipI d[i] := by unfold margT; rw [str_getD d i hlt, Option.some.inj hx0]
        rw [Option.some.inj hx0] at hx1
        have hbit := List.all_eq_true.1 HB.out d[i] (List.mem_of_getElem? (data_at d i hlt))
        have hw1 : IntKind.i64.wrap x = x := IntWalk.i64_in _ ⟨by omega, by omega⟩
        have hw4 : IntKind.i64.wrap (x * -1) = -x := by rw [IntWalk.i64_in _ ⟨by omega, by omega⟩]; omega
        have hw5 : IntKind.i64.wrap (-x) = -x := IntWalk.i64_in _ ⟨by omega, by omega⟩
        generalize minK (margT zs t.data.toList j d.data.toList) i = mk at *
        obtain ⟨xe, hxe, hcase⟩ : ∃ xe, margT zs t.data.toList j d.data.toList i = xe ∧ (((d[i].toNat : Int) = 48 ∧ xe = x) ∨ ((d[i].toNat : Int) = 49 ∧ xe = -x)) := by
          refine ⟨_, rfl, ?_⟩
          rcases bit_toNat _ hbit with ⟨h5, h6⟩ | ⟨h5, h6⟩
          · left; exact ⟨h6, by rw [hmt, h5]; exact Int.mul_one x⟩
          · right; exact ⟨h6, by rw [hmt, h5, show chipI 49 = -1 from rfl]; omega⟩
        rw [hxe] at hlo hhi
        clear hx0 hmt hxe hbit
        by_cases hc : i = 0 ∨ xe < mk
        · have H5 := Lib.hid (hlo hc)
          clear hlo hhi
          by_cases hi0 : i = 0
          · have hi1 : ((i : Int) == 0) = true := by simp [hi0]
            clear hi0 hc
            rcases hcase with ⟨h6, rfl⟩ | ⟨h6, rfl⟩
            all_goals
              go_wp2
              go_quiet (fail)
              go_wp2
              go_roundw
              case rel => exact ⟨i + 1, _, by omega, by go_num, by rw [H5.out], rfl⟩
              case measure => simp [intOf] <;> omega
          · have hc := hc.resolve_left hi0
            have hi1 : ((i : Int) == 0) = false := beq_eq_false_iff_ne.2 (by omega)
            rcases hcase with ⟨h6, rfl⟩ | ⟨h6, rfl⟩
            all_goals
              go_wp2
              go_quiet (fail)
              go_wp2
              go_roundw
              case rel => exact ⟨i + 1, _, by omega, by go_num, by rw [H5.out], rfl⟩
              case measure => simp [intOf] <;> omega
        · have H5 := Lib.hid (hhi hc)
          clear hlo hhi
          have hi1 : ((i : Int) == 0) = false := beq_eq_false_iff_ne.2 (by omega)
          have hc1 : decide (xe < mk) = false := by simp; omega
          rcases hcase with ⟨h6, rfl⟩ | ⟨h6, rfl⟩
          all_goals
            go_wp2
            go_quiet (fail)
            go_wp2
            go_roundw
            case rel => exact ⟨i + 1, _, by omega, by go_num, by rw [H5.out], rfl⟩
            case measure => simp [intOf] <;> omega
      · obtain rfl : i = d.size := by omega
        go_wp2
        go_ret2
        exact ⟨by rw [len_data]; rfl, below_drewN HB2.out _⟩
theorem rake_bd (i : Nat) (z : Int) (hi : i ≤ 8) (h : -(i * 255000000 : Int) ≤ z ∧ z ≤ i * 255000000) : -2040000000 ≤ z ∧ z ≤ 2040000000 := by omega
theorem rakeOk_at (zs : List Int) (c : List UInt8) (ds : List Int) (k : Int) (h : rakeOk zs c ds k) (i : Nat) (x : Int) (hx : ds[i]? = some x) : recB zs c x = true := by
  obtain ⟨h1, _, _, h4⟩ := h
  obtain ⟨h5, h6, _⟩ := lisB_yes _ _ _ _ h1
  unfold recB
  rw [h5, h6, List.all_eq_true.1 h4 x (List.mem_of_getElem? hx)]; rfl
theorem rakeOk_mk (zs : List Int) (c : List UInt8) (ds : List Int) (m : Nat) (hm : m ≤ 600) (h1 : 1 ≤ ds.length) (h2 : ds.length ≤ 8) (h : ∀ (i : Nat) (x : Int), ds[i]? = some x → recB zs c x = true) : rakeOk zs c ds m := by
  have h3 : ∀ x ∈ ds, recB zs c x = true := fun x hx => by
    obtain ⟨i, hi⟩ := List.getElem?_of_mem hx
    exact h i x hi
  have h0 := h3 (ds[0]'(by omega)) (List.getElem_mem _)
  unfold recB at h0 h3
  simp only [Bool.and_eq_true] at h0 h3
  have hl : lisB zs c 0 m = true := lisB_mk zs c 0 m h0.1.1 h0.1.2 (by omega) hm
  exact ⟨hl, h1, h2, List.all_eq_true.2 fun x hx => (h3 x hx).2⟩
theorem recB_nat (zs : List Int) (c : List UInt8) (x : Int) (h : recB zs c x = true) : ∃ j : Nat, x = j ∧ j ≤ 3000 ∧ sigB zs = true ∧ seqB c = true := by
  unfold recB at h
  simp only [Bool.and_eq_true] at h
  have h5 := (within_iff _ _ _).1 h.2
  exact ⟨x.toNat, by omega, by omega, h.1.1, h.1.2⟩
set_option maxHeartbeats 4000000 in
theorem impl_RakeReceive (A : Option Addr) (n c : Nat) (zs : List Int) (t : ByteArray) (A' : Option Addr) (n' c' : Nat) (ds : List Int) (k : Int) (w : World) (hx : RdI .i64 w A n zs) (hn : n ≤ maxLen) (ht : t.size ≤ 1048576) (hy : RdI .i64 w A' n' ds) (hn' : n' ≤ maxLen) :
    Calls Try.prog 27 #[.slice A n c, .string t, .slice A' n' c', .int .i64 k] w (RetStrB (rakeC zs t.data.toList ds k).1 (rakeC zs t.data.toList ds k).2 w) := by
  have no : ¬ rakeOk zs t.data.toList ds k → RetStrB (rakeC zs t.data.toList ds k).1 (rakeC zs t.data.toList ds k).2 w (.returned (.tuple #[.string ⟨#[]⟩, .bool false])) w := by
    intro h
    rw [rakeC_no _ _ _ _ h]; exact retStrB_nil _
  have NO := Lib.hid no
  clear no
  have ly := hy.len
  have LY := Lib.hid ly
  clear ly
  by_cases h1 : n' < 1
  · go_enter Try.func27, Try.ntmps27
    go_wp2_with fail
    go_ret2
    exact NO.out (fun h => by have := h.2.1; rw [LY.out] at this; omega)
  by_cases h2 : 8 < n'
  · have h1' : decide (n' < 1) = false := by simp; omega
    go_enter Try.func27, Try.ntmps27
    go_wp2_with fail
    go_ret2
    exact NO.out (fun h => by have := h.2.2.1; rw [LY.out] at this; omega)
  have h1' : decide ((n' : Int) < 1) = false := by simp; omega
  have h2' : decide ((8 : Int) < (n' : Int)) = false := by simp; omega
  by_cases h3 : k < 0
  · go_enter Try.func27, Try.ntmps27
    go_wp2_with fail
    go_ret2
    exact NO.out (fun h => by have := h.1; unfold lisB at this; rw [within_low _ _ _ h3, Bool.and_false] at this; exact absurd this (by decide))
  have h3' : decide (k < 0) = false := by simp; omega
  by_cases h4 : 600 < k
  · go_enter Try.func27, Try.ntmps27
    go_wp2_with fail
    go_ret2
    exact NO.out (fun h => by have := h.1; unfold lisB at this; rw [within_big _ _ _ h4, Bool.and_false] at this; exact absurd this (by decide))
  have h4' : decide (600 < k) = false := by simp; omega
  obtain ⟨m, rfl⟩ := Int.eq_ofNat_of_zero_le (show 0 ≤ k by omega)
  have hmk := run_make_row' (P := Try.prog) 22 3 (.int .i64 0) 8 Try.underlying22 Try.infoI64 rfl .i64 .i64 m (by omega) (by omega)
  go_enter Try.func27, Try.ntmps27
  go_wp2_with fail
  clear h1' h2' h3' h4'
  go_loopw [35] (fun v wr => ∃ i : Nat, i ≤ n' ∧ v = .int .i64 i ∧ (∀ q x, q < i → ds[q]? = some x → recB zs t.data.toList x = true) ∧ w = wr) (fun v _ => n' - (intOf v).toNat)
  case atStart => exact ⟨0, Nat.zero_le _, rfl, fun q x hq => absurd hq (by omega), rfl⟩
  case round =>
    obtain ⟨i, hi, rfl, hall, rfl⟩ := hrel
    have HALL := Lib.hid hall
    clear hall
    by_cases hlt : i < n'
    · obtain ⟨b, o, x, rfl, hbl, hxx, hcx⟩ := hy.at hlt
      cases hr : recB zs t.data.toList x
      · go_wp2_with ((go_at_call 58; refine (impl_receptionValid _ _ _ _ _ _ _ hx hn ht).mono ?_; rintro e w' ⟨rfl, rfl⟩; rw [hr]))
        go_ret2
        exact NO.out (fun h => by have := rakeOk_at _ _ _ _ h i x hxx.out; rw [hr] at this; exact absurd this (by decide))
      · go_wp2_with ((go_at_call 58; refine (impl_receptionValid _ _ _ _ _ _ _ hx hn ht).mono ?_; rintro e w' ⟨rfl, rfl⟩; rw [hr]))
        go_roundw
        case rel =>
          exact ⟨i + 1, by omega, by go_num, fun q y hq hy => by
            rcases Nat.lt_succ_iff_lt_or_eq.1 hq with h5 | rfl
            · exact HALL.out q y h5 hy
            · rw [hxx.out] at hy; obtain rfl := Option.some.inj hy; exact hr, trivial⟩
        case measure => simp [intOf] <;> omega
    · obtain rfl : n' = i := by omega
      have hok : rakeOk zs t.data.toList ds m := rakeOk_mk _ _ _ m (by omega) (by rw [LY.out]; omega) (by rw [LY.out]; omega) fun q x hx => HALL.out q x (by
        have := (List.getElem?_eq_some_iff.1 hx).1; rw [LY.out] at this; exact this) hx
      obtain ⟨hl, _⟩ := id hok
      obtain ⟨hs1, hs2, _⟩ := lisB_yes _ _ _ _ hl
      have hq := seqB_bd t hs2
      have hsm := rdI_small hx hs1
      have HOK := Lib.hid hok
      have HS1 := Lib.hid (sig_bd zs hs1).2
      have HY := Lib.hid hy
      clear hl hs1 hs2 hok NO hy
      go_wp2_with fail
      clear hmk
      go_loopw [49] (fun v wr => ∃ i : Nat, i ≤ n' ∧ v = .int .i64 i ∧ wr.ownsRow w.heap.size 3 1 (.slice (some ⟨w.heap.size, 0, none⟩) m m) m ((rakeK zs t.data.toList ds m i).map (Value.int .i64)) ∧ Below w.heap.size w wr) (fun v _ => n' - (intOf v).toNat)
      case atStart => exact ⟨0, Nat.zero_le _, rfl, by rw [rakeK_zero, List.map_replicate]; exact own_made _ _ _ _ (by unfold maxLen; omega), (Below.refl _ _).alloc (Nat.le_refl _) _⟩
      case round =>
        obtain ⟨i, hi, rfl, ho, hb⟩ := hrel
        have hsz := hb.size
        have HO := Lib.hid ho
        clear ho
        by_cases hlt2 : i < n'
        · obtain ⟨b, o, x, rfl, hbl, hxx, hcx⟩ := HY.out.at hlt2
          have hcr : wr.cell? ⟨b, o + i, none⟩ = some (.int .i64 x) := (hb.cell (p := ⟨b, o + i, none⟩) hbl).trans hcx
          clear hcx
          obtain ⟨j, rfl, hj, _⟩ := recB_nat _ _ _ (rakeOk_at _ _ _ _ HOK.out i x hxx.out)
          obtain ⟨wo, rfl⟩ : ∃ wo, wo = wr := ⟨_, rfl⟩
          go_wp2_with fail
          refine (impl_correlationsFrom A n c zs t j m _ (Rd.below hx hb) (by omega) HS1.out hq.2 hj (by omega)).mono ?_
          rintro e w2 ⟨A2, n2, c2, rfl, ho2, hb2⟩
          have hn2 : n2 = m := by have h5 := (own_rdI ho2).len; rw [desL_len] at h5; omega
          subst hn2
          have hs2 := hb2.size
          have HO2 := Lib.hid (own_below HO.out hb2)
          have HB2 := Lib.hid (hb.trans (hb2.mono hsz))
          have HD := Lib.hid ho2
          have hwo := (HO.out.lt w.heap.size rfl).2
          clear ho2 hcr
          go_wp2_with fail
          go_loopw [59] (fun v wr => ∃ q : Nat, q ≤ n2 ∧ v = .int .i64 q ∧ wr.ownsRow w.heap.size 3 1 (.slice (some ⟨w.heap.size, 0, none⟩) n2 n2) n2 (Mix ((rakeK zs t.data.toList ds n2 (i + 1)).map (Value.int .i64)) ((rakeK zs t.data.toList ds n2 i).map (Value.int .i64)) q) ∧
              wr.ownsRow wo.heap.size 3 1 (.slice A2 n2 c2) n2 ((desL zs t.data.toList j n2).map (Value.int .i64)) ∧ Below w.heap.size w wr) (fun v _ => n2 - (intOf v).toNat)
          case atStart => exact ⟨0, Nat.zero_le _, rfl, by rw [mix_zero]; exact HO2.out, HD.out, HB2.out⟩
          case round =>
            obtain ⟨q, hq', rfl, ho3, hd3, hb3⟩ := hrel
            by_cases hlt3 : q < n2
            · have hra := rakeK_at zs t.data.toList ds n2 i q hlt3
              have hrb := rakeK_at zs t.data.toList ds n2 (i + 1) q hlt3
              have hda := desL_at zs t.data.toList j n2 q hlt3
              have hdv : (ds.getD i 0).toNat = j := by rw [List.getD_eq_getElem?_getD, hxx.out]; simp
              rw [sumTo_succ, hdv] at hrb
              have hb1 := rake_bd i _ (by omega) (sumTo_bd (fun p => corrC zs t.data.toList ((ds.getD p 0).toNat + q * t.data.toList.length)) 255000000 i fun p _ => corr_bd zs HS1.out _ (by rw [len_data]; omega) _)
              have hb2' := corr_bd zs HS1.out t.data.toList (by rw [len_data]; omega) (j + q * t.data.toList.length)
              generalize sumTo (fun p => corrC zs t.data.toList ((ds.getD p 0).toNat + q * t.data.toList.length)) i = x at *
              generalize corrC zs t.data.toList (j + q * t.data.toList.length) = y at *
              have hc1 := (ho3.cellAt q (by omega)).trans (mix_old _ _ _ _ (by rw [List.length_map, rakeK_len]; omega) (by rw [List.getElem?_map, hra]; rfl))
              have hf := ho3.frozenAt q
              obtain ⟨g, rfl, hg1, hg2⟩ := own_some hd3 hlt3
              have hc2 := (hd3.cellAt q (by omega)).trans (show _ = some (Value.int .i64 y) by rw [List.getElem?_map, hda]; rfl)
              have HRB := Lib.hid hrb
              have HO3 := Lib.hid ho3
              have HD3 := Lib.hid hd3
              clear hra hrb hda hdv ho3 hd3
              go_wp2
              go_roundw
              case rel =>
                have hs := HO3.out.stored q (.int .i64 (x + y))
                rw [mix_set _ _ _ _ (by rw [List.getElem?_map, HRB.out]; rfl) (by rw [List.length_map, rakeK_len]; omega)] at hs
                exact ⟨q + 1, by omega, by go_num, hs.1, World.ownsRow.kept HD3.out hs.2 (.inr (by show some g ≠ some w.heap.size; intro h; injection h with h; omega)), hb3.setCell (Nat.le_refl _) _⟩
              case measure => simp [intOf] <;> omega
            · rw [mix_full _ _ _ (by rw [List.length_map, rakeK_len]; omega) (by rw [List.length_map, rakeK_len]; omega)] at ho3
              have HO3 := Lib.hid ho3
              clear ho3 hd3
              go_wp2
              go_roundw
              case rel => exact ⟨i + 1, by omega, by go_num, HO3.out, hb3⟩
              case measure => simp [intOf] <;> omega
        · obtain rfl : n' = i := by omega
          go_wp2_with fail
          refine (impl_signsOfSums _ _ _ _ _ (own_rdI HO.out) (by omega)).mono ?_
          rintro e w3 ⟨u, rfl, hu, hb3⟩
          have HU := Lib.hid hu
          clear hu
          go_wp2_with fail
          go_ret2
          have hy2 : rakeC zs t.data.toList ds m = ((rakeK zs t.data.toList ds m n').map signC, true) := by rw [rakeC_yes _ _ _ _ HOK.out, LY.out]
          rw [hy2]
          exact ⟨u, rfl, HU.out, hb.trans (hb3.mono hsz)⟩
set_option maxHeartbeats 4000000 in
theorem spec_RakeReceive (A : Option Addr) (n c : Nat) (zs : List Int) (t : ByteArray) (A' : Option Addr) (n' c' : Nat) (ds : List Int) (k : Int) (w : World) (hx : RdI .i64 w A n zs) (hn : n ≤ maxLen) (ht : t.size ≤ 1048576) (hy : RdI .i64 w A' n' ds) (hn' : n' ≤ maxLen) :
    Calls Try.prog 26 #[.slice A n c, .string t, .slice A' n' c', .int .i64 k] w (RetStrB (rakeC zs t.data.toList ds k).1 (rakeC zs t.data.toList ds k).2 w) := by
  have no : ¬ rakeOk zs t.data.toList ds k → ∀ w', Below w.heap.size w w' → RetStrB (rakeC zs t.data.toList ds k).1 (rakeC zs t.data.toList ds k).2 w (.returned (.tuple #[.string ⟨#[]⟩, .bool false])) w' := by
    intro h w' hb
    rw [rakeC_no _ _ _ _ h]; exact ⟨_, rfl, rfl, hb⟩
  have NO := Lib.hid no
  clear no
  have ly := hy.len
  have LY := Lib.hid ly
  clear ly
  have LIN := 0
  cases hl : lisB zs t.data.toList 0 k
  · go_enter Try.func26, Try.ntmps26
    go_wp2_with ((go_at_call 54; refine (spec_l4Listen _ _ _ _ _ _ _ _ hx hn ht).mono ?_; rintro e w' ⟨rfl, rfl⟩; rw [hl]))
    go_ret2
    exact NO.out (fun h => by have := h.1; rw [hl] at this; exact absurd this (by decide)) _ (Below.refl _ _)
  cases hw : within 1 8 (n' : Int)
  · go_enter Try.func26, Try.ntmps26
    go_wp2_with (first | (go_at_call 54; refine (spec_l4Listen _ _ _ _ _ _ _ _ hx hn ht).mono ?_; rintro e w' ⟨rfl, rfl⟩; rw [hl]) | (go_at_call 61; refine (spec_l1In _ _ _ _).mono ?_; rintro e w' ⟨rfl, rfl⟩; rw [hw]))
    go_ret2
    exact NO.out (fun h => by
      have h5 := (within_iff 1 8 (n' : Int)).2 ⟨by have := h.2.1; rw [LY.out] at this; omega, by have := h.2.2.1; rw [LY.out] at this; omega⟩
      rw [hw] at h5; exact absurd h5 (by decide)) _ (Below.refl _ _)
  have hw' := (within_iff 1 8 (n' : Int)).1 hw
  obtain ⟨hs1, hs2, _, m, rfl, hm⟩ := lisB_yes _ _ _ _ hl
  have hq := seqB_bd t hs2
  have hsm := rdI_small hx hs1
  have HS1 := Lib.hid (sig_bd zs hs1).2
  have HS := Lib.hid hs1
  have HQ2 := Lib.hid hs2
  have HL := Lib.hid hl
  have HW := Lib.hid hw
  clear hs1 hs2 hl hw
  have hmk := run_make_row' (P := Try.prog) 22 3 (.int .i64 0) 8 Try.underlying22 Try.infoI64 rfl .i64 .i64 m (by omega) (by omega)
  go_enter Try.func26, Try.ntmps26
  go_wp2_with (first | (go_at_call 54; refine (spec_l4Listen _ _ _ _ _ _ _ _ hx hn ht).mono ?_; rintro e w' ⟨rfl, rfl⟩; rw [HL.out]) | (go_at_call 61; refine (spec_l1In _ _ _ _).mono ?_; rintro e w' ⟨rfl, rfl⟩; rw [HW.out]))
  clear hmk
  go_loopw [10, 11] (fun s v wr => ∃ (i : Nat) (B : Option Addr) (d : Nat), i ≤ n' ∧ v = .int .i64 i ∧ s = .slice B m d ∧ wr.ownsRow w.heap.size 3 1 (.slice B m d) m ((rakeK zs t.data.toList ds m i).map (Value.int .i64)) ∧ (∀ q x, q < i → ds[q]? = some x → within 0 3000 x = true) ∧ Below w.heap.size w wr) (fun _ v _ => n' - (intOf v).toNat)
  case atStart => exact ⟨0, _, _, Nat.zero_le _, rfl, rfl, by rw [rakeK_zero, List.map_replicate]; exact own_made _ _ _ _ (by unfold maxLen; omega), fun q x hq => absurd hq (by omega), (Below.refl _ _).alloc (Nat.le_refl _) _⟩
  case round =>
    obtain ⟨i, B, d, hi, rfl, rfl, ho, hall, hb⟩ := hrel
    have hsz := hb.size
    have HO := Lib.hid ho
    have HALL := Lib.hid hall
    clear ho hall
    by_cases hlt2 : i < n'
    · obtain ⟨b, o, x, rfl, hbl, hxx, hcx⟩ := hy.at hlt2
      have hcr : wr.cell? ⟨b, o + i, none⟩ = some (.int .i64 x) := (hb.cell (p := ⟨b, o + i, none⟩) hbl).trans hcx
      clear hcx
      cases hr : within 0 3000 x
      · go_wp2_with ((go_at_call 61; refine (spec_l1In _ _ _ _).mono ?_; rintro e w' ⟨rfl, rfl⟩; rw [hr]))
        go_ret2
        exact NO.out (fun h => by
          have h5 := List.all_eq_true.1 h.2.2.2 x (List.mem_of_getElem? hxx.out)
          rw [hr] at h5; exact absurd h5 (by decide)) _ hb
      · have hx2 := (within_iff _ _ _).1 hr
        obtain ⟨j, rfl⟩ := Int.eq_ofNat_of_zero_le hx2.1
        have hadd := rakeK_add zs t.data.toList ds m i j hxx.out
        have HADD := Lib.hid hadd
        clear hadd
        obtain ⟨wo, rfl⟩ : ∃ wo, wo = wr := ⟨_, rfl⟩
        go_wp2_with (go_at_call 61; refine (spec_l1In _ _ _ _).mono ?_; rintro e w' ⟨rfl, rfl⟩; rw [hr])
        refine (spec_l4Despread A n c zs t j m _ (Rd.below hx hb) (by omega) HS1.out hq.2 (seqB_parts _ HQ2.out).2.2 (by omega) (by omega)).mono ?_
        rintro e w2 ⟨A2, n2, c2, rfl, ho2, hb2⟩
        have hn2 : n2 = m := by have h5 := (own_rdI ho2).len; rw [desL_len] at h5; omega
        subst hn2
        have hs2 := hb2.size
        have HO2 := Lib.hid (own_below HO.out hb2)
        have HB2 := Lib.hid (hb.trans (hb2.mono hsz))
        have HD := Lib.hid ho2
        clear ho2 hcr
        go_wp2_with fail
        refine (spec_l4Add _ _ _ _ _ _ _ _ _ (own_rdI HO2.out) (own_rdI HD.out) (by omega) (by omega) (fun z hz => ?_) (fun z hz => ?_)).mono ?_
        · have h5 := rake_bd i z (by omega) (rakeK_bd zs HS1.out t.data.toList (by rw [len_data]; omega) ds n2 i z hz)
          omega
        · have h5 := desL_bd zs HS1.out t.data.toList (by rw [len_data]; omega) j n2 z hz
          omega
        rintro e w3 ⟨A3, n3, c3, rfl, ho3, hb3⟩
        rw [HADD.out] at ho3
        have hn3 : n3 = n2 := by have h5 := (own_rdI ho3).len; rw [rakeK_len] at h5; omega
        subst hn3
        have HO3 := Lib.hid ho3
        clear ho3
        go_wp2_with fail
        go_roundw
        case rel => exact ⟨i + 1, A3, c3, by omega, by go_num, rfl, own_mono HO3.out (by have := HB2.out.size; omega), fun q y hq hy => by
          rcases Nat.lt_succ_iff_lt_or_eq.1 hq with h5 | rfl
          · exact HALL.out q y h5 hy
          · rw [hxx.out] at hy; obtain rfl := Option.some.inj hy; exact hr, HB2.out.trans (hb3.mono HB2.out.size)⟩
        case measure => simp [intOf] <;> omega
    · obtain rfl : n' = i := by omega
      have hok : rakeOk zs t.data.toList ds m := ⟨HL.out, by rw [LY.out]; omega, by rw [LY.out]; omega, List.all_eq_true.2 fun x hx => by
        obtain ⟨q, hq⟩ := List.getElem?_of_mem hx
        exact HALL.out q x (by have := (List.getElem?_eq_some_iff.1 hq).1; rw [LY.out] at this; exact this) hq⟩
      have HOK := Lib.hid hok
      clear hok
      go_wp2_with fail
      refine (spec_l4Signs _ _ _ _ _ (own_rdI HO.out) (by omega)).mono ?_
      rintro e w3 ⟨u, rfl, hu, hb3⟩
      have HU := Lib.hid hu
      clear hu
      go_wp2_with fail
      go_ret2
      have hy2 : rakeC zs t.data.toList ds m = ((rakeK zs t.data.toList ds m n').map signC, true) := by rw [rakeC_yes _ _ _ _ HOK.out, LY.out]
      rw [hy2]
      exact ⟨u, rfl, HU.out, hb.trans (hb3.mono hsz)⟩

end Go.Proofs.Ytlddefmakjnfdaa
