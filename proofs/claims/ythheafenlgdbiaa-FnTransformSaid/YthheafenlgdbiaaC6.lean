/- What the functions on Walsh codes give back, in the program and in the reference. Conditions: as each theorem says. -/
import Derived.Test.YthheafenlgdbiaaC5
namespace Go.Proofs.Ythheafenlgdbiaa
open Go.RowKit
set_option linter.unusedSimpArgs false
set_option linter.unusedVariables false

theorem walshC_at (o : Int) (n i : Nat) (h0 : 0 ≤ o) (h6 : o ≤ 6) (h2 : two o = n) (hi : i < n) : walshC o i = (walshL n i, true) := by
  unfold walshC
  rw [if_pos ⟨(within_iff _ _ _).2 ⟨h0, h6⟩, (within_iff _ _ _).2 ⟨by omega, by omega⟩⟩, h2, Int.toNat_natCast, Int.toNat_natCast]
theorem walshC_neg (o i : Int) (h : o < 0) : walshC o i = ([], false) := by
  unfold walshC
  rw [if_neg (fun hc => by have := (within_iff _ _ _).1 hc.1; omega)]
theorem str_bne {t s : ByteArray} {l : List UInt8} (h : t.data.toList = l) : (t.toList == s.toList) = (l == s.data.toList) := by
  rw [ByteArray.toList_eq, ByteArray.toList_eq, h]
set_option maxHeartbeats 1000000 in
theorem spec_WalshIndex (s : ByteArray) (w : World) (hs : s.size ≤ 1048576) :
    Calls Try.prog 19 #[.string s] w fun e w' => e = .returned (.tuple #[.int .i64 (windexC s.data.toList).1, .bool (windexC s.data.toList).2]) ∧ Below w.heap.size w w' := by
  have hw := len_data s
  by_cases h0 : 0 ≤ orderC s.size
  · have hsome := windexC_some s.data.toList
    have hnone := windexC_none s.data.toList
    have hl := orderC_len _ h0
    have hd := orderC_bd s.size
    have h2 := orderC_two _ h0
    rw [hw] at hsome hnone
    generalize horc : orderC s.size = o at *
    have HSOME := Lib.hid (fun i => hsome i h0)
    have HNONE := Lib.hid (hnone h0)
    have H2 := Lib.hid h2
    have HORC := Lib.hid horc
    clear hsome hnone h2 horc hw
    go_enter Try.func19, Try.ntmps19
    go_wp2_with (go_at_call 65; refine (spec_l3Order _ _ (by omega)).mono ?_; rintro e w' ⟨rfl, rfl⟩; rw [HORC.out])
    go_loopw [5] (fun v wr => ∃ i : Nat, i ≤ s.size ∧ v = .int .i64 i ∧ (∀ y, y < i → (walshL s.size y == s.data.toList) = false) ∧ Below w.heap.size w wr) (fun v _ => s.size - (intOf v).toNat)
    case atStart => exact ⟨0, by omega, rfl, fun y hy => absurd hy (by omega), Below.refl _ _⟩
    case round =>
      obtain ⟨i, hi, rfl, hno, hb⟩ := hrel
      have HNO := Lib.hid hno
      clear hno
      by_cases hlt : i < s.size
      · cases hq : (walshL s.size i == s.data.toList)
        · have HQ := Lib.hid hq
          clear hq
          go_wp2_with (go_at_call 66; refine (spec_l3Walsh _ _ _ (by omega) (by omega) (by omega) (by omega)).mono ?_; rintro e w' ⟨t, rfl, ht, hb'⟩; rw [H2.out, Int.toNat_natCast, Int.toNat_natCast] at ht; have hte := (str_bne ht).trans HQ.out; have HT := Lib.hid ht; clear ht)
          go_roundw
          case rel => exact ⟨i + 1, by omega, by go_num, below_snoc _ i HNO.out HQ.out, hb.trans (hb'.mono hb.size)⟩
          case measure => simp [intOf]; omega
        · have HQ := Lib.hid hq
          clear hq
          go_wp2_with (go_at_call 66; refine (spec_l3Walsh _ _ _ (by omega) (by omega) (by omega) (by omega)).mono ?_; rintro e w' ⟨t, rfl, ht, hb'⟩; rw [H2.out, Int.toNat_natCast, Int.toNat_natCast] at ht; have hte := (str_bne ht).trans HQ.out; have HT := Lib.hid ht; clear ht)
          go_ret2
          rw [HSOME.out i hlt HNO.out HQ.out]
          exact ⟨rfl, hb.trans (hb'.mono hb.size)⟩
      · obtain rfl : i = s.size := by omega
        go_wp2_with fail
        go_ret2
        rw [HNONE.out HNO.out]
        exact ⟨rfl, hb⟩
  · rw [windexC_out _ (by rw [hw]; exact h0)]
    clear hw
    generalize horc : orderC s.size = o at *
    have HORC := Lib.hid horc
    clear horc
    go_enter Try.func19, Try.ntmps19
    go_wp2_with (go_at_call 65; refine (spec_l3Order _ _ (by omega)).mono ?_; rintro e w' ⟨rfl, rfl⟩; rw [HORC.out])
    go_loopw [5] (fun v wr => v = .int .i64 0 ∧ wr = w) (fun _ _ => 0)
    case atStart => exact ⟨rfl, rfl⟩
    case round =>
      obtain ⟨rfl, rfl⟩ := hrel
      go_wp2_with fail
      go_ret2
      exact ⟨rfl, Below.refl _ _⟩
set_option maxHeartbeats 1000000 in
theorem impl_WalshIndex (s : ByteArray) (w : World) (hs : s.size ≤ 1048576) :
    Calls Try.prog 20 #[.string s] w fun e w' => e = .returned (.tuple #[.int .i64 (windexC s.data.toList).1, .bool (windexC s.data.toList).2]) ∧ Below w.heap.size w w' := by
  have hw := len_data s
  by_cases h0 : 0 ≤ orderC s.size
  · have hsome := windexC_some s.data.toList
    have hnone := windexC_none s.data.toList
    have hl := orderC_len _ h0
    have hd := orderC_bd s.size
    have h2 := orderC_two _ h0
    rw [hw] at hsome hnone
    generalize horc : orderC s.size = o at *
    have HSOME := Lib.hid (fun i => hsome i h0)
    have HNONE := Lib.hid (hnone h0)
    have H2 := Lib.hid h2
    have HORC := Lib.hid horc
    clear hsome hnone h2 horc hw
    go_enter Try.func20, Try.ntmps20
    go_wp2_with (go_at_call 67; refine (impl_orderOf _ _ (by omega)).mono ?_; rintro e w' ⟨rfl, rfl⟩; rw [HORC.out])
    go_loopw [13] (fun v wr => ∃ i : Nat, i ≤ s.size ∧ v = .int .i64 i ∧ (∀ y, y < i → (walshL s.size y == s.data.toList) = false) ∧ Below w.heap.size w wr) (fun v _ => s.size - (intOf v).toNat)
    case atStart => exact ⟨0, by omega, rfl, fun y hy => absurd hy (by omega), Below.refl _ _⟩
    case round =>
      obtain ⟨i, hi, rfl, hno, hb⟩ := hrel
      have HNO := Lib.hid hno
      clear hno
      by_cases hlt : i < s.size
      · have hwc := walshC_at o s.size i h0 hd.2 H2.out hlt
        have HWC := Lib.hid hwc
        clear hwc
        cases hq : (walshL s.size i == s.data.toList)
        · have HQ := Lib.hid hq
          clear hq
          go_wp2_with (go_at_call 68; refine (impl_WalshCode _ _ _).mono ?_; rw [HWC.out]; rintro e w' ⟨t, rfl, ht, hb'⟩; have hte := (str_bne ht).trans HQ.out; have HT := Lib.hid ht; clear ht)
          go_roundw
          case rel => exact ⟨i + 1, by omega, by go_num, below_snoc _ i HNO.out HQ.out, hb.trans (hb'.mono hb.size)⟩
          case measure => simp [intOf]; omega
        · have HQ := Lib.hid hq
          clear hq
          go_wp2_with (go_at_call 68; refine (impl_WalshCode _ _ _).mono ?_; rw [HWC.out]; rintro e w' ⟨t, rfl, ht, hb'⟩; have hte := (str_bne ht).trans HQ.out; have HT := Lib.hid ht; clear ht)
          go_ret2
          rw [HSOME.out i hlt HNO.out HQ.out]
          exact ⟨rfl, hb.trans (hb'.mono hb.size)⟩
      · obtain rfl : i = s.size := by omega
        go_wp2_with fail
        go_ret2
        rw [HNONE.out HNO.out]
        exact ⟨rfl, hb⟩
  · rw [windexC_out _ (by rw [hw]; exact h0)]
    clear hw
    generalize horc : orderC s.size = o at *
    have HORC := Lib.hid horc
    clear horc
    go_enter Try.func20, Try.ntmps20
    go_wp2_with (go_at_call 67; refine (impl_orderOf _ _ (by omega)).mono ?_; rintro e w' ⟨rfl, rfl⟩; rw [HORC.out])
    go_loopw [13] (fun v wr => ∃ i : Nat, i ≤ s.size ∧ v = .int .i64 i ∧ Below w.heap.size w wr) (fun v _ => s.size - (intOf v).toNat)
    case atStart => exact ⟨0, by omega, rfl, Below.refl _ _⟩
    case round =>
      obtain ⟨i, hi, rfl, hb⟩ := hrel
      by_cases hlt : i < s.size
      · have hwc := walshC_neg o i (by omega)
        have HWC := Lib.hid hwc
        clear hwc
        go_wp2_with (go_at_call 68; refine (impl_WalshCode _ _ _).mono ?_; rw [HWC.out]; rintro e w' ⟨t, rfl, ht, hb'⟩; clear ht)
        go_roundw
        case rel => exact ⟨i + 1, by omega, by go_num, hb.trans (hb'.mono hb.size)⟩
        case measure => simp [intOf]; omega
      · obtain rfl : i = s.size := by omega
        go_wp2_with fail
        go_ret2
        exact ⟨rfl, hb⟩
/-! the transform -/
theorem set_same {α : Type} (l : List α) (i : Nat) (v : α) (h : l[i]? = some v) : l.set i v = l := by
  apply List.ext_getElem?
  intro j
  rw [List.getElem?_set]
  split
  · rename_i e; subst e
    have := (List.getElem?_eq_some_iff.1 h).1
    rw [if_pos this, h]
  · rfl
theorem retI_nil (k : IntKind) (E : TypeId) (w : World) : RetI k E [] w (.returned (.slice none 0 0)) w := ⟨none, 0, 0, rfl, World.ownsRow_nil _ _ _ _, Below.refl _ _⟩
theorem wtranC_out (zs : List Int) (n : Nat) (hn : zs.length = n) (h : orderC n < 0) : wtranC zs = [] := by
  unfold wtranC; rw [hn, if_neg (fun hc => by have := hc.1; omega)]
theorem wtranC_bad (zs : List Int) (h : zs.all (within (-1000000) 1000000) = false) : wtranC zs = [] := by
  unfold wtranC; rw [if_neg (fun hc => by rw [h] at hc; exact absurd hc.2 (by decide))]
theorem wtranC_ok (zs : List Int) (n : Nat) (hn : zs.length = n) (h0 : 0 ≤ orderC n) (h : zs.all (within (-1000000) 1000000) = true) : wtranC zs = wtranL zs := by
  unfold wtranC; rw [hn, if_pos ⟨h0, h⟩]
set_option maxHeartbeats 1000000 in
theorem impl_WalshTransform (A : Option Addr) (n c : Nat) (zs : List Int) (w : World) (hx : RdI .i64 w A n zs) (hn : n ≤ 1048576) :
    Calls Try.prog 23 #[.slice A n c] w (RetI .i64 3 (wtranC zs) w) := by
  have lx := hx.len
  have hd := orderC_bd n
  by_cases h0 : orderC n < 0
  · rw [wtranC_out zs n lx h0]
    clear lx
    generalize horc : orderC n = o at *
    have HORC := Lib.hid horc
    clear horc
    go_enter Try.func23, Try.ntmps23
    go_wp2_with (go_at_call 67; refine (impl_orderOf _ _ (by omega)).mono ?_; rintro e w' ⟨rfl, rfl⟩; rw [HORC.out])
    go_ret
    exact retI_nil _ _ _
  · have hl := orderC_len n (by omega)
    generalize horc : orderC n = o at *
    cases hall : zs.all (within (-1000000) 1000000)
    · rw [wtranC_bad zs hall]
      have HORC := Lib.hid horc
      clear horc lx
      go_enter Try.func23, Try.ntmps23
      go_wp2_with (first | (go_at_call 67; refine (impl_orderOf _ _ (by omega)).mono ?_; rintro e w' ⟨rfl, rfl⟩; rw [HORC.out]) | (go_at_call 70; refine (impl_numbersWithin _ _ _ _ _ _ _ hx (by unfold maxLen; omega)).mono ?_; rintro e w' ⟨rfl, rfl⟩; rw [hall]))
      go_ret
      exact retI_nil _ _ _
    · rw [wtranC_ok zs n lx (by rw [horc]; omega) hall]
      have hz := all_within zs 1000000 hall
      have hwl := wtranL_len zs
      have hwa := wtranL_at zs
      rw [lx] at hwl hwa
      have HWL := Lib.hid hwl
      have HWA := Lib.hid hwa
      have HZ := Lib.hid hz
      have HORC := Lib.hid horc
      have hmk := run_make_row' (P := Try.prog) 27 3 (.int .i64 0) 8 Try.underlying27 Try.infoI64 rfl .i64 .i64 n (by omega) (by omega)
      clear horc lx hwl hwa hz
      go_enter Try.func23, Try.ntmps23
      go_wp2_with (first | (go_at_call 67; refine (impl_orderOf _ _ (by omega)).mono ?_; rintro e w' ⟨rfl, rfl⟩; rw [HORC.out]) | (go_at_call 70; refine (impl_numbersWithin _ _ _ _ _ _ _ hx (by unfold maxLen; omega)).mono ?_; rintro e w' ⟨rfl, rfl⟩; rw [hall]))
      clear hmk
      go_loopw [21] (fun v wr => ∃ i : Nat, i ≤ n ∧ v = .int .i64 i ∧ wr.ownsRow w.heap.size 3 1 (.slice (some ⟨w.heap.size, 0, none⟩) n n) n (Fill ((wtranL zs).map (Value.int .i64)) (.int .i64 0) i) ∧ Below w.heap.size w wr) (fun v _ => n - (intOf v).toNat)
      case atStart => exact ⟨0, Nat.zero_le _, rfl, by rw [fill_zero, List.length_map, HWL.out]; exact own_made _ _ _ _ (by unfold maxLen; omega), (Below.refl _ _).alloc (Nat.le_refl _) _⟩
      case round =>
        obtain ⟨i, hi, rfl, ho, hb⟩ := hrel
        by_cases hlt : i < n
        · have hfa := fill_at ((wtranL zs).map (Value.int .i64)) (.int .i64 0) i (by rw [List.length_map, HWL.out]; exact hlt)
          have hfs := fill_set ((wtranL zs).map (Value.int .i64)) (.int .i64 0) i (.int .i64 (sumTo (wterm zs i) n)) (by rw [List.getElem?_map, HWA.out i hlt]; rfl)
          have hfl := fill_len ((wtranL zs).map (Value.int .i64)) (.int .i64 0) i (by rw [List.length_map, HWL.out]; omega)
          rw [List.length_map, HWL.out] at hfl
          generalize hFI : Fill ((wtranL zs).map (Value.int .i64)) (.int .i64 0) i = row at *
          have HFA := Lib.hid hfa
          have HFS := Lib.hid hfs
          have HFL := Lib.hid hfl
          have HO := Lib.hid ho
          clear hfa hfs hfl hFI ho
          go_wp2_with fail
          go_loopw [26] (fun v wr' => ∃ k : Nat, k ≤ n ∧ v = .int .i64 k ∧ wr'.ownsRow w.heap.size 3 1 (.slice (some ⟨w.heap.size, 0, none⟩) n n) n (row.set i (.int .i64 (sumTo (wterm zs i) k))) ∧ Below w.heap.size w wr') (fun v _ => n - (intOf v).toNat)
          case atStart => exact ⟨0, Nat.zero_le _, rfl, by rw [show sumTo (wterm zs i) 0 = 0 from rfl, set_same _ _ _ HFA.out]; exact HO.out, hb⟩
          case round =>
            obtain ⟨k, hk, rfl, ho', hb'⟩ := hrel
            by_cases hlk : k < n
            · have hwb := wsum_bd zs HZ.out i k
              have hwb2 : (k : Int) * 1000000 ≤ 64000000 := by omega
              have hsc := sumTo_succ (wterm zs i) k
              generalize hsum : sumTo (wterm zs i) k = s at *
              obtain ⟨b, o', x, rfl, hlb, hxx, hcx⟩ := hx.at hlk
              have hcr : wr.cell? ⟨b, o' + k, none⟩ = some (.int .i64 x) := (hb'.cell (p := ⟨b, o' + k, none⟩) hlb).trans hcx
              have hxb := HZ.out x (List.mem_of_getElem? hxx.out)
              have hc := ho'.cellAt i (by omega)
              rw [List.getElem?_set_self (by rw [HFL.out]; exact hlt)] at hc
              have hf := ho'.frozenAt i
              have HO' := Lib.hid ho'
              have hwt : wterm zs i k = if par (i &&& k) = 0 then x else -x := by unfold wterm; rw [List.getD_eq_getElem?_getD, hxx.out]; rfl
              have hand := and_i64 i k (by omega) (by omega)
              have hj : i &&& k ≤ 64 := by have := @Nat.and_le_left i k; omega
              have hp := par_le (i &&& k)
              clear ho' hcx hsum
              have HWT := Lib.hid hwt
              have HSC := Lib.hid hsc
              clear hwt hsc
              rcases (show par (i &&& k) = 0 ∨ par (i &&& k) = 1 by omega) with hp0 | hp1
              · go_wp2_with (go_at_call 71; refine (impl_Parity _ _ (by omega) (by omega)).mono ?_; rintro e w' ⟨rfl, rfl⟩; rw [Int.toNat_natCast, hp0])
                go_roundw
                case rel =>
                  have hs := HO'.out.stored i (.int .i64 (s + x))
                  rw [List.set_set] at hs
                  exact ⟨k + 1, by omega, by go_num, by rw [HSC.out, HWT.out, if_pos hp0]; exact hs.1, hb'.setCell (Nat.le_refl _) _⟩
                case measure => simp [intOf]; omega
              · go_wp2_with (go_at_call 71; refine (impl_Parity _ _ (by omega) (by omega)).mono ?_; rintro e w' ⟨rfl, rfl⟩; rw [Int.toNat_natCast, hp1])
                go_roundw
                case rel =>
                  have hs := HO'.out.stored i (.int .i64 (s - x))
                  rw [List.set_set] at hs
                  exact ⟨k + 1, by omega, by go_num, by rw [HSC.out, HWT.out, if_neg (by omega)]; exact hs.1, hb'.setCell (Nat.le_refl _) _⟩
                case measure => simp [intOf]; omega
            · obtain rfl : k = n := by omega
              rw [HFS.out] at ho'
              go_wp2_with fail
              go_roundw
              case rel => exact ⟨i + 1, by omega, by go_num, ho', hb'⟩
              case measure => simp [intOf]; omega
        · obtain rfl : i = n := by omega
          rw [fill_full _ _ _ (by rw [List.length_map, HWL.out]; omega)] at ho
          go_wp2_with fail
          go_ret
          exact retI_own ho hb
set_option maxHeartbeats 1000000 in
theorem spec_WalshTransform (A : Option Addr) (n c : Nat) (zs : List Int) (w : World) (hx : RdI .i64 w A n zs) (hn : n ≤ 1048576) :
    Calls Try.prog 21 #[.slice A n c] w (RetI .i64 3 (wtranC zs) w) := by
  have lx := hx.len
  have hd := orderC_bd n
  have hwl := wtranL_len zs
  have hwa := wtranL_at zs
  have hbad := wtranC_bad zs
  have hout := wtranC_out zs n lx
  have hok := wtranC_ok zs n lx
  have hordl := orderC_len n
  rw [lx] at hwl hwa
  generalize horc : orderC n = o at *
  have HWL := Lib.hid hwl
  have HWA := Lib.hid hwa
  have HBAD := Lib.hid hbad
  have HOUT := Lib.hid hout
  have HOK := Lib.hid hok
  have HORDL := Lib.hid hordl
  have HORC := Lib.hid horc
  have LX := Lib.hid lx
  clear hwl hwa hbad hout hok horc lx hordl
  have OE := Lib.hid (own_empty w 3 w.heap.size (Nat.le_refl _))
  have BE := Lib.hid ((Below.refl w.heap.size w).alloc (Nat.le_refl _) (.cells #[] 3))
  go_enter Try.func21, Try.ntmps21
  go_wp2_with (go_at_call 65; refine (spec_l3Order _ _ (by omega)).mono ?_; rintro e w' ⟨rfl, rfl⟩; rw [HORC.out])
  generalize hwe : w.alloc (.cells #[] 3) = we at *
  clear hwe
  go_loopw [5] (fun v wr => ∃ k : Nat, k ≤ n ∧ v = .int .i64 k ∧ Hid ((zs.take k).all (within (-1000000) 1000000) = true) ∧ we = wr) (fun v _ => n - (intOf v).toNat)
  case atStart => exact ⟨0, Nat.zero_le _, rfl, by simp [Hid], rfl⟩
  case round =>
    obtain ⟨k, hk, rfl, ha, rfl⟩ := hrel
    by_cases hlt : k < n
    · obtain ⟨b, o', x, rfl, hlb, hxx, hcx⟩ := RdI.at (k := .i64) (Rd.below hx BE.out) hlt
      cases hw : within (-1000000) 1000000 x
      · go_wp2_with (go_at_call 58; refine (spec_l1In _ _ _ _).mono ?_; rintro e w' ⟨rfl, rfl⟩)
        go_ret
        rw [HBAD.out (allP_false _ _ _ _ hxx.out hw)]
        exact retI_own OE.out BE.out
      · go_wp2_with (go_at_call 58; refine (spec_l1In _ _ _ _).mono ?_; rintro e w' ⟨rfl, rfl⟩)
        go_roundw
        case rel => exact ⟨k + 1, by omega, by go_num, allP_snoc _ _ _ _ hxx.out ha.out hw, trivial⟩
        case measure => simp [intOf]; omega
    · have hall := allP_take _ _ _ (by rw [LX.out]; omega) ha.out
      obtain rfl : k = n := by omega
      go_wp2_with fail
      by_cases h0 : o < 0
      · go_loopw [3, 6] (fun u v wr => u = .slice (some ⟨w.heap.size, 0, none⟩) 0 0 ∧ v = .int .i64 0 ∧ we = wr) (fun _ _ _ => 0)
        case atStart => exact ⟨rfl, rfl, rfl⟩
        case round =>
          obtain ⟨rfl, rfl, rfl⟩ := hrel
          go_wp2_with fail
          go_ret
          rw [HOUT.out h0]
          exact ⟨_, _, _, rfl, OE.out, BE.out⟩
      · have hl := HORDL.out (by omega)
        have HZ := Lib.hid (all_within zs 1000000 hall)
        have HOK2 := Lib.hid (HOK.out (by omega) hall)
        clear hall
        go_loopw [3, 6] (fun u v wr => ∃ (i : Nat) (B : Option Addr) (m c' : Nat), i ≤ k ∧ v = .int .i64 i ∧ u = .slice B m c' ∧ Hid (m = i) ∧ wr.ownsRow w.heap.size 3 1 (.slice B m c') m (((wtranL zs).take i).map (Value.int .i64)) ∧ Below w.heap.size w wr) (fun _ v _ => k - (intOf v).toNat)
        case atStart => exact ⟨0, _, 0, 0, Nat.zero_le _, rfl, rfl, rfl, OE.out, BE.out⟩
        case round =>
          obtain ⟨i, B, m, c', hi, rfl, rfl, hm, ho, hb⟩ := hrel
          have HO := Lib.hid ho
          clear ho
          by_cases hlt2 : i < k
          · go_wp2_with fail
            go_loopw [7, 8] (fun u v wr' => ∃ j d : Nat, j ≤ k ∧ v = .int .i64 j ∧ u = .int .i64 (sumTo (wterm zs i) j) ∧ wr.drewN d = wr') (fun _ v _ => k - (intOf v).toNat)
            case atStart => exact ⟨0, 0, Nat.zero_le _, rfl, rfl, rfl⟩
            case round =>
              obtain ⟨j, d, hj, rfl, rfl, rfl⟩ := hrel
              by_cases hlj : j < k
              · have hwb := wsum_bd zs HZ.out i j
                have hwb2 : (j : Int) * 1000000 ≤ 64000000 := by omega
                have hsc := sumTo_succ (wterm zs i) j
                generalize hsum : sumTo (wterm zs i) j = s at *
                obtain ⟨b, o', x, rfl, hlb, hxx, hcx⟩ := RdI.at (k := .i64) (Rd.below hx hb) hlj
                have hxb := HZ.out x (List.mem_of_getElem? hxx.out)
                have hwt := wterm_mul zs i j
                rw [List.getD_eq_getElem?_getD, hxx.out] at hwt
                have hand := and_i64 i j (by omega) (by omega)
                have hij : i &&& j ≤ 64 := by have := @Nat.and_le_left i j; omega
                have hp := par_le (i &&& j)
                clear hsum
                have HWT := Lib.hid hwt
                have HSC := Lib.hid hsc
                clear hwt hsc
                rcases (show par (i &&& j) = 0 ∨ par (i &&& j) = 1 by omega) with hp0 | hp0
                · have hpar : ∀ w', Calls Try.prog 69 #[.int .i64 ((i &&& j : Nat) : Int)] w' fun e w'' => e = .returned (.int .i64 0) ∧ w' = w'' := fun w' => (spec_l1Parity _ _ (by omega) (by omega)).mono (by rintro e w'' ⟨rfl, rfl⟩; rw [Int.toNat_natCast, hp0]; exact ⟨rfl, rfl⟩)
                  have hx1 : IntKind.i64.wrap x = x := IntWalk.i64_in _ ⟨by omega, by omega⟩
                  have hx2 : IntKind.i64.wrap (s + x) = s + x := IntWalk.i64_in _ ⟨by omega, by omega⟩
                  go_wp2
                  go_quiet ((go_at_call 69; refine (hpar _).mono ?_; rintro e w' ⟨rfl, rfl⟩; exact ⟨rfl, _, rfl⟩))
                  go_wp2
                  go_roundw
                  case rel => exact ⟨j + 1, _, by omega, by go_num, by rw [HSC.out, ← HWT.out, hp0]; simp, rfl⟩
                  case measure => simp [intOf]; omega
                · have hpar : ∀ w', Calls Try.prog 69 #[.int .i64 ((i &&& j : Nat) : Int)] w' fun e w'' => e = .returned (.int .i64 1) ∧ w' = w'' := fun w' => (spec_l1Parity _ _ (by omega) (by omega)).mono (by rintro e w'' ⟨rfl, rfl⟩; rw [Int.toNat_natCast, hp0]; exact ⟨rfl, rfl⟩)
                  have hx1 : IntKind.i64.wrap (-x) = -x := IntWalk.i64_in _ ⟨by omega, by omega⟩
                  have hx2 : IntKind.i64.wrap (s + -x) = s + -x := IntWalk.i64_in _ ⟨by omega, by omega⟩
                  have hx3 : IntKind.i64.wrap (x * -1) = -x := by rw [IntWalk.i64_in _ ⟨by omega, by omega⟩]; omega
                  go_wp2
                  go_quiet ((go_at_call 69; refine (hpar _).mono ?_; rintro e w' ⟨rfl, rfl⟩; exact ⟨rfl, _, rfl⟩))
                  go_wp2
                  go_roundw
                  case rel => exact ⟨j + 1, _, by omega, by go_num, by rw [HSC.out, ← HWT.out, hp0]; simp, rfl⟩
                  case measure => simp [intOf]; omega
              · obtain rfl : j = k := by omega
                have hat := HWA.out i hlt2
                have hwb := wsum_bd zs HZ.out i j
                generalize hsum : sumTo (wterm zs i) j = s at *
                have HAT := Lib.hid hat
                clear hat hsum
                have HOD := Lib.hid ((own_below HO.out (below_drewN (Below.refl wr.heap.size wr) d)).alloc (.cells #[.int .i64 s] 3))
                have HBD := Lib.hid ((below_drewN hb d).alloc (below_drewN hb d).size (.cells #[.int .i64 s] 3))
                have HRD := Lib.hid (own_rd (own_lit (wr.drewN d) 3 1 [.int .i64 s] rfl (by decide)))
                have hsz := HBD.out.size
                have hmk := hm.out
                go_wp2_with (at_builtin; refine wpList_append_rd _ rfl _ _ 27 rfl w.heap.size 3 (.int .i64 0) 8 Try.underlying27 Try.infoI64 rfl (.slice B m c') _ _ rfl HOD.out _ _ _ _ rfl HRD.out (by simp [Value.oneCell']) ?_ (by omega) ?_ ?_; omega; exact hsz; intro A' q c2 w' hq ho hg; have HQ := Lib.hid hq.out; have HO2 := Lib.hid ho; have HG := Lib.hid hg; clear hq ho hg)
                go_roundw
                case rel =>
                  have h5 := HO2.out
                  rw [← List.map_singleton (f := Value.int .i64), ← List.map_append, ← take_add _ _ _ HAT.out] at h5
                  exact ⟨i + 1, A', q, c2, by omega, by go_num, rfl, by have := HQ.out; show _ = _; omega, h5, HBD.out.trans (own_below_of HOD.out HG.out hsz)⟩
                case measure => simp [intOf]; omega
          · obtain rfl : i = k := by omega
            go_wp2_with fail
            go_ret
            rw [List.take_of_length_le (by rw [HWL.out]; omega)] at HO
            rw [HOK2.out]
            exact retI_own HO.out hb

end Go.Proofs.Ythheafenlgdbiaa
