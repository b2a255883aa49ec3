/- What the functions on Walsh codes give back, in the program and in the reference. Conditions: as each theorem says. -/
import Derived.Test.YtfendecmgcmbjaaC5
namespace Go.Proofs.Ytfendecmgcmbjaa
open Go.RowKit
set_option linter.unusedSimpArgs false
set_option linter.unusedVariables false

theorem walshC_at (o : Int) (n i : Nat) (h0 : 0 ≤ o) (h6 : o ≤ 6) (h2 : two o = n) (hi : i < n) : walshC o i = (walshL n i, true) := by
  unfold walshC
  rw [if_pos ⟨(within_iff _ _ _).2 ⟨h0, h6⟩, (within_iff _ _ _).2 ⟨by omega, by omega⟩⟩, h2, Int.toNat_natCast, Int.toNat_natCast]
theorem walshC_neg (o i : Int) (h : o < 0) : walshC o i = ([], false) := by
  unfold walshC
  rw [if_neg (fun hc => by have := (within_iff _ _ _).1 hc.1; omega)]
theorem str_bne {t s : ByteArray} {l : List UInt8} (h : t.data.toList = l) : (t.toList == s.toList) = (l == s.data.toList) := by
  rw [ByteArray.toList_eq, ByteArray.toList_eq, h]
set_option maxHeartbeats 1000000 in
theorem spec_WalshIndex (s : ByteArray) (w : World) (hs : s.size ≤ 1048576) :
    Calls Try.prog 20 #[.string s] w fun e w' => e = .returned (.tuple #[.int .i64 (windexC s.data.toList).1, .bool (windexC s.data.toList).2]) ∧ Below w.heap.size w w' := by
  have hw := len_data s
  by_cases h0 : 0 ≤ orderC s.size
  · have hsome := windexC_some s.data.toList
    have hnone := windexC_none s.data.toList
    have hl := orderC_len _ h0
    have hd := orderC_bd s.size
    have h2 := orderC_two _ h0
    rw [hw] at hsome hnone
    generalize horc : orderC s.size = o at *
    have HSOME := Lib.hid (fun i => hsome i h0)
    have HNONE := Lib.hid (hnone h0)
    have H2 := Lib.hid h2
    have HORC := Lib.hid horc
    clear hsome hnone h2 horc hw
    go_enter Try.func20, Try.ntmps20
    go_wp2_with (go_at_call 67; refine (spec_l3Order _ _ (by omega)).mono ?_; rintro e w' ⟨rfl, rfl⟩; rw [HORC.out])
    go_loopw [5] (fun v wr => ∃ i : Nat, i ≤ s.size ∧ v = .int .i64 i ∧ (∀ y, y < i → (walshL s.size y == s.data.toList) = false) ∧ Below w.heap.size w wr) (fun v _ => s.size - (intOf v).toNat)
    case atStart => exact ⟨0, by omega, rfl, fun y hy => absurd hy (by omega), Below.refl _ _⟩
    case round =>
      obtain ⟨i, hi, rfl, hno, hb⟩ := hrel
      have HNO := Lib.hid hno
      clear hno
      by_cases hlt : i < s.size
      · cases hq : (walshL s.size i == s.data.toList)
        · have HQ := Lib.hid hq
          clear hq
          go_wp2_with (go_at_call 68; refine (spec_l3Walsh _ _ _ (by omega) (by omega) (by omega) (by omega)).mono ?_; rintro e w' ⟨t, rfl, ht, hb'⟩; rw [H2.out, Int.toNat_natCast, Int.toNat_natCast] at ht; have hte := (str_bne ht).trans HQ.out; have HT := Lib.hid ht; clear ht)
          go_roundw
          case rel => exact ⟨i + 1, by omega, by go_num, below_snoc _ i HNO.out HQ.out, hb.trans (hb'.mono hb.size)⟩
          case measure => simp [intOf]; omega
        · have HQ := Lib.hid hq
          clear hq
          go_wp2_with (go_at_call 68; refine (spec_l3Walsh _ _ _ (by omega) (by omega) (by omega) (by omega)).mono ?_; rintro e w' ⟨t, rfl, ht, hb'⟩; rw [H2.out, Int.toNat_natCast, Int.toNat_natCast] at ht; have hte := (str_bne ht).trans HQ.out; have HT := Lib.hid ht; clear ht)
          go_ret2
          rw [HSOME.out i hlt HNO.out HQ.out]
          exact ⟨rfl, hb.trans (hb'.mono hb.size)⟩
      · obtain rfl : i = s.size := by omega
        go_wp2_with fail
        go_ret2
        rw [HNONE.out HNO.out]
        exact ⟨rfl, hb⟩
  · rw [windexC_out _ (by rw [hw]; exact h0)]
    clear hw
    generalize horc : orderC s.size = o at *
    have HORC := Lib.hid horc
    clear horc
    go_enter Try.func20, Try.ntmps20
    go_wp2_with (go_at_call 67; refine (spec_l3Order _ _ (by omega)).mono ?_; rintro e w' ⟨rfl, rfl⟩; rw [HORC.out])
    go_loopw [5] (fun v wr => v = .int .i64 0 ∧ wr = w) (fun _ _ => 0)
    case atStart => exact ⟨rfl, rfl⟩
    case round =>
      obtain ⟨rfl, rfl⟩ := hrel
      go_wp2_with fail
      go_ret2
      exact ⟨rfl, Below.refl _ _⟩
set_option maxHeartbeats 1000000 in
theorem impl_WalshIndex (s : ByteArray) (w : World) (hs : s.size ≤ 1048576) :
    Calls Try.prog 19 #[.string s] w fun e w' => e = .returned (.tuple #[.int .i64 (windexC s.data.toList).1, .bool (windexC s.data.toList).2]) ∧ Below w.heap.size w w' := by
  have hw := len_data s
  by_cases h0 : 0 ≤ orderC s.size
  · have hsome := windexC_some s.data.toList
    have hnone := windexC_none s.data.toList
    have hl := orderC_len _ h0
    have hd := orderC_bd s.size
    have h2 := orderC_two _ h0
    rw [hw] at hsome hnone
    generalize horc : orderC s.size = o at *
    have HSOME := Lib.hid (fun i => hsome i h0)
    have HNONE := Lib.hid (hnone h0)
    have H2 := Lib.hid h2
    have HORC := Lib.hid horc
    clear hsome hnone h2 horc hw
    go_enter Try.func19, Try.ntmps19
    go_wp2_with (go_at_call 66; refine (impl_orderOf _ _ (by omega)).mono ?_; rintro e w' ⟨rfl, rfl⟩; rw [HORC.out])
    go_loopw [13] (fun v wr => ∃ i : Nat, i ≤ s.size ∧ v = .int .i64 i ∧ (∀ y, y < i → (walshL s.size y == s.data.toList) = false) ∧ Below w.heap.size w wr) (fun v _ => s.size - (intOf v).toNat)
    case atStart => exact ⟨0, by omega, rfl, fun y hy => absurd hy (by omega), Below.refl _ _⟩
    case round =>
      obtain ⟨i, hi, rfl, hno, hb⟩ := hrel
      have HNO := Lib.hid hno
      clear hno
      by_cases hlt : i < s.size
      · have hwc := walshC_at o s.size i h0 hd.2 H2.out hlt
        have HWC := Lib.hid hwc
        clear hwc
        cases hq : (walshL s.size i == s.data.toList)
        · have HQ := Lib.hid hq
          clear hq
          go_wp2_with (go_at_call 23; refine (impl_WalshCode _ _ _).mono ?_; rw [HWC.out]; rintro e w' ⟨t, rfl, ht, hb'⟩; have hte := (str_bne ht).trans HQ.out; have HT := Lib.hid ht; clear ht)
          go_roundw
          case rel => exact ⟨i + 1, by omega, by go_num, below_snoc _ i HNO.out HQ.out, hb.trans (hb'.mono hb.size)⟩
          case measure => simp [intOf]; omega
        · have HQ := Lib.hid hq
          clear hq
          go_wp2_with (go_at_call 23; refine (impl_WalshCode _ _ _).mono ?_; rw [HWC.out]; rintro e w' ⟨t, rfl, ht, hb'⟩; have hte := (str_bne ht).trans HQ.out; have HT := Lib.hid ht; clear ht)
          go_ret2
          rw [HSOME.out i hlt HNO.out HQ.out]
          exact ⟨rfl, hb.trans (hb'.mono hb.size)⟩
      · obtain rfl : i = s.size := by omega
        go_wp2_with fail
        go_ret2
        rw [HNONE.out HNO.out]
        exact ⟨rfl, hb⟩
  · rw [windexC_out _ (by rw [hw]; exact h0)]
    clear hw
    generalize horc : orderC s.size = o at *
    have HORC := Lib.hid horc
    clear horc
    go_enter Try.func19, Try.ntmps19
    go_wp2_with (go_at_call 66; refine (impl_orderOf _ _ (by omega)).mono ?_; rintro e w' ⟨rfl, rfl⟩; rw [HORC.out])
    go_loopw [13] (fun v wr => ∃ i : Nat, i ≤ s.size ∧ v = .int .i64 i ∧ Below w.heap.size w wr) (fun v _ => s.size - (intOf v).toNat)
    case atStart => exact ⟨0, by omega, rfl, Below.refl _ _⟩
    case round =>
      obtain ⟨i, hi, rfl, hb⟩ := hrel
      by_cases hlt : i < s.size
      · have hwc := walshC_neg o i (by omega)
        have HWC := Lib.hid hwc
        clear hwc
        go_wp2_with (go_at_call 23; refine (impl_WalshCode _ _ _).mono ?_; rw [HWC.out]; rintro e w' ⟨t, rfl, ht, hb'⟩; clear ht)
        go_roundw
        case rel => exact ⟨i + 1, by omega, by go_num, hb.trans (hb'.mono hb.size)⟩
        case measure => simp [intOf]; omega
      · obtain rfl : i = s.size := by omega
        go_wp2_with fail
        go_ret2
        exact ⟨rfl, hb⟩
/-! the transform -/
theorem set_same {α : Type} (l : List α) (i : Nat) (v : α) (h : l[i]? = some v) : l.set i v = l := by
  apply List.ext_getElem?
  intro j
  rw [List.getElem?_set]
  split
  · rename_i e; subst e
    have := (List.getElem?_eq_some_iff.1 h).1
    rw [if_pos this, h]
  · rfl
theorem retI_nil (k : IntKind) (E : TypeId) (w : World) : RetI k E [] w (.returned (.slice none 0 0)) w := ⟨none, 0, 0, rfl, World.ownsRow_nil _ _ _ _, Below.refl _ _⟩
theorem wtranC_out (zs : List Int) (n : Nat) (hn : zs.length = n) (h : orderC n < 0) : wtranC zs = [] := by
  unfold wtranC; rw [hn, if_neg (fun hc => by have := hc.1; omega)]
theorem wtranC_bad (zs : List Int) (h : zs.all (within (-1000000) 1000000) = false) : wtranC zs = [] := by
  unfold wtranC; rw [if_neg (fun hc => by rw [h] at hc; exact absurd hc.2 (by decide))]
theorem wtranC_ok (zs : List Int) (n : Nat) (hn : zs.length = n) (h0 : 0 ≤ orderC n) (h : zs.all (within (-1000000) 1000000) = true) : wtranC zs = wtranL zs := by
  unfold wtranC; rw [hn, if_pos ⟨h0, h⟩]

end Go.Proofs.Ytfendecmgcmbjaa
