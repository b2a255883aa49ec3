/- Lists of users: comparison and validity. Conditions: as each theorem says. -/
import Derived.Test.YtlddefmakjnfdaaUsr
import Derived.Test.YtlddefmakjnfdaaStr
import Derived.Test.YtlddefmakjnfdaaC4
namespace Go.Proofs.Ytlddefmakjnfdaa
open Go.RowKit
set_option linter.unusedSimpArgs false
set_option linter.unusedVariables false
set_option maxRecDepth 100000

def userU (u : ByteArray × ByteArray × Int × Int) : Bool := userB u.1.data.toList u.2.1.data.toList u.2.2.1 u.2.2.2
def usersB (us : List (ByteArray × ByteArray × Int × Int)) : Bool := decide (us.length ≤ 8) && us.all userU
theorem bytes_ne {s t : ByteArray} (h : s ≠ t) : (s.toList != t.toList) = true := by
  have := str_ne h
  simp only [bne, this]; rfl
set_option maxHeartbeats 1000000 in
theorem laws_eqUser (a b : ByteArray) (c d : Int) (a' b' : ByteArray) (c' d' : Int) (w : World) :
    Calls Try.prog 70 #[.agg #[.string a, .string b, .int .i64 c, .int .i64 d], .agg #[.string a', .string b', .int .i64 c', .int .i64 d']] w fun e w' => e = .returned (.bool (decide ((a, b, c, d) = (a', b', c', d')))) ∧ Below w.heap.size w w' := by
  have hbel : ∀ o1 o2, Below w.heap.size w ((w.alloc o1).alloc o2) := fun o1 o2 => ((Below.refl _ _).alloc (Nat.le_refl _) _).alloc (by simp) _
  have HB := Lib.hid hbel
  clear hbel
  by_cases h1 : a = a'
  · subst h1
    by_cases h2 : b = b'
    · subst h2
      by_cases h3 : c = c'
      · subst h3
        have e3 : (c != c) = false := by simp
        by_cases h4 : d = d'
        · subst h4
          have e4 : (d != d) = false := by simp
          rw [decide_eq_true (show (a, b, c, d) = (a, b, c, d) from rfl)]
          go_enter Try.func70, Try.ntmps70
          go_wp2
          go_ret
          exact ⟨rfl, HB.out _ _⟩
        · have e4 : (d != d') = true := by simpa using h4
          rw [decide_eq_false (show ¬ (a, b, c, d) = (a, b, c, d') from fun h => h4 (by injection h with _ h; injection h with _ h; injection h))]
          go_enter Try.func70, Try.ntmps70
          go_wp2
          go_ret
          exact ⟨rfl, HB.out _ _⟩
      · have e3 : (c != c') = true := by simpa using h3
        rw [decide_eq_false (show ¬ (a, b, c, d) = (a, b, c', d') from fun h => h3 (by injection h with _ h; injection h with _ h; injection h))]
        go_enter Try.func70, Try.ntmps70
        go_wp2
        go_ret
        exact ⟨rfl, HB.out _ _⟩
    · have e2 := str_ne h2
      rw [decide_eq_false (show ¬ (a, b, c, d) = (a, b', c', d') from fun h => h2 (by injection h with _ h; injection h))]
      go_enter Try.func70, Try.ntmps70
      go_wp2
      go_ret
      exact ⟨rfl, HB.out _ _⟩
  · have e1 := str_ne h1
    rw [decide_eq_false (show ¬ (a, b, c, d) = (a', b', c', d') from fun h => h1 (by injection h))]
    go_enter Try.func70, Try.ntmps70
    go_wp2
    go_ret
    exact ⟨rfl, HB.out _ _⟩
set_option maxHeartbeats 2000000 in
theorem laws_eqUserS (A A' : Option Addr) (n c n' c' : Nat) (xs ys : List (ByteArray × ByteArray × Int × Int)) (w : World) (hx : RdU w A n xs) (hy : RdU w A' n' ys) (hn : n ≤ 1048576) :
    Calls Try.prog 32 #[.slice A n c, .slice A' n' c'] w fun e w' => e = .returned (.bool (decide (xs = ys))) ∧ Below w.heap.size w w' := by
  have lx := hx.len
  have ly := hy.len
  by_cases hnn : n = n'
  · subst hnn
    have LX := Lib.hid lx
    have LY := Lib.hid ly
    clear lx ly
    go_enter Try.func32, Try.ntmps32
    go_wp2
    go_loopw [5] (fun v wr => ∃ k : Nat, k ≤ n ∧ v = .int .i64 k ∧ Hid (xs.take k = ys.take k) ∧ Below w.heap.size w wr) (fun v _ => n - (intOf v).toNat)
    case atStart => exact ⟨0, Nat.zero_le _, rfl, rfl, Below.refl _ _⟩
    case round =>
      obtain ⟨k, hk, rfl, ht, hb⟩ := hrel
      have hz := hb.size
      by_cases hlt : k < n
      · obtain ⟨b, o, x1, x2, x3, x4, rfl, hgl, hxx, hc1, hc2, hc3, hc4⟩ := hx.at hlt
        obtain ⟨b', o', y1, y2, y3, y4, rfl, hgl', hyy, hd1, hd2, hd3, hd4⟩ := hy.at hlt
        have hall : ∀ w', Below w.heap.size w w' → (w'.cell? ⟨b, o + k * 4, none⟩ = some (.string x1) ∧ w'.cell? ⟨b, o + k * 4 + 1, none⟩ = some (.string x2) ∧ w'.cell? ⟨b, o + k * 4 + 2, none⟩ = some (.int .i64 x3) ∧ w'.cell? ⟨b, o + k * 4 + 3, none⟩ = some (.int .i64 x4)) ∧
            (w'.cell? ⟨b', o' + k * 4, none⟩ = some (.string y1) ∧ w'.cell? ⟨b', o' + k * 4 + 1, none⟩ = some (.string y2) ∧ w'.cell? ⟨b', o' + k * 4 + 2, none⟩ = some (.int .i64 y3) ∧ w'.cell? ⟨b', o' + k * 4 + 3, none⟩ = some (.int .i64 y4)) := fun w' h =>
          ⟨⟨(h.cell (p := ⟨b, _, none⟩) hgl).trans hc1, (h.cell (p := ⟨b, _, none⟩) hgl).trans hc2, (h.cell (p := ⟨b, _, none⟩) hgl).trans hc3, (h.cell (p := ⟨b, _, none⟩) hgl).trans hc4⟩,
           ⟨(h.cell (p := ⟨b', _, none⟩) hgl').trans hd1, (h.cell (p := ⟨b', _, none⟩) hgl').trans hd2, (h.cell (p := ⟨b', _, none⟩) hgl').trans hd3, (h.cell (p := ⟨b', _, none⟩) hgl').trans hd4⟩⟩
        have HALL := Lib.hid hall
        clear hc1 hc2 hc3 hc4 hd1 hd2 hd3 hd4 hall
        obtain ⟨⟨hc1, hc2, hc3, hc4⟩, ⟨hd1, hd2, hd3, hd4⟩⟩ := HALL.out wr hb
        have hA := HALL.out wr hb
        have hA' := HALL.out wr.drew hb.drew
        obtain ⟨f, hf⟩ : ∃ f, decide ((x1, x2, x3, x4) = (y1, y2, y3, y4)) = f := ⟨_, rfl⟩
        have HF := Lib.hid hf
        have HA := Lib.hid hA
        have HA' := Lib.hid hA'
        clear hf hA hA'
        obtain ⟨wq, rfl⟩ : ∃ wq, wq = wr := ⟨_, rfl⟩
        go_wp2_with fail
        go_region_held3 (fun w' => (w'.cell? ⟨b, o + k * 4, none⟩ = some (.string x1) ∧ w'.cell? ⟨b, o + k * 4 + 1, none⟩ = some (.string x2) ∧ w'.cell? ⟨b, o + k * 4 + 2, none⟩ = some (.int .i64 x3) ∧ w'.cell? ⟨b, o + k * 4 + 3, none⟩ = some (.int .i64 x4)) ∧
            (w'.cell? ⟨b', o' + k * 4, none⟩ = some (.string y1) ∧ w'.cell? ⟨b', o' + k * 4 + 1, none⟩ = some (.string y2) ∧ w'.cell? ⟨b', o' + k * 4 + 2, none⟩ = some (.int .i64 y3) ∧ w'.cell? ⟨b', o' + k * 4 + 3, none⟩ = some (.int .i64 y4))) (first | exact HA.out | exact HA'.out | exact HA2.out) ((go_at_call 70; refine (laws_eqUser x1 x2 x3 x4 y1 y2 y3 y4 _).mono ?_; rintro e w2 ⟨rfl, hb2⟩; rw [HF.out]; have hB2 : Below w.heap.size w w2 := hb.trans ((show Below wq.heap.size wq w2 from ⟨hb2.os, hb2.tape, hb2.output, hb2.size, hb2.block⟩).mono hz); have HA2 := Lib.hid (HALL.out w2 hB2)))
        cases f
        case true =>
          have HXY := Lib.hid (of_decide_eq_true HF.out)
          go_wp2_with fail
          go_roundw
          case rel => exact ⟨k + 1, by omega, by go_num, take_snoc_eq _ _ _ _ _ hxx.out hyy.out ht.out HXY.out, hB2⟩
          case measure => simp [intOf]; omega
        case false =>
          have HXY := Lib.hid (of_decide_eq_false HF.out)
          go_wp2_with fail
          go_ret
          exact ⟨ret_bool (decide_eq_false (ne_of_at _ _ _ _ _ hxx.out hyy.out HXY.out)).symm, hB2⟩
      · go_wp2
        go_ret
        have e1 : xs.take k = xs := List.take_of_length_le (by rw [LX.out]; omega)
        have e2 : ys.take k = ys := List.take_of_length_le (by rw [LY.out]; omega)
        have h3 := ht.out
        rw [e1, e2] at h3
        exact ⟨ret_bool (decide_eq_true h3).symm, hb⟩
  · have hne : ((n : Int) != (n' : Int)) = true := by simp; omega
    go_enter Try.func32, Try.ntmps32
    go_wp2
    go_ret
    exact ⟨ret_bool (decide_eq_false (by rintro rfl; omega)).symm, Below.refl _ _⟩
set_option maxHeartbeats 1000000 in
theorem spec_l4Users (A : Option Addr) (n c : Nat) (us : List (ByteArray × ByteArray × Int × Int)) (w : World) (hx : RdU w A n us) (hn : n ≤ 1048576) (hs : ∀ u ∈ us, u.1.size ≤ 1048576 ∧ u.2.1.size ≤ 1048576) :
    Calls Try.prog 64 #[.slice A n c] w fun e w' => e = .returned (.bool (usersB us)) ∧ Below w.heap.size w w' := by
  have HL := Lib.hid hx.len
  have HS := Lib.hid hs
  clear hs
  go_enter Try.func64, Try.ntmps64
  go_wp2_with fail
  go_loopw [3] (fun v wr => ∃ k : Nat, k ≤ n ∧ v = .int .i64 k ∧ Hid ((us.take k).all userU = true) ∧ Below w.heap.size w wr) (fun v _ => n - (intOf v).toNat)
  case atStart => exact ⟨0, Nat.zero_le _, rfl, by show _ = _; simp, Below.refl _ _⟩
  case round =>
    obtain ⟨k, hk, rfl, hall, hb⟩ := hrel
    have hz := hb.size
    by_cases hlt : k < n
    · obtain ⟨b, o, x1, x2, x3, x4, rfl, hgl, hxx, hc1, hc2, hc3, hc4⟩ := hx.at hlt
      replace hc1 := (hb.cell (p := ⟨b, o + k * 4, none⟩) hgl).trans hc1
      replace hc2 := (hb.cell (p := ⟨b, o + k * 4 + 1, none⟩) hgl).trans hc2
      replace hc3 := (hb.cell (p := ⟨b, o + k * 4 + 2, none⟩) hgl).trans hc3
      replace hc4 := (hb.cell (p := ⟨b, o + k * 4 + 3, none⟩) hgl).trans hc4
      have hsz := HS.out _ (List.mem_of_getElem? hxx.out)
      obtain ⟨wo, rfl⟩ : ∃ wo, wo = wr := ⟨_, rfl⟩
      go_wp2_with fail
      refine (spec_UserValid x1 x2 x3 x4 wo (by have := hsz.1; unfold maxLen; exact Nat.le_trans this (by decide)) (by have := hsz.2; unfold maxLen; exact Nat.le_trans this (by decide))).mono ?_
      rintro e w2 ⟨rfl, hb2⟩
      have hB2 := hb.trans (hb2.mono hz)
      obtain ⟨f, hf⟩ : ∃ f, userB x1.data.toList x2.data.toList x3 x4 = f := ⟨_, rfl⟩
      have HF := Lib.hid (show userU (x1, x2, x3, x4) = f from hf)
      rw [hf]
      clear hf hb2 hc1 hc2 hc3 hc4 hsz
      cases f
      · go_wp2_with fail
        go_ret
        exact ⟨ret_bool (by
          have h3 : us.all userU = false := by
            rw [List.all_eq_false]; exact ⟨_, List.mem_of_getElem? hxx.out, by rw [HF.out]; decide⟩
          unfold usersB; rw [h3, Bool.and_false]), hB2⟩
      · go_wp2_with fail
        go_roundw
        case rel => exact ⟨k + 1, by omega, by go_num, by show _ = _; rw [take_add us k _ hxx.out, List.all_append, hall.out]; simp [HF.out], hB2⟩
        case measure => simp [intOf]; omega
    · have hfull : us.all userU = true := by
        have := hall.out
        rwa [List.take_of_length_le (by rw [HL.out]; omega)] at this
      have HFU := Lib.hid hfull
      clear hfull
      go_wp2_with fail
      go_ret
      exact ⟨ret_bool (by unfold usersB; rw [HFU.out, Bool.and_true, HL.out, Bool.eq_iff_iff, decide_eq_true_eq, decide_eq_true_eq]; omega), hb⟩
set_option maxHeartbeats 1000000 in
theorem impl_usersValid (A : Option Addr) (n c : Nat) (us : List (ByteArray × ByteArray × Int × Int)) (w : World) (hx : RdU w A n us) (hn : n ≤ 1048576) (hs : ∀ u ∈ us, u.1.size ≤ 1048576 ∧ u.2.1.size ≤ 1048576) :
    Calls Try.prog 67 #[.slice A n c] w fun e w' => e = .returned (.bool (usersB us)) ∧ Below w.heap.size w w' := by
  have HL := Lib.hid hx.len
  by_cases h8 : 8 < n
  · rw [show usersB us = false by unfold usersB; rw [HL.out, decide_eq_false (by omega)]; rfl]
    go_enter Try.func67, Try.ntmps67
    go_wp2_with fail
    go_ret
    exact ⟨rfl, Below.refl _ _⟩
  · have HU := Lib.hid (show usersB us = us.all userU by unfold usersB; rw [HL.out, decide_eq_true (by omega), Bool.true_and])
    have HS := Lib.hid hs
    clear hs
    go_enter Try.func67, Try.ntmps67
    go_wp2_with fail
    go_loopw [10] (fun v wr => ∃ k : Nat, k ≤ n ∧ v = .int .i64 k ∧ Hid ((us.take k).all userU = true) ∧ Below w.heap.size w wr) (fun v _ => n - (intOf v).toNat)
    case atStart => exact ⟨0, Nat.zero_le _, rfl, by show _ = _; simp, Below.refl _ _⟩
    case round =>
      obtain ⟨k, hk, rfl, hall, hb⟩ := hrel
      have hz := hb.size
      by_cases hlt : k < n
      · obtain ⟨b, o, x1, x2, x3, x4, rfl, hgl, hxx, hc1, hc2, hc3, hc4⟩ := hx.at hlt
        replace hc1 := (hb.cell (p := ⟨b, o + k * 4, none⟩) hgl).trans hc1
        replace hc2 := (hb.cell (p := ⟨b, o + k * 4 + 1, none⟩) hgl).trans hc2
        replace hc3 := (hb.cell (p := ⟨b, o + k * 4 + 2, none⟩) hgl).trans hc3
        replace hc4 := (hb.cell (p := ⟨b, o + k * 4 + 3, none⟩) hgl).trans hc4
        have hsz := HS.out _ (List.mem_of_getElem? hxx.out)
        obtain ⟨wo, rfl⟩ : ∃ wo, wo = wr := ⟨_, rfl⟩
        go_wp2_with fail
        have hb1 : Below w.heap.size w (wo.alloc (.cells #[.string x1, .string x2, .int .i64 x3, .int .i64 x4] 55)) := hb.alloc hz _
        have hz1 := hb1.size
        clear hc1 hc2 hc3 hc4
        generalize wo.alloc (.cells #[.string x1, .string x2, .int .i64 x3, .int .i64 x4] 55) = w1 at *
        refine (impl_UserValid x1 x2 x3 x4 w1 (by have := hsz.1; unfold maxLen; exact Nat.le_trans this (by decide)) (by have := hsz.2; unfold maxLen; exact Nat.le_trans this (by decide))).mono ?_
        rintro e w2 ⟨rfl, hb2⟩
        have hB2 := hb1.trans (hb2.mono hz1)
        obtain ⟨f, hf⟩ : ∃ f, userB x1.data.toList x2.data.toList x3 x4 = f := ⟨_, rfl⟩
        have HF := Lib.hid (show userU (x1, x2, x3, x4) = f from hf)
        rw [hf]
        clear hf hb2 hsz
        cases f
        · go_wp2_with fail
          go_ret
          exact ⟨ret_bool (by
            have h3 : us.all userU = false := by
              rw [List.all_eq_false]; exact ⟨_, List.mem_of_getElem? hxx.out, by rw [HF.out]; decide⟩
            rw [HU.out, h3]), hB2⟩
        · go_wp2_with fail
          go_roundw
          case rel => exact ⟨k + 1, by omega, by go_num, by show _ = _; rw [take_add us k _ hxx.out, List.all_append, hall.out]; simp [HF.out], hB2⟩
          case measure => simp [intOf]; omega
      · have hfull : us.all userU = true := by
          have := hall.out
          rwa [List.take_of_length_le (by rw [HL.out]; omega)] at this
        have HFU := Lib.hid hfull
        clear hfull
        go_wp2_with fail
        go_ret
        exact ⟨ret_bool (by rw [HU.out, HFU.out]), hb⟩

end Go.Proofs.Ytlddefmakjnfdaa
