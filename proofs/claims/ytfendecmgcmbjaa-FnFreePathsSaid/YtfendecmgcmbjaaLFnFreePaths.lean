/- The walk of the law FnFreePaths. Conditions: as the theorem says. -/
import Derived.Test.YtfendecmgcmbjaaC7
import Derived.Test.YtfendecmgcmbjaaDrawT
import Derived.Test.YtfendecmgcmbjaaPureT
namespace Go.Proofs.Ytfendecmgcmbjaa
open Go.RowKit
set_option linter.unusedSimpArgs false
set_option linter.unusedVariables false

set_option maxHeartbeats 2000000 in
theorem walk_FnFreePaths (A : Option Addr) (n c : Nat) (zs : List Int) (w : World) (hx : RowIn .u8 w A n c zs) :
    Calls Try.prog 7 #[.slice A n c] w fun e w' => e = .returned (.bool true) ∧ Below w.heap.size w w' := by
  by_cases hbig_n : 1048576 < n
  · clear hx
    go_enter Try.func7, Try.ntmps7
    go_wp2
    go_ret
    exact ⟨rfl, Below.refl _ _⟩
  replace hbig_n : n ≤ 1048576 := by omega
  have hB0 : Below w.heap.size w w := Below.refl _ _
  go_enter Try.func7, Try.ntmps7
  go_wp2_with fail
  refine (spec_DrawFreePaths _ _ _ _ _ hx).mono ?_
  rintro e w1 ⟨As, ns, cs, ss, z, rfl, ho, hn1, hsz, hb⟩
  have Os := Lib.hid ho
  clear ho
  have hS1 := hb.size
  have hB1 : Below w.heap.size w w1 := hB0.trans (hb.mono hB0.size)
  clear hb
  clear hx
  have HSZ := Lib.hid hsz
  clear hsz
  go_wp2_with fail
  rcases freeC_ways (lists ss) z with h | ⟨d, rfl, hd, hl70, hall, hu, h⟩
  · 
    refine (impl_FreePaths _ _ _ ss z _ (own_rdS Os.out) (by omega) (fun s hs => by have := HSZ.out s hs; omega)).mono ?_
    rw [h]
    rintro e w2 ⟨rfl, hb⟩
    have Cs_2 := Lib.hid (own_below Os.out hb)
    have hS2 := hb.size
    have hB2 : Below w.heap.size w w2 := hB1.trans (hb.mono hB1.size)
    clear hb
    go_wp2_with fail
    refine (spec_FreePaths _ _ _ ss z _ (own_rdS Cs_2.out) (by omega) (fun s hs => by have := HSZ.out s hs; omega)).mono ?_
    rw [h]
    rintro e w3 ⟨rfl, hb⟩
    have Cs_3 := Lib.hid (own_below Cs_2.out hb)
    clear Cs_2
    have hS3 := hb.size
    have hB3 : Below w.heap.size w w3 := hB2.trans (hb.mono hB2.size)
    clear hb
    go_wp2_with fail
    refine (spec_FreePaths _ _ _ ss z _ (own_rdS Cs_3.out) (by omega) (fun s hs => by have := HSZ.out s hs; omega)).mono ?_
    rw [h]
    rintro e w4 ⟨rfl, hb⟩
    have Cs_4 := Lib.hid (own_below Cs_3.out hb)
    clear Cs_3
    have hS4 := hb.size
    have hB4 : Below w.heap.size w w4 := hB3.trans (hb.mono hB3.size)
    clear hb
    go_wp2_with fail
    go_ret
    exact ⟨rfl, hB4⟩
  · have h2 := free_twice (lists ss) d
    have h3 := free_equal (lists ss) d
    have h4 := free_le (lists ss) d
    have hP : 2 ^ d ≤ 64 := by have h5 : 2 ^ d ≤ 2 ^ 6 := Nat.pow_le_pow_right (by omega) hd; exact h5
    have h5 := free_le (lists ss) (d + 1)
    rw [Nat.pow_succ] at h5
    have HNX := Lib.hid (fun h6 : d + 1 ≤ 6 => freeC_mk (lists ss) (d + 1) h6 hl70 hall)
    have HNO := Lib.hid (freeC_mk [] d hd (by simp) rfl)
    rw [free_none] at HNO
    obtain ⟨P, hPe⟩ : ∃ P, 2 ^ d = P := ⟨_, rfl⟩
    have hW1 := wrap_pow d (by omega)
    rw [hPe] at h4 h5 hP HNO hW1
    have HW1 := Lib.hid hW1
    generalize (freeL (lists ss) d).length = N at *
    generalize (freeL (lists ss) (d + 1)).length = M at *
    have H := Lib.hid h
    have H3 := Lib.hid h3
    clear h h3 hl70 hall hu hPe hW1
    refine (impl_FreePaths _ _ _ ss d _ (own_rdS Os.out) (by omega) (fun s hs => by have := HSZ.out s hs; omega)).mono ?_
    rw [H.out]
    rintro e w2 ⟨rfl, hb⟩
    have Cs_2 := Lib.hid (own_below Os.out hb)
    have hS2 := hb.size
    have hB2 : Below w.heap.size w w2 := hB1.trans (hb.mono hB1.size)
    clear hb
    go_wp2_with fail
    refine (spec_FreePaths _ _ _ ss d _ (own_rdS Cs_2.out) (by omega) (fun s hs => by have := HSZ.out s hs; omega)).mono ?_
    rw [H.out]
    rintro e w3 ⟨rfl, hb⟩
    have Cs_3 := Lib.hid (own_below Cs_2.out hb)
    clear Cs_2
    have hS3 := hb.size
    have hB3 : Below w.heap.size w w3 := hB2.trans (hb.mono hB2.size)
    clear hb
    by_cases hd6 : d = 6
    · subst hd6
      go_wp2_with fail
      refine (spec_FreePaths _ _ _ ss ((6 : Nat) : Int) _ (own_rdS Cs_3.out) (by omega) (fun s hs => by have := HSZ.out s hs; omega)).mono ?_
      rw [H.out]
      rintro e w4 ⟨rfl, hb⟩
      have Cs_4 := Lib.hid (own_below Cs_3.out hb)
      clear Cs_3
      have hS4 := hb.size
      have hB4 : Below w.heap.size w w4 := hB3.trans (hb.mono hB3.size)
      clear hb
      go_wp2_with fail
      go_ret
      exact ⟨rfl, hB4⟩
    · have e6 : ((d : Int) == 6) = false := beq_eq_false_iff_ne.2 (by omega)
      go_wp2_with fail
      rw [show ((d : Int) + 1) = ((d + 1 : Nat) : Int) from rfl]
      refine (impl_FreePaths _ _ _ ss ((d + 1 : Nat) : Int) _ (own_rdS Cs_3.out) (by omega) (fun s hs => by have := HSZ.out s hs; omega)).mono ?_
      rw [HNX.out (by omega)]
      rintro e w4 ⟨rfl, hb⟩
      have Cs_4 := Lib.hid (own_below Cs_3.out hb)
      clear Cs_3
      have hS4 := hb.size
      have hB4 : Below w.heap.size w w4 := hB3.trans (hb.mono hB3.size)
      clear hb
      go_wp2_with fail
      refine (impl_FreePaths none 0 0 [] d _ (rowStr_nil _).1 (by omega) (fun s hs => absurd hs List.not_mem_nil)).mono ?_
      rw [show lists [] = [] from rfl, HNO.out]
      rintro e w5 ⟨rfl, hb⟩
      have Cs_5 := Lib.hid (own_below Cs_4.out hb)
      clear Cs_4
      have hS5 := hb.size
      have hB5 : Below w.heap.size w w5 := hB4.trans (hb.mono hB4.size)
      clear hb
      go_wp2_with fail
      go_loopw [8, 9] (fun f v wr => ∃ i : Nat, i ≤ ns ∧ v = .int .i64 i ∧ f = .bool ((ss.take i).all fun s => decide (s.size ≤ d)) ∧ w5 = wr) (fun _ v _ => ns - (intOf v).toNat)
      case atStart => exact ⟨0, Nat.zero_le _, rfl, rfl, rfl⟩
      case round =>
        obtain ⟨i, hi, rfl, rfl, rfl⟩ := hrel
        by_cases hlt : i < ns
        · obtain ⟨b, o, x, rfl, hbl, hxx, hcx⟩ := RdS.at (own_rdS Cs_5.out) hlt
          have hxs := HSZ.out x (List.mem_of_getElem? hxx.out)
          have hta := take_add _ _ _ hxx.out
          have HTA := Lib.hid hta
          clear hta
          cases hf : (ss.take i).all fun s => decide (s.size ≤ d)
          · have HF := Lib.hid hf
            clear hf
            go_wp2_with fail
            go_roundw
            case rel => exact ⟨i + 1, by omega, by go_num, by rw [HTA.out, List.all_append, HF.out]; rfl, trivial⟩
            case measure => simp [intOf] <;> omega
          · have HF := Lib.hid hf
            clear hf
            by_cases hxd : x.size ≤ d
            · have e1 : decide (x.size ≤ d) = true := decide_eq_true hxd
              go_wp2_with fail
              go_roundw
              case rel => exact ⟨i + 1, by omega, by go_num, by rw [HTA.out, List.all_append, HF.out]; simp [hxd], trivial⟩
              case measure => simp [intOf] <;> omega
            · have e1 : decide (x.size ≤ d) = false := decide_eq_false hxd
              go_wp2_with fail
              go_roundw
              case rel => exact ⟨i + 1, by omega, by go_num, by rw [HTA.out, List.all_append, HF.out]; simp [hxd], trivial⟩
              case measure => simp [intOf] <;> omega
        · obtain rfl : i = ns := by omega
          rw [List.take_of_length_le (by rw [(own_rdS Cs_5.out).len]; exact Nat.le_refl _)]
          have d1 : decide (2 * (N : Int) ≤ (M : Int)) = true := decide_eq_true (by omega)
          have d2 : decide (N ≤ P) = true := decide_eq_true h4
          have hwn : wrap64 (2 * (N : Int)) = 2 * (N : Int) := IntWalk.wrap64_in _ ⟨by omega, by omega⟩
          have hw1 := HW1.out
          have hw2 : wrap64 ((2 : Int) ^ (d : Int).toNat) = (P : Int) := by rw [Int.toNat_natCast]; exact hw1
          clear hP h4 h5 h2
          cases hf : ss.all fun s => decide (s.size ≤ d)
          · clear H3
            go_wp2_with fail
            go_ret
            exact ⟨rfl, hB5⟩
          · have h3 := H3.out (fun q hq => by
              obtain ⟨s, hs, rfl⟩ := List.mem_map.1 hq
              have h6 := List.all_eq_true.1 hf s hs
              rw [len_data]
              exact of_decide_eq_true h6)
            subst h3
            go_wp2_with fail
            go_ret
            exact ⟨rfl, hB5⟩

end Go.Proofs.Ytfendecmgcmbjaa
