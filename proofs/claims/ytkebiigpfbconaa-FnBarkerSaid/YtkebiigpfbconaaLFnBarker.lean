/- The walk of the law on Barker codes. Conditions: as the theorem says. -/
import Derived.Test.YtkebiigpfbconaaC15
import Derived.Test.YtkebiigpfbconaaC17
import Derived.Test.YtkebiigpfbconaaDrawB
import Derived.Test.YtkebiigpfbconaaPureY
namespace Go.Proofs.Ytkebiigpfbconaa
open Go.RowKit
set_option linter.unusedSimpArgs false
set_option linter.unusedVariables false
set_option maxRecDepth 100000

/-- Every other one of the first i changed. -/
def altK (l : List UInt8) (i : Nat) : List UInt8 := (List.range l.length).map fun p => if p < i ∧ p % 2 = 1 then flipC (l.getD p 48) else l.getD p 48
theorem altK_len (l : List UInt8) (i : Nat) : (altK l i).length = l.length := by simp [altK]
theorem altK_at (l : List UInt8) (i p : Nat) (h : p < l.length) : (altK l i)[p]? = some (if p < i ∧ p % 2 = 1 then flipC (l.getD p 48) else l.getD p 48) := by simp [altK, h]
theorem altK_one (l : List UInt8) : altK l 1 = l := by
  apply List.ext_getElem?
  intro p
  by_cases h : p < l.length
  · rw [altK_at l 1 p h, if_neg (by omega), getD_some l p h]
  · rw [List.getElem?_eq_none (by rw [altK_len]; omega), List.getElem?_eq_none (by omega)]
theorem altK_end (l : List UInt8) (i : Nat) (h : l.length ≤ i) : altK l i = altL l := by
  apply List.ext_getElem?
  intro p
  by_cases hp : p < l.length
  · rw [altK_at l i p hp, altL_at l p hp]
    by_cases ho : p % 2 = 1
    · rw [if_pos ⟨by omega, ho⟩, if_pos ho]
    · rw [if_neg (fun h => ho h.2), if_neg ho]
  · rw [List.getElem?_eq_none (by rw [altK_len]; omega), List.getElem?_eq_none (by rw [altL_len]; omega)]
theorem altK_step (l : List UInt8) (i : Nat) (hi : i < l.length) (ho : i % 2 = 1) : (altK l i).set i (flipC (l.getD i 48)) = altK l (i + 2) := by
  apply List.ext_getElem?
  intro p
  by_cases hp : p < l.length
  · rw [altK_at l (i + 2) p hp]
    by_cases h1 : p = i
    · subst h1
      rw [List.getElem?_set_self (by rw [altK_len]; omega), if_pos (by omega)]
    · rw [List.getElem?_set_ne (fun e => h1 e.symm), altK_at l i p hp]
      by_cases hc : p < i ∧ p % 2 = 1
      · rw [if_pos hc, if_pos (by omega)]
      · rw [if_neg hc, if_neg (by omega)]
  · rw [List.getElem?_eq_none (by rw [List.length_set, altK_len]; omega), List.getElem?_eq_none (by rw [altK_len]; omega)]
theorem ofL_bark (l : List UInt8) : barkB (ofL l).data.toList = barkB l := by rw [ofL_list]
set_option maxHeartbeats 8000000 in
theorem walk_FnBarker (A0 : Option Addr) (n0 c0 : Nat) (z0 : List Int) (w : World) (h0 : RowIn .u8 w A0 n0 c0 z0) :
    Calls Try.prog 3 #[.slice A0 n0 c0] w fun e w' => e = .returned (.bool true) ∧ Below w.heap.size w w' := by
  by_cases hs0 : 1048576 < n0
  · go_enter Try.func3, Try.ntmps3
    go_wp2
    go_ret
    exact ⟨rfl, Below.refl _ _⟩
  replace hs0 : n0 ≤ 1048576 := by omega
  go_enter Try.func3, Try.ntmps3
  go_wp2_with fail
  refine (spec_DrawBarkerValid _ _ _ _ _ h0).mono ?_
  rintro e w1 ⟨s, rfl, hsz, hB1⟩
  clear h0
  have hS1 := hB1.size
  have hsm : s.size ≤ maxLen := by unfold maxLen; omega
  obtain ⟨b, hb⟩ : ∃ b, barkB s.data.toList = b := ⟨_, rfl⟩
  cases hq : seqB s.data.toList
  · have hbf : b = false := by rw [← hb, barkB_no _ hq]
    subst hbf
    have HQ := Lib.hid hq
    have HBK := Lib.hid hb
    clear hq hb
    go_wp2_with (first
      | (go_at_call 9; refine (impl_BarkerValid _ _ hsm).mono ?_; rintro e w' ⟨rfl, m, rfl⟩; rw [HBK.out])
      | (go_at_call 10; refine (spec_BarkerValid _ _ hsm).mono ?_; rintro e w' ⟨rfl, m, rfl⟩; rw [HBK.out])
      | (go_at_call 11; refine (impl_SequenceValid _ _ hsm).mono ?_; rintro e w' ⟨rfl, rfl⟩; rw [HQ.out]))
    go_ret
    exact ⟨rfl, by first | exact hB1 | exact below_drewN hB1 _⟩
  · have hz := seqB_bd s hq
    have hbits : s.data.toList.all isBit = true := by unfold seqB at hq; exact (Bool.and_eq_true _ _ ▸ hq).2
    have h1 := bark_rev _ hbits
    have h2 := bark_flip _ hbits
    have h3 := bark_alt _ hbits
    have h4 := goodB_end _ hq
    rw [hb] at h1 h2 h3 h4
    rw [len_data] at h4
    have HR := Lib.hid h1
    have HF := Lib.hid h2
    have HA := Lib.hid h3
    have HG := Lib.hid h4
    have HQ := Lib.hid hq
    have HBK := Lib.hid hb
    have HBITS := Lib.hid hbits
    clear h1 h2 h3 h4 hq hb hbits
    have hrev := fun w => impl_ReverseBits s w HQ.out
    have hinv := fun w => impl_InvertBits s w HQ.out
    have HREV := Lib.hid hrev
    have HINV := Lib.hid hinv
    clear hrev hinv
    go_wp2_with (first
      | (go_at_call 9; refine (impl_BarkerValid _ _ hsm).mono ?_; rintro e w' ⟨rfl, m, rfl⟩; rw [HBK.out])
      | (go_at_call 10; refine (spec_BarkerValid _ _ hsm).mono ?_; rintro e w' ⟨rfl, m, rfl⟩; rw [HBK.out])
      | (go_at_call 11; refine (impl_SequenceValid _ _ hsm).mono ?_; rintro e w' ⟨rfl, rfl⟩; rw [HQ.out]))
    refine (HREV.out _).mono ?_
    rintro e w2 ⟨x, rfl, hx, hb2⟩
    have hax : barkB x.data.toList = b := by rw [hx]; exact HR.out
    have hxs : x.size ≤ maxLen := by rw [str_size hx, List.length_reverse, len_data]; exact hsm
    have hbx : ∀ w, Calls Try.prog 9 #[.string x] w (RetD (.bool b) w) := fun w => by
      have := impl_BarkerValid x w hxs
      rwa [hax] at this
    have HAX := Lib.hid hbx
    have hB2 := (below_drewN hB1 _).trans (hb2.mono (by first | exact hS1 | exact (below_drewN hB1 _).size))
    have hS2 := hB2.size
    clear hx hb2 hax hxs hbx
    go_wp2_with fail
    refine (HINV.out _).mono ?_
    rintro e w3 ⟨y, rfl, hy, hb3⟩
    have hay : barkB y.data.toList = b := by rw [hy]; exact HF.out
    have hys : y.size ≤ maxLen := by rw [str_size hy, List.length_map, len_data]; exact hsm
    have hby' : ∀ w, Calls Try.prog 9 #[.string y] w (RetD (.bool b) w) := fun w => by
      have := impl_BarkerValid y w hys
      rwa [hay] at this
    have HAY := Lib.hid hby'
    have hB3 := hB2.trans (hb3.mono hS2)
    have hS3 := hB3.size
    clear hy hb3 hB2 hS2 hay hys hby'
    have hcv := Lib.run_convert_string_bytes (P := Try.prog) w3 9 22 5 s Try.underlying9 Try.underlying22 Try.underlying5
    have hby := bytesWorld_byR w3 5 s
    have hbw := bytesWorld_below w3 5 s
    generalize Lib.bytesWorld w3 5 s = w4 at hcv hby hbw
    generalize grownCap w3 s.size 0 5 = cap at hcv
    have hB4 := hB3.trans (hbw.mono hS3)
    have hS4 := hB4.size
    have HBY := Lib.hid hby
    clear hby hbw
    go_wp2_with fail
    go_loopw [10] (fun v wr => ∃ i : Nat, v = .int .i64 i ∧ i % 2 = 1 ∧ i ≤ s.size + 1 ∧ ByR wr w3.heap.size (altK s.data.toList i) ∧ Below w.heap.size w wr) (fun v _ => s.size + 2 - (intOf v).toNat)
    case atStart => exact ⟨1, rfl, rfl, by omega, by rw [altK_one]; exact HBY.out, hB4⟩
    case round =>
      obtain ⟨i, rfl, hodd, hi, hr, hb⟩ := hrel
      by_cases hlt : i < s.size
      · have hil : i < s.data.toList.length := by rw [len_data]; exact hlt
        have hxi : (altK s.data.toList i)[i]? = some (s.data.toList.getD i 48) := by rw [altK_at _ i i hil, if_neg (by omega)]
        have hbit := (bit_getD s.data.toList i HBITS.out hil).2
        have hst := altK_step s.data.toList i hil hodd
        obtain ⟨x, hx⟩ : ∃ x, s.data.toList.getD i 48 = x := ⟨_, rfl⟩
        rw [hx] at hxi hbit hst
        have hisb : isBit x = true := by rcases hbit with rfl | rfl <;> rfl
        have hfl := flip_bit _ hisb
        have hn := bit_toNat _ hisb
        have hc := hr.cell i x hxi
        have hf := hr.open_ i (by rw [altK_len]; exact hil)
        have hs := hr.set i (flipC x) (by rw [altK_len]; exact hil)
        rw [hst] at hs
        have HS := Lib.hid hs
        have HFL := Lib.hid hfl
        have hBs := Lib.hid (fun u => hb.setCell (p := ⟨w3.heap.size, i, none⟩) hS3 u)
        clear hr hxi hst hx hs hfl hisb hil hbit hb
        go_wp2_with fail
        go_roundw
        case rel =>
          rw [show (97 : Int) - (x.toNat : Int) = ((flipC x).toNat : Int) from HFL.out]
          exact ⟨i + 2, by go_num, by omega, by omega, HS.out, hBs.out _⟩
        case measure => simp [intOf] <;> omega
      · have hend := altK_end s.data.toList i (by rw [len_data]; omega)
        rw [hend] at hr
        have d0 : decide ((i : Int) < (s.size : Int)) = false := decide_eq_false (by omega)
        obtain ⟨w5, rfl⟩ : ∃ w5, w5 = wr := ⟨_, rfl⟩
        obtain ⟨z, hz'⟩ : ∃ z : ByteArray, (⟨(altL s.data.toList).toArray⟩ : ByteArray) = z := ⟨_, rfl⟩
        have hzl : z.data.toList = altL s.data.toList := by rw [← hz']
        have hcv2 : ∀ d, (convert 22 9 (.slice (some ⟨w3.heap.size, 0, none⟩) s.size cap)).run Try.prog (w5.drewN d) = .ok (.string z) (w5.drewN d) := fun d => by
          have := byR_string (P := Try.prog) (src := 22) (dst := 9) (c := cap) (hr.drewN d) Try.underlying22 Try.underlying5 Try.underlying9
          rwa [altL_len, len_data, hz'] at this
        have haz : ∀ w, Calls Try.prog 9 #[.string z] w (RetD (.bool b) w) := fun w => by
          have := impl_BarkerValid z w (by rw [str_size hzl, altL_len, len_data]; exact hsm)
          rwa [hzl, HA.out] at this
        have HAZ := Lib.hid haz
        have HCV := Lib.hid hcv2
        have HB5 := Lib.hid hb
        clear hr hend haz hcv2 hb hcv hi hodd hz' hzl
        go_wp2_with fail
        go_loopw [11, 12] (fun gb v wr => ∃ (k d : Nat), 1 ≤ k ∧ k ≤ s.size ∧ v = .int .i64 k ∧ gb = .bool (goodB s.data.toList k) ∧ wr = w5.drewN d) (fun _ v _ => s.size - (intOf v).toNat)
        case atStart => exact ⟨1, 0, by omega, by omega, rfl, rfl, rfl⟩
        case round =>
          obtain ⟨k, d, hk1, hk, rfl, rfl, rfl⟩ := hrel
          by_cases hlt2 : k < s.size
          · have hstep := goodB_step s.data.toList k
            have hat := barkAt_within s.data.toList k hk1
            have hap := fun w => impl_AperiodicOf s k w hsm hlt2 HQ.out
            obtain ⟨c, hc⟩ : ∃ c, aperC s.data.toList k = c := ⟨_, rfl⟩
            rw [hc] at hat hap
            rw [hat] at hstep
            obtain ⟨gb, hgb⟩ : ∃ gb, goodB s.data.toList k = gb := ⟨_, rfl⟩
            rw [hgb] at hstep ⊢
            have HAP := Lib.hid hap
            clear hat hap hc hgb
            cases gb
            · have HST := Lib.hid hstep
              clear hstep
              go_wp2_with (go_at_call 14; refine (HAP.out _).mono ?_; rintro e w' ⟨rfl, m, rfl⟩)
              go_roundw
              case rel => exact ⟨k + 1, _, by omega, by omega, by go_num, by rw [HST.out]; rfl, rfl⟩
              case measure => simp [intOf] <;> omega
            · by_cases h1 : -1 ≤ c
              · have d1 : decide ((-1 : Int) ≤ c) = true := decide_eq_true h1
                by_cases h2 : c ≤ 1
                · have d2 : decide (c ≤ 1) = true := decide_eq_true h2
                  rw [(within_iff _ _ _).2 ⟨h1, h2⟩] at hstep
                  have HST := Lib.hid hstep
                  clear hstep h1 h2
                  go_wp2_with (go_at_call 14; refine (HAP.out _).mono ?_; rintro e w' ⟨rfl, m, rfl⟩)
                  go_roundw
                  case rel => exact ⟨k + 1, _, by omega, by omega, by go_num, by rw [HST.out]; rfl, rfl⟩
                  case measure => simp [intOf] <;> omega
                · have d2 : decide (c ≤ 1) = false := decide_eq_false h2
                  rw [within_no _ _ _ (by omega)] at hstep
                  have HST := Lib.hid hstep
                  clear hstep h1 h2
                  go_wp2_with (go_at_call 14; refine (HAP.out _).mono ?_; rintro e w' ⟨rfl, m, rfl⟩)
                  go_roundw
                  case rel => exact ⟨k + 1, _, by omega, by omega, by go_num, by rw [HST.out]; rfl, rfl⟩
                  case measure => simp [intOf] <;> omega
              · have d1 : decide ((-1 : Int) ≤ c) = false := decide_eq_false h1
                rw [within_no _ _ _ (by omega)] at hstep
                have HST := Lib.hid hstep
                clear hstep h1
                go_wp2_with (go_at_call 14; refine (HAP.out _).mono ?_; rintro e w' ⟨rfl, m, rfl⟩)
                go_roundw
                case rel => exact ⟨k + 1, _, by omega, by omega, by go_num, by rw [HST.out]; rfl, rfl⟩
                case measure => simp [intOf] <;> omega
          · obtain rfl : k = s.size := by omega
            rw [HG.out]
            have hbb : (b == b) = true := by simp
            go_wp2_with fail
            refine (HAX.out _).mono ?_
            rintro e w' ⟨rfl, m, rfl⟩
            go_wp2_with fail
            refine (HAY.out _).mono ?_
            rintro e w' ⟨rfl, m2, rfl⟩
            have hcv2 := HCV.out (d + m + m2)
            go_wp2_with fail
            refine (HAZ.out _).mono ?_
            rintro e w' ⟨rfl, m3, rfl⟩
            clear hcv2
            go_wp2_with fail
            go_ret
            exact ⟨rfl, below_drewN HB5.out _⟩

end Go.Proofs.Ytkebiigpfbconaa
