/- What the program's functions on sequences give back: shifted by any number, with all bits changed, every k-th bit, and the shift between two. Conditions: as each theorem says. -/
import Derived.Test.YtkebiigpfbconaaR8
namespace Go.Proofs.Ytkebiigpfbconaa
open Go.RowKit
set_option linter.unusedSimpArgs false
set_option linter.unusedVariables false
set_option maxRecDepth 100000

set_option maxHeartbeats 1000000 in
theorem impl_ShiftBits_any (s : ByteArray) (k : Nat) (w : World) (hs : seqB s.data.toList = true) (hk : k ≤ 1048576) :
    Calls Try.prog 58 #[.string s, .int .i64 k] w fun e w' => ∃ (t : ByteArray) (m : Nat), e = .returned (.tuple #[.string t, .bool true]) ∧ t.data.toList = rotL s.data.toList (k % s.size) ∧ w' = w.drewN m := by
  have hb := seqB_bd s hs
  have HS := Lib.hid hs
  clear hs
  have hr : k % s.size < s.size := Nat.mod_lt _ (by omega)
  obtain ⟨r, hrk⟩ : ∃ r, k % s.size = r := ⟨_, rfl⟩
  rw [hrk] at hr ⊢
  have HM := Lib.hid hrk
  clear hrk
  go_enter Try.func58, Try.ntmps58
  go_wp2_with (first
    | (go_at_call 11; refine (impl_SequenceValid _ _ (by unfold maxLen; omega)).mono ?_; rintro e w' ⟨rfl, rfl⟩; rw [HS.out])
    | (go_at_call 86; refine (impl_modulo k s.size _ (by omega) (by omega) (by omega)).mono ?_; rintro e w' ⟨rfl, rfl⟩; rw [HM.out]))
  go_quiet (fail)
  go_wp2
  go_ret2
  refine ⟨_, _, rfl, ?_, rfl⟩
  rw [str_app (l := s.data.toList.drop r) (m := s.data.toList.take r) ?_ ?_]; rfl
  · rw [← ByteArray.toList_eq, Lib.extract_toList, List.take_of_length_le (by rw [List.length_drop, len_data]; exact Nat.le_refl _)]
  · rw [← ByteArray.toList_eq]; exact extract0_list s r
set_option maxHeartbeats 400000 in
theorem laws_ssShift_any (s : ByteArray) (k : Nat) (w : World) (hs : seqB s.data.toList = true) (hk : k ≤ 1048576) :
    Calls Try.prog 19 #[.string s, .int .i64 k] w fun e w' => e = .returned (.string (ofL (rotL s.data.toList (k % s.size)))) ∧ Below w.heap.size w w' := by
  go_enter Try.func19, Try.ntmps19
  go_wp2_with fail
  refine (impl_ShiftBits_any s k w hs hk).mono ?_
  rintro e w1 ⟨t, m, rfl, ht, hw⟩
  obtain rfl := eq_ofL ht
  go_wp2_with fail
  go_ret
  exact ⟨rfl, by first | exact below_drewN (Below.refl _ _) m | (rw [hw]; exact below_drewN (Below.refl _ _) m)⟩
set_option maxHeartbeats 400000 in
theorem impl_InvertBits (s : ByteArray) (w : World) (hs : seqB s.data.toList = true) :
    Calls Try.prog 13 #[.string s] w (RetStrB (s.data.toList.map flipC) true w) := by
  have h1 := seqB_bd s hs
  have HS := Lib.hid hs
  clear hs
  go_enter Try.func13, Try.ntmps13
  go_wp2_with (first
    | (go_at_call 11; refine (impl_SequenceValid _ _ (by unfold maxLen; omega)).mono ?_; rintro e w' ⟨rfl, rfl⟩; rw [HS.out])
    | (go_at_call 50; refine (impl_changedBits s _ (by omega) (by have := HS.out; simp only [seqB, Bool.and_eq_true] at this; exact this.2)).mono ?_; rintro e w2 ⟨u, rfl, hu, hb⟩; have HU := Lib.hid hu; have HB2 := Lib.hid hb; clear hu hb))
  go_ret2
  exact ⟨u, rfl, HU.out, HB2.out⟩
set_option maxHeartbeats 400000 in
theorem impl_AutoOf_any (s : ByteArray) (k : Nat) (w : World) (hs : seqB s.data.toList = true) (hk : k ≤ 1048576) :
    Calls Try.prog 24 #[.string s, .int .i64 k] w (RetD (.tuple #[.int .i64 (corL s.data.toList s.data.toList (k % s.size)), .bool true]) w) := by
  have h1 := seqB_bd s hs
  have HB := Lib.hid (show (seqB s.data.toList && seqB s.data.toList && (s.size == s.size)) = true by rw [hs]; simp)
  have hr : k % s.size < s.size := Nat.mod_lt _ (by omega)
  obtain ⟨r, hrk⟩ : ∃ r, k % s.size = r := ⟨_, rfl⟩
  rw [hrk] at hr ⊢
  have HM := Lib.hid hrk
  clear hs hrk
  have hcross : ∀ w, Calls Try.prog 64 #[.string s, .string s, .int .i64 k] w (RetD (.tuple #[.int .i64 (corL s.data.toList s.data.toList r), .bool true]) w) := fun w => by
    go_enter Try.func64, Try.ntmps64
    go_wp2_with (first
      | (go_at_call 53; refine (impl_sequencesValid _ _ _ (by omega) (by omega)).mono ?_; rintro e w' ⟨rfl, rfl⟩; rw [HB.out])
      | (go_at_call 86; refine (impl_modulo k s.size _ (by omega) (by omega) (by omega)).mono ?_; rintro e w' ⟨rfl, rfl⟩; rw [HM.out])
      | (go_at_call 55; refine (impl_correlation s s r _ (by omega) rfl hr).mono ?_; rintro e w' ⟨rfl, m, rfl⟩))
    go_ret2
    exact ⟨rfl, _, rfl⟩
  have HC := Lib.hid hcross
  clear hcross
  go_enter Try.func24, Try.ntmps24
  go_wp2_with (go_at_call 64; refine (HC.out _).mono ?_; rintro e w' ⟨rfl, m, rfl⟩)
  go_ret2
  exact ⟨rfl, _, rfl⟩
/-- Every k-th bit. -/
def decL (s : List UInt8) (k : Nat) : List UInt8 := (List.range s.length).map fun i => s.getD (k * i % s.length) 48
theorem decL_len (s : List UInt8) (k : Nat) : (decL s k).length = s.length := by simp [decL]
theorem decL_at (s : List UInt8) (k i : Nat) (h : i < s.length) : (decL s k)[i]? = some (s.getD (k * i % s.length) 48) := by simp [decL, h]
theorem data_getD (s : ByteArray) (i : Nat) (h : i < s.size) : s.data.toList.getD i 48 = s[i] := by
  rw [List.getD_eq_getElem?_getD, data_at s i h]; rfl
theorem decL_bits (s : List UInt8) (k : Nat) (hb : s.all isBit = true) : (decL s k).all isBit = true := by
  rw [List.all_eq_true]
  intro c hc
  obtain ⟨i, hi, rfl⟩ := List.mem_map.1 hc
  have hl := List.mem_range.1 hi
  have hm : k * i % s.length < s.length := Nat.mod_lt _ (by omega)
  rw [List.getD_eq_getElem?_getD, List.getElem?_eq_getElem hm]
  exact List.all_eq_true.1 hb _ (List.getElem_mem hm)
set_option maxHeartbeats 1000000 in
theorem impl_DecimateBits (s : ByteArray) (k : Nat) (w : World) (hs : seqB s.data.toList = true) (hk : k ≤ 255) :
    Calls Try.prog 37 #[.string s, .int .i64 k] w (RetStrB (decL s.data.toList k) true w) := by
  have h1 := seqB_bd s hs
  have HS := Lib.hid hs
  clear hs
  have d1 : decide ((k : Int) < 0) = false := decide_eq_false (by omega)
  have d2 : decide ((255 : Int) < (k : Int)) = false := decide_eq_false (by omega)
  have hmk := run_make_row' (P := Try.prog) 22 5 (.int .u8 0) 1 Try.underlying22 Try.infoU8 rfl .i64 .i64 s.size (by omega) (by omega)
  go_enter Try.func37, Try.ntmps37
  go_wp2_with (go_at_call 11; refine (impl_SequenceValid _ _ (by unfold maxLen; omega)).mono ?_; rintro e w' ⟨rfl, rfl⟩; rw [HS.out])
  clear hmk
  go_loopw [24] (fun v wr => ∃ j : Nat, j ≤ s.size ∧ v = .int .i64 j ∧ wr.ownsRow w.heap.size 5 1 (.slice (some ⟨w.heap.size, 0, none⟩) s.size s.size) s.size (Fill (bytes (decL s.data.toList k)) (.int .u8 0) j) ∧ Below w.heap.size w wr) (fun v _ => s.size - (intOf v).toNat)
  case atStart => exact ⟨0, Nat.zero_le _, rfl, by rw [fill_zero, bytes_len, decL_len, len_data]; exact own_made _ _ _ _ (by unfold maxLen; omega), (Below.refl _ _).alloc (Nat.le_refl _) _⟩
  case round =>
    obtain ⟨j, hj, rfl, ho, hb⟩ := hrel
    by_cases hlt : j < s.size
    · have hc := ho.cellAt j (by omega)
      rw [fill_at _ _ _ (by rw [bytes_len, decL_len, len_data]; exact hlt)] at hc
      have hf := ho.frozenAt j
      have HO := Lib.hid ho
      clear ho
      have hkj : k * j ≤ 255 * 255 := Nat.mul_le_mul hk (by omega)
      obtain ⟨q, hq⟩ : ∃ q, k * j = q := ⟨_, rfl⟩
      have hm : q % s.size < s.size := Nat.mod_lt _ (by omega)
      obtain ⟨r, hr⟩ : ∃ r, q % s.size = r := ⟨_, rfl⟩
      have hat := decL_at s.data.toList k j (by rw [len_data]; exact hlt)
      rw [len_data, hq, hr, data_getD s r (by omega)] at hat
      have HAT := Lib.hid hat
      rw [hr] at hm
      have hmul : IntKind.i64.wrap ((k : Int) * (j : Int)) = (q : Int) := by rw [← Int.natCast_mul, hq, IntWalk.i64_in _ ⟨by omega, by omega⟩]
      have hrem : (q : Int).tmod (s.size : Int) = (r : Int) := by rw [Int.tmod_eq_emod_of_nonneg (by omega), ← hr]; rfl
      have hz1 : ((s.size : Int) == 0) = false := beq_eq_false_iff_ne.2 (by omega)
      have hz2 : ¬ (s.size : Int) = 0 := by omega
      clear hat hq hkj
      go_wp2_with fail
      go_roundw
      case rel =>
        have hs := HO.out.stored j (.int .u8 (s[r].toNat : Int))
        rw [fill_set _ _ _ _ (bytes_at _ _ _ HAT.out)] at hs
        exact ⟨j + 1, by omega, by go_num, hs.1, hb.setCell (Nat.le_refl _) _⟩
      case measure => simp [intOf]; omega
    · rw [fill_full _ _ _ (by rw [bytes_len, decL_len, len_data]; omega)] at ho
      have hcv := own_string (P := Try.prog) (src := 22) (dst := 9) _ Try.underlying22 Try.underlying5 Try.underlying9 ho
      go_wp2
      go_ret2
      exact ⟨_, rfl, rfl, hb⟩

end Go.Proofs.Ytkebiigpfbconaa
