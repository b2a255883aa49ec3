/- What the functions of chapter 4 that make a slice or a string in one loop give back, in the program and in the reference. Conditions: as each theorem says. -/
import Derived.Test.YtlddefmakjnfdaaC4
namespace Go.Proofs.Ytlddefmakjnfdaa
open Go.RowKit
set_option linter.unusedSimpArgs false
set_option linter.unusedVariables false

theorem clip_if1 (m x : Int) (h : 0 ≤ m) : (if m < if x < -m then -m else x then m else if x < -m then -m else x) = clipI m x := by
  unfold clipI; split <;> split <;> omega
theorem clip_if2 (m x : Int) : (if -m < if x < m then x else m then if x < m then x else m else -m) = clipI m x := by
  unfold clipI; split <;> split <;> omega

set_option maxHeartbeats 400000 in
theorem impl_ClipSignal (A : Option Addr) (n c : Nat) (zs : List Int) (m : Int) (w : World) (hx : RdI .i64 w A n zs) (hn : n ≤ maxLen) :
    Calls Try.prog 47 #[.slice A n c, .int .i64 m] w (RetIB 3 (clipC zs m).1 (clipC zs m).2 w) := by
  have hcs := sig_cases zs 0 1000000 m (zs.map (clipI m), true) ([], false)
  rw [← clipC] at hcs
  rcases hcs with ⟨h1, h⟩ | ⟨h1, h2, h3, h⟩ | ⟨h1, h2, h3, h4, h⟩ | ⟨h1, h2, h3, h4, h⟩
  iterate 3
    · rw [h]
      clear h
      go_enter Try.func47, Try.ntmps47
      go_wp2_with ((go_at_call 56; refine (impl_SignalValid _ _ _ _ _ hx hn).mono ?_; rintro e w' ⟨rfl, rfl⟩))
      go_ret2
      exact retIB_nil _ _
  · rw [h]
    clear h
    have lx := hx.len
    subst lx
    have hsz := (sig_bd zs h1).1
    have hmk := run_make_row' (P := Try.prog) 22 3 (.int .i64 0) 8 Try.underlying22 Try.infoI64 rfl .i64 .i64 zs.length (by omega) (by omega)
    have d1 : decide (m < 0) = false := by simp; omega
    have d2 : decide (1000000 < m) = false := by simp; omega
    go_enter Try.func47, Try.ntmps47
    go_wp2_with ((go_at_call 56; refine (impl_SignalValid _ _ _ _ _ hx hn).mono ?_; rintro e w' ⟨rfl, rfl⟩))
    clear hmk d1 d2
    go_loopw [25] (fun v wr => ∃ k : Nat, k ≤ zs.length ∧ v = .int .i64 k ∧ wr.ownsRow w.heap.size 3 1 (.slice (some ⟨w.heap.size, 0, none⟩) zs.length zs.length) zs.length (Fill ((zs.map (clipI m)).map (Value.int .i64)) (.int .i64 0) k) ∧ Below w.heap.size w wr) (fun v _ => zs.length - (intOf v).toNat)
    case atStart => exact ⟨0, Nat.zero_le _, rfl, by rw [fill_zero]; simp only [List.length_map]; exact own_made _ _ _ _ (by unfold maxLen; omega), (Below.refl _ _).alloc (Nat.le_refl _) _⟩
    case round =>
      obtain ⟨k, hk, rfl, ho, hb⟩ := hrel
      by_cases hlt : k < zs.length
      · obtain ⟨b, o, x, rfl, hlb, hxx, hcx⟩ := hx.at hlt
        have hcr : wr.cell? ⟨b, o + k, none⟩ = some (.int .i64 x) := (hb.cell (p := ⟨b, o + k, none⟩) hlb).trans hcx
        clear hcx
        have hc := ho.cellAt k (by omega)
        rw [fill_at _ _ _ (by simp only [List.length_map]; exact hlt)] at hc
        have hf := ho.frozenAt k
        have HO := Lib.hid ho
        clear ho
        go_wp2
        go_roundw
        case rel =>
          have hs := HO.out.stored k (.int .i64 (clipI m x))
          rw [fill_set _ _ _ _ (by rw [List.getElem?_map, List.getElem?_map, hxx.out]; rfl)] at hs
          rw [clip_if1 m x h2]
          exact ⟨k + 1, by omega, by go_num, hs.1, hb.setCell (Nat.le_refl _) _⟩
        case measure => simp [intOf]; omega
      · rw [fill_full _ _ _ (by simp only [List.length_map]; omega)] at ho
        go_wp2
        go_ret2
        exact retIB_own ho hb


/-- What signalOrNone and l4Result give back: their argument, or an empty slice. -/
def RetRes (B E : Nat) (zs : List Int) (w : World) (e : Ending) (w' : World) : Prop :=
  ∃ A n c, e = .returned (.tuple #[.slice A n c, .bool (resC zs).2]) ∧ w'.ownsRow B E 1 (.slice A n c) n ((resC zs).1.map (Value.int .i64)) ∧ Below w.heap.size w w'
set_option maxHeartbeats 400000 in
theorem impl_signalOrNone (B : Nat) (A : Option Addr) (n c : Nat) (zs : List Int) (w : World) (ho : w.ownsRow B 3 1 (.slice A n c) n (zs.map (Value.int .i64))) :
    Calls Try.prog 82 #[.slice A n c] w (RetRes B 3 zs w) := by
  have hx := own_rdI ho
  have hn := own_cap ho
  have lx := hx.len
  subst lx
  have HO := Lib.hid ho
  clear ho
  cases h : sigB zs
  · have hr : Hid (resC zs = ([], false)) := by show _ = _; simp [resC, h]
    go_enter Try.func82, Try.ntmps82
    go_wp2_with ((go_at_call 56; refine (impl_SignalValid _ _ _ _ _ hx hn).mono ?_; rintro e w' ⟨rfl, rfl⟩))
    go_ret2
    unfold RetRes
    rw [hr.out]
    exact ⟨none, 0, 0, rfl, World.ownsRow_nil _ _ _ _, Below.refl _ _⟩
  · have hr : Hid (resC zs = (zs, true)) := by show _ = _; simp [resC, h]
    go_enter Try.func82, Try.ntmps82
    go_wp2_with ((go_at_call 56; refine (impl_SignalValid _ _ _ _ _ hx hn).mono ?_; rintro e w' ⟨rfl, rfl⟩))
    go_ret2
    unfold RetRes
    rw [hr.out]
    exact ⟨_, _, _, rfl, HO.out, Below.refl _ _⟩
theorem retIB_res {E : Nat} {zs : List Int} {w w1 w2 : World} {e : Ending} (hb1 : Below w.heap.size w w1) (h : RetRes w.heap.size E zs w1 e w2) : RetIB E (resC zs).1 (resC zs).2 w e w2 := by
  obtain ⟨A, n, c, he, ho, hb⟩ := h
  exact ⟨A, n, c, he, ho, hb1.trans (hb.mono hb1.size)⟩

set_option maxHeartbeats 400000 in
theorem impl_ScaleSignal (A : Option Addr) (n c : Nat) (zs : List Int) (g : Int) (w : World) (hx : RdI .i64 w A n zs) (hn : n ≤ maxLen) :
    Calls Try.prog 40 #[.slice A n c, .int .i64 g] w (RetIB 3 (scaleC zs g).1 (scaleC zs g).2 w) := by
  have hcs := sig_cases zs (-1000000) 1000000 g (resC (zs.map (g * ·))) ([], false)
  rw [← scaleC] at hcs
  rcases hcs with ⟨h1, h⟩ | ⟨h1, h2, h3, h⟩ | ⟨h1, h2, h3, h4, h⟩ | ⟨h1, h2, h3, h4, h⟩
  iterate 3
    · rw [h]
      clear h
      go_enter Try.func40, Try.ntmps40
      go_wp2_with ((go_at_call 56; refine (impl_SignalValid _ _ _ _ _ hx hn).mono ?_; rintro e w' ⟨rfl, rfl⟩))
      go_ret2
      exact retIB_nil _ _
  · rw [h]
    clear h
    have lx := hx.len
    subst lx
    have hsz := (sig_bd zs h1).1
    have hmk := run_make_row' (P := Try.prog) 22 3 (.int .i64 0) 8 Try.underlying22 Try.infoI64 rfl .i64 .i64 zs.length (by omega) (by omega)
    have d1 : decide (g < -1000000) = false := by simp; omega
    have d2 : decide (1000000 < g) = false := by simp; omega
    go_enter Try.func40, Try.ntmps40
    go_wp2_with ((go_at_call 56; refine (impl_SignalValid _ _ _ _ _ hx hn).mono ?_; rintro e w' ⟨rfl, rfl⟩))
    clear hmk d1 d2
    go_loopw [25] (fun v wr => ∃ k : Nat, k ≤ zs.length ∧ v = .int .i64 k ∧ wr.ownsRow w.heap.size 3 1 (.slice (some ⟨w.heap.size, 0, none⟩) zs.length zs.length) zs.length (Fill ((zs.map (g * ·)).map (Value.int .i64)) (.int .i64 0) k) ∧ Below w.heap.size w wr) (fun v _ => zs.length - (intOf v).toNat)
    case atStart => exact ⟨0, Nat.zero_le _, rfl, by rw [fill_zero]; simp only [List.length_map]; exact own_made _ _ _ _ (by unfold maxLen; omega), (Below.refl _ _).alloc (Nat.le_refl _) _⟩
    case round =>
      obtain ⟨k, hk, rfl, ho, hb⟩ := hrel
      by_cases hlt : k < zs.length
      · obtain ⟨b, o, x, rfl, hlb, hxx, hcx⟩ := hx.at hlt
        have hcr : wr.cell? ⟨b, o + k, none⟩ = some (.int .i64 x) := (hb.cell (p := ⟨b, o + k, none⟩) hlb).trans hcx
        clear hcx
        have hg := mul_sig g x (sig_at zs k x (sig_bd zs h1).2 hxx.out) ⟨h2, h3⟩
        have hc := ho.cellAt k (by omega)
        rw [fill_at _ _ _ (by simp only [List.length_map]; exact hlt)] at hc
        have hf := ho.frozenAt k
        have HO := Lib.hid ho
        clear ho
        go_wp2
        go_roundw
        case rel =>
          have hs := HO.out.stored k (.int .i64 (g * x))
          rw [fill_set _ _ _ _ (by rw [List.getElem?_map, List.getElem?_map, hxx.out]; rfl)] at hs
          exact ⟨k + 1, by omega, by go_num, hs.1, hb.setCell (Nat.le_refl _) _⟩
        case measure => simp [intOf]; omega
      · rw [fill_full _ _ _ (by simp only [List.length_map]; omega)] at ho
        have HO := Lib.hid ho
        clear ho
        go_wp2_with fail
        refine (impl_signalOrNone _ _ _ _ _ _ HO.out).mono ?_
        rintro e w2 hr
        have hr2 := retIB_res hb hr
        obtain ⟨A2, n2, c2, rfl, ho2, hb2⟩ := hr2
        have HO2 := Lib.hid ho2
        clear ho2 hr
        go_wp2_with fail
        go_ret2
        exact ⟨_, _, _, rfl, HO2.out, hb2⟩
set_option maxHeartbeats 400000 in
theorem spec_l4Scale (A : Option Addr) (n c : Nat) (zs : List Int) (g : Int) (w : World) (hx : RdI .i64 w A n zs) (h1 : sigB zs = true) (h2 : -1000000 ≤ g) (h3 : g ≤ 1000000) :
    Calls Try.prog 95 #[.slice A n c, .int .i64 g] w (RetI .i64 3 (zs.map (g * ·)) w) := by
  have lx := hx.len
  subst lx
  have hsz := (sig_bd zs h1).1
  have hmk := run_make_row' (P := Try.prog) 22 3 (.int .i64 0) 8 Try.underlying22 Try.infoI64 rfl .i64 .i64 zs.length (by omega) (by omega)
  go_enter Try.func95, Try.ntmps95
  go_wp2
  clear hmk
  go_loopw [6] (fun v wr => ∃ k : Nat, k ≤ zs.length ∧ v = .int .i64 k ∧ wr.ownsRow w.heap.size 3 1 (.slice (some ⟨w.heap.size, 0, none⟩) zs.length zs.length) zs.length (Fill ((zs.map (g * ·)).map (Value.int .i64)) (.int .i64 0) k) ∧ Below w.heap.size w wr) (fun v _ => zs.length - (intOf v).toNat)
  case atStart => exact ⟨0, Nat.zero_le _, rfl, by rw [fill_zero]; simp only [List.length_map]; exact own_made _ _ _ _ (by unfold maxLen; omega), (Below.refl _ _).alloc (Nat.le_refl _) _⟩
  case round =>
    obtain ⟨k, hk, rfl, ho, hb⟩ := hrel
    by_cases hlt : k < zs.length
    · obtain ⟨b, o, x, rfl, hlb, hxx, hcx⟩ := hx.at hlt
      have hcr : wr.cell? ⟨b, o + k, none⟩ = some (.int .i64 x) := (hb.cell (p := ⟨b, o + k, none⟩) hlb).trans hcx
      clear hcx
      have hg := mul_sig' g x (sig_at zs k x (sig_bd zs h1).2 hxx.out) ⟨h2, h3⟩
      have hc := ho.cellAt k (by omega)
      rw [fill_at _ _ _ (by simp only [List.length_map]; exact hlt)] at hc
      have hf := ho.frozenAt k
      have HO := Lib.hid ho
      clear ho
      go_wp2
      go_roundw
      case rel =>
        have hs := HO.out.stored k (.int .i64 (g * x))
        rw [fill_set _ _ _ _ (by rw [List.getElem?_map, List.getElem?_map, hxx.out]; rfl)] at hs
        rw [Int.mul_comm x g]
        exact ⟨k + 1, by omega, by go_num, hs.1, hb.setCell (Nat.le_refl _) _⟩
      case measure => simp [intOf]; omega
    · rw [fill_full _ _ _ (by simp only [List.length_map]; omega)] at ho
      go_wp2
      go_ret
      exact retI_own ho hb
set_option maxHeartbeats 400000 in
theorem impl_signOf (x : Int) (w : World) :
    Calls Try.prog 90 #[.int .i64 x] w fun e w' => e = .returned (.int .u8 ((signC x).toNat : Int)) ∧ w = w' := by
  by_cases h : x < 0
  · have hs : Hid (signC x = 49) := if_pos h
    go_enter Try.func90, Try.ntmps90
    go_wp2
    go_ret
    exact ⟨by rw [hs.out]; rfl, rfl⟩
  · have hs : Hid (signC x = 48) := if_neg h
    go_enter Try.func90, Try.ntmps90
    go_wp2
    go_ret
    exact ⟨by rw [hs.out]; rfl, rfl⟩
set_option maxHeartbeats 400000 in
theorem impl_signsOfSums (A : Option Addr) (n c : Nat) (zs : List Int) (w : World) (hx : RdI .i64 w A n zs) (hsz : n ≤ 1048576) :
    Calls Try.prog 60 #[.slice A n c] w (RetStr (zs.map signC) w) := by
  have lx := hx.len
  subst lx
  have hmk := run_make_row' (P := Try.prog) 48 5 (.int .u8 0) 1 Try.underlying48 Try.infoU8 rfl .i64 .i64 zs.length (by omega) (by omega)
  go_enter Try.func60, Try.ntmps60
  go_wp2
  clear hmk
  go_loopw [11] (fun v wr => ∃ k : Nat, k ≤ zs.length ∧ v = .int .i64 k ∧ wr.ownsRow w.heap.size 5 1 (.slice (some ⟨w.heap.size, 0, none⟩) zs.length zs.length) zs.length (Fill (bytes (zs.map signC)) (.int .u8 0) k) ∧ Below w.heap.size w wr) (fun v _ => zs.length - (intOf v).toNat)
  case atStart => exact ⟨0, Nat.zero_le _, rfl, by rw [fill_zero]; simp only [bytes_len, List.length_map]; exact own_made _ _ _ _ (by unfold maxLen; omega), (Below.refl _ _).alloc (Nat.le_refl _) _⟩
  case round =>
    obtain ⟨k, hk, rfl, ho, hb⟩ := hrel
    by_cases hlt : k < zs.length
    · obtain ⟨b, o, x, rfl, hlb, hxx, hcx⟩ := hx.at hlt
      have hcr : wr.cell? ⟨b, o + k, none⟩ = some (.int .i64 x) := (hb.cell (p := ⟨b, o + k, none⟩) hlb).trans hcx
      clear hcx
      have hc := ho.cellAt k (by omega)
      rw [fill_at _ _ _ (by simp only [bytes_len, List.length_map]; exact hlt)] at hc
      have hf := ho.frozenAt k
      have HO := Lib.hid ho
      clear ho
      go_wp2_with (go_at_call 90; refine (impl_signOf _ _).mono ?_; rintro e w' ⟨rfl, rfl⟩)
      go_roundw
      case rel =>
        have hs := HO.out.stored k (.int .u8 ((signC x).toNat : Int))
        rw [fill_set _ _ _ _ (bytes_at _ _ _ (by rw [List.getElem?_map, hxx.out]; rfl))] at hs
        exact ⟨k + 1, by omega, by go_num, hs.1, hb.setCell (Nat.le_refl _) _⟩
      case measure => simp [intOf]; omega
    · rw [fill_full _ _ _ (by simp only [bytes_len, List.length_map]; omega)] at ho
      have hcv := own_string (P := Try.prog) (src := 48) (dst := 9) _ Try.underlying48 Try.underlying5 Try.underlying9 ho
      go_wp2
      go_ret
      exact ⟨_, rfl, rfl, hb⟩
set_option maxHeartbeats 400000 in
theorem spec_l4Signs (A : Option Addr) (n c : Nat) (zs : List Int) (w : World) (hx : RdI .i64 w A n zs) (hsz : n ≤ 1048576) :
    Calls Try.prog 59 #[.slice A n c] w (RetStr (zs.map signC) w) := by
  have lx := hx.len
  subst lx
  have hmk := run_make_row' (P := Try.prog) 48 5 (.int .u8 0) 1 Try.underlying48 Try.infoU8 rfl .i64 .i64 zs.length (by omega) (by omega)
  go_enter Try.func59, Try.ntmps59
  go_wp2
  clear hmk
  go_loopw [4] (fun v wr => ∃ k : Nat, k ≤ zs.length ∧ v = .int .i64 k ∧ wr.ownsRow w.heap.size 5 1 (.slice (some ⟨w.heap.size, 0, none⟩) zs.length zs.length) zs.length (Fill (bytes (zs.map signC)) (.int .u8 0) k) ∧ Below w.heap.size w wr) (fun v _ => zs.length - (intOf v).toNat)
  case atStart => exact ⟨0, Nat.zero_le _, rfl, by rw [fill_zero]; simp only [bytes_len, List.length_map]; exact own_made _ _ _ _ (by unfold maxLen; omega), (Below.refl _ _).alloc (Nat.le_refl _) _⟩
  case round =>
    obtain ⟨k, hk, rfl, ho, hb⟩ := hrel
    by_cases hlt : k < zs.length
    · obtain ⟨b, o, x, rfl, hlb, hxx, hcx⟩ := hx.at hlt
      have hcr : wr.cell? ⟨b, o + k, none⟩ = some (.int .i64 x) := (hb.cell (p := ⟨b, o + k, none⟩) hlb).trans hcx
      clear hcx
      have hc := ho.cellAt k (by omega)
      rw [fill_at _ _ _ (by simp only [bytes_len, List.length_map]; exact hlt)] at hc
      have hf := ho.frozenAt k
      by_cases hneg : x < 0
      · have HO := Lib.hid ho
        clear ho
        go_wp2
        go_roundw
        case rel =>
          have hs := ((HO.out.stored k (.int .u8 48)).1.stored k (.int .u8 49)).1
          rw [List.set_set, fill_set _ _ _ _ (by rw [bytes_at _ _ _ (by rw [List.getElem?_map, hxx.out]; rfl)]; simp [signC, hneg])] at hs
          exact ⟨k + 1, by omega, by go_num, hs, (hb.setCell (Nat.le_refl _) _).setCell (Nat.le_refl _) _⟩
        case measure => simp [intOf]; omega
      · have HO := Lib.hid ho
        clear ho
        go_wp2
        go_roundw
        case rel =>
          have hs := (HO.out.stored k (.int .u8 48)).1
          rw [fill_set _ _ _ _ (by rw [bytes_at _ _ _ (by rw [List.getElem?_map, hxx.out]; rfl)]; simp [signC, hneg])] at hs
          exact ⟨k + 1, by omega, by go_num, hs, hb.setCell (Nat.le_refl _) _⟩
        case measure => simp [intOf]; omega
    · rw [fill_full _ _ _ (by simp only [bytes_len, List.length_map]; omega)] at ho
      have hcv := own_string (P := Try.prog) (src := 48) (dst := 9) _ Try.underlying48 Try.underlying5 Try.underlying9 ho
      go_wp2
      go_ret
      exact ⟨_, rfl, rfl, hb⟩
set_option maxHeartbeats 400000 in
theorem impl_chipOf (c : UInt8) (w : World) :
    Calls Try.prog 53 #[.int .u8 (c.toNat : Int)] w fun e w' => e = .returned (.int .i64 (chipI c)) ∧ w = w' := by
  by_cases h : c = 48
  · subst h
    go_enter Try.func53, Try.ntmps53
    go_wp2
    go_ret
    exact ⟨rfl, rfl⟩
  · have h' : ((c.toNat : Int) == 48) = false := by
      have : c.toNat ≠ 48 := fun e => h (UInt8.toNat_inj.1 (by simpa using e))
      simp; omega
    go_enter Try.func53, Try.ntmps53
    go_wp2
    go_ret
    exact ⟨ret_int (by simp [chipI, h]), rfl⟩
set_option maxHeartbeats 400000 in
theorem spec_l4Chips (s : ByteArray) (w : World) (hsz : s.size ≤ 1048576) (hbits : s.data.toList.all isBit = true) :
    Calls Try.prog 84 #[.string s] w (RetI .i64 3 (s.data.toList.map chipI) w) := by
  have HB := Lib.hid hbits
  clear hbits
  have hmk := run_make_row' (P := Try.prog) 22 3 (.int .i64 0) 8 Try.underlying22 Try.infoI64 rfl .i64 .i64 s.size (by omega) (by omega)
  go_enter Try.func84, Try.ntmps84
  go_wp2
  clear hmk
  go_loopw [4] (fun v wr => ∃ k : Nat, k ≤ s.size ∧ v = .int .i64 k ∧ wr.ownsRow w.heap.size 3 1 (.slice (some ⟨w.heap.size, 0, none⟩) s.size s.size) s.size (Fill ((s.data.toList.map chipI).map (Value.int .i64)) (.int .i64 0) k) ∧ Below w.heap.size w wr) (fun v _ => s.size - (intOf v).toNat)
  case atStart => exact ⟨0, Nat.zero_le _, rfl, by rw [fill_zero]; simp only [List.length_map, len_data]; exact own_made _ _ _ _ (by unfold maxLen; omega), (Below.refl _ _).alloc (Nat.le_refl _) _⟩
  case round =>
    obtain ⟨k, hk, rfl, ho, hb⟩ := hrel
    by_cases hlt : k < s.size
    · have hcd : s.data.toList[k]? = some s[k] := data_at s k hlt
      have hch := Lib.hid (chip_bit s[k] (List.all_eq_true.1 HB.out _ (List.mem_of_getElem? hcd)))
      have hub := s[k].toNat_lt
      have HCD := Lib.hid hcd
      clear hcd
      have hc := ho.cellAt k (by omega)
      rw [fill_at _ _ _ (by simp only [List.length_map, len_data]; exact hlt)] at hc
      have hf := ho.frozenAt k
      have HO := Lib.hid ho
      clear ho
      go_wp2
      go_roundw
      case rel =>
        have hs := HO.out.stored k (.int .i64 (chipI s[k]))
        rw [fill_set _ _ _ _ (by rw [List.getElem?_map, List.getElem?_map, HCD.out]; rfl)] at hs
        rw [hch.out]
        exact ⟨k + 1, by omega, by go_num, hs.1, hb.setCell (Nat.le_refl _) _⟩
      case measure => simp [intOf]; omega
    · rw [fill_full _ _ _ (by simp only [List.length_map, len_data]; omega)] at ho
      go_wp2
      go_ret
      exact retI_own ho hb
end Go.Proofs.Ytlddefmakjnfdaa
