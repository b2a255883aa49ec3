/- A sequence in reverse order; bytes of a string in a row of the call's own. Conditions: as each theorem says. -/
import Derived.Test.YtkebiigpfbconaaC5
import Derived.Lib.ConvBytes
import Derived.BigRegion
namespace Go.Proofs.Ytkebiigpfbconaa
open Go.RowKit
set_option linter.unusedSimpArgs false
set_option linter.unusedVariables false
set_option maxRecDepth 100000

/-- The block g holds the bytes l, and they may be written. -/
structure ByR (w : World) (g : Nat) (l : List UInt8) : Prop where
  lt : g < w.heap.size
  cell : ∀ (j : Nat) (c : UInt8), l[j]? = some c → w.cell? ⟨g, j, none⟩ = some (.int .u8 (c.toNat : Int))
  open_ : ∀ j, j < l.length → w.frozen? ⟨g, j, none⟩ = false
theorem ByR.drewN {w : World} {g : Nat} {l : List UInt8} (h : ByR w g l) (n : Nat) : ByR (w.drewN n) g l := ⟨h.lt, h.cell, h.open_⟩
theorem ByR.drew {w : World} {g : Nat} {l : List UInt8} (h : ByR w g l) : ByR w.drew g l := ⟨h.lt, h.cell, h.open_⟩
theorem ByR.set {w : World} {g : Nat} {l : List UInt8} (h : ByR w g l) (j : Nat) (c : UInt8) (hj : j < l.length) : ByR (w.setCell ⟨g, j, none⟩ (.int .u8 (c.toNat : Int))) g (l.set j c) := by
  refine ⟨by simpa [World.setCell] using h.lt, fun i d hi => ?_, fun i hi => ?_⟩
  · by_cases e : i = j
    · subst e
      rw [List.getElem?_set_self hj] at hi
      injection hi with hi
      subst hi
      exact World.cell?_setCell_same w ⟨g, i, none⟩ _ (h.cell i _ (List.getElem?_eq_getElem hj))
    · rw [List.getElem?_set_ne (fun e' => e e'.symm)] at hi
      rw [World.cell?_setCell_other (a := ⟨g, j, none⟩) (b := ⟨g, i, none⟩) (h := by intro e'; injection e' with _ e' _; exact e e'.symm)]
      exact h.cell i d hi
  · rw [World.frozen?_setCell]
    exact h.open_ i (by rw [List.length_set] at hi; exact hi)
theorem ByR.below {w w' : World} {g : Nat} {l : List UInt8} (h : ByR w g l) (hb : Below w.heap.size w w') : ByR w' g l :=
  ⟨Nat.lt_of_lt_of_le h.lt hb.size, fun j c hj => (hb.cell (p := ⟨g, j, none⟩) h.lt).trans (h.cell j c hj), fun j hj => (hb.frozen (p := ⟨g, j, none⟩) h.lt).trans (h.open_ j hj)⟩
theorem bytesWorld_byR (w : World) (e : TypeId) (s : ByteArray) : ByR (Lib.bytesWorld w e s) w.heap.size s.data.toList := by
  refine ⟨by rw [Lib.bytesWorld_size]; exact Nat.lt_succ_self _, fun j c hj => ?_, fun j hj => ?_⟩
  · have h1 : j < s.size := by
      rw [← len_data]
      exact (List.getElem?_eq_some_iff.1 hj).1
    rw [Lib.bytesWorld_cell w e s j h1, List.getD_eq_getElem?_getD, hj]; rfl
  · rw [len_data] at hj
    unfold World.frozen?
    rw [Lib.bytesWorld_at_new]
    have h2 : s.size ≤ (Lib.bytesCells w e s).size := by
      unfold Lib.bytesCells
      rw [Array.size_append, Array.size_map]
      exact Nat.le_add_right _ _
    simp
    omega
theorem bytesWorld_below (w : World) (e : TypeId) (s : ByteArray) : Below w.heap.size w (Lib.bytesWorld w e s) :=
  ⟨by simp [Lib.bytesWorld, World.freeze, World.alloc, World.drew, -World.alloc_eq, -World.drew_eq], by simp [Lib.bytesWorld, World.freeze, World.alloc, World.drew, -World.alloc_eq, -World.drew_eq],
    by simp [Lib.bytesWorld, World.freeze, World.alloc, World.drew, -World.alloc_eq, -World.drew_eq], by rw [Lib.bytesWorld_size]; exact Nat.le_succ _, fun k hk => Lib.bytesWorld_at_old w e s k hk⟩
/-- The row of bytes, as a string. -/
theorem byR_string {P : Program} {w : World} {g c src dst e : Nat} {l : List UInt8} (h : ByR w g l) (hs : P.underlying src = some (.slice e)) (he : P.underlying e = some (.int .u8)) (hd : P.underlying dst = some .string) :
    (convert src dst (.slice (some ⟨g, 0, none⟩) l.length c)).run P w = .ok (.string ⟨l.toArray⟩) w :=
  run_convert_bytes_back w src dst e ⟨g, 0, none⟩ c l hs he hd fun j hj => by
    rw [add_plain, Nat.zero_add]
    exact h.cell j _ (List.getElem?_eq_getElem hj)
/-- The first i and the last i ones exchanged. -/
def revK (l : List UInt8) (i : Nat) : List UInt8 := (List.range l.length).map fun p => if p < i ∨ l.length ≤ p + i then l.getD (l.length - 1 - p) 48 else l.getD p 48
theorem revK_len (l : List UInt8) (i : Nat) : (revK l i).length = l.length := by simp [revK]
theorem revK_at (l : List UInt8) (i p : Nat) (h : p < l.length) : (revK l i)[p]? = some (if p < i ∨ l.length ≤ p + i then l.getD (l.length - 1 - p) 48 else l.getD p 48) := by simp [revK, h]
theorem getD_some (l : List UInt8) (p : Nat) (h : p < l.length) : l[p]? = some (l.getD p 48) := by rw [List.getD_eq_getElem?_getD, List.getElem?_eq_getElem h]; rfl
theorem revK_zero (l : List UInt8) : revK l 0 = l := by
  apply List.ext_getElem?
  intro p
  by_cases h : p < l.length
  · rw [revK_at l 0 p h, if_neg (by omega), getD_some l p h]
  · rw [List.getElem?_eq_none (by rw [revK_len]; omega), List.getElem?_eq_none (by omega)]
theorem revK_end (l : List UInt8) (i : Nat) (h : l.length ≤ 2 * i + 1) : revK l i = l.reverse := by
  apply List.ext_getElem?
  intro p
  by_cases hp : p < l.length
  · rw [revK_at l i p hp, List.getElem?_reverse hp, getD_some l (l.length - 1 - p) (by omega)]
    by_cases hc : p < i ∨ l.length ≤ p + i
    · rw [if_pos hc]
    · rw [if_neg hc, show l.length - 1 - p = p by omega]
  · rw [List.getElem?_eq_none (by rw [revK_len]; omega), List.getElem?_eq_none (by rw [List.length_reverse]; omega)]
theorem revK_step (l : List UInt8) (i j : Nat) (hj : i + j + 1 = l.length) (hij : i < j) : ((revK l i).set i (l.getD j 48)).set j (l.getD i 48) = revK l (i + 1) := by
  apply List.ext_getElem?
  intro p
  by_cases hp : p < l.length
  · rw [revK_at l (i + 1) p hp]
    by_cases h1 : p = j
    · subst h1
      rw [List.getElem?_set_self (by rw [List.length_set, revK_len]; omega), if_pos (by omega), show l.length - 1 - p = i by omega]
    · rw [List.getElem?_set_ne (fun e => h1 e.symm)]
      by_cases h2 : p = i
      · subst h2
        rw [List.getElem?_set_self (by rw [revK_len]; omega), if_pos (by omega), show l.length - 1 - p = j by omega]
      · rw [List.getElem?_set_ne (fun e => h2 e.symm), revK_at l i p hp]
        by_cases hc : p < i ∨ l.length ≤ p + i
        · rw [if_pos hc, if_pos (by omega)]
        · rw [if_neg hc, if_neg (by omega)]
  · rw [List.getElem?_eq_none (by rw [List.length_set, List.length_set, revK_len]; omega), List.getElem?_eq_none (by rw [revK_len]; omega)]
set_option maxHeartbeats 2000000 in
theorem slices_Reverse_bytes (g c : Nat) (l : List UInt8) (w : World) (h : ByR w g l) (hl : l.length ≤ 1048576) :
    Calls Try.prog 49 #[.slice (some ⟨g, 0, none⟩) l.length c] w fun e w' => e = .returned (.tuple #[]) ∧ ByR w' g l.reverse ∧ Below g w w' := by
  have HL := Lib.hid h
  clear h
  obtain ⟨n, hn⟩ : ∃ n, l.length = n := ⟨_, rfl⟩
  rw [hn] at hl ⊢
  have HN := Lib.hid hn
  clear hn
  go_enter Try.func49, Try.ntmps49
  go_wp2
  go_loopw [2, 3] (fun u v wr => ∃ i : Nat, u = .int .i64 i ∧ v = .int .i64 ((n : Int) - 1 - i) ∧ ByR wr g (revK l i) ∧ 2 * i ≤ n + 1 ∧ Below g w wr) (fun u _ _ => n - (intOf u).toNat)
  case atStart => exact ⟨0, rfl, by go_num, by rw [revK_zero]; exact HL.out, by omega, Below.refl _ _⟩
  case round =>
    obtain ⟨i, rfl, rfl, hr, hi, hb⟩ := hrel
    by_cases hlt : 2 * i + 1 < n
    · obtain ⟨j, hj⟩ : ∃ j, i + j + 1 = n := ⟨n - 1 - i, by omega⟩
      have hji : (n : Int) - 1 - (i : Int) = (j : Int) := by omega
      rw [hji]
      have hxi : (revK l i)[i]? = some (l.getD i 48) := by rw [revK_at l i i (by rw [HN.out]; omega), if_neg (by rw [HN.out]; omega)]
      have hxj : (revK l i)[j]? = some (l.getD j 48) := by rw [revK_at l i j (by rw [HN.out]; omega), if_neg (by rw [HN.out]; omega)]
      have hst := revK_step l i j (by rw [HN.out]; exact hj) (by omega)
      obtain ⟨x, hx⟩ : ∃ x, l.getD i 48 = x := ⟨_, rfl⟩
      obtain ⟨y, hy⟩ : ∃ y, l.getD j 48 = y := ⟨_, rfl⟩
      rw [hx] at hxi hst
      rw [hy] at hxj hst
      have hci := hr.cell i x hxi
      have hcj := hr.cell j y hxj
      have hfi := hr.open_ i (by rw [revK_len, HN.out]; omega)
      have hfj := hr.open_ j (by rw [revK_len, HN.out]; omega)
      have hs1 := hr.set i y (by rw [revK_len, HN.out]; omega)
      have hs2 := hs1.set j x (by rw [List.length_set, revK_len, HN.out]; omega)
      rw [hst] at hs2
      have hcj' := hs1.cell j y (by rw [List.getElem?_set_ne (by omega)]; exact hxj)
      have HS2 := Lib.hid hs2
      have hij : i ≠ j := by omega
      have hji' : j ≠ i := by omega
      clear hr hxi hxj hst hx hy hs1 hs2
      go_wp2
      go_region
      go_wp2
      go_roundw
      case rel => exact ⟨i + 1, by go_num, by go_num, HS2.out.drew, by omega, ((hb.setCell (p := ⟨g, i, none⟩) (Nat.le_refl _) _).setCell (p := ⟨g, j, none⟩) (Nat.le_refl _) _).drew⟩
      case measure => simp [intOf]; omega
    · have hend := revK_end l i (by rw [HN.out]; omega)
      rw [hend] at hr
      have HR := Lib.hid hr
      have d0 : decide ((i : Int) < (n : Int) - 1 - (i : Int)) = false := decide_eq_false (by omega)
      clear hr hend
      go_wp2
      refine bodyPost_end (v := .tuple #[]) (by simp [results, Try.results49, go_sem]) rfl ?_
      exact ⟨rfl, HR.out, hb⟩
set_option maxHeartbeats 1000000 in
theorem impl_ReverseBits (s : ByteArray) (w : World) (hs : seqB s.data.toList = true) :
    Calls Try.prog 12 #[.string s] w (RetStrB s.data.toList.reverse true w) := by
  have h1 := seqB_bd s hs
  have HS := Lib.hid hs
  clear hs
  have hcv := Lib.run_convert_string_bytes (P := Try.prog) w 9 22 5 s Try.underlying9 Try.underlying22 Try.underlying5
  have hby := bytesWorld_byR w 5 s
  have hbw := bytesWorld_below w 5 s
  generalize Lib.bytesWorld w 5 s = w4 at hcv hby hbw
  generalize grownCap w s.size 0 5 = cap at hcv
  have hcall := slices_Reverse_bytes w.heap.size cap s.data.toList w4 hby (by rw [len_data]; omega)
  rw [len_data] at hcall
  clear hby
  go_enter Try.func12, Try.ntmps12
  go_wp2_with (go_at_call 11; refine (impl_SequenceValid _ _ (by unfold maxLen; omega)).mono ?_; rintro e w' ⟨rfl, rfl⟩; rw [HS.out])
  refine hcall.mono ?_
  clear hcall
  rintro e w5 ⟨rfl, hr, hb⟩
  have hcv2 := byR_string (P := Try.prog) (src := 22) (dst := 9) (c := cap) hr Try.underlying22 Try.underlying5 Try.underlying9
  rw [List.length_reverse, len_data] at hcv2
  have HB := Lib.hid (hbw.trans hb)
  clear hr hbw hb hcv
  go_wp2
  go_ret2
  exact ⟨_, rfl, rfl, HB.out⟩

end Go.Proofs.Ytkebiigpfbconaa
