/- Lists of strings: what comes in, what the law's own helpers give back. Conditions: as each theorem says. -/
import Derived.Test.YtfendecmgcmbjaaLaw
import Derived.SliceStrings
namespace Go.Proofs.Ytfendecmgcmbjaa
open Go.RowKit
set_option linter.unusedSimpArgs false
set_option linter.unusedVariables false

theorem Try.infoStr : (Try.prog.info? 9).map (fun i => (i.zero, i.size, i.bytes)) = some (some (.string ⟨#[]⟩), 1, 16) := by kernel_rfl

/-- In the world w the slice at A reads as the strings ss. -/
def RdS (w : World) (A : Option Addr) (n : Nat) (ss : List ByteArray) : Prop := Rd w A n 1 (ss.map Value.string)
theorem RdS.len {w : World} {A : Option Addr} {n : Nat} {ss : List ByteArray} (h : RdS w A n ss) : ss.length = n := by have := h.1; simpa using this
theorem RdS.at {w : World} {A : Option Addr} {n : Nat} {ss : List ByteArray} (h : RdS w A n ss) {i : Nat} (hi : i < n) :
    ∃ b o x, A = some ⟨b, o, none⟩ ∧ b < w.heap.size ∧ Hid (ss[i]? = some x) ∧ w.cell? ⟨b, o + i, none⟩ = some (.string x) := by
  obtain ⟨b, o, hA, hb, hc⟩ := h.2 (by omega)
  have hl := h.len
  refine ⟨b, o, ss[i], hA, hb, List.getElem?_eq_getElem _, hc i _ ?_⟩
  rw [List.getElem?_map, List.getElem?_eq_getElem (by omega)]; rfl
/-- A slice of strings that came in. -/
def RowStr (w : World) (A : Option Addr) (n c : Nat) (ss : List ByteArray) : Prop := RdS w A n ss ∧ n ≤ c ∧ c ≤ maxLen ∧ ∀ s ∈ ss, s.size ≤ maxLen
theorem rowStr_nil (w : World) : RowStr w none 0 0 [] := ⟨⟨by simp, fun h => absurd h (by omega)⟩, Nat.le_refl _, Nat.zero_le _, by simp⟩
theorem rowStr_mk {w : World} {x : Addr} {l c : Nat} {ss : List ByteArray} (hl : l ≤ c) (hm : c ≤ maxLen) (hz : ss.length = c)
    (hcell : ∀ i, i < ss.length → w.cell? (x.add i) = some (.string (ss.getD i ByteArray.empty))) (hsz : ∀ s ∈ ss, s.size ≤ maxLen) : RowStr w (some x) l c (ss.take l) := by
  refine ⟨⟨by rw [List.length_map, List.length_take]; omega, fun hn => ?_⟩, hl, hm, fun z hz' => hsz z (List.mem_of_mem_take hz')⟩
  obtain ⟨b, o, spot⟩ := x
  have h0 := hcell 0 (by omega)
  have hs : spot = none := by simpa [Addr.add] using World.cell?_spot h0
  subst hs
  refine ⟨b, o, rfl, by simpa [Addr.add] using World.block_lt_of_cell? w _ h0, fun j u hu => ?_⟩
  rw [List.getElem?_map] at hu
  obtain ⟨y, hy, rfl⟩ := Option.map_eq_some_iff.1 hu
  rw [List.getElem?_take] at hy
  split at hy
  · rename_i hj
    have hjl := (List.getElem?_eq_some_iff.1 hy).1
    have := hcell j hjl
    have e : (⟨b, o, none⟩ : Addr).add j = ⟨b, o + j, none⟩ := by unfold Addr.add; split <;> simp_all
    rw [e] at this
    rw [this, List.getD_eq_getElem?_getD, hy]; rfl
  · cases hy
/-- The call gave back a new list of the strings ss. -/
def RetS (E : TypeId) (ss : List ByteArray) (w : World) (e : Ending) (w' : World) : Prop :=
  ∃ A n c, e = .returned (.slice A n c) ∧ w'.ownsRow w.heap.size E 1 (.slice A n c) n (ss.map Value.string) ∧ Below w.heap.size w w'
theorem own_rdS {w : World} {base E n c : Nat} {A : Option Addr} {ss : List ByteArray} (h : w.ownsRow base E 1 (.slice A n c) n (ss.map Value.string)) : RdS w A n ss := own_rd h
theorem str_ne {s t : ByteArray} (h : s ≠ t) : (s.toList == t.toList) = false := by
  rw [beq_eq_false_iff_ne]
  intro e
  rw [ByteArray.toList_eq, ByteArray.toList_eq] at e
  exact h (str_eq e rfl)

set_option maxHeartbeats 400000 in
theorem laws_toStringS (A : Option Addr) (n c : Nat) (xs : List ByteArray) (w : World) (hx : RdS w A n xs) (hn : n ≤ 1048576) :
    Calls Try.prog 46 #[.slice A n c] w (RetS 9 xs w) := by
  have lx := hx.len
  subst lx
  have hmk := run_make_row' (P := Try.prog) 39 9 (.string ⟨#[]⟩) 16 Try.underlying39 Try.infoStr rfl .i64 .i64 xs.length (by omega) (by omega)
  go_enter Try.func46, Try.ntmps46
  go_wp2
  clear hmk
  go_loopw [4] (fun v wr => ∃ k : Nat, k ≤ xs.length ∧ v = .int .i64 k ∧ wr.ownsRow w.heap.size 9 1 (.slice (some ⟨w.heap.size, 0, none⟩) xs.length xs.length) xs.length (Fill (xs.map Value.string) (.string ⟨#[]⟩) k) ∧ Below w.heap.size w wr) (fun v _ => xs.length - (intOf v).toNat)
  case atStart => exact ⟨0, Nat.zero_le _, rfl, by rw [fill_zero, List.length_map]; exact own_made _ _ _ _ (by unfold maxLen; omega), (Below.refl _ _).alloc (Nat.le_refl _) _⟩
  case round =>
    obtain ⟨k, hk, rfl, ho, hb⟩ := hrel
    by_cases hlt : k < xs.length
    · obtain ⟨b, o, x, rfl, hlb, hxx, hcx⟩ := hx.at hlt
      have hcr : wr.cell? ⟨b, o + k, none⟩ = some (.string x) := (hb.cell (p := ⟨b, o + k, none⟩) hlb).trans hcx
      have hc := ho.cellAt k (by omega)
      rw [fill_at _ _ _ (by rw [List.length_map]; exact hlt)] at hc
      have hf := ho.frozenAt k
      have HO := Lib.hid ho
      clear ho hcx
      go_wp2
      go_roundw
      case rel =>
        have hs := HO.out.stored k (.string x)
        rw [fill_set _ _ _ _ (by rw [List.getElem?_map, hxx.out]; rfl)] at hs
        exact ⟨k + 1, by omega, by go_num, hs.1, hb.setCell (Nat.le_refl _) _⟩
      case measure => simp [intOf]; omega
    · rw [fill_full _ _ _ (by rw [List.length_map]; omega)] at ho
      go_wp2
      go_ret
      exact ⟨_, _, _, rfl, ho, hb⟩
set_option maxHeartbeats 400000 in
theorem laws_eqStringS (A A' : Option Addr) (n c n' c' : Nat) (xs ys : List ByteArray) (w : World) (hx : RdS w A n xs) (hy : RdS w A' n' ys) (hn : n ≤ maxLen) :
    Calls Try.prog 48 #[.slice A n c, .slice A' n' c'] w (RetD (.bool (decide (xs = ys))) w) := by
  unfold maxLen at hn
  have lx := hx.len
  have ly := hy.len
  by_cases hnn : n = n'
  · subst hnn
    have LX := Lib.hid lx
    have LY := Lib.hid ly
    clear lx ly
    go_enter Try.func48, Try.ntmps48
    go_wp2
    go_loopw [5] (fun v wr => ∃ k m : Nat, k ≤ n ∧ v = .int .i64 k ∧ wr = w.drewN m ∧ Hid (xs.take k = ys.take k)) (fun v _ => n - (intOf v).toNat)
    case atStart => exact ⟨0, 0, Nat.zero_le _, rfl, rfl, rfl⟩
    case round =>
      obtain ⟨k, m, hk, rfl, rfl, ht⟩ := hrel
      by_cases hlt : k < n
      · obtain ⟨b, o, x, rfl, hb, hxx, hcx⟩ := hx.at hlt
        obtain ⟨b', o', y, rfl, hb', hyy, hcy⟩ := hy.at hlt
        by_cases hxy : x = y
        · obtain rfl := hxy
          go_wp2
          go_quiet (fail)
          go_wp2
          go_roundw
          case rel => exact ⟨k + 1, _, by omega, by go_num, rfl, take_snoc_eq _ _ _ _ _ hxx.out hyy.out ht.out rfl⟩
          case measure => simp [intOf]; omega
        · have hne := str_ne hxy
          have HNE := Lib.hid hxy
          clear hxy
          go_wp2
          go_quiet (fail)
          go_wp2
          go_ret
          exact ⟨ret_bool (decide_eq_false (ne_of_at _ _ _ _ _ hxx.out hyy.out HNE.out)).symm, _, World.drewN_drewN _ _ _⟩
      · go_wp2
        go_ret
        have e1 : xs.take k = xs := List.take_of_length_le (by rw [LX.out]; omega)
        have e2 : ys.take k = ys := List.take_of_length_le (by rw [LY.out]; omega)
        have h3 := ht.out
        rw [e1, e2] at h3
        exact ⟨ret_bool (decide_eq_true h3).symm, _, rfl⟩
  · have hne : ((n : Int) != (n' : Int)) = true := by simp; omega
    go_enter Try.func48, Try.ntmps48
    go_wp2
    go_ret
    exact ⟨ret_bool (decide_eq_false (by rintro rfl; omega)).symm, 0, rfl⟩
set_option maxHeartbeats 400000 in
theorem laws_szStringS (A : Option Addr) (n c : Nat) (ss : List ByteArray) (w : World) (hx : RdS w A n ss) (hn : n ≤ maxLen) (hs : ∀ s ∈ ss, s.size ≤ maxLen) :
    Calls Try.prog 44 #[.slice A n c, .int .i64 1048576] w fun e w' => (∃ z : Int, e = .returned (.int .i64 z) ∧ -1 ≤ z ∧ z ≤ 1048576 ∧ (0 ≤ z → n ≤ 1048576 ∧ ∀ s ∈ ss, s.size ≤ 1048576)) ∧ w = w' := by
  unfold maxLen at hn
  have lx := hx.len
  have LX := Lib.hid lx
  have HS := Lib.hid hs
  clear lx hs
  by_cases hbig : 1048576 < n
  · go_enter Try.func44, Try.ntmps44
    go_wp2
    go_ret
    exact ⟨⟨-1, rfl, by omega, by omega, fun h => absurd h (by omega)⟩, rfl⟩
  · go_enter Try.func44, Try.ntmps44
    go_wp2
    go_loop [1, 5] (fun z v => ∃ (k : Nat) (q : Int), k ≤ n ∧ v = .int .i64 k ∧ z = .int .i64 q ∧ 0 ≤ q ∧ q ≤ 1048576 ∧ Hid (∀ i s, i < k → ss[i]? = some s → s.size ≤ 1048576)) (fun _ v => n - (intOf v).toNat)
    case atStart => exact ⟨0, _, Nat.zero_le _, rfl, rfl, by omega, by omega, fun i s hi => absurd hi (by omega)⟩
    case round =>
      obtain ⟨k, q, hk, rfl, rfl, hq0, hq1, hall⟩ := hrel
      by_cases hlt : k < n
      · obtain ⟨b, o, x, rfl, hb, hxx, hcx⟩ := hx.at hlt
        have hxs := HS.out x (List.mem_of_getElem? hxx.out)
        unfold maxLen at hxs
        by_cases hbx : q < x.size
        · go_wp2
          go_ret
          exact ⟨⟨-1, rfl, by omega, by omega, fun h => absurd h (by omega)⟩, rfl⟩
        · go_wp2
          go_round
          case rel => exact ⟨k + 1, _, by omega, by go_num, rfl, by omega, by omega, fun i s hi hi2 => by
            rcases Nat.lt_or_ge i k with h | h
            · exact hall.out i s h hi2
            · obtain rfl : i = k := by omega
              rw [hxx.out] at hi2
              obtain rfl := Option.some.inj hi2
              omega⟩
          case measure => simp [intOf]; omega
      · obtain rfl : k = n := by omega
        go_wp2
        go_ret
        exact ⟨⟨q, rfl, by omega, by omega, fun _ => ⟨by omega, fun s hs => by
          obtain ⟨i, hi⟩ := List.mem_iff_getElem?.1 hs
          exact hall.out i s (by have := (List.getElem?_eq_some_iff.1 hi).1; rw [LX.out] at this; exact this) hi⟩⟩, rfl⟩

end Go.Proofs.Ytfendecmgcmbjaa
