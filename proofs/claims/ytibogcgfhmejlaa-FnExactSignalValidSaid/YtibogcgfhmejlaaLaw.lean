/- What the helpers of the laws do: copies of slices, comparison, marks. Conditions: as each theorem says. -/
import Derived.Test.YtibogcgfhmejlaaC3
namespace Go.Proofs.Ytibogcgfhmejlaa
open Go.RowKit
set_option linter.unusedSimpArgs false
set_option linter.unusedVariables false

/-- The call gave back a new slice of the kind k with the numbers zs. -/
def RetI (k : IntKind) (E : TypeId) (zs : List Int) (w : World) (e : Ending) (w' : World) : Prop :=
  ∃ A c, e = .returned (.slice A zs.length c) ∧ w'.ownsRow w.heap.size E 1 (.slice A zs.length c) zs.length (zs.map (Value.int k)) ∧ Below w.heap.size w w'

theorem own_rd {w : World} {base E s n c : Nat} {A : Option Addr} {xs : List Value} (h : w.ownsRow base E s (.slice A n c) n xs) : Rd w A n s xs := by
  refine ⟨h.1, fun hn => ?_⟩
  rcases h.2 with ⟨hv, h0⟩ | ⟨g, cap, cur, hv, hb, hg, hnc, hcm, hcs, ht⟩
  · omega
  · injection hv with h1 h2 h3
    subst h1
    refine ⟨g, 0, rfl, (Array.getElem?_eq_some_iff.1 hg).1, fun j u hu => ?_⟩
    have hj := (List.getElem?_eq_some_iff.1 hu).1
    rw [Nat.zero_add, ← hu]
    subst h3
    exact h.cellAt j (by have := h.1; omega)
theorem own_rdI {k : IntKind} {w : World} {base E n c : Nat} {A : Option Addr} {zs : List Int} (h : w.ownsRow base E 1 (.slice A n c) n (zs.map (Value.int k))) : RdI k w A n zs := own_rd h
theorem own_cap {w : World} {base E s n c : Nat} {A : Option Addr} {xs : List Value} (h : w.ownsRow base E s (.slice A n c) n xs) : n ≤ maxLen := by
  rcases h.2 with ⟨hv, h0⟩ | ⟨g, cap, cur, hv, hb, hg, hnc, hcm, hcs, ht⟩
  · rw [h0]; exact Nat.zero_le _
  · exact Nat.le_trans hnc hcm
/-- What is owned stays owned where nothing below the heap's end has turned. -/
theorem own_below {w w' : World} {base E s n : Nat} {v : Value} {xs : List Value} (h : w.ownsRow base E s v n xs) (hb : Below w.heap.size w w') : w'.ownsRow base E s v n xs := by
  refine ⟨h.1, ?_⟩
  rcases h.2 with hn | ⟨g, cap, cur, hv, hbg, hg, rest⟩
  · exact .inl hn
  · exact .inr ⟨g, cap, cur, hv, hbg, (hb.block g (Array.getElem?_eq_some_iff.1 hg).1).trans hg, rest⟩
/-- What is owned from a base on stays owned where nothing below a greater number has turned. -/
theorem own_mono {w : World} {base base' E s n : Nat} {v : Value} {xs : List Value} (h : w.ownsRow base E s v n xs) (hb : base' ≤ base) : w.ownsRow base' E s v n xs := by
  refine ⟨h.1, ?_⟩
  rcases h.2 with hn | ⟨g, cap, cur, hv, hbg, hg, rest⟩
  · exact .inl hn
  · exact .inr ⟨g, cap, cur, hv, Nat.le_trans hb hbg, hg, rest⟩

theorem retD_below {v : Value} {w w' : World} {e : Ending} (h : RetD v w e w') : e = .returned v ∧ Below w.heap.size w w' := by
  obtain ⟨h1, m, rfl⟩ := h
  exact ⟨h1, below_drewN (Below.refl _ _) m⟩

set_option maxHeartbeats 400000 in
theorem laws_eqIntS (A A' : Option Addr) (n c n' c' : Nat) (xs ys : List Int) (w : World) (hx : RdI .i64 w A n xs) (hy : RdI .i64 w A' n' ys) (hn : n ≤ maxLen) :
    Calls Try.prog 16 #[.slice A n c, .slice A' n' c'] w (RetD (.bool (decide (xs = ys))) w) := by
  unfold maxLen at hn
  have lx := hx.len
  have ly := hy.len
  by_cases hnn : n = n'
  · subst hnn
    have LX := Lib.hid lx
    have LY := Lib.hid ly
    clear lx ly
    go_enter Try.func16, Try.ntmps16
    go_wp2
    go_loopw [5] (fun v wr => ∃ k m : Nat, k ≤ n ∧ v = .int .i64 k ∧ wr = w.drewN m ∧ Hid (xs.take k = ys.take k)) (fun v _ => n - (intOf v).toNat)
    case atStart => exact ⟨0, 0, Nat.zero_le _, rfl, rfl, rfl⟩
    case round =>
      obtain ⟨k, m, hk, rfl, rfl, ht⟩ := hrel
      by_cases hlt : k < n
      · obtain ⟨b, o, x, rfl, hb, hxx, hcx⟩ := hx.at hlt
        obtain ⟨b', o', y, rfl, hb', hyy, hcy⟩ := hy.at hlt
        by_cases hxy : x = y
        · obtain rfl := hxy
          go_wp2
          go_quiet (fail)
          go_wp2
          go_roundw
          case rel => exact ⟨k + 1, _, by omega, by go_num, rfl, take_snoc_eq _ _ _ _ _ hxx.out hyy.out ht.out rfl⟩
          case measure => simp [intOf]; omega
        · have hne : (x != y) = true := by simpa using hxy
          go_wp2
          go_quiet (fail)
          go_wp2
          go_ret
          exact ⟨ret_bool (decide_eq_false (ne_of_at _ _ _ _ _ hxx.out hyy.out hxy)).symm, _, World.drewN_drewN _ _ _⟩
      · go_wp2
        go_ret
        have e1 : xs.take k = xs := List.take_of_length_le (by rw [LX.out]; omega)
        have e2 : ys.take k = ys := List.take_of_length_le (by rw [LY.out]; omega)
        have h3 := ht.out
        rw [e1, e2] at h3
        exact ⟨ret_bool (decide_eq_true h3).symm, _, rfl⟩
  · have hne : ((n : Int) != (n' : Int)) = true := by simp; omega
    go_enter Try.func16, Try.ntmps16
    go_wp2
    go_ret
    exact ⟨ret_bool (decide_eq_false (by rintro rfl; omega)).symm, 0, rfl⟩

set_option maxHeartbeats 400000 in
theorem laws_toIntS (A : Option Addr) (n c : Nat) (xs : List Int) (w : World) (hx : RdI .i64 w A n xs) (hn : n ≤ 1048576) :
    Calls Try.prog 14 #[.slice A n c] w (RetI .i64 3 xs w) := by
  have lx := hx.len
  subst lx
  have hmk := run_make_row' (P := Try.prog) 25 3 (.int .i64 0) 8 Try.underlying25 Try.infoI64 rfl .i64 .i64 xs.length (by omega) (by omega)
  go_enter Try.func14, Try.ntmps14
  go_wp2
  clear hmk
  go_loopw [4] (fun v wr => ∃ k : Nat, k ≤ xs.length ∧ v = .int .i64 k ∧ wr.ownsRow w.heap.size 3 1 (.slice (some ⟨w.heap.size, 0, none⟩) xs.length xs.length) xs.length (Fill (xs.map (Value.int .i64)) (.int .i64 0) k) ∧ Below w.heap.size w wr) (fun v _ => xs.length - (intOf v).toNat)
  case atStart => exact ⟨0, Nat.zero_le _, rfl, by rw [fill_zero, List.length_map]; exact own_made _ _ _ _ (by unfold maxLen; omega), (Below.refl _ _).alloc (Nat.le_refl _) _⟩
  case round =>
    obtain ⟨k, hk, rfl, ho, hb⟩ := hrel
    by_cases hlt : k < xs.length
    · obtain ⟨b, o, x, rfl, hlb, hxx, hcx⟩ := hx.at hlt
      have hcr : wr.cell? ⟨b, o + k, none⟩ = some (.int .i64 x) := (hb.cell (p := ⟨b, o + k, none⟩) hlb).trans hcx
      have hc := ho.cellAt k (by omega)
      rw [fill_at _ _ _ (by rw [List.length_map]; exact hlt)] at hc
      have hf := ho.frozenAt k
      have HO := Lib.hid ho
      clear ho hcx
      go_wp2
      go_roundw
      case rel =>
        have hs := HO.out.stored k (.int .i64 x)
        rw [fill_set _ _ _ _ (by rw [List.getElem?_map, hxx.out]; rfl)] at hs
        exact ⟨k + 1, by omega, by go_num, hs.1, hb.setCell (Nat.le_refl _) _⟩
      case measure => simp [intOf]; omega
    · rw [fill_full _ _ _ (by rw [List.length_map]; omega)] at ho
      go_wp2
      go_ret
      exact ⟨_, _, rfl, ho, hb⟩

set_option maxHeartbeats 1000000 in
theorem laws_toUser (c d : ByteArray) (g l : Int) (w : World) :
    Calls Try.prog 23 #[.agg #[.string c, .string d, .int .i64 g, .int .i64 l]] w fun e w' => e = .returned (.agg #[.string c, .string d, .int .i64 g, .int .i64 l]) ∧ Below w.heap.size w w' := by
  go_enter Try.func23, Try.ntmps23
  go_wp2
  refine bodyPost_ret (v := .agg #[.string c, .string d, .int .i64 g, .int .i64 l]) (by simp [results, Try.results23, go_sem]) rfl ⟨rfl, ?_⟩
  exact ((((Below.refl _ _).alloc (Nat.le_refl _) _).alloc (by simp) _).alloc (by simp; omega) _)
set_option maxHeartbeats 1000000 in
theorem laws_szUser (c d : ByteArray) (g l : Int) (m : Int) (w : World) (hc : c.size ≤ maxLen) (hd : d.size ≤ maxLen) (h0 : 0 ≤ m) (h1 : m ≤ 1048576) :
    Calls Try.prog 21 #[.agg #[.string c, .string d, .int .i64 g, .int .i64 l], .int .i64 m] w fun e w' => e = .returned (.int .i64 (if m - c.size < 0 then -1 else if m - c.size - d.size < 0 then -1 else m - c.size - d.size)) ∧ Below w.heap.size w w' := by
  unfold maxLen at hc hd
  by_cases h2 : m - c.size < 0
  · rw [if_pos h2]
    go_enter Try.func21, Try.ntmps21
    go_wp2
    go_ret
    exact ⟨rfl, (Below.refl _ _).alloc (Nat.le_refl _) _⟩
  · by_cases h3 : m - c.size - d.size < 0
    · rw [if_neg h2, if_pos h3]
      go_enter Try.func21, Try.ntmps21
      go_wp2
      go_ret
      exact ⟨rfl, (Below.refl _ _).alloc (Nat.le_refl _) _⟩
    · rw [if_neg h2, if_neg h3]
      go_enter Try.func21, Try.ntmps21
      go_wp2
      go_ret
      exact ⟨rfl, (Below.refl _ _).alloc (Nat.le_refl _) _⟩

end Go.Proofs.Ytibogcgfhmejlaa
