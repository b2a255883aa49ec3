/- What the draws of chapter 4 give back: some signal, some number. Conditions: as each theorem says. -/
import Derived.Test.YthheafenlgdbiaaRdr
namespace Go.Proofs.Ythheafenlgdbiaa
open Go.RowKit
set_option linter.unusedSimpArgs false
set_option linter.unusedVariables false

/-- Some slice of numbers of the call's own was drawn. -/
def DrawnS (g B : Nat) (K : Int) (M : Nat) (w : World) (e : Ending) (w' : World) : Prop :=
  ∃ (A : Option Addr) (n c : Nat) (zs : List Int), e = .returned (.slice A n c) ∧ w'.ownsRow B 3 1 (.slice A n c) n (zs.map (Value.int .i64)) ∧ n ≤ M ∧ Bel g B w w' ∧ Rdr w' g K
/-- Some number was drawn. -/
def DrawnI (g : Nat) (K : Int) (w : World) (e : Ending) (w' : World) : Prop :=
  ∃ x : Int, e = .returned (.int .i64 x) ∧ Bel g w.heap.size w w' ∧ Rdr w' g K
theorem pick_I {g : Nat} {n K : Int} {w w' : World} {e : Ending} (h : Picked g n K w e w') : DrawnI g (K + 1) w e w' := by
  obtain ⟨m, he, _, _, _, hb, hr⟩ := h; exact ⟨m, he, hb, hr⟩
theorem num_I {g : Nat} {zs : List Int} {K : Int} {w w' : World} {e : Ending} (h : OneOf g zs K w e w') : DrawnI g (K + 1) w e w' := by
  obtain ⟨m, he, _, hb, hr⟩ := h; exact ⟨m, he, hb, hr⟩

set_option maxHeartbeats 1000000 in
theorem spec_l4Some (g : Nat) (most K : Int) (w : World) (h : Rdr w g K) (hK : K ≤ 1000000000) (h0 : 0 ≤ most) (h1 : most ≤ 1000) :
    Calls Try.prog 80 #[.pointer (some ⟨g, 0, none⟩), .int .i64 most] w (DrawnS g w.heap.size (K + 1100) 1001 w) := by
  have hgl := h.lt
  go_enter Try.func80, Try.ntmps80
  go_wp2_with fail
  refine (rd_pick _ _ _ _ (h.alloc _) (by omega) (by omega) (by omega)).mono ?_
  rintro e w1 ⟨m, rfl, hm0, hm1, hm2, hb, hr⟩
  have hm3 := hm1 (by omega)
  have ho := own_bel (own_empty w 3 w.heap.size (Nat.le_refl _)) hb hgl
  have hB : Bel g w.heap.size w w1 := ((Bel.refl g _ w).alloc (Nat.le_refl _) _).trans' hb (by simp)
  have HO := Lib.hid ho
  clear ho hm1 hm2 hb h
  go_wp2_with fail
  go_loopw [5, 6] (fun s v wr => ∃ (i : Nat) (A : Option Addr) (n c : Nat) (zs : List Int), v = .int .i64 i ∧ s = .slice A n c ∧ wr.ownsRow w.heap.size 3 1 (.slice A n c) n (zs.map (Value.int .i64)) ∧ n + i ≤ 1001 ∧ Bel g w.heap.size w wr ∧ Rdr wr g (K + 1100 - i)) (fun _ v _ => (intOf v).toNat)
  case atStart =>
    obtain ⟨i, rfl⟩ := Int.eq_ofNat_of_zero_le hm0
    exact ⟨i, _, 0, 0, [], rfl, rfl, HO.out, by omega, hB, hr.more (by omega)⟩
  case round =>
    obtain ⟨i, A, n, c, zs, rfl, rfl, ho1, hni, hB1, hr1⟩ := hrel
    have hz1 := hB1.size
    have HO1 := Lib.hid ho1
    clear ho1
    by_cases hi : 0 < i
    · go_wp2_with (first | (go_at_call 86; refine (rd_pick _ _ _ _ hr1 (by omega) (by omega) (by omega)).mono ?_; rintro e w2 ⟨m2, rfl, hm20, hm21, hm22, hb2, hr2⟩; have hm23 := hm21 (by omega); clear hm21 hm22) | (at_builtin; refine wpList_append_rd _ rfl _ _ 27 rfl w.heap.size 3 (.int .i64 0) 8 Try.underlying27 Try.infoI64 rfl (.slice A n c) _ _ rfl ((own_bel HO1.out hb2 hgl).alloc _) _ _ _ [.int .i64 (m2 - 10)] rfl (rd_new _ [.int .i64 (m2 - 10)] _ 1 rfl) (by simp [Value.oneCell']) ?_ (by omega) ?_ ?_; omega; simp; have := hb2.size; omega; intro A' q c' w' hq ho hg; have HQ := Lib.hid hq; have HO2 := Lib.hid ho; have HG := Lib.hid hg; clear hq ho hg))
      go_roundw
      case rel =>
        have hq := HQ.out.out
        have hl : ∀ k, Value.ownBlock (.slice A n c) = some k → w.heap.size ≤ k := fun k hk => (HO1.out.lt k hk).1
        have hs2 := hb2.size
        exact ⟨i - 1, A', q, c', zs ++ [m2 - 10], by go_num, rfl, by rw [List.map_append]; exact HO2.out, by omega,
          ((hB1.trans' hb2 hz1).alloc (by omega) _).grown HG.out (by simp; omega) hl,
          ((hr2.alloc _).grown HG.out (fun k hk => by have := hl k hk; omega)).more (by omega)⟩
      case measure => simp [intOf]; omega
    · obtain rfl : i = 0 := by omega
      go_wp2
      go_ret
      exact ⟨A, n, c, zs, rfl, HO1.out, by omega, hB1, hr1.more (by omega)⟩

set_option maxHeartbeats 1000000 in
theorem spec_l4Bad (g B : Nat) (A : Option Addr) (n c : Nat) (zs : List Int) (K : Int) (w : World) (h : Rdr w g K) (hK : K ≤ 1000000000) (ho : w.ownsRow B 3 1 (.slice A n c) n (zs.map (Value.int .i64))) (hB : g < B) (hBw : B ≤ w.heap.size) (hn : n ≤ 4900) :
    Calls Try.prog 79 #[.pointer (some ⟨g, 0, none⟩), .slice A n c] w (DrawnS g B (K + 2) 5000 w) := by
  have HO := Lib.hid ho
  clear ho
  go_enter Try.func79, Try.ntmps79
  go_wp2_with fail
  refine (rd_pick _ _ _ _ h (by omega) (by omega) (by omega)).mono ?_
  rintro e w1 ⟨m, rfl, hm0, hm1, hm2, hb, hr⟩
  clear hm1 hm2
  have hs1 := hb.size
  have ho1 := own_bel HO.out hb hB
  have HO1 := Lib.hid ho1
  clear ho1
  by_cases c0 : m = 0
  · have d0 : (m == 0) = true := by simp [c0]
    clear c0
    go_wp2_with fail
    refine (rd_num_lit g [1000000, 1000001, -1000001, 9223372036854775807] _ 4 _ w1 hr (by omega) rfl rfl (by decide) (by decide)).mono ?_
    rintro e w2 ⟨x, rfl, _, hb2, hr2⟩
    have hs2 := hb2.size
    go_wp2_with (at_builtin; refine wpList_append_rd _ rfl _ _ 27 rfl B 3 (.int .i64 0) 8 Try.underlying27 Try.infoI64 rfl (.slice A n c) _ _ rfl ((own_bel HO1.out hb2 hB).alloc _) _ _ _ [.int .i64 x] rfl (rd_new _ [.int .i64 x] _ 1 rfl) (by simp [Value.oneCell']) ?_ (by omega) ?_ ?_; omega; simp; omega; intro A' q c' w' hq ho hg; have HQ := Lib.hid hq; have HO2 := Lib.hid ho; have HG := Lib.hid hg; clear hq ho hg)
    go_ret
    have hq := HQ.out.out
    have hl : ∀ k, Value.ownBlock (.slice A n c) = some k → B ≤ k := fun k hk => (HO1.out.lt k hk).1
    exact ⟨A', q, c', zs ++ [x], rfl, by rw [List.map_append]; exact HO2.out, by omega, (((hb.trans' hb2 hs1).mono hBw).alloc (by omega) _).grown HG.out (by simp; omega) hl,
      ((hr2.alloc _).grown HG.out (fun k hk => by have := hl k hk; omega)).more (by omega)⟩
  · have d0 : (m == 0) = false := by simp [c0]
    clear c0
    by_cases c1 : m = 1
    · have d1 : (m == 1) = true := by simp [c1]
      clear c1
      go_wp2_with fail
      refine (rd_num_lit g [3000, 3001] _ 2 _ w1 hr (by omega) rfl rfl (by decide) (by decide)).mono ?_
      rintro e w2 ⟨x, rfl, hx, hb2, hr2⟩
      have hs2 := hb2.size
      obtain ⟨j, rfl, hj⟩ : ∃ j : Nat, x = j ∧ j ≤ 3001 := by
        simp at hx
        rcases hx with rfl | rfl
        · exact ⟨3000, rfl, by omega⟩
        · exact ⟨3001, rfl, by omega⟩
      clear hx
      have hmk := run_make_row' (P := Try.prog) 27 3 (.int .i64 0) 8 Try.underlying27 Try.infoI64 rfl .i64 .i64 j (by omega) (by omega)
      go_wp2_with fail
      go_ret
      exact ⟨_, _, _, List.replicate j 0, rfl, by rw [List.map_replicate]; exact own_mono (own_made w2 _ j _ (by unfold maxLen; omega)) (by omega), by omega, ((hb.trans' hb2 hs1).mono hBw).alloc (by omega) _, (hr2.alloc _).more (by omega)⟩
    · have d1 : (m == 1) = false := by simp [c1]
      clear c1
      go_wp2_with fail
      go_ret
      exact ⟨A, n, c, zs, rfl, HO1.out, by omega, hb.mono hBw, hr.more (by omega)⟩


/-- A signal and a number were drawn. -/
def DrewSI (w : World) (e : Ending) (w' : World) : Prop :=
  ∃ (A : Option Addr) (n c : Nat) (zs : List Int) (x : Int), e = .returned (.tuple #[.slice A n c, .int .i64 x]) ∧ w'.ownsRow w.heap.size 3 1 (.slice A n c) n (zs.map (Value.int .i64)) ∧ n ≤ 5000 ∧ Below w.heap.size w w'

/-- A signal and two numbers were drawn. -/
def DrewSII (w : World) (e : Ending) (w' : World) : Prop :=
  ∃ (A : Option Addr) (n c : Nat) (zs : List Int) (x y : Int), e = .returned (.tuple #[.slice A n c, .int .i64 x, .int .i64 y]) ∧ w'.ownsRow w.heap.size 3 1 (.slice A n c) n (zs.map (Value.int .i64)) ∧ n ≤ 5000 ∧ Below w.heap.size w w'

end Go.Proofs.Ythheafenlgdbiaa
