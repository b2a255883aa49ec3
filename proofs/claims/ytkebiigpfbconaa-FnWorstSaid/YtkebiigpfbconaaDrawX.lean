/- Draws of families of strings. Conditions: as each theorem says. -/
import Derived.Test.YtkebiigpfbconaaR10
import Derived.Test.YtkebiigpfbconaaC7
namespace Go.Proofs.Ytkebiigpfbconaa
open Go.RowKit
set_option linter.unusedSimpArgs false
set_option linter.unusedVariables false
set_option maxRecDepth 100000

theorem infoStrW : (Try.prog.info? 9).map (fun i => (i.zero, i.size, i.bytes)) = some (some (.string ⟨#[]⟩), 1, 16) := by kernel_rfl
/-- A list of strings was drawn. -/
def DrewSs (w : World) (e : Ending) (w' : World) : Prop :=
  ∃ (A : Option Addr) (m c : Nat) (ss : List ByteArray), e = .returned (.slice A m c) ∧ RdS w' A m ss ∧ m ≤ c ∧ m ≤ 6 ∧ (∀ s ∈ ss, s.size ≤ 5000) ∧ Below w.heap.size w w'
set_option maxHeartbeats 4000000 in
theorem spec_DrawWorstCross (A : Option Addr) (n c : Nat) (zs : List Int) (w : World) (hx : RowIn .u8 w A n c zs) :
    Calls Try.prog 15 #[.slice A n c] w (DrewSs w) := by
  go_enter Try.func15, Try.ntmps15
  go_wp2_with fail
  refine (rd_open _ _ _ _ _ hx).mono ?_
  rintro e w1 ⟨g, rfl, hg, hr1, hb1⟩
  have hs1 := hb1.size
  go_wp2_with fail
  refine (spec_l2Some g _ w1 hr1 (by omega)).mono ?_
  rintro e w2 ⟨x0, rfl, hx1, hx2, hx3, hb2, hr2⟩
  have hs2 := hb2.size
  have hg2 : g < w2.heap.size := hr2.lt
  clear hx3 hr1
  go_wp2_with fail
  have ho3 := own_lit w2 9 1 [.string x0] rfl (by unfold maxLen; omega)
  have hr3 := hr2.alloc (.cells #[.string x0] 9)
  have hb3 : Bel g w1.heap.size w1 (w2.alloc (.cells #[.string x0] 9)) := hb2.alloc hs2 _
  replace ho3 : (w2.alloc (.cells #[.string x0] 9)).ownsRow w2.heap.size 9 1 (.slice (some ⟨w2.heap.size, 0, none⟩) 1 1) 1 [.string x0] := ho3
  have hs23 : w2.heap.size ≤ (w2.alloc (.cells #[.string x0] 9)).heap.size := by simp
  generalize w2.alloc (.cells #[.string x0] 9) = w3 at *
  have hs3 := hb3.size
  refine (rd_pick _ _ _ _ hr3 (by omega) (by omega) (by omega)).mono ?_
  rintro e w4 ⟨q, rfl, hq0, hq1, hq2, hb4, hr4⟩
  obtain ⟨q, rfl⟩ := Int.eq_ofNat_of_zero_le hq0
  have hq3 := hq1 (by omega)
  have hB4 := hb3.trans' hb4 hs3
  have hs24 : w2.heap.size ≤ w4.heap.size := Nat.le_trans hs23 hb4.size
  have HO4 := Lib.hid (own_bel ho3 hb4 hg2)
  clear hq1 hq2 hr3 hr2 hb2 hb3 hb4 ho3 hs3 hs23
  go_wp2_with fail
  go_loopw [4, 5] (fun o v wr => ∃ (i m c : Nat) (A : Option Addr) (ss : List ByteArray), v = .int .i64 i ∧ o = .slice A m c ∧ wr.ownsRow w2.heap.size 9 1 (.slice A m c) m (ss.map Value.string) ∧ Hid (ss[0]? = some x0) ∧ i + m ≤ 4 ∧ Hid (∀ s ∈ ss, s.size ≤ 5000) ∧ Bel g w1.heap.size w1 wr ∧ Rdr wr g (1300 + 100 * m) ∧ w2.heap.size ≤ wr.heap.size) (fun _ v _ => (intOf v).toNat)
  case atStart => exact ⟨q, 1, 1, _, [x0], rfl, rfl, HO4.out, rfl, by omega, fun s hs => by rw [List.mem_singleton.1 hs]; omega, hB4, hr4.more (by omega), hs24⟩
  case round =>
    obtain ⟨i, m, c', B, ss, rfl, rfl, ho, hx0, him, hss, hB, hr, hsz⟩ := hrel
    have hz := hB.size
    clear HO4 hr4 hs24 hB4
    have hm1 : 1 ≤ m := by
      have h7 := ho.1
      rw [List.length_map] at h7
      have h8 := (List.getElem?_eq_some_iff.1 hx0.out).1
      omega
    obtain ⟨gb, rfl, hgb1, hgb2⟩ := own_some ho (show 0 < m by omega)
    by_cases hlt : 0 < i
    · have d0 : decide ((0 : Int) < (i : Int)) = true := decide_eq_true (by omega)
      have HO := Lib.hid ho
      clear ho
      go_wp2_with fail
      go_loopw [6] (fun v wr => ∃ u : ByteArray, v = .string u ∧ u.size ≤ x0.size ∧ wr.ownsRow w2.heap.size 9 1 (.slice (some ⟨gb, 0, none⟩) m c') m (ss.map Value.string) ∧ Bel g w1.heap.size w1 wr ∧ Rdr wr g (1300 + 100 * m + u.size) ∧ w2.heap.size ≤ wr.heap.size) (fun v _ => match v with | .string u => x0.size - u.size | _ => 0)
      case atStart => exact ⟨⟨#[]⟩, rfl, Nat.zero_le _, HO.out, hB, hr.more (by show (1300 : Int) + 100 * (m : Int) ≤ 1300 + 100 * (m : Int) + ((0 : Nat) : Int); omega), hsz⟩
      case round =>
        obtain ⟨u, rfl, hus, hou, hBu, hru, hszu⟩ := hrel
        have hzu := hBu.size
        have hcu : wr.cell? ⟨gb, 0, none⟩ = some (.string x0) := (hou.cellAt 0 (show 0 < m * 1 by omega)).trans (by rw [List.getElem?_map, hx0.out]; rfl)
        have HOU := Lib.hid hou
        clear hou HO hB hr hz hsz
        by_cases hlt2 : u.size < x0.size
        · obtain ⟨wo, rfl⟩ : ∃ wo, wo = wr := ⟨_, rfl⟩
          go_wp2_with fail
          refine (rd_pick _ _ _ _ hru (by omega) (by omega) (by omega)).mono ?_
          rintro e w5 ⟨j, rfl, hj0, hj1, hj2, hb5, hr5⟩
          obtain ⟨j, rfl⟩ := Int.eq_ofNat_of_zero_le hj0
          have hj3 := hj1 (by omega)
          have hB5 := hBu.trans' hb5 hzu
          have hz5 := hB5.size
          have HO5 := Lib.hid (own_bel HOU.out hb5 hg2)
          have hsz5 := Nat.le_trans hszu hb5.size
          clear hj1 hj2 hb5 hcu
          go_wp2_with fail
          refine (spec_l9Dec j w5 (by omega)).mono ?_
          rintro e w6 ⟨x, rfl, hx', hb6⟩
          have hxs : x.size = 1 := by rw [str_size hx']; rfl
          clear hx'
          have hr6 := hr5.below hb6
          have hB6 := hB5.trans' (Bel.of_below hb6) hz5
          have HO6 := Lib.hid (own_below HO5.out hb6)
          have hsz6 := Nat.le_trans hsz5 hb6.size
          clear hb6 HO5
          go_wp2_with fail
          go_roundw
          case rel => exact ⟨_, rfl, by rw [ByteArray.size_append]; omega, HO6.out, hB6, hr6.more (by rw [ByteArray.size_append]; omega), hsz6⟩
          case measure => simp [ByteArray.size_append]; omega
        · obtain ⟨wo, rfl⟩ : ∃ wo, wo = wr := ⟨_, rfl⟩
          have hl : ∀ k, Value.ownBlock (.slice (some ⟨gb, 0, none⟩) m c') = some k → w2.heap.size ≤ k := fun k hk => (HOU.out.lt k hk).1
          have HL := Lib.hid hl
          clear hl
          go_wp2_with (at_builtin; refine wpList_append_rd _ rfl _ _ 30 rfl w2.heap.size 9 (.string ⟨#[]⟩) 16 Try.underlying30 infoStrW rfl (.slice (some ⟨gb, 0, none⟩) m c') _ _ rfl (HOU.out.alloc _) _ _ _ [.string u] rfl (rd_new _ [.string u] _ 1 rfl) (by simp [Value.oneCell']) ?_ (by omega) ?_ ?_; omega; simp; omega; intro A' q' c'' w6 hq ho hg'; have HQ := Lib.hid hq.out; have HO6 := Lib.hid ho; have hB6 := (hBu.alloc hzu (.cells #[.string u] 9)).grown hg' (by simp; omega) (fun k hk => by have := HL.out k hk; omega); have hr6 := (hru.alloc (.cells #[.string u] 9)).grown hg' (fun k hk => by have := HL.out k hk; omega); have hs6 : w2.heap.size ≤ w6.heap.size := (by have := hg'.size; simp at this; omega); clear hq ho hg' hcu)
          go_roundw
          case rel => exact ⟨i - 1, q', c'', A', ss ++ [u], by go_num, rfl, by rw [List.map_append]; exact HO6.out, (List.getElem?_append_left (List.getElem?_eq_some_iff.1 hx0.out).1).trans hx0.out, by have := HQ.out; omega, fun s hs => by
            rcases List.mem_append.1 hs with hs | hs
            · exact hss.out s hs
            · rw [List.mem_singleton.1 hs]; omega, hB6, hr6.more (by have := HQ.out; omega), hs6⟩
          case measure => simp [intOf] <;> omega
    · obtain rfl : i = 0 := by omega
      obtain ⟨wo, rfl⟩ : ∃ wo, wo = wr := ⟨_, rfl⟩
      have HO := Lib.hid ho
      have hcap := own_le ho
      clear ho
      go_wp2_with fail
      refine (rd_pick _ _ _ _ hr (by omega) (by omega) (by omega)).mono ?_
      rintro e w5 ⟨t, rfl, ht0, ht1, ht2, hb5, hr5⟩
      have hB5 := hB.trans' hb5 hz
      have hz5 := hB5.size
      have HO5 := Lib.hid (own_bel HO.out hb5 hg2)
      have hsz5 := Nat.le_trans hsz hb5.size
      clear ht1 ht2 hb5 hB HO
      by_cases z0 : t = 0
      · have dz : (t == 0) = true := by simp [z0]
        clear z0
        go_wp2_with fail
        go_ret
        exact ⟨_, 0, _, [], rfl, ⟨by simp, fun h => absurd h (by omega)⟩, Nat.zero_le _, Nat.zero_le _, fun s hs => (by cases hs), hb1.trans ((hB5.mono hs1).to_below hg)⟩
      · have dz : (t == 0) = false := by simp [z0]
        clear z0
        by_cases z1 : t = 1
        · have dz1 : (t == 1) = true := by simp [z1]
          clear z1
          go_wp2_with fail
          refine (spec_l2Open g _ w5 hr5 (by omega)).mono ?_
          rintro e w6 ⟨y, rfl, hy, hb6, hr6⟩
          have hB6 := hB5.trans' hb6 hz5
          have hz6 := hB6.size
          have HO6 := Lib.hid (own_bel HO5.out hb6 hg2)
          have hsz6 := Nat.le_trans hsz5 hb6.size
          have hl : ∀ k, Value.ownBlock (.slice (some ⟨gb, 0, none⟩) m c') = some k → w2.heap.size ≤ k := fun k hk => (HO6.out.lt k hk).1
          have HL := Lib.hid hl
          clear hb6 HO5 hl
          go_wp2_with (at_builtin; refine wpList_append_rd _ rfl _ _ 30 rfl w2.heap.size 9 (.string ⟨#[]⟩) 16 Try.underlying30 infoStrW rfl (.slice (some ⟨gb, 0, none⟩) m c') _ _ rfl (HO6.out.alloc _) _ _ _ [.string y] rfl (rd_new _ [.string y] _ 1 rfl) (by simp [Value.oneCell']) ?_ (by omega) ?_ ?_; omega; simp; omega; intro A' q' c'' w7 hq ho hg'; have HQ := Lib.hid hq.out; have HO7 := Lib.hid ho; have hB7 := (hB6.alloc hz6 (.cells #[.string y] 9)).grown hg' (by simp; omega) (fun k hk => by have := HL.out k hk; omega); clear hq ho hg')
          go_ret
          exact ⟨_, _, _, ss ++ [y], rfl, own_rdS (by rw [List.map_append]; exact HO7.out), own_le HO7.out, by have := HQ.out; omega, fun s hs => by
            rcases List.mem_append.1 hs with hs | hs
            · exact hss.out s hs
            · rw [List.mem_singleton.1 hs]; omega, hb1.trans ((hB7.mono hs1).to_below hg)⟩
        · have dz1 : (t == 1) = false := by simp [z1]
          clear z1
          go_wp2_with fail
          go_ret
          exact ⟨_, _, _, ss, rfl, own_rdS HO5.out, hcap, by omega, hss.out, hb1.trans ((hB5.mono hs1).to_below hg)⟩

end Go.Proofs.Ytkebiigpfbconaa
