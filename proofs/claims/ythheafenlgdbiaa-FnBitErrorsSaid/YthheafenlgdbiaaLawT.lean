/- What the laws' helpers on texts do: the sum and the turned one. Conditions: as each theorem says. -/
import Derived.Test.YthheafenlgdbiaaC5
import Derived.Test.YthheafenlgdbiaaDrawS
import Derived.Deep.RegionLaw
namespace Go.Proofs.Ythheafenlgdbiaa
open Go.RowKit
set_option linter.unusedSimpArgs false
set_option linter.unusedVariables false

theorem take_next {α : Type} (l : List α) (k : Nat) (x : α) (h : l[k]? = some x) : l.take (k + 1) = l.take k ++ [x] := by
  obtain ⟨hk, rfl⟩ := List.getElem?_eq_some_iff.1 h
  rw [List.take_succ_eq_append_getElem hk]
theorem bytes_snoc (l : List UInt8) (c : UInt8) : bytes l ++ [Value.int .u8 (c.toNat : Int)] = bytes (l ++ [c]) := by simp [bytes]
theorem step_append_rd {P : Program} {ops : Array Oper} {o : Oper} {a : Act} {w : World} {K : Act → World → Prop} {Q : Exit → Act → World → Prop} {E : Prop}
    (hg : o.guard = none) (s x : Operand) (t : TypeId) (hop : o.op = Op.call { callee := Callee.builtin Builtin.append, args := #[s, x], argTypes := #[t, t] })
    (base e : Nat) (z : Value) (bytes : Nat) (ht : P.underlying t = some (.slice e)) (hinfo : (P.info? e).map (fun i => (i.zero, i.size, i.bytes)) = some (some z, 1, bytes)) (hz1 : z.cells = #[z])
    (v : Value) (n : Nat) (xs : List Value) (hs : a.eval s = v) (hown : w.ownsRow base e 1 v n xs) (S : Option Addr) (m c : Nat) (news : List Value) (hx : a.eval x = .slice S m c) (hrd : Rd w S m 1 news) (h1 : ∀ u ∈ news, u.oneCell' = true)
    (h63 : n + m ≤ 1099511627776) (hby : bytes ≤ 64) (hbase : base ≤ w.heap.size)
    (h : ∀ A q c' w', Hid (q = n + m) → w'.ownsRow base e 1 (.slice A q c') q (xs ++ news) → w.grownBy w' v.ownBlock → K (a.put o.dst (.slice A q c')) w') :
    if Region.wanted o (yielded ops a.tmps) = true then Oper.wp P o a w K Q else E := by
  have hw : Region.wanted o (yielded ops a.tmps) = true := by simp [Region.wanted, hg]
  rw [if_pos hw]
  obtain ⟨A, c', w', hr, h2, h3⟩ := append_rd (P := P) w base t o.type e z bytes ht hinfo hz1 v n xs hown S m c news hrd h1 h63 hby hbase
  unfold Oper.wp execOp
  simp only [hop, resolve, invoke, builtin, Sem.run_bind, Sem.run_pure, Result.andThen_ok, List.map_toArray, List.map_cons, List.map_nil, hs, hx, hr]
  exact h A (n + m) c' w' rfl h2 h3
set_option maxHeartbeats 1000000 in
theorem laws_ssXor (s t : ByteArray) (w : World) (hs : s.size ≤ 1048576) (hst : s.size = t.size) (hb : s.data.toList.all isBit = true) (hb' : t.data.toList.all isBit = true) :
    Calls Try.prog 45 #[.string s, .string t] w (RetStr (addBL s.data.toList t.data.toList) w) := by
  have hal : (addBL s.data.toList t.data.toList).length = s.size := by rw [addBL_len _ _ (by rw [len_data, len_data]; exact hst), len_data]
  have HAL := Lib.hid hal
  have HB := Lib.hid hb
  have HB' := Lib.hid hb'
  have HSZ := Lib.hid hst
  clear hal hb hb' hst
  have hmk := run_make_cap (P := Try.prog) 40 5 (.int .u8 0) 1 Try.underlying40 Try.infoU8 rfl .i64 .i64 s.size (by omega) (by omega)
  go_enter Try.func45, Try.ntmps45
  go_wp2_with fail
  clear hmk
  go_loopw [5, 6] (fun o v wr => ∃ (i : Nat) (A : Option Addr) (n c : Nat), i ≤ s.size ∧ v = .int .i64 i ∧ o = .slice A n c ∧ n ≤ s.size ∧ wr.ownsRow w.heap.size 5 1 (.slice A n c) n (bytes ((addBL s.data.toList t.data.toList).take i)) ∧ Below w.heap.size w wr) (fun _ v _ => s.size - (intOf v).toNat)
  case atStart => exact ⟨0, _, 0, _, Nat.zero_le _, rfl, rfl, Nat.zero_le _, own_cap0 w _ _ _ (by unfold maxLen; omega), (Below.refl _ _).alloc (Nat.le_refl _) _⟩
  case round =>
    obtain ⟨k, A, n, c, hk, rfl, rfl, hn, ho, hb⟩ := hrel
    have hnk : n = k := by have h5 := ho.1; rw [bytes_len, List.length_take, HAL.out] at h5; omega
    subst hnk
    by_cases hlt : n < s.size
    · have hlt' : n < t.size := by have := HSZ.out; omega
      have hxa := addBL_at _ _ n _ _ (data_at s n hlt) (data_at t n hlt')
      have HXA := Lib.hid hxa
      have hx := bit_toNat _ (List.all_eq_true.1 HB.out s[n] (List.mem_of_getElem? (data_at s n hlt)))
      have hy := bit_toNat _ (List.all_eq_true.1 HB'.out t[n] (List.mem_of_getElem? (data_at t n hlt')))
      have HO := Lib.hid (own_below ho (Below.refl _ _).drew)
      have hb' := hb.drew
      have HW := Lib.hid hb.size
      clear hxa ho hb
      rcases hx with ⟨hx1, hx2⟩ | ⟨hx1, hx2⟩ <;> rcases hy with ⟨hy1, hy2⟩ | ⟨hy1, hy2⟩
      all_goals
        have HX1 := Lib.hid hx1
        have HY1 := Lib.hid hy1
        clear hx1 hy1
        go_wp2
        go_region_law (refine step_append_rd rfl (.tmp 22) (.tmp 33) 40 rfl w.heap.size 5 (.int .u8 0) 1 Try.underlying40 Try.infoU8 rfl (.slice A n c) n _ (by simp [Act.eval, Act.put]) (own_below HO.out ((Below.refl _ _).alloc (Nat.le_refl _) _)) _ 1 1 [_] (by simp [Act.eval, Act.put]) (rd_new _ [_] _ 1 rfl) (by simp [Value.oneCell']) (by omega) (by omega) (by have h5 := hb'.size; simp at h5 ⊢; omega) ?_; intro A' q c' w' hq ho hg; have HQ := Lib.hid hq; have HO2 := Lib.hid ho; have HG := Lib.hid hg; clear hq ho hg)
        all_goals
          go_wp2
          go_roundw
          case rel =>
            have hq := HQ.out.out
            have hg2 := own_below_of HO.out (grown_trans (World.grownBy_alloc _ _ _) HG.out) (by have := hb'.size; omega)
            have h5 : w'.ownsRow w.heap.size 5 1 (.slice A' q c') q (bytes ((addBL s.data.toList t.data.toList).take (n + 1))) := by
              rw [take_next _ _ _ HXA.out, ← bytes_snoc, HX1.out, HY1.out]
              exact HO2.out
            exact ⟨n + 1, A', q, c', by omega, by go_num, rfl, by omega, h5, hb'.trans hg2⟩
          case measure => simp [intOf] <;> omega
    · rw [List.take_of_length_le (by rw [HAL.out]; omega)] at ho
      have hcv := own_string (P := Try.prog) (src := 40) (dst := 9) _ Try.underlying40 Try.underlying5 Try.underlying9 ho
      go_wp2
      go_ret
      exact ⟨_, rfl, rfl, hb⟩
set_option maxHeartbeats 1000000 in
theorem laws_ssTurned (s : ByteArray) (w : World) (hs : s.size ≤ 1048576) :
    Calls Try.prog 44 #[.string s] w (RetStr s.data.toList.reverse w) := by
  have hal : s.data.toList.reverse.length = s.size := by rw [List.length_reverse, len_data]
  have HAL := Lib.hid hal
  clear hal
  have hmk := run_make_cap (P := Try.prog) 40 5 (.int .u8 0) 1 Try.underlying40 Try.infoU8 rfl .i64 .i64 s.size (by omega) (by omega)
  go_enter Try.func44, Try.ntmps44
  go_wp2_with fail
  clear hmk
  go_loopw [3, 4] (fun o v wr => ∃ (j : Nat) (A : Option Addr) (n c : Nat), n + j = s.size ∧ v = .int .i64 ((j : Int) - 1) ∧ o = .slice A n c ∧ wr.ownsRow w.heap.size 5 1 (.slice A n c) n (bytes (s.data.toList.reverse.take n)) ∧ Below w.heap.size w wr) (fun _ v _ => (intOf v + 1).toNat)
  case atStart => exact ⟨s.size, _, 0, _, by omega, by go_num, rfl, own_cap0 w _ _ _ (by unfold maxLen; omega), (Below.refl _ _).alloc (Nat.le_refl _) _⟩
  case round =>
    obtain ⟨j, A, n, c, hj, rfl, rfl, ho, hb⟩ := hrel
    rcases j with _ | j
    · rw [List.take_of_length_le (by rw [HAL.out]; omega)] at ho
      rw [show ((0 : Nat) : Int) - 1 = -1 from rfl]
      have hcv := own_string (P := Try.prog) (src := 40) (dst := 9) _ Try.underlying40 Try.underlying5 Try.underlying9 ho
      go_wp2
      go_ret
      exact ⟨_, rfl, rfl, hb⟩
    · rw [show ((j + 1 : Nat) : Int) - 1 = (j : Int) by omega]
      have hlt : j < s.size := by omega
      have hxa : s.data.toList.reverse[n]? = some s[j] := by
        rw [List.getElem?_reverse (by rw [len_data]; omega), len_data, show s.size - 1 - n = j by omega]
        exact data_at s j hlt
      have HXA := Lib.hid hxa
      have HO := Lib.hid ho
      have hb' := hb
      clear hxa ho hb
      go_wp2_with (at_builtin; refine wpList_append_rd _ rfl _ _ 40 rfl w.heap.size 5 (.int .u8 0) 1 Try.underlying40 Try.infoU8 rfl (.slice A n c) _ _ rfl ((own_below HO.out ((Below.refl _ _).alloc (Nat.le_refl _) _))) _ _ _ [.int .u8 ((s[j]).toNat : Int)] rfl (rd_new _ [.int .u8 _] _ 1 rfl) (by simp [Value.oneCell']) ?_ (by omega) ?_ ?_; omega; simp; have := hb'.size; omega; intro A' q c' w' hq ho hg; have HQ := Lib.hid hq; have HO2 := Lib.hid ho; have HG := Lib.hid hg; clear hq ho hg)
      go_roundw
      case rel =>
        have hq := HQ.out.out
        have hg2 := own_below_of HO.out (grown_trans (World.grownBy_alloc _ _ _) HG.out) (by have := hb'.size; omega)
        have h5 := HO2.out
        rw [bytes_snoc, ← take_next _ _ _ HXA.out] at h5
        obtain rfl : q = n + 1 := by omega
        exact ⟨j, A', n + 1, c', by omega, rfl, rfl, h5, hb'.trans hg2⟩
      case measure => simp [intOf] <;> omega

end Go.Proofs.Ythheafenlgdbiaa
