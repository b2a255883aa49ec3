/- Rows of structs: append of one struct; lists of pairs of numbers. Conditions: as each theorem says. -/
import Derived.Test.YtkebiigpfbconaaLaw
import Derived.Test.YtkebiigpfbconaaRdr
import Derived.Deep.RegionLaw
import Derived.Deep.RegionHeld3
namespace Go.Proofs.Ytkebiigpfbconaa
open Go.RowKit
set_option linter.unusedSimpArgs false
set_option linter.unusedVariables false
set_option maxRecDepth 100000

theorem rd_newN (w : World) (L : List Value) (E : TypeId) (n s : Nat) (h : L.length = n * s) : Rd (w.alloc (.cells L.toArray E)) (some ⟨w.heap.size, 0, none⟩) n s L := by
  refine ⟨h, fun _ => ⟨w.heap.size, 0, rfl, by simp, fun j u hu => ?_⟩⟩
  rw [Nat.zero_add, cell_of_row _ _ j _ _ _ (heap_alloc_new w _)]
  simpa using hu
theorem append_rdN {P : Program} (w : World) (base t ty e sz : Nat) (z : Value) (bytes : Nat) (ht : P.underlying t = some (.slice e)) (hinfo : (P.info? e).map (fun i => (i.zero, i.size, i.bytes)) = some (some z, sz, bytes)) (hz1 : z.cells.size = sz) (hs0 : 0 < sz)
    (v : Value) (n : Nat) (xs : List Value) (hown : w.ownsRow base e sz v n xs) (S : Addr) (m c : Nat) (news : List Value) (hrd : Rd w (some S) m sz news) (hm : 0 < m) (h1 : ∀ u ∈ news, u.oneCell' = true)
    (h63 : n + m ≤ 1099511627776) (hby : bytes ≤ 64) (hbase : base ≤ w.heap.size) :
    ∃ A c' w', (Builtin.append_ #[t, t] ty #[v, .slice (some S) m c]).run P w = .ok (.slice A (n + m) c') w' ∧ w'.ownsRow base e sz (.slice A (n + m) c') (n + m) (xs ++ news) ∧ w.grownBy w' v.ownBlock := by
  obtain ⟨i, hi, hzz⟩ := Option.map_eq_some_iff.1 hinfo
  simp only [Prod.mk.injEq] at hzz
  obtain ⟨hz, hsz, hbb⟩ := hzz
  have hnl : news.length = m * sz := hrd.1
  have hcells : ∀ j u, news[j]? = some u → w.cell? (S.add j) = some u := by
    intro j u hu
    obtain ⟨b, o, h, _, hc⟩ := hrd.2 hm
    injection h with h
    subst h
    rw [add_plain]; exact hc j u hu
  obtain ⟨v', w', h2, h3, h4, _⟩ := run_append_own (P := P) w base t ty e i z sz bytes ht hi hz hsz hbb hz1 hs0 v n xs hown S m c news hnl hcells h1
    (by unfold maxLen; omega) (by have : (n + m) * bytes ≤ 1099511627776 * 64 := Nat.mul_le_mul h63 hby; omega) hbase
  rcases h3.2 with ⟨hv, h0⟩ | ⟨g, cap, cur, hv, _⟩
  · omega
  · subst hv
    exact ⟨_, _, w', h2, h3, h4⟩
theorem wpList_append_rdN {P : Program} (w : World) {ops : Array Oper} {rest : List Oper} {o : Oper} {a : Act} {Q : Exit → Act → World → Prop} (hgd : o.guard = none) (s x : Operand) (t : TypeId)
    (ho : o.op = .call { callee := .builtin .append, args := #[s, x], argTypes := #[t, t] })
    (base e sz : Nat) (z : Value) (bytes : Nat) (ht : P.underlying t = some (.slice e)) (hinfo : (P.info? e).map (fun i => (i.zero, i.size, i.bytes)) = some (some z, sz, bytes)) (hz1 : z.cells.size = sz) (hs0 : 0 < sz)
    (v : Value) (n : Nat) (xs : List Value) (hs : a.eval s = v) (hown : w.ownsRow base e sz v n xs) (S : Addr) (m c : Nat) (news : List Value) (hx : a.eval x = .slice (some S) m c) (hrd : Rd w (some S) m sz news) (hm : 0 < m) (h1 : ∀ u ∈ news, u.oneCell' = true)
    (h63 : n + m ≤ 1099511627776) (hby : bytes ≤ 64) (hbase : base ≤ w.heap.size)
    (h : ∀ A q c' w', Hid (q = n + m) → w'.ownsRow base e sz (.slice A q c') q (xs ++ news) → w.grownBy w' v.ownBlock → wpList P ops Q rest (a.put o.dst (.slice A q c')) w') : wpList P ops Q (o :: rest) a w := by
  refine wpList_plain hgd fun K hK => ?_
  obtain ⟨A, c', w', hr, h2, h3⟩ := append_rdN (P := P) w base t o.type e sz z bytes ht hinfo hz1 hs0 v n xs hown S m c news hrd hm h1 h63 hby hbase
  unfold Oper.wp execOp
  simp only [ho, resolve, invoke, builtin, Sem.run_bind, Sem.run_pure, Result.andThen_ok, List.map_toArray, List.map_cons, List.map_nil, hs, hx, hr]
  exact hK _ _ (h A (n + m) c' w' rfl h2 h3)
theorem step_append_rdN {P : Program} {ops : Array Oper} {o : Oper} {a : Act} {w : World} {K : Act → World → Prop} {Q : Exit → Act → World → Prop} {E : Prop}
    (hg : o.guard = none) (s x : Operand) (t : TypeId) (hop : o.op = Op.call { callee := Callee.builtin Builtin.append, args := #[s, x], argTypes := #[t, t] })
    (base e sz : Nat) (z : Value) (bytes : Nat) (ht : P.underlying t = some (.slice e)) (hinfo : (P.info? e).map (fun i => (i.zero, i.size, i.bytes)) = some (some z, sz, bytes)) (hz1 : z.cells.size = sz) (hs0 : 0 < sz)
    (v : Value) (n : Nat) (xs : List Value) (hs : a.eval s = v) (hown : w.ownsRow base e sz v n xs) (S : Addr) (m c : Nat) (news : List Value) (hx : a.eval x = .slice (some S) m c) (hrd : Rd w (some S) m sz news) (hm : 0 < m) (h1 : ∀ u ∈ news, u.oneCell' = true)
    (h63 : n + m ≤ 1099511627776) (hby : bytes ≤ 64) (hbase : base ≤ w.heap.size)
    (h : ∀ A q c' w', Hid (q = n + m) → w'.ownsRow base e sz (.slice A q c') q (xs ++ news) → w.grownBy w' v.ownBlock → K (a.put o.dst (.slice A q c')) w') :
    if Region.wanted o (yielded ops a.tmps) = true then Oper.wp P o a w K Q else E := by
  have hw : Region.wanted o (yielded ops a.tmps) = true := by simp [Region.wanted, hg]
  rw [if_pos hw]
  obtain ⟨A, c', w', hr, h2, h3⟩ := append_rdN (P := P) w base t o.type e sz z bytes ht hinfo hz1 hs0 v n xs hown S m c news hrd hm h1 h63 hby hbase
  unfold Oper.wp execOp
  simp only [hop, resolve, invoke, builtin, Sem.run_bind, Sem.run_pure, Result.andThen_ok, List.map_toArray, List.map_cons, List.map_nil, hs, hx, hr]
  exact h A (n + m) c' w' rfl h2 h3
/-- Two rows of one world with elements of different types lie apart. -/
theorem own_diff {w : World} {b1 b2 E1 E2 s1 s2 n1 n2 : Nat} {v1 v2 : Value} {xs ys : List Value} (h1 : w.ownsRow b1 E1 s1 v1 n1 xs) (h2 : w.ownsRow b2 E2 s2 v2 n2 ys) (hne : E1 ≠ E2) :
    v1.ownBlock = none ∨ v1.ownBlock ≠ v2.ownBlock := by
  rcases h1.2 with ⟨rfl, _⟩ | ⟨g, cap, cur, rfl, _, hg, _⟩
  · exact .inl rfl
  · right
    rcases h2.2 with ⟨rfl, _⟩ | ⟨g', cap', cur', rfl, _, hg', _⟩
    · intro h; cases h
    · intro h
      injection h with h
      have h' : g = g' := h
      subst h'
      rw [hg] at hg'
      injection hg' with hg'
      injection hg' with _ h3
      exact hne h3
/-- The cells of a list of pairs. -/
def pcells (ps : List (Int × Int)) : List Value := ps.flatMap fun p => [Value.int .i64 p.1, Value.int .i64 p.2]
theorem pcells_len (ps : List (Int × Int)) : (pcells ps).length = ps.length * 2 := by
  induction ps with
  | nil => rfl
  | cons p ps ih => unfold pcells at ih ⊢; rw [List.flatMap_cons, List.length_append, ih, List.length_cons]; simp; omega
theorem pcells_snoc (ps : List (Int × Int)) (p : Int × Int) : pcells (ps ++ [p]) = pcells ps ++ [Value.int .i64 p.1, Value.int .i64 p.2] := by
  unfold pcells; rw [List.flatMap_append]; rfl
theorem pcells_at (ps : List (Int × Int)) : ∀ (k : Nat) (p : Int × Int), ps[k]? = some p → (pcells ps)[k * 2]? = some (.int .i64 p.1) ∧ (pcells ps)[k * 2 + 1]? = some (.int .i64 p.2) := by
  induction ps with
  | nil => intro k p h; simp at h
  | cons q ps ih =>
    intro k p h
    cases k with
    | zero => simp at h; subst h; exact ⟨rfl, rfl⟩
    | succ k =>
      have := ih k p (by simpa using h)
      unfold pcells at this ⊢
      rw [List.flatMap_cons, show (k + 1) * 2 = k * 2 + 2 by omega, show k * 2 + 2 + 1 = (k * 2 + 1) + 2 by omega]
      exact this
theorem ownP_num {w : World} {B E n : Nat} {v : Value} {ps : List (Int × Int)} (h : w.ownsRow B E 2 v n (pcells ps)) : ps.length = n := by
  have := h.1; rw [pcells_len] at this; omega
theorem Try.infoPair : (Try.prog.info? 89).map (fun i => (i.zero, i.size, i.bytes)) = some (some (.agg #[.int .i64 0, .int .i64 0]), 2, 16) := by kernel_rfl

end Go.Proofs.Ytkebiigpfbconaa
