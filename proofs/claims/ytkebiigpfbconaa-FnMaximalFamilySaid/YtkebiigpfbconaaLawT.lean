/- What the laws' helpers on texts do: the sum and the turned one. Conditions: as each theorem says. -/
import Derived.Test.YtkebiigpfbconaaC5
import Derived.Test.YtkebiigpfbconaaDrawS
import Derived.Deep.RegionLaw
namespace Go.Proofs.Ytkebiigpfbconaa
open Go.RowKit
set_option linter.unusedSimpArgs false
set_option linter.unusedVariables false

theorem take_next {α : Type} (l : List α) (k : Nat) (x : α) (h : l[k]? = some x) : l.take (k + 1) = l.take k ++ [x] := by
  obtain ⟨hk, rfl⟩ := List.getElem?_eq_some_iff.1 h
  rw [List.take_succ_eq_append_getElem hk]
theorem bytes_snoc (l : List UInt8) (c : UInt8) : bytes l ++ [Value.int .u8 (c.toNat : Int)] = bytes (l ++ [c]) := by simp [bytes]
theorem step_append_rd {P : Program} {ops : Array Oper} {o : Oper} {a : Act} {w : World} {K : Act → World → Prop} {Q : Exit → Act → World → Prop} {E : Prop}
    (hg : o.guard = none) (s x : Operand) (t : TypeId) (hop : o.op = Op.call { callee := Callee.builtin Builtin.append, args := #[s, x], argTypes := #[t, t] })
    (base e : Nat) (z : Value) (bytes : Nat) (ht : P.underlying t = some (.slice e)) (hinfo : (P.info? e).map (fun i => (i.zero, i.size, i.bytes)) = some (some z, 1, bytes)) (hz1 : z.cells = #[z])
    (v : Value) (n : Nat) (xs : List Value) (hs : a.eval s = v) (hown : w.ownsRow base e 1 v n xs) (S : Option Addr) (m c : Nat) (news : List Value) (hx : a.eval x = .slice S m c) (hrd : Rd w S m 1 news) (h1 : ∀ u ∈ news, u.oneCell' = true)
    (h63 : n + m ≤ 1099511627776) (hby : bytes ≤ 64) (hbase : base ≤ w.heap.size)
    (h : ∀ A q c' w', Hid (q = n + m) → w'.ownsRow base e 1 (.slice A q c') q (xs ++ news) → w.grownBy w' v.ownBlock → K (a.put o.dst (.slice A q c')) w') :
    if Region.wanted o (yielded ops a.tmps) = true then Oper.wp P o a w K Q else E := by
  have hw : Region.wanted o (yielded ops a.tmps) = true := by simp [Region.wanted, hg]
  rw [if_pos hw]
  obtain ⟨A, c', w', hr, h2, h3⟩ := append_rd (P := P) w base t o.type e z bytes ht hinfo hz1 v n xs hown S m c news hrd h1 h63 hby hbase
  unfold Oper.wp execOp
  simp only [hop, resolve, invoke, builtin, Sem.run_bind, Sem.run_pure, Result.andThen_ok, List.map_toArray, List.map_cons, List.map_nil, hs, hx, hr]
  exact h A (n + m) c' w' rfl h2 h3

end Go.Proofs.Ytkebiigpfbconaa
