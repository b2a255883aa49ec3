/- Words on memory that all the walks of this seat share: a slice that reads as a list, a row of the call's own, results that are strings or slices. Conditions: none. -/
import Derived.WalkKit
import Derived.WalkSpells
import Derived.WalkLawsBesides
import Derived.Lib.Hide
import Derived.Below
import Derived.Laws.OwnMore
import Derived.Deep.Draws
import Derived.Deep.QuietTactic
import Derived.BigQuiet
import Derived.Deep.OwnRows
import Derived.Laws.IdiomStrings
import Derived.Laws.CopyOwn
namespace Go.Proofs.Ytkebiigpfbconaa
open Go.RowKit
set_option linter.unusedSimpArgs false
set_option linter.unusedVariables false

/-- In the world w the slice of n elements of s cells each at A reads as the cells xs. -/
def Rd (w : World) (A : Option Addr) (n s : Nat) (xs : List Value) : Prop :=
  xs.length = n * s ∧ (0 < n → ∃ b o, A = some ⟨b, o, none⟩ ∧ b < w.heap.size ∧ ∀ j u, xs[j]? = some u → w.cell? ⟨b, o + j, none⟩ = some u)

/-- The same for numbers of the kind k. -/
def RdI (k : IntKind) (w : World) (A : Option Addr) (n : Nat) (zs : List Int) : Prop := Rd w A n 1 (zs.map (Value.int k))

theorem RdI.len {k : IntKind} {w : World} {A : Option Addr} {n : Nat} {zs : List Int} (h : RdI k w A n zs) : zs.length = n := by
  have := h.1; simpa using this

theorem RdI.at {k : IntKind} {w : World} {A : Option Addr} {n : Nat} {zs : List Int} (h : RdI k w A n zs) {i : Nat} (hi : i < n) :
    ∃ b o x, A = some ⟨b, o, none⟩ ∧ b < w.heap.size ∧ Hid (zs[i]? = some x) ∧ w.cell? ⟨b, o + i, none⟩ = some (.int k x) := by
  obtain ⟨b, o, hA, hb, hc⟩ := h.2 (by omega)
  have hl := h.len
  refine ⟨b, o, zs[i], hA, hb, List.getElem?_eq_getElem _, hc i _ ?_⟩
  rw [List.getElem?_map, List.getElem?_eq_getElem (by omega)]; rfl

/-- A slice of numbers that came in: it reads as zs, it fits. -/
def RowIn (k : IntKind) (w : World) (A : Option Addr) (n c : Nat) (zs : List Int) : Prop := RdI k w A n zs ∧ n ≤ c ∧ c ≤ maxLen ∧ ∀ z ∈ zs, (Lit.int k z).wf = true

theorem Rd.below {w w' : World} {A : Option Addr} {n s : Nat} {xs : List Value} (h : Rd w A n s xs) (hb : Below w.heap.size w w') : Rd w' A n s xs :=
  ⟨h.1, fun hn => by
    obtain ⟨b, o, hA, hlt, hc⟩ := h.2 hn
    exact ⟨b, o, hA, Nat.lt_of_lt_of_le hlt hb.size, fun j u hu => (hb.cell (p := ⟨b, o + j, none⟩) hlt).trans (hc j u hu)⟩⟩

theorem ret_bool {a b : Bool} (h : a = b) : Ending.returned (.bool a) = .returned (.bool b) := by rw [h]
theorem ret_int {k : IntKind} {a b : Int} (h : a = b) : Ending.returned (.int k a) = .returned (.int k b) := by rw [h]

/-! a row that is filled from its head on -/
def Fill (ys : List Value) (z : Value) (k : Nat) : List Value := ys.take k ++ List.replicate (ys.length - k) z
theorem fill_zero (ys : List Value) (z : Value) : Fill ys z 0 = List.replicate ys.length z := by simp [Fill]
theorem fill_full (ys : List Value) (z : Value) (k : Nat) (h : ys.length ≤ k) : Fill ys z k = ys := by
  unfold Fill; rw [List.take_of_length_le h, Nat.sub_eq_zero_of_le h]; simp
theorem fill_len (ys : List Value) (z : Value) (k : Nat) (h : k ≤ ys.length) : (Fill ys z k).length = ys.length := by
  unfold Fill; rw [List.length_append, List.length_take, List.length_replicate]; omega
theorem fill_set (ys : List Value) (z : Value) (k : Nat) (u : Value) (h : ys[k]? = some u) : (Fill ys z k).set k u = Fill ys z (k + 1) := by
  have hk : k < ys.length := (List.getElem?_eq_some_iff.1 h).1
  unfold Fill
  rw [List.set_append_right _ _ (by simp; omega), List.length_take, Nat.min_eq_left (by omega), Nat.sub_self]
  obtain ⟨m, hm⟩ : ∃ m, ys.length - k = m + 1 := ⟨ys.length - k - 1, by omega⟩
  rw [hm, List.replicate_succ, List.set_cons_zero, List.take_add_one, h, show ys.length - (k + 1) = m by omega]
  simp
theorem fill_at (ys : List Value) (z : Value) (k : Nat) (h : k < ys.length) : (Fill ys z k)[k]? = some z := by
  unfold Fill
  rw [List.getElem?_append_right (by simp; omega), List.length_take, Nat.min_eq_left (by omega), Nat.sub_self]
  rw [List.getElem?_replicate, if_pos (by omega)]

def bytes (l : List UInt8) : List Value := l.map fun b => Value.int .u8 (b.toNat : Int)
theorem bytes_len (l : List UInt8) : (bytes l).length = l.length := by simp [bytes]
theorem bytes_at (l : List UInt8) (k : Nat) (c : UInt8) (h : l[k]? = some c) : (bytes l)[k]? = some (.int .u8 (c.toNat : Int)) := by simp [bytes, h]

/-- A row of bytes of the call's own, as a string. -/
theorem own_string {P : Program} {w : World} {base e src dst n c : Nat} {A : Option Addr} (l : List UInt8) (hs : P.underlying src = some (.slice e)) (he : P.underlying e = some (.int .u8)) (hd : P.underlying dst = some .string)
    (h : w.ownsRow base e 1 (.slice A n c) n (bytes l)) : (convert src dst (.slice A n c)).run P w = .ok (.string ⟨l.toArray⟩) w := by
  have hl : l.length = n := by have := h.1; rw [bytes_len] at this; omega
  rcases h.2 with ⟨hv, h0⟩ | ⟨g, cap, cur, hv, _⟩
  · injection hv with h1 h2 h3
    subst h1; subst h0
    obtain rfl : l = [] := List.eq_nil_of_length_eq_zero hl
    rw [run_convert_bytes_string w src dst e _ _ _ hs he hd]
    simp [Conv.bytesToString]
    rfl
  · injection hv with h1 h2 h3
    subst h1; subst hl
    refine run_convert_bytes_back w src dst e ⟨g, 0, none⟩ c l hs he hd fun j hj => ?_
    exact h.cells (g := g) rfl j _ (bytes_at l j _ (List.getElem?_eq_getElem hj))

/-- A new row of n zeros. -/
theorem own_made (w : World) (z : Value) (n e : Nat) (h : n ≤ maxLen) : (w.alloc (.cells (madeCells #[z] n) e)).ownsRow w.heap.size e 1 (.slice (some ⟨w.heap.size, 0, none⟩) n n) n (List.replicate n z) := by
  have := World.ownsRow_lit (base := w.heap.size) (e := e) (size := 1) w (madeCells #[z] n) n (Nat.le_refl _) h (by rw [size_madeCells]; omega)
  rwa [toList_madeCells_one] at this

/-- The call gave back a string of the bytes l, and nothing that was there has turned. -/
def RetStr (l : List UInt8) (w : World) (e : Ending) (w' : World) : Prop := ∃ t : ByteArray, e = .returned (.string t) ∧ t.data.toList = l ∧ Below w.heap.size w w'

/-- The same beside a bool. -/
def RetStrB (l : List UInt8) (b : Bool) (w : World) (e : Ending) (w' : World) : Prop := ∃ t : ByteArray, e = .returned (.tuple #[.string t, .bool b]) ∧ t.data.toList = l ∧ Below w.heap.size w w'

theorem str_eq {s t : ByteArray} {l : List UInt8} (h : s.data.toList = l) (h' : t.data.toList = l) : s = t := by
  apply ByteArray.ext
  apply Array.ext'
  rw [h, h']
theorem str_size {s : ByteArray} {l : List UInt8} (h : s.data.toList = l) : s.size = l.length := by rw [← h]; simp
theorem str_empty : (ByteArray.mk #[]).data.toList = [] := rfl

/-- The call gave back v and only drew. -/
def RetD (v : Value) (w : World) (e : Ending) (w' : World) : Prop := e = .returned v ∧ ∃ m, w' = w.drewN m

/-! copy into a new row; append onto a row of the call's own: the run's equations -/
theorem rd_one {w : World} {A : Option Addr} {n s : Nat} {xs : List Value} (h : Rd w A n s xs) {i : Nat} (hi : i < n * s) : ∃ b o, A = some ⟨b, o, none⟩ ∧ b < w.heap.size ∧ ∀ j u, xs[j]? = some u → w.cell? ⟨b, o + j, none⟩ = some u :=
  h.2 (by rcases Nat.eq_zero_or_pos n with h0 | h0
          · subst h0; simp at hi
          · exact h0)
theorem add_plain (b o j : Nat) : (⟨b, o, none⟩ : Addr).add j = ⟨b, o + j, none⟩ := by unfold Addr.add; split <;> simp_all

theorem made_list (z : Value) (n : Nat) : madeCells #[z] n = (List.replicate n z).toArray := by
  apply Array.ext'; rw [toList_madeCells_one]

theorem setRow_new (w : World) (c cs : Array Value) (e : TypeId) : (w.alloc (.cells c e)).setRow w.heap.size cs = w.alloc (.cells cs e) := by
  unfold World.setRow World.alloc
  congr 1
  apply Array.ext_getElem?
  intro i
  rw [Array.getElem?_modify, Array.getElem?_push, Array.getElem?_push]
  split
  · rename_i h; rw [if_pos h.symm, if_pos h.symm]; rfl
  · rename_i h; rw [if_neg (fun e => h e.symm), if_neg (fun e => h e.symm)]

theorem copy_made {P : Program} (w : World) (dT sT ty elem e : TypeId) (z : Value) (N off dLen dCap : Nat) (dp : Option Addr) (S : Option Addr) (m sCap q : Nat) (xs : List Value)
    (hu : P.underlying dT = some (.slice elem)) (hs : (P.info? elem).map (·.size) = some 1) (hrd : Rd w S m 1 xs) (h1 : ∀ v ∈ xs, v.oneCell' = true)
    (hdp : 0 < dLen → dp = some ⟨w.heap.size, off, none⟩) (hfit : off + dLen ≤ N) (hq : q = min m dLen) :
    (Builtin.copy_ #[dT, sT] ty #[.slice dp dLen dCap, .slice S m sCap]).run P (w.alloc (.cells (madeCells #[z] N) e)) =
      .ok (goInt ((q : Nat) : Int)) (w.alloc (.cells (List.replicate off z ++ (xs.take q ++ List.replicate (N - off - q) z)).toArray e)) := by
  subst hq
  have hxl : xs.length = m := by have := hrd.1; omega
  by_cases h0 : min m dLen = 0
  · rw [run_copy_none (P := P) (w.alloc (.cells (madeCells #[z] N) e)) dT sT ty elem dp S dLen dCap m sCap hu hs h0, h0, made_list]
    have e1 : List.replicate off z ++ (List.take 0 xs ++ List.replicate (N - off - 0) z) = List.replicate N z := by
      rw [List.take_zero, List.nil_append, List.replicate_append_replicate, Nat.sub_zero, show off + (N - off) = N by omega]
    rw [e1]
    rfl
  · obtain ⟨b, o, rfl, hlt, hcell⟩ := hrd.2 (by omega)
    obtain rfl := hdp (by omega)
    have hcs : (xs.take (min m dLen)).length = min m dLen := by rw [List.length_take, hxl]; omega
    have hr := run_copy_row (P := P) (w.alloc (.cells (madeCells #[z] N) e)) dT sT ty elem w.heap.size off dLen dCap ⟨b, o, none⟩ m sCap (madeCells #[z] N) e (xs.take (min m dLen)) hu hs (heap_alloc_new w _) hcs
      (fun j v hv => by
        rw [add_plain, World.cell?_alloc_lt _ _ _ (by exact hlt)]
        rw [List.getElem?_take] at hv
        split at hv
        · exact hcell j v hv
        · cases hv)
      (by rw [hcs, size_madeCells]; omega) (fun v hv => h1 v (List.mem_of_mem_take hv))
    rw [hr, hcs, setRow_new, toList_madeCells_one, List.take_replicate, List.drop_replicate, Nat.min_eq_left (show off ≤ N by omega), List.append_assoc, show N - (off + min m dLen) = N - off - min m dLen by omega]

theorem append_rd {P : Program} (w : World) (base t ty e : Nat) (z : Value) (bytes : Nat) (ht : P.underlying t = some (.slice e)) (hinfo : (P.info? e).map (fun i => (i.zero, i.size, i.bytes)) = some (some z, 1, bytes)) (hz1 : z.cells = #[z])
    (v : Value) (n : Nat) (xs : List Value) (hown : w.ownsRow base e 1 v n xs) (S : Option Addr) (m c : Nat) (news : List Value) (hrd : Rd w S m 1 news) (h1 : ∀ u ∈ news, u.oneCell' = true)
    (h63 : n + m ≤ 1099511627776) (hby : bytes ≤ 64) (hbase : base ≤ w.heap.size) :
    ∃ A c' w', (Builtin.append_ #[t, t] ty #[v, .slice S m c]).run P w = .ok (.slice A (n + m) c') w' ∧ w'.ownsRow base e 1 (.slice A (n + m) c') (n + m) (xs ++ news) ∧ w.grownBy w' v.ownBlock := by
  obtain ⟨i, hi, hzz⟩ := Option.map_eq_some_iff.1 hinfo
  simp only [Prod.mk.injEq] at hzz
  obtain ⟨hz, hsz, hbb⟩ := hzz
  have key : ∃ v' w', (Builtin.append_ #[t, t] ty #[v, .slice S m c]).run P w = .ok v' w' ∧ w'.ownsRow base e 1 v' (n + m) (xs ++ news) ∧ w.grownBy w' v.ownBlock := by
    have hnl : news.length = m := by have := hrd.1; omega
    cases S with
    | none =>
      have hm : m = 0 := by
        rcases Nat.eq_zero_or_pos m with h0 | h0
        · exact h0
        · obtain ⟨b, o, h, _⟩ := hrd.2 h0; cases h
      subst hm
      obtain rfl := List.eq_nil_of_length_eq_zero hnl
      refine ⟨v, w, ?_, by simpa using hown, ⟨rfl, rfl, rfl, Nat.le_refl _, fun _ _ _ => rfl⟩⟩
      rcases hown.2 with ⟨rfl, rfl⟩ | ⟨g, cap, cur, rfl, _, _, hnc, _⟩
      · simp [Builtin.append_, run_underlying ht, sizeOf, typeInfo, hi, Builtin.lenOf, Builtin.firstCells]
      · simp [Builtin.append_, run_underlying ht, sizeOf, typeInfo, hi, Builtin.lenOf, Builtin.firstCells, hnc, storeCells]
    | some ad =>
      have hcells : ∀ j u, news[j]? = some u → w.cell? (ad.add j) = some u := by
        intro j u hu
        have hj := (List.getElem?_eq_some_iff.1 hu).1
        obtain ⟨b, o, h, _, hc⟩ := hrd.2 (by omega)
        injection h with h
        subst h
        rw [add_plain]; exact hc j u hu
      obtain ⟨v', w', h2, h3, h4, _⟩ := run_append_own (P := P) w base t ty e i z 1 bytes ht hi hz hsz hbb (by rw [hz1]; rfl) (by omega) v n xs hown ad m c news (by omega) hcells h1
        (by unfold maxLen; omega) (by have : (n + m) * bytes ≤ 1099511627776 * 64 := Nat.mul_le_mul h63 hby; omega) hbase
      exact ⟨v', w', h2, h3, h4⟩
  obtain ⟨v', w', h2, h3, h4⟩ := key
  rcases h3.2 with ⟨hv, h0⟩ | ⟨g, cap, cur, hv, _⟩
  · refine ⟨none, 0, w', ?_, ?_, h4⟩
    · rw [h2, hv, h0]
    · rw [hv] at h3; rw [h0] at h3 ⊢; exact h3
  · subst hv
    exact ⟨_, _, w', h2, h3, h4⟩

theorem wpList_append_rd {P : Program} (w : World) {ops : Array Oper} {rest : List Oper} {o : Oper} {a : Act} {Q : Exit → Act → World → Prop} (hgd : o.guard = none) (s x : Operand) (t : TypeId)
    (ho : o.op = .call { callee := .builtin .append, args := #[s, x], argTypes := #[t, t] })
    (base e : Nat) (z : Value) (bytes : Nat) (ht : P.underlying t = some (.slice e)) (hinfo : (P.info? e).map (fun i => (i.zero, i.size, i.bytes)) = some (some z, 1, bytes)) (hz1 : z.cells = #[z])
    (v : Value) (n : Nat) (xs : List Value) (hs : a.eval s = v) (hown : w.ownsRow base e 1 v n xs) (S : Option Addr) (m c : Nat) (news : List Value) (hx : a.eval x = .slice S m c) (hrd : Rd w S m 1 news) (h1 : ∀ u ∈ news, u.oneCell' = true)
    (h63 : n + m ≤ 1099511627776) (hby : bytes ≤ 64) (hbase : base ≤ w.heap.size)
    (h : ∀ A q c' w', Hid (q = n + m) → w'.ownsRow base e 1 (.slice A q c') q (xs ++ news) → w.grownBy w' v.ownBlock → wpList P ops Q rest (a.put o.dst (.slice A q c')) w') : wpList P ops Q (o :: rest) a w := by
  refine wpList_plain hgd fun K hK => ?_
  obtain ⟨A, c', w', hr, h2, h3⟩ := append_rd (P := P) w base t o.type e z bytes ht hinfo hz1 v n xs hown S m c news hrd h1 h63 hby hbase
  unfold Oper.wp execOp
  simp only [ho, resolve, invoke, builtin, Sem.run_bind, Sem.run_pure, Result.andThen_ok, List.map_toArray, List.map_cons, List.map_nil, hs, hx, hr]
  exact hK _ _ (h A (n + m) c' w' rfl h2 h3)

end Go.Proofs.Ytkebiigpfbconaa
