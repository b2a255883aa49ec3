/- What the helpers of the laws do: copies of slices, comparison, marks. Conditions: as each theorem says. -/
import Derived.Test.YtkebiigpfbconaaC3
namespace Go.Proofs.Ytkebiigpfbconaa
open Go.RowKit
set_option linter.unusedSimpArgs false
set_option linter.unusedVariables false

/-- The call gave back a new slice of the kind k with the numbers zs. -/
def RetI (k : IntKind) (E : TypeId) (zs : List Int) (w : World) (e : Ending) (w' : World) : Prop :=
  ∃ A n c, e = .returned (.slice A n c) ∧ w'.ownsRow w.heap.size E 1 (.slice A n c) n (zs.map (Value.int k)) ∧ Below w.heap.size w w'

/-- The same beside a bool. -/
def RetIB (E : TypeId) (zs : List Int) (b : Bool) (w : World) (e : Ending) (w' : World) : Prop :=
  ∃ A n c, e = .returned (.tuple #[.slice A n c, .bool b]) ∧ w'.ownsRow w.heap.size E 1 (.slice A n c) n (zs.map (Value.int .i64)) ∧ Below w.heap.size w w'
theorem retIB_nil (E : TypeId) (w : World) : RetIB E [] false w (.returned (.tuple #[.slice none 0 0, .bool false])) w := ⟨none, 0, 0, rfl, World.ownsRow_nil _ _ _ _, Below.refl _ _⟩
theorem retIB_own {E n c : Nat} {A : Option Addr} {zs : List Int} {b : Bool} {w w' : World} (h : w'.ownsRow w.heap.size E 1 (.slice A n c) n (zs.map (Value.int .i64))) (hb : Below w.heap.size w w') :
    RetIB E zs b w (.returned (.tuple #[.slice A n c, .bool b])) w' := by
  exact ⟨A, n, c, rfl, h, hb⟩
theorem retI_own {k : IntKind} {E n c : Nat} {A : Option Addr} {zs : List Int} {w w' : World} (h : w'.ownsRow w.heap.size E 1 (.slice A n c) n (zs.map (Value.int k))) (hb : Below w.heap.size w w') :
    RetI k E zs w (.returned (.slice A n c)) w' := by
  exact ⟨A, n, c, rfl, h, hb⟩
theorem own_empty (w : World) (E : TypeId) (base : Nat) (h : base ≤ w.heap.size) : (w.alloc (.cells #[] E)).ownsRow base E 1 (.slice (some ⟨w.heap.size, 0, none⟩) 0 0) 0 [] := World.ownsRow_made w #[] 0 h (Nat.zero_le _) rfl
theorem retIB_empty (E : TypeId) (w : World) : RetIB E [] false w (.returned (.tuple #[.slice (some ⟨w.heap.size, 0, none⟩) 0 0, .bool false])) (w.alloc (.cells #[] E)) :=
  ⟨_, 0, 0, rfl, own_empty w E _ (Nat.le_refl _), (Below.refl _ _).alloc (Nat.le_refl _) _⟩

theorem own_rd {w : World} {base E s n c : Nat} {A : Option Addr} {xs : List Value} (h : w.ownsRow base E s (.slice A n c) n xs) : Rd w A n s xs := by
  refine ⟨h.1, fun hn => ?_⟩
  rcases h.2 with ⟨hv, h0⟩ | ⟨g, cap, cur, hv, hb, hg, hnc, hcm, hcs, ht⟩
  · omega
  · injection hv with h1 h2 h3
    subst h1
    refine ⟨g, 0, rfl, (Array.getElem?_eq_some_iff.1 hg).1, fun j u hu => ?_⟩
    have hj := (List.getElem?_eq_some_iff.1 hu).1
    rw [Nat.zero_add, ← hu]
    subst h3
    exact h.cellAt j (by have := h.1; omega)
theorem own_rdI {k : IntKind} {w : World} {base E n c : Nat} {A : Option Addr} {zs : List Int} (h : w.ownsRow base E 1 (.slice A n c) n (zs.map (Value.int k))) : RdI k w A n zs := own_rd h
theorem rd_cut {w : World} {A : Option Addr} {n : Nat} {xs : List Value} (h : Rd w A n 1 xs) {j : Nat} (hj : j ≤ n) : Rd w (Option.map (fun x => x.add j) A) (n - j) 1 (xs.drop j) := by
  refine ⟨by rw [List.length_drop, h.1]; omega, fun hn => ?_⟩
  obtain ⟨b, o, rfl, hlt, hc⟩ := h.2 (by omega)
  refine ⟨b, o + j, by rw [Option.map_some, add_plain], hlt, fun i u hu => ?_⟩
  rw [List.getElem?_drop] at hu
  have := hc (j + i) u hu
  rwa [show o + (j + i) = o + j + i by omega] at this
theorem rd_end {w : World} {A : Option Addr} {n : Nat} {xs : List Value} (h : Rd w A n 1 xs) (B : Option Addr) : Rd w B 0 1 (xs.drop n) := by
  refine ⟨by rw [List.length_drop, h.1]; omega, fun hn => absurd hn (by omega)⟩
theorem rd_upto {w : World} {A : Option Addr} {n : Nat} {xs : List Value} (h : Rd w A n 1 xs) {k : Nat} (hk : k ≤ n) : Rd w A k 1 (xs.take k) := by
  refine ⟨by rw [List.length_take, h.1]; omega, fun hn => ?_⟩
  obtain ⟨b, o, rfl, hlt, hc⟩ := h.2 (by omega)
  refine ⟨b, o, rfl, hlt, fun i u hu => ?_⟩
  rw [List.getElem?_take] at hu
  split at hu
  · exact hc i u hu
  · cases hu
theorem ints_one (k : IntKind) (zs : List Int) : ∀ v ∈ zs.map (Value.int k), v.oneCell' = true := by
  intro v hv
  obtain ⟨z, _, rfl⟩ := List.mem_map.1 hv
  rfl
theorem own_lit (w : World) (E k : Nat) (L : List Value) (h : L.length = k) (hk : k ≤ maxLen) : (w.alloc (.cells L.toArray E)).ownsRow w.heap.size E 1 (.slice (some ⟨w.heap.size, 0, none⟩) k k) k L := by
  have := World.ownsRow_lit (base := w.heap.size) (e := E) (size := 1) w L.toArray k (Nat.le_refl _) hk (by simp [h])
  simpa using this
theorem own_cap {w : World} {base E s n c : Nat} {A : Option Addr} {xs : List Value} (h : w.ownsRow base E s (.slice A n c) n xs) : n ≤ maxLen := by
  rcases h.2 with ⟨hv, h0⟩ | ⟨g, cap, cur, hv, hb, hg, hnc, hcm, hcs, ht⟩
  · rw [h0]; exact Nat.zero_le _
  · exact Nat.le_trans hnc hcm
theorem own_le {w : World} {base E s n c : Nat} {A : Option Addr} {xs : List Value} (h : w.ownsRow base E s (.slice A n c) n xs) : n ≤ c := by
  rcases h.2 with ⟨hv, h0⟩ | ⟨g, cap, cur, hv, hb, hg, hnc, hcm, hcs, ht⟩
  · rw [h0]; exact Nat.zero_le _
  · injection hv with _ _ h3; rw [h3]; exact hnc
/-- What is owned stays owned where nothing below the heap's end has turned. -/
theorem own_below {w w' : World} {base E s n : Nat} {v : Value} {xs : List Value} (h : w.ownsRow base E s v n xs) (hb : Below w.heap.size w w') : w'.ownsRow base E s v n xs := by
  refine ⟨h.1, ?_⟩
  rcases h.2 with hn | ⟨g, cap, cur, hv, hbg, hg, rest⟩
  · exact .inl hn
  · exact .inr ⟨g, cap, cur, hv, hbg, (hb.block g (Array.getElem?_eq_some_iff.1 hg).1).trans hg, rest⟩
/-- What is owned from a base on stays owned where nothing below a greater number has turned. -/
theorem own_mono {w : World} {base base' E s n : Nat} {v : Value} {xs : List Value} (h : w.ownsRow base E s v n xs) (hb : base' ≤ base) : w.ownsRow base' E s v n xs := by
  refine ⟨h.1, ?_⟩
  rcases h.2 with hn | ⟨g, cap, cur, hv, hbg, hg, rest⟩
  · exact .inl hn
  · exact .inr ⟨g, cap, cur, hv, Nat.le_trans hb hbg, hg, rest⟩

/-- A post that says what a pure call gives, or one that draws: nothing below has turned. -/
theorem pure_below {v : Value} {w w' : World} {e : Ending} (h : e = .returned v ∧ w = w') : e = .returned v ∧ Below w.heap.size w w' := by
  obtain ⟨h1, rfl⟩ := h; exact ⟨h1, Below.refl _ _⟩
theorem retD_below {v : Value} {w w' : World} {e : Ending} (h : RetD v w e w') : e = .returned v ∧ Below w.heap.size w w' := by
  obtain ⟨h1, m, rfl⟩ := h
  exact ⟨h1, below_drewN (Below.refl _ _) m⟩

set_option maxHeartbeats 400000 in
theorem laws_ssInts (A A' : Option Addr) (n c n' c' : Nat) (xs ys : List Int) (w : World) (hx : RdI .i64 w A n xs) (hy : RdI .i64 w A' n' ys) (hn : n ≤ maxLen) :
    Calls Try.prog 22 #[.slice A n c, .slice A' n' c'] w (RetD (.bool (decide (xs = ys))) w) := by
  unfold maxLen at hn
  have lx := hx.len
  have ly := hy.len
  by_cases hnn : n = n'
  · subst hnn
    have LX := Lib.hid lx
    have LY := Lib.hid ly
    clear lx ly
    go_enter Try.func22, Try.ntmps22
    go_wp2
    go_loopw [5] (fun v wr => ∃ k m : Nat, k ≤ n ∧ v = .int .i64 k ∧ wr = w.drewN m ∧ Hid (xs.take k = ys.take k)) (fun v _ => n - (intOf v).toNat)
    case atStart => exact ⟨0, 0, Nat.zero_le _, rfl, rfl, rfl⟩
    case round =>
      obtain ⟨k, m, hk, rfl, rfl, ht⟩ := hrel
      by_cases hlt : k < n
      · obtain ⟨b, o, x, rfl, hb, hxx, hcx⟩ := hx.at hlt
        obtain ⟨b', o', y, rfl, hb', hyy, hcy⟩ := hy.at hlt
        by_cases hxy : x = y
        · obtain rfl := hxy
          go_wp2
          go_quiet (fail)
          go_wp2
          go_roundw
          case rel => exact ⟨k + 1, _, by omega, by go_num, rfl, take_snoc_eq _ _ _ _ _ hxx.out hyy.out ht.out rfl⟩
          case measure => simp [intOf]; omega
        · have hne : (x != y) = true := by simpa using hxy
          go_wp2
          go_quiet (fail)
          go_wp2
          go_ret
          exact ⟨ret_bool (decide_eq_false (ne_of_at _ _ _ _ _ hxx.out hyy.out hxy)).symm, _, World.drewN_drewN _ _ _⟩
      · go_wp2
        go_ret
        have e1 : xs.take k = xs := List.take_of_length_le (by rw [LX.out]; omega)
        have e2 : ys.take k = ys := List.take_of_length_le (by rw [LY.out]; omega)
        have h3 := ht.out
        rw [e1, e2] at h3
        exact ⟨ret_bool (decide_eq_true h3).symm, _, rfl⟩
  · have hne : ((n : Int) != (n' : Int)) = true := by simp; omega
    go_enter Try.func22, Try.ntmps22
    go_wp2
    go_ret
    exact ⟨ret_bool (decide_eq_false (by rintro rfl; omega)).symm, 0, rfl⟩


/-! marks -/
def marks (k : Int) (n : Nat) : List Int := (List.range n).map fun (i : Nat) => k + (i : Int)
theorem marks_len (k : Int) (n : Nat) : (marks k n).length = n := by simp [marks]
theorem marks_at (k : Int) (n i : Nat) (h : i < n) : (marks k n)[i]? = some (k + (i : Int)) := by simp [marks, h]
/-- The first j cells are the new ones, the others the old ones. -/
def Mix (ys xs : List Value) (j : Nat) : List Value := ys.take j ++ xs.drop j
theorem mix_zero (ys xs : List Value) : Mix ys xs 0 = xs := by simp [Mix]
theorem mix_full (ys xs : List Value) (j : Nat) (h1 : ys.length ≤ j) (h2 : xs.length ≤ j) : Mix ys xs j = ys := by
  unfold Mix; rw [List.take_of_length_le h1, List.drop_eq_nil_of_le h2, List.append_nil]
theorem mix_set (ys xs : List Value) (j : Nat) (u : Value) (h : ys[j]? = some u) (h2 : j < xs.length) : (Mix ys xs j).set j u = Mix ys xs (j + 1) := by
  have hk : j < ys.length := (List.getElem?_eq_some_iff.1 h).1
  unfold Mix
  rw [List.set_append_right _ _ (by simp; omega), List.length_take, Nat.min_eq_left (by omega), Nat.sub_self, List.take_add_one, h, List.drop_eq_getElem_cons h2, List.set_cons_zero]
  simp
theorem mix_at (ys xs : List Value) (j : Nat) (h1 : j < ys.length) (h2 : j < xs.length) : ∃ u, (Mix ys xs j)[j]? = some u := by
  refine ⟨xs[j], ?_⟩
  unfold Mix
  rw [List.getElem?_append_right (by simp; omega), List.length_take, Nat.min_eq_left (by omega), Nat.sub_self, List.getElem?_drop, Nat.add_zero, List.getElem?_eq_getElem h2]
theorem mix_end (ys xs : List Value) (j : Nat) (h : ∀ i, j ≤ i → xs[i]? = ys[i]?) (hj : j ≤ ys.length) : Mix ys xs j = ys := by
  unfold Mix
  have e : xs.drop j = ys.drop j := by
    apply List.ext_getElem?
    intro i
    rw [List.getElem?_drop, List.getElem?_drop, h _ (by omega)]
  rw [e, List.take_append_drop]
theorem mix_old (ys xs : List Value) (j : Nat) (u : Value) (hj : j ≤ ys.length) (h : xs[j]? = some u) : (Mix ys xs j)[j]? = some u := by
  unfold Mix
  rw [List.getElem?_append_right (by simp; omega), List.length_take, Nat.min_eq_left hj, Nat.sub_self, List.getElem?_drop, Nat.add_zero, h]
theorem own_some {w : World} {base E s n c k : Nat} {A : Option Addr} {xs : List Value} (h : w.ownsRow base E s (.slice A n c) n xs) (hk : k < n) : ∃ g, A = some ⟨g, 0, none⟩ ∧ base ≤ g ∧ g < w.heap.size := by
  rcases h.2 with ⟨hv, h0⟩ | ⟨g, cap, cur, hv, hb, hg, _⟩
  · omega
  · injection hv with h1 h2 h3
    exact ⟨g, h1, hb, (Array.getElem?_eq_some_iff.1 hg).1⟩
theorem grown_refl (w : World) (r : Option Nat) : w.grownBy w r := ⟨rfl, rfl, rfl, Nat.le_refl _, fun _ _ _ => rfl⟩
theorem grown_trans {a b c : World} {r : Option Nat} (h : a.grownBy b r) (k : b.grownBy c r) : a.grownBy c r :=
  ⟨k.os.trans h.os, k.tape.trans h.tape, k.output.trans h.output, Nat.le_trans h.size k.size, fun i hi hne => (k.block i (Nat.lt_of_lt_of_le hi h.size) hne).trans (h.block i hi hne)⟩
/-- Two rows of the call's own, the second one made later, lie apart. -/
theorem own_apart {w1 w2 : World} {b1 b2 E1 E2 s1 s2 n1 n2 : Nat} {v1 v2 : Value} {xs ys : List Value} (h1 : w1.ownsRow b1 E1 s1 v1 n1 xs) (h2 : w2.ownsRow b2 E2 s2 v2 n2 ys) (hb : w1.heap.size ≤ b2) :
    v2.ownBlock = none ∨ v2.ownBlock ≠ v1.ownBlock := by
  cases hv : v2.ownBlock with
  | none => exact .inl rfl
  | some k =>
    refine .inr fun e => ?_
    have l1 := (h1.lt k e.symm).2
    have l2 := (h2.lt k hv).1
    omega
theorem own_apart' {w1 w2 : World} {b1 b2 E1 E2 s1 s2 n1 n2 : Nat} {v1 v2 : Value} {xs ys : List Value} (h1 : w1.ownsRow b1 E1 s1 v1 n1 xs) (h2 : w2.ownsRow b2 E2 s2 v2 n2 ys) (hb : w1.heap.size ≤ b2) :
    v1.ownBlock = none ∨ v1.ownBlock ≠ v2.ownBlock := by
  rcases own_apart h1 h2 hb with h | h
  · cases hv : v1.ownBlock with
    | none => exact .inl rfl
    | some k => exact .inr (by rw [h]; simp)
  · exact .inr fun e => h e.symm
theorem own_num {w : World} {B E n : Nat} {k : IntKind} {v : Value} {zs : List Int} (h : w.ownsRow B E 1 v n (zs.map (Value.int k))) {M : Nat} (hM : zs.length ≤ M) : n ≤ M := by
  have := h.1; rw [List.length_map] at this; omega
theorem own_below_of {w w' : World} {B E s n : Nat} {v : Value} {xs : List Value} (h : w.ownsRow B E s v n xs) (hg : w.grownBy w' v.ownBlock) (hB : B ≤ w.heap.size) : Below B w w' :=
  (Below.refl B w).grown hg hB fun k hk => (h.lt k hk).1



end Go.Proofs.Ytkebiigpfbconaa
