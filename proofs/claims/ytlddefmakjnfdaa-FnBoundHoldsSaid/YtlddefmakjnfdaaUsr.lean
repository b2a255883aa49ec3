/- Lists of users: what comes in, what the laws' helpers give back. Conditions: as each theorem says. -/
import Derived.Test.YtlddefmakjnfdaaPairs
import Derived.Test.YtlddefmakjnfdaaOpen
import Derived.Deep.Slices
import Derived.Lib.SmallJoins
namespace Go.Proofs.Ytlddefmakjnfdaa
open Go.RowKit
set_option linter.unusedSimpArgs false
set_option linter.unusedVariables false
set_option maxRecDepth 100000

/-- The cells of one user and of a list of users: code, data, gain, delay. -/
def ucell (u : ByteArray × ByteArray × Int × Int) : List Value := [.string u.1, .string u.2.1, .int .i64 u.2.2.1, .int .i64 u.2.2.2]
def ucells (us : List (ByteArray × ByteArray × Int × Int)) : List Value := us.flatMap ucell
theorem ucells_len (us : List (ByteArray × ByteArray × Int × Int)) : (ucells us).length = us.length * 4 := by
  induction us with
  | nil => rfl
  | cons p ps ih => unfold ucells at ih ⊢; rw [List.flatMap_cons, List.length_append, ih, List.length_cons, show (ucell p).length = 4 from rfl]; omega
theorem ucells_at (us : List (ByteArray × ByteArray × Int × Int)) : ∀ (k : Nat) (u : ByteArray × ByteArray × Int × Int), us[k]? = some u →
    (ucells us)[k * 4]? = some (.string u.1) ∧ (ucells us)[k * 4 + 1]? = some (.string u.2.1) ∧ (ucells us)[k * 4 + 2]? = some (.int .i64 u.2.2.1) ∧ (ucells us)[k * 4 + 3]? = some (.int .i64 u.2.2.2) := by
  induction us with
  | nil => intro k u h; simp at h
  | cons q us ih =>
    intro k u h
    cases k with
    | zero => simp at h; subst h; exact ⟨rfl, rfl, rfl, rfl⟩
    | succ k =>
      have := ih k u (by simpa using h)
      unfold ucells at this ⊢
      rw [List.flatMap_cons, show (k + 1) * 4 = k * 4 + 4 by omega, show k * 4 + 4 + 1 = (k * 4 + 1) + 4 by omega, show k * 4 + 4 + 2 = (k * 4 + 2) + 4 by omega, show k * 4 + 4 + 3 = (k * 4 + 3) + 4 by omega]
      exact this
theorem ucells_ix (us : List (ByteArray × ByteArray × Int × Int)) : ∀ (j : Nat) (v : Value), (ucells us)[j]? = some v → ∃ u, us[j / 4]? = some u ∧ (ucell u)[j % 4]? = some v := by
  induction us with
  | nil => intro j v h; simp [ucells] at h
  | cons q us ih =>
    intro j v h
    unfold ucells at h ih
    rw [List.flatMap_cons] at h
    by_cases hj : j < 4
    · rw [List.getElem?_append_left hj] at h
      exact ⟨q, by rw [Nat.div_eq_of_lt hj]; rfl, by rw [Nat.mod_eq_of_lt hj]; exact h⟩
    · rw [List.getElem?_append_right (by show 4 ≤ j; omega), show (ucell q).length = 4 from rfl] at h
      obtain ⟨u, h1, h2⟩ := ih (j - 4) v h
      refine ⟨u, ?_, ?_⟩
      · rw [show j / 4 = (j - 4) / 4 + 1 by omega, List.getElem?_cons_succ]; exact h1
      · rw [show j % 4 = (j - 4) % 4 by omega]; exact h2
def RdU (w : World) (A : Option Addr) (n : Nat) (us : List (ByteArray × ByteArray × Int × Int)) : Prop := Rd w A n 4 (ucells us)
theorem RdU.len {w : World} {A : Option Addr} {n : Nat} {us : List (ByteArray × ByteArray × Int × Int)} (h : RdU w A n us) : us.length = n := by
  have := h.1; rw [ucells_len] at this; omega
theorem RdU.at {w : World} {A : Option Addr} {n : Nat} {us : List (ByteArray × ByteArray × Int × Int)} (h : RdU w A n us) {i : Nat} (hi : i < n) :
    ∃ b o c d g l, A = some ⟨b, o, none⟩ ∧ b < w.heap.size ∧ Hid (us[i]? = some (c, d, g, l)) ∧ w.cell? ⟨b, o + i * 4, none⟩ = some (.string c) ∧ w.cell? ⟨b, o + i * 4 + 1, none⟩ = some (.string d) ∧
      w.cell? ⟨b, o + i * 4 + 2, none⟩ = some (.int .i64 g) ∧ w.cell? ⟨b, o + i * 4 + 3, none⟩ = some (.int .i64 l) := by
  obtain ⟨b, o, hA, hb, hc⟩ := h.2 (by omega)
  have hl := h.len
  have hx : us[i]? = some us[i] := List.getElem?_eq_getElem (by omega)
  have h2 := ucells_at us i _ hx
  exact ⟨b, o, us[i].1, us[i].2.1, us[i].2.2.1, us[i].2.2.2, hA, hb, hx, hc _ _ h2.1, by rw [Nat.add_assoc]; exact hc _ _ h2.2.1, by rw [Nat.add_assoc]; exact hc _ _ h2.2.2.1, by rw [Nat.add_assoc]; exact hc _ _ h2.2.2.2⟩
theorem own_rdU {w : World} {base E n c : Nat} {A : Option Addr} {us : List (ByteArray × ByteArray × Int × Int)} (h : w.ownsRow base E 4 (.slice A n c) n (ucells us)) : RdU w A n us := own_rd h
theorem ownU_num {w : World} {B E n : Nat} {v : Value} {us : List (ByteArray × ByteArray × Int × Int)} (h : w.ownsRow B E 4 v n (ucells us)) : us.length = n := by
  have := h.1; rw [ucells_len] at this; omega
/-- A list of users that came in. -/
def RowUs (w : World) (A : Option Addr) (n c : Nat) (us : List (ByteArray × ByteArray × Int × Int)) : Prop :=
  RdU w A n us ∧ n ≤ c ∧ c ≤ maxLen ∧ ∀ u ∈ us, u.1.size ≤ maxLen ∧ u.2.1.size ≤ maxLen
theorem rowUs_nil (w : World) : RowUs w none 0 0 [] := ⟨⟨rfl, fun h => absurd h (by omega)⟩, Nat.le_refl _, Nat.zero_le _, fun u hu => by cases hu⟩
section
open Go.ChangeShapes Go.WideShapes Go.Joins Go.Deep
variable {H : Type} {enc : TypeId × Value → H} {P : Program} {w : World} {base : Nat} {spare : Nat → Bool} {held : Bool}
theorem open_users {t e st it : TypeId} {f0 f1 f2 f3 : Field} {fuel : Nat} {A : Option Addr} {len cap : Nat} {x : DataW H × List MemPlace}
    (ht : P.underlying t = some (.slice e)) (he : P.underlying e = some (.struct #[f0, f1, f2, f3])) (hs : P.underlying st = some .string) (hi : P.underlying it = some (.int .i64))
    (hk : (oneCellFields P #[f0, f1, f2, f3] && decide (P.cellsOf e = 4) && decide (f0.type = st) && decide (f1.type = st) && decide (f2.type = it) && decide (f3.type = it)) = true)
    (h : DataW.trod enc P w base spare held fuel t [.slice A len cap] = some x) : ∃ us, RowUs w A len cap us := by
  simp only [Bool.and_eq_true, decide_eq_true_eq] at hk
  obtain ⟨⟨⟨⟨⟨hone, ce⟩, t0⟩, t1⟩, t2⟩, t3⟩ := hk
  rcases Go.Deep.open_slice ht h with ⟨h0, _⟩ | ⟨a, l, c, m, n, D, Pl, hcs, hb, hl, hm, hmm, _, hx⟩
  · simp only [List.cons.injEq, and_true] at h0
    injection h0 with h1 h2 h3
    subst h1; subst h2; subst h3
    exact ⟨[], rowUs_nil w⟩
  · simp only [List.cons.injEq, and_true] at hcs
    injection hcs with h1 h2 h3
    subst h1; subst h2; subst h3
    have hlm : len ≤ m := by rw [hmm]; split <;> omega
    obtain ⟨o0, k0⟩ := hone_of hone 0 f0 rfl
    obtain ⟨o1, k1⟩ := hone_of hone 1 f1 rfl
    obtain ⟨o2, k2⟩ := hone_of hone 2 f2 rfl
    obtain ⟨o3, k3⟩ := hone_of hone 3 f3 rfl
    have each : ∀ i, i < len → ∃ u : ByteArray × ByteArray × Int × Int, (∀ j v, (ucell u)[j]? = some v → w.cell? ((a.add (i * 4)).add j) = some v) ∧ u.1.size ≤ maxLen ∧ u.2.1.size ≤ maxLen := by
      intro i hi'
      obtain ⟨cs', e1, e2⟩ := hx i (by omega)
      rw [ce] at e1
      obtain ⟨_, hlen, hcell⟩ := World.cells?_some e1
      obtain ⟨y0, y1, y2, y3, q, _, _, g0, g1, g2, g3⟩ := trod_struct4 he e2
      match cs', hlen with
      | [v0, v1, v2, v3], _ =>
        rw [o0, k0, t0] at g0
        rw [o1, k1, t1] at g1
        rw [o2, k2, t2] at g2
        rw [o3, k3, t3] at g3
        obtain ⟨s0, r0, _, w0⟩ := DataW.trod_string hs (show DataW.trod enc P w base spare held q st [v0] = some y0 from g0)
        obtain ⟨s1, r1, _, w1⟩ := DataW.trod_string hs (show DataW.trod enc P w base spare held q st [v1] = some y1 from g1)
        obtain ⟨n2, r2, _, w2⟩ := DataW.trod_int hi (show DataW.trod enc P w base spare held q it [v2] = some y2 from g2)
        obtain ⟨n3, r3, _, w3⟩ := DataW.trod_int hi (show DataW.trod enc P w base spare held q it [v3] = some y3 from g3)
        simp only [List.cons.injEq, and_true] at r0 r1 r2 r3
        subst r0; subst r1; subst r2; subst r3
        refine ⟨(s0, s1, n2, n3), fun j v hj => ?_, w0, w1⟩
        have hj4 : j < 4 := (List.getElem?_eq_some_iff.1 hj).1
        have := hcell j (by omega)
        rw [this]
        exact hj
    obtain ⟨f, hf⟩ := choose_lt each
    have hat : ∀ i, i < len → ((List.range len).map f)[i]? = some (f i) := fun i hi' => by simp [hi']
    refine ⟨(List.range len).map f, ⟨by rw [ucells_len, List.length_map, List.length_range], fun hn => ?_⟩, hl, hm, fun u hu => ?_⟩
    · have h0 := (hf 0 hn).1 0 _ rfl
      obtain ⟨b, o, spot⟩ := a
      have hsp : spot = none := by simpa [Addr.add] using World.cell?_spot h0
      subst hsp
      rw [add_plain, add_plain] at h0
      refine ⟨b, o, rfl, World.block_lt_of_cell? w _ h0, fun j u hu => ?_⟩
      obtain ⟨q, hq, hqc⟩ := ucells_ix _ _ _ hu
      have hjl : j / 4 < len := by have := (List.getElem?_eq_some_iff.1 hq).1; simpa using this
      rw [hat _ hjl] at hq
      injection hq with hq
      subst hq
      have := (hf (j / 4) hjl).1 (j % 4) u hqc
      rw [add_plain, add_plain, show o + j / 4 * 4 + j % 4 = o + j by omega] at this
      exact this
    · obtain ⟨i, hi', rfl⟩ := List.mem_map.1 hu
      exact (hf i (List.mem_range.1 hi')).2
end
set_option maxHeartbeats 1000000 in
theorem laws_szUserS (A : Option Addr) (n c : Nat) (us : List (ByteArray × ByteArray × Int × Int)) (w : World) (hx : RdU w A n us) (hn : n ≤ maxLen) (hs : ∀ u ∈ us, u.1.size ≤ maxLen ∧ u.2.1.size ≤ maxLen) :
    Calls Try.prog 28 #[.slice A n c, .int .i64 1048576] w fun e w' => ∃ r : Int, e = .returned (.int .i64 r) ∧ (r < 0 ∨ (0 ≤ r ∧ n ≤ 1048576 ∧ ∀ u ∈ us, u.1.size ≤ 1048576 ∧ u.2.1.size ≤ 1048576)) ∧ Below w.heap.size w w' := by
  unfold maxLen at hn hs
  have HL := Lib.hid hx.len
  by_cases hbig : 1048576 < n
  · go_enter Try.func28, Try.ntmps28
    go_wp2_with fail
    go_ret
    exact ⟨-1, rfl, .inl (by omega), Below.refl _ _⟩
  · have HS := Lib.hid hs
    clear hs
    go_enter Try.func28, Try.ntmps28
    go_wp2_with fail
    go_loopw [1, 5] (fun q v wr => ∃ (k : Nat) (m : Int), k ≤ n ∧ v = .int .i64 k ∧ q = .int .i64 m ∧ 0 ≤ m ∧ m ≤ 1048576 ∧ Hid (∀ u ∈ us.take k, u.1.size ≤ 1048576 ∧ u.2.1.size ≤ 1048576) ∧ Below w.heap.size w wr) (fun _ v _ => n - (intOf v).toNat)
    case atStart => exact ⟨0, _, Nat.zero_le _, rfl, rfl, by omega, by omega, by show ∀ u ∈ _, _; intro u hu; simp at hu, Below.refl _ _⟩
    case round =>
      obtain ⟨k, m, hk, rfl, rfl, hm0, hm1, hall, hb⟩ := hrel
      have hz := hb.size
      by_cases hlt : k < n
      · obtain ⟨b, o, cd, dt, g, l, rfl, hgl, hxx, hc1, hc2, hc3, hc4⟩ := hx.at hlt
        have hsz := HS.out _ (List.mem_of_getElem? hxx.out)
        replace hc1 := (hb.cell (p := ⟨b, o + k * 4, none⟩) hgl).trans hc1
        replace hc2 := (hb.cell (p := ⟨b, o + k * 4 + 1, none⟩) hgl).trans hc2
        replace hc3 := (hb.cell (p := ⟨b, o + k * 4 + 2, none⟩) hgl).trans hc3
        replace hc4 := (hb.cell (p := ⟨b, o + k * 4 + 3, none⟩) hgl).trans hc4
        obtain ⟨wo, rfl⟩ : ∃ wo, wo = wr := ⟨_, rfl⟩
        go_wp2_with fail
        refine (laws_szUser cd dt g l m wo (by unfold maxLen; exact hsz.1) (by unfold maxLen; exact hsz.2) hm0 hm1).mono ?_
        rintro e w2 ⟨rfl, hb2⟩
        have hB2 := hb.trans (hb2.mono hz)
        clear hb2 hc1 hc2 hc3 hc4
        by_cases h1 : m - (cd.size : Int) < 0
        · rw [if_pos h1]
          go_wp2_with fail
          go_ret
          exact ⟨-1, rfl, .inl (by omega), hB2⟩
        · rw [if_neg h1]
          by_cases h2 : m - (cd.size : Int) - (dt.size : Int) < 0
          · rw [if_pos h2]
            go_wp2_with fail
            go_ret
            exact ⟨-1, rfl, .inl (by omega), hB2⟩
          · rw [if_neg h2]
            go_wp2_with fail
            go_roundw
            case rel =>
              refine ⟨k + 1, _, by omega, by go_num, rfl, by omega, by omega, ?_, hB2⟩
              show ∀ u ∈ _, _
              rw [take_add us k _ hxx.out]
              intro u hu
              rcases List.mem_append.1 hu with h | h
              · exact hall.out u h
              · rw [List.mem_singleton] at h
                subst h
                exact ⟨by show cd.size ≤ _; omega, by show dt.size ≤ _; omega⟩
            case measure => simp [intOf]; omega
      · go_wp2_with fail
        go_ret
        have h5 := hall.out
        rw [List.take_of_length_le (by rw [HL.out]; omega)] at h5
        exact ⟨m, rfl, .inr ⟨hm0, by omega, h5⟩, hb⟩
theorem mix_in (ys xs : List Value) (j i : Nat) (h1 : i < ys.length) (h2 : i < xs.length) : ∃ u, (Mix ys xs j)[i]? = some u := by
  refine ⟨(Mix ys xs j)[i]'?_, List.getElem?_eq_getElem _⟩
  unfold Mix
  rw [List.length_append, List.length_take, List.length_drop]
  omega
theorem Try.infoUser : (Try.prog.info? 55).map (fun i => (i.zero, i.size, i.bytes)) = some (some (.agg #[.string ⟨#[]⟩, .string ⟨#[]⟩, .int .i64 0, .int .i64 0]), 4, 48) := by kernel_rfl
theorem run_make_struct {P : Program} (t e : TypeId) (z : Value) (sz bytes : Nat) (ht : P.underlying t = some (.slice e)) (hinfo : (P.info? e).map (fun i => (i.zero, i.size, i.bytes)) = some (some z, sz, bytes))
    (kl kc : IntKind) (n : Nat) (hbytes : bytes * n ≤ 281474976710656) (h63 : n ≤ 9223372036854775807) (w : World) :
    (Instr.makeSlice t (.int kl (n : Int)) (.int kc (n : Int))).run P w = .ok (.slice (some ⟨w.heap.size, 0, none⟩) n n) (w.alloc (.cells (madeCells z.cells (n * sz)) e)) := by
  obtain ⟨i, hi, hzz⟩ := Option.map_eq_some_iff.1 hinfo
  simp only [Prod.mk.injEq] at hzz
  obtain ⟨hz, hs, hb⟩ := hzz
  have hb' : (i.bytes : Int) * (n : Int) ≤ 281474976710656 := by
    rw [hb]
    have h : ((bytes * n : Nat) : Int) ≤ 281474976710656 := by omega
    rwa [Int.natCast_mul] at h
  have hr := run_make (P := P) w t e i z ht hi hz kl kc n n (by omega) (by omega) hb' (by omega)
  simp only [Int.toNat_natCast, hs] at hr
  exact hr
set_option maxHeartbeats 1000000 in
theorem laws_toUserS (A : Option Addr) (n c : Nat) (us : List (ByteArray × ByteArray × Int × Int)) (w : World) (hx : RdU w A n us) (hn : n ≤ 1048576) :
    Calls Try.prog 30 #[.slice A n c] w fun e w' => ∃ B m d, e = .returned (.slice B m d) ∧ w'.ownsRow w.heap.size 55 4 (.slice B m d) m (ucells us) ∧ Below w.heap.size w w' := by
  have HL := Lib.hid hx.len
  have hmk := run_make_struct (P := Try.prog) 42 55 _ 4 48 Try.underlying42 Try.infoUser .i64 .i64 n (by omega) (by omega)
  go_enter Try.func30, Try.ntmps30
  go_wp2_with fail
  clear hmk
  obtain ⟨zs, hzs⟩ : ∃ zs, (madeCells #[Value.string ⟨#[]⟩, .string ⟨#[]⟩, .int .i64 0, .int .i64 0] (n * 4)) = zs := ⟨_, rfl⟩
  have hzl : zs.size = n * 4 := by rw [← hzs, size_madeCells]
  rw [hzs]
  clear hzs
  have HO := Lib.hid (show (w.alloc (.cells zs 55)).ownsRow w.heap.size 55 4 (.slice (some ⟨w.heap.size, 0, none⟩) n n) n zs.toList from
    ⟨by rw [Array.length_toList, hzl], .inr ⟨w.heap.size, n, zs, rfl, Nat.le_refl _, heap_alloc_new w _, Nat.le_refl _, by unfold maxLen; omega, hzl, List.take_of_length_le (by rw [Array.length_toList, hzl]; exact Nat.le_refl _)⟩⟩)
  have HB := Lib.hid (show Below w.heap.size w (w.alloc (.cells zs 55)) from (Below.refl _ _).alloc (Nat.le_refl _) _)
  have HZ := Lib.hid (show zs.toList.length = n * 4 by rw [Array.length_toList, hzl])
  have HU := Lib.hid (show (ucells us).length = n * 4 by rw [ucells_len, HL.out])
  go_loopw [4] (fun v wr => ∃ k : Nat, k ≤ n ∧ v = .int .i64 k ∧ wr.ownsRow w.heap.size 55 4 (.slice (some ⟨w.heap.size, 0, none⟩) n n) n (Mix (ucells us) zs.toList (k * 4)) ∧ Below w.heap.size w wr) (fun v _ => n - (intOf v).toNat)
  case atStart => exact ⟨0, Nat.zero_le _, rfl, by rw [Nat.zero_mul, mix_zero]; exact HO.out, HB.out⟩
  case round =>
    obtain ⟨k, hk, rfl, ho, hb⟩ := hrel
    have hz := hb.size
    by_cases hlt : k < n
    · obtain ⟨b, o, cd, dt, g, l, rfl, hgl, hxx, hc1, hc2, hc3, hc4⟩ := hx.at hlt
      replace hc1 := (hb.cell (p := ⟨b, o + k * 4, none⟩) hgl).trans hc1
      replace hc2 := (hb.cell (p := ⟨b, o + k * 4 + 1, none⟩) hgl).trans hc2
      replace hc3 := (hb.cell (p := ⟨b, o + k * 4 + 2, none⟩) hgl).trans hc3
      replace hc4 := (hb.cell (p := ⟨b, o + k * 4 + 3, none⟩) hgl).trans hc4
      have HO1 := Lib.hid ho
      clear ho HO HB
      obtain ⟨wo, rfl⟩ : ∃ wo, wo = wr := ⟨_, rfl⟩
      go_wp2_with fail
      refine (laws_toUser cd dt g l wo).mono ?_
      rintro e w2 ⟨rfl, hb2⟩
      have hB2 := hb.trans (hb2.mono hz)
      have ho2 := own_below HO1.out hb2
      obtain ⟨a1, a2, a3, a4⟩ := ucells_at us k _ hxx.out
      obtain ⟨u0, hu0⟩ := mix_at (ucells us) zs.toList (k * 4) (by rw [HU.out]; omega) (by rw [HZ.out]; omega)
      have hc0 := (ho2.cellAt (k * 4) (by omega)).trans hu0
      obtain ⟨u1, hu1⟩ := mix_in (ucells us) zs.toList (k * 4) (k * 4 + 1) (by rw [HU.out]; omega) (by rw [HZ.out]; omega)
      obtain ⟨u2, hu2⟩ := mix_in (ucells us) zs.toList (k * 4) (k * 4 + 2) (by rw [HU.out]; omega) (by rw [HZ.out]; omega)
      obtain ⟨u3, hu3⟩ := mix_in (ucells us) zs.toList (k * 4) (k * 4 + 3) (by rw [HU.out]; omega) (by rw [HZ.out]; omega)
      have hd1 := (ho2.cellAt (k * 4 + 1) (by omega)).trans hu1
      have hd2 := (ho2.cellAt (k * 4 + 2) (by omega)).trans hu2
      have hd3 := (ho2.cellAt (k * 4 + 3) (by omega)).trans hu3
      have hf0 := ho2.frozenAt (k * 4)
      have hs1 := ho2.stored (k * 4) (.string cd)
      rw [mix_set _ _ _ _ a1 (by rw [HZ.out]; omega)] at hs1
      have hs2 := hs1.1.stored (k * 4 + 1) (.string dt)
      rw [mix_set _ _ _ _ a2 (by rw [HZ.out]; omega)] at hs2
      have hs3 := hs2.1.stored (k * 4 + 2) (.int .i64 g)
      rw [mix_set _ _ _ _ a3 (by rw [HZ.out]; omega)] at hs3
      have hs4 := hs3.1.stored (k * 4 + 3) (.int .i64 l)
      rw [mix_set _ _ _ _ a4 (by rw [HZ.out]; omega)] at hs4
      have hf1 := hs1.1.frozenAt (k * 4 + 1)
      have hf2 := hs2.1.frozenAt (k * 4 + 2)
      have hf3 := hs3.1.frozenAt (k * 4 + 3)
      have HS := Lib.hid hs4.1
      have HG := Lib.hid (grown_trans hs1.2 (grown_trans hs2.2 (grown_trans hs3.2 hs4.2)))
      have hg1 := ho2.frozenAt (k * 4 + 1)
      have hg2 := ho2.frozenAt (k * 4 + 2)
      have hg3 := ho2.frozenAt (k * 4 + 3)
      clear hs1 hs2 hs3 hs4 a1 a2 a3 a4 hu0 hu1 hu2 hu3 ho2 hb2 hc1 hc2 hc3 hc4 HO1
      go_wp2_with fail
      go_roundw
      case rel => exact ⟨k + 1, by omega, by go_num, by rw [show (k + 1) * 4 = k * 4 + 3 + 1 by omega]; exact HS.out, (((hB2.setCell (Nat.le_refl _) _).setCell (Nat.le_refl _) _).setCell (Nat.le_refl _) _).setCell (Nat.le_refl _) _⟩
      case measure => simp [intOf]; omega
    · rw [mix_full _ _ _ (by rw [HU.out]; omega) (by rw [HZ.out]; omega)] at ho
      clear HO HB
      have HO1 := Lib.hid ho
      clear ho
      go_wp2_with fail
      go_ret
      exact ⟨_, _, _, rfl, HO1.out, hb⟩

end Go.Proofs.Ytlddefmakjnfdaa
