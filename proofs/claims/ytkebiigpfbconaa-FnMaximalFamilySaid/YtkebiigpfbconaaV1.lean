/- What the lists of different correlations give back, in the program and in the reference. Conditions: as each theorem says. -/
import Derived.Test.YtkebiigpfbconaaC14
import Derived.Test.YtkebiigpfbconaaSort
namespace Go.Proofs.Ytkebiigpfbconaa
open Go.RowKit
set_option linter.unusedSimpArgs false
set_option linter.unusedVariables false
set_option maxRecDepth 100000

theorem slices_Sort_any (base E : Nat) (A : Option Addr) (n c : Nat) (zs : List Int) (w : World) (ho : w.ownsRow base E 1 (.slice A n c) n (zs.map (Value.int .i64))) (hn : n ≤ 1048576) (hb : base ≤ w.heap.size) :
    Calls Try.prog 60 #[.slice A n c] w fun e w' => e = .returned (.tuple #[]) ∧ w'.ownsRow base E 1 (.slice A n c) n ((sortL zs).map (Value.int .i64)) ∧ Below base w w' := by
  by_cases h0 : 0 < n
  · obtain ⟨g, rfl, _, _⟩ := own_some ho h0
    refine (slices_Sort_own base E g n c zs w ho h0 hn).mono ?_
    rintro e w' ⟨rfl, h1, h2⟩
    exact ⟨rfl, h1, own_below_of (v := .slice (some ⟨g, 0, none⟩) n c) ho h2 hb⟩
  · obtain rfl : n = 0 := by omega
    have hz : zs = [] := by have := ho.1; rw [List.length_map] at this; exact List.length_eq_zero_iff.1 this
    subst hz
    refine (slices_Sort_none A c w).mono ?_
    rintro e w' ⟨rfl, rfl⟩
    exact ⟨rfl, ho, Below.refl _ _⟩
theorem at_getD (ys : List Int) (k : Nat) (h : k < ys.length) : (ys.map (Value.int .i64))[k]? = some (.int .i64 (ys.getD k 0)) := by
  simp [List.getD, List.getElem?_eq_getElem h]
set_option maxHeartbeats 2000000 in
theorem impl_CrossValues (s t : ByteArray) (w : World) (hs : s.size ≤ 1048576) (ht : t.size ≤ 1048576) :
    Calls Try.prog 70 #[.string s, .string t] w (RetI .i64 3 (valsL (tabL s t)) w) := by
  have HLEN := Lib.hid (tabL_len s t)
  obtain ⟨zs, hzs⟩ : ∃ zs, tabL s t = zs := ⟨_, rfl⟩
  have HV := Lib.hid (once_vals zs)
  have hcall := impl_CrossTable s t w hs ht
  rw [hzs] at hcall HLEN ⊢
  have hsl : (sortL zs).length = zs.length := (sortL_ok zs).2.length_eq
  rw [← sortL_merge] at HV
  obtain ⟨ys, hys⟩ : ∃ ys, sortL zs = ys := ⟨_, rfl⟩
  have HYS := Lib.hid hys
  rw [hys] at HV hsl
  have HL := Lib.hid hsl
  have HST := Lib.hid (onceL_step ys)
  clear hzs hys hsl
  go_enter Try.func70, Try.ntmps70
  go_wp2_with fail
  refine hcall.mono ?_
  clear hcall
  rintro e w1 ⟨B, n, c, rfl, ho, hb⟩
  have hnz : zs.length = n := by have := ho.1; simpa using this
  have hn255 : n ≤ 255 := by have := HLEN.out; omega
  have HNZ := Lib.hid hnz
  clear hnz
  go_wp2_with fail
  refine (slices_Sort_any _ _ _ _ _ _ _ ho (by omega) hb.size).mono ?_
  rintro e w2 ⟨rfl, ho2, hb2⟩
  rw [HYS.out] at ho2
  have hB2 := hb.trans hb2
  have HT := Lib.hid ho2
  have hz2 := hB2.size
  clear ho ho2 hb hb2
  go_wp2_with fail
  have HO := Lib.hid (own_empty w2 3 w.heap.size hz2)
  have HB := Lib.hid (hB2.alloc hz2 (.cells #[] 3))
  have HT3 := Lib.hid (HT.out.alloc (.cells #[] 3))
  go_loopw [6, 17] (fun s' v wr => ∃ (k m d : Nat) (A : Option Addr), v = .int .i64 k ∧ s' = .slice A m d ∧ wr.ownsRow w2.heap.size 3 1 (.slice A m d) m ((onceL ys k).map (Value.int .i64)) ∧ wr.ownsRow w.heap.size 3 1 (.slice B n c) n (ys.map (Value.int .i64)) ∧ k ≤ n ∧ m ≤ k ∧ Below w.heap.size w wr ∧ Below w2.heap.size w2 wr) (fun _ v _ => n - (intOf v).toNat)
  case atStart => exact ⟨0, 0, 0, _, rfl, rfl, own_empty w2 3 w2.heap.size (Nat.le_refl _), HT3.out, by omega, by omega, HB.out, (Below.refl _ _).alloc (Nat.le_refl _) _⟩
  case round =>
    obtain ⟨k, m, d, A, rfl, rfl, ho, hot, hk, hmk, hb, hbw⟩ := hrel
    have hz := hb.size
    have hzz : w2.heap.size ≤ wr.heap.size := hbw.size
    by_cases hlt : k < n
    · obtain ⟨g, rfl, hg1, hg2⟩ := own_some hot hlt
      have hss := HST.out k
      have hc := (hot.cellAt k (by omega)).trans (at_getD ys k (by have := HL.out; have := HNZ.out; omega))
      have hf := hot.frozenAt k
      obtain ⟨x, hx⟩ : ∃ x, ys.getD k 0 = x := ⟨_, rfl⟩
      rw [hx] at hc hss
      by_cases h0 : k = 0
      · subst h0
        rw [if_pos (.inl rfl)] at hss
        have HSS := Lib.hid hss
        have HO1 := Lib.hid ho
        have HOT := Lib.hid hot
        clear ho hot hss hx
        go_wp2_with (at_builtin; refine wpList_append_rd _ rfl _ _ 33 rfl w2.heap.size 3 (.int .i64 0) 8 Try.underlying33 Try.infoI64 rfl (.slice A m d) _ _ rfl (HO1.out.alloc _) _ _ _ [.int .i64 x] rfl (rd_new _ [.int .i64 x] _ 1 rfl) (by simp [Value.oneCell']) ?_ (by omega) ?_ ?_; omega; simp; omega; intro A' q c' w' hq ho hg; have HQ := Lib.hid hq; have HO3 := Lib.hid ho; have HG := Lib.hid hg; clear hq ho hg)
        go_roundw
        case rel =>
            have hl : ∀ k, Value.ownBlock (.slice A m d) = some k → w.heap.size ≤ k := fun k hk => Nat.le_trans hz2 (HO1.out.lt k hk).1
            exact ⟨0 + 1, q, c', A', by go_num, rfl, by rw [HSS.out, List.map_append]; exact HO3.out, World.ownsRow.kept (HOT.out.alloc _) HG.out (own_apart' HT.out HO1.out (Nat.le_refl _)), by omega, by have h9 := HQ.out.out; omega, (hb.alloc (by omega) _).grown HG.out (by simp; omega) hl, (hbw.alloc (by omega) _).grown HG.out (by simp; omega) fun k hk => (HO1.out.lt k hk).1⟩
        case measure => simp [intOf] <;> omega
      · obtain ⟨j, rfl⟩ : ∃ j, k = j + 1 := ⟨k - 1, by omega⟩
        rw [Nat.add_sub_cancel] at hss
        have d0 : ((j : Int) + 1 == 0) = false := beq_eq_false_iff_ne.2 (by omega)
        have hcj := (hot.cellAt j (by omega)).trans (at_getD ys j (by have := HL.out; have := HNZ.out; omega))
        obtain ⟨y, hy⟩ : ∃ y, ys.getD j 0 = y := ⟨_, rfl⟩
        rw [hy] at hcj hss
        by_cases hxy : x = y
        · rw [if_neg (by rintro (h | h); exact absurd h (by omega); exact h hxy)] at hss
          have hne : (x != y) = false := by simp [hxy]
          have HSS := Lib.hid hss
          have HO1 := Lib.hid ho
          have HOT := Lib.hid hot
          clear ho hot hss hx hy hxy
          go_wp2
          go_roundw
          case rel => exact ⟨j + 1 + 1, m, d, A, by go_num, rfl, by rw [HSS.out]; exact HO1.out, HOT.out, by omega, by omega, hb, hbw⟩
          case measure => simp [intOf] <;> omega
        · rw [if_pos (.inr hxy)] at hss
          have hne : (x != y) = true := by simpa using hxy
          have HSS := Lib.hid hss
          have HO1 := Lib.hid ho
          have HOT := Lib.hid hot
          clear ho hot hss hx hy hxy
          go_wp2_with (at_builtin; refine wpList_append_rd _ rfl _ _ 33 rfl w2.heap.size 3 (.int .i64 0) 8 Try.underlying33 Try.infoI64 rfl (.slice A m d) _ _ rfl (HO1.out.alloc _) _ _ _ [.int .i64 x] rfl (rd_new _ [.int .i64 x] _ 1 rfl) (by simp [Value.oneCell']) ?_ (by omega) ?_ ?_; omega; simp; omega; intro A' q c' w' hq ho hg; have HQ := Lib.hid hq; have HO3 := Lib.hid ho; have HG := Lib.hid hg; clear hq ho hg)
          go_roundw
          case rel =>
            have hl : ∀ k, Value.ownBlock (.slice A m d) = some k → w.heap.size ≤ k := fun k hk => Nat.le_trans hz2 (HO1.out.lt k hk).1
            exact ⟨j + 1 + 1, q, c', A', by go_num, rfl, by rw [HSS.out, List.map_append]; exact HO3.out, World.ownsRow.kept (HOT.out.alloc _) HG.out (own_apart' HT.out HO1.out (Nat.le_refl _)), by omega, by have h9 := HQ.out.out; omega, (hb.alloc (by omega) _).grown HG.out (by simp; omega) hl, (hbw.alloc (by omega) _).grown HG.out (by simp; omega) fun k hk => (HO1.out.lt k hk).1⟩
          case measure => simp [intOf] <;> omega
    · obtain rfl : k = n := by omega
      have HO1 := Lib.hid ho
      clear ho hot
      go_wp2
      go_ret
      exact retI_own (by rw [← HV.out, HNZ.out]; exact own_mono HO1.out hz2) hb
set_option maxHeartbeats 400000 in
theorem spec_l2Has (A : Option Addr) (n c : Nat) (zs : List Int) (x : Int) (w : World) (hx : RdI .i64 w A n zs) (hn : n ≤ 1048576) :
    Calls Try.prog 127 #[.slice A n c, .int .i64 x] w fun e w' => e = .returned (.bool (decide (x ∈ zs))) ∧ w = w' := by
  have lx := hx.len
  have LX := Lib.hid lx
  clear lx
  go_enter Try.func127, Try.ntmps127
  go_wp2
  go_loop [5] (fun v => ∃ j : Nat, j ≤ n ∧ v = .int .i64 j ∧ Hid (x ∉ zs.take j)) (fun v => n - (intOf v).toNat)
  case atStart => exact ⟨0, Nat.zero_le _, rfl, by show ¬ _; simp⟩
  case round =>
    obtain ⟨j, hj, rfl, hno⟩ := hrel
    by_cases hlt : j < n
    · obtain ⟨b, o, y, rfl, hb, hyy, hcy⟩ := hx.at hlt
      by_cases hxy : y = x
      · subst hxy
        have heq : (y == y) = true := by simp
        go_wp2
        go_ret
        exact ⟨ret_bool (decide_eq_true (List.mem_of_getElem? hyy.out)).symm, rfl⟩
      · have heq : (y == x) = false := beq_eq_false_iff_ne.2 hxy
        have HNE := Lib.hid hxy
        clear hxy
        go_wp2
        go_round
        case rel => exact ⟨j + 1, by omega, by go_num, by
          show ¬ _
          rw [take_add _ _ _ hyy.out, List.mem_append, List.mem_singleton]
          rintro (h | h)
          · exact hno.out h
          · exact HNE.out h.symm⟩
        case measure => simp [intOf]; omega
    · go_wp2
      go_ret
      refine ⟨ret_bool (decide_eq_false ?_).symm, rfl⟩
      have h3 := hno.out
      rw [List.take_of_length_le (by rw [LX.out]; omega)] at h3
      exact h3

theorem insL_any (x : Int) (l m : List Int) (h : l.any (fun y => decide (x < y)) = true) : insL x (l ++ m) = insL x l ++ m := by
  induction l with
  | nil => simp at h
  | cons y ys ih =>
    rw [List.cons_append]
    unfold insL
    by_cases hc : x < y
    · rw [if_pos hc, if_pos hc]; rfl
    · rw [if_neg hc, if_neg hc, ih (by simpa [hc] using h)]; rfl
theorem insL_none (x : Int) (l m : List Int) (h : l.any (fun y => decide (x < y)) = false) : insL x (l ++ m) = l ++ insL x m := by
  induction l with
  | nil => rfl
  | cons y ys ih =>
    rw [List.any_cons, Bool.or_eq_false_iff] at h
    rw [List.cons_append]
    conv => lhs; unfold insL
    rw [if_neg (by simpa using h.1), ih h.2]; rfl
/-- The list behind k rounds of the insertion. -/
def insK (x : Int) (zs : List Int) (k : Nat) : List Int := if (zs.take k).any (fun y => decide (x < y)) = true then insL x (zs.take k) else zs.take k
theorem insK_len (x : Int) (zs : List Int) (k : Nat) : (insK x zs k).length ≤ k + 1 := by
  unfold insK
  split
  · rw [insL_len, List.length_take]; omega
  · rw [List.length_take]; omega
theorem insK_done (x y : Int) (zs : List Int) (k : Nat) (hy : zs[k]? = some y) (h : (zs.take k).any (fun y => decide (x < y)) = true) :
    (zs.take (k + 1)).any (fun y => decide (x < y)) = true ∧ insK x zs (k + 1) = insK x zs k ++ [y] := by
  have h1 := take_add zs k y hy
  have h2 : (zs.take (k + 1)).any (fun y => decide (x < y)) = true := by rw [h1, List.any_append, h]; rfl
  refine ⟨h2, ?_⟩
  unfold insK
  rw [if_pos h, if_pos h2, h1, insL_any _ _ _ h]
theorem insK_here (x y : Int) (zs : List Int) (k : Nat) (hy : zs[k]? = some y) (h : (zs.take k).any (fun y => decide (x < y)) = false) (hxy : x < y) :
    (zs.take (k + 1)).any (fun y => decide (x < y)) = true ∧ insK x zs (k + 1) = insK x zs k ++ [x] ++ [y] := by
  have h1 := take_add zs k y hy
  have h2 : (zs.take (k + 1)).any (fun y => decide (x < y)) = true := by rw [h1, List.any_append]; simp [hxy]
  refine ⟨h2, ?_⟩
  unfold insK
  rw [if_pos h2, h1, insL_none _ _ _ h, if_neg (by rw [h]; decide)]
  show _ ++ insL x [y] = _
  unfold insL
  rw [if_pos hxy, List.append_assoc]; rfl
theorem insK_not (x y : Int) (zs : List Int) (k : Nat) (hy : zs[k]? = some y) (h : (zs.take k).any (fun y => decide (x < y)) = false) (hxy : ¬ x < y) :
    (zs.take (k + 1)).any (fun y => decide (x < y)) = false ∧ insK x zs (k + 1) = insK x zs k ++ [y] := by
  have h1 := take_add zs k y hy
  have h2 : (zs.take (k + 1)).any (fun y => decide (x < y)) = false := by rw [h1, List.any_append, h]; simp [hxy]
  refine ⟨h2, ?_⟩
  unfold insK
  rw [if_neg (by rw [h2]; decide), if_neg (by rw [h]; decide), h1]
theorem insK_end (x : Int) (zs : List Int) (k : Nat) (hk : zs.length ≤ k) (b : Bool) (h : (zs.take k).any (fun y => decide (x < y)) = b) :
    insL x zs = if b = true then insK x zs k else insK x zs k ++ [x] := by
  have h1 : zs.take k = zs := List.take_of_length_le hk
  unfold insK
  rw [h]
  rw [h1] at h ⊢
  cases b
  · rw [if_neg (by decide), if_neg (by decide)]
    have := insL_none x zs [] h
    rw [List.append_nil] at this
    rw [this]; rfl
  · rw [if_pos rfl, if_pos rfl]
set_option maxHeartbeats 2000000 in
theorem spec_l1Insert (A : Option Addr) (n c : Nat) (zs : List Int) (x : Int) (w : World) (hx : RdI .i64 w A n zs) (hn : n ≤ 1048576) :
    Calls Try.prog 63 #[.slice A n c, .int .i64 x] w (RetI .i64 3 (insL x zs) w) := by
  have HLX := Lib.hid hx.len
  go_enter Try.func63, Try.ntmps63
  go_wp2_with fail
  have HO := Lib.hid (own_empty w 3 w.heap.size (Nat.le_refl _))
  have HB := Lib.hid (show Below w.heap.size w (w.alloc (.cells #[] 3)) from (Below.refl _ _).alloc (Nat.le_refl _) _)
  go_loopw [5, 6, 7] (fun s' f v wr => ∃ (k m d : Nat) (B : Option Addr) (b : Bool), v = .int .i64 k ∧ f = .bool b ∧ s' = .slice B m d ∧ wr.ownsRow w.heap.size 3 1 (.slice B m d) m ((insK x zs k).map (Value.int .i64)) ∧ Hid ((zs.take k).any (fun y => decide (x < y)) = b) ∧ k ≤ n ∧ Below w.heap.size w wr) (fun _ _ v _ => n - (intOf v).toNat)
  case atStart => exact ⟨0, 0, 0, _, false, rfl, rfl, rfl, HO.out, by show _ = _; simp, by omega, HB.out⟩
  case round =>
    obtain ⟨k, m, d, B, b, rfl, rfl, rfl, ho, hany, hk, hb⟩ := hrel
    have hz := hb.size
    have hmk : m ≤ k + 1 := own_num ho (insK_len x zs k)
    have HO1 := Lib.hid ho
    have hl : ∀ k, Value.ownBlock (.slice B m d) = some k → w.heap.size ≤ k := fun k hk => (HO1.out.lt k hk).1
    have HLB := Lib.hid hl
    clear ho HO HB hl
    by_cases hlt : k < n
    · obtain ⟨p, o, y, rfl, hpb, hyy, hcy⟩ := hx.at hlt
      have hcr : wr.cell? ⟨p, o + k, none⟩ = some (.int .i64 y) := (hb.cell (p := ⟨p, o + k, none⟩) hpb).trans hcy
      have hal : ∀ ob, Below w.heap.size w (wr.alloc ob) := fun ob => hb.alloc hz ob
      cases b
      · by_cases hxy : x < y
        · have hin := insK_here x y zs k hyy.out hany.out hxy
          have HIN := Lib.hid hin
          have hcw : ∀ w', Below w.heap.size w w' → w'.cell? ⟨p, o + k, none⟩ = some (.int .i64 y) := fun w' h => (h.cell (p := ⟨p, o + k, none⟩) hpb).trans hcy
          have HCW := Lib.hid hcw
          clear hin hcw
          go_wp2_with (first
            | (at_builtin; refine wpList_append_rd _ rfl _ _ 33 rfl w.heap.size 3 (.int .i64 0) 8 Try.underlying33 Try.infoI64 rfl (.slice B m d) _ _ rfl (HO1.out.alloc _) _ _ _ [.int .i64 x] rfl (rd_new _ [.int .i64 x] _ 1 rfl) (by simp [Value.oneCell']) ?_ (by omega) ?_ ?_; omega; simp; omega; intro A' q c' w' hq ho hg; have hqb : q ≤ 1048580 := (by have h9 := hq.out; omega); have HO3 := Lib.hid ho; have hb3 : Below w.heap.size w w' := (hb.alloc hz _).grown hg (by simp; omega) HLB.out; have hc3 := HCW.out w' hb3; have hz3 := hb3.size; clear hq ho hg hcr hcy hb hal)
            | (at_builtin; refine wpList_append_rd _ rfl _ _ 33 rfl w.heap.size 3 (.int .i64 0) 8 Try.underlying33 Try.infoI64 rfl (.slice A' q c') _ _ rfl (HO3.out.alloc _) _ _ _ [.int .i64 y] rfl (rd_new _ [.int .i64 y] _ 1 rfl) (by simp [Value.oneCell']) ?_ (by omega) ?_ ?_; omega; simp; omega; intro A'' q' c'' w'' hq ho hg; have HO4 := Lib.hid ho; have hb4 : Below w.heap.size w w'' := (hb3.alloc hz3 _).grown hg (by simp; omega) (fun k hk => (HO3.out.lt k hk).1); clear hq ho hg hc3 hb3))
          go_roundw
          case rel => exact ⟨k + 1, q', c'', A'', true, by go_num, rfl, rfl, by rw [HIN.out.2, List.map_append, List.map_append]; exact HO4.out, HIN.out.1, by omega, hb4⟩
          case measure => simp [intOf] <;> omega
        · have hin := insK_not x y zs k hyy.out hany.out hxy
          have HIN := Lib.hid hin
          clear hin
          go_wp2_with (at_builtin; refine wpList_append_rd _ rfl _ _ 33 rfl w.heap.size 3 (.int .i64 0) 8 Try.underlying33 Try.infoI64 rfl (.slice B m d) _ _ rfl (HO1.out.alloc _) _ _ _ [.int .i64 y] rfl (rd_new _ [.int .i64 y] _ 1 rfl) (by simp [Value.oneCell']) ?_ (by omega) ?_ ?_; omega; simp; omega; intro A' q c' w' hq ho hg; have HO3 := Lib.hid ho; have hb3 : Below w.heap.size w w' := (hb.alloc hz _).grown hg (by simp; omega) HLB.out; clear hq ho hg)
          go_roundw
          case rel => exact ⟨k + 1, q, c', A', false, by go_num, rfl, rfl, by rw [HIN.out.2, List.map_append]; exact HO3.out, HIN.out.1, by omega, hb3⟩
          case measure => simp [intOf] <;> omega
      · have hin := insK_done x y zs k hyy.out hany.out
        have HIN := Lib.hid hin
        clear hin
        go_wp2_with (at_builtin; refine wpList_append_rd _ rfl _ _ 33 rfl w.heap.size 3 (.int .i64 0) 8 Try.underlying33 Try.infoI64 rfl (.slice B m d) _ _ rfl (HO1.out.alloc _) _ _ _ [.int .i64 y] rfl (rd_new _ [.int .i64 y] _ 1 rfl) (by simp [Value.oneCell']) ?_ (by omega) ?_ ?_; omega; simp; omega; intro A' q c' w' hq ho hg; have HO3 := Lib.hid ho; have hb3 : Below w.heap.size w w' := (hb.alloc hz _).grown hg (by simp; omega) HLB.out; clear hq ho hg)
        go_roundw
        case rel => exact ⟨k + 1, q, c', A', true, by go_num, rfl, rfl, by rw [HIN.out.2, List.map_append]; exact HO3.out, HIN.out.1, by omega, hb3⟩
        case measure => simp [intOf] <;> omega
    · obtain rfl : k = n := by omega
      have hend := insK_end x zs k (by rw [HLX.out]; exact Nat.le_refl _) b hany.out
      have HEND := Lib.hid hend
      clear hend
      cases b
      · go_wp2_with (at_builtin; refine wpList_append_rd _ rfl _ _ 33 rfl w.heap.size 3 (.int .i64 0) 8 Try.underlying33 Try.infoI64 rfl (.slice B m d) _ _ rfl (HO1.out.alloc _) _ _ _ [.int .i64 x] rfl (rd_new _ [.int .i64 x] _ 1 rfl) (by simp [Value.oneCell']) ?_ (by omega) ?_ ?_; omega; simp; omega; intro A' q c' w' hq ho hg; have HO3 := Lib.hid ho; have hb3 : Below w.heap.size w w' := (hb.alloc hz _).grown hg (by simp; omega) HLB.out; clear hq ho hg)
        go_ret
        exact retI_own (by rw [HEND.out, if_neg (by simp), List.map_append]; exact HO3.out) hb3
      · go_wp2_with fail
        go_ret
        exact retI_own (by rw [HEND.out, if_pos (by trivial)]; exact HO1.out) hb
set_option maxHeartbeats 2000000 in
theorem spec_CrossValues (s t : ByteArray) (w : World) (hs : s.size ≤ 1048576) (ht : t.size ≤ 1048576) :
    Calls Try.prog 121 #[.string s, .string t] w (RetI .i64 3 (valsL (tabL s t)) w) := by
  have HLEN := Lib.hid (tabL_len s t)
  obtain ⟨zs, hzs⟩ : ∃ zs, tabL s t = zs := ⟨_, rfl⟩
  have hcall := spec_CrossTable s t w hs ht
  rw [hzs] at hcall HLEN ⊢
  clear hzs
  go_enter Try.func121, Try.ntmps121
  go_wp2_with fail
  refine hcall.mono ?_
  clear hcall
  rintro e w1 ⟨B, n, c, rfl, hot, hb⟩
  have hnz : zs.length = n := by have := hot.1; simpa using this
  have hn255 : n ≤ 255 := by have := HLEN.out; omega
  have HNZ := Lib.hid hnz
  have hz1 := hb.size
  have HT := Lib.hid (hot.alloc (.cells #[] 3))
  have HB := Lib.hid (hb.alloc hz1 (.cells #[] 3))
  clear hnz hot hb
  go_wp2_with fail
  go_loopw [6, 7] (fun s' v wr => ∃ (k m d : Nat) (A : Option Addr), v = .int .i64 k ∧ s' = .slice A m d ∧ wr.ownsRow w.heap.size 3 1 (.slice A m d) m ((valsL (zs.take k)).map (Value.int .i64)) ∧ wr.ownsRow w.heap.size 3 1 (.slice B n c) n (zs.map (Value.int .i64)) ∧ k ≤ n ∧ Below w.heap.size w wr) (fun _ v _ => n - (intOf v).toNat)
  case atStart => exact ⟨0, 0, 0, _, rfl, rfl, own_empty w1 3 w.heap.size hz1, HT.out, by omega, HB.out⟩
  case round =>
    obtain ⟨k, m, d, A, rfl, rfl, ho, hot, hk, hb⟩ := hrel
    have hz := hb.size
    have hmk : m ≤ k := own_num ho (Nat.le_trans (valsL_len _) (by rw [List.length_take]; omega))
    have HO1 := Lib.hid ho
    clear HT HB
    by_cases hlt : k < n
    · obtain ⟨g, rfl, hg1, hg2⟩ := own_some hot hlt
      have hc := hot.cellAt k (by omega)
      obtain ⟨x, hx⟩ : ∃ x, zs[k]? = some x := ⟨_, List.getElem?_eq_getElem (by rw [HNZ.out]; exact hlt)⟩
      rw [List.getElem?_map, hx] at hc
      replace hc : wr.cell? ⟨g, k, none⟩ = some (.int .i64 x) := hc
      have hst := valsL_snoc (zs.take k) x
      rw [← take_add zs k x hx] at hst
      have HST := Lib.hid hst
      have HOT := Lib.hid hot
      clear hst hot ho hx
      obtain ⟨wo, rfl⟩ : ∃ wo, wo = wr := ⟨_, rfl⟩
      go_wp2_with fail
      refine (spec_l2Has _ _ _ _ x wo (own_rdI HO1.out) (by omega)).mono ?_
      rintro e w' ⟨rfl, rfl⟩
      by_cases hin : x ∈ valsL (zs.take k)
      · rw [decide_eq_true hin]
        have hst := HST.out
        rw [if_pos hin] at hst
        have HST2 := Lib.hid hst
        clear hst hin
        go_wp2_with fail
        go_roundw
        case rel => exact ⟨k + 1, m, d, A, by go_num, rfl, by rw [HST2.out]; exact HO1.out, HOT.out, by omega, hb⟩
        case measure => simp [intOf] <;> omega
      · rw [decide_eq_false hin]
        have hst := HST.out
        rw [if_neg hin] at hst
        have HST2 := Lib.hid hst
        clear hst hin
        go_wp2_with fail
        refine (spec_l1Insert _ _ _ _ x _ (own_rdI HO1.out) (by omega)).mono ?_
        rintro e w2 ⟨A', q, c', rfl, ho, hb2⟩
        have HO3 := Lib.hid (own_mono ho hz)
        have HOT3 := Lib.hid (own_below HOT.out hb2)
        have hB2 := hb.trans (hb2.mono hz)
        clear ho hb hb2
        go_wp2_with fail
        go_roundw
        case rel => exact ⟨k + 1, q, c', A', by go_num, rfl, by rw [HST2.out]; exact HO3.out, HOT3.out, by omega, hB2⟩
        case measure => simp [intOf] <;> omega
    · obtain rfl : k = n := by omega
      rw [List.take_of_length_le (by rw [HNZ.out]; exact Nat.le_refl _)] at HO1
      clear ho hot
      go_wp2
      go_ret
      exact retI_own HO1.out hb

end Go.Proofs.Ytkebiigpfbconaa
