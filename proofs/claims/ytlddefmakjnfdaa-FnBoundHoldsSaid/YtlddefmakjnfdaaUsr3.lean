/- What the bounds of interference give back, in the program and in the reference. Conditions: as each theorem says. -/
import Derived.Test.YtlddefmakjnfdaaUsr2
import Derived.Test.YtlddefmakjnfdaaC11
namespace Go.Proofs.Ytlddefmakjnfdaa
open Go.RowKit
set_option linter.unusedSimpArgs false
set_option linter.unusedVariables false
set_option maxRecDepth 100000

def noU : ByteArray × ByteArray × Int × Int := (⟨#[]⟩, ⟨#[]⟩, 0, 0)
def sameU (v u : ByteArray × ByteArray × Int × Int) : Bool := (u.2.2.2 == v.2.2.2) && (u.1.size == v.1.size)
def gapI (us : List (ByteArray × ByteArray × Int × Int)) (k i : Nat) : Int :=
  if i = k then 0 else (us.getD i noU).2.2.1 * max (corL (us.getD i noU).1.data.toList (us.getD k noU).1.data.toList 0) (-(corL (us.getD i noU).1.data.toList (us.getD k noU).1.data.toList 0))
def intfC (us : List (ByteArray × ByteArray × Int × Int)) (k : Int) : Int :=
  if usersB us = true ∧ 0 ≤ k ∧ k < us.length then (if us.all (sameU (us.getD k.toNat noU)) = true then sumTo (gapI us k.toNat) us.length else -1) else -1
theorem getD_u {us : List (ByteArray × ByteArray × Int × Int)} {i : Nat} {u : ByteArray × ByteArray × Int × Int} (h : us[i]? = some u) : us.getD i noU = u := by simp [List.getD, h]
theorem user_bd (c d : ByteArray) (g l : Int) (h : userU (c, d, g, l) = true) : seqB c.data.toList = true ∧ c.data.toList.all isBit = true ∧ 1 ≤ c.size ∧ c.size ≤ 255 ∧ bitsB d.data.toList = true ∧ d.size ≤ 600 ∧ 0 ≤ g ∧ g ≤ 1000 ∧ 0 ≤ l ∧ l ≤ 1000 ∧ (d.size : Int) * c.size + l ≤ 3000 := by
  unfold userU userB at h
  simp only [Bool.and_eq_true, decide_eq_true_eq] at h
  obtain ⟨⟨⟨⟨h1, h2⟩, h3⟩, h4⟩, h5⟩ := h
  have b1 := seqB_bd c h1
  have b2 := bitsB_bd d h2
  have b3 := (within_iff _ _ _).1 h3
  have b4 := (within_iff _ _ _).1 h4
  have b5 := h1
  simp only [seqB, Bool.and_eq_true] at b5
  rw [len_data, len_data] at h5
  exact ⟨h1, b5.2, b1.1, b1.2, h2, b2, b3.1, b3.2, b4.1, b4.2, h5⟩
theorem users_at (us : List (ByteArray × ByteArray × Int × Int)) (h : usersB us = true) : us.length ≤ 8 ∧ ∀ u ∈ us, userU u = true := by
  unfold usersB at h
  simp only [Bool.and_eq_true, decide_eq_true_eq] at h
  exact ⟨h.1, fun u hu => List.all_eq_true.1 h.2 u hu⟩
theorem gap_bd (us : List (ByteArray × ByteArray × Int × Int)) (h : usersB us = true) (k i : Nat) : 0 ≤ gapI us k i ∧ gapI us k i ≤ 255000 := by
  unfold gapI
  split
  · omega
  · have hu : 0 ≤ (us.getD i noU).2.2.1 ∧ (us.getD i noU).2.2.1 ≤ 1000 ∧ (us.getD i noU).1.size ≤ 255 := by
      cases hi : us[i]? with
      | none => simp only [List.getD, hi, Option.getD_none]; decide
      | some u =>
        rw [getD_u hi]
        obtain ⟨c, d, g, l⟩ := u
        have := user_bd c d g l ((users_at us h).2 _ (List.mem_of_getElem? hi))
        exact ⟨this.2.2.2.2.2.2.1, this.2.2.2.2.2.2.2.1, this.2.2.2.1⟩
    have hc := corL_bd (us.getD i noU).1.data.toList (us.getD k noU).1.data.toList 0 (by rw [len_data]; exact hu.2.2)
    generalize corL (us.getD i noU).1.data.toList (us.getD k noU).1.data.toList 0 = z at hc ⊢
    generalize (us.getD i noU).2.2.1 = g at hu ⊢
    have h1 : 0 ≤ max z (-z) ∧ max z (-z) ≤ 255 := by omega
    generalize max z (-z) = y at h1 ⊢
    obtain ⟨a, rfl⟩ := Int.eq_ofNat_of_zero_le hu.1
    obtain ⟨b, rfl⟩ := Int.eq_ofNat_of_zero_le h1.1
    exact mul_bd a b 1000 255 (by omega) (by omega)
theorem gaps_bd (us : List (ByteArray × ByteArray × Int × Int)) (h : usersB us = true) (k : Nat) : ∀ n, 0 ≤ sumTo (gapI us k) n ∧ sumTo (gapI us k) n ≤ 255000 * n
  | 0 => by show (0 : Int) ≤ 0 ∧ (0 : Int) ≤ _; omega
  | n + 1 => by have := gaps_bd us h k n; have := gap_bd us h k n; rw [sumTo_succ]; omega
theorem impl_correlation0 (s t : ByteArray) (w : World) (hs : s.size ≤ 255) (hst : s.size = t.size) (hk : 1 ≤ t.size) :
    Calls Try.prog 69 #[.string s, .string t, .int .i64 0] w (RetD (.int .i64 (corL s.data.toList t.data.toList 0)) w) := impl_correlation s t 0 w hs hst hk
set_option maxHeartbeats 4000000 in
theorem impl_InterferenceBound (A : Option Addr) (n c : Nat) (us : List (ByteArray × ByteArray × Int × Int)) (k : Int) (w : World) (hx : RdU w A n us) (hn : n ≤ 1048576) (hs : ∀ u ∈ us, u.1.size ≤ 1048576 ∧ u.2.1.size ≤ 1048576) :
    Calls Try.prog 31 #[.slice A n c, .int .i64 k] w fun e w' => e = .returned (.int .i64 (intfC us k)) ∧ Below w.heap.size w w' := by
  have hl := hx.len
  have hv := impl_usersValid A n c us w hx hn hs
  cases hub : usersB us
  · rw [show intfC us k = -1 by unfold intfC; rw [hub, if_neg (by simp)]]
    rw [hub] at hv
    clear hub hs
    go_enter Try.func31, Try.ntmps31
    go_wp2_with fail
    refine hv.mono ?_
    rintro e w1 ⟨rfl, hb1⟩
    go_wp2_with fail
    go_ret
    exact ⟨rfl, hb1⟩
  · rw [hub] at hv
    by_cases hk : 0 ≤ k ∧ k < n
    · obtain ⟨hk0, hkn⟩ := hk
      obtain ⟨q, rfl⟩ := Int.eq_ofNat_of_zero_le hk0
      have hqn : q < n := by omega
      obtain ⟨b, o, v1, v2, v3, v4, rfl, hgl, hvv, hd1, hd2, hd3, hd4⟩ := hx.at hqn
      have hu := users_at us hub
      have hgv := getD_u hvv.out
      have hvb := user_bd v1 v2 v3 v4 (hu.2 _ (List.mem_of_getElem? hvv.out))
      have hI : intfC us (q : Int) = if us.all (sameU (v1, v2, v3, v4)) = true then sumTo (gapI us q) n else -1 := by
        unfold intfC
        rw [if_pos ⟨hub, by omega, by rw [hl]; omega⟩, Int.toNat_natCast, hgv, hl]
      have HI := Lib.hid hI
      have HGB := Lib.hid (gaps_bd us hub q)
      have HU := Lib.hid hu.2
      have HGV := Lib.hid hgv
      have HL := Lib.hid hl
      have hn8 : n ≤ 8 := by have := hu.1; omega
      have HVB := Lib.hid hvb
      have hdq : decide ((q : Int) < 0) = false := by simp
      have hdn : decide ((n : Int) ≤ (q : Int)) = false := decide_eq_false (by omega)
      have hdn2 : decide (n ≤ q) = false := decide_eq_false (by omega)
      clear hub hs hu hgv hvb hI hl hk0 hn
      go_enter Try.func31, Try.ntmps31
      go_wp2_with fail
      refine hv.mono ?_
      rintro e w1 ⟨rfl, hb1⟩
      clear hv
      go_wp2_with fail
      go_loopw [5, 23] (fun m v wr => ∃ i : Nat, i ≤ n ∧ v = .int .i64 i ∧ m = .int .i64 (sumTo (gapI us q) i) ∧ Hid ((us.take i).all (sameU (v1, v2, v3, v4)) = true) ∧ Below w.heap.size w wr) (fun _ v _ => n - (intOf v).toNat)
      case atStart => exact ⟨0, Nat.zero_le _, rfl, rfl, by show _ = _; simp, hb1⟩
      case round =>
        obtain ⟨i, hi, rfl, rfl, hall, hb⟩ := hrel
        have hz := hb.size
        by_cases hlt : i < n
        · obtain ⟨b', o', x1, x2, x3, x4, hbo, hgl', hxx, hc1, hc2, hc3, hc4⟩ := hx.at hlt
          injection hbo with hbo
          injection hbo with hbo1 hbo2
          subst hbo1
          subst hbo2
          have hxb := user_bd x1 x2 x3 x4 (HU.out _ (List.mem_of_getElem? hxx.out))
          have hgi : i ≠ q → gapI us q i = x3 * max (corL x1.data.toList v1.data.toList 0) (-(corL x1.data.toList v1.data.toList 0)) := fun h => by
            unfold gapI; rw [if_neg h, getD_u hxx.out, HGV.out]
          have hgq : i = q → gapI us q i = 0 := fun h => by unfold gapI; rw [if_pos h]
          have hmb := HGB.out i
          obtain ⟨m, hm⟩ : ∃ m, sumTo (gapI us q) i = m := ⟨_, rfl⟩
          have HSU := Lib.hid (show sumTo (gapI us q) (i + 1) = m + gapI us q i by rw [sumTo_succ, hm])
          rw [hm] at hmb ⊢
          have HGI := Lib.hid hgi
          have HGQ := Lib.hid hgq
          have HXB := Lib.hid hxb
          clear hm hgi hgq hxb
          replace hc1 := (hb.cell (p := ⟨b, o + i * 4, none⟩) hgl).trans hc1
          replace hc2 := (hb.cell (p := ⟨b, o + i * 4 + 1, none⟩) hgl).trans hc2
          replace hc3 := (hb.cell (p := ⟨b, o + i * 4 + 2, none⟩) hgl).trans hc3
          replace hc4 := (hb.cell (p := ⟨b, o + i * 4 + 3, none⟩) hgl).trans hc4
          obtain ⟨wo, rfl⟩ : ∃ wo, wo = wr := ⟨_, rfl⟩
          go_wp2_with fail
          have hb2 : Below w.heap.size w (wo.alloc (.cells #[.string x1, .string x2, .int .i64 x3, .int .i64 x4] 55)) := hb.alloc hz _
          have ho2 := own_lit wo 55 4 [.string x1, .string x2, .int .i64 x3, .int .i64 x4] rfl (by decide)
          clear hc1 hc2 hc3 hc4
          replace ho2 : (wo.alloc (.cells #[.string x1, .string x2, .int .i64 x3, .int .i64 x4] 55)).ownsRow wo.heap.size 55 1 (.slice (some ⟨wo.heap.size, 0, none⟩) 4 4) 4 [.string x1, .string x2, .int .i64 x3, .int .i64 x4] := ho2
          generalize wo.alloc (.cells #[.string x1, .string x2, .int .i64 x3, .int .i64 x4] 55) = wn at *
          have e1 : wn.cell? ⟨wo.heap.size, 0, none⟩ = some (.string x1) := ho2.cellAt 0 (by omega)
          have e3 : wn.cell? ⟨wo.heap.size, 2, none⟩ = some (.int .i64 x3) := ho2.cellAt 2 (by omega)
          have e4 : wn.cell? ⟨wo.heap.size, 3, none⟩ = some (.int .i64 x4) := ho2.cellAt 3 (by omega)
          have f1 := (hb2.cell (p := ⟨b, o + q * 4, none⟩) hgl).trans hd1
          have f4 := (hb2.cell (p := ⟨b, o + q * 4 + 3, none⟩) hgl).trans hd4
          clear ho2
          by_cases h4 : x4 = v4
          · have d4 : (x4 != v4) = false := by simp [h4]
            by_cases h1 : x1.size = v1.size
            · have d1 : ((x1.size : Int) != (v1.size : Int)) = false := by simp; omega
              go_quiet (fail)
              rename_i nq
              have hb3 : Below w.heap.size w (wn.drewN nq) := below_drewN hb2 nq
              have hsame : sameU (v1, v2, v3, v4) (x1, x2, x3, x4) = true := by
                unfold sameU; simp [h4, h1]
              have hall2 : (us.take (i + 1)).all (sameU (v1, v2, v3, v4)) = true := by
                rw [take_add us i _ hxx.out, List.all_append, hall.out]; simp [hsame]
              have HALL2 := Lib.hid hall2
              have HB3 := Lib.hid hb3
              clear hsame hall2 hb3
              by_cases hiq : i = q
              · have e5 : ((i : Int) != (q : Int)) = false := by simp [hiq]
                have HQ := Lib.hid (HGQ.out hiq)
                clear hiq
                go_wp2_with fail
                go_roundw
                case rel => exact ⟨i + 1, by omega, by go_num, by rw [HSU.out, HQ.out, Int.add_zero], HALL2.out, HB3.out⟩
                case measure => simp [intOf]; omega
              · have e5 : ((i : Int) != (q : Int)) = true := by simp; omega
                have HQ := Lib.hid (HGI.out hiq)
                have hzb := corL_bd x1.data.toList v1.data.toList 0 (by rw [len_data]; exact HXB.out.2.2.2.1)
                obtain ⟨z, hz2⟩ : ∃ z, corL x1.data.toList v1.data.toList 0 = z := ⟨_, rfl⟩
                rw [hz2] at hzb HQ
                have HZ := Lib.hid hz2
                obtain ⟨y, hy⟩ : ∃ y, max z (-z) = y := ⟨_, rfl⟩
                have hyb : 0 ≤ y ∧ y ≤ 255 := by omega
                rw [hy] at HQ
                have HY := Lib.hid hy
                have hpb : 0 ≤ x3 * y ∧ x3 * y ≤ 255000 := by
                  obtain ⟨a, ha⟩ := Int.eq_ofNat_of_zero_le HXB.out.2.2.2.2.2.2.1
                  obtain ⟨b2, hb2'⟩ := Int.eq_ofNat_of_zero_le hyb.1
                  have h5 := HXB.out.2.2.2.2.2.2.2.1
                  rw [ha, hb2']
                  exact mul_bd a b2 1000 255 (by omega) (by omega)
                obtain ⟨p, hp⟩ : ∃ p, x3 * y = p := ⟨_, rfl⟩
                rw [hp] at hpb HQ
                have hmb2 : 0 ≤ m ∧ m ≤ 2550000 := by omega
                have w1' : IntKind.i64.wrap p = p := IntWalk.i64_in _ ⟨by omega, by omega⟩
                have w2' : IntKind.i64.wrap (m + p) = m + p := IntWalk.i64_in _ ⟨by omega, by omega⟩
                clear hiq hz2 hy
                have g1 := (HB3.out.cell (p := ⟨b, o + q * 4, none⟩) hgl).trans hd1
                have e1' : (wn.drewN nq).cell? ⟨wo.heap.size, 0, none⟩ = some (.string x1) := e1
                have e3' : (wn.drewN nq).cell? ⟨wo.heap.size, 2, none⟩ = some (.int .i64 x3) := e3
                clear e1 e3 e4 f1 f4 hb2 hb hz
                obtain ⟨wk, hwk⟩ : ∃ x, x = wn.drewN nq := ⟨_, rfl⟩
                rw [← hwk] at g1 e1' e3' HB3 ⊢
                clear hwk
                go_wp2_with fail
                go_quiet ((first
                  | (go_at_call 69; refine (impl_correlation0 x1 v1 _ HXB.out.2.2.2.1 h1 HVB.out.2.2.1).mono ?_; rintro e w' ⟨rfl, m', rfl⟩; rw [HZ.out]; exact ⟨rfl, _, World.drewN_drewN _ _ _⟩)
                  | (go_at_call 68; refine (impl_absolute z _ (by omega) (by omega)).mono ?_; rintro e w' ⟨rfl, rfl⟩; rw [HY.out]; exact ⟨rfl, _, rfl⟩)))
                go_wp2_with fail
                go_roundw
                case rel => exact ⟨i + 1, by omega, by go_num, by rw [HSU.out, HQ.out], HALL2.out, below_drewN HB3.out _⟩
                case measure => simp [intOf]; omega
            · have d1 : ((x1.size : Int) != (v1.size : Int)) = true := by simp; omega
              go_quiet (fail)
              have hno : us.all (sameU (v1, v2, v3, v4)) = false := by
                rw [List.all_eq_false]
                exact ⟨_, List.mem_of_getElem? hxx.out, by unfold sameU; simp [h1]⟩
              have hI2 := HI.out
              rw [if_neg (by rw [hno]; decide)] at hI2
              have HI2 := Lib.hid hI2
              clear hI2 hno
              go_wp2_with fail
              go_ret
              exact ⟨ret_int (by rw [HI2.out]), below_drewN hb2 _⟩
          · have d4 : (x4 != v4) = true := by simpa using h4
            go_quiet (fail)
            have hno : us.all (sameU (v1, v2, v3, v4)) = false := by
              rw [List.all_eq_false]
              exact ⟨_, List.mem_of_getElem? hxx.out, by unfold sameU; simp [h4]⟩
            have hI2 := HI.out
            rw [if_neg (by rw [hno]; decide)] at hI2
            have HI2 := Lib.hid hI2
            clear hI2 hno
            go_wp2_with fail
            go_ret
            exact ⟨ret_int (by rw [HI2.out]), below_drewN hb2 _⟩
        · obtain rfl : i = n := by omega
          have hyes : us.all (sameU (v1, v2, v3, v4)) = true := by
            have := hall.out
            rwa [List.take_of_length_le (by rw [HL.out]; exact Nat.le_refl _)] at this
          have hI2 := HI.out
          rw [if_pos hyes] at hI2
          have HI2 := Lib.hid hI2
          clear hI2 hyes
          go_wp2_with fail
          go_ret
          exact ⟨ret_int (by rw [HI2.out]), hb⟩
    · rw [show intfC us k = -1 by unfold intfC; rw [if_neg (fun h => hk ⟨h.2.1, by rw [← hl]; exact h.2.2⟩)]]
      have hcs : k < 0 ∨ (0 ≤ k ∧ (n : Int) ≤ k) := by omega
      clear hk hub hs
      rcases hcs with hk | ⟨hk0, hk⟩
      all_goals
        go_enter Try.func31, Try.ntmps31
        go_wp2_with fail
        refine hv.mono ?_
        rintro e w1 ⟨rfl, hb1⟩
        go_wp2_with fail
        go_ret
        exact ⟨rfl, hb1⟩
theorem spec_l2Cross0 (s t : ByteArray) (w : World) (hs : s.size ≤ 255) (hst : s.size = t.size) (hk : 1 ≤ t.size) (hb : s.data.toList.all isBit = true) (hb' : t.data.toList.all isBit = true) :
    Calls Try.prog 65 #[.string s, .string t, .int .i64 0] w fun e w' => e = .returned (.int .i64 (corL s.data.toList t.data.toList 0)) ∧ Below w.heap.size w w' := spec_l2Cross s t 0 w hs hst hk hb hb'
set_option maxHeartbeats 4000000 in
theorem spec_InterferenceBound (A : Option Addr) (n c : Nat) (us : List (ByteArray × ByteArray × Int × Int)) (k : Int) (w : World) (hx : RdU w A n us) (hn : n ≤ 1048576) (hs : ∀ u ∈ us, u.1.size ≤ 1048576 ∧ u.2.1.size ≤ 1048576) :
    Calls Try.prog 29 #[.slice A n c, .int .i64 k] w fun e w' => e = .returned (.int .i64 (intfC us k)) ∧ Below w.heap.size w w' := by
  have hl := hx.len
  have hv := spec_l4Users A n c us w hx hn hs
  cases hub : usersB us
  · rw [show intfC us k = -1 by unfold intfC; rw [hub, if_neg (by simp)]]
    rw [hub] at hv
    clear hub hs
    go_enter Try.func29, Try.ntmps29
    go_wp2_with fail
    refine hv.mono ?_
    rintro e w1 ⟨rfl, hb1⟩
    go_wp2_with fail
    go_ret
    exact ⟨rfl, hb1⟩
  · rw [hub] at hv
    by_cases hk : 0 ≤ k ∧ k < n
    · have hin : within 0 ((n : Int) - 1) k = true := (within_iff _ _ _).2 ⟨hk.1, by omega⟩
      have HIN := Lib.hid hin
      obtain ⟨hk0, hkn⟩ := hk
      obtain ⟨q, rfl⟩ := Int.eq_ofNat_of_zero_le hk0
      have hqn : q < n := by omega
      obtain ⟨b, o, v1, v2, v3, v4, rfl, hgl, hvv, hd1, hd2, hd3, hd4⟩ := hx.at hqn
      have hu := users_at us hub
      have hgv := getD_u hvv.out
      have hvb := user_bd v1 v2 v3 v4 (hu.2 _ (List.mem_of_getElem? hvv.out))
      have hI : intfC us (q : Int) = if us.all (sameU (v1, v2, v3, v4)) = true then sumTo (gapI us q) n else -1 := by
        unfold intfC
        rw [if_pos ⟨hub, by omega, by rw [hl]; omega⟩, Int.toNat_natCast, hgv, hl]
      have HI := Lib.hid hI
      have HGB := Lib.hid (gaps_bd us hub q)
      have HU := Lib.hid hu.2
      have HGV := Lib.hid hgv
      have HL := Lib.hid hl
      have hn8 : n ≤ 8 := by have := hu.1; omega
      have HVB := Lib.hid hvb
      clear hub hs hu hgv hvb hI hl hk0 hn hin
      go_enter Try.func29, Try.ntmps29
      go_wp2_with fail
      refine hv.mono ?_
      rintro e w1 ⟨rfl, hb1⟩
      clear hv
      go_wp2_with (go_at_call 61; refine (spec_l1In _ _ _ _).mono ?_; rintro e w' ⟨rfl, rfl⟩; rw [HIN.out])
      go_loopw [5, 6] (fun m v wr => ∃ i : Nat, i ≤ n ∧ v = .int .i64 i ∧ m = .int .i64 (sumTo (gapI us q) i) ∧ Hid ((us.take i).all (sameU (v1, v2, v3, v4)) = true) ∧ Below w.heap.size w wr) (fun _ v _ => n - (intOf v).toNat)
      case atStart => exact ⟨0, Nat.zero_le _, rfl, rfl, by show _ = _; simp, hb1⟩
      case round =>
        obtain ⟨i, hi, rfl, rfl, hall, hb⟩ := hrel
        have hz := hb.size
        by_cases hlt : i < n
        · obtain ⟨b', o', x1, x2, x3, x4, hbo, hgl', hxx, hc1, hc2, hc3, hc4⟩ := hx.at hlt
          injection hbo with hbo
          injection hbo with hbo1 hbo2
          subst hbo1
          subst hbo2
          have hxb := user_bd x1 x2 x3 x4 (HU.out _ (List.mem_of_getElem? hxx.out))
          have hgi : i ≠ q → gapI us q i = x3 * max (corL x1.data.toList v1.data.toList 0) (-(corL x1.data.toList v1.data.toList 0)) := fun h => by
            unfold gapI; rw [if_neg h, getD_u hxx.out, HGV.out]
          have hgq : i = q → gapI us q i = 0 := fun h => by unfold gapI; rw [if_pos h]
          have hmb := HGB.out i
          obtain ⟨m, hm⟩ : ∃ m, sumTo (gapI us q) i = m := ⟨_, rfl⟩
          have HSU := Lib.hid (show sumTo (gapI us q) (i + 1) = m + gapI us q i by rw [sumTo_succ, hm])
          rw [hm] at hmb ⊢
          have HGI := Lib.hid hgi
          have HGQ := Lib.hid hgq
          have HXB := Lib.hid hxb
          clear hm hgi hgq hxb
          have hcw : ∀ w', Below w.heap.size w w' → w'.cell? ⟨b, o + i * 4, none⟩ = some (.string x1) ∧ w'.cell? ⟨b, o + i * 4 + 2, none⟩ = some (.int .i64 x3) ∧ w'.cell? ⟨b, o + i * 4 + 3, none⟩ = some (.int .i64 x4) ∧ w'.cell? ⟨b, o + q * 4, none⟩ = some (.string v1) ∧ w'.cell? ⟨b, o + q * 4 + 3, none⟩ = some (.int .i64 v4) := fun w' h =>
            ⟨(h.cell (p := ⟨b, _, none⟩) hgl).trans hc1, (h.cell (p := ⟨b, _, none⟩) hgl).trans hc3, (h.cell (p := ⟨b, _, none⟩) hgl).trans hc4, (h.cell (p := ⟨b, _, none⟩) hgl).trans hd1, (h.cell (p := ⟨b, _, none⟩) hgl).trans hd4⟩
          have HCW := Lib.hid hcw
          obtain ⟨e1, e3, e4, f1, f4⟩ := hcw wr hb
          clear hc1 hc2 hc3 hc4 hcw
          by_cases h4 : x4 = v4
          · have d4 : (x4 != v4) = false := by simp [h4]
            by_cases h1 : x1.size = v1.size
            · have d1 : ((x1.size : Int) != (v1.size : Int)) = false := by simp; omega
              have hsame : sameU (v1, v2, v3, v4) (x1, x2, x3, x4) = true := by
                unfold sameU; simp [h4, h1]
              have hall2 : (us.take (i + 1)).all (sameU (v1, v2, v3, v4)) = true := by
                rw [take_add us i _ hxx.out, List.all_append, hall.out]; simp [hsame]
              have HALL2 := Lib.hid hall2
              have hzb := corL_bd x1.data.toList v1.data.toList 0 (by rw [len_data]; exact HXB.out.2.2.2.1)
              obtain ⟨z, hz2⟩ : ∃ z, corL x1.data.toList v1.data.toList 0 = z := ⟨_, rfl⟩
              rw [hz2] at hzb
              have HZ := Lib.hid hz2
              clear hsame hall2
              obtain ⟨wo, rfl⟩ : ∃ wo, wo = wr := ⟨_, rfl⟩
              go_wp2_with fail
              go_quiet (fail)
              rename_i nq
              have hb3 : Below w.heap.size w (wo.drewN nq) := below_drewN hb nq
              clear e1 e3 e4 f1 f4 hb
              obtain ⟨wk, hwk⟩ : ∃ x, x = wo.drewN nq := ⟨_, rfl⟩
              rw [← hwk] at hb3 ⊢
              clear hwk hz
              have hz3 := hb3.size
              have HA := Lib.hid (HCW.out wk hb3)
              have HA' := Lib.hid (HCW.out wk.drew hb3.drew)
              obtain ⟨e1, e3, e4, f1, f4⟩ := HCW.out wk hb3
              go_wp2_with fail
              go_region_held3 (fun w' => w'.cell? ⟨b, o + i * 4, none⟩ = some (.string x1) ∧ w'.cell? ⟨b, o + i * 4 + 2, none⟩ = some (.int .i64 x3) ∧ w'.cell? ⟨b, o + i * 4 + 3, none⟩ = some (.int .i64 x4) ∧ w'.cell? ⟨b, o + q * 4, none⟩ = some (.string v1) ∧ w'.cell? ⟨b, o + q * 4 + 3, none⟩ = some (.int .i64 v4)) (first | exact HA.out | exact HA'.out | exact HA2.out) ((go_at_call 65; refine (spec_l2Cross0 x1 v1 _ HXB.out.2.2.2.1 h1 HVB.out.2.2.1 HXB.out.2.1 HVB.out.2.1).mono ?_; rintro e w2 ⟨rfl, hb2⟩; rw [HZ.out]; have hB2 : Below w.heap.size w w2 := hb3.trans ((show Below wk.heap.size wk w2 from ⟨hb2.os, hb2.tape, hb2.output, hb2.size, hb2.block⟩).mono hz3); have HA2 := Lib.hid (HCW.out w2 hB2)))
              clear e1 e3 e4 f1 f4
              obtain ⟨e1, e3, e4, f1, f4⟩ := HA2.out
              by_cases hiq : i = q
              · have e5 : ((i : Int) != (q : Int)) = false := by simp [hiq]
                have HQ := Lib.hid (HGQ.out hiq)
                clear hiq
                go_wp2_with fail
                go_roundw
                case rel => exact ⟨i + 1, by omega, by go_num, by rw [HSU.out, HQ.out, Int.add_zero], HALL2.out, hB2⟩
                case measure => simp [intOf]; omega
              · have e5 : ((i : Int) != (q : Int)) = true := by simp; omega
                have HQ := Lib.hid (HGI.out hiq)
                have hq2 := HQ.out
                rw [HZ.out] at hq2
                obtain ⟨y, hy⟩ : ∃ y, max z (-z) = y := ⟨_, rfl⟩
                have hyb : 0 ≤ y ∧ y ≤ 255 := by omega
                have hpb : 0 ≤ x3 * y ∧ x3 * y ≤ 255000 := by
                  obtain ⟨a, ha⟩ := Int.eq_ofNat_of_zero_le HXB.out.2.2.2.2.2.2.1
                  obtain ⟨b2, hb2'⟩ := Int.eq_ofNat_of_zero_le hyb.1
                  have h5 := HXB.out.2.2.2.2.2.2.2.1
                  rw [ha, hb2']
                  exact mul_bd a b2 1000 255 (by omega) (by omega)
                have hmb2 : 0 ≤ m ∧ m ≤ 2550000 := by omega
                have wn : IntKind.i64.wrap (-z) = -z := IntWalk.i64_in _ ⟨by omega, by omega⟩
                rcases Int.lt_trichotomy z 0 with ht | ht | ht
                · obtain rfl : y = -z := by omega
                  obtain ⟨p, hp⟩ : ∃ p, x3 * -z = p := ⟨_, rfl⟩
                  rw [hp] at hpb
                  rw [hy, hp] at hq2
                  have HQ2 := Lib.hid hq2
                  clear hiq hq2 hy
                  go_wp2_with fail
                  go_roundw
                  case rel => exact ⟨i + 1, by omega, by go_num, by rw [HSU.out, HQ2.out], HALL2.out, hB2⟩
                  case measure => simp [intOf]; omega
                · subst ht
                  obtain rfl : y = 0 := by omega
                  rw [hy] at hq2
                  have HQ2 := Lib.hid hq2
                  clear hiq hq2 hy
                  go_wp2_with fail
                  go_roundw
                  case rel => exact ⟨i + 1, by omega, by go_num, by rw [HSU.out, HQ2.out]; simp, HALL2.out, hB2⟩
                  case measure => simp [intOf]; omega
                · obtain rfl : y = z := by omega
                  obtain ⟨p, hp⟩ : ∃ p, x3 * y = p := ⟨_, rfl⟩
                  rw [hp] at hpb
                  rw [hy, hp] at hq2
                  have HQ2 := Lib.hid hq2
                  clear hiq hq2 hy
                  go_wp2_with fail
                  go_roundw
                  case rel => exact ⟨i + 1, by omega, by go_num, by rw [HSU.out, HQ2.out], HALL2.out, hB2⟩
                  case measure => simp [intOf]; omega
            · have d1 : ((x1.size : Int) != (v1.size : Int)) = true := by simp; omega
              go_wp2_with fail
              go_quiet (fail)
              have hno : us.all (sameU (v1, v2, v3, v4)) = false := by
                rw [List.all_eq_false]
                exact ⟨_, List.mem_of_getElem? hxx.out, by unfold sameU; simp [h1]⟩
              have hI2 := HI.out
              rw [if_neg (by rw [hno]; decide)] at hI2
              have HI2 := Lib.hid hI2
              clear hI2 hno
              go_wp2_with fail
              go_ret
              exact ⟨ret_int (by rw [HI2.out]), below_drewN hb _⟩
          · have d4 : (x4 != v4) = true := by simpa using h4
            by_cases h1 : x1.size = v1.size
            · have d1 : ((x1.size : Int) != (v1.size : Int)) = false := by simp; omega
              go_wp2_with fail
              go_quiet (fail)
              have hno : us.all (sameU (v1, v2, v3, v4)) = false := by
                rw [List.all_eq_false]
                exact ⟨_, List.mem_of_getElem? hxx.out, by unfold sameU; simp [h4]⟩
              have hI2 := HI.out
              rw [if_neg (by rw [hno]; decide)] at hI2
              have HI2 := Lib.hid hI2
              clear hI2 hno
              go_wp2_with fail
              go_ret
              exact ⟨ret_int (by rw [HI2.out]), below_drewN hb _⟩
            · have d1 : ((x1.size : Int) != (v1.size : Int)) = true := by simp; omega
              go_wp2_with fail
              go_quiet (fail)
              have hno : us.all (sameU (v1, v2, v3, v4)) = false := by
                rw [List.all_eq_false]
                exact ⟨_, List.mem_of_getElem? hxx.out, by unfold sameU; simp [h4]⟩
              have hI2 := HI.out
              rw [if_neg (by rw [hno]; decide)] at hI2
              have HI2 := Lib.hid hI2
              clear hI2 hno
              go_wp2_with fail
              go_ret
              exact ⟨ret_int (by rw [HI2.out]), below_drewN hb _⟩
        · obtain rfl : i = n := by omega
          have hyes : us.all (sameU (v1, v2, v3, v4)) = true := by
            have := hall.out
            rwa [List.take_of_length_le (by rw [HL.out]; exact Nat.le_refl _)] at this
          have hI2 := HI.out
          rw [if_pos hyes] at hI2
          have HI2 := Lib.hid hI2
          clear hI2 hyes
          go_wp2_with fail
          go_ret
          exact ⟨ret_int (by rw [HI2.out]), hb⟩
    · rw [show intfC us k = -1 by unfold intfC; rw [if_neg (fun h => hk ⟨h.2.1, by rw [← hl]; exact h.2.2⟩)]]
      have hin : within 0 ((n : Int) - 1) k = false := within_no _ _ _ (fun h => hk ⟨h.1, by omega⟩)
      have HIN := Lib.hid hin
      clear hk hub hs hin
      go_enter Try.func29, Try.ntmps29
      go_wp2_with fail
      refine hv.mono ?_
      rintro e w1 ⟨rfl, hb1⟩
      go_wp2_with (go_at_call 61; refine (spec_l1In _ _ _ _).mono ?_; rintro e w' ⟨rfl, rfl⟩; rw [HIN.out])
      go_ret
      exact ⟨rfl, hb1⟩

end Go.Proofs.Ytlddefmakjnfdaa
