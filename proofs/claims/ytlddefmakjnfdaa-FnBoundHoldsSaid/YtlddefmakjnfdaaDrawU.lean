/- Draws of users. Conditions: as each theorem says. -/
import Derived.Test.YtlddefmakjnfdaaUsr2
import Derived.Test.YtlddefmakjnfdaaR5
import Derived.BigQuiet
namespace Go.Proofs.Ytlddefmakjnfdaa
open Go.RowKit
set_option linter.unusedSimpArgs false
set_option linter.unusedVariables false
set_option maxRecDepth 100000

def sizeU (M : Nat) (us : List (ByteArray × ByteArray × Int × Int)) : Prop := ∀ u ∈ us, u.1.size ≤ M ∧ u.2.1.size ≤ M
theorem ucells_set (v : Value) (r : Nat) (hr : r < 4) (us : List (ByteArray × ByteArray × Int × Int)) : ∀ (k : Nat) (u u' : ByteArray × ByteArray × Int × Int), us[k]? = some u → (ucell u).set r v = ucell u' → (ucells us).set (k * 4 + r) v = ucells (us.set k u') := by
  induction us with
  | nil => intro k u u' h; simp at h
  | cons q us ih =>
    intro k u u' h h2
    cases k with
    | zero =>
      simp at h
      subst h
      unfold ucells
      rw [Nat.zero_mul, Nat.zero_add, List.flatMap_cons, List.set_append_left _ _ (by show r < 4; exact hr), h2]
      rfl
    | succ k =>
      have := ih k u u' (by simpa using h) h2
      unfold ucells at this ⊢
      rw [List.flatMap_cons, List.set_append_right _ _ (by show 4 ≤ _; omega), show (ucell q).length = 4 from rfl, show (k + 1) * 4 + r - 4 = k * 4 + r by omega, this]
      rfl
theorem sizeU_set {M : Nat} {us : List (ByteArray × ByteArray × Int × Int)} (h : sizeU M us) (k : Nat) (u : ByteArray × ByteArray × Int × Int) (hu : u.1.size ≤ M ∧ u.2.1.size ≤ M) : sizeU M (us.set k u) := by
  intro x hx
  rcases List.mem_or_eq_of_mem_set hx with h1 | h1
  · exact h x h1
  · rw [h1]; exact hu
theorem sizeU_mono {M N : Nat} {us : List (ByteArray × ByteArray × Int × Int)} (h : sizeU M us) (hM : M ≤ N) : sizeU N us := fun u hu => by have := h u hu; omega
def DrawnU (g : Nat) (K : Int) (w : World) (e : Ending) (w' : World) : Prop :=
  ∃ (c d : ByteArray) (a l : Int), e = .returned (.agg #[.string c, .string d, .int .i64 a, .int .i64 l]) ∧ d.size ≤ 8 ∧ Bel g w.heap.size w w' ∧ Rdr w' g K
set_option maxHeartbeats 2000000 in
theorem spec_l4User (g : Nat) (c : ByteArray) (K : Int) (w : World) (h : Rdr w g K) (hK : K ≤ 100000000) :
    Calls Try.prog 83 #[.pointer (some ⟨g, 0, none⟩), .string c] w fun e w' => ∃ (d : ByteArray) (a l : Int), e = .returned (.agg #[.string c, .string d, .int .i64 a, .int .i64 l]) ∧ d.size ≤ 8 ∧ Bel g w.heap.size w w' ∧ Rdr w' g (K + 1110) := by
  have hgl := h.lt
  go_enter Try.func83, Try.ntmps83
  go_wp2_with fail
  have ho0 := own_lit w 55 4 [.string ⟨#[]⟩, .string ⟨#[]⟩, .int .i64 0, .int .i64 0] rfl (by decide)
  replace ho0 : (w.alloc (.cells #[.string ⟨#[]⟩, .string ⟨#[]⟩, .int .i64 0, .int .i64 0] 55)).ownsRow w.heap.size 55 1 (.slice (some ⟨w.heap.size, 0, none⟩) 4 4) 4 [.string ⟨#[]⟩, .string ⟨#[]⟩, .int .i64 0, .int .i64 0] := ho0
  have hr0 := h.alloc (.cells #[.string ⟨#[]⟩, .string ⟨#[]⟩, .int .i64 0, .int .i64 0] 55)
  have hB0 : Bel g w.heap.size w (w.alloc (.cells #[.string ⟨#[]⟩, .string ⟨#[]⟩, .int .i64 0, .int .i64 0] 55)) := (Bel.refl g _ w).alloc (Nat.le_refl _) _
  generalize w.alloc (.cells #[.string ⟨#[]⟩, .string ⟨#[]⟩, .int .i64 0, .int .i64 0] 55) = w0 at *
  have hs0 := hB0.size
  refine (spec_l1String g 8 _ w0 hr0 (by omega) (by omega)).mono ?_
  rintro e w1 ⟨d, rfl, hd, hbits, hb1, hr1⟩
  have ho1 := own_bel ho0 hb1 hgl
  have hB1 := hB0.trans' hb1 hs0
  have hs1 := hB1.size
  clear hbits ho0 hr0 hb1
  go_wp2_with fail
  refine (rd_pick _ _ _ _ hr1 (by omega) (by omega) (by omega)).mono ?_
  rintro e w2 ⟨a, rfl, ha0, ha1, ha2, hb2, hr2⟩
  have ha3 := ha1 (by omega)
  have ho2 := own_bel ho1 hb2 hgl
  have hB2 := hB1.trans' hb2 hs1
  have hs2 := hB2.size
  clear ha1 ha2 ho1 hr1 hb2
  go_wp2_with fail
  refine (rd_pick _ _ _ _ hr2 (by omega) (by omega) (by omega)).mono ?_
  rintro e w3 ⟨m, rfl, hm0, hm1, hm2, hb3, hr3⟩
  have hm3 := hm1 (by omega)
  have ho3 := own_bel ho2 hb3 hgl
  have hB3 := hB2.trans' hb3 hs2
  have hs3 := hB3.size
  clear hm1 hm2 ho2 hr2 hb3
  go_wp2_with fail
  refine (rd_pick _ _ _ _ hr3 (by omega) (by omega) (by omega)).mono ?_
  rintro e w4 ⟨p, rfl, hp0, hp1, hp2, hb4, hr4⟩
  have hp3 := hp1 (by omega)
  have ho4 := own_bel ho3 hb4 hgl
  have hB4 := hB3.trans' hb4 hs3
  have hs4 := hB4.size
  clear hp1 hp2 ho3 hr3 hb4
  have hmp : 0 ≤ m * p ∧ m * p ≤ 6 := by
    have h1 : m = 0 ∨ m = 1 ∨ m = 2 := by omega
    rcases h1 with rfl | rfl | rfl <;> omega
  have c0 : w4.cell? ⟨w.heap.size, 0, none⟩ = some (.string ⟨#[]⟩) := ho4.cellAt 0 (by omega)
  have c1 : w4.cell? ⟨w.heap.size, 1, none⟩ = some (.string ⟨#[]⟩) := ho4.cellAt 1 (by omega)
  have c2 : w4.cell? ⟨w.heap.size, 2, none⟩ = some (.int .i64 0) := ho4.cellAt 2 (by omega)
  have c3 : w4.cell? ⟨w.heap.size, 3, none⟩ = some (.int .i64 0) := ho4.cellAt 3 (by omega)
  have f0 := ho4.frozenAt 0
  have f1 := ho4.frozenAt 1
  have f2 := ho4.frozenAt 2
  have f3 := ho4.frozenAt 3
  have t1 := ho4.stored 0 (.string c)
  have t2 := t1.1.stored 1 (.string d)
  have t3 := t2.1.stored 2 (.int .i64 (1 + a))
  have t4 := t3.1.stored 3 (.int .i64 (m * p))
  have HG := Lib.hid (grown_trans t1.2 (grown_trans t2.2 (grown_trans t3.2 t4.2)))
  have HS4 := Lib.hid (show w.heap.size ≤ w4.heap.size from hs4)
  clear t1 t2 t3 t4 ho4
  go_wp2_with fail
  refine bodyPost_ret (v := .agg #[.string c, .string d, .int .i64 (1 + a), .int .i64 (m * p)]) (by simp [results, Try.results83, go_sem, c0, c1, c2, c3]) rfl ?_
  exact ⟨d, 1 + a, m * p, rfl, hd, hB4.grown HG.out HS4.out (fun j hj => by injection hj with hj; omega), (hr4.grown HG.out (fun j hj => by injection hj with hj; omega)).more (by omega)⟩
def DrawnBL (g B : Nat) (K : Int) (w : World) (e : Ending) (w' : World) : Prop :=
  ∃ (A : Option Addr) (n c : Nat) (us : List (ByteArray × ByteArray × Int × Int)), e = .returned (.slice A n c) ∧ w'.ownsRow B 55 4 (.slice A n c) n (ucells us) ∧ n ≤ 9 ∧ sizeU 6000 us ∧ Bel g B w w' ∧ Rdr w' g K
set_option maxHeartbeats 4000000 in
theorem spec_l4BadList (g B : Nat) (A : Option Addr) (n c : Nat) (us : List (ByteArray × ByteArray × Int × Int)) (K : Int) (w : World) (h : Rdr w g K) (hK : K ≤ 100000000) (ho : w.ownsRow B 55 4 (.slice A n c) n (ucells us)) (hg : g < B) (hB : B ≤ w.heap.size) (h1 : 1 ≤ n) (hn : n ≤ 8) (hs : sizeU 100 us) :
    Calls Try.prog 80 #[.pointer (some ⟨g, 0, none⟩), .slice A n c] w (fun e w' => DrawnBL g B (K + 10) w e w' ∧ ∀ A' n' c', e = .returned (.slice A' n' c') → 1 ≤ n') := by
  have hul := ownU_num ho
  have HS6 := Lib.hid (sizeU_mono hs (show 100 ≤ 6000 by omega))
  go_enter Try.func80, Try.ntmps80
  go_wp2_with fail
  refine (rd_pick _ _ _ _ h (by omega) (by omega) (by omega)).mono ?_
  rintro e w1 ⟨k, rfl, hk0, hk1, hk2, hb1, hr1⟩
  obtain ⟨k, rfl⟩ := Int.eq_ofNat_of_zero_le hk0
  have hk3 := hk1 (by omega)
  have ho1 := own_bel ho hb1 hg
  have hs1 := hb1.size
  clear hk1 hk2 ho h
  go_wp2_with fail
  refine (rd_pick _ _ _ _ hr1 (by omega) (by omega) (by omega)).mono ?_
  rintro e w2 ⟨q, rfl, hq0, hq1, hq2, hb2, hr2⟩
  have ho2 := own_bel ho1 hb2 hg
  have hB2 : Bel g w.heap.size w w2 := hb1.trans' hb2 hs1
  have hs2 := hB2.size
  clear hq1 hq2 ho1 hr1 hb1 hb2
  have hkn : k < n := by omega
  obtain ⟨G, rfl, hBG, hGl⟩ := own_some ho2 hkn
  obtain ⟨b, o, x1, x2, x3, x4, hbo, hgl, hxx, hc1, hc2, hc3, hc4⟩ := (own_rdU ho2).at hkn
  injection hbo with hbo
  injection hbo with hbo1 hbo2
  subst hbo1
  subst hbo2
  rw [Nat.zero_add] at hc1 hc2 hc3 hc4
  have hsx := hs _ (List.mem_of_getElem? hxx.out)
  have hGg : g < G := by omega
  by_cases c0 : q = 0
  · have d0 : (q == 0) = true := by simp [c0]
    clear c0
    have hx1 : x1.size ≤ 100 := hsx.1
    have hx2 : x2.size ≤ 100 := hsx.2
    have hone : (ByteArray.mk #[48]).size = 1 := rfl
    go_wp2_with fail
    refine (spec_l2Bad g _ _ w2 hr2 (by omega) (by rw [ByteArray.size_append]; omega)).mono ?_
    rintro e w3 ⟨t, rfl, ht, hb3, hr3⟩
    have ho3 := own_bel ho2 hb3 hg
    have hB3 := hB2.trans' hb3 hs2
    have hs3 := hB3.size
    have hcc := (ho3.cellAt (k * 4) (by omega)).trans ((ucells_at us k _ hxx.out).1)
    have hff := ho3.frozenAt (k * 4)
    have hst := ho3.stored (k * 4) (.string t)
    rw [show (ucells us).set (k * 4) (.string t) = ucells (us.set k (t, x2, x3, x4)) from ucells_set (.string t) 0 (by omega) us k _ _ hxx.out rfl] at hst
    have HST := Lib.hid hst
    clear ho3 hst hb3 hc1 hc2 hc3 hc4 ho2
    go_wp2_with fail
    go_ret
    exact ⟨⟨_, n, c, _, rfl, HST.out.1, by omega, sizeU_set HS6.out k _ ⟨by show t.size ≤ 6000; omega, by show x2.size ≤ 6000; omega⟩, (hB3.mono hB).grown HST.out.2 (by omega) (fun j hj => by injection hj with hj; omega), (hr3.grown HST.out.2 (fun j hj => by injection hj with hj; omega)).more (by omega)⟩, fun A' n' c' h => by injection h with h; injection h with _ h2 _; omega⟩
  · have d0 : (q == 0) = false := by simp [c0]
    clear c0
    by_cases c1 : q = 1
    · have d1 : (q == 1) = true := by simp [c1]
      clear c1
      go_wp2_with fail
      refine (rd_num_lit g [-1, 0, 1000, 1001] _ 4 _ w2 hr2 (by omega) rfl rfl (by decide) (by decide)).mono ?_
      rintro e w3 ⟨z, rfl, hz, hb3, hr3⟩
      clear hz
      have ho3 := own_bel ho2 hb3 hg
      have hB3 := hB2.trans' hb3 hs2
      have hs3 := hB3.size
      have hcc := (ho3.cellAt (k * 4 + 2) (by omega)).trans ((ucells_at us k _ hxx.out).2.2.1)
      have hff := ho3.frozenAt (k * 4 + 2)
      have hst := ho3.stored (k * 4 + 2) (.int .i64 z)
      rw [show (ucells us).set (k * 4 + 2) (.int .i64 z) = ucells (us.set k (x1, x2, z, x4)) from ucells_set (.int .i64 z) 2 (by omega) us k _ _ hxx.out rfl] at hst
      have HST := Lib.hid hst
      have HX := Lib.hid (HS6.out _ (List.mem_of_getElem? hxx.out))
      clear ho3 hst hb3 hc1 hc2 hc3 hc4 ho2
      go_wp2_with fail
      go_ret
      exact ⟨⟨_, n, c, _, rfl, HST.out.1, by omega, sizeU_set HS6.out k _ HX.out, (hB3.mono hB).grown HST.out.2 (by omega) (fun j hj => by injection hj with hj; omega), (hr3.grown HST.out.2 (fun j hj => by injection hj with hj; omega)).more (by omega)⟩, fun A' n' c' h => by injection h with h; injection h with _ h2 _; omega⟩
    · have d1 : (q == 1) = false := by simp [c1]
      clear c1
      by_cases c2 : q = 2
      · have d2 : (q == 2) = true := by simp [c2]
        clear c2
        go_wp2_with fail
        refine (rd_num_lit g [-1, 1000, 1001, 9223372036854775807] _ 4 _ w2 hr2 (by omega) rfl rfl (by decide) (by decide)).mono ?_
        rintro e w3 ⟨z, rfl, hz, hb3, hr3⟩
        clear hz
        have ho3 := own_bel ho2 hb3 hg
        have hB3 := hB2.trans' hb3 hs2
        have hs3 := hB3.size
        have hcc := (ho3.cellAt (k * 4 + 3) (by omega)).trans ((ucells_at us k _ hxx.out).2.2.2)
        have hff := ho3.frozenAt (k * 4 + 3)
        have hst := ho3.stored (k * 4 + 3) (.int .i64 z)
        rw [show (ucells us).set (k * 4 + 3) (.int .i64 z) = ucells (us.set k (x1, x2, x3, z)) from ucells_set (.int .i64 z) 3 (by omega) us k _ _ hxx.out rfl] at hst
        have HST := Lib.hid hst
        have HX := Lib.hid (HS6.out _ (List.mem_of_getElem? hxx.out))
        clear ho3 hst hb3 hc1 hc2 hc3 hc4 ho2
        go_wp2_with fail
        go_ret
        exact ⟨⟨_, n, c, _, rfl, HST.out.1, by omega, sizeU_set HS6.out k _ HX.out, (hB3.mono hB).grown HST.out.2 (by omega) (fun j hj => by injection hj with hj; omega), (hr3.grown HST.out.2 (fun j hj => by injection hj with hj; omega)).more (by omega)⟩, fun A' n' c' h => by injection h with h; injection h with _ h2 _; omega⟩
      · have d2 : (q == 2) = false := by simp [c2]
        clear c2
        by_cases c3 : q = 3
        · have d3 : (q == 3) = true := by simp [c3]
          clear c3
          have hx1 : x1.size ≤ 100 := hsx.1
          have hx2 : x2.size ≤ 100 := hsx.2
          have hone : (ByteArray.mk #[50]).size = 1 := rfl
          have hff := ho2.frozenAt (k * 4 + 1)
          have hst := ho2.stored (k * 4 + 1) (.string (x2 ++ ⟨#[50]⟩))
          rw [show (ucells us).set (k * 4 + 1) (.string (x2 ++ ⟨#[50]⟩)) = ucells (us.set k (x1, x2 ++ ⟨#[50]⟩, x3, x4)) from ucells_set (.string (x2 ++ ⟨#[50]⟩)) 1 (by omega) us k _ _ hxx.out rfl] at hst
          have HST := Lib.hid hst
          clear hst ho2
          go_wp2_with fail
          go_ret
          exact ⟨⟨_, n, c, _, rfl, HST.out.1, by omega, sizeU_set HS6.out k _ ⟨by show x1.size ≤ 6000; omega, by show (x2 ++ ⟨#[50]⟩ : ByteArray).size ≤ 6000; rw [ByteArray.size_append]; omega⟩, (hB2.mono hB).grown HST.out.2 (by omega) (fun j hj => by injection hj with hj; omega), (hr2.grown HST.out.2 (fun j hj => by injection hj with hj; omega)).more (by omega)⟩, fun A' n' c' h => by injection h with h; injection h with _ h2 _; omega⟩
        · have d3 : (q == 3) = false := by simp [c3]
          clear c3
          by_cases c4 : q = 4
          · have d4 : (q == 4) = true := by simp [c4]
            clear c4
            have HO2 := Lib.hid ho2
            have HB2 := Lib.hid (hB2.mono hB)
            have HR2 := Lib.hid hr2
            clear hc1 hc2 hc3 hc4 ho2 hB2 hr2
            go_wp2_with fail
            go_loopw [1] (fun s' wr => ∃ (m c' : Nat) (A' : Option Addr) (vs : List (ByteArray × ByteArray × Int × Int)), s' = .slice A' m c' ∧ wr.ownsRow B 55 4 (.slice A' m c') m (ucells vs) ∧ 1 ≤ m ∧ m ≤ 9 ∧ Hid (sizeU 6000 vs) ∧ Bel g B w wr ∧ Rdr wr g (K + 1 + 1) ∧ w2.heap.size ≤ wr.heap.size) (fun s' _ => match s' with | .slice _ m _ => 9 - m | _ => 0)
            case atStart => exact ⟨n, c, _, us, rfl, HO2.out, h1, by omega, HS6.out, HB2.out, HR2.out, Nat.le_refl _⟩
            case round =>
              obtain ⟨m, c', A', vs, rfl, ho, hm1, hm9, hsv, hb, hr, hz⟩ := hrel
              by_cases hlt : m < 9
              · obtain ⟨G', rfl, hBG', hGl'⟩ := own_some ho (show 0 < m by omega)
                obtain ⟨b, o, y1, y2, y3, y4, hbo, hgl', hyy, he1, he2, he3, he4⟩ := (own_rdU ho).at (show 0 < m by omega)
                injection hbo with hbo
                injection hbo with hbo1 hbo2
                subst hbo1
                subst hbo2
                rw [Nat.zero_mul, Nat.zero_add] at he1 he2 he3 he4
                have HO3 := Lib.hid ho
                clear ho HO2 HB2 HR2
                go_wp2_with (at_builtin; refine wpList_append_rdN _ rfl _ _ 42 rfl B 55 4 (.agg #[.string ⟨#[]⟩, .string ⟨#[]⟩, .int .i64 0, .int .i64 0]) 48 Try.underlying42 Try.infoUser rfl (by decide) (.slice (some ⟨G', 0, none⟩) m c') m _ rfl (HO3.out.alloc _) _ _ _ [.string y1, .string y2, .int .i64 y3, .int .i64 y4] rfl (rd_newN _ [.string y1, .string y2, .int .i64 y3, .int .i64 y4] _ 1 4 rfl) (by decide) (by simp [Value.oneCell']) ?_ (by omega) ?_ ?_; omega; simp; omega; intro A'' q' c'' w' hq ho hg; have HQ := Lib.hid hq; have HO4 := Lib.hid ho; have HG := Lib.hid hg; clear hq ho hg)
                go_roundw
                case rel =>
                  have hq' := HQ.out.out
                  exact ⟨q', c'', A'', vs ++ [(y1, y2, y3, y4)], rfl, by rw [show ucells (vs ++ [(y1, y2, y3, y4)]) = ucells vs ++ [.string y1, .string y2, .int .i64 y3, .int .i64 y4] by unfold ucells; rw [List.flatMap_append]; rfl]; exact HO4.out, by omega, by omega, fun u hu => by
                    rcases List.mem_append.1 hu with h | h
                    · exact hsv.out u h
                    · rw [List.mem_singleton] at h; subst h; exact hsv.out _ (List.mem_of_getElem? hyy.out), (hb.alloc (by omega) _).grown HG.out (by simp; omega) (fun j hj => (HO3.out.lt j hj).1), (hr.alloc _).grown HG.out (fun j hj => by have := (HO3.out.lt j hj).1; omega), by have := HG.out.size; simp at this; omega⟩
                case measure => have hq' := HQ.out.out; simp; omega
              · have HO3 := Lib.hid ho
                clear ho
                go_wp2_with fail
                go_ret
                exact ⟨⟨A', m, c', vs, rfl, HO3.out, hm9, hsv.out, hb, hr.more (by omega)⟩, fun A3 n3 c3 h => by injection h with h; injection h with _ h2 _; omega⟩
          · have d4 : (q == 4) = false := by simp [c4]
            clear c4
            have HO2 := Lib.hid ho2
            clear ho2
            go_wp2_with fail
            go_ret
            exact ⟨⟨_, n, c, us, rfl, HO2.out, by omega, HS6.out, hB2.mono hB, hr2.more (by omega)⟩, fun A3 n3 c3 h => by injection h with h; injection h with _ h2 _; omega⟩

end Go.Proofs.Ytlddefmakjnfdaa
