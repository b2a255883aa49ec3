/- Draws of lists of users. Conditions: as each theorem says. -/
import Derived.Test.YtlddefmakjnfdaaDrawU2
namespace Go.Proofs.Ytlddefmakjnfdaa
open Go.RowKit
set_option linter.unusedSimpArgs false
set_option linter.unusedVariables false
set_option maxRecDepth 100000

theorem own_emptyU (w : World) (E : TypeId) (base s : Nat) (h : base ≤ w.heap.size) : (w.alloc (.cells #[] E)).ownsRow base E s (.slice (some ⟨w.heap.size, 0, none⟩) 0 0) 0 [] := by
  exact ⟨(Nat.zero_mul s).symm, .inr ⟨w.heap.size, 0, #[], rfl, h, heap_alloc_new w _, Nat.le_refl _, Nat.zero_le _, (Nat.zero_mul s).symm, by rw [Nat.zero_mul]; rfl⟩⟩
theorem sizeU_snoc {M : Nat} {us : List (ByteArray × ByteArray × Int × Int)} (h : sizeU M us) (u : ByteArray × ByteArray × Int × Int) (hu : u.1.size ≤ M ∧ u.2.1.size ≤ M) : sizeU M (us ++ [u]) := by
  intro x hx
  rcases List.mem_append.1 hx with h1 | h1
  · exact h x h1
  · rw [List.mem_singleton] at h1; subst h1; exact hu
def DrawnL (g : Nat) (K : Int) (w : World) (e : Ending) (w' : World) : Prop :=
  ∃ (A : Option Addr) (n c : Nat) (us : List (ByteArray × ByteArray × Int × Int)), e = .returned (.slice A n c) ∧ w'.ownsRow w.heap.size 55 4 (.slice A n c) n (ucells us) ∧ n ≤ 4 ∧ sizeU 100 us ∧ Bel g w.heap.size w w' ∧ Rdr w' g K
set_option maxHeartbeats 8000000 in
theorem spec_l4List (g : Nat) (K : Int) (w : World) (h : Rdr w g K) (hK : K ≤ 10000000) :
    Calls Try.prog 81 #[.pointer (some ⟨g, 0, none⟩)] w (DrawnL g (K + 10000) w) := by
  have hgl := h.lt
  have h8 : (two 3).toNat = 8 := by decide
  have H8 := Lib.hid h8
  clear h8
  go_enter Try.func81, Try.ntmps81
  go_wp2_with fail
  have HO0 := own_emptyU w 55 w.heap.size 4 (Nat.le_refl _)
  have HB0 := (Bel.refl g w.heap.size w).alloc (Nat.le_refl _) (.cells #[] 55)
  have hr0 := h.alloc (.cells #[] 55)
  have hz0 : w.heap.size ≤ (w.alloc (.cells #[] 55)).heap.size := by simp
  generalize w.alloc (.cells #[] 55) = w0 at *
  refine (rd_pick _ _ _ _ hr0 (by omega) (by omega) (by omega)).mono ?_
  rintro e w1 ⟨f, rfl, hf0, hf1, hf2, hb1, hr1⟩
  have HO1 := own_bel_ne HO0 hb1 (fun k hk => by have := HO0.lt k hk; exact ⟨by omega, this.2⟩)
  have HB1 := HB0.trans' hb1 hz0
  have hz1 := HB1.size
  clear hf1 hf2 hb1 HO0 HB0 hr0
  go_wp2_with fail
  refine (rd_pick _ _ _ _ hr1 (by omega) (by omega) (by omega)).mono ?_
  rintro e w2 ⟨q, rfl, hq0, hq1, hq2, hb2, hr2⟩
  have HO2 := own_bel_ne HO1 hb2 (fun k hk => by have := HO1.lt k hk; exact ⟨by omega, this.2⟩)
  have HB2 := HB1.trans' hb2 hz1
  have hz2 := HB2.size
  clear hq1 hq2 hb2 HO1 HB1 hr1
  go_wp2_with fail
  refine (rd_num_lit g [2, 3, 1, 4, 0] _ 5 _ w2 hr2 (by omega) rfl rfl (by decide) (by decide)).mono ?_
  rintro e w3 ⟨z, rfl, hz, hb3, hr3⟩
  have HO3 := own_bel_ne HO2 hb3 (fun k hk => by have := HO2.lt k hk; exact ⟨by omega, this.2⟩)
  have HB3 := HB2.trans' hb3 hz2
  obtain ⟨z, rfl, hz4⟩ : ∃ y : Nat, z = y ∧ y ≤ 4 := by
    simp only [List.mem_cons, List.not_mem_nil, or_false] at hz
    exact ⟨z.toNat, by omega, by omega⟩
  have HO := Lib.hid HO3
  have HB := Lib.hid HB3
  have HR := Lib.hid (hr3.more (show _ ≤ K + 10 by omega))
  clear hz hb3 HO2 HB2 hr2 HO3 HB3 hr3 h
  by_cases hf : f = 0
  · have df : (f == 0) = true := by simp [hf]
    clear hf
    by_cases hq : q = 0
    · have dq : (q == 0) = true := by simp [hq]
      clear hq
      go_wp2_with fail
      go_loopw [3, 6] (fun s' v wr => ∃ (m c' : Nat) (A' : Option Addr) (us : List (ByteArray × ByteArray × Int × Int)) (z : Nat), s' = .slice A' m c' ∧ v = .int .i64 z ∧ wr.ownsRow w.heap.size 55 4 (.slice A' m c') m (ucells us) ∧ m + z ≤ 4 ∧ Hid (sizeU 100 us) ∧ Bel g w.heap.size w wr ∧ Rdr wr g (K + 10 + 2000 * (4 - (z : Int)))) (fun _ v _ => (intOf v).toNat)
      case atStart => exact ⟨0, _, _, [], z, rfl, rfl, HO.out, by omega, fun u hu => absurd hu List.not_mem_nil, HB.out, HR.out.more (by omega)⟩
      case round =>
        clear HO HB HR
        obtain ⟨m, c', A', us, y, rfl, rfl, ho, hmy, HSV, hb, hr⟩ := hrel
        have hzb := hb.size
        by_cases hy : 0 < y
        · obtain ⟨wo, rfl⟩ : ∃ wo, wo = wr := ⟨_, rfl⟩
          go_wp2_with fail
          refine (rd_pick _ _ _ _ hr (by omega) (by omega) (by omega)).mono ?_
          rintro e wa ⟨k, rfl, hk0, hk1, hk2, hba, hra⟩
          have hk3 := hk1 (by omega)
          have hoa := own_bel ho hba hgl
          have hBa := hb.trans' hba hzb
          have hza := hBa.size
          clear hk1 hk2 hba ho hr hb
          go_wp2_with fail
          refine (spec_l3Walsh 3 k wa (by omega) (by omega) (by omega) (by omega)).mono ?_
          rintro e wb ⟨t0, rfl, ht, hbb⟩
          have hob := own_below hoa hbb
          have hrb := hra.below hbb
          have hBb := hBa.trans' (Bel.of_below hbb) hza
          have hzb2 := hBb.size
          clear ht hbb hoa hra hBa
          go_wp2_with fail
          refine (rd_pick _ _ _ _ hrb (by omega) (by omega) (by omega)).mono ?_
          rintro e wc ⟨x, rfl, hx0, hx1, hx2, hbc, hrc⟩
          have hx3 := hx1 (by omega)
          have hoc := own_bel hob hbc hgl
          have hBc := hBb.trans' hbc hzb2
          have hzc := hBc.size
          clear hx1 hx2 hbc hob hrb hBb
          go_wp2_with fail
          refine (spec_l3Gold 3 3 5 (x - 2) wc (by omega) (by omega) (by decide) (by decide) (by omega) (by show x - 2 < ((7 : Nat) : Int); omega)).mono ?_
          rintro e wd ⟨t, rfl, ht, hbd⟩
          have hts : t.size ≤ 8 := by rw [str_size ht, goldL_len 3 3 5 (x - 2) (by show x - 2 < ((7 : Nat) : Int); omega)]; decide
          have hod := own_below hoc hbd
          have hrd := hrc.below hbd
          have hBd := hBc.trans' (Bel.of_below hbd) hzc
          clear ht hbd hoc hrc hBc
          have hzd := hBd.size
          go_wp2_with fail
          refine (spec_l4User g t _ wd hrd (by omega)).mono ?_
          rintro e we ⟨d, a, l, rfl, hd, hbe, hre⟩
          have hoe := own_bel hod hbe hgl
          have hBe := hBd.trans' hbe hzd
          have hze := hBe.size
          have hl : ∀ k, Value.ownBlock (.slice A' m c') = some k → w.heap.size ≤ k ∧ k < we.heap.size := fun k hk => hoe.lt k hk
          have hof := hoe.alloc (.cells #[.string t, .string d, .int .i64 a, .int .i64 0] 55)
          have hrf := hre.alloc (.cells #[.string t, .string d, .int .i64 a, .int .i64 0] 55)
          have hBf := hBe.alloc hze (.cells #[.string t, .string d, .int .i64 a, .int .i64 0] 55)
          have hzf : (we.alloc (.cells #[.string t, .string d, .int .i64 a, .int .i64 0] 55)).heap.size = we.heap.size + 1 := by simp
          have hnew := own_lit we 55 4 [.string t, .string d, .int .i64 a, .int .i64 0] rfl (by decide)
          replace hnew : (we.alloc (.cells #[.string t, .string d, .int .i64 a, .int .i64 0] 55)).ownsRow we.heap.size 55 1 (.slice (some ⟨we.heap.size, 0, none⟩) 4 4) 4 [.string t, .string d, .int .i64 a, .int .i64 0] := hnew
          have hog := hof
          have hrg := hrf
          have hBg := hBf
          have HOG := Lib.hid hog
          have HRG := Lib.hid (hrg.alloc (.cells #[.string t, .string d, .int .i64 a, .int .i64 0] 55))
          have HBG := Lib.hid (hBg.alloc (by omega) (.cells #[.string t, .string d, .int .i64 a, .int .i64 0] 55))
          clear hod hrd hBd hoe hre hBe hof hrf hBf hog hrg hBg hbe
          have hrn := rd_newN (we.alloc (.cells #[.string t, .string d, .int .i64 a, .int .i64 0] 55)) [.string t, .string d, .int .i64 a, .int .i64 0] 55 1 4 rfl
          rw [hzf] at hrn
          have HRN := Lib.hid hrn
          clear hnew hzf hrn
          go_wp2_with (at_builtin; (refine wpList_append_rdN _ rfl _ _ 42 rfl w.heap.size 55 4 (.agg #[.string ⟨#[]⟩, .string ⟨#[]⟩, .int .i64 0, .int .i64 0]) 48 Try.underlying42 Try.infoUser rfl (by decide) (.slice A' m c') m _ rfl (HOG.out.alloc _) _ _ _ [.string t, .string d, .int .i64 a, .int .i64 0] rfl HRN.out (by decide) (by simp [Value.oneCell']) ?_ (by omega) ?_ ?_); omega; simp; omega; intro A'' q' c'' w' hq ho hg; have HQ := Lib.hid hq; have HO4 := Lib.hid ho; have HG := Lib.hid hg; clear hq ho hg)
          go_roundw
          case rel =>
            have hq' := HQ.out.out
            exact ⟨q', c'', A'', us ++ [(t, d, a, 0)], y - 1, rfl, by go_num, by rw [show ucells (us ++ [(t, d, a, 0)]) = ucells us ++ [.string t, .string d, .int .i64 a, .int .i64 0] by unfold ucells; rw [List.flatMap_append]; rfl]; exact HO4.out, by omega, sizeU_snoc HSV.out _ ⟨by show t.size ≤ 100; omega, by show d.size ≤ 100; omega⟩, HBG.out.grown HG.out (by have := HBG.out.size; omega) (fun j hj => (hl j hj).1), (HRG.out.grown HG.out (fun j hj => by have := (hl j hj).1; omega)).more (by omega)⟩
          case measure => simp [intOf] <;> omega
        · have HO3 := Lib.hid ho
          clear ho
          go_wp2_with fail
          go_ret
          exact ⟨A', m, c', us, rfl, HO3.out, by omega, HSV.out, hb, hr.more (by omega)⟩
    · have dq : (q == 0) = false := by simp [hq]
      clear hq
      go_wp2_with fail
      go_loopw [3, 6] (fun s' v wr => ∃ (m c' : Nat) (A' : Option Addr) (us : List (ByteArray × ByteArray × Int × Int)) (z : Nat), s' = .slice A' m c' ∧ v = .int .i64 z ∧ wr.ownsRow w.heap.size 55 4 (.slice A' m c') m (ucells us) ∧ m + z ≤ 4 ∧ Hid (sizeU 100 us) ∧ Bel g w.heap.size w wr ∧ Rdr wr g (K + 10 + 2000 * (4 - (z : Int)))) (fun _ v _ => (intOf v).toNat)
      case atStart => exact ⟨0, _, _, [], z, rfl, rfl, HO.out, by omega, fun u hu => absurd hu List.not_mem_nil, HB.out, HR.out.more (by omega)⟩
      case round =>
        clear HO HB HR
        obtain ⟨m, c', A', us, y, rfl, rfl, ho, hmy, HSV, hb, hr⟩ := hrel
        have hzb := hb.size
        by_cases hy : 0 < y
        · obtain ⟨wo, rfl⟩ : ∃ wo, wo = wr := ⟨_, rfl⟩
          go_wp2_with fail
          refine (rd_pick _ _ _ _ hr (by omega) (by omega) (by omega)).mono ?_
          rintro e wa ⟨k, rfl, hk0, hk1, hk2, hba, hra⟩
          have hk3 := hk1 (by omega)
          have hoa := own_bel ho hba hgl
          have hBa := hb.trans' hba hzb
          have hza := hBa.size
          clear hk1 hk2 hba ho hr hb
          go_wp2_with fail
          refine (spec_l3Walsh 3 k wa (by omega) (by omega) (by omega) (by omega)).mono ?_
          rintro e wb ⟨t0, rfl, ht, hbb⟩
          have hob := own_below hoa hbb
          have hrb := hra.below hbb
          have hBb := hBa.trans' (Bel.of_below hbb) hza
          have hzb2 := hBb.size
          clear ht hbb hoa hra hBa
          go_wp2_with fail
          refine (rd_pick _ _ _ _ hrb (by omega) (by omega) (by omega)).mono ?_
          rintro e wc ⟨x, rfl, hx0, hx1, hx2, hbc, hrc⟩
          have hx3 := hx1 (by omega)
          have hoc := own_bel hob hbc hgl
          have hBc := hBb.trans' hbc hzb2
          have hzc := hBc.size
          clear hx1 hx2 hbc hob hrb hBb
          go_wp2_with fail
          refine (spec_l3Gold 3 3 5 (x - 2) wc (by omega) (by omega) (by decide) (by decide) (by omega) (by show x - 2 < ((7 : Nat) : Int); omega)).mono ?_
          rintro e wd ⟨t, rfl, ht, hbd⟩
          have hts : t.size ≤ 8 := by rw [str_size ht, goldL_len 3 3 5 (x - 2) (by show x - 2 < ((7 : Nat) : Int); omega)]; decide
          have hod := own_below hoc hbd
          have hrd := hrc.below hbd
          have hBd := hBc.trans' (Bel.of_below hbd) hzc
          clear ht hbd hoc hrc hBc
          have hzd := hBd.size
          go_wp2_with fail
          refine (spec_l4User g t _ wd hrd (by omega)).mono ?_
          rintro e we ⟨d, a, l, rfl, hd, hbe, hre⟩
          have hoe := own_bel hod hbe hgl
          have hBe := hBd.trans' hbe hzd
          have hze := hBe.size
          have hl : ∀ k, Value.ownBlock (.slice A' m c') = some k → w.heap.size ≤ k ∧ k < we.heap.size := fun k hk => hoe.lt k hk
          have hof := hoe.alloc (.cells #[.string t, .string d, .int .i64 a, .int .i64 l] 55)
          have hrf := hre.alloc (.cells #[.string t, .string d, .int .i64 a, .int .i64 l] 55)
          have hBf := hBe.alloc hze (.cells #[.string t, .string d, .int .i64 a, .int .i64 l] 55)
          have hzf : (we.alloc (.cells #[.string t, .string d, .int .i64 a, .int .i64 l] 55)).heap.size = we.heap.size + 1 := by simp
          have hnew := own_lit we 55 4 [.string t, .string d, .int .i64 a, .int .i64 l] rfl (by decide)
          replace hnew : (we.alloc (.cells #[.string t, .string d, .int .i64 a, .int .i64 l] 55)).ownsRow we.heap.size 55 1 (.slice (some ⟨we.heap.size, 0, none⟩) 4 4) 4 [.string t, .string d, .int .i64 a, .int .i64 l] := hnew
          have hog := hof
          have hrg := hrf
          have hBg := hBf
          have HOG := Lib.hid hog
          have HRG := Lib.hid (hrg.alloc (.cells #[.string t, .string d, .int .i64 a, .int .i64 l] 55))
          have HBG := Lib.hid (hBg.alloc (by omega) (.cells #[.string t, .string d, .int .i64 a, .int .i64 l] 55))
          clear hod hrd hBd hoe hre hBe hof hrf hBf hog hrg hBg hbe
          have hrn := rd_newN (we.alloc (.cells #[.string t, .string d, .int .i64 a, .int .i64 l] 55)) [.string t, .string d, .int .i64 a, .int .i64 l] 55 1 4 rfl
          rw [hzf] at hrn
          have HRN := Lib.hid hrn
          clear hnew hzf hrn
          go_wp2_with (at_builtin; (refine wpList_append_rdN _ rfl _ _ 42 rfl w.heap.size 55 4 (.agg #[.string ⟨#[]⟩, .string ⟨#[]⟩, .int .i64 0, .int .i64 0]) 48 Try.underlying42 Try.infoUser rfl (by decide) (.slice A' m c') m _ rfl (HOG.out.alloc _) _ _ _ [.string t, .string d, .int .i64 a, .int .i64 l] rfl HRN.out (by decide) (by simp [Value.oneCell']) ?_ (by omega) ?_ ?_); omega; simp; omega; intro A'' q' c'' w' hq ho hg; have HQ := Lib.hid hq; have HO4 := Lib.hid ho; have HG := Lib.hid hg; clear hq ho hg)
          go_roundw
          case rel =>
            have hq' := HQ.out.out
            exact ⟨q', c'', A'', us ++ [(t, d, a, l)], y - 1, rfl, by go_num, by rw [show ucells (us ++ [(t, d, a, l)]) = ucells us ++ [.string t, .string d, .int .i64 a, .int .i64 l] by unfold ucells; rw [List.flatMap_append]; rfl]; exact HO4.out, by omega, sizeU_snoc HSV.out _ ⟨by show t.size ≤ 100; omega, by show d.size ≤ 100; omega⟩, HBG.out.grown HG.out (by have := HBG.out.size; omega) (fun j hj => (hl j hj).1), (HRG.out.grown HG.out (fun j hj => by have := (hl j hj).1; omega)).more (by omega)⟩
          case measure => simp [intOf] <;> omega
        · have HO3 := Lib.hid ho
          clear ho
          go_wp2_with fail
          go_ret
          exact ⟨A', m, c', us, rfl, HO3.out, by omega, HSV.out, hb, hr.more (by omega)⟩
  · have df : (f == 0) = false := by simp [hf]
    clear hf
    by_cases hq : q = 0
    · have dq : (q == 0) = true := by simp [hq]
      clear hq
      go_wp2_with fail
      go_loopw [3, 6] (fun s' v wr => ∃ (m c' : Nat) (A' : Option Addr) (us : List (ByteArray × ByteArray × Int × Int)) (z : Nat), s' = .slice A' m c' ∧ v = .int .i64 z ∧ wr.ownsRow w.heap.size 55 4 (.slice A' m c') m (ucells us) ∧ m + z ≤ 4 ∧ Hid (sizeU 100 us) ∧ Bel g w.heap.size w wr ∧ Rdr wr g (K + 10 + 2000 * (4 - (z : Int)))) (fun _ v _ => (intOf v).toNat)
      case atStart => exact ⟨0, _, _, [], z, rfl, rfl, HO.out, by omega, fun u hu => absurd hu List.not_mem_nil, HB.out, HR.out.more (by omega)⟩
      case round =>
        clear HO HB HR
        obtain ⟨m, c', A', us, y, rfl, rfl, ho, hmy, HSV, hb, hr⟩ := hrel
        have hzb := hb.size
        by_cases hy : 0 < y
        · obtain ⟨wo, rfl⟩ : ∃ wo, wo = wr := ⟨_, rfl⟩
          go_wp2_with fail
          refine (rd_pick _ _ _ _ hr (by omega) (by omega) (by omega)).mono ?_
          rintro e wa ⟨k, rfl, hk0, hk1, hk2, hba, hra⟩
          have hk3 := hk1 (by omega)
          have hoa := own_bel ho hba hgl
          have hBa := hb.trans' hba hzb
          have hza := hBa.size
          clear hk1 hk2 hba ho hr hb
          go_wp2_with fail
          refine (spec_l3Walsh 3 k wa (by omega) (by omega) (by omega) (by omega)).mono ?_
          rintro e wb ⟨t, rfl, ht, hbb⟩
          have hts : t.size ≤ 8 := by rw [str_size ht, walshL_lenA, H8.out]; exact Nat.le_refl _
          have hob := own_below hoa hbb
          have hrb := hra.below hbb
          have hBb := hBa.trans' (Bel.of_below hbb) hza
          have hzb2 := hBb.size
          clear ht hbb hoa hra hBa
          have hod := hob
          have hrd := hrb
          have hBd := hBb
          obtain ⟨wd, rfl⟩ : ∃ wd, wd = wb := ⟨_, rfl⟩
          clear hob hrb hBb
          have hzd := hBd.size
          go_wp2_with fail
          refine (spec_l4User g t _ wd hrd (by omega)).mono ?_
          rintro e we ⟨d, a, l, rfl, hd, hbe, hre⟩
          have hoe := own_bel hod hbe hgl
          have hBe := hBd.trans' hbe hzd
          have hze := hBe.size
          have hl : ∀ k, Value.ownBlock (.slice A' m c') = some k → w.heap.size ≤ k ∧ k < we.heap.size := fun k hk => hoe.lt k hk
          have hof := hoe.alloc (.cells #[.string t, .string d, .int .i64 a, .int .i64 0] 55)
          have hrf := hre.alloc (.cells #[.string t, .string d, .int .i64 a, .int .i64 0] 55)
          have hBf := hBe.alloc hze (.cells #[.string t, .string d, .int .i64 a, .int .i64 0] 55)
          have hzf : (we.alloc (.cells #[.string t, .string d, .int .i64 a, .int .i64 0] 55)).heap.size = we.heap.size + 1 := by simp
          have hnew := own_lit we 55 4 [.string t, .string d, .int .i64 a, .int .i64 0] rfl (by decide)
          replace hnew : (we.alloc (.cells #[.string t, .string d, .int .i64 a, .int .i64 0] 55)).ownsRow we.heap.size 55 1 (.slice (some ⟨we.heap.size, 0, none⟩) 4 4) 4 [.string t, .string d, .int .i64 a, .int .i64 0] := hnew
          have hog := hof
          have hrg := hrf
          have hBg := hBf
          have HOG := Lib.hid hog
          have HRG := Lib.hid (hrg.alloc (.cells #[.string t, .string d, .int .i64 a, .int .i64 0] 55))
          have HBG := Lib.hid (hBg.alloc (by omega) (.cells #[.string t, .string d, .int .i64 a, .int .i64 0] 55))
          clear hod hrd hBd hoe hre hBe hof hrf hBf hog hrg hBg hbe
          have hrn := rd_newN (we.alloc (.cells #[.string t, .string d, .int .i64 a, .int .i64 0] 55)) [.string t, .string d, .int .i64 a, .int .i64 0] 55 1 4 rfl
          rw [hzf] at hrn
          have HRN := Lib.hid hrn
          clear hnew hzf hrn
          go_wp2_with (at_builtin; (refine wpList_append_rdN _ rfl _ _ 42 rfl w.heap.size 55 4 (.agg #[.string ⟨#[]⟩, .string ⟨#[]⟩, .int .i64 0, .int .i64 0]) 48 Try.underlying42 Try.infoUser rfl (by decide) (.slice A' m c') m _ rfl (HOG.out.alloc _) _ _ _ [.string t, .string d, .int .i64 a, .int .i64 0] rfl HRN.out (by decide) (by simp [Value.oneCell']) ?_ (by omega) ?_ ?_); omega; simp; omega; intro A'' q' c'' w' hq ho hg; have HQ := Lib.hid hq; have HO4 := Lib.hid ho; have HG := Lib.hid hg; clear hq ho hg)
          go_roundw
          case rel =>
            have hq' := HQ.out.out
            exact ⟨q', c'', A'', us ++ [(t, d, a, 0)], y - 1, rfl, by go_num, by rw [show ucells (us ++ [(t, d, a, 0)]) = ucells us ++ [.string t, .string d, .int .i64 a, .int .i64 0] by unfold ucells; rw [List.flatMap_append]; rfl]; exact HO4.out, by omega, sizeU_snoc HSV.out _ ⟨by show t.size ≤ 100; omega, by show d.size ≤ 100; omega⟩, HBG.out.grown HG.out (by have := HBG.out.size; omega) (fun j hj => (hl j hj).1), (HRG.out.grown HG.out (fun j hj => by have := (hl j hj).1; omega)).more (by omega)⟩
          case measure => simp [intOf] <;> omega
        · have HO3 := Lib.hid ho
          clear ho
          go_wp2_with fail
          go_ret
          exact ⟨A', m, c', us, rfl, HO3.out, by omega, HSV.out, hb, hr.more (by omega)⟩
    · have dq : (q == 0) = false := by simp [hq]
      clear hq
      go_wp2_with fail
      go_loopw [3, 6] (fun s' v wr => ∃ (m c' : Nat) (A' : Option Addr) (us : List (ByteArray × ByteArray × Int × Int)) (z : Nat), s' = .slice A' m c' ∧ v = .int .i64 z ∧ wr.ownsRow w.heap.size 55 4 (.slice A' m c') m (ucells us) ∧ m + z ≤ 4 ∧ Hid (sizeU 100 us) ∧ Bel g w.heap.size w wr ∧ Rdr wr g (K + 10 + 2000 * (4 - (z : Int)))) (fun _ v _ => (intOf v).toNat)
      case atStart => exact ⟨0, _, _, [], z, rfl, rfl, HO.out, by omega, fun u hu => absurd hu List.not_mem_nil, HB.out, HR.out.more (by omega)⟩
      case round =>
        clear HO HB HR
        obtain ⟨m, c', A', us, y, rfl, rfl, ho, hmy, HSV, hb, hr⟩ := hrel
        have hzb := hb.size
        by_cases hy : 0 < y
        · obtain ⟨wo, rfl⟩ : ∃ wo, wo = wr := ⟨_, rfl⟩
          go_wp2_with fail
          refine (rd_pick _ _ _ _ hr (by omega) (by omega) (by omega)).mono ?_
          rintro e wa ⟨k, rfl, hk0, hk1, hk2, hba, hra⟩
          have hk3 := hk1 (by omega)
          have hoa := own_bel ho hba hgl
          have hBa := hb.trans' hba hzb
          have hza := hBa.size
          clear hk1 hk2 hba ho hr hb
          go_wp2_with fail
          refine (spec_l3Walsh 3 k wa (by omega) (by omega) (by omega) (by omega)).mono ?_
          rintro e wb ⟨t, rfl, ht, hbb⟩
          have hts : t.size ≤ 8 := by rw [str_size ht, walshL_lenA, H8.out]; exact Nat.le_refl _
          have hob := own_below hoa hbb
          have hrb := hra.below hbb
          have hBb := hBa.trans' (Bel.of_below hbb) hza
          have hzb2 := hBb.size
          clear ht hbb hoa hra hBa
          have hod := hob
          have hrd := hrb
          have hBd := hBb
          obtain ⟨wd, rfl⟩ : ∃ wd, wd = wb := ⟨_, rfl⟩
          clear hob hrb hBb
          have hzd := hBd.size
          go_wp2_with fail
          refine (spec_l4User g t _ wd hrd (by omega)).mono ?_
          rintro e we ⟨d, a, l, rfl, hd, hbe, hre⟩
          have hoe := own_bel hod hbe hgl
          have hBe := hBd.trans' hbe hzd
          have hze := hBe.size
          have hl : ∀ k, Value.ownBlock (.slice A' m c') = some k → w.heap.size ≤ k ∧ k < we.heap.size := fun k hk => hoe.lt k hk
          have hof := hoe.alloc (.cells #[.string t, .string d, .int .i64 a, .int .i64 l] 55)
          have hrf := hre.alloc (.cells #[.string t, .string d, .int .i64 a, .int .i64 l] 55)
          have hBf := hBe.alloc hze (.cells #[.string t, .string d, .int .i64 a, .int .i64 l] 55)
          have hzf : (we.alloc (.cells #[.string t, .string d, .int .i64 a, .int .i64 l] 55)).heap.size = we.heap.size + 1 := by simp
          have hnew := own_lit we 55 4 [.string t, .string d, .int .i64 a, .int .i64 l] rfl (by decide)
          replace hnew : (we.alloc (.cells #[.string t, .string d, .int .i64 a, .int .i64 l] 55)).ownsRow we.heap.size 55 1 (.slice (some ⟨we.heap.size, 0, none⟩) 4 4) 4 [.string t, .string d, .int .i64 a, .int .i64 l] := hnew
          have hog := hof
          have hrg := hrf
          have hBg := hBf
          have HOG := Lib.hid hog
          have HRG := Lib.hid (hrg.alloc (.cells #[.string t, .string d, .int .i64 a, .int .i64 l] 55))
          have HBG := Lib.hid (hBg.alloc (by omega) (.cells #[.string t, .string d, .int .i64 a, .int .i64 l] 55))
          clear hod hrd hBd hoe hre hBe hof hrf hBf hog hrg hBg hbe
          have hrn := rd_newN (we.alloc (.cells #[.string t, .string d, .int .i64 a, .int .i64 l] 55)) [.string t, .string d, .int .i64 a, .int .i64 l] 55 1 4 rfl
          rw [hzf] at hrn
          have HRN := Lib.hid hrn
          clear hnew hzf hrn
          go_wp2_with (at_builtin; (refine wpList_append_rdN _ rfl _ _ 42 rfl w.heap.size 55 4 (.agg #[.string ⟨#[]⟩, .string ⟨#[]⟩, .int .i64 0, .int .i64 0]) 48 Try.underlying42 Try.infoUser rfl (by decide) (.slice A' m c') m _ rfl (HOG.out.alloc _) _ _ _ [.string t, .string d, .int .i64 a, .int .i64 l] rfl HRN.out (by decide) (by simp [Value.oneCell']) ?_ (by omega) ?_ ?_); omega; simp; omega; intro A'' q' c'' w' hq ho hg; have HQ := Lib.hid hq; have HO4 := Lib.hid ho; have HG := Lib.hid hg; clear hq ho hg)
          go_roundw
          case rel =>
            have hq' := HQ.out.out
            exact ⟨q', c'', A'', us ++ [(t, d, a, l)], y - 1, rfl, by go_num, by rw [show ucells (us ++ [(t, d, a, l)]) = ucells us ++ [.string t, .string d, .int .i64 a, .int .i64 l] by unfold ucells; rw [List.flatMap_append]; rfl]; exact HO4.out, by omega, sizeU_snoc HSV.out _ ⟨by show t.size ≤ 100; omega, by show d.size ≤ 100; omega⟩, HBG.out.grown HG.out (by have := HBG.out.size; omega) (fun j hj => (hl j hj).1), (HRG.out.grown HG.out (fun j hj => by have := (hl j hj).1; omega)).more (by omega)⟩
          case measure => simp [intOf] <;> omega
        · have HO3 := Lib.hid ho
          clear ho
          go_wp2_with fail
          go_ret
          exact ⟨A', m, c', us, rfl, HO3.out, by omega, HSV.out, hb, hr.more (by omega)⟩
def DrewUs (w : World) (e : Ending) (w' : World) : Prop :=
  ∃ (A : Option Addr) (n c : Nat) (us : List (ByteArray × ByteArray × Int × Int)), e = .returned (.slice A n c) ∧ w'.ownsRow w.heap.size 55 4 (.slice A n c) n (ucells us) ∧ n ≤ 9 ∧ sizeU 6000 us ∧ Below w.heap.size w w'
def DrewUsI (w : World) (e : Ending) (w' : World) : Prop :=
  ∃ (A : Option Addr) (n c : Nat) (us : List (ByteArray × ByteArray × Int × Int)) (k : Int), e = .returned (.tuple #[.slice A n c, .int .i64 k]) ∧ w'.ownsRow w.heap.size 55 4 (.slice A n c) n (ucells us) ∧ n ≤ 9 ∧ sizeU 6000 us ∧ Below w.heap.size w w'
set_option maxHeartbeats 1000000 in
/-- l4BadList also on no users. -/
theorem spec_l4BadList0 (g B : Nat) (A : Option Addr) (n c : Nat) (us : List (ByteArray × ByteArray × Int × Int)) (K : Int) (w : World) (h : Rdr w g K) (hK : K ≤ 100000000) (ho : w.ownsRow B 55 4 (.slice A n c) n (ucells us)) (hg : g < B) (hB : B ≤ w.heap.size) (hn : n ≤ 8) (hs : sizeU 100 us) :
    Calls Try.prog 80 #[.pointer (some ⟨g, 0, none⟩), .slice A n c] w (DrawnBL g B (K + 10) w) := by
  by_cases h1 : 1 ≤ n
  · exact (spec_l4BadList g B A n c us K w h hK ho hg hB h1 hn hs).mono fun e w' hq => hq.1
  · obtain rfl : n = 0 := by omega
    clear h1
    go_enter Try.func80, Try.ntmps80
    go_wp2_with fail
    go_ret
    exact ⟨A, 0, c, us, rfl, ho, by omega, sizeU_mono hs (by omega), Bel.refl _ _ _, h.more (by omega)⟩
set_option maxHeartbeats 1000000 in
theorem spec_DrawSendAll (A : Option Addr) (n c : Nat) (zs : List Int) (w : World) (hx : RowIn .u8 w A n c zs) :
    Calls Try.prog 39 #[.slice A n c] w (DrewUs w) := by
  go_enter Try.func39, Try.ntmps39
  go_wp2_with fail
  refine (rd_open _ _ _ _ _ hx).mono ?_
  rintro e w1 ⟨g, rfl, hg, hr1, hb1⟩
  have hs1 := hb1.size
  have hgl := hr1.lt
  go_wp2_with fail
  refine (spec_l4List g _ w1 hr1 (by omega)).mono ?_
  rintro e w2 ⟨A1, n1, c1, us, rfl, ho, hn4, hsz, hb2, hr2⟩
  have hs2 := hb2.size
  go_wp2_with fail
  refine (spec_l4BadList0 g w1.heap.size A1 n1 c1 us _ w2 hr2 (by omega) ho hgl hs2 (by omega) hsz).mono ?_
  rintro e w3 ⟨A2, n2, c2, us2, rfl, ho2, hn9, hsz2, hb3, hr3⟩
  have HO := Lib.hid ho2
  have HS := Lib.hid hsz2
  clear ho ho2 hsz hsz2
  go_wp2_with fail
  go_ret
  exact ⟨A2, n2, c2, us2, rfl, own_mono HO.out hs1, hn9, HS.out, hb1.trans (((hb2.trans2 hb3 (Nat.le_refl _)).mono hs1).to_below hg)⟩
set_option maxHeartbeats 1000000 in
theorem spec_DrawInterferenceBound (A : Option Addr) (n c : Nat) (zs : List Int) (w : World) (hx : RowIn .u8 w A n c zs) :
    Calls Try.prog 44 #[.slice A n c] w (DrewUsI w) := by
  go_enter Try.func44, Try.ntmps44
  go_wp2_with fail
  refine (rd_open _ _ _ _ _ hx).mono ?_
  rintro e w1 ⟨g, rfl, hg, hr1, hb1⟩
  have hs1 := hb1.size
  have hgl := hr1.lt
  go_wp2_with fail
  refine (spec_l4List g _ w1 hr1 (by omega)).mono ?_
  rintro e w2 ⟨A1, n1, c1, us, rfl, ho, hn4, hsz, hb2, hr2⟩
  have hs2 := hb2.size
  go_wp2_with fail
  refine (spec_l4BadList0 g w1.heap.size A1 n1 c1 us _ w2 hr2 (by omega) ho hgl hs2 (by omega) hsz).mono ?_
  rintro e w3 ⟨A2, n2, c2, us2, rfl, ho2, hn9, hsz2, hb3, hr3⟩
  have HS := Lib.hid hsz2
  have hb13 := hb2.trans2 hb3 (Nat.le_refl _)
  have hs3 := hb13.size
  clear ho hsz hsz2 hb2 hb3
  go_wp2_with fail
  refine (rd_pick _ _ _ _ hr3 (by omega) (by omega) (by omega)).mono ?_
  rintro e w4 ⟨q, rfl, hq0, hq1, hq2, hb4, hr4⟩
  have ho4 := own_bel ho2 hb4 hgl
  have hB4 := hb13.trans' hb4 hs3
  have hs4 := hB4.size
  clear hq1 hq2 hb4 hb13 ho2
  by_cases c0 : q = 0
  · have d0 : (q == 0) = true := by simp [c0]
    clear c0
    go_wp2_with fail
    refine (rd_num_lit g [-1, 8, 9223372036854775807] _ 3 _ w4 hr4 (by omega) rfl rfl (by decide) (by decide)).mono ?_
    rintro e w5 ⟨z, rfl, hz, hb5, hr5⟩
    have HO := Lib.hid (own_bel ho4 hb5 hgl)
    have hB5 := hB4.trans' hb5 hs4
    clear hz ho4 hb5
    go_wp2_with fail
    go_ret2
    exact ⟨A2, n2, c2, us2, z, rfl, own_mono HO.out hs1, hn9, HS.out, hb1.trans ((hB5.mono hs1).to_below hg)⟩
  · have d0 : (q == 0) = false := by simp [c0]
    clear c0
    go_wp2_with fail
    all_goals
      refine (rd_pick _ _ _ _ hr4 (by omega) (by omega) (by omega)).mono ?_
      rintro e w5 ⟨z, rfl, hz0, hz1, hz2, hb5, hr5⟩
      have HO := Lib.hid (own_bel ho4 hb5 hgl)
      have hB5 := hB4.trans' hb5 hs4
      clear hz1 hz2 ho4 hb5
      go_wp2_with fail
      go_ret2
      exact ⟨A2, n2, c2, us2, z, rfl, own_mono HO.out hs1, hn9, HS.out, hb1.trans ((hB5.mono hs1).to_below hg)⟩

end Go.Proofs.Ytlddefmakjnfdaa
