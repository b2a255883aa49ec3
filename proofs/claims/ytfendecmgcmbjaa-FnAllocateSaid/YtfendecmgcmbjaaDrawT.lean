/- Draws of lists of paths. Conditions: as each theorem says. -/
import Derived.Test.YtfendecmgcmbjaaDrawW
import Derived.Test.YtfendecmgcmbjaaPureT
namespace Go.Proofs.Ytfendecmgcmbjaa
open Go.RowKit
set_option linter.unusedSimpArgs false
set_option linter.unusedVariables false
set_option maxRecDepth 100000

/-- Strings and a number were drawn. -/
def DrewLI (w : World) (e : Ending) (w' : World) : Prop :=
  ∃ (A : Option Addr) (n c : Nat) (ss : List ByteArray) (z : Int), e = .returned (.tuple #[.slice A n c, .int .i64 z]) ∧ w'.ownsRow w.heap.size 9 1 (.slice A n c) n (ss.map Value.string) ∧ n ≤ 10 ∧ (∀ s ∈ ss, s.size ≤ 1020) ∧ Below w.heap.size w w'
theorem sizes_snoc {ss : List ByteArray} {t : ByteArray} {M : Nat} (h : ∀ s ∈ ss, s.size ≤ M) (ht : t.size ≤ M) : ∀ s ∈ ss ++ [t], s.size ≤ M := by
  intro s hs
  rcases List.mem_append.1 hs with h1 | h1
  · exact h s h1
  · rw [List.mem_singleton.1 h1]; exact ht
set_option maxHeartbeats 4000000 in
theorem spec_DrawAllocateTree (A : Option Addr) (n c : Nat) (zs : List Int) (w : World) (hx : RowIn .u8 w A n c zs) :
    Calls Try.prog 31 #[.slice A n c] w (DrewLI w) := by
  go_enter Try.func31, Try.ntmps31
  go_wp2_with fail
  refine (rd_open _ _ _ _ _ hx).mono ?_
  rintro e w1 ⟨g, rfl, hg, hr1, hb1⟩
  have hs1 := hb1.size
  have hgl := hr1.lt
  go_wp2_with fail
  refine (rd_pick _ _ _ _ (hr1.alloc _) (by omega) (by omega) (by omega)).mono ?_
  rintro e w2 ⟨m, rfl, hm0, hm1, hm2, hb2, hr2⟩
  have hm3 := hm1 (by omega)
  clear hm1 hm2
  have hs2 := hb2.size
  have HO := Lib.hid (own_bel (own_empty w1 9 w1.heap.size (Nat.le_refl _)) hb2 hgl)
  have hB : Bel g w1.heap.size w1 w2 := ((Bel.refl g _ w1).alloc (Nat.le_refl _) _).trans' hb2 (by simp)
  clear hb2
  go_wp2_with fail
  go_loopw [5, 6] (fun o v wr => ∃ (i : Nat) (B : Option Addr) (q d : Nat) (ss : List ByteArray), v = .int .i64 i ∧ o = .slice B q d ∧ wr.ownsRow w1.heap.size 9 1 (.slice B q d) q (ss.map Value.string) ∧ q + i ≤ 6 ∧ Hid (∀ s ∈ ss, s.size ≤ 1020) ∧ Bel g w1.heap.size w1 wr ∧ Rdr wr g (20000 - 2000 * (i : Int))) (fun _ v _ => (intOf v).toNat)
  case atStart =>
    obtain ⟨i, rfl⟩ := Int.eq_ofNat_of_zero_le hm0
    exact ⟨i, _, 0, 0, [], rfl, rfl, HO.out, by omega, fun s hs => absurd hs List.not_mem_nil, hB, hr2.more (by omega)⟩
  case round =>
    obtain ⟨i, B, q, d, ss, rfl, rfl, ho, hqi, HSZ, hB1, hr3⟩ := hrel
    have hz1 := hB1.size
    have HO1 := Lib.hid ho
    clear ho
    by_cases hi : 0 < i
    · obtain ⟨wo, rfl⟩ : ∃ wo, wo = wr := ⟨_, rfl⟩
      go_wp2_with fail
      refine (rd_pick _ _ _ _ hr3 (by omega) (by omega) (by omega)).mono ?_
      rintro e w3 ⟨k, rfl, hk0, hk1, hk2, hb3, hr4⟩
      have hk3 := hk1 (by omega)
      clear hk1 hk2
      have hs3 := hb3.size
      have HO3 := Lib.hid (own_bel HO1.out hb3 hgl)
      have hB3 := hB1.trans' hb3 hz1
      clear hb3
      go_wp2_with fail
      refine (spec_AllocateTree B q d ss (1 + k) _ (own_rdS HO3.out) (by omega) (fun s hs => by have := HSZ.out s hs; omega)).mono ?_
      rintro e w4 ⟨t, rfl, ht, hb4⟩
      have hs4 := hb4.size
      have htl := alloc_len (lists ss) (1 + k)
      have hts : t.size ≤ 6 := by rw [str_size ht]; exact htl
      have HO4 := Lib.hid (own_below HO3.out hb4)
      have hB4 := hB3.trans' (Bel.of_below hb4) (by omega)
      have hr5 := hr4.below hb4
      clear ht htl hb4
      have bad : ∀ (w5 : World) (K : Int), w4.heap.size ≤ w5.heap.size → True := fun _ _ _ => trivial
      clear bad
      generalize (allocC (lists ss) (1 + k)).2 = ok
      cases ok
      · go_wp2_with fail
        refine (spec_l1String g 4 _ _ hr5 (by omega) (by omega)).mono ?_
        rintro e w5 ⟨u, rfl, hu, hbits, hb5, hr6⟩
        clear hbits
        have hs5 := hb5.size
        have HO5 := Lib.hid ((own_bel HO4.out hb5 hgl).alloc (.cells #[.string (u ++ ⟨#[49]⟩)] 9))
        have hB5 := hB4.trans' hb5 (by omega)
        go_wp2_with (at_builtin; refine wpList_append_rd _ rfl _ _ 39 rfl w1.heap.size 9 (.string ⟨#[]⟩) 16 Try.underlying39 Try.infoStr rfl (.slice B q d) _ _ rfl HO5.out _ _ _ [_] rfl (rd_new _ [_] _ 1 rfl) (by simp [Value.oneCell']) ?_ (by omega) ?_ ?_; omega; simp; omega; intro A' q' c' w' hq ho hg; have HQ := Lib.hid hq.out; have HO6 := Lib.hid ho; have HG := Lib.hid hg; clear hq ho hg)
        go_roundw
        case rel =>
          have hq := HQ.out
          have hl : ∀ k, Value.ownBlock (.slice B q d) = some k → w1.heap.size ≤ k := fun k hk => (HO4.out.lt k hk).1
          exact ⟨i - 1, A', q', c', ss ++ [u ++ ⟨#[49]⟩], by go_num, rfl, by rw [List.map_append]; exact HO6.out, by omega, sizes_snoc HSZ.out (by rw [ByteArray.size_append]; show u.size + 1 ≤ 1020; omega),
            (hB5.alloc (by omega) _).grown HG.out (by simp; omega) hl, ((hr6.alloc _).grown HG.out (fun k hk => by have := hl k hk; omega)).more (by omega)⟩
        case measure => simp [intOf] <;> omega
      · go_wp2_with fail
        refine (rd_pick _ _ _ _ hr5 (by omega) (by omega) (by omega)).mono ?_
        rintro e w5 ⟨p, rfl, hp0, hp1, hp2, hb5, hr6⟩
        clear hp1 hp2
        have hs5 := hb5.size
        have HO5 := Lib.hid (own_bel HO4.out hb5 hgl)
        have hB5 := hB4.trans' hb5 (by omega)
        by_cases hp : 0 < p
        · have d0 : decide (0 < p) = true := decide_eq_true hp
          have HO5' := Lib.hid (HO5.out.alloc (.cells #[.string t] 9))
          go_wp2_with (at_builtin; refine wpList_append_rd _ rfl _ _ 39 rfl w1.heap.size 9 (.string ⟨#[]⟩) 16 Try.underlying39 Try.infoStr rfl (.slice B q d) _ _ rfl HO5'.out _ _ _ [_] rfl (rd_new _ [_] _ 1 rfl) (by simp [Value.oneCell']) ?_ (by omega) ?_ ?_; omega; simp; omega; intro A' q' c' w' hq ho hg; have HQ := Lib.hid hq.out; have HO6 := Lib.hid ho; have HG := Lib.hid hg; clear hq ho hg)
          go_roundw
          case rel =>
            have hq := HQ.out
            have hl : ∀ k, Value.ownBlock (.slice B q d) = some k → w1.heap.size ≤ k := fun k hk => (HO4.out.lt k hk).1
            exact ⟨i - 1, A', q', c', ss ++ [t], by go_num, rfl, by rw [List.map_append]; exact HO6.out, by omega, sizes_snoc HSZ.out (by omega),
              (hB5.alloc (by omega) _).grown HG.out (by simp; omega) hl, ((hr6.alloc _).grown HG.out (fun k hk => by have := hl k hk; omega)).more (by omega)⟩
          case measure => simp [intOf] <;> omega
        · have d0 : decide (0 < p) = false := decide_eq_false hp
          go_wp2_with fail
          refine (spec_l1String g 4 _ _ hr6 (by omega) (by omega)).mono ?_
          rintro e w6 ⟨u, rfl, hu, hbits, hb6, hr7⟩
          clear hbits
          have hs6 := hb6.size
          have HO6 := Lib.hid ((own_bel HO5.out hb6 hgl).alloc (.cells #[.string (u ++ ⟨#[49]⟩)] 9))
          have hB6 := hB5.trans' hb6 (by omega)
          go_wp2_with (at_builtin; refine wpList_append_rd _ rfl _ _ 39 rfl w1.heap.size 9 (.string ⟨#[]⟩) 16 Try.underlying39 Try.infoStr rfl (.slice B q d) _ _ rfl HO6.out _ _ _ [_] rfl (rd_new _ [_] _ 1 rfl) (by simp [Value.oneCell']) ?_ (by omega) ?_ ?_; omega; simp; omega; intro A' q' c' w' hq ho hg; have HQ := Lib.hid hq.out; have HO7 := Lib.hid ho; have HG := Lib.hid hg; clear hq ho hg)
          go_roundw
          case rel =>
            have hq := HQ.out
            have hl : ∀ k, Value.ownBlock (.slice B q d) = some k → w1.heap.size ≤ k := fun k hk => (HO4.out.lt k hk).1
            exact ⟨i - 1, A', q', c', ss ++ [u ++ ⟨#[49]⟩], by go_num, rfl, by rw [List.map_append]; exact HO7.out, by omega, sizes_snoc HSZ.out (by rw [ByteArray.size_append]; show u.size + 1 ≤ 1020; omega),
              (hB6.alloc (by omega) _).grown HG.out (by simp; omega) hl, ((hr7.alloc _).grown HG.out (fun k hk => by have := hl k hk; omega)).more (by omega)⟩
          case measure => simp [intOf] <;> omega
    · obtain rfl : i = 0 := by omega
      obtain ⟨w3, rfl⟩ : ∃ w3, w3 = wr := ⟨_, rfl⟩
      go_wp2_with fail
      refine (rd_pick _ _ _ _ hr3 (by omega) (by omega) (by omega)).mono ?_
      rintro e w4 ⟨p, rfl, hp0, hp1, hp2, hb4, hr4⟩
      clear hp1 hp2
      have hs4 := hb4.size
      have HO4 := Lib.hid (own_bel HO1.out hb4 hgl)
      have hB4 := hB1.trans' hb4 hz1
      by_cases c0 : p = 0
      · have d0 : (p == 0) = true := by simp [c0]
        clear c0
        go_wp2_with fail
        refine (spec_l3Bent g ⟨#[49]⟩ _ _ hr4 (by omega) (by show 1 ≤ 1000; omega)).mono ?_
        rintro e w5 ⟨u, rfl, hu, hb5, hr5⟩
        have hs5 := hb5.size
        have HO5 := Lib.hid ((own_bel HO4.out hb5 hgl).alloc (.cells #[.string u] 9))
        have hB5 := hB4.trans' hb5 (by omega)
        have hl : ∀ k, Value.ownBlock (.slice B q d) = some k → w1.heap.size ≤ k := fun k hk => (HO4.out.lt k hk).1
        have HL := Lib.hid hl
        clear hl
        go_wp2_with (at_builtin; refine wpList_append_rd _ rfl _ _ 39 rfl w1.heap.size 9 (.string ⟨#[]⟩) 16 Try.underlying39 Try.infoStr rfl (.slice B q d) _ _ rfl HO5.out _ _ _ [_] rfl (rd_new _ [_] _ 1 rfl) (by simp [Value.oneCell']) ?_ (by omega) ?_ ?_; omega; simp; omega; intro A' q' c' w6 hq ho hg; have HQ := Lib.hid hq.out; have HO6 := Lib.hid ho; have hB6 := (hB5.alloc (by omega) (.cells #[.string u] 9)).grown hg (by simp; omega) HL.out; have hr6 := (hr5.alloc (.cells #[.string u] 9)).grown hg (fun k hk => by have := HL.out k hk; omega); have hs6 : w5.heap.size ≤ w6.heap.size := (by have := hg.size; simp at this; omega); clear hq ho hg)
        have hq := HQ.out
        subst hq
        refine (rd_pick _ _ _ _ hr6 (by omega) (by omega) (by omega)).mono ?_
        rintro e w7 ⟨p2, rfl, hp20, hp21, hp22, hb7, hr7⟩
        clear hp21 hp22
        have hs7 := hb7.size
        have HO7 := Lib.hid (own_bel HO6.out hb7 hgl)
        have hB7 := hB6.trans' hb7 (by omega)
        have hssz := sizes_snoc HSZ.out (show u.size ≤ 1020 by omega)
        have HSS := Lib.hid hssz
        clear hssz
        by_cases c1 : p2 = 0
        · have d1 : (p2 == 0) = true := by simp [c1]
          clear c1
          go_wp2_with fail
          refine (rd_num_lit g [-1, 7, 6, 0] _ 4 _ w7 hr7 (by omega) rfl rfl (by decide) (by decide)).mono ?_
          rintro e w8 ⟨x, rfl, hx, hb8, hr8⟩
          clear hx
          go_wp2_with fail
          go_ret2
          exact ⟨A', q + 1, c', ss ++ [u], x, rfl, own_mono (by rw [List.map_append]; exact own_bel HO7.out hb8 hgl) (by omega), by omega, HSS.out, hb1.trans (((hB7.trans' hb8 (by omega)).mono hs1).to_below hg)⟩
        · have d1 : (p2 == 0) = false := by simp [c1]
          clear c1
          go_wp2_with fail
          refine (rd_pick _ _ _ _ hr7 (by omega) (by omega) (by omega)).mono ?_
          rintro e w8 ⟨x, rfl, hx0, hx1, hx2, hb8, hr8⟩
          clear hx1 hx2
          go_wp2_with fail
          go_ret2
          exact ⟨A', q + 1, c', ss ++ [u], x, rfl, own_mono (by rw [List.map_append]; exact own_bel HO7.out hb8 hgl) (by omega), by omega, HSS.out, hb1.trans (((hB7.trans' hb8 (by omega)).mono hs1).to_below hg)⟩
      · have d0 : (p == 0) = false := by simp [c0]
        clear c0
        go_wp2_with fail
        refine (rd_pick _ _ _ _ hr4 (by omega) (by omega) (by omega)).mono ?_
        rintro e w7 ⟨p2, rfl, hp20, hp21, hp22, hb7, hr7⟩
        clear hp21 hp22
        have hs7 := hb7.size
        have HO7 := Lib.hid (own_bel HO4.out hb7 hgl)
        have hB7 := hB4.trans' hb7 (by omega)
        by_cases c1 : p2 = 0
        · have d1 : (p2 == 0) = true := by simp [c1]
          clear c1
          go_wp2_with fail
          refine (rd_num_lit g [-1, 7, 6, 0] _ 4 _ w7 hr7 (by omega) rfl rfl (by decide) (by decide)).mono ?_
          rintro e w8 ⟨x, rfl, hx, hb8, hr8⟩
          clear hx
          go_wp2_with fail
          go_ret2
          exact ⟨B, q, d, ss, x, rfl, own_mono (own_bel HO7.out hb8 hgl) (by omega), by omega, HSZ.out, hb1.trans (((hB7.trans' hb8 (by omega)).mono hs1).to_below hg)⟩
        · have d1 : (p2 == 0) = false := by simp [c1]
          clear c1
          go_wp2_with fail
          refine (rd_pick _ _ _ _ hr7 (by omega) (by omega) (by omega)).mono ?_
          rintro e w8 ⟨x, rfl, hx0, hx1, hx2, hb8, hr8⟩
          clear hx1 hx2
          go_wp2_with fail
          go_ret2
          exact ⟨B, q, d, ss, x, rfl, own_mono (own_bel HO7.out hb8 hgl) (by omega), by omega, HSZ.out, hb1.trans (((hB7.trans' hb8 (by omega)).mono hs1).to_below hg)⟩
set_option maxHeartbeats 400000 in
theorem spec_DrawFreePaths (A : Option Addr) (n c : Nat) (zs : List Int) (w : World) (hx : RowIn .u8 w A n c zs) :
    Calls Try.prog 28 #[.slice A n c] w (DrewLI w) := by
  go_enter Try.func28, Try.ntmps28
  go_wp2_with fail
  refine (spec_DrawAllocateTree _ _ _ _ _ hx).mono ?_
  rintro e w1 ⟨B, m, d, ss, z, rfl, ho, hm, hs, hb⟩
  have HO := Lib.hid ho
  clear ho
  go_wp2_with fail
  go_ret2
  exact ⟨B, m, d, ss, z, rfl, HO.out, hm, hs, hb⟩

end Go.Proofs.Ytfendecmgcmbjaa
