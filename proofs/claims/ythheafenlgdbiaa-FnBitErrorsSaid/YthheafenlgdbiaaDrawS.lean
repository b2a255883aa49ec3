/- Draws of texts. Conditions: as each theorem says. -/
import Derived.Test.YthheafenlgdbiaaDraw4b
import Derived.Test.YthheafenlgdbiaaStr
import Derived.Test.YthheafenlgdbiaaC5
namespace Go.Proofs.Ythheafenlgdbiaa
open Go.RowKit
set_option linter.unusedSimpArgs false
set_option linter.unusedVariables false

/-- A text was drawn. -/
def DrawnT (g : Nat) (K : Int) (M : Nat) (w : World) (e : Ending) (w' : World) : Prop :=
  ∃ t : ByteArray, e = .returned (.string t) ∧ t.size ≤ M ∧ Bel g w.heap.size w w' ∧ Rdr w' g K
/-- Bits were drawn. -/
def DrawnB (g : Nat) (K : Int) (M : Nat) (w : World) (e : Ending) (w' : World) : Prop :=
  ∃ t : ByteArray, e = .returned (.string t) ∧ t.size ≤ M ∧ t.data.toList.all isBit = true ∧ Bel g w.heap.size w w' ∧ Rdr w' g K
theorem run_make_cap {P : Program} (t e : TypeId) (z : Value) (bytes : Nat) (ht : P.underlying t = some (.slice e)) (hinfo : (P.info? e).map (fun i => (i.zero, i.size, i.bytes)) = some (some z, 1, bytes)) (hz1 : z.cells = #[z])
    (kl kc : IntKind) (n : Nat) (hbytes : bytes * n ≤ 281474976710656) (h63 : n ≤ 9223372036854775807) (w : World) :
    (Instr.makeSlice t (.int kl 0) (.int kc (n : Int))).run P w = .ok (.slice (some ⟨w.heap.size, 0, none⟩) 0 n) (w.alloc (.cells (madeCells #[z] n) e)) := by
  obtain ⟨i, hi, hzz⟩ := Option.map_eq_some_iff.1 hinfo
  simp only [Prod.mk.injEq] at hzz
  obtain ⟨hz, hs, hb⟩ := hzz
  have hb' : (i.bytes : Int) * (n : Int) ≤ 281474976710656 := by
    rw [hb]
    have h : ((bytes * n : Nat) : Int) ≤ 281474976710656 := by omega
    rwa [Int.natCast_mul] at h
  have hr := run_make (P := P) w t e i z ht hi hz kl kc 0 n (by omega) (by omega) hb' (by omega)
  simp only [Int.toNat_natCast, hs, Nat.mul_one, hz1, Int.toNat_zero] at hr
  exact hr
theorem own_cap0 (w : World) (z : Value) (n e : Nat) (h : n ≤ maxLen) : (w.alloc (.cells (madeCells #[z] n) e)).ownsRow w.heap.size e 1 (.slice (some ⟨w.heap.size, 0, none⟩) 0 n) 0 [] :=
  World.ownsRow_made w _ n (Nat.le_refl _) h (by rw [size_madeCells]; simp)
theorem bytes_app (l : List UInt8) (c : UInt8) : bytes l ++ [Value.int .u8 (c.toNat : Int)] = bytes (l ++ [c]) := by simp [bytes]
set_option maxHeartbeats 1000000 in
theorem spec_l1String (g most : Nat) (K : Int) (w : World) (h : Rdr w g K) (hK : K ≤ 1000000000) (h1 : most ≤ 1000) :
    Calls Try.prog 85 #[.pointer (some ⟨g, 0, none⟩), .int .i64 most] w (DrawnB g (K + 1100) most w) := by
  have hgl := h.lt
  have hmk := run_make_cap (P := Try.prog) 40 5 (.int .u8 0) 1 Try.underlying40 Try.infoU8 rfl .i64 .i64 most (by omega) (by omega)
  go_enter Try.func85, Try.ntmps85
  go_wp2_with fail
  clear hmk
  refine (rd_pick _ _ _ _ (h.alloc _) (by omega) (by omega) (by omega)).mono ?_
  rintro e w1 ⟨m, rfl, hm0, hm1, hm2, hb, hr⟩
  have hm3 := hm1 (by omega)
  have ho := own_bel (own_cap0 w (.int .u8 0) most 5 (by unfold maxLen; omega)) hb hgl
  have hB : Bel g w.heap.size w w1 := ((Bel.refl g _ w).alloc (Nat.le_refl _) _).trans' hb (by simp)
  have HO := Lib.hid ho
  clear ho hm1 hm2 hb h
  go_wp2_with fail
  go_loopw [5, 6] (fun s v wr => ∃ (i : Nat) (A : Option Addr) (n c : Nat) (l : List UInt8), v = .int .i64 i ∧ s = .slice A n c ∧ wr.ownsRow w.heap.size 5 1 (.slice A n c) n (bytes l) ∧ n + i ≤ most ∧ Hid (l.all isBit = true) ∧ Bel g w.heap.size w wr ∧ Rdr wr g (K + 1100 - i)) (fun _ v _ => (intOf v).toNat)
  case atStart =>
    obtain ⟨i, rfl⟩ := Int.eq_ofNat_of_zero_le hm0
    exact ⟨i, _, 0, _, [], rfl, rfl, HO.out, by omega, rfl, hB, hr.more (by omega)⟩
  case round =>
    obtain ⟨i, A, n, c, l, rfl, rfl, ho1, hni, hbits, hB1, hr1⟩ := hrel
    have hz1 := hB1.size
    have HO1 := Lib.hid ho1
    clear ho1
    by_cases hi : 0 < i
    · go_wp2_with (first | (go_at_call 86; refine (rd_pick _ _ _ _ hr1 (by omega) (by omega) (by omega)).mono ?_; rintro e w2 ⟨m2, rfl, hm20, hm21, hm22, hb2, hr2⟩; have hm23 := hm21 (by omega); clear hm21 hm22) | (at_builtin; refine wpList_append_rd _ rfl _ _ 40 rfl w.heap.size 5 (.int .u8 0) 1 Try.underlying40 Try.infoU8 rfl (.slice A n c) _ _ rfl ((own_bel HO1.out hb2 hgl).alloc _) _ _ _ [.int .u8 (48 + m2)] rfl (rd_new _ [.int .u8 (48 + m2)] _ 1 rfl) (by simp [Value.oneCell']) ?_ (by omega) ?_ ?_; omega; simp; have := hb2.size; omega; intro A' q c' w' hq ho hg; have HQ := Lib.hid hq; have HO2 := Lib.hid ho; have HG := Lib.hid hg; clear hq ho hg))
      go_roundw
      case rel =>
        have hq := HQ.out.out
        have hl : ∀ k, Value.ownBlock (.slice A n c) = some k → w.heap.size ≤ k := fun k hk => (HO1.out.lt k hk).1
        have hs2 := hb2.size
        obtain ⟨p, rfl⟩ := Int.eq_ofNat_of_zero_le hm20
        have hcp : (48 : Int) + (p : Int) = ((bitC p).toNat : Int) := by
          rcases (show p = 0 ∨ p = 1 by omega) with rfl | rfl <;> rfl
        have h5 := HO2.out
        rw [hcp, bytes_app] at h5
        exact ⟨i - 1, A', q, c', l ++ [bitC p], by go_num, rfl, h5, by omega, by show List.all _ _ = true; rw [List.all_append, hbits.out]; simp [bitC_bit],
          ((hB1.trans' hb2 hz1).alloc (by omega) _).grown HG.out (by simp; omega) hl,
          ((hr2.alloc _).grown HG.out (fun k hk => by have := hl k hk; omega)).more (by omega)⟩
      case measure => simp [intOf]; omega
    · obtain rfl : i = 0 := by omega
      have hcv := own_string (P := Try.prog) (src := 40) (dst := 9) _ Try.underlying40 Try.underlying5 Try.underlying9 HO1.out
      have hlen : l.length = n := by have := HO1.out.1; rw [bytes_len] at this; omega
      go_wp2
      go_ret
      exact ⟨_, rfl, by rw [str_size (l := l) rfl, hlen]; omega, hbits.out, hB1, hr1.more (by omega)⟩
def OneOfS (g : Nat) (ss : List ByteArray) (K : Int) (w : World) (e : Ending) (w' : World) : Prop :=
  ∃ x : ByteArray, e = .returned (.string x) ∧ x ∈ ss ∧ Bel g w.heap.size w w' ∧ Rdr w' g (K + 1)
set_option maxHeartbeats 400000 in
theorem rd_of (g B : Nat) (A : Option Addr) (n c : Nat) (ss : List ByteArray) (K : Int) (w : World) (h : Rdr w g K) (hK : K ≤ 1099511627776) (ho : w.ownsRow B 9 1 (.slice A n c) n (ss.map Value.string)) (hB : g < B) (hn : 1 ≤ n) (hn2 : n ≤ 1048576) :
    Calls Try.prog 99 #[.pointer (some ⟨g, 0, none⟩), .slice A n c] w (OneOfS g ss K w) := by
  have HO := Lib.hid ho
  clear ho
  go_enter Try.func99, Try.ntmps99
  go_wp2_with fail
  refine (rd_pick _ _ _ _ h hK (by omega) (by omega)).mono ?_
  rintro e w1 ⟨m, rfl, hm0, hm1, hm2, hb, hr⟩
  obtain ⟨j, rfl⟩ := Int.eq_ofNat_of_zero_le hm0
  have hj : j < n := by have := hm1 (by omega); omega
  have ho1 := own_bel HO.out hb hB
  obtain ⟨b, o, x, rfl, hbb, hxx, hcx⟩ := RdS.at (own_rdS ho1) hj
  clear hm1 hm2 ho1
  go_wp2_with fail
  go_ret
  exact ⟨x, rfl, List.mem_of_getElem? hxx.out, hb, hr⟩
theorem rd_of_lit (g : Nat) (L : List ByteArray) (cs : Array Value) (n : Nat) (K : Int) (w : World) (h : Rdr w g K) (hK : K ≤ 1099511627776) (hcs : cs = (L.map Value.string).toArray) (hn : L.length = n) (h1 : 1 ≤ n) (h2 : n ≤ 1048576) :
    Calls Try.prog 99 #[.pointer (some ⟨g, 0, none⟩), .slice (some ⟨w.heap.size, 0, none⟩) n n] (w.alloc (.cells cs 9)) (OneOfS g L K w) := by
  subst hcs
  have ho := own_lit w 9 n (L.map Value.string) (by rw [List.length_map]; exact hn) (by unfold maxLen; omega)
  refine (rd_of g w.heap.size _ n n L K _ (h.alloc _) hK ho h.lt h1 h2).mono ?_
  rintro e w' ⟨x, he, hx, hb, hr⟩
  exact ⟨x, he, hx, ((Bel.refl g _ w).alloc (Nat.le_refl _) _).trans' hb (by simp), hr⟩
set_option maxHeartbeats 1000000 in
theorem spec_l2Bad (g : Nat) (s : ByteArray) (K : Int) (w : World) (h : Rdr w g K) (hK : K ≤ 1000000000) (hs : s.size ≤ 4000) :
    Calls Try.prog 87 #[.pointer (some ⟨g, 0, none⟩), .string s] w (DrawnT g (K + 2) 5000 w) := by
  go_enter Try.func87, Try.ntmps87
  go_wp2_with fail
  refine (rd_pick _ _ _ _ h (by omega) (by omega) (by omega)).mono ?_
  rintro e w1 ⟨m, rfl, hm0, hm1, hm2, hb, hr⟩
  clear hm1 hm2
  have hs1 := hb.size
  by_cases c0 : m = 0
  · have d0 : (m == 0) = true := by simp [c0]
    clear c0
    go_wp2_with fail
    refine (rd_of_lit g [⟨#[50]⟩, ⟨#[120]⟩, ⟨#[32]⟩] _ 3 _ w1 hr (by omega) rfl rfl (by decide) (by decide)).mono ?_
    rintro e w2 ⟨x, rfl, hx, hb2, hr2⟩
    have hxs : x.size = 1 := by
      simp only [List.mem_cons, List.not_mem_nil, or_false] at hx
      rcases hx with rfl | rfl | rfl <;> rfl
    clear hx
    go_wp2_with fail
    go_ret
    exact ⟨_, rfl, by rw [ByteArray.size_append]; omega, hb.trans' hb2 (by omega), hr2.more (by omega)⟩
  · have d0 : (m == 0) = false := by simp [c0]
    clear c0
    by_cases c1 : m = 1
    · have d1 : (m == 1) = true := by simp [c1]
      clear c1
      go_wp2_with fail
      go_ret
      exact ⟨_, rfl, by show 0 ≤ 5000; omega, hb, hr.more (by omega)⟩
    · have d1 : (m == 1) = false := by simp [c1]
      clear c1
      by_cases c2 : m = 2
      · have d2 : (m == 2) = true := by simp [c2]
        clear c2
        go_wp2_with fail
        refine (rd_num_lit g [255, 256] _ 2 _ w1 hr (by omega) rfl rfl (by decide) (by decide)).mono ?_
        rintro e w2 ⟨x, rfl, hx, hb2, hr2⟩
        obtain ⟨q, rfl, hq⟩ : ∃ q : Nat, x = q ∧ q ≤ 256 := by
          simp only [List.mem_cons, List.not_mem_nil, or_false] at hx
          rcases hx with rfl | rfl
          · exact ⟨255, rfl, by omega⟩
          · exact ⟨256, rfl, by omega⟩
        clear hx
        go_wp2_with fail
        refine (spec_l9Many _ [49] q _ rfl (by decide) (by omega)).mono ?_
        rintro e w3 ⟨t, rfl, ht, rfl⟩
        have hts : t.size = q := by rw [str_size ht, flat_len]; simp
        clear ht
        go_wp2_with fail
        go_ret
        exact ⟨_, rfl, by omega, hb.trans' hb2 (by omega), hr2.more (by omega)⟩
      · have d2 : (m == 2) = false := by simp [c2]
        clear c2
        go_wp2_with fail
        go_ret
        exact ⟨_, rfl, by omega, hb, hr.more (by omega)⟩
def DrewT (w : World) (e : Ending) (w' : World) : Prop := ∃ t : ByteArray, e = .returned (.string t) ∧ t.size ≤ 5000 ∧ Below w.heap.size w w'
set_option maxHeartbeats 1000000 in
theorem spec_DrawChipsOf (A : Option Addr) (n c : Nat) (zs : List Int) (w : World) (hx : RowIn .u8 w A n c zs) :
    Calls Try.prog 50 #[.slice A n c] w (DrewT w) := by
  go_enter Try.func50, Try.ntmps50
  go_wp2_with fail
  refine (rd_open _ _ _ _ _ hx).mono ?_
  rintro e w1 ⟨g, rfl, hg, hr1, hb1⟩
  have hs1 := hb1.size
  go_wp2_with fail
  refine (spec_l1String g 20 _ _ hr1 (by omega) (by omega)).mono ?_
  rintro e w2 ⟨t, rfl, ht, hbits, hb2, hr2⟩
  have hs2 := hb2.size
  clear hbits
  go_wp2_with fail
  refine (spec_l2Bad g t _ _ hr2 (by omega) (by omega)).mono ?_
  rintro e w3 ⟨u, rfl, hu, hb3, hr3⟩
  have hs3 := hb3.size
  go_wp2_with fail
  go_ret
  exact ⟨u, rfl, hu, hb1.trans (((hb2.trans' hb3 (by omega)).mono hs1).to_below hg)⟩
/-- A signal was drawn. -/
def DrewS (M : Nat) (w : World) (e : Ending) (w' : World) : Prop :=
  ∃ (A : Option Addr) (n c : Nat) (zs : List Int), e = .returned (.slice A n c) ∧ w'.ownsRow w.heap.size 3 1 (.slice A n c) n (zs.map (Value.int .i64)) ∧ n ≤ M ∧ Below w.heap.size w w'
set_option maxHeartbeats 1000000 in
theorem spec_DrawSignsOf (A : Option Addr) (n c : Nat) (zs : List Int) (w : World) (hx : RowIn .u8 w A n c zs) :
    Calls Try.prog 46 #[.slice A n c] w (DrewS 5000 w) := by
  go_enter Try.func46, Try.ntmps46
  go_wp2_with fail
  refine (rd_open _ _ _ _ _ hx).mono ?_
  rintro e w1 ⟨g, rfl, hg, hr1, hb1⟩
  have hs1 := hb1.size
  go_wp2_with fail
  refine (rd_pick _ _ _ _ hr1 (by omega) (by omega) (by omega)).mono ?_
  rintro e w2 ⟨m, rfl, hm0, hm1, hm2, hb2, hr2⟩
  clear hm1 hm2
  have hs2 := hb2.size
  by_cases c0 : m = 0
  · have d0 : (m == 0) = true := by simp [c0]
    clear c0
    go_wp2_with fail
    refine (rd_num_lit g [600, 601] _ 2 _ w2 hr2 (by omega) rfl rfl (by decide) (by decide)).mono ?_
    rintro e w3 ⟨x, rfl, hx, hb3, hr3⟩
    obtain ⟨q, rfl, hq⟩ : ∃ q : Nat, x = q ∧ q ≤ 601 := by
      simp only [List.mem_cons, List.not_mem_nil, or_false] at hx
      rcases hx with rfl | rfl
      · exact ⟨600, rfl, by omega⟩
      · exact ⟨601, rfl, by omega⟩
    clear hx
    have hs3 := hb3.size
    have hb13 := hb2.trans' hb3 (by omega)
    have hmk := run_make_row' (P := Try.prog) 27 3 (.int .i64 0) 8 Try.underlying27 Try.infoI64 rfl .i64 .i64 q (by omega) (by omega)
    go_wp2_with fail
    go_ret
    have ho := own_made w3 (.int .i64 0) q 3 (by unfold maxLen; omega)
    rw [← List.map_replicate] at ho
    exact ⟨_, q, q, List.replicate q 0, rfl, own_mono ho (by omega), by omega, (hb1.trans ((hb13.mono hs1).to_below hg)).alloc (by omega) _⟩
  · have d0 : (m == 0) = false := by simp [c0]
    clear c0
    go_wp2_with fail
    refine (spec_l4Some _ _ _ _ hr2 (by omega) (by omega) (by omega)).mono ?_
    rintro e w3 ⟨A2, n2, c2, z2, rfl, ho2, hn2, hb3, hr3⟩
    have hs3 := hb3.size
    have HO2 := Lib.hid ho2
    clear ho2
    go_wp2_with fail
    refine (spec_l4Bad _ w2.heap.size _ _ _ z2 _ _ hr3 (by omega) HO2.out hr2.lt hs3 (by omega)).mono ?_
    rintro e w4 ⟨A3, n3, c3, z3, rfl, ho3, hn3, hb4, hr4⟩
    have hs4 := hb4.size
    have HO3 := Lib.hid ho3
    clear ho3
    have hb24 : Bel g w2.heap.size w2 w4 := bel_join hb3 hb4 hs3 hs4
    have hb14 := hb2.trans' hb24 (by omega)
    go_wp2_with fail
    go_ret
    exact ⟨A3, n3, c3, z3, rfl, own_mono HO3.out (by omega), hn3, hb1.trans ((hb14.mono hs1).to_below hg)⟩
def DrewTT (w : World) (e : Ending) (w' : World) : Prop := ∃ t u : ByteArray, e = .returned (.tuple #[.string t, .string u]) ∧ t.size ≤ 5000 ∧ u.size ≤ 5000 ∧ Below w.heap.size w w'
set_option maxHeartbeats 1000000 in
theorem spec_DrawBitErrors (A : Option Addr) (n c : Nat) (zs : List Int) (w : World) (hx : RowIn .u8 w A n c zs) :
    Calls Try.prog 41 #[.slice A n c] w (DrewTT w) := by
  go_enter Try.func41, Try.ntmps41
  go_wp2_with fail
  refine (rd_open _ _ _ _ _ hx).mono ?_
  rintro e w1 ⟨g, rfl, hg, hr1, hb1⟩
  have hs1 := hb1.size
  go_wp2_with fail
  refine (spec_l1String g 12 _ _ hr1 (by omega) (by omega)).mono ?_
  rintro e w2 ⟨t, rfl, ht, hbits, hb2, hr2⟩
  have hs2 := hb2.size
  clear hbits
  go_wp2_with fail
  go_loopw [6] (fun v wr => ∃ (u : ByteArray), v = .string u ∧ u.size ≤ t.size ∧ Bel g w2.heap.size w2 wr ∧ Rdr wr g (0 + 1100 + u.size)) (fun v _ => match v with | .string u => t.size - u.size | _ => 0)
  case atStart => exact ⟨_, rfl, by show 0 ≤ _; omega, Bel.refl _ _ _, hr2.more (by show _ ≤ (0 : Int) + 1100 + ((0 : Nat) : Int); omega)⟩
  case round =>
    obtain ⟨u, rfl, hu, hB1, hr3⟩ := hrel
    have hz1 := hB1.size
    by_cases hi : u.size < t.size
    · go_wp2_with fail
      refine (rd_pick _ _ _ _ hr3 (by omega) (by omega) (by omega)).mono ?_
      rintro e w3 ⟨m, rfl, hm0, hm1, hm2, hb3, hr4⟩
      have hm3 := hm1 (by omega)
      clear hm1 hm2
      obtain ⟨p, rfl⟩ := Int.eq_ofNat_of_zero_le hm0
      go_wp2_with fail
      refine (spec_l9Dec p _ (by omega)).mono ?_
      rintro e w4 ⟨v, rfl, hv, hb4⟩
      have hv1 : v.size = 1 := by rw [str_size hv]; rfl
      go_wp2_with fail
      go_roundw
      case rel => exact ⟨_, rfl, by rw [ByteArray.size_append]; omega, (hB1.trans' hb3 (by omega)).trans' (Bel.of_below hb4) (by have := hb3.size; omega), (hr4.below hb4).more (by rw [ByteArray.size_append]; omega)⟩
      case measure => show t.size - (u ++ v).size < t.size - u.size; rw [ByteArray.size_append]; omega
    · go_wp2_with fail
      refine (spec_l2Bad g t _ _ hr3 (by omega) (by omega)).mono ?_
      rintro e w3 ⟨s, rfl, hs, hb3, hr4⟩
      have hs3 := hb3.size
      go_wp2_with fail
      go_ret2
      exact ⟨s, u, rfl, hs, by omega, hb1.trans ((((hb2.trans' hB1 (by omega)).trans' hb3 (by omega)).mono hs1).to_below hg)⟩
set_option maxHeartbeats 1000000 in
theorem spec_DrawWalshTransform (A : Option Addr) (n c : Nat) (zs : List Int) (w : World) (hx : RowIn .u8 w A n c zs) :
    Calls Try.prog 55 #[.slice A n c] w (DrewS 1000 w) := by
  go_enter Try.func55, Try.ntmps55
  go_wp2_with fail
  refine (rd_open _ _ _ _ _ hx).mono ?_
  rintro e w1 ⟨g, rfl, hg, hr1, hb1⟩
  have hs1 := hb1.size
  have hgl := hr1.lt
  go_wp2_with fail
  refine (rd_pick _ _ _ _ (hr1.alloc _) (by omega) (by omega) (by omega)).mono ?_
  rintro e w2 ⟨m, rfl, hm0, hm1, hm2, hb2, hr2⟩
  have hm3 := hm1 (by omega)
  clear hm1 hm2
  have hs2 := hb2.size
  have ho := own_bel (own_empty w1 3 w1.heap.size (Nat.le_refl _)) hb2 hgl
  have hB : Bel g w1.heap.size w1 w2 := ((Bel.refl g _ w1).alloc (Nat.le_refl _) _).trans' hb2 (by simp)
  have HO := Lib.hid ho
  clear ho hb2
  go_wp2_with fail
  refine (spec_l1Two m _ hm0 (by omega)).mono ?_
  rintro e w' ⟨rfl, rfl⟩
  obtain ⟨N, hN, hN1, hN2⟩ : ∃ N : Nat, two m = N ∧ 1 ≤ N ∧ N ≤ 256 := by
    have h5 := two_pos m
    have h6 := two_8 m (by omega)
    exact ⟨(two m).toNat, by omega, by omega, by omega⟩
  rw [hN]
  go_wp2_with fail
  go_loopw [4, 5] (fun s v wr => ∃ (i : Nat) (A : Option Addr) (n c : Nat) (zs : List Int), v = .int .i64 i ∧ s = .slice A n c ∧ wr.ownsRow w1.heap.size 3 1 (.slice A n c) n (zs.map (Value.int .i64)) ∧ n + i = N ∧ Bel g w1.heap.size w1 wr ∧ Rdr wr g (0 + 1 + N - i)) (fun _ v _ => (intOf v).toNat)
  case atStart => exact ⟨N, _, 0, 0, [], rfl, rfl, HO.out, by omega, hB, hr2.more (by omega)⟩
  case round =>
    obtain ⟨i, A, n, c, zs, rfl, rfl, ho1, hni, hB1, hr3⟩ := hrel
    have hz1 := hB1.size
    have HO1 := Lib.hid ho1
    clear ho1
    by_cases hi : 0 < i
    · go_wp2_with (first | (go_at_call 86; refine (rd_pick _ _ _ _ hr3 (by omega) (by omega) (by omega)).mono ?_; rintro e w3 ⟨m2, rfl, hm20, hm21, hm22, hb3, hr4⟩; have hm23 := hm21 (by omega); clear hm21 hm22) | (at_builtin; refine wpList_append_rd _ rfl _ _ 27 rfl w1.heap.size 3 (.int .i64 0) 8 Try.underlying27 Try.infoI64 rfl (.slice A n c) _ _ rfl ((own_bel HO1.out hb3 hgl).alloc _) _ _ _ [.int .i64 (m2 - 10)] rfl (rd_new _ [.int .i64 (m2 - 10)] _ 1 rfl) (by simp [Value.oneCell']) ?_ (by omega) ?_ ?_; omega; simp; have := hb3.size; omega; intro A' q c' w' hq ho hg; have HQ := Lib.hid hq; have HO2 := Lib.hid ho; have HG := Lib.hid hg; clear hq ho hg))
      go_roundw
      case rel =>
        have hq := HQ.out.out
        have hl : ∀ k, Value.ownBlock (.slice A n c) = some k → w1.heap.size ≤ k := fun k hk => (HO1.out.lt k hk).1
        have hs3 := hb3.size
        exact ⟨i - 1, A', q, c', zs ++ [m2 - 10], by go_num, rfl, by rw [List.map_append]; exact HO2.out, by omega,
          ((hB1.trans' hb3 hz1).alloc (by omega) _).grown HG.out (by simp; omega) hl,
          ((hr4.alloc _).grown HG.out (fun k hk => by have := hl k hk; omega)).more (by omega)⟩
      case measure => simp [intOf]; omega
    · obtain rfl : i = 0 := by omega
      obtain ⟨w3, rfl⟩ : ∃ w3, w3 = wr := ⟨_, rfl⟩
      go_wp2_with fail
      refine (rd_pick _ _ _ _ hr3 (by omega) (by omega) (by omega)).mono ?_
      rintro e w4 ⟨p, rfl, hp0, hp1, hp2, hb4, hr4⟩
      clear hp1 hp2
      have hs4 := hb4.size
      have ho4 := own_bel HO1.out hb4 hgl
      have HO4 := Lib.hid ho4
      have hB4 := hB1.trans' hb4 hz1
      clear ho4
      by_cases c0 : p = 0
      · have d0 : (p == 0) = true := by simp [c0]
        clear c0
        go_wp2_with (at_builtin; refine wpList_append_rd _ rfl _ _ 27 rfl w1.heap.size 3 (.int .i64 0) 8 Try.underlying27 Try.infoI64 rfl (.slice A n c) _ _ rfl (HO4.out.alloc _) _ _ _ [.int .i64 1] rfl (rd_new _ [.int .i64 1] _ 1 rfl) (by simp [Value.oneCell']) ?_ (by omega) ?_ ?_; omega; simp; omega; intro A' q c' w' hq ho hg; have HQ := Lib.hid hq; have HO2 := Lib.hid ho; have HG := Lib.hid hg; clear hq ho hg)
        go_ret
        have hq := HQ.out.out
        have hl : ∀ k, Value.ownBlock (.slice A n c) = some k → w1.heap.size ≤ k := fun k hk => (HO4.out.lt k hk).1
        exact ⟨A', q, c', zs ++ [1], rfl, own_mono (by rw [List.map_append]; exact HO2.out) (by omega), by omega, hb1.trans (((hB4.alloc (by omega) _).grown HG.out (by simp; omega) hl).mono hs1 |>.to_below hg)⟩
      · have d0 : (p == 0) = false := by simp [c0]
        clear c0
        by_cases c1 : p = 1
        · have d1 : (p == 1) = true := by simp [c1]
          clear c1
          go_wp2_with fail
          refine (rd_num_lit g [1000000, 1000001, -9223372036854775808] _ 3 _ w4 hr4 (by omega) rfl rfl (by decide) (by decide)).mono ?_
          rintro e w5 ⟨x, rfl, hx, hb5, hr5⟩
          clear hx
          have hs5 := hb5.size
          have ho5 := own_bel HO4.out hb5 hgl
          have hB5 := hB4.trans' hb5 (by omega)
          obtain ⟨b, rfl, hb0, hb1'⟩ := own_some ho5 (show 0 < n by omega)
          have hlen := (own_rdI ho5).len
          obtain ⟨z, zt, rfl⟩ : ∃ z zt, zs = z :: zt := by
            cases zs with
            | nil => simp at hlen; omega
            | cons z zt => exact ⟨z, zt, rfl⟩
          have hc := ho5.cellAt 0 (by omega)
          have hf := ho5.frozenAt 0
          have HO5 := Lib.hid ho5
          clear ho5
          go_wp2_with fail
          go_ret
          have hst := HO5.out.stored 0 (.int .i64 x)
          exact ⟨_, n, c, x :: zt, rfl, own_mono hst.1 (by omega), by omega, hb1.trans ((((hB5.setCell (.inr hb0) _)).mono hs1).to_below hg)⟩
        · have d1 : (p == 1) = false := by simp [c1]
          clear c1
          go_wp2_with fail
          go_ret
          exact ⟨A, n, c, zs, rfl, own_mono HO4.out (by omega), by omega, hb1.trans ((hB4.mono hs1).to_below hg)⟩

end Go.Proofs.Ythheafenlgdbiaa
