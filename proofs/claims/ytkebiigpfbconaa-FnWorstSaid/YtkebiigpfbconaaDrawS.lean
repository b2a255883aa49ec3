/- Draws of texts. Conditions: as each theorem says. -/
import Derived.Test.YtkebiigpfbconaaDraw4b
import Derived.Test.YtkebiigpfbconaaStr
import Derived.Test.YtkebiigpfbconaaC5
namespace Go.Proofs.Ytkebiigpfbconaa
open Go.RowKit
set_option linter.unusedSimpArgs false
set_option linter.unusedVariables false

/-- A text was drawn. -/
def DrawnT (g : Nat) (K : Int) (M : Nat) (w : World) (e : Ending) (w' : World) : Prop :=
  ∃ t : ByteArray, e = .returned (.string t) ∧ t.size ≤ M ∧ Bel g w.heap.size w w' ∧ Rdr w' g K
/-- Bits were drawn. -/
def DrawnB (g : Nat) (K : Int) (M : Nat) (w : World) (e : Ending) (w' : World) : Prop :=
  ∃ t : ByteArray, e = .returned (.string t) ∧ t.size ≤ M ∧ t.data.toList.all isBit = true ∧ Bel g w.heap.size w w' ∧ Rdr w' g K
theorem run_make_cap {P : Program} (t e : TypeId) (z : Value) (bytes : Nat) (ht : P.underlying t = some (.slice e)) (hinfo : (P.info? e).map (fun i => (i.zero, i.size, i.bytes)) = some (some z, 1, bytes)) (hz1 : z.cells = #[z])
    (kl kc : IntKind) (n : Nat) (hbytes : bytes * n ≤ 281474976710656) (h63 : n ≤ 9223372036854775807) (w : World) :
    (Instr.makeSlice t (.int kl 0) (.int kc (n : Int))).run P w = .ok (.slice (some ⟨w.heap.size, 0, none⟩) 0 n) (w.alloc (.cells (madeCells #[z] n) e)) := by
  obtain ⟨i, hi, hzz⟩ := Option.map_eq_some_iff.1 hinfo
  simp only [Prod.mk.injEq] at hzz
  obtain ⟨hz, hs, hb⟩ := hzz
  have hb' : (i.bytes : Int) * (n : Int) ≤ 281474976710656 := by
    rw [hb]
    have h : ((bytes * n : Nat) : Int) ≤ 281474976710656 := by omega
    rwa [Int.natCast_mul] at h
  have hr := run_make (P := P) w t e i z ht hi hz kl kc 0 n (by omega) (by omega) hb' (by omega)
  simp only [Int.toNat_natCast, hs, Nat.mul_one, hz1, Int.toNat_zero] at hr
  exact hr
theorem own_cap0 (w : World) (z : Value) (n e : Nat) (h : n ≤ maxLen) : (w.alloc (.cells (madeCells #[z] n) e)).ownsRow w.heap.size e 1 (.slice (some ⟨w.heap.size, 0, none⟩) 0 n) 0 [] :=
  World.ownsRow_made w _ n (Nat.le_refl _) h (by rw [size_madeCells]; simp)
theorem bytes_app (l : List UInt8) (c : UInt8) : bytes l ++ [Value.int .u8 (c.toNat : Int)] = bytes (l ++ [c]) := by simp [bytes]
set_option maxHeartbeats 1000000 in
theorem spec_l1String (g most : Nat) (K : Int) (w : World) (h : Rdr w g K) (hK : K ≤ 1000000000) (h1 : most ≤ 1000) :
    Calls Try.prog 82 #[.pointer (some ⟨g, 0, none⟩), .int .i64 most] w (DrawnB g (K + 1100) most w) := by
  have hgl := h.lt
  have hmk := run_make_cap (P := Try.prog) 22 5 (.int .u8 0) 1 Try.underlying22 Try.infoU8 rfl .i64 .i64 most (by omega) (by omega)
  go_enter Try.func82, Try.ntmps82
  go_wp2_with fail
  clear hmk
  refine (rd_pick _ _ _ _ (h.alloc _) (by omega) (by omega) (by omega)).mono ?_
  rintro e w1 ⟨m, rfl, hm0, hm1, hm2, hb, hr⟩
  have hm3 := hm1 (by omega)
  have ho := own_bel (own_cap0 w (.int .u8 0) most 5 (by unfold maxLen; omega)) hb hgl
  have hB : Bel g w.heap.size w w1 := ((Bel.refl g _ w).alloc (Nat.le_refl _) _).trans' hb (by simp)
  have HO := Lib.hid ho
  clear ho hm1 hm2 hb h
  go_wp2_with fail
  go_loopw [5, 6] (fun s v wr => ∃ (i : Nat) (A : Option Addr) (n c : Nat) (l : List UInt8), v = .int .i64 i ∧ s = .slice A n c ∧ wr.ownsRow w.heap.size 5 1 (.slice A n c) n (bytes l) ∧ n + i ≤ most ∧ Hid (l.all isBit = true) ∧ Bel g w.heap.size w wr ∧ Rdr wr g (K + 1100 - i)) (fun _ v _ => (intOf v).toNat)
  case atStart =>
    obtain ⟨i, rfl⟩ := Int.eq_ofNat_of_zero_le hm0
    exact ⟨i, _, 0, _, [], rfl, rfl, HO.out, by omega, rfl, hB, hr.more (by omega)⟩
  case round =>
    obtain ⟨i, A, n, c, l, rfl, rfl, ho1, hni, hbits, hB1, hr1⟩ := hrel
    have hz1 := hB1.size
    have HO1 := Lib.hid ho1
    clear ho1
    by_cases hi : 0 < i
    · go_wp2_with (first | (go_at_call 43; refine (rd_pick _ _ _ _ hr1 (by omega) (by omega) (by omega)).mono ?_; rintro e w2 ⟨m2, rfl, hm20, hm21, hm22, hb2, hr2⟩; have hm23 := hm21 (by omega); clear hm21 hm22) | (at_builtin; refine wpList_append_rd _ rfl _ _ 22 rfl w.heap.size 5 (.int .u8 0) 1 Try.underlying22 Try.infoU8 rfl (.slice A n c) _ _ rfl ((own_bel HO1.out hb2 hgl).alloc _) _ _ _ [.int .u8 (48 + m2)] rfl (rd_new _ [.int .u8 (48 + m2)] _ 1 rfl) (by simp [Value.oneCell']) ?_ (by omega) ?_ ?_; omega; simp; have := hb2.size; omega; intro A' q c' w' hq ho hg; have HQ := Lib.hid hq; have HO2 := Lib.hid ho; have HG := Lib.hid hg; clear hq ho hg))
      go_roundw
      case rel =>
        have hq := HQ.out.out
        have hl : ∀ k, Value.ownBlock (.slice A n c) = some k → w.heap.size ≤ k := fun k hk => (HO1.out.lt k hk).1
        have hs2 := hb2.size
        obtain ⟨p, rfl⟩ := Int.eq_ofNat_of_zero_le hm20
        have hcp : (48 : Int) + (p : Int) = ((bitC p).toNat : Int) := by
          rcases (show p = 0 ∨ p = 1 by omega) with rfl | rfl <;> rfl
        have h5 := HO2.out
        rw [hcp, bytes_app] at h5
        exact ⟨i - 1, A', q, c', l ++ [bitC p], by go_num, rfl, h5, by omega, by show List.all _ _ = true; rw [List.all_append, hbits.out]; simp [bitC_bit],
          ((hB1.trans' hb2 hz1).alloc (by omega) _).grown HG.out (by simp; omega) hl,
          ((hr2.alloc _).grown HG.out (fun k hk => by have := hl k hk; omega)).more (by omega)⟩
      case measure => simp [intOf]; omega
    · obtain rfl : i = 0 := by omega
      have hcv := own_string (P := Try.prog) (src := 22) (dst := 9) _ Try.underlying22 Try.underlying5 Try.underlying9 HO1.out
      have hlen : l.length = n := by have := HO1.out.1; rw [bytes_len] at this; omega
      go_wp2
      go_ret
      exact ⟨_, rfl, by rw [str_size (l := l) rfl, hlen]; omega, hbits.out, hB1, hr1.more (by omega)⟩
def OneOfS (g : Nat) (ss : List ByteArray) (K : Int) (w : World) (e : Ending) (w' : World) : Prop :=
  ∃ x : ByteArray, e = .returned (.string x) ∧ x ∈ ss ∧ Bel g w.heap.size w w' ∧ Rdr w' g (K + 1)
set_option maxHeartbeats 400000 in
theorem rd_of (g B : Nat) (A : Option Addr) (n c : Nat) (ss : List ByteArray) (K : Int) (w : World) (h : Rdr w g K) (hK : K ≤ 1099511627776) (ho : w.ownsRow B 9 1 (.slice A n c) n (ss.map Value.string)) (hB : g < B) (hn : 1 ≤ n) (hn2 : n ≤ 1048576) :
    Calls Try.prog 98 #[.pointer (some ⟨g, 0, none⟩), .slice A n c] w (OneOfS g ss K w) := by
  have HO := Lib.hid ho
  clear ho
  go_enter Try.func98, Try.ntmps98
  go_wp2_with fail
  refine (rd_pick _ _ _ _ h hK (by omega) (by omega)).mono ?_
  rintro e w1 ⟨m, rfl, hm0, hm1, hm2, hb, hr⟩
  obtain ⟨j, rfl⟩ := Int.eq_ofNat_of_zero_le hm0
  have hj : j < n := by have := hm1 (by omega); omega
  have ho1 := own_bel HO.out hb hB
  obtain ⟨b, o, x, rfl, hbb, hxx, hcx⟩ := RdS.at (own_rdS ho1) hj
  clear hm1 hm2 ho1
  go_wp2_with fail
  go_ret
  exact ⟨x, rfl, List.mem_of_getElem? hxx.out, hb, hr⟩
theorem rd_of_lit (g : Nat) (L : List ByteArray) (cs : Array Value) (n : Nat) (K : Int) (w : World) (h : Rdr w g K) (hK : K ≤ 1099511627776) (hcs : cs = (L.map Value.string).toArray) (hn : L.length = n) (h1 : 1 ≤ n) (h2 : n ≤ 1048576) :
    Calls Try.prog 98 #[.pointer (some ⟨g, 0, none⟩), .slice (some ⟨w.heap.size, 0, none⟩) n n] (w.alloc (.cells cs 9)) (OneOfS g L K w) := by
  subst hcs
  have ho := own_lit w 9 n (L.map Value.string) (by rw [List.length_map]; exact hn) (by unfold maxLen; omega)
  refine (rd_of g w.heap.size _ n n L K _ (h.alloc _) hK ho h.lt h1 h2).mono ?_
  rintro e w' ⟨x, he, hx, hb, hr⟩
  exact ⟨x, he, hx, ((Bel.refl g _ w).alloc (Nat.le_refl _) _).trans' hb (by simp), hr⟩
set_option maxHeartbeats 1000000 in
theorem spec_l2Bad (g : Nat) (s : ByteArray) (K : Int) (w : World) (h : Rdr w g K) (hK : K ≤ 1000000000) (hs : s.size ≤ 4000) :
    Calls Try.prog 77 #[.pointer (some ⟨g, 0, none⟩), .string s] w (DrawnT g (K + 2) 5000 w) := by
  go_enter Try.func77, Try.ntmps77
  go_wp2_with fail
  refine (rd_pick _ _ _ _ h (by omega) (by omega) (by omega)).mono ?_
  rintro e w1 ⟨m, rfl, hm0, hm1, hm2, hb, hr⟩
  clear hm1 hm2
  have hs1 := hb.size
  by_cases c0 : m = 0
  · have d0 : (m == 0) = true := by simp [c0]
    clear c0
    go_wp2_with fail
    refine (rd_of_lit g [⟨#[50]⟩, ⟨#[120]⟩, ⟨#[32]⟩] _ 3 _ w1 hr (by omega) rfl rfl (by decide) (by decide)).mono ?_
    rintro e w2 ⟨x, rfl, hx, hb2, hr2⟩
    have hxs : x.size = 1 := by
      simp only [List.mem_cons, List.not_mem_nil, or_false] at hx
      rcases hx with rfl | rfl | rfl <;> rfl
    clear hx
    go_wp2_with fail
    go_ret
    exact ⟨_, rfl, by rw [ByteArray.size_append]; omega, hb.trans' hb2 (by omega), hr2.more (by omega)⟩
  · have d0 : (m == 0) = false := by simp [c0]
    clear c0
    by_cases c1 : m = 1
    · have d1 : (m == 1) = true := by simp [c1]
      clear c1
      go_wp2_with fail
      go_ret
      exact ⟨_, rfl, by show 0 ≤ 5000; omega, hb, hr.more (by omega)⟩
    · have d1 : (m == 1) = false := by simp [c1]
      clear c1
      by_cases c2 : m = 2
      · have d2 : (m == 2) = true := by simp [c2]
        clear c2
        go_wp2_with fail
        refine (rd_num_lit g [255, 256] _ 2 _ w1 hr (by omega) rfl rfl (by decide) (by decide)).mono ?_
        rintro e w2 ⟨x, rfl, hx, hb2, hr2⟩
        obtain ⟨q, rfl, hq⟩ : ∃ q : Nat, x = q ∧ q ≤ 256 := by
          simp only [List.mem_cons, List.not_mem_nil, or_false] at hx
          rcases hx with rfl | rfl
          · exact ⟨255, rfl, by omega⟩
          · exact ⟨256, rfl, by omega⟩
        clear hx
        go_wp2_with fail
        refine (spec_l9Many _ [49] q _ rfl (by decide) (by omega)).mono ?_
        rintro e w3 ⟨t, rfl, ht, rfl⟩
        have hts : t.size = q := by rw [str_size ht, flat_len]; simp
        clear ht
        go_wp2_with fail
        go_ret
        exact ⟨_, rfl, by omega, hb.trans' hb2 (by omega), hr2.more (by omega)⟩
      · have d2 : (m == 2) = false := by simp [c2]
        clear c2
        go_wp2_with fail
        go_ret
        exact ⟨_, rfl, by omega, hb, hr.more (by omega)⟩
def DrewT (w : World) (e : Ending) (w' : World) : Prop := ∃ t : ByteArray, e = .returned (.string t) ∧ t.size ≤ 5000 ∧ Below w.heap.size w w'
/-- A signal was drawn. -/
def DrewS (M : Nat) (w : World) (e : Ending) (w' : World) : Prop :=
  ∃ (A : Option Addr) (n c : Nat) (zs : List Int), e = .returned (.slice A n c) ∧ w'.ownsRow w.heap.size 3 1 (.slice A n c) n (zs.map (Value.int .i64)) ∧ n ≤ M ∧ Below w.heap.size w w'
def DrewTT (w : World) (e : Ending) (w' : World) : Prop := ∃ t u : ByteArray, e = .returned (.tuple #[.string t, .string u]) ∧ t.size ≤ 5000 ∧ u.size ≤ 5000 ∧ Below w.heap.size w w'

end Go.Proofs.Ytkebiigpfbconaa
