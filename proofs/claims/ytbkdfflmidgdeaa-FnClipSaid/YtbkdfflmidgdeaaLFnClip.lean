/- The walk of the law FnClip. Conditions: as the theorem says. -/
import Derived.Test.YtbkdfflmidgdeaaC4b
import Derived.Test.YtbkdfflmidgdeaaDraw4
namespace Go.Proofs.Ytbkdfflmidgdeaa
open Go.RowKit
set_option linter.unusedSimpArgs false
set_option linter.unusedVariables false

set_option maxRecDepth 100000 in
set_option maxHeartbeats 2000000 in
theorem walk_FnClip (A : Option Addr) (n c : Nat) (zs : List Int) (w : World) (hx : RowIn .u8 w A n c zs) :
    Calls Try.prog 11 #[.slice A n c] w fun e w' => e = .returned (.bool true) ∧ Below w.heap.size w w' := by
  by_cases hbig : 1048576 < n
  · clear hx
    go_enter Try.func11, Try.ntmps11
    go_wp2
    go_ret
    exact ⟨rfl, Below.refl _ _⟩
  replace hbig : n ≤ 1048576 := by omega
  go_enter Try.func11, Try.ntmps11
  go_wp2_with fail
  refine (spec_DrawClipSignal _ _ _ _ _ hx).mono ?_
  rintro e w1 ⟨As, ns, cs, s, m, rfl, ho, hn1, hb1⟩
  have Os1 := Lib.hid ho
  have hs1 := hb1.size
  clear ho hx
  go_wp2_with fail
  refine (impl_ClipSignal _ _ _ _ _ _ (own_rdI Os1.out) (own_cap Os1.out)).mono ?_
  rintro e w2 ⟨Ax, nx, cx, rfl, ho, hb2⟩
  have Ox2 := Lib.hid ho
  have Os2 := Lib.hid (own_below Os1.out hb2)
  have hs2 := hb2.size
  have hB2 := hb1.trans (hb2.mono hs1)
  clear ho
  go_wp2_with fail
  refine (spec_ClipSignal _ _ _ _ _ _ (own_rdI Os2.out) (own_cap Os2.out)).mono ?_
  rintro e w3 ⟨Ar, nr, cr, rfl, ho, hb3⟩
  have Or3 := Lib.hid ho
  have Ox3 := Lib.hid (own_below Ox2.out hb3)
  have Os3 := Lib.hid (own_below Os2.out hb3)
  have hs3 := hb3.size
  have hB3 := hB2.trans (hb3.mono (by omega))
  clear ho hb1 hb2 hb3 hB2
  rcases clipC_cases s m with h | ⟨h1, h2, h3, h⟩
  · rw [h] at Or3 Ox3 ⊢
    go_wp2_with fail
    refine (laws_ssInts _ _ _ _ _ _ _ _ _ (own_rdI Ox3.out) (own_rdI Or3.out) (own_cap Ox3.out)).mono ?_
    rintro e w4 hq
    obtain ⟨rfl, hb4⟩ := retD_below hq
    clear hq
    have Ox4 := Lib.hid (own_below Ox3.out hb4)
    have Or4 := Lib.hid (own_below Or3.out hb4)
    have hs4 := hb4.size
    have hB4 := hB3.trans (hb4.mono (by omega))
    go_wp2_with fail
    refine (laws_ssInts _ _ _ _ _ _ _ _ _ (own_rdI Ox4.out) (own_rdI Or4.out) (own_cap Ox4.out)).mono ?_
    rintro e w5 hq
    obtain ⟨rfl, hb5⟩ := retD_below hq
    clear hq
    go_wp2_with fail
    go_ret
    exact ⟨rfl, hB4.trans (hb5.mono (by omega))⟩
  · rw [h] at Or3 Ox3 ⊢
    go_wp2_with fail
    refine (laws_ssInts _ _ _ _ _ _ _ _ _ (own_rdI Ox3.out) (own_rdI Or3.out) (own_cap Ox3.out)).mono ?_
    rintro e w4 hq
    obtain ⟨rfl, hb4⟩ := retD_below hq
    clear hq
    have Ox4 := Lib.hid (own_below Ox3.out hb4)
    have Os4 := Lib.hid (own_below Os3.out hb4)
    have hs4 := hb4.size
    have hB4 := hB3.trans (hb4.mono (by omega))
    clear hb4
    go_wp2_with fail
    refine (impl_ClipSignal _ _ _ _ _ _ (own_rdI Ox4.out) (own_cap Ox4.out)).mono ?_
    rw [clip_again s m h1 h2 h3]
    rintro e w5 ⟨Aa, na, ca, rfl, ho, hb5⟩
    have Oa5 := Lib.hid ho
    have Ox5 := Lib.hid (own_below Ox4.out hb5)
    have Os5 := Lib.hid (own_below Os4.out hb5)
    have hs5 := hb5.size
    have hB5 := hB4.trans (hb5.mono (by omega))
    clear ho hb5 h hB3 hB4
    have hxs := own_rdI Os5.out
    have hxx := own_rdI Ox5.out
    have ls := hxs.len
    have lx := hxx.len
    rw [List.length_map, ls] at lx
    have LS := Lib.hid ls
    subst lx
    clear ls
    have hnm : -m ≤ 0 := by omega
    go_wp2_with fail
    have hnz : ns ≤ 5000 := hn1
    go_loopw [11] (fun v wr => ∃ k d : Nat, k ≤ ns ∧ v = .int .i64 k ∧ wr = w5.drewN d) (fun v _ => ns - (intOf v).toNat)
    case atStart => exact ⟨0, 0, Nat.zero_le _, rfl, rfl⟩
    case round =>
      obtain ⟨k, d, hk, rfl, rfl⟩ := hrel
      by_cases hlt : k < ns
      · obtain ⟨b, o, x, rfl, hbb, hsx, hcx⟩ := hxs.at hlt
        obtain ⟨b', o', y, rfl, hbb', hsy, hcy⟩ := hxx.at hlt
        have hy : clipI m x = y := by
          have h5 := hsy.out
          rw [List.getElem?_map, hsx.out] at h5
          injection h5
        have e1 : IntKind.i64.wrap (-m) = -m := IntWalk.i64_in _ (by omega)
        have hcs : (-m ≤ x ∧ x ≤ m) ∨ m < x ∨ x < -m := by omega
        rcases hcs with ⟨q1, q2⟩ | q1 | q1
        · rw [clipI_in m x q1 q2] at hy
          subst hy
          have t1 : decide (x ≤ m) = true := by simpa using q2
          have t2 : decide (-m ≤ x) = true := by simpa using q1
          have t3 : (x != x) = false := by simp
          have t4 : decide (m < x) = false := by simp; omega
          have t5 : decide (x < -m) = false := by simp; omega
          go_wp2
          go_quiet (fail)
          clear t1 t2 t3 t4 t5 e1
          go_wp2
          go_roundw
          case rel => exact ⟨k + 1, _, by omega, by go_num, rfl⟩
          case measure => simp [intOf]; omega
        · rw [clipI_hi m x h2 q1] at hy
          have HY := Lib.hid hy
          have t1 : decide (x ≤ m) = false := by simp; omega
          have t3 : (y != m) = false := by rw [hy]; simp
          have t4 : decide (m < x) = true := by simp; omega
          have t5 : decide (x < -m) = false := by simp; omega
          clear hy
          go_wp2
          go_quiet (fail)
          clear t1 t3 t4 t5 e1
          go_wp2
          go_roundw
          case rel => exact ⟨k + 1, _, by omega, by go_num, rfl⟩
          case measure => simp [intOf]; omega
        · rw [clipI_lo m x h2 q1] at hy
          have t1 : decide (x ≤ m) = true := by simp; omega
          have t2 : decide (-m ≤ x) = false := by simp; omega
          have t3 : (y != -m) = false := by rw [← hy]; simp
          have t4 : decide (m < x) = false := by simp; omega
          have t5 : decide (x < -m) = true := by simp; omega
          clear hy
          go_wp2
          go_quiet (fail)
          clear t1 t2 t3 t4 t5 e1
          go_wp2
          go_roundw
          case rel => exact ⟨k + 1, _, by omega, by go_num, rfl⟩
          case measure => simp [intOf]; omega
      · go_wp2_with fail
        refine (laws_ssInts _ _ _ _ _ _ _ _ _ (Rd.below (own_rdI Oa5.out) (below_drewN (Below.refl _ _) d)) (Rd.below (own_rdI Ox5.out) (below_drewN (Below.refl _ _) d)) (own_cap Oa5.out)).mono ?_
        rintro e w6 hq
        obtain ⟨rfl, hb6⟩ := retD_below hq
        clear hq
        go_wp2_with fail
        go_ret
        exact ⟨rfl, (below_drewN hB5 d).trans (hb6.mono (by show w.heap.size ≤ w5.heap.size; omega))⟩

end Go.Proofs.Ytbkdfflmidgdeaa
