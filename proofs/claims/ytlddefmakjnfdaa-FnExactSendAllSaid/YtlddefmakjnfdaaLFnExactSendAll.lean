/- The walk of the law on SendAll. Conditions: as the theorem says. -/
import Derived.Test.YtlddefmakjnfdaaUsr4
import Derived.Test.YtlddefmakjnfdaaUsr5
namespace Go.Proofs.Ytlddefmakjnfdaa
open Go.RowKit
set_option linter.unusedSimpArgs false
set_option linter.unusedVariables false
set_option maxRecDepth 100000

theorem sendC_len (us : List (ByteArray × ByteArray × Int × Int)) : (sendC us).1.length ≤ 3000 := by
  unfold sendC
  split
  · rename_i h
    have hu := users_at us h
    have := (sendL_bd us hu.2 us.length (Nat.le_refl _)).2
    rwa [List.take_of_length_le (Nat.le_refl _)] at this
  · exact Nat.zero_le _
set_option maxHeartbeats 2000000 in
theorem walk_FnExactSendAll (A : Option Addr) (n c : Nat) (us : List (ByteArray × ByteArray × Int × Int)) (w : World) (h0 : RowUs w A n c us) :
    Calls Try.prog 9 #[.slice A n c] w fun e w' => e = .returned (.bool true) ∧ Below w.heap.size w w' := by
  obtain ⟨hx, hnc, hcm, hsz⟩ := h0
  have hlen := sendC_len us
  go_enter Try.func9, Try.ntmps9
  go_wp2_with fail
  refine (laws_szUserS A n c us w hx (Nat.le_trans hnc hcm) hsz).mono ?_
  rintro e w1 ⟨r, rfl, hr, hB1⟩
  have hS1 := hB1.size
  rcases hr with hr | ⟨hr, hn, hs⟩
  · go_wp2_with fail
    go_ret
    exact ⟨rfl, hB1⟩
  · clear hnc hcm hsz
    go_wp2_with fail
    refine (laws_toUserS A n c us w1 (Rd.below hx hB1) hn).mono ?_
    rintro e w2 ⟨Ap, np, cp, rfl, ho, hb⟩
    obtain rfl : n = np := by have := ownU_num ho; have := hx.len; omega
    have Op := Lib.hid ho
    clear ho
    have hB2 := hB1.trans (hb.mono hS1)
    have hS2 := hB2.size
    clear hb
    go_wp2_with fail
    refine (spec_SendAll _ _ _ us w2 (own_rdU Op.out) hn hs).mono ?_
    rintro e w3 ⟨Ar, nr, cr, rfl, ho, hb⟩
    have Or := Lib.hid ho
    have hB3 := hB2.trans (hb.mono hS2)
    have hS3 := hB3.size
    clear hb Op ho
    go_wp2_with fail
    refine (laws_toUserS A n c us w3 (Rd.below hx hB3) hn).mono ?_
    rintro e w4 ⟨Ax, nx, cx, rfl, ho, hb⟩
    obtain rfl : n = nx := by have := ownU_num ho; have := hx.len; omega
    have Ox := Lib.hid ho
    have Cr4 := Lib.hid (own_below Or.out hb)
    clear ho
    have hB4 := hB3.trans (hb.mono hS3)
    have hN4 := hb.size
    have hS4 := hB4.size
    clear hb
    go_wp2_with fail
    refine (impl_SendAll _ _ _ us w4 (own_rdU Ox.out) hn hs).mono ?_
    rintro e w5 ⟨Ag, ng, cg, rfl, ho, hb⟩
    have hng : ng ≤ 3000 := own_num ho hlen
    have Og := Lib.hid ho
    have Cx5 := Lib.hid (own_below Ox.out hb)
    have Cr5 := Lib.hid (own_below Cr4.out hb)
    have hB5 := hB4.trans (hb.mono hS4)
    have hN5 := hb.size
    have hS5 := hB5.size
    clear hb ho Cr4
    go_wp2_with fail
    refine (laws_eqIntS _ _ _ _ _ _ _ _ _ (own_rdI Og.out) (own_rdI Cr5.out) (own_cap Og.out)).mono ?_
    rintro e w6 hq
    obtain ⟨rfl, hb⟩ := retD_below hq
    clear hq
    have Cr6 := Lib.hid (own_below Cr5.out hb)
    have Cx6 := Lib.hid (own_below Cx5.out hb)
    have Cg6 := Lib.hid (own_below Og.out hb)
    have hB6 := hB5.trans (hb.mono hS5)
    have hS6 := hB6.size
    have hS56 := hb.size
    clear hb Cr5 Cx5
    obtain ⟨bb, hbb⟩ : ∃ bb, (sendC us).2 = bb := ⟨_, rfl⟩
    rw [hbb]
    have heq : (bb != bb) = false := by simp
    go_wp2_with fail
    refine (laws_toUserS A n c us w6 (Rd.below hx hB6) hn).mono ?_
    rintro e w7 ⟨Ay, ny, cy, rfl, ho, hb⟩
    have Oy := Lib.hid ho
    have Cr7 := Lib.hid (own_below Cr6.out hb)
    have Cx7 := Lib.hid (own_below Cx6.out hb)
    have Cg7 := Lib.hid (own_below Cg6.out hb)
    have hB7 := hB6.trans (hb.mono hS6)
    have hS7 := hB7.size
    have hS67 := hb.size
    clear hb ho Cr6 Cx6 Cg6
    go_wp2_with fail
    refine (laws_eqUserS _ _ _ _ _ _ us us w7 (own_rdU Cx7.out) (own_rdU Oy.out) hn).mono ?_
    rintro e w8 ⟨rfl, hb⟩
    have Cr8 := Lib.hid (own_below Cr7.out hb)
    have Cx8 := Lib.hid (own_below Cx7.out hb)
    have Cg8 := Lib.hid (own_below Cg7.out hb)
    have hB8 := hB7.trans (hb.mono hS7)
    have hS8 := hB8.size
    have hS78 := hb.size
    clear hb Cr7 Cx7 Cg7 Oy
    go_wp2_with fail
    refine (laws_markUserS _ _ _ _ _ w8 Cx8.out hn).mono ?_
    rintro e w9 ⟨rfl, hg⟩
    have Cr9 := Lib.hid (World.ownsRow.kept Cr8.out hg (own_diff Cr8.out Cx8.out (by decide)))
    have Cg9 := Lib.hid (World.ownsRow.kept Cg8.out hg (own_diff Cg8.out Cx8.out (by decide)))
    have hb := own_below_of Cx8.out hg (by omega)
    have hB9 : Below w.heap.size w w9 := hB8.trans (hb.mono (by omega))
    have hS9 := hB9.size
    have hS89 := hb.size
    clear hb hg Cr8 Cx8 Cg8
    go_wp2_with fail
    refine (laws_eqIntS _ _ _ _ _ _ _ _ _ (own_rdI Cg9.out) (own_rdI Cr9.out) (own_cap Cg9.out)).mono ?_
    rintro e w10 hq
    obtain ⟨rfl, hb⟩ := retD_below hq
    clear hq
    have Cr10 := Lib.hid (own_below Cr9.out hb)
    have Cg10 := Lib.hid (own_below Cg9.out hb)
    have hB10 := hB9.trans (hb.mono hS9)
    have hS10 := hB10.size
    have hS910 := hb.size
    clear hb Cr9 Cg9
    go_wp2_with fail
    refine (laws_markIntS _ _ _ _ _ _ _ Cg10.out (by omega) (by omega) (by omega)).mono ?_
    rintro e w11 ⟨rfl, ho, hg⟩
    have Cr11 := Lib.hid (World.ownsRow.kept Cr10.out hg (own_apart' Or.out Cg10.out (by omega)))
    have hb := own_below_of Cg10.out hg (by omega)
    have hB11 : Below w.heap.size w w11 := hB10.trans (hb.mono (by omega))
    have hS11 := hB11.size
    have Cg11 := Lib.hid ho
    clear hb hg ho Cr10 Cg10
    go_wp2_with fail
    refine (laws_heldIntS _ _ _ _ _ (own_rdI Cg11.out) (by omega) (by omega) (by omega)).mono ?_
    rintro e w' ⟨rfl, rfl⟩
    go_wp2_with fail
    refine (laws_toUserS A n c us w11 (Rd.below hx hB11) hn).mono ?_
    rintro e w12 ⟨Az, nz, cz, rfl, ho, hb⟩
    obtain rfl : n = nz := by have := ownU_num ho; have := hx.len; omega
    have Oz := Lib.hid ho
    have Cr12 := Lib.hid (own_below Cr11.out hb)
    have Cg12 := Lib.hid (own_below Cg11.out hb)
    have hB12 := hB11.trans (hb.mono hS11)
    have hS12 := hB12.size
    clear hb ho Cr11 Cg11
    go_wp2_with fail
    refine (impl_SendAll _ _ _ us w12 (own_rdU Oz.out) hn hs).mono ?_
    rintro e w13 ⟨Ah, nh, ch, rfl, ho, hb⟩
    have Oh := Lib.hid ho
    have Cr13 := Lib.hid (own_below Cr12.out hb)
    have Cg13 := Lib.hid (own_below Cg12.out hb)
    have hB13 := hB12.trans (hb.mono hS12)
    have hS13 := hB13.size
    clear hb ho Cr12 Cg12
    go_wp2_with fail
    refine (laws_eqIntS _ _ _ _ _ _ _ _ _ (own_rdI Oh.out) (own_rdI Cr13.out) (own_cap Oh.out)).mono ?_
    rintro e w14 hq
    obtain ⟨rfl, hb⟩ := retD_below hq
    clear hq
    have Cg14 := Lib.hid (own_below Cg13.out hb)
    have hB14 := hB13.trans (hb.mono hS13)
    clear hb Cg13
    go_wp2_with fail
    refine (laws_heldIntS _ _ _ _ _ (own_rdI Cg14.out) (by omega) (by omega) (by omega)).mono ?_
    rintro e w' ⟨rfl, rfl⟩
    go_wp2_with fail
    go_ret
    exact ⟨rfl, hB14⟩

end Go.Proofs.Ytlddefmakjnfdaa
