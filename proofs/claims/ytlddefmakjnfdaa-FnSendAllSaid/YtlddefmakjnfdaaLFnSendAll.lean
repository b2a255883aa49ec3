/- The walk of the law FnSendAll. Conditions: as the theorem says. -/
import Derived.Test.YtlddefmakjnfdaaPureQ
import Derived.Test.YtlddefmakjnfdaaDrawU3
import Derived.Test.YtlddefmakjnfdaaC8
import Derived.Test.YtlddefmakjnfdaaC4b
namespace Go.Proofs.Ytlddefmakjnfdaa
open Go.RowKit
set_option linter.unusedSimpArgs false
set_option linter.unusedVariables false
set_option maxRecDepth 100000

theorem sendL_lenA (us : List (ByteArray × ByteArray × Int × Int)) (h : usersB us = true) : (sendL us).length ≤ 3000 := by
  have hu := users_at us h
  have := (sendL_bd us hu.2 us.length (Nat.le_refl _)).2
  rwa [List.take_of_length_le (Nat.le_refl _)] at this
set_option maxHeartbeats 4000000 in
theorem walk_FnSendAll (A : Option Addr) (n c : Nat) (zs : List Int) (w : World) (hx : RowIn .u8 w A n c zs) :
    Calls Try.prog 11 #[.slice A n c] w fun e w' => e = .returned (.bool true) ∧ Below w.heap.size w w' := by
  by_cases hbig_n : 1048576 < n
  · clear hx
    go_enter Try.func11, Try.ntmps11
    go_wp2
    go_ret
    exact ⟨rfl, Below.refl _ _⟩
  replace hbig_n : n ≤ 1048576 := by omega
  go_enter Try.func11, Try.ntmps11
  go_wp2_with fail
  refine (spec_DrawSendAll _ _ _ _ _ hx).mono ?_
  rintro e w1 ⟨Al, m, cl, us, rfl, ho, hm9, hsz, hB1⟩
  have hS1 := hB1.size
  have hml : us.length = m := ownU_num ho
  have HS := Lib.hid (show ∀ u ∈ us, u.1.size ≤ 1048576 ∧ u.2.1.size ≤ 1048576 from fun u hu => by have := hsz u hu; omega)
  have OL := Lib.hid ho
  have HML := Lib.hid hml
  clear hx hsz ho hml
  cases hub : usersB us
  · go_wp2_with fail
    refine (impl_SendAll _ m cl us w1 (own_rdU OL.out) (by omega) HS.out).mono ?_
    rw [send_no us hub]
    rintro e w2 ⟨As, q, cs, rfl, ho, hb⟩
    have OS := Lib.hid ho
    have CL := Lib.hid (own_below OL.out hb)
    have hB2 := hB1.trans (hb.mono hB1.size)
    clear ho hb
    go_wp2_with fail
    refine (spec_SendAll _ m cl us w2 (own_rdU CL.out) (by omega) HS.out).mono ?_
    rw [send_no us hub]
    rintro e w3 ⟨Aw, q', cw, rfl, ho, hb⟩
    have OW := Lib.hid ho
    have CS := Lib.hid (own_below OS.out hb)
    have hB3 := hB2.trans (hb.mono hB2.size)
    clear ho hb OS
    go_wp2_with fail
    refine (laws_ssInts _ _ _ _ _ _ _ _ _ (own_rdI CS.out) (own_rdI OW.out) (own_cap CS.out)).mono ?_
    rintro e w4 hq
    obtain ⟨rfl, hb⟩ := retD_below hq
    clear hq
    have CS4 := Lib.hid (own_below CS.out hb)
    have CW4 := Lib.hid (own_below OW.out hb)
    have hB4 := hB3.trans (hb.mono hB3.size)
    clear hb CS OW
    go_wp2_with fail
    refine (laws_ssInts _ _ _ _ _ _ _ _ _ (own_rdI CS4.out) (own_rdI CW4.out) (own_cap CS4.out)).mono ?_
    rintro e w5 hq
    obtain ⟨rfl, hb⟩ := retD_below hq
    clear hq
    have hB5 := hB4.trans (hb.mono hB4.size)
    go_wp2_with fail
    go_ret
    exact ⟨rfl, hB5⟩
  · have hub' := users_rev us hub
    have hlenS := sendL_lenA us hub
    have huA := users_at us hub
    have HUB := Lib.hid hub
    have HUB' := Lib.hid hub'
    have HU := Lib.hid huA.2
    have hm8 : m ≤ 8 := by have := huA.1; have := HML.out; omega
    clear hub' huA
    go_wp2_with fail
    refine (impl_SendAll _ m cl us w1 (own_rdU OL.out) (by omega) HS.out).mono ?_
    rw [send_yes us hub]
    rintro e w2 ⟨As, q, cs, rfl, ho, hb⟩
    have hq3 : q ≤ 3000 := own_num ho hlenS
    have OS := Lib.hid ho
    have CL := Lib.hid (own_below OL.out hb)
    have hB2 := hB1.trans (hb.mono hB1.size)
    clear ho hb OL
    go_wp2_with fail
    refine (spec_SendAll _ m cl us w2 (own_rdU CL.out) (by omega) HS.out).mono ?_
    rw [send_yes us hub]
    rintro e w3 ⟨Aw, q', cw, rfl, ho, hb⟩
    have OW := Lib.hid ho
    have CS := Lib.hid (own_below OS.out hb)
    have CL3 := Lib.hid (own_below CL.out hb)
    have hB3 := hB2.trans (hb.mono hB2.size)
    clear ho hb OS CL hub hlenS
    go_wp2_with fail
    refine (laws_ssInts _ _ _ _ _ _ _ _ _ (own_rdI CS.out) (own_rdI OW.out) (own_cap CS.out)).mono ?_
    rintro e w4 hq
    obtain ⟨rfl, hb⟩ := retD_below hq
    clear hq
    have CS4 := Lib.hid (own_below CS.out hb)
    have CL4 := Lib.hid (own_below CL3.out hb)
    have hB4 := hB3.trans (hb.mono hB3.size)
    have HB4 := Lib.hid hB4
    have hz4 := hB4.size
    clear hb CS OW CL3 hB4 hB3 hB2
    go_wp2_with fail
    go_loopw [8, 9, 10] (fun t' s' v wr => ∃ (k c8 q9 c9 : Nat) (A8 A9 : Option Addr), t' = .slice A8 k c8 ∧ s' = .slice A9 q9 c9 ∧ v = .int .i64 ((m : Int) - 1 - (k : Int)) ∧ wr.ownsRow w4.heap.size 55 4 (.slice A8 k c8) k (ucells (us.reverse.take k)) ∧ wr.ownsRow w4.heap.size 3 1 (.slice A9 q9 c9) q9 ((sendL (us.reverse.take k)).map (Value.int .i64)) ∧ k ≤ m ∧ Below w4.heap.size w4 wr) (fun _ _ v _ => (intOf v + 1).toNat)
    case atStart =>
      have h9 := own_empty (w4.alloc (.cells #[] 55)) 3 w4.heap.size (by simp)
      rw [show (w4.alloc (.cells #[] 55)).heap.size = w4.heap.size + 1 by simp] at h9
      exact ⟨0, 0, 0, 0, _, _, rfl, rfl, by simp, (own_emptyU w4 55 w4.heap.size 4 (Nat.le_refl _)).alloc _, h9, Nat.zero_le _, ((Below.refl _ w4).alloc (Nat.le_refl _) _).alloc (by simp) _⟩
    case round =>
      obtain ⟨k, c8, q9, c9, A8, A9, rfl, rfl, rfl, ho8, ho9, hk, hb⟩ := hrel
      have hz := hb.size
      by_cases hlt : k < m
      · obtain ⟨j, hj⟩ : ∃ j : Nat, (m : Int) - 1 - (k : Int) = j := ⟨m - 1 - k, by omega⟩
        have hjm : j < m := by omega
        have hjk : j = m - 1 - k := by omega
        obtain ⟨b, o, x1, x2, x3, x4, rfl, hgl, hxx, hc1, hc2, hc3, hc4⟩ := (own_rdU CL4.out).at hjm
        have hrx : us.reverse[k]? = some (x1, x2, x3, x4) := rev_at us k (by rw [HML.out]; exact hlt) _ (by rw [HML.out, ← hjk]; exact hxx.out)
        have hux := HU.out _ (List.mem_of_getElem? hxx.out)
        have hst := take_add us.reverse k _ hrx
        have HST := Lib.hid hst
        have HADD := Lib.hid (add_yes us.reverse HUB'.out k _ hrx)
        have HUX := Lib.hid hux
        have hxb := user_bd x1 x2 x3 x4 hux
        have hx1 : x1.size ≤ 255 := hxb.2.2.2.1
        have hx2 : x2.size ≤ 600 := hxb.2.2.2.2.2.1
        have h9 : q9 ≤ 3000 := own_num ho9 (sendL_bd us.reverse (users_at _ HUB'.out).2 k (by rw [List.length_reverse, HML.out]; omega)).2
        have hcw : ∀ W, Below w4.heap.size w4 W → W.cell? ⟨b, o + j * 4, none⟩ = some (.string x1) ∧ W.cell? ⟨b, o + j * 4 + 1, none⟩ = some (.string x2) ∧ W.cell? ⟨b, o + j * 4 + 2, none⟩ = some (.int .i64 x3) ∧ W.cell? ⟨b, o + j * 4 + 3, none⟩ = some (.int .i64 x4) := fun W h =>
          ⟨(h.cell (p := ⟨b, _, none⟩) hgl).trans hc1, (h.cell (p := ⟨b, _, none⟩) hgl).trans hc2, (h.cell (p := ⟨b, _, none⟩) hgl).trans hc3, (h.cell (p := ⟨b, _, none⟩) hgl).trans hc4⟩
        have HCW := Lib.hid hcw
        obtain ⟨e1, e2, e3, e4⟩ := hcw wr hb
        clear hcw hc1 hc2 hc3 hc4 hrx hux hst hxb
        have hj0 : (0 : Int) ≤ (j : Int) := by omega
        have hj1 : (j : Int) < (m : Int) := by omega
        have hl8 : ∀ q, Value.ownBlock (.slice A8 k c8) = some q → w4.heap.size ≤ q := fun q hq => (ho8.lt q hq).1
        have HL8 := Lib.hid hl8
        have hdf := own_diff ho9 ho8 (by decide)
        have HO8 := Lib.hid ho8
        have HO9 := Lib.hid ho9
        have HDF := Lib.hid hdf
        have HB := Lib.hid hb
        have HJ := Lib.hid hj
        rw [hj]
        clear ho8 ho9 hdf hl8 hb hj hjk
        obtain ⟨wo, rfl⟩ : ∃ wo, wo = wr := ⟨_, rfl⟩
        go_wp2_with (at_builtin; (refine wpList_append_rdN _ rfl _ _ 42 rfl w4.heap.size 55 4 (.agg #[.string ⟨#[]⟩, .string ⟨#[]⟩, .int .i64 0, .int .i64 0]) 48 Try.underlying42 Try.infoUser rfl (by decide) (.slice A8 k c8) k _ rfl (HO8.out.alloc _) _ _ _ [.string x1, .string x2, .int .i64 x3, .int .i64 x4] rfl (rd_newN _ [.string x1, .string x2, .int .i64 x3, .int .i64 x4] _ 1 4 rfl) (by decide) (by simp [Value.oneCell']) ?_ (by omega) ?_ ?_); omega; simp; omega; intro Ag qg cg wg hqg hog hgg; (have HQ := Lib.hid hqg; have HG8 := Lib.hid hog; have HG9 := Lib.hid (World.ownsRow.kept (HO9.out.alloc _) hgg HDF.out); have HBG := Lib.hid ((HB.out.alloc hz _).grown hgg (by simp; omega) HL8.out); clear hqg hog hgg; obtain ⟨f1, f2, f3, f4⟩ := HCW.out wg HBG.out; clear e1 e2 e3 e4))
        have hqk : qg = k + 1 := HQ.out.out
        subst hqk
        have HBG2 := Lib.hid (HBG.out.alloc HBG.out.size (.cells #[.string x1, .string x2, .int .i64 x3, .int .i64 x4] 55))
        have ho2 := own_lit wg 55 4 [.string x1, .string x2, .int .i64 x3, .int .i64 x4] rfl (by decide)
        replace ho2 : (wg.alloc (.cells #[.string x1, .string x2, .int .i64 x3, .int .i64 x4] 55)).ownsRow wg.heap.size 55 1 (.slice (some ⟨wg.heap.size, 0, none⟩) 4 4) 4 [.string x1, .string x2, .int .i64 x3, .int .i64 x4] := ho2
        have H8 := Lib.hid (HG8.out.alloc (.cells #[.string x1, .string x2, .int .i64 x3, .int .i64 x4] 55))
        have H9 := Lib.hid (HG9.out.alloc (.cells #[.string x1, .string x2, .int .i64 x3, .int .i64 x4] 55))
        clear HG8 HG9 HBG HCW f1 f2 f3 f4 HO8 HO9 HDF HB HL8 HQ
        generalize wg.alloc (.cells #[.string x1, .string x2, .int .i64 x3, .int .i64 x4] 55) = wn at *
        have hcn : ∀ W, Below wn.heap.size wn W → W.cell? ⟨wg.heap.size, 0, none⟩ = some (.string x1) ∧ W.cell? ⟨wg.heap.size, 1, none⟩ = some (.string x2) ∧ W.cell? ⟨wg.heap.size, 2, none⟩ = some (.int .i64 x3) ∧ W.cell? ⟨wg.heap.size, 3, none⟩ = some (.int .i64 x4) := fun W h =>
          have h2 := own_below ho2 h
          ⟨h2.cellAt 0 (by omega), h2.cellAt 1 (by omega), h2.cellAt 2 (by omega), h2.cellAt 3 (by omega)⟩
        have HCN := Lib.hid hcn
        have hzn := HBG2.out.size
        obtain ⟨g1, g2, g3, g4⟩ := hcn wn (Below.refl _ _)
        clear hcn ho2
        refine (impl_SpreadBits x2 x1 wn (by omega) (by omega)).mono ?_
        rw [spread_yes _ _ _ _ HUX.out]
        rintro e wa ⟨Aa, na, ca, rfl, ho, hba⟩
        have OA := Lib.hid ho
        obtain ⟨i1, i2, i3, i4⟩ := HCN.out wa hba
        clear ho g1 g2 g3 g4
        go_wp2_with fail
        refine (impl_ScaleSignal _ _ _ _ x3 wa (own_rdI OA.out) (own_cap OA.out)).mono ?_
        rw [scale_yes _ _ _ _ HUX.out]
        rintro e wb ⟨Ab, nb, cb, rfl, ho, hbb⟩
        have OB := Lib.hid ho
        have hnb := hba.trans (hbb.mono hba.size)
        obtain ⟨g1, g2, g3, g4⟩ := HCN.out wb hnb
        clear ho i1 i2 i3 i4 OA hba hbb
        go_wp2_with fail
        refine (impl_DelaySignal _ _ _ _ x4 wb (own_rdI OB.out) (own_cap OB.out)).mono ?_
        rw [delay_yes _ _ _ _ HUX.out]
        rintro e wc ⟨Ac, nc, cc, rfl, ho, hbc⟩
        have OC := Lib.hid ho
        have hnc := hnb.trans (hbc.mono hnb.size)
        have C9 := Lib.hid (own_below H9.out hnc)
        obtain ⟨i1, i2, i3, i4⟩ := HCN.out wc hnc
        clear ho g1 g2 g3 g4 OB hnb hbc
        go_wp2_with fail
        refine (impl_AddSignals _ _ _ _ _ _ _ _ wc (own_rdI C9.out) (own_cap C9.out) (own_rdI OC.out) (own_cap OC.out)).mono ?_
        rw [HADD.out]
        rintro e wd ⟨Ad, nd, cd, rfl, ho, hbd⟩
        have OD := Lib.hid (own_mono ho (show w4.heap.size ≤ wc.heap.size from Nat.le_trans hzn hnc.size))
        have hnd := hnc.trans (hbd.mono hnc.size)
        obtain ⟨g1, g2, g3, g4⟩ := HCN.out wd hnd
        clear ho i1 i2 i3 i4 OC C9 hnc hbd
        go_wp2_with fail
        refine (impl_UserValid x1 x2 x3 x4 wd (by unfold maxLen; omega) (by unfold maxLen; omega)).mono ?_
        rintro e we ⟨rfl, hbe⟩
        rw [show userB x1.data.toList x2.data.toList x3 x4 = true from HUX.out]
        have hne := hnd.trans (hbe.mono hnd.size)
        have F8 := Lib.hid (own_below H8.out hne)
        have F9 := Lib.hid (own_below OD.out hbe)
        have FB := Lib.hid (HBG2.out.trans (hne.mono hzn))
        clear g1 g2 g3 g4 OD hnd hbe H8 H9 HBG2 HCN
        go_wp2_with fail
        go_roundw
        case rel =>
          have hj' := HJ.out
          exact ⟨k + 1, cg, nd, cd, Ag, Ad, rfl, rfl, by congr 1; omega, by rw [HST.out]; unfold ucells; rw [List.flatMap_append]; exact F8.out, F9.out, by omega, FB.out⟩
        case measure => simp [intOf] <;> omega
      · obtain rfl : k = m := by omega
        rw [show (k : Int) - 1 - (k : Int) = -1 by omega]
        rw [List.take_of_length_le (by rw [List.length_reverse, HML.out]; exact Nat.le_refl _)] at ho8 ho9
        rw [sendL_rev] at ho9
        have HO8 := Lib.hid ho8
        have HO9 := Lib.hid ho9
        have CS := Lib.hid (own_below CS4.out hb)
        have hB5 := HB4.out.trans (hb.mono hz4)
        clear ho8 ho9 hb
        have hlen' : (sendL us.reverse).length ≤ 3000 := sendL_lenA _ HUB'.out
        go_wp2_with fail
        refine (impl_SendAll _ _ _ us.reverse wr (own_rdU HO8.out) (by omega) (fun u hu => HS.out u (List.mem_reverse.1 hu))).mono ?_
        rw [send_yes _ HUB'.out, sendL_rev]
        rintro e w5 ⟨At, nt, ct, rfl, ho, hb⟩
        have OT := Lib.hid ho
        have CS5 := Lib.hid (own_below CS.out hb)
        have C95 := Lib.hid (own_below HO9.out hb)
        have hB6 := hB5.trans (hb.mono hB5.size)
        clear ho hb CS HO9
        go_wp2_with fail
        refine (laws_ssInts _ _ _ _ _ _ _ _ _ (own_rdI OT.out) (own_rdI CS5.out) (own_cap OT.out)).mono ?_
        rintro e w6 hq
        obtain ⟨rfl, hb⟩ := retD_below hq
        clear hq
        have CS6 := Lib.hid (own_below CS5.out hb)
        have C96 := Lib.hid (own_below C95.out hb)
        have hB7 := hB6.trans (hb.mono hB6.size)
        clear hb
        go_wp2_with fail
        refine (laws_ssInts _ _ _ _ _ _ _ _ _ (own_rdI C96.out) (own_rdI CS6.out) (own_cap C96.out)).mono ?_
        rintro e w7 hq
        obtain ⟨rfl, hb⟩ := retD_below hq
        clear hq
        have hB8 := hB7.trans (hb.mono hB7.size)
        clear hb
        go_wp2_with fail
        go_ret
        exact ⟨rfl, hB8⟩

end Go.Proofs.Ytlddefmakjnfdaa
