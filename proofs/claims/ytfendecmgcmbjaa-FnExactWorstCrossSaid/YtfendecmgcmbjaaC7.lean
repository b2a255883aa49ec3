/- What the functions on free paths give back, in the program and in the reference. Conditions: as each theorem says. -/
import Derived.Test.YtfendecmgcmbjaaC5
import Derived.Test.YtfendecmgcmbjaaStr
import Derived.WalkMore
namespace Go.Proofs.Ytfendecmgcmbjaa
open Go.RowKit
set_option linter.unusedSimpArgs false
set_option linter.unusedVariables false

def lists (ss : List ByteArray) : List (List UInt8) := ss.map fun s => s.data.toList
def ofL (l : List UInt8) : ByteArray := ⟨l.toArray⟩
theorem ofL_list (l : List UInt8) : (ofL l).data.toList = l := by simp [ofL]
theorem eq_ofL {t : ByteArray} {l : List UInt8} (h : t.data.toList = l) : t = ofL l := str_eq h (ofL_list l)
theorem lists_len (ss : List ByteArray) : (lists ss).length = ss.length := by simp [lists]
theorem lists_at (ss : List ByteArray) (k : Nat) (s : ByteArray) (h : ss[k]? = some s) : (lists ss)[k]? = some s.data.toList := by simp [lists, h]
theorem usedB_path (us : List (List UInt8)) (d : Int) (k : Nat) (p : List UInt8) (hp : us[k]? = some p) (h : pathB p = false) : usedB us d = false := by
  unfold usedB; rw [allP_false us k pathB p hp h, Bool.and_false]
theorem usedB_all (us : List (List UInt8)) (d : Int) (h : us.all pathB = true) : usedB us d = (within 0 6 d && decide (us.length ≤ 70)) := by
  unfold usedB; rw [h, Bool.and_true]
theorem usedB_out (us : List (List UInt8)) (d : Int) (h : ¬ (us.length ≤ 70 ∧ 0 ≤ d ∧ d ≤ 6)) : usedB us d = false := by
  unfold usedB
  by_cases h1 : us.length ≤ 70
  · rw [within_no 0 6 d (fun h2 => h ⟨h1, h2⟩)]; simp
  · rw [decide_eq_false h1]; simp
theorem usedB_yes (us : List (List UInt8)) (d : Int) (h : usedB us d = true) : us.length ≤ 70 ∧ 0 ≤ d ∧ d ≤ 6 ∧ us.all pathB = true := by
  unfold usedB at h
  simp only [Bool.and_eq_true, decide_eq_true_eq] at h
  have := (within_iff _ _ _).1 h.1.1
  exact ⟨h.1.2, this.1, this.2, h.2⟩

set_option maxHeartbeats 400000 in
theorem spec_l3Used (A : Option Addr) (n c : Nat) (ss : List ByteArray) (d : Int) (w : World) (hx : RdS w A n ss) (hn : n ≤ 1048576) (hs : ∀ s ∈ ss, s.size ≤ 1048576) :
    Calls Try.prog 76 #[.slice A n c, .int .i64 d] w fun e w' => e = .returned (.bool (usedB (lists ss) d)) ∧ w = w' := by
  have ll := lists_len ss
  rw [hx.len] at ll
  have LL := Lib.hid ll
  have HS := Lib.hid hs
  clear ll hs
  go_enter Try.func76, Try.ntmps76
  go_wp2
  go_loop [5] (fun v => ∃ k : Nat, k ≤ n ∧ v = .int .i64 k ∧ Hid (((lists ss).take k).all pathB = true)) (fun v => n - (intOf v).toNat)
  case atStart => exact ⟨0, Nat.zero_le _, rfl, by simp [Hid]⟩
  case round =>
    obtain ⟨k, hk, rfl, ha⟩ := hrel
    by_cases hlt : k < n
    · obtain ⟨b, o, x, rfl, hb, hxx, hcx⟩ := hx.at hlt
      have hxs := HS.out x (List.mem_of_getElem? hxx.out)
      cases hw : pathB x.data.toList
      · go_wp2_with (go_at_call 58; refine (spec_l3Path _ _ (by unfold maxLen; omega)).mono ?_; rintro e w' ⟨rfl, rfl⟩; rw [hw])
        go_ret
        exact ⟨ret_bool (usedB_path _ _ k _ (lists_at _ _ _ hxx.out) hw).symm, rfl⟩
      · go_wp2_with (go_at_call 58; refine (spec_l3Path _ _ (by unfold maxLen; omega)).mono ?_; rintro e w' ⟨rfl, rfl⟩; rw [hw])
        go_round
        case rel => exact ⟨k + 1, by omega, by go_num, allP_snoc _ _ _ _ (lists_at _ _ _ hxx.out) ha.out hw⟩
        case measure => simp [intOf]; omega
    · have hall := allP_take _ _ _ (by rw [LL.out]; omega) ha.out
      have hu := usedB_all _ d hall
      rw [LL.out] at hu
      have HU := Lib.hid hu
      clear hall hu
      cases hw : within 0 6 d
      all_goals
        go_wp2_with (go_at_call 71; refine (spec_l1In _ _ _ _).mono ?_; rintro e w' ⟨rfl, rfl⟩)
        go_ret
        exact ⟨ret_bool (by rw [HU.out, hw]; simp <;> omega), rfl⟩

set_option maxHeartbeats 1000000 in
theorem spec_l3Free (A : Option Addr) (n c : Nat) (ss : List ByteArray) (d : Nat) (w : World) (hx : RdS w A n ss) (hn : n ≤ 1048576) (hs : ∀ s ∈ ss, s.size ≤ 1048576) (hd : d ≤ 6) :
    Calls Try.prog 77 #[.slice A n c, .int .i64 d] w (RetS 9 ((freeL (lists ss) d).map ofL) w) := by
  have ll := lists_len ss
  rw [hx.len] at ll
  have LL := Lib.hid ll
  have HS := Lib.hid hs
  have hN := two_nat d
  have hNb : 2 ^ d ≤ 64 := Nat.pow_le_pow_right (by omega) hd
  have hFL : freeL (lists ss) d = freeK (lists ss) d (2 ^ d) := rfl
  rw [hFL]
  generalize hNN : 2 ^ d = N at *
  have HN := Lib.hid hN
  clear ll hs hN hNN hFL
  have OE := Lib.hid (own_empty w 9 w.heap.size (Nat.le_refl _))
  have BE := Lib.hid ((Below.refl w.heap.size w).alloc (Nat.le_refl _) (.cells #[] 9))
  go_enter Try.func77, Try.ntmps77
  go_wp2_with fail
  go_loopw [5, 6] (fun u v wr => ∃ (x : Nat) (B : Option Addr) (m c' : Nat), x ≤ N ∧ v = .int .i64 x ∧ u = .slice B m c' ∧ Hid (m ≤ 64) ∧ wr.ownsRow w.heap.size 9 1 (.slice B m c') m (((freeK (lists ss) d x).map ofL).map Value.string) ∧ Below w.heap.size w wr) (fun _ v _ => N - (intOf v).toNat)
  case atStart => exact ⟨0, _, 0, 0, Nat.zero_le _, rfl, rfl, (by show 0 ≤ 64; omega), OE.out, BE.out⟩
  case round =>
    obtain ⟨x, B, m, c', hxN, rfl, rfl, hm, ho, hb⟩ := hrel
    obtain ⟨wo, rfl⟩ : ∃ wo, wo = wr := ⟨_, rfl⟩
    have HO := Lib.hid ho
    clear ho
    by_cases hlt : x < N
    · go_wp2_with (go_at_call 72; refine (spec_l1Two _ _ (by omega) (by omega)).mono ?_; rintro e w' ⟨rfl, rfl⟩; rw [HN.out])
      go_loopw [7, 8] (fun s v wr' => ∃ (i : Nat) (t : ByteArray), i ≤ d ∧ v = .int .i64 ((i : Int) - 1) ∧ s = .string t ∧ t.data.toList = (binL d x).take (d - i) ∧ Below wo.heap.size wo wr') (fun s v _ => (intOf v + 1).toNat)
      case atStart => exact ⟨d, _, Nat.le_refl _, rfl, rfl, by rw [Nat.sub_self]; rfl, Below.refl _ _⟩
      case round =>
        obtain ⟨i, t, hi, rfl, rfl, ht, hb'⟩ := hrel
        have hts : t.size ≤ 6 := by rw [str_size ht, List.length_take]; omega
        have HT := Lib.hid ht
        clear ht
        rcases i with _ | j
        · rw [Nat.sub_zero, List.take_of_length_le (by rw [binL_len]; omega)] at HT
          obtain ⟨w1, rfl⟩ : ∃ w1, w1 = wr := ⟨_, rfl⟩
          rw [show ((0 : Nat) : Int) - 1 = -1 from rfl]
          have hb1 : Below w.heap.size w w1 := hb.trans (hb'.mono hb.size)
          go_wp2_with fail
          go_loopw [9, 10] (fun f v wr' => ∃ i e : Nat, i ≤ n ∧ v = .int .i64 i ∧ f = .bool (((lists ss).take i).all fun q => !conflB (binL d x) q) ∧ w1.drewN e = wr') (fun _ v _ => n - (intOf v).toNat)
          case atStart => exact ⟨0, 0, Nat.zero_le _, rfl, rfl, rfl⟩
          case round =>
            obtain ⟨i, e, hi, rfl, rfl, rfl⟩ := hrel
            by_cases hlt2 : i < n
            · obtain ⟨b, o, y, rfl, hbl, hyy, hcy⟩ := RdS.at (Rd.below hx hb1) hlt2
              have hys := HS.out y (List.mem_of_getElem? hyy.out)
              have hta := take_add _ _ _ (lists_at _ _ _ hyy.out)
              have HTA := Lib.hid hta
              clear hta
              cases hf : ((lists ss).take i).all fun q => !conflB (binL d x) q
              · have HF := Lib.hid hf
                clear hf
                go_wp2_with fail
                go_roundw
                case rel => exact ⟨i + 1, _, by omega, by go_num, by rw [HTA.out, List.all_append, HF.out]; rfl, rfl⟩
                case measure => simp [intOf]; omega
              · have HF := Lib.hid hf
                clear hf
                cases hcf : conflB (binL d x) y.data.toList
                all_goals
                  go_wp2_with (go_at_call 59; refine (spec_l3Conflict _ _ _ (by unfold maxLen; omega) (by unfold maxLen; omega)).mono ?_; rintro e w' ⟨rfl, mm, rfl⟩; rw [HT.out, hcf])
                  go_roundw
                  case rel => exact ⟨i + 1, _, by omega, by go_num, by rw [HTA.out, List.all_append, HF.out]; simp [hcf], rfl⟩
                  case measure => simp [intOf]; omega
            · obtain rfl : i = n := by omega
              rw [List.take_of_length_le (by rw [LL.out]; omega)]
              have hmx : m ≤ x := by
                have h5 := HO.out.1
                have h6 := freeK_len (lists ss) d x
                simp only [List.length_map, Nat.mul_one] at h5
                omega
              cases hf : (lists ss).all fun q => !conflB (binL d x) q
              · have hkn := freeK_no (lists ss) d x hf
                have HKN := Lib.hid hkn
                clear hkn
                go_wp2_with fail
                go_roundw
                case rel => exact ⟨x + 1, B, m, c', by omega, by go_num, rfl, by show _ ≤ _; omega, by rw [HKN.out]; exact own_below HO.out (below_drewN hb' e), below_drewN hb1 e⟩
                case measure => simp [intOf]; omega
              · have hky := freeK_yes (lists ss) d x hf
                have HKY := Lib.hid hky
                clear hky
                have HOD := Lib.hid ((own_below HO.out (below_drewN hb' e)).alloc (.cells #[.string t] 9))
                have HBD := Lib.hid ((below_drewN hb1 e).alloc (below_drewN hb1 e).size (.cells #[.string t] 9))
                have HRD := Lib.hid (own_rd (own_lit (w1.drewN e) 9 1 [.string t] rfl (by decide)))
                have hsz := HBD.out.size
                go_wp2_with (at_builtin; refine wpList_append_rd _ rfl _ _ 39 rfl w.heap.size 9 (.string ⟨#[]⟩) 16 Try.underlying39 Try.infoStr rfl (.slice B m c') _ _ rfl HOD.out _ _ _ _ rfl HRD.out (by simp [Value.oneCell']) ?_ (by omega) ?_ ?_; omega; exact hsz; intro A' q c2 w' hq ho hg; have HQ := Lib.hid hq.out; have HO2 := Lib.hid ho; have HG := Lib.hid hg; clear hq ho hg)
                go_roundw
                case rel =>
                  have h5 := HO2.out
                  have h6 := HQ.out
                  rw [eq_ofL HT.out, ← List.map_singleton (f := Value.string), ← List.map_append, ← List.map_singleton (f := ofL), ← List.map_append, ← HKY.out] at h5
                  exact ⟨x + 1, A', q, c2, by omega, by go_num, rfl, by show _ ≤ _; omega, h5, HBD.out.trans (own_below_of HOD.out HG.out hsz)⟩
                case measure => simp [intOf]; omega
        · obtain ⟨P, hP⟩ : ∃ P : Nat, 2 ^ j = P := ⟨_, rfl⟩
          have hP1 : 1 ≤ P := by rw [← hP]; exact Nat.two_pow_pos j
          have hP2 : P ≤ 8192 := by rw [← hP]; exact Nat.le_trans (Nat.pow_le_pow_right (by omega) (show j ≤ 13 by omega)) (by decide)
          have htp := two_nat j
          have hst := binL_take d x j hi
          rw [hP] at htp hst
          have HTP := Lib.hid htp
          have HST := Lib.hid hst
          have hq := quo_bit x P (by omega)
          have HQ := Lib.hid hq
          clear htp hst hq hP
          rw [show ((j + 1 : Nat) : Int) - 1 = (j : Int) by omega]
          go_wp2_with (first | (go_at_call 72; refine (spec_l1Two _ _ (by omega) (by omega)).mono ?_; rintro e w' ⟨rfl, rfl⟩; rw [HTP.out]) | (go_at_call 80; rw [HQ.out]; refine (spec_l9Dec _ _ (by omega)).mono ?_; rintro e w' ⟨u, rfl, hu, hbu⟩; rw [digC_bit] at hu; have HU := Lib.hid hu; clear hu; have hus : u.size = 1 := (by rw [str_size HU.out]; rfl)))
          go_roundw
          case rel => exact ⟨j, _, by omega, by go_num, rfl, by rw [str_app HT.out HU.out, HST.out], hb'.trans (hbu.mono hb'.size)⟩
          case measure => simp [intOf]
    · obtain rfl : x = N := by omega
      go_wp2_with (go_at_call 72; refine (spec_l1Two _ _ (by omega) (by omega)).mono ?_; rintro e w' ⟨rfl, rfl⟩; rw [HN.out])
      go_ret
      exact ⟨_, _, _, rfl, HO.out, hb⟩
/-- The call gave back a new list of the strings ss, and b. -/
def RetSB (E : TypeId) (ss : List ByteArray) (b : Bool) (w : World) (e : Ending) (w' : World) : Prop :=
  ∃ A n c, e = .returned (.tuple #[.slice A n c, .bool b]) ∧ w'.ownsRow w.heap.size E 1 (.slice A n c) n (ss.map Value.string) ∧ Below w.heap.size w w'
theorem retSB_nil (E : TypeId) (w : World) : RetSB E [] false w (.returned (.tuple #[.slice none 0 0, .bool false])) w := ⟨none, 0, 0, rfl, World.ownsRow_nil _ _ _ _, Below.refl _ _⟩
theorem treeConf_paths (p q : List UInt8) (h : pathB p = true) (h' : pathB q = true) : treeConfB p q = conflB p q := by unfold treeConfB; rw [h, h']; rfl
def freeP (us : List (List UInt8)) (d : Int) : List (List UInt8) := if usedB us d = true then freeL us d.toNat else []

set_option maxRecDepth 100000 in
set_option maxHeartbeats 1000000 in
theorem impl_freePaths (A : Option Addr) (n c : Nat) (ss : List ByteArray) (z : Int) (w : World) (hx : RdS w A n ss) (hn : n ≤ 1048576) (hs : ∀ s ∈ ss, s.size ≤ 1048576) :
    Calls Try.prog 75 #[.slice A n c, .int .i64 z] w (RetSB 9 ((freeP (lists ss) z).map ofL) (usedB (lists ss) z) w) := by
  have ll := lists_len ss
  rw [hx.len] at ll
  have LL := Lib.hid ll
  have HS := Lib.hid hs
  clear ll hs
  by_cases hok : n ≤ 70 ∧ 0 ≤ z ∧ z ≤ 6
  · obtain ⟨h70, hz0, hz6⟩ := hok
    obtain ⟨d, rfl⟩ := Int.eq_ofNat_of_zero_le hz0
    have hN := wrap_pow d (by omega)
    have hNb : 2 ^ d ≤ 64 := Nat.pow_le_pow_right (by omega) (show d ≤ 6 by omega)
    have hFL : freeL (lists ss) d = freeK (lists ss) d (2 ^ d) := rfl
    have hN' : wrap64 ((2 : Int) ^ ((d : Int)).toNat) = ((2 ^ d : Nat) : Int) := by rw [Int.toNat_natCast]; exact hN
    generalize hNN : 2 ^ d = N at *
    have HFL := Lib.hid hFL
    have HN := Lib.hid hN
    clear hNN hFL hN
    go_enter Try.func75, Try.ntmps75
    go_wp2_with fail
    go_step3
    go_wp2_with fail
    go_loop [26] (fun v => ∃ k : Nat, k ≤ n ∧ v = .int .i64 k ∧ Hid (((lists ss).take k).all pathB = true)) (fun v => n - (intOf v).toNat)
    case atStart => exact ⟨0, Nat.zero_le _, rfl, by simp [Hid]⟩
    case round =>
      obtain ⟨k, hk, rfl, ha⟩ := hrel
      by_cases hlt : k < n
      · obtain ⟨b, o, x, rfl, hb, hxx, hcx⟩ := hx.at hlt
        have hxs := HS.out x (List.mem_of_getElem? hxx.out)
        cases hw : pathB x.data.toList
        · go_wp2_with (go_at_call 56; refine (impl_pathValid _ _ (by unfold maxLen; omega)).mono ?_; rintro e w' ⟨rfl, rfl⟩; rw [hw])
          go_ret2
          rw [show freeP (lists ss) d = [] by unfold freeP; rw [usedB_path _ _ k _ (lists_at _ _ _ hxx.out) hw]; rfl, usedB_path _ _ k _ (lists_at _ _ _ hxx.out) hw]
          exact retSB_nil _ _
        · go_wp2_with (go_at_call 56; refine (impl_pathValid _ _ (by unfold maxLen; omega)).mono ?_; rintro e w' ⟨rfl, rfl⟩; rw [hw])
          go_round
          case rel => exact ⟨k + 1, by omega, by go_num, allP_snoc _ _ _ _ (lists_at _ _ _ hxx.out) ha.out hw⟩
          case measure => simp [intOf]; omega
      · have hall := allP_take _ _ _ (by rw [LL.out]; omega) ha.out
        obtain rfl : k = n := by omega
        have hu := usedB_all _ (d : Int) hall
        rw [LL.out, decide_eq_true h70, (within_iff 0 6 (d : Int)).2 ⟨by omega, by omega⟩] at hu
        have hfp : freeP (lists ss) d = freeK (lists ss) d N := by unfold freeP; rw [hu, Int.toNat_natCast]; exact HFL.out
        have HU := Lib.hid hu
        have HALL := Lib.hid hall
        have HFP := Lib.hid hfp
        clear hall hu hfp
        have OE := Lib.hid (own_empty w 9 w.heap.size (Nat.le_refl _))
        have BE := Lib.hid ((Below.refl w.heap.size w).alloc (Nat.le_refl _) (.cells #[] 9))
        go_wp2_with fail
        go_step3
        go_wp2_with fail
        rw [HN.out]
        go_loopw [8, 37] (fun u v wr => ∃ (x : Nat) (B : Option Addr) (m c' : Nat), x ≤ N ∧ v = .int .i64 x ∧ u = .slice B m c' ∧ wr.ownsRow w.heap.size 9 1 (.slice B m c') m (((freeK (lists ss) d x).map ofL).map Value.string) ∧ Below w.heap.size w wr) (fun _ v _ => N - (intOf v).toNat)
        case atStart => exact ⟨0, _, 0, 0, Nat.zero_le _, rfl, rfl, OE.out, BE.out⟩
        case round =>
          obtain ⟨x, B, m, c', hxN, rfl, rfl, ho, hb⟩ := hrel
          obtain ⟨wo, rfl⟩ : ∃ wo, wo = wr := ⟨_, rfl⟩
          have HO := Lib.hid ho
          clear ho
          have hmx : m ≤ x := by
            have h5 := HO.out.1
            have h6 := freeK_len (lists ss) d x
            simp only [List.length_map, Nat.mul_one] at h5
            omega
          by_cases hlt : x < N
          · go_wp2_with (go_at_call 79; refine (impl_binaryText _ _ _ (by omega) (by omega)).mono ?_; rintro e w1 ⟨t, rfl, ht, hb'⟩; have hts : t.size ≤ 6 := (by rw [str_size ht, binL_len]; omega); have HT := Lib.hid ht; clear ht)
            have hb1 : Below w.heap.size w w1 := hb.trans (hb'.mono hb.size)
            have hpt := binL_path d x (by omega)
            go_loopw [45] (fun v wr' => ∃ i : Nat, i ≤ k ∧ v = .int .i64 i ∧ Hid (((lists ss).take i).all (fun q => !conflB (binL d x) q) = true) ∧ w1 = wr') (fun v _ => k - (intOf v).toNat)
            case atStart => exact ⟨0, Nat.zero_le _, rfl, rfl, rfl⟩
            case round =>
              obtain ⟨i, hi, rfl, haf, rfl⟩ := hrel
              by_cases hlt2 : i < k
              · obtain ⟨b, o, y, rfl, hbl, hyy, hcy⟩ := RdS.at (Rd.below hx hb1) hlt2
                have hys := HS.out y (List.mem_of_getElem? hyy.out)
                have hpy := List.all_eq_true.1 HALL.out _ (List.mem_of_getElem? (lists_at _ _ _ hyy.out))
                have htc : treeConfB t.data.toList y.data.toList = conflB (binL d x) y.data.toList := by rw [HT.out]; exact treeConf_paths _ _ hpt hpy
                cases hcf : conflB (binL d x) y.data.toList
                · rw [hcf] at htc
                  have HTC := Lib.hid htc
                  have HCF := Lib.hid hcf
                  clear htc hcf
                  go_wp2_with (go_at_call 14; refine (impl_TreeConflict _ _ _ (by unfold maxLen; omega) (by unfold maxLen; omega)).mono ?_; rw [HTC.out]; rintro e w' ⟨rfl, rfl⟩)
                  go_roundw
                  case rel => exact ⟨i + 1, by omega, by go_num, allP_snoc _ _ _ _ (lists_at _ _ _ hyy.out) haf.out (by rw [HCF.out]; rfl), trivial⟩
                  case measure => simp [intOf]; omega
                · rw [hcf] at htc
                  have HTC := Lib.hid htc
                  have hfa : freeAt (lists ss) (binL d x) = false := allP_false _ i _ _ (lists_at _ _ _ hyy.out) (by rw [hcf]; rfl)
                  have hkn := freeK_no (lists ss) d x hfa
                  have HKN := Lib.hid hkn
                  clear htc hcf hfa hkn
                  go_wp2_with (go_at_call 14; refine (impl_TreeConflict _ _ _ (by unfold maxLen; omega) (by unfold maxLen; omega)).mono ?_; rw [HTC.out]; rintro e w' ⟨rfl, rfl⟩)
                  go_roundw
                  case rel => exact ⟨x + 1, B, m, c', by omega, by go_num, rfl, by rw [HKN.out]; exact own_below HO.out hb', hb1⟩
                  case measure => simp [intOf]; omega
              · obtain rfl : i = k := by omega
                have hfa : freeAt (lists ss) (binL d x) = true := allP_take _ _ _ (by rw [LL.out]; omega) haf.out
                have hky := freeK_yes (lists ss) d x hfa
                have HKY := Lib.hid hky
                clear hky hfa
                have HOD := Lib.hid ((own_below HO.out hb').alloc (.cells #[.string t] 9))
                have HBD := Lib.hid (hb1.alloc hb1.size (.cells #[.string t] 9))
                have HRD := Lib.hid (own_rd (own_lit w1 9 1 [.string t] rfl (by decide)))
                have hsz := HBD.out.size
                go_wp2_with (at_builtin; refine wpList_append_rd _ rfl _ _ 39 rfl w.heap.size 9 (.string ⟨#[]⟩) 16 Try.underlying39 Try.infoStr rfl (.slice B m c') _ _ rfl HOD.out _ _ _ _ rfl HRD.out (by simp [Value.oneCell']) ?_ (by omega) ?_ ?_; omega; exact hsz; intro A' q c2 w' hq ho hg; have HQ := Lib.hid hq.out; have HO2 := Lib.hid ho; have HG := Lib.hid hg; clear hq ho hg)
                go_roundw
                case rel =>
                  have h5 := HO2.out
                  rw [eq_ofL HT.out, ← List.map_singleton (f := Value.string), ← List.map_append, ← List.map_singleton (f := ofL), ← List.map_append, ← HKY.out] at h5
                  exact ⟨x + 1, A', q, c2, by omega, by go_num, rfl, h5, HBD.out.trans (own_below_of HOD.out HG.out hsz)⟩
                case measure => simp [intOf]; omega
          · obtain rfl : x = N := by omega
            go_wp2_with fail
            go_ret2
            rw [HFP.out, HU.out]
            exact ⟨_, _, _, rfl, HO.out, hb⟩
  · have hub := usedB_out (lists ss) z (by rw [LL.out]; exact hok)
    rw [show freeP (lists ss) z = [] by unfold freeP; rw [hub]; rfl, hub]
    clear hub
    rcases (show 70 < n ∨ (n ≤ 70 ∧ z < 0) ∨ (n ≤ 70 ∧ 0 ≤ z ∧ 6 < z) by omega) with h | ⟨h, h'⟩ | ⟨h, h', h''⟩
    all_goals
      clear hok
      go_enter Try.func75, Try.ntmps75
      go_wp2_with fail
      go_step3
      go_wp2_with fail
      go_ret2
      exact retSB_nil _ _
theorem freeC_no (us : List (List UInt8)) (d : Int) (h : usedB us d = false) : freeC us d = -1 := by unfold freeC; rw [h]; rfl
theorem freeC_yes (us : List (List UInt8)) (d : Int) (h : usedB us d = true) : freeC us d = ((freeL us d.toNat).length : Int) := by unfold freeC; rw [h]; rfl
theorem freeP_no (us : List (List UInt8)) (d : Int) (h : usedB us d = false) : freeP us d = [] := by unfold freeP; rw [h]; rfl
theorem freeP_yes (us : List (List UInt8)) (d : Int) (h : usedB us d = true) : freeP us d = freeL us d.toNat := by unfold freeP; rw [h]; rfl
theorem allocC_no (us : List (List UInt8)) (d : Int) (h : usedB us d = false) : allocC us d = ([], false) := by unfold allocC; rw [h]; rfl
theorem allocC_nil (us : List (List UInt8)) (d : Int) (h : usedB us d = true) (hl : freeL us d.toNat = []) : allocC us d = ([], false) := by unfold allocC; rw [h, hl]; rfl
theorem allocC_cons (us : List (List UInt8)) (d : Int) (p : List UInt8) (r : List (List UInt8)) (h : usedB us d = true) (hl : freeL us d.toNat = p :: r) : allocC us d = (p, true) := by unfold allocC; rw [h, hl]; rfl
theorem ownS_len {w : World} {base E n c : Nat} {A : Option Addr} {ls : List (List UInt8)} (h : w.ownsRow base E 1 (.slice A n c) n ((ls.map ofL).map Value.string)) : ls.length = n := by
  have := h.1
  simpa using this
set_option maxHeartbeats 400000 in
theorem spec_FreePaths (A : Option Addr) (n c : Nat) (ss : List ByteArray) (z : Int) (w : World) (hx : RdS w A n ss) (hn : n ≤ 1048576) (hs : ∀ s ∈ ss, s.size ≤ 1048576) :
    Calls Try.prog 30 #[.slice A n c, .int .i64 z] w fun e w' => e = .returned (.int .i64 (freeC (lists ss) z)) ∧ Below w.heap.size w w' := by
  cases hu : usedB (lists ss) z
  · rw [freeC_no _ _ hu]
    go_enter Try.func30, Try.ntmps30
    go_wp2_with (go_at_call 76; refine (spec_l3Used _ _ _ _ _ _ hx hn hs).mono ?_; rintro e w' ⟨rfl, rfl⟩; rw [hu])
    go_ret
    exact ⟨rfl, Below.refl _ _⟩
  · rw [freeC_yes _ _ hu]
    obtain ⟨_, h0, h6, _⟩ := usedB_yes _ _ hu
    obtain ⟨d, rfl⟩ := Int.eq_ofNat_of_zero_le h0
    rw [Int.toNat_natCast]
    go_enter Try.func30, Try.ntmps30
    go_wp2_with (first | (go_at_call 76; refine (spec_l3Used _ _ _ _ _ _ hx hn hs).mono ?_; rintro e w' ⟨rfl, rfl⟩; rw [hu]) | (go_at_call 77; refine (spec_l3Free _ _ _ _ _ _ hx hn hs (by omega)).mono ?_; rintro e w' ⟨B, m, c', rfl, ho, hb⟩; have hm := ownS_len ho; have HM := Lib.hid hm; clear hm ho))
    go_ret
    exact ⟨by rw [HM.out]; rfl, hb⟩
set_option maxHeartbeats 400000 in
theorem impl_FreePaths (A : Option Addr) (n c : Nat) (ss : List ByteArray) (z : Int) (w : World) (hx : RdS w A n ss) (hn : n ≤ 1048576) (hs : ∀ s ∈ ss, s.size ≤ 1048576) :
    Calls Try.prog 29 #[.slice A n c, .int .i64 z] w fun e w' => e = .returned (.int .i64 (freeC (lists ss) z)) ∧ Below w.heap.size w w' := by
  have hfp := impl_freePaths A n c ss z w hx hn hs
  cases hu : usedB (lists ss) z
  · rw [freeC_no _ _ hu]
    rw [hu] at hfp
    go_enter Try.func29, Try.ntmps29
    go_wp2_with (go_at_call 75; refine hfp.mono ?_; rintro e w' ⟨B, m, c', rfl, ho, hb⟩; clear ho hfp)
    go_ret
    exact ⟨rfl, hb⟩
  · rw [freeC_yes _ _ hu]
    rw [hu, freeP_yes _ _ hu] at hfp
    go_enter Try.func29, Try.ntmps29
    go_wp2_with (go_at_call 75; refine hfp.mono ?_; rintro e w' ⟨B, m, c', rfl, ho, hb⟩; have hm := ownS_len ho; have HM := Lib.hid hm; clear hm ho hfp)
    go_ret
    exact ⟨by rw [HM.out]; rfl, hb⟩
set_option maxHeartbeats 400000 in
theorem spec_AllocateTree (A : Option Addr) (n c : Nat) (ss : List ByteArray) (z : Int) (w : World) (hx : RdS w A n ss) (hn : n ≤ 1048576) (hs : ∀ s ∈ ss, s.size ≤ 1048576) :
    Calls Try.prog 33 #[.slice A n c, .int .i64 z] w (RetStrB (allocC (lists ss) z).1 (allocC (lists ss) z).2 w) := by
  cases hu : usedB (lists ss) z
  · rw [allocC_no _ _ hu]
    go_enter Try.func33, Try.ntmps33
    go_wp2_with (go_at_call 76; refine (spec_l3Used _ _ _ _ _ _ hx hn hs).mono ?_; rintro e w' ⟨rfl, rfl⟩; rw [hu])
    go_ret2
    exact ⟨_, rfl, rfl, Below.refl _ _⟩
  · obtain ⟨_, h0, h6, _⟩ := usedB_yes _ _ hu
    have hnil := allocC_nil _ _ hu
    have hcons := fun p r => allocC_cons _ _ p r hu
    obtain ⟨d, rfl⟩ := Int.eq_ofNat_of_zero_le h0
    rw [Int.toNat_natCast] at hnil hcons
    have hfr := spec_l3Free A n c ss d w hx hn hs (by omega)
    have HNIL := Lib.hid hnil
    have HCONS := Lib.hid hcons
    clear hnil hcons
    cases hfl : freeL (lists ss) d with
    | nil =>
      rw [hfl] at hfr
      rw [HNIL.out hfl]
      clear hfl
      go_enter Try.func33, Try.ntmps33
      go_wp2_with (first | (go_at_call 76; refine (spec_l3Used _ _ _ _ _ _ hx hn hs).mono ?_; rintro e w' ⟨rfl, rfl⟩; rw [hu]) | (go_at_call 77; refine hfr.mono ?_; rintro e w' ⟨B, m, c', rfl, ho, hb⟩; obtain rfl : 0 = m := (ownS_len ho); clear ho hfr))
      go_ret2
      exact ⟨_, rfl, rfl, hb⟩
    | cons p r =>
      rw [hfl] at hfr
      rw [HCONS.out p r hfl]
      clear hfl
      go_enter Try.func33, Try.ntmps33
      go_wp2_with (first | (go_at_call 76; refine (spec_l3Used _ _ _ _ _ _ hx hn hs).mono ?_; rintro e w' ⟨rfl, rfl⟩; rw [hu]) | (go_at_call 77; refine hfr.mono ?_; rintro e w' ⟨B, m, c', rfl, ho, hb⟩; obtain rfl : (p :: r).length = m := (ownS_len ho); have hq := own_rdS ho; obtain ⟨b, o, y, rfl, hbl, hyy, hcy⟩ := RdS.at hq (i := 0) (Nat.succ_pos _); have HYY := Lib.hid (Option.some.inj hyy.out); rw [Nat.add_zero] at hcy; rw [List.length_cons]; clear ho hfr hq hyy))
      go_ret2
      exact ⟨_, rfl, by rw [← HYY.out]; exact ofL_list p, hb⟩
set_option maxHeartbeats 400000 in
theorem impl_AllocateTree (A : Option Addr) (n c : Nat) (ss : List ByteArray) (z : Int) (w : World) (hx : RdS w A n ss) (hn : n ≤ 1048576) (hs : ∀ s ∈ ss, s.size ≤ 1048576) :
    Calls Try.prog 32 #[.slice A n c, .int .i64 z] w (RetStrB (allocC (lists ss) z).1 (allocC (lists ss) z).2 w) := by
  have hfr := impl_freePaths A n c ss z w hx hn hs
  cases hu : usedB (lists ss) z
  · rw [allocC_no _ _ hu]
    rw [hu] at hfr
    go_enter Try.func32, Try.ntmps32
    go_wp2_with (go_at_call 75; refine hfr.mono ?_; rintro e w' ⟨B, m, c', rfl, ho, hb⟩; clear ho hfr)
    go_ret2
    exact ⟨_, rfl, rfl, hb⟩
  · have hnil := allocC_nil _ _ hu
    have hcons := fun p r => allocC_cons _ _ p r hu
    rw [hu, freeP_yes _ _ hu] at hfr
    have HNIL := Lib.hid hnil
    have HCONS := Lib.hid hcons
    clear hnil hcons
    cases hfl : freeL (lists ss) z.toNat with
    | nil =>
      rw [hfl] at hfr
      rw [HNIL.out hfl]
      clear hfl
      go_enter Try.func32, Try.ntmps32
      go_wp2_with (go_at_call 75; refine hfr.mono ?_; rintro e w' ⟨B, m, c', rfl, ho, hb⟩; obtain rfl : 0 = m := (ownS_len ho); clear ho hfr)
      go_ret2
      exact ⟨_, rfl, rfl, hb⟩
    | cons p r =>
      rw [hfl] at hfr
      rw [HCONS.out p r hfl]
      clear hfl
      go_enter Try.func32, Try.ntmps32
      go_wp2_with (go_at_call 75; refine hfr.mono ?_; rintro e w' ⟨B, m, c', rfl, ho, hb⟩; obtain rfl : (p :: r).length = m := (ownS_len ho); have hq := own_rdS ho; obtain ⟨b, o, y, rfl, hbl, hyy, hcy⟩ := RdS.at hq (i := 0) (Nat.succ_pos _); have HYY := Lib.hid (Option.some.inj hyy.out); rw [Nat.add_zero] at hcy; rw [List.length_cons]; clear ho hfr hq hyy)
      go_ret2
      exact ⟨_, rfl, by rw [← HYY.out]; exact ofL_list p, hb⟩

end Go.Proofs.Ytfendecmgcmbjaa
