/- Marks on lists of strings. Conditions: as each theorem says. -/
import Derived.Test.YteagfipmllplgaaC7
import Derived.Deep.RegionHeld3
namespace Go.Proofs.Yteagfipmllplgaa
open Go.RowKit
set_option linter.unusedSimpArgs false
set_option linter.unusedVariables false
set_option maxRecDepth 100000

def digL (k : Nat) : List UInt8 := if h : k = 0 then [] else digL (k / 10) ++ [digC (k % 10)]
theorem digL_zero : digL 0 = [] := by rw [digL]; simp
theorem digL_step (k : Nat) (h : 1 ≤ k) : digL k = digL (k / 10) ++ [digC (k % 10)] := by rw [digL, dif_neg (by omega)]
theorem digL_len (k : Nat) : (digL k).length ≤ k := by
  induction k using Nat.strongRecOn with
  | ind k ih =>
    by_cases h : k = 0
    · subst h; rw [digL_zero]; exact Nat.le_refl _
    · rw [digL_step k (by omega), List.length_append, List.length_singleton]
      have := ih (k / 10) (by omega)
      omega
def markL (k : Nat) : List UInt8 := [109] ++ digL k
theorem below_grown {w w' : World} (h : Below w.heap.size w w') (r : Option Nat) : w.grownBy w' r := ⟨h.os, h.tape, h.output, h.size, fun i hi _ => h.block i hi⟩
set_option maxHeartbeats 1000000 in
theorem laws_markText (K : Nat) (w : World) (h1 : 1 ≤ K) (h2 : K ≤ 1048576) :
    Calls Try.prog 70 #[.int .i64 (K : Int)] w (RetStr (markL K) w) := by
  have hlen := digL_len K
  have HLEN := Lib.hid hlen
  clear hlen
  go_enter Try.func70, Try.ntmps70
  go_wp2_with fail
  go_loopw [0, 3] (fun a b wr => ∃ (j : Nat) (u : ByteArray), a = .int .i64 j ∧ b = .string u ∧ j ≤ K ∧ Hid (digL K = digL j ++ u.data.toList) ∧ Below w.heap.size w wr) (fun a _ _ => (intOf a).toNat)
  case atStart => exact ⟨K, ⟨#[]⟩, rfl, rfl, Nat.le_refl _, by show _ = _; simp, Below.refl _ _⟩
  case round =>
    obtain ⟨j, u, rfl, rfl, hj, hd, hb⟩ := hrel
    have hus : u.size ≤ K := by
      have h5 := congrArg List.length hd.out
      rw [List.length_append, len_data] at h5
      have := HLEN.out
      omega
    by_cases h0 : 1 ≤ j
    · have hst := digL_step j h0
      obtain ⟨r, hr, hr9⟩ : ∃ r, j % 10 = r ∧ r ≤ 9 := ⟨_, rfl, by omega⟩
      obtain ⟨q, hq, hqj⟩ : ∃ q, j / 10 = q ∧ q < j := ⟨_, rfl, by omega⟩
      rw [hr, hq] at hst
      have hrem : (j : Int) % 10 = (r : Int) := by rw [← hr]; rfl
      have hrem2 : (j : Int).tmod 10 = (r : Int) := by rw [Int.tmod_eq_emod_of_nonneg (by omega)]; exact hrem
      have hquo : (j : Int) / 10 = (q : Int) := by rw [← hq]; rfl
      have hquo2 : (j : Int).tdiv 10 = (q : Int) := by rw [Int.tdiv_eq_ediv_of_nonneg (by omega)]; exact hquo
      have HST := Lib.hid hst
      have hcv := own_string (P := Try.prog) (src := 37) (dst := 9) [digC r] Try.underlying37 Try.underlying5 Try.underlying9 (own_lit wr 5 1 (bytes [digC r]) rfl (by decide))
      rw [show bytes [digC r] = [Value.int .u8 (48 + (r : Int))] by unfold bytes; rw [List.map_cons, digC_toNat r hr9]; rfl] at hcv
      have hsz : (ByteArray.mk [digC r].toArray).size = 1 := rfl
      clear hst hr hq
      go_wp2_with fail
      go_roundw
      case rel => exact ⟨q, _, by go_num, rfl, by omega, by show _ = _; rw [str_app rfl rfl, hd.out, HST.out, List.append_assoc], hb.alloc hb.size _⟩
      case measure => simp [intOf]; omega
    · obtain rfl : j = 0 := by omega
      go_wp2_with fail
      go_ret
      exact ⟨_, rfl, by rw [str_app rfl rfl]; unfold markL; rw [hd.out, digL_zero]; rfl, hb⟩
def marksT (k n : Nat) : List ByteArray := (List.range n).map fun i => ofL (markL (k + i))
theorem marksT_len (k n : Nat) : (marksT k n).length = n := by simp [marksT]
theorem marksT_at (k n i : Nat) (h : i < n) : (marksT k n)[i]? = some (ofL (markL (k + i))) := by simp [marksT, h]
set_option maxHeartbeats 1000000 in
theorem laws_markStringS (B : Nat) (A : Option Addr) (n c : Nat) (xs : List Value) (k : Nat) (w : World) (ho : w.ownsRow B 9 1 (.slice A n c) n xs) (h0 : 1 ≤ k) (h1 : k ≤ 100000) (hn : n ≤ 100000) :
    Calls Try.prog 27 #[.slice A n c, .int .i64 (k : Int)] w fun e w' => e = .returned (.int .i64 ((k + n : Nat) : Int)) ∧ w'.ownsRow B 9 1 (.slice A n c) n ((marksT k n).map Value.string) ∧ w.grownBy w' (Value.ownBlock (.slice A n c)) := by
  have hl : xs.length = n := by have := ho.1; omega
  have HL := Lib.hid hl
  clear hl
  go_enter Try.func27, Try.ntmps27
  go_wp2
  go_loopw [1, 5] (fun q v wr => ∃ j : Nat, j ≤ n ∧ v = .int .i64 j ∧ q = .int .i64 ((k + j : Nat) : Int) ∧ wr.ownsRow B 9 1 (.slice A n c) n (Mix ((marksT k n).map Value.string) xs j) ∧ w.grownBy wr (Value.ownBlock (.slice A n c))) (fun _ v _ => n - (intOf v).toNat)
  case atStart => exact ⟨0, Nat.zero_le _, rfl, by simp, by rw [mix_zero]; exact ho, grown_refl _ _⟩
  case round =>
    obtain ⟨j, hj, rfl, rfl, hw, hg⟩ := hrel
    by_cases hlt : j < n
    · obtain ⟨g, rfl, hBg, hgl⟩ := own_some hw hlt
      have HW := Lib.hid hw
      have HG := Lib.hid hg
      clear hw ho hg
      obtain ⟨wo, rfl⟩ : ∃ wo, wo = wr := ⟨_, rfl⟩
      go_wp2_with fail
      refine (laws_markText (k + j) wo (by omega) (by omega)).mono ?_
      rintro e w2 ⟨u, rfl, hu, hb2⟩
      obtain rfl := eq_ofL hu
      have hw2 := own_below HW.out hb2
      obtain ⟨v, hv⟩ := mix_at ((marksT k n).map Value.string) xs j (by rw [List.length_map, marksT_len]; exact hlt) (by rw [HL.out]; exact hlt)
      have hc := (hw2.cellAt j (by omega)).trans hv
      have hf := hw2.frozenAt j
      have HW2 := Lib.hid hw2
      have HG2 := Lib.hid (grown_trans HG.out (below_grown hb2 _))
      clear hw2 hv hu hb2 HW HG
      obtain ⟨u, hu⟩ : ∃ u, ofL (markL (k + j)) = u := ⟨_, rfl⟩
      rw [hu]
      have HU := Lib.hid hu
      clear hu
      go_wp2
      go_roundw
      case rel =>
        have hs := HW2.out.stored j (.string u)
        rw [mix_set _ _ _ _ (by rw [List.getElem?_map, marksT_at _ _ _ hlt, HU.out]; rfl) (by rw [HL.out]; exact hlt)] at hs
        exact ⟨j + 1, by omega, by go_num, by rw [show ((k + (j + 1) : Nat) : Int) = (k : Int) + j + 1 by omega], hs.1, grown_trans HG2.out hs.2⟩
      case measure => simp [intOf]; omega
    · obtain rfl : j = n := by omega
      rw [mix_full _ _ _ (by rw [List.length_map, marksT_len]; exact Nat.le_refl _) (by rw [HL.out]; exact Nat.le_refl _)] at hw
      have HW := Lib.hid hw
      have HG := Lib.hid hg
      clear hw hg ho
      go_wp2
      go_ret
      exact ⟨rfl, HW.out, HG.out⟩
set_option maxHeartbeats 1000000 in
theorem laws_heldStringS (A : Option Addr) (n c : Nat) (k : Nat) (w : World) (hx : RdS w A n (marksT k n)) (h0 : 1 ≤ k) (h1 : k ≤ 100000) (hn : n ≤ 100000) :
    Calls Try.prog 28 #[.slice A n c, .int .i64 (k : Int)] w fun e w' => e = .returned (.int .i64 ((k + n : Nat) : Int)) ∧ Below w.heap.size w w' := by
  go_enter Try.func28, Try.ntmps28
  go_wp2
  go_loopw [1, 5] (fun q v wr => ∃ j : Nat, j ≤ n ∧ v = .int .i64 j ∧ q = .int .i64 ((k + j : Nat) : Int) ∧ Below w.heap.size w wr) (fun _ v _ => n - (intOf v).toNat)
  case atStart => exact ⟨0, Nat.zero_le _, rfl, by simp, Below.refl _ _⟩
  case round =>
    obtain ⟨j, hj, rfl, rfl, hb⟩ := hrel
    by_cases hlt : j < n
    · obtain ⟨b, o, x, rfl, hlb, hxx, hcx⟩ := hx.at hlt
      obtain rfl : ofL (markL (k + j)) = x := by have h3 := hxx.out; rw [marksT_at _ _ _ hlt] at h3; injection h3
      have hcr : wr.cell? ⟨b, o + j, none⟩ = some (.string (ofL (markL (k + j)))) := (hb.cell (p := ⟨b, o + j, none⟩) hlb).trans hcx
      have hcr' : wr.drew.cell? ⟨b, o + j, none⟩ = some (.string (ofL (markL (k + j)))) := hcr
      have hsz := hb.size
      clear hcx hxx
      obtain ⟨wo, rfl⟩ : ∃ wo, wo = wr := ⟨_, rfl⟩
      go_wp2_with fail
      go_region_held3 (fun w' => w'.cell? ⟨b, o + j, none⟩ = some (.string (ofL (markL (k + j))))) (first | exact hcr | exact hcr' | exact hc2) ((go_at_call 70; rw [show ((k : Int) + (j : Int)) = ((k + j : Nat) : Int) by omega]; refine (laws_markText (k + j) _ (by omega) (by omega)).mono ?_; rintro e w2 ⟨u, rfl, hu, hb2⟩; obtain rfl := eq_ofL hu; have hc2 : w2.cell? ⟨b, o + j, none⟩ = some (.string (ofL (markL (k + j)))) := (hb2.cell (p := ⟨b, o + j, none⟩) (Nat.lt_of_lt_of_le hlb hsz)).trans hcr))
      go_wp2
      go_roundw
      case rel => exact ⟨j + 1, by omega, by go_num, by rw [show ((k + (j + 1) : Nat) : Int) = (k : Int) + j + 1 by omega], hb.trans ((show Below wo.heap.size wo w2 from ⟨hb2.os, hb2.tape, hb2.output, hb2.size, hb2.block⟩).mono hb.size)⟩
      case measure => simp [intOf]; omega
    · obtain rfl : j = n := by omega
      go_wp2
      go_ret
      exact ⟨rfl, hb⟩

end Go.Proofs.Yteagfipmllplgaa
