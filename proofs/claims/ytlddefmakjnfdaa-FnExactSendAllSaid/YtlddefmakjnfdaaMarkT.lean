/- Marks on lists of strings. Conditions: as each theorem says. -/
import Derived.Test.YtlddefmakjnfdaaC7
import Derived.Deep.RegionHeld3
namespace Go.Proofs.Ytlddefmakjnfdaa
open Go.RowKit
set_option linter.unusedSimpArgs false
set_option linter.unusedVariables false
set_option maxRecDepth 100000

def digL (k : Nat) : List UInt8 := if h : k = 0 then [] else digL (k / 10) ++ [digC (k % 10)]
theorem digL_zero : digL 0 = [] := by rw [digL]; simp
theorem digL_step (k : Nat) (h : 1 ≤ k) : digL k = digL (k / 10) ++ [digC (k % 10)] := by rw [digL, dif_neg (by omega)]
theorem digL_len (k : Nat) : (digL k).length ≤ k := by
  induction k using Nat.strongRecOn with
  | ind k ih =>
    by_cases h : k = 0
    · subst h; rw [digL_zero]; exact Nat.le_refl _
    · rw [digL_step k (by omega), List.length_append, List.length_singleton]
      have := ih (k / 10) (by omega)
      omega
def markL (k : Nat) : List UInt8 := [109] ++ digL k
theorem below_grown {w w' : World} (h : Below w.heap.size w w') (r : Option Nat) : w.grownBy w' r := ⟨h.os, h.tape, h.output, h.size, fun i hi _ => h.block i hi⟩
set_option maxHeartbeats 1000000 in
theorem laws_markText (K : Nat) (w : World) (h1 : 1 ≤ K) (h2 : K ≤ 16777216) :
    Calls Try.prog 72 #[.int .i64 (K : Int)] w (RetStr (markL K) w) := by
  have hlen := digL_len K
  have HLEN := Lib.hid hlen
  clear hlen
  go_enter Try.func72, Try.ntmps72
  go_wp2_with fail
  go_loopw [0, 3] (fun a b wr => ∃ (j : Nat) (u : ByteArray), a = .int .i64 j ∧ b = .string u ∧ j ≤ K ∧ Hid (digL K = digL j ++ u.data.toList) ∧ Below w.heap.size w wr) (fun a _ _ => (intOf a).toNat)
  case atStart => exact ⟨K, ⟨#[]⟩, rfl, rfl, Nat.le_refl _, by show _ = _; simp, Below.refl _ _⟩
  case round =>
    obtain ⟨j, u, rfl, rfl, hj, hd, hb⟩ := hrel
    have hus : u.size ≤ K := by
      have h5 := congrArg List.length hd.out
      rw [List.length_append, len_data] at h5
      have := HLEN.out
      omega
    by_cases h0 : 1 ≤ j
    · have hst := digL_step j h0
      obtain ⟨r, hr, hr9⟩ : ∃ r, j % 10 = r ∧ r ≤ 9 := ⟨_, rfl, by omega⟩
      obtain ⟨q, hq, hqj⟩ : ∃ q, j / 10 = q ∧ q < j := ⟨_, rfl, by omega⟩
      rw [hr, hq] at hst
      have hrem : (j : Int) % 10 = (r : Int) := by rw [← hr]; rfl
      have hrem2 : (j : Int).tmod 10 = (r : Int) := by rw [Int.tmod_eq_emod_of_nonneg (by omega)]; exact hrem
      have hquo : (j : Int) / 10 = (q : Int) := by rw [← hq]; rfl
      have hquo2 : (j : Int).tdiv 10 = (q : Int) := by rw [Int.tdiv_eq_ediv_of_nonneg (by omega)]; exact hquo
      have HST := Lib.hid hst
      have hcv := own_string (P := Try.prog) (src := 48) (dst := 9) [digC r] Try.underlying48 Try.underlying5 Try.underlying9 (own_lit wr 5 1 (bytes [digC r]) rfl (by decide))
      rw [show bytes [digC r] = [Value.int .u8 (48 + (r : Int))] by unfold bytes; rw [List.map_cons, digC_toNat r hr9]; rfl] at hcv
      have hsz : (ByteArray.mk [digC r].toArray).size = 1 := rfl
      clear hst hr hq
      go_wp2_with fail
      go_roundw
      case rel => exact ⟨q, _, by go_num, rfl, by omega, by show _ = _; rw [str_app rfl rfl, hd.out, HST.out, List.append_assoc], hb.alloc hb.size _⟩
      case measure => simp [intOf]; omega
    · obtain rfl : j = 0 := by omega
      go_wp2_with fail
      go_ret
      exact ⟨_, rfl, by rw [str_app rfl rfl]; unfold markL; rw [hd.out, digL_zero]; rfl, hb⟩
def marksT (k n : Nat) : List ByteArray := (List.range n).map fun i => ofL (markL (k + i))
theorem marksT_len (k n : Nat) : (marksT k n).length = n := by simp [marksT]
theorem marksT_at (k n i : Nat) (h : i < n) : (marksT k n)[i]? = some (ofL (markL (k + i))) := by simp [marksT, h]

end Go.Proofs.Ytlddefmakjnfdaa
