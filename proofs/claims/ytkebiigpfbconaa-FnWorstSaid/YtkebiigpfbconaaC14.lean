/- What the tables of correlations give back, in the program and in the reference. Conditions: as each theorem says. -/
import Derived.Test.YtkebiigpfbconaaC12
import Derived.Test.YtkebiigpfbconaaRdr
namespace Go.Proofs.Ytkebiigpfbconaa
open Go.RowKit
set_option linter.unusedSimpArgs false
set_option linter.unusedVariables false
set_option maxRecDepth 100000

def pairB (s t : ByteArray) : Bool := seqB s.data.toList && seqB t.data.toList && (s.size == t.size)
def corsL (a b : List UInt8) : List Int := (List.range a.length).map fun k => corL a b k
theorem corsL_len (a b : List UInt8) : (corsL a b).length = a.length := by simp [corsL]
theorem corsL_at (a b : List UInt8) (k : Nat) (h : k < a.length) : (corsL a b)[k]? = some (corL a b k) := by simp [corsL, h]
theorem corsL_step (a b : List UInt8) (k : Nat) (h : k < a.length) : (corsL a b).take (k + 1) = (corsL a b).take k ++ [corL a b k] := take_add _ _ _ (corsL_at a b k h)
def tabL (s t : ByteArray) : List Int := if pairB s t = true then corsL s.data.toList t.data.toList else []
theorem pairB_yes (s t : ByteArray) (h : pairB s t = true) : seqB s.data.toList = true ∧ seqB t.data.toList = true ∧ s.size = t.size ∧ 1 ≤ s.size ∧ s.size ≤ 255 ∧ s.data.toList.all isBit = true ∧ t.data.toList.all isBit = true := by
  unfold pairB at h
  rw [Bool.and_eq_true, Bool.and_eq_true, beq_iff_eq] at h
  have h1 := seqB_bd s h.1.1
  have h2 := h.1.1
  have h3 := h.1.2
  simp only [seqB, Bool.and_eq_true] at h2 h3
  exact ⟨h.1.1, h.1.2, h.2, h1.1, h1.2, h2.2, h3.2⟩
theorem tabL_len (s t : ByteArray) : (tabL s t).length ≤ 255 := by
  unfold tabL
  split
  · rename_i h
    rw [corsL_len, len_data]; exact (pairB_yes s t h).2.2.2.2.1
  · exact Nat.zero_le _
theorem tabL_bd (s t : ByteArray) : ∀ z ∈ tabL s t, -255 ≤ z ∧ z ≤ 255 := by
  intro z hz
  unfold tabL at hz
  split at hz
  · rename_i h
    obtain ⟨k, _, rfl⟩ := List.mem_map.1 hz
    exact corL_bd _ _ _ (by rw [len_data]; exact (pairB_yes s t h).2.2.2.2.1)
  · cases hz
set_option maxHeartbeats 1000000 in
theorem impl_CrossTable (s t : ByteArray) (w : World) (hs : s.size ≤ 1048576) (ht : t.size ≤ 1048576) :
    Calls Try.prog 18 #[.string s, .string t] w (RetI .i64 3 (tabL s t) w) := by
  cases hp : pairB s t
  · have HP := Lib.hid (show (seqB s.data.toList && seqB t.data.toList && (s.size == t.size)) = false from hp)
    rw [show tabL s t = [] by unfold tabL; rw [hp, if_neg (by decide)]]
    clear hp
    go_enter Try.func18, Try.ntmps18
    go_wp2_with (go_at_call 53; refine (impl_sequencesValid _ _ _ hs ht).mono ?_; rintro e w' ⟨rfl, rfl⟩; rw [HP.out])
    go_ret
    exact ⟨none, 0, 0, rfl, World.ownsRow_nil _ _ _ _, Below.refl _ _⟩
  · have HP := Lib.hid (show (seqB s.data.toList && seqB t.data.toList && (s.size == t.size)) = true from hp)
    obtain ⟨_, _, hst, h1, h2, _, _⟩ := pairB_yes s t hp
    have hl : tabL s t = corsL s.data.toList t.data.toList := by unfold tabL; rw [hp, if_pos rfl]
    have HL := Lib.hid (show ((corsL s.data.toList t.data.toList).map (Value.int .i64)).length = s.size by rw [List.length_map, corsL_len, len_data])
    have HAT := Lib.hid (fun k (h : k < s.size) => show ((corsL s.data.toList t.data.toList).map (Value.int .i64))[k]? = some (.int .i64 (corL s.data.toList t.data.toList k)) by rw [List.getElem?_map, corsL_at _ _ _ (by rw [len_data]; exact h)]; rfl)
    rw [hl]
    clear hp hl
    generalize hM : (corsL s.data.toList t.data.toList).map (Value.int .i64) = M at HL HAT
    have HM := Lib.hid hM
    clear hM
    have hmk := run_make_row' (P := Try.prog) 33 3 (.int .i64 0) 8 Try.underlying33 Try.infoI64 rfl .i64 .i64 s.size (by omega) (by omega)
    have HST := Lib.hid hst
    clear hst
    go_enter Try.func18, Try.ntmps18
    go_wp2_with (go_at_call 53; refine (impl_sequencesValid _ _ _ hs ht).mono ?_; rintro e w' ⟨rfl, rfl⟩; rw [HP.out])
    clear hmk
    go_loopw [16] (fun v wr => ∃ k : Nat, k ≤ s.size ∧ v = .int .i64 k ∧ wr.ownsRow w.heap.size 3 1 (.slice (some ⟨w.heap.size, 0, none⟩) s.size s.size) s.size (Fill M (.int .i64 0) k) ∧ Below w.heap.size w wr) (fun v _ => s.size - (intOf v).toNat)
    case atStart => exact ⟨0, Nat.zero_le _, rfl, by rw [fill_zero, HL.out]; exact own_made _ _ _ _ (by unfold maxLen; omega), (Below.refl _ _).alloc (Nat.le_refl _) _⟩
    case round =>
      obtain ⟨k, hk, rfl, ho, hb⟩ := hrel
      by_cases hlt : k < s.size
      · have hz := hb.size
        have HO := Lib.hid ho
        have HB := Lib.hid hb
        clear ho hb
        obtain ⟨wo, rfl⟩ : ∃ wo, wo = wr := ⟨_, rfl⟩
        go_wp2_with fail
        refine (impl_correlation s t k wo (by omega) HST.out (by have := HST.out; omega)).mono ?_
        rintro e w2 ⟨rfl, m, rfl⟩
        have hb2 : Below wo.heap.size wo (wo.drewN m) := below_drewN (Below.refl _ _) m
        obtain ⟨w2, hw2⟩ : ∃ x, x = wo.drewN m := ⟨_, rfl⟩
        rw [← hw2] at hb2 ⊢
        clear hw2
        have ho2 := own_below HO.out hb2
        have hB2 := HB.out.trans (hb2.mono hz)
        have hc := ho2.cellAt k (by omega)
        rw [fill_at _ _ _ (by rw [HL.out]; exact hlt)] at hc
        have hf := ho2.frozenAt k
        have HO2 := Lib.hid ho2
        have HA := Lib.hid (HAT.out k hlt)
        clear ho2 hb2
        generalize corL s.data.toList t.data.toList k = z at HA ⊢
        go_wp2
        go_roundw
        case rel =>
          have hst := HO2.out.stored k (.int .i64 z)
          rw [fill_set _ _ _ _ HA.out] at hst
          exact ⟨k + 1, by omega, by go_num, hst.1, hB2.setCell (Nat.le_refl _) _⟩
        case measure => simp [intOf]; omega
      · rw [fill_full _ _ _ (by rw [HL.out]; omega), ← HM.out] at ho
        have HO := Lib.hid ho
        clear ho
        go_wp2
        go_ret
        exact retI_own HO.out hb
set_option maxHeartbeats 1000000 in
theorem spec_CrossTable (s t : ByteArray) (w : World) (hs : s.size ≤ 1048576) (ht : t.size ≤ 1048576) :
    Calls Try.prog 126 #[.string s, .string t] w (RetI .i64 3 (tabL s t) w) := by
  cases hp : pairB s t
  · have HP := Lib.hid (show (seqB s.data.toList && seqB t.data.toList && (s.size == t.size)) = false from hp)
    rw [show tabL s t = [] by unfold tabL; rw [hp, if_neg (by decide)]]
    clear hp
    go_enter Try.func126, Try.ntmps126
    go_wp2_with fail
    go_loopw [5, 6] (fun s' v wr => v = .int .i64 0 ∧ s' = .slice (some ⟨w.heap.size, 0, none⟩) 0 0 ∧ w.alloc (.cells #[] 3) = wr) (fun _ _ _ => 0)
    case atStart => exact ⟨rfl, rfl, rfl⟩
    case round =>
      obtain ⟨rfl, rfl, hwr⟩ := hrel
      by_cases h0 : 0 < s.size
      all_goals
        go_wp2_with (go_at_call 83; refine (spec_l2Pair _ _ _ hs ht).mono ?_; rintro e w' ⟨rfl, rfl⟩; rw [HP.out])
        go_ret
        rw [← hwr]
        exact ⟨_, _, _, rfl, own_empty w 3 w.heap.size (Nat.le_refl _), (Below.refl _ _).alloc (Nat.le_refl _) _⟩
  · have HP := Lib.hid (show (seqB s.data.toList && seqB t.data.toList && (s.size == t.size)) = true from hp)
    obtain ⟨_, _, hst, h1, h2, hba, hbb⟩ := pairB_yes s t hp
    have hl : tabL s t = corsL s.data.toList t.data.toList := by unfold tabL; rw [hp, if_pos rfl]
    have HL := Lib.hid (show (corsL s.data.toList t.data.toList).length = s.size by rw [corsL_len, len_data])
    have HSTEP := Lib.hid (fun k (h : k < s.size) => corsL_step s.data.toList t.data.toList k (by rw [len_data]; exact h))
    rw [hl]
    clear hp hl
    have HST := Lib.hid hst
    have HBA := Lib.hid (show s.data.toList.all isBit = true ∧ t.data.toList.all isBit = true from ⟨hba, hbb⟩)
    clear hst hba hbb
    generalize hM : corsL s.data.toList t.data.toList = M at HL HSTEP ⊢
    clear hM
    go_enter Try.func126, Try.ntmps126
    go_wp2_with fail
    have HO := Lib.hid (own_empty w 3 w.heap.size (Nat.le_refl _))
    have HB := Lib.hid (show Below w.heap.size w (w.alloc (.cells #[] 3)) from (Below.refl _ _).alloc (Nat.le_refl _) _)
    go_loopw [5, 6] (fun s' v wr => ∃ (k m c : Nat) (A : Option Addr), v = .int .i64 k ∧ s' = .slice A m c ∧ wr.ownsRow w.heap.size 3 1 (.slice A m c) m ((M.take k).map (Value.int .i64)) ∧ k ≤ s.size ∧ Below w.heap.size w wr) (fun _ v _ => s.size - (intOf v).toNat)
    case atStart => exact ⟨0, 0, 0, _, rfl, rfl, HO.out, by omega, HB.out⟩
    case round =>
      obtain ⟨k, m, c, A, rfl, rfl, ho, hk, hb⟩ := hrel
      have hml : m = k := by have := ho.1; rw [List.length_map, List.length_take, HL.out] at this; omega
      have hz := hb.size
      subst hml
      have HO1 := Lib.hid ho
      clear ho HO HB
      by_cases hlt : m < s.size
      · obtain ⟨wo, rfl⟩ : ∃ wo, wo = wr := ⟨_, rfl⟩
        go_wp2_with (go_at_call 83; refine (spec_l2Pair _ _ _ hs ht).mono ?_; rintro e w' ⟨rfl, rfl⟩; rw [HP.out])
        refine (spec_l2Cross s t m wo (by omega) HST.out (by have := HST.out; omega) HBA.out.1 HBA.out.2).mono ?_
        rintro e w2 ⟨rfl, hb2⟩
        have hB2 := hb.trans (hb2.mono hz)
        have hz2 := hb2.size
        have HO2 := Lib.hid (own_below HO1.out hb2)
        have HS := Lib.hid (HSTEP.out m hlt)
        clear hb hb2
        generalize corL s.data.toList t.data.toList m = z at HS ⊢
        go_wp2_with (at_builtin; refine wpList_append_rd _ rfl _ _ 33 rfl w.heap.size 3 (.int .i64 0) 8 Try.underlying33 Try.infoI64 rfl (.slice A m c) _ _ rfl (HO2.out.alloc _) _ _ _ [.int .i64 z] rfl (rd_new _ [.int .i64 z] _ 1 rfl) (by simp [Value.oneCell']) ?_ (by omega) ?_ ?_; omega; simp; omega; intro A' q c' w' hq ho hg; have HQ := Lib.hid hq; have HO3 := Lib.hid ho; have HG := Lib.hid hg; clear hq ho hg)
        go_roundw
        case rel =>
          have hl : ∀ k, Value.ownBlock (.slice A m c) = some k → w.heap.size ≤ k := fun k hk => (HO2.out.lt k hk).1
          exact ⟨m + 1, q, c', A', by go_num, rfl, by rw [HS.out, List.map_append]; exact HO3.out, by omega, (hB2.alloc (by omega) _).grown HG.out (by simp; omega) hl⟩
        case measure => simp [intOf] <;> omega
      · obtain rfl : s.size = m := by omega
        rw [List.take_of_length_le (by rw [HL.out]; exact Nat.le_refl _)] at HO1
        go_wp2_with fail
        go_ret
        exact retI_own HO1.out hb

end Go.Proofs.Ytkebiigpfbconaa
