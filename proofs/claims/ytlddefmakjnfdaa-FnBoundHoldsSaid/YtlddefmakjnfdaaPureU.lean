/- The data of a user that sends is received: plain law. Conditions: as each theorem says. -/
import Derived.Test.YtlddefmakjnfdaaUsr4
import Derived.Test.YtlddefmakjnfdaaPureX
namespace Go.Proofs.Ytlddefmakjnfdaa
open Go.RowKit
set_option linter.unusedSimpArgs false
set_option linter.unusedVariables false

theorem minK_all (t : Nat → Int) (X : Int) : ∀ k, (∀ i, i < k → t i = X) → 0 < k → minK t k = X
  | 0, _, h => absurd h (by omega)
  | k + 1, h, _ => by
    by_cases hc : k = 0 ∨ t k < minK t k
    · rw [minK_lo t k hc]; exact h k (by omega)
    · rw [minK_hi t k hc]
      exact minK_all t X k (fun i hi => h i (by omega)) (by omega)
theorem holds_rec (s : List Int) (c d : List UInt8) (f : Nat) (a : Int) (hs : sigB s = true) (hc : seqB c = true) (hd : bitsB d = true) (hf : f ≤ 3000) (ha : 0 < a) (h : ∀ i, i < d.length → holdsAt s c (f + i * c.length) (chipI (d.getD i 48) * a)) :
    recC s c f d.length = (d, true) ∧ (d ≠ [] → margC s c f d = (a * c.length, true)) := by
  have hd2 : d.length ≤ 600 ∧ d.all isBit = true := by have h1 := hd; unfold bitsB at h1; simpa only [Bool.and_eq_true, decide_eq_true_eq] using h1
  have hc2 : 1 ≤ c.length := by have h2 := hc; unfold seqB at h2; simp only [Bool.and_eq_true, decide_eq_true_eq] at h2; exact h2.1.1
  have hcc : ∀ i, i < d.length → corrC s c (f + i * c.length) = chipI (d.getD i 48) * (a * c.length) := fun i hi => by
    rw [corr_holds s c _ _ (h i hi), Int.mul_assoc]
  have hac : 0 < a * c.length := Int.mul_pos ha (by omega)
  constructor
  · unfold recC
    rw [if_pos (lisB_mk s c f d.length hs hc hf hd2.1), Int.toNat_natCast, Int.toNat_natCast]
    refine Prod.ext ?_ rfl
    refine signs_back d hd2.2 _ (desL_len _ _ _ _) fun i x hi hx => ?_
    rw [desL_at _ _ _ _ _ hi] at hx
    obtain rfl := Option.some.inj hx
    rw [hcc i hi]
    exact sign_chipA _ _ (bit_getD d hd2.2 i hi) hac
  · intro hne
    unfold margC
    rw [if_pos (show margOk s c f d from ⟨hs, hc, (within_iff _ _ _).2 ⟨by omega, by omega⟩, hd, hne⟩), Int.toNat_natCast]
    refine Prod.ext ?_ rfl
    refine minK_all _ _ _ (fun i hi => ?_) (by cases d with | nil => exact absurd rfl hne | cons a b => simp)
    unfold margT
    rw [hcc i hi, Int.mul_comm (chipI _), Int.mul_assoc, chipI_sq, Int.mul_one]
theorem getD_pad (k : Nat) (zs : List Int) (i : Nat) : (List.replicate k (0 : Int) ++ zs).getD (k + i) 0 = zs.getD i 0 := by
  rw [List.getD_eq_getElem?_getD, List.getElem?_append_right (by rw [List.length_replicate]; omega), List.length_replicate, show k + i - k = i by omega, List.getD_eq_getElem?_getD]
theorem getD_map_mul (g : Int) (zs : List Int) (i : Nat) : (zs.map (g * ·)).getD i 0 = g * zs.getD i 0 := by
  rw [List.getD_eq_getElem?_getD, List.getElem?_map, List.getD_eq_getElem?_getD]
  cases zs[i]? with
  | none => show (0 : Int) = g * 0; omega
  | some x => rfl
theorem sig_holds (c d : ByteArray) (g : Int) (l : Nat) (i : Nat) (hi : i < d.data.toList.length) :
    holdsAt (sigU (c, d, g, (l : Int))) c.data.toList (l + i * c.data.toList.length) (chipI (d.data.toList.getD i 48) * g) := by
  intro j hj
  unfold sigU
  rw [Int.toNat_natCast, Nat.add_assoc, getD_pad, getD_map_mul, spread_getD _ _ i j hi hj]
  rw [Int.mul_comm (chipI (d.data.toList.getD i 48)) g, Int.mul_assoc]
theorem sig_sig (u : ByteArray × ByteArray × Int × Int) (h : userU u = true) : sigB (sigU u) = true := by
  have := sigU_bd u h
  exact bdI_sig 1000 _ this.1 (by omega) this.2
theorem sig_rec (c d : ByteArray) (g : Int) (l : Nat) (h : userU (c, d, g, (l : Int)) = true) (hg : 0 < g) :
    recC (sigU (c, d, g, (l : Int))) c.data.toList l d.data.toList.length = (d.data.toList, true) ∧ (d.data.toList ≠ [] → margC (sigU (c, d, g, (l : Int))) c.data.toList l d.data.toList = (g * c.data.toList.length, true)) := by
  have hb := user_bd c d g l h
  exact holds_rec _ _ _ _ _ (sig_sig _ h) hb.1 hb.2.2.2.2.1 (by omega) hg fun i hi => sig_holds c d g l i hi
theorem user_one (c d : ByteArray) (g l : Int) (h : userU (c, d, g, l) = true) : userU (c, d, 1, l) = true := by
  unfold userU userB at *
  simp only [Bool.and_eq_true] at *
  obtain ⟨⟨⟨⟨h1, h2⟩, h3⟩, h4⟩, h5⟩ := h
  exact ⟨⟨⟨⟨h1, h2⟩, by decide⟩, h4⟩, h5⟩
theorem clip_sigU (c d : ByteArray) (g l : Int) (h : userU (c, d, g, l) = true) (hg : 0 < g) : clipC (sigU (c, d, g, l)) 1 = (sigU (c, d, 1, l), true) := by
  unfold clipC
  rw [if_pos ⟨sig_sig _ h, by decide⟩]
  refine Prod.ext ?_ rfl
  unfold sigU
  show (List.replicate l.toNat 0 ++ (spreadL d.data.toList c.data.toList).map (g * ·)).map (clipI 1) = List.replicate l.toNat 0 ++ (spreadL d.data.toList c.data.toList).map (1 * ·)
  rw [List.map_append, List.map_map, List.map_replicate, show clipI 1 0 = 0 from rfl]
  congr 1
  apply List.map_congr_left
  intro x hx
  have h2 := spreadL_bd _ _ x hx
  show clipI 1 (g * x) = 1 * x
  have h5 : x = -1 ∨ x = 0 ∨ x = 1 := by omega
  unfold clipI
  rcases h5 with rfl | rfl | rfl
  · omega
  · rw [Int.mul_zero]; rfl
  · omega
theorem addL_nil (xs : List Int) : addL [] xs = xs := by
  unfold addL
  apply List.ext_getElem?
  intro i
  rw [List.getElem?_map]
  by_cases hi : i < xs.length
  · rw [List.getElem?_range (by simp; exact hi), List.getElem?_eq_getElem hi, Option.map_some, List.getD_eq_getElem?_getD (l := xs), List.getElem?_eq_getElem hi]
    simp
  · rw [List.getElem?_eq_none (by simp; omega), List.getElem?_eq_none (by omega)]; rfl
theorem send_one (u : ByteArray × ByteArray × Int × Int) (h : userU u = true) : sendC [u] = (sigU u, true) := by
  unfold sendC
  rw [if_pos (show usersB [u] = true by unfold usersB; simp [h])]
  unfold sendL
  rw [List.foldl_cons, List.foldl_nil, addL_nil]

end Go.Proofs.Ytlddefmakjnfdaa
