/- Draws of users: one user, lists. Conditions: as each theorem says. -/
import Derived.Test.YtlddefmakjnfdaaDrawU
namespace Go.Proofs.Ytlddefmakjnfdaa
open Go.RowKit
set_option linter.unusedSimpArgs false
set_option linter.unusedVariables false
set_option maxRecDepth 100000

theorem own_bel_ne {w w' : World} {g B base E s n : Nat} {v : Value} {xs : List Value} (h : w.ownsRow base E s v n xs) (hb : Bel g B w w') (hg : ∀ k, v.ownBlock = some k → k ≠ g ∧ k < B) : w'.ownsRow base E s v n xs := by
  refine ⟨h.1, ?_⟩
  rcases h.2 with hn | ⟨q, cap, cur, hv, hbg, hq, rest⟩
  · exact .inl hn
  · subst hv
    exact .inr ⟨q, cap, cur, rfl, hbg, (hb.block q (hg q rfl).2 (hg q rfl).1).trans hq, rest⟩
theorem Bel.trans2 {g B C : Nat} {a b c : World} (h : Bel g B a b) (k : Bel g C b c) (hB : B ≤ C) : Bel g B a c :=
  ⟨k.os.trans h.os, k.tape.trans h.tape, k.output.trans h.output, Nat.le_trans h.size k.size, fun i hi hg => (k.block i (by omega) hg).trans (h.block i hi hg)⟩
def DrewU (w : World) (e : Ending) (w' : World) : Prop :=
  ∃ (c d : ByteArray) (a l : Int), e = .returned (.agg #[.string c, .string d, .int .i64 a, .int .i64 l]) ∧ c.size ≤ 6000 ∧ d.size ≤ 6000 ∧ Below w.heap.size w w'
set_option maxHeartbeats 2000000 in
theorem spec_DrawUserValid (A : Option Addr) (n c : Nat) (zs : List Int) (w : World) (hx : RowIn .u8 w A n c zs) :
    Calls Try.prog 45 #[.slice A n c] w (DrewU w) := by
  go_enter Try.func45, Try.ntmps45
  go_wp2_with fail
  have ho0 := own_lit w 55 4 [.string ⟨#[]⟩, .string ⟨#[]⟩, .int .i64 0, .int .i64 0] rfl (by decide)
  replace ho0 : (w.alloc (.cells #[.string ⟨#[]⟩, .string ⟨#[]⟩, .int .i64 0, .int .i64 0] 55)).ownsRow w.heap.size 55 1 (.slice (some ⟨w.heap.size, 0, none⟩) 4 4) 4 [.string ⟨#[]⟩, .string ⟨#[]⟩, .int .i64 0, .int .i64 0] := ho0
  have hx0 : RowIn .u8 (w.alloc (.cells #[.string ⟨#[]⟩, .string ⟨#[]⟩, .int .i64 0, .int .i64 0] 55)) A n c zs := ⟨Rd.below hx.1 ((Below.refl _ w).alloc (Nat.le_refl _) (.cells #[.string ⟨#[]⟩, .string ⟨#[]⟩, .int .i64 0, .int .i64 0] 55)), hx.2⟩
  have hB0 : Below w.heap.size w (w.alloc (.cells #[.string ⟨#[]⟩, .string ⟨#[]⟩, .int .i64 0, .int .i64 0] 55)) := (Below.refl _ w).alloc (Nat.le_refl _) _
  have hz0 : (w.alloc (.cells #[.string ⟨#[]⟩, .string ⟨#[]⟩, .int .i64 0, .int .i64 0] 55)).heap.size = w.heap.size + 1 := by simp
  generalize w.alloc (.cells #[.string ⟨#[]⟩, .string ⟨#[]⟩, .int .i64 0, .int .i64 0] 55) = w0 at *
  refine (rd_open _ _ _ _ _ hx0).mono ?_
  rintro e w1 ⟨g, rfl, hg, hr1, hb1⟩
  have ho1 := own_below ho0 hb1
  have hs1 := hb1.size
  have hB1 : Bel g w0.heap.size w0 w1 := Bel.of_below hb1
  have hne : ∀ B, w.heap.size < B → ∀ k, Value.ownBlock (.slice (some ⟨w.heap.size, 0, none⟩) 4 4) = some k → k ≠ g ∧ k < B := fun B hB k e => by have e' : some w.heap.size = some k := e; injection e' with e'; omega
  clear ho0 hb1
  go_wp2_with fail
  refine (spec_l4Code g _ w1 hr1 (by omega)).mono ?_
  rintro e w2 ⟨t, rfl, ht, ht1, ht2, hb2, hr2⟩
  have hgl := hr1.lt
  have ho2 := own_bel_ne ho1 hb2 (hne _ (by omega))
  have hB2 := hB1.trans' hb2 hs1
  have hs2 := hB2.size
  clear ho1 hb2 ht hr1
  go_wp2_with fail
  refine (spec_l4User g t _ w2 hr2 (by omega)).mono ?_
  rintro e w3 ⟨d, a, l, rfl, hd, hb3, hr3⟩
  have hgl3 := hr3.lt
  have ho3 := own_bel_ne ho2 hb3 (hne _ (by omega))
  have hB3 := hB2.trans' hb3 hs2
  have hs3 := hB3.size
  clear ho2 hb3 hr2
  have hol := World.ownsRow_lit (base := w3.heap.size) (e := 55) (size := 4) w3 #[.string t, .string d, .int .i64 a, .int .i64 l] 1 (Nat.le_refl _) (by decide) (by simp)
  have hr4 := hr3.alloc (.cells #[.string t, .string d, .int .i64 a, .int .i64 l] 55)
  have ho4 := own_below ho3 ((Below.refl _ w3).alloc (Nat.le_refl _) (.cells #[.string t, .string d, .int .i64 a, .int .i64 l] 55))
  have hB4 := hB3.alloc hs3 (.cells #[.string t, .string d, .int .i64 a, .int .i64 l] 55)
  have hz4 : (w3.alloc (.cells #[.string t, .string d, .int .i64 a, .int .i64 l] 55)).heap.size = w3.heap.size + 1 := by simp
  go_wp2_with fail
  generalize w3.alloc (.cells #[.string t, .string d, .int .i64 a, .int .i64 l] 55) = w4 at *
  refine (spec_l4BadList g w3.heap.size _ 1 1 [(t, d, a, l)] _ w4 hr4 (by omega) hol (by omega) (by omega) (by omega) (by omega) (fun u hu => by rw [List.mem_singleton] at hu; subst hu; exact ⟨by show t.size ≤ 100; omega, by show d.size ≤ 100; omega⟩)).mono ?_
  rintro e w5 ⟨⟨A', n', c', us, rfl, ho, hn9, hsz, hb5, hr5⟩, h1⟩
  have h1' := h1 _ _ _ rfl
  have ho5 := own_bel_ne ho4 hb5 (hne _ (by omega))
  obtain ⟨G, rfl, hBG, hGl⟩ := own_some ho (show 0 < n' by omega)
  obtain ⟨b, o, y1, y2, y3, y4, hbo, hgl', hyy, he1, he2, he3, he4⟩ := (own_rdU ho).at (show 0 < n' by omega)
  injection hbo with hbo
  injection hbo with hbo1 hbo2
  subst hbo1
  subst hbo2
  rw [Nat.zero_mul, Nat.zero_add] at he1 he2 he3 he4
  have hy := hsz _ (List.mem_of_getElem? hyy.out)
  have hB5 := hB4.trans2 hb5 (by omega)
  have c0 : w5.cell? ⟨w.heap.size, 0, none⟩ = some (.string ⟨#[]⟩) := ho5.cellAt 0 (by omega)
  have c1 : w5.cell? ⟨w.heap.size, 1, none⟩ = some (.string ⟨#[]⟩) := ho5.cellAt 1 (by omega)
  have c2 : w5.cell? ⟨w.heap.size, 2, none⟩ = some (.int .i64 0) := ho5.cellAt 2 (by omega)
  have c3 : w5.cell? ⟨w.heap.size, 3, none⟩ = some (.int .i64 0) := ho5.cellAt 3 (by omega)
  have f0 := ho5.frozenAt 0
  have f1 := ho5.frozenAt 1
  have f2 := ho5.frozenAt 2
  have f3 := ho5.frozenAt 3
  have t1 := ho5.stored 0 (.string y1)
  have t2 := t1.1.stored 1 (.string y2)
  have t3 := t2.1.stored 2 (.int .i64 y3)
  have t4 := t3.1.stored 3 (.int .i64 y4)
  have HG := Lib.hid (grown_trans t1.2 (grown_trans t2.2 (grown_trans t3.2 t4.2)))
  have hBf := hB0.trans ((hB5.to_below hg).mono (show w.heap.size ≤ w0.heap.size by omega))
  have hz5 := hB5.size
  clear t1 t2 t3 t4 ho5 ho hol ho3 ho4
  go_wp2_with fail
  refine bodyPost_ret (v := .agg #[.string y1, .string y2, .int .i64 y3, .int .i64 y4]) (by simp [results, Try.results45, go_sem, c0, c1, c2, c3]) rfl ?_
  exact ⟨y1, y2, y3, y4, rfl, hy.1, hy.2, hBf.grown HG.out (by omega) (fun j hj => by have e' : some w.heap.size = some j := hj; injection e' with e'; omega)⟩
