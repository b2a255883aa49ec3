/- The source of drawn numbers (l9Rd): what its words do. Conditions: as each theorem says. -/
import Derived.Test.YtkebiigpfbconaaLaw
import Derived.OpenShut
namespace Go.Proofs.Ytkebiigpfbconaa
open Go.RowKit
set_option linter.unusedSimpArgs false
set_option linter.unusedVariables false

/-- Below block number B, but for block g, the world w' is as w was. -/
structure Bel (g B : Nat) (w w' : World) : Prop where
  os : w'.os = w.os
  tape : w'.tape = w.tape
  output : w'.output = w.output
  size : w.heap.size ≤ w'.heap.size
  block : ∀ k, k < B → k ≠ g → w'.heap[k]? = w.heap[k]?

theorem Bel.refl (g B : Nat) (w : World) : Bel g B w w := ⟨rfl, rfl, rfl, Nat.le_refl _, fun _ _ _ => rfl⟩
theorem Bel.mono {g B B' : Nat} {w w' : World} (h : Bel g B w w') (hB : B' ≤ B) : Bel g B' w w' := ⟨h.os, h.tape, h.output, h.size, fun k hk hg => h.block k (Nat.lt_of_lt_of_le hk hB) hg⟩
theorem Bel.trans {g : Nat} {a b c : World} (h : Bel g a.heap.size a b) (k : Bel g b.heap.size b c) : Bel g a.heap.size a c :=
  ⟨k.os.trans h.os, k.tape.trans h.tape, k.output.trans h.output, Nat.le_trans h.size k.size, fun i hi hg => (k.block i (Nat.lt_of_lt_of_le hi h.size) hg).trans (h.block i hi hg)⟩
theorem Bel.of_below {g B : Nat} {w w' : World} (h : Below B w w') : Bel g B w w' := ⟨h.os, h.tape, h.output, h.size, fun k hk _ => h.block k hk⟩
theorem Bel.to_below {g B : Nat} {w w' : World} (h : Bel g B w w') (hB : B ≤ g) : Below B w w' := ⟨h.os, h.tape, h.output, h.size, fun k hk => h.block k hk (by omega)⟩
theorem Bel.drew {g B : Nat} {a w : World} (h : Bel g B a w) : Bel g B a w.drew := ⟨h.os, h.tape, h.output, h.size, h.block⟩
theorem Bel.drewN {g B : Nat} {a w : World} (h : Bel g B a w) (n : Nat) : Bel g B a (w.drewN n) := ⟨h.os, h.tape, h.output, h.size, h.block⟩
theorem Bel.setCell {g B : Nat} {a w : World} (h : Bel g B a w) {p : Addr} (hp : p.block = g ∨ B ≤ p.block) (u : Value) : Bel g B a (w.setCell p u) :=
  ⟨h.os, h.tape, h.output, by simpa [World.setCell] using h.size, fun k hk hg => (Below.heap_setCell w p u k (by rcases hp with hp | hp <;> omega)).trans (h.block k hk hg)⟩
theorem own_bel {w w' : World} {g base E s n : Nat} {v : Value} {xs : List Value} (h : w.ownsRow base E s v n xs) (hb : Bel g w.heap.size w w') (hg : g < base) : w'.ownsRow base E s v n xs := by
  refine ⟨h.1, ?_⟩
  rcases h.2 with hn | ⟨q, cap, cur, hv, hbg, hq, rest⟩
  · exact .inl hn
  · exact .inr ⟨q, cap, cur, hv, hbg, (hb.block q (Array.getElem?_eq_some_iff.1 hq).1 (by omega)).trans hq, rest⟩

/-- Block g is a source of numbers of which at most K have been drawn. -/
def Rdr (w : World) (g : Nat) (K : Int) : Prop :=
  ∃ (A : Option Addr) (n c : Nat) (zs : List Int) (p : Int), w.heap[g]? = some (.cells #[.slice A n c, .int .i64 p] 77 (0, 0)) ∧ 0 ≤ p ∧ p ≤ K ∧ zs.length = n ∧ n ≤ 2000 ∧ (∀ z ∈ zs, 0 ≤ z ∧ z ≤ 255) ∧
    (0 < n → ∃ b o, A = some ⟨b, o, none⟩ ∧ b < g ∧ ∀ j u, zs[j]? = some u → w.cell? ⟨b, o + j, none⟩ = some (.int .u8 u))
theorem Rdr.lt {w : World} {g : Nat} {K : Int} (h : Rdr w g K) : g < w.heap.size := by
  obtain ⟨A, n, c, zs, p, h1, _⟩ := h
  exact (Array.getElem?_eq_some_iff.1 h1).1
theorem Rdr.below {w w' : World} {g : Nat} {K : Int} (h : Rdr w g K) (hb : Below w.heap.size w w') : Rdr w' g K := by
  have hl := h.lt
  obtain ⟨A, n, c, zs, p, h1, h2, h3, h4, h5, h6, h7⟩ := h
  refine ⟨A, n, c, zs, p, (hb.block g hl).trans h1, h2, h3, h4, h5, h6, fun hn => ?_⟩
  obtain ⟨b, o, hA, hlt, hc⟩ := h7 hn
  exact ⟨b, o, hA, hlt, fun j u hu => (hb.cell (p := ⟨b, o + j, none⟩) (by show b < _; omega)).trans (hc j u hu)⟩
theorem Rdr.more {w : World} {g : Nat} {K K' : Int} (h : Rdr w g K) (hK : K ≤ K') : Rdr w g K' := by
  obtain ⟨A, n, c, zs, p, h1, h2, h3, h⟩ := h
  exact ⟨A, n, c, zs, p, h1, h2, by omega, h⟩
theorem Rdr.drewN {w : World} {g : Nat} {K : Int} (h : Rdr w g K) (n : Nat) : Rdr (w.drewN n) g K := h

theorem Rdr.grown {w w' : World} {g : Nat} {K : Int} {row : Option Nat} (h : Rdr w g K) (hg : w.grownBy w' row) (hr : ∀ k, row = some k → g < k) : Rdr w' g K := by
  have hl := h.lt
  obtain ⟨A, n, c, zs, p, h1, h2, h3, h4, h5, h6, h7⟩ := h
  refine ⟨A, n, c, zs, p, (hg.block g hl (fun e => by have := hr g e.symm; omega)).trans h1, h2, h3, h4, h5, h6, fun hn => ?_⟩
  obtain ⟨b, o, hA, hlt, hc⟩ := h7 hn
  exact ⟨b, o, hA, hlt, fun j u hu => (World.cell?_of_block (a := ⟨b, o + j, none⟩) (hg.block b (by omega) (fun e => by have := hr b e.symm; omega))).trans (hc j u hu)⟩
theorem Rdr.alloc {w : World} {g : Nat} {K : Int} (h : Rdr w g K) (o : Obj) : Rdr (w.alloc o) g K := h.below ((Below.refl _ _).alloc (Nat.le_refl _) _)
theorem Bel.grown {g B : Nat} {a w w' : World} {row : Option Nat} (h : Bel g B a w) (hg : w.grownBy w' row) (hB : B ≤ w.heap.size) (hr : ∀ k, row = some k → B ≤ k) : Bel g B a w' :=
  ⟨hg.os.trans h.os, hg.tape.trans h.tape, hg.output.trans h.output, Nat.le_trans h.size hg.size, fun k hk hgk => (hg.block k (by omega) (fun e => by have := hr k e.symm; omega)).trans (h.block k hk hgk)⟩
theorem Bel.alloc {g B : Nat} {a w : World} (h : Bel g B a w) (hB : B ≤ w.heap.size) (o : Obj) : Bel g B a (w.alloc o) := h.grown (World.grownBy_alloc w o none) hB (fun k hk => by cases hk)
theorem Bel.trans' {g B : Nat} {a b c : World} (h : Bel g B a b) (k : Bel g b.heap.size b c) (hB : B ≤ b.heap.size) : Bel g B a c :=
  ⟨k.os.trans h.os, k.tape.trans h.tape, k.output.trans h.output, Nat.le_trans h.size k.size, fun i hi hg => (k.block i (by omega) hg).trans (h.block i hi hg)⟩
theorem rd_new (w : World) (L : List Value) (E : TypeId) (n : Nat) (h : L.length = n) : Rd (w.alloc (.cells L.toArray E)) (some ⟨w.heap.size, 0, none⟩) n 1 L := by
  refine ⟨by omega, fun _ => ⟨w.heap.size, 0, rfl, by simp, fun j u hu => ?_⟩⟩
  rw [Nat.zero_add, cell_of_row _ _ j _ _ _ (heap_alloc_new w _)]
  simpa using hu

/-- A number was drawn: m, between 0 and n - 1. -/
def Picked (g : Nat) (n K : Int) (w : World) (e : Ending) (w' : World) : Prop :=
  ∃ m : Int, e = .returned (.int .i64 m) ∧ 0 ≤ m ∧ (1 ≤ n → m < n) ∧ (n < 1 → m = 0) ∧ Bel g w.heap.size w w' ∧ Rdr w' g (K + 1)

set_option maxHeartbeats 2000000 in
theorem rd_pick (g : Nat) (n K : Int) (w : World) (h : Rdr w g K) (hK : K ≤ 1099511627776) (hn : n ≤ 1099511627776) (hn0 : -1099511627776 ≤ n) :
    Calls Try.prog 43 #[.pointer (some ⟨g, 0, none⟩), .int .i64 n] w (Picked g n K w) := by
  obtain ⟨A, q, c, zs, p, h1, h2, h3, h4, h5, h6, h7⟩ := h
  have c0 : w.cell? ⟨g, 0, none⟩ = some (.slice A q c) := by rw [cell_of_row w g 0 _ _ _ h1]; rfl
  have c1 : w.cell? ⟨g, 1, none⟩ = some (.int .i64 p) := by rw [cell_of_row w g 1 _ _ _ h1]; rfl
  have f1 := frozen_of_row w g 1 _ _ h1
  obtain ⟨k, rfl⟩ := Int.eq_ofNat_of_zero_le h2
  have hg : g < w.heap.size := (Array.getElem?_eq_some_iff.1 h1).1
  -- the world behind the call, whatever is drawn
  have hend : ∀ d : Nat, Bel g w.heap.size w ((w.setCell ⟨g, 1, none⟩ (.int .i64 ((k : Int) + 1))).drewN d) ∧ Rdr ((w.setCell ⟨g, 1, none⟩ (.int .i64 ((k : Int) + 1))).drewN d) g (K + 1) := fun d => by
    refine ⟨((Bel.refl g _ w).setCell (.inl rfl) _).drewN d, A, q, c, zs, (k : Int) + 1, ?_, by omega, by omega, h4, h5, h6, fun hq => ?_⟩
    · show (w.setCell ⟨g, 1, none⟩ (.int .i64 ((k : Int) + 1))).heap[g]? = _
      rw [heap_setCell_same w g 1 _ _ _ h1]; rfl
    · obtain ⟨b, o, hA, hlt, hc⟩ := h7 hq
      refine ⟨b, o, hA, hlt, fun j u hu => ?_⟩
      show (w.setCell ⟨g, 1, none⟩ (.int .i64 ((k : Int) + 1))).cell? _ = _
      rw [World.cell?_setCell_other w _ _ _ (fun e => by injection e with e1; omega)]
      exact hc j u hu
  have HEND := Lib.hid hend
  clear hend
  have H1 := Lib.hid h1
  have H4 := Lib.hid h4
  have H6 := Lib.hid h6
  clear h1 h4 h6
  by_cases hn1 : n < 1
  · clear h7
    go_enter Try.func43, Try.ntmps43
    go_wp2
    go_ret
    exact ⟨0, rfl, by omega, fun h => by omega, fun _ => rfl, (HEND.out 0).1, (HEND.out 0).2⟩
  · by_cases hq0 : q = 0
    · have hq : ((q : Int) == 0) = true := by simp; omega
      clear h7 hq0
      go_enter Try.func43, Try.ntmps43
      go_wp2
      go_ret
      exact ⟨0, rfl, by omega, fun h => by omega, fun _ => rfl, (HEND.out 0).1, (HEND.out 0).2⟩
    · have hq : ((q : Int) == 0) = false := by simp; omega
      have hqp : 1 ≤ q := by omega
      obtain ⟨b, o, rfl, hbg, hcell⟩ := h7 (by omega)
      have HC := Lib.hid hcell
      clear h7 hq0 hcell
      have hat : ∀ j, j < q → ∃ x : Int, 0 ≤ x ∧ x ≤ 255 ∧ w.cell? ⟨b, o + j, none⟩ = some (.int .u8 x) := fun j hj => by
        have hl : j < zs.length := by rw [H4.out]; exact hj
        exact ⟨zs[j], (H6.out _ (List.getElem_mem hl)).1, (H6.out _ (List.getElem_mem hl)).2, HC.out j _ (List.getElem?_eq_getElem hl)⟩
      have HAT := Lib.hid hat
      clear hat
      by_cases hk : k < q
      · obtain ⟨x, hx0, hx1, hcx⟩ := HAT.out k hk
        have hmod0 : 0 ≤ x % n := Int.emod_nonneg _ (by omega)
        have hmod1 : x % n < n := Int.emod_lt_of_pos _ (by omega)
        go_enter Try.func43, Try.ntmps43
        go_wp2
        go_ret
        exact ⟨x % n, rfl, hmod0, fun _ => hmod1, fun h => by omega, (HEND.out 0).1, (HEND.out 0).2⟩
      · have hqn : ¬ q = 0 := by omega
        obtain ⟨r1, m1, hr1⟩ : ∃ r : Nat, ((k : Int).tmod (q : Int)) = (r : Int) ∧ r < q := ⟨k % q, by rw [Int.tmod_eq_emod_of_nonneg (by omega)]; rfl, Nat.mod_lt _ (by omega)⟩
        obtain ⟨r2, m2, hr2⟩ : ∃ r : Nat, (((k : Int) * 7 + 3).tmod (q : Int)) = (r : Int) ∧ r < q := ⟨(k * 7 + 3) % q, by rw [Int.tmod_eq_emod_of_nonneg (by omega)]; rfl, Nat.mod_lt _ (by omega)⟩
        have M1 := Lib.hid m1
        have M2 := Lib.hid m2
        clear m1 m2
        obtain ⟨x, hx0, hx1, hcx⟩ := HAT.out r1 hr1
        obtain ⟨y, hy0, hy1, hcy⟩ := HAT.out r2 hr2
        go_enter Try.func43, Try.ntmps43
        go_wp2
        have w0 : (w.setCell ⟨g, 1, none⟩ (.int .i64 ((k : Int) + 1))).cell? ⟨g, 0, none⟩ = some (.slice (some ⟨b, o, none⟩) q c) := by rw [World.cell?_setCell_other w _ _ _ (by simp)]; exact c0
        have wx : (w.setCell ⟨g, 1, none⟩ (.int .i64 ((k : Int) + 1))).cell? ⟨b, o + r1, none⟩ = some (.int .u8 x) := by rw [World.cell?_setCell_other w _ _ _ (fun e => by injection e with e1; omega)]; exact hcx
        have wy : (w.setCell ⟨g, 1, none⟩ (.int .i64 ((k : Int) + 1))).cell? ⟨b, o + r2, none⟩ = some (.int .u8 y) := by rw [World.cell?_setCell_other w _ _ _ (fun e => by injection e with e1; omega)]; exact hcy
        clear c0 c1 hcx hcy f1
        generalize hW : w.setCell ⟨g, 1, none⟩ (.int .i64 ((k : Int) + 1)) = W at *
        have HW := Lib.hid hW
        clear hW
        have l1 : (r1 : Int) < (q : Int) := by omega
        have l2 : (r2 : Int) < (q : Int) := by omega
        have s1 : IntKind.i64.wrap (x * 131) = x * 131 := IntWalk.i64_in _ (by omega)
        have s2 : IntKind.i64.wrap ((k : Int) * 7) = (k : Int) * 7 := IntWalk.i64_in _ (by omega)
        have s3 : IntKind.i64.wrap ((k : Int) * 7 + 3) = (k : Int) * 7 + 3 := IntWalk.i64_in _ (by omega)
        have s4 : IntKind.i64.wrap (y * 1117) = y * 1117 := IntWalk.i64_in _ (by omega)
        have s5 : IntKind.i64.wrap (x * 131 + y * 1117) = x * 131 + y * 1117 := IntWalk.i64_in _ (by omega)
        have s6 : IntKind.i64.wrap ((k : Int) * 29) = (k : Int) * 29 := IntWalk.i64_in _ (by omega)
        have s7 : IntKind.i64.wrap (x * 131 + y * 1117 + (k : Int) * 29) = x * 131 + y * 1117 + (k : Int) * 29 := IntWalk.i64_in _ (by omega)
        obtain ⟨d, hd, hdk⟩ : ∃ d : Nat, (k : Int).tdiv (q : Int) = (d : Int) ∧ d ≤ k := ⟨k / q, by rw [Int.tdiv_eq_ediv_of_nonneg (by omega)]; rfl, Nat.div_le_self k q⟩
        have m1 := M1.out
        have m2 := M2.out
        have s8 : IntKind.i64.wrap (d : Int) = (d : Int) := IntWalk.i64_in _ (by omega)
        have s9 : IntKind.i64.wrap ((d : Int) * 53) = (d : Int) * 53 := IntWalk.i64_in _ (by omega)
        have s10 : IntKind.i64.wrap (x * 131 + y * 1117 + (k : Int) * 29 + (d : Int) * 53) = x * 131 + y * 1117 + (k : Int) * 29 + (d : Int) * 53 := IntWalk.i64_in _ (by omega)
        go_quiet (fail)
        clear s1 s2 s3 s4 s5 s6 s7 s8 s9 s10 m1 m2 hd
        obtain ⟨v, hv⟩ := Int.eq_ofNat_of_zero_le (show 0 ≤ x * 131 + y * 1117 + (k : Int) * 29 + (d : Int) * 53 by omega)
        have hvb : v ≤ 1099511627776000 := by omega
        rw [hv]
        obtain ⟨u, hu⟩ : ∃ u : Nat, bits BinOp.xor IntKind.i64 (v : Int) ((v : Int) / 64) = (u : Int) := ⟨v ^^^ v / 64, xor_i64 v (v / 64) (by omega) (by omega)⟩
        have hmod0 : 0 ≤ (u : Int) % n := Int.emod_nonneg _ (by omega)
        have hmod1 : (u : Int) % n < n := Int.emod_lt_of_pos _ (by omega)
        clear hv
        go_wp2
        go_ret
        exact ⟨(u : Int) % n, rfl, hmod0, fun _ => hmod1, fun h => by omega, (HEND.out _).1, (HEND.out _).2⟩

/-- A source was opened: a new block. -/
def Opened (w : World) (e : Ending) (w' : World) : Prop := ∃ g, e = .returned (.pointer (some ⟨g, 0, none⟩)) ∧ w.heap.size ≤ g ∧ Rdr w' g 0 ∧ Below w.heap.size w w'

set_option maxHeartbeats 400000 in
theorem rd_open (A : Option Addr) (n c : Nat) (zs : List Int) (w : World) (h : RowIn .u8 w A n c zs) :
    Calls Try.prog 40 #[.slice A n c] w (Opened w) := by
  obtain ⟨hx, hnc, hcm, hz⟩ := h
  have hl := hx.len
  have hbyte : ∀ z ∈ zs, 0 ≤ z ∧ z ≤ 255 := fun z hzz => bounds_u8 (hz z hzz)
  have key : ∀ m, m ≤ n → m ≤ 2000 → Rdr (w.alloc (.cells #[.slice A m c, .int .i64 0] 77)) w.heap.size 0 := fun m hm hm2 => by
    refine ⟨A, m, c, zs.take m, 0, heap_alloc_new w _, by omega, by omega, by rw [List.length_take]; omega, hm2, fun z hzz => hbyte z (List.mem_of_mem_take hzz), fun hp => ?_⟩
    obtain ⟨b, o, hA, hlt, hc⟩ := hx.2 (by omega)
    refine ⟨b, o, hA, hlt, fun j u hu => ?_⟩
    rw [World.cell?_alloc_lt _ _ _ (by exact hlt)]
    rw [List.getElem?_take] at hu
    split at hu
    · exact hc j _ (by rw [List.getElem?_map, hu]; rfl)
    · cases hu
  have KEY := Lib.hid key
  clear key hz hbyte hx hl
  unfold maxLen at hcm
  by_cases h2 : 2000 < n
  · go_enter Try.func40, Try.ntmps40
    go_wp2
    go_ret
    exact ⟨_, rfl, Nat.le_refl _, KEY.out 2000 (by omega) (by omega), (Below.refl _ _).alloc (Nat.le_refl _) _⟩
  · go_enter Try.func40, Try.ntmps40
    go_wp2
    go_ret
    exact ⟨_, rfl, Nat.le_refl _, KEY.out n (by omega) (by omega), (Below.refl _ _).alloc (Nat.le_refl _) _⟩

/-- One of the numbers zs was drawn. -/
def OneOf (g : Nat) (zs : List Int) (K : Int) (w : World) (e : Ending) (w' : World) : Prop :=
  ∃ x : Int, e = .returned (.int .i64 x) ∧ x ∈ zs ∧ Bel g w.heap.size w w' ∧ Rdr w' g (K + 1)
set_option maxHeartbeats 400000 in
theorem rd_num (g B : Nat) (A : Option Addr) (n c : Nat) (zs : List Int) (K : Int) (w : World) (h : Rdr w g K) (hK : K ≤ 1099511627776) (ho : w.ownsRow B 3 1 (.slice A n c) n (zs.map (Value.int .i64))) (hB : g < B) (hn : 1 ≤ n) (hn2 : n ≤ 1048576) :
    Calls Try.prog 42 #[.pointer (some ⟨g, 0, none⟩), .slice A n c] w (OneOf g zs K w) := by
  have HO := Lib.hid ho
  clear ho
  go_enter Try.func42, Try.ntmps42
  go_wp2_with fail
  refine (rd_pick _ _ _ _ h hK (by omega) (by omega)).mono ?_
  rintro e w1 ⟨m, rfl, hm0, hm1, hm2, hb, hr⟩
  obtain ⟨j, rfl⟩ := Int.eq_ofNat_of_zero_le hm0
  have hj : j < n := by have := hm1 (by omega); omega
  have ho1 := own_bel HO.out hb hB
  obtain ⟨b, o, x, rfl, hbb, hxx, hcx⟩ := (own_rdI ho1).at hj
  clear hm1 hm2 ho1
  go_wp2_with fail
  go_ret
  exact ⟨x, rfl, List.mem_of_getElem? hxx.out, hb, hr⟩
theorem rd_num_lit (g : Nat) (L : List Int) (cs : Array Value) (n : Nat) (K : Int) (w : World) (h : Rdr w g K) (hK : K ≤ 1099511627776) (hcs : cs = (L.map (Value.int .i64)).toArray) (hn : L.length = n) (h1 : 1 ≤ n) (h2 : n ≤ 1048576) :
    Calls Try.prog 42 #[.pointer (some ⟨g, 0, none⟩), .slice (some ⟨w.heap.size, 0, none⟩) n n] (w.alloc (.cells cs 3)) (OneOf g L K w) := by
  subst hcs
  have ho := own_lit w 3 n (L.map (Value.int .i64)) (by rw [List.length_map]; exact hn) (by unfold maxLen; omega)
  refine (rd_num g w.heap.size _ n n L K _ (h.alloc _) hK ho h.lt h1 h2).mono ?_
  rintro e w' ⟨x, he, hx, hb, hr⟩
  exact ⟨x, he, hx, ((Bel.refl g _ w).alloc (Nat.le_refl _) _).trans' hb (by simp), hr⟩

end Go.Proofs.Ytkebiigpfbconaa
