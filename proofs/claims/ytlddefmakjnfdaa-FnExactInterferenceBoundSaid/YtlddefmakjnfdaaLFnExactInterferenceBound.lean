/- The walk of the law on InterferenceBound. Conditions: as the theorem says. -/
import Derived.Test.YtlddefmakjnfdaaUsr3
namespace Go.Proofs.Ytlddefmakjnfdaa
open Go.RowKit
set_option linter.unusedSimpArgs false
set_option linter.unusedVariables false
set_option maxRecDepth 100000

set_option maxHeartbeats 2000000 in
theorem walk_FnExactInterferenceBound (A : Option Addr) (n c : Nat) (us : List (ByteArray × ByteArray × Int × Int)) (k : Int) (w : World) (h0 : RowUs w A n c us) (h1 : -9223372036854775808 ≤ k ∧ k ≤ 9223372036854775807) :
    Calls Try.prog 8 #[.slice A n c, .int .i64 k] w fun e w' => e = .returned (.bool true) ∧ Below w.heap.size w w' := by
  obtain ⟨hx, hnc, hcm, hsz⟩ := h0
  clear h1
  go_enter Try.func8, Try.ntmps8
  go_wp2_with fail
  refine (laws_szUserS A n c us w hx (Nat.le_trans hnc hcm) hsz).mono ?_
  rintro e w1 ⟨r, rfl, hr, hB1⟩
  have hS1 := hB1.size
  rcases hr with hr | ⟨hr, hn, hs⟩
  · go_wp2_with fail
    go_ret
    exact ⟨rfl, hB1⟩
  · clear hnc hcm hsz
    go_wp2_with fail
    refine (laws_toUserS A n c us w1 (Rd.below hx hB1) hn).mono ?_
    rintro e w2 ⟨Ap, np, cp, rfl, ho, hb⟩
    obtain rfl : n = np := by have := ownU_num ho; have := hx.len; omega
    have Op := Lib.hid ho
    clear ho
    have hB2 := hB1.trans (hb.mono hS1)
    have hS2 := hB2.size
    clear hb
    go_wp2_with fail
    refine (spec_InterferenceBound _ _ _ us k w2 (own_rdU Op.out) hn hs).mono ?_
    rintro e w3 ⟨rfl, hb⟩
    have hB3 := hB2.trans (hb.mono hS2)
    have hS3 := hB3.size
    clear hb Op
    go_wp2_with fail
    refine (laws_toUserS A n c us w3 (Rd.below hx hB3) hn).mono ?_
    rintro e w4 ⟨Ax, nx, cx, rfl, ho, hb⟩
    obtain rfl : n = nx := by have := ownU_num ho; have := hx.len; omega
    have Ox := Lib.hid ho
    clear ho
    have hB4 := hB3.trans (hb.mono hS3)
    have hS4 := hB4.size
    clear hb
    go_wp2_with fail
    refine (impl_InterferenceBound _ _ _ us k w4 (own_rdU Ox.out) hn hs).mono ?_
    rintro e w5 ⟨rfl, hb⟩
    have Cx := Lib.hid (own_below Ox.out hb)
    have hB5 := hB4.trans (hb.mono hS4)
    have hS5 := hB5.size
    clear hb Ox
    have heq : (intfC us k != intfC us k) = false := by simp
    go_wp2_with fail
    refine (laws_toUserS A n c us w5 (Rd.below hx hB5) hn).mono ?_
    rintro e w6 ⟨Ay, ny, cy, rfl, ho, hb⟩
    have Oy := Lib.hid ho
    have Cx6 := Lib.hid (own_below Cx.out hb)
    clear ho
    have hB6 := hB5.trans (hb.mono hS5)
    have hS6 := hB6.size
    clear hb Cx
    go_wp2_with fail
    refine (laws_eqUserS _ _ _ _ _ _ us us w6 (own_rdU Cx6.out) (own_rdU Oy.out) hn).mono ?_
    rintro e w7 ⟨rfl, hb⟩
    go_wp2_with fail
    go_ret
    exact ⟨rfl, hB6.trans (hb.mono hS6)⟩

end Go.Proofs.Ytlddefmakjnfdaa
