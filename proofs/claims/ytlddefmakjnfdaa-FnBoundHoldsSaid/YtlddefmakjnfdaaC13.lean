/- What the laws' reception gives back. Conditions: as each theorem says. -/
import Derived.Test.YtlddefmakjnfdaaC9
namespace Go.Proofs.Ytlddefmakjnfdaa
open Go.RowKit
set_option linter.unusedSimpArgs false
set_option linter.unusedVariables false
set_option maxRecDepth 100000

set_option maxHeartbeats 400000 in
theorem laws_ssUser (A : Option Addr) (n c : Nat) (zs : List Int) (t : ByteArray) (f k : Int) (w : World) (hx : RdI .i64 w A n zs) (hn : n ≤ maxLen) (ht : t.size ≤ 1048576) :
    Calls Try.prog 38 #[.slice A n c, .string t, .int .i64 f, .int .i64 k] w (RetStr (recC zs t.data.toList f k).1 w) := by
  go_enter Try.func38, Try.ntmps38
  go_wp2_with fail
  refine (impl_ReceiveUser A n c zs t f k w hx hn ht).mono ?_
  rintro e w1 ⟨u, rfl, hu, hb⟩
  have HU := Lib.hid hu
  clear hu
  go_wp2_with fail
  go_ret
  exact ⟨u, rfl, HU.out, hb⟩

end Go.Proofs.Ytlddefmakjnfdaa
