/- What the functions of chapter 3 give back, in the program and in the reference. Conditions: as each theorem says. -/
import Derived.Test.YtbkdfflmidgdeaaC2
namespace Go.Proofs.Ytbkdfflmidgdeaa
open Go.RowKit
set_option linter.unusedSimpArgs false
set_option linter.unusedVariables false






end Go.Proofs.Ytbkdfflmidgdeaa
