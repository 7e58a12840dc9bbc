/- What the program's GetRec reads. Conditions: none. -/
import Derived.Test.YtocknibhajihmaaKwB4S
set_option linter.unusedVariables false
set_option linter.unusedSimpArgs false
namespace Go.Proofs.Ytocknibhajihmaa
open Go.Kw

theorem ok0 : okP 0 := rfl
end Go.Proofs.Ytocknibhajihmaa
