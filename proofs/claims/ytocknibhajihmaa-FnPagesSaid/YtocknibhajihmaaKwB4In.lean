/- What comes in, by its kinds. Conditions: none. -/
import Derived.Test.YtocknibhajihmaaKwB4T
import Derived.Test.YtocknibhajihmaaKwM
set_option linter.unusedVariables false
namespace Go.Proofs.Ytocknibhajihmaa
open Go.Kw
theorem tr_5 : Tr Try.prog 5 (Kd.int .u8) (fun n => (Lit.int .u8 n).wf = true) := Tr.int (by kernel_rfl)
theorem tr_24 : Tr Try.prog 24 (Kd.slice (Kd.int .u8)) (fun xs => (xs.length ≤ maxLen ∧ ∀ q1 ∈ xs, (Lit.int .u8 q1).wf = true)) := Tr.slice (e := 5) (by kernel_rfl) (by kernel_rfl) (by decide) tr_5
end Go.Proofs.Ytocknibhajihmaa
