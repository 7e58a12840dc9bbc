/- What comes in, by its kinds. Conditions: none. -/
import Derived.Test.YtbcpkopchnlefaaKwYT
import Derived.Test.YtbcpkopchnlefaaKwM
set_option linter.unusedVariables false
namespace Go.Proofs.Ytbcpkopchnlefaa
open Go.Kw
theorem tr_3 : Tr Try.prog 3 (Kd.int .i64) (fun n => (Lit.int .i64 n).wf = true) := Tr.int (by kernel_rfl)
def wTGrant (x : TGrant) : Prop := (Lit.int .i64 x.Tx).wf = true ∧ (Lit.int .i64 x.Res).wf = true ∧ (Lit.int .i64 x.Mode).wf = true ∧ True
theorem tr_83 : Tr Try.prog 83 kTGrant wTGrant := Tr.structL (l := [(0, 3), (1, 3), (2, 3)]) rfl (fun p => ⟨p.1, p.2.1, p.2.2.1⟩) (fun _ => rfl) (by kernel_rfl) (by kernel_rfl) (fun _ h => h) (TrF.cons (by kernel_rfl) tr_3 (TrF.cons (by kernel_rfl) tr_3 (TrF.cons (by kernel_rfl) tr_3 TrF.nil)))
theorem tr_35 : Tr Try.prog 35 (Kd.slice kTGrant) (fun xs => (xs.length ≤ maxLen ∧ ∀ q1 ∈ xs, wTGrant q1)) := Tr.slice (e := 83) (by kernel_rfl) (by kernel_rfl) (by decide) tr_83
def wTLocks (x : TLocks) : Prop := (x.Given.length ≤ maxLen ∧ ∀ q1 ∈ x.Given, wTGrant q1) ∧ (x.Waits.length ≤ maxLen ∧ ∀ q1 ∈ x.Waits, wTGrant q1) ∧ True
theorem tr_37 : Tr Try.prog 37 kTLocks wTLocks := Tr.structL (l := [(0, 35), (1, 35)]) rfl (fun p => ⟨p.1, p.2.1⟩) (fun _ => rfl) (by kernel_rfl) (by kernel_rfl) (fun _ h => h) (TrF.cons (by kernel_rfl) tr_35 (TrF.cons (by kernel_rfl) tr_35 TrF.nil))
end Go.Proofs.Ytbcpkopchnlefaa
