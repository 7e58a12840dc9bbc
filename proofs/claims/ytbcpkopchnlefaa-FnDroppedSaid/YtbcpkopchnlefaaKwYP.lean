/- The plain law of the locks: what the functions give. Conditions: none. -/
import Derived.Test.YtbcpkopchnlefaaKwYF
import Derived.Test.YtbcpkopchnlefaaKwP
set_option linter.unusedVariables false
set_option linter.unusedSimpArgs false
namespace Go.Proofs.Ytbcpkopchnlefaa
open Go.Kw

def mB (m : Int) : Bool := decide (1 ≤ m) && decide (m ≤ 4)
def gOk (g : TGrant) : Bool := (decide (1 ≤ g.Tx) && decide (g.Tx ≤ 99)) && (decide (0 ≤ g.Res) && decide (g.Res ≤ 99)) && mB g.Mode
def goesB (a b : Int) : Bool := mB a && mB b && !decide (a = 4) && !decide (b = 4) && (decide (a = 1) || decide (b = 1) || decide (a = b))
def bothM (a b : Int) : Int := if (!mB a || !mB b) = true then 0 else if (decide (a = b) || decide (b = 1)) = true then a else if a = 1 then b else 4
theorem isMode_eq (k : Nat) (a : Int) : impl_isMode.f k a = some (mB a) := rfl
theorem l9Mode_eq (k : Nat) (a : Int) : spec_l9Mode.f k a = some (mB a) := rfl
theorem Goes_eq (k : Nat) (a b : Int) : impl_Goes.f k a b = some (goesB a b) := by
  unfold impl_Goes.f impl_Goes.c1 goesB
  simp only [isMode_eq, Option.bind_some]
  cases mB a <;> cases mB b <;> by_cases h1 : a = 4 <;> by_cases h2 : b = 4 <;> simp [h1, h2]
theorem sGoes_eq (k : Nat) (a b : Int) : spec_Goes.f k a b = some (goesB a b) := by
  unfold spec_Goes.f spec_Goes.c1 goesB
  simp only [l9Mode_eq, Option.bind_some]
  cases mB a <;> cases mB b <;> by_cases h1 : a = 4 <;> by_cases h2 : b = 4 <;> simp [h1, h2]
theorem Both_eq (k : Nat) (a b : Int) : impl_Both.f k a b = some (bothM a b) := by
  unfold impl_Both.f impl_Both.c1 bothM
  simp only [isMode_eq, Option.bind_some]
  cases mB a <;> cases mB b <;> by_cases h1 : a = b <;> by_cases h2 : b = 1 <;> by_cases h3 : a = 1 <;> simp [h1, h2, h3] <;> split <;> rfl
theorem sBoth_eq (k : Nat) (a b : Int) : spec_Both.f k a b = some (bothM a b) := by
  unfold spec_Both.f spec_Both.c1 bothM
  simp only [l9Mode_eq, Option.bind_some]
  cases mB a <;> cases mB b <;> by_cases h1 : a = b <;> by_cases h2 : b = 1 <;> by_cases h3 : a = 1 <;> simp [h1, h2, h3] <;> split <;> rfl
theorem grantOk_eq (k : Nat) (g : TGrant) : impl_grantOk.f k g = some (gOk g) := by
  unfold impl_grantOk.f impl_grantOk.c2 impl_grantOk.c1 gOk
  simp only [isMode_eq, impl_in.f, Option.bind_some]
  cases (decide (1 ≤ g.Tx) && decide (g.Tx ≤ 99)) <;> cases (decide (0 ≤ g.Res) && decide (g.Res ≤ 99)) <;> simp
theorem l9Grant_eq (k : Nat) (g : TGrant) : spec_l9Grant.f k g = some (gOk g) := by
  unfold spec_l9Grant.f spec_l9Grant.c2 spec_l9Grant.c1 gOk
  simp only [l9Mode_eq, spec_l1In.f, Option.bind_some]
  cases (decide (1 ≤ g.Tx) && decide (g.Tx ≤ 99)) <;> cases (decide (0 ≤ g.Res) && decide (g.Res ≤ 99)) <;> simp
theorem goesB_symm (a b : Int) : goesB a b = goesB b a := by
  unfold goesB
  cases mB a <;> cases mB b <;> by_cases h1 : a = 4 <;> by_cases h2 : b = 4 <;> by_cases h3 : a = 1 <;> by_cases h4 : b = 1 <;> by_cases h5 : a = b <;> simp_all [eq_comm]
theorem bothM_symm (a b : Int) : bothM a b = bothM b a := by
  unfold bothM
  cases mB a <;> cases mB b <;> by_cases h3 : a = 1 <;> by_cases h4 : b = 1 <;> by_cases h5 : a = b <;> simp_all [eq_comm]
theorem bothM_ok {a b : Int} (ha : mB a = true) (hb : mB b = true) : mB (bothM a b) = true ∧ 0 < bothM a b := by
  unfold bothM
  simp only [ha, hb]
  simp only [mB, Bool.and_eq_true, decide_eq_true_eq] at *
  by_cases h3 : a = 1 <;> by_cases h4 : b = 1 <;> by_cases h5 : a = b <;> simp_all <;> omega
theorem bothM_self {a : Int} (ha : mB a = true) : bothM a a = a := by simp [bothM, ha]
theorem bothM_idem {a b : Int} (ha : mB a = true) (hb : mB b = true) : bothM (bothM a b) b = bothM a b := by
  have h := bothM_ok ha hb
  by_cases h5 : a = b
  · subst h5; rw [bothM_self ha, bothM_self ha]
  by_cases h4 : b = 1
  · have e : bothM a b = a := by subst h4; simp [bothM, ha, hb]
    rw [e, e]
  by_cases h3 : a = 1
  · have e : bothM a b = b := by subst h3; simp [bothM, ha, hb, h4, h5]
    rw [e, bothM_self hb]
  · have e : bothM a b = 4 := by simp [bothM, ha, hb, h3, h4, h5]
    rw [e]
    have : mB 4 = true := by decide
    by_cases hb4 : 4 = b
    · simp [bothM, this, hb, hb4]
    · simp [bothM, this, hb, h4, hb4]
end Go.Proofs.Ytbcpkopchnlefaa
