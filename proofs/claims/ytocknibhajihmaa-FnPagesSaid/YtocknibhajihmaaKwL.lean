/- Results that lie in variables. Conditions: none. -/
import Derived.Test.YtocknibhajihmaaKwI
set_option linter.unusedVariables false
set_option linter.unusedSimpArgs false
namespace Go.Kw
def rvSem (a : Act) : ResultVar → Sem Value
  | .tmp t => pure (a.tmps.getD t undef)
  | .cell p t => do loadVar t (← asAddr (a.tmps.getD p undef))
def RvOk (P : Program) (L : List (Nat × Value)) (w : World) : ResultVar → Value → Prop
  | .tmp t, v => lk L t = some v
  | .cell p t, v => ∃ ad, lk L p = some (.pointer (some ad)) ∧ (loadVar t ad).run P w = .ok v w
section
variable {P : Program} {fn : Func} {e : En} {R : Value → HF → List Asn → Prop} {n : Nat} {a : Act} {L : List (Nat × Value)} {σ : HF} {w : World} {A B : List Asn} {T1 T2 T3 T4 : ResultVar} {v1 v2 v3 v4 : Value}
theorem RvOk.run (hF : Fr n a L) (h : RvOk P L w T1 v1) : (rvSem a T1).run P w = .ok v1 w := by
  cases T1 with
  | tmp t => have := hF.g t _ h; simp [rvSem, this]
  | cell p t =>
    obtain ⟨ad, h1, h2⟩ := h
    have := hF.g p _ h1
    simp [rvSem, this, asAddr, h2]
theorem results_sem (fn : Func) (a : Act) : results fn a.tmps = (do let vs ← fn.results.mapM (rvSem a); pure (if h : vs.size = 1 then vs[0] else .tuple vs)) := by
  unfold results
  congr 1
theorem retc1 (hF : Fr n a L) (hr : fn.results = #[T1]) (h1 : RvOk P L w T1 v1) (hS : St e σ w A) (h : R v1 σ A) : BP P fn e R .ret a w := by
  refine ⟨hF.d, v1, ?_, _, rfl, σ, A, hS, h⟩
  rw [results_sem, hr]
  simp [h1.run hF]
theorem retc2 (hF : Fr n a L) (hr : fn.results = #[T1, T2]) (h1 : RvOk P L w T1 v1) (h2 : RvOk P L w T2 v2) (hS : St e σ w A) (h : R (.tuple #[v1, v2]) σ A) : BP P fn e R .ret a w := by
  refine ⟨hF.d, _, ?_, _, rfl, σ, A, hS, h⟩
  rw [results_sem, hr]
  simp [h1.run hF, h2.run hF]
theorem retc3 (hF : Fr n a L) (hr : fn.results = #[T1, T2, T3]) (h1 : RvOk P L w T1 v1) (h2 : RvOk P L w T2 v2) (h3 : RvOk P L w T3 v3) (hS : St e σ w A) (h : R (.tuple #[v1, v2, v3]) σ A) : BP P fn e R .ret a w := by
  refine ⟨hF.d, _, ?_, _, rfl, σ, A, hS, h⟩
  rw [results_sem, hr]
  simp [h1.run hF, h2.run hF, h3.run hF]
theorem retc4 (hF : Fr n a L) (hr : fn.results = #[T1, T2, T3, T4]) (h1 : RvOk P L w T1 v1) (h2 : RvOk P L w T2 v2) (h3 : RvOk P L w T3 v3) (h4 : RvOk P L w T4 v4) (hS : St e σ w A) (h : R (.tuple #[v1, v2, v3, v4]) σ A) : BP P fn e R .ret a w := by
  refine ⟨hF.d, _, ?_, _, rfl, σ, A, hS, h⟩
  rw [results_sem, hr]
  simp [h1.run hF, h2.run hF, h3.run hF, h4.run hF]
theorem rvT {t : Nat} (h : lk L t = some v1) : RvOk P L w (.tmp t) v1 := h
/-- A variable of several cells, all of a box of its own. -/
theorem rvC {i p t T b size bytes : Nat} {cs : List Value} {z : Option Value} (hS : St e σ w A) (hp : pull i A = some (pt b T cs, B)) (hx : lk L p = some (.pointer (some ⟨b, 0, none⟩))) (ha : IsAgg P t true) (ht : TyI P t size bytes z) (hl : cs.length = size) :
    RvOk P L w (.cell p t) (.agg cs.toArray) := by
  refine ⟨_, hx, ?_⟩
  subst hl
  have h1 := (hS.pull hp).pt
  have h2 : ∀ j v, cs[j]? = some v → w.cell? ((⟨b, 0, none⟩ : Addr).add j) = some v := by
    intro j v hj
    rw [addr_add rfl]
    simp only [World.cell?, h1]
    simpa using hj
  have := run_loadCells (P := P) (w := w) (ad := ⟨b, 0, none⟩) cs 0 #[] (by simpa using h2)
  simp [loadVar, ha.run w, ht.size w, loadCells, this]
theorem rvO {i p t T b : Nat} {v : Value} (hS : St e σ w A) (hp : pull i A = some (pt b T [v], B)) (hx : lk L p = some (.pointer (some ⟨b, 0, none⟩))) (ha : IsAgg P t false) :
    RvOk P L w (.cell p t) v := by
  refine ⟨_, hx, ?_⟩
  have h1 := (hS.pull hp).pt
  have : w.cell? ⟨b, 0, none⟩ = some v := by simp [World.cell?, h1]
  simp [loadVar, ha.run w, this]
end
end Go.Kw
