/- The plain law of the locks: searches, and when locks are right. Conditions: none. -/
import Derived.Test.YtbcpkopchnlefaaKwYP
set_option linter.unusedVariables false
set_option linter.unusedSimpArgs false
namespace Go.Proofs.Ytbcpkopchnlefaa
open Go.Kw

def forB (tx res : Int) (g : TGrant) : Bool := decide (g.Tx = tx) && decide (g.Res = res)
def againstB (g : TGrant) (m : Int) (x : TGrant) : Bool := (decide (x.Res = g.Res) && decide (x.Tx ≠ g.Tx)) && !goesB m x.Mode
def confB (a b : TGrant) : Bool := decide (a.Res = b.Res) && (decide (a.Tx = b.Tx) || !goesB a.Mode b.Mode)
def wouldM (gs : List TGrant) (g : TGrant) : Int := if gs.any (forB g.Tx g.Res) = true then bothM g.Mode (rd gs (fidx (forB g.Tx g.Res) gs)).Mode else g.Mode
theorem givenAt_ev {l : TLocks} (hl : l.Given.length < 9223372036854775808) (tx res : Int) : EvP (fun k => impl_givenAt.f k l tx res) (· = fidx (forB tx res) l.Given) := by
  unfold impl_givenAt.f impl_Grant_63_165.f
  exact EvP.bind1 (index_ev (impl_Grant_63_165.l1 l.Given tx res) _ (fun k g => impl_givenAt_1.f k g tx res) l.Given (forB tx res) hl (fun k i => rfl) (fun _ => rfl) fun x _ => EvP.ret rfl) (EvP.ret rfl)
theorem waitAt_ev {l : TLocks} (hl : l.Waits.length < 9223372036854775808) (tx : Int) : EvP (fun k => impl_waitAt.f k l tx) (· = fidx (fun g => decide (g.Tx = tx)) l.Waits) := by
  unfold impl_waitAt.f impl_Grant_63_164.f
  exact EvP.bind1 (index_ev (impl_Grant_63_164.l1 l.Waits tx) _ (fun k g => impl_waitAt_1.f k g tx) l.Waits (fun g => decide (g.Tx = tx)) hl (fun k i => rfl) (fun _ => rfl) fun x _ => EvP.ret rfl) (EvP.ret rfl)
theorem would_ev {l : TLocks} (hl : l.Given.length < 9223372036854775808) (g : TGrant) : EvP (fun k => impl_would.f k l g) (· = wouldM l.Given g) := by
  unfold impl_would.f
  refine EvP.bind1 (givenAt_ev (l := ⟨l.Given, []⟩) hl g.Tx g.Res) ?_
  unfold wouldM
  by_cases h : l.Given.any (forB g.Tx g.Res) = true
  · obtain ⟨i, hi, e, _⟩ := fidx_lt h
    refine EvP.ifT (by simpa using fidx_pos.2 h) (EvP.ifT ⟨fidx_pos.2 h, by rw [e]; omega⟩ ?_)
    simp only [Both_eq, Option.bind_some, if_pos h]
    exact EvP.ret rfl
  · refine EvP.ifF (by simpa using fun h' => h (fidx_pos.1 h')) ?_
    rw [if_neg h]; exact EvP.ret rfl
theorem allGo_ev {l : TLocks} (hl : l.Given.length < 9223372036854775808) (g : TGrant) (m : Int) : EvP (fun k => impl_allGo.f k l g m) (· = !l.Given.any (againstB g m)) := by
  unfold impl_allGo.f impl_Grant_36_166.f impl_Grant_63_166.f
  refine EvP.bind1 (a := l.Given.any (againstB g m)) ?_ (EvP.ret rfl)
  refine EvP.bind1 (index_ev (impl_Grant_63_166.l1 l.Given g m) _ (fun k x => impl_allGo_1.f k x g m) l.Given (againstB g m) hl (fun k i => rfl) (fun _ => rfl) fun x _ => ?_) (EvP.ret ?_)
  · unfold impl_allGo_1.f impl_allGo_1.c1
    simp only [Goes_eq, Option.bind_some]
    by_cases h1 : x.Res = g.Res <;> by_cases h2 : x.Tx = g.Tx <;> simp [againstB, h1, h2] <;> exact EvP.ret rfl
  · by_cases h : l.Given.any (againstB g m) = true
    · rw [h]; simpa using fidx_pos.2 h
    · have h' : ¬ 0 ≤ fidx (againstB g m) l.Given := fun hh => h (fidx_pos.1 hh)
      simp only [Bool.not_eq_true] at h
      rw [h]; simpa using h'
theorem forRes_ev {ws : List TGrant} (hl : ws.length < 9223372036854775808) (res : Int) : EvP (fun k => impl_Grant_36_137.f k ws res) (· = ws.any (fun g => decide (g.Res = res))) := by
  unfold impl_Grant_36_137.f impl_Grant_63_137.f
  refine EvP.bind1 (index_ev (impl_Grant_63_137.l1 ws res) _ (fun k x => impl_Ask_1.f k x res) ws (fun g => decide (g.Res = res)) hl (fun k i => rfl) (fun _ => rfl) fun x _ => EvP.ret rfl) (EvP.ret ?_)
  by_cases h : ws.any (fun g => decide (g.Res = res)) = true
  · rw [h]; simpa using fidx_pos.2 h
  · have h' : ¬ 0 ≤ fidx (fun g => decide (g.Res = res)) ws := fun hh => h (fidx_pos.1 hh)
    simp only [Bool.not_eq_true] at h
    rw [h]; simpa using h'
/-- When locks are right. -/
structure OkM (l : TLocks) : Prop where
  g60 : l.Given.length ≤ 60
  w60 : l.Waits.length ≤ 60
  gok : ∀ g ∈ l.Given, gOk g = true
  gcf : ∀ i (hi : i < l.Given.length) j (hj : j < i), confB (l.Given[j]'(by omega)) l.Given[i] = false
  wok : ∀ g ∈ l.Waits, gOk g = true
  wne : ∀ i (hi : i < l.Waits.length) j (hj : j < i), (l.Waits[j]'(by omega)).Tx ≠ l.Waits[i].Tx
theorem conf_ev {gs : List TGrant} (hl : gs.length < 9223372036854775808) (g : TGrant) : EvP (fun k => impl_Grant_36_145.f k gs g) (· = gs.any (fun x => confB x g)) := by
  unfold impl_Grant_36_145.f impl_Grant_63_145.f
  refine EvP.bind1 (index_ev (impl_Grant_63_145.l1 gs g) _ (fun k x => impl_LocksOk_1.f k x g) gs (fun x => confB x g) hl (fun k i => rfl) (fun _ => rfl) fun x _ => ?_) (EvP.ret ?_)
  · unfold impl_LocksOk_1.f impl_LocksOk_1.c1 impl_LocksOk_1.c2
    simp only [Goes_eq, Option.bind_some]
    by_cases h1 : x.Res = g.Res <;> by_cases h2 : x.Tx = g.Tx <;> simp [confB, h1, h2] <;> exact EvP.ret rfl
  · by_cases h : gs.any (fun x => confB x g) = true
    · rw [h]; simpa using fidx_pos.2 h
    · have h' : ¬ 0 ≤ fidx (fun x => confB x g) gs := fun hh => h (fidx_pos.1 hh)
      simp only [Bool.not_eq_true] at h
      rw [h]; simpa using h'
end Go.Proofs.Ytbcpkopchnlefaa
