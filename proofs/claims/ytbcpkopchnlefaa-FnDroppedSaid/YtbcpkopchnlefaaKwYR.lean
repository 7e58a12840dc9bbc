/- The plain law of the locks: the test of locks. Conditions: none. -/
import Derived.Test.YtbcpkopchnlefaaKwYQ
set_option linter.unusedVariables false
set_option linter.unusedSimpArgs false
namespace Go.Proofs.Ytbcpkopchnlefaa
open Go.Kw

def GivenPass (gs : List TGrant) (n : Nat) : Prop := ∀ i (hi : i < gs.length), i < n → gOk gs[i] = true ∧ ∀ j (hj : j < i), confB (gs[j]'(by omega)) gs[i] = false
def WaitPass (ws : List TGrant) (n : Nat) : Prop := ∀ i (hi : i < ws.length), i < n → gOk ws[i] = true ∧ ∀ j (hj : j < i), (ws[j]'(by omega)).Tx ≠ ws[i].Tx
theorem OkM.iff (l : TLocks) : OkM l ↔ l.Given.length ≤ 60 ∧ l.Waits.length ≤ 60 ∧ GivenPass l.Given l.Given.length ∧ WaitPass l.Waits l.Waits.length := by
  constructor
  · rintro ⟨h1, h2, h3, h4, h5, h6⟩
    exact ⟨h1, h2, fun i hi _ => ⟨h3 _ (List.getElem_mem hi), fun j hj => h4 i hi j hj⟩, fun i hi _ => ⟨h5 _ (List.getElem_mem hi), fun j hj => h6 i hi j hj⟩⟩
  · rintro ⟨h1, h2, h3, h4⟩
    refine ⟨h1, h2, fun g hg => ?_, fun i hi j hj => (h3 i hi hi).2 j hj, fun g hg => ?_, fun i hi j hj => (h4 i hi hi).2 j hj⟩
    · obtain ⟨i, hi, rfl⟩ := List.getElem_of_mem hg; exact (h3 i hi hi).1
    · obtain ⟨i, hi, rfl⟩ := List.getElem_of_mem hg; exact (h4 i hi hi).1
theorem any_take {α : Type} {xs : List α} {P : α → Bool} {i : Nat} (hi : i ≤ xs.length) : (xs.take i).any P = false ↔ ∀ j (hj : j < i), P (xs[j]'(by omega)) = false := by
  rw [List.any_eq_false]
  constructor
  · intro h j hj
    have := h (xs[j]'(by omega)) (List.mem_take_iff_getElem.2 ⟨j, by omega, rfl⟩)
    simpa using this
  · intro h x hx
    obtain ⟨j, hj, rfl⟩ := List.mem_take_iff_getElem.1 hx
    simp [h j (by omega)]
theorem iGiven_ev {l : TLocks} (hl : l.Given.length ≤ 60) : EvP (fun k => impl_LocksOk.l2 l k 0) (fun r => (r = Ex.go () ∧ GivenPass l.Given l.Given.length) ∨ (r = Ex.ret false ∧ ¬ GivenPass l.Given l.Given.length)) := by
  have := for_up (fun k (s : Unit) i => impl_LocksOk.l2 l k i) l.Given.length (fun i _ => GivenPass l.Given i) (fun r => (r = Ex.go () ∧ GivenPass l.Given l.Given.length) ∨ (r = Ex.ret false ∧ ¬ GivenPass l.Given l.Given.length)) ?_ ?_ (i := 0) (s := ()) (Nat.zero_le _) (fun i _ h => absurd h (by omega))
  · exact this
  · intro i s hi hI ih
    simp only [impl_LocksOk.l2, impl_LocksOk.c4, grantOk_eq, Option.bind_some]
    refine EvP.ifT (by simpa using hi) (EvP.ifT ⟨by omega, by omega⟩ ?_)
    have hcut : cut l.Given 0 (i : Int) = l.Given.take i := by simp [cut]
    simp only [rd_eq hi, hcut]
    refine EvP.bind (Q := fun b => b = false ↔ (gOk l.Given[i] = true ∧ ∀ j (hj : j < i), confB (l.Given[j]'(by omega)) l.Given[i] = false)) ?_ fun b hb => ?_
    · refine EvP.iteD (fun h => EvP.ret (by simp at h; simp [h])) fun h => EvP.ifT ⟨by omega, by omega, by omega⟩ (EvP.bind1 (conf_ev (by simp; omega) _) (EvP.ret ?_))
      rw [any_take (by omega)]
      simp at h; simp [h]
    · refine EvP.iteD (fun h => EvP.ret (.inr ⟨rfl, fun hp => ?_⟩)) fun h => ?_
      · have := hb.2 (hp i hi hi)
        rw [h] at this; cases this
      · rw [w64_succ hi (by omega)]
        refine ih () fun i' hi' hlt => ?_
        rcases Nat.lt_or_ge i' i with h1 | h1
        · exact hI i' hi' h1
        · obtain rfl : i' = i := by omega
          exact hb.1 h
  · intro s hI
    simp only [impl_LocksOk.l2]
    exact EvP.ifF (by simp) (EvP.ret (.inl ⟨rfl, hI⟩))
theorem wait_first {ws : List TGrant} {i : Nat} (hi : i < ws.length) : fidx (fun g => decide (g.Tx = ws[i].Tx)) ws = (i : Int) ↔ ∀ j (hj : j < i), (ws[j]'(by omega)).Tx ≠ ws[i].Tx := by
  have h : ws.any (fun g => decide (g.Tx = ws[i].Tx)) = true := List.any_eq_true.2 ⟨_, List.getElem_mem hi, by simp⟩
  unfold fidx
  rw [if_pos h]
  have := List.findIdx_eq (p := fun g : TGrant => decide (g.Tx = ws[i].Tx)) hi
  constructor
  · intro e j hj
    have e' : ws.findIdx (fun g => decide (g.Tx = ws[i].Tx)) = i := by omega
    have := (this.1 e').2 j hj
    simpa using this
  · intro h2
    have := this.2 ⟨by simp, fun j hj => by simpa using h2 j hj⟩
    omega
theorem iWait_ev {l : TLocks} (hl : l.Waits.length ≤ 60) : EvP (fun k => impl_LocksOk.l1 l k 0) (fun r => (r = Ex.go () ∧ WaitPass l.Waits l.Waits.length) ∨ (r = Ex.ret false ∧ ¬ WaitPass l.Waits l.Waits.length)) := by
  have := for_up (fun k (s : Unit) i => impl_LocksOk.l1 l k i) l.Waits.length (fun i _ => WaitPass l.Waits i) (fun r => (r = Ex.go () ∧ WaitPass l.Waits l.Waits.length) ∨ (r = Ex.ret false ∧ ¬ WaitPass l.Waits l.Waits.length)) ?_ ?_ (i := 0) (s := ()) (Nat.zero_le _) (fun i _ h => absurd h (by omega))
  · exact this
  · intro i s hi hI ih
    simp only [impl_LocksOk.l1, impl_LocksOk.c2, grantOk_eq, Option.bind_some]
    refine EvP.ifT (by simpa using hi) (EvP.ifT ⟨by omega, by omega⟩ ?_)
    simp only [rd_eq hi]
    refine EvP.bind (Q := fun b => b = false ↔ (gOk l.Waits[i] = true ∧ ∀ j (hj : j < i), (l.Waits[j]'(by omega)).Tx ≠ l.Waits[i].Tx)) ?_ fun b hb => ?_
    · refine EvP.iteD (fun h => EvP.ret (by simp at h; simp [h])) fun h => EvP.bind1 (waitAt_ev (by omega) _) (EvP.ret ?_)
      rw [← wait_first hi]
      simp at h; simp [h]
    · refine EvP.iteD (fun h => EvP.ret (.inr ⟨rfl, fun hp => ?_⟩)) fun h => ?_
      · have := hb.2 (hp i hi hi)
        rw [h] at this; cases this
      · rw [w64_succ hi (by omega)]
        refine ih () fun i' hi' hlt => ?_
        rcases Nat.lt_or_ge i' i with h1 | h1
        · exact hI i' hi' h1
        · obtain rfl : i' = i := by omega
          exact hb.1 h
  · intro s hI
    simp only [impl_LocksOk.l1]
    exact EvP.ifF (by simp) (EvP.ret (.inl ⟨rfl, hI⟩))
theorem LocksOk_ev (l : TLocks) : EvP (fun k => impl_LocksOk.f k l) (fun r => r = true ↔ OkM l) := by
  unfold impl_LocksOk.f
  refine EvP.ite (fun h => EvP.ret ?_) fun h => ?_
  · simp at h
    simp only [Bool.false_eq_true, false_iff]
    intro ho; have := ho.g60; have := ho.w60; omega
  · simp at h
    refine EvP.bind (iGiven_ev (by omega)) ?_
    rintro r (⟨rfl, hg⟩ | ⟨rfl, hg⟩)
    · simp only [Ex.on]
      unfold impl_LocksOk.c3
      refine EvP.bind (iWait_ev (by omega)) ?_
      rintro r (⟨rfl, hw⟩ | ⟨rfl, hw⟩)
      · exact EvP.ret (by simp [OkM.iff, hg, hw]; omega)
      · exact EvP.ret (by simp [OkM.iff, hw])
    · exact EvP.ret (by simp [OkM.iff, hg])
end Go.Proofs.Ytbcpkopchnlefaa
