/- The plain law of the locks: what the reference asks. Conditions: none. -/
import Derived.Test.YtbcpkopchnlefaaKwYR
set_option linter.unusedVariables false
set_option linter.unusedSimpArgs false
namespace Go.Proofs.Ytbcpkopchnlefaa
open Go.Kw

theorem sGiven2_ev {l : TLocks} (hl : l.Given.length ≤ 60) {i : Nat} (hi : i < l.Given.length) :
    EvP (fun k => spec_LocksOk.l4 (i : Int) l k 0) (fun r => (r = Ex.go () ∧ ∀ j (hj : j < i), confB (l.Given[j]'(by omega)) l.Given[i] = false) ∨ (r = Ex.ret false ∧ ¬ ∀ j (hj : j < i), confB (l.Given[j]'(by omega)) l.Given[i] = false)) := by
  have := for_up (fun k (s : Unit) j => spec_LocksOk.l4 (i : Int) l k j) i (fun n _ => ∀ j (hj : j < i), j < n → confB (l.Given[j]'(by omega)) l.Given[i] = false) (fun r => (r = Ex.go () ∧ ∀ j (hj : j < i), confB (l.Given[j]'(by omega)) l.Given[i] = false) ∨ (r = Ex.ret false ∧ ¬ ∀ j (hj : j < i), confB (l.Given[j]'(by omega)) l.Given[i] = false)) ?_ ?_ (i := 0) (s := ()) (Nat.zero_le _) (fun j _ h => absurd h (by omega))
  · exact this
  · intro j s hj hI ih
    have hjl : j < l.Given.length := by omega
    simp only [spec_LocksOk.l4, spec_LocksOk.c5, spec_LocksOk.c6, sGoes_eq, Option.bind_some, rd_eq hi, rd_eq hjl]
    refine EvP.ifT (by simpa using hj) (EvP.ifT ⟨by omega, by omega⟩ ?_)
    refine EvP.bind1 (a := confB l.Given[j] l.Given[i]) ?_ ?_
    · by_cases h1 : l.Given[j].Res = l.Given[i].Res <;> by_cases h2 : l.Given[j].Tx = l.Given[i].Tx <;> simp [confB, h1, h2] <;> exact EvP.ret rfl
    · refine EvP.iteD (fun h => EvP.ret (.inr ⟨rfl, fun hp => ?_⟩)) fun h => ?_
      · rw [hp j hj] at h; cases h
      · rw [w64_succ hj (by omega)]
        refine ih () fun j' hj' hlt => ?_
        rcases Nat.lt_or_ge j' j with h1 | h1
        · exact hI j' hj' h1
        · obtain rfl : j' = j := by omega
          exact h
  · intro s hI
    simp only [spec_LocksOk.l4]
    exact EvP.ifF (by simp) (EvP.ret (.inl ⟨rfl, fun j hj => hI j hj hj⟩))
theorem sGiven_ev {l : TLocks} (hl : l.Given.length ≤ 60) : EvP (fun k => spec_LocksOk.l3 l k 0) (fun r => (r = Ex.go () ∧ GivenPass l.Given l.Given.length) ∨ (r = Ex.ret false ∧ ¬ GivenPass l.Given l.Given.length)) := by
  have := for_up (fun k (s : Unit) i => spec_LocksOk.l3 l k i) l.Given.length (fun i _ => GivenPass l.Given i) (fun r => (r = Ex.go () ∧ GivenPass l.Given l.Given.length) ∨ (r = Ex.ret false ∧ ¬ GivenPass l.Given l.Given.length)) ?_ ?_ (i := 0) (s := ()) (Nat.zero_le _) (fun i _ h => absurd h (by omega))
  · exact this
  · intro i s hi hI ih
    simp only [spec_LocksOk.l3, spec_LocksOk.c4, l9Grant_eq, Option.bind_some, rd_eq hi]
    refine EvP.ifT (by simpa using hi) ?_
    refine EvP.bind (Q := fun r => (r = Ex.go () ∧ gOk l.Given[i] = true ∧ ∀ j (hj : j < i), confB (l.Given[j]'(by omega)) l.Given[i] = false) ∨ (r = Ex.ret false ∧ ¬ (gOk l.Given[i] = true ∧ ∀ j (hj : j < i), confB (l.Given[j]'(by omega)) l.Given[i] = false))) (EvP.ifT ⟨by omega, by omega⟩ ?_) ?_
    · refine EvP.iteD (fun h => EvP.ret (.inr ⟨rfl, fun hp => ?_⟩)) fun h => ((sGiven2_ev hl hi).mono ?_)
      · rw [hp.1] at h; cases h
      · simp at h
        rintro r (⟨rfl, h2⟩ | ⟨rfl, h2⟩)
        · exact .inl ⟨rfl, h, h2⟩
        · exact .inr ⟨rfl, fun hp => h2 hp.2⟩
    · rintro r (⟨rfl, h⟩ | ⟨rfl, h⟩)
      · simp only [Ex.on]
        rw [w64_succ hi (by omega)]
        refine ih () fun i' hi' hlt => ?_
        rcases Nat.lt_or_ge i' i with h1 | h1
        · exact hI i' hi' h1
        · obtain rfl : i' = i := by omega
          exact h
      · exact EvP.ret (.inr ⟨rfl, fun hp => h (hp i hi hi)⟩)
  · intro s hI
    simp only [spec_LocksOk.l3]
    exact EvP.ifF (by simp) (EvP.ret (.inl ⟨rfl, hI⟩))
theorem sWait2_ev {l : TLocks} (hl : l.Waits.length ≤ 60) {i : Nat} (hi : i < l.Waits.length) :
    EvP (fun k => spec_LocksOk.l2 (i : Int) l k 0) (fun r => (r = Ex.go () ∧ ∀ j (hj : j < i), (l.Waits[j]'(by omega)).Tx ≠ l.Waits[i].Tx) ∨ (r = Ex.ret false ∧ ¬ ∀ j (hj : j < i), (l.Waits[j]'(by omega)).Tx ≠ l.Waits[i].Tx)) := by
  have := for_up (fun k (s : Unit) j => spec_LocksOk.l2 (i : Int) l k j) i (fun n _ => ∀ j (hj : j < i), j < n → (l.Waits[j]'(by omega)).Tx ≠ l.Waits[i].Tx) (fun r => (r = Ex.go () ∧ ∀ j (hj : j < i), (l.Waits[j]'(by omega)).Tx ≠ l.Waits[i].Tx) ∨ (r = Ex.ret false ∧ ¬ ∀ j (hj : j < i), (l.Waits[j]'(by omega)).Tx ≠ l.Waits[i].Tx)) ?_ ?_ (i := 0) (s := ()) (Nat.zero_le _) (fun j _ h => absurd h (by omega))
  · exact this
  · intro j s hj hI ih
    have hjl : j < l.Waits.length := by omega
    simp only [spec_LocksOk.l2, rd_eq hi, rd_eq hjl]
    refine EvP.ifT (by simpa using hj) (EvP.ifT ⟨by omega, by omega⟩ (EvP.ifT ⟨by omega, by omega⟩ ?_))
    refine EvP.iteD (fun h => EvP.ret (.inr ⟨rfl, fun hp => hp j hj (by simpa using h)⟩)) fun h => ?_
    rw [w64_succ hj (by omega)]
    refine ih () fun j' hj' hlt => ?_
    rcases Nat.lt_or_ge j' j with h1 | h1
    · exact hI j' hj' h1
    · obtain rfl : j' = j := by omega
      simpa using h
  · intro s hI
    simp only [spec_LocksOk.l2]
    exact EvP.ifF (by simp) (EvP.ret (.inl ⟨rfl, fun j hj => hI j hj hj⟩))
theorem sWait_ev {l : TLocks} (hl : l.Waits.length ≤ 60) : EvP (fun k => spec_LocksOk.l1 l k 0) (fun r => (r = Ex.go () ∧ WaitPass l.Waits l.Waits.length) ∨ (r = Ex.ret false ∧ ¬ WaitPass l.Waits l.Waits.length)) := by
  have := for_up (fun k (s : Unit) i => spec_LocksOk.l1 l k i) l.Waits.length (fun i _ => WaitPass l.Waits i) (fun r => (r = Ex.go () ∧ WaitPass l.Waits l.Waits.length) ∨ (r = Ex.ret false ∧ ¬ WaitPass l.Waits l.Waits.length)) ?_ ?_ (i := 0) (s := ()) (Nat.zero_le _) (fun i _ h => absurd h (by omega))
  · exact this
  · intro i s hi hI ih
    simp only [spec_LocksOk.l1, spec_LocksOk.c2, l9Grant_eq, Option.bind_some, rd_eq hi]
    refine EvP.ifT (by simpa using hi) ?_
    refine EvP.bind (Q := fun r => (r = Ex.go () ∧ gOk l.Waits[i] = true ∧ ∀ j (hj : j < i), (l.Waits[j]'(by omega)).Tx ≠ l.Waits[i].Tx) ∨ (r = Ex.ret false ∧ ¬ (gOk l.Waits[i] = true ∧ ∀ j (hj : j < i), (l.Waits[j]'(by omega)).Tx ≠ l.Waits[i].Tx))) (EvP.ifT ⟨by omega, by omega⟩ ?_) ?_
    · refine EvP.iteD (fun h => EvP.ret (.inr ⟨rfl, fun hp => ?_⟩)) fun h => ((sWait2_ev hl hi).mono ?_)
      · rw [hp.1] at h; cases h
      · simp at h
        rintro r (⟨rfl, h2⟩ | ⟨rfl, h2⟩)
        · exact .inl ⟨rfl, h, h2⟩
        · exact .inr ⟨rfl, fun hp => h2 hp.2⟩
    · rintro r (⟨rfl, h⟩ | ⟨rfl, h⟩)
      · simp only [Ex.on]
        rw [w64_succ hi (by omega)]
        refine ih () fun i' hi' hlt => ?_
        rcases Nat.lt_or_ge i' i with h1 | h1
        · exact hI i' hi' h1
        · obtain rfl : i' = i := by omega
          exact h
      · exact EvP.ret (.inr ⟨rfl, fun hp => h (hp i hi hi)⟩)
  · intro s hI
    simp only [spec_LocksOk.l1]
    exact EvP.ifF (by simp) (EvP.ret (.inl ⟨rfl, hI⟩))
theorem sLocksOk_ev (l : TLocks) : EvP (fun k => spec_LocksOk.f k l) (fun r => r = true ↔ OkM l) := by
  unfold spec_LocksOk.f
  refine EvP.ite (fun h => EvP.ret ?_) fun h => ?_
  · simp at h
    simp only [Bool.false_eq_true, false_iff]
    intro ho; have := ho.g60; have := ho.w60; omega
  · simp at h
    refine EvP.bind (sGiven_ev (by omega)) ?_
    rintro r (⟨rfl, hg⟩ | ⟨rfl, hg⟩)
    · simp only [Ex.on]
      unfold spec_LocksOk.c3
      refine EvP.bind (sWait_ev (by omega)) ?_
      rintro r (⟨rfl, hw⟩ | ⟨rfl, hw⟩)
      · exact EvP.ret (by simp [OkM.iff, hg, hw]; omega)
      · exact EvP.ret (by simp [OkM.iff, hw])
    · exact EvP.ret (by simp [OkM.iff, hg])
end Go.Proofs.Ytbcpkopchnlefaa
