/- The plain law of the locks: asking. Conditions: none. -/
import Derived.Test.YtbcpkopchnlefaaKwYX
set_option linter.unusedVariables false
set_option linter.unusedSimpArgs false
namespace Go.Proofs.Ytbcpkopchnlefaa
open Go.Kw

theorem fidx_neg {α : Type} {P : α → Bool} {xs : List α} : fidx P xs < 0 ↔ xs.any P = false := by
  have := fidx_pos (P := P) (xs := xs)
  cases h : xs.any P with
  | true => rw [h] at this; simp at this ⊢; exact this
  | false => rw [h] at this; simp at this ⊢; exact this
open Classical in
noncomputable def askM (l : TLocks) (g : TGrant) : TLocks × Int :=
  if ¬ OkM l ∨ gOk g = false ∨ l.Waits.any (fun x => decide (x.Tx = g.Tx)) = true then (l, 2)
  else if l.Given.any (forB g.Tx g.Res) = true ∧ (rd l.Given (fidx (forB g.Tx g.Res) l.Given)).Mode = wouldM l.Given g then (l, 0)
  else if l.Given.any (againstB g (wouldM l.Given g)) = false ∧ (l.Given.any (forB g.Tx g.Res) = true ∨ l.Waits.any (fun x => decide (x.Res = g.Res)) = false) then
    (if l.Given.any (forB g.Tx g.Res) = false ∧ 60 ≤ l.Given.length then (l, 2) else (⟨giveM l.Given g (wouldM l.Given g), l.Waits⟩, 0))
  else if 60 ≤ l.Waits.length then (l, 2) else (⟨l.Given, l.Waits ++ [g]⟩, 1)
theorem clone_ev {l : TLocks} (h1 : l.Given.length ≤ 1000) (h2 : l.Waits.length ≤ 1000) : EvP (fun k => impl_cloneLocks.f k l) (· = l) := by
  unfold impl_cloneLocks.f impl_Grant_61.f
  exact EvP.bind1 (EvP.ifT (by simp; omega) (EvP.ret rfl)) (EvP.bind1 (EvP.ifT (by simp; omega) (EvP.ret rfl)) (EvP.ret rfl))
theorem Ask_ev (l : TLocks) (g : TGrant) (h1 : l.Given.length ≤ 1000) (h2 : l.Waits.length ≤ 1000) : EvP (fun k => impl_Ask.f k l g.Tx g.Res g.Mode) (· = askM l g) := by
  unfold impl_Ask.f impl_Ask.c3 impl_Ask.c2 impl_Ask.c1
  refine EvP.bind1 (clone_ev h1 h2) (EvP.bind (LocksOk_ev l) fun b hb => ?_)
  simp only [grantOk_eq, Option.bind_some]
  by_cases hok : OkM l
  rotate_left
  · have hbf : b = false := by cases b <;> simp_all
    subst hbf
    refine EvP.bind1 (a := true) (EvP.ifT rfl (EvP.ret rfl)) (EvP.bind1 (a := true) (EvP.ifT rfl (EvP.ret rfl)) (EvP.ifT rfl (EvP.ret ?_)))
    unfold askM; rw [if_pos (.inl hok)]
  · have hbt : b = true := hb.2 hok
    subst hbt
    refine EvP.bind1 (a := !gOk g) (EvP.ifF (by simp) (EvP.ret rfl)) ?_
    cases hg : gOk g with
    | false =>
      refine EvP.bind1 (a := true) (EvP.ifT rfl (EvP.ret rfl)) (EvP.ifT rfl (EvP.ret ?_))
      unfold askM; rw [if_pos (.inr (.inl hg))]
    | true =>
      refine EvP.bind1 (a := l.Waits.any (fun x => decide (x.Tx = g.Tx))) (EvP.ifF (by simp) (EvP.bind1 (waitAt_ev (by omega) _) (EvP.ret ?_))) ?_
      · cases hw : l.Waits.any (fun x => decide (x.Tx = g.Tx)) with
        | true => simpa using fidx_pos.2 hw
        | false => simpa using fidx_neg.2 hw
      · cases hw : l.Waits.any (fun x => decide (x.Tx = g.Tx)) with
        | true =>
          refine EvP.ifT rfl (EvP.ret ?_)
          unfold askM; rw [if_pos (.inr (.inr hw))]
        | false =>
          refine EvP.ifF (by simp) (EvP.bind1 (would_ev (by omega) _) (EvP.bind1 (givenAt_ev (by omega) _ _) ?_))
          have hA : ¬ (¬ OkM l ∨ gOk g = false ∨ l.Waits.any (fun x => decide (x.Tx = g.Tx)) = true) := by simp [hok, hg, hw]
          unfold askM
          rw [if_neg hA]
          have hfx : ∀ c : Bool, l.Given.any (forB g.Tx g.Res) = c → decide (0 ≤ fidx (forB g.Tx g.Res) l.Given) = c := by
            intro c hc
            cases c with
            | true => simpa using fidx_pos.2 hc
            | false => simpa using fidx_neg.2 hc
          refine EvP.bind1 (a := (l.Given.any (forB g.Tx g.Res) && decide ((rd l.Given (fidx (forB g.Tx g.Res) l.Given)).Mode = wouldM l.Given g))) ?_ ?_
          · cases ha : l.Given.any (forB g.Tx g.Res) with
            | true =>
              obtain ⟨i, hi, e, _⟩ := fidx_lt ha
              refine EvP.ifT (hfx _ ha) (EvP.ifT (by rw [e]; omega) (EvP.ret (by simp)))
            | false => exact EvP.ifF (by rw [hfx _ ha]; simp) (EvP.ret (by simp))
          · by_cases hc : l.Given.any (forB g.Tx g.Res) = true ∧ (rd l.Given (fidx (forB g.Tx g.Res) l.Given)).Mode = wouldM l.Given g
            · rw [if_pos hc]
              exact EvP.ifT (by simp [hc.1, hc.2]) (EvP.ret rfl)
            · rw [if_neg hc]
              refine EvP.ifF (by simpa using hc) ?_
              refine EvP.bind1 (forRes_ev (ws := l.Waits) (by omega) g.Res) (EvP.bind1 (allGo_ev (l := l) (by omega) g (wouldM l.Given g)) ?_)
              have hlt : ∀ c : Bool, l.Given.any (forB g.Tx g.Res) = c → decide (fidx (forB g.Tx g.Res) l.Given < 0) = !c := by
                intro c hc
                have := hfx c hc
                cases c
                · simp at this ⊢; exact this
                · simp at this ⊢; exact this
              cases ha : l.Given.any (againstB g (wouldM l.Given g)) with
              | true =>
                refine EvP.ifF (by simp) ?_
                by_cases h60 : 60 ≤ l.Waits.length
                · refine EvP.ifT (by simp; omega) (EvP.ret ?_); simp [h60]
                · refine EvP.ifF (by simp; omega) (EvP.ifT (by omega) (EvP.ret ?_)); simp [h60]
              | false =>
                by_cases hc : l.Given.any (forB g.Tx g.Res) = true ∨ l.Waits.any (fun x => decide (x.Res = g.Res)) = false
                · refine EvP.ifT ?_ ?_
                  · rcases hc with hc | hc
                    · rw [hfx _ hc]; simp
                    · rw [hc]; simp
                  · by_cases h60 : l.Given.any (forB g.Tx g.Res) = false ∧ 60 ≤ l.Given.length
                    · refine EvP.ifT (by rw [hlt _ h60.1]; simp; omega) (EvP.ret ?_)
                      rw [if_pos ⟨rfl, hc⟩, if_pos h60]
                    · refine EvP.ifF ?_ (EvP.bind1 (give_ev (by omega) _ _) (EvP.ret ?_))
                      · rw [hlt _ rfl]
                        cases h9 : l.Given.any (forB g.Tx g.Res) with
                        | true => simp
                        | false => simp [h9] at h60 ⊢; omega
                      · rw [if_pos ⟨rfl, hc⟩, if_neg h60]
                · have hc2 : ¬ (false = false ∧ (l.Given.any (forB g.Tx g.Res) = true ∨ l.Waits.any (fun x => decide (x.Res = g.Res)) = false)) := fun h => hc h.2
                  refine EvP.ifF ?_ ?_
                  · simp only [not_or, Bool.not_eq_true, Bool.not_eq_false] at hc
                    rw [hfx _ hc.1, hc.2]; simp
                  · by_cases h60 : 60 ≤ l.Waits.length
                    · refine EvP.ifT (by simp; omega) (EvP.ret ?_); rw [if_neg hc2, if_pos h60]
                    · refine EvP.ifF (by simp; omega) (EvP.ifT (by omega) (EvP.ret ?_)); rw [if_neg hc2, if_neg h60]
end Go.Proofs.Ytbcpkopchnlefaa
