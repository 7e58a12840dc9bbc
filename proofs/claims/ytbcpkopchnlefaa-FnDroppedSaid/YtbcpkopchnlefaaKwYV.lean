/- The plain law of the locks: giving, dropping, drawing: how long the lists get. Conditions: none. -/
import Derived.Test.YtbcpkopchnlefaaKwYU
set_option linter.unusedVariables false
set_option linter.unusedSimpArgs false
namespace Go.Proofs.Ytbcpkopchnlefaa
open Go.Kw

def giveM (gs : List TGrant) (g : TGrant) (m : Int) : List TGrant := if gs.any (forB g.Tx g.Res) = true then wr gs (fidx (forB g.Tx g.Res) gs) { rd gs (fidx (forB g.Tx g.Res) gs) with Mode := m } else gs ++ [⟨g.Tx, g.Res, m⟩]
theorem giveM_len (gs : List TGrant) (g : TGrant) (m : Int) : (giveM gs g m).length ≤ gs.length + 1 := by
  unfold giveM; split
  · rw [wr_len]; omega
  · simp
theorem give_ev {gs : List TGrant} (hl : gs.length ≤ 1000) (g : TGrant) (m : Int) : EvP (fun k => impl_Locks_give.f k gs g m) (· = giveM gs g m) := by
  unfold impl_Locks_give.f giveM
  refine EvP.bind1 (givenAt_ev (l := ⟨gs, []⟩) (by simp; omega) g.Tx g.Res) ?_
  by_cases h : gs.any (forB g.Tx g.Res) = true
  · obtain ⟨i, hi, e, _⟩ := fidx_lt h
    rw [if_pos h]
    refine EvP.ifT (by simpa using fidx_pos.2 h) (EvP.ifT ⟨fidx_pos.2 h, ?_⟩ (EvP.ret rfl))
    simp only; rw [e]; omega
  · rw [if_neg h]
    exact EvP.ifF (by simpa using fun h' => h (fidx_pos.1 h')) (EvP.ifT (by omega) (EvP.ret rfl))
theorem sGive_ev {gs ws : List TGrant} (hl : gs.length ≤ 1000) (g : TGrant) (m : Int) : EvP (fun k => spec_l9Give.f k gs ws g m) (· = (giveM gs g m, ws)) := by
  unfold spec_l9Give.f spec_l9Give.c1
  have := first_ev (fun k i => spec_l9Give.l1 gs g m ws k i) gs (forB g.Tx g.Res) (fun i => (wr gs (i : Int) ({ (rd gs (i : Int)) with Mode := m }), ws)) (by omega) ?_ ?_ ?_
  · refine EvP.bind this fun r hr => ?_
    unfold giveM fidx
    by_cases h : gs.any (forB g.Tx g.Res) = true
    · rw [if_pos h] at hr; subst hr
      simp only [Ex.on, if_pos h]; exact EvP.ret rfl
    · rw [if_neg h] at hr; subst hr
      simp only [Ex.on, if_neg h]; exact EvP.ifT (by omega) (EvP.ret rfl)
  · intro i hi hP
    simp only [forB, Bool.and_eq_true, decide_eq_true_eq] at hP
    simp only [spec_l9Give.l1, spec_l9Give.c2, rd_eq hi]
    exact EvP.ifT (by simpa using hi) (EvP.bind1 (a := true) (EvP.ifT ⟨by omega, by omega⟩ (EvP.ifT (by simp [hP.1]) (EvP.ifT ⟨by omega, by omega⟩ (EvP.ret (by simp [hP.2]))))) (EvP.ifT rfl (EvP.ifT ⟨by omega, by omega⟩ (EvP.ret rfl))))
  · intro i hi hP ih
    simp only [spec_l9Give.l1, spec_l9Give.c2, rd_eq hi]
    refine EvP.ifT (by simpa using hi) (EvP.bind1 (a := false) (EvP.ifT ⟨by omega, by omega⟩ (EvP.ite (fun h => EvP.ifT ⟨by omega, by omega⟩ (EvP.ret ?_)) fun h => EvP.ret rfl)) (EvP.ifF (by simp) ?_))
    · simp only [decide_eq_true_eq] at h
      simp only [forB, h, decide_true, Bool.true_and] at hP
      exact hP
    · rw [w64_succ hi (by omega)]; exact ih
  · simp only [spec_l9Give.l1]
    exact EvP.ifF (by simp) (EvP.ret rfl)
theorem without_ev {gs : List TGrant} (hl : gs.length ≤ 1000) (tx : Int) : EvP (fun k => spec_l9Without.f k gs tx) (· = gs.filter (fun g => decide (g.Tx ≠ tx))) := by
  unfold spec_l9Without.f spec_l9Without.c1
  refine EvP.bind1 (a := gs.filter (fun g => decide (g.Tx ≠ tx))) ?_ (EvP.ret rfl)
  have := for_up (fun k (s : List TGrant) i => spec_l9Without.l1 gs tx k s i) gs.length (fun i s => s = (gs.take i).filter (fun g => decide (g.Tx ≠ tx))) (· = gs.filter (fun g => decide (g.Tx ≠ tx))) ?_ ?_ (i := 0) (s := []) (Nat.zero_le _) (by simp)
  · exact this
  · intro i s hi hI ih
    simp only [spec_l9Without.l1, spec_l9Without.c2, rd_eq hi]
    have hsl : s.length ≤ i := by rw [hI]; exact Nat.le_trans (List.length_filter_le _ _) (by simp; omega)
    have hstep : gs.take (i + 1) = gs.take i ++ [gs[i]] := by rw [List.take_add_one, List.getElem?_eq_getElem hi]; rfl
    refine EvP.ifT (by simpa using hi) (EvP.bind (Q := fun s' => s' = (gs.take (i + 1)).filter (fun g => decide (g.Tx ≠ tx))) (EvP.ifT ⟨by omega, by omega⟩ ?_) fun s' hs' => ?_)
    · rw [hstep, List.filter_append]
      refine EvP.iteD (fun h => EvP.ifT ⟨by omega, by omega⟩ (EvP.ifT (by omega) (EvP.ret ?_))) fun h => EvP.ret ?_
      · rw [hI, List.filter_cons, h]; simp
      · rw [hI, List.filter_cons, h]; simp
    · rw [w64_succ hi (by omega)]; exact ih s' hs'
  · intro s hI
    simp only [spec_l9Without.l1]
    refine EvP.ifF (by simp) (EvP.ret ?_)
    rw [hI, List.take_length]
end Go.Proofs.Ytbcpkopchnlefaa
