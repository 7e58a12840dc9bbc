/- The plain law of the locks: what is drawn is short. Conditions: none. -/
import Derived.Test.YtbcpkopchnlefaaKwYV
set_option linter.unusedVariables false
set_option linter.unusedSimpArgs false
namespace Go.Proofs.Ytbcpkopchnlefaa
open Go.Kw

theorem l9Ask_ev {gs ws : List TGrant} (hl : gs.length + ws.length ≤ 100) (g : TGrant) : EvP (fun k => spec_l9Ask.f k gs ws g) (fun r => r.2.1.length + r.2.2.length ≤ gs.length + ws.length + 1) := by
  unfold spec_l9Ask.f spec_l9Ask.c1
  refine EvP.bind1 (has_ev (l := ⟨gs, ws⟩) (by simp; omega) _ _) (EvP.bind1 (sWould_ev (l := ⟨gs, ws⟩) (by simp; omega) _) (EvP.ite (fun _ => EvP.ret (by simp)) fun _ => ?_))
  refine EvP.bind (Q := fun _ => True) (EvP.bind1 (fits_ev (l := ⟨gs, ws⟩) (by simp; omega) _ _) (EvP.ite (fun _ => EvP.ite (fun _ => EvP.ret trivial) fun _ => EvP.bind1 (sForRes_ev (by omega) _) (EvP.ret trivial)) fun _ => EvP.ret trivial)) fun b _ => ?_
  refine EvP.ite (fun _ => EvP.bind1 (sGive_ev (by omega) _ _) (EvP.ret ?_)) fun _ => EvP.ifT (by omega) (EvP.ret ?_)
  · have := giveM_len gs g (sWouldM gs g); simp only; omega
  · simp; omega
theorem l9Drop_ev {gs ws : List TGrant} (hl : gs.length + ws.length ≤ 100) (tx : Int) : EvP (fun k => spec_l9Drop.f k gs ws tx) (fun r => r.2.1.length + r.2.2.length ≤ gs.length + ws.length) := by
  unfold spec_l9Drop.f spec_l9Drop.c1
  refine EvP.bind1 (without_ev (by omega) tx) (EvP.bind1 (without_ev (by omega) tx) ?_)
  have h1 := List.length_filter_le (fun g : TGrant => decide (g.Tx ≠ tx)) gs
  have h2 := List.length_filter_le (fun g : TGrant => decide (g.Tx ≠ tx)) ws
  generalize gs.filter (fun g => decide (g.Tx ≠ tx)) = G at *
  generalize ws.filter (fun g => decide (g.Tx ≠ tx)) = W at *
  refine EvP.bind (Q := fun r => r.2.1.length + r.2.2.length ≤ gs.length + ws.length) ?_ fun r hr => EvP.ret hr
  have := for_up (fun k (s : List Int × List TGrant × List TGrant) i => spec_l9Drop.l1 W k s.1 s.2.1 s.2.2 i) W.length (fun i s => s.1.length ≤ i ∧ s.2.1.length + s.2.2.length ≤ G.length + i) (fun r => r.2.1.length + r.2.2.length ≤ gs.length + ws.length) ?_ ?_ (i := 0) (s := ([], G, [])) (Nat.zero_le _) ⟨by simp, by simp⟩
  · exact this
  · rintro i ⟨a, G1, W1⟩ hi ⟨hI1, hI2⟩ ih
    dsimp only at hI1 hI2 ih ⊢
    simp only [spec_l9Drop.l1, spec_l9Drop.c2, spec_l9Drop.c3, rd_eq hi]
    refine EvP.ifT (by simpa using hi) (EvP.bind (Q := fun s => s.1.length ≤ i + 1 ∧ s.2.1.length + s.2.2.length ≤ G.length + (i + 1)) (EvP.ifT ⟨by omega, by omega⟩ ?_) fun s hs => ?_)
    · refine EvP.bind1 (sWould_ev (l := ⟨G1, W1⟩) (by simp; omega) _) (EvP.bind (Q := fun _ => True) (EvP.bind1 (fits_ev (l := ⟨G1, W1⟩) (by simp; omega) _ _) (EvP.ite (fun _ => EvP.bind1 (sForRes_ev (by omega) _) (EvP.ret trivial)) fun _ => EvP.ret trivial)) fun b _ => ?_)
      refine EvP.ite (fun _ => EvP.bind1 (sGive_ev (by omega) _ _) (EvP.ifT (by omega) (EvP.ret ⟨by simp; omega, ?_⟩))) fun _ => EvP.ifT (by omega) (EvP.ret ⟨by simp only; omega, by simp; omega⟩)
      have := giveM_len G1 W[i] (sWouldM G1 W[i]); simp only; omega
    · rw [w64_succ hi (by omega)]; exact ih s hs
  · rintro ⟨a, G1, W1⟩ ⟨hI1, hI2⟩
    simp only [spec_l9Drop.l1]
    exact EvP.ifF (by simp) (EvP.ret (by dsimp only at hI2 ⊢; omega))
end Go.Proofs.Ytbcpkopchnlefaa
