/- The plain law of the locks: what is drawn. Conditions: none. -/
import Derived.Test.YtbcpkopchnlefaaKwYW
import Derived.Test.YtbcpkopchnlefaaKwYC
set_option linter.unusedVariables false
set_option linter.unusedSimpArgs false
namespace Go.Proofs.Ytbcpkopchnlefaa
open Go.Kw

theorem l1Size_ev {xs : List Int} (hl : xs.length ≤ 1048576) {n : Int} (hn : 1 ≤ n) : EvP (fun k => spec_l1Size.f k xs n) (fun r => 1 ≤ r ∧ r ≤ n) := by
  unfold spec_l1Size.f
  have h0 : 0 ≤ (xs.length : Int).tdiv 12 := Int.tdiv_nonneg (by omega) (by omega)
  have h1 : (xs.length : Int).tdiv 12 ≤ xs.length := Int.tdiv_le_self _ (by omega)
  have e : w64 (3 + w64 ((xs.length : Int).tdiv 12)) = 3 + (xs.length : Int).tdiv 12 := by
    rw [w64_id (n := (xs.length : Int).tdiv 12) (by omega) (by omega), w64_id (by omega) (by omega)]
  simp only [e, decide_eq_true_eq]
  refine EvP.ite (fun h => EvP.ret ⟨hn, Int.le_refl _⟩) fun h => EvP.ret ?_
  omega
theorem l9Draw_ev {xs b : List Int} {i h n : Int} (hl : xs.length ≤ 1048576) (hc : Cur xs b i) (hn : 1 ≤ n) (hn2 : n ≤ 40) : EvP (fun k => spec_l9Draw.f k b i h n) (fun r => r.1.Given.length + r.1.Waits.length ≤ n.toNat ∧ Cur xs r.2.1 r.2.2.1) := by
  unfold spec_l9Draw.f spec_l9Draw.c1
  refine EvP.bind (Q := fun r => r.1.length + r.2.1.length ≤ n.toNat ∧ Cur xs r.2.2.1 r.2.2.2.1) (EvP.bind (l1Below_ev hl hc (by omega)) fun r0 hr0 => ?_) fun r hr => EvP.ret hr
  have : ∀ (m : Nat) {b : List Int} {i h : Int} {gs ws : List TGrant} {x : Int}, x = m → gs.length + ws.length + m ≤ n.toNat → Cur xs b i →
      EvP (fun k => spec_l9Draw.l1 k b i h gs ws x) (fun r => r.1.length + r.2.1.length ≤ n.toNat ∧ Cur xs r.2.2.1 r.2.2.2.1) := by
    intro m
    induction m with
    | zero =>
      intro b i h gs ws x hx hs hc
      refine EvP.succ ?_
      simp only [spec_l9Draw.l1]
      exact EvP.ifF (by simp; omega) (EvP.ret ⟨by simp only; omega, hc⟩)
    | succ m ih =>
      intro b i h gs ws x hx hs hc
      refine EvP.succ ?_
      simp only [spec_l9Draw.l1, spec_l9Draw.c2]
      refine EvP.ifT (by simp; omega) (EvP.bind (Q := fun s => s.2.2.2.1.length + s.2.2.2.2.length + m ≤ n.toNat ∧ Cur xs s.1 s.2.1) ?_ fun s hs' => ?_)
      · refine EvP.bind (l1Below_ev hl hc (by decide)) fun r1 hr1 => EvP.bind (l1Once_ev hl hr1.2.2 (by decide)) fun r2 hr2 => EvP.ite (fun _ => EvP.bind (l9Drop_ev (by omega) _) fun r3 hr3 => EvP.ret ⟨by simp only; omega, hr2⟩) fun _ => ?_
        refine EvP.bind1 (sWaits_ev (l := ⟨gs, ws⟩) (by simp; omega) _) (EvP.ite (fun _ => ?_) fun _ => EvP.ret ⟨by simp only; omega, hr2⟩)
        refine EvP.bind (l1Below_ev hl hr2 (by decide)) fun r4 hr4 => EvP.bind (l1Below_ev hl hr4.2.2 (by decide)) fun r5 hr5 => EvP.bind (l9Ask_ev (by omega) _) fun r6 hr6 => EvP.ret ⟨by simp only; omega, hr5.2.2⟩
      · exact ih (by rw [w64_id (by omega) (by omega)]; omega) hs'.1 hs'.2
  exact this r0.1.toNat (by omega) (by simp; omega) hr0.2.2
theorem DrawAny_ev {xs b : List Int} {i h n : Int} (hl : xs.length ≤ 1048576) (hc : Cur xs b i) (hn : 1 ≤ n) (hn2 : n ≤ 40) : EvP (fun k => spec_l9DrawAny.f k b i h n) (fun r => r.1.Given.length + r.1.Waits.length ≤ n.toNat + 1 ∧ Cur xs r.2.1 r.2.2.1) := by
  unfold spec_l9DrawAny.f spec_l9DrawAny.c1
  refine EvP.bind (l9Draw_ev hl hc hn hn2) fun r hr => EvP.bind (Q := fun s => s.2.2.2.1.length + s.2.2.2.2.length ≤ n.toNat + 1 ∧ Cur xs s.1 s.2.1) ?_ fun s hs => EvP.ret hs
  have h1 := hr.1
  refine EvP.bind (l1Below_ev hl hr.2 (by decide)) fun r1 hr1 => EvP.ite (fun _ => ?_) fun _ => EvP.ite (fun _ => ?_) fun _ => EvP.ret ⟨by simp only; omega, hr1.2.2⟩
  · refine EvP.bind (l1Below_ev hl hr1.2.2 (by decide)) fun r2 hr2 => EvP.bind (l1Below_ev hl hr2.2.2 (by decide)) fun r3 hr3 => EvP.bind (l1Below_ev hl hr3.2.2 (by decide)) fun r4 hr4 => EvP.ifT (by omega) (EvP.ret ⟨by simp; omega, hr4.2.2⟩)
  · refine EvP.bind (l1Below_ev hl hr1.2.2 (by decide)) fun r2 hr2 => EvP.bind (l1Int_ev hl hr2.2.2 (by simp)) fun r3 hr3 => EvP.bind (l1Below_ev hl hr3.2 (by decide)) fun r4 hr4 => EvP.ifT (by omega) (EvP.ret ⟨by simp; omega, hr4.2.2⟩)
theorem DrawAsk_ev {xs : List Int} (hl : xs.length ≤ 1048576) : EvP (fun k => spec_DrawAsk.f k xs) (fun r => r.1.Given.length + r.1.Waits.length ≤ 17) := by
  unfold spec_DrawAsk.f spec_DrawAsk.c1
  refine EvP.bind (l1New_ev hl) fun c hc => EvP.bind (l1Size_ev hl (by decide)) fun n hn => EvP.bind (DrawAny_ev hl hc hn.1 (by omega)) fun r hr => EvP.bind (Q := fun s => s.2.2.2.1.length + s.2.2.2.2.1.length ≤ 17) ?_ fun s hs => EvP.ret hs
  have := hr.1
  exact EvP.bind (l1Int_ev hl hr.2 (by simp)) fun r1 hr1 => EvP.bind (l1Int_ev hl hr1.2 (by simp)) fun r2 hr2 => EvP.bind (l1Int_ev hl hr2.2 (by simp)) fun r3 hr3 => EvP.ret (by simp only; omega)
end Go.Proofs.Ytbcpkopchnlefaa
