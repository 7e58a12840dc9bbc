/- Drawn records are of few items. Conditions: none. -/
import Derived.Test.YtocknibhajihmaaKwB4C
import Derived.Test.YtocknibhajihmaaKwB4B
set_option linter.unusedVariables false
set_option linter.unusedSimpArgs false
namespace Go.Proofs.Ytocknibhajihmaa
open Go.Kw

theorem refs_loop {xs : List Int} (hl : xs.length ≤ 1048576) (m : Nat) : ∀ (n : Int) (b : List Int) (i h : Int) (acc : List Int), n ≤ m → acc.length + m ≤ 100 → Cur xs b i → EvP (fun k => spec_l2Obj.l1 k b i h acc n) (fun r => r.1.length ≤ 100 ∧ Cur xs r.2.1 r.2.2.1) := by
  induction m with
  | zero =>
    intro n b i h acc hn ha hc
    refine EvP.succ ?_
    simp only [spec_l2Obj.l1]
    exact EvP.ifF (by simp; omega) (EvP.ret ⟨by show acc.length ≤ _; omega, hc⟩)
  | succ m ih =>
    intro n b i h acc hn ha hc
    refine EvP.succ ?_
    simp only [spec_l2Obj.l1]
    refine EvP.ite (fun h0 => ?_) fun _ => EvP.ret ⟨by show acc.length ≤ _; omega, hc⟩
    simp only [decide_eq_true_eq] at h0
    refine EvP.bind (l1Below_ev hl hc (by omega)) fun r hr => EvP.bind (l1Int_ev hl hr.2.2 (by simp)) fun r2 hr2 => EvP.ifT (by omega) ?_
    rw [w64_id (by omega) (by omega)]
    exact ih (n - 1) _ _ _ _ (by omega) (by simp; omega) hr2.2
theorem ints2_loop {xs : List Int} (hl : xs.length ≤ 1048576) (m : Nat) : ∀ (n : Int) (b : List Int) (i h : Int) (acc : List Int), n ≤ m → acc.length + m ≤ 100 → Cur xs b i → EvP (fun k => spec_l2Obj.l2 k b i h acc n) (fun r => r.1.length ≤ 100 ∧ Cur xs r.2.1 r.2.2.1) := by
  induction m with
  | zero =>
    intro n b i h acc hn ha hc
    refine EvP.succ ?_
    simp only [spec_l2Obj.l2]
    exact EvP.ifF (by simp; omega) (EvP.ret ⟨by show acc.length ≤ _; omega, hc⟩)
  | succ m ih =>
    intro n b i h acc hn ha hc
    refine EvP.succ ?_
    simp only [spec_l2Obj.l2]
    refine EvP.ite (fun h0 => ?_) fun _ => EvP.ret ⟨by show acc.length ≤ _; omega, hc⟩
    simp only [decide_eq_true_eq] at h0
    refine EvP.bind (l1Below_ev hl hc (by omega)) fun r hr => EvP.bind (l1Int_ev hl hr.2.2 (by simp)) fun r2 hr2 => EvP.ifT (by omega) ?_
    rw [w64_id (by omega) (by omega)]
    exact ih (n - 1) _ _ _ _ (by omega) (by simp; omega) hr2.2
def fewObj (o : TObj) : Prop := o.Ints.length ≤ 100 ∧ o.Refs.length ≤ 100
def fewSlot (s : TSlot) : Prop := fewObj s.O
theorem l2Obj_ev {xs b : List Int} {i h : Int} (hl : xs.length ≤ 1048576) (hc : Cur xs b i) : EvP (fun k => spec_l2Obj.f k b i h) (fun r => fewObj r.1 ∧ Cur xs r.2.1 r.2.2.1) := by
  unfold spec_l2Obj.f
  refine EvP.bind (l1Below_ev hl hc (by omega)) fun r1 h1 => EvP.bind (EvP.bind (l1Below_ev hl h1.2.2 (by omega)) fun r2 h2 => ints2_loop hl 3 r2.1 _ _ _ _ (by omega) (by simp) h2.2.2) fun r3 h3 => ?_
  unfold spec_l2Obj.c2 spec_l2Obj.c1
  exact EvP.bind (EvP.bind (l1Below_ev hl h3.2 (by omega)) fun r4 h4 => refs_loop hl 4 r4.1 _ _ _ _ (by omega) (by simp) h4.2.2) fun r5 h5 => EvP.ret ⟨⟨h3.1, h5.1⟩, h5.2⟩
theorem l3DrawSlot_ev {xs b : List Int} {i h : Int} (hl : xs.length ≤ 1048576) (hc : Cur xs b i) : EvP (fun k => spec_l3DrawSlot.f k b i h) (fun r => fewSlot r.1 ∧ Cur xs r.2.1 r.2.2.1) := by
  unfold spec_l3DrawSlot.f
  refine EvP.bind (l1Once_ev hl hc (by omega)) fun r1 h1 => EvP.ite (fun _ => EvP.ret ⟨⟨by show 0 ≤ _; omega, by show 0 ≤ _; omega⟩, h1⟩) fun _ => EvP.bind (l2Obj_ev hl h1) fun r2 h2 => EvP.ret ⟨h2.1, h2.2⟩
end Go.Proofs.Ytocknibhajihmaa
