/- Drawn records are of few items. Conditions: none. -/
import Derived.Test.YtocknibhajihmaaKwB4C
import Derived.Test.YtocknibhajihmaaKwB4B
set_option linter.unusedVariables false
set_option linter.unusedSimpArgs false
namespace Go.Proofs.Ytocknibhajihmaa
open Go.Kw

theorem refs_loop {xs : List Int} (hl : xs.length ≤ 1048576) (m : Nat) : ∀ (n : Int) (b : List Int) (i h : Int) (acc : List Int), n ≤ m → acc.length + m ≤ 100 → Cur xs b i → EvP (fun k => spec_l2Obj.l1 k b i h acc n) (fun r => r.1.length ≤ 100 ∧ Cur xs r.2.1 r.2.2.1) := by
  induction m with
  | zero =>
    intro n b i h acc hn ha hc
    refine EvP.succ ?_
    simp only [spec_l2Obj.l1]
    exact EvP.ifF (by simp; omega) (EvP.ret ⟨by show acc.length ≤ _; omega, hc⟩)
  | succ m ih =>
    intro n b i h acc hn ha hc
    refine EvP.succ ?_
    simp only [spec_l2Obj.l1]
    refine EvP.ite (fun h0 => ?_) fun _ => EvP.ret ⟨by show acc.length ≤ _; omega, hc⟩
    simp only [decide_eq_true_eq] at h0
    refine EvP.bind (l1Below_ev hl hc (by omega)) fun r hr => EvP.bind (l1Int_ev hl hr.2.2 (by simp)) fun r2 hr2 => EvP.ifT (by omega) ?_
    rw [w64_id (by omega) (by omega)]
    exact ih (n - 1) _ _ _ _ (by omega) (by simp; omega) hr2.2
theorem ints2_loop {xs : List Int} (hl : xs.length ≤ 1048576) (m : Nat) : ∀ (n : Int) (b : List Int) (i h : Int) (acc : List Int), n ≤ m → acc.length + m ≤ 100 → Cur xs b i → EvP (fun k => spec_l2Obj.l2 k b i h acc n) (fun r => r.1.length ≤ 100 ∧ Cur xs r.2.1 r.2.2.1) := by
  induction m with
  | zero =>
    intro n b i h acc hn ha hc
    refine EvP.succ ?_
    simp only [spec_l2Obj.l2]
    exact EvP.ifF (by simp; omega) (EvP.ret ⟨by show acc.length ≤ _; omega, hc⟩)
  | succ m ih =>
    intro n b i h acc hn ha hc
    refine EvP.succ ?_
    simp only [spec_l2Obj.l2]
    refine EvP.ite (fun h0 => ?_) fun _ => EvP.ret ⟨by show acc.length ≤ _; omega, hc⟩
    simp only [decide_eq_true_eq] at h0
    refine EvP.bind (l1Below_ev hl hc (by omega)) fun r hr => EvP.bind (l1Int_ev hl hr.2.2 (by simp)) fun r2 hr2 => EvP.ifT (by omega) ?_
    rw [w64_id (by omega) (by omega)]
    exact ih (n - 1) _ _ _ _ (by omega) (by simp; omega) hr2.2
def fewObj (o : TObj) : Prop := o.Ints.length ≤ 100 ∧ o.Refs.length ≤ 100
def fewSlot (s : TSlot) : Prop := fewObj s.O
theorem l2Obj_ev {xs b : List Int} {i h : Int} (hl : xs.length ≤ 1048576) (hc : Cur xs b i) : EvP (fun k => spec_l2Obj.f k b i h) (fun r => fewObj r.1 ∧ Cur xs r.2.1 r.2.2.1) := by
  unfold spec_l2Obj.f
  refine EvP.bind (l1Below_ev hl hc (by omega)) fun r1 h1 => EvP.bind (EvP.bind (l1Below_ev hl h1.2.2 (by omega)) fun r2 h2 => ints2_loop hl 3 r2.1 _ _ _ _ (by omega) (by simp) h2.2.2) fun r3 h3 => ?_
  unfold spec_l2Obj.c2 spec_l2Obj.c1
  exact EvP.bind (EvP.bind (l1Below_ev hl h3.2 (by omega)) fun r4 h4 => refs_loop hl 4 r4.1 _ _ _ _ (by omega) (by simp) h4.2.2) fun r5 h5 => EvP.ret ⟨⟨h3.1, h5.1⟩, h5.2⟩
theorem l3DrawSlot_ev {xs b : List Int} {i h : Int} (hl : xs.length ≤ 1048576) (hc : Cur xs b i) : EvP (fun k => spec_l3DrawSlot.f k b i h) (fun r => fewSlot r.1 ∧ Cur xs r.2.1 r.2.2.1) := by
  unfold spec_l3DrawSlot.f
  refine EvP.bind (l1Once_ev hl hc (by omega)) fun r1 h1 => EvP.ite (fun _ => EvP.ret ⟨⟨by show 0 ≤ _; omega, by show 0 ≤ _; omega⟩, h1⟩) fun _ => EvP.bind (l2Obj_ev hl h1) fun r2 h2 => EvP.ret ⟨h2.1, h2.2⟩
theorem lives4_loop {xs : List Int} (hl : xs.length ≤ 1048576) (m : Nat) : ∀ (j : Int) (b : List Int) (i h : Int) (acc : List TLive), 5 - j ≤ m → 0 ≤ j → acc.length + m ≤ 100 → Cur xs b i →
    EvP (fun k => spec_l4Draw.l1 k acc b i h j) (fun r => (r.2.2.2.2.2.1.length ≤ 100 ∧ r.2.2.2.2.2.2.1.length ≤ 100 ∧ r.2.2.2.2.2.2.2.2.2.1.length ≤ 100 ∧ r.2.2.2.2.2.2.2.2.2.2.1.length ≤ 100 ∧ r.2.2.2.2.2.2.2.2.2.2.2.2.1.length ≤ 100) ∧ Cur xs r.2.2.2.2.2.2.2.2.2.2.2.2.2.1 r.2.2.2.2.2.2.2.2.2.2.2.2.2.2.1) := by
  have stop : ∀ (j : Int) (b : List Int) (i h : Int) (acc : List TLive), ¬ j < 5 → acc.length ≤ 100 → Cur xs b i →
    EvP (fun k => spec_l4Draw.l1 k acc b i h j) (fun r => (r.2.2.2.2.2.1.length ≤ 100 ∧ r.2.2.2.2.2.2.1.length ≤ 100 ∧ r.2.2.2.2.2.2.2.2.2.1.length ≤ 100 ∧ r.2.2.2.2.2.2.2.2.2.2.1.length ≤ 100 ∧ r.2.2.2.2.2.2.2.2.2.2.2.2.1.length ≤ 100) ∧ Cur xs r.2.2.2.2.2.2.2.2.2.2.2.2.2.1 r.2.2.2.2.2.2.2.2.2.2.2.2.2.2.1) := by
    intro j b i h acc hj ha hc
    refine EvP.succ ?_
    simp only [spec_l4Draw.l1]
    exact EvP.ifF (by simp; omega) (EvP.ret ⟨⟨by simp, by simp, by simp, by simp, ha⟩, hc⟩)
  induction m with
  | zero => intro j b i h acc hn h0 ha hc; exact stop j b i h acc (by omega) (by omega) hc
  | succ m ih =>
    intro j b i h acc hn h0 ha hc
    by_cases hj : j < 5
    · refine EvP.succ ?_
      simp only [spec_l4Draw.l1, spec_l4Draw.c2]
      refine EvP.ifT (by simpa using hj) (EvP.bind (Q := fun r => r.1.length ≤ acc.length + 1 ∧ Cur xs r.2.1 r.2.2.1) (EvP.bind (l1Once_ev hl hc (by omega)) fun r1 h1 => EvP.ite (fun _ => EvP.bind (l1Below_ev hl h1 (by omega)) fun r2 h2 => EvP.bind (l1Once_ev hl h2.2.2 (by omega)) fun r3 h3 => EvP.ifT (by omega) (EvP.ret ⟨by simp, h3⟩)) fun _ => EvP.ret ⟨by show acc.length ≤ _; omega, h1⟩) fun r hr => ?_)
      rw [w64_id (by omega) (by omega)]
      exact ih (j + 1) _ _ _ _ (by omega) (by omega) (by have := hr.1; omega) hr.2
    · exact stop j b i h acc hj (by omega) hc
def fewRec (r : TRec) : Prop := fewSlot r.Before ∧ fewSlot r.After ∧ r.Txs.length ≤ 101
theorem few_g {r : TRec} (h : fewRec r) : gRec r := ⟨⟨⟨by have := h.1.1; omega, by have := h.1.2; omega, trivial⟩, trivial⟩, ⟨⟨by have := h.2.1.1; omega, by have := h.2.1.2; omega, trivial⟩, trivial⟩, by have := h.2.2; omega, trivial⟩
theorem l4Draw_ev {xs b : List Int} {i h : Int} (hl : xs.length ≤ 1048576) (hc : Cur xs b i) : EvP (fun k => spec_l4Draw.f k b i h) (fun r => (fewSlot r.1.Before ∧ fewSlot r.1.After ∧ r.1.Txs.length ≤ 100) ∧ Cur xs r.2.1 r.2.2.1) := by
  unfold spec_l4Draw.f
  refine EvP.bind (l1Below_ev hl hc (by omega)) fun r1 h1 => EvP.bind (l1Below_ev hl h1.2.2 (by omega)) fun r2 h2 => EvP.bind (l1Below_ev hl h2.2.2 (by omega)) fun r3 h3 => EvP.bind (l1Int_ev hl h3.2.2 (by simp)) fun r4 h4 => ?_
  unfold spec_l4Draw.c1
  refine EvP.bind (Q := fun r : Int × Int × Int × Bool × Int × (List Int) × (List Int) × Bool × Int × (List Int) × (List Int) × Int × (List TLive) × (List Int) × Int × Int => (r.2.2.2.2.2.1.length ≤ 100 ∧ r.2.2.2.2.2.2.1.length ≤ 100 ∧ r.2.2.2.2.2.2.2.2.2.1.length ≤ 100 ∧ r.2.2.2.2.2.2.2.2.2.2.1.length ≤ 100 ∧ r.2.2.2.2.2.2.2.2.2.2.2.2.1.length ≤ 100) ∧ Cur xs r.2.2.2.2.2.2.2.2.2.2.2.2.2.1 r.2.2.2.2.2.2.2.2.2.2.2.2.2.2.1) ?_ fun r hr => EvP.ret ⟨⟨⟨hr.1.1, hr.1.2.1⟩, ⟨hr.1.2.2.1, hr.1.2.2.2.1⟩, hr.1.2.2.2.2⟩, hr.2⟩
  refine EvP.ite (fun _ => ?_) fun _ => EvP.ite (fun _ => ?_) fun _ => EvP.ite (fun _ => ?_) fun _ => EvP.ret ⟨⟨by simp, by simp, by simp, by simp, by simp⟩, h4.2⟩
  · exact EvP.bind (l1Below_ev hl h4.2 (by omega)) fun r5 h5 => EvP.bind (l3DrawSlot_ev hl h5.2.2) fun r6 h6 => EvP.bind (l3DrawSlot_ev hl h6.2) fun r7 h7 => EvP.ret ⟨⟨h6.1.1, h6.1.2, h7.1.1, h7.1.2, by simp⟩, h7.2⟩
  · exact EvP.bind (l1Below_ev hl h4.2 (by omega)) fun r5 h5 => EvP.bind (l3DrawSlot_ev hl h5.2.2) fun r6 h6 => EvP.bind (l1Int_ev hl h6.2 (by simp)) fun r7 h7 => EvP.ret ⟨⟨by simp, by simp, h6.1.1, h6.1.2, by simp⟩, h7.2⟩
  · exact lives4_loop hl 4 1 _ _ _ _ (by omega) (by omega) (by simp) h4.2
theorem l4Bend_ev {xs b : List Int} {i h : Int} {x : TRec} (hl : xs.length ≤ 1048576) (hc : Cur xs b i) (hx : fewSlot x.Before ∧ fewSlot x.After ∧ x.Txs.length ≤ 100) : EvP (fun k => spec_l4Bend.f k b i h x) (fun r => fewRec r.1 ∧ Cur xs r.2.1 r.2.2.1) := by
  unfold spec_l4Bend.f spec_l4Bend.c1
  obtain ⟨x1, x2, x3⟩ := hx
  refine EvP.bind (Q := fun r : Int × Int × Int × Int × Int × Int × (List TLive) × (List Int) × Int × Int => r.2.2.2.2.2.2.1.length ≤ 101 ∧ Cur xs r.2.2.2.2.2.2.2.1 r.2.2.2.2.2.2.2.2.1) ?_ fun r hr => EvP.ret ⟨⟨x1, x2, hr.1⟩, hr.2⟩
  have x4 : x.Txs.length ≤ 101 := by omega
  refine EvP.bind (l1Below_ev hl hc (by omega)) fun r1 h1 => ?_
  refine EvP.ite (fun _ => EvP.bind (l1Int_ev hl h1.2.2 (by simp)) fun r2 h2 => EvP.ret ⟨x4, h2.2⟩) fun _ => ?_
  refine EvP.ite (fun _ => EvP.bind (l1Int_ev hl h1.2.2 (by simp)) fun r2 h2 => EvP.ret ⟨x4, h2.2⟩) fun _ => ?_
  refine EvP.ite (fun _ => EvP.bind (l1Int_ev hl h1.2.2 (by simp)) fun r2 h2 => EvP.ret ⟨x4, h2.2⟩) fun _ => ?_
  refine EvP.ite (fun _ => EvP.bind (l1Int_ev hl h1.2.2 (by simp)) fun r2 h2 => EvP.ret ⟨x4, h2.2⟩) fun _ => ?_
  refine EvP.ite (fun _ => EvP.bind (l1Int_ev hl h1.2.2 (by simp)) fun r2 h2 => EvP.ret ⟨x4, h2.2⟩) fun _ => ?_
  refine EvP.ite (fun _ => EvP.bind (l1Int_ev hl h1.2.2 (by simp)) fun r2 h2 => EvP.ret ⟨x4, h2.2⟩) fun _ => ?_
  refine EvP.ite (fun _ => EvP.ifT (by simp; omega) (EvP.bind (l1Int_ev hl h1.2.2 (by simp)) fun r2 h2 => EvP.bind (l1Int_ev hl h2.2 (by simp)) fun r3 h3 => EvP.ifT (by simp; omega) (EvP.ret ⟨by simp; omega, h3.2⟩))) fun _ => EvP.ret ⟨x4, h1.2.2⟩
theorem l4DrawAny_ev {xs b : List Int} {i h : Int} (hl : xs.length ≤ 1048576) (hc : Cur xs b i) : EvP (fun k => spec_l4DrawAny.f k b i h) (fun r => fewRec r.1 ∧ Cur xs r.2.1 r.2.2.1) := by
  unfold spec_l4DrawAny.f spec_l4DrawAny.c1
  refine EvP.bind (l4Draw_ev hl hc) fun r1 h1 => ?_
  obtain ⟨⟨⟨a1, a2⟩, ⟨a3, a4⟩, a5⟩, a6⟩ := h1
  refine EvP.bind (Q := fun r : Int × Int × Int × Int × Int × Bool × Int × (List Int) × (List Int) × Bool × Int × (List Int) × (List Int) × Int × (List TLive) × (List Int) × Int × Int => (r.2.2.2.2.2.2.2.1.length ≤ 100 ∧ r.2.2.2.2.2.2.2.2.1.length ≤ 100 ∧ r.2.2.2.2.2.2.2.2.2.2.2.1.length ≤ 100 ∧ r.2.2.2.2.2.2.2.2.2.2.2.2.1.length ≤ 100 ∧ r.2.2.2.2.2.2.2.2.2.2.2.2.2.2.1.length ≤ 101) ∧ Cur xs r.2.2.2.2.2.2.2.2.2.2.2.2.2.2.2.1 r.2.2.2.2.2.2.2.2.2.2.2.2.2.2.2.2.1) ?_ fun r hr => EvP.ret ⟨⟨⟨hr.1.1, hr.1.2.1⟩, ⟨hr.1.2.2.1, hr.1.2.2.2.1⟩, hr.1.2.2.2.2⟩, hr.2⟩
  refine EvP.bind (l1Once_ev hl a6 (by omega)) fun r2 h2 => EvP.ite (fun _ => ?_) fun _ => EvP.ret ⟨⟨a1, a2, a3, a4, by show r1.1.Txs.length ≤ _; omega⟩, h2⟩
  exact EvP.bind (l4Bend_ev hl h2 ⟨⟨a1, a2⟩, ⟨a3, a4⟩, a5⟩) fun r3 h3 => EvP.ret ⟨⟨h3.1.1.1, h3.1.1.2, h3.1.2.1.1, h3.1.2.1.2, h3.1.2.2⟩, h3.2⟩
theorem DrawPutRec_ev {xs : List Int} (hl : xs.length ≤ 1048576) : EvP (fun k => spec_DrawPutRec.f k xs) fewRec := by
  unfold spec_DrawPutRec.f
  exact EvP.bind (l1New_ev hl) fun r1 h1 => EvP.bind (l4DrawAny_ev hl h1) fun r2 h2 => EvP.ret h2.1
end Go.Proofs.Ytocknibhajihmaa
