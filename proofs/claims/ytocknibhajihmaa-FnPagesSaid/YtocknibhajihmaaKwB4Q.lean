/- The plain law of pages. Conditions: none. -/
import Derived.Test.YtocknibhajihmaaKwB4N
set_option linter.unusedVariables false
set_option linter.unusedSimpArgs false
namespace Go.Proofs.Ytocknibhajihmaa
open Go.Kw

def sObj (o : TObj) : Prop := o.Ints.length ≤ 1000 ∧ o.Refs.length ≤ 1000
def sSlot (s : TSlot) : Prop := sObj s.O
def sPage (p : TPage) : Prop := p.Slots.length = 4 ∧ ∀ x ∈ p.Slots, sSlot x
theorem few_s {s : TSlot} (h : fewSlot s) : sSlot s := ⟨by have := h.1; omega, by have := h.2; omega⟩
theorem sSlot_g {s : TSlot} (h : sSlot s) : gSlot s := ⟨⟨by have := h.1; omega, by have := h.2; omega, trivial⟩, trivial⟩
theorem sPage_g {p : TPage} (h : sPage p) : gPage p := ⟨⟨h.1, fun x hx => sSlot_g (h.2 x hx)⟩, trivial⟩
theorem wr_mem {α : Type} {xs : List α} {i : Int} {x y : α} (h : y ∈ wr xs i x) : y ∈ xs ∨ y = x := List.mem_or_eq_of_mem_set h
def fPage (p : TPage) : Prop := p.Slots.length = 4 ∧ ∀ x ∈ p.Slots, fewSlot x
theorem l3DrawPage_ev {xs b : List Int} {i h : Int} (hl : xs.length ≤ 1048576) (hc : Cur xs b i) : EvP (fun k => spec_l3DrawPage.f k b i h) (fun r => fPage r.1 ∧ Cur xs r.2.1 r.2.2.1) := by
  unfold spec_l3DrawPage.f spec_l3DrawPage.c1
  refine EvP.bind (l1Below_ev hl hc (by omega)) fun r1 h1 => EvP.bind (Q := fun s : List TSlot × List Int × Int × Int => (s.1.length = 4 ∧ ∀ x ∈ s.1, fewSlot x) ∧ Cur xs s.2.1 s.2.2.1) ?_ fun s hs => EvP.ret ⟨hs.1, hs.2⟩
  refine for_up (fun k (s : List TSlot × List Int × Int × Int) i => spec_l3DrawPage.l1 k s.1 s.2.1 s.2.2.1 s.2.2.2 i) 4 (fun _ s => (s.1.length = 4 ∧ ∀ x ∈ s.1, fewSlot x) ∧ Cur xs s.2.1 s.2.2.1) _ ?_ ?_ (i := 0) (s := (zv_47, r1.2.1, r1.2.2.1, r1.2.2.2)) (Nat.zero_le _) ⟨⟨rfl, fun x hx => ?_⟩, h1.2.2⟩
  · intro i s hi hI ih
    simp only [spec_l3DrawPage.l1]
    refine EvP.ifT (by simp only [decide_eq_true_eq]; omega) (EvP.bind (l3DrawSlot_ev hl hI.2) fun r hr => EvP.ifT (by omega) ?_)
    rw [w64_succ hi (by omega)]
    refine ih (wr s.1 (i : Int) r.1, r.2.1, r.2.2.1, r.2.2.2) ⟨⟨by rw [wr_len]; exact hI.1.1, fun x hx => ?_⟩, hr.2⟩
    rcases wr_mem hx with h | h
    · exact hI.1.2 x h
    · rw [h]; exact hr.1
  · intro s hI
    simp only [spec_l3DrawPage.l1]
    exact EvP.ifF (by simp) (EvP.ret hI)
  · have : x = (⟨false, (⟨0, [], []⟩ : TObj)⟩ : TSlot) := List.eq_of_mem_replicate hx
    rw [this]
    exact ⟨by show 0 ≤ _; omega, by show 0 ≤ _; omega⟩
theorem l2Bend_ev {xs b : List Int} {i h : Int} {o : TObj} (hl : xs.length ≤ 1048576) (hc : Cur xs b i) (ho : o.Ints.length ≤ 900 ∧ o.Refs.length ≤ 900) : EvP (fun k => spec_l2Bend.f k b i h o) (fun r => sObj r.1 ∧ Cur xs r.2.1 r.2.2.1) := by
  unfold spec_l2Bend.f
  obtain ⟨o1, o2⟩ := ho
  refine EvP.bind1 (a := o) ?_ ?_
  · unfold spec_l2Copy.f spec_l2Copy.c1
    exact EvP.bind1 (EvP.ifT (by simp; omega) (EvP.ifT (by simp; omega) (EvP.ret rfl))) (EvP.ret rfl)
  · unfold spec_l2Bend.c1
    refine EvP.bind (Q := fun r : Int × (List Int) × (List Int) × (List Int) × Int × Int => (r.2.1.length ≤ 1000 ∧ r.2.2.1.length ≤ 1000) ∧ Cur xs r.2.2.2.1 r.2.2.2.2.1) ?_ fun r hr => EvP.ret ⟨hr.1, hr.2⟩
    have p1 : o.Ints.length ≤ 1000 := by omega
    have p2 : o.Refs.length ≤ 1000 := by omega
    refine EvP.bind (l1Below_ev hl hc (by omega)) fun r1 h1 => ?_
    refine EvP.ite (fun _ => EvP.bind (l1Int_ev hl h1.2.2 (by simp)) fun r2 h2 => EvP.ret ⟨⟨p1, p2⟩, h2.2⟩) fun _ => ?_
    refine EvP.ite (fun _ => EvP.bind (l1Int_ev hl h1.2.2 (by simp)) fun r2 h2 => EvP.ifT (by omega) (EvP.ret ⟨⟨by simp; omega, p2⟩, h2.2⟩)) fun _ => ?_
    refine EvP.ite (fun _ => EvP.bind (l1Int_ev hl h1.2.2 (by simp)) fun r2 h2 => EvP.ifT (by omega) (EvP.ret ⟨⟨p1, by simp; omega⟩, h2.2⟩)) fun _ => ?_
    refine EvP.ite (fun _ => EvP.bind (l1Below_ev hl h1.2.2 (by omega)) fun r2 h2 => ?_) fun _ => EvP.ret ⟨⟨p1, p2⟩, h1.2.2⟩
    rw [w64_id (by omega) (by omega)]
    exact EvP.ifT (by omega) (EvP.ret ⟨⟨by simp; omega, p2⟩, h2.2.2⟩)
theorem l3PageAny_ev {xs b : List Int} {i h : Int} (hl : xs.length ≤ 1048576) (hc : Cur xs b i) : EvP (fun k => spec_l3PageAny.f k b i h) (fun r => sPage r.1 ∧ Cur xs r.2.1 r.2.2.1) := by
  unfold spec_l3PageAny.f spec_l3PageAny.c1
  refine EvP.bind (l3DrawPage_ev hl hc) fun r1 h1 => EvP.bind (l1Below_ev hl h1.2 (by omega)) fun r2 h2 => ?_
  obtain ⟨⟨p1, p2⟩, p3⟩ := h1
  have q1 : ∀ x ∈ r1.1.Slots, sSlot x := fun x hx => few_s (p2 x hx)
  have hm : rd r1.1.Slots r2.1 ∈ r1.1.Slots := rd_mem h2.1 (by omega)
  refine EvP.bind (Q := fun r : (List Int) × Int × Int × Int × (List TSlot) => (r.2.2.2.2.length = 4 ∧ ∀ x ∈ r.2.2.2.2, sSlot x) ∧ Cur xs r.1 r.2.1) ?_ fun r hr => EvP.ret ⟨hr.1, hr.2⟩
  refine EvP.bind (l1Below_ev hl h2.2.2 (by omega)) fun r3 h3 => ?_
  refine EvP.ite (fun _ => EvP.bind (l1Int_ev hl h3.2.2 (by simp)) fun r4 h4 => EvP.ret ⟨⟨p1, q1⟩, h4.2⟩) fun _ => ?_
  refine EvP.ite (fun _ => EvP.ifT (by omega) (EvP.ifT (by omega) (EvP.ret ⟨⟨by show (wr _ _ _).length = 4; rw [wr_len]; exact p1, fun x hx => ?_⟩, h3.2.2⟩))) fun _ => ?_
  · rcases wr_mem hx with h | h
    · exact q1 x h
    · have := q1 _ hm
      rw [h]; exact this
  · refine EvP.ite (fun _ => EvP.ifT (by omega) (EvP.bind (l2Bend_ev hl h3.2.2 ⟨by have := (p2 _ hm).1; omega, by have := (p2 _ hm).2; omega⟩) fun r4 h4 => EvP.ifT (by omega) (EvP.ret ⟨⟨by show (wr _ _ _).length = 4; rw [wr_len]; exact p1, fun x hx => ?_⟩, h4.2⟩))) fun _ => EvP.ret ⟨⟨p1, q1⟩, h3.2.2⟩
    rcases wr_mem hx with h | h
    · exact q1 x h
    · rw [h]; exact h4.1
theorem DrawSetSlot_ev {xs : List Int} (hl : xs.length ≤ 1048576) : EvP (fun k => spec_DrawSetSlot.f k xs) (fun r => sPage r.1 ∧ sSlot r.2.2.1 ∧ (-10 ≤ r.2.1 ∧ r.2.1 ≤ 10) ∧ (0 ≤ r.2.2.2 ∧ r.2.2.2 ≤ 1000001)) := by
  unfold spec_DrawSetSlot.f
  refine EvP.bind (l1New_ev hl) fun r1 h1 => EvP.bind (l3PageAny_ev hl h1) fun r2 h2 => EvP.bind (l3DrawSlot_ev hl h2.2) fun r3 h3 => ?_
  refine EvP.bind (Q := fun r : Bool × List Int × Int × Int => Cur xs r.2.1 r.2.2.1) (EvP.bind (l1Once_ev hl h3.2 (by omega)) fun r4 h4 => EvP.ite (fun _ => EvP.ret h4) fun _ => EvP.ret h4) fun r5 h5 => ?_
  unfold spec_DrawSetSlot.c2 spec_DrawSetSlot.c1
  refine EvP.bind (Q := fun r : (List Int) × Int × Int × Bool × Int × (List Int) × (List Int) × Int × (List TSlot) × Int × Int => (r.2.2.2.2.2.1.length ≤ 1000 ∧ r.2.2.2.2.2.2.1.length ≤ 1000) ∧ (r.2.2.2.2.2.2.2.2.1.length = 4 ∧ ∀ x ∈ r.2.2.2.2.2.2.2.2.1, sSlot x) ∧ (-10 ≤ r.2.2.2.2.2.2.2.2.2.1 ∧ r.2.2.2.2.2.2.2.2.2.1 ≤ 10) ∧ (0 ≤ r.2.2.2.2.2.2.2.2.2.2 ∧ r.2.2.2.2.2.2.2.2.2.2 ≤ 1000001)) ?_ fun r hr => EvP.ret ⟨hr.2.1, hr.1, hr.2.2.1, hr.2.2.2⟩
  refine EvP.bind (l1Int_ev hl h5 (by simp)) fun r6 h6 => EvP.bind (l1Int_ev hl h6.2 (by simp)) fun r7 h7 => EvP.ret ⟨few_s h3.1, h2.1, ?_, ?_⟩
  · have := h6.1
    simp only [List.mem_cons, List.not_mem_nil, or_false] at this
    show -10 ≤ r6.1 ∧ r6.1 ≤ 10
    omega
  · have := h7.1
    simp only [List.mem_cons, List.not_mem_nil, or_false] at this
    show 0 ≤ r7.1 ∧ r7.1 ≤ 1000001
    omega
theorem cloneSlot_ev {s : TSlot} (h : gSlot s) : EvP (fun k => impl_cloneSlot.f k s) (· = s) := by
  have h1 : s.O.Ints.length ≤ 1048576 := h.1.1
  have h2 : s.O.Refs.length ≤ 1048576 := h.1.2.1
  unfold impl_cloneSlot.f impl_cloneObj.f slices_Clone_173.f
  exact EvP.bind1 (EvP.bind1 (EvP.ifT (by simp; omega) (EvP.ret rfl)) (EvP.bind1 (EvP.ifT (by simp; omega) (EvP.ret rfl)) (EvP.ret rfl))) (EvP.ret rfl)
theorem copySlot_ev {s : TSlot} (h : gSlot s) : EvP (fun k => spec_l3CopySlot.f k s) (· = s) := by
  have h1 : s.O.Ints.length ≤ 1048576 := h.1.1
  have h2 : s.O.Refs.length ≤ 1048576 := h.1.2.1
  unfold spec_l3CopySlot.f spec_l2Copy.f spec_l2Copy.c1
  exact EvP.bind1 (EvP.bind1 (EvP.ifT (by simp; omega) (EvP.ifT (by simp; omega) (EvP.ret rfl))) (EvP.ret rfl)) (EvP.ret rfl)
theorem clonePage_ev {p : TPage} (h : gPage p) : EvP (fun k => impl_clonePage.f k p) (· = p) := by
  unfold impl_clonePage.f impl_clonePage.c1
  have hm : p.Slots.length = 4 := h.1.1
  refine EvP.bind1 (a := p.Slots) ?_ (EvP.ret rfl)
  refine copy_up (fun k ys i => impl_clonePage.l1 p k ys i) p.Slots _ ?_ ?_ _ rfl
  · intro i hi ys hl2 ih
    simp only [impl_clonePage.l1, rd_eq hi]
    refine EvP.ifT (by simp; omega) (EvP.ifT (by omega) (EvP.bind1 (cloneSlot_ev (h.1.2 _ (List.getElem_mem hi))) (EvP.ifT (by omega) ?_)))
    rw [w64_succ hi (by omega)]; exact ih
  · simp only [impl_clonePage.l1]
    exact EvP.ifF (by simp; omega) (EvP.ret rfl)
theorem copyPage_ev {p : TPage} (h : gPage p) : EvP (fun k => spec_l3Copy.f k p) (· = p) := by
  unfold spec_l3Copy.f spec_l3Copy.c1
  have hm : p.Slots.length = 4 := h.1.1
  refine EvP.bind1 (a := p.Slots) ?_ (EvP.ret rfl)
  refine copy_up (fun k ys i => spec_l3Copy.l1 p k ys i) p.Slots _ ?_ ?_ _ (by rw [hm]; rfl)
  · intro i hi ys hl2 ih
    simp only [spec_l3Copy.l1, rd_eq hi]
    refine EvP.ifT (by simp; omega) (EvP.ifT (by omega) (EvP.bind1 (copySlot_ev (h.1.2 _ (List.getElem_mem hi))) (EvP.ifT (by omega) ?_)))
    rw [w64_succ hi (by omega)]; exact ih
  · simp only [spec_l3Copy.l1]
    exact EvP.ifF (by simp; omega) (EvP.ret rfl)
end Go.Proofs.Ytocknibhajihmaa
