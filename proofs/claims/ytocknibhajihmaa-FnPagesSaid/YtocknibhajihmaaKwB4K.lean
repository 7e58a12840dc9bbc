/- The plain law: a record comes back of its bytes; cut, it is none. Conditions: none. -/
import Derived.Test.YtocknibhajihmaaKwB4W
import Derived.Test.YtocknibhajihmaaKwB4H
set_option linter.unusedVariables false
set_option linter.unusedSimpArgs false
namespace Go.Proofs.Ytocknibhajihmaa
open Go.Kw

/-- No item's bytes begin another's. -/
def Pf {α : Type} (e : α → List Int) (ok : α → Prop) : Prop := ∀ v w s t, ok v → ok w → e v ++ s = e w ++ t → v = w ∧ s = t
theorem Pf.enc : Pf enc okP := by
  intro v w s t hv hw h
  have h1 := dec_enc hv s
  rw [h, dec_enc hw t] at h1
  cases h1
  exact ⟨rfl, List.append_cancel_left h⟩
theorem Pf.items {α : Type} {e : α → List Int} {o : α → Prop} (h1 : Pf e o) : ∀ (v w : List α) (s t : List Int), v.length = w.length → (∀ x ∈ v, o x) → (∀ x ∈ w, o x) → v.flatMap e ++ s = w.flatMap e ++ t → v = w ∧ s = t := by
  intro v
  induction v with
  | nil =>
    intro w s t hl _ _ h
    have : w = [] := List.eq_nil_of_length_eq_zero hl.symm
    subst this
    exact ⟨rfl, h⟩
  | cons x v ih =>
    intro w s t hl hv hw h
    cases w with
    | nil => cases hl
    | cons y w =>
      rw [List.flatMap_cons, List.flatMap_cons, List.append_assoc, List.append_assoc] at h
      obtain ⟨a1, a2⟩ := h1 _ _ _ _ (hv x (List.mem_cons_self ..)) (hw y (List.mem_cons_self ..)) h
      obtain ⟨b1, b2⟩ := ih w s t (by simpa using hl) (fun z hz => hv z (List.mem_cons_of_mem _ hz)) (fun z hz => hw z (List.mem_cons_of_mem _ hz)) a2
      exact ⟨by rw [a1, b1], b2⟩
theorem Pf.list {α : Type} {e : α → List Int} {o : α → Prop} (h1 : Pf e o) (max : Nat) (hm : max ≤ 1048576) : Pf (fun l : List α => Go.Kw.enc (l.length : Int) ++ l.flatMap e) (fun l => l.length ≤ max ∧ ∀ x ∈ l, o x) := by
  intro v w s t hv hw h
  dsimp only at h
  rw [List.append_assoc, List.append_assoc] at h
  obtain ⟨a1, a2⟩ := Pf.enc _ _ _ _ (ok_nat (n := v.length) (by have := hv.1; omega)) (ok_nat (n := w.length) (by have := hw.1; omega)) h
  exact h1.items v w s t (by omega) hv.2 hw.2 a2
theorem wfB_flat {α : Type} (e : α → List Int) (l : List α) (h : ∀ x ∈ l, wfB (e x)) : wfB (l.flatMap e) := by
  intro z hz
  obtain ⟨x, hx, hz⟩ := List.mem_flatMap.1 hz
  exact h x hx z hz
theorem obj_wf {o : TObj} (h : oObj o) : wfB (encObj o) := by
  have h8 := h.1.2.1
  have h9 := h.2.1
  exact wfB_app (wfB_app (enc_wf h.1.1) (wfB_app (enc_wf (ok_nat (n := o.Ints.length) (by omega))) (wfB_flat _ _ fun x hx => enc_wf (h.1.2.2 x hx)))) (wfB_app (enc_wf (ok_nat (n := o.Refs.length) (by omega))) (wfB_flat _ _ fun x hx => enc_wf (h.2.2 x hx)))
theorem slot_wf {s : TSlot} (h : slotP s) : wfB (encSlot s) := by
  cases hh : s.Has with
  | true =>
    rw [encSlot_some hh]
    have h1 := objB_ok (slotP_some h hh)
    have h2 := obj_len h1
    exact wfB_app (enc_wf (ok_nat (n := (encObj s.O).length) (by omega))) (obj_wf h1)
  | false => rw [encSlot_none hh]; exact enc_wf ok0
end Go.Proofs.Ytocknibhajihmaa
