/- When pages are right: both texts alike. Conditions: none. -/
import Derived.Test.YtocknibhajihmaaKwB4B
set_option linter.unusedVariables false
set_option linter.unusedSimpArgs false
namespace Go.Proofs.Ytocknibhajihmaa
open Go.Kw

theorem PageOk_ev {p : TPage} (h : gPage p) : EvP (fun k => impl_PageOk.f k p) (· = pageB p) := by
  unfold impl_PageOk.f impl_PageOk.c1
  have hl : p.Slots.length = 4 := h.1.1
  simp only [in_eq, Option.bind_some]
  refine EvP.bind1 (andn_ev (c := p.Slots.any (fun s => !slotB s)) fun _ => ?_) (EvP.ret ?_)
  · unfold impl_Slot_95_196.f impl_Slot_101_196.f
    refine EvP.bind1 (index_ev (impl_Slot_101_196.l1 p.Slots) _ (fun k x => impl_PageOk_1.f k x) p.Slots (fun s => !slotB s) (by omega) (fun k i => rfl) (fun _ => rfl) fun x hx => ?_) (EvP.ret fidx_dec)
    unfold impl_PageOk_1.f
    exact EvP.bind1 (slotOk_ev (h.1.2 x hx)) (EvP.ret rfl)
  · rw [all_any]; rfl
theorem sPageOk_ev {p : TPage} (h : gPage p) : EvP (fun k => spec_PageOk.f k p) (· = pageB p) := by
  unfold spec_PageOk.f spec_PageOk.c1
  have hl : p.Slots.length = 4 := h.1.1
  simp only [sin_eq, Option.bind_some]
  refine EvP.bind1 (all_ev (spec_PageOk.l1 p) (fun k x => spec_l3Slot.f k x) p.Slots slotB (by omega) (fun k i => by simp only [spec_PageOk.l1, hl]; rfl) fun x hx => sSlot_ev (h.1.2 x hx)) ?_
  unfold pageB
  cases hs : p.Slots.all slotB with
  | false => simp only [Bool.false_eq_true, if_false, Ex.on]; exact EvP.ret (by simp)
  | true => simp only [if_true, Ex.on]; exact EvP.ret (by simp)
end Go.Proofs.Ytocknibhajihmaa
