/- The plain law of the heap: what is drawn is a right view. Conditions: none. -/
import Derived.Test.YtplgbgcfgnobdaaKwXF
import Derived.Test.YtplgbgcfgnobdaaKwP
set_option linter.unusedVariables false
set_option linter.unusedSimpArgs false
namespace Go.Proofs.Ytplgbgcfgnobdaa
open Go.Kw

def Sok (s : TSlot) : Prop := (s.Has = true ∧ 1 ≤ s.O.Kind ∧ s.O.Kind ≤ 99 ∧ s.O.Ints.length ≤ 5 ∧ s.O.Refs.length ≤ 5 ∧ (∀ n ∈ s.O.Ints, -1000000 ≤ n ∧ n ≤ 1000000) ∧ ∀ r ∈ s.O.Refs, 0 ≤ r ∧ r ≤ 31) ∨ (s.Has = false ∧ s.O.Kind = 0 ∧ s.O.Ints = [] ∧ s.O.Refs = [])
def Vok (v : List TSlot) : Prop := v.length = 32 ∧ (rd v 0).Has = false ∧ ∀ s ∈ v, Sok s

theorem in_eq (k : Nat) (a b c : Int) : impl_in.f k a b c = some (decide (b ≤ a) && decide (a ≤ c)) := rfl
theorem isOid_eq (k : Nat) (a : Int) : impl_isOid.f k a = some (decide (1 ≤ a) && decide (a ≤ 31)) := rfl
theorem contains1 {xs : List Int} (hl : xs.length ≤ 5) (h : ∀ n ∈ xs, -1000000 ≤ n ∧ n ≤ 1000000) : EvP (fun k => slices_ContainsFunc_138.f k xs) (· = false) := by
  have hs := search_up (slices_IndexFunc_138.l1 xs) (fun k x => impl_ObjOk_1.f k x) xs (fun x => !(decide (-1000000 ≤ x) && decide (x ≤ 1000000))) (by omega) (fun k i => rfl)
    (fun x _ => EvP.ret rfl)
  have hn : xs.any (fun x => !(decide (-1000000 ≤ x) && decide (x ≤ 1000000))) = false := by
    rw [List.any_eq_false]; intro x hx; have := h x hx; simp [this]
  unfold slices_ContainsFunc_138.f slices_IndexFunc_138.f
  refine EvP.bind (Q := fun r => r = -1) (EvP.bind hs ?_) (fun a h => by subst h; exact EvP.ret (by decide))
  rintro a (⟨j, rfl, h⟩ | ⟨rfl, _⟩)
  · rw [hn] at h; cases h
  · exact EvP.ret rfl
theorem contains2 {xs : List Int} (hl : xs.length ≤ 5) (h : ∀ n ∈ xs, 0 ≤ n ∧ n ≤ 31) : EvP (fun k => slices_ContainsFunc_239.f k xs) (· = false) := by
  have hs := search_up (slices_IndexFunc_239.l1 xs) (fun k x => impl_ObjOk_2.f k x) xs (fun x => !(decide (0 ≤ x) && decide (x ≤ 31))) (by omega) (fun k i => rfl)
    (fun x _ => EvP.ret rfl)
  have hn : xs.any (fun x => !(decide (0 ≤ x) && decide (x ≤ 31))) = false := by
    rw [List.any_eq_false]; intro x hx; have := h x hx; simp [this]
  unfold slices_ContainsFunc_239.f slices_IndexFunc_239.f
  refine EvP.bind (Q := fun r => r = -1) (EvP.bind hs ?_) (fun a h => by subst h; exact EvP.ret (by decide))
  rintro a (⟨j, rfl, h⟩ | ⟨rfl, _⟩)
  · rw [hn] at h; cases h
  · exact EvP.ret rfl
theorem slotOk_ev {s : TSlot} (h : Sok s) : EvP (fun k => impl_slotOk.f k s) (· = true) := by
  unfold impl_slotOk.f
  rcases h with ⟨h0, h1, h2, h3, h4, h5, h6⟩ | ⟨h0, h1, h2, h3⟩
  · refine EvP.ifT h0 (EvP.bind1 (a := true) ?_ (EvP.ret rfl))
    unfold impl_ObjOk.f
    simp only [in_eq, Option.bind_some]
    refine EvP.ifF (by simp; omega) ?_
    refine EvP.bind1 (contains1 h3 h5) ?_
    simp only [Bool.not_false, if_true]
    refine EvP.bind1 (a := true) (EvP.bind1 (contains2 h4 h6) (EvP.ret rfl)) (EvP.ret rfl)
  · refine EvP.ifF (by simp [h0]) (EvP.bind1 (a := true) ?_ (EvP.ret rfl))
    unfold impl_noObj.f
    exact EvP.ret (by simp [h1, h2, h3])
theorem contains3 {v : List TSlot} (hl : v.length = 32) (h : ∀ s ∈ v, Sok s) : EvP (fun k => impl_Slot_27_128.f k v) (· = false) := by
  have hs := search_up (impl_Slot_35_128.l1 v) (fun k x => impl_ViewOk_1.f k x) v (fun x => false) (by omega) (fun k i => rfl)
    (fun x hx => EvP.bind1 (slotOk_ev (h x hx)) (EvP.ret rfl))
  unfold impl_Slot_27_128.f impl_Slot_35_128.f
  refine EvP.bind (Q := fun r => r = -1) (EvP.bind hs ?_) (fun a h => by subst h; exact EvP.ret (by decide))
  rintro a (⟨j, rfl, h⟩ | ⟨rfl, _⟩)
  · simp at h
  · exact EvP.ret rfl
theorem ViewOk_ev {v : List TSlot} (h : Vok v) : EvP (fun k => impl_ViewOk.f k v) (· = true) := by
  obtain ⟨h1, h2, h3⟩ := h
  unfold impl_ViewOk.f
  refine EvP.bind1 (a := true) ?_ ?_
  · refine EvP.ifT (by simp [h1]) (EvP.ifT (by rw [h1]; decide) (EvP.bind1 (a := true) ?_ (EvP.ret rfl)))
    unfold impl_noSlot.f
    refine EvP.bind1 (a := true) (EvP.ifT (by simp [h2]) (EvP.bind1 (a := true) ?_ (EvP.ret rfl))) (EvP.ret rfl)
    have : Sok (rd v 0) := h3 _ (rd_mem (by decide) (by rw [h1]; decide))
    rcases this with ⟨h, _⟩ | ⟨_, h4, h5, h6⟩
    · rw [h2] at h; cases h
    · unfold impl_noObj.f
      exact EvP.ret (by simp [h4, h5, h6])
  · unfold impl_ViewOk.c2
    refine EvP.bind1 (a := true) (EvP.ifT rfl (EvP.bind1 (contains3 h1 h3) (EvP.ret rfl))) (EvP.ret rfl)
end Go.Proofs.Ytplgbgcfgnobdaa
