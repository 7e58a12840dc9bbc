/- When objects, slots, pages, records are right: both texts alike. Conditions: none. -/
import Derived.Test.YtocknibhajihmaaKwB4F
import Derived.Test.YtocknibhajihmaaKwS
set_option linter.unusedVariables false
set_option linter.unusedSimpArgs false
namespace Go.Proofs.Ytocknibhajihmaa
open Go.Kw

def gObj (o : TObj) : Prop := o.Ints.length ≤ 1048576 ∧ o.Refs.length ≤ 1048576 ∧ True
def gSlot (s : TSlot) : Prop := gObj s.O ∧ True
def gPage (p : TPage) : Prop := (p.Slots.length = 4 ∧ ∀ x ∈ p.Slots, gSlot x) ∧ True
def inB (n lo hi : Int) : Bool := decide (lo ≤ n) && decide (n ≤ hi)
theorem in_eq (k : Nat) (n lo hi : Int) : impl_in.f k n lo hi = some (inB n lo hi) := rfl
theorem sin_eq (k : Nat) (n lo hi : Int) : spec_l1In.f k n lo hi = some (inB n lo hi) := rfl
def noObjB (o : TObj) : Bool := ((decide (o.Kind = 0)) && (decide ((o.Ints.length : Int) = 0))) && (decide ((o.Refs.length : Int) = 0))
def objB (o : TObj) : Bool := inB o.Kind 1 99 && !decide (5 < (o.Ints.length : Int)) && !decide (5 < (o.Refs.length : Int)) && (o.Ints.all (fun n => inB n (-1000000) 1000000) && o.Refs.all (fun n => inB n 0 31))
def slotB (s : TSlot) : Bool := if s.Has = true then objB s.O else noObjB s.O
def pageB (p : TPage) : Bool := inB p.Lsn 0 1000000 && p.Slots.all slotB
theorem contInt_ev {xs : List Int} (hl : xs.length ≤ 1048576) : EvP (fun k => slices_ContainsFunc_1169.f k xs) (· = xs.any (fun n => !inB n (-1000000) 1000000)) := by
  unfold slices_ContainsFunc_1169.f slices_IndexFunc_1169.f
  refine EvP.bind1 (index_ev (slices_IndexFunc_1169.l1 xs) _ (fun k x => impl_ObjOk_1.f k x) xs (fun n => !inB n (-1000000) 1000000) (by omega) (fun k i => rfl) (fun _ => rfl) fun x _ => ?_) (EvP.ret fidx_dec)
  unfold impl_ObjOk_1.f; simp only [in_eq, Option.bind_some]; exact EvP.ret rfl
theorem contRef_ev {xs : List Int} (hl : xs.length ≤ 1048576) : EvP (fun k => slices_ContainsFunc_2170.f k xs) (· = xs.any (fun n => !inB n 0 31)) := by
  unfold slices_ContainsFunc_2170.f slices_IndexFunc_2170.f
  refine EvP.bind1 (index_ev (slices_IndexFunc_2170.l1 xs) _ (fun k x => impl_ObjOk_2.f k x) xs (fun n => !inB n 0 31) (by omega) (fun k i => rfl) (fun _ => rfl) fun x _ => ?_) (EvP.ret fidx_dec)
  unfold impl_ObjOk_2.f; simp only [in_eq, Option.bind_some]; exact EvP.ret rfl
theorem ObjOk_ev {o : TObj} (h : gObj o) : EvP (fun k => impl_ObjOk.f k o) (· = objB o) := by
  unfold impl_ObjOk.f impl_ObjOk.c1
  simp only [in_eq, Option.bind_some]
  have h1 : o.Ints.length ≤ 1048576 := h.1
  have h2 : o.Refs.length ≤ 1048576 := h.2.1
  refine EvP.iteD (fun hc => EvP.ret ?_) fun hc => EvP.bind1 (contInt_ev h1) (EvP.bind1 (andn_ev fun _ => contRef_ev h2) (EvP.ret ?_))
  · unfold objB
    generalize inB o.Kind 1 99 = a at *
    generalize decide (5 < (o.Ints.length : Int)) = b at *
    generalize decide (5 < (o.Refs.length : Int)) = c at *
    cases a <;> cases b <;> cases c <;> simp_all
  · rw [all_any, all_any]
    unfold objB
    generalize inB o.Kind 1 99 = a at *
    generalize decide (5 < (o.Ints.length : Int)) = b at *
    generalize decide (5 < (o.Refs.length : Int)) = c at *
    cases a <;> cases b <;> cases c <;> simp_all
theorem sObjOk_ev {o : TObj} (h : gObj o) : EvP (fun k => spec_ObjOk.f k o) (· = objB o) := by
  unfold spec_ObjOk.f spec_ObjOk.c2 spec_ObjOk.c1
  have h1 : o.Ints.length ≤ 1048576 := h.1
  have h2 : o.Refs.length ≤ 1048576 := h.2.1
  simp only [sin_eq, Option.bind_some]
  refine EvP.iteD (fun hc => EvP.ret ?_) fun hc => EvP.bind1 (all_ev (spec_ObjOk.l2 o) (fun k x => some (inB x (-1000000) 1000000)) o.Ints (fun n => inB n (-1000000) 1000000) (by omega) (fun k i => rfl) fun x _ => EvP.ret rfl) ?_
  · unfold objB
    generalize inB o.Kind 1 99 = a at *
    generalize decide (5 < (o.Ints.length : Int)) = b at *
    generalize decide (5 < (o.Refs.length : Int)) = c at *
    cases a <;> cases b <;> cases c <;> simp_all
  · have hb : objB o = (o.Ints.all (fun n => inB n (-1000000) 1000000) && o.Refs.all (fun n => inB n 0 31)) := by
      unfold objB
      generalize inB o.Kind 1 99 = a at *
      generalize decide (5 < (o.Ints.length : Int)) = b at *
      generalize decide (5 < (o.Refs.length : Int)) = c at *
      cases a <;> cases b <;> cases c <;> simp_all
    rw [hb]
    cases hi : o.Ints.all (fun n => inB n (-1000000) 1000000) with
    | false => simp only [Bool.false_eq_true, if_false, Ex.on]; exact EvP.ret rfl
    | true =>
      simp only [if_true, Ex.on]
      refine EvP.bind1 (all_ev (spec_ObjOk.l1 o) (fun k x => some (inB x 0 31)) o.Refs (fun n => inB n 0 31) (by omega) (fun k i => rfl) fun x _ => EvP.ret rfl) ?_
      cases hr : o.Refs.all (fun n => inB n 0 31) with
      | false => simp only [Bool.false_eq_true, if_false, Ex.on]; exact EvP.ret rfl
      | true => simp only [if_true, Ex.on]; exact EvP.ret rfl
theorem slotOk_ev {s : TSlot} (h : gSlot s) : EvP (fun k => impl_slotOk.f k s) (· = slotB s) := by
  unfold impl_slotOk.f impl_noObj.f slotB
  cases s.Has with
  | true => exact EvP.ifT rfl (EvP.bind1 (ObjOk_ev h.1) (EvP.ret rfl))
  | false => exact EvP.ifF (by simp) (EvP.ret rfl)
theorem sSlot_ev {s : TSlot} (h : gSlot s) : EvP (fun k => spec_l3Slot.f k s) (· = slotB s) := by
  unfold spec_l3Slot.f slotB
  cases s.Has with
  | true => exact EvP.ifT rfl (EvP.bind1 (sObjOk_ev h.1) (EvP.ret rfl))
  | false => exact EvP.ifF (by simp) (EvP.ret rfl)
theorem range_ev (L : Nat → Int → Option (Ex Bool Unit)) (n : Nat) (P : Nat → Bool) (hlen : n < 9223372036854775808)
    (hit : ∀ (i : Nat), i < n → P i = false → EvP (fun k => L (k + 1) (i : Int)) (· = Ex.ret false))
    (miss : ∀ (i : Nat) (Q : Ex Bool Unit → Prop), i < n → P i = true → EvP (fun k => L k ((i + 1 : Nat) : Int)) Q → EvP (fun k => L (k + 1) (i : Int)) Q)
    (stop : EvP (fun k => L (k + 1) (n : Int)) (· = Ex.go ())) : EvP (fun k => L k 0) (· = if (List.range n).all P = true then Ex.go () else Ex.ret false) := by
  have := for_up (fun k (_ : Unit) i => L k i) n (fun i _ => ∀ j, j < i → P j = true) (· = if (List.range n).all P = true then Ex.go () else Ex.ret false) ?_ ?_ (i := 0) (s := ()) (Nat.zero_le _) (fun j h => absurd h (by omega))
  · exact this
  · intro i s hi hI ih
    cases hb : P i with
    | false =>
      refine (hit i hi hb).mono fun r hr => ?_
      rw [if_neg]
      · exact hr
      · rw [List.all_eq_true]
        intro h
        rw [h i (List.mem_range.2 hi)] at hb; cases hb
    | true =>
      refine miss i _ hi hb (ih () fun j hj => ?_)
      rcases Nat.lt_or_ge j i with h1 | h1
      · exact hI j h1
      · obtain rfl : j = i := by omega
        exact hb
  · intro s hI
    refine stop.mono fun r hr => ?_
    rw [if_pos]
    · exact hr
    · rw [List.all_eq_true]
      intro x hx
      exact hI x (List.mem_range.1 hx)
end Go.Proofs.Ytocknibhajihmaa
