/- When objects, slots, pages, records are right: both texts alike. Conditions: none. -/
import Derived.Test.YtocknibhajihmaaKwB4F
import Derived.Test.YtocknibhajihmaaKwS
set_option linter.unusedVariables false
set_option linter.unusedSimpArgs false
namespace Go.Proofs.Ytocknibhajihmaa
open Go.Kw

def gObj (o : TObj) : Prop := o.Ints.length ≤ 1048576 ∧ o.Refs.length ≤ 1048576 ∧ True
def gSlot (s : TSlot) : Prop := gObj s.O ∧ True
def gPage (p : TPage) : Prop := (p.Slots.length = 4 ∧ ∀ x ∈ p.Slots, gSlot x) ∧ True
def gRec (r : TRec) : Prop := gSlot r.Before ∧ gSlot r.After ∧ r.Txs.length ≤ 1048576 ∧ True

def inB (n lo hi : Int) : Bool := decide (lo ≤ n) && decide (n ≤ hi)
theorem in_eq (k : Nat) (n lo hi : Int) : impl_in.f k n lo hi = some (inB n lo hi) := rfl
theorem sin_eq (k : Nat) (n lo hi : Int) : spec_l1In.f k n lo hi = some (inB n lo hi) := rfl
def noObjB (o : TObj) : Bool := ((decide (o.Kind = 0)) && (decide ((o.Ints.length : Int) = 0))) && (decide ((o.Refs.length : Int) = 0))
def objB (o : TObj) : Bool := inB o.Kind 1 99 && !decide (5 < (o.Ints.length : Int)) && !decide (5 < (o.Refs.length : Int)) && (o.Ints.all (fun n => inB n (-1000000) 1000000) && o.Refs.all (fun n => inB n 0 31))
def slotB (s : TSlot) : Bool := if s.Has = true then objB s.O else noObjB s.O
def noSlotB (s : TSlot) : Bool := !s.Has && noObjB s.O
def pageB (p : TPage) : Bool := inB p.Lsn 0 1000000 && p.Slots.all slotB
theorem contInt_ev {xs : List Int} (hl : xs.length ≤ 1048576) : EvP (fun k => slices_ContainsFunc_1169.f k xs) (· = xs.any (fun n => !inB n (-1000000) 1000000)) := by
  unfold slices_ContainsFunc_1169.f slices_IndexFunc_1169.f
  refine EvP.bind1 (index_ev (slices_IndexFunc_1169.l1 xs) _ (fun k x => impl_ObjOk_1.f k x) xs (fun n => !inB n (-1000000) 1000000) (by omega) (fun k i => rfl) (fun _ => rfl) fun x _ => ?_) (EvP.ret fidx_dec)
  unfold impl_ObjOk_1.f; simp only [in_eq, Option.bind_some]; exact EvP.ret rfl
theorem contRef_ev {xs : List Int} (hl : xs.length ≤ 1048576) : EvP (fun k => slices_ContainsFunc_2170.f k xs) (· = xs.any (fun n => !inB n 0 31)) := by
  unfold slices_ContainsFunc_2170.f slices_IndexFunc_2170.f
  refine EvP.bind1 (index_ev (slices_IndexFunc_2170.l1 xs) _ (fun k x => impl_ObjOk_2.f k x) xs (fun n => !inB n 0 31) (by omega) (fun k i => rfl) (fun _ => rfl) fun x _ => ?_) (EvP.ret fidx_dec)
  unfold impl_ObjOk_2.f; simp only [in_eq, Option.bind_some]; exact EvP.ret rfl
theorem ObjOk_ev {o : TObj} (h : gObj o) : EvP (fun k => impl_ObjOk.f k o) (· = objB o) := by
  unfold impl_ObjOk.f impl_ObjOk.c1
  simp only [in_eq, Option.bind_some]
  have h1 : o.Ints.length ≤ 1048576 := h.1
  have h2 : o.Refs.length ≤ 1048576 := h.2.1
  refine EvP.iteD (fun hc => EvP.ret ?_) fun hc => EvP.bind1 (contInt_ev h1) (EvP.bind1 (andn_ev fun _ => contRef_ev h2) (EvP.ret ?_))
  · unfold objB
    generalize inB o.Kind 1 99 = a at *
    generalize decide (5 < (o.Ints.length : Int)) = b at *
    generalize decide (5 < (o.Refs.length : Int)) = c at *
    cases a <;> cases b <;> cases c <;> simp_all
  · rw [all_any, all_any]
    unfold objB
    generalize inB o.Kind 1 99 = a at *
    generalize decide (5 < (o.Ints.length : Int)) = b at *
    generalize decide (5 < (o.Refs.length : Int)) = c at *
    cases a <;> cases b <;> cases c <;> simp_all
theorem sObjOk_ev {o : TObj} (h : gObj o) : EvP (fun k => spec_ObjOk.f k o) (· = objB o) := by
  unfold spec_ObjOk.f spec_ObjOk.c2 spec_ObjOk.c1
  have h1 : o.Ints.length ≤ 1048576 := h.1
  have h2 : o.Refs.length ≤ 1048576 := h.2.1
  simp only [sin_eq, Option.bind_some]
  refine EvP.iteD (fun hc => EvP.ret ?_) fun hc => EvP.bind1 (all_ev (spec_ObjOk.l2 o) (fun k x => some (inB x (-1000000) 1000000)) o.Ints (fun n => inB n (-1000000) 1000000) (by omega) (fun k i => rfl) fun x _ => EvP.ret rfl) ?_
  · unfold objB
    generalize inB o.Kind 1 99 = a at *
    generalize decide (5 < (o.Ints.length : Int)) = b at *
    generalize decide (5 < (o.Refs.length : Int)) = c at *
    cases a <;> cases b <;> cases c <;> simp_all
  · have hb : objB o = (o.Ints.all (fun n => inB n (-1000000) 1000000) && o.Refs.all (fun n => inB n 0 31)) := by
      unfold objB
      generalize inB o.Kind 1 99 = a at *
      generalize decide (5 < (o.Ints.length : Int)) = b at *
      generalize decide (5 < (o.Refs.length : Int)) = c at *
      cases a <;> cases b <;> cases c <;> simp_all
    rw [hb]
    cases hi : o.Ints.all (fun n => inB n (-1000000) 1000000) with
    | false => simp only [Bool.false_eq_true, if_false, Ex.on]; exact EvP.ret rfl
    | true =>
      simp only [if_true, Ex.on]
      refine EvP.bind1 (all_ev (spec_ObjOk.l1 o) (fun k x => some (inB x 0 31)) o.Refs (fun n => inB n 0 31) (by omega) (fun k i => rfl) fun x _ => EvP.ret rfl) ?_
      cases hr : o.Refs.all (fun n => inB n 0 31) with
      | false => simp only [Bool.false_eq_true, if_false, Ex.on]; exact EvP.ret rfl
      | true => simp only [if_true, Ex.on]; exact EvP.ret rfl
theorem slotOk_ev {s : TSlot} (h : gSlot s) : EvP (fun k => impl_slotOk.f k s) (· = slotB s) := by
  unfold impl_slotOk.f impl_noObj.f slotB
  cases s.Has with
  | true => exact EvP.ifT rfl (EvP.bind1 (ObjOk_ev h.1) (EvP.ret rfl))
  | false => exact EvP.ifF (by simp) (EvP.ret rfl)
theorem sSlot_ev {s : TSlot} (h : gSlot s) : EvP (fun k => spec_l3Slot.f k s) (· = slotB s) := by
  unfold spec_l3Slot.f slotB
  cases s.Has with
  | true => exact EvP.ifT rfl (EvP.bind1 (sObjOk_ev h.1) (EvP.ret rfl))
  | false => exact EvP.ifF (by simp) (EvP.ret rfl)
theorem noSlot_eq (k : Nat) (s : TSlot) : impl_noSlot.f k s = some (noSlotB s) := by
  unfold impl_noSlot.f impl_noSlot.c1 impl_noObj.f noSlotB noObjB
  cases s.Has <;> simp
/-- Transactions under way in a record. -/
def LiveAt (xs : List TLive) (lsn : Int) (i : Nat) : Bool := inB (rd xs (i : Int)).Tx 1 1000 && inB (rd xs (i : Int)).Last 1 (w64 (lsn - 1)) && !(decide (0 < i) && decide ((rd xs (i : Int)).Tx ≤ (rd xs ((i : Int) - 1)).Tx))
def livesB (xs : List TLive) (lsn : Int) : Bool := (List.range xs.length).all (LiveAt xs lsn) && decide ((xs.length : Int) ≤ 20)
theorem range_ev (L : Nat → Int → Option (Ex Bool Unit)) (n : Nat) (P : Nat → Bool) (hlen : n < 9223372036854775808)
    (hit : ∀ (i : Nat), i < n → P i = false → EvP (fun k => L (k + 1) (i : Int)) (· = Ex.ret false))
    (miss : ∀ (i : Nat) (Q : Ex Bool Unit → Prop), i < n → P i = true → EvP (fun k => L k ((i + 1 : Nat) : Int)) Q → EvP (fun k => L (k + 1) (i : Int)) Q)
    (stop : EvP (fun k => L (k + 1) (n : Int)) (· = Ex.go ())) : EvP (fun k => L k 0) (· = if (List.range n).all P = true then Ex.go () else Ex.ret false) := by
  have := for_up (fun k (_ : Unit) i => L k i) n (fun i _ => ∀ j, j < i → P j = true) (· = if (List.range n).all P = true then Ex.go () else Ex.ret false) ?_ ?_ (i := 0) (s := ()) (Nat.zero_le _) (fun j h => absurd h (by omega))
  · exact this
  · intro i s hi hI ih
    cases hb : P i with
    | false =>
      refine (hit i hi hb).mono fun r hr => ?_
      rw [if_neg]
      · exact hr
      · rw [List.all_eq_true]
        intro h
        rw [h i (List.mem_range.2 hi)] at hb; cases hb
    | true =>
      refine miss i _ hi hb (ih () fun j hj => ?_)
      rcases Nat.lt_or_ge j i with h1 | h1
      · exact hI j h1
      · obtain rfl : j = i := by omega
        exact hb
  · intro s hI
    refine stop.mono fun r hr => ?_
    rw [if_pos]
    · exact hr
    · rw [List.all_eq_true]
      intro x hx
      exact hI x (List.mem_range.1 hx)
theorem livesOk_ev {xs : List TLive} (hl : xs.length ≤ 1048576) (lsn : Int) : EvP (fun k => impl_livesOk.f k xs lsn) (· = livesB xs lsn) := by
  unfold impl_livesOk.f impl_livesOk.c1 livesB
  have body : ∀ (i : Nat), i < xs.length → ∀ (k : Nat) (c : Bool), c = decide (0 < i) → True := fun _ _ _ _ _ => trivial
  refine EvP.bind1 (range_ev (impl_livesOk.l1 xs lsn) xs.length (LiveAt xs lsn) (by omega) ?_ ?_ ?_) ?_
  · intro i hi hP
    simp only [impl_livesOk.l1, impl_livesOk.c2, impl_isTx.f, in_eq, Option.bind_some]
    refine EvP.ifT (by simpa using hi) (EvP.ifT (by omega) (EvP.bind1 (a := true) ?_ (EvP.ifT rfl (EvP.ret rfl))))
    unfold LiveAt at hP
    refine EvP.iteD (fun _ => EvP.ret rfl) fun ha => EvP.iteD (fun _ => EvP.ret rfl) fun hb => ?_
    simp only [Bool.not_eq_eq_eq_not, Bool.not_false] at ha hb
    rw [ha, hb] at hP
    refine EvP.ifT ?_ ?_
    · cases i with
      | zero => simp at hP
      | succ i => simp
    · have hi0 : 0 < i := by cases i with | zero => simp at hP | succ i => omega
      rw [w64_id (by omega) (by omega)]
      refine EvP.ifT (by omega) (EvP.ret ?_)
      simp [hi0] at hP; simp [hP]
  · intro i Q hi hP ih
    simp only [impl_livesOk.l1, impl_livesOk.c2, impl_isTx.f, in_eq, Option.bind_some]
    unfold LiveAt at hP
    simp only [Bool.and_eq_true] at hP
    refine EvP.ifT (by simpa using hi) (EvP.ifT (by omega) (EvP.bind1 (a := false) (EvP.ifF (by simp [hP.1.1]) (EvP.ifF (by simp [hP.1.2]) ?_)) (EvP.ifF (by simp) ?_)))
    · refine EvP.ite (fun h => ?_) fun h => EvP.ret rfl
      simp only [decide_eq_true_eq] at h
      rw [w64_id (by omega) (by omega)]
      refine EvP.ifT (by omega) (EvP.ret ?_)
      have h2 := hP.2
      have hi0 : 0 < i := by omega
      simp [hi0] at h2; simp; exact h2
    · rw [w64_succ hi (by omega)]; exact ih
  · simp only [impl_livesOk.l1]
    exact EvP.ifF (by simp) (EvP.ret rfl)
  · cases hs : (List.range xs.length).all (LiveAt xs lsn) with
    | false => simp only [Bool.false_eq_true, if_false, Ex.on]; exact EvP.ret (by simp)
    | true => simp only [if_true, Ex.on]; exact EvP.ret (by simp)
theorem sLives_ev {r : TRec} (hl : r.Txs.length ≤ 1048576) : EvP (fun k => spec_l4Lives.f k r) (· = livesB r.Txs r.Lsn) := by
  unfold spec_l4Lives.f spec_l4Lives.c1 livesB
  refine EvP.bind1 (range_ev (spec_l4Lives.l1 r) r.Txs.length (LiveAt r.Txs r.Lsn) (by omega) ?_ ?_ ?_) ?_
  · intro i hi hP
    simp only [spec_l4Lives.l1, spec_l4Lives.c2, sin_eq, Option.bind_some]
    refine EvP.ifT (by simpa using hi) (EvP.bind1 (a := true) (EvP.ifT (by omega) ?_) (EvP.ifT rfl (EvP.ret rfl)))
    unfold LiveAt at hP
    refine EvP.iteD (fun _ => EvP.ret rfl) fun ha => EvP.ifT (by omega) (EvP.iteD (fun _ => EvP.ret rfl) fun hb => ?_)
    simp only [Bool.not_eq_eq_eq_not, Bool.not_false] at ha hb
    rw [ha, hb] at hP
    refine EvP.ifT ?_ ?_
    · cases i with
      | zero => simp at hP
      | succ i => simp
    · have hi0 : 0 < i := by cases i with | zero => simp at hP | succ i => omega
      rw [w64_id (by omega) (by omega)]
      refine EvP.ifT (by omega) (EvP.ifT (by omega) (EvP.ret ?_))
      simp [hi0] at hP; simp [hP]
  · intro i Q hi hP ih
    simp only [spec_l4Lives.l1, spec_l4Lives.c2, sin_eq, Option.bind_some]
    unfold LiveAt at hP
    simp only [Bool.and_eq_true] at hP
    refine EvP.ifT (by simpa using hi) (EvP.bind1 (a := false) (EvP.ifT (by omega) (EvP.ifF (by simp [hP.1.1]) (EvP.ifT (by omega) (EvP.ifF (by simp [hP.1.2]) ?_)))) (EvP.ifF (by simp) ?_))
    · refine EvP.ite (fun h => ?_) fun h => EvP.ret rfl
      simp only [decide_eq_true_eq] at h
      rw [w64_id (by omega) (by omega)]
      refine EvP.ifT (by omega) (EvP.ifT (by omega) (EvP.ret ?_))
      have h2 := hP.2
      have hi0 : 0 < i := by omega
      simp [hi0] at h2; simp; exact h2
    · rw [w64_succ hi (by omega)]; exact ih
  · simp only [spec_l4Lives.l1]
    exact EvP.ifF (by simp) (EvP.ret rfl)
  · cases hs : (List.range r.Txs.length).all (LiveAt r.Txs r.Lsn) with
    | false => simp only [Bool.false_eq_true, if_false, Ex.on]; exact EvP.ret (by simp)
    | true => simp only [if_true, Ex.on]; exact EvP.ret (by simp)
end Go.Proofs.Ytocknibhajihmaa
