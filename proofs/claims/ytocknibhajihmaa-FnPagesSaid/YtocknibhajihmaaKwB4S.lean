/- What the reader of a slot reads. Conditions: none. -/
import Derived.Test.YtocknibhajihmaaKwB4R
import Derived.Test.YtocknibhajihmaaKwB4D
set_option linter.unusedVariables false
set_option linter.unusedSimpArgs false
namespace Go.Proofs.Ytocknibhajihmaa
open Go.Kw

def slotP (s : TSlot) : Prop := slotB s = true
theorem slotP_none {s : TSlot} (h : slotP s) (hh : s.Has = false) : s = zeroSlot := by
  unfold slotP slotB at h
  rw [if_neg (by simp [hh])] at h
  unfold noObjB at h
  simp only [Bool.and_eq_true, decide_eq_true_eq] at h
  obtain ⟨⟨h1, h2⟩, h3⟩ := h
  obtain ⟨has, ⟨kd, ints, refs⟩⟩ := s
  dsimp only at hh h1 h2 h3
  have e1 : ints = [] := List.eq_nil_of_length_eq_zero (by omega)
  have e2 : refs = [] := List.eq_nil_of_length_eq_zero (by omega)
  rw [hh, h1, e1, e2]; rfl
theorem slotP_some {s : TSlot} (h : slotP s) (hh : s.Has = true) : objB s.O = true := by
  unfold slotP slotB at h
  rw [if_pos hh] at h; exact h
theorem zeroSlot_p : slotP zeroSlot := rfl
theorem encObj_pos (o : TObj) : 0 < (encObj o).length := by
  have := enc_pos o.Kind
  unfold encObj
  rw [List.length_append, List.length_append]; omega
theorem encSlot_some {s : TSlot} (h : s.Has = true) : encSlot s = enc ((encObj s.O).length : Int) ++ encObj s.O := if_pos h
theorem encSlot_none {s : TSlot} (h : s.Has = false) : encSlot s = enc 0 := if_neg (by simp [h])
theorem drop_len {b e t : List Int} {p : Nat} (h : b.drop p = e ++ t) : e.length ≤ b.length - p := by
  have : (b.drop p).length = (e ++ t).length := by rw [h]
  rw [List.length_drop, List.length_append] at this; omega
theorem cut_enc {b : List Int} {q n : Nat} {o : TObj} {t : List Int} (h : b.drop q = encObj o ++ t) (hn : n = (encObj o).length) : cut b (q : Int) ((q + n : Nat) : Int) = encObj o := by
  unfold cut
  rw [Int.toNat_natCast, Int.toNat_natCast, List.drop_take, h]
  have : q + n - q = (encObj o).length := by omega
  rw [this, List.take_left]
section
variable {b : List Int} {p : Nat} {bad : Bool} {x : Int × List Int × Int × Bool} {ok1 : Int → Prop} (hx : Rd enc ok1 b p bad x) (hk : ∀ n : Int, 0 ≤ n → n ≤ (b.length : Int) → ok1 n)
include hx hk
theorem slot_some {v : TSlot} {t : List Int} (hb : bad = false) (hv : slotP v) (ht : b.drop p = encSlot v ++ t) (hh : v.Has = true) :
    x.2.2.2 = false ∧ x.1 = ((encObj v.O).length : Int) ∧ ∀ q : Nat, x.2.2.1 = (q : Int) → q = p + (enc ((encObj v.O).length : Int)).length ∧ b.drop q = encObj v.O ++ t ∧ q + (encObj v.O).length ≤ b.length := by
  obtain ⟨a1, q, a2, a3, a4, a5, a6⟩ := hx
  rw [encSlot_some hh, List.append_assoc] at ht
  have hd := drop_app ht
  have h2 := drop_len hd
  have h3 := encObj_pos v.O
  obtain ⟨c1, c2, c3⟩ := a6 hb _ _ (hk _ (by omega) (by omega)) ht
  refine ⟨c1, c2, fun q' hq => ?_⟩
  have : q = q' := by omega
  subst this
  rw [← c3] at hd h2
  exact ⟨c3, hd, by omega⟩
theorem slot_none {v : TSlot} {t : List Int} (hb : bad = false) (hv : slotP v) (ht : b.drop p = encSlot v ++ t) (hh : v.Has = false) :
    x.2.2.2 = false ∧ x.1 = 0 ∧ ∀ q : Nat, x.2.2.1 = (q : Int) → q = p + (encSlot v).length := by
  obtain ⟨a1, q, a2, a3, a4, a5, a6⟩ := hx
  rw [encSlot_none hh] at ht ⊢
  obtain ⟨c1, c2, c3⟩ := a6 hb _ _ (hk _ (by omega) (by omega)) ht
  refine ⟨c1, c2, fun q' hq => ?_⟩
  omega
theorem slotA {q : Nat} (hq : x.2.2.1 = (q : Int)) (h : (x.2.2.2 || decide (x.1 = 0)) = true) : Rd encSlot slotP b p bad (zeroSlot, b, (q : Int), x.2.2.2) := by
  have hx' := hx
  obtain ⟨a1, q', a2, a3, a4, a5, a6⟩ := hx'
  have : q' = q := by omega
  subst this
  refine ⟨rfl, q', rfl, a3, a4, fun h1 => ?_, fun hb v t hv ht => ?_⟩
  · change x.2.2.2 = false at h1
    rw [h1] at h
    simp at h
    obtain ⟨c1, c2⟩ := a5 h1
    rw [h] at c2
    exact ⟨zeroSlot_p, c2⟩
  · cases hh : v.Has with
    | true =>
      obtain ⟨d1, d2, d3⟩ := slot_some hx hk hb hv ht hh
      have := encObj_pos v.O
      rw [d1] at h
      simp at h; omega
    | false =>
      obtain ⟨d1, d2, d3⟩ := slot_none hx hk hb hv ht hh
      exact ⟨d1, (slotP_none hv hh).symm, d3 q' hq⟩
theorem slotBd {q : Nat} (hq : x.2.2.1 = (q : Int)) (h0 : x.1 ≠ 0) (h : x.1 < 0 ∨ (b.length : Int) - (q : Int) < x.1) (s : TSlot) : Rd encSlot slotP b p bad (s, b, (q : Int), true) := by
  have hx' := hx
  obtain ⟨a1, q', a2, a3, a4, a5, a6⟩ := hx'
  have : q' = q := by omega
  subst this
  refine ⟨rfl, q', rfl, a3, fun _ => rfl, (fun h1 => by cases h1), fun hb v t hv ht => ?_⟩
  cases hh : v.Has with
  | true =>
    obtain ⟨d1, d2, d3⟩ := slot_some hx hk hb hv ht hh
    obtain ⟨e1, e2, e3⟩ := d3 q' hq
    omega
  | false =>
    obtain ⟨d1, d2, d3⟩ := slot_none hx hk hb hv ht hh
    exact absurd d2 h0
theorem slotC {q n : Nat} (hq : x.2.2.1 = (q : Int)) (hn : x.1 = (n : Int)) (hb1 : x.2.2.2 = false) (h0 : 0 < n) (hqn : q + n ≤ b.length) {r : TObj × Bool} (hr : GoodObj (cut b (q : Int) ((q + n : Nat) : Int)) r) :
    (r.2 = true → Rd encSlot slotP b p bad ((⟨true, r.1⟩ : TSlot), b, ((q + n : Nat) : Int), false)) ∧ (r.2 = false → ∀ (s : TSlot) (q2 : Nat), q2 ≤ b.length → Rd encSlot slotP b p bad (s, b, (q2 : Int), true)) := by
  have hx' := hx
  obtain ⟨a1, q', a2, a3, a4, a5, a6⟩ := hx'
  have : q' = q := by omega
  subst this
  have hbad : bad = false := by
    cases hz : bad with
    | false => rfl
    | true => rw [a4 hz] at hb1; cases hb1
  have comp : ∀ v t, slotP v → b.drop p = encSlot v ++ t → r = (v.O, true) ∧ v.Has = true ∧ q' + n = p + (encSlot v).length := by
    intro v t hv ht
    cases hh : v.Has with
    | true =>
      obtain ⟨d1, d2, d3⟩ := slot_some hx hk hbad hv ht hh
      obtain ⟨e1, e2, e3⟩ := d3 q' hq
      have hn2 : n = (encObj v.O).length := by omega
      refine ⟨hr.2.2 v.O (slotP_some hv hh) (cut_enc e2 hn2), rfl, ?_⟩
      rw [encSlot_some hh, List.length_append]; omega
    | false =>
      obtain ⟨d1, d2, d3⟩ := slot_none hx hk hbad hv ht hh
      omega
  refine ⟨fun h => ⟨rfl, q' + n, rfl, hqn, (fun h1 => by rw [hbad] at h1; cases h1), fun _ => ?_, fun _ v t hv ht => ?_⟩, fun h s q2 hq2 => ⟨rfl, q2, rfl, hq2, fun _ => rfl, (fun h1 => by cases h1), fun _ v t hv ht => ?_⟩⟩
  · obtain ⟨c1, c2⟩ := hr.1 h
    obtain ⟨f1, f2⟩ := a5 hb1
    refine ⟨by unfold slotP slotB; rw [if_pos rfl]; exact c1, ?_⟩
    have hc : (encObj r.1).length = n := by
      rw [← c2]; unfold cut
      rw [List.length_drop, List.length_take]; omega
    show b.drop p = encSlot ⟨true, r.1⟩ ++ b.drop (q' + n)
    rw [encSlot_some rfl, List.append_assoc, f2, hn]
    dsimp only
    rw [hc]
    congr 1
    rw [← c2]
    unfold cut
    rw [Int.toNat_natCast, Int.toNat_natCast, List.drop_take]
    have : q' + n - q' = n := by omega
    rw [this, ← List.drop_drop, List.take_append_drop]
  · obtain ⟨c1, c2, c3⟩ := comp v t hv ht
    refine ⟨rfl, ?_, c3⟩
    obtain ⟨has, o⟩ := v
    dsimp only at c1 c2 ⊢
    rw [c1, c2]
  · obtain ⟨c1, c2, c3⟩ := comp v t hv ht
    rw [c1] at h; cases h
end
theorem slot_ev {b : List Int} {p : Nat} (hw : wfB b) (hl : b.length ≤ 1048576) (hp : p ≤ b.length) (bad : Bool) : EvP (fun k => impl_reader_slot.f k b (p : Int) bad) (Rd encSlot slotP b p bad) := by
  unfold impl_reader_slot.f impl_reader_slot.c1
  refine EvP.bind (many_ev hw hl hp bad b.length hl) fun x hx => ?_
  obtain ⟨hx, x0, x1⟩ := hx
  have hk : ∀ n : Int, 0 ≤ n → n ≤ (b.length : Int) → (0 ≤ n ∧ n ≤ (b.length : Int)) := fun n h1 h2 => ⟨h1, h2⟩
  have hx' := hx
  obtain ⟨a1, q, a2, a3, -⟩ := hx'
  rw [a1, a2]
  refine EvP.iteD (fun h => EvP.ret (slotA hx hk a2 h)) fun h => ?_
  simp only [Bool.or_eq_false_iff, decide_eq_false_iff_not] at h
  obtain ⟨h1, h2⟩ := h
  obtain ⟨n, hn⟩ : ∃ n : Nat, x.1 = (n : Int) := ⟨x.1.toNat, by omega⟩
  rw [w64_id (n := (b.length : Int) - (q : Int)) (by omega) (by omega), w64_id (n := (q : Int) + x.1) (by omega) (by omega)]
  refine EvP.ite (fun h => EvP.ret ?_) fun h => ?_
  · simp only [decide_eq_true_eq] at h
    exact slotBd hx hk a2 h2 (Or.inr h) _
  · simp only [decide_eq_true_eq] at h
    have e : (q : Int) + x.1 = ((q + n : Nat) : Int) := by omega
    rw [e, h1]
    refine EvP.bind (Q := fun y => GoodObj (cut b (q : Int) ((q + n : Nat) : Int)) (⟨y.1, y.2.1, y.2.2.1⟩, y.2.2.2)) (EvP.ifT (by omega) (EvP.bind (GetObj_ev ?_ ?_) fun r hr => EvP.ret hr)) fun y hy => ?_
    · intro z hz; exact hw z (List.mem_of_mem_take (List.mem_of_mem_drop hz))
    · unfold cut; rw [List.length_drop, List.length_take]; omega
    · obtain ⟨c1, c2⟩ := slotC hx hk a2 hn h1 (by omega) (by omega) hy
      refine EvP.ite (fun h => EvP.ret ?_) fun h => EvP.ret ?_
      · exact c2 (by simpa using h) _ q a3
      · exact c1 (by simpa using h)
end Go.Proofs.Ytocknibhajihmaa
