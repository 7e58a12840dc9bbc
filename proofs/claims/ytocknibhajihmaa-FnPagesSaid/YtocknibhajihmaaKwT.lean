/- Reading what was written, one item after another; the plain theory. Conditions: none. -/
import Derived.Test.YtocknibhajihmaaKwS
set_option linter.unusedVariables false
set_option linter.unusedSimpArgs false
namespace Go.Kw

/-- A reader's answer r, of row b, that stood at p and was bad or not. -/
def Rd {α : Type} (e : α → List Int) (ok : α → Prop) (b : List Int) (p : Nat) (bad : Bool) (r : α × List Int × Int × Bool) : Prop :=
  r.2.1 = b ∧ ∃ p' : Nat, r.2.2.1 = (p' : Int) ∧ p' ≤ b.length ∧ (bad = true → r.2.2.2 = true) ∧
    (r.2.2.2 = false → ok r.1 ∧ b.drop p = e r.1 ++ b.drop p') ∧
    (bad = false → ∀ v t, ok v → b.drop p = e v ++ t → r.2.2.2 = false ∧ r.1 = v ∧ p' = p + (e v).length)
theorem drop_app {b e t : List Int} {p : Nat} (h : b.drop p = e ++ t) : b.drop (p + e.length) = t := by
  rw [← List.drop_drop, h, List.drop_left]
theorem Rd.seq {α β γ : Type} {e1 : α → List Int} {o1 : α → Prop} {e2 : β → List Int} {o2 : β → Prop} {b : List Int} {p : Nat} {bad : Bool}
    {r1 : α × List Int × Int × Bool} {r2 : β × List Int × Int × Bool} (f : α → β → γ) (e : γ → List Int) (o : γ → Prop)
    (h1 : Rd e1 o1 b p bad r1) (h2 : ∀ p' : Nat, r1.2.2.1 = (p' : Int) → p' ≤ b.length → Rd e2 o2 b p' r1.2.2.2 r2)
    (hf : ∀ v w, o1 v → o2 w → o (f v w) ∧ e (f v w) = e1 v ++ e2 w) (hu : ∀ c, o c → ∃ v w, c = f v w ∧ o1 v ∧ o2 w) :
    Rd e o b p bad (f r1.1 r2.1, r2.2) := by
  obtain ⟨a1, p1, a2, a3, a4, a5, a6⟩ := h1
  obtain ⟨b1, p2, b2, b3, b4, b5, b6⟩ := h2 p1 a2 a3
  refine ⟨b1, p2, b2, b3, fun h => b4 (a4 h), fun h => ?_, fun h c t hc ht => ?_⟩
  · change r2.2.2.2 = false at h
    have hb1 : r1.2.2.2 = false := by
      cases hx : r1.2.2.2 with
      | false => rfl
      | true => rw [b4 hx] at h; cases h
    obtain ⟨c1, c2⟩ := a5 hb1
    obtain ⟨d1, d2⟩ := b5 h
    obtain ⟨f1, f2⟩ := hf _ _ c1 d1
    refine ⟨f1, ?_⟩
    show b.drop p = e (f r1.1 r2.1) ++ b.drop p2
    rw [f2, c2, d2, List.append_assoc]
  · obtain ⟨v, w, rfl, hv, hw⟩ := hu c hc
    obtain ⟨f1, f2⟩ := hf v w hv hw
    rw [f2, List.append_assoc] at ht
    obtain ⟨c1, c2, c3⟩ := a6 h v _ hv ht
    have := drop_app ht
    rw [← c3] at this
    obtain ⟨d1, d2, d3⟩ := b6 c1 w t hw this
    refine ⟨d1, ?_, ?_⟩
    · show f r1.1 r2.1 = f v w
      rw [c2, d2]
    · rw [d3, c3, f2, List.length_append]; omega
theorem Rd.at_ {α : Type} {e : α → List Int} {o : α → Prop} {b : List Int} {p : Nat} {bad : Bool} {r : α × List Int × Int × Bool} (h : Rd e o b p bad r) : r.2.1 = b ∧ ∃ q : Nat, r.2.2.1 = (q : Int) ∧ q ≤ b.length :=
  let ⟨a, q, c, d, _⟩ := h; ⟨a, q, c, d⟩
theorem Rd.pair {α β : Type} {e1 : α → List Int} {o1 : α → Prop} {e2 : β → List Int} {o2 : β → Prop} {b : List Int} {p q : Nat} {bad : Bool}
    {r1 : α × List Int × Int × Bool} {r2 : β × List Int × Int × Bool} (h1 : Rd e1 o1 b p bad r1) (hq : r1.2.2.1 = (q : Int)) (h2 : Rd e2 o2 b q r1.2.2.2 r2) :
    Rd (fun v : α × β => e1 v.1 ++ e2 v.2) (fun v => o1 v.1 ∧ o2 v.2) b p bad ((r1.1, r2.1), r2.2) :=
  h1.seq Prod.mk _ _ (fun p' e _ => by
    have : q = p' := by omega
    subst this; exact h2) (fun v w hv hw => ⟨⟨hv, hw⟩, rfl⟩) fun c hc => ⟨c.1, c.2, rfl, hc.1, hc.2⟩
theorem Rd.map {α β : Type} {e1 : α → List Int} {o1 : α → Prop} {b : List Int} {p : Nat} {bad : Bool} {r : α × List Int × Int × Bool} (f : α → β) (e : β → List Int) (o : β → Prop)
    (h : Rd e1 o1 b p bad r) (hf : ∀ v, o1 v → o (f v) ∧ e (f v) = e1 v) (hu : ∀ c, o c → ∃ v, c = f v ∧ o1 v) : Rd e o b p bad (f r.1, r.2) := by
  obtain ⟨a1, p1, a2, a3, a4, a5, a6⟩ := h
  refine ⟨a1, p1, a2, a3, a4, fun h => ?_, fun h c t hc ht => ?_⟩
  · obtain ⟨c1, c2⟩ := a5 h
    obtain ⟨f1, f2⟩ := hf _ c1
    exact ⟨f1, by rw [f2]; exact c2⟩
  · obtain ⟨v, rfl, hv⟩ := hu c hc
    obtain ⟨f1, f2⟩ := hf v hv
    rw [f2] at ht ⊢
    obtain ⟨c1, c2, c3⟩ := a6 h v t hv ht
    exact ⟨c1, by show f r.1 = f v; rw [c2], c3⟩
/-- A list read, i of its n items so far. -/
def RdL {α : Type} (e : α → List Int) (ok : α → Prop) (b : List Int) (p : Nat) (bad : Bool) (n i : Nat) (acc : List α) (p' : Nat) (bad' : Bool) : Prop :=
  p' ≤ b.length ∧ (bad = true → bad' = true) ∧ (bad' = false → acc.length = i ∧ (∀ x ∈ acc, ok x) ∧ b.drop p = acc.flatMap e ++ b.drop p') ∧
    (bad = false → ∀ (v : List α) (t : List Int), v.length = n → (∀ x ∈ v, ok x) → b.drop p = v.flatMap e ++ t → bad' = false ∧ acc = v.take i ∧ p' = p + ((v.take i).flatMap e).length)
theorem RdL.zero {α : Type} {e : α → List Int} {ok : α → Prop} {b : List Int} {p : Nat} {bad : Bool} {n : Nat} (hp : p ≤ b.length) : RdL e ok b p bad n 0 [] p bad :=
  ⟨hp, fun h => h, fun h => ⟨rfl, (fun x hx => by cases hx), rfl⟩, fun h v t _ _ _ => ⟨h, rfl, rfl⟩⟩
theorem RdL.step {α : Type} {e : α → List Int} {ok : α → Prop} {b : List Int} {p : Nat} {bad : Bool} {n i : Nat} {acc : List α} {p' : Nat} {bad' : Bool} {r : α × List Int × Int × Bool}
    (h : RdL e ok b p bad n i acc p' bad') (hi : i < n) (hr : Rd e ok b p' bad' r) : r.2.1 = b ∧ ∃ q : Nat, r.2.2.1 = (q : Int) ∧ RdL e ok b p bad n (i + 1) (acc ++ [r.1]) q r.2.2.2 := by
  obtain ⟨a0, a1, a2, a3⟩ := h
  obtain ⟨b1, q, b2, b3, b4, b5, b6⟩ := hr
  refine ⟨b1, q, b2, b3, fun h => b4 (a1 h), fun h => ?_, fun h v t hv ho ht => ?_⟩
  · have hb1 : bad' = false := by
      cases hx : bad' with
      | false => rfl
      | true => rw [b4 hx] at h; cases h
    obtain ⟨c1, c2, c3⟩ := a2 hb1
    obtain ⟨d1, d2⟩ := b5 h
    refine ⟨by simp [c1], fun x hx => ?_, ?_⟩
    · rcases List.mem_append.1 hx with h1 | h1
      · exact c2 x h1
      · rw [List.mem_singleton.1 h1]; exact d1
    · rw [List.flatMap_append, c3, d2]; simp
  · obtain ⟨c1, c2, c3⟩ := a3 h v t hv ho ht
    have e1 : v = v.take i ++ (v[i]'(by omega) :: v.drop (i + 1)) := by rw [← List.drop_eq_getElem_cons, List.take_append_drop]
    have ht2 : b.drop p = (v.take i).flatMap e ++ (e (v[i]'(by omega)) ++ ((v.drop (i + 1)).flatMap e ++ t)) := by
      have e3 : v.flatMap e = (v.take i).flatMap e ++ (e (v[i]'(by omega)) ++ (v.drop (i + 1)).flatMap e) := by
        conv => lhs; rw [e1]
        rw [List.flatMap_append, List.flatMap_cons]
      rw [ht, e3, List.append_assoc, List.append_assoc]
    have := drop_app ht2
    rw [← c3] at this
    obtain ⟨d1, d2, d3⟩ := b6 c1 _ _ (ho _ (List.getElem_mem _)) this
    have e2 : v.take (i + 1) = v.take i ++ [v[i]'(by omega)] := by rw [List.take_succ_eq_append_getElem]
    refine ⟨d1, ?_, ?_⟩
    · rw [e2, c2, d2]
    · rw [e2, d3, c3, List.flatMap_append, List.length_append]; simp only [List.flatMap_cons, List.flatMap_nil, List.append_nil]; omega
theorem RdL.done {α : Type} {e : α → List Int} {ok : α → Prop} {b : List Int} {p : Nat} {bad : Bool} {n i : Nat} {acc : List α} {p' : Nat} {bad' : Bool}
    (h : RdL e ok b p bad n i acc p' bad') (hi : i = n ∨ bad' = true) : Rd (fun l => l.flatMap e) (fun l => l.length = n ∧ ∀ x ∈ l, ok x) b p bad (acc, b, (p' : Int), bad') := by
  obtain ⟨a0, a1, a2, a3⟩ := h
  refine ⟨rfl, p', rfl, a0, a1, fun h => ?_, fun h v t hv ht => ?_⟩
  · change bad' = false at h
    obtain ⟨c1, c2, c3⟩ := a2 h
    rcases hi with rfl | hi
    · exact ⟨⟨c1, c2⟩, c3⟩
    · rw [hi] at h; cases h
  · obtain ⟨c1, c2, c3⟩ := a3 h v t hv.1 hv.2 ht
    rcases hi with rfl | hi
    · rw [List.take_of_length_le (by omega)] at c2 c3
      exact ⟨c1, c2, c3⟩
    · rw [hi] at c1; cases c1
/-- A count, and as many items. -/
theorem Rd.list {α : Type} {e : α → List Int} {ok : α → Prop} {en : Int → List Int} {b : List Int} {p : Nat} {bad : Bool} {max : Nat}
    {r1 : Int × List Int × Int × Bool} {r2 : List α × List Int × Int × Bool} (h1 : Rd en (fun n => 0 ≤ n ∧ n ≤ (max : Int)) b p bad r1)
    (h2 : ∀ p' : Nat, r1.2.2.1 = (p' : Int) → p' ≤ b.length → Rd (fun l => l.flatMap e) (fun l => l.length = r1.1.toNat ∧ ∀ x ∈ l, ok x) b p' r1.2.2.2 r2) :
    Rd (fun l : List α => en (l.length : Int) ++ l.flatMap e) (fun l => l.length ≤ max ∧ ∀ x ∈ l, ok x) b p bad r2 := by
  obtain ⟨a1, p1, a2, a3, a4, a5, a6⟩ := h1
  obtain ⟨b1, p2, b2, b3, b4, b5, b6⟩ := h2 p1 a2 a3
  refine ⟨b1, p2, b2, b3, fun h => b4 (a4 h), fun h => ?_, fun h c t hc ht => ?_⟩
  · have hb1 : r1.2.2.2 = false := by
      cases hx : r1.2.2.2 with
      | false => rfl
      | true => rw [b4 hx] at h; cases h
    obtain ⟨⟨c0, c1⟩, c2⟩ := a5 hb1
    obtain ⟨⟨d0, d1⟩, d2⟩ := b5 h
    refine ⟨⟨by omega, d1⟩, ?_⟩
    have : (r2.1.length : Int) = r1.1 := by omega
    show b.drop p = (en (r2.1.length : Int) ++ r2.1.flatMap e) ++ b.drop p2
    rw [this, c2, d2, List.append_assoc]
  · rw [List.append_assoc] at ht
    obtain ⟨c1, c2, c3⟩ := a6 h (c.length : Int) _ ⟨by omega, by omega⟩ ht
    have := drop_app ht
    rw [← c3] at this
    obtain ⟨d1, d2, d3⟩ := b6 c1 c t ⟨by rw [c2]; omega, hc.2⟩ this
    refine ⟨d1, d2, ?_⟩
    show p2 = p + (en (c.length : Int) ++ c.flatMap e).length
    dsimp only at d3
    rw [d3, c3, List.length_append]; omega
theorem wfB_of {xs : List Int} (h : ∀ n ∈ xs, (Lit.int .u8 n).wf = true) : wfB xs := by
  intro x hx
  have h1 := h x hx
  simp only [Lit.wf, IntKind.min, IntKind.max, IntKind.signed, IntKind.bits] at h1
  simp at h1
  omega
end Go.Kw
