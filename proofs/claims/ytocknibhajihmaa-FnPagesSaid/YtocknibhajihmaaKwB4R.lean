/- What the readers of the program read. Conditions: none. -/
import Derived.Test.YtocknibhajihmaaKwB4G
import Derived.Test.YtocknibhajihmaaKwT
set_option linter.unusedVariables false
set_option linter.unusedSimpArgs false
namespace Go.Proofs.Ytocknibhajihmaa
open Go.Kw

def okP (n : Int) : Prop := okI n = true
def encL (l : List Int) : List Int := enc (l.length : Int) ++ l.flatMap enc
def encObj (o : TObj) : List Int := (enc o.Kind ++ encL o.Ints) ++ encL o.Refs
def encSlot (s : TSlot) : List Int := if s.Has = true then enc ((encObj s.O).length : Int) ++ encObj s.O else enc 0
def zeroObj : TObj := ⟨0, [], []⟩
theorem GI_rd {b : List Int} {p : Nat} (hw : wfB b) (hp : p ≤ b.length) (bad : Bool) :
    Rd enc okP b p bad (if (bad || !(GI b p).2.2) = true then (0, b, (p : Int), true) else ((GI b p).1, b, (GI b p).2.1, bad)) := by
  cases bad with
  | true =>
    rw [if_pos (by simp)]
    exact ⟨rfl, p, rfl, hp, fun _ => rfl, (fun h => by cases h), fun h => by cases h⟩
  | false =>
    unfold GI
    cases hd : dec (b.drop p) with
    | none =>
      dsimp only
      rw [if_pos (by simp)]
      refine ⟨rfl, p, rfl, hp, fun _ => rfl, (fun h => by cases h), fun _ v t hv ht => ?_⟩
      rw [ht, dec_enc hv] at hd; cases hd
    | some q =>
      obtain ⟨n, l⟩ := q
      dsimp only
      rw [if_neg (by simp)]
      obtain ⟨h1, h2, h3⟩ := dec_inv (wfB_drop hw p) hd
      have hl : l ≤ (b.drop p).length := by rw [h2, List.length_append, ← h3]; omega
      rw [List.length_drop] at hl
      refine ⟨rfl, p + l, rfl, by omega, (fun h => by cases h), fun _ => ⟨h1, ?_⟩, fun _ v t hv ht => ?_⟩
      · rw [List.drop_drop] at h2; exact h2
      · rw [ht, dec_enc hv] at hd
        cases hd
        exact ⟨rfl, rfl, rfl⟩
theorem one_ev {b : List Int} {p : Nat} (hw : wfB b) (hl : b.length ≤ 1048576) (hp : p ≤ b.length) (bad : Bool) : EvP (fun k => impl_reader_one.f k b (p : Int) bad) (Rd enc okP b p bad) := by
  unfold impl_reader_one.f
  refine EvP.bind1 (GetInt_ev hw hl hp) ?_
  have := GI_rd hw hp bad
  refine EvP.ite (fun h => EvP.ret ?_) fun h => EvP.ret ?_
  · rw [if_pos h] at this; exact this
  · rw [if_neg h] at this; exact this
theorem many_ev {b : List Int} {p : Nat} (hw : wfB b) (hl : b.length ≤ 1048576) (hp : p ≤ b.length) (bad : Bool) (max : Nat) (hm : max ≤ 1048576) :
    EvP (fun k => impl_reader_many.f k b (p : Int) bad (max : Int)) (fun r => Rd enc (fun n => 0 ≤ n ∧ n ≤ (max : Int)) b p bad r ∧ 0 ≤ r.1 ∧ r.1 ≤ (max : Int)) := by
  unfold impl_reader_many.f
  refine EvP.bind (one_ev hw hl hp bad) fun r hr => ?_
  simp only [in_eq, Option.bind_some]
  obtain ⟨a1, q, a2, a3, a4, a5, a6⟩ := hr
  have hok : ∀ v : Int, 0 ≤ v ∧ v ≤ (max : Int) → okP v := fun v hv => by
    show okI v = true
    simp [okI]; omega
  refine EvP.iteD (fun h => EvP.ret ⟨⟨a1, q, a2, a3, fun _ => rfl, (fun h => by cases h), fun hb v t hv ht => ?_⟩, by show (0 : Int) ≤ 0; omega, by show (0 : Int) ≤ _; omega⟩) fun h => EvP.ret ?_
  · obtain ⟨c1, c2, c3⟩ := a6 hb v t (hok v hv) ht
    rw [c2] at h
    simp [inB] at h; omega
  · have hi : 0 ≤ r.1 ∧ r.1 ≤ (max : Int) := by simpa [inB] using h
    refine ⟨⟨a1, q, a2, a3, a4, fun hb => ⟨hi, (a5 hb).2⟩, fun hb v t hv ht => a6 hb v t (hok v hv) ht⟩, hi⟩
theorem ints_loop {b : List Int} {p : Nat} (hw : wfB b) (hl : b.length ≤ 1048576) (hp : p ≤ b.length) (bad : Bool) (x : Int × List Int × Int × Bool) (h0 : 0 ≤ x.1) (h1 : x.1 ≤ 1048576) :
    EvP (fun k => impl_reader_ints.l1 x k b (p : Int) bad [] 0) (fun s => Rd (fun l => l.flatMap enc) (fun l => l.length = x.1.toNat ∧ ∀ y ∈ l, okP y) b p bad (s.2.2.2, s.1, s.2.1, s.2.2.1)) := by
  refine for_up (fun k (s : List Int × Int × Bool × List Int) i => impl_reader_ints.l1 x k s.1 s.2.1 s.2.2.1 s.2.2.2 i) x.1.toNat (fun i s => s.1 = b ∧ s.2.2.2.length = i ∧ ∃ q : Nat, s.2.1 = (q : Int) ∧ RdL enc okP b p bad x.1.toNat i s.2.2.2 q s.2.2.1) _ ?_ ?_ (i := 0) (s := (b, (p : Int), bad, [])) (Nat.zero_le _) ⟨rfl, rfl, p, rfl, RdL.zero hp⟩
  · intro i s hi hI ih
    obtain ⟨e1, e2, q, e3, e4⟩ := hI
    obtain ⟨s1, s2, s3, s4⟩ := s
    dsimp only at e1 e2 e3 e4
    subst e1; subst e3
    simp only [impl_reader_ints.l1]
    refine EvP.ifT (by simp only [decide_eq_true_eq]; omega) (EvP.bind (one_ev hw hl e4.1 s3) fun r hr => EvP.ifT (by omega) ?_)
    obtain ⟨f1, q', f2, f3⟩ := e4.step hi hr
    rw [w64_succ hi (by omega)]
    exact ih (r.2.1, r.2.2.1, r.2.2.2, s4 ++ [r.1]) ⟨f1, by simp [e2], q', f2, f3⟩
  · intro s hI
    obtain ⟨e1, e2, q, e3, e4⟩ := hI
    obtain ⟨s1, s2, s3, s4⟩ := s
    dsimp only at e1 e2 e3 e4
    subst e1; subst e3
    simp only [impl_reader_ints.l1]
    exact EvP.ifF (by simp only [decide_eq_true_eq]; omega) (EvP.ret (e4.done (Or.inl rfl)))
theorem ints_ev {b : List Int} {p : Nat} (hw : wfB b) (hl : b.length ≤ 1048576) (hp : p ≤ b.length) (bad : Bool) (max : Nat) (hm : max ≤ 1048576) :
    EvP (fun k => impl_reader_ints.f k b (p : Int) bad (max : Int)) (Rd encL (fun l => l.length ≤ max ∧ ∀ y ∈ l, okP y) b p bad) := by
  unfold impl_reader_ints.f impl_reader_ints.c1
  refine EvP.bind (Q := fun s => Rd encL (fun l => l.length ≤ max ∧ ∀ y ∈ l, okP y) b p bad (s.2.2.2, s.1, s.2.1, s.2.2.1)) (EvP.bind (many_ev hw hl hp bad max hm) fun r hr => ?_) fun s hs => EvP.ret hs
  obtain ⟨h1, h2, h3⟩ := hr
  have h1' := h1
  obtain ⟨a1, q, a2, a3, -⟩ := h1'
  rw [a1, a2]
  refine (ints_loop hw hl a3 r.2.2.2 r h2 (by omega)).mono fun s hs => ?_
  refine h1.list fun p' e _ => ?_
  rw [a2] at e
  have : q = p' := by omega
  subst this
  exact hs
def oObj (o : TObj) : Prop := (okP o.Kind ∧ (o.Ints.length ≤ 5 ∧ ∀ y ∈ o.Ints, okP y)) ∧ (o.Refs.length ≤ 5 ∧ ∀ y ∈ o.Refs, okP y)
theorem inB_ok {n lo hi : Int} (h : inB n lo hi = true) (h1 : -1000000000000 ≤ lo) (h2 : hi ≤ 1000000000000) : okP n := by
  simp [inB] at h
  show okI n = true
  simp [okI]; omega
theorem objB_ok {o : TObj} (h : objB o = true) : oObj o := by
  unfold objB at h
  simp only [Bool.and_eq_true, Bool.not_eq_true', decide_eq_false_iff_not, List.all_eq_true] at h
  obtain ⟨⟨⟨h1, h2⟩, h3⟩, h4, h5⟩ := h
  exact ⟨⟨inB_ok h1 (by omega) (by omega), by omega, fun y hy => inB_ok (h4 y hy) (by omega) (by omega)⟩, by omega, fun y hy => inB_ok (h5 y hy) (by omega) (by omega)⟩
theorem objB_g {o : TObj} (h : oObj o) : gObj o := ⟨by have := h.1.2.1; omega, by have := h.2.1; omega, trivial⟩
/-- What a GetObj answers. -/
def GoodObj (c : List Int) (r : TObj × Bool) : Prop :=
  (r.2 = true → objB r.1 = true ∧ c = encObj r.1) ∧ (r.2 = false → r.1 = zeroObj) ∧ (∀ v, objB v = true → c = encObj v → r = (v, true))
theorem GetObj_ev {c : List Int} (hw : wfB c) (hl : c.length ≤ 1048576) : EvP (fun k => impl_GetObj.f k c) (GoodObj c) := by
  unfold impl_GetObj.f
  refine EvP.bind (one_ev (p := 0) hw hl (Nat.zero_le _) false) fun r1 h1 => ?_
  have g1 := h1
  obtain ⟨a1, p1, a2, a3, -⟩ := g1
  rw [a1, a2]
  refine EvP.bind (ints_ev hw hl a3 r1.2.2.2 5 (by omega)) fun r2 h2 => ?_
  have g2 := h2
  obtain ⟨b1, p2, b2, b3, -⟩ := g2
  rw [b1, b2]
  refine EvP.bind (ints_ev hw hl b3 r2.2.2.2 5 (by omega)) fun r3 h3 => ?_
  have g3 := h3
  obtain ⟨c1, p3, c2, c3, -⟩ := g3
  rw [c1, c2]
  have R2 := Rd.seq (γ := Int × List Int) (r1 := r1) (r2 := r2) Prod.mk (fun v => enc v.1 ++ encL v.2) (fun v => okP v.1 ∧ (v.2.length ≤ 5 ∧ ∀ y ∈ v.2, okP y)) h1 (fun p' e _ => by
    rw [a2] at e
    have : p1 = p' := by omega
    subst this; exact h2) (fun v w hv hw => ⟨⟨hv, hw⟩, rfl⟩) fun c hc => ⟨c.1, c.2, rfl, hc.1, hc.2⟩
  have R3 := Rd.seq (γ := TObj) (r2 := r3) (fun (v : Int × List Int) w => ⟨v.1, v.2, w⟩) encObj oObj R2 (fun p' e _ => by
    change r2.2.2.1 = _ at e
    rw [b2] at e
    have : p2 = p' := by omega
    subst this; exact h3) (fun v w hv hw => ⟨⟨hv, hw⟩, rfl⟩) fun c hc => ⟨(c.Kind, c.Ints), c.Refs, rfl, hc.1, hc.2⟩
  generalize ho : (⟨r1.1, r2.1, r3.1⟩ : TObj) = o at R3 ⊢
  unfold impl_reader_done.f impl_reader_done.c1
  obtain ⟨-, q, d2, d3, d4, d5, d6⟩ := R3
  change r3.2.2.1 = _ at d2
  rw [c2] at d2
  have : p3 = q := by omega
  subst this
  refine EvP.bind1 (a := (!r3.2.2.2 && decide ((p3 : Int) = (c.length : Int)), c, (p3 : Int), r3.2.2.2)) (EvP.bind1 (and_ev fun _ => EvP.ret rfl) (EvP.ret rfl)) ?_
  dsimp only at d5 d6 ⊢
  rw [List.drop_zero] at d5 d6
  unfold impl_GetObj.c1
  have fin : ∀ z : Bool, z = (!r3.2.2.2 && decide ((p3 : Int) = (c.length : Int)) && objB o) → GoodObj c (if (!z) = true then (zeroObj, false) else (o, true)) := by
    intro z hz
    cases hz2 : z with
    | false =>
      rw [if_pos (by simp)]
      refine ⟨fun h => (by cases h), fun _ => rfl, fun v hv hc => ?_⟩
      obtain ⟨k1, k2, k3⟩ := d6 rfl v [] (objB_ok hv) (by rw [List.append_nil]; exact hc)
      rw [hz2, k1, k2, hv] at hz
      rw [k3, ← hc] at hz
      simp at hz
    | true =>
      rw [if_neg (by simp)]
      rw [hz2] at hz
      have hz := hz.symm
      simp only [Bool.and_eq_true, Bool.not_eq_true', decide_eq_true_eq] at hz
      obtain ⟨⟨z1, z2⟩, z3⟩ := hz
      obtain ⟨k1, k2⟩ := d5 z1
      refine ⟨fun _ => ⟨z3, ?_⟩, fun h => (by cases h), fun v hv hc => ?_⟩
      · rw [k2, List.drop_eq_nil_of_le (by omega), List.append_nil]
      · obtain ⟨k1, k2, k3⟩ := d6 rfl v [] (objB_ok hv) (by rw [List.append_nil]; exact hc)
        rw [k2]
  cases hd : (!r3.2.2.2 && decide ((p3 : Int) = (c.length : Int))) with
  | false =>
    refine EvP.bind1 (EvP.ifT rfl (EvP.ret rfl)) (EvP.ifT rfl (EvP.ret ?_))
    have := fin false (by rw [hd]; rfl)
    exact this
  | true =>
    simp only [Bool.and_eq_true, Bool.not_eq_true', decide_eq_true_eq] at hd
    have hk := d5 hd.1
    refine EvP.bind1 (EvP.ifF (by simp) (EvP.bind1 (ObjOk_ev (objB_g hk.1)) (EvP.ret rfl))) ?_
    have := fin (objB o) (by rw [hd.1, decide_eq_true hd.2]; simp)
    refine EvP.ite (fun h => EvP.ret ?_) fun h => EvP.ret ?_
    · rw [if_pos h] at this; exact this
    · rw [if_neg h] at this; rw [ho]; exact this
end Go.Proofs.Ytocknibhajihmaa
