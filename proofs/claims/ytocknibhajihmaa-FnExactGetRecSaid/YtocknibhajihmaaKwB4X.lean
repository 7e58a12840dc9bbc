/- What the reference's readers read. Conditions: none. -/
import Derived.Test.YtocknibhajihmaaKwB4W
set_option linter.unusedVariables false
set_option linter.unusedSimpArgs false
namespace Go.Proofs.Ytocknibhajihmaa
open Go.Kw

theorem same_ev (xs ys : List Int) (hl : ys.length ≤ 1048576) : EvP (fun k => spec_l2Same.f k xs ys) (· = decide (xs = ys)) := by
  unfold spec_l2Same.f spec_l2Same.c1
  refine EvP.ite (fun h => EvP.ret ?_) fun h => ?_
  · simp only [decide_eq_true_eq] at h
    have : xs ≠ ys := fun e => h (by rw [e])
    simp [this]
  · simp only [decide_eq_true_eq, Classical.not_not] at h
    have hlen : xs.length = ys.length := by omega
    refine EvP.bind1 (range_ev (spec_l2Same.l1 xs ys) xs.length (fun i => decide (rd xs (i : Int) = rd ys (i : Int))) (by omega) ?_ ?_ ?_) ?_
    · intro i hi hP
      simp only [spec_l2Same.l1]
      refine EvP.ifT (by simpa using hi) (EvP.ifT (by omega) (EvP.ifT (by omega) (EvP.ifT (by simpa using hP) (EvP.ret rfl))))
    · intro i Q hi hP ih
      simp only [spec_l2Same.l1]
      refine EvP.ifT (by simpa using hi) (EvP.ifT (by omega) (EvP.ifT (by omega) (EvP.ifF (by simpa using hP) ?_)))
      rw [w64_succ hi (by omega)]; exact ih
    · simp only [spec_l2Same.l1]
      exact EvP.ifF (by simp) (EvP.ret rfl)
    · have : (List.range xs.length).all (fun i => decide (rd xs (i : Int) = rd ys (i : Int))) = decide (xs = ys) := rd_all hlen
      rw [this]
      cases decide (xs = ys) with
      | false => simp only [Bool.false_eq_true, if_false, Ex.on]; exact EvP.ret rfl
      | true => simp only [if_true, Ex.on]; exact EvP.ret rfl
theorem list_loop {b : List Int} {p : Nat} (hw : wfB b) (hl : b.length ≤ 1048576) (hp : p ≤ b.length) (bad : Bool) (x : Int × List Int × Int × Bool) (h0 : bad = false → 0 ≤ x.1 ∧ x.1 ≤ 1048576) :
    EvP (fun k => spec_l2List.l1 x k [] b (p : Int) bad 0) (fun s => Rd (fun l => l.flatMap enc) (fun l => l.length = x.1.toNat ∧ ∀ y ∈ l, okP y) b p bad s) := by
  cases bad with
  | true =>
    refine EvP.succ ?_
    simp only [spec_l2List.l1]
    exact EvP.ifF (by simp) (EvP.ret ⟨rfl, p, rfl, hp, fun _ => rfl, (fun h => by cases h), fun h => by cases h⟩)
  | false =>
  obtain ⟨h0, h1⟩ := h0 rfl
  refine for_up (fun k (s : List Int × List Int × Int × Bool) i => spec_l2List.l1 x k s.1 s.2.1 s.2.2.1 s.2.2.2 i) x.1.toNat (fun i s => s.2.1 = b ∧ s.1.length = i ∧ ∃ q : Nat, s.2.2.1 = (q : Int) ∧ RdL enc okP b p false x.1.toNat i s.1 q s.2.2.2) _ ?_ ?_ (i := 0) (s := ([], b, (p : Int), false)) (Nat.zero_le _) ⟨rfl, rfl, p, rfl, RdL.zero hp⟩
  · intro i s hi hI ih
    obtain ⟨e1, e2, q, e3, e4⟩ := hI
    obtain ⟨s4, s1, s2, s3⟩ := s
    dsimp only at e1 e2 e3 e4
    subst e1; subst e3
    simp only [spec_l2List.l1]
    cases s3 with
    | true => exact EvP.ifF (by simp) (EvP.ret (e4.done (Or.inr rfl)))
    | false =>
      refine EvP.ifT (by simp; omega) (EvP.bind (next_ev hw hl e4.1 false) fun r hr => EvP.ifT (by omega) ?_)
      obtain ⟨f1, q', f2, f3⟩ := e4.step hi hr
      rw [w64_succ hi (by omega)]
      exact ih (s4 ++ [r.1], r.2.1, r.2.2.1, r.2.2.2) ⟨f1, by simp [e2], q', f2, f3⟩
  · intro s hI
    obtain ⟨e1, e2, q, e3, e4⟩ := hI
    obtain ⟨s4, s1, s2, s3⟩ := s
    dsimp only at e1 e2 e3 e4
    subst e1; subst e3
    simp only [spec_l2List.l1]
    refine EvP.ifF ?_ (EvP.ret (e4.done (Or.inl rfl)))
    have : decide (((x.1.toNat : Nat) : Int) < x.1) = false := decide_eq_false (by omega)
    rw [this]; simp
theorem list_ev {b : List Int} {p : Nat} (hw : wfB b) (hl : b.length ≤ 1048576) (hp : p ≤ b.length) (bad : Bool) (max : Nat) (hm : max ≤ 1048576) :
    EvP (fun k => spec_l2List.f k b (p : Int) bad (max : Int)) (Rd encL (fun l => l.length ≤ max ∧ ∀ y ∈ l, okP y) b p bad) := by
  unfold spec_l2List.f
  refine EvP.bind (next_ev hw hl hp bad) fun x hx => ?_
  simp only [sin_eq, Option.bind_some]
  obtain ⟨a1, q, a2, a3, a4, a5, a6⟩ := hx
  refine EvP.bind1 (a := !inB x.1 0 (max : Int) || x.2.2.2) (or_ev fun _ => EvP.ret rfl) ?_
  unfold spec_l2List.c2 spec_l2List.c1
  rw [a1, a2]
  have hok : ∀ v : Int, 0 ≤ v ∧ v ≤ (max : Int) → okP v := fun v hv => by
    show okI v = true
    simp [okI]; omega
  have hx2 : Rd enc (fun n => 0 ≤ n ∧ n ≤ (max : Int)) b p bad (x.1, b, (q : Int), (!inB x.1 0 (max : Int) || x.2.2.2)) := by
    refine ⟨rfl, q, rfl, a3, fun h => by rw [a4 h]; simp, fun h => ?_, fun hb v t hv ht => ?_⟩
    · simp only [Bool.or_eq_false_iff, Bool.not_eq_false'] at h
      have h1 : 0 ≤ x.1 ∧ x.1 ≤ (max : Int) := by simpa [inB] using h.1
      exact ⟨h1, (a5 h.2).2⟩
    · obtain ⟨c1, c2, c3⟩ := a6 hb v t (hok v hv) ht
      refine ⟨?_, c2, c3⟩
      dsimp only at hv
      rw [c1, c2]
      simp [inB]; omega
  refine EvP.bind (list_loop hw hl a3 (!inB x.1 0 (max : Int) || x.2.2.2) x fun h => ?_) fun s hs => EvP.ret ?_
  · simp only [Bool.or_eq_false_iff, Bool.not_eq_false'] at h
    have h1 : 0 ≤ x.1 ∧ x.1 ≤ (max : Int) := by simpa [inB] using h.1
    omega
  · exact hx2.list fun p' e _ => by
      have : q = p' := by
        change (q : Int) = _ at e
        omega
      subst this
      exact hs
theorem sGetObj_ev {c : List Int} (hw : wfB c) (hl : c.length ≤ 1048576) : EvP (fun k => spec_GetObj.f k c) (GoodObj c) := by
  unfold spec_GetObj.f
  refine EvP.bind (next_ev (p := 0) hw hl (Nat.zero_le _) false) fun r1 h1 => ?_
  obtain ⟨a1, p1, a2, a3⟩ := h1.at_
  rw [a1, a2]
  refine EvP.bind (list_ev hw hl a3 r1.2.2.2 5 (by omega)) fun r2 h2 => ?_
  obtain ⟨b1, p2, b2, b3⟩ := h2.at_
  rw [b1, b2]
  refine EvP.bind (list_ev hw hl b3 r2.2.2.2 5 (by omega)) fun r3 h3 => ?_
  have R3 := Rd.seq (r2 := r3) (e2 := encL) (o2 := fun l => l.length ≤ 5 ∧ ∀ y ∈ l, okP y) (fun (v : Int × List Int) w => (⟨v.1, v.2, w⟩ : TObj)) encObj oObj (h1.pair a2 h2) (fun p' e _ => by
    change r2.2.2.1 = _ at e
    have : p2 = p' := by omega
    subst this; exact h3) (fun v w hv hw => ⟨⟨hv, hw⟩, rfl⟩) fun c hc => ⟨(c.Kind, c.Ints), c.Refs, rfl, hc.1, hc.2⟩
  change Rd encObj oObj c 0 false ((⟨r1.1, r2.1, r3.1⟩ : TObj), r3.2) at R3
  unfold spec_GetObj.c2
  generalize ho : (⟨r1.1, r2.1, r3.1⟩ : TObj) = o at R3 ⊢
  obtain ⟨-, q, d2, d3, d4, d5, d6⟩ := R3
  dsimp only at d5 d6
  rw [List.drop_zero] at d5 d6
  unfold spec_GetObj.c1
  rw [ho]
  have no : (r3.2.2.2 = true ∨ objB o = false ∨ encObj o ≠ c) → GoodObj c (zeroObj, false) := by
    intro hn
    refine ⟨fun h => (by cases h), fun _ => rfl, fun v hv hc => ?_⟩
    obtain ⟨k1, k2, k3⟩ := d6 rfl v [] (objB_ok hv) (by rw [List.append_nil]; exact hc)
    rw [k1, k2, hv] at hn
    rcases hn with hn | hn | hn
    · cases hn
    · cases hn
    · exact absurd hc.symm hn
  cases hb : r3.2.2.2 with
  | true => exact EvP.bind1 (EvP.ifT rfl (EvP.ret rfl)) (EvP.bind1 (EvP.ifT rfl (EvP.ret rfl)) (EvP.ifT rfl (EvP.ret (no (Or.inl hb)))))
  | false =>
    obtain ⟨k1, k2⟩ := d5 hb
    refine EvP.bind1 (a := !objB o) (EvP.ifF (by simp) (EvP.bind1 (sObjOk_ev (objB_g k1)) (EvP.ret rfl))) ?_
    cases hob : objB o with
    | false => exact EvP.bind1 (EvP.ifT rfl (EvP.ret rfl)) (EvP.ifT rfl (EvP.ret (no (Or.inr (Or.inl hob)))))
    | true =>
      have hlen := obj_len k1
      refine EvP.bind1 (a := !decide (encObj o = c)) (EvP.ifF (by simp) (EvP.bind1 (a := encObj o) ((sputObj_ev (objB_g k1)).mono fun r hr => by rw [hr, if_pos hob]) (EvP.bind1 (same_ev _ _ hl) (EvP.ret rfl)))) ?_
      by_cases hc : encObj o = c
      · rw [decide_eq_true hc]
        refine EvP.ifF (by simp) (EvP.ret ⟨fun _ => ⟨hob, hc.symm⟩, fun h => (by cases h), fun v hv hvc => ?_⟩)
        obtain ⟨k1, k2, k3⟩ := d6 rfl v [] (objB_ok hv) (by rw [List.append_nil]; exact hvc)
        rw [k2]
      · rw [decide_eq_false hc]
        exact EvP.ifT rfl (EvP.ret (no (Or.inr (Or.inr hc))))
theorem sslot_ev {b : List Int} {p : Nat} (hw : wfB b) (hl : b.length ≤ 1048576) (hp : p ≤ b.length) (bad : Bool) : EvP (fun k => spec_l3NextSlot.f k b (p : Int) bad) (Rd encSlot slotP b p bad) := by
  unfold spec_l3NextSlot.f
  refine EvP.bind (next_ev hw hl hp bad) fun x hx => ?_
  have hk : ∀ n : Int, 0 ≤ n → n ≤ (b.length : Int) → okP n := fun n h1 h2 => by show okI n = true; simp [okI]; omega
  obtain ⟨a1, q, a2, a3⟩ := hx.at_
  rw [a1, a2]
  refine EvP.iteD (fun h => EvP.ret (slotA hx hk a2 h)) fun h => ?_
  simp only [Bool.or_eq_false_iff, decide_eq_false_iff_not] at h
  obtain ⟨h1, h2⟩ := h
  have hr : -1000000000000 ≤ x.1 ∧ x.1 ≤ 1000000000000 := by
    obtain ⟨_, _, _, _, _, a5, _⟩ := hx
    have : okI x.1 = true := (a5 h1).1
    simpa [okI] using this
  rw [w64_id (n := (b.length : Int) - (q : Int)) (by omega) (by omega)]
  refine EvP.bind1 (a := decide (x.1 < 0) || decide ((b.length : Int) - (q : Int) < x.1)) (or_ev fun _ => EvP.ret rfl) ?_
  unfold spec_l3NextSlot.c2 spec_l3NextSlot.c1
  rw [a1, a2, w64_id (n := (q : Int) + x.1) (by omega) (by omega)]
  refine EvP.iteD (fun h => EvP.ret ?_) fun h => ?_
  · simp only [Bool.or_eq_true, decide_eq_true_eq] at h
    exact slotBd hx hk a2 h2 h _
  · simp only [Bool.or_eq_false_iff, decide_eq_false_iff_not] at h
    obtain ⟨n, hn⟩ : ∃ n : Nat, x.1 = (n : Int) := ⟨x.1.toNat, by omega⟩
    have e : (q : Int) + x.1 = ((q + n : Nat) : Int) := by omega
    rw [e]
    refine EvP.bind (Q := fun y => GoodObj (cut b (q : Int) ((q + n : Nat) : Int)) (⟨y.1, y.2.1, y.2.2.1⟩, y.2.2.2)) (EvP.ifT (by omega) (EvP.bind (sGetObj_ev ?_ ?_) fun r hr => EvP.ret hr)) fun y hy => ?_
    · intro z hz; exact hw z (List.mem_of_mem_take (List.mem_of_mem_drop hz))
    · unfold cut; rw [List.length_drop, List.length_take]; omega
    · obtain ⟨c1, c2⟩ := slotC hx hk a2 hn h1 (by omega) (by omega) hy
      refine EvP.ret ?_
      cases hy2 : y.2.2.2 with
      | true => exact c1 hy2
      | false => exact c2 hy2 _ _ (by omega)
end Go.Proofs.Ytocknibhajihmaa
