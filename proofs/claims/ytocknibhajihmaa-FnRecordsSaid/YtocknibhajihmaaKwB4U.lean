/- What the program's GetRec reads. Conditions: none. -/
import Derived.Test.YtocknibhajihmaaKwB4S
set_option linter.unusedVariables false
set_option linter.unusedSimpArgs false
namespace Go.Proofs.Ytocknibhajihmaa
open Go.Kw

def encLive (t : TLive) : List Int := (enc t.Tx ++ enc t.Last) ++ enc (if t.Aborts = true then 1 else 0)
def okLive (t : TLive) : Prop := okP t.Tx ∧ okP t.Last
def encLs (l : List TLive) : List Int := enc (l.length : Int) ++ l.flatMap encLive
def encRec (r : TRec) : List Int := (((((((enc r.Lsn ++ enc r.Tx) ++ enc r.Prev) ++ enc r.Kind) ++ enc r.Oid) ++ enc r.Next) ++ encSlot r.Before) ++ encSlot r.After) ++ encLs r.Txs
def oHead (r : TRec) : Prop := ((((((okP r.Lsn ∧ okP r.Tx) ∧ okP r.Prev) ∧ okP r.Kind) ∧ okP r.Oid) ∧ okP r.Next) ∧ slotP r.Before) ∧ slotP r.After
def oRec (r : TRec) : Prop := oHead r ∧ (r.Txs.length ≤ 20 ∧ ∀ y ∈ r.Txs, okLive y)
def toRec (v : ((((((Int × Int) × Int) × Int) × Int) × Int) × TSlot) × TSlot) (w : List TLive) : TRec := ⟨v.1.1.1.1.1.1.1, v.1.1.1.1.1.1.2, v.1.1.1.1.1.2, v.1.1.1.1.2, v.1.1.1.2, v.1.2, v.2, v.1.1.2, w⟩
def zeroRec : TRec := ⟨0, 0, 0, 0, 0, zeroSlot, zeroSlot, 0, []⟩
theorem w64_top (n : Int) (h : inB n 1 1000000 = true) : w64 (n - 1) ≤ 1000000 := by
  simp [inB] at h
  rw [w64_id (by omega) (by omega)]; omega
theorem lives_ok {xs : List TLive} {lsn : Int} (h : livesB xs lsn = true) (hl : inB lsn 1 1000000 = true) : xs.length ≤ 20 ∧ ∀ y ∈ xs, okLive y := by
  unfold livesB at h
  simp only [Bool.and_eq_true, decide_eq_true_eq, List.all_eq_true] at h
  refine ⟨by omega, fun y hy => ?_⟩
  obtain ⟨i, hi, rfl⟩ := List.getElem_of_mem hy
  have := h.1 i (List.mem_range.2 hi)
  unfold LiveAt at this
  rw [rd_eq hi] at this
  simp only [Bool.and_eq_true] at this
  have := w64_top lsn hl
  exact ⟨inB_ok (by simp_all) (lo := 1) (hi := 1000) (by omega) (by omega), inB_ok (lo := 1) (hi := w64 (lsn - 1)) (by simp_all) (by omega) (by omega)⟩
theorem ok0 : okP 0 := rfl
theorem recB_ok {r : TRec} (h : recB r = true) : oRec r := by
  unfold recB at h
  simp only [Bool.and_eq_true] at h
  obtain ⟨⟨h1, h2, h3⟩, h4⟩ := h
  have hl : okP r.Lsn := inB_ok h1 (by omega) (by omega)
  have ht := w64_top r.Lsn h1
  have emp : ∀ l : List TLive, (l.length : Int) = 0 → l.length ≤ 20 ∧ ∀ y ∈ l, okLive y := fun l hl => by
    rw [List.eq_nil_of_length_eq_zero (by omega : l.length = 0)]
    exact ⟨by simp, fun y hy => by cases hy⟩
  have kd : ∀ n : Int, r.Kind = n → okP n → okP r.Kind := fun n e h => by rw [e]; exact h
  by_cases k6 : r.Kind = 6
  · rw [if_pos (by simpa using k6)] at h4
    simp only [Bool.and_eq_true, decide_eq_true_eq] at h4
    obtain ⟨⟨⟨⟨a1, a2⟩, ⟨a3, a4⟩, a5⟩, a6⟩, a7⟩ := h4
    refine ⟨⟨⟨⟨⟨⟨⟨⟨hl, ?_⟩, ?_⟩, kd 6 k6 rfl⟩, ?_⟩, ?_⟩, h2⟩, h3⟩, lives_ok a7 h1⟩
    · rw [a1]; exact ok0
    · rw [a2]; exact ok0
    · rw [a3]; exact ok0
    · rw [a6]; exact ok0
  · rw [if_neg (by simpa using k6)] at h4
    simp only [Bool.and_eq_true, decide_eq_true_eq] at h4
    obtain ⟨⟨⟨a1, a2⟩, a3⟩, a4⟩ := h4
    have hrest : okP r.Kind ∧ okP r.Oid ∧ okP r.Next := by
      by_cases k1 : r.Kind = 1
      · rw [if_pos k1] at a4
        simp only [Bool.and_eq_true, decide_eq_true_eq] at a4
        exact ⟨kd 1 k1 rfl, inB_ok a4.1 (by omega) (by omega), by rw [a4.2]; exact ok0⟩
      · rw [if_neg k1] at a4
        by_cases k4 : r.Kind = 4
        · rw [if_pos k4] at a4
          simp only [Bool.and_eq_true, decide_eq_true_eq] at a4
          exact ⟨kd 4 k4 rfl, inB_ok a4.1.1 (by omega) (by omega), inB_ok a4.2 (by omega) (by omega)⟩
        · rw [if_neg k4] at a4
          simp only [Bool.and_eq_true, Bool.or_eq_true, decide_eq_true_eq] at a4
          obtain ⟨⟨b1, ⟨b2, b3⟩, b4⟩, b5⟩ := a4
          refine ⟨?_, by rw [b2]; exact ok0, by rw [b5]; exact ok0⟩
          rcases b1 with (b1 | b1) | b1
          · exact kd 2 b1 rfl
          · exact kd 3 b1 rfl
          · exact kd 5 b1 rfl
    exact ⟨⟨⟨⟨⟨⟨⟨⟨hl, inB_ok a1 (by omega) (by omega)⟩, inB_ok a2 (by omega) (by omega)⟩, hrest.1⟩, hrest.2.1⟩, hrest.2.2⟩, h2⟩, h3⟩, emp _ a3⟩
theorem slotP_g {s : TSlot} (h : slotP s) : gSlot s := by
  cases hh : s.Has with
  | true => exact ⟨objB_g (objB_ok (slotP_some h hh)), trivial⟩
  | false => rw [slotP_none h hh]; exact zeroSlot_z
theorem oRec_g {r : TRec} (h : oRec r) : gRec r := ⟨slotP_g h.1.1.2, slotP_g h.1.2, by have := h.2.1; omega, trivial⟩
def GoodRec (b : List Int) (r : TRec × Bool) : Prop :=
  (r.2 = true → recB r.1 = true ∧ b = encRec r.1) ∧ (r.2 = false → r.1 = zeroRec) ∧ (∀ v, recB v = true → b = encRec v → r = (v, true))
theorem GoodRec.eq {b : List Int} {r s : TRec × Bool} (h : GoodRec b r) (k : GoodRec b s) : r = s := by
  cases hr : r.2 with
  | true =>
    obtain ⟨h1, h2⟩ := h.1 hr
    rw [k.2.2 _ h1 h2, ← hr]
  | false =>
    cases hs : s.2 with
    | true =>
      obtain ⟨h1, h2⟩ := k.1 hs
      have := h.2.2 _ h1 h2
      rw [this] at hr; cases hr
    | false =>
      have h1 := h.2.1 hr
      have h2 := k.2.1 hs
      obtain ⟨r1, r2⟩ := r
      obtain ⟨s1, s2⟩ := s
      dsimp only at hr hs h1 h2
      rw [hr, hs, h1, h2]
theorem live_rd {b : List Int} {p q1 q2 : Nat} {bad : Bool} {r1 r2 r3 : Int × List Int × Int × Bool} (h1 : Rd enc okP b p bad r1) (e1 : r1.2.2.1 = (q1 : Int)) (h2 : Rd enc okP b q1 r1.2.2.2 r2) (e2 : r2.2.2.1 = (q2 : Int))
    (h3 : Rd enc (fun n => 0 ≤ n ∧ n ≤ ((1 : Nat) : Int)) b q2 r2.2.2.2 r3) : Rd encLive okLive b p bad ((⟨r1.1, r2.1, decide (r3.1 = 1)⟩ : TLive), r3.2) := by
  refine Rd.seq (r1 := ((r1.1, r2.1), r2.2)) (r2 := r3) (e1 := fun v : Int × Int => enc v.1 ++ enc v.2) (o1 := fun v => okP v.1 ∧ okP v.2) (e2 := enc) (o2 := fun n => 0 ≤ n ∧ n ≤ ((1 : Nat) : Int)) (γ := TLive) (fun v w => ⟨v.1, v.2, decide (w = 1)⟩) encLive okLive (h1.pair e1 h2) (fun p' e _ => by
    change r2.2.2.1 = _ at e
    have : q2 = p' := by omega
    subst this; exact h3) (fun v w hv hw => ⟨hv, ?_⟩) fun c hc => ⟨(c.Tx, c.Last), if c.Aborts = true then 1 else 0, ?_, hc, ?_⟩
  · unfold encLive
    dsimp only
    have : (if decide (w = 1) = true then (1 : Int) else 0) = w := by
      have hw := hw
      by_cases hw1 : w = 1
      · simp [hw1]
      · simp [hw1]; omega
    rw [this]
  · obtain ⟨t, l, a⟩ := c
    cases a <;> rfl
  · cases c.Aborts <;> simp
theorem lives_loop {b : List Int} {p : Nat} (hw : wfB b) (hl : b.length ≤ 1048576) (hp : p ≤ b.length) (bad : Bool) (x : Int × List Int × Int × Bool) (h0 : 0 ≤ x.1) (h1 : x.1 ≤ 1048576) :
    EvP (fun k => impl_GetRec.l1 x k b (p : Int) bad [] 0) (fun s => Rd (fun l => l.flatMap encLive) (fun l => l.length = x.1.toNat ∧ ∀ y ∈ l, okLive y) b p bad s) := by
  refine for_up (fun k (s : List Int × Int × Bool × List TLive) i => impl_GetRec.l1 x k s.1 s.2.1 s.2.2.1 s.2.2.2 i) x.1.toNat (fun i s => s.1 = b ∧ s.2.2.2.length = i ∧ ∃ q : Nat, s.2.1 = (q : Int) ∧ RdL encLive okLive b p bad x.1.toNat i s.2.2.2 q s.2.2.1) _ ?_ ?_ (i := 0) (s := (b, (p : Int), bad, [])) (Nat.zero_le _) ⟨rfl, rfl, p, rfl, RdL.zero hp⟩
  · intro i s hi hI ih
    obtain ⟨e1, e2, q, e3, e4⟩ := hI
    obtain ⟨s1, s2, s3, s4⟩ := s
    dsimp only at e1 e2 e3 e4
    subst e1; subst e3
    simp only [impl_GetRec.l1]
    refine EvP.ifT (by simp only [decide_eq_true_eq]; omega) (EvP.bind (one_ev hw hl e4.1 s3) fun r1 hr1 => ?_)
    obtain ⟨a1, q1, a2, a3⟩ := hr1.at_
    rw [a1, a2]
    refine EvP.bind (one_ev hw hl a3 r1.2.2.2) fun r2 hr2 => ?_
    obtain ⟨b1, q2, b2, b3⟩ := hr2.at_
    rw [b1, b2]
    refine EvP.bind (many_ev hw hl b3 r2.2.2.2 1 (by omega)) fun r3 hr3 => EvP.ifT (by omega) ?_
    obtain ⟨f1, q', f2, f3⟩ := e4.step hi (live_rd hr1 a2 hr2 b2 hr3.1)
    rw [w64_succ hi (by omega)]
    exact ih (r3.2.1, r3.2.2.1, r3.2.2.2, s4 ++ [⟨r1.1, r2.1, decide (r3.1 = 1)⟩]) ⟨f1, by simp [e2], q', f2, f3⟩
  · intro s hI
    obtain ⟨e1, e2, q, e3, e4⟩ := hI
    obtain ⟨s1, s2, s3, s4⟩ := s
    dsimp only at e1 e2 e3 e4
    subst e1; subst e3
    simp only [impl_GetRec.l1]
    exact EvP.ifF (by simp only [decide_eq_true_eq]; omega) (EvP.ret (e4.done (Or.inl rfl)))
theorem GetRec_ev {b : List Int} (hw : wfB b) (hl : b.length ≤ 1048576) : EvP (fun k => impl_GetRec.f k b) (GoodRec b) := by
  unfold impl_GetRec.f
  refine EvP.bind (one_ev (p := 0) hw hl (Nat.zero_le _) false) fun r1 h1 => ?_
  obtain ⟨a1, p1, c1, d1⟩ := h1.at_
  rw [a1, c1]
  refine EvP.bind (one_ev hw hl d1 r1.2.2.2) fun r2 h2 => ?_
  obtain ⟨a2, p2, c2, d2⟩ := h2.at_
  rw [a2, c2]
  refine EvP.bind (one_ev hw hl d2 r2.2.2.2) fun r3 h3 => ?_
  obtain ⟨a3, p3, c3, d3⟩ := h3.at_
  rw [a3, c3]
  refine EvP.bind (one_ev hw hl d3 r3.2.2.2) fun r4 h4 => ?_
  obtain ⟨a4, p4, c4, d4⟩ := h4.at_
  rw [a4, c4]
  refine EvP.bind (one_ev hw hl d4 r4.2.2.2) fun r5 h5 => ?_
  obtain ⟨a5, p5, c5, d5⟩ := h5.at_
  rw [a5, c5]
  refine EvP.bind (one_ev hw hl d5 r5.2.2.2) fun r6 h6 => ?_
  obtain ⟨a6, p6, c6, d6⟩ := h6.at_
  rw [a6, c6]
  refine EvP.bind (slot_ev hw hl d6 r6.2.2.2) fun r7 h7 => ?_
  obtain ⟨a7, p7, c7, d7⟩ := h7.at_
  rw [a7, c7]
  refine EvP.bind (slot_ev hw hl d7 r7.2.2.2) fun r8 h8 => ?_
  obtain ⟨a8, p8, c8, d8⟩ := h8.at_
  rw [a8, c8]
  have R8 := ((((((h1.pair c1 h2).pair c2 h3).pair c3 h4).pair c4 h5).pair c5 h6).pair c6 h7).pair c7 h8
  refine EvP.bind (Q := fun s => Rd encLs (fun l => l.length ≤ 20 ∧ ∀ y ∈ l, okLive y) b p8 r8.2.2.2 s) (EvP.bind (many_ev hw hl d8 r8.2.2.2 20 (by omega)) fun r hr => ?_) fun r9 h9 => ?_
  · obtain ⟨g1, g2, g3⟩ := hr
    obtain ⟨e1, q, e2, e3⟩ := g1.at_
    rw [e1, e2]
    refine (lives_loop hw hl e3 r.2.2.2 r g2 (by omega)).mono fun s hs => ?_
    refine g1.list fun p' e _ => ?_
    have : q = p' := by omega
    subst this
    exact hs
  have R9 := Rd.seq (r2 := r9) (e2 := encLs) (o2 := fun l => l.length ≤ 20 ∧ ∀ y ∈ l, okLive y) toRec encRec oRec R8 (fun p' e _ => by
    change r8.2.2.1 = _ at e
    have : p8 = p' := by omega
    subst this; exact h9) (fun v w hv hw => ⟨⟨hv, hw⟩, rfl⟩) fun c hc => ⟨(((((((c.Lsn, c.Tx), c.Prev), c.Kind), c.Oid), c.Next), c.Before), c.After), c.Txs, rfl, hc.1, hc.2⟩
  change Rd encRec oRec b 0 false ((⟨r1.1, r2.1, r3.1, r4.1, r5.1, (⟨r7.1.Has, (⟨r7.1.O.Kind, r7.1.O.Ints, r7.1.O.Refs⟩ : TObj)⟩ : TSlot), (⟨r8.1.Has, (⟨r8.1.O.Kind, r8.1.O.Ints, r8.1.O.Refs⟩ : TObj)⟩ : TSlot), r6.1, r9.1⟩ : TRec), r9.2) at R9
  unfold impl_GetRec.c2
  generalize ho : (⟨r1.1, r2.1, r3.1, r4.1, r5.1, (⟨r7.1.Has, (⟨r7.1.O.Kind, r7.1.O.Ints, r7.1.O.Refs⟩ : TObj)⟩ : TSlot), (⟨r8.1.Has, (⟨r8.1.O.Kind, r8.1.O.Ints, r8.1.O.Refs⟩ : TObj)⟩ : TSlot), r6.1, r9.1⟩ : TRec) = o at R9 ⊢
  obtain ⟨z1, q, z2, z3, z4, z5, z6⟩ := R9
  dsimp only at z1 z2 z5 z6
  rw [z1, z2]
  unfold impl_reader_done.f impl_reader_done.c1
  refine EvP.bind1 (a := (!r9.2.2.2 && decide ((q : Int) = (b.length : Int)), b, (q : Int), r9.2.2.2)) (EvP.bind1 (and_ev fun _ => EvP.ret rfl) (EvP.ret rfl)) ?_
  dsimp only
  rw [List.drop_zero] at z5 z6
  unfold impl_GetRec.c1
  have fin : ∀ z : Bool, z = (!r9.2.2.2 && decide ((q : Int) = (b.length : Int)) && recB o) → GoodRec b (if (!z) = true then (zeroRec, false) else (o, true)) := by
    intro z hz
    cases hz2 : z with
    | false =>
      rw [if_pos (by simp)]
      refine ⟨fun h => (by cases h), fun _ => rfl, fun v hv hc => ?_⟩
      obtain ⟨k1, k2, k3⟩ := z6 rfl v [] (recB_ok hv) (by rw [List.append_nil]; exact hc)
      rw [hz2, k1, k2, hv] at hz
      rw [k3, ← hc] at hz
      simp at hz
    | true =>
      rw [if_neg (by simp)]
      rw [hz2] at hz
      have hz := hz.symm
      simp only [Bool.and_eq_true, Bool.not_eq_true', decide_eq_true_eq] at hz
      obtain ⟨⟨y1, y2⟩, y3⟩ := hz
      obtain ⟨k1, k2⟩ := z5 y1
      refine ⟨fun _ => ⟨y3, ?_⟩, fun h => (by cases h), fun v hv hc => ?_⟩
      · rw [k2, List.drop_eq_nil_of_le (by omega), List.append_nil]
      · obtain ⟨k1, k2, k3⟩ := z6 rfl v [] (recB_ok hv) (by rw [List.append_nil]; exact hc)
        rw [k2]
  cases hd : (!r9.2.2.2 && decide ((q : Int) = (b.length : Int))) with
  | false =>
    refine EvP.bind1 (EvP.ifT rfl (EvP.ret rfl)) (EvP.ifT rfl (EvP.ret ?_))
    have := fin false (by rw [hd]; rfl)
    exact this
  | true =>
    simp only [Bool.and_eq_true, Bool.not_eq_true', decide_eq_true_eq] at hd
    have hk := z5 hd.1
    refine EvP.bind1 (EvP.ifF (by simp) (EvP.bind1 (RecOk_ev (oRec_g hk.1)) (EvP.ret rfl))) ?_
    have := fin (recB o) (by rw [hd.1, decide_eq_true hd.2]; simp)
    refine EvP.ite (fun h => EvP.ret ?_) fun h => EvP.ret ?_
    · rw [if_pos h] at this; exact this
    · rw [if_neg h] at this; rw [ho]; exact this
end Go.Proofs.Ytocknibhajihmaa
