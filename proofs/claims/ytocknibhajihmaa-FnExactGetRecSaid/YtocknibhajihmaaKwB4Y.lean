/- What the reference's GetRec reads. Conditions: none. -/
import Derived.Test.YtocknibhajihmaaKwB4X
set_option linter.unusedVariables false
set_option linter.unusedSimpArgs false
namespace Go.Proofs.Ytocknibhajihmaa
open Go.Kw

def toLive (v : (Int × Int) × Int) : TLive := ⟨v.1.1, v.1.2, decide (v.2 = 1)⟩
def ofLive (t : TLive) : (Int × Int) × Int := ((t.Tx, t.Last), if t.Aborts = true then 1 else 0)
def enc3 (v : (Int × Int) × Int) : List Int := (enc v.1.1 ++ enc v.1.2) ++ enc v.2
def ok3 (v : (Int × Int) × Int) : Prop := (okP v.1.1 ∧ okP v.1.2) ∧ okP v.2
theorem toLive_of (t : TLive) : toLive (ofLive t) = t := by
  obtain ⟨a, b, c⟩ := t
  cases c <;> rfl
theorem ofLive_ok {t : TLive} (h : okLive t) : ok3 (ofLive t) := ⟨h, by unfold ofLive; cases t.Aborts <;> rfl⟩
theorem ofLive_enc (t : TLive) : enc3 (ofLive t) = encLive t := rfl
theorem slives_loop {b : List Int} {p : Nat} (hw : wfB b) (hl : b.length ≤ 1048576) (hp : p ≤ b.length) (bad : Bool) (x : Int × List Int × Int × Bool) :
    EvP (fun k => spec_GetRec.l1 x k b (p : Int) bad [] 0) (fun s => s.1 = b ∧ ∃ (raw : List ((Int × Int) × Int)) (q : Nat), s.2.2.2 = raw.map toLive ∧ raw.length ≤ 30 ∧ (bad = true → s.2.2.1 = true) ∧
      (x.1 ≤ 30 → Rd (fun l => l.flatMap enc3) (fun l => l.length = x.1.toNat ∧ ∀ y ∈ l, ok3 y) b p bad (raw, b, (q : Int), s.2.2.1))) := by
  refine for_up (fun k (s : List Int × Int × Bool × List TLive) i => spec_GetRec.l1 x k s.1 s.2.1 s.2.2.1 s.2.2.2 i) (min x.1.toNat 30) (fun i s => s.1 = b ∧ ∃ (raw : List ((Int × Int) × Int)) (q : Nat), s.2.2.2 = raw.map toLive ∧ raw.length = i ∧ s.2.1 = (q : Int) ∧ RdL enc3 ok3 b p bad x.1.toNat i raw q s.2.2.1) _ ?_ ?_ (i := 0) (s := (b, (p : Int), bad, [])) (Nat.zero_le _) ⟨rfl, [], p, rfl, rfl, rfl, RdL.zero hp⟩
  · intro i s hi hI ih
    obtain ⟨e1, raw, q, e2, e5, e3, e4⟩ := hI
    obtain ⟨s1, s2, s3, s4⟩ := s
    dsimp only at e1 e2 e3 e4
    subst e1; subst e3
    simp only [spec_GetRec.l1]
    cases s3 with
    | true => exact EvP.ifF (by simp) (EvP.ret ⟨rfl, raw, q, e2, by omega, fun _ => rfl, fun _ => e4.done (Or.inr rfl)⟩)
    | false =>
      refine EvP.ifT (by simp; omega) (EvP.bind (next_ev hw hl e4.1 false) fun r1 hr1 => ?_)
      obtain ⟨a1, q1, a2, a3⟩ := hr1.at_
      rw [a1, a2]
      refine EvP.bind (next_ev hw hl a3 r1.2.2.2) fun r2 hr2 => ?_
      obtain ⟨b1, q2, b2, b3⟩ := hr2.at_
      rw [b1, b2]
      refine EvP.bind (next_ev hw hl b3 r2.2.2.2) fun r3 hr3 => EvP.ifT (by rw [e2, List.length_map]; omega) ?_
      have R3 := (hr1.pair a2 hr2).pair b2 hr3
      obtain ⟨f1, q', f2, f3⟩ := e4.step (by omega) R3
      rw [w64_succ hi (by omega)]
      refine ih (r3.2.1, r3.2.2.1, r3.2.2.2, s4 ++ [⟨r1.1, r2.1, decide (r3.1 = 1)⟩]) ⟨f1, raw ++ [((r1.1, r2.1), r3.1)], q', ?_, by simp [e5], f2, f3⟩
      show s4 ++ _ = _
      rw [e2, List.map_append]; rfl
  · intro s hI
    obtain ⟨e1, raw, q, e2, e5, e3, e4⟩ := hI
    obtain ⟨s1, s2, s3, s4⟩ := s
    dsimp only at e1 e2 e3 e4
    subst e1; subst e3
    simp only [spec_GetRec.l1]
    refine EvP.ifF ?_ (EvP.ret ⟨rfl, raw, q, e2, by omega, e4.2.1, fun h => e4.done (Or.inl (by omega))⟩)
    have : (decide (((min x.1.toNat 30 : Nat) : Int) < x.1) && decide (((min x.1.toNat 30 : Nat) : Int) < 30)) = false := by
      rw [Bool.and_eq_false_iff, decide_eq_false_iff_not, decide_eq_false_iff_not]; omega
    rw [this]; simp
theorem sGetRec_ev {b : List Int} (hw : wfB b) (hl : b.length ≤ 1048576) : EvP (fun k => spec_GetRec.f k b) (GoodRec b) := by
  unfold spec_GetRec.f
  refine EvP.bind (next_ev (p := 0) hw hl (Nat.zero_le _) false) fun r1 h1 => ?_
  obtain ⟨a1, p1, c1, d1⟩ := h1.at_
  rw [a1, c1]
  refine EvP.bind (next_ev hw hl d1 r1.2.2.2) fun r2 h2 => ?_
  obtain ⟨a2, p2, c2, d2⟩ := h2.at_
  rw [a2, c2]
  refine EvP.bind (next_ev hw hl d2 r2.2.2.2) fun r3 h3 => ?_
  obtain ⟨a3, p3, c3, d3⟩ := h3.at_
  rw [a3, c3]
  refine EvP.bind (next_ev hw hl d3 r3.2.2.2) fun r4 h4 => ?_
  obtain ⟨a4, p4, c4, d4⟩ := h4.at_
  rw [a4, c4]
  refine EvP.bind (next_ev hw hl d4 r4.2.2.2) fun r5 h5 => ?_
  obtain ⟨a5, p5, c5, d5⟩ := h5.at_
  rw [a5, c5]
  refine EvP.bind (next_ev hw hl d5 r5.2.2.2) fun r6 h6 => ?_
  obtain ⟨a6, p6, c6, d6⟩ := h6.at_
  rw [a6, c6]
  refine EvP.bind (sslot_ev hw hl d6 r6.2.2.2) fun r7 h7 => ?_
  obtain ⟨a7, p7, c7, d7⟩ := h7.at_
  rw [a7, c7]
  refine EvP.bind (sslot_ev hw hl d7 r7.2.2.2) fun r8 h8 => ?_
  obtain ⟨a8, p8, c8, d8⟩ := h8.at_
  rw [a8, c8]
  refine EvP.bind (next_ev hw hl d8 r8.2.2.2) fun r9 h9 => ?_
  obtain ⟨a9, p9, c9, d9⟩ := h9.at_
  rw [a9, c9]
  have R9 := (((((((h1.pair c1 h2).pair c2 h3).pair c3 h4).pair c4 h5).pair c5 h6).pair c6 h7).pair c7 h8).pair c8 h9
  refine EvP.bind (slives_loop hw hl d9 r9.2.2.2 r9) fun s hs => ?_
  obtain ⟨k1, raw, q, k2, k3, k4, k5⟩ := hs
  unfold spec_GetRec.c3
  have comp : ∀ v, recB v = true → b = encRec v → s.2.2.1 = false ∧ (⟨r1.1, r2.1, r3.1, r4.1, r5.1, r7.1, r8.1, r6.1, s.2.2.2⟩ : TRec) = v := by
    intro v hv hb
    obtain ⟨o1, o2, o3⟩ := recB_ok hv
    obtain ⟨_, q9, z2, _, _, _, z6⟩ := R9
    have hd : b.drop 0 = (((((((((enc v.Lsn ++ enc v.Tx) ++ enc v.Prev) ++ enc v.Kind) ++ enc v.Oid) ++ enc v.Next) ++ encSlot v.Before) ++ encSlot v.After) ++ enc (v.Txs.length : Int)) ++ (v.Txs.map ofLive).flatMap enc3) ++ [] := by
      rw [List.drop_zero, hb]
      unfold encRec encLs
      have : (v.Txs.map ofLive).flatMap enc3 = v.Txs.flatMap encLive := by rw [List.flatMap_map]; rfl
      rw [this]
      simp only [List.append_assoc, List.append_nil]
    rw [List.append_assoc] at hd
    obtain ⟨y1, y2, y3⟩ := z6 rfl ((((((((v.Lsn, v.Tx), v.Prev), v.Kind), v.Oid), v.Next), v.Before), v.After), (v.Txs.length : Int)) _ ⟨o1, ok_nat (by omega)⟩ hd
    have hd2 := drop_app hd
    rw [← y3] at hd2
    have hq : q9 = p9 := by change r9.2.2.1 = _ at z2; omega
    subst hq
    have y1 : r9.2.2.2 = false := y1
    simp only [Prod.mk.injEq] at y2
    obtain ⟨⟨⟨⟨⟨⟨⟨⟨w1, w2⟩, w3⟩, w4⟩, w5⟩, w6⟩, w7⟩, w8⟩, w9⟩ := y2
    obtain ⟨_, q10, _, _, _, _, x6⟩ := k5 (by omega)
    obtain ⟨g1, g2, g3⟩ := x6 y1 (v.Txs.map ofLive) [] ⟨by rw [List.length_map, w9]; omega, fun y hy => by
      obtain ⟨t, ht, rfl⟩ := List.mem_map.1 hy
      exact ofLive_ok (o3 t ht)⟩ hd2
    refine ⟨g1, ?_⟩
    have g2 : raw = v.Txs.map ofLive := g2
    have : raw.map toLive = v.Txs := by
      rw [g2, List.map_map]
      have : toLive ∘ ofLive = id := funext toLive_of
      rw [this, List.map_id]
    rw [k2, this, w1, w2, w3, w4, w5, w6, w7, w8]
  have gr : s.2.2.1 = false → gRec (⟨r1.1, r2.1, r3.1, r4.1, r5.1, r7.1, r8.1, r6.1, s.2.2.2⟩ : TRec) := by
    intro h
    have hb9 : r9.2.2.2 = false := by
      cases hx : r9.2.2.2 with
      | false => rfl
      | true => rw [k4 hx] at h; cases h
    obtain ⟨_, q9, _, _, _, z5, _⟩ := R9
    obtain ⟨⟨o1, o2⟩, _⟩ := z5 hb9
    refine ⟨slotP_g o1.1.2, slotP_g o1.2, ?_, trivial⟩
    show s.2.2.2.length ≤ _
    rw [k2, List.length_map]; omega
  change EvP (fun k => ((if s.2.2.1 = true then (some true) else ((spec_RecOk.f k (⟨r1.1, r2.1, r3.1, r4.1, r5.1, r7.1, r8.1, r6.1, s.2.2.2⟩ : TRec)).bind fun x19 => (some (!x19))) : Option Bool).bind fun x20 => ((if x20 = true then (some true) else ((spec_PutRec.f k (⟨r1.1, r2.1, r3.1, r4.1, r5.1, r7.1, r8.1, r6.1, s.2.2.2⟩ : TRec)).bind fun x13 => ((spec_l2Same.f k x13 b).bind fun x14 => (some (!x14)))) : Option Bool).bind fun x15 => (if x15 = true then some (zeroRec, false) else (some ((⟨r1.1, r2.1, r3.1, r4.1, r5.1, r7.1, r8.1, r6.1, s.2.2.2⟩ : TRec), true)) : Option (TRec × Bool))))) (GoodRec b)
  generalize (⟨r1.1, r2.1, r3.1, r4.1, r5.1, r7.1, r8.1, r6.1, s.2.2.2⟩ : TRec) = o at comp gr ⊢
  have no : (s.2.2.1 = true ∨ recB o = false ∨ encRec o ≠ b) → GoodRec b (zeroRec, false) := by
    intro hn
    refine ⟨fun h => (by cases h), fun _ => rfl, fun v hv hc => ?_⟩
    obtain ⟨k1, k2⟩ := comp v hv hc
    rw [k1, k2, hv] at hn
    rcases hn with hn | hn | hn
    · cases hn
    · cases hn
    · exact absurd hc.symm hn
  cases hb : s.2.2.1 with
  | true => exact EvP.bind1 (EvP.ifT rfl (EvP.ret rfl)) (EvP.bind1 (EvP.ifT rfl (EvP.ret rfl)) (EvP.ifT rfl (EvP.ret (no (Or.inl hb)))))
  | false =>
    have hg := gr hb
    refine EvP.bind1 (a := !recB o) (EvP.ifF (by simp) (EvP.bind1 (sRecOk_ev hg) (EvP.ret rfl))) ?_
    cases hob : recB o with
    | false => exact EvP.bind1 (EvP.ifT rfl (EvP.ret rfl)) (EvP.ifT rfl (EvP.ret (no (Or.inr (Or.inl hob)))))
    | true =>
      refine EvP.bind1 (a := !decide (encRec o = b)) (EvP.ifF (by simp) (EvP.bind1 (a := encRec o) ((sputRec_ev hg).mono fun r hr => by rw [hr, if_pos hob]) (EvP.bind1 (same_ev _ _ hl) (EvP.ret rfl)))) ?_
      by_cases hc : encRec o = b
      · rw [decide_eq_true hc]
        refine EvP.ifF (by simp) (EvP.ret ⟨fun _ => ⟨hob, hc.symm⟩, fun h => (by cases h), fun v hv hvc => ?_⟩)
        obtain ⟨k1, k2⟩ := comp v hv hvc
        rw [k2]
      · rw [decide_eq_false hc]
        exact EvP.ifT rfl (EvP.ret (no (Or.inr (Or.inr hc))))
end Go.Proofs.Ytocknibhajihmaa
