/- The plain law: a record comes back of its bytes; cut, it is none. Conditions: none. -/
import Derived.Test.YtocknibhajihmaaKwB4W
import Derived.Test.YtocknibhajihmaaKwB4H
set_option linter.unusedVariables false
set_option linter.unusedSimpArgs false
namespace Go.Proofs.Ytocknibhajihmaa
open Go.Kw

/-- No item's bytes begin another's. -/
def Pf {α : Type} (e : α → List Int) (ok : α → Prop) : Prop := ∀ v w s t, ok v → ok w → e v ++ s = e w ++ t → v = w ∧ s = t
theorem Pf.enc : Pf enc okP := by
  intro v w s t hv hw h
  have h1 := dec_enc hv s
  rw [h, dec_enc hw t] at h1
  cases h1
  exact ⟨rfl, List.append_cancel_left h⟩
theorem Pf.pair {α β : Type} {e1 : α → List Int} {o1 : α → Prop} {e2 : β → List Int} {o2 : β → Prop} (h1 : Pf e1 o1) (h2 : Pf e2 o2) : Pf (fun v : α × β => e1 v.1 ++ e2 v.2) (fun v => o1 v.1 ∧ o2 v.2) := by
  intro v w s t hv hw h
  dsimp only at h
  rw [List.append_assoc, List.append_assoc] at h
  obtain ⟨a1, a2⟩ := h1 _ _ _ _ hv.1 hw.1 h
  obtain ⟨b1, b2⟩ := h2 _ _ _ _ hv.2 hw.2 a2
  exact ⟨Prod.ext a1 b1, b2⟩
theorem Pf.items {α : Type} {e : α → List Int} {o : α → Prop} (h1 : Pf e o) : ∀ (v w : List α) (s t : List Int), v.length = w.length → (∀ x ∈ v, o x) → (∀ x ∈ w, o x) → v.flatMap e ++ s = w.flatMap e ++ t → v = w ∧ s = t := by
  intro v
  induction v with
  | nil =>
    intro w s t hl _ _ h
    have : w = [] := List.eq_nil_of_length_eq_zero hl.symm
    subst this
    exact ⟨rfl, h⟩
  | cons x v ih =>
    intro w s t hl hv hw h
    cases w with
    | nil => cases hl
    | cons y w =>
      rw [List.flatMap_cons, List.flatMap_cons, List.append_assoc, List.append_assoc] at h
      obtain ⟨a1, a2⟩ := h1 _ _ _ _ (hv x (List.mem_cons_self ..)) (hw y (List.mem_cons_self ..)) h
      obtain ⟨b1, b2⟩ := ih w s t (by simpa using hl) (fun z hz => hv z (List.mem_cons_of_mem _ hz)) (fun z hz => hw z (List.mem_cons_of_mem _ hz)) a2
      exact ⟨by rw [a1, b1], b2⟩
theorem Pf.list {α : Type} {e : α → List Int} {o : α → Prop} (h1 : Pf e o) (max : Nat) (hm : max ≤ 1048576) : Pf (fun l : List α => Go.Kw.enc (l.length : Int) ++ l.flatMap e) (fun l => l.length ≤ max ∧ ∀ x ∈ l, o x) := by
  intro v w s t hv hw h
  dsimp only at h
  rw [List.append_assoc, List.append_assoc] at h
  obtain ⟨a1, a2⟩ := Pf.enc _ _ _ _ (ok_nat (n := v.length) (by have := hv.1; omega)) (ok_nat (n := w.length) (by have := hw.1; omega)) h
  exact h1.items v w s t (by omega) hv.2 hw.2 a2
theorem Pf.obj : Pf encObj oObj := by
  intro v w s t hv hw h
  obtain ⟨a1, a2⟩ := ((Pf.enc.pair (Pf.enc.list 5 (by omega))).pair (Pf.enc.list 5 (by omega))) ((v.Kind, v.Ints), v.Refs) ((w.Kind, w.Ints), w.Refs) s t hv hw h
  simp only [Prod.mk.injEq] at a1
  obtain ⟨⟨b1, b2⟩, b3⟩ := a1
  obtain ⟨v1, v2, v3⟩ := v
  obtain ⟨w1, w2, w3⟩ := w
  dsimp only at b1 b2 b3
  rw [b1, b2, b3]
  exact ⟨rfl, a2⟩
theorem Pf.slot : Pf encSlot slotP := by
  intro v w s t hv hw h
  have key : ∀ x : TSlot, slotP x → ∃ n : Nat, n ≤ 78 ∧ (n = 0 ↔ x.Has = false) ∧ encSlot x = Go.Kw.enc (n : Int) ++ (if x.Has = true then encObj x.O else []) := by
    intro x hx
    cases hh : x.Has with
    | true =>
      refine ⟨(encObj x.O).length, obj_len (objB_ok (slotP_some hx hh)), ?_, by rw [encSlot_some hh, if_pos rfl]⟩
      have := encObj_pos x.O
      constructor
      · intro h; omega
      · intro h; cases h
    | false => exact ⟨0, by omega, by simp, by rw [encSlot_none hh]; simp⟩
  obtain ⟨n, n1, n2, n3⟩ := key v hv
  obtain ⟨m, m1, m2, m3⟩ := key w hw
  rw [n3, m3, List.append_assoc, List.append_assoc] at h
  obtain ⟨a1, a2⟩ := Pf.enc _ _ _ _ (ok_nat (n := n) (by omega)) (ok_nat (n := m) (by omega)) h
  have hnm : n = m := by omega
  cases hh : v.Has with
  | true =>
    have hw2 : w.Has = true := by
      cases hz : w.Has with
      | true => rfl
      | false =>
        have := n2.1 (hnm.trans (m2.2 hz))
        rw [hh] at this; cases this
    rw [hh, hw2, if_pos rfl, if_pos rfl] at a2
    obtain ⟨b1, b2⟩ := Pf.obj _ _ _ _ (objB_ok (slotP_some hv hh)) (objB_ok (slotP_some hw hw2)) a2
    obtain ⟨v1, v2⟩ := v
    obtain ⟨w1, w2⟩ := w
    dsimp only at b1 hh hw2
    rw [hh, hw2, b1]
    exact ⟨rfl, b2⟩
  | false =>
    have hw2 : w.Has = false := m2.1 (hnm.symm.trans (n2.2 hh))
    rw [hh, hw2, if_neg (by simp)] at a2
    rw [slotP_none hv hh, slotP_none hw hw2]
    exact ⟨rfl, a2⟩
theorem Pf.live : Pf encLive okLive := by
  intro v w s t hv hw h
  have hb : ∀ b : Bool, okP (if b = true then 1 else 0) := fun b => by cases b <;> rfl
  obtain ⟨a1, a2⟩ := (Pf.enc.pair Pf.enc).pair Pf.enc ((v.Tx, v.Last), if v.Aborts = true then 1 else 0) ((w.Tx, w.Last), if w.Aborts = true then 1 else 0) s t ⟨hv, hb _⟩ ⟨hw, hb _⟩ h
  simp only [Prod.mk.injEq] at a1
  obtain ⟨⟨b1, b2⟩, b3⟩ := a1
  obtain ⟨v1, v2, v3⟩ := v
  obtain ⟨w1, w2, w3⟩ := w
  dsimp only at b1 b2 b3
  have : v3 = w3 := by cases v3 <;> cases w3 <;> simp_all
  rw [b1, b2, this]
  exact ⟨rfl, a2⟩
theorem Pf.rec : Pf encRec oRec := by
  intro v w s t hv hw h
  obtain ⟨a1, a2⟩ := ((((((((Pf.enc.pair Pf.enc).pair Pf.enc).pair Pf.enc).pair Pf.enc).pair Pf.enc).pair Pf.slot).pair Pf.slot).pair (Pf.live.list 20 (by omega))) ((((((((v.Lsn, v.Tx), v.Prev), v.Kind), v.Oid), v.Next), v.Before), v.After), v.Txs) ((((((((w.Lsn, w.Tx), w.Prev), w.Kind), w.Oid), w.Next), w.Before), w.After), w.Txs) s t hv hw h
  simp only [Prod.mk.injEq] at a1
  obtain ⟨⟨⟨⟨⟨⟨⟨⟨b1, b2⟩, b3⟩, b4⟩, b5⟩, b6⟩, b7⟩, b8⟩, b9⟩ := a1
  obtain ⟨v1, v2, v3, v4, v5, v6, v7, v8, v9⟩ := v
  obtain ⟨w1, w2, w3, w4, w5, w6, w7, w8, w9⟩ := w
  dsimp only at b1 b2 b3 b4 b5 b6 b7 b8 b9
  rw [b1, b2, b3, b4, b5, b6, b7, b8, b9]
  exact ⟨rfl, a2⟩
theorem wfB_flat {α : Type} (e : α → List Int) (l : List α) (h : ∀ x ∈ l, wfB (e x)) : wfB (l.flatMap e) := by
  intro z hz
  obtain ⟨x, hx, hz⟩ := List.mem_flatMap.1 hz
  exact h x hx z hz
theorem obj_wf {o : TObj} (h : oObj o) : wfB (encObj o) := by
  have h8 := h.1.2.1
  have h9 := h.2.1
  exact wfB_app (wfB_app (enc_wf h.1.1) (wfB_app (enc_wf (ok_nat (n := o.Ints.length) (by omega))) (wfB_flat _ _ fun x hx => enc_wf (h.1.2.2 x hx)))) (wfB_app (enc_wf (ok_nat (n := o.Refs.length) (by omega))) (wfB_flat _ _ fun x hx => enc_wf (h.2.2 x hx)))
theorem slot_wf {s : TSlot} (h : slotP s) : wfB (encSlot s) := by
  cases hh : s.Has with
  | true =>
    rw [encSlot_some hh]
    have h1 := objB_ok (slotP_some h hh)
    have h2 := obj_len h1
    exact wfB_app (enc_wf (ok_nat (n := (encObj s.O).length) (by omega))) (obj_wf h1)
  | false => rw [encSlot_none hh]; exact enc_wf ok0
theorem live_wf {t : TLive} (h : okLive t) : wfB (encLive t) := wfB_app (wfB_app (enc_wf h.1) (enc_wf h.2)) (enc_wf (by cases t.Aborts <;> rfl))
theorem rec_wf {r : TRec} (h : oRec r) : wfB (encRec r) := by
  obtain ⟨⟨⟨⟨⟨⟨⟨⟨o1, o2⟩, o3⟩, o4⟩, o5⟩, o6⟩, o7⟩, o8⟩, o9, o10⟩ := h
  exact wfB_app (wfB_app (wfB_app (wfB_app (wfB_app (wfB_app (wfB_app (wfB_app (enc_wf o1) (enc_wf o2)) (enc_wf o3)) (enc_wf o4)) (enc_wf o5)) (enc_wf o6)) (slot_wf o7)) (slot_wf o8)) (wfB_app (enc_wf (ok_nat (n := r.Txs.length) (by omega))) (wfB_flat _ _ fun x hx => live_wf (o10 x hx)))
theorem rec_len {r : TRec} (h : oRec r) : (encRec r).length ≤ 1000 ∧ 0 < (encRec r).length := by
  obtain ⟨⟨⟨⟨⟨⟨⟨⟨o1, o2⟩, o3⟩, o4⟩, o5⟩, o6⟩, o7⟩, o8⟩, o9, o10⟩ := h
  have k1 := enc_len o1; have k2 := enc_len o2; have k3 := enc_len o3; have k4 := enc_len o4; have k5 := enc_len o5; have k6 := enc_len o6
  have k7 := slot_len o7; have k8 := slot_len o8
  have k9 := enc_len (ok_nat (n := r.Txs.length) (by omega))
  have k10 := flat_len encLive 18 r.Txs fun x hx => live_len (o10 x hx)
  have k11 := enc_pos r.Lsn
  unfold encRec encLs
  simp only [List.length_append]
  omega
theorem sameBytes_ev (xs : List Int) (hl : xs.length ≤ 1048576) : EvP (fun k => laws_sameBytes.f k xs xs) (· = true) := by
  unfold laws_sameBytes.f laws_sameBytes.c1
  refine EvP.ifF (by simp) (EvP.bind1 (a := Ex.go ()) ?_ (EvP.ret rfl))
  refine all_up (fun k i => laws_sameBytes.l1 xs xs k i) xs.length _ ?_ ?_
  · intro i hi ih
    simp only [laws_sameBytes.l1, rd_eq hi]
    refine EvP.ifT (by simpa using hi) (EvP.ifT (by omega) (EvP.ifT (by omega) (EvP.ifF (by simp) ?_)))
    rw [w64_succ hi (by omega)]; exact ih
  · simp only [laws_sameBytes.l1]
    exact EvP.ifF (by simp) (EvP.ret rfl)
namespace laws_FnRecords
theorem ev (xs : List Int) : EvP (fun k => laws_FnRecords.f k xs) (· = true) := by
  unfold laws_FnRecords.f
  refine EvP.bind1 (big_ev xs) (EvP.ite (fun _ => EvP.ret rfl) fun h => ?_)
  simp only [decide_eq_true_eq] at h
  have hl : xs.length ≤ 1048576 := by omega
  refine EvP.bind (DrawPutRec_ev hl) fun r hr => ?_
  have hg := few_g hr
  refine EvP.bind1 (putRec_ev hg) (EvP.bind1 (sRecOk_ev hg) ?_)
  cases hb : recB r with
  | false =>
    refine EvP.ifT rfl ?_
    rw [if_neg (by simp)]
    refine EvP.bind1 (a := true) (EvP.ifT (by simp) (EvP.bind1 (RecOk_ev hg) (EvP.ret (by rw [hb]; rfl)))) (EvP.ret rfl)
  | true =>
    refine EvP.ifF (by simp) ?_
    rw [if_pos rfl]
    have ho := recB_ok hb
    have hw := rec_wf ho
    obtain ⟨l1, l2⟩ := rec_len ho
    have g1 : EvP (fun k => impl_GetRec.f k (encRec r)) (· = (r, true)) := (GetRec_ev hw (by omega)).mono fun x hx => hx.2.2 r hb rfl
    refine EvP.bind1 g1 ?_
    rw [w64_id (by omega) (by omega)]
    refine EvP.ifT (by omega) ?_
    have g2 : EvP (fun k => impl_GetRec.f k (cut (encRec r) 0 (((encRec r).length : Int) - 1))) (fun x => x.2 = false) := by
      have hcut : cut (encRec r) 0 (((encRec r).length : Int) - 1) = (encRec r).take ((encRec r).length - 1) := by
        unfold cut
        have : ((((encRec r).length : Int) - 1)).toNat = (encRec r).length - 1 := by omega
        rw [this]; rfl
      rw [hcut]
      refine (GetRec_ev (fun z hz => hw z (List.mem_of_mem_take hz)) (by rw [List.length_take]; omega)).mono fun x hx => ?_
      cases hx2 : x.2 with
      | false => rfl
      | true =>
        exfalso
        obtain ⟨c1, c2⟩ := hx.1 hx2
        have h3 : encRec x.1 ++ (encRec r).drop ((encRec r).length - 1) = encRec r ++ [] := by
          rw [← c2, List.take_append_drop, List.append_nil]
        obtain ⟨-, d2⟩ := Pf.rec _ _ _ _ (recB_ok c1) ho h3
        have := congrArg List.length d2
        rw [List.length_drop] at this
        simp at this; omega
    refine EvP.bind g2 fun x hx => ?_
    refine EvP.bind1 (a := true) (EvP.ifT (by simp [hx]) (EvP.bind1 (putRec_ev hg) (EvP.bind1 (a := true) ?_ (EvP.ret rfl)))) ?_
    · rw [if_pos hb]; exact sameBytes_ev (encRec r) (by omega)
    · unfold laws_FnRecords.c3 laws_FnRecords.c2
      refine EvP.bind1 (a := true) (EvP.ifT (by simp) (EvP.bind1 (RecOk_ev hg) (EvP.ret (by first | exact hb | exact hb.symm)))) (EvP.ret rfl)
theorem ok (xs : List Int) (hb : (xs.length ≤ maxLen ∧ ∀ q1 ∈ xs, (Lit.int .u8 q1).wf = true)) : ∃ k, laws_FnRecords.f k xs = some true := (ev xs).get
end laws_FnRecords
end Go.Proofs.Ytocknibhajihmaa
