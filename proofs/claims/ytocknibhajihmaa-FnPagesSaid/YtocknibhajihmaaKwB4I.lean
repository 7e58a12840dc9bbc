/- The plain law of pages, the last step. Conditions: none. -/
import Derived.Test.YtocknibhajihmaaKwB4Q
set_option linter.unusedVariables false
set_option linter.unusedSimpArgs false
namespace Go.Proofs.Ytocknibhajihmaa
open Go.Kw

def setB (p : TPage) (i : Int) (s : TSlot) (lsn : Int) : Bool := pageB p && inB i 0 3 && slotB s && inB lsn p.Lsn 1000000
def setM (p : TPage) (i : Int) (s : TSlot) (lsn : Int) : TPage × Bool := if setB p i s lsn = true then (⟨lsn, wr p.Slots i s⟩, true) else (p, false)
theorem SetSlot_ev {p : TPage} {s : TSlot} (hp : gPage p) (hs : gSlot s) (i lsn : Int) : EvP (fun k => impl_SetSlot.f k p i s lsn) (· = setM p i s lsn) := by
  unfold impl_SetSlot.f impl_SetSlot.c3 impl_SetSlot.c2 impl_SetSlot.c1
  simp only [in_eq, Option.bind_some]
  refine EvP.bind1 (clonePage_ev hp) (EvP.bind1 (PageOk_ev hp) (EvP.bind1 (or_ev fun _ => EvP.ret rfl) (EvP.bind1 (orn_ev fun _ => slotOk_ev hs) (EvP.bind1 (or_ev (c := !inB lsn p.Lsn 1000000) fun _ => EvP.ret rfl) ?_))))
  have e : (((!pageB p || !inB i 0 3) || !slotB s) || !inB lsn p.Lsn 1000000) = !setB p i s lsn := by
    unfold setB
    cases pageB p <;> cases inB i 0 3 <;> cases slotB s <;> cases inB lsn p.Lsn 1000000 <;> rfl
  rw [e]
  unfold setM
  cases hb : setB p i s lsn with
  | false => exact EvP.ifT rfl (EvP.ret (by rw [if_neg (by simp)]))
  | true =>
    have hi : 0 ≤ i ∧ i ≤ 3 := by
      unfold setB at hb
      simp only [Bool.and_eq_true] at hb
      simpa [inB] using hb.1.1.2
    refine EvP.ifF (by simp) (EvP.bind1 (cloneSlot_ev hs) (EvP.ifT (by omega) (EvP.ret ?_)))
    rw [if_pos rfl]
theorem sSetSlot_ev {p : TPage} {s : TSlot} (hp : gPage p) (hs : gSlot s) (i lsn : Int) : EvP (fun k => spec_SetSlot.f k p i s lsn) (· = setM p i s lsn) := by
  unfold spec_SetSlot.f spec_SetSlot.c3 spec_SetSlot.c2 spec_SetSlot.c1
  simp only [sin_eq, Option.bind_some]
  refine EvP.bind1 (copyPage_ev hp) (EvP.bind1 (sPageOk_ev hp) (EvP.bind1 (or_ev fun _ => EvP.ret rfl) (EvP.bind1 (orn_ev fun _ => sSlot_ev hs) (EvP.bind1 (or_ev (c := !inB lsn p.Lsn 1000000) fun _ => EvP.ret rfl) ?_))))
  have e : (((!pageB p || !inB i 0 3) || !slotB s) || !inB lsn p.Lsn 1000000) = !setB p i s lsn := by
    unfold setB
    cases pageB p <;> cases inB i 0 3 <;> cases slotB s <;> cases inB lsn p.Lsn 1000000 <;> rfl
  rw [e]
  unfold setM
  cases hb : setB p i s lsn with
  | false => exact EvP.ifT rfl (EvP.ret (by rw [if_neg (by simp)]))
  | true =>
    have hi : 0 ≤ i ∧ i ≤ 3 := by
      unfold setB at hb
      simp only [Bool.and_eq_true] at hb
      simpa [inB] using hb.1.1.2
    refine EvP.ifF (by simp) (EvP.bind1 (copySlot_ev hs) (EvP.ifT (by omega) (EvP.ret ?_)))
    rw [if_pos rfl]
theorem sameSlot_ev {s : TSlot} (h : gSlot s) : EvP (fun k => laws_sameSlot.f k s s) (· = true) := by
  unfold laws_sameSlot.f laws_sameSlot.c1
  refine EvP.bind1 (a := true) (EvP.ifT (by simp) (EvP.bind1 (sSameObj_ev h.1 h.1) (EvP.ret (by simp [sameObjB])))) (EvP.ret rfl)
theorem samePage_ev {p : TPage} (h : gPage p) : EvP (fun k => laws_samePage.f k p p) (· = true) := by
  unfold laws_samePage.f laws_samePage.c1
  have hm : p.Slots.length = 4 := h.1.1
  refine EvP.bind1 (a := Ex.go ()) ?_ (EvP.ret (by simp))
  refine all_up (fun k i => laws_samePage.l1 p p k i) 4 _ ?_ ?_
  · intro i hi ih
    have hi2 : i < p.Slots.length := by omega
    simp only [laws_samePage.l1, rd_eq hi2]
    refine EvP.ifT (by simp only [decide_eq_true_eq]; omega) (EvP.ifT (by omega) (EvP.ifT (by omega) (EvP.bind1 (sameSlot_ev (h.1.2 _ (List.getElem_mem hi2))) (EvP.ifF (by simp) ?_))))
    rw [w64_succ hi (by omega)]; exact ih
  · simp only [laws_samePage.l1]
    exact EvP.ifF (by simp) (EvP.ret rfl)
theorem FreeSlot_ev {p : TPage} (hm : p.Slots.length = 4) : EvP (fun k => impl_FreeSlot.f k p) (· = fidx (fun s => !s.Has) p.Slots) := by
  unfold impl_FreeSlot.f impl_Slot_101_1102.f
  refine EvP.bind1 (index_ev (impl_Slot_101_1102.l1 p.Slots) _ (fun k x => impl_FreeSlot_1.f k x) p.Slots (fun s => !s.Has) (by omega) (fun k i => rfl) (fun _ => rfl) fun x hx => EvP.ret rfl) (EvP.ret rfl)
theorem set_page {p : TPage} {i lsn : Int} {s : TSlot} (hp : gPage p) (hs : gSlot s) (h : setB p i s lsn = true) : gPage ⟨lsn, wr p.Slots i s⟩ ∧ pageB ⟨lsn, wr p.Slots i s⟩ = true := by
  unfold setB at h
  simp only [Bool.and_eq_true] at h
  obtain ⟨⟨⟨h1, h2⟩, h3⟩, h4⟩ := h
  unfold pageB at h1
  simp only [Bool.and_eq_true, List.all_eq_true] at h1
  refine ⟨⟨⟨by show (wr p.Slots i s).length = 4; rw [wr_len]; exact hp.1.1, fun x hx => ?_⟩, trivial⟩, ?_⟩
  · rcases wr_mem hx with h | h
    · exact hp.1.2 x h
    · rw [h]; exact hs
  · unfold pageB
    simp only [Bool.and_eq_true, List.all_eq_true]
    refine ⟨?_, fun x hx => ?_⟩
    · have h5 := h1.1
      simp [inB] at h4 h5 ⊢
      omega
    · rcases wr_mem hx with h | h
      · exact h1.2 x h
      · rw [h]; exact h3
namespace laws_FnPages
theorem ev (xs : List Int) : EvP (fun k => laws_FnPages.f k xs) (· = true) := by
  unfold laws_FnPages.f
  refine EvP.bind1 (big_ev xs) (EvP.ite (fun _ => EvP.ret rfl) fun h => ?_)
  simp only [decide_eq_true_eq] at h
  have hl : xs.length ≤ 1048576 := by omega
  refine EvP.bind (DrawSetSlot_ev hl) fun r hr => ?_
  obtain ⟨hp, hs, hi, hn⟩ := hr
  have hg := sPage_g hp
  have hs := sSlot_g hs
  cases hb : pageB r.1 with
  | false =>
    refine EvP.bind1 (putPage_no hg hb) (EvP.bind1 (sPageOk_ev hg) (EvP.ifT (by rw [hb]; rfl) (EvP.bind1 (SetSlot_ev hg hs _ _) ?_)))
    have e : setM r.1 r.2.1 r.2.2.1 r.2.2.2 = (r.1, false) := by
      unfold setM setB
      rw [hb]; simp
    rw [e]
    exact EvP.bind1 (a := true) (EvP.ifT (by simp) (EvP.bind1 (PageOk_ev hg) (EvP.ret (by rw [hb]; rfl)))) (EvP.ret rfl)
  | true =>
    obtain ⟨S, ⟨hS, hw⟩, hsum, hput⟩ := putPage_ev hg hb
    refine EvP.bind1 hput (EvP.bind1 (sPageOk_ev hg) (EvP.ifF (by rw [hb]; simp) (EvP.bind1 (getPage_ev hg hb hS hw hsum) ?_)))
    refine EvP.bind1 (a := false) (EvP.ifF (by simp) (EvP.bind1 (samePage_ev hg) (EvP.ret rfl))) ?_
    unfold laws_FnPages.c8
    refine EvP.ifF (by simp) (EvP.bind1 (SetSlot_ev hg hs _ _) (EvP.bind1 (sSetSlot_ev hg hs _ _) ?_))
    unfold setM
    cases hsb : setB r.1 r.2.1 r.2.2.1 r.2.2.2 with
    | false =>
      rw [if_neg (by simp)]
      unfold laws_FnPages.c2
      exact EvP.ifT (by simp) (EvP.bind1 (a := true) (EvP.ifT (by simp) (EvP.bind1 (samePage_ev hg) (EvP.ret rfl))) (EvP.ret rfl))
    | true =>
      rw [if_pos rfl]
      refine EvP.ifF (by simp) ?_
      obtain ⟨q1, q2⟩ := set_page hg hs hsb
      have hm : r.1.Slots.length = 4 := hg.1.1
      have h03 : 0 ≤ r.2.1 ∧ r.2.1 ≤ 3 := by
        unfold setB at hsb
        simp only [Bool.and_eq_true] at hsb
        simpa [inB] using hsb.1.1.2
      refine EvP.bind1 (a := Ex.go ()) ?_ ?_
      · refine all_up (fun k i => laws_FnPages.l1 r (⟨r.2.2.2, wr r.1.Slots r.2.1 r.2.2.1⟩, true) k i) 4 _ ?_ ?_
        · intro i hi4 ih
          simp only [laws_FnPages.l1, laws_FnPages.c7]
          refine EvP.ifT (by simp only [decide_eq_true_eq]; omega) (EvP.ifT (by omega) ?_)
          have hm2 : rd r.1.Slots (i : Int) ∈ r.1.Slots := rd_mem (by omega) (by omega)
          by_cases hij : (i : Int) = r.2.1
          · refine EvP.bind1 (a := (r.2.2.1.Has, r.2.2.1.O.Kind, r.2.2.1.O.Ints, r.2.2.1.O.Refs)) (EvP.ifT (by simpa using hij) (EvP.ret rfl)) (EvP.ifT (by omega) ?_)
            rw [hij, rd_wr_same (by omega) (by omega)]
            refine EvP.bind1 (sameSlot_ev hs) (EvP.ifF (by simp) ?_)
            have e3 : w64 (r.2.1 + 1) = ((i + 1 : Nat) : Int) := by rw [← hij]; exact w64_succ hi4 (by omega)
            rw [e3]; exact ih
          · refine EvP.bind1 (a := ((rd r.1.Slots (i : Int)).Has, ((rd r.1.Slots (i : Int)).O).Kind, ((rd r.1.Slots (i : Int)).O).Ints, ((rd r.1.Slots (i : Int)).O).Refs)) (EvP.ifF (by simpa using hij) (EvP.ret rfl)) (EvP.ifT (by omega) ?_)
            rw [rd_wr_ne (by omega) (by omega) (fun e => hij e.symm)]
            refine EvP.bind1 (sameSlot_ev (hg.1.2 _ hm2)) (EvP.ifF (by simp) ?_)
            rw [w64_succ hi4 (by omega)]; exact ih
        · simp only [laws_FnPages.l1]
          exact EvP.ifF (by simp) (EvP.ret rfl)
      · show EvP (fun k => laws_FnPages.c6 k _ _) _
        unfold laws_FnPages.c6 laws_FnPages.c5 laws_FnPages.c4 laws_FnPages.c3
        refine EvP.bind1 (FreeSlot_ev q1.1.1) (EvP.bind1 (a := true) (EvP.ifT (by simp) (EvP.bind1 (PageOk_ev q1) (EvP.ret q2))) ?_)
        refine EvP.bind1 (a := true) (EvP.ifT rfl (EvP.bind1 (a := true) (EvP.ite (fun _ => EvP.ret rfl) fun hf => ?_) (EvP.ret rfl))) (EvP.ret rfl)
        simp only [decide_eq_true_eq] at hf
        obtain ⟨j, hj, e1, e2, -⟩ := fidx_lt (fidx_pos.1 (Int.not_lt.1 hf))
        have hj4 : j < 4 := Nat.lt_of_lt_of_eq hj q1.1.1
        rw [e1]
        refine EvP.ifT (by omega) (EvP.ret ?_)
        rw [rd_eq hj]; exact e2
theorem ok (xs : List Int) (hb : (xs.length ≤ maxLen ∧ ∀ q1 ∈ xs, (Lit.int .u8 q1).wf = true)) : ∃ k, laws_FnPages.f k xs = some true := (ev xs).get
end laws_FnPages
end Go.Proofs.Ytocknibhajihmaa
