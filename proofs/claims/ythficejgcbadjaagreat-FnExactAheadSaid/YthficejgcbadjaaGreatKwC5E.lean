/- Redo, what a log makes of a page, and whether pages are what the log tells: both texts alike. Conditions: none. -/
import Derived.Test.YthficejgcbadjaaGreatKwC5D
set_option linter.unusedVariables false
set_option linter.unusedSimpArgs false
namespace Go.Proofs.YthficejgcbadjaaGreat
open Go.Kw

theorem cloneSlot_ev {s : TSlot} (h : zSlot s) : EvP (fun k => impl_cloneSlot.f k s) (· = s) := by
  have h1 : s.O.Ints.length ≤ 1048576 := h.1.1
  have h2 : s.O.Refs.length ≤ 1048576 := h.1.2.1
  unfold impl_cloneSlot.f impl_cloneObj.f slices_Clone.f
  refine EvP.bind1 (a := s.O) (EvP.bind1 (EvP.ifT (by simp; omega) (EvP.ret rfl)) (EvP.bind1 (EvP.ifT (by simp; omega) (EvP.ret rfl)) (EvP.ret rfl))) (EvP.ret rfl)
theorem copySlot_ev {s : TSlot} (h : zSlot s) : EvP (fun k => spec_l3CopySlot.f k s) (· = s) := by
  have h1 : s.O.Ints.length ≤ 1048576 := h.1.1
  have h2 : s.O.Refs.length ≤ 1048576 := h.1.2.1
  unfold spec_l3CopySlot.f spec_l2Copy.f spec_l2Copy.c1
  refine EvP.bind1 (a := s.O) (EvP.bind1 (a := (s.O.Kind, s.O.Ints, s.O.Refs)) (EvP.ifT (by simp; omega) (EvP.ifT (by simp; omega) (EvP.ret (by simp)))) (EvP.ret rfl)) (EvP.ret rfl)
theorem clonePage_ev {p : TPage} (h : zPage p) : EvP (fun k => impl_clonePage.f k p) (· = p) := by
  unfold impl_clonePage.f impl_clonePage.c1
  have hm := h.1.1
  refine EvP.bind1 (a := p.Slots) ?_ (EvP.ret rfl)
  refine copy_up (fun k ys i => impl_clonePage.l1 p k ys i) p.Slots _ ?_ ?_ _ rfl
  · intro i hi ys hl2 ih
    simp only [impl_clonePage.l1, rd_eq hi]
    refine EvP.ifT (by simp; omega) (EvP.ifT (by omega) (EvP.bind1 (cloneSlot_ev (h.1.2 _ (List.getElem_mem hi))) (EvP.ifT (by omega) ?_)))
    rw [w64_succ hi (by omega)]; exact ih
  · simp only [impl_clonePage.l1]
    exact EvP.ifF (by simp; omega) (EvP.ret rfl)
theorem copyPage_ev {p : TPage} (h : zPage p) : EvP (fun k => spec_l3Copy.f k p) (· = p) := by
  unfold spec_l3Copy.f spec_l3Copy.c1
  have hm := h.1.1
  refine EvP.bind1 (a := p.Slots) ?_ (EvP.ret rfl)
  refine copy_up (fun k ys i => spec_l3Copy.l1 p k ys i) p.Slots _ ?_ ?_ _ (by rw [hm]; rfl)
  · intro i hi ys hl2 ih
    simp only [spec_l3Copy.l1, rd_eq hi]
    refine EvP.ifT (by simp; omega) (EvP.ifT (by omega) (EvP.bind1 (copySlot_ev (h.1.2 _ (List.getElem_mem hi))) (EvP.ifT (by omega) ?_)))
    rw [w64_succ hi (by omega)]; exact ih
  · simp only [spec_l3Copy.l1]
    exact EvP.ifF (by simp; omega) (EvP.ret rfl)
theorem inB_iff {n lo hi : Int} : inB n lo hi = true ↔ lo ≤ n ∧ n ≤ hi := by simp [inB]
def chB (r : TRec) : Bool := decide (r.Kind = 1) || decide (r.Kind = 4)
theorem recB_facts {r : TRec} (h : recB r = true) : 1 ≤ r.Lsn ∧ r.Lsn ≤ 1000000 ∧ slotB r.Before = true ∧ slotB r.After = true ∧ (chB r = true → 1 ≤ r.Oid ∧ r.Oid ≤ 31) := by
  unfold recB at h
  simp only [Bool.and_eq_true, inB_iff] at h
  obtain ⟨⟨⟨a, b⟩, c, d⟩, e⟩ := h
  refine ⟨a, b, c, d, fun hc => ?_⟩
  unfold chB at hc
  simp only [Bool.or_eq_true, decide_eq_true_eq] at hc
  rcases hc with hc | hc
  · rw [if_neg (by simp [hc])] at e
    simp only [Bool.and_eq_true, hc, decide_true, if_true, inB_iff] at e
    exact e.2.1
  · rw [if_neg (by simp [hc])] at e
    have h1 : ¬ (decide (r.Kind = 1) = true) := by simp [hc]
    rw [if_neg h1] at e
    simp only [Bool.and_eq_true, hc, decide_true, if_true, inB_iff] at e
    exact e.2.1.1
theorem cond4t : ∀ {a b c d : Bool}, (((!a || !b) || !c) || d) = true → ¬ (a && b && c && !d) = true := by decide
theorem cond4f : ∀ {a b c d : Bool}, (((!a || !b) || !c) || d) = false → a = true ∧ b = true ∧ c = true ∧ d = false := by decide
def redoM (p : TPage) (r : TRec) : TPage × Bool := if (pageB p && recB r && chB r && !decide (r.Lsn ≤ p.Lsn)) = true then (⟨r.Lsn, wr p.Slots (r.Oid.tmod 4) r.After⟩, true) else (p, false)
theorem redoM_z {p : TPage} {r : TRec} (h : zPage p) (k : zRec r) : zPage (redoM p r).1 := by
  unfold redoM
  split
  · refine ⟨⟨by simp only [wr_len]; exact h.1.1, fun x hx => ?_⟩, trivial⟩
    rcases List.mem_or_eq_of_mem_set hx with h1 | rfl
    · exact h.1.2 x h1
    · exact k.2.1
  · exact h
theorem Redo_ev {p : TPage} {r : TRec} (h : zPage p) (k : zRec r) : EvP (fun n => impl_Redo.f n p r) (· = redoM p r) := by
  unfold impl_Redo.f
  refine EvP.bind1 (PageOk_ev h) (EvP.bind1 (orn_ev fun _ => RecOk_ev k) ?_)
  unfold impl_Redo.c2
  refine EvP.bind1 (a := (!pageB p || !recB r) || !chB r) (orn_ev (c := chB r) fun _ => EvP.ret rfl) ?_
  unfold impl_Redo.c1
  refine EvP.iteD (fun hc => EvP.bind1 (clonePage_ev h) (EvP.ret ?_)) fun hc => ?_
  · unfold redoM
    rw [if_neg (cond4t hc)]
  · have hh : pageB p = true ∧ recB r = true ∧ chB r = true ∧ decide (r.Lsn ≤ p.Lsn) = false := cond4f hc
    obtain ⟨h1, h2, h3, h4⟩ := hh
    have hf := recB_facts h2
    obtain ⟨o1, o2⟩ := hf.2.2.2.2 h3
    have hm := tmod_range (a := r.Oid) (n := 4) (by omega) (by decide)
    simp only [decide_eq_false_iff_not] at h4
    have hrd : redoM p r = (⟨r.Lsn, wr p.Slots (r.Oid.tmod 4) r.After⟩, true) := by
      unfold redoM; rw [if_pos]; simp [h1, h2, h3]; omega
    rw [hrd]
    refine EvP.bind1 (a := (⟨r.Lsn, wr p.Slots (r.Oid.tmod 4) r.After⟩, true)) ?_ (EvP.ret rfl)
    unfold impl_SetSlot.f
    refine EvP.bind1 (clonePage_ev h) (EvP.bind1 (PageOk_ev h) ?_)
    rw [h1]
    simp only [in_eq, Option.bind_some]
    refine EvP.bind1 (a := false) (EvP.ifF (by simp) (EvP.ret (by simp [inB]; omega))) ?_
    unfold impl_SetSlot.c3
    refine EvP.bind1 (a := false) (EvP.ifF (by simp) (EvP.bind1 (slotOk_ev k.2.1) (EvP.ret (by simp [hf.2.2.2.1])))) ?_
    unfold impl_SetSlot.c2
    simp only [in_eq, Option.bind_some]
    refine EvP.bind1 (a := false) (EvP.ifF (by simp) (EvP.ret (by simp [inB]; omega))) ?_
    unfold impl_SetSlot.c1
    exact EvP.ifF (by simp) (EvP.bind1 (cloneSlot_ev k.2.1) (EvP.ifT (by omega) (EvP.ret rfl)))
theorem sRedo_ev {p : TPage} {r : TRec} (h : zPage p) (k : zRec r) : EvP (fun n => spec_Redo.f n p r) (· = redoM p r) := by
  unfold spec_Redo.f
  refine EvP.bind1 (sPageOk_ev h) (EvP.bind1 (orn_ev fun _ => sRecOk_ev k) ?_)
  unfold spec_Redo.c1
  have hch : (decide (r.Kind ≠ 1) && decide (r.Kind ≠ 4)) = !chB r := by
    unfold chB; by_cases a : r.Kind = 1 <;> by_cases b : r.Kind = 4 <;> simp [a, b]
  rw [hch]
  refine EvP.iteD (fun hc => EvP.bind1 (copyPage_ev h) (EvP.ret ?_)) fun hc => ?_
  · unfold redoM
    rw [if_neg (cond4t hc)]
  · have hh : pageB p = true ∧ recB r = true ∧ chB r = true ∧ decide (r.Lsn ≤ p.Lsn) = false := cond4f hc
    obtain ⟨h1, h2, h3, h4⟩ := hh
    have hf := recB_facts h2
    obtain ⟨o1, o2⟩ := hf.2.2.2.2 h3
    have hm := tmod_range (a := r.Oid) (n := 4) (by omega) (by decide)
    have hrd : redoM p r = (⟨r.Lsn, wr p.Slots (r.Oid.tmod 4) r.After⟩, true) := by
      unfold redoM; rw [if_pos]; simp only [h1, h2, h3, h4]; rfl
    rw [hrd]
    unfold spec_l4Redo.f
    exact EvP.bind1 (EvP.bind1 (copyPage_ev h) (EvP.bind1 (copySlot_ev k.2.1) (EvP.ifT (by omega) (EvP.ret rfl)))) (EvP.ret rfl)
def emptyM : TPage := ⟨0, zv_46⟩
theorem empty_z : zPage emptyM := by
  refine ⟨⟨rfl, fun x hx => ?_⟩, trivial⟩
  have := List.eq_of_mem_replicate hx
  rw [this]
  exact zeroSlot_z
def madeStep (no lsn : Int) (p : TPage) (r : TRec) : TPage := if (decide (r.Lsn ≤ lsn) && chB r && decide (w64 (r.Oid.tdiv 4) = no)) = true then (redoM p r).1 else p
def madeM (l : TLog) (no lsn : Int) : TPage := l.Recs.foldl (madeStep no lsn) emptyM
theorem made_z {no lsn : Int} : ∀ (rs : List TRec) {p : TPage}, zPage p → (∀ r ∈ rs, zRec r) → zPage (rs.foldl (madeStep no lsn) p)
  | [], p, h, _ => h
  | r :: rs, p, h, k => by
    refine made_z rs ?_ fun x hx => k x (List.mem_cons_of_mem _ hx)
    unfold madeStep
    split
    · exact redoM_z h (k r (List.mem_cons_self ..))
    · exact h
theorem made_take {l : TLog} {no lsn : Int} {i : Nat} (hi : i < l.Recs.length) : (l.Recs.take (i + 1)).foldl (madeStep no lsn) emptyM = madeStep no lsn ((l.Recs.take i).foldl (madeStep no lsn) emptyM) l.Recs[i] := by
  rw [List.take_succ_eq_append_getElem hi, List.foldl_append]; rfl
theorem made_ev {l : TLog} (h : zLog l) (no lsn : Int) : EvP (fun k => impl_made.f k l no lsn) (· = madeM l no lsn) := by
  have hl : l.Recs.length ≤ 1048576 := h.1.1
  unfold impl_made.f impl_emptyPage.f
  refine EvP.bind1 (a := emptyM) (EvP.ret rfl) (EvP.bind1 (a := ((madeM l no lsn).Lsn, (madeM l no lsn).Slots)) ?_ (EvP.ret rfl))
  have := for_up (fun k (s : TPage) i => impl_made.l1 l lsn no k s.Lsn s.Slots i) l.Recs.length (fun i s => s = (l.Recs.take i).foldl (madeStep no lsn) emptyM) (· = ((madeM l no lsn).Lsn, (madeM l no lsn).Slots)) ?_ ?_ (i := 0) (s := emptyM) (Nat.zero_le _) rfl
  · exact this
  · intro i s hi hI ih
    have hz : zPage s := by rw [hI]; exact made_z _ empty_z fun r hr => h.1.2 r (List.mem_of_mem_take hr)
    have hr := h.1.2 _ (List.getElem_mem hi)
    simp only [impl_made.l1, impl_made.c2, rd_eq hi]
    refine EvP.ifT (by simpa using hi) (EvP.bind1 (a := ((madeStep no lsn s l.Recs[i]).Lsn, (madeStep no lsn s l.Recs[i]).Slots)) (EvP.ifT (by omega) ?_) ?_)
    · refine EvP.bind1 (and_ev (c := chB l.Recs[i]) fun _ => EvP.ret rfl) ?_
      unfold impl_made.c3 madeStep
      simp only [rd_eq hi]
      refine EvP.iteD (fun hc => EvP.bind1 (Redo_ev hz hr) (EvP.ret ?_)) fun hc => EvP.ret ?_
      · rw [if_pos hc]
      · rw [if_neg (by rw [hc]; simp)]
    · rw [w64_succ hi (by omega)]
      exact ih _ (by rw [made_take hi, ← hI])
  · intro s hI
    simp only [impl_made.l1]
    refine EvP.ifF (by simp) (EvP.ret ?_)
    rw [List.take_of_length_le (Nat.le_refl _)] at hI
    rw [hI]; rfl
theorem sMade_ev {l : TLog} (h : zLog l) (no lsn : Int) : EvP (fun k => spec_l15Made.f k l no lsn) (· = madeM l no lsn) := by
  have hl : l.Recs.length ≤ 1048576 := h.1.1
  unfold spec_l15Made.f
  refine EvP.bind1 (a := ((madeM l no lsn).Lsn, (madeM l no lsn).Slots)) ?_ (EvP.ret rfl)
  have := for_up (fun k (s : TPage) i => spec_l15Made.l1 l lsn no k s.Lsn s.Slots i) l.Recs.length (fun i s => s = (l.Recs.take i).foldl (madeStep no lsn) emptyM) (· = ((madeM l no lsn).Lsn, (madeM l no lsn).Slots)) ?_ ?_ (i := 0) (s := emptyM) (Nat.zero_le _) rfl
  · exact this
  · intro i s hi hI ih
    have hz : zPage s := by rw [hI]; exact made_z _ empty_z fun r hr => h.1.2 r (List.mem_of_mem_take hr)
    have hr := h.1.2 _ (List.getElem_mem hi)
    simp only [spec_l15Made.l1, spec_l15Made.c2, rd_eq hi]
    refine EvP.ifT (by simpa using hi) (EvP.bind1 (a := ((madeStep no lsn s l.Recs[i]).Lsn, (madeStep no lsn s l.Recs[i]).Slots)) (EvP.ifT (by omega) ?_) ?_)
    · refine EvP.iteD (fun hc => EvP.bind1 (sRedo_ev hz hr) (EvP.ret ?_)) fun hc => EvP.ret ?_
      · unfold madeStep
        rw [if_pos]
        simp only [Bool.and_eq_true] at hc
        simp only [Bool.and_eq_true]
        exact ⟨⟨hc.1.1.1, hc.1.1.2⟩, hc.2⟩
      · unfold madeStep
        split
        · rename_i hm
          simp only [Bool.and_eq_true] at hm
          have hneg : decide (0 ≤ l.Recs[i].Oid) = false := by
            cases hd : decide (0 ≤ l.Recs[i].Oid) with
            | false => rfl
            | true =>
              rw [hd] at hc
              have h1 : (decide (l.Recs[i].Kind = 1) || decide (l.Recs[i].Kind = 4)) = true := hm.1.2
              rw [h1, hm.1.1, hm.2] at hc
              simp at hc
          have : redoM s l.Recs[i] = (s, false) := by
            unfold redoM
            rw [if_neg]
            simp only [Bool.and_eq_true, not_and]
            intro a _
            have := (recB_facts a.1.2).2.2.2.2 a.2
            simp only [decide_eq_false_iff_not] at hneg
            omega
          rw [this]
        · rfl
    · rw [w64_succ hi (by omega)]
      exact ih _ (by rw [made_take hi, ← hI])
  · intro s hI
    simp only [spec_l15Made.l1]
    refine EvP.ifF (by simp) (EvP.ret ?_)
    rw [List.take_of_length_le (Nat.le_refl _)] at hI
    rw [hI]; rfl
def samePageB (a b : TPage) : Bool := decide (a.Lsn = b.Lsn) && (List.range 4).all (fun i => sameSlotB (rd a.Slots (i : Int)) (rd b.Slots (i : Int)))
theorem samePage_ev {a b : TPage} (h : zPage a) (k : zPage b) : EvP (fun n => impl_samePage.f n a b) (· = samePageB a b) := by
  have h1 := h.1.1; have k1 := k.1.1
  unfold impl_samePage.f impl_samePage.c1
  refine EvP.bind1 (and_ev (c := (List.range 4).all (fun i => sameSlotB (rd a.Slots (i : Int)) (rd b.Slots (i : Int)))) fun _ => ?_) (EvP.ret rfl)
  unfold impl_Slot_120_sameSlot121.f impl_Slot_120_sameSlot121.c1
  refine EvP.ifF (by simp [h1, k1]) (EvP.bind1 (range_ev (impl_Slot_120_sameSlot121.l1 a.Slots b.Slots) 4 (fun i => sameSlotB (rd a.Slots (i : Int)) (rd b.Slots (i : Int))) (by decide) ?_ ?_ ?_) ?_)
  · intro i hi hP
    have ha : i < a.Slots.length := by omega
    have hb : i < b.Slots.length := by omega
    simp only [impl_Slot_120_sameSlot121.l1]
    rw [rd_eq ha, rd_eq hb] at hP
    rw [rd_eq ha, rd_eq hb]
    refine EvP.ifT (by simp; omega) (EvP.ifT (by omega) (EvP.ifT (by omega) (EvP.bind1 (sameSlot_ev (h.1.2 _ (List.getElem_mem ha)) (k.1.2 _ (List.getElem_mem hb))) (EvP.ifT (by rw [hP]; rfl) (EvP.ret rfl)))))
  · intro i Q hi hP ih
    have ha : i < a.Slots.length := by omega
    have hb : i < b.Slots.length := by omega
    simp only [impl_Slot_120_sameSlot121.l1]
    rw [rd_eq ha, rd_eq hb] at hP
    rw [rd_eq ha, rd_eq hb]
    refine EvP.ifT (by simp; omega) (EvP.ifT (by omega) (EvP.ifT (by omega) (EvP.bind1 (sameSlot_ev (h.1.2 _ (List.getElem_mem ha)) (k.1.2 _ (List.getElem_mem hb))) (EvP.ifF (by rw [hP]; simp) ?_))))
    rw [w64_succ hi (by omega)]; exact ih
  · simp only [impl_Slot_120_sameSlot121.l1]
    exact EvP.ifF (by simp; omega) (EvP.ret rfl)
  · cases hs : (List.range 4).all (fun i => sameSlotB (rd a.Slots (i : Int)) (rd b.Slots (i : Int))) with
    | false => simp only [Bool.false_eq_true, if_false, Ex.on]; exact EvP.ret rfl
    | true => simp only [if_true, Ex.on]; exact EvP.ret rfl
theorem sSamePage_ev {a b : TPage} (h : zPage a) (k : zPage b) : EvP (fun n => spec_l7SamePage.f n a b) (· = samePageB a b) := by
  have h1 := h.1.1; have k1 := k.1.1
  unfold spec_l7SamePage.f spec_l7SamePage.c1 samePageB
  refine EvP.bind1 (range_ev (spec_l7SamePage.l1 a b) 4 (fun i => sameSlotB (rd a.Slots (i : Int)) (rd b.Slots (i : Int))) (by decide) ?_ ?_ ?_) ?_
  · intro i hi hP
    have ha : i < a.Slots.length := by omega
    have hb : i < b.Slots.length := by omega
    simp only [spec_l7SamePage.l1]
    rw [rd_eq ha, rd_eq hb] at hP
    rw [rd_eq ha, rd_eq hb]
    refine EvP.ifT (by simp; omega) (EvP.ifT (by omega) (EvP.ifT (by omega) (EvP.bind1 (sSameSlot_ev (h.1.2 _ (List.getElem_mem ha)) (k.1.2 _ (List.getElem_mem hb))) (EvP.ifT (by rw [hP]; rfl) (EvP.ret rfl)))))
  · intro i Q hi hP ih
    have ha : i < a.Slots.length := by omega
    have hb : i < b.Slots.length := by omega
    simp only [spec_l7SamePage.l1]
    rw [rd_eq ha, rd_eq hb] at hP
    rw [rd_eq ha, rd_eq hb]
    refine EvP.ifT (by simp; omega) (EvP.ifT (by omega) (EvP.ifT (by omega) (EvP.bind1 (sSameSlot_ev (h.1.2 _ (List.getElem_mem ha)) (k.1.2 _ (List.getElem_mem hb))) (EvP.ifF (by rw [hP]; simp) ?_))))
    rw [w64_succ hi (by omega)]; exact ih
  · simp only [spec_l7SamePage.l1]
    exact EvP.ifF (by simp) (EvP.ret rfl)
  · cases hs : (List.range 4).all (fun i => sameSlotB (rd a.Slots (i : Int)) (rd b.Slots (i : Int))) with
    | false => simp only [Bool.false_eq_true, if_false, Ex.on]; exact EvP.ret (by simp)
    | true => simp only [if_true, Ex.on]; exact EvP.ret (by simp)
def diskB (e : TEngine) (i : Nat) : Bool := samePageB (rd e.Disk (i : Int)) (madeM e.Log (i : Int) (rd e.Disk (i : Int)).Lsn)
def seatB (e : TEngine) (s : TSeat) : Bool := samePageB s.P (madeM e.Log s.No s.P.Lsn)
def aheadB (e : TEngine) : Bool := (List.range 8).all (diskB e) && e.Pool.Seats.all (seatB e)
theorem Ahead_ev {e : TEngine} (h : zEngine e) : EvP (fun k => impl_Ahead.f k e) (· = aheadB e) := by
  obtain ⟨⟨hd, hdz⟩, hp, hlg, _⟩ := h
  have hmz : ∀ no lsn, zPage (madeM e.Log no lsn) := fun no lsn => made_z _ empty_z hlg.1.2
  have hsl : e.Pool.Seats.length ≤ 1048576 := hp.1.1
  unfold impl_Ahead.f aheadB
  refine EvP.bind1 (range_ev (impl_Ahead.l1 e) 8 (diskB e) (by decide) ?_ ?_ ?_) ?_
  · intro i hi hP
    have hi' : i < e.Disk.length := by omega
    simp only [impl_Ahead.l1]
    unfold diskB at hP
    refine EvP.ifT (by simp; omega) (EvP.ifT (by omega) (EvP.bind1 (made_ev hlg _ _) (EvP.bind1 (samePage_ev (by rw [rd_eq hi']; exact hdz _ (List.getElem_mem hi')) (hmz _ _)) (EvP.ifT (by rw [hP]; rfl) (EvP.ret rfl)))))
  · intro i Q hi hP ih
    have hi' : i < e.Disk.length := by omega
    simp only [impl_Ahead.l1]
    unfold diskB at hP
    refine EvP.ifT (by simp; omega) (EvP.ifT (by omega) (EvP.bind1 (made_ev hlg _ _) (EvP.bind1 (samePage_ev (by rw [rd_eq hi']; exact hdz _ (List.getElem_mem hi')) (hmz _ _)) (EvP.ifF (by rw [hP]; simp) ?_))))
    rw [w64_succ hi (by omega)]; exact ih
  · simp only [impl_Ahead.l1]
    exact EvP.ifF (by simp) (EvP.ret rfl)
  · cases hs : (List.range 8).all (diskB e) with
    | false => simp only [Bool.false_eq_true, if_false, Ex.on]; exact EvP.ret (by simp)
    | true =>
      simp only [if_true, Ex.on]
      unfold impl_Ahead.c1 impl_Seat_49_150.f impl_Seat_125_150.f
      refine EvP.bind1 (a := e.Pool.Seats.any (fun s => !seatB e s)) (EvP.bind1 (index_ev (impl_Seat_125_150.l1 e.Pool.Seats e) _ (fun k x => impl_Ahead_1.f k x e) e.Pool.Seats (fun s => !seatB e s) (by omega) (fun k i => rfl) (fun _ => rfl) fun x hx => ?_) (EvP.ret fidx_dec)) (EvP.ret ?_)
      · unfold impl_Ahead_1.f
        exact EvP.bind1 (made_ev hlg _ _) (EvP.bind1 (samePage_ev (hp.1.2 x hx).1 (hmz _ _)) (EvP.ret rfl))
      · rw [all_any]; simp
theorem sAhead_ev {e : TEngine} (h : zEngine e) : EvP (fun k => spec_Ahead.f k e) (· = aheadB e) := by
  obtain ⟨⟨hd, hdz⟩, hp, hlg, _⟩ := h
  have hmz : ∀ no lsn, zPage (madeM e.Log no lsn) := fun no lsn => made_z _ empty_z hlg.1.2
  have hsl : e.Pool.Seats.length ≤ 1048576 := hp.1.1
  unfold spec_Ahead.f aheadB
  refine EvP.bind1 (range_ev (spec_Ahead.l2 e) 8 (diskB e) (by decide) ?_ ?_ ?_) ?_
  · intro i hi hP
    have hi' : i < e.Disk.length := by omega
    simp only [spec_Ahead.l2]
    unfold diskB at hP
    refine EvP.ifT (by simp; omega) (EvP.ifT (by omega) (EvP.ifT (by omega) (EvP.bind1 (sMade_ev hlg _ _) (EvP.bind1 (sSamePage_ev (by rw [rd_eq hi']; exact hdz _ (List.getElem_mem hi')) (hmz _ _)) (EvP.ifT (by rw [hP]; rfl) (EvP.ret rfl))))))
  · intro i Q hi hP ih
    have hi' : i < e.Disk.length := by omega
    simp only [spec_Ahead.l2]
    unfold diskB at hP
    refine EvP.ifT (by simp; omega) (EvP.ifT (by omega) (EvP.ifT (by omega) (EvP.bind1 (sMade_ev hlg _ _) (EvP.bind1 (sSamePage_ev (by rw [rd_eq hi']; exact hdz _ (List.getElem_mem hi')) (hmz _ _)) (EvP.ifF (by rw [hP]; simp) ?_)))))
    rw [w64_succ hi (by omega)]; exact ih
  · simp only [spec_Ahead.l2]
    exact EvP.ifF (by simp) (EvP.ret rfl)
  · cases hs : (List.range 8).all (diskB e) with
    | false => simp only [Bool.false_eq_true, if_false, Ex.on]; exact EvP.ret (by simp)
    | true =>
      simp only [if_true, Ex.on]
      unfold spec_Ahead.c2 spec_Ahead.c1
      refine EvP.bind1 (range_ev (spec_Ahead.l1 e) e.Pool.Seats.length (fun i => seatB e (rd e.Pool.Seats (i : Int))) (by omega) ?_ ?_ ?_) ?_
      · intro i hi hP
        simp only [spec_Ahead.l1]
        unfold seatB at hP
        refine EvP.ifT (by simpa using hi) (EvP.ifT (by omega) (EvP.bind1 (sMade_ev hlg _ _) (EvP.bind1 (sSamePage_ev (by rw [rd_eq hi]; exact (hp.1.2 _ (List.getElem_mem hi)).1) (hmz _ _)) (EvP.ifT (by rw [hP]; rfl) (EvP.ret rfl)))))
      · intro i Q hi hP ih
        simp only [spec_Ahead.l1]
        unfold seatB at hP
        refine EvP.ifT (by simpa using hi) (EvP.ifT (by omega) (EvP.bind1 (sMade_ev hlg _ _) (EvP.bind1 (sSamePage_ev (by rw [rd_eq hi]; exact (hp.1.2 _ (List.getElem_mem hi)).1) (hmz _ _)) (EvP.ifF (by rw [hP]; simp) ?_))))
        rw [w64_succ hi (by omega)]; exact ih
      · simp only [spec_Ahead.l1]
        exact EvP.ifF (by simp) (EvP.ret rfl)
      · have : (List.range e.Pool.Seats.length).all (fun i => seatB e (rd e.Pool.Seats (i : Int))) = e.Pool.Seats.all (seatB e) := rd_range _
        rw [this]
        cases hq : e.Pool.Seats.all (seatB e) with
        | false => simp only [Bool.false_eq_true, if_false, Ex.on]; exact EvP.ret (by simp)
        | true => simp only [if_true, Ex.on]; exact EvP.ret (by simp)
namespace laws_FnExactAhead
theorem ok (e : TEngine) (hw : wTEngine e) : ∃ k, laws_FnExactAhead.f k e = some true := by
  have : EvP (fun k => laws_FnExactAhead.f k e) (· = true) := by
    unfold laws_FnExactAhead.f
    refine EvP.bind (szev_Engine hw (by decide) (by decide)) fun r hr => EvP.ite (fun _ => EvP.ret rfl) fun hc => ?_
    simp only [decide_eq_true_eq] at hc
    obtain ⟨_, _, z⟩ := hr.resolve_left (by omega)
    have ht := toev_Engine z
    refine EvP.bind1 ht (EvP.bind1 (sAhead_ev z) (EvP.bind1 ht (EvP.bind1 (Ahead_ev z) (EvP.ifF (by simp) (EvP.bind1 ht (EvP.bind1 (eqev_Engine z) (EvP.ifF (by simp) (EvP.ret rfl))))))))
  exact this.get
end laws_FnExactAhead
end Go.Proofs.YthficejgcbadjaaGreat
