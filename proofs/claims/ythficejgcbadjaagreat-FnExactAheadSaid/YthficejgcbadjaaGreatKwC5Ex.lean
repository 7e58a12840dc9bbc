/- What the law's own functions come to. Conditions: none. -/
import Derived.Test.YthficejgcbadjaaGreatKwC5F
import Derived.Test.YthficejgcbadjaaGreatKwC5In
import Derived.Test.YthficejgcbadjaaGreatKwO
set_option linter.unusedVariables false
set_option linter.unusedSimpArgs false
namespace Go.Proofs.YthficejgcbadjaaGreat
open Go.Kw
def zIntS (xs : (List Int)) : Prop := xs.length ≤ 1048576
theorem szev_IntS {xs : (List Int)} {n : Int} (hw : (xs.length ≤ maxLen ∧ ∀ q1 ∈ xs, (Lit.int .i64 q1).wf = true)) (h0 : 0 ≤ n) (h1 : n ≤ 1048576) : EvP (fun k => laws_szIntS.f k xs n) (fun r => r = -1 ∨ (0 ≤ r ∧ r ≤ n ∧ zIntS xs)) := by
  unfold laws_szIntS.f
  have hm := hw.1
  simp only [maxLen] at hm
  rw [w64_id (by omega) (by omega)]
  refine EvP.ite (fun h => EvP.ret (.inl rfl)) fun h => EvP.ret (.inr ?_)
  simp at h
  exact ⟨by omega, by omega, show xs.length ≤ 1048576 by omega⟩
theorem toev_IntS {xs : (List Int)} (h : zIntS xs) : EvP (fun k => laws_toIntS.f k xs) (· = xs) := by
  unfold laws_toIntS.f laws_toIntS.c1
  have hm : xs.length ≤ 1048576 := h
  refine EvP.ifT (by omega) (EvP.bind1 (a := xs) ?_ (EvP.ret rfl))
  refine copy_up (fun k ys i => laws_toIntS.l1 xs k ys i) xs _ ?_ ?_ _ (by simp)
  · intro i hi ys hl2 ih
    simp only [laws_toIntS.l1, rd_eq hi]
    refine EvP.ifT (by simpa using hi) (EvP.ifT (by omega) (EvP.ifT (by omega) ?_))
    rw [w64_succ hi (by omega)]; exact ih
  · simp only [laws_toIntS.l1]
    exact EvP.ifF (by simp) (EvP.ret rfl)
theorem eqev_IntS {xs : (List Int)} (h : zIntS xs) : EvP (fun k => laws_eqIntS.f k xs xs) (· = true) := by
  unfold laws_eqIntS.f laws_eqIntS.c1
  have hm : xs.length ≤ 1048576 := h
  refine EvP.ifF (by simp) (EvP.bind1 (a := Ex.go ()) ?_ (EvP.ret rfl))
  refine all_up (fun k i => laws_eqIntS.l1 xs xs k i) xs.length _ ?_ ?_
  · intro i hi ih
    simp only [laws_eqIntS.l1, rd_eq hi]
    refine EvP.ifT (by simpa using hi) (EvP.ifT (by omega) (EvP.ifT (by omega) (EvP.ifF (by simp) ?_)))
    rw [w64_succ hi (by omega)]; exact ih
  · simp only [laws_eqIntS.l1]
    exact EvP.ifF (by simp) (EvP.ret rfl)
def zObj (x : TObj) : Prop := zIntS x.Ints ∧ zIntS x.Refs ∧ True
theorem szev_Obj {x : TObj} {n : Int} (hw : wTObj x) (h0 : 0 ≤ n) (h1 : n ≤ 1048576) : EvP (fun k => laws_szObj.f k x n) (fun r => r = -1 ∨ (0 ≤ r ∧ r ≤ n ∧ zObj x)) := by
  unfold laws_szObj.f
  refine EvP.bind (szev_IntS hw.2.1 h0 h1) fun r0 hr0 => EvP.ite (fun _ => EvP.ret (.inl rfl)) fun hc0 => ?_
  simp only [decide_eq_true_eq] at hc0
  obtain ⟨a0, b0, z0⟩ : 0 ≤ r0 ∧ r0 ≤ _ ∧ _ := hr0.resolve_left (by omega)
  refine EvP.bind (szev_IntS hw.2.2.1 a0 (by omega)) fun r1 hr1 => EvP.ite (fun _ => EvP.ret (.inl rfl)) fun hc1 => ?_
  simp only [decide_eq_true_eq] at hc1
  obtain ⟨a1, b1, z1⟩ : 0 ≤ r1 ∧ r1 ≤ _ ∧ _ := hr1.resolve_left (by omega)
  exact EvP.ret (.inr ⟨by omega, by omega, z0, z1, trivial⟩)
theorem toev_Obj {x : TObj} (h : zObj x) : EvP (fun k => laws_toObj.f k x) (· = x) := by
  unfold laws_toObj.f
  exact EvP.bind1 (toev_IntS h.1) (EvP.bind1 (toev_IntS h.2.1) (EvP.ret rfl))
theorem eqev_Obj {x : TObj} (h : zObj x) : EvP (fun k => laws_eqObj.f k x x) (· = true) := by
  unfold laws_eqObj.f
  exact EvP.ifF (by simp) (EvP.bind1 (eqev_IntS h.1) (EvP.ifF (by simp) (EvP.bind1 (eqev_IntS h.2.1) (EvP.ifF (by simp) (EvP.ret rfl)))))
def zSlot (x : TSlot) : Prop := zObj x.O ∧ True
theorem szev_Slot {x : TSlot} {n : Int} (hw : wTSlot x) (h0 : 0 ≤ n) (h1 : n ≤ 1048576) : EvP (fun k => laws_szSlot.f k x n) (fun r => r = -1 ∨ (0 ≤ r ∧ r ≤ n ∧ zSlot x)) := by
  unfold laws_szSlot.f
  refine EvP.bind (szev_Obj hw.2.1 h0 h1) fun r0 hr0 => EvP.ite (fun _ => EvP.ret (.inl rfl)) fun hc0 => ?_
  simp only [decide_eq_true_eq] at hc0
  obtain ⟨a0, b0, z0⟩ : 0 ≤ r0 ∧ r0 ≤ _ ∧ _ := hr0.resolve_left (by omega)
  exact EvP.ret (.inr ⟨by omega, by omega, z0, trivial⟩)
theorem toev_Slot {x : TSlot} (h : zSlot x) : EvP (fun k => laws_toSlot.f k x) (· = x) := by
  unfold laws_toSlot.f
  exact EvP.bind1 (toev_Obj h.1) (EvP.ret rfl)
theorem eqev_Slot {x : TSlot} (h : zSlot x) : EvP (fun k => laws_eqSlot.f k x x) (· = true) := by
  unfold laws_eqSlot.f
  exact EvP.ifF (by simp) (EvP.bind1 (eqev_Obj h.1) (EvP.ifF (by simp) (EvP.ret rfl)))
def zSlotA4 (xs : (List TSlot)) : Prop := xs.length = 4 ∧ ∀ x ∈ xs, zSlot x
theorem szev_SlotA4 {xs : (List TSlot)} {n : Int} (hw : (xs.length = 4 ∧ ∀ q1 ∈ xs, wTSlot q1)) (h0 : 0 ≤ n) (h1 : n ≤ 1048576) : EvP (fun k => laws_szSlotA4.f k xs n) (fun r => r = -1 ∨ (0 ≤ r ∧ r ≤ n ∧ zSlotA4 xs)) := by
  unfold laws_szSlotA4.f laws_szSlotA4.c1
  have hm := hw.1
  refine EvP.bind (sz_up (laws_szSlotA4.l1 xs) (laws_szSlot.f) xs zSlot (by omega) (fun k m i => by simp only [laws_szSlotA4.l1, hm]; rfl) (fun x hx m h2 h3 => szev_Slot (hw.2 x hx) h2 h3) h0 h1) ?_
  rintro r (rfl | ⟨m, rfl, h2, h3, h4⟩)
  · exact EvP.ret (.inl rfl)
  · exact EvP.ret (.inr ⟨h2, h3, hm, h4⟩)
theorem toev_SlotA4 {xs : (List TSlot)} (h : zSlotA4 xs) : EvP (fun k => laws_toSlotA4.f k xs) (· = xs) := by
  unfold laws_toSlotA4.f laws_toSlotA4.c1
  have hm := h.1
  refine EvP.bind1 (a := xs) ?_ (EvP.ret rfl)
  refine copy_up (fun k ys i => laws_toSlotA4.l1 xs k ys i) xs _ ?_ ?_ _ (by rw [hm]; rfl)
  · intro i hi ys hl2 ih
    simp only [laws_toSlotA4.l1, rd_eq hi]
    refine EvP.ifT (by simp; omega) (EvP.ifT (by omega) (EvP.bind1 (toev_Slot (h.2 _ (List.getElem_mem hi))) (EvP.ifT (by omega) ?_)))
    rw [w64_succ hi (by omega)]; exact ih
  · simp only [laws_toSlotA4.l1]
    exact EvP.ifF (by simp; omega) (EvP.ret rfl)
theorem eqev_SlotA4 {xs : (List TSlot)} (h : zSlotA4 xs) : EvP (fun k => laws_eqSlotA4.f k xs xs) (· = true) := by
  unfold laws_eqSlotA4.f laws_eqSlotA4.c1
  have hm := h.1
  refine EvP.bind1 (a := Ex.go ()) ?_ (EvP.ret rfl)
  refine all_up (fun k i => laws_eqSlotA4.l1 xs xs k i) xs.length _ ?_ ?_
  · intro i hi ih
    simp only [laws_eqSlotA4.l1, rd_eq hi]
    refine EvP.ifT (by simp; omega) (EvP.ifT (by omega) (EvP.ifT (by omega) (EvP.bind1 (eqev_Slot (h.2 _ (List.getElem_mem hi))) (EvP.ifF (by simp) ?_))))
    rw [w64_succ hi (by omega)]; exact ih
  · simp only [laws_eqSlotA4.l1]
    exact EvP.ifF (by simp; omega) (EvP.ret rfl)
def zPage (x : TPage) : Prop := zSlotA4 x.Slots ∧ True
theorem szev_Page {x : TPage} {n : Int} (hw : wTPage x) (h0 : 0 ≤ n) (h1 : n ≤ 1048576) : EvP (fun k => laws_szPage.f k x n) (fun r => r = -1 ∨ (0 ≤ r ∧ r ≤ n ∧ zPage x)) := by
  unfold laws_szPage.f
  refine EvP.bind (szev_SlotA4 hw.2.1 h0 h1) fun r0 hr0 => EvP.ite (fun _ => EvP.ret (.inl rfl)) fun hc0 => ?_
  simp only [decide_eq_true_eq] at hc0
  obtain ⟨a0, b0, z0⟩ : 0 ≤ r0 ∧ r0 ≤ _ ∧ _ := hr0.resolve_left (by omega)
  exact EvP.ret (.inr ⟨by omega, by omega, z0, trivial⟩)
theorem toev_Page {x : TPage} (h : zPage x) : EvP (fun k => laws_toPage.f k x) (· = x) := by
  unfold laws_toPage.f
  exact EvP.bind1 (toev_SlotA4 h.1) (EvP.ret rfl)
theorem eqev_Page {x : TPage} (h : zPage x) : EvP (fun k => laws_eqPage.f k x x) (· = true) := by
  unfold laws_eqPage.f
  exact EvP.ifF (by simp) (EvP.bind1 (eqev_SlotA4 h.1) (EvP.ifF (by simp) (EvP.ret rfl)))
def zPageA8 (xs : (List TPage)) : Prop := xs.length = 8 ∧ ∀ x ∈ xs, zPage x
theorem szev_PageA8 {xs : (List TPage)} {n : Int} (hw : (xs.length = 8 ∧ ∀ q1 ∈ xs, wTPage q1)) (h0 : 0 ≤ n) (h1 : n ≤ 1048576) : EvP (fun k => laws_szPageA8.f k xs n) (fun r => r = -1 ∨ (0 ≤ r ∧ r ≤ n ∧ zPageA8 xs)) := by
  unfold laws_szPageA8.f laws_szPageA8.c1
  have hm := hw.1
  refine EvP.bind (sz_up (laws_szPageA8.l1 xs) (laws_szPage.f) xs zPage (by omega) (fun k m i => by simp only [laws_szPageA8.l1, hm]; rfl) (fun x hx m h2 h3 => szev_Page (hw.2 x hx) h2 h3) h0 h1) ?_
  rintro r (rfl | ⟨m, rfl, h2, h3, h4⟩)
  · exact EvP.ret (.inl rfl)
  · exact EvP.ret (.inr ⟨h2, h3, hm, h4⟩)
theorem toev_PageA8 {xs : (List TPage)} (h : zPageA8 xs) : EvP (fun k => laws_toPageA8.f k xs) (· = xs) := by
  unfold laws_toPageA8.f laws_toPageA8.c1
  have hm := h.1
  refine EvP.bind1 (a := xs) ?_ (EvP.ret rfl)
  refine copy_up (fun k ys i => laws_toPageA8.l1 xs k ys i) xs _ ?_ ?_ _ (by rw [hm]; rfl)
  · intro i hi ys hl2 ih
    simp only [laws_toPageA8.l1, rd_eq hi]
    refine EvP.ifT (by simp; omega) (EvP.ifT (by omega) (EvP.bind1 (toev_Page (h.2 _ (List.getElem_mem hi))) (EvP.ifT (by omega) ?_)))
    rw [w64_succ hi (by omega)]; exact ih
  · simp only [laws_toPageA8.l1]
    exact EvP.ifF (by simp; omega) (EvP.ret rfl)
theorem eqev_PageA8 {xs : (List TPage)} (h : zPageA8 xs) : EvP (fun k => laws_eqPageA8.f k xs xs) (· = true) := by
  unfold laws_eqPageA8.f laws_eqPageA8.c1
  have hm := h.1
  refine EvP.bind1 (a := Ex.go ()) ?_ (EvP.ret rfl)
  refine all_up (fun k i => laws_eqPageA8.l1 xs xs k i) xs.length _ ?_ ?_
  · intro i hi ih
    simp only [laws_eqPageA8.l1, rd_eq hi]
    refine EvP.ifT (by simp; omega) (EvP.ifT (by omega) (EvP.ifT (by omega) (EvP.bind1 (eqev_Page (h.2 _ (List.getElem_mem hi))) (EvP.ifF (by simp) ?_))))
    rw [w64_succ hi (by omega)]; exact ih
  · simp only [laws_eqPageA8.l1]
    exact EvP.ifF (by simp; omega) (EvP.ret rfl)
def zSeat (x : TSeat) : Prop := zPage x.P ∧ True
theorem szev_Seat {x : TSeat} {n : Int} (hw : wTSeat x) (h0 : 0 ≤ n) (h1 : n ≤ 1048576) : EvP (fun k => laws_szSeat.f k x n) (fun r => r = -1 ∨ (0 ≤ r ∧ r ≤ n ∧ zSeat x)) := by
  unfold laws_szSeat.f
  refine EvP.bind (szev_Page hw.2.1 h0 h1) fun r0 hr0 => EvP.ite (fun _ => EvP.ret (.inl rfl)) fun hc0 => ?_
  simp only [decide_eq_true_eq] at hc0
  obtain ⟨a0, b0, z0⟩ : 0 ≤ r0 ∧ r0 ≤ _ ∧ _ := hr0.resolve_left (by omega)
  exact EvP.ret (.inr ⟨by omega, by omega, z0, trivial⟩)
theorem toev_Seat {x : TSeat} (h : zSeat x) : EvP (fun k => laws_toSeat.f k x) (· = x) := by
  unfold laws_toSeat.f
  exact EvP.bind1 (toev_Page h.1) (EvP.ret rfl)
theorem eqev_Seat {x : TSeat} (h : zSeat x) : EvP (fun k => laws_eqSeat.f k x x) (· = true) := by
  unfold laws_eqSeat.f
  exact EvP.ifF (by simp) (EvP.bind1 (eqev_Page h.1) (EvP.ifF (by simp) (EvP.ifF (by simp) (EvP.ifF (by simp) (EvP.ret rfl)))))
def zSeatS (xs : (List TSeat)) : Prop := xs.length ≤ 1048576 ∧ ∀ x ∈ xs, zSeat x
theorem szev_SeatS {xs : (List TSeat)} {n : Int} (hw : (xs.length ≤ maxLen ∧ ∀ q1 ∈ xs, wTSeat q1)) (h0 : 0 ≤ n) (h1 : n ≤ 1048576) : EvP (fun k => laws_szSeatS.f k xs n) (fun r => r = -1 ∨ (0 ≤ r ∧ r ≤ n ∧ zSeatS xs)) := by
  unfold laws_szSeatS.f laws_szSeatS.c1
  have hm := hw.1
  simp only [maxLen] at hm
  rw [w64_id (by omega) (by omega)]
  refine EvP.ite (fun h => EvP.ret (.inl rfl)) fun h => ?_
  simp at h
  refine EvP.bind (sz_up (laws_szSeatS.l1 xs) (laws_szSeat.f) xs zSeat (by omega) (fun k m i => rfl) (fun x hx m h2 h3 => szev_Seat (hw.2 x hx) h2 h3) (by omega) (by omega)) ?_
  rintro r (rfl | ⟨m, rfl, h2, h3, h4⟩)
  · exact EvP.ret (.inl rfl)
  · exact EvP.ret (.inr ⟨h2, by omega, by omega, h4⟩)
theorem toev_SeatS {xs : (List TSeat)} (h : zSeatS xs) : EvP (fun k => laws_toSeatS.f k xs) (· = xs) := by
  unfold laws_toSeatS.f laws_toSeatS.c1
  have hm : xs.length ≤ 1048576 := h.1
  refine EvP.ifT (by omega) (EvP.bind1 (a := xs) ?_ (EvP.ret rfl))
  refine copy_up (fun k ys i => laws_toSeatS.l1 xs k ys i) xs _ ?_ ?_ _ (by simp)
  · intro i hi ys hl2 ih
    simp only [laws_toSeatS.l1, rd_eq hi]
    refine EvP.ifT (by simpa using hi) (EvP.ifT (by omega) (EvP.bind1 (toev_Seat (h.2 _ (List.getElem_mem hi))) (EvP.ifT (by omega) ?_)))
    rw [w64_succ hi (by omega)]; exact ih
  · simp only [laws_toSeatS.l1]
    exact EvP.ifF (by simp) (EvP.ret rfl)
theorem eqev_SeatS {xs : (List TSeat)} (h : zSeatS xs) : EvP (fun k => laws_eqSeatS.f k xs xs) (· = true) := by
  unfold laws_eqSeatS.f laws_eqSeatS.c1
  have hm : xs.length ≤ 1048576 := h.1
  refine EvP.ifF (by simp) (EvP.bind1 (a := Ex.go ()) ?_ (EvP.ret rfl))
  refine all_up (fun k i => laws_eqSeatS.l1 xs xs k i) xs.length _ ?_ ?_
  · intro i hi ih
    simp only [laws_eqSeatS.l1, rd_eq hi]
    refine EvP.ifT (by simpa using hi) (EvP.ifT (by omega) (EvP.ifT (by omega) (EvP.bind1 (eqev_Seat (h.2 _ (List.getElem_mem hi))) (EvP.ifF (by simp) ?_))))
    rw [w64_succ hi (by omega)]; exact ih
  · simp only [laws_eqSeatS.l1]
    exact EvP.ifF (by simp) (EvP.ret rfl)
def zPool (x : TPool) : Prop := zSeatS x.Seats ∧ True
theorem szev_Pool {x : TPool} {n : Int} (hw : wTPool x) (h0 : 0 ≤ n) (h1 : n ≤ 1048576) : EvP (fun k => laws_szPool.f k x n) (fun r => r = -1 ∨ (0 ≤ r ∧ r ≤ n ∧ zPool x)) := by
  unfold laws_szPool.f
  refine EvP.bind (szev_SeatS hw.1 h0 h1) fun r0 hr0 => EvP.ite (fun _ => EvP.ret (.inl rfl)) fun hc0 => ?_
  simp only [decide_eq_true_eq] at hc0
  obtain ⟨a0, b0, z0⟩ : 0 ≤ r0 ∧ r0 ≤ _ ∧ _ := hr0.resolve_left (by omega)
  exact EvP.ret (.inr ⟨by omega, by omega, z0, trivial⟩)
theorem toev_Pool {x : TPool} (h : zPool x) : EvP (fun k => laws_toPool.f k x) (· = x) := by
  unfold laws_toPool.f
  exact EvP.bind1 (toev_SeatS h.1) (EvP.ret rfl)
theorem eqev_Pool {x : TPool} (h : zPool x) : EvP (fun k => laws_eqPool.f k x x) (· = true) := by
  unfold laws_eqPool.f
  exact EvP.bind1 (eqev_SeatS h.1) (EvP.ifF (by simp) (EvP.ifF (by simp) (EvP.ret rfl)))
theorem toev_Live {x : TLive} : EvP (fun k => laws_toLive.f k x) (· = x) := by
  exact EvP.ret rfl
theorem eqev_Live {x : TLive} : EvP (fun k => laws_eqLive.f k x x) (· = true) := by
  unfold laws_eqLive.f
  exact EvP.ifF (by simp) (EvP.ifF (by simp) (EvP.ifF (by simp) (EvP.ret rfl)))
def zLiveS (xs : (List TLive)) : Prop := xs.length ≤ 1048576
theorem szev_LiveS {xs : (List TLive)} {n : Int} (hw : (xs.length ≤ maxLen ∧ ∀ q1 ∈ xs, wTLive q1)) (h0 : 0 ≤ n) (h1 : n ≤ 1048576) : EvP (fun k => laws_szLiveS.f k xs n) (fun r => r = -1 ∨ (0 ≤ r ∧ r ≤ n ∧ zLiveS xs)) := by
  unfold laws_szLiveS.f
  have hm := hw.1
  simp only [maxLen] at hm
  rw [w64_id (by omega) (by omega)]
  refine EvP.ite (fun h => EvP.ret (.inl rfl)) fun h => EvP.ret (.inr ?_)
  simp at h
  exact ⟨by omega, by omega, show xs.length ≤ 1048576 by omega⟩
theorem toev_LiveS {xs : (List TLive)} (h : zLiveS xs) : EvP (fun k => laws_toLiveS.f k xs) (· = xs) := by
  unfold laws_toLiveS.f laws_toLiveS.c1
  have hm : xs.length ≤ 1048576 := h
  refine EvP.ifT (by omega) (EvP.bind1 (a := xs) ?_ (EvP.ret rfl))
  refine copy_up (fun k ys i => laws_toLiveS.l1 xs k ys i) xs _ ?_ ?_ _ (by simp)
  · intro i hi ys hl2 ih
    simp only [laws_toLiveS.l1, rd_eq hi]
    refine EvP.ifT (by simpa using hi) (EvP.ifT (by omega) (EvP.bind1 (toev_Live) (EvP.ifT (by omega) ?_)))
    rw [w64_succ hi (by omega)]; exact ih
  · simp only [laws_toLiveS.l1]
    exact EvP.ifF (by simp) (EvP.ret rfl)
theorem eqev_LiveS {xs : (List TLive)} (h : zLiveS xs) : EvP (fun k => laws_eqLiveS.f k xs xs) (· = true) := by
  unfold laws_eqLiveS.f laws_eqLiveS.c1
  have hm : xs.length ≤ 1048576 := h
  refine EvP.ifF (by simp) (EvP.bind1 (a := Ex.go ()) ?_ (EvP.ret rfl))
  refine all_up (fun k i => laws_eqLiveS.l1 xs xs k i) xs.length _ ?_ ?_
  · intro i hi ih
    simp only [laws_eqLiveS.l1, rd_eq hi]
    refine EvP.ifT (by simpa using hi) (EvP.ifT (by omega) (EvP.ifT (by omega) (EvP.bind1 (eqev_Live) (EvP.ifF (by simp) ?_))))
    rw [w64_succ hi (by omega)]; exact ih
  · simp only [laws_eqLiveS.l1]
    exact EvP.ifF (by simp) (EvP.ret rfl)
def zRec (x : TRec) : Prop := zSlot x.Before ∧ zSlot x.After ∧ zLiveS x.Txs ∧ True
theorem szev_Rec {x : TRec} {n : Int} (hw : wTRec x) (h0 : 0 ≤ n) (h1 : n ≤ 1048576) : EvP (fun k => laws_szRec.f k x n) (fun r => r = -1 ∨ (0 ≤ r ∧ r ≤ n ∧ zRec x)) := by
  unfold laws_szRec.f
  refine EvP.bind (szev_Slot hw.2.2.2.2.2.1 h0 h1) fun r0 hr0 => EvP.ite (fun _ => EvP.ret (.inl rfl)) fun hc0 => ?_
  simp only [decide_eq_true_eq] at hc0
  obtain ⟨a0, b0, z0⟩ : 0 ≤ r0 ∧ r0 ≤ _ ∧ _ := hr0.resolve_left (by omega)
  refine EvP.bind (szev_Slot hw.2.2.2.2.2.2.1 a0 (by omega)) fun r1 hr1 => EvP.ite (fun _ => EvP.ret (.inl rfl)) fun hc1 => ?_
  simp only [decide_eq_true_eq] at hc1
  obtain ⟨a1, b1, z1⟩ : 0 ≤ r1 ∧ r1 ≤ _ ∧ _ := hr1.resolve_left (by omega)
  refine EvP.bind (szev_LiveS hw.2.2.2.2.2.2.2.2.1 a1 (by omega)) fun r2 hr2 => EvP.ite (fun _ => EvP.ret (.inl rfl)) fun hc2 => ?_
  simp only [decide_eq_true_eq] at hc2
  obtain ⟨a2, b2, z2⟩ : 0 ≤ r2 ∧ r2 ≤ _ ∧ _ := hr2.resolve_left (by omega)
  exact EvP.ret (.inr ⟨by omega, by omega, z0, z1, z2, trivial⟩)
theorem toev_Rec {x : TRec} (h : zRec x) : EvP (fun k => laws_toRec.f k x) (· = x) := by
  unfold laws_toRec.f
  exact EvP.bind1 (toev_Slot h.1) (EvP.bind1 (toev_Slot h.2.1) (EvP.bind1 (toev_LiveS h.2.2.1) (EvP.ret rfl)))
theorem eqev_Rec {x : TRec} (h : zRec x) : EvP (fun k => laws_eqRec.f k x x) (· = true) := by
  unfold laws_eqRec.f
  exact EvP.ifF (by simp) (EvP.ifF (by simp) (EvP.ifF (by simp) (EvP.ifF (by simp) (EvP.ifF (by simp) (EvP.bind1 (eqev_Slot h.1) (EvP.ifF (by simp) (EvP.bind1 (eqev_Slot h.2.1) (EvP.ifF (by simp) (EvP.ifF (by simp) (EvP.bind1 (eqev_LiveS h.2.2.1) (EvP.ifF (by simp) (EvP.ret rfl))))))))))))
def zRecS (xs : (List TRec)) : Prop := xs.length ≤ 1048576 ∧ ∀ x ∈ xs, zRec x
theorem szev_RecS {xs : (List TRec)} {n : Int} (hw : (xs.length ≤ maxLen ∧ ∀ q1 ∈ xs, wTRec q1)) (h0 : 0 ≤ n) (h1 : n ≤ 1048576) : EvP (fun k => laws_szRecS.f k xs n) (fun r => r = -1 ∨ (0 ≤ r ∧ r ≤ n ∧ zRecS xs)) := by
  unfold laws_szRecS.f laws_szRecS.c1
  have hm := hw.1
  simp only [maxLen] at hm
  rw [w64_id (by omega) (by omega)]
  refine EvP.ite (fun h => EvP.ret (.inl rfl)) fun h => ?_
  simp at h
  refine EvP.bind (sz_up (laws_szRecS.l1 xs) (laws_szRec.f) xs zRec (by omega) (fun k m i => rfl) (fun x hx m h2 h3 => szev_Rec (hw.2 x hx) h2 h3) (by omega) (by omega)) ?_
  rintro r (rfl | ⟨m, rfl, h2, h3, h4⟩)
  · exact EvP.ret (.inl rfl)
  · exact EvP.ret (.inr ⟨h2, by omega, by omega, h4⟩)
theorem toev_RecS {xs : (List TRec)} (h : zRecS xs) : EvP (fun k => laws_toRecS.f k xs) (· = xs) := by
  unfold laws_toRecS.f laws_toRecS.c1
  have hm : xs.length ≤ 1048576 := h.1
  refine EvP.ifT (by omega) (EvP.bind1 (a := xs) ?_ (EvP.ret rfl))
  refine copy_up (fun k ys i => laws_toRecS.l1 xs k ys i) xs _ ?_ ?_ _ (by simp)
  · intro i hi ys hl2 ih
    simp only [laws_toRecS.l1, rd_eq hi]
    refine EvP.ifT (by simpa using hi) (EvP.ifT (by omega) (EvP.bind1 (toev_Rec (h.2 _ (List.getElem_mem hi))) (EvP.ifT (by omega) ?_)))
    rw [w64_succ hi (by omega)]; exact ih
  · simp only [laws_toRecS.l1]
    exact EvP.ifF (by simp) (EvP.ret rfl)
theorem eqev_RecS {xs : (List TRec)} (h : zRecS xs) : EvP (fun k => laws_eqRecS.f k xs xs) (· = true) := by
  unfold laws_eqRecS.f laws_eqRecS.c1
  have hm : xs.length ≤ 1048576 := h.1
  refine EvP.ifF (by simp) (EvP.bind1 (a := Ex.go ()) ?_ (EvP.ret rfl))
  refine all_up (fun k i => laws_eqRecS.l1 xs xs k i) xs.length _ ?_ ?_
  · intro i hi ih
    simp only [laws_eqRecS.l1, rd_eq hi]
    refine EvP.ifT (by simpa using hi) (EvP.ifT (by omega) (EvP.ifT (by omega) (EvP.bind1 (eqev_Rec (h.2 _ (List.getElem_mem hi))) (EvP.ifF (by simp) ?_))))
    rw [w64_succ hi (by omega)]; exact ih
  · simp only [laws_eqRecS.l1]
    exact EvP.ifF (by simp) (EvP.ret rfl)
def zLog (x : TLog) : Prop := zRecS x.Recs ∧ True
theorem szev_Log {x : TLog} {n : Int} (hw : wTLog x) (h0 : 0 ≤ n) (h1 : n ≤ 1048576) : EvP (fun k => laws_szLog.f k x n) (fun r => r = -1 ∨ (0 ≤ r ∧ r ≤ n ∧ zLog x)) := by
  unfold laws_szLog.f
  refine EvP.bind (szev_RecS hw.1 h0 h1) fun r0 hr0 => EvP.ite (fun _ => EvP.ret (.inl rfl)) fun hc0 => ?_
  simp only [decide_eq_true_eq] at hc0
  obtain ⟨a0, b0, z0⟩ : 0 ≤ r0 ∧ r0 ≤ _ ∧ _ := hr0.resolve_left (by omega)
  exact EvP.ret (.inr ⟨by omega, by omega, z0, trivial⟩)
theorem toev_Log {x : TLog} (h : zLog x) : EvP (fun k => laws_toLog.f k x) (· = x) := by
  unfold laws_toLog.f
  exact EvP.bind1 (toev_RecS h.1) (EvP.ret rfl)
theorem eqev_Log {x : TLog} (h : zLog x) : EvP (fun k => laws_eqLog.f k x x) (· = true) := by
  unfold laws_eqLog.f
  exact EvP.bind1 (eqev_RecS h.1) (EvP.ifF (by simp) (EvP.ifF (by simp) (EvP.ret rfl)))
theorem toev_Hold {x : THold} : EvP (fun k => laws_toHold.f k x) (· = x) := by
  exact EvP.ret rfl
theorem eqev_Hold {x : THold} : EvP (fun k => laws_eqHold.f k x x) (· = true) := by
  unfold laws_eqHold.f
  exact EvP.ifF (by simp) (EvP.ifF (by simp) (EvP.ret rfl))
def zHoldS (xs : (List THold)) : Prop := xs.length ≤ 1048576
theorem szev_HoldS {xs : (List THold)} {n : Int} (hw : (xs.length ≤ maxLen ∧ ∀ q1 ∈ xs, wTHold q1)) (h0 : 0 ≤ n) (h1 : n ≤ 1048576) : EvP (fun k => laws_szHoldS.f k xs n) (fun r => r = -1 ∨ (0 ≤ r ∧ r ≤ n ∧ zHoldS xs)) := by
  unfold laws_szHoldS.f
  have hm := hw.1
  simp only [maxLen] at hm
  rw [w64_id (by omega) (by omega)]
  refine EvP.ite (fun h => EvP.ret (.inl rfl)) fun h => EvP.ret (.inr ?_)
  simp at h
  exact ⟨by omega, by omega, show xs.length ≤ 1048576 by omega⟩
theorem toev_HoldS {xs : (List THold)} (h : zHoldS xs) : EvP (fun k => laws_toHoldS.f k xs) (· = xs) := by
  unfold laws_toHoldS.f laws_toHoldS.c1
  have hm : xs.length ≤ 1048576 := h
  refine EvP.ifT (by omega) (EvP.bind1 (a := xs) ?_ (EvP.ret rfl))
  refine copy_up (fun k ys i => laws_toHoldS.l1 xs k ys i) xs _ ?_ ?_ _ (by simp)
  · intro i hi ys hl2 ih
    simp only [laws_toHoldS.l1, rd_eq hi]
    refine EvP.ifT (by simpa using hi) (EvP.ifT (by omega) (EvP.bind1 (toev_Hold) (EvP.ifT (by omega) ?_)))
    rw [w64_succ hi (by omega)]; exact ih
  · simp only [laws_toHoldS.l1]
    exact EvP.ifF (by simp) (EvP.ret rfl)
theorem eqev_HoldS {xs : (List THold)} (h : zHoldS xs) : EvP (fun k => laws_eqHoldS.f k xs xs) (· = true) := by
  unfold laws_eqHoldS.f laws_eqHoldS.c1
  have hm : xs.length ≤ 1048576 := h
  refine EvP.ifF (by simp) (EvP.bind1 (a := Ex.go ()) ?_ (EvP.ret rfl))
  refine all_up (fun k i => laws_eqHoldS.l1 xs xs k i) xs.length _ ?_ ?_
  · intro i hi ih
    simp only [laws_eqHoldS.l1, rd_eq hi]
    refine EvP.ifT (by simpa using hi) (EvP.ifT (by omega) (EvP.ifT (by omega) (EvP.bind1 (eqev_Hold) (EvP.ifF (by simp) ?_))))
    rw [w64_succ hi (by omega)]; exact ih
  · simp only [laws_eqHoldS.l1]
    exact EvP.ifF (by simp) (EvP.ret rfl)
def zEngine (x : TEngine) : Prop := zPageA8 x.Disk ∧ zPool x.Pool ∧ zLog x.Log ∧ zLiveS x.Txs ∧ zHoldS x.Holds ∧ True
theorem szev_Engine {x : TEngine} {n : Int} (hw : wTEngine x) (h0 : 0 ≤ n) (h1 : n ≤ 1048576) : EvP (fun k => laws_szEngine.f k x n) (fun r => r = -1 ∨ (0 ≤ r ∧ r ≤ n ∧ zEngine x)) := by
  unfold laws_szEngine.f
  refine EvP.bind (szev_PageA8 hw.1 h0 h1) fun r0 hr0 => EvP.ite (fun _ => EvP.ret (.inl rfl)) fun hc0 => ?_
  simp only [decide_eq_true_eq] at hc0
  obtain ⟨a0, b0, z0⟩ : 0 ≤ r0 ∧ r0 ≤ _ ∧ _ := hr0.resolve_left (by omega)
  refine EvP.bind (szev_Pool hw.2.1 a0 (by omega)) fun r1 hr1 => EvP.ite (fun _ => EvP.ret (.inl rfl)) fun hc1 => ?_
  simp only [decide_eq_true_eq] at hc1
  obtain ⟨a1, b1, z1⟩ : 0 ≤ r1 ∧ r1 ≤ _ ∧ _ := hr1.resolve_left (by omega)
  refine EvP.bind (szev_Log hw.2.2.1 a1 (by omega)) fun r2 hr2 => EvP.ite (fun _ => EvP.ret (.inl rfl)) fun hc2 => ?_
  simp only [decide_eq_true_eq] at hc2
  obtain ⟨a2, b2, z2⟩ : 0 ≤ r2 ∧ r2 ≤ _ ∧ _ := hr2.resolve_left (by omega)
  refine EvP.bind (szev_LiveS hw.2.2.2.1 a2 (by omega)) fun r3 hr3 => EvP.ite (fun _ => EvP.ret (.inl rfl)) fun hc3 => ?_
  simp only [decide_eq_true_eq] at hc3
  obtain ⟨a3, b3, z3⟩ : 0 ≤ r3 ∧ r3 ≤ _ ∧ _ := hr3.resolve_left (by omega)
  refine EvP.bind (szev_HoldS hw.2.2.2.2.1 a3 (by omega)) fun r4 hr4 => EvP.ite (fun _ => EvP.ret (.inl rfl)) fun hc4 => ?_
  simp only [decide_eq_true_eq] at hc4
  obtain ⟨a4, b4, z4⟩ : 0 ≤ r4 ∧ r4 ≤ _ ∧ _ := hr4.resolve_left (by omega)
  exact EvP.ret (.inr ⟨by omega, by omega, z0, z1, z2, z3, z4, trivial⟩)
theorem toev_Engine {x : TEngine} (h : zEngine x) : EvP (fun k => laws_toEngine.f k x) (· = x) := by
  unfold laws_toEngine.f
  exact EvP.bind1 (toev_PageA8 h.1) (EvP.bind1 (toev_Pool h.2.1) (EvP.bind1 (toev_Log h.2.2.1) (EvP.bind1 (toev_LiveS h.2.2.2.1) (EvP.bind1 (toev_HoldS h.2.2.2.2.1) (EvP.ret rfl)))))
theorem eqev_Engine {x : TEngine} (h : zEngine x) : EvP (fun k => laws_eqEngine.f k x x) (· = true) := by
  unfold laws_eqEngine.f
  exact EvP.bind1 (eqev_PageA8 h.1) (EvP.ifF (by simp) (EvP.bind1 (eqev_Pool h.2.1) (EvP.ifF (by simp) (EvP.bind1 (eqev_Log h.2.2.1) (EvP.ifF (by simp) (EvP.bind1 (eqev_LiveS h.2.2.2.1) (EvP.ifF (by simp) (EvP.bind1 (eqev_HoldS h.2.2.2.2.1) (EvP.ifF (by simp) (EvP.ifF (by simp) (EvP.ifF (by simp) (EvP.ret rfl))))))))))))
end Go.Proofs.YthficejgcbadjaaGreat
