/- The plain law of GetRec: what the reference's gives, of memory of its own. Conditions: none. -/
import Derived.Test.YtocknibhajihmaaKwB4Y
set_option linter.unusedVariables false
set_option linter.unusedSimpArgs false
namespace Go.Proofs.Ytocknibhajihmaa
open Go.Kw

theorem toByte_ev {xs : List Int} (hm : xs.length ≤ 1048576) : EvP (fun k => laws_toByteS.f k xs) (· = xs) := by
  unfold laws_toByteS.f laws_toByteS.c1
  refine EvP.ifT (by omega) (EvP.bind1 (a := xs) ?_ (EvP.ret rfl))
  refine copy_up (fun k ys i => laws_toByteS.l1 xs k ys i) xs _ ?_ ?_ _ (by simp)
  · intro i hi ys hl2 ih
    simp only [laws_toByteS.l1, rd_eq hi]
    refine EvP.ifT (by simpa using hi) (EvP.ifT (by omega) (EvP.ifT (by omega) ?_))
    rw [w64_succ hi (by omega)]; exact ih
  · simp only [laws_toByteS.l1]
    exact EvP.ifF (by simp) (EvP.ret rfl)
theorem eqByte_ev (xs : List Int) (hl : xs.length ≤ 1048576) : EvP (fun k => laws_eqByteS.f k xs xs) (· = true) := by
  unfold laws_eqByteS.f laws_eqByteS.c1
  refine EvP.ifF (by simp) (EvP.bind1 (a := Ex.go ()) ?_ (EvP.ret rfl))
  refine all_up (fun k i => laws_eqByteS.l1 xs xs k i) xs.length _ ?_ ?_
  · intro i hi ih
    simp only [laws_eqByteS.l1, rd_eq hi]
    refine EvP.ifT (by simpa using hi) (EvP.ifT (by omega) (EvP.ifT (by omega) (EvP.ifF (by simp) ?_)))
    rw [w64_succ hi (by omega)]; exact ih
  · simp only [laws_eqByteS.l1]
    exact EvP.ifF (by simp) (EvP.ret rfl)
theorem eqInt_ev (xs : List Int) (hl : xs.length ≤ 1048576) : EvP (fun k => laws_eqIntS.f k xs xs) (· = true) := by
  unfold laws_eqIntS.f laws_eqIntS.c1
  refine EvP.ifF (by simp) (EvP.bind1 (a := Ex.go ()) ?_ (EvP.ret rfl))
  refine all_up (fun k i => laws_eqIntS.l1 xs xs k i) xs.length _ ?_ ?_
  · intro i hi ih
    simp only [laws_eqIntS.l1, rd_eq hi]
    refine EvP.ifT (by simpa using hi) (EvP.ifT (by omega) (EvP.ifT (by omega) (EvP.ifF (by simp) ?_)))
    rw [w64_succ hi (by omega)]; exact ih
  · simp only [laws_eqIntS.l1]
    exact EvP.ifF (by simp) (EvP.ret rfl)
theorem eqObj_ev {o : TObj} (h : gObj o) : EvP (fun k => laws_eqObj.f k o o) (· = true) := by
  unfold laws_eqObj.f
  exact EvP.ifF (by simp) (EvP.bind1 (eqInt_ev _ h.1) (EvP.ifF (by simp) (EvP.bind1 (eqInt_ev _ h.2.1) (EvP.ifF (by simp) (EvP.ret rfl)))))
theorem eqSlot_ev {s : TSlot} (h : gSlot s) : EvP (fun k => laws_eqSlot.f k s s) (· = true) := by
  unfold laws_eqSlot.f
  exact EvP.ifF (by simp) (EvP.bind1 (eqObj_ev h.1) (EvP.ifF (by simp) (EvP.ret rfl)))
theorem eqLive_ev (t : TLive) : EvP (fun k => laws_eqLive.f k t t) (· = true) := by
  unfold laws_eqLive.f
  exact EvP.ifF (by simp) (EvP.ifF (by simp) (EvP.ifF (by simp) (EvP.ret rfl)))
theorem eqLives_ev (xs : List TLive) (hl : xs.length ≤ 1048576) : EvP (fun k => laws_eqLiveS.f k xs xs) (· = true) := by
  unfold laws_eqLiveS.f laws_eqLiveS.c1
  refine EvP.ifF (by simp) (EvP.bind1 (a := Ex.go ()) ?_ (EvP.ret rfl))
  refine all_up (fun k i => laws_eqLiveS.l1 xs xs k i) xs.length _ ?_ ?_
  · intro i hi ih
    simp only [laws_eqLiveS.l1, rd_eq hi]
    refine EvP.ifT (by simpa using hi) (EvP.ifT (by omega) (EvP.ifT (by omega) (EvP.bind1 (eqLive_ev _) (EvP.ifF (by simp) ?_))))
    rw [w64_succ hi (by omega)]; exact ih
  · simp only [laws_eqLiveS.l1]
    exact EvP.ifF (by simp) (EvP.ret rfl)
theorem eqRec_ev {r : TRec} (h : gRec r) : EvP (fun k => laws_eqRec.f k r r) (· = true) := by
  unfold laws_eqRec.f
  exact EvP.ifF (by simp) (EvP.ifF (by simp) (EvP.ifF (by simp) (EvP.ifF (by simp) (EvP.ifF (by simp) (EvP.bind1 (eqSlot_ev h.1) (EvP.ifF (by simp) (EvP.bind1 (eqSlot_ev h.2.1) (EvP.ifF (by simp) (EvP.ifF (by simp) (EvP.bind1 (eqLives_ev _ h.2.2.1) (EvP.ifF (by simp) (EvP.ret rfl))))))))))))
theorem markI_ev (xs : List Int) (n : Int) (h0 : 0 ≤ n) (h1 : n ≤ 4503599627370496) (hl : xs.length ≤ 1125899906842624) : EvP (fun k => laws_markIntS.f k xs n) (fun r => r.1 = n + xs.length ∧ Hd EI r.2 n r.1) := by
  unfold laws_markIntS.f laws_markIntS.c1
  have hc : ∀ ys : List Int, (cnt (fun _ => 1) ys : Int) = ys.length := fun ys => by rw [cnt_one]; omega
  refine EvP.bind (Q := fun r => r.2 = n + xs.length ∧ Hd EI r.1 n r.2) ?_ fun r hr => EvP.ret hr
  refine mark_up (fun k ys m i => laws_markIntS.l1 k ys m i) EI (fun _ => 1) xs n _ ?_ ?_
  · intro i hi ys m hl2 hr hn hm ih
    rw [hc] at hm
    simp only [laws_markIntS.l1, hl2]
    refine EvP.ifT (by simpa using hi) (EvP.ifT (by omega) ?_)
    rw [w64_succ hi (by omega), w64_id (n := m + 1) (by omega) (by omega)]
    exact ih _ _ ⟨rfl, rfl⟩ (by omega)
  · intro ys hl2 hh
    rw [hc] at hh ⊢
    simp only [laws_markIntS.l1, hl2]
    exact EvP.ifF (by simp) (EvP.ret ⟨rfl, hh⟩)
theorem markB_ev (xs : List Int) (hl : xs.length ≤ 1125899906842624) : EvP (fun k => laws_markByteS.f k xs 1) (fun r => r.1 = 1 + xs.length) := by
  unfold laws_markByteS.f laws_markByteS.c1
  have hc : ∀ ys : List Int, (cnt (fun _ => 1) ys : Int) = ys.length := fun ys => by rw [cnt_one]; omega
  refine EvP.bind (Q := fun r => r.2 = 1 + (xs.length : Int)) ?_ fun r hr => EvP.ret hr
  refine mark_up (fun k ys m i => laws_markByteS.l1 k ys m i) (fun x a b => x = w8 a ∧ b = a + 1) (fun _ => 1) xs 1 _ ?_ ?_
  · intro i hi ys m hl2 hr hn hm ih
    rw [hc] at hm
    simp only [laws_markByteS.l1, hl2]
    refine EvP.ifT (by simpa using hi) (EvP.ifT (by omega) ?_)
    rw [w64_succ hi (by omega), w64_id (n := m + 1) (by omega) (by omega)]
    exact ih _ _ ⟨rfl, rfl⟩ (by omega)
  · intro ys hl2 hh
    rw [hc] at hh ⊢
    simp only [laws_markByteS.l1, hl2]
    exact EvP.ifF (by simp) (EvP.ret rfl)
theorem heldI_ev {xs : List Int} {n m : Int} (h : Hd EI xs n m) (h0 : 0 ≤ n) (h1 : m ≤ 9007199254740992) (hl : xs.length ≤ 1125899906842624) : EvP (fun k => laws_heldIntS.f k xs n) (· = m) := by
  unfold laws_heldIntS.f laws_heldIntS.c1
  refine EvP.bind1 (a := Ex.go m) ?_ (EvP.ret rfl)
  refine held_up (fun k a i => laws_heldIntS.l1 xs k a i) EI EI_le xs n m _ h ?_ ?_
  · rintro i hi a b ha hb ⟨e1, e2⟩ ih
    simp only [laws_heldIntS.l1, rd_eq hi]
    rw [w64_succ hi (by omega), w64_id (n := a + 1) (by omega) (by omega)]
    refine EvP.ifT (by simpa using hi) (EvP.ifT (by omega) (EvP.ifF (by simp [e1]) ?_))
    rw [← e2]; exact ih
  · simp only [laws_heldIntS.l1]
    exact EvP.ifF (by simp) (EvP.ret rfl)
theorem hd_lenI {xs : List Int} {n m : Int} (h : Hd EI xs n m) : m = n + xs.length := by
  induction h with
  | nil => simp
  | cons h1 _ ih => have := h1.2; simp only [List.length_cons]; omega
def EL (x : TLive) (a b : Int) : Prop := x.Tx = a ∧ x.Last = a + 1 ∧ x.Aborts = decide ((a + 1 + 1).tmod 3 = 0) ∧ b = a + 3
theorem EL_le (x : TLive) (a b : Int) (h : EL x a b) : a ≤ b := by have := h.2.2.2; omega
theorem hd_lenL {xs : List TLive} {n m : Int} (h : Hd EL xs n m) : m = n + 3 * xs.length := by
  induction h with
  | nil => simp
  | cons h1 _ ih => have := h1.2.2.2; simp only [List.length_cons]; omega
theorem markL_ev (xs : List TLive) (n : Int) (h0 : 0 ≤ n) (h1 : n ≤ 1125899906842624) (hl : xs.length ≤ 1125899906842624) : EvP (fun k => laws_markLiveS.f k xs n) (fun r => r.1 = n + 3 * xs.length ∧ Hd EL r.2 n r.1) := by
  unfold laws_markLiveS.f laws_markLiveS.c1
  have hc : ∀ ys : List TLive, (cnt (fun _ => 3) ys : Int) = 3 * ys.length := fun ys => by rw [cnt_one]; omega
  refine EvP.bind (Q := fun r => r.2 = n + 3 * xs.length ∧ Hd EL r.1 n r.2) ?_ fun r hr => EvP.ret hr
  refine mark_up (fun k ys m i => laws_markLiveS.l1 k ys m i) EL (fun _ => 3) xs n _ ?_ ?_
  · intro i hi ys m hl2 hr hn hm ih
    rw [hc] at hm
    simp only [laws_markLiveS.l1, wr_len, hl2]
    refine EvP.ifT (by simpa using hi) (EvP.ifT (by omega) (EvP.ifT (by omega) (EvP.ifT (by omega) ?_)))
    rw [w64_succ hi (by omega), w64_id (n := m + 1) (by omega) (by omega), w64_id (n := m + 1 + 1) (by omega) (by omega), w64_id (by omega) (by omega)]
    have h5 : ∀ (zs : List TLive) (u v : TLive), wr (wr zs (i : Int) u) (i : Int) v = wr zs (i : Int) v := fun zs u v => by simp [wr]
    have h6 : ∀ (zs : List TLive) (u : TLive), zs.length = xs.length → rd (wr zs (i : Int) u) (i : Int) = u := fun zs u hz => rd_wr_same (by omega) (by omega)
    rw [h5, h5, h6 _ _ hl2]
    rw [h6 _ _ (by rw [wr_len]; exact hl2)]
    exact ih _ _ ⟨rfl, rfl, rfl, by omega⟩ (by omega)
  · intro ys hl2 hh
    rw [hc] at hh ⊢
    simp only [laws_markLiveS.l1, hl2]
    exact EvP.ifF (by simp) (EvP.ret ⟨rfl, hh⟩)
theorem heldL_ev {xs : List TLive} {n m : Int} (h : Hd EL xs n m) (h0 : 0 ≤ n) (h1 : m ≤ 4503599627370496) (hl : xs.length ≤ 1125899906842624) : EvP (fun k => laws_heldLiveS.f k xs n) (· = m) := by
  unfold laws_heldLiveS.f laws_heldLiveS.c1
  refine EvP.bind1 (a := Ex.go m) ?_ (EvP.ret rfl)
  refine held_up (fun k a i => laws_heldLiveS.l1 xs k a i) EL EL_le xs n m _ h ?_ ?_
  · rintro i hi a b ha hb ⟨e1, e2, e3, e4⟩ ih
    simp only [laws_heldLiveS.l1, rd_eq hi]
    rw [w64_succ hi (by omega), w64_id (n := a + 1) (by omega) (by omega), w64_id (n := a + 1 + 1) (by omega) (by omega), w64_id (by omega) (by omega)]
    refine EvP.ifT (by simpa using hi) (EvP.ifT (by omega) (EvP.ifF (by simp [e1]) (EvP.ifT (by omega) (EvP.ifF (by simp [e2]) (EvP.ifT (by omega) (EvP.ifF (by simp [e3]) ?_))))))
    have : a + 1 + 1 + 1 = b := by omega
    rw [this]; exact ih
  · simp only [laws_heldLiveS.l1]
    exact EvP.ifF (by simp) (EvP.ret rfl)
def HO (o : TObj) (a b : Int) : Prop := ∃ m, Hd EI o.Ints a m ∧ Hd EI o.Refs m b
theorem HO_len {o : TObj} {a b : Int} (h : HO o a b) : b = a + o.Ints.length + o.Refs.length := by
  obtain ⟨m, h1, h2⟩ := h
  have := hd_lenI h1; have := hd_lenI h2; omega
theorem markO_ev {o : TObj} (h : gObj o) {n : Int} (h0 : 0 ≤ n) (h1 : n ≤ 4294967296) : EvP (fun k => laws_markObj.f k o n) (fun r => r.1 = n + o.Ints.length + o.Refs.length ∧ HO ⟨o.Kind, r.2.1, r.2.2⟩ n r.1) := by
  unfold laws_markObj.f
  have g1 := h.1; have g2 := h.2.1
  exact EvP.bind (markI_ev _ n h0 (by omega) (by omega)) fun a ha => EvP.bind (markI_ev _ a.1 (by omega) (by omega) (by omega)) fun b hb => EvP.ret ⟨by have := ha.1; have := hb.1; show b.1 = _; omega, a.1, ha.2, hb.2⟩
theorem heldO_ev {o : TObj} {n m : Int} (h : HO o n m) (h0 : 0 ≤ n) (h1 : m ≤ 4294967296) : EvP (fun k => laws_heldObj.f k o n) (· = m) := by
  obtain ⟨q, ha, hb⟩ := h
  have e1 := hd_lenI ha; have e2 := hd_lenI hb
  unfold laws_heldObj.f
  exact EvP.bind1 (heldI_ev ha h0 (by omega) (by omega)) (EvP.ifF (by simp; omega) (EvP.bind1 (heldI_ev hb (by omega) (by omega) (by omega)) (EvP.ifF (by simp; omega) (EvP.ret rfl))))
theorem markS_ev {s : TSlot} (h : gSlot s) {n : Int} (h0 : 0 ≤ n) (h1 : n ≤ 4294967296) : EvP (fun k => laws_markSlot.f k s n) (fun r => r.1 = n + s.O.Ints.length + s.O.Refs.length ∧ HO ⟨s.O.Kind, r.2.1, r.2.2⟩ n r.1) := by
  unfold laws_markSlot.f
  exact EvP.bind (markO_ev h.1 h0 h1) fun a ha => EvP.ret ha
theorem heldS_ev {s : TSlot} {n m : Int} (h : HO s.O n m) (h0 : 0 ≤ n) (h1 : m ≤ 4294967296) : EvP (fun k => laws_heldSlot.f k s n) (· = m) := by
  have := HO_len h
  unfold laws_heldSlot.f
  exact EvP.bind1 (heldO_ev h h0 h1) (EvP.ifF (by simp; omega) (EvP.ret rfl))
def HR (r : TRec) (m : Int) : Prop := ∃ a b, HO r.Before.O 1 a ∧ HO r.After.O a b ∧ Hd EL r.Txs b m
theorem heldR_ev {r : TRec} {m : Int} (h : HR r m) (h1 : m ≤ 4294967296) : EvP (fun k => laws_heldRec.f k r 1) (· = m) := by
  obtain ⟨a, b, ha, hb, hc⟩ := h
  have e1 := HO_len ha; have e2 := HO_len hb; have e3 := hd_lenL hc
  unfold laws_heldRec.f
  exact EvP.bind1 (heldS_ev ha (by omega) (by omega)) (EvP.ifF (by simp; omega) (EvP.bind1 (heldS_ev hb (by omega) (by omega)) (EvP.ifF (by simp; omega) (EvP.bind1 (heldL_ev hc (by omega) (by omega) (by omega)) (EvP.ifF (by simp; omega) (EvP.ret rfl))))))
namespace laws_FnExactGetRec
theorem ev {b : List Int} (hw : wfB b) : EvP (fun k => laws_FnExactGetRec.f k b) (· = true) := by
  unfold laws_FnExactGetRec.f
  refine EvP.ite (fun _ => EvP.ret rfl) fun h => ?_
  simp only [decide_eq_true_eq] at h
  have hl : b.length ≤ 1048576 := by omega
  obtain ⟨R, hR, hi⟩ := (GetRec_ev hw hl).cases
  have hs : EvP (fun k => spec_GetRec.f k b) (· = R) := (sGetRec_ev hw hl).mono fun r hr => hr.eq hR
  have hg : gRec R.1 := by
    cases hb : R.2 with
    | true => exact oRec_g (recB_ok (hR.1 hb).1)
    | false => rw [hR.2.1 hb]; exact ⟨zeroSlot_z, zeroSlot_z, by show 0 ≤ _; omega, trivial⟩
  refine EvP.bind1 (toByte_ev hl) (EvP.bind1 hs (EvP.bind1 (toByte_ev hl) (EvP.bind1 hi (EvP.bind1 (eqRec_ev hg) (EvP.ifF (by simp) (EvP.bind1 (toByte_ev hl) (EvP.bind1 (eqByte_ev _ hl) (EvP.ifF (by simp) (EvP.bind (markB_ev b (by omega)) fun mb hmb => ?_)))))))))
  refine EvP.bind1 (a := false) (EvP.ifF (by simp; omega) (EvP.bind1 (eqRec_ev hg) (EvP.ret rfl))) ?_
  unfold laws_FnExactGetRec.c1
  refine EvP.ifF (by simp) ?_
  have g1 := hg.1.1.1; have g2 := hg.1.1.2.1; have g3 := hg.2.1.1.1; have g4 := hg.2.1.1.2.1; have g5 := hg.2.2.1
  refine EvP.bind (Q := fun x : Int × List Int × List Int × List Int × List Int × List TLive => (0 ≤ x.1 ∧ x.1 ≤ 4294967296) ∧ HR (⟨R.1.Lsn, R.1.Tx, R.1.Prev, R.1.Kind, R.1.Oid, (⟨R.1.Before.Has, (⟨R.1.Before.O.Kind, x.2.1, x.2.2.1⟩ : TObj)⟩ : TSlot), (⟨R.1.After.Has, (⟨R.1.After.O.Kind, x.2.2.2.1, x.2.2.2.2.1⟩ : TObj)⟩ : TSlot), R.1.Next, x.2.2.2.2.2⟩ : TRec) x.1) ?_ fun x hx => ?_
  · unfold laws_markRec.f
    refine EvP.bind (markS_ev hg.1 (n := 1) (by omega) (by omega)) fun a ha => EvP.bind (markS_ev hg.2.1 (n := a.1) (by omega) (by omega)) fun c hc => EvP.bind (markL_ev _ c.1 (by omega) (by omega) (by omega)) fun d hd => EvP.ret ⟨?_, a.1, c.1, ha.2, hc.2, hd.2⟩
    have := ha.1; have := hc.1; have := hd.1
    show 0 ≤ d.1 ∧ d.1 ≤ _
    omega
  · obtain ⟨⟨x0, x1⟩, hx⟩ := hx
    exact EvP.bind1 (heldR_ev hx x1) (EvP.ifF (by simp; omega) (EvP.ifF (by simp) (EvP.bind1 (toByte_ev hl) (EvP.bind1 hi (EvP.bind1 (eqRec_ev hg) (EvP.ifF (by simp) (EvP.bind1 (heldR_ev hx x1) (EvP.ifF (by simp; omega) (EvP.ifF (by simp) (EvP.ret rfl))))))))))
theorem ok (xs : List Int) (hb : (xs.length ≤ maxLen ∧ ∀ q1 ∈ xs, (Lit.int .u8 q1).wf = true)) : ∃ k, laws_FnExactGetRec.f k xs = some true := (ev (wfB_of hb.2)).get
end laws_FnExactGetRec
end Go.Proofs.Ytocknibhajihmaa
