/- The plain law of the locks: dropping is as the reference tells, of memory of its own. Conditions: none. -/
import Derived.Test.YtbcpkopchnlefaaKwYM
import Derived.Test.YtbcpkopchnlefaaKwYIn
set_option linter.unusedVariables false
set_option linter.unusedSimpArgs false
namespace Go.Proofs.Ytbcpkopchnlefaa
open Go.Kw

theorem szG_ev (xs : List TGrant) (n : Int) (h0 : 0 ≤ n) (h1 : n ≤ 1048576) (hl : xs.length ≤ 9223372036854775807) : EvP (fun k => laws_szGrantS.f k xs n) (· = if (xs.length : Int) ≤ n then n - xs.length else -1) := by
  unfold laws_szGrantS.f
  rw [w64_id (by omega) (by omega)]
  refine EvP.ite (fun h => EvP.ret ?_) fun h => EvP.ret ?_
  · simp at h; rw [if_neg (by omega)]
  · simp at h; rw [if_pos (by omega)]
theorem toGrants_ev (xs : List TGrant) (hl : xs.length ≤ 1048576) : EvP (fun k => laws_toGrantS.f k xs) (· = xs) := by
  unfold laws_toGrantS.f laws_toGrantS.c1
  refine EvP.ifT (by omega) (EvP.bind1 (a := xs) ?_ (EvP.ret rfl))
  refine copy_up (fun k ys i => laws_toGrantS.l1 xs k ys i) xs _ ?_ ?_ _ (by simp)
  · intro i hi ys hl2 ih
    simp only [laws_toGrantS.l1, laws_toGrant.f, Option.bind_some, rd_eq hi]
    refine EvP.ifT (by simpa using hi) (EvP.ifT (by omega) (EvP.ifT (by omega) ?_))
    rw [w64_succ hi (by omega)]; exact ih
  · simp only [laws_toGrantS.l1]
    exact EvP.ifF (by simp) (EvP.ret rfl)
theorem toLocks_ev (l : TLocks) (h1 : l.Given.length ≤ 1048576) (h2 : l.Waits.length ≤ 1048576) : EvP (fun k => laws_toLocks.f k l) (· = l) := by
  unfold laws_toLocks.f
  exact EvP.bind1 (toGrants_ev _ h1) (EvP.bind1 (toGrants_ev _ h2) (EvP.ret rfl))
theorem eqGrants_ev (xs : List TGrant) (hl : xs.length ≤ 1125899906842624) : EvP (fun k => laws_eqGrantS.f k xs xs) (· = true) := by
  unfold laws_eqGrantS.f laws_eqGrantS.c1
  refine EvP.ifF (by simp) (EvP.bind1 (a := Ex.go ()) ?_ (EvP.ret rfl))
  refine all_up (fun k i => laws_eqGrantS.l1 xs xs k i) xs.length _ ?_ ?_
  · intro i hi ih
    simp only [laws_eqGrantS.l1, laws_eqGrant.f]
    refine EvP.ifT (by simpa using hi) (EvP.ifT (by omega) (EvP.ifT (by omega) ?_))
    refine EvP.bind1 (a := true) (EvP.ifF (by simp) (EvP.ifF (by simp) (EvP.ifF (by simp) (EvP.ret rfl)))) (EvP.ifF (by simp) ?_)
    rw [w64_succ hi (by omega)]; exact ih
  · simp only [laws_eqGrantS.l1]
    exact EvP.ifF (by simp) (EvP.ret rfl)
theorem eqLocks_ev (l : TLocks) (h1 : l.Given.length ≤ 1125899906842624) (h2 : l.Waits.length ≤ 1125899906842624) : EvP (fun k => laws_eqLocks.f k l l) (· = true) := by
  unfold laws_eqLocks.f
  exact EvP.bind1 (eqGrants_ev _ h1) (EvP.ifF (by simp) (EvP.bind1 (eqGrants_ev _ h2) (EvP.ifF (by simp) (EvP.ret rfl))))
theorem eqInts_ev (xs : List Int) (hl : xs.length ≤ 1125899906842624) : EvP (fun k => laws_eqIntS.f k xs xs) (· = true) := by
  unfold laws_eqIntS.f laws_eqIntS.c1
  refine EvP.ifF (by simp) (EvP.bind1 (a := Ex.go ()) ?_ (EvP.ret rfl))
  refine all_up (fun k i => laws_eqIntS.l1 xs xs k i) xs.length _ ?_ ?_
  · intro i hi ih
    simp only [laws_eqIntS.l1]
    refine EvP.ifT (by simpa using hi) (EvP.ifT (by omega) (EvP.ifT (by omega) (EvP.ifF (by simp) ?_)))
    rw [w64_succ hi (by omega)]; exact ih
  · simp only [laws_eqIntS.l1]
    exact EvP.ifF (by simp) (EvP.ret rfl)
def EG (x : TGrant) (a b : Int) : Prop := x.Tx = a ∧ x.Res = a + 1 ∧ x.Mode = a + 2 ∧ b = a + 3
theorem EG_le (x : TGrant) (a b : Int) (h : EG x a b) : a ≤ b := by have := h.2.2.2; omega
theorem markG_ev (xs : List TGrant) (n : Int) (h0 : 0 ≤ n) (h1 : n ≤ 1125899906842624) (hl : xs.length ≤ 1125899906842624) : EvP (fun k => laws_markGrantS.f k xs n) (fun r => r.1 = n + 3 * xs.length ∧ Hd EG r.2 n r.1) := by
  unfold laws_markGrantS.f laws_markGrantS.c1
  have hc : ∀ ys : List TGrant, (cnt (fun _ => 3) ys : Int) = 3 * ys.length := fun ys => by rw [cnt_one]; omega
  refine EvP.bind (Q := fun r => r.2 = n + 3 * xs.length ∧ Hd EG r.1 n r.2) ?_ fun r hr => EvP.ret hr
  refine mark_up (fun k ys m i => laws_markGrantS.l1 k ys m i) EG (fun _ => 3) xs n _ ?_ ?_
  · intro i hi ys m hl2 hr hn hm ih
    rw [hc] at hm
    simp only [laws_markGrantS.l1, wr_len, hl2]
    refine EvP.ifT (by simpa using hi) (EvP.ifT (by omega) (EvP.ifT (by omega) (EvP.ifT (by omega) ?_)))
    rw [w64_succ hi (by omega), w64_id (n := m + 1) (by omega) (by omega), w64_id (n := m + 1 + 1) (by omega) (by omega), w64_id (by omega) (by omega)]
    have h5 : ∀ (zs : List TGrant) (u v : TGrant), wr (wr zs (i : Int) u) (i : Int) v = wr zs (i : Int) v := fun zs u v => by simp [wr]
    have h6 : ∀ (zs : List TGrant) (u : TGrant), zs.length = xs.length → rd (wr zs (i : Int) u) (i : Int) = u := fun zs u hz => rd_wr_same (by omega) (by omega)
    rw [h5, h5, h6 _ _ hl2]
    rw [h6 _ _ (by rw [wr_len]; exact hl2)]
    exact ih _ _ ⟨rfl, rfl, by simp only; omega, by omega⟩ (by omega)
  · intro ys hl2 hh
    rw [hc] at hh ⊢
    simp only [laws_markGrantS.l1, hl2]
    exact EvP.ifF (by simp) (EvP.ret ⟨rfl, hh⟩)
theorem heldG_ev {xs : List TGrant} {n m : Int} (h : Hd EG xs n m) (h0 : 0 ≤ n) (h1 : m ≤ 4503599627370496) (hl : xs.length ≤ 1125899906842624) : EvP (fun k => laws_heldGrantS.f k xs n) (· = m) := by
  unfold laws_heldGrantS.f laws_heldGrantS.c1
  refine EvP.bind1 (a := Ex.go m) ?_ (EvP.ret rfl)
  refine held_up (fun k a i => laws_heldGrantS.l1 xs k a i) EG EG_le xs n m _ h ?_ ?_
  · rintro i hi a b ha hb ⟨e1, e2, e3, e4⟩ ih
    simp only [laws_heldGrantS.l1, rd_eq hi]
    rw [w64_succ hi (by omega), w64_id (n := a + 1) (by omega) (by omega), w64_id (n := a + 1 + 1) (by omega) (by omega), w64_id (by omega) (by omega)]
    refine EvP.ifT (by simpa using hi) (EvP.ifT (by omega) (EvP.ifF (by simp [e1]) (EvP.ifT (by omega) (EvP.ifF (by simp [e2]) (EvP.ifT (by omega) (EvP.ifF (by simp [e3]; omega) ?_))))))
    have : a + 1 + 1 + 1 = b := by omega
    rw [this]; exact ih
  · simp only [laws_heldGrantS.l1]
    exact EvP.ifF (by simp) (EvP.ret rfl)
theorem markI_ev (xs : List Int) (n : Int) (h0 : 0 ≤ n) (h1 : n ≤ 4503599627370496) (hl : xs.length ≤ 1125899906842624) : EvP (fun k => laws_markIntS.f k xs n) (fun r => r.1 = n + xs.length ∧ Hd EI r.2 n r.1) := by
  unfold laws_markIntS.f laws_markIntS.c1
  have hc : ∀ ys : List Int, (cnt (fun _ => 1) ys : Int) = ys.length := fun ys => by rw [cnt_one]; omega
  refine EvP.bind (Q := fun r => r.2 = n + xs.length ∧ Hd EI r.1 n r.2) ?_ fun r hr => EvP.ret hr
  refine mark_up (fun k ys m i => laws_markIntS.l1 k ys m i) EI (fun _ => 1) xs n _ ?_ ?_
  · intro i hi ys m hl2 hr hn hm ih
    rw [hc] at hm
    simp only [laws_markIntS.l1, hl2]
    refine EvP.ifT (by simpa using hi) (EvP.ifT (by omega) ?_)
    rw [w64_succ hi (by omega), w64_id (n := m + 1) (by omega) (by omega)]
    exact ih _ _ ⟨rfl, rfl⟩ (by omega)
  · intro ys hl2 hh
    rw [hc] at hh ⊢
    simp only [laws_markIntS.l1, hl2]
    exact EvP.ifF (by simp) (EvP.ret ⟨rfl, hh⟩)
theorem heldI_ev {xs : List Int} {n m : Int} (h : Hd EI xs n m) (h0 : 0 ≤ n) (h1 : m ≤ 9007199254740992) (hl : xs.length ≤ 1125899906842624) : EvP (fun k => laws_heldIntS.f k xs n) (· = m) := by
  unfold laws_heldIntS.f laws_heldIntS.c1
  refine EvP.bind1 (a := Ex.go m) ?_ (EvP.ret rfl)
  refine held_up (fun k a i => laws_heldIntS.l1 xs k a i) EI EI_le xs n m _ h ?_ ?_
  · rintro i hi a b ha hb ⟨e1, e2⟩ ih
    simp only [laws_heldIntS.l1, rd_eq hi]
    rw [w64_succ hi (by omega), w64_id (n := a + 1) (by omega) (by omega)]
    refine EvP.ifT (by simpa using hi) (EvP.ifT (by omega) (EvP.ifF (by simp [e1]) ?_))
    rw [← e2]; exact ih
  · simp only [laws_heldIntS.l1]
    exact EvP.ifF (by simp) (EvP.ret rfl)
theorem hd_len3 {xs : List TGrant} {n m : Int} (h : Hd EG xs n m) : m = n + 3 * xs.length := by
  induction h with
  | nil => simp
  | cons h1 _ ih => have := h1.2.2.2; simp only [List.length_cons]; omega
theorem hd_len1 {xs : List Int} {n m : Int} (h : Hd EI xs n m) : m = n + xs.length := by
  induction h with
  | nil => simp
  | cons h1 _ ih => have := h1.2; simp only [List.length_cons]; omega
def HL (l : TLocks) (a b : Int) : Prop := ∃ m, Hd EG l.Given a m ∧ Hd EG l.Waits m b
theorem markL_ev (l : TLocks) (h1 : l.Given.length ≤ 2097152) (h2 : l.Waits.length ≤ 2097152) : EvP (fun k => laws_markLocks.f k l 1) (fun r => r.1 = 1 + 3 * l.Given.length + 3 * l.Waits.length ∧ HL ⟨r.2.1, r.2.2⟩ 1 r.1) := by
  unfold laws_markLocks.f
  refine EvP.bind (markG_ev _ 1 (by omega) (by omega) (by omega)) fun a ha => EvP.bind (markG_ev _ a.1 (by omega) (by omega) (by omega)) fun b hb => EvP.ret ⟨by omega, a.1, ha.2, hb.2⟩
theorem heldL_ev {l : TLocks} {m : Int} (h : HL l 1 m) (h1 : m ≤ 1125899906842624) : EvP (fun k => laws_heldLocks.f k l 1) (· = m) := by
  obtain ⟨q, hg, hw⟩ := h
  have e1 := hd_len3 hg; have e2 := hd_len3 hw
  unfold laws_heldLocks.f
  exact EvP.bind1 (heldG_ev hg (by omega) (by omega) (by omega)) (EvP.ifF (by simp; omega) (EvP.bind1 (heldG_ev hw (by omega) (by omega) (by omega)) (EvP.ifF (by simp; omega) (EvP.ret rfl))))
namespace laws_FnExactDropAll
theorem ev (l : TLocks) (tx : Int) (hb1 : l.Given.length ≤ 9223372036854775807) (hb2 : l.Waits.length ≤ 9223372036854775807) : EvP (fun k => laws_FnExactDropAll.f k l tx) (· = true) := by
  unfold laws_FnExactDropAll.f
  refine EvP.bind (Q := fun r => 0 ≤ r → l.Given.length ≤ 1048576 ∧ l.Waits.length ≤ 1048576) ?_ fun r hr => EvP.ite (fun _ => EvP.ret rfl) fun h => ?_
  · unfold laws_szLocks.f
    refine EvP.bind1 (szG_ev _ _ (by omega) (by omega) hb1) ?_
    by_cases h1 : (l.Given.length : Int) ≤ 1048576
    · rw [if_pos h1]
      refine EvP.ifF (by simp; omega) (EvP.bind1 (szG_ev _ _ (by omega) (by omega) hb2) ?_)
      by_cases h2 : (l.Waits.length : Int) ≤ 1048576 - l.Given.length
      · rw [if_pos h2]; exact EvP.ifF (by simp; omega) (EvP.ret fun _ => by omega)
      · rw [if_neg h2]; exact EvP.ifT (by decide) (EvP.ret fun h => absurd h (by decide))
    · rw [if_neg h1]; exact EvP.ifT (by decide) (EvP.ret fun h => absurd h (by decide))
  · obtain ⟨h1, h2⟩ := hr (by simpa using h)
    obtain ⟨R, hR, hi, hs⟩ : ∃ R : TLocks × List Int, (R.1.Given.length ≤ 1048576 ∧ R.1.Waits.length ≤ 1048576 ∧ R.2.length ≤ 1048576) ∧ EvP (fun k => impl_DropAll.f k l tx) (· = R) ∧ EvP (fun k => spec_DropAll.f k l tx) (· = R) := by
      by_cases hok : OkM l
      · have hd := dropM_inv hok tx
        have g60 := hok.g60; have w60 := hok.w60
        have hfl := List.length_filter_le (notTx tx) l.Given
        have hwl := List.length_filter_le (notTx tx) l.Waits
        have a1 := hd.len; have a2 := hd.all
        exact ⟨_, ⟨by simp only; omega, by simp only; omega, by simp only; omega⟩, (DropAll_ev l tx (by omega) (by omega)).mono fun r hr => hr.1 hok, (sDropAll_ev l tx (by omega) (by omega)).mono fun r hr => hr.1 hok⟩
      · exact ⟨(l, []), ⟨h1, h2, by simp⟩, (DropAll_ev l tx (by omega) (by omega)).mono fun r hr => hr.2 hok, (sDropAll_ev l tx (by omega) (by omega)).mono fun r hr => hr.2 hok⟩
    obtain ⟨r1, r2, r3⟩ := hR
    have eqR := eqLocks_ev R.1 (by omega) (by omega)
    have eqI := eqInts_ev R.2 (by omega)
    have pair : EvP (fun k => (if (!true) = true then some true else ((laws_eqIntS.f k R.2 R.2).bind fun x => some (!x)) : Option Bool)) (· = false) := EvP.ifF (by simp) (EvP.bind1 eqI (EvP.ret rfl))
    refine EvP.bind1 (toLocks_ev l h1 h2) (EvP.bind1 hs (EvP.bind1 (toLocks_ev l h1 h2) (EvP.bind1 hi (EvP.bind1 eqR (EvP.bind1 pair ?_)))))
    unfold c4
    refine EvP.ifF (by simp) (EvP.bind1 (toLocks_ev l h1 h2) (EvP.bind1 (eqLocks_ev l (by omega) (by omega)) (EvP.ifF (by simp) (EvP.bind (markL_ev l (by omega) (by omega)) fun m hm => ?_))))
    refine EvP.bind1 (a := false) (EvP.ifF (by simp; omega) (EvP.bind1 eqR (EvP.ret rfl))) ?_
    unfold c3
    refine EvP.bind1 (a := false) (EvP.ifF (by simp) (EvP.bind1 eqI (EvP.ret rfl))) ?_
    unfold c2
    refine EvP.ifF (by simp) (EvP.bind (markL_ev R.1 (by omega) (by omega)) fun a ha => EvP.bind (markI_ev R.2 a.1 (by omega) (by omega) (by omega)) fun b hb => ?_)
    have e1 := hd_len1 hb.2
    have hH := heldL_ev (m := a.1) ha.2 (by omega)
    have hI := heldI_ev (m := b.1) hb.2 (by omega) (by omega) (by omega)
    refine EvP.bind1 hH (EvP.ifF (by simp; omega) (EvP.bind1 hI (EvP.ifF (by simp; omega) (EvP.ifF (by simp) ?_))))
    refine EvP.bind1 (toLocks_ev l h1 h2) (EvP.bind1 hi (EvP.bind1 eqR (EvP.bind1 pair ?_)))
    unfold c1
    exact EvP.ifF (by simp) (EvP.bind1 hH (EvP.ifF (by simp; omega) (EvP.bind1 hI (EvP.ifF (by simp; omega) (EvP.ifF (by simp) (EvP.ret rfl))))))
theorem ok (l : TLocks) (tx : Int) (h0 : wTLocks l) (h1 : (Lit.int .i64 tx).wf = true) : ∃ k, laws_FnExactDropAll.f k l tx = some true := (ev l tx h0.1.1 h0.2.1.1).get
end laws_FnExactDropAll
end Go.Proofs.Ytbcpkopchnlefaa
