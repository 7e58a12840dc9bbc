/- The plain law of the locks: what is dropped is gone. Conditions: none. -/
import Derived.Test.YtbcpkopchnlefaaKwYE
set_option linter.unusedVariables false
set_option linter.unusedSimpArgs false
namespace Go.Proofs.Ytbcpkopchnlefaa
open Go.Kw

theorem at_ev {xs : List Int} (hl : xs.length ≤ 1048576) (hb : ∀ n ∈ xs, (Lit.int .u8 n).wf = true) {i : Int} (h0 : 0 ≤ i) (hi : i ≤ 100) : EvP (fun k => laws_at.f k xs i) (fun r => 0 ≤ r ∧ r ≤ 255) := by
  unfold laws_at.f
  refine EvP.iteD (fun h => EvP.ifT ⟨h0, by simpa using h⟩ (EvP.ret ?_)) fun h => EvP.ret ?_
  · have h1 := hb _ (rd_mem h0 (by simpa using h))
    simp only [Lit.wf, IntKind.min, IntKind.max, IntKind.signed, IntKind.bits] at h1
    simp at h1
    rw [w64_id (by omega) (by omega)]; omega
  · have e : w64 (w64 (i * 31) + w64 ((xs.length : Int) * 7)) = i * 31 + xs.length * 7 := by
      rw [w64_id (n := i * 31) (by omega) (by omega), w64_id (n := (xs.length : Int) * 7) (by omega) (by omega), w64_id (by omega) (by omega)]
    rw [e]
    have := tmod_range (a := i * 31 + xs.length * 7) (n := 256) (by omega) (by decide)
    omega

theorem dropM_ok {l : TLocks} (hok : OkM l) (hs : l.Given.length + l.Waits.length ≤ 60) (tx : Int) : OkM ⟨(dropM l tx).1, (dropM l tx).2.1⟩ ∧ (dropM l tx).1.length + (dropM l tx).2.1.length ≤ l.Given.length + l.Waits.length := by
  have hd := dropM_inv hok tx
  have hfl := List.length_filter_le (notTx tx) l.Given
  have hwl := List.length_filter_le (notTx tx) l.Waits
  have h1 := hd.len; have h2 := hd.all; have h3 := hd.sub.length_le
  refine ⟨⟨by simp only; omega, by simp only; omega, hd.gok, hd.pr, ?_, ?_⟩, by omega⟩
  · intro g hg
    exact hok.wok g (List.mem_filter.1 (hd.sub.subset hg)).1
  · have hp : l.Waits.Pairwise (fun a b => a.Tx ≠ b.Tx) := by
      rw [List.pairwise_iff_getElem]
      intro i j hi hj hij
      exact hok.wne j hj i hij
    have hq := ((hp.filter (notTx tx)).sublist hd.sub)
    rw [List.pairwise_iff_getElem] at hq
    intro i hi j hj
    exact hq j i (by simp only at hi; omega) hi hj
theorem askM_len {l : TLocks} {g : TGrant} : (askM l g).1.Given.length + (askM l g).1.Waits.length ≤ l.Given.length + l.Waits.length + 1 := by
  have h := giveM_len l.Given g (wouldM l.Given g)
  unfold askM
  split
  · simp only; omega
  · split
    · simp only; omega
    · split
      · split
        · simp only; omega
        · simp only; omega
      · split
        · simp only; omega
        · simp; omega
theorem okDraw_ev {xs b : List Int} {i h n : Int} (hl : xs.length ≤ 1048576) (hc : Cur xs b i) (hn : 1 ≤ n) (hn2 : n ≤ 30) : EvP (fun k => spec_l9Draw.f k b i h n) (fun r => (r.1.Given.length + r.1.Waits.length ≤ n.toNat ∧ OkM r.1) ∧ Cur xs r.2.1 r.2.2.1) := by
  unfold spec_l9Draw.f spec_l9Draw.c1
  refine EvP.bind (Q := fun r => (r.1.length + r.2.1.length ≤ n.toNat ∧ OkM ⟨r.1, r.2.1⟩) ∧ Cur xs r.2.2.1 r.2.2.2.1) (EvP.bind (l1Below_ev hl hc (by omega)) fun r0 hr0 => ?_) fun r hr => EvP.ret hr
  have : ∀ (m : Nat) {b : List Int} {i h : Int} {gs ws : List TGrant} {x : Int}, x = m → gs.length + ws.length + m ≤ n.toNat → OkM ⟨gs, ws⟩ → Cur xs b i →
      EvP (fun k => spec_l9Draw.l1 k b i h gs ws x) (fun r => (r.1.length + r.2.1.length ≤ n.toNat ∧ OkM ⟨r.1, r.2.1⟩) ∧ Cur xs r.2.2.1 r.2.2.2.1) := by
    intro m
    induction m with
    | zero =>
      intro b i h gs ws x hx hs hok hc
      refine EvP.succ ?_
      simp only [spec_l9Draw.l1]
      exact EvP.ifF (by simp; omega) (EvP.ret ⟨⟨by simp only; omega, hok⟩, hc⟩)
    | succ m ih =>
      intro b i h gs ws x hx hs hok hc
      refine EvP.succ ?_
      simp only [spec_l9Draw.l1, spec_l9Draw.c2]
      refine EvP.ifT (by simp; omega) (EvP.bind (Q := fun s => (s.2.2.2.1.length + s.2.2.2.2.length + m ≤ n.toNat ∧ OkM ⟨s.2.2.2.1, s.2.2.2.2⟩) ∧ Cur xs s.1 s.2.1) ?_ fun s hs' => ?_)
      · refine EvP.bind (l1Below_ev hl hc (by decide)) fun r1 hr1 => EvP.bind (l1Once_ev hl hr1.2.2 (by decide)) fun r2 hr2 => EvP.ite (fun _ => EvP.bind (Q := fun r => r.2.1.length + r.2.2.length + m ≤ n.toNat ∧ OkM ⟨r.2.1, r.2.2⟩) ?_ fun r3 hr3 => EvP.ret ⟨hr3, hr2⟩) fun _ => ?_
        · refine (sDrop_ev hok _).mono ?_
          rintro ⟨a, G, W⟩ hr
          have hd := dropM_ok hok (by simp only; omega) (w64 (1 + r1.1))
          have hdi := dropM_inv hok (w64 (1 + r1.1))
          rw [← hr] at hd hdi
          dsimp only at hd hdi ⊢
          exact ⟨by omega, hd.1⟩
        refine EvP.bind1 (sWaits_ev (l := ⟨gs, ws⟩) (by simp; omega) _) (EvP.iteD (fun hw => ?_) fun _ => EvP.ret ⟨⟨by simp only; omega, hok⟩, hr2⟩)
        refine EvP.bind (l1Below_ev hl hr2 (by decide)) fun r4 hr4 => EvP.bind (l1Below_ev hl hr4.2.2 (by decide)) fun r5 hr5 => ?_
        have e1 : w64 (1 + r1.1) = 1 + r1.1 := w64_id (by omega) (by omega)
        have e2 : w64 (1 + r5.1) = 1 + r5.1 := w64_id (by omega) (by omega)
        have hg : gOk ⟨w64 (1 + r1.1), r4.1, w64 (1 + r5.1)⟩ = true := by
          rw [e1, e2]; simp [gOk, mB]; omega
        have hw' : ws.any (fun x => decide (x.Tx = w64 (1 + r1.1))) = false := by simpa using hw
        refine EvP.bind (sl9Ask_ev (l := ⟨gs, ws⟩) hok (g := ⟨w64 (1 + r1.1), r4.1, w64 (1 + r5.1)⟩) hg (by simp only; omega) (by simp only; omega) hw') fun r6 hr6 => ?_
        refine EvP.ret ⟨?_, hr5.2.2⟩
        have hl6 := askM_len (l := ⟨gs, ws⟩) (g := ⟨w64 (1 + r1.1), r4.1, w64 (1 + r5.1)⟩)
        rw [← hr6.2] at hl6
        simp only at hl6 ⊢
        refine ⟨by omega, ?_⟩
        rw [hr6.2]
        rcases askM_ok (l := ⟨gs, ws⟩) (g := ⟨w64 (1 + r1.1), r4.1, w64 (1 + r5.1)⟩) (by simp only; omega) (by simp only; omega) with ⟨_, h2⟩ | ⟨_, h2, _⟩ | ⟨_, h2, _⟩
        · rw [h2]; exact hok
        · exact h2
        · exact h2
      · exact ih (by rw [w64_id (by omega) (by omega)]; omega) hs'.1.1 hs'.1.2 hs'.2
  exact this r0.1.toNat (by omega) (by simp; omega) ⟨by simp, by simp, by simp, by simp, by simp, by simp⟩ hr0.2.2
theorem DrawLocks_ev {xs : List Int} (hl : xs.length ≤ 1048576) : EvP (fun k => spec_DrawLocks.f k xs) (fun r => r.Given.length + r.Waits.length ≤ 30 ∧ OkM r) := by
  unfold spec_DrawLocks.f
  exact EvP.bind (l1New_ev hl) fun c hc => EvP.bind (l1Size_ev hl (by decide)) fun n hn => EvP.bind (okDraw_ev hl hc hn.1 hn.2) fun r hr => EvP.ret ⟨by have := hr.1.1; omega, hr.1.2⟩
theorem sameInts_ev (xs : List Int) (hl : xs.length ≤ 1000000) : EvP (fun k => laws_sameInts.f k xs xs) (· = true) := by
  unfold laws_sameInts.f laws_sameInts.c1
  refine EvP.ifF (by simp) (EvP.bind1 (a := Ex.go ()) ?_ (EvP.ret rfl))
  refine all_up (fun k i => laws_sameInts.l1 xs xs k i) xs.length _ ?_ ?_
  · intro i hi ih
    simp only [laws_sameInts.l1]
    refine EvP.ifT (by simpa using hi) (EvP.ifT (by omega) (EvP.ifT (by omega) (EvP.ifF (by simp) ?_)))
    rw [w64_succ hi (by omega)]; exact ih
  · simp only [laws_sameInts.l1]
    exact EvP.ifF (by simp) (EvP.ret rfl)
theorem count_take {α : Type} {xs : List α} {P : α → Bool} {i : Nat} (hi : i < xs.length) : ((xs.take (i + 1)).filter P).length = ((xs.take i).filter P).length + if P xs[i] = true then 1 else 0 := by
  rw [List.take_succ_eq_append_getElem hi, List.filter_append, List.length_append]
  congr 1
  by_cases h : P xs[i] = true
  · simp [h]
  · simp [h]
namespace laws_FnDropped
theorem ev {xs : List Int} (hb : ∀ n ∈ xs, (Lit.int .u8 n).wf = true) : EvP (fun k => laws_FnDropped.f k xs) (· = true) := by
  unfold laws_FnDropped.f
  refine EvP.bind1 (big_ev xs) (EvP.iteD (fun _ => EvP.ret rfl) fun hbig => ?_)
  simp at hbig
  refine EvP.bind (DrawLocks_ev (by omega)) fun l hl => ?_
  obtain ⟨hsz, hok⟩ := hl
  refine EvP.bind (at_ev (by omega) hb (by decide) (by decide)) fun a ha => ?_
  have hd := dropM_ok hok (by omega) (w64 (1 + a.tmod 5))
  have hdi := dropM_inv hok (w64 (1 + a.tmod 5))
  have hwl := List.length_filter_le (notTx (w64 (1 + a.tmod 5))) l.Waits
  have hgl := List.length_filter_le (notTx (w64 (1 + a.tmod 5))) l.Given
  have hall := hdi.all
  generalize htx : w64 (1 + a.tmod 5) = tx at *
  refine EvP.bind1 ((DropAll_ev l tx (by omega) (by omega)).mono fun r hr => hr.1 hok) (EvP.bind1 ((sDropAll_ev l tx (by omega) (by omega)).mono fun r hr => hr.1 hok) ?_)
  refine EvP.bind1 (sameInts_ev _ (by simp only; omega)) ?_
  refine EvP.bind1 (a := false) (EvP.ifF (by simp) (EvP.bind1 ((LocksOk_ev _).mono fun b hb => hb.2 hd.1) (EvP.ret rfl))) ?_
  unfold c7
  refine EvP.ifF (by simp) (EvP.bind1 (a := Ex.go ()) ?_ ?_)
  · refine all_up (fun k i => laws_FnDropped.l2 (⟨(dropM l tx).1, (dropM l tx).2.1⟩, (dropM l tx).2.2) a k i) (dropM l tx).1.length _ ?_ ?_
    · intro i hi ih
      simp only [laws_FnDropped.l2, rd_eq hi, htx]
      have h1 := hdi.ntx _ (List.getElem_mem hi)
      refine EvP.ifT (by simpa using hi) (EvP.ifT (by omega) (EvP.ifF (by simp [h1]) ?_))
      have h2 := hd.2
      rw [w64_succ hi (by omega)]; exact ih
    · simp only [laws_FnDropped.l2]
      exact EvP.ifF (by simp) (EvP.ret rfl)
  simp only [Ex.on]
  unfold c6
  refine EvP.bind1 (a := ((l.Waits.filter (notTx tx)).length : Int)) ?_ ?_
  · have := for_up (fun k (s : Int) i => laws_FnDropped.l1 l a k s i) l.Waits.length (fun i s => s = ((l.Waits.take i).filter (notTx tx)).length) (· = ((l.Waits.filter (notTx tx)).length : Int)) ?_ ?_ (i := 0) (s := 0) (Nat.zero_le _) (by simp)
    · exact this
    · intro i s hi hI ih
      simp only [laws_FnDropped.l1, laws_FnDropped.c5, rd_eq hi, htx]
      have hct := count_take (P := notTx tx) hi
      have hil : ((l.Waits.take i).filter (notTx tx)).length ≤ i := by
        have := List.length_filter_le (notTx tx) (l.Waits.take i)
        simp only [List.length_take] at this; omega
      refine EvP.ifT (by simpa using hi) (EvP.bind1 (a := ((((l.Waits.take (i + 1)).filter (notTx tx)).length : Nat) : Int)) (EvP.ifT (by omega) (EvP.ite (fun h => EvP.ret ?_) fun h => EvP.ret ?_)) ?_)
      · simp only [decide_eq_true_eq] at h
        rw [hct, if_pos (by simp [notTx, h]), hI, w64_id (by omega) (by omega)]; omega
      · simp only [decide_eq_true_eq] at h
        rw [hct, if_neg (by simp [notTx, h]), hI]; omega
      · rw [w64_succ hi (by omega)]; exact ih _ rfl
    · intro s hI
      simp only [laws_FnDropped.l1]
      refine EvP.ifF (by simp) (EvP.ret ?_)
      rw [List.take_of_length_le (Nat.le_refl _)] at hI; exact hI
  · unfold c4
    refine EvP.bind1 (Stuck_ev (by omega) (by omega)) (EvP.bind1 ((DropAll_ev l (stuckM l) (by omega) (by omega)).mono fun r hr => hr.1 hok) ?_)
    refine EvP.bind1 (a := true) (EvP.ifT ?_ (EvP.bind1 (sStuck_ev hok) (EvP.ret (by simp)))) ?_
    · rw [w64_id (by simp only; omega) (by simp only; omega)]
      simp only [decide_eq_true_eq]; omega
    · unfold c3 c2 c1
      have hd2 := dropM_ok hok (by omega) (stuckM l)
      have hdi2 := dropM_inv hok (stuckM l)
      refine EvP.bind1 (a := true) (EvP.ifT rfl (EvP.bind1 (a := true) ?_ (EvP.ret rfl))) (EvP.ret rfl)
      refine EvP.ite (fun h => EvP.ret rfl) fun h => ?_
      simp only [decide_eq_true_eq] at h
      refine EvP.bind1 (Stuck_ev (by have := hd2.1.g60; simp only at this ⊢; omega) (by have := hd2.1.w60; simp only at this ⊢; omega)) (EvP.ret ?_)
      have : stuckM ⟨(dropM l (stuckM l)).1, (dropM l (stuckM l)).2.1⟩ ≠ stuckM l := by
        rcases stuck_mem ⟨(dropM l (stuckM l)).1, (dropM l (stuckM l)).2.1⟩ with h1 | ⟨g, hg, h1⟩
        · rw [h1]; exact fun e => h e.symm
        · rw [← h1]
          have := (List.mem_filter.1 (hdi2.sub.subset hg)).2
          simpa [notTx] using this
      simp [this]
theorem ok (xs : List Int) (hb : (xs.length ≤ maxLen ∧ ∀ q1 ∈ xs, (Lit.int .u8 q1).wf = true)) : ∃ k, laws_FnDropped.f k xs = some true := (ev hb.2).get
end laws_FnDropped
end Go.Proofs.Ytbcpkopchnlefaa
