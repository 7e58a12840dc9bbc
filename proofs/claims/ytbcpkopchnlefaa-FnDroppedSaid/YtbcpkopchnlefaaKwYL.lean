/- The plain law of the locks: what is asked for is had. Conditions: none. -/
import Derived.Test.YtbcpkopchnlefaaKwYK
set_option linter.unusedVariables false
set_option linter.unusedSimpArgs false
namespace Go.Proofs.Ytbcpkopchnlefaa
open Go.Kw

theorem gOk_pos {g : TGrant} (h : gOk g = true) : 1 ≤ g.Mode := by simp [gOk, mB] at h; exact h.2.1
theorem hasM_zero {gs : List TGrant} (hgs : ∀ x ∈ gs, gOk x = true) (tx res : Int) : hasM gs tx res = 0 ↔ gs.any (forB tx res) = false := by
  unfold hasM
  split
  · rename_i h
    obtain ⟨i, hi, e, _⟩ := fidx_lt h
    rw [e, rd_eq hi]
    have := gOk_pos (hgs _ (List.getElem_mem hi))
    simp [h]; omega
  · rename_i h; simp only [Bool.not_eq_true] at h; rw [h]; simp
theorem sWould_eq {gs : List TGrant} (hgs : ∀ x ∈ gs, gOk x = true) (g : TGrant) : sWouldM gs g = wouldM gs g := by
  unfold sWouldM
  have h1 := hasM_zero hgs g.Tx g.Res
  unfold wouldM
  cases h : gs.any (forB g.Tx g.Res) with
  | true =>
    rw [if_neg (by rw [h1, h]; simp), if_pos rfl, bothM_symm]
    congr 1
    unfold hasM; rw [if_pos h]
  | false => rw [if_pos (h1.2 h)]; simp
theorem copy_ev {l : TLocks} (h1 : l.Given.length ≤ 1000) (h2 : l.Waits.length ≤ 1000) : EvP (fun k => spec_l9Copy.f k l) (· = l) := by
  unfold spec_l9Copy.f spec_l9Copy.c1
  exact EvP.bind1 (a := (l.Given, l.Waits)) (EvP.ifT (by simp; omega) (EvP.ifT (by simp; omega) (EvP.ret (by simp)))) (EvP.ret rfl)
/-- What the reference's asking says, where there is room. -/
theorem sl9Ask_ev {l : TLocks} (hok : OkM l) {g : TGrant} (hg : gOk g = true) (h1 : l.Given.length < 60) (h2 : l.Waits.length < 60) (hw : l.Waits.any (fun x => decide (x.Tx = g.Tx)) = false) :
    EvP (fun k => spec_l9Ask.f k l.Given l.Waits g) (fun r => r.1 = (askM l g).2 ∧ (⟨r.2.1, r.2.2⟩ : TLocks) = (askM l g).1) := by
  have hA : ¬ (¬ OkM l ∨ gOk g = false ∨ l.Waits.any (fun x => decide (x.Tx = g.Tx)) = true) := by simp [hok, hg, hw]
  unfold askM spec_l9Ask.f spec_l9Ask.c1
  rw [if_neg hA]
  refine EvP.bind1 (has_ev (l := l) (by omega) _ _) (EvP.bind1 (sWould_ev (l := l) (by omega) _) ?_)
  rw [sWould_eq hok.gok]
  have hwo := wouldM_ok hg hok.gok
  have hz := hasM_zero hok.gok g.Tx g.Res
  have hpos : 1 ≤ wouldM l.Given g := by have := hwo.1; simp [mB] at this; exact this.1
  have hcond : decide (wouldM l.Given g = hasM l.Given g.Tx g.Res) = true ↔ (l.Given.any (forB g.Tx g.Res) = true ∧ (rd l.Given (fidx (forB g.Tx g.Res) l.Given)).Mode = wouldM l.Given g) := by
    rw [decide_eq_true_eq]
    cases h : l.Given.any (forB g.Tx g.Res) with
    | true => unfold hasM; rw [if_pos h]; exact ⟨fun e => ⟨rfl, e.symm⟩, fun e => e.2.symm⟩
    | false => rw [hz.2 h]; constructor
               · intro e; omega
               · intro e; simp at e
  refine EvP.ite (fun h => EvP.ret ?_) fun h => ?_
  · rw [if_pos (hcond.1 h)]; exact ⟨rfl, rfl⟩
  · rw [hcond] at h
    rw [if_neg h]
    refine EvP.bind1 (a := (!l.Given.any (againstB g (wouldM l.Given g)) && (l.Given.any (forB g.Tx g.Res) || !l.Waits.any (fun x => decide (x.Res = g.Res))))) ?_ ?_
    · refine EvP.bind1 (fits_ev (l := l) (by omega) _ _) (EvP.iteD (fun h3 => ?_) fun h3 => EvP.ret (by rw [h3]; rfl))
      rw [h3]
      refine EvP.ite (fun h4 => EvP.ret ?_) fun h4 => EvP.bind1 (sForRes_ev (by omega) _) (EvP.ret ?_)
      · have : l.Given.any (forB g.Tx g.Res) = true := by
          cases h5 : l.Given.any (forB g.Tx g.Res) with
          | true => rfl
          | false => rw [hz.2 h5] at h4; simp at h4
        rw [this]; rfl
      · have : l.Given.any (forB g.Tx g.Res) = false := hz.1 (by simpa using h4)
        rw [this]; rfl
    · refine EvP.iteD (fun h3 => EvP.bind1 (sGive_ev (by omega) _ _) (EvP.ret ?_)) fun h3 => EvP.ifT (by omega) (EvP.ret ?_)
      · simp only [Bool.and_eq_true, Bool.not_eq_true', Bool.or_eq_true] at h3
        rw [if_pos h3, if_neg (by omega)]
        exact ⟨rfl, rfl⟩
      · have h4 : ¬ (l.Given.any (againstB g (wouldM l.Given g)) = false ∧ (l.Given.any (forB g.Tx g.Res) = true ∨ l.Waits.any (fun x => decide (x.Res = g.Res)) = false)) := by
          intro hc
          have : (!l.Given.any (againstB g (wouldM l.Given g)) && (l.Given.any (forB g.Tx g.Res) || !l.Waits.any (fun x => decide (x.Res = g.Res)))) = true := by
            simp only [Bool.and_eq_true, Bool.not_eq_true', Bool.or_eq_true]; exact hc
          rw [this] at h3; cases h3
        rw [if_neg h4, if_neg (by omega)]
        exact ⟨rfl, rfl⟩
theorem sAsk_ev (l : TLocks) (g : TGrant) (h1 : l.Given.length < 60) (h2 : l.Waits.length < 60) : EvP (fun k => spec_Ask.f k l g.Tx g.Res g.Mode) (fun r => r.2 = (askM l g).2) := by
  unfold spec_Ask.f spec_Ask.c2 spec_Ask.c1
  refine EvP.bind1 (copy_ev (by omega) (by omega)) (EvP.bind (sLocksOk_ev l) fun b hb => ?_)
  simp only [l9Grant_eq, Option.bind_some]
  have hn1 : ¬ ((l.Given.length : Int) = 60) := by omega
  have hn2 : ¬ ((l.Waits.length : Int) = 60) := by omega
  simp only [hn1, hn2, decide_false, Bool.or_false]
  by_cases hok : OkM l
  rotate_left
  · have hbf : b = false := by cases b <;> simp_all
    subst hbf
    refine EvP.bind1 (a := true) (EvP.ifT rfl (EvP.ret rfl)) (EvP.bind1 (a := true) (EvP.ifT rfl (EvP.ret rfl)) (EvP.ifT rfl (EvP.ret ?_)))
    unfold askM; rw [if_pos (.inl hok)]
  · have hbt : b = true := hb.2 hok
    subst hbt
    refine EvP.bind1 (a := !gOk g) (EvP.ifF (by simp) (EvP.ret rfl)) ?_
    cases hg : gOk g with
    | false =>
      refine EvP.bind1 (a := true) (EvP.ifT rfl (EvP.ret rfl)) (EvP.ifT rfl (EvP.ret ?_))
      unfold askM; rw [if_pos (.inr (.inl hg))]
    | true =>
      refine EvP.bind1 (a := l.Waits.any (fun x => decide (x.Tx = g.Tx))) (EvP.ifF (by simp) (EvP.bind1 (sWaits_ev (by omega) _) (EvP.ret rfl))) ?_
      cases hw : l.Waits.any (fun x => decide (x.Tx = g.Tx)) with
      | true =>
        refine EvP.ifT rfl (EvP.ret ?_)
        unfold askM; rw [if_pos (.inr (.inr hw))]
      | false => exact EvP.ifF (by simp) (EvP.bind (sl9Ask_ev hok hg h1 h2 hw) fun r hr => EvP.ret hr.1)
theorem wne_append {ws : List TGrant} {g : TGrant} (h : ∀ i (hi : i < ws.length) j (hj : j < i), (ws[j]'(by omega)).Tx ≠ ws[i].Tx) (hw : ws.any (fun x => decide (x.Tx = g.Tx)) = false) :
    ∀ i (hi : i < (ws ++ [g]).length) j (hj : j < i), ((ws ++ [g])[j]'(by omega)).Tx ≠ (ws ++ [g])[i].Tx := by
  intro i hi j hj
  simp only [List.length_append, List.length_singleton] at hi
  have hjl : j < ws.length := by omega
  rw [List.getElem_append_left hjl]
  by_cases hil : i < ws.length
  · rw [List.getElem_append_left hil]; exact h i hil j hj
  · have : i = ws.length := by omega
    subst this
    rw [List.getElem_append_right (by omega)]
    have := (any_false.1 hw) _ (List.getElem_mem hjl)
    simpa using this
/-- What asking gives, where it is not refused. -/
theorem askM_ok {l : TLocks} {g : TGrant} (h1 : l.Given.length < 60) (h2 : l.Waits.length < 60) :
    ((askM l g).2 = 2 ∧ (askM l g).1 = l) ∨
    ((askM l g).2 = 0 ∧ OkM (askM l g).1 ∧ (askM l g).1.Given.length < 61 ∧ gOk g = true ∧ (askM l g).1.Waits.any (fun x => decide (x.Tx = g.Tx)) = false ∧ (askM l g).1.Given.any (forB g.Tx g.Res) = true ∧
      ∃ m, 1 ≤ m ∧ bothM m g.Mode = m ∧ (∀ x ∈ (askM l g).1.Given, x.Tx = g.Tx → x.Res = g.Res → x.Mode = m)) ∨
    ((askM l g).2 = 1 ∧ OkM (askM l g).1 ∧ (askM l g).1.Waits = l.Waits ++ [g]) := by
  unfold askM
  split
  · exact .inl ⟨rfl, rfl⟩
  · rename_i hA
    simp only [not_or, Classical.not_not, Bool.not_eq_false, Bool.not_eq_true] at hA
    obtain ⟨hok, hg, hw⟩ := hA
    have hwo := wouldM_ok hg hok.gok
    have hpos : 1 ≤ wouldM l.Given g := by have := hwo.1; simp [mB] at this; exact this.1
    split
    · rename_i hB
      refine .inr (.inl ⟨rfl, hok, by simp only; omega, hg, hw, hB.1, wouldM l.Given g, hpos, hwo.2, ?_⟩)
      intro x hx e1 e2
      obtain ⟨i, hi, e, h3, _⟩ := fidx_lt hB.1
      have hBm := hB.2
      rw [e, rd_eq hi] at hBm
      rw [forB_iff] at h3
      obtain ⟨j, hj, rfl⟩ := List.getElem_of_mem hx
      rcases Nat.lt_trichotomy i j with h | h | h
      · have := (confB_false.1 (hok.gcf j hj i h) (by rw [h3.2, e2])).1
        exact absurd (by rw [h3.1, e1]) this
      · subst h; exact hBm
      · have := (confB_false.1 (hok.gcf i hi j h) (by rw [h3.2, e2])).1
        exact absurd (by rw [h3.1, e1]) this
    · split
      · rename_i hC
        rw [if_neg (by omega)]
        have hk := giveM_ok (g := g) (m := wouldM l.Given g) (gOk_mode hg hwo.1) hok.gok hok.gcf hC.1
        have hf := giveM_find hk.2
        have hl := giveM_len l.Given g (wouldM l.Given g)
        exact .inr (.inl ⟨rfl, ⟨by simp only; omega, hok.w60, hk.1, hk.2, hok.wok, hok.wne⟩, by simp only; omega, hg, hw, hf.1, wouldM l.Given g, hpos, hwo.2, hf.2.2⟩)
      · rw [if_neg (by omega)]
        refine .inr (.inr ⟨rfl, ⟨hok.g60, by simp; omega, hok.gok, hok.gcf, ?_, wne_append hok.wne hw⟩, rfl⟩)
        intro x hx
        rcases List.mem_append.1 hx with h | h
        · exact hok.wok x h
        · simp at h; subst h; exact hg
/-- What is had is got again. -/
theorem askM_again {l : TLocks} {g : TGrant} (hok : OkM l) (hg : gOk g = true) (hw : l.Waits.any (fun x => decide (x.Tx = g.Tx)) = false) (ha : l.Given.any (forB g.Tx g.Res) = true) {m : Int} (hm : bothM m g.Mode = m)
    (hx : ∀ x ∈ l.Given, x.Tx = g.Tx → x.Res = g.Res → x.Mode = m) : (askM l g).2 = 0 := by
  have hA : ¬ (¬ OkM l ∨ gOk g = false ∨ l.Waits.any (fun x => decide (x.Tx = g.Tx)) = true) := by simp [hok, hg, hw]
  unfold askM
  rw [if_neg hA, if_pos]
  refine ⟨ha, ?_⟩
  obtain ⟨i, hi, e, h3, _⟩ := fidx_lt ha
  unfold wouldM
  rw [if_pos ha, e, rd_eq hi]
  rw [forB_iff] at h3
  rw [hx _ (List.getElem_mem hi) h3.1 h3.2, bothM_symm, hm]
theorem has_ev2 (l : TLocks × Int) (x5 : TLocks × Int × Int × Int) (hl : l.1.Given.length < 1000) {m : Int} (ha : l.1.Given.any (forB x5.2.1 x5.2.2.1) = true) (hx : ∀ x ∈ l.1.Given, x.Tx = x5.2.1 → x.Res = x5.2.2.1 → x.Mode = m) :
    EvP (fun k => laws_FnLocked.l1 l x5 k 0 0) (· = m) := by
  have := for_up (fun k (s : Int) i => laws_FnLocked.l1 l x5 k s i) l.1.Given.length (fun i s => (s = m ∨ ∀ j (hj : j < l.1.Given.length), j < i → forB x5.2.1 x5.2.2.1 l.1.Given[j] = false)) (· = m) ?_ ?_ (i := 0) (s := 0) (Nat.zero_le _) (.inr fun j _ h => absurd h (by omega))
  · exact this
  · intro i s hi hI ih
    simp only [laws_FnLocked.l1, laws_FnLocked.c4, laws_FnLocked.c5, rd_eq hi]
    refine EvP.ifT (by simpa using hi) (EvP.bind1 (a := if forB x5.2.1 x5.2.2.1 l.1.Given[i] = true then m else s) (EvP.ifT (by omega) (EvP.bind1 (a := forB x5.2.1 x5.2.2.1 l.1.Given[i]) ?_ ?_)) ?_)
    · refine EvP.ite (fun h => EvP.ifT (by omega) (EvP.ret ?_)) fun h => EvP.ret ?_
      · simp only [decide_eq_true_eq] at h; simp [forB, h]
      · simp only [decide_eq_true_eq] at h; simp [forB, h]
    · refine EvP.iteD (fun h => EvP.ifT (by omega) (EvP.ret ?_)) fun h => EvP.ret (by rw [h]; simp)
      rw [forB_iff] at h
      rw [if_pos (forB_iff.2 h)]
      exact hx _ (List.getElem_mem hi) h.1 h.2
    · rw [w64_succ hi (by omega)]
      refine ih _ ?_
      cases hf : forB x5.2.1 x5.2.2.1 l.1.Given[i] with
      | true => exact .inl (by simp)
      | false =>
        simp only [Bool.false_eq_true, if_false]
        rcases hI with hI | hI
        · exact .inl hI
        · refine .inr fun j hj hji => ?_
          rcases Nat.lt_or_ge j i with h1 | h1
          · exact hI j hj h1
          · obtain rfl : j = i := by omega
            exact hf
  · intro s hI
    simp only [laws_FnLocked.l1]
    refine EvP.ifF (by simp) (EvP.ret ?_)
    rcases hI with hI | hI
    · exact hI
    · obtain ⟨x, hx1, hx2⟩ := List.any_eq_true.1 ha
      obtain ⟨j, hj, rfl⟩ := List.getElem_of_mem hx1
      rw [hI j hj hj] at hx2; cases hx2
theorem has_any (l : TLocks × Int) (x5 : TLocks × Int × Int × Int) (hl : l.1.Given.length < 1000) : EvP (fun k => laws_FnLocked.l1 l x5 k 0 0) (fun _ => True) := by
  have := for_up (fun k (s : Int) i => laws_FnLocked.l1 l x5 k s i) l.1.Given.length (fun i s => True) (fun _ => True) ?_ ?_ (i := 0) (s := 0) (Nat.zero_le _) trivial
  · exact this
  · intro i s hi hI ih
    simp only [laws_FnLocked.l1, laws_FnLocked.c4, laws_FnLocked.c5, rd_eq hi]
    refine EvP.ifT (by simpa using hi) (EvP.bind (Q := fun _ => True) (EvP.ifT (by omega) (EvP.bind (Q := fun _ => True) (EvP.ite (fun h => EvP.ifT (by omega) (EvP.ret trivial)) fun h => EvP.ret trivial) fun b _ => EvP.ite (fun h => EvP.ifT (by omega) (EvP.ret trivial)) fun h => EvP.ret trivial)) fun r _ => ?_)
    rw [w64_succ hi (by omega)]; exact ih _ trivial
  · intro s hI
    simp only [laws_FnLocked.l1]
    exact EvP.ifF (by simp) (EvP.ret trivial)
namespace laws_FnLocked
theorem ev {xs : List Int} (hb : ∀ n ∈ xs, (Lit.int .u8 n).wf = true) : EvP (fun k => laws_FnLocked.f k xs) (· = true) := by
  unfold laws_FnLocked.f
  refine EvP.bind1 (big_ev xs) (EvP.iteD (fun _ => EvP.ret rfl) fun hbig => ?_)
  simp at hbig
  refine EvP.bind (DrawAsk_ev (by omega)) ?_
  rintro ⟨l, tx, res, mode⟩ hsz
  dsimp only at hsz ⊢
  refine EvP.bind1 (Ask_ev l ⟨tx, res, mode⟩ (by omega) (by omega)) (EvP.bind (sAsk_ev l ⟨tx, res, mode⟩ (by omega) (by omega)) fun r hr => ?_)
  refine EvP.ifF (by simp [hr]) ?_
  unfold c3 c2 c1
  rcases askM_ok (l := l) (g := ⟨tx, res, mode⟩) (by omega) (by omega) with ⟨e1, e2⟩ | ⟨e1, hok, hl, hg, hw, ha, m, hm1, hm2, hx⟩ | ⟨e1, hok, e2⟩
  · refine EvP.ifT (by simp [e1]) (EvP.ret ?_)
    rw [e2]; simp
  · refine EvP.ifF (by simp [e1]) (EvP.bind1 (a := true) ((LocksOk_ev _).mono fun b hb => hb.2 hok) (EvP.ifF (by simp) ?_))
    refine EvP.bind1 (has_ev2 _ (l, tx, res, mode) (by omega) ha hx) ?_
    refine EvP.ifF (by simp [e1]) ?_
    refine EvP.bind (Q := fun r => r.2 = 0) ((Ask_ev (askM l ⟨tx, res, mode⟩).1 ⟨tx, res, mode⟩ (by omega) (by have := hok.w60; omega)).mono fun r hr => ?_) fun r hr => ?_
    · rw [hr]; exact askM_again hok hg hw ha hm2 hx
    · refine EvP.bind1 (a := true) (EvP.ifT (by simp; omega) ?_) (EvP.ret (by simp [hr]))
      simp only [Both_eq, Option.bind_some]
      refine EvP.ret ?_
      simp; exact hm2.symm ▸ rfl
  · refine EvP.ifF (by simp [e1]) (EvP.bind1 (a := true) ((LocksOk_ev _).mono fun b hb => hb.2 hok) (EvP.ifF (by simp) ?_))
    refine EvP.bind (has_any _ (l, tx, res, mode) (by have := hok.g60; omega)) fun x _ => EvP.ifT (by simp [e1]) ?_
    have hlen : (askM l ⟨tx, res, mode⟩).1.Waits.length = l.Waits.length + 1 := by rw [e2]; simp
    have h3 : w64 ((l.Waits.length : Int) + 1) = l.Waits.length + 1 := w64_id (by omega) (by omega)
    have h4 : w64 ((((l.Waits.length + 1 : Nat) : Int)) - 1) = l.Waits.length := by rw [w64_id (by omega) (by omega)]; omega
    refine EvP.bind1 (a := true) (EvP.ifT ?_ ?_) (EvP.ret rfl)
    · rw [hlen, h3]; simp
    · rw [hlen, h4, e2]
      refine EvP.ifT (by simp; omega) (EvP.ret ?_)
      rw [rd_eq (by simp)]; simp
theorem ok (xs : List Int) (hb : ∀ n ∈ xs, (Lit.int .u8 n).wf = true) : ∃ k, laws_FnLocked.f k xs = some true := (ev hb).get
end laws_FnLocked
end Go.Proofs.Ytbcpkopchnlefaa
