/- The plain law of the locks: dropping. Conditions: none. -/
import Derived.Test.YtbcpkopchnlefaaKwYL
import Derived.Test.YtbcpkopchnlefaaKwO
set_option linter.unusedVariables false
set_option linter.unusedSimpArgs false
namespace Go.Proofs.Ytbcpkopchnlefaa
open Go.Kw

def resB (g x : TGrant) : Bool := decide (x.Res = g.Res)
def holdB (G left : List TGrant) (g : TGrant) : Bool := left.any (resB g) || G.any (againstB g (wouldM G g))
def dropStep (s : List TGrant × List TGrant × List Int) (g : TGrant) : List TGrant × List TGrant × List Int :=
  if holdB s.1 s.2.1 g = true then (s.1, s.2.1 ++ [g], s.2.2) else (giveM s.1 g (wouldM s.1 g), s.2.1, s.2.2 ++ [g.Tx])
def notTx (tx : Int) (g : TGrant) : Bool := decide (g.Tx ≠ tx)
def dropM (l : TLocks) (tx : Int) : List TGrant × List TGrant × List Int := (l.Waits.filter (notTx tx)).foldl dropStep (l.Given.filter (notTx tx), [], [])
/-- What dropping keeps. -/
structure DInv (tx : Int) (gs ws : List TGrant) (s : List TGrant × List TGrant × List Int) : Prop where
  gok : ∀ x ∈ s.1, gOk x = true
  pr : PairOk s.1
  ntx : ∀ x ∈ s.1, x.Tx ≠ tx
  len : s.1.length + s.2.1.length ≤ gs.length + ws.length
  sub : s.2.1.Sublist ws
  all : s.2.1.length + s.2.2.length = ws.length
theorem DInv.step {tx : Int} {gs ws : List TGrant} {s : List TGrant × List TGrant × List Int} {g : TGrant} (h : DInv tx gs ws s) (hg : gOk g = true) (hn : g.Tx ≠ tx) : DInv tx gs (ws ++ [g]) (dropStep s g) := by
  unfold dropStep
  have hl := h.len; have ha := h.all
  split
  · exact ⟨h.gok, h.pr, h.ntx, by simp; omega, List.Sublist.append h.sub (List.Sublist.refl _), by simp; omega⟩
  · rename_i hh
    simp only [holdB, Bool.or_eq_true, not_or, Bool.not_eq_true] at hh
    have hwo := wouldM_ok hg h.gok
    have hk := giveM_ok (gOk_mode hg hwo.1) h.gok h.pr hh.2
    have hgl := giveM_len s.1 g (wouldM s.1 g)
    refine ⟨hk.1, hk.2, ?_, by simp; omega, h.sub.trans (List.sublist_append_left _ _), by simp; omega⟩
    intro x hx
    cases hc : s.1.any (forB g.Tx g.Res) with
    | true =>
      obtain ⟨i, hi, e1, e2, e, _⟩ := giveM_hit (m := wouldM s.1 g) hc
      rw [e] at hx
      rcases List.mem_or_eq_of_mem_set hx with h3 | rfl
      · exact h.ntx x h3
      · exact hn
    | false =>
      rw [giveM_miss hc] at hx
      rcases List.mem_append.1 hx with h3 | h3
      · exact h.ntx x h3
      · simp at h3; subst h3; exact hn
theorem drop_inv {tx : Int} {gs : List TGrant} : ∀ (ws us : List TGrant) (s : List TGrant × List TGrant × List Int), DInv tx gs us s → (∀ g ∈ ws, gOk g = true ∧ g.Tx ≠ tx) → DInv tx gs (us ++ ws) (ws.foldl dropStep s)
  | [], us, s, h, _ => by simpa using h
  | w :: ws, us, s, h, hw => by
    have h1 := hw w (List.mem_cons_self ..)
    have := drop_inv ws (us ++ [w]) (dropStep s w) (h.step h1.1 h1.2) fun g hg => hw g (List.mem_cons_of_mem _ hg)
    simpa using this
theorem pair_filter {gs : List TGrant} (h : PairOk gs) (p : TGrant → Bool) : PairOk (gs.filter p) := PairOk.of (h.pair.filter p)
theorem dropM_inv {l : TLocks} (hok : OkM l) (tx : Int) : DInv tx (l.Given.filter (notTx tx)) (l.Waits.filter (notTx tx)) (dropM l tx) := by
  have := drop_inv (tx := tx) (gs := l.Given.filter (notTx tx)) (l.Waits.filter (notTx tx)) [] (l.Given.filter (notTx tx), [], [])
    ⟨fun x hx => hok.gok x (List.mem_filter.1 hx).1, pair_filter hok.gcf _, fun x hx => by have := (List.mem_filter.1 hx).2; simpa [notTx] using this, by simp, List.Sublist.refl _, rfl⟩
    (fun g hg => ⟨hok.wok g (List.mem_filter.1 hg).1, by have := (List.mem_filter.1 hg).2; simpa [notTx] using this⟩)
  simpa [dropM] using this
/-- States on the way. -/
theorem drop_take {ws : List TGrant} {s0 : List TGrant × List TGrant × List Int} {i : Nat} (hi : i < ws.length) : (ws.take (i + 1)).foldl dropStep s0 = dropStep ((ws.take i).foldl dropStep s0) ws[i] := by
  rw [List.take_succ_eq_append_getElem hi, List.foldl_append]; rfl
theorem del_ev {gs : List TGrant} (hl : gs.length ≤ 1000) (tx : Int) : EvP (fun k => impl_Grant_52_151.f k gs tx) (· = gs.filter (notTx tx)) := by
  unfold impl_Grant_52_151.f impl_Grant_63_151.f
  have hP : (fun x : TGrant => !decide (x.Tx = tx)) = notTx tx := by funext x; simp [notTx]
  refine EvP.bind1 (index_ev (impl_Grant_63_151.l1 gs tx) _ (fun k x => impl_DropAll_1.f k x tx) gs (fun x => decide (x.Tx = tx)) (by omega) (fun k i => rfl) (fun _ => rfl) fun x _ => EvP.ret rfl) ?_
  cases h : gs.any (fun x => decide (x.Tx = tx)) with
  | false =>
    refine EvP.ifT (by simp [fidx, h]) (EvP.ret ?_)
    have := filter_none h
    rw [hP] at this; exact this.symm
  | true =>
    have e : fidx (fun x => decide (x.Tx = tx)) gs = (gs.findIdx (fun x => decide (x.Tx = tx)) : Int) := by unfold fidx; rw [if_pos h]
    have hi : gs.findIdx (fun x => decide (x.Tx = tx)) < gs.length := List.findIdx_lt_length_of_exists (by simpa using h)
    refine EvP.ifF (by rw [e]; simp) ?_
    rw [e, w64_succ hi (by omega)]
    refine EvP.bind (Q := fun r => r.1.length = gs.length ∧ ∃ j : Nat, r.2 = (j : Int) ∧ j ≤ gs.length ∧ r.1.take j = gs.filter (notTx tx)) ?_ ?_
    · refine del_up (fun k ys j i => impl_Grant_52_151.l1 tx k ys j i) (fun x => decide (x.Tx = tx)) gs _ ?_ ?_ h
      · intro i hi ys j h1 h2 h3 k1 k2
        simp only [impl_Grant_52_151.l1, impl_Grant_52_151.c2, impl_DropAll_1.f, Option.bind_some, h3, h1]
        refine EvP.ifT (by simpa using hi) ?_
        cases hp : decide (gs[i].Tx = tx) with
        | true =>
          refine EvP.bind1 (a := (ys, (j : Int))) (EvP.ifT (by omega) (EvP.ifF (by simp) (EvP.ret rfl))) ?_
          rw [w64_succ hi (by omega)]; exact k2 hp
        | false =>
          refine EvP.bind1 (a := (wr ys (j : Int) gs[i], ((j + 1 : Nat) : Int))) (EvP.ifT (by omega) (EvP.ifT (by simp) (EvP.ifT (by omega) (EvP.ret ?_)))) ?_
          · rw [w64_succ (n := gs.length) (by omega) (by omega)]
          · rw [w64_succ hi (by omega)]; exact k1 hp
      · intro ys j h1 h2 h3
        simp only [impl_Grant_52_151.l1, h1]
        refine EvP.ifF (by simp) (EvP.ret ⟨h1, j, rfl, h2, ?_⟩)
        rw [h3, hP]
    · rintro ⟨ys, q⟩ ⟨h1, j, rfl, h2, h3⟩
      unfold impl_Grant_52_151.c1
      dsimp only at h1 h3 ⊢
      refine EvP.ifT (by omega) (EvP.ifT ?_ (EvP.ret ?_))
      · simp; omega
      · simp only [cut, Int.toNat_natCast]
        rw [List.take_append_of_le_length (by simp; omega), List.take_take, Nat.min_self]
        simpa using h3
theorem forRes2_ev {ws : List TGrant} (hl : ws.length < 9223372036854775808) (g : TGrant) : EvP (fun k => impl_Grant_36_253.f k ws g) (· = ws.any (resB g)) := by
  unfold impl_Grant_36_253.f impl_Grant_63_253.f
  refine EvP.bind1 (index_ev (impl_Grant_63_253.l1 ws g) _ (fun k x => impl_DropAll_2.f k x g) ws (resB g) hl (fun k i => rfl) (fun _ => rfl) fun x _ => EvP.ret rfl) (EvP.ret ?_)
  cases h : ws.any (resB g) with
  | true => simpa using fidx_pos.2 h
  | false => simpa using fidx_neg.2 h
theorem iDrop_loop {ws gs : List TGrant} {tx : Int} (hws : ws.length ≤ 60) (hgs : gs.length ≤ 60) (hi0 : DInv tx gs [] (gs, [], [])) (hw : ∀ g ∈ ws, gOk g = true ∧ g.Tx ≠ tx) :
    EvP (fun k => impl_DropAll.l1 ws k ([] : List TGrant) ([] : List Int) gs 0) (fun r => (r.2.2, r.1, r.2.1) = ws.foldl dropStep (gs, [], [])) := by
  have := for_up (fun k (s : List TGrant × List TGrant × List Int) i => impl_DropAll.l1 ws k s.2.1 s.2.2 s.1 i) ws.length (fun i s => s = (ws.take i).foldl dropStep (gs, [], [])) (fun r => (r.2.2, r.1, r.2.1) = ws.foldl dropStep (gs, [], [])) ?_ ?_ (i := 0) (s := (gs, [], [])) (Nat.zero_le _) rfl
  · exact this
  · rintro i ⟨G, left, got⟩ hi hI ih
    have hinv := drop_inv (tx := tx) (gs := gs) (ws.take i) [] (gs, [], []) hi0 fun g hg => hw g (List.mem_of_mem_take hg)
    rw [← hI, List.nil_append] at hinv
    have h1 := hinv.len; have h2 := hinv.all; have h3 := hinv.sub.length_le
    simp only [List.length_take] at h1 h2 h3
    simp only [impl_DropAll.l1, impl_DropAll.c2, impl_DropAll.c3, rd_eq hi]
    refine EvP.ifT (by simpa using hi) (EvP.bind (Q := fun r => (r.2.2, r.1, r.2.1) = dropStep (G, left, got) ws[i]) (EvP.ifT (by omega) ?_) ?_)
    · refine EvP.bind1 (would_ev (l := ⟨G, []⟩) (by simp; omega) _) (EvP.bind1 (forRes2_ev (by omega) _) (EvP.bind1 (a := holdB G left ws[i]) ?_ ?_))
      · cases hr : left.any (resB ws[i]) with
        | true => exact EvP.ifT rfl (EvP.ret (by simp [holdB, hr]))
        | false => exact EvP.ifF (by simp) (EvP.bind1 (allGo_ev (l := ⟨G, []⟩) (by simp; omega) _ _) (EvP.ret (by simp [holdB, hr])))
      · unfold dropStep
        refine EvP.iteD (fun h => EvP.ifT (by omega) (EvP.ret ?_)) fun h => EvP.bind1 (give_ev (by omega) _ _) (EvP.ifT (by omega) (EvP.ret ?_))
        · simp only [h, if_true]
        · simp only [h, Bool.false_eq_true, if_false]
    · rintro ⟨a, b, c⟩ hr
      dsimp only at hr ⊢
      rw [w64_succ hi (by omega)]
      refine ih (c, a, b) ?_
      rw [drop_take hi, ← hI]; exact hr
  · rintro ⟨G, left, got⟩ hI
    simp only [impl_DropAll.l1]
    refine EvP.ifF (by simp) (EvP.ret ?_)
    rw [List.take_of_length_le (Nat.le_refl _)] at hI
    exact hI
theorem DropAll_ev (l : TLocks) (tx : Int) (h1 : l.Given.length ≤ 1048576) (h2 : l.Waits.length ≤ 1048576) : EvP (fun k => impl_DropAll.f k l tx)
    (fun r => (OkM l → r = (⟨(dropM l tx).1, (dropM l tx).2.1⟩, (dropM l tx).2.2)) ∧ (¬ OkM l → r = (l, []))) := by
  have hclone : EvP (fun k => impl_cloneLocks.f k l) (· = l) := by
    unfold impl_cloneLocks.f impl_Grant_61.f
    exact EvP.bind1 (EvP.ifT (by simp; omega) (EvP.ret rfl)) (EvP.bind1 (EvP.ifT (by simp; omega) (EvP.ret rfl)) (EvP.ret rfl))
  unfold impl_DropAll.f impl_DropAll.c1
  refine EvP.bind (LocksOk_ev l) fun b hb => EvP.iteD (fun h => ?_) fun h => ?_
  · have hno : ¬ OkM l := fun hk => by rw [hb.2 hk] at h; cases h
    exact EvP.bind1 hclone (EvP.ret ⟨fun hk => absurd hk hno, fun _ => rfl⟩)
  · have hok : OkM l := hb.1 (by simpa using h)
    have g60 := hok.g60; have w60 := hok.w60
    refine EvP.bind1 hclone (EvP.bind1 (del_ev (by omega) tx) (EvP.bind1 (del_ev (by omega) tx) ?_))
    have hfl := List.length_filter_le (notTx tx) l.Given
    have hwl := List.length_filter_le (notTx tx) l.Waits
    refine EvP.bind (iDrop_loop (tx := tx) (by omega) (by omega) ?_ ?_) ?_
    · exact ⟨fun x hx => hok.gok x (List.mem_filter.1 hx).1, pair_filter hok.gcf _, fun x hx => by have := (List.mem_filter.1 hx).2; simpa [notTx] using this, by simp, List.Sublist.refl _, rfl⟩
    · exact fun g hg => ⟨hok.wok g (List.mem_filter.1 hg).1, by have := (List.mem_filter.1 hg).2; simpa [notTx] using this⟩
    · rintro ⟨a, b, c⟩ hr
      refine EvP.ret ⟨fun _ => ?_, fun hn => absurd hok hn⟩
      have : dropM l tx = (c, a, b) := hr.symm
      rw [this]
theorem sDrop_ev {l : TLocks} (hok : OkM l) (tx : Int) : EvP (fun k => spec_l9Drop.f k l.Given l.Waits tx) (fun r => (r.2.1, r.2.2, r.1) = dropM l tx) := by
  have g60 := hok.g60; have w60 := hok.w60
  unfold spec_l9Drop.f spec_l9Drop.c1
  refine EvP.bind1 (without_ev (by omega) tx) (EvP.bind1 (without_ev (by omega) tx) ?_)
  have hfl := List.length_filter_le (notTx tx) l.Given
  have hwl := List.length_filter_le (notTx tx) l.Waits
  have hi0 : DInv tx (l.Given.filter (notTx tx)) [] (l.Given.filter (notTx tx), [], []) := ⟨fun x hx => hok.gok x (List.mem_filter.1 hx).1, pair_filter hok.gcf _, fun x hx => by have := (List.mem_filter.1 hx).2; simpa [notTx] using this, by simp, List.Sublist.refl _, rfl⟩
  have hw : ∀ g ∈ l.Waits.filter (notTx tx), gOk g = true ∧ g.Tx ≠ tx := fun g hg => ⟨hok.wok g (List.mem_filter.1 hg).1, by have := (List.mem_filter.1 hg).2; simpa [notTx] using this⟩
  show EvP (fun k => (spec_l9Drop.l1 (l.Waits.filter (notTx tx)) k [] (l.Given.filter (notTx tx)) [] 0).bind fun x23 => some (x23.1, x23.2.1, x23.2.2)) _
  unfold dropM
  generalize l.Waits.filter (notTx tx) = ws at *
  generalize l.Given.filter (notTx tx) = gs at *
  refine EvP.bind (Q := fun r => (r.2.1, r.2.2, r.1) = ws.foldl dropStep (gs, [], [])) ?_ fun r hr => EvP.ret hr
  have := for_up (fun k (s : List TGrant × List TGrant × List Int) i => spec_l9Drop.l1 ws k s.2.2 s.1 s.2.1 i) ws.length (fun i s => s = (ws.take i).foldl dropStep (gs, [], [])) (fun r => (r.2.1, r.2.2, r.1) = ws.foldl dropStep (gs, [], [])) ?_ ?_ (i := 0) (s := (gs, [], [])) (Nat.zero_le _) rfl
  · exact this
  · rintro i ⟨G, left, got⟩ hi hI ih
    have hinv := drop_inv (tx := tx) (gs := gs) (ws.take i) [] (gs, [], []) hi0 fun g hg => hw g (List.mem_of_mem_take hg)
    rw [← hI, List.nil_append] at hinv
    have h1 := hinv.len; have h2 := hinv.all; have h3 := hinv.sub.length_le
    simp only [List.length_take] at h1 h2 h3
    have hgk := hinv.gok
    dsimp only at h1 h2 h3 hgk ih ⊢
    simp only [spec_l9Drop.l1, spec_l9Drop.c2, spec_l9Drop.c3, rd_eq hi]
    refine EvP.ifT (by simpa using hi) (EvP.bind (Q := fun r => (r.2.1, r.2.2, r.1) = dropStep (G, left, got) ws[i]) (EvP.ifT (by omega) ?_) ?_)
    · refine EvP.bind1 (sWould_ev (l := ⟨G, left⟩) (by simp; omega) _) ?_
      rw [sWould_eq hgk]
      refine EvP.bind1 (a := !holdB G left ws[i]) ?_ ?_
      · refine EvP.bind1 (fits_ev (l := ⟨G, left⟩) (by simp; omega) _ _) ?_
        cases ha : G.any (againstB ws[i] (wouldM G ws[i])) with
        | true => exact EvP.ifF (by simp) (EvP.ret (by simp [holdB, ha]))
        | false => exact EvP.ifT rfl (EvP.bind1 (sForRes_ev (by omega) _) (EvP.ret (by simp only [holdB, ha, Bool.or_false]; rfl)))
      · unfold dropStep
        refine EvP.iteD (fun h => EvP.bind1 (sGive_ev (by omega) _ _) (EvP.ifT (by omega) (EvP.ret ?_))) fun h => EvP.ifT (by omega) (EvP.ret ?_)
        · simp at h; simp [h]
        · simp at h; simp [h]
    · rintro ⟨a, b, c⟩ hr
      dsimp only at hr ⊢
      rw [w64_succ hi (by omega)]
      refine ih (b, c, a) ?_
      rw [drop_take hi, ← hI]; exact hr
  · rintro ⟨G, left, got⟩ hI
    simp only [spec_l9Drop.l1]
    refine EvP.ifF (by simp) (EvP.ret ?_)
    rw [List.take_of_length_le (Nat.le_refl _)] at hI
    exact hI
theorem sDropAll_ev (l : TLocks) (tx : Int) (h1 : l.Given.length ≤ 1048576) (h2 : l.Waits.length ≤ 1048576) : EvP (fun k => spec_DropAll.f k l tx)
    (fun r => (OkM l → r = (⟨(dropM l tx).1, (dropM l tx).2.1⟩, (dropM l tx).2.2)) ∧ (¬ OkM l → r = (l, []))) := by
  have hcopy : EvP (fun k => spec_l9Copy.f k l) (· = l) := by
    unfold spec_l9Copy.f spec_l9Copy.c1
    exact EvP.bind1 (a := (l.Given, l.Waits)) (EvP.ifT (by simp; omega) (EvP.ifT (by simp; omega) (EvP.ret (by simp)))) (EvP.ret rfl)
  unfold spec_DropAll.f
  refine EvP.bind1 hcopy (EvP.bind (sLocksOk_ev l) fun b hb => EvP.iteD (fun h => ?_) fun h => ?_)
  · have hno : ¬ OkM l := fun hk => by rw [hb.2 hk] at h; cases h
    exact EvP.ret ⟨fun hk => absurd hk hno, fun _ => rfl⟩
  · have hok : OkM l := hb.1 (by simpa using h)
    refine EvP.bind (sDrop_ev hok tx) ?_
    rintro ⟨a, b, c⟩ hr
    refine EvP.ret ⟨fun _ => ?_, fun hn => absurd hok hn⟩
    have : dropM l tx = (b, c, a) := hr.symm
    rw [this]
end Go.Proofs.Ytbcpkopchnlefaa
