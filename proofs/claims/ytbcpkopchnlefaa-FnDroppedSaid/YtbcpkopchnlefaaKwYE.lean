/- The plain law of the locks: the reference's search; who is stuck. Conditions: none. -/
import Derived.Test.YtbcpkopchnlefaaKwYZ
set_option linter.unusedVariables false
set_option linter.unusedSimpArgs false
namespace Go.Proofs.Ytbcpkopchnlefaa
open Go.Kw

theorem l3_ev (xs : List Int) (tx : Int) (hx : xs.length ≤ 2000) : ∀ (n i : Nat) (q seen : List Int), xs.length - i = n → i ≤ xs.length → seen.length + n ≤ 100000 →
    EvP (fun k => spec_l9Back.l3 xs tx k (tx :: seen) (i : Int)) (fun r => match visit tx (xs.drop i) seen q with | none => r = Ex.ret true | some z => r = Ex.go (tx :: z.1)) := by
  intro n
  induction n with
  | zero =>
    intro i q seen hn hi hs
    refine EvP.succ ?_
    simp only [spec_l9Back.l3]
    have : xs.drop i = [] := List.drop_eq_nil_of_le (by omega)
    rw [this]
    exact EvP.ifF (by simp; omega) (EvP.ret rfl)
  | succ n ih =>
    intro i q seen hn hi hs
    have hlt : i < xs.length := by omega
    refine EvP.succ ?_
    rw [List.drop_eq_getElem_cons hlt]
    simp only [visit]
    simp only [spec_l9Back.l3, spec_l9Back.c4, rd_eq hlt]
    refine EvP.ifT (by simpa using hlt) ?_
    by_cases hx1 : xs[i] = tx
    · refine EvP.bind1 (a := Ex.ret true) (EvP.ifT (by omega) (EvP.ifT (by simp [hx1]) (EvP.ret rfl))) ?_
      refine EvP.ret ?_
      rw [if_pos hx1]
    · by_cases hm : xs[i] ∈ seen
      · refine EvP.bind1 (a := Ex.go (tx :: seen)) (EvP.ifT (by omega) (EvP.ifF (by simp [hx1]) (EvP.ifT (by omega) (EvP.bind1 (among_ev (by simp; omega) _) (EvP.ifF (by simp [hm]) (EvP.ret rfl)))))) ?_
        simp only [Ex.on]
        rw [w64_succ hlt (by omega)]
        refine (ih (i + 1) q seen (by omega) (by omega) (by omega)).mono fun r hr => ?_
        rw [if_neg hx1, if_pos hm]; exact hr
      · refine EvP.bind1 (a := Ex.go (tx :: (seen ++ [xs[i]]))) (EvP.ifT (by omega) (EvP.ifF (by simp [hx1]) (EvP.ifT (by omega) (EvP.bind1 (among_ev (by simp; omega) _) (EvP.ifT (by simp [hm, hx1]) (EvP.ifT (by omega) (EvP.ifT (by simp; omega) (EvP.ret (by simp))))))))) ?_
        simp only [Ex.on]
        rw [w64_succ hlt (by omega)]
        refine (ih (i + 1) (q ++ [xs[i]]) (seen ++ [xs[i]]) (by omega) (by omega) (by simp; omega)).mono fun r hr => ?_
        rw [if_neg hx1, if_neg hm]; exact hr
/-- One that waits stands once. -/
theorem isTx_one {l : TLocks} (hok : OkM l) {a : Int} {i j : Nat} (hi : i < l.Waits.length) (hj : j < l.Waits.length) (h1 : isTx a l.Waits[i] = true) (h2 : isTx a l.Waits[j] = true) : i = j := by
  simp only [isTx, decide_eq_true_eq] at h1 h2
  rcases Nat.lt_trichotomy i j with h | h | h
  · exact absurd (by rw [h1, h2]) (hok.wne j hj i h)
  · exact h
  · exact absurd (by rw [h1, h2]) (hok.wne i hi j h)
theorem findIdx_isTx {l : TLocks} (hok : OkM l) {a : Int} {i : Nat} (hi : i < l.Waits.length) (h : isTx a l.Waits[i] = true) : l.Waits.findIdx (isTx a) = i := by
  have hlt : l.Waits.findIdx (isTx a) < l.Waits.length := List.findIdx_lt_length_of_exists ⟨_, List.getElem_mem hi, h⟩
  exact isTx_one hok hlt hi List.findIdx_getElem h
theorem l2_ev {l : TLocks} (hok : OkM l) (tx : Int) (met : List Int) (seen q : List Int) (hmet : met = tx :: seen) (p : Nat) (hp : p < met.length) (hs : seen.length ≤ 90000) :
    EvP (fun k => spec_l9Back.l2 l (p : Int) tx k met 0) (fun r => match visit tx (nxM l (met[p])) seen q with | none => r = Ex.ret true | some z => r = Ex.go (tx :: z.1)) := by
  have g60 := hok.g60; have w60 := hok.w60
  obtain ⟨a, ha⟩ : ∃ a, met[p] = a := ⟨_, rfl⟩
  rw [ha]
  have key : ∀ (n i : Nat) (m' : List Int), l.Waits.length - i = n → i ≤ l.Waits.length → m'[p]? = some a →
      ((l.Waits.take i).any (isTx a) = false ∧ m' = met) ∨ ((l.Waits.take i).any (isTx a) = true ∧ ∃ z, visit tx (nxM l a) seen q = some z ∧ m' = tx :: z.1) →
      EvP (fun k => spec_l9Back.l2 l (p : Int) tx k m' (i : Int)) (fun r => match visit tx (nxM l a) seen q with | none => r = Ex.ret true | some z => r = Ex.go (tx :: z.1)) := by
    intro n
    induction n with
    | zero =>
      intro i m' hn hi hmp hI
      refine EvP.succ ?_
      simp only [spec_l9Back.l2]
      refine EvP.ifF (by simp; omega) (EvP.ret ?_)
      rw [List.take_of_length_le (by omega)] at hI
      rcases hI with ⟨h1, rfl⟩ | ⟨h1, z, h2, rfl⟩
      · have : nxM l a = [] := by unfold nxM; rw [h1]; simp
        rw [this, hmet]; rfl
      · rw [h2]
    | succ n ih =>
      intro i m' hn hi hmp hI
      have hlt : i < l.Waits.length := by omega
      have hml : p < m'.length := (List.getElem?_eq_some_iff.1 hmp).1
      have hma : rd m' (p : Int) = a := by rw [rd_eq hml]; exact (List.getElem?_eq_some_iff.1 hmp).2
      refine EvP.succ ?_
      simp only [spec_l9Back.l2, spec_l9Back.c3, rd_eq hlt, hma]
      refine EvP.ifT (by simpa using hlt) ?_
      cases hT : isTx a l.Waits[i] with
      | false =>
        have hT' : l.Waits[i].Tx ≠ a := by simpa [isTx] using hT
        refine EvP.bind1 (a := Ex.go m') (EvP.ifT (by omega) (EvP.ifT (by omega) (EvP.ifT (by simp [hT']) (EvP.ret rfl)))) ?_
        simp only [Ex.on]
        rw [w64_succ hlt (by omega)]
        refine ih (i + 1) m' (by omega) (by omega) hmp ?_
        rw [List.take_succ_eq_append_getElem hlt, List.any_append]
        simpa [hT] using hI
      | true =>
        have hT' : l.Waits[i].Tx = a := by simpa [isTx] using hT
        have hno : (l.Waits.take i).any (isTx a) = false := by
          rw [List.any_eq_false]
          intro x hx
          obtain ⟨j, hj, rfl⟩ := List.mem_take_iff_getElem.1 hx
          intro hxj
          have := isTx_one hok (by omega) hlt hxj hT
          omega
        have hm' : m' = met := by
          rcases hI with ⟨_, h⟩ | ⟨h, _⟩
          · exact h
          · rw [hno] at h; cases h
        subst hm'
        have hany : l.Waits.any (isTx a) = true := List.any_eq_true.2 ⟨_, List.getElem_mem hlt, hT⟩
        have hnx : nxM l a = forM l i := by unfold nxM; rw [if_pos hany, findIdx_isTx hok hlt hT]
        have hfl := for_len l i
        refine EvP.bind (Q := fun r => match visit tx (nxM l a) seen q with | none => r = Ex.ret true | some z => r = Ex.go (tx :: z.1)) (EvP.ifT (by omega) (EvP.ifT (by omega) (EvP.ifF (by simp [hT']) (EvP.bind1 (sFor_ev hok hlt) ?_)))) ?_
        · rw [hnx, hmet]
          have := l3_ev (forM l i) tx (by omega) _ 0 q seen rfl (Nat.zero_le _) (by omega)
          rw [List.drop_zero] at this
          exact this
        · intro r hr
          cases hv : visit tx (nxM l a) seen q with
          | none =>
            rw [hv] at hr; simp only at hr; subst hr
            exact EvP.ret rfl
          | some z =>
            rw [hv] at hr; simp only at hr; subst hr
            simp only [Ex.on]
            rw [w64_succ hlt (by omega)]
            have hz : visit tx (nxM l a) seen q = some (z.1, z.2) := hv
            obtain ⟨_, d, e1, _⟩ := visit_some hz
            have h9 := ih (i + 1) (tx :: z.1) (by omega) (by omega) ?_ ?_
            · rw [hv] at h9; exact h9
            · rw [hmet] at hmp
              rw [e1]
              rw [← List.cons_append, List.getElem?_append_left (by rw [hmet] at hml; exact hml)]
              exact hmp
            · refine .inr ⟨?_, z, hv, rfl⟩
              rw [List.take_succ_eq_append_getElem hlt, List.any_append]
              simp [hT]
  exact key _ 0 met rfl (Nat.zero_le _) (by rw [List.getElem?_eq_getElem hp, ha]) (.inl ⟨by simp, rfl⟩)
theorem l1_ev {l : TLocks} (hok : OkM l) (tx : Int) : ∀ (m p : Nat) (seen : List Int), 2 * ((univ l).length - seen.length) + ((seen.length + 1) - p) ≤ m → p ≤ seen.length + 1 → QInv (nxM l) tx seen ((tx :: seen).drop p) → (∀ x ∈ seen, x ∈ univ l) →
    EvP (fun k => spec_l9Back.l1 l tx k (tx :: seen) (p : Int)) (fun r => (r = Ex.ret true ∧ Rch (nxM l) tx tx) ∨ (∃ y, r = Ex.go y ∧ ¬ Rch (nxM l) tx tx)) := by
  have g60 := hok.g60; have w60 := hok.w60
  have hul : (univ l).length = l.Given.length + l.Waits.length := by simp [univ]
  intro m
  induction m with
  | zero =>
    intro p seen hm hp hI hU
    have : (tx :: seen).drop p = [] := List.drop_eq_nil_of_le (by simp; omega)
    rw [this] at hI
    refine EvP.succ ?_
    simp only [spec_l9Back.l1]
    exact EvP.ifF (by simp; omega) (EvP.ret (.inr ⟨_, rfl, hI.stop⟩))
  | succ m ih =>
    intro p seen hm hp hI hU
    have hsl : seen.length ≤ (univ l).length := nodup_sub hI.nd hU
    by_cases hpe : p = seen.length + 1
    · have : (tx :: seen).drop p = [] := List.drop_eq_nil_of_le (by simp; omega)
      rw [this] at hI
      refine EvP.succ ?_
      simp only [spec_l9Back.l1]
      exact EvP.ifF (by simp; omega) (EvP.ret (.inr ⟨_, rfl, hI.stop⟩))
    · have hlt : p < (tx :: seen).length := by simp; omega
      rw [List.drop_eq_getElem_cons hlt] at hI
      refine EvP.succ ?_
      simp only [spec_l9Back.l1, spec_l9Back.c2]
      refine EvP.ifT (by simp; omega) (EvP.bind (l2_ev hok tx (tx :: seen) seen ((tx :: seen).drop (p + 1)) rfl p hlt (by omega)) fun r hr => ?_)
      cases hv : visit tx (nxM l (tx :: seen)[p]) seen ((tx :: seen).drop (p + 1)) with
      | none =>
        rw [hv] at hr; simp only at hr; subst hr
        exact EvP.ret (.inl ⟨rfl, hI.hit hv⟩)
      | some z =>
        obtain ⟨s', q'⟩ := z
        rw [hv] at hr; simp only at hr; subst hr
        simp only [Ex.on]
        rw [w64_succ hlt (by simp; omega)]
        have hvl := visit_len hv
        obtain ⟨_, d, e1, e2, hd, _, _⟩ := visit_some hv
        have hU' : ∀ x ∈ s', x ∈ univ l := by
          intro x hx
          rw [e1] at hx
          rcases List.mem_append.1 hx with hx | hx
          · exact hU x hx
          · exact nx_univ (hd x hx)
        have hI' := hI.next hv
        have hsl' : s'.length ≤ (univ l).length := nodup_sub hI'.nd hU'
        have hge : seen.length ≤ s'.length := by rw [e1]; simp
        refine ih (p + 1) s' (by omega) (by omega) ?_ hU'
        have : (tx :: s').drop (p + 1) = q' := by
          rw [e1, e2, ← List.cons_append, List.drop_append_of_le_length (by simp; omega)]
        rw [this]; exact hI'
theorem back_ev {l : TLocks} (hok : OkM l) (tx : Int) : EvP (fun k => spec_l9Back.f k l tx) (fun r => r = true ↔ Rch (nxM l) tx tx) := by
  unfold spec_l9Back.f spec_l9Back.c1
  refine EvP.bind (l1_ev hok tx _ 0 [] (Nat.le_refl _) (by simp) (QInv.start _ _) (by simp)) ?_
  rintro r (⟨rfl, h⟩ | ⟨y, rfl, h⟩)
  · exact EvP.ret (by simp [h])
  · exact EvP.ret (by simp [h])
open Classical in
noncomputable def stuckStep (l : TLocks) (o : Int) (g : TGrant) : Int := if o < g.Tx ∧ Rch (nxM l) g.Tx g.Tx then g.Tx else o
noncomputable def stuckM (l : TLocks) : Int := l.Waits.foldl (stuckStep l) 0
theorem stuck_mem (l : TLocks) : stuckM l = 0 ∨ ∃ g ∈ l.Waits, g.Tx = stuckM l := by
  have : ∀ (ws : List TGrant) (o : Int), ws.foldl (stuckStep l) o = o ∨ ∃ g ∈ ws, g.Tx = ws.foldl (stuckStep l) o := by
    intro ws
    induction ws with
    | nil => intro o; exact .inl rfl
    | cons w ws ih =>
      intro o
      simp only [List.foldl_cons]
      rcases ih (stuckStep l o w) with h | ⟨g, hg, h⟩
      · rw [h]
        unfold stuckStep
        split
        · exact .inr ⟨w, List.mem_cons_self .., rfl⟩
        · exact .inl rfl
      · exact .inr ⟨g, List.mem_cons_of_mem _ hg, h⟩
  exact this l.Waits 0
theorem stuck_take {l : TLocks} {i : Nat} (hi : i < l.Waits.length) : (l.Waits.take (i + 1)).foldl (stuckStep l) 0 = stuckStep l ((l.Waits.take i).foldl (stuckStep l) 0) l.Waits[i] := by
  rw [List.take_succ_eq_append_getElem hi, List.foldl_append]; rfl
theorem Stuck_ev {l : TLocks} (h1 : l.Given.length ≤ 1000) (h2 : l.Waits.length ≤ 1000) : EvP (fun k => impl_Stuck.f k l) (· = stuckM l) := by
  unfold impl_Stuck.f impl_Stuck.c1
  refine EvP.bind1 (a := stuckM l) ?_ (EvP.ret rfl)
  have := for_up (fun k (s : Int) i => impl_Stuck.l1 l k s i) l.Waits.length (fun i s => s = (l.Waits.take i).foldl (stuckStep l) 0) (· = stuckM l) ?_ ?_ (i := 0) (s := 0) (Nat.zero_le _) rfl
  · exact this
  · intro i s hi hI ih
    simp only [impl_Stuck.l1, impl_Stuck.c2, impl_Stuck.c3, rd_eq hi]
    refine EvP.ifT (by simpa using hi) (EvP.bind1 (a := stuckStep l s l.Waits[i]) (EvP.ifT (by omega) (EvP.bind (Q := fun b => b = true ↔ (s < l.Waits[i].Tx ∧ Rch (nxM l) l.Waits[i].Tx l.Waits[i].Tx)) ?_ fun b hb => ?_)) ?_)
    · refine EvP.ite (fun h => EvP.bind (comesBack_ev h1 h2 _) fun r hr => EvP.ret ?_) fun h => EvP.ret ?_
      · simp only [decide_eq_true_eq] at h; simp [h, hr]
      · simp only [decide_eq_true_eq] at h; simp [h]
    · refine EvP.ite (fun h => EvP.ret ?_) fun h => EvP.ret ?_
      · unfold stuckStep; rw [if_pos (hb.1 h)]
      · unfold stuckStep; rw [if_neg (fun h' => h (hb.2 h'))]
    · rw [w64_succ hi (by omega)]
      exact ih _ (by rw [stuck_take hi, ← hI])
  · intro s hI
    simp only [impl_Stuck.l1]
    refine EvP.ifF (by simp) (EvP.ret ?_)
    rw [List.take_of_length_le (Nat.le_refl _)] at hI; exact hI
theorem sStuck_ev {l : TLocks} (hok : OkM l) : EvP (fun k => spec_Stuck.f k l) (· = stuckM l) := by
  have g60 := hok.g60; have w60 := hok.w60
  unfold spec_Stuck.f spec_Stuck.c1
  refine EvP.bind1 (a := stuckM l) ?_ (EvP.ret rfl)
  have := for_up (fun k (s : Int) i => spec_Stuck.l1 l k s i) l.Waits.length (fun i s => s = (l.Waits.take i).foldl (stuckStep l) 0) (· = stuckM l) ?_ ?_ (i := 0) (s := 0) (Nat.zero_le _) rfl
  · exact this
  · intro i s hi hI ih
    simp only [spec_Stuck.l1, spec_Stuck.c4, spec_Stuck.c2, spec_Stuck.c3, rd_eq hi]
    refine EvP.bind1 (a := true) (EvP.ifT (by simpa using hi) (EvP.bind (sLocksOk_ev l) fun b hb => EvP.ret (hb.2 hok))) (EvP.ifT rfl ?_)
    refine EvP.bind1 (a := stuckStep l s l.Waits[i]) (EvP.bind (Q := fun b => b = true ↔ (s < l.Waits[i].Tx ∧ Rch (nxM l) l.Waits[i].Tx l.Waits[i].Tx)) (EvP.ifT (by omega) ?_) fun b hb => ?_) ?_
    · refine EvP.ite (fun h => EvP.ifT (by omega) (EvP.bind (back_ev hok _) fun r hr => EvP.ret ?_)) fun h => EvP.ret ?_
      · simp only [decide_eq_true_eq] at h; simp [h, hr]
      · simp only [decide_eq_true_eq] at h; simp [h]
    · refine EvP.ite (fun h => EvP.ifT (by omega) (EvP.ret ?_)) fun h => EvP.ret ?_
      · unfold stuckStep; rw [if_pos (hb.1 h)]
      · unfold stuckStep; rw [if_neg (fun h' => h (hb.2 h'))]
    · rw [w64_succ hi (by omega)]
      exact ih _ (by rw [stuck_take hi, ← hI])
  · intro s hI
    simp only [spec_Stuck.l1, spec_Stuck.c4]
    refine EvP.bind1 (a := false) (EvP.ifF (by simp) (EvP.ret rfl)) (EvP.ifF (by simp) (EvP.ret ?_))
    rw [List.take_of_length_le (Nat.le_refl _)] at hI; exact hI
end Go.Proofs.Ytbcpkopchnlefaa
