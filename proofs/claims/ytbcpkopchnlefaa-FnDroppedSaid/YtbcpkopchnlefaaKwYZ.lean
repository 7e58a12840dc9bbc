/- The plain law of the locks: who comes back to itself. Conditions: none. -/
import Derived.Test.YtbcpkopchnlefaaKwYM
import Derived.Test.YtbcpkopchnlefaaKwYG
set_option linter.unusedVariables false
set_option linter.unusedSimpArgs false
namespace Go.Proofs.Ytbcpkopchnlefaa
open Go.Kw

def aheadB (g x : TGrant) : Bool := decide (x.Res = g.Res) && decide (x.Tx ≠ g.Tx)
def forM (l : TLocks) (k : Nat) : List Int :=
  ((l.Given.filter (againstB (rd l.Waits (k : Int)) (wouldM l.Given (rd l.Waits (k : Int))))).map (·.Tx)) ++ (((l.Waits.take k).filter (aheadB (rd l.Waits (k : Int)))).map (·.Tx))
def isTx (a : Int) (g : TGrant) : Bool := decide (g.Tx = a)
def nxM (l : TLocks) (a : Int) : List Int := if l.Waits.any (isTx a) = true then forM l (l.Waits.findIdx (isTx a)) else []
def univ (l : TLocks) : List Int := l.Given.map (·.Tx) ++ l.Waits.map (·.Tx)
theorem nx_univ {l : TLocks} {a x : Int} (h : x ∈ nxM l a) : x ∈ univ l := by
  unfold nxM at h
  split at h
  · unfold forM at h
    rcases List.mem_append.1 h with h | h
    · obtain ⟨g, hg, rfl⟩ := List.mem_map.1 h
      exact List.mem_append_left _ (List.mem_map_of_mem (List.mem_filter.1 hg).1)
    · obtain ⟨g, hg, rfl⟩ := List.mem_map.1 h
      exact List.mem_append_right _ (List.mem_map_of_mem (List.mem_of_mem_take (List.mem_filter.1 hg).1))
  · simp at h
theorem for_len (l : TLocks) (k : Nat) : (forM l k).length ≤ l.Given.length + l.Waits.length := by
  unfold forM
  simp only [List.length_append, List.length_map]
  have h1 := List.length_filter_le (againstB (rd l.Waits (k : Int)) (wouldM l.Given (rd l.Waits (k : Int)))) l.Given
  have h2 := List.length_filter_le (aheadB (rd l.Waits (k : Int))) (l.Waits.take k)
  simp only [List.length_take] at h2
  omega
theorem waitsFor_ev {l : TLocks} (h1 : l.Given.length ≤ 1000) (h2 : l.Waits.length ≤ 1000) {k : Nat} (hk : k < l.Waits.length) : EvP (fun n => impl_waitsFor.f n l (k : Int)) (· = forM l k) := by
  unfold impl_waitsFor.f
  refine EvP.ifT (by omega) (EvP.bind1 (would_ev (by omega) _) (EvP.bind1 (a := (l.Given.filter (againstB (rd l.Waits (k : Int)) (wouldM l.Given (rd l.Waits (k : Int))))).map (·.Tx)) ?_ ?_))
  · refine collect_up (fun n s i => impl_waitsFor.l2 l (k : Int) (wouldM l.Given (rd l.Waits (k : Int))) n s i) l.Given (againstB (rd l.Waits (k : Int)) (wouldM l.Given (rd l.Waits (k : Int)))) (·.Tx) [] _ ?_ ?_
    · intro i hi s hs k1 k2
      simp only [impl_waitsFor.l2, impl_waitsFor.c4, impl_waitsFor.c5, rd_eq hi, Goes_eq, Option.bind_some]
      simp only [List.length_nil] at hs
      refine EvP.ifT (by simpa using hi) (EvP.bind1 (a := if againstB (rd l.Waits (k : Int)) (wouldM l.Given (rd l.Waits (k : Int))) l.Given[i] = true then s ++ [l.Given[i].Tx] else s) (EvP.ifT (by omega) (EvP.bind1 (a := againstB (rd l.Waits (k : Int)) (wouldM l.Given (rd l.Waits (k : Int))) l.Given[i]) ?_ ?_)) ?_)
      · refine EvP.ite (fun h => EvP.ret ?_) fun h => EvP.ret ?_
        · simp only [Bool.and_eq_true, decide_eq_true_eq] at h; simp [againstB, h]
        · simp only [Bool.and_eq_true, decide_eq_true_eq] at h; unfold againstB
          by_cases h3 : l.Given[i].Res = (rd l.Waits (k : Int)).Res <;> by_cases h4 : l.Given[i].Tx = (rd l.Waits (k : Int)).Tx <;> simp_all
      · refine EvP.iteD (fun h => EvP.ifT (by omega) (EvP.ret (by rw [h]; rfl))) fun h => EvP.ret (by rw [h]; rfl)
      · rw [w64_succ hi (by omega)]
        cases hp : againstB (rd l.Waits (k : Int)) (wouldM l.Given (rd l.Waits (k : Int))) l.Given[i] with
        | true => exact k1 hp
        | false => exact k2 hp
    · simp only [impl_waitsFor.l2]
      exact EvP.ifF (by simp) (EvP.ret rfl)
  · unfold impl_waitsFor.c3 impl_waitsFor.c1
    have hfl := List.length_filter_le (againstB (rd l.Waits (k : Int)) (wouldM l.Given (rd l.Waits (k : Int)))) l.Given
    have hs0l : ((l.Given.filter (againstB (rd l.Waits (k : Int)) (wouldM l.Given (rd l.Waits (k : Int))))).map (·.Tx)).length ≤ 1000 := by simp; omega
    unfold forM
    generalize (l.Given.filter (againstB (rd l.Waits (k : Int)) (wouldM l.Given (rd l.Waits (k : Int))))).map (·.Tx) = s0 at *
    have hcut : cut l.Waits 0 (k : Int) = l.Waits.take k := by simp [cut]
    have htl : (l.Waits.take k).length = k := by simp; omega
    refine EvP.bind1 (a := s0 ++ ((l.Waits.take k).filter (aheadB (rd l.Waits (k : Int)))).map (·.Tx)) (EvP.ifT (by omega) ?_) (EvP.ret rfl)
    refine collect_up (fun n s i => impl_waitsFor.l1 l (k : Int) n s i) (l.Waits.take k) (aheadB (rd l.Waits (k : Int))) (·.Tx) s0 _ ?_ ?_
    · intro i hi s hs k1 k2
      simp only [impl_waitsFor.l1, impl_waitsFor.c2, hcut, rd_eq hi, htl]
      rw [htl] at hi
      refine EvP.ifT (by simpa using hi) (EvP.bind1 (a := if aheadB (rd l.Waits (k : Int)) (l.Waits.take k)[i] = true then s ++ [(l.Waits.take k)[i].Tx] else s) (EvP.ifT (by omega) ?_) ?_)
      · refine EvP.ite (fun h => EvP.ifT (by omega) (EvP.ret ?_)) fun h => EvP.ret ?_
        · rw [if_pos (show aheadB _ _ = true from h)]
        · rw [if_neg (show ¬ aheadB _ _ = true from h)]
      · rw [w64_succ hi (by omega)]
        cases hp : aheadB (rd l.Waits (k : Int)) (l.Waits.take k)[i] with
        | true => exact k1 hp
        | false => exact k2 hp
    · simp only [impl_waitsFor.l1, hcut]
      exact EvP.ifF (by simp) (EvP.ret rfl)
theorem sFor_ev {l : TLocks} (hok : OkM l) {k : Nat} (hk : k < l.Waits.length) : EvP (fun n => spec_l9For.f n l (k : Int)) (· = forM l k) := by
  have h1 := hok.g60; have h2 := hok.w60
  unfold spec_l9For.f
  refine EvP.ifT (by omega) (EvP.bind1 (sWould_ev (l := l) (by omega) _) ?_)
  rw [sWould_eq hok.gok]
  refine EvP.bind1 (a := (l.Given.filter (againstB (rd l.Waits (k : Int)) (wouldM l.Given (rd l.Waits (k : Int))))).map (·.Tx)) ?_ ?_
  · refine collect_up (fun n s i => spec_l9For.l2 l (k : Int) (wouldM l.Given (rd l.Waits (k : Int))) n s i) l.Given (againstB (rd l.Waits (k : Int)) (wouldM l.Given (rd l.Waits (k : Int)))) (·.Tx) [] _ ?_ ?_
    · intro i hi s hs k1 k2
      simp only [spec_l9For.l2, spec_l9For.c4, spec_l9For.c5, rd_eq hi, sGoes_eq, Option.bind_some]
      simp only [List.length_nil] at hs
      refine EvP.ifT (by simpa using hi) (EvP.bind1 (a := if againstB (rd l.Waits (k : Int)) (wouldM l.Given (rd l.Waits (k : Int))) l.Given[i] = true then s ++ [l.Given[i].Tx] else s) (EvP.ifT (by omega) (EvP.bind1 (a := againstB (rd l.Waits (k : Int)) (wouldM l.Given (rd l.Waits (k : Int))) l.Given[i]) ?_ ?_)) ?_)
      · refine EvP.ite (fun h => EvP.ret ?_) fun h => EvP.ret ?_
        · simp only [Bool.and_eq_true, decide_eq_true_eq] at h; simp [againstB, h]
        · simp only [Bool.and_eq_true, decide_eq_true_eq] at h; unfold againstB
          by_cases h3 : l.Given[i].Res = (rd l.Waits (k : Int)).Res <;> by_cases h4 : l.Given[i].Tx = (rd l.Waits (k : Int)).Tx <;> simp_all
      · refine EvP.iteD (fun h => EvP.ifT (by omega) (EvP.ret (by rw [h]; rfl))) fun h => EvP.ret (by rw [h]; rfl)
      · rw [w64_succ hi (by omega)]
        cases hp : againstB (rd l.Waits (k : Int)) (wouldM l.Given (rd l.Waits (k : Int))) l.Given[i] with
        | true => exact k1 hp
        | false => exact k2 hp
    · simp only [spec_l9For.l2]
      exact EvP.ifF (by simp) (EvP.ret rfl)
  · unfold spec_l9For.c3 spec_l9For.c1
    have hfl := List.length_filter_le (againstB (rd l.Waits (k : Int)) (wouldM l.Given (rd l.Waits (k : Int)))) l.Given
    have hs0l : ((l.Given.filter (againstB (rd l.Waits (k : Int)) (wouldM l.Given (rd l.Waits (k : Int))))).map (·.Tx)).length ≤ 1000 := by simp; omega
    unfold forM
    generalize (l.Given.filter (againstB (rd l.Waits (k : Int)) (wouldM l.Given (rd l.Waits (k : Int))))).map (·.Tx) = s0 at *
    have htl : (l.Waits.take k).length = k := by simp; omega
    refine EvP.bind1 (a := s0 ++ ((l.Waits.take k).filter (aheadB (rd l.Waits (k : Int)))).map (·.Tx)) ?_ (EvP.ret rfl)
    refine collect_up (fun n s i => spec_l9For.l1 (k : Int) l n s i) (l.Waits.take k) (aheadB (rd l.Waits (k : Int))) (·.Tx) s0 _ ?_ ?_
    · intro i hi s hs k1 k2
      rw [htl] at hi
      have hil : i < l.Waits.length := by omega
      have hti : (l.Waits.take k)[i]'(by omega) = l.Waits[i] := List.getElem_take
      have hne : l.Waits[i].Tx ≠ (rd l.Waits (k : Int)).Tx := by rw [rd_eq hk]; exact hok.wne k hk i hi
      simp only [spec_l9For.l1, spec_l9For.c2, rd_eq hil]
      rw [hti] at k1 k2
      refine EvP.ifT (by simpa using hi) (EvP.bind1 (a := if aheadB (rd l.Waits (k : Int)) l.Waits[i] = true then s ++ [l.Waits[i].Tx] else s) (EvP.ifT (by omega) ?_) ?_)
      · refine EvP.ite (fun h => EvP.ifT (by omega) (EvP.ifT (by omega) (EvP.ret ?_))) fun h => EvP.ret ?_
        · simp only [decide_eq_true_eq] at h
          rw [if_pos (by simp [aheadB, h, hne])]
        · simp only [decide_eq_true_eq] at h
          rw [if_neg (by simp [aheadB, h])]
      · rw [w64_succ hi (by omega)]
        cases hp : aheadB (rd l.Waits (k : Int)) l.Waits[i] with
        | true => exact k1 hp
        | false => exact k2 hp
    · simp only [spec_l9For.l1, htl]
      exact EvP.ifF (by simp) (EvP.ret rfl)
theorem contains_ev {xs : List Int} (hl : xs.length ≤ 1000000) (x : Int) : EvP (fun k => slices_Contains.f k xs x) (· = decide (x ∈ xs)) := by
  unfold slices_Contains.f slices_Index.f slices_Index.c1
  refine EvP.bind1 (a := fidx (fun y => decide (x = y)) xs) ?_ (EvP.ret ?_)
  · refine index_ev (slices_Index.l1 xs x) _ (fun k y => some (decide (x = y))) xs (fun y => decide (x = y)) (by omega) (fun k i => by simp only [slices_Index.l1, Option.bind_some]) (fun _ => rfl) fun y _ => EvP.ret rfl
  · cases h : xs.any (fun y => decide (x = y)) with
    | true =>
      have h1 : x ∈ xs := by simpa using h
      have h2 : 0 ≤ fidx (fun y => decide (x = y)) xs := fidx_pos.2 h
      simp [h1, h2]
    | false =>
      have h1 : ¬ x ∈ xs := by intro hm; rw [List.any_eq_false] at h; exact (h x hm) (by simp)
      have h2 : ¬ 0 ≤ fidx (fun y => decide (x = y)) xs := by have := fidx_neg.2 h; omega
      simp [h1, h2]
theorem among_ev {xs : List Int} (hl : xs.length ≤ 1000000) (x : Int) : EvP (fun k => spec_l9Among.f k xs x) (· = decide (x ∈ xs)) := by
  unfold spec_l9Among.f spec_l9Among.c1
  have := first_ev (fun k i => spec_l9Among.l1 xs x k i) xs (fun y => decide (y = x)) (fun _ => true) (by omega) ?_ ?_ ?_
  · refine EvP.bind this fun r hr => ?_
    by_cases h : xs.any (fun y => decide (y = x)) = true
    · rw [if_pos h] at hr; subst hr
      have h1 : x ∈ xs := by simpa using h
      simp only [Ex.on, h1, decide_true]; exact EvP.ret rfl
    · rw [if_neg h] at hr; subst hr
      have h1 : ¬ x ∈ xs := by intro hm; exact h (List.any_eq_true.2 ⟨x, hm, by simp⟩)
      simp only [Ex.on, h1, decide_false]; exact EvP.ret rfl
  · intro i hi hP
    simp only [spec_l9Among.l1, rd_eq hi]
    exact EvP.ifT (by simpa using hi) (EvP.ifT (by omega) (EvP.ifT hP (EvP.ret rfl)))
  · intro i hi hP ih
    simp only [spec_l9Among.l1, rd_eq hi]
    refine EvP.ifT (by simpa using hi) (EvP.ifT (by omega) (EvP.ifF (by simp [hP]) ?_))
    rw [w64_succ hi (by omega)]; exact ih
  · simp only [spec_l9Among.l1]
    exact EvP.ifF (by simp) (EvP.ret rfl)
theorem visit_len {tx : Int} {xs seen q s' q' : List Int} (h : visit tx xs seen q = some (s', q')) : s'.length ≤ seen.length + xs.length ∧ q'.length + seen.length = q.length + s'.length := by
  induction xs generalizing seen q with
  | nil => simp [visit] at h; obtain ⟨rfl, rfl⟩ := h; simp
  | cons x xs ih =>
    simp only [visit] at h
    split at h
    · cases h
    · split at h
      · have := ih h; simp; omega
      · have := ih h; simp at this; simp; omega
/-- The inner loop of the program's search. -/
theorem inner_ev (l : TLocks) (tx : Int) (xs : List Int) (Q : Ex Bool (List Int × List Int) → Prop) (hx : xs.length ≤ 2000) : ∀ (n i d : Nat) (q seen : List Int), xs.length - i = n → i ≤ xs.length → q.length ≤ 100000 → seen.length + n ≤ 100000 → q.length + n ≤ 100000 →
    (visit tx (xs.drop i) seen q = none → Q (Ex.ret true)) → (∀ s' q', visit tx (xs.drop i) seen q = some (s', q') → EvP (fun k => impl_comesBack.l2 l tx k q' s') Q) →
    EvP (fun k => impl_comesBack.l1 (impl_comesBack.l2 l tx (k + d)) xs tx k q seen (i : Int)) Q := by
  have e : ∀ (q seen : List Int) (i : Int) (d : Nat), EvP (fun k => impl_comesBack.l1 (impl_comesBack.l2 l tx (k + (d + 1))) xs tx (k + 1) q seen i) Q → EvP (fun k => impl_comesBack.l1 (impl_comesBack.l2 l tx (k + d)) xs tx k q seen i) Q := fun q seen i d h => by
    refine EvP.succ ?_
    have : (fun n => impl_comesBack.l1 (impl_comesBack.l2 l tx (n + 1 + d)) xs tx (n + 1) q seen i) = fun k => impl_comesBack.l1 (impl_comesBack.l2 l tx (k + (d + 1))) xs tx (k + 1) q seen i := by funext k; rw [show k + 1 + d = k + (d + 1) by omega]
    rw [this]; exact h
  intro n
  induction n with
  | zero =>
    intro i d q seen hn hi hq hs hq2 h1 h2
    refine e _ _ _ _ ?_
    simp only [impl_comesBack.l1]
    refine EvP.ifF (by simp; omega) ?_
    have : xs.drop i = [] := List.drop_eq_nil_of_le (by omega)
    rw [this] at h2
    exact (h2 seen q rfl).shift _
  | succ n ih =>
    intro i d q seen hn hi hq hs hq2 h1 h2
    have hlt : i < xs.length := by omega
    refine e _ _ _ _ ?_
    rw [List.drop_eq_getElem_cons hlt] at h1 h2
    simp only [visit] at h1 h2
    simp only [impl_comesBack.l1, impl_comesBack.c2, rd_eq hlt]
    refine EvP.ifT (by simpa using hlt) ?_
    by_cases hx1 : xs[i] = tx
    · rw [if_pos hx1] at h1
      refine EvP.bind1 (a := Ex.ret true) (EvP.ifT (by omega) (EvP.ifT (by simp [hx1]) (EvP.ret rfl))) ?_
      exact EvP.ret (h1 rfl)
    · rw [if_neg hx1] at h1
      simp only [if_neg hx1] at h2
      by_cases hm : xs[i] ∈ seen
      · rw [if_pos hm] at h1
        simp only [if_pos hm] at h2
        refine EvP.bind1 (a := Ex.go (q, seen)) (EvP.ifT (by omega) (EvP.ifF (by simp [hx1]) (EvP.bind1 (contains_ev (by omega) _) (EvP.ifF (by simp [hm]) (EvP.ret rfl))))) ?_
        simp only [Ex.on]
        rw [w64_succ hlt (by omega)]
        exact ih (i + 1) _ q seen (by omega) (by omega) hq (by omega) (by omega) h1 h2
      · rw [if_neg hm] at h1
        simp only [if_neg hm] at h2
        refine EvP.bind1 (a := Ex.go (q ++ [xs[i]], seen ++ [xs[i]])) (EvP.ifT (by omega) (EvP.ifF (by simp [hx1]) (EvP.bind1 (contains_ev (by omega) _) (EvP.ifT (by simp [hm]) (EvP.ifT (by omega) (EvP.ifT (by omega) (EvP.ret rfl))))))) ?_
        simp only [Ex.on]
        rw [w64_succ hlt (by omega)]
        exact ih (i + 1) _ _ _ (by omega) (by omega) (by simp; omega) (by simp; omega) (by simp; omega) h1 h2
theorem outer_ev {l : TLocks} (h1 : l.Given.length ≤ 1000) (h2 : l.Waits.length ≤ 1000) (tx : Int) : ∀ (m : Nat) (q seen : List Int), 2 * ((univ l).length - seen.length) + q.length ≤ m → q.length ≤ seen.length + 1 → QInv (nxM l) tx seen q → (∀ x ∈ seen, x ∈ univ l) →
    EvP (fun k => impl_comesBack.l2 l tx k q seen) (fun r => (r = Ex.ret true ∧ Rch (nxM l) tx tx) ∨ (∃ y, r = Ex.go y ∧ ¬ Rch (nxM l) tx tx)) := by
  have hul : (univ l).length = l.Given.length + l.Waits.length := by simp [univ]
  intro m
  induction m with
  | zero =>
    intro q seen hm hq hI hU
    have : q = [] := List.eq_nil_of_length_eq_zero (by omega)
    subst this
    refine EvP.succ ?_
    simp only [impl_comesBack.l2]
    exact EvP.ifF (by simp) (EvP.ret (.inr ⟨_, rfl, hI.stop⟩))
  | succ m ih =>
    intro q seen hm hq hI hU
    cases q with
    | nil =>
      refine EvP.succ ?_
      simp only [impl_comesBack.l2]
      exact EvP.ifF (by simp) (EvP.ret (.inr ⟨_, rfl, hI.stop⟩))
    | cons a q =>
      have hsl : seen.length ≤ (univ l).length := nodup_sub hI.nd hU
      simp only [List.length_cons] at hm hq
      refine EvP.succ ?_
      simp only [impl_comesBack.l2]
      have hr0 : rd (a :: q) (0 : Int) = a := rfl
      have hct : cut (a :: q) (1 : Int) ((a :: q).length : Int) = q := by simp [cut]
      rw [hr0, hct]
      have step : ∀ s' q', visit tx (nxM l a) seen q = some (s', q') → EvP (fun k => impl_comesBack.l2 l tx k q' s') (fun r => (r = Ex.ret true ∧ Rch (nxM l) tx tx) ∨ (∃ y, r = Ex.go y ∧ ¬ Rch (nxM l) tx tx)) := by
        intro s' q' hv
        have hvl := visit_len hv
        obtain ⟨_, d, e1, _, hd, _, _⟩ := visit_some hv
        have hU' : ∀ x ∈ s', x ∈ univ l := by
          intro x hx
          rw [e1] at hx
          rcases List.mem_append.1 hx with hx | hx
          · exact hU x hx
          · exact nx_univ (hd x hx)
        have hI' := hI.next hv
        have hsl' : s'.length ≤ (univ l).length := nodup_sub hI'.nd hU'
        have hge : seen.length ≤ s'.length := by rw [e1]; simp
        exact ih q' s' (by omega) (by omega) hI' hU'
      refine EvP.ifT (by simp) (EvP.ifT (by simp) (EvP.bind1 (waitAt_ev (by omega) a) (EvP.ifT (by simp; omega) ?_)))
      cases hw : l.Waits.any (isTx a) with
      | false =>
        refine EvP.ifT (decide_eq_true (show fidx (isTx a) l.Waits < 0 from fidx_neg.2 hw)) ?_
        refine step seen q ?_
        have : nxM l a = [] := by unfold nxM; rw [hw]; simp
        rw [this]; rfl
      | true =>
        have e : fidx (isTx a) l.Waits = (l.Waits.findIdx (isTx a) : Int) := by unfold fidx; rw [if_pos hw]
        have hi : l.Waits.findIdx (isTx a) < l.Waits.length := List.findIdx_lt_length_of_exists (by simpa using hw)
        have hnx : nxM l a = forM l (l.Waits.findIdx (isTx a)) := by unfold nxM; rw [if_pos hw]
        have hfl := for_len l (l.Waits.findIdx (isTx a))
        show EvP (fun n => if decide (fidx (isTx a) l.Waits < 0) = true then _ else (impl_waitsFor.f n l (fidx (isTx a) l.Waits)).bind _) _
        rw [e]
        refine EvP.ifF (by simp) (EvP.bind1 (waitsFor_ev h1 h2 hi) ?_)
        rw [hnx] at step
        have := inner_ev l tx (forM l (l.Waits.findIdx (isTx a))) (fun r => (r = Ex.ret true ∧ Rch (nxM l) tx tx) ∨ (∃ y, r = Ex.go y ∧ ¬ Rch (nxM l) tx tx)) (by omega) _ 0 0 q seen rfl (Nat.zero_le _) (by omega) (by omega) (by omega) ?_ ?_
        · exact this
        · intro hv
          rw [List.drop_zero, ← hnx] at hv
          exact .inl ⟨rfl, hI.hit hv⟩
        · intro s' q' hv
          rw [List.drop_zero] at hv
          exact step s' q' hv
theorem comesBack_ev {l : TLocks} (h1 : l.Given.length ≤ 1000) (h2 : l.Waits.length ≤ 1000) (tx : Int) : EvP (fun k => impl_comesBack.f k l tx) (fun r => r = true ↔ Rch (nxM l) tx tx) := by
  unfold impl_comesBack.f impl_comesBack.c1
  refine EvP.bind (outer_ev h1 h2 tx _ [tx] [] (Nat.le_refl _) (by simp) (QInv.start _ _) (by simp)) ?_
  rintro r (⟨rfl, h⟩ | ⟨y, rfl, h⟩)
  · exact EvP.ret (by simp [h])
  · exact EvP.ret (by simp [h])
end Go.Proofs.Ytbcpkopchnlefaa
