/- The plain law: what is reached and what is garbage. Conditions: none. -/
import Derived.Test.YtplgbgcfgnobdaaKwXS
set_option linter.unusedVariables false
set_option linter.unusedSimpArgs false
namespace Go.Proofs.Ytplgbgcfgnobdaa
open Go.Kw
open Classical

def dB (v : List TSlot) (r : Int) : Bool := decide (0 < r) && !(rd v r).Has
def dcnt (v : List TSlot) (x : Nat) : Nat := ((refs v (x : Int)).filter (dB v)).length
def dsum (v : List TSlot) : Nat → Nat
  | 0 => 0
  | n + 1 => dsum v n + dcnt v n
theorem dcnt_le {v : List TSlot} (hv : Vok v) {x : Nat} (hx : x < 32) : dcnt v x ≤ 5 :=
  Nat.le_trans (List.length_filter_le _ _) (refs_ok hv (by omega) (by omega)).1
theorem dsum_le {v : List TSlot} (hv : Vok v) : ∀ {n : Nat}, n ≤ 32 → dsum v n ≤ 5 * n
  | 0, _ => Nat.le_refl _
  | n + 1, h => by have := dsum_le hv (n := n) (by omega); have := dcnt_le hv (x := n) (by omega); simp only [dsum]; omega
theorem take_step {α : Type} {l : List α} {i : Nat} (h : i < l.length) : l.take (i + 1) = l.take i ++ [l[i]] := by rw [List.take_add_one, List.getElem?_eq_getElem h]; rfl
theorem Dangling_ev {v : List TSlot} (hv : Vok v) : EvP (fun k => impl_Dangling.f k v) (fun r => r.length = dsum v 32) := by
  unfold impl_Dangling.f impl_Dangling.c1
  refine EvP.bind1 (ViewOk_ev hv) (EvP.ifF (by simp) (EvP.bind (Q := fun r => r.length = dsum v 32) ?_ fun r hr => EvP.ret hr))
  have := for_up (fun k (s : List (List Int)) i => impl_Dangling.l1 v k s i) 32 (fun i s => s.length = dsum v i) (fun r => r.length = dsum v 32) ?_ ?_ (i := 0) (s := []) (by decide) rfl
  · exact this
  · intro i s hi hI ih
    simp only [impl_Dangling.l1, impl_Dangling.c2]
    refine EvP.ifT (by rw [hv.1]; simp; omega) ?_
    refine EvP.bind (Q := fun s' => s'.length = dsum v (i + 1)) (EvP.ifT ⟨by omega, by rw [hv.1]; omega⟩ ?_) fun s' hs' => ?_
    · have hr := refs_ok hv (x := (i : Int)) (by omega) (by omega)
      have hd := dsum_le hv (n := i) (by omega)
      have := for_up (fun k (t : List (List Int)) j => impl_Dangling.l2 v (i : Int) k t j) (refs v (i : Int)).length
        (fun j t => t.length = dsum v i + (((refs v (i : Int)).take j).filter (dB v)).length) (fun r => r.length = dsum v (i + 1)) ?_ ?_ (i := 0) (s := s) (Nat.zero_le _) (by simp [hI])
      · exact this
      · intro j t hj hJ ih2
        have hj5 := hr.1
        have hm := hr.2 _ (List.getElem_mem hj)
        simp only [impl_Dangling.l2, impl_Dangling.c3]
        have er : rd (rd v (i : Int)).O.Refs (j : Int) = (refs v (i : Int))[j] := rd_eq hj
        simp only [er]
        refine EvP.ifT (by simp; exact hj) ?_
        refine EvP.bind (Q := fun t' => t'.length = dsum v i + (((refs v (i : Int)).take (j + 1)).filter (dB v)).length) (EvP.ifT ⟨by omega, by have := hj; unfold refs at this; omega⟩ ?_) fun t' ht' => ?_
        · refine EvP.bind (Q := fun b => b = dB v ((refs v (i : Int))[j])) ?_ fun b hb => ?_
          · refine EvP.ite (fun h => EvP.ifT ⟨hm.1, by rw [hv.1]; omega⟩ (EvP.ret ?_)) fun h => EvP.ret ?_
            · simp at h; simp [dB, h]
            · simp at h; simp [dB]; omega
          · simp only [impl_Dangling.c4]
            have hf := List.length_filter_le (dB v) ((refs v (i : Int)).take j)
            have hf2 : ((refs v (i : Int)).take j).length ≤ 5 := by simp; omega
            rw [take_step hj, List.filter_append, List.length_append]
            refine EvP.iteD (fun h => EvP.ifT (by omega) (EvP.ret ?_)) fun h => EvP.ret ?_
            · rw [List.length_append, hJ, List.filter_cons, ← hb, h]; simp; omega
            · rw [hJ, List.filter_cons, ← hb, h]; simp
        · rw [w64_succ hj (by omega)]
          exact ih2 t' ht'
      · intro t hJ
        simp only [impl_Dangling.l2]
        refine EvP.ifF (by simp [refs]) (EvP.ret ?_)
        rw [hJ, List.take_length]; rfl
    · rw [w64_succ hi (by decide)]
      exact ih s' hs'
  · intro s hI
    simp only [impl_Dangling.l1]
    exact EvP.ifF (by rw [hv.1]; simp) (EvP.ret hI)

def hasB (v : List TSlot) (j : Nat) : Bool := (rd v (j : Int)).Has
theorem count_ev {v : List TSlot} (hv : Vok v) : EvP (fun k => laws_FnGarbage.l4 v k 0 0) (· = ((pickL (hasB v) 32).length : Int)) := by
  have := for_up (fun k (s : Int) i => laws_FnGarbage.l4 v k s i) 32 (fun i s => s = ((pickL (hasB v) i).length : Int)) (· = ((pickL (hasB v) 32).length : Int)) ?_ ?_ (i := 0) (s := 0) (by decide) rfl
  · exact this
  · intro i s hi hI ih
    simp only [laws_FnGarbage.l4, laws_FnGarbage.c8]
    refine EvP.ifT (by rw [hv.1]; simp; omega) ?_
    refine EvP.bind (Q := fun s' => s' = ((pickL (hasB v) (i + 1)).length : Int)) ?_ fun s' hs' => ?_
    · refine EvP.ifT ⟨by omega, by rw [hv.1]; omega⟩ ?_
      have := pickL_len (hasB v) i
      rw [pickL_succ]
      refine EvP.iteD (fun hb => EvP.ret ?_) fun hb => EvP.ret ?_
      · rw [hI, w64_id (by omega) (by omega)]; simp [hasB, hb]
      · rw [hI]; simp [hasB, hb]
    · rw [w64_succ hi (by decide)]
      exact ih s' hs'
  · intro s hI
    simp only [laws_FnGarbage.l4]
    exact EvP.ifF (by rw [hv.1]; simp) (EvP.ret hI)
theorem count_eq {v : List TSlot} {root : Int} : ∀ (n : Nat), n ≤ 32 → (pickL (rchB v root) n).length + (pickL (garbB v root) n).length = (pickL (hasB v) n).length
  | 0, _ => rfl
  | n + 1, h => by
    have ih := count_eq (v := v) (root := root) n (by omega)
    rw [pickL_succ, pickL_succ, pickL_succ]
    simp only [List.length_append]
    have e : (if rchB v root n = true then [(n : Int)] else []).length + (if garbB v root n = true then [(n : Int)] else []).length = (if hasB v n = true then [(n : Int)] else []).length := by
      by_cases hr : Rch v root (n : Int)
      · have := hr.live.2.2; simp [rchB, garbB, hasB, hr, this]
      · cases hh : (rd v (n : Int)).Has <;> simp [rchB, garbB, hasB, hr, hh]
    omega
/-- The view without its garbage. -/
structure Without (v w : List TSlot) (root : Int) : Prop where
  len : w.length = 32
  at_ : ∀ j : Nat, j < 32 → rd w (j : Int) = if garbB v root j = true then (⟨false, ⟨0, [], []⟩⟩ : TSlot) else rd v (j : Int)
theorem strip_ev {v : List TSlot} (hv : Vok v) (root : Int) : EvP (fun k => laws_FnGarbage.l3 (garbL v root) k v 0) (fun w => Without v w root) := by
  have hgl := pickL_len (garbB v root) 32
  have := for_up (fun k (s : List TSlot) i => laws_FnGarbage.l3 (garbL v root) k s i) (garbL v root).length
    (fun i s => s.length = 32 ∧ ∀ j : Nat, j < 32 → rd s (j : Int) = if (j : Int) ∈ (garbL v root).take i then (⟨false, ⟨0, [], []⟩⟩ : TSlot) else rd v (j : Int)) (fun w => Without v w root) ?_ ?_ (i := 0) (s := v) (Nat.zero_le _) ⟨hv.1, fun j hj => by simp⟩
  · exact this
  · rintro i s hi ⟨hl, hI⟩ ih
    simp only [laws_FnGarbage.l3]
    obtain ⟨x, hx, hgx, he⟩ := mem_pickL.1 (List.getElem_mem hi)
    refine EvP.ifT (by simpa using hi) (EvP.ifT ⟨by omega, by omega⟩ (EvP.ifT ⟨by rw [rd_eq hi, he]; omega, by rw [rd_eq hi, he, hl]; omega⟩ ?_))
    rw [w64_succ hi (by unfold garbL; omega), rd_eq hi]
    refine ih _ ⟨by simp [wr_len, hl], fun j hj => ?_⟩
    rw [take_step hi]
    by_cases e : (j : Int) = (garbL v root)[i]
    · rw [← e, rd_wr_same (by omega) (by omega)]; simp
    · rw [rd_wr_ne (by rw [he]; omega) (by omega) (fun h => e h.symm), hI j hj]
      have hm : (j : Int) ∈ (garbL v root).take i ++ [(garbL v root)[i]] ↔ (j : Int) ∈ (garbL v root).take i := by simp only [List.mem_append, List.mem_singleton, e, or_false]
      by_cases h : (j : Int) ∈ (garbL v root).take i
      · rw [if_pos h, if_pos (hm.2 h)]
      · rw [if_neg h, if_neg (fun h' => h (hm.1 h'))]
  · rintro s ⟨hl, hI⟩
    simp only [laws_FnGarbage.l3]
    refine EvP.ifF (by simp) (EvP.ret ⟨hl, fun j hj => ?_⟩)
    rw [hI j hj, List.take_length]
    have : ((j : Int) ∈ garbL v root) ↔ garbB v root j = true := by
      unfold garbL
      rw [mem_pickL]
      exact ⟨fun ⟨x, h1, h2, h3⟩ => by obtain rfl : j = x := by omega
                                       exact h2, fun h => ⟨j, hj, h, rfl⟩⟩
    simp [this]
section
variable {v w : List TSlot} {root : Int}
theorem Without.int (h : Without v w root) {x : Int} (h0 : 0 ≤ x) (h1 : x ≤ 31) : rd w x = if garbB v root x.toNat = true then (⟨false, ⟨0, [], []⟩⟩ : TSlot) else rd v x := by
  obtain ⟨j, rfl⟩ := Int.eq_ofNat_of_zero_le h0
  exact h.at_ j (by omega)
theorem garbB_iff {x : Int} (h0 : 0 ≤ x) : garbB v root x.toNat = true ↔ (rd v x).Has = true ∧ ¬ Rch v root x := by
  obtain ⟨j, rfl⟩ := Int.eq_ofNat_of_zero_le h0
  simp [garbB, rchB]
theorem Without.vok (h : Without v w root) (hv : Vok v) : Vok w := by
  refine ⟨h.len, ?_, fun s hs => ?_⟩
  · rw [h.int (by decide) (by decide)]
    split
    · rfl
    · exact hv.2.1
  · obtain ⟨j, hj, rfl⟩ := List.getElem_of_mem hs
    have := h.at_ j (by have := h.len; omega)
    rw [rd_eq hj] at this
    rw [this]
    split
    · exact noSok
    · exact hv.2.2 _ (rd_mem (by omega) (by have := h.len; have := hv.1; omega))
theorem Without.live (h : Without v w root) {x : Int} : Live w x ↔ Live v x ∧ Rch v root x := by
  unfold Live
  constructor
  · rintro ⟨h0, h1, h2⟩
    rw [h.int h0 h1] at h2
    split at h2
    · simp at h2
    · rename_i hg
      rw [garbB_iff h0] at hg
      exact ⟨⟨h0, h1, h2⟩, Classical.not_not.1 fun hn => hg ⟨h2, hn⟩⟩
  · rintro ⟨⟨h0, h1, h2⟩, hr⟩
    refine ⟨h0, h1, ?_⟩
    rw [h.int h0 h1, if_neg (by rw [garbB_iff h0]; exact fun hh => hh.2 hr)]
    exact h2
theorem Without.refs_eq (h : Without v w root) {x : Int} (hr : Rch v root x) : refs w x = refs v x := by
  unfold refs
  rw [h.int hr.live.1 hr.live.2.1, if_neg (by rw [garbB_iff hr.live.1]; exact fun hh => hh.2 hr)]
theorem Without.rch (h : Without v w root) {x : Int} : Rch w root x ↔ Rch v root x := by
  constructor
  · intro hr
    exact (h.live.1 hr.live).2
  · intro hr
    induction hr with
    | root hl => exact .root (h.live.2 ⟨hl, .root hl⟩)
    | step hx hy hl ih => exact .step ih (by rw [h.refs_eq hx]; exact hy) (h.live.2 ⟨hl, .step hx hy hl⟩)
theorem Without.reachL (h : Without v w root) : reachL w root = reachL v root := pickL_congr fun j hj => by simp [rchB, h.rch]
theorem Without.garbL (h : Without v w root) : garbL w root = [] := by
  unfold Proofs.Ytplgbgcfgnobdaa.garbL
  rw [List.eq_nil_iff_forall_not_mem]
  intro x hx
  obtain ⟨j, hj, hg, rfl⟩ := mem_pickL.1 hx
  simp only [garbB, rchB, Bool.and_eq_true, Bool.not_eq_true', decide_eq_false_iff_not] at hg
  exact hg.2 (h.rch.2 (h.live.1 ⟨by omega, by omega, hg.1⟩).2)
theorem Without.dcnt (h : Without v w root) (hv : Vok v) {x : Nat} (hx : x < 32) : dcnt w x ≤ dcnt v x := by
  unfold Proofs.Ytplgbgcfgnobdaa.dcnt
  by_cases hr : Rch v root (x : Int)
  · rw [h.refs_eq hr, ← List.countP_eq_length_filter, ← List.countP_eq_length_filter]
    refine List.countP_mono_left fun r hm hd => ?_
    have hro := (refs_ok hv hr.live.1 hr.live.2.1).2 r hm
    simp only [dB, Bool.and_eq_true, decide_eq_true_eq, Bool.not_eq_true'] at hd ⊢
    refine ⟨hd.1, ?_⟩
    cases hh : (rd v r).Has with
    | false => rfl
    | true =>
      have hl : Live v r := ⟨hro.1, hro.2, hh⟩
      have := (h.live.2 ⟨hl, .step hr hm hl⟩).2.2
      rw [this] at hd; cases hd.2
  · have : refs w (x : Int) = [] := by
      have hn : ¬ Live w (x : Int) := fun hl => hr (h.live.1 hl).2
      have hs := (h.vok hv).2.2 _ (rd_mem (xs := w) (i := (x : Int)) (by omega) (by rw [h.len]; omega))
      rcases hs with ⟨h1, _⟩ | ⟨_, _, _, h4⟩
      · exact absurd ⟨by omega, by omega, h1⟩ hn
      · exact h4
    rw [this]; simp
theorem Without.dsum (h : Without v w root) (hv : Vok v) : ∀ {n : Nat}, n ≤ 32 → dsum w n ≤ dsum v n
  | 0, _ => Nat.le_refl _
  | n + 1, hn => Nat.add_le_add (Without.dsum h hv (by omega)) (h.dcnt hv (by omega))
end
theorem none_ev {v : List TSlot} (hv : Vok v) (root : Int) : EvP (fun k => laws_FnGarbage.l1 (reachL v root) v (garbL v root) k 0) (· = Ex.go ()) := by
  have hrl := pickL_len (rchB v root) 32
  have hgl := pickL_len (garbB v root) 32
  have := for_up (fun k (s : Unit) i => laws_FnGarbage.l1 (reachL v root) v (garbL v root) k i) (reachL v root).length (fun i _ => True) (· = Ex.go ()) ?_ ?_ (i := 0) (s := ()) (Nat.zero_le _) trivial
  · exact this
  · intro i s hi _ ih
    simp only [laws_FnGarbage.l1, laws_FnGarbage.c5]
    obtain ⟨x, hx, hgx, he⟩ := mem_pickL.1 (List.getElem_mem hi)
    have hr : Rch v root (x : Int) := by simpa [rchB] using hgx
    have er : rd (reachL v root) (i : Int) = (x : Int) := by rw [rd_eq hi]; exact he
    have hro := refs_ok hv hr.live.1 hr.live.2.1
    simp only [er]
    refine EvP.ifT (by simpa using hi) (EvP.bind1 (a := Ex.go ()) (EvP.ifT ⟨by omega, by omega⟩ (EvP.ifT ⟨by omega, by rw [hv.1]; omega⟩ ?_)) ?_)
    · have := for_up (fun k (s : Unit) j => laws_FnGarbage.l2 v (reachL v root) (i : Int) (garbL v root) k j) (refs v (x : Int)).length (fun i _ => True) (· = Ex.go ()) ?_ ?_ (i := 0) (s := ()) (Nat.zero_le _) trivial
      · exact this
      · intro j s hj _ ih2
        have hj5 := hro.1
        have er2 : rd (rd v (x : Int)).O.Refs (j : Int) = (refs v (x : Int))[j] := rd_eq hj
        simp only [laws_FnGarbage.l2, er, er2]
        refine EvP.ifT (by simp; exact hj) (EvP.ifT ⟨by omega, by have := hj; unfold refs at this; omega⟩ (EvP.bind1 (among_ev (by unfold garbL; omega) _) (EvP.ifF ?_ ?_)))
        · intro hm
          obtain ⟨y, hy, hg, e⟩ := mem_pickL.1 (of_decide_eq_true hm)
          simp only [garbB, rchB, Bool.and_eq_true, Bool.not_eq_true', decide_eq_false_iff_not] at hg
          exact hg.2 (.step hr (e ▸ List.getElem_mem hj) ⟨by omega, by omega, hg.1⟩)
        · rw [w64_succ hj (by omega)]
          exact ih2 () trivial
      · intro s _
        simp only [laws_FnGarbage.l2, er]
        exact EvP.ifF (by simp [refs]) (EvP.ret rfl)
    · simp only [Ex.on]
      rw [w64_succ hi (by unfold reachL; omega)]
      exact ih () trivial
  · intro s _
    simp only [laws_FnGarbage.l1]
    exact EvP.ifF (by simp) (EvP.ret rfl)

theorem DrawHeap_ev {xs : List Int} (hl : xs.length ≤ 1048576) : EvP (fun k => spec_DrawHeap.f k xs) Vok := by
  unfold spec_DrawHeap.f
  exact EvP.bind (l1New_ev hl) fun c hc => EvP.bind (draw_ev hl hc) fun r hr => EvP.ret hr
theorem laws_FnGarbage.ok (xs : List Int) (hb : ∀ n ∈ xs, (Lit.int .u8 n).wf = true) : ∃ k, laws_FnGarbage.f k xs = some true := by
  refine EvP.get ?_
  unfold laws_FnGarbage.f
  refine EvP.bind1 (big_ev xs) (EvP.ite (fun _ => EvP.ret rfl) fun h => ?_)
  have hl : xs.length ≤ 1048576 := by simp at h; omega
  refine EvP.bind (DrawHeap_ev hl) fun v hv => EvP.bind (at_ev hl hb (by decide) (by decide)) fun a ha => ?_
  obtain ⟨h0, h1⟩ := oid_range ha
  refine EvP.bind1 (Reach_ev hv h0 h1) (EvP.bind1 (Garbage_ev hv h0 h1) (EvP.bind1 (count_ev hv) ?_))
  have hrl := pickL_len (rchB v (w64 (1 + a.tmod 31))) 32
  have hgl := pickL_len (garbB v (w64 (1 + a.tmod 31))) 32
  have hce := count_eq (v := v) (root := w64 (1 + a.tmod 31)) 32 (Nat.le_refl _)
  unfold laws_FnGarbage.c7
  refine EvP.ifF ?_ (EvP.ifT (by simp [hv.1]) (EvP.bind (strip_ev hv _) fun w hw => ?_))
  · unfold reachL garbL
    rw [w64_id (by omega) (by omega)]
    simp; omega
  unfold laws_FnGarbage.c6
  refine EvP.bind1 (none_ev hv _) ?_
  simp only [Ex.on]
  unfold laws_FnGarbage.c4
  have hw' := hw.vok hv
  have hR := Reach_ev hw' h0 h1
  have hG := Garbage_ev hw' h0 h1
  rw [hw.reachL] at hR
  rw [hw.garbL] at hG
  refine EvP.bind1 hR (EvP.bind1 (sameInts_ev _ (by unfold reachL; omega)) (EvP.bind1 (a := true) (EvP.ifT rfl (EvP.bind1 hG (EvP.ret rfl))) ?_))
  unfold laws_FnGarbage.c3
  refine EvP.bind1 (a := true) (EvP.ifT rfl (EvP.bind1 (a := true) (EvP.ite (fun _ => EvP.ret rfl) fun _ => ?_) (EvP.ret rfl))) (EvP.ret rfl)
  refine EvP.bind (Dangling_ev hw') fun r1 e1 => EvP.bind (Dangling_ev hv) fun r2 e2 => EvP.ret ?_
  have := hw.dsum hv (n := 32) (Nat.le_refl _)
  simp; omega
end Go.Proofs.Ytplgbgcfgnobdaa
