/- The plain law of the heap: what is reached, by a queue. Conditions: none. -/
import Derived.Test.YtplgbgcfgnobdaaKwXQ
set_option linter.unusedVariables false
set_option linter.unusedSimpArgs false
namespace Go.Proofs.Ytplgbgcfgnobdaa
open Go.Kw
open Classical

def refs (v : List TSlot) (x : Int) : List Int := (rd v x).O.Refs
def Live (v : List TSlot) (x : Int) : Prop := 0 ≤ x ∧ x ≤ 31 ∧ (rd v x).Has = true
inductive Rch (v : List TSlot) (root : Int) : Int → Prop
  | root : Live v root → Rch v root root
  | step {x y : Int} : Rch v root x → y ∈ refs v x → Live v y → Rch v root y
theorem Rch.live {v : List TSlot} {root x : Int} (h : Rch v root x) : Live v x := by cases h <;> assumption
theorem refs_ok {v : List TSlot} (hv : Vok v) {x : Int} (h0 : 0 ≤ x) (h1 : x ≤ 31) : (refs v x).length ≤ 5 ∧ ∀ y ∈ refs v x, 0 ≤ y ∧ y ≤ 31 := by
  have := hv.2.2 _ (rd_mem (xs := v) h0 (by rw [hv.1]; omega))
  rcases this with ⟨_, _, _, _, h5, _, h6⟩ | ⟨_, _, _, h6⟩
  · exact ⟨h5, h6⟩
  · unfold refs; rw [h6]; simp
/-- How many are not marked. -/
def unm (m : List Bool) : Nat := m.count false
theorem unm_le (m : List Bool) : unm m ≤ m.length := List.count_le_length
theorem unm_wr {m : List Bool} {i : Int} (h0 : 0 ≤ i) (h1 : i < (m.length : Int)) (h : rd m i = false) : unm (wr m i true) + 1 = unm m := by
  obtain ⟨j, rfl⟩ := Int.eq_ofNat_of_zero_le h0
  have hj : j < m.length := by omega
  rw [rd_eq hj] at h
  have hc : 0 < m.count false := List.count_pos_iff.2 (h ▸ List.getElem_mem hj)
  simp only [unm, wr, Int.toNat_natCast]
  rw [List.count_set hj]
  simp [h]
  omega
theorem rd_wr {m : List Bool} {i j : Int} (h0 : 0 ≤ i) (h1 : i < (m.length : Int)) (hj : 0 ≤ j) : rd (wr m i true) j = if j = i then true else rd m j := by
  by_cases h : j = i
  · subst h; rw [rd_wr_same h0 h1]; simp
  · rw [rd_wr_ne h0 hj (fun e => h e.symm), if_neg h]

theorem rd_rep (n : Nat) (i : Int) : rd (List.replicate n false) i = false := by
  simp only [rd, List.getD, List.getElem?_replicate]; split <;> rfl
/-- The queue's law. -/
structure QI (v : List TSlot) (root : Int) (q : List Int) (m : List Bool) : Prop where
  len : m.length = 32
  range : ∀ x ∈ q, 0 ≤ x ∧ x ≤ 31
  sound : ∀ x ∈ q, Live v x → Rch v root x
  marked : ∀ i, 0 ≤ i → i ≤ 31 → rd m i = true → Rch v root i
  closed : ∀ i, 0 ≤ i → i ≤ 31 → rd m i = true → ∀ y ∈ refs v i, Live v y → rd m y = true ∨ y ∈ q
  root : Live v root → rd m root = true ∨ root ∈ q
theorem marksOf_loop {v : List TSlot} (hv : Vok v) {root : Int} : ∀ (n : Nat) {q : List Int} {m : List Bool}, 6 * unm m + q.length ≤ n → n ≤ 1000 → QI v root q m →
    EvP (fun k => impl_marksOf.l1 v k q m) (fun r => QI v root [] r.2) := by
  intro n
  induction n with
  | zero =>
    intro q m h hn hI
    obtain rfl : q = [] := List.eq_nil_of_length_eq_zero (by omega)
    refine EvP.succ ?_
    simp only [impl_marksOf.l1]
    exact EvP.ifF (by simp) (EvP.ret hI)
  | succ n ih =>
    intro q m h0 hn hI
    refine EvP.succ ?_
    simp only [impl_marksOf.l1]
    cases q with
    | nil => exact EvP.ifF (by simp) (EvP.ret hI)
    | cons x q =>
      have hx := hI.range x (by simp)
      have hl0 : ((x :: q).length : Int) = (q.length : Int) + 1 := by simp
      have hr : rd (x :: q) 0 = x := rfl
      have hc : cut (x :: q) 1 ((x :: q).length : Int) = q := by simp [cut]
      simp only [hr, hc]
      refine EvP.ifT (by simp) (EvP.ifT ⟨by omega, by omega⟩ (EvP.ifT ⟨by omega, by omega, by omega⟩ ?_))
      have hdrop : (Live v x → rd m x = true) → QI v root q m := fun hd =>
        ⟨hI.len, fun y hy => hI.range y (by simp [hy]), fun y hy => hI.sound y (by simp [hy]), hI.marked,
          fun i h0 h1 hm y hy hl => (hI.closed i h0 h1 hm y hy hl).elim .inl fun h => (List.mem_cons.1 h).elim (fun e => .inl (e ▸ hd (e ▸ hl))) .inr,
          fun hl => (hI.root hl).elim .inl fun h => (List.mem_cons.1 h).elim (fun e => .inl (e ▸ hd (e ▸ hl))) .inr⟩
      refine EvP.bind (Q := fun b => b = true ↔ (x = 0 ∨ (rd v x).Has = false)) ?_ fun b hb => ?_
      · refine EvP.ite (fun h => EvP.ret ?_) fun h => EvP.ifT ⟨by omega, by rw [hv.1]; omega⟩ (EvP.ret ?_)
        · simp at h; simp [h]
        · simp at h; simp [h]
      · have hdead : b = true → ¬ Live v x := fun h hl => by
          rcases hb.1 h with h' | h'
          · have := hv.2.1; rw [← h', hl.2.2] at this; cases this
          · rw [hl.2.2] at h'; cases h'
        unfold impl_marksOf.c3 impl_marksOf.c2
        simp only [hr, hc]
        refine EvP.bind (Q := fun c => c = (b || rd m x)) ?_ fun c hc => ?_
        · refine EvP.iteD (fun h => EvP.ret (by simp [h])) fun h => EvP.ifT ⟨by omega, by rw [hI.len]; omega⟩ (EvP.ret (by simp [h]))
        · subst hc
          refine EvP.iteD (fun h => ?_) fun h => ?_
          · refine ih (by simp only [List.length_cons] at h0; omega) (by omega) (hdrop fun hl => ?_)
            rcases Bool.eq_false_or_eq_true b with hb' | hb'
            · exact absurd hl (hdead hb')
            · simpa [hb'] using h
          · simp only [Bool.or_eq_false_iff] at h
            obtain ⟨hb', hm⟩ := h
            have hlive : Live v x := ⟨hx.1, hx.2, by
              cases hh : (rd v x).Has with
              | true => rfl
              | false => have := hb.2 (.inr hh); rw [hb'] at this; cases this⟩
            have hro := refs_ok hv hx.1 hx.2
            have hu := unm_wr hx.1 (by rw [hI.len]; omega) hm
            have hul := unm_le m
            have hq : q.length ≤ n := by simp only [List.length_cons] at h0; omega
            have hR := hI.sound x (by simp) hlive
            refine EvP.ifT ⟨by omega, by rw [hI.len]; omega⟩ (EvP.ifT ⟨by omega, by rw [hv.1]; omega⟩ (EvP.ifT ?_ ?_))
            · have := hro.1; unfold refs at this; omega
            refine ih ?_ (by omega) ⟨by simp [wr_len, hI.len], ?_, ?_, ?_, ?_, ?_⟩
            · simp only [List.length_cons, List.length_append] at h0 ⊢
              have := hro.1; unfold refs at this; omega
            · intro y hy
              rcases List.mem_append.1 hy with hy | hy
              · exact hI.range y (by simp [hy])
              · exact hro.2 y hy
            · intro y hy hl
              rcases List.mem_append.1 hy with hy | hy
              · exact hI.sound y (by simp [hy]) hl
              · exact .step hR hy hl
            · intro i h0 h1 hi
              rw [rd_wr hx.1 (by rw [hI.len]; omega) h0] at hi
              by_cases e : i = x
              · subst e; exact hR
              · rw [if_neg e] at hi; exact hI.marked i h0 h1 hi
            · intro i h0 h1 hi y hy hl
              rw [rd_wr hx.1 (by rw [hI.len]; omega) h0] at hi
              rw [rd_wr hx.1 (by rw [hI.len]; omega) hl.1]
              by_cases e : i = x
              · subst e; exact .inr (List.mem_append.2 (.inr hy))
              · rw [if_neg e] at hi
                rcases hI.closed i h0 h1 hi y hy hl with h2 | h2
                · left; split <;> simp [h2]
                · rcases List.mem_cons.1 h2 with h3 | h3
                  · left; simp [h3]
                  · exact .inr (List.mem_append.2 (.inl h3))
            · intro hl
              rw [rd_wr hx.1 (by rw [hI.len]; omega) hl.1]
              rcases hI.root hl with h2 | h2
              · left; split <;> simp [h2]
              · rcases List.mem_cons.1 h2 with h3 | h3
                · left; simp [h3]
                · exact .inr (List.mem_append.2 (.inl h3))
/-- The marks are what is reached. -/
def Marks (v : List TSlot) (root : Int) (m : List Bool) : Prop := m.length = 32 ∧ ∀ i, 0 ≤ i → i ≤ 31 → (rd m i = true ↔ Rch v root i)
theorem QI.marks {v : List TSlot} {root : Int} {m : List Bool} (h : QI v root [] m) : Marks v root m := by
  refine ⟨h.len, fun i h0 h1 => ⟨h.marked i h0 h1, fun hr => ?_⟩⟩
  clear h0 h1
  induction hr with
  | root hl => exact (h.root hl).elim (fun h => h) fun h => by simp at h
  | step hx hy hl ih => exact (h.closed _ hx.live.1 hx.live.2.1 ih _ hy hl).elim (fun h => h) fun h => by simp at h
theorem marksOf_ev {v : List TSlot} (hv : Vok v) {root : Int} (h0 : 1 ≤ root) (h1 : root ≤ 31) : EvP (fun k => impl_marksOf.f k v root) (Marks v root) := by
  unfold impl_marksOf.f
  refine EvP.bind (marksOf_loop hv (root := root) 500 (q := [root]) (m := List.replicate (32 : Int).toNat false) ?_ (by decide) ⟨by simp, ?_, ?_, ?_, ?_, ?_⟩) fun r hr => EvP.ret hr.marks
  · have := unm_le (List.replicate (32 : Int).toNat false); simp at this ⊢; omega
  · intro x hx; simp at hx; omega
  · intro x hx hl; simp at hx; subst hx; exact .root hl
  · intro i h2 h3 h4
    rw [rd_rep] at h4; cases h4
  · intro i h2 h3 h4
    rw [rd_rep] at h4; cases h4
  · intro _; simp
end Go.Proofs.Ytplgbgcfgnobdaa
