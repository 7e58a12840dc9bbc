/- The plain law of the locks: what comes back to itself, by a search with a queue. Conditions: none. -/
import Derived.Test.YtbcpkopchnlefaaKwYX
set_option linter.unusedVariables false
set_option linter.unusedSimpArgs false
namespace Go.Proofs.Ytbcpkopchnlefaa
open Go.Kw

/-- Reached over one or more. -/
inductive Rch (nx : Int → List Int) (a : Int) : Int → Prop
  | one {b : Int} : b ∈ nx a → Rch nx a b
  | more {b c : Int} : Rch nx a b → c ∈ nx b → Rch nx a c
/-- What is closed under the next ones, and holds a, holds all that is reached. -/
theorem Rch.closed {nx : Int → List Int} {a : Int} {S : Int → Prop} (h0 : ∀ b ∈ nx a, S b) (h1 : ∀ b, S b → ∀ c ∈ nx b, S c) {b : Int} (h : Rch nx a b) : S b := by
  induction h with
  | one hb => exact h0 _ hb
  | more _ hc ih => exact h1 _ ih _ hc

/-- One more list of next ones: true at a hit; else what is seen and put. -/
def visit (tx : Int) : List Int → List Int → List Int → Option (List Int × List Int)
  | [], seen, q => some (seen, q)
  | x :: xs, seen, q => if x = tx then none else if x ∈ seen then visit tx xs seen q else visit tx xs (seen ++ [x]) (q ++ [x])
theorem visit_none {tx : Int} : ∀ {xs seen q}, visit tx xs seen q = none → tx ∈ xs
  | [], _, _, h => by cases h
  | x :: xs, seen, q, h => by
    simp only [visit] at h
    split at h
    · rename_i e; simp [e]
    · split at h
      · exact List.mem_cons_of_mem _ (visit_none h)
      · exact List.mem_cons_of_mem _ (visit_none h)
theorem visit_some {tx : Int} : ∀ {xs seen q s' q'}, visit tx xs seen q = some (s', q') → tx ∉ xs ∧ ∃ d, s' = seen ++ d ∧ q' = q ++ d ∧ (∀ x ∈ d, x ∈ xs) ∧ (∀ x ∈ xs, x ∈ s') ∧ (seen.Nodup → s'.Nodup)
  | [], seen, q, s', q', h => by simp [visit] at h; obtain ⟨rfl, rfl⟩ := h; exact ⟨by simp, [], by simp, by simp, by simp, by simp, id⟩
  | x :: xs, seen, q, s', q', h => by
    simp only [visit] at h
    split at h
    · cases h
    · rename_i hne
      split at h
      · rename_i hm
        obtain ⟨h1, d, e1, e2, h2, h3, h4⟩ := visit_some h
        refine ⟨by simp [h1]; exact fun e => hne e.symm, d, e1, e2, fun y hy => List.mem_cons_of_mem _ (h2 y hy), ?_, h4⟩
        intro y hy
        rcases List.mem_cons.1 hy with rfl | hy
        · rw [e1]; exact List.mem_append_left _ hm
        · exact h3 y hy
      · rename_i hm
        obtain ⟨h1, d, e1, e2, h2, h3, h4⟩ := visit_some h
        refine ⟨by simp [h1]; exact fun e => hne e.symm, x :: d, by simp [e1], by simp [e2], ?_, ?_, ?_⟩
        · intro y hy
          rcases List.mem_cons.1 hy with rfl | hy
          · exact List.mem_cons_self ..
          · exact List.mem_cons_of_mem _ (h2 y hy)
        · intro y hy
          rcases List.mem_cons.1 hy with rfl | hy
          · rw [e1]; simp
          · exact h3 y hy
        · intro hnd
          refine h4 ?_
          rw [List.nodup_append]
          exact ⟨hnd, by simp, by intro a ha b hb; simp at hb; subst hb; exact fun e => hm (e ▸ ha)⟩
theorem nodup_sub {xs U : List Int} (hn : xs.Nodup) (hs : ∀ x ∈ xs, x ∈ U) : xs.length ≤ U.length := by
  induction xs generalizing U with
  | nil => simp
  | cons x xs ih =>
    rw [List.nodup_cons] at hn
    have hx : x ∈ U := hs x (List.mem_cons_self ..)
    have := ih (U := U.erase x) hn.2 fun y hy => by
      have hne : y ≠ x := fun e => hn.1 (e ▸ hy)
      exact (List.mem_erase_of_ne hne).2 (hs y (List.mem_cons_of_mem _ hy))
    rw [List.length_erase_of_mem hx] at this
    have := List.length_pos_of_mem hx
    simp; omega
/-- What the search keeps: all seen is reached; what is done has its next ones in seen, and none is tx. -/
structure QInv (nx : Int → List Int) (tx : Int) (seen q : List Int) : Prop where
  nd : seen.Nodup
  rch : ∀ x ∈ seen, Rch nx tx x
  qs : ∀ x ∈ q, x = tx ∨ x ∈ seen
  done : ∀ x, (x = tx ∨ x ∈ seen) → x ∉ q → ∀ y ∈ nx x, y ≠ tx ∧ y ∈ seen
theorem QInv.start (nx : Int → List Int) (tx : Int) : QInv nx tx [] [tx] := ⟨by simp, by simp, by simp, by simp⟩
theorem QInv.stop {nx : Int → List Int} {tx : Int} {seen : List Int} (h : QInv nx tx seen []) : ¬ Rch nx tx tx := by
  intro hr
  have : ∀ b, Rch nx tx b → b ≠ tx ∧ b ∈ seen := fun b hb => by
    refine hb.closed (S := fun b => b ≠ tx ∧ b ∈ seen) (fun b hb => h.done tx (.inl rfl) (by simp) b hb) fun b hb c hc => h.done b (.inr hb.2) (by simp) c hc
  exact (this tx hr).1 rfl
theorem QInv.hit {nx : Int → List Int} {tx x : Int} {seen q : List Int} (h : QInv nx tx seen (x :: q)) (hv : visit tx (nx x) seen q = none) : Rch nx tx tx := by
  have hm := visit_none hv
  rcases h.qs x (List.mem_cons_self ..) with rfl | hx
  · exact .one hm
  · exact .more (h.rch x hx) hm
theorem QInv.next {nx : Int → List Int} {tx x : Int} {seen q s' q' : List Int} (h : QInv nx tx seen (x :: q)) (hv : visit tx (nx x) seen q = some (s', q')) : QInv nx tx s' q' := by
  obtain ⟨h1, d, rfl, rfl, h2, h3, h4⟩ := visit_some hv
  have hx := h.qs x (List.mem_cons_self ..)
  refine ⟨h4 h.nd, ?_, ?_, ?_⟩
  · intro y hy
    rcases List.mem_append.1 hy with hy | hy
    · exact h.rch y hy
    · rcases hx with rfl | hx
      · exact .one (h2 y hy)
      · exact .more (h.rch x hx) (h2 y hy)
  · intro y hy
    rcases List.mem_append.1 hy with hy | hy
    · rcases h.qs y (List.mem_cons_of_mem _ hy) with e | e
      · exact .inl e
      · exact .inr (List.mem_append_left _ e)
    · exact .inr (List.mem_append_right _ hy)
  · intro y hy hyq z hz
    by_cases hyx : y = x
    · subst hyx
      exact ⟨fun e => h1 (e ▸ hz), h3 z hz⟩
    · have hy' : y = tx ∨ y ∈ seen := by
        rcases hy with e | e
        · exact .inl e
        · rcases List.mem_append.1 e with e | e
          · exact .inr e
          · exact absurd (List.mem_append_right _ e) hyq
      have hyq' : y ∉ x :: q := by
        intro hm
        rcases List.mem_cons.1 hm with e | e
        · exact hyx e
        · exact hyq (List.mem_append_left _ e)
      have := h.done y hy' hyq' z hz
      exact ⟨this.1, List.mem_append_left _ this.2⟩
end Go.Proofs.Ytbcpkopchnlefaa
