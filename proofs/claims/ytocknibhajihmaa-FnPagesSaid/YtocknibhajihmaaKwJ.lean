/- From a function's contract to a row's walk: old memory stays, a row of integers that came in is a slice that is read. Conditions: none. -/
import Derived.Test.YtocknibhajihmaaKwI
import Derived.Below
set_option linter.unusedVariables false
set_option linter.unusedSimpArgs false
namespace Go.Kw
open Go.RowKit
/-- A contract that owns nothing: the call leaves all that was there. -/
theorem law_below {P : Program} {f : FuncId} {args : Array Value} {W : World} {R : Value → HF → List Asn → Prop} (h : Law P f args (hf W) W [] R) :
    Calls P f args W fun en w' => ∃ v, en = .returned v ∧ Below W.heap.size W w' ∧ ∃ σ' A', R v σ' A' :=
  (h (fun _ => False) ⟨fun _ h => h, fun _ _ h => h, fun _ _ _ h => h⟩).mono fun _ _ ⟨v, hv, σ', A', hs, hr⟩ =>
    ⟨v, hv, ⟨hs.os, hs.tape, hs.output, hs.size, fun k hk => hs.same k hk (fun h => h)⟩, σ', A', hr⟩
/-- What is told of a slice of integers that came in. -/
def IsRow (k : IntKind) (w : World) (a : Option Addr) (len cap : Nat) (zs : List Int) : Prop :=
  (a = none ∧ len = 0 ∧ cap = 0 ∧ zs = []) ∨
  ∃ x, a = some x ∧ len ≤ cap ∧ cap ≤ maxLen ∧ zs.length = cap ∧ (∀ i, i < zs.length → w.cell? (x.add i) = some (.int k (zs.getD i 0))) ∧ ∀ n ∈ zs, (Lit.int k n).wf = true
theorem IsRow.sl {k : IntKind} {w : World} {a : Option Addr} {len cap : Nat} {zs : List Int} (h : IsRow k w a len cap zs) : Sl (Kd.int k) (hf w) (.slice a len cap) (zs.take len) ∧ ∀ n ∈ zs.take len, (Lit.int k n).wf = true := by
  rcases h with ⟨rfl, rfl, rfl, rfl⟩ | ⟨x, rfl, hl, hm, hz, hc, hw⟩
  · exact ⟨⟨none, 0, rfl, Nat.le_refl _, .inl rfl⟩, by simp⟩
  · refine ⟨?_, fun n hn => hw n (List.mem_of_mem_take hn)⟩
    have hlen : (zs.take len).length = len := by simp; omega
    refine ⟨some x, cap, by rw [hlen], by omega, ?_⟩
    by_cases h0 : len = 0
    · subst h0; exact .inl rfl
    · have h1 := hc 0 (by omega)
      have hs : x.spot = none := by simpa [Addr.add] using World.cell?_spot h1
      obtain ⟨b, off, spot⟩ := x
      subst hs
      have hcell : ∀ i, i < zs.length → w.cell? ⟨b, off + i, none⟩ = some (.int k (zs.getD i 0)) := fun i hi => by have := hc i hi; rwa [addr_add rfl] at this
      have h2 := hcell 0 (by omega)
      unfold World.cell? at h2
      split at h2
      · rename_i c T fr hg
        refine .inr ⟨b, off, c, T, fr, rfl, hg, ?_⟩
        intro i n hi
        have hi' : i < len := by
          have := (List.getElem?_eq_some_iff.1 hi).1
          omega
        have h3 := hcell i (by omega)
        unfold World.cell? at h3
        simp only [hg] at h3
        refine ⟨_, rfl, ?_⟩
        intro j v hj
        have hj0 : j = 0 := by
          cases j with
          | zero => rfl
          | succ j => simp at hj
        subst hj0
        simp at hj
        subst hj
        have hn : zs.getD i 0 = n := by
          rw [List.getElem?_take] at hi
          rw [if_pos hi'] at hi
          simp [List.getD, hi]
        have h4 : c[off + i]? = some (.int k (zs.getD i 0)) := by simpa using h3
        rw [hn] at h4
        show c.toList[off + i * 1 + 0]? = _
        simpa using h4
      · simp at h2
end Go.Kw
