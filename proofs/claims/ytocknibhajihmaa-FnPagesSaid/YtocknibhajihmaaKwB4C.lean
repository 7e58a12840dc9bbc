/- The plain law of a cursor over bytes. Conditions: none. -/
import Derived.Test.YtocknibhajihmaaKwB4F
import Derived.Test.YtocknibhajihmaaKwP
set_option linter.unusedVariables false
set_option linter.unusedSimpArgs false
namespace Go.Proofs.Ytocknibhajihmaa
open Go.Kw

/-- A cursor over xs. -/
def Cur (xs : List Int) (b : List Int) (i : Int) : Prop := b = xs ∧ 0 ≤ i ∧ i ≤ (xs.length : Int)
theorem l1Byte_ev {xs b : List Int} {i h : Int} (hl : xs.length ≤ 1048576) (hc : Cur xs b i) :
    EvP (fun k => spec_l1Byte.f k b i h) (fun r => 0 ≤ r.1 ∧ r.1 ≤ 255 ∧ Cur xs r.2.1 r.2.2.1) := by
  obtain ⟨rfl, h0, h1⟩ := hc
  unfold spec_l1Byte.f spec_l1Byte.c1
  refine EvP.bind (Q := fun r => 0 ≤ r.1 ∧ r.1 ≤ (b.length : Int) ∧ 0 ≤ r.2 ∧ r.2 ≤ 255) ?_ fun r hr => EvP.ret ⟨hr.2.2.1, hr.2.2.2, rfl, hr.1, hr.2.1⟩
  refine EvP.ite (fun hi => EvP.ifT ⟨h0, by simpa using hi⟩ (EvP.ret ?_)) fun hi => EvP.ret ⟨h0, h1, band_range (by decide) (by decide)⟩
  have hi' : i < (b.length : Int) := by simpa using hi
  exact ⟨by rw [w64_id (by omega) (by omega)]; omega, by rw [w64_id (by omega) (by omega)]; omega, band_range (by decide) (by decide)⟩
theorem l1Below_ev {xs b : List Int} {i h n : Int} (hl : xs.length ≤ 1048576) (hc : Cur xs b i) (hn : 0 < n) :
    EvP (fun k => spec_l1Below.f k b i h n) (fun r => 0 ≤ r.1 ∧ r.1 < n ∧ Cur xs r.2.1 r.2.2.1) := by
  unfold spec_l1Below.f
  refine EvP.ifF (by simp; omega) ?_
  refine EvP.ite (fun _ => ?_) fun _ => ?_
  · refine EvP.bind (l1Byte_ev hl hc) fun r hr => EvP.ifT (by omega) (EvP.ret ?_)
    exact ⟨(tmod_range hr.1 hn).1, (tmod_range hr.1 hn).2, hr.2.2⟩
  · refine EvP.bind (l1Byte_ev hl hc) fun r hr => EvP.bind (l1Byte_ev hl hr.2.2) fun r2 hr2 => EvP.bind (l1Byte_ev hl hr2.2.2) fun r3 hr3 => EvP.ifT (by omega) (EvP.ret ?_)
    have e : w64 (w64 (w64 (r.1 * 65536) + w64 (r2.1 * 256)) + r3.1) = r.1 * 65536 + r2.1 * 256 + r3.1 := by
      rw [w64_id (n := r.1 * 65536) (by omega) (by omega), w64_id (n := r2.1 * 256) (by omega) (by omega), w64_id (n := r.1 * 65536 + r2.1 * 256) (by omega) (by omega), w64_id (by omega) (by omega)]
    rw [e]
    exact ⟨(tmod_range (by omega) hn).1, (tmod_range (by omega) hn).2, hr3.2.2⟩
theorem l1Int_ev {xs b : List Int} {i h : Int} {ns : List Int} (hl : xs.length ≤ 1048576) (hc : Cur xs b i) (hn : ns ≠ []) :
    EvP (fun k => spec_l1Int.f k b i h ns) (fun r => r.1 ∈ ns ∧ Cur xs r.2.1 r.2.2.1) := by
  unfold spec_l1Int.f
  have h1 : 0 < ns.length := List.length_pos_iff.2 hn
  refine EvP.bind (l1Below_ev hl hc (by omega)) fun r hr => EvP.ifT ⟨hr.1, hr.2.1⟩ (EvP.ret ⟨rd_mem hr.1 hr.2.1, hr.2.2⟩)
theorem l1Once_ev {xs b : List Int} {i h n : Int} (hl : xs.length ≤ 1048576) (hc : Cur xs b i) (hn : 0 < n) :
    EvP (fun k => spec_l1Once.f k b i h n) (fun r => Cur xs r.2.1 r.2.2.1) := by
  unfold spec_l1Once.f
  exact EvP.bind (l1Below_ev hl hc hn) fun r hr => EvP.ret hr.2.2
theorem l1New_ev {xs : List Int} (hl : xs.length ≤ 1048576) : EvP (fun k => spec_l1New.f k xs) (fun r => Cur xs r.b r.i) := by
  unfold spec_l1New.f
  refine EvP.bind (Q := fun _ => True) ?_ fun a _ => EvP.ret ⟨rfl, by simp [spec_l1New.c1], by simp [spec_l1New.c1]⟩
  have : ∀ (n : Nat) (i : Nat) (h : Int), xs.length - i ≤ n → i ≤ xs.length → EvP (fun k => spec_l1New.l1 xs k h (i : Int)) (fun _ => True) := by
    intro n
    induction n with
    | zero =>
      intro i h h1 h2
      refine EvP.succ ?_
      simp only [spec_l1New.l1]
      exact EvP.ifF (by simp; omega) (EvP.ret trivial)
    | succ n ih =>
      intro i h h1 h2
      refine EvP.succ ?_
      simp only [spec_l1New.l1]
      refine EvP.ite (fun hi => ?_) fun _ => EvP.ret trivial
      simp only [Bool.and_eq_true, decide_eq_true_eq] at hi
      refine EvP.ifT ⟨by omega, hi.1⟩ ?_
      rw [w64_succ (n := xs.length) (by omega) (by omega)]
      exact ih _ _ (by omega) (by omega)
  exact this _ 0 _ (Nat.le_refl _) (Nat.zero_le _)
theorem big_ev (xs : List Int) : EvP (fun k => laws_big.f k xs) (· = decide (1048576 < (xs.length : Int))) := EvP.ret rfl
end Go.Proofs.Ytocknibhajihmaa
