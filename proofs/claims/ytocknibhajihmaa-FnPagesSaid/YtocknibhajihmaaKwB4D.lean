/- When records are right: both texts alike. Conditions: none. -/
import Derived.Test.YtocknibhajihmaaKwB4B
set_option linter.unusedVariables false
set_option linter.unusedSimpArgs false
namespace Go.Proofs.Ytocknibhajihmaa
open Go.Kw

theorem SI_ev (xs ys : List Int) (hl : xs.length ≤ 1048576) (hl2 : ys.length ≤ 1048576) : EvP (fun k => spec_l2SameInts.f k xs ys) (· = decide (xs = ys)) := by
  unfold spec_l2SameInts.f spec_l2SameInts.c1
  refine EvP.ite (fun h => EvP.ret ?_) fun h => ?_
  · simp only [decide_eq_true_eq] at h
    have : xs ≠ ys := fun e => h (by rw [e])
    simp [this]
  · simp only [decide_eq_true_eq, Classical.not_not] at h
    have hlen : xs.length = ys.length := by omega
    refine EvP.bind1 (range_ev (spec_l2SameInts.l1 xs ys) xs.length (fun i => decide (rd xs (i : Int) = rd ys (i : Int))) (by omega) ?_ ?_ ?_) ?_
    · intro i hi hP
      simp only [spec_l2SameInts.l1]
      refine EvP.ifT (by simpa using hi) (EvP.ifT (by omega) (EvP.ifT (by omega) (EvP.ifT (by simpa using hP) (EvP.ret rfl))))
    · intro i Q hi hP ih
      simp only [spec_l2SameInts.l1]
      refine EvP.ifT (by simpa using hi) (EvP.ifT (by omega) (EvP.ifT (by omega) (EvP.ifF (by simpa using hP) ?_)))
      rw [w64_succ hi (by omega)]; exact ih
    · simp only [spec_l2SameInts.l1]
      exact EvP.ifF (by simp) (EvP.ret rfl)
    · have : (List.range xs.length).all (fun i => decide (rd xs (i : Int) = rd ys (i : Int))) = decide (xs = ys) := rd_all hlen
      rw [this]
      cases decide (xs = ys) with
      | false => simp only [Bool.false_eq_true, if_false, Ex.on]; exact EvP.ret rfl
      | true => simp only [if_true, Ex.on]; exact EvP.ret rfl
def sameObjB (a b : TObj) : Bool := decide (a.Kind = b.Kind) && decide (a.Ints = b.Ints) && decide (a.Refs = b.Refs)
theorem sSameObj_ev {a b : TObj} (h : gObj a) (k : gObj b) : EvP (fun n => spec_SameObj.f n a b) (· = sameObjB a b) := by
  unfold spec_SameObj.f spec_SameObj.c2 spec_SameObj.c1
  exact EvP.bind1 (and_ev fun _ => SI_ev _ _ h.1 k.1) (EvP.bind1 (and_ev fun _ => SI_ev _ _ h.2.1 k.2.1) (EvP.ret rfl))
def zeroSlot : TSlot := ⟨false, ⟨0, [], []⟩⟩
end Go.Proofs.Ytocknibhajihmaa
