/- A page comes back of its bytes. Conditions: none. -/
import Derived.Test.YtocknibhajihmaaKwB4K
import Derived.Test.YtocknibhajihmaaKwB4P
set_option linter.unusedVariables false
set_option linter.unusedSimpArgs false
namespace Go.Proofs.Ytocknibhajihmaa
open Go.Kw

theorem crc8_ev (h : Int) : EvP (fun k => impl_Crc.l2 k h 0) (fun _ => True) := by
  refine for_up (fun k (s : Int) i => impl_Crc.l2 k s i) 8 (fun _ _ => True) _ ?_ ?_ (i := 0) (s := h) (Nat.zero_le _) trivial
  · intro i s hi _ ih
    simp only [impl_Crc.l2, impl_Crc.c3]
    refine EvP.ifT (by simp only [decide_eq_true_eq]; omega) (EvP.bind (Q := fun _ => True) (EvP.ite (fun _ => EvP.ret trivial) fun _ => EvP.ret trivial) fun a _ => ?_)
    rw [w64_succ hi (by omega)]
    exact ih a trivial
  · intro s _
    simp only [impl_Crc.l2]
    exact EvP.ifF (by simp) (EvP.ret trivial)
theorem crc_ev {b : List Int} (hl : b.length ≤ 1048576) : EvP (fun k => impl_Crc.f k b) (fun _ => True) := by
  unfold impl_Crc.f impl_Crc.c1
  refine EvP.bind (Q := fun _ => True) ?_ fun _ _ => EvP.ret trivial
  refine for_up (fun k (s : Int) i => impl_Crc.l1 b k s i) b.length (fun _ _ => True) _ ?_ ?_ (i := 0) (s := 4294967295) (Nat.zero_le _) trivial
  · intro i s hi _ ih
    simp only [impl_Crc.l1, impl_Crc.c2]
    refine EvP.ifT (by simp only [decide_eq_true_eq]; omega) (EvP.bind (EvP.ifT (by omega) (crc8_ev _)) fun a _ => ?_)
    rw [w64_succ hi (by omega)]
    exact ih a trivial
  · intro s _
    simp only [impl_Crc.l1]
    exact EvP.ifF (by simp) (EvP.ret trivial)
theorem w8_range (n : Int) : 0 ≤ w8 n ∧ w8 n < 256 := by
  have : w8 n = n % 256 := by simp [w8, IntKind.wrap, IntKind.signed, IntKind.bits]
  rw [this]; omega
theorem sum_ev {b : List Int} (hl : b.length ≤ 1048576) : ∃ S : List Int, (S.length = 4 ∧ wfB S) ∧ EvP (fun k => impl_sumBytes.f k b) (· = S) := by
  have h : EvP (fun k => impl_sumBytes.f k b) (fun S => S.length = 4 ∧ wfB S) := by
    unfold impl_sumBytes.f
    refine EvP.bind (crc_ev hl) fun c _ => EvP.ret ⟨rfl, fun x hx => ?_⟩
    simp only [List.mem_cons, List.not_mem_nil, or_false] at hx
    rcases hx with rfl | rfl | rfl | rfl <;> exact w8_range _
  exact h.cases
theorem concat_ev (a b c : List Int) (ha : a.length ≤ 1048576) (hb : b.length ≤ 1048576) (hc : c.length ≤ 1048576) : EvP (fun k => slices_Concat.f k [a, b, c]) (· = a ++ b ++ c) := by
  have g1 : ∀ n : Int, 0 ≤ n → n ≤ 4194304 → w64 n = n := fun n h0 h1 => w64_id (by omega) (by omega)
  unfold slices_Concat.f
  refine EvP.bind1 (a := (a.length : Int) + b.length + c.length) ?_ ?_
  · refine EvP.succ (EvP.succ (EvP.succ (EvP.succ ?_)))
    simp only [slices_Concat.l2, slices_Concat.c3]
    simp only [List.length_cons, List.length_nil]
    have r0 : rd [a, b, c] 0 = a := rfl
    have r1 : rd [a, b, c] 1 = b := rfl
    have r2 : rd [a, b, c] 2 = c := rfl
    have s1 : w64 (0 + 1) = 1 := rfl
    have s2 : w64 (1 + 1) = 2 := rfl
    have s3 : w64 (2 + 1) = 3 := rfl
    simp only [s1, s2, s3, r0, r1, r2]
    rw [g1 (0 + (a.length : Int)) (by omega) (by omega)]
    refine EvP.ifT (by simp) (EvP.bind1 (a := 0 + (a.length : Int)) (EvP.ifT (by omega) (EvP.ifF (by simp only [decide_eq_true_eq]; omega) (EvP.ret rfl))) ?_)
    rw [g1 (0 + (a.length : Int) + (b.length : Int)) (by omega) (by omega)]
    refine EvP.ifT (by simp) (EvP.bind1 (a := 0 + (a.length : Int) + b.length) (EvP.ifT (by omega) (EvP.ifF (by simp only [decide_eq_true_eq]; omega) (EvP.ret rfl))) ?_)
    rw [g1 (0 + (a.length : Int) + (b.length : Int) + (c.length : Int)) (by omega) (by omega)]
    refine EvP.ifT (by simp) (EvP.bind1 (a := 0 + (a.length : Int) + b.length + c.length) (EvP.ifT (by omega) (EvP.ifF (by simp only [decide_eq_true_eq]; omega) (EvP.ret rfl))) ?_)
    exact EvP.ifF (by simp) (EvP.ret (by omega))
  · unfold slices_Concat.c2 slices_Concat.c1 slices_Grow.f
    refine EvP.bind1 (a := ([] : List Int)) (EvP.ifT (by omega) (EvP.ret rfl)) (EvP.bind1 (a := a ++ b ++ c) ?_ (EvP.ret rfl))
    refine EvP.succ (EvP.succ (EvP.succ (EvP.succ ?_)))
    simp only [slices_Concat.l1]
    simp only [List.length_cons, List.length_nil]
    have r0 : rd [a, b, c] 0 = a := rfl
    have r1 : rd [a, b, c] 1 = b := rfl
    have r2 : rd [a, b, c] 2 = c := rfl
    have s1 : w64 (0 + 1) = 1 := rfl
    have s2 : w64 (1 + 1) = 2 := rfl
    have s3 : w64 (2 + 1) = 3 := rfl
    simp only [s1, s2, s3, r0, r1, r2, List.nil_append]
    refine EvP.ifT (by simp) (EvP.ifT (by omega) (EvP.ifT (by omega) (EvP.ifT (by simp) (EvP.ifT (by omega) (EvP.ifT (by omega) (EvP.ifT (by simp) (EvP.ifT (by omega) (EvP.ifT (by rw [List.length_append]; omega) (EvP.ifF (by simp) (EvP.ret rfl))))))))))
/-- The bytes inside a page's frame. -/
def inner (p : TPage) : List Int := enc p.Lsn ++ p.Slots.flatMap encSlot
theorem frame_ev {b : List Int} (hl : b.length ≤ 100000) : ∃ S : List Int, (S.length = 4 ∧ wfB S) ∧ EvP (fun k => impl_sumBytes.f k b) (· = S) ∧ EvP (fun k => impl_Frame.f k b) (· = enc (b.length : Int) ++ b ++ S) := by
  obtain ⟨S, hS, h⟩ := sum_ev (b := b) (by omega)
  refine ⟨S, hS, h, ?_⟩
  unfold impl_Frame.f
  have hk := ok_nat (n := b.length) (by omega)
  have := enc_len hk
  refine EvP.bind1 (putInt_ev (by simp) hk) (EvP.bind1 h (EvP.bind1 (concat_ev _ _ _ (by simp; omega) (by omega) (by omega)) (EvP.ret ?_)))
  simp
end Go.Proofs.Ytocknibhajihmaa
