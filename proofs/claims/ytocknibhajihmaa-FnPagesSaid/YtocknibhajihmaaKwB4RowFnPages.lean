/- The statement 'FnPagesSaid': the law returns true at every input and leaves memory as it was. Conditions: none. -/
import Derived.Test.YtocknibhajihmaaRows
import Derived.Test.YtocknibhajihmaaKwB4I
import Derived.Test.YtocknibhajihmaaKwB4In
import Derived.WalkKit
import Derived.ProofKit
import Derived.OpenShut
import Derived.ShutString
import Derived.ChangeOld
import Derived.Below
namespace Go.Proofs.Ytocknibhajihmaa.laws_FnPagesRow
open Go.ChangeShapes Go.WideShapes Go.ChangeAt Go.RowKit Go.Kw
set_option linter.unusedVariables false
set_option linter.unusedSimpArgs false

theorem own : ownKnob Try.prog.godebug = none := by kernel_rfl
theorem laidOut : laidOutB Try.prog = true := by kernel_rfl

theorem walk (w : World) (x123286 : (List Int)) (v123287 : Value) (h123288 : Sl (Kd.int .u8) (hf w) v123287 x123286) (hW0 : (x123286.length ≤ maxLen ∧ ∀ q1 ∈ x123286, (Lit.int .u8 q1).wf = true)) :
    Calls Try.prog 5 #[v123287] w fun e w' => e = .returned (.bool true) ∧ Below w.heap.size w w' := by
  obtain ⟨k, hk⟩ := laws_FnPages.ok x123286 hW0
  refine (law_below (laws_FnPages.spec k (hf w) w x123286 v123287 h123288 _ hk)).mono ?_
  rintro e w' ⟨v, rfl, hB, s, A, rfl, _⟩
  exact ⟨rfl, hB⟩

set_option maxRecDepth 100000 in
theorem lifted (os : Os) (started : os.Started) (H : Type) (enc : TypeId × Value → H) :
    ReturnsInHanded {} Try.checked os 5 .any (Rows.fnPagesSpec.pre6 enc Try.prog Try.f5 Rows.fnPagesRow.domain false) (Rows.fnPagesSpec.post enc Try.prog Try.f5 false true false false) := by
  refine returnsInHanded_of_change (C := Try.checked) own started (by kernel_rfl) Try.func5
    (ChangeSpec.witness6 (enc := enc) (C := Try.checked) false ⟨#[], #[.slice none 0 0], []⟩ 64 (by kernel_rfl) (by kernel_rfl) (by kernel_rfl) (by kernel_rfl)) ?_
  intro W base args ds gs before hval0 hW hcnd _
  have hval : ∀ (j : Nat) t v, Try.f5.params[j]? = some t → args[j]? = some v → Value.okWide Try.prog W .any base t v := hval0
  have hW' := hW
  obtain ⟨p, q, hA0, hV, rfl, hfz, hnd⟩ := hW
  have hA : DataW.TrodAll enc Try.prog W 0 (fun _ => true) true Try.f5.params.toList args.toList ds p := hA0
  rw [Try.params5] at hA hval
  obtain ⟨v0, vs0, d0, ds0, p0, q0, hargs, rfl, rfl, h0, r0⟩ := trodAll_cons hA
  obtain ⟨rfl, rfl, rfl⟩ := trodAll_nil r0
  obtain rfl : args = #[v0] := by apply Array.ext'; simpa using hargs
  obtain ⟨rfl, rfl⟩ := trodVars_none hV
  have k0 := h0
  have lt0 : ∀ x ∈ p0, x.block < W.heap.size := by obtain ⟨m, hm⟩ := k0; exact DataW.trod_lt m _ _ _ hm
  obtain ⟨a0, len0, cap0, hv0⟩ := okWide_slice (show Try.prog.underlying 24 = some (.slice 5) by kernel_rfl) (hval 0 24 v0 rfl rfl)
  obtain ⟨y0, hk0, hy0⟩ : ∃ y, (Kd.slice (Kd.int .u8)).K (hf W) y v0.cells.toList ∧ (y.length ≤ maxLen ∧ ∀ q1 ∈ y, (Lit.int .u8 q1).wf = true) := by obtain ⟨fuel, hf⟩ := h0; exact tr_24 enc W _ _ fuel _ _ hf
  obtain ⟨u0, hu0, hs0⟩ := hk0
  have hu0 : v0 = u0 := by subst hv0; simpa [Value.cells] using hu0
  subst hu0
  clear hA0 hval0
  refine (walk W y0 v0 hs0 hy0).mono fun e W' ⟨he, bel⟩ => ?_
  subst he
  exact ⟨_, rfl, _, _, _, [], _, [], hW', trodAll_mk1 (shut_bool Try.underlying4 _), (trodAll_cons_mk (Below.trod laidOut (by kernel_rfl) (of_decide_eq_true (by kernel_rfl)) k0 bel lt0) trodAll_mk0), rfl, bel.frame _, fun h => by cases h⟩

theorem over : Rows.fnPagesRow.holds Try.pinned (OpenSpec.ofChange Rows.fnPagesSpec) :=
  OpenClaim.holds_of_wide 5 Try.f5 rfl rfl rfl rfl rfl rfl rfl ⟨rfl, rfl, rfl, rfl, rfl⟩ rfl rfl rfl rfl rfl (by kernel_rfl) Try.func5 (by kernel_rfl)
    (of_decide_eq_true (by kernel_rfl)) (by unfold Func.isWrapper; first | (rw [if_pos (by decide +kernel)]; kernel_rfl) | (rw [if_neg (by decide +kernel)]; exact ⟨rfl, rfl⟩))
    (fun os started H enc _ => lifted os started H enc)

theorem proved : Rows.FnPagesSaid := over
end Go.Proofs.Ytocknibhajihmaa.laws_FnPagesRow
