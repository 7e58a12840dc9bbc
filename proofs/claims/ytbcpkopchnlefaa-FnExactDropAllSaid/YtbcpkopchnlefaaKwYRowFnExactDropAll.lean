/- The statement 'FnExactDropAllSaid': the law returns true at every input and leaves memory as it was. Conditions: none. -/
import Derived.Test.YtbcpkopchnlefaaRows
import Derived.Test.YtbcpkopchnlefaaKwYN
import Derived.WalkKit
import Derived.ProofKit
import Derived.OpenShut
import Derived.ShutString
import Derived.ChangeOld
import Derived.Below
namespace Go.Proofs.Ytbcpkopchnlefaa.laws_FnExactDropAllRow
open Go.ChangeShapes Go.WideShapes Go.ChangeAt Go.RowKit Go.Kw
set_option linter.unusedVariables false
set_option linter.unusedSimpArgs false

theorem own : ownKnob Try.prog.godebug = none := by kernel_rfl
theorem laidOut : laidOutB Try.prog = true := by kernel_rfl

theorem walk (w : World) (x204920 : TLocks) (x204925 : Int) (v204921 : Value) (v204923 : Value) (h204922 : Sl kTGrant (hf w) v204921 x204920.Given) (h204924 : Sl kTGrant (hf w) v204923 x204920.Waits) (hW0 : wTLocks x204920) (hW1 : (Lit.int .i64 x204925).wf = true) :
    Calls Try.prog 4 #[(.agg #[v204921, v204923]), (.int .i64 x204925)] w fun e w' => e = .returned (.bool true) ∧ Below w.heap.size w w' := by
  obtain ⟨k, hk⟩ := laws_FnExactDropAll.ok x204920 x204925 hW0 hW1
  refine (law_below (laws_FnExactDropAll.spec k (hf w) w x204920 x204925 v204921 v204923 h204922 h204924 _ hk)).mono ?_
  rintro e w' ⟨v, rfl, hB, s, A, rfl, _⟩
  exact ⟨rfl, hB⟩

set_option maxRecDepth 100000 in
theorem lifted (os : Os) (started : os.Started) (H : Type) (enc : TypeId × Value → H) :
    ReturnsInHanded {} Try.checked os 4 .any (Rows.fnExactDropAllSpec.pre6 enc Try.prog Try.f4 Rows.fnExactDropAllRow.domain false) (Rows.fnExactDropAllSpec.post enc Try.prog Try.f4 false true false false) := by
  refine returnsInHanded_of_change (C := Try.checked) own started (by kernel_rfl) Try.func4
    (ChangeSpec.witness6 (enc := enc) (C := Try.checked) false ⟨#[], #[.agg #[.slice none 0 0, .slice none 0 0], .int .i64 0], []⟩ 64 (by kernel_rfl) (by kernel_rfl) (by kernel_rfl) (by kernel_rfl)) ?_
  intro W base args ds gs before hval0 hW hcnd _
  have hval : ∀ (j : Nat) t v, Try.f4.params[j]? = some t → args[j]? = some v → Value.okWide Try.prog W .any base t v := hval0
  have hW' := hW
  obtain ⟨p, q, hA0, hV, rfl, hfz, hnd⟩ := hW
  have hA : DataW.TrodAll enc Try.prog W 0 (fun _ => true) true Try.f4.params.toList args.toList ds p := hA0
  rw [Try.params4] at hA hval
  obtain ⟨v0, vs0, d0, ds0, p0, q0, hargs, rfl, rfl, h0, r0⟩ := trodAll_cons hA
  obtain ⟨v1, vs1, d1, ds1, p1, q1, rfl, rfl, rfl, h1, r1⟩ := trodAll_cons r0
  obtain ⟨rfl, rfl, rfl⟩ := trodAll_nil r1
  obtain rfl : args = #[v0, v1] := by apply Array.ext'; simpa using hargs
  obtain ⟨rfl, rfl⟩ := trodVars_none hV
  have k0 := h0
  have lt0 : ∀ x ∈ p0, x.block < W.heap.size := by obtain ⟨m, hm⟩ := k0; exact DataW.trod_lt m _ _ _ hm
  have k1 := h1
  have lt1 : ∀ x ∈ p1, x.block < W.heap.size := by obtain ⟨m, hm⟩ := k1; exact DataW.trod_lt m _ _ _ hm
  obtain ⟨cs0, hv0, _⟩ := okWide_struct (layL (P := Try.prog) (t := 37) (l := [(0, 35), (1, 35)]) (by kernel_rfl)).choose_spec (hval 0 37 v0 rfl rfl)
  subst hv0
  obtain ⟨y0, hk0, hy0⟩ : ∃ y, kTLocks.K (hf W) y cs0.toList ∧ wTLocks y := by obtain ⟨fuel, hf⟩ := h0; exact tr_37 enc W _ _ fuel _ _ hf
  obtain ⟨e0_0, e0_1, hc0, f0_0, f0_1⟩ := kTLocks_open hk0
  obtain rfl : cs0 = List.toArray _ := by apply Array.ext'; simpa using hc0
  obtain ⟨n1, hv1⟩ := okWide_int (show Try.prog.underlying 3 = some (.int .i64) by kernel_rfl) (hval 1 3 v1 rfl rfl)
  obtain ⟨y1, hk1, hy1⟩ : ∃ y, (Kd.int .i64).K (hf W) y v1.cells.toList ∧ (Lit.int .i64 y).wf = true := by obtain ⟨fuel, hf⟩ := h1; exact tr_3 enc W _ _ fuel _ _ hf
  have hu1 : v1 = .int .i64 y1 := by subst hv1; have e := hk1; simp [Value.cells, Kd.int, Kd.bool, Kd.str] at e; simp [e]
  subst hu1
  clear hA0 hval0
  refine (walk W y0 y1 e0_0 e0_1 f0_0 f0_1 hy0 hy1).mono fun e W' ⟨he, bel⟩ => ?_
  subst he
  exact ⟨_, rfl, _, _, _, [], _, [], hW', trodAll_mk1 (shut_bool Try.underlying4 _), (trodAll_cons_mk (Below.trod laidOut (by kernel_rfl) (of_decide_eq_true (by kernel_rfl)) k0 bel lt0) (trodAll_cons_mk (Below.trod laidOut (by kernel_rfl) (of_decide_eq_true (by kernel_rfl)) k1 bel lt1) trodAll_mk0)), rfl, bel.frame _, fun h => by cases h⟩

theorem over : Rows.fnExactDropAllRow.holds Try.pinned (OpenSpec.ofChange Rows.fnExactDropAllSpec) :=
  OpenClaim.holds_of_wide 4 Try.f4 rfl rfl rfl rfl rfl rfl rfl ⟨rfl, rfl, rfl, rfl, rfl⟩ rfl rfl rfl rfl rfl (by kernel_rfl) Try.func4 (by kernel_rfl)
    (of_decide_eq_true (by kernel_rfl)) (by unfold Func.isWrapper; first | (rw [if_pos (by decide +kernel)]; kernel_rfl) | (rw [if_neg (by decide +kernel)]; exact ⟨rfl, rfl⟩))
    (fun os started H enc _ => lifted os started H enc)

theorem proved : Rows.FnExactDropAllSaid := over
end Go.Proofs.Ytbcpkopchnlefaa.laws_FnExactDropAllRow
