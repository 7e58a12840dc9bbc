/- The statement 'FnExactAheadSaid': the law returns true at every input and leaves memory as it was. Conditions: none. -/
import Derived.Test.YthficejgcbadjaaGreatRows
import Derived.Test.YthficejgcbadjaaGreatKwC5E
import Derived.Test.YthficejgcbadjaaGreatKwC5In
import Derived.WalkKit
import Derived.ProofKit
import Derived.OpenShut
import Derived.ShutString
import Derived.ChangeOld
import Derived.Below
namespace Go.Proofs.YthficejgcbadjaaGreat.laws_FnExactAheadRow
open Go.ChangeShapes Go.WideShapes Go.ChangeAt Go.RowKit Go.Kw
set_option linter.unusedVariables false
set_option linter.unusedSimpArgs false

theorem own : ownKnob Tryz.prog.godebug = none := by kernel_rfl
theorem laidOut : laidOutB Tryz.prog = true := by kernel_rfl

theorem walk (w : World) (x100001 : TEngine) (c100002 : List Value) (v100004 : Value) (v100006 : Value) (v100008 : Value) (v100010 : Value) (h100003 : ((Kd.arr 8 kTPage)).K (hf w) x100001.Disk c100002) (h100005 : Sl kTSeat (hf w) v100004 x100001.Pool.Seats) (h100007 : Sl kTRec (hf w) v100006 x100001.Log.Recs) (h100009 : Sl kTLive (hf w) v100008 x100001.Txs) (h100011 : Sl kTHold (hf w) v100010 x100001.Holds) (hW0 : wTEngine x100001) :
    Calls Tryz.prog 3 #[(.agg (c100002 ++ [v100004, (.int .i64 x100001.Pool.Hand), v100006, (.int .i64 x100001.Log.Sure), v100008, v100010, (.int .i64 x100001.Next), (.bool x100001.Down)] : List Value).toArray)] w fun e w' => e = .returned (.bool true) ∧ Below w.heap.size w w' := by
  obtain ⟨k, hk⟩ := laws_FnExactAhead.ok x100001 hW0
  refine (law_below (laws_FnExactAhead.spec k (hf w) w x100001 c100002 v100004 v100006 v100008 v100010 h100003 h100005 h100007 h100009 h100011 _ hk)).mono ?_
  rintro e w' ⟨v, rfl, hB, s, A, rfl, _⟩
  exact ⟨rfl, hB⟩

set_option maxRecDepth 100000 in
theorem lifted (os : Os) (started : os.Started) (H : Type) (enc : TypeId × Value → H) :
    ReturnsInHanded {} Tryz.checked os 3 .any (Rows.fnExactAheadSpec.pre6 enc Tryz.prog Tryz.f3 Rows.fnExactAheadRow.domain false) (Rows.fnExactAheadSpec.post enc Tryz.prog Tryz.f3 false true false false) := by
  refine returnsInHanded_of_change (C := Tryz.checked) own started (by kernel_rfl) Tryz.func3
    (ChangeSpec.witness6 (enc := enc) (C := Tryz.checked) false ⟨#[], #[.agg #[.int .i64 0, .bool false, .int .i64 0, .slice none 0 0, .slice none 0 0, .bool false, .int .i64 0, .slice none 0 0, .slice none 0 0, .bool false, .int .i64 0, .slice none 0 0, .slice none 0 0, .bool false, .int .i64 0, .slice none 0 0, .slice none 0 0, .int .i64 0, .bool false, .int .i64 0, .slice none 0 0, .slice none 0 0, .bool false, .int .i64 0, .slice none 0 0, .slice none 0 0, .bool false, .int .i64 0, .slice none 0 0, .slice none 0 0, .bool false, .int .i64 0, .slice none 0 0, .slice none 0 0, .int .i64 0, .bool false, .int .i64 0, .slice none 0 0, .slice none 0 0, .bool false, .int .i64 0, .slice none 0 0, .slice none 0 0, .bool false, .int .i64 0, .slice none 0 0, .slice none 0 0, .bool false, .int .i64 0, .slice none 0 0, .slice none 0 0, .int .i64 0, .bool false, .int .i64 0, .slice none 0 0, .slice none 0 0, .bool false, .int .i64 0, .slice none 0 0, .slice none 0 0, .bool false, .int .i64 0, .slice none 0 0, .slice none 0 0, .bool false, .int .i64 0, .slice none 0 0, .slice none 0 0, .int .i64 0, .bool false, .int .i64 0, .slice none 0 0, .slice none 0 0, .bool false, .int .i64 0, .slice none 0 0, .slice none 0 0, .bool false, .int .i64 0, .slice none 0 0, .slice none 0 0, .bool false, .int .i64 0, .slice none 0 0, .slice none 0 0, .int .i64 0, .bool false, .int .i64 0, .slice none 0 0, .slice none 0 0, .bool false, .int .i64 0, .slice none 0 0, .slice none 0 0, .bool false, .int .i64 0, .slice none 0 0, .slice none 0 0, .bool false, .int .i64 0, .slice none 0 0, .slice none 0 0, .int .i64 0, .bool false, .int .i64 0, .slice none 0 0, .slice none 0 0, .bool false, .int .i64 0, .slice none 0 0, .slice none 0 0, .bool false, .int .i64 0, .slice none 0 0, .slice none 0 0, .bool false, .int .i64 0, .slice none 0 0, .slice none 0 0, .int .i64 0, .bool false, .int .i64 0, .slice none 0 0, .slice none 0 0, .bool false, .int .i64 0, .slice none 0 0, .slice none 0 0, .bool false, .int .i64 0, .slice none 0 0, .slice none 0 0, .bool false, .int .i64 0, .slice none 0 0, .slice none 0 0, .slice none 0 0, .int .i64 0, .slice none 0 0, .int .i64 0, .slice none 0 0, .slice none 0 0, .int .i64 0, .bool false]], []⟩ 64 (by kernel_rfl) (by kernel_rfl) (by kernel_rfl) (by kernel_rfl)) ?_
  intro W base args ds gs before hval0 hW hcnd _
  have hval : ∀ (j : Nat) t v, Tryz.f3.params[j]? = some t → args[j]? = some v → Value.okWide Tryz.prog W .any base t v := hval0
  have hW' := hW
  obtain ⟨p, q, hA0, hV, rfl, hfz, hnd⟩ := hW
  have hA : DataW.TrodAll enc Tryz.prog W 0 (fun _ => true) true Tryz.f3.params.toList args.toList ds p := hA0
  rw [Tryz.params3] at hA hval
  obtain ⟨v0, vs0, d0, ds0, p0, q0, hargs, rfl, rfl, h0, r0⟩ := trodAll_cons hA
  obtain ⟨rfl, rfl, rfl⟩ := trodAll_nil r0
  obtain rfl : args = #[v0] := by apply Array.ext'; simpa using hargs
  obtain ⟨rfl, rfl⟩ := trodVars_none hV
  have k0 := h0
  have lt0 : ∀ x ∈ p0, x.block < W.heap.size := by obtain ⟨m, hm⟩ := k0; exact DataW.trod_lt m _ _ _ hm
  obtain ⟨cs0, hv0, _⟩ := okWide_struct (layL (P := Tryz.prog) (t := 40) (l := [(0, 30), (136, 33), (138, 36), (140, 37), (141, 38), (142, 3), (143, 4)]) (by kernel_rfl)).choose_spec (hval 0 40 v0 rfl rfl)
  subst hv0
  obtain ⟨y0, hk0, hy0⟩ : ∃ y, kTEngine.K (hf W) y cs0.toList ∧ wTEngine y := by obtain ⟨fuel, hf⟩ := h0; exact tr_40 enc W _ _ fuel _ _ hf
  obtain ⟨e0_0, e0_1, e0_2, e0_3, e0_4, hc0, f0_0, f0_1, f0_2, f0_3, f0_4⟩ := kTEngine_open hk0
  obtain rfl : cs0 = List.toArray _ := by apply Array.ext'; simpa using hc0
  clear hA0 hval0
  refine (walk W y0 e0_0 e0_1 e0_2 e0_3 e0_4 f0_0 f0_1 f0_2 f0_3 f0_4 hy0).mono fun e W' ⟨he, bel⟩ => ?_
  subst he
  exact ⟨_, rfl, _, _, _, [], _, [], hW', trodAll_mk1 (shut_bool Tryz.underlying4 _), (trodAll_cons_mk (Below.trod laidOut (by kernel_rfl) (of_decide_eq_true (by kernel_rfl)) k0 bel lt0) trodAll_mk0), rfl, bel.frame _, fun h => by cases h⟩

theorem over : Rows.fnExactAheadRow.holds Tryz.pinned (OpenSpec.ofChange Rows.fnExactAheadSpec) :=
  OpenClaim.holds_of_wide 3 Tryz.f3 rfl rfl rfl rfl rfl rfl rfl ⟨rfl, rfl, rfl, rfl, rfl⟩ rfl rfl rfl rfl rfl (by kernel_rfl) Tryz.func3 (by kernel_rfl)
    (of_decide_eq_true (by kernel_rfl)) (by unfold Func.isWrapper; first | (rw [if_pos (by decide +kernel)]; kernel_rfl) | (rw [if_neg (by decide +kernel)]; exact ⟨rfl, rfl⟩))
    (fun os started H enc _ => lifted os started H enc)

theorem proved : Rows.FnExactAheadSaid := over
end Go.Proofs.YthficejgcbadjaaGreat.laws_FnExactAheadRow
