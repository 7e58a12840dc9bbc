/- Functions of this place as plain functions, and that the machine comes to what they say. Conditions: none. -/
import Derived.Test.YtbcpkopchnlefaaKwYFd
set_option linter.unusedVariables false
set_option linter.unusedSimpArgs false
namespace Go.Proofs.Ytbcpkopchnlefaa
open Go.Kw

def laws_FnExactDropAll.c1 (k : Nat) (x1 : Int × (List TGrant) × (List TGrant)) (x2 : Int × (List Int)) (x3 : Bool) : Option Bool :=
  (if x3 = true then (some false) else ((laws_heldLocks.f k (⟨x1.2.1, x1.2.2⟩ : TLocks) 1).bind fun x4 => (if (decide (x4 < 0)) = true then (some false) else ((laws_heldIntS.f k x2.2 x4).bind fun x5 => (if (decide (x5 < 0)) = true then (some false) else (if (decide (x5 ≠ x2.1)) = true then (some false) else (some true)))))))
def laws_FnExactDropAll.c2 (k : Nat) (x6 : TLocks × (List Int)) (x7 : TLocks) (x8 : Int) (x9 : TLocks × (List Int)) (x10 : Bool) : Option Bool :=
  (if x10 = true then (some false) else ((laws_markLocks.f k x6.1 1).bind fun x1 => ((laws_markIntS.f k x6.2 x1.1).bind fun x2 => ((laws_heldLocks.f k (⟨x1.2.1, x1.2.2⟩ : TLocks) 1).bind fun x11 => (if (decide (x11 < 0)) = true then (some false) else ((laws_heldIntS.f k x2.2 x11).bind fun x12 => (if (decide (x12 < 0)) = true then (some false) else (if (decide (x12 ≠ x2.1)) = true then (some false) else ((laws_toLocks.f k x7).bind fun x13 => ((impl_DropAll.f k x13 x8).bind fun x14 => ((laws_eqLocks.f k x14.1 x9.1).bind fun x15 => ((if (!x15) = true then (some true) else ((laws_eqIntS.f k x14.2 x9.2).bind fun x16 => (some (!x16))) : Option Bool).bind fun x17 => laws_FnExactDropAll.c1 k x1 x2 x17))))))))))))
def laws_FnExactDropAll.c3 (k : Nat) (x6 : TLocks × (List Int)) (x9 : TLocks × (List Int)) (x7 : TLocks) (x8 : Int) (x18 : Bool) : Option Bool :=
  ((if x18 = true then (some true) else ((laws_eqIntS.f k x6.2 x9.2).bind fun x19 => (some (!x19))) : Option Bool).bind fun x20 => laws_FnExactDropAll.c2 k x6 x7 x8 x9 x20)
def laws_FnExactDropAll.c4 (k : Nat) (x7 : TLocks) (x21 : TLocks) (x6 : TLocks × (List Int)) (x9 : TLocks × (List Int)) (x8 : Int) (x22 : Bool) : Option Bool :=
  (if x22 = true then (some false) else ((laws_toLocks.f k x7).bind fun x23 => ((laws_eqLocks.f k x21 x23).bind fun x24 => (if (!x24) = true then (some false) else ((laws_markLocks.f k x21 1).bind fun x25 => ((if (decide (x25.1 < 0)) = true then (some true) else ((laws_eqLocks.f k x6.1 x9.1).bind fun x26 => (some (!x26))) : Option Bool).bind fun x27 => laws_FnExactDropAll.c3 k x6 x9 x7 x8 x27))))))
def laws_FnExactDropAll.f (k : Nat) (x7 : TLocks) (x8 : Int) : Option Bool :=
  ((laws_szLocks.f k x7 1048576).bind fun x28 => (if (decide (x28 < 0)) = true then (some true) else ((laws_toLocks.f k x7).bind fun x29 => ((spec_DropAll.f k x29 x8).bind fun x9 => ((laws_toLocks.f k x7).bind fun x21 => ((impl_DropAll.f k x21 x8).bind fun x6 => ((laws_eqLocks.f k x6.1 x9.1).bind fun x30 => ((if (!x30) = true then (some true) else ((laws_eqIntS.f k x6.2 x9.2).bind fun x31 => (some (!x31))) : Option Bool).bind fun x32 => laws_FnExactDropAll.c4 k x7 x21 x6 x9 x8 x32))))))))
set_option maxRecDepth 100000 in
set_option maxHeartbeats 4000000 in
theorem laws_FnExactDropAll.spec (k : Nat) (s0 : HF) (w : World) (x7 : TLocks) (x8 : Int) (v1 : Value) (v2 : Value) (h1 : Sl kTGrant s0 v1 x7.Given) (h2 : Sl kTGrant s0 v2 x7.Waits) (r : Bool) (H : laws_FnExactDropAll.f k x7 x8 = some r) :
    Law Try.prog 4 #[(.agg #[v1, v2]), (.int .i64 x8)] s0 w [] (fun v s1 A1 => v = (.bool r) ∧ A1 = []) := by
  unfold laws_FnExactDropAll.f at H
  refine Law.intro Try.func4 rfl [(0, (.agg #[v1, v2])), (1, (.int .i64 x8))] (Nat.le_of_ble_eq_true rfl) (enter_lk ⟨rfl, rfl, trivial⟩) (fun e a hS hF => ?_)
  have hF : Fr 117 a [(0, (.agg #[v1, v2])), (1, (.int .i64 x8))] := hF
  refine sq ?_
  refine rg ?_
  refine ste hF (e_box (cs := [v1, v2]) hS rfl rfl) (by decide) (fun v w a hR hF => ?_)
  obtain ⟨g1, rfl, hS⟩ := hR
  refine stp hF (p_assign rfl) (by decide) (fun a hF => ?_)
  refine nilN ?_
  refine xn ?_
  refine sq ?_
  refine rg ?_
  refine stp hF (p_assign rfl) (by decide) (fun a hF => ?_)
  refine nilN ?_
  refine xn ?_
  refine sq ?_
  refine rg ?_
  refine stp hF (p_ldb_agg (i := 0) (l := []) (m := [v1, v2]) (r := []) hS rfl rfl ia_37 ti_37 rfl rfl rfl) (by decide) (fun a hF => ?_)
  refine stp hF (p_move rfl) (by decide) (fun a hF => ?_)
  obtain ⟨x28, hx1, H⟩ := hb H
  refine ste hF (e_call (fst := []) (vs := [(.agg #[v1, v2]), (.int .i64 1048576)]) (cap := []) rfl rfl go_12 (St.call (A := []) (B := [pt g1 37 ([v1, v2])]) hS (laws_szLocks.spec k _ _ x7 1048576 v1 v2 h1 h2 _ hx1))) (by decide) (fun v w a hR hF => ?_)
  obtain ⟨s2, A2, hg1, hS, hR⟩ := hR
  obtain ⟨hv1, rfl⟩ := hR; obtain rfl := hv1.symm
  have hS : St e s2 w [pt g1 37 ([v1, v2])] := hS
  refine stp hF (p_assign rfl) (by decide) (fun a hF => ?_)
  refine nilN ?_
  refine xn ?_
  refine sq ?_
  refine sq ?_
  refine rg ?_
  refine stp hF (p_move rfl) (by decide) (fun a hF => ?_)
  refine stp hF (p_lss rfl rfl) (by decide) (fun a hF => ?_)
  refine nilN ?_
  refine xn ?_
  refine cnd hF rfl (fun hc1 => ?_) (fun hc1 => ?_)
  · replace H := hbt hc1 H
    refine sq ?_
    refine rg ?_
    refine stp hF (p_assign rfl) (by decide) (fun a hF => ?_)
    refine nilN ?_
    refine xn ?_
    refine rt ?_
    refine xr ?_
    obtain rfl := hsm H
    replace hS := hS.sel (is := []) (A' := []) rfl
    exact ret1 hF rfl rfl hS ⟨rfl, rfl⟩
  · replace H := hbf hc1 H
    refine skN ?_
    refine xn ?_
    refine sq ?_
    refine rg ?_
    refine stp hF (p_ldb_agg (i := 0) (l := []) (m := [v1, v2]) (r := []) hS rfl rfl ia_37 ti_37 rfl rfl rfl) (by decide) (fun a hF => ?_)
    obtain ⟨x29, hx2, H⟩ := hb H
    refine ste hF (e_call (fst := []) (vs := [(.agg #[v1, v2])]) (cap := []) rfl rfl go_14 (St.call (A := []) (B := [pt g1 37 ([v1, v2])]) hS (laws_toLocks.spec k _ _ x7 v1 v2 (h1.mono hg1) (h2.mono hg1) _ hx2))) (by decide) (fun v w a hR hF => ?_)
    obtain ⟨s3, A3, hg2, hS, hR⟩ := hR
    obtain ⟨v3, v4, hv2, rfl⟩ := hR; obtain rfl := hv2.symm
    have hS : St e s3 w [Ow kTGrant 33 v3 x29.Given, Ow kTGrant 33 v4 x29.Waits, pt g1 37 ([v1, v2])] := hS
    refine stp hF (p_move rfl) (by decide) (fun a hF => ?_)
    obtain ⟨s4, hg3, hl1, hcall1⟩ := St.lend (P := Try.prog) (Bs := [Ow kTGrant 33 v3 x29.Given, Ow kTGrant 33 v4 x29.Waits]) (A := []) (B := [pt g1 37 ([v1, v2])]) hS
    obtain ⟨h3, hl1⟩ := hl1.ow hg3
    obtain ⟨h4, hl1⟩ := hl1.ow hg3
    obtain ⟨x9, hx3, H⟩ := hb H
    refine ste hF (e_call (fst := []) (vs := [(.agg #[v3, v4]), (.int .i64 x8)]) (cap := []) rfl rfl go_13 (hcall1 (spec_DropAll.spec k _ _ x29 x8 v3 v4 h3 h4 _ hx3) (by rintro v s1 A1 ⟨_, _, _, rfl, rfl⟩; exact ⟨Ow_flat kTGrant_flat _ _ _, ⟨Ow_flat kTGrant_flat _ _ _, ⟨Ow_flat flat_int _ _ _, trivial⟩⟩⟩))) (by decide) (fun v w a hR hF => ?_)
    obtain ⟨s5, s6, A4, hg4, hS, hR⟩ := hR
    obtain ⟨v5, v6, v7, hv3, rfl⟩ := hR; obtain rfl := hv3.symm
    have hS : St e s5 w [Ow kTGrant 33 v3 x29.Given, Ow kTGrant 33 v4 x29.Waits, Ow kTGrant 33 v5 x9.1.Given, Ow kTGrant 33 v6 x9.1.Waits, Ow (Kd.int .i64) 3 v7 x9.2, pt g1 37 ([v1, v2])] := hS
    refine stp hF (p_move rfl) (by decide) (fun a hF => ?_)
    refine stp hF (p_extract rfl rfl) (by decide) (fun a hF => ?_)
    refine stp hF (p_extract rfl rfl) (by decide) (fun a hF => ?_)
    refine ste hF (e_alloc (cs := [(.slice none 0 0), (.slice none 0 0)]) hS ti_26 rfl) (by decide) (fun v w a hR hF => ?_)
    obtain ⟨g2, rfl, hS⟩ := hR
    refine ste0 hF (e_stb (i := 0) (l := []) (m := [(.slice none 0 0), (.slice none 0 0)]) (r := []) (m' := [v5, v6]) (cs' := [v5, v6]) hS rfl rfl rfl ti_26 rfl rfl rfl rfl rfl (one_cons (hS.one_ow (i := 3) rfl) (one_cons (hS.one_ow (i := 4) rfl) one_nil)) rfl) (fun v w a hR hF => ?_)
    have hS : St e s5 w [pt g2 26 ([v5, v6]), Ow kTGrant 33 v3 x29.Given, Ow kTGrant 33 v4 x29.Waits, Ow kTGrant 33 v5 x9.1.Given, Ow kTGrant 33 v6 x9.1.Waits, Ow (Kd.int .i64) 3 v7 x9.2, pt g1 37 ([v1, v2])] := hR
    refine stp hF (p_assign rfl) (by decide) (fun a hF => ?_)
    refine nilN ?_
    refine xn ?_
    refine sq ?_
    refine rg ?_
    refine stp hF (p_ldb_agg (i := 6) (l := []) (m := [v1, v2]) (r := []) hS rfl rfl ia_37 ti_37 rfl rfl rfl) (by decide) (fun a hF => ?_)
    obtain ⟨x21, hx4, H⟩ := hb H
    refine ste hF (e_call (fst := []) (vs := [(.agg #[v1, v2])]) (cap := []) rfl rfl go_14 (St.call (A := []) (B := [pt g2 26 ([v5, v6]), Ow kTGrant 33 v3 x29.Given, Ow kTGrant 33 v4 x29.Waits, Ow kTGrant 33 v5 x9.1.Given, Ow kTGrant 33 v6 x9.1.Waits, Ow (Kd.int .i64) 3 v7 x9.2, pt g1 37 ([v1, v2])]) hS (laws_toLocks.spec k _ _ x7 v1 v2 (((h1.mono hg1).mono hg2).mono hg4) (((h2.mono hg1).mono hg2).mono hg4) _ hx4))) (by decide) (fun v w a hR hF => ?_)
    obtain ⟨s7, A5, hg5, hS, hR⟩ := hR
    obtain ⟨v8, v9, hv4, rfl⟩ := hR; obtain rfl := hv4.symm
    have hS : St e s7 w [Ow kTGrant 33 v8 x21.Given, Ow kTGrant 33 v9 x21.Waits, pt g2 26 ([v5, v6]), Ow kTGrant 33 v3 x29.Given, Ow kTGrant 33 v4 x29.Waits, Ow kTGrant 33 v5 x9.1.Given, Ow kTGrant 33 v6 x9.1.Waits, Ow (Kd.int .i64) 3 v7 x9.2, pt g1 37 ([v1, v2])] := hS
    refine ste hF (e_alloc (cs := [(.slice none 0 0), (.slice none 0 0)]) hS ti_26 rfl) (by decide) (fun v w a hR hF => ?_)
    obtain ⟨g3, rfl, hS⟩ := hR
    refine ste0 hF (e_stb (i := 0) (l := []) (m := [(.slice none 0 0), (.slice none 0 0)]) (r := []) (m' := [v8, v9]) (cs' := [v8, v9]) hS rfl rfl rfl ti_26 rfl rfl rfl rfl rfl (one_cons (hS.one_ow (i := 1) rfl) (one_cons (hS.one_ow (i := 2) rfl) one_nil)) rfl) (fun v w a hR hF => ?_)
    have hS : St e s7 w [pt g3 26 ([v8, v9]), Ow kTGrant 33 v8 x21.Given, Ow kTGrant 33 v9 x21.Waits, pt g2 26 ([v5, v6]), Ow kTGrant 33 v3 x29.Given, Ow kTGrant 33 v4 x29.Waits, Ow kTGrant 33 v5 x9.1.Given, Ow kTGrant 33 v6 x9.1.Waits, Ow (Kd.int .i64) 3 v7 x9.2, pt g1 37 ([v1, v2])] := hR
    refine nilN ?_
    refine xn ?_
    refine sq ?_
    refine rg ?_
    refine stp hF (p_ldb_agg (i := 0) (l := []) (m := [v8, v9]) (r := []) hS rfl rfl ia_26 ti_26 rfl rfl rfl) (by decide) (fun a hF => ?_)
    refine stp hF (p_move rfl) (by decide) (fun a hF => ?_)
    replace hS := hS.sel (is := [1, 1, 0, 0, 0, 0, 0, 0, 0, 0]) (A' := [Ow kTGrant 33 v8 x21.Given, Ow kTGrant 33 v9 x21.Waits, pt g3 26 ([v8, v9]), pt g2 26 ([v5, v6]), Ow kTGrant 33 v3 x29.Given, Ow kTGrant 33 v4 x29.Waits, Ow kTGrant 33 v5 x9.1.Given, Ow kTGrant 33 v6 x9.1.Waits, Ow (Kd.int .i64) 3 v7 x9.2, pt g1 37 ([v1, v2])]) rfl
    obtain ⟨s8, hg6, hl2, hcall2⟩ := St.lend (P := Try.prog) (Bs := [Ow kTGrant 33 v8 x21.Given, Ow kTGrant 33 v9 x21.Waits]) (A := []) (B := [pt g3 26 ([v8, v9]), pt g2 26 ([v5, v6]), Ow kTGrant 33 v3 x29.Given, Ow kTGrant 33 v4 x29.Waits, Ow kTGrant 33 v5 x9.1.Given, Ow kTGrant 33 v6 x9.1.Waits, Ow (Kd.int .i64) 3 v7 x9.2, pt g1 37 ([v1, v2])]) hS
    obtain ⟨h5, hl2⟩ := hl2.ow hg6
    obtain ⟨h6, hl2⟩ := hl2.ow hg6
    obtain ⟨x6, hx5, H⟩ := hb H
    refine ste hF (e_call (fst := []) (vs := [(.agg #[v8, v9]), (.int .i64 x8)]) (cap := []) rfl rfl go_15 (hcall2 (impl_DropAll.spec k _ _ x21 x8 v8 v9 h5 h6 _ hx5) (by rintro v s1 A1 ⟨_, _, _, rfl, rfl⟩; exact ⟨Ow_flat kTGrant_flat _ _ _, ⟨Ow_flat kTGrant_flat _ _ _, ⟨Ow_flat flat_int _ _ _, trivial⟩⟩⟩))) (by decide) (fun v w a hR hF => ?_)
    obtain ⟨s9, s10, A6, hg7, hS, hR⟩ := hR
    obtain ⟨v10, v11, v12, hv5, rfl⟩ := hR; obtain rfl := hv5.symm
    have hS : St e s9 w [Ow kTGrant 33 v8 x21.Given, Ow kTGrant 33 v9 x21.Waits, Ow kTGrant 33 v10 x6.1.Given, Ow kTGrant 33 v11 x6.1.Waits, Ow (Kd.int .i64) 3 v12 x6.2, pt g3 26 ([v8, v9]), pt g2 26 ([v5, v6]), Ow kTGrant 33 v3 x29.Given, Ow kTGrant 33 v4 x29.Waits, Ow kTGrant 33 v5 x9.1.Given, Ow kTGrant 33 v6 x9.1.Waits, Ow (Kd.int .i64) 3 v7 x9.2, pt g1 37 ([v1, v2])] := hS
    refine stp hF (p_move rfl) (by decide) (fun a hF => ?_)
    refine stp hF (p_extract rfl rfl) (by decide) (fun a hF => ?_)
    refine stp hF (p_extract rfl rfl) (by decide) (fun a hF => ?_)
    refine ste hF (e_alloc (cs := [(.slice none 0 0), (.slice none 0 0)]) hS ti_26 rfl) (by decide) (fun v w a hR hF => ?_)
    obtain ⟨g4, rfl, hS⟩ := hR
    refine ste0 hF (e_stb (i := 0) (l := []) (m := [(.slice none 0 0), (.slice none 0 0)]) (r := []) (m' := [v10, v11]) (cs' := [v10, v11]) hS rfl rfl rfl ti_26 rfl rfl rfl rfl rfl (one_cons (hS.one_ow (i := 3) rfl) (one_cons (hS.one_ow (i := 4) rfl) one_nil)) rfl) (fun v w a hR hF => ?_)
    have hS : St e s9 w [pt g4 26 ([v10, v11]), Ow kTGrant 33 v8 x21.Given, Ow kTGrant 33 v9 x21.Waits, Ow kTGrant 33 v10 x6.1.Given, Ow kTGrant 33 v11 x6.1.Waits, Ow (Kd.int .i64) 3 v12 x6.2, pt g3 26 ([v8, v9]), pt g2 26 ([v5, v6]), Ow kTGrant 33 v3 x29.Given, Ow kTGrant 33 v4 x29.Waits, Ow kTGrant 33 v5 x9.1.Given, Ow kTGrant 33 v6 x9.1.Waits, Ow (Kd.int .i64) 3 v7 x9.2, pt g1 37 ([v1, v2])] := hR
    refine stp hF (p_assign rfl) (by decide) (fun a hF => ?_)
    refine nilN ?_
    refine xn ?_
    refine sq ?_
    refine sq ?_
    refine rg ?_
    refine stp hF (p_ldb_agg (i := 0) (l := []) (m := [v10, v11]) (r := []) hS rfl rfl ia_26 ti_26 rfl rfl rfl) (by decide) (fun a hF => ?_)
    refine stp hF (p_ldb_agg (i := 7) (l := []) (m := [v5, v6]) (r := []) hS rfl rfl ia_26 ti_26 rfl rfl rfl) (by decide) (fun a hF => ?_)
    replace hS := hS.sel (is := [3, 3, 8, 8, 0, 0, 0, 0, 0, 0, 0, 0, 0, 0]) (A' := [Ow kTGrant 33 v10 x6.1.Given, Ow kTGrant 33 v11 x6.1.Waits, Ow kTGrant 33 v5 x9.1.Given, Ow kTGrant 33 v6 x9.1.Waits, pt g4 26 ([v10, v11]), Ow kTGrant 33 v8 x21.Given, Ow kTGrant 33 v9 x21.Waits, Ow (Kd.int .i64) 3 v12 x6.2, pt g3 26 ([v8, v9]), pt g2 26 ([v5, v6]), Ow kTGrant 33 v3 x29.Given, Ow kTGrant 33 v4 x29.Waits, Ow (Kd.int .i64) 3 v7 x9.2, pt g1 37 ([v1, v2])]) rfl
    obtain ⟨s11, hg8, hl3, hcall3⟩ := St.lend (P := Try.prog) (Bs := [Ow kTGrant 33 v10 x6.1.Given, Ow kTGrant 33 v11 x6.1.Waits, Ow kTGrant 33 v5 x9.1.Given, Ow kTGrant 33 v6 x9.1.Waits]) (A := []) (B := [pt g4 26 ([v10, v11]), Ow kTGrant 33 v8 x21.Given, Ow kTGrant 33 v9 x21.Waits, Ow (Kd.int .i64) 3 v12 x6.2, pt g3 26 ([v8, v9]), pt g2 26 ([v5, v6]), Ow kTGrant 33 v3 x29.Given, Ow kTGrant 33 v4 x29.Waits, Ow (Kd.int .i64) 3 v7 x9.2, pt g1 37 ([v1, v2])]) hS
    obtain ⟨h7, hl3⟩ := hl3.ow hg8
    obtain ⟨h8, hl3⟩ := hl3.ow hg8
    obtain ⟨h9, hl3⟩ := hl3.ow hg8
    obtain ⟨h10, hl3⟩ := hl3.ow hg8
    obtain ⟨x30, hx6, H⟩ := hb H
    refine ste hF (e_call (fst := []) (vs := [(.agg #[v10, v11]), (.agg #[v5, v6])]) (cap := []) rfl rfl go_16 (hcall3 (laws_eqLocks.spec k _ _ x6.1 x9.1 v10 v11 v5 v6 h7 h8 h9 h10 _ hx6) (by rintro v s1 A1 ⟨rfl, rfl⟩; exact trivial))) (by decide) (fun v w a hR hF => ?_)
    obtain ⟨s12, s13, A7, hg9, hS, hR⟩ := hR
    obtain ⟨hv6, rfl⟩ := hR; obtain rfl := hv6.symm
    have hS : St e s12 w [Ow kTGrant 33 v10 x6.1.Given, Ow kTGrant 33 v11 x6.1.Waits, Ow kTGrant 33 v5 x9.1.Given, Ow kTGrant 33 v6 x9.1.Waits, pt g4 26 ([v10, v11]), Ow kTGrant 33 v8 x21.Given, Ow kTGrant 33 v9 x21.Waits, Ow (Kd.int .i64) 3 v12 x6.2, pt g3 26 ([v8, v9]), pt g2 26 ([v5, v6]), Ow kTGrant 33 v3 x29.Given, Ow kTGrant 33 v4 x29.Waits, Ow (Kd.int .i64) 3 v7 x9.2, pt g1 37 ([v1, v2])] := hS
    refine stp hF (p_not rfl) (by decide) (fun a hF => ?_)
    refine stp hF (p_move rfl) (by decide) (fun a hF => ?_)
    obtain ⟨x32, H, HK1⟩ := hb H
    refine cutj 5 (fun a w => ∃ (x22 : Bool) (s14 : HF) , St e s14 w [Ow kTGrant 33 v10 x6.1.Given, Ow kTGrant 33 v11 x6.1.Waits, Ow kTGrant 33 v5 x9.1.Given, Ow kTGrant 33 v6 x9.1.Waits, pt g4 26 ([v10, v11]), Ow kTGrant 33 v8 x21.Given, Ow kTGrant 33 v9 x21.Waits, Ow (Kd.int .i64) 3 v12 x6.2, pt g3 26 ([v8, v9]), pt g2 26 ([v5, v6]), Ow kTGrant 33 v3 x29.Given, Ow kTGrant 33 v4 x29.Waits, Ow (Kd.int .i64) 3 v7 x9.2, pt g1 37 ([v1, v2])] ∧ Fr 117 a [(1, (.int .i64 x8)), (2, (.pointer (some ⟨g1, 0, none⟩))), (6, (.pointer (some ⟨g2, 0, none⟩))), (7, v7), (8, (.pointer (some ⟨g3, 0, none⟩))), (9, (.pointer (some ⟨g4, 0, none⟩))), (10, v12), (45, (.bool x22))] ∧ Sub s12 s14 ∧ laws_FnExactDropAll.c4 k x7 x21 x6 x9 x8 x22 = some r) rfl rfl ?_ ?_
    · rcases Bool.eq_false_or_eq_true ((!x30)) with hc2 | hc2
      · replace H := hbt hc2 H
        refine gofD (j := 4) hF rfl rfl (by rw [hc2]; decide) (by decide) (fun a hF => ?_)
        refine gofD (j := 4) hF rfl rfl (by rw [hc2]; decide) (by decide) (fun a hF => ?_)
        refine gofD (j := 4) hF rfl rfl (by rw [hc2]; decide) (by decide) (fun a hF => ?_)
        refine gofD (j := 4) hF rfl rfl (by rw [hc2]; decide) (by decide) (fun a hF => ?_)
        refine stp hF (p_pickT rfl hc2 rfl) (by decide) (fun a hF => ?_)
        refine nilN ?_
        refine xn ?_
        obtain rfl := hsm H
        exact ⟨true, s12, hS, hF.cut ⟨rfl, rfl, rfl, rfl, rfl, rfl, rfl, rfl, trivial⟩, (Sub.refl _), HK1⟩
      · replace H := hbf hc2 H
        refine gonE (j := 4) hF rfl rfl hc2 ?_
        refine stp hF (p_move rfl) (by decide) (fun a hF => ?_)
        refine gonE (j := 4) hF rfl rfl hc2 ?_
        refine stp hF (p_move rfl) (by decide) (fun a hF => ?_)
        replace hS := hS.sel (is := [7, 11, 0, 0, 0, 0, 0, 0, 0, 0, 0, 0, 0, 0]) (A' := [Ow (Kd.int .i64) 3 v12 x6.2, Ow (Kd.int .i64) 3 v7 x9.2, Ow kTGrant 33 v10 x6.1.Given, Ow kTGrant 33 v11 x6.1.Waits, Ow kTGrant 33 v5 x9.1.Given, Ow kTGrant 33 v6 x9.1.Waits, pt g4 26 ([v10, v11]), Ow kTGrant 33 v8 x21.Given, Ow kTGrant 33 v9 x21.Waits, pt g3 26 ([v8, v9]), pt g2 26 ([v5, v6]), Ow kTGrant 33 v3 x29.Given, Ow kTGrant 33 v4 x29.Waits, pt g1 37 ([v1, v2])]) rfl
        obtain ⟨s15, hg10, hl4, hcall4⟩ := St.lend (P := Try.prog) (Bs := [Ow (Kd.int .i64) 3 v12 x6.2, Ow (Kd.int .i64) 3 v7 x9.2]) (A := []) (B := [Ow kTGrant 33 v10 x6.1.Given, Ow kTGrant 33 v11 x6.1.Waits, Ow kTGrant 33 v5 x9.1.Given, Ow kTGrant 33 v6 x9.1.Waits, pt g4 26 ([v10, v11]), Ow kTGrant 33 v8 x21.Given, Ow kTGrant 33 v9 x21.Waits, pt g3 26 ([v8, v9]), pt g2 26 ([v5, v6]), Ow kTGrant 33 v3 x29.Given, Ow kTGrant 33 v4 x29.Waits, pt g1 37 ([v1, v2])]) hS
        obtain ⟨h11, hl4⟩ := hl4.ow hg10
        obtain ⟨h12, hl4⟩ := hl4.ow hg10
        obtain ⟨x31, hx7, H⟩ := hb H
        refine gonE (j := 4) hF rfl rfl hc2 ?_
        refine ste hF (e_call (fst := []) (vs := [v12, v7]) (cap := []) rfl rfl go_17 (hcall4 (laws_eqIntS.spec k _ _ x6.2 x9.2 v12 v7 h11 h12 _ hx7) (by rintro v s1 A1 ⟨rfl, rfl⟩; exact trivial))) (by decide) (fun v w a hR hF => ?_)
        obtain ⟨s16, s17, A8, hg11, hS, hR⟩ := hR
        obtain ⟨hv7, rfl⟩ := hR; obtain rfl := hv7.symm
        have hS : St e s16 w [Ow (Kd.int .i64) 3 v12 x6.2, Ow (Kd.int .i64) 3 v7 x9.2, Ow kTGrant 33 v10 x6.1.Given, Ow kTGrant 33 v11 x6.1.Waits, Ow kTGrant 33 v5 x9.1.Given, Ow kTGrant 33 v6 x9.1.Waits, pt g4 26 ([v10, v11]), Ow kTGrant 33 v8 x21.Given, Ow kTGrant 33 v9 x21.Waits, pt g3 26 ([v8, v9]), pt g2 26 ([v5, v6]), Ow kTGrant 33 v3 x29.Given, Ow kTGrant 33 v4 x29.Waits, pt g1 37 ([v1, v2])] := hS
        refine gonE (j := 4) hF rfl rfl hc2 ?_
        refine stp hF (p_not rfl) (by decide) (fun a hF => ?_)
        refine stp hF (p_pickF rfl hc2 rfl) (by decide) (fun a hF => ?_)
        refine nilN ?_
        refine xn ?_
        obtain rfl := hsm H
        replace hS := hS.sel (is := [2, 2, 2, 2, 2, 2, 2, 0, 1, 1, 1, 1, 0, 0]) (A' := [Ow kTGrant 33 v10 x6.1.Given, Ow kTGrant 33 v11 x6.1.Waits, Ow kTGrant 33 v5 x9.1.Given, Ow kTGrant 33 v6 x9.1.Waits, pt g4 26 ([v10, v11]), Ow kTGrant 33 v8 x21.Given, Ow kTGrant 33 v9 x21.Waits, Ow (Kd.int .i64) 3 v12 x6.2, pt g3 26 ([v8, v9]), pt g2 26 ([v5, v6]), Ow kTGrant 33 v3 x29.Given, Ow kTGrant 33 v4 x29.Waits, Ow (Kd.int .i64) 3 v7 x9.2, pt g1 37 ([v1, v2])]) rfl
        exact ⟨(!x31), s16, hS, hF.cut ⟨rfl, rfl, rfl, rfl, rfl, rfl, rfl, rfl, trivial⟩, hg11, HK1⟩
    · clear H HK1 hS hF
      rintro a w ⟨x22, s14, hS, hF, hg12, H⟩
      unfold laws_FnExactDropAll.c4 at H
      refine nilN ?_
      refine xn ?_
      refine cnd hF rfl (fun hc3 => ?_) (fun hc3 => ?_)
      · replace H := hbt hc3 H
        refine sq ?_
        refine rg ?_
        refine stp hF (p_assign rfl) (by decide) (fun a hF => ?_)
        refine nilN ?_
        refine xn ?_
        refine rt ?_
        refine xr ?_
        obtain rfl := hsm H
        replace hS := hS.sel (is := []) (A' := []) rfl
        exact ret1 hF rfl rfl hS ⟨rfl, rfl⟩
      · replace H := hbf hc3 H
        refine skN ?_
        refine xn ?_
        refine sq ?_
        refine sq ?_
        replace hS : St e s14 w.drew [Ow kTGrant 33 v10 x6.1.Given, Ow kTGrant 33 v11 x6.1.Waits, Ow kTGrant 33 v5 x9.1.Given, Ow kTGrant 33 v6 x9.1.Waits, pt g4 26 ([v10, v11]), Ow kTGrant 33 v8 x21.Given, Ow kTGrant 33 v9 x21.Waits, Ow (Kd.int .i64) 3 v12 x6.2, pt g3 26 ([v8, v9]), pt g2 26 ([v5, v6]), Ow kTGrant 33 v3 x29.Given, Ow kTGrant 33 v4 x29.Waits, Ow (Kd.int .i64) 3 v7 x9.2, pt g1 37 ([v1, v2])] := hS.drewN 1
        refine drw [0, 1, 2, 3, 4] mixed (by kernel_rfl) (by decide) (hF.cut (L' := [(1, (.int .i64 x8)), (2, (.pointer (some ⟨g1, 0, none⟩))), (6, (.pointer (some ⟨g2, 0, none⟩))), (7, v7), (8, (.pointer (some ⟨g3, 0, none⟩))), (9, (.pointer (some ⟨g4, 0, none⟩))), (10, v12), (45, (.bool x22))]) ⟨rfl, rfl, rfl, rfl, rfl, rfl, rfl, rfl, trivial⟩) ?_
        clear hF
        generalize w.drew = w at hS ⊢
        refine pk1 rfl (by decide) rfl (by kernel_rfl) rfl (p_ldb_agg (i := 8) (l := []) (m := [v8, v9]) (r := []) hS rfl rfl ia_26 ti_26 rfl rfl rfl) ?_
        refine pk1 rfl (by decide) rfl (by kernel_rfl) rfl (p_ldb_agg (i := 13) (l := []) (m := [v1, v2]) (r := []) hS rfl rfl ia_37 ti_37 rfl rfl rfl) ?_
        obtain ⟨x23, hx8, H⟩ := hb H
        refine pkE [0] rfl (by decide) (by kernel_rfl) (by kernel_rfl) (e_call (fst := []) (vs := [(.agg #[v1, v2])]) (cap := []) rfl rfl go_14 (St.call (A := []) (B := [Ow kTGrant 33 v10 x6.1.Given, Ow kTGrant 33 v11 x6.1.Waits, Ow kTGrant 33 v5 x9.1.Given, Ow kTGrant 33 v6 x9.1.Waits, pt g4 26 ([v10, v11]), Ow kTGrant 33 v8 x21.Given, Ow kTGrant 33 v9 x21.Waits, Ow (Kd.int .i64) 3 v12 x6.2, pt g3 26 ([v8, v9]), pt g2 26 ([v5, v6]), Ow kTGrant 33 v3 x29.Given, Ow kTGrant 33 v4 x29.Waits, Ow (Kd.int .i64) 3 v7 x9.2, pt g1 37 ([v1, v2])]) hS (laws_toLocks.spec k _ _ x7 v1 v2 (((((((h1.mono hg1).mono hg2).mono hg4).mono hg5).mono hg7).mono hg9).mono hg12) (((((((h2.mono hg1).mono hg2).mono hg4).mono hg5).mono hg7).mono hg9).mono hg12) _ hx8))) ?_
        intro v w hR
        obtain ⟨s18, A9, hg13, hS, hR⟩ := hR
        obtain ⟨v13, v14, hv8, rfl⟩ := hR; obtain rfl := hv8.symm
        have hS : St e s18 w [Ow kTGrant 33 v13 x23.Given, Ow kTGrant 33 v14 x23.Waits, Ow kTGrant 33 v10 x6.1.Given, Ow kTGrant 33 v11 x6.1.Waits, Ow kTGrant 33 v5 x9.1.Given, Ow kTGrant 33 v6 x9.1.Waits, pt g4 26 ([v10, v11]), Ow kTGrant 33 v8 x21.Given, Ow kTGrant 33 v9 x21.Waits, Ow (Kd.int .i64) 3 v12 x6.2, pt g3 26 ([v8, v9]), pt g2 26 ([v5, v6]), Ow kTGrant 33 v3 x29.Given, Ow kTGrant 33 v4 x29.Waits, Ow (Kd.int .i64) 3 v7 x9.2, pt g1 37 ([v1, v2])] := hS
        refine ⟨⟨knw rfl rfl rfl (p_ldb_agg (i := 10) (l := []) (m := [v8, v9]) (r := []) hS rfl rfl ia_26 ti_26 rfl rfl rfl), trivial⟩, ?_⟩
        replace hS := hS.sel (is := [7, 7, 0, 0, 0, 0, 0, 0, 0, 0, 0, 0, 0, 0, 0, 0]) (A' := [Ow kTGrant 33 v8 x21.Given, Ow kTGrant 33 v9 x21.Waits, Ow kTGrant 33 v13 x23.Given, Ow kTGrant 33 v14 x23.Waits, Ow kTGrant 33 v10 x6.1.Given, Ow kTGrant 33 v11 x6.1.Waits, Ow kTGrant 33 v5 x9.1.Given, Ow kTGrant 33 v6 x9.1.Waits, pt g4 26 ([v10, v11]), Ow (Kd.int .i64) 3 v12 x6.2, pt g3 26 ([v8, v9]), pt g2 26 ([v5, v6]), Ow kTGrant 33 v3 x29.Given, Ow kTGrant 33 v4 x29.Waits, Ow (Kd.int .i64) 3 v7 x9.2, pt g1 37 ([v1, v2])]) rfl
        obtain ⟨s19, hg14, hl5, hcall5⟩ := St.lend (P := Try.prog) (Bs := [Ow kTGrant 33 v8 x21.Given, Ow kTGrant 33 v9 x21.Waits, Ow kTGrant 33 v13 x23.Given, Ow kTGrant 33 v14 x23.Waits]) (A := []) (B := [Ow kTGrant 33 v10 x6.1.Given, Ow kTGrant 33 v11 x6.1.Waits, Ow kTGrant 33 v5 x9.1.Given, Ow kTGrant 33 v6 x9.1.Waits, pt g4 26 ([v10, v11]), Ow (Kd.int .i64) 3 v12 x6.2, pt g3 26 ([v8, v9]), pt g2 26 ([v5, v6]), Ow kTGrant 33 v3 x29.Given, Ow kTGrant 33 v4 x29.Waits, Ow (Kd.int .i64) 3 v7 x9.2, pt g1 37 ([v1, v2])]) hS
        obtain ⟨h13, hl5⟩ := hl5.ow hg14
        obtain ⟨h14, hl5⟩ := hl5.ow hg14
        obtain ⟨h15, hl5⟩ := hl5.ow hg14
        obtain ⟨h16, hl5⟩ := hl5.ow hg14
        obtain ⟨x24, hx9, H⟩ := hb H
        refine pkE [] rfl (by decide) (by kernel_rfl) (by kernel_rfl) (e_call (fst := []) (vs := [(.agg #[v8, v9]), (.agg #[v13, v14])]) (cap := []) rfl rfl go_16 (hcall5 (laws_eqLocks.spec k _ _ x21 x23 v8 v9 v13 v14 h13 h14 h15 h16 _ hx9) (by rintro v s1 A1 ⟨rfl, rfl⟩; exact trivial))) ?_
        intro v w hR
        obtain ⟨s20, s21, A10, hg15, hS, hR⟩ := hR
        obtain ⟨hv9, rfl⟩ := hR; obtain rfl := hv9.symm
        have hS : St e s20 w [Ow kTGrant 33 v8 x21.Given, Ow kTGrant 33 v9 x21.Waits, Ow kTGrant 33 v13 x23.Given, Ow kTGrant 33 v14 x23.Waits, Ow kTGrant 33 v10 x6.1.Given, Ow kTGrant 33 v11 x6.1.Waits, Ow kTGrant 33 v5 x9.1.Given, Ow kTGrant 33 v6 x9.1.Waits, pt g4 26 ([v10, v11]), Ow (Kd.int .i64) 3 v12 x6.2, pt g3 26 ([v8, v9]), pt g2 26 ([v5, v6]), Ow kTGrant 33 v3 x29.Given, Ow kTGrant 33 v4 x29.Waits, Ow (Kd.int .i64) 3 v7 x9.2, pt g1 37 ([v1, v2])] := hS
        refine ⟨trivial, ?_⟩
        refine pk1 rfl (by decide) rfl (by kernel_rfl) rfl (p_not rfl) ?_
        refine pkF (fun a hF => ?_)
        refine xn ?_
        refine cnd hF rfl (fun hc4 => ?_) (fun hc4 => ?_)
        · replace H := hbt hc4 H
          refine sq ?_
          refine rg ?_
          refine stp hF (p_assign rfl) (by decide) (fun a hF => ?_)
          refine nilN ?_
          refine xn ?_
          refine rt ?_
          refine xr ?_
          obtain rfl := hsm H
          replace hS := hS.sel (is := []) (A' := []) rfl
          exact ret1 hF rfl rfl hS ⟨rfl, rfl⟩
        · replace H := hbf hc4 H
          refine skN ?_
          refine xn ?_
          refine sq ?_
          refine rg ?_
          refine stp hF (p_assign rfl) (by decide) (fun a hF => ?_)
          refine nilN ?_
          refine xn ?_
          refine sq ?_
          refine rg ?_
          refine stp hF (p_ldb_agg (i := 10) (l := []) (m := [v8, v9]) (r := []) hS rfl rfl ia_26 ti_26 rfl rfl rfl) (by decide) (fun a hF => ?_)
          refine stp hF (p_move rfl) (by decide) (fun a hF => ?_)
          obtain ⟨x25, hx10, H⟩ := hb H
          refine ste hF (e_call (fst := []) (vs := [(.agg #[v8, v9]), (.int .i64 1)]) (cap := []) rfl rfl go_18 (St.call (A := [Ow kTGrant 33 v8 x21.Given, Ow kTGrant 33 v9 x21.Waits]) (B := [Ow kTGrant 33 v13 x23.Given, Ow kTGrant 33 v14 x23.Waits, Ow kTGrant 33 v10 x6.1.Given, Ow kTGrant 33 v11 x6.1.Waits, Ow kTGrant 33 v5 x9.1.Given, Ow kTGrant 33 v6 x9.1.Waits, pt g4 26 ([v10, v11]), Ow (Kd.int .i64) 3 v12 x6.2, pt g3 26 ([v8, v9]), pt g2 26 ([v5, v6]), Ow kTGrant 33 v3 x29.Given, Ow kTGrant 33 v4 x29.Waits, Ow (Kd.int .i64) 3 v7 x9.2, pt g1 37 ([v1, v2])]) hS (laws_markLocks.spec k _ _ x21 1 v8 v9 _ hx10))) (by decide) (fun v w a hR hF => ?_)
          obtain ⟨s22, A11, hg16, hS, hR⟩ := hR
          obtain ⟨hv10, rfl⟩ := hR; obtain rfl := hv10.symm
          have hS : St e s22 w [Ow kTGrant 33 v8 x25.2.1, Ow kTGrant 33 v9 x25.2.2, Ow kTGrant 33 v13 x23.Given, Ow kTGrant 33 v14 x23.Waits, Ow kTGrant 33 v10 x6.1.Given, Ow kTGrant 33 v11 x6.1.Waits, Ow kTGrant 33 v5 x9.1.Given, Ow kTGrant 33 v6 x9.1.Waits, pt g4 26 ([v10, v11]), Ow (Kd.int .i64) 3 v12 x6.2, pt g3 26 ([v8, v9]), pt g2 26 ([v5, v6]), Ow kTGrant 33 v3 x29.Given, Ow kTGrant 33 v4 x29.Waits, Ow (Kd.int .i64) 3 v7 x9.2, pt g1 37 ([v1, v2])] := hS
          refine stp hF (p_assign rfl) (by decide) (fun a hF => ?_)
          refine nilN ?_
          refine xn ?_
          refine sq ?_
          refine sq ?_
          refine rg ?_
          refine stp hF (p_move rfl) (by decide) (fun a hF => ?_)
          refine stp hF (p_lss rfl rfl) (by decide) (fun a hF => ?_)
          refine stp hF (p_move rfl) (by decide) (fun a hF => ?_)
          obtain ⟨x27, H, HK2⟩ := hb H
          refine cutj 5 (fun a w => ∃ (x18 : Bool) (s23 : HF) , St e s23 w [Ow kTGrant 33 v8 x25.2.1, Ow kTGrant 33 v9 x25.2.2, Ow kTGrant 33 v13 x23.Given, Ow kTGrant 33 v14 x23.Waits, Ow kTGrant 33 v10 x6.1.Given, Ow kTGrant 33 v11 x6.1.Waits, Ow kTGrant 33 v5 x9.1.Given, Ow kTGrant 33 v6 x9.1.Waits, pt g4 26 ([v10, v11]), Ow (Kd.int .i64) 3 v12 x6.2, pt g3 26 ([v8, v9]), pt g2 26 ([v5, v6]), Ow kTGrant 33 v3 x29.Given, Ow kTGrant 33 v4 x29.Waits, Ow (Kd.int .i64) 3 v7 x9.2, pt g1 37 ([v1, v2])] ∧ Fr 117 a [(1, (.int .i64 x8)), (2, (.pointer (some ⟨g1, 0, none⟩))), (6, (.pointer (some ⟨g2, 0, none⟩))), (7, v7), (9, (.pointer (some ⟨g4, 0, none⟩))), (10, v12), (61, (.bool x18))] ∧ Sub s22 s23 ∧ laws_FnExactDropAll.c3 k x6 x9 x7 x8 x18 = some r) rfl rfl ?_ ?_
          · rcases Bool.eq_false_or_eq_true (decide (x25.1 < 0)) with hc5 | hc5
            · replace H := hbt hc5 H
              refine gofD (j := 2) hF rfl rfl (by rw [hc5]; decide) (by decide) (fun a hF => ?_)
              refine gofD (j := 2) hF rfl rfl (by rw [hc5]; decide) (by decide) (fun a hF => ?_)
              refine gofD (j := 2) hF rfl rfl (by rw [hc5]; decide) (by decide) (fun a hF => ?_)
              refine gofD (j := 2) hF rfl rfl (by rw [hc5]; decide) (by decide) (fun a hF => ?_)
              refine stp hF (p_pickT rfl hc5 rfl) (by decide) (fun a hF => ?_)
              refine nilN ?_
              refine xn ?_
              obtain rfl := hsm H
              exact ⟨true, s22, hS, hF.cut ⟨rfl, rfl, rfl, rfl, rfl, rfl, rfl, trivial⟩, (Sub.refl _), HK2⟩
            · replace H := hbf hc5 H
              refine gonE (j := 2) hF rfl rfl hc5 ?_
              refine stp hF (p_ldb_agg (i := 8) (l := []) (m := [v10, v11]) (r := []) hS rfl rfl ia_26 ti_26 rfl rfl rfl) (by decide) (fun a hF => ?_)
              refine gonE (j := 2) hF rfl rfl hc5 ?_
              refine stp hF (p_ldb_agg (i := 11) (l := []) (m := [v5, v6]) (r := []) hS rfl rfl ia_26 ti_26 rfl rfl rfl) (by decide) (fun a hF => ?_)
              replace hS := hS.sel (is := [4, 4, 4, 4, 0, 0, 0, 0, 0, 0, 0, 0, 0, 0, 0, 0]) (A' := [Ow kTGrant 33 v10 x6.1.Given, Ow kTGrant 33 v11 x6.1.Waits, Ow kTGrant 33 v5 x9.1.Given, Ow kTGrant 33 v6 x9.1.Waits, Ow kTGrant 33 v8 x25.2.1, Ow kTGrant 33 v9 x25.2.2, Ow kTGrant 33 v13 x23.Given, Ow kTGrant 33 v14 x23.Waits, pt g4 26 ([v10, v11]), Ow (Kd.int .i64) 3 v12 x6.2, pt g3 26 ([v8, v9]), pt g2 26 ([v5, v6]), Ow kTGrant 33 v3 x29.Given, Ow kTGrant 33 v4 x29.Waits, Ow (Kd.int .i64) 3 v7 x9.2, pt g1 37 ([v1, v2])]) rfl
              obtain ⟨s24, hg17, hl6, hcall6⟩ := St.lend (P := Try.prog) (Bs := [Ow kTGrant 33 v10 x6.1.Given, Ow kTGrant 33 v11 x6.1.Waits, Ow kTGrant 33 v5 x9.1.Given, Ow kTGrant 33 v6 x9.1.Waits]) (A := []) (B := [Ow kTGrant 33 v8 x25.2.1, Ow kTGrant 33 v9 x25.2.2, Ow kTGrant 33 v13 x23.Given, Ow kTGrant 33 v14 x23.Waits, pt g4 26 ([v10, v11]), Ow (Kd.int .i64) 3 v12 x6.2, pt g3 26 ([v8, v9]), pt g2 26 ([v5, v6]), Ow kTGrant 33 v3 x29.Given, Ow kTGrant 33 v4 x29.Waits, Ow (Kd.int .i64) 3 v7 x9.2, pt g1 37 ([v1, v2])]) hS
              obtain ⟨h17, hl6⟩ := hl6.ow hg17
              obtain ⟨h18, hl6⟩ := hl6.ow hg17
              obtain ⟨h19, hl6⟩ := hl6.ow hg17
              obtain ⟨h20, hl6⟩ := hl6.ow hg17
              obtain ⟨x26, hx11, H⟩ := hb H
              refine gonE (j := 2) hF rfl rfl hc5 ?_
              refine ste hF (e_call (fst := []) (vs := [(.agg #[v10, v11]), (.agg #[v5, v6])]) (cap := []) rfl rfl go_16 (hcall6 (laws_eqLocks.spec k _ _ x6.1 x9.1 v10 v11 v5 v6 h17 h18 h19 h20 _ hx11) (by rintro v s1 A1 ⟨rfl, rfl⟩; exact trivial))) (by decide) (fun v w a hR hF => ?_)
              obtain ⟨s25, s26, A12, hg18, hS, hR⟩ := hR
              obtain ⟨hv11, rfl⟩ := hR; obtain rfl := hv11.symm
              have hS : St e s25 w [Ow kTGrant 33 v10 x6.1.Given, Ow kTGrant 33 v11 x6.1.Waits, Ow kTGrant 33 v5 x9.1.Given, Ow kTGrant 33 v6 x9.1.Waits, Ow kTGrant 33 v8 x25.2.1, Ow kTGrant 33 v9 x25.2.2, Ow kTGrant 33 v13 x23.Given, Ow kTGrant 33 v14 x23.Waits, pt g4 26 ([v10, v11]), Ow (Kd.int .i64) 3 v12 x6.2, pt g3 26 ([v8, v9]), pt g2 26 ([v5, v6]), Ow kTGrant 33 v3 x29.Given, Ow kTGrant 33 v4 x29.Waits, Ow (Kd.int .i64) 3 v7 x9.2, pt g1 37 ([v1, v2])] := hS
              refine gonE (j := 2) hF rfl rfl hc5 ?_
              refine stp hF (p_not rfl) (by decide) (fun a hF => ?_)
              refine stp hF (p_pickF rfl hc5 rfl) (by decide) (fun a hF => ?_)
              refine nilN ?_
              refine xn ?_
              obtain rfl := hsm H
              replace hS := hS.sel (is := [4, 4, 4, 4, 0, 0, 0, 0, 0, 0, 0, 0, 0, 0, 0, 0]) (A' := [Ow kTGrant 33 v8 x25.2.1, Ow kTGrant 33 v9 x25.2.2, Ow kTGrant 33 v13 x23.Given, Ow kTGrant 33 v14 x23.Waits, Ow kTGrant 33 v10 x6.1.Given, Ow kTGrant 33 v11 x6.1.Waits, Ow kTGrant 33 v5 x9.1.Given, Ow kTGrant 33 v6 x9.1.Waits, pt g4 26 ([v10, v11]), Ow (Kd.int .i64) 3 v12 x6.2, pt g3 26 ([v8, v9]), pt g2 26 ([v5, v6]), Ow kTGrant 33 v3 x29.Given, Ow kTGrant 33 v4 x29.Waits, Ow (Kd.int .i64) 3 v7 x9.2, pt g1 37 ([v1, v2])]) rfl
              exact ⟨(!x26), s25, hS, hF.cut ⟨rfl, rfl, rfl, rfl, rfl, rfl, rfl, trivial⟩, hg18, HK2⟩
          · clear H HK2 hS hF
            rintro a w ⟨x18, s23, hS, hF, hg19, H⟩
            unfold laws_FnExactDropAll.c3 at H
            refine stp hF (p_move rfl) (by decide) (fun a hF => ?_)
            obtain ⟨x20, H, HK3⟩ := hb H
            refine cutj 5 (fun a w => ∃ (x10 : Bool) (s27 : HF) , St e s27 w [Ow kTGrant 33 v8 x25.2.1, Ow kTGrant 33 v9 x25.2.2, Ow kTGrant 33 v13 x23.Given, Ow kTGrant 33 v14 x23.Waits, Ow kTGrant 33 v10 x6.1.Given, Ow kTGrant 33 v11 x6.1.Waits, Ow kTGrant 33 v5 x9.1.Given, Ow kTGrant 33 v6 x9.1.Waits, pt g4 26 ([v10, v11]), Ow (Kd.int .i64) 3 v12 x6.2, pt g3 26 ([v8, v9]), pt g2 26 ([v5, v6]), Ow kTGrant 33 v3 x29.Given, Ow kTGrant 33 v4 x29.Waits, Ow (Kd.int .i64) 3 v7 x9.2, pt g1 37 ([v1, v2])] ∧ Fr 117 a [(1, (.int .i64 x8)), (2, (.pointer (some ⟨g1, 0, none⟩))), (6, (.pointer (some ⟨g2, 0, none⟩))), (7, v7), (9, (.pointer (some ⟨g4, 0, none⟩))), (10, v12), (67, (.bool x10))] ∧ Sub s23 s27 ∧ laws_FnExactDropAll.c2 k x6 x7 x8 x9 x10 = some r) rfl rfl ?_ ?_
            · rcases Bool.eq_false_or_eq_true (x18) with hc6 | hc6
              · replace H := hbt hc6 H
                refine gofD (j := 8) hF rfl rfl (by rw [hc6]; decide) (by decide) (fun a hF => ?_)
                refine gofD (j := 8) hF rfl rfl (by rw [hc6]; decide) (by decide) (fun a hF => ?_)
                refine gofD (j := 8) hF rfl rfl (by rw [hc6]; decide) (by decide) (fun a hF => ?_)
                refine gofD (j := 8) hF rfl rfl (by rw [hc6]; decide) (by decide) (fun a hF => ?_)
                refine stp hF (p_pickT rfl hc6 rfl) (by decide) (fun a hF => ?_)
                refine nilN ?_
                refine xn ?_
                obtain rfl := hsm H
                exact ⟨true, s23, hS, hF.cut ⟨rfl, rfl, rfl, rfl, rfl, rfl, rfl, trivial⟩, (Sub.refl _), HK3⟩
              · replace H := hbf hc6 H
                refine gonE (j := 8) hF rfl rfl hc6 ?_
                refine stp hF (p_move rfl) (by decide) (fun a hF => ?_)
                refine gonE (j := 8) hF rfl rfl hc6 ?_
                refine stp hF (p_move rfl) (by decide) (fun a hF => ?_)
                replace hS := hS.sel (is := [9, 13, 0, 0, 0, 0, 0, 0, 0, 0, 0, 0, 0, 0, 0, 0]) (A' := [Ow (Kd.int .i64) 3 v12 x6.2, Ow (Kd.int .i64) 3 v7 x9.2, Ow kTGrant 33 v8 x25.2.1, Ow kTGrant 33 v9 x25.2.2, Ow kTGrant 33 v13 x23.Given, Ow kTGrant 33 v14 x23.Waits, Ow kTGrant 33 v10 x6.1.Given, Ow kTGrant 33 v11 x6.1.Waits, Ow kTGrant 33 v5 x9.1.Given, Ow kTGrant 33 v6 x9.1.Waits, pt g4 26 ([v10, v11]), pt g3 26 ([v8, v9]), pt g2 26 ([v5, v6]), Ow kTGrant 33 v3 x29.Given, Ow kTGrant 33 v4 x29.Waits, pt g1 37 ([v1, v2])]) rfl
                obtain ⟨s28, hg20, hl7, hcall7⟩ := St.lend (P := Try.prog) (Bs := [Ow (Kd.int .i64) 3 v12 x6.2, Ow (Kd.int .i64) 3 v7 x9.2]) (A := []) (B := [Ow kTGrant 33 v8 x25.2.1, Ow kTGrant 33 v9 x25.2.2, Ow kTGrant 33 v13 x23.Given, Ow kTGrant 33 v14 x23.Waits, Ow kTGrant 33 v10 x6.1.Given, Ow kTGrant 33 v11 x6.1.Waits, Ow kTGrant 33 v5 x9.1.Given, Ow kTGrant 33 v6 x9.1.Waits, pt g4 26 ([v10, v11]), pt g3 26 ([v8, v9]), pt g2 26 ([v5, v6]), Ow kTGrant 33 v3 x29.Given, Ow kTGrant 33 v4 x29.Waits, pt g1 37 ([v1, v2])]) hS
                obtain ⟨h21, hl7⟩ := hl7.ow hg20
                obtain ⟨h22, hl7⟩ := hl7.ow hg20
                obtain ⟨x19, hx12, H⟩ := hb H
                refine gonE (j := 8) hF rfl rfl hc6 ?_
                refine ste hF (e_call (fst := []) (vs := [v12, v7]) (cap := []) rfl rfl go_17 (hcall7 (laws_eqIntS.spec k _ _ x6.2 x9.2 v12 v7 h21 h22 _ hx12) (by rintro v s1 A1 ⟨rfl, rfl⟩; exact trivial))) (by decide) (fun v w a hR hF => ?_)
                obtain ⟨s29, s30, A13, hg21, hS, hR⟩ := hR
                obtain ⟨hv12, rfl⟩ := hR; obtain rfl := hv12.symm
                have hS : St e s29 w [Ow (Kd.int .i64) 3 v12 x6.2, Ow (Kd.int .i64) 3 v7 x9.2, Ow kTGrant 33 v8 x25.2.1, Ow kTGrant 33 v9 x25.2.2, Ow kTGrant 33 v13 x23.Given, Ow kTGrant 33 v14 x23.Waits, Ow kTGrant 33 v10 x6.1.Given, Ow kTGrant 33 v11 x6.1.Waits, Ow kTGrant 33 v5 x9.1.Given, Ow kTGrant 33 v6 x9.1.Waits, pt g4 26 ([v10, v11]), pt g3 26 ([v8, v9]), pt g2 26 ([v5, v6]), Ow kTGrant 33 v3 x29.Given, Ow kTGrant 33 v4 x29.Waits, pt g1 37 ([v1, v2])] := hS
                refine gonE (j := 8) hF rfl rfl hc6 ?_
                refine stp hF (p_not rfl) (by decide) (fun a hF => ?_)
                refine stp hF (p_pickF rfl hc6 rfl) (by decide) (fun a hF => ?_)
                refine nilN ?_
                refine xn ?_
                obtain rfl := hsm H
                replace hS := hS.sel (is := [2, 2, 2, 2, 2, 2, 2, 2, 2, 0, 1, 1, 1, 1, 0, 0]) (A' := [Ow kTGrant 33 v8 x25.2.1, Ow kTGrant 33 v9 x25.2.2, Ow kTGrant 33 v13 x23.Given, Ow kTGrant 33 v14 x23.Waits, Ow kTGrant 33 v10 x6.1.Given, Ow kTGrant 33 v11 x6.1.Waits, Ow kTGrant 33 v5 x9.1.Given, Ow kTGrant 33 v6 x9.1.Waits, pt g4 26 ([v10, v11]), Ow (Kd.int .i64) 3 v12 x6.2, pt g3 26 ([v8, v9]), pt g2 26 ([v5, v6]), Ow kTGrant 33 v3 x29.Given, Ow kTGrant 33 v4 x29.Waits, Ow (Kd.int .i64) 3 v7 x9.2, pt g1 37 ([v1, v2])]) rfl
                exact ⟨(!x19), s29, hS, hF.cut ⟨rfl, rfl, rfl, rfl, rfl, rfl, rfl, trivial⟩, hg21, HK3⟩
            · clear H HK3 hS hF
              rintro a w ⟨x10, s27, hS, hF, hg22, H⟩
              unfold laws_FnExactDropAll.c2 at H
              refine nilN ?_
              refine xn ?_
              refine cnd hF rfl (fun hc7 => ?_) (fun hc7 => ?_)
              · replace H := hbt hc7 H
                refine sq ?_
                refine rg ?_
                refine stp hF (p_assign rfl) (by decide) (fun a hF => ?_)
                refine nilN ?_
                refine xn ?_
                refine rt ?_
                refine xr ?_
                obtain rfl := hsm H
                replace hS := hS.sel (is := []) (A' := []) rfl
                exact ret1 hF rfl rfl hS ⟨rfl, rfl⟩
              · replace H := hbf hc7 H
                refine skN ?_
                refine xn ?_
                refine sq ?_
                refine rg ?_
                refine stp hF (p_assign rfl) (by decide) (fun a hF => ?_)
                refine nilN ?_
                refine xn ?_
                refine sq ?_
                refine rg ?_
                refine stp hF (p_ldb_agg (i := 8) (l := []) (m := [v10, v11]) (r := []) hS rfl rfl ia_26 ti_26 rfl rfl rfl) (by decide) (fun a hF => ?_)
                refine stp hF (p_move rfl) (by decide) (fun a hF => ?_)
                replace hS := hS.sel (is := [4, 4, 0, 0, 0, 0, 0, 0, 0, 0, 0, 0, 0, 0, 0, 0]) (A' := [Ow kTGrant 33 v10 x6.1.Given, Ow kTGrant 33 v11 x6.1.Waits, Ow kTGrant 33 v8 x25.2.1, Ow kTGrant 33 v9 x25.2.2, Ow kTGrant 33 v13 x23.Given, Ow kTGrant 33 v14 x23.Waits, Ow kTGrant 33 v5 x9.1.Given, Ow kTGrant 33 v6 x9.1.Waits, pt g4 26 ([v10, v11]), Ow (Kd.int .i64) 3 v12 x6.2, pt g3 26 ([v8, v9]), pt g2 26 ([v5, v6]), Ow kTGrant 33 v3 x29.Given, Ow kTGrant 33 v4 x29.Waits, Ow (Kd.int .i64) 3 v7 x9.2, pt g1 37 ([v1, v2])]) rfl
                obtain ⟨x1, hx13, H⟩ := hb H
                refine ste hF (e_call (fst := []) (vs := [(.agg #[v10, v11]), (.int .i64 1)]) (cap := []) rfl rfl go_18 (St.call (A := [Ow kTGrant 33 v10 x6.1.Given, Ow kTGrant 33 v11 x6.1.Waits]) (B := [Ow kTGrant 33 v8 x25.2.1, Ow kTGrant 33 v9 x25.2.2, Ow kTGrant 33 v13 x23.Given, Ow kTGrant 33 v14 x23.Waits, Ow kTGrant 33 v5 x9.1.Given, Ow kTGrant 33 v6 x9.1.Waits, pt g4 26 ([v10, v11]), Ow (Kd.int .i64) 3 v12 x6.2, pt g3 26 ([v8, v9]), pt g2 26 ([v5, v6]), Ow kTGrant 33 v3 x29.Given, Ow kTGrant 33 v4 x29.Waits, Ow (Kd.int .i64) 3 v7 x9.2, pt g1 37 ([v1, v2])]) hS (laws_markLocks.spec k _ _ x6.1 1 v10 v11 _ hx13))) (by decide) (fun v w a hR hF => ?_)
                obtain ⟨s31, A14, hg23, hS, hR⟩ := hR
                obtain ⟨hv13, rfl⟩ := hR; obtain rfl := hv13.symm
                have hS : St e s31 w [Ow kTGrant 33 v10 x1.2.1, Ow kTGrant 33 v11 x1.2.2, Ow kTGrant 33 v8 x25.2.1, Ow kTGrant 33 v9 x25.2.2, Ow kTGrant 33 v13 x23.Given, Ow kTGrant 33 v14 x23.Waits, Ow kTGrant 33 v5 x9.1.Given, Ow kTGrant 33 v6 x9.1.Waits, pt g4 26 ([v10, v11]), Ow (Kd.int .i64) 3 v12 x6.2, pt g3 26 ([v8, v9]), pt g2 26 ([v5, v6]), Ow kTGrant 33 v3 x29.Given, Ow kTGrant 33 v4 x29.Waits, Ow (Kd.int .i64) 3 v7 x9.2, pt g1 37 ([v1, v2])] := hS
                refine stp hF (p_assign rfl) (by decide) (fun a hF => ?_)
                refine nilN ?_
                refine xn ?_
                refine sq ?_
                refine rg ?_
                refine stp hF (p_move rfl) (by decide) (fun a hF => ?_)
                refine stp hF (p_move rfl) (by decide) (fun a hF => ?_)
                replace hS := hS.sel (is := [9, 0, 0, 0, 0, 0, 0, 0, 0, 0, 0, 0, 0, 0, 0, 0]) (A' := [Ow (Kd.int .i64) 3 v12 x6.2, Ow kTGrant 33 v10 x1.2.1, Ow kTGrant 33 v11 x1.2.2, Ow kTGrant 33 v8 x25.2.1, Ow kTGrant 33 v9 x25.2.2, Ow kTGrant 33 v13 x23.Given, Ow kTGrant 33 v14 x23.Waits, Ow kTGrant 33 v5 x9.1.Given, Ow kTGrant 33 v6 x9.1.Waits, pt g4 26 ([v10, v11]), pt g3 26 ([v8, v9]), pt g2 26 ([v5, v6]), Ow kTGrant 33 v3 x29.Given, Ow kTGrant 33 v4 x29.Waits, Ow (Kd.int .i64) 3 v7 x9.2, pt g1 37 ([v1, v2])]) rfl
                obtain ⟨x2, hx14, H⟩ := hb H
                refine ste hF (e_call (fst := []) (vs := [v12, (.int .i64 x1.1)]) (cap := []) rfl rfl go_19 (St.call (A := [Ow (Kd.int .i64) 3 v12 x6.2]) (B := [Ow kTGrant 33 v10 x1.2.1, Ow kTGrant 33 v11 x1.2.2, Ow kTGrant 33 v8 x25.2.1, Ow kTGrant 33 v9 x25.2.2, Ow kTGrant 33 v13 x23.Given, Ow kTGrant 33 v14 x23.Waits, Ow kTGrant 33 v5 x9.1.Given, Ow kTGrant 33 v6 x9.1.Waits, pt g4 26 ([v10, v11]), pt g3 26 ([v8, v9]), pt g2 26 ([v5, v6]), Ow kTGrant 33 v3 x29.Given, Ow kTGrant 33 v4 x29.Waits, Ow (Kd.int .i64) 3 v7 x9.2, pt g1 37 ([v1, v2])]) hS (laws_markIntS.spec k _ _ x6.2 x1.1 v12 _ hx14))) (by decide) (fun v w a hR hF => ?_)
                obtain ⟨s32, A15, hg24, hS, hR⟩ := hR
                obtain ⟨hv14, rfl⟩ := hR; obtain rfl := hv14.symm
                have hS : St e s32 w [Ow (Kd.int .i64) 3 v12 x2.2, Ow kTGrant 33 v10 x1.2.1, Ow kTGrant 33 v11 x1.2.2, Ow kTGrant 33 v8 x25.2.1, Ow kTGrant 33 v9 x25.2.2, Ow kTGrant 33 v13 x23.Given, Ow kTGrant 33 v14 x23.Waits, Ow kTGrant 33 v5 x9.1.Given, Ow kTGrant 33 v6 x9.1.Waits, pt g4 26 ([v10, v11]), pt g3 26 ([v8, v9]), pt g2 26 ([v5, v6]), Ow kTGrant 33 v3 x29.Given, Ow kTGrant 33 v4 x29.Waits, Ow (Kd.int .i64) 3 v7 x9.2, pt g1 37 ([v1, v2])] := hS
                refine stp hF (p_assign rfl) (by decide) (fun a hF => ?_)
                refine nilN ?_
                refine xn ?_
                refine sq ?_
                refine rg ?_
                refine stp hF (p_assign rfl) (by decide) (fun a hF => ?_)
                refine nilN ?_
                refine xn ?_
                refine sq ?_
                refine rg ?_
                refine stp hF (p_ldb_agg (i := 9) (l := []) (m := [v10, v11]) (r := []) hS rfl rfl ia_26 ti_26 rfl rfl rfl) (by decide) (fun a hF => ?_)
                refine stp hF (p_move rfl) (by decide) (fun a hF => ?_)
                replace hS := hS.sel (is := [1, 1, 0, 0, 0, 0, 0, 0, 0, 0, 0, 0, 0, 0, 0, 0]) (A' := [Ow kTGrant 33 v10 x1.2.1, Ow kTGrant 33 v11 x1.2.2, Ow (Kd.int .i64) 3 v12 x2.2, Ow kTGrant 33 v8 x25.2.1, Ow kTGrant 33 v9 x25.2.2, Ow kTGrant 33 v13 x23.Given, Ow kTGrant 33 v14 x23.Waits, Ow kTGrant 33 v5 x9.1.Given, Ow kTGrant 33 v6 x9.1.Waits, pt g4 26 ([v10, v11]), pt g3 26 ([v8, v9]), pt g2 26 ([v5, v6]), Ow kTGrant 33 v3 x29.Given, Ow kTGrant 33 v4 x29.Waits, Ow (Kd.int .i64) 3 v7 x9.2, pt g1 37 ([v1, v2])]) rfl
                obtain ⟨s33, hg25, hl8, hcall8⟩ := St.lend (P := Try.prog) (Bs := [Ow kTGrant 33 v10 x1.2.1, Ow kTGrant 33 v11 x1.2.2]) (A := []) (B := [Ow (Kd.int .i64) 3 v12 x2.2, Ow kTGrant 33 v8 x25.2.1, Ow kTGrant 33 v9 x25.2.2, Ow kTGrant 33 v13 x23.Given, Ow kTGrant 33 v14 x23.Waits, Ow kTGrant 33 v5 x9.1.Given, Ow kTGrant 33 v6 x9.1.Waits, pt g4 26 ([v10, v11]), pt g3 26 ([v8, v9]), pt g2 26 ([v5, v6]), Ow kTGrant 33 v3 x29.Given, Ow kTGrant 33 v4 x29.Waits, Ow (Kd.int .i64) 3 v7 x9.2, pt g1 37 ([v1, v2])]) hS
                obtain ⟨h23, hl8⟩ := hl8.ow hg25
                obtain ⟨h24, hl8⟩ := hl8.ow hg25
                obtain ⟨x11, hx15, H⟩ := hb H
                refine ste hF (e_call (fst := []) (vs := [(.agg #[v10, v11]), (.int .i64 1)]) (cap := []) rfl rfl go_20 (hcall8 (laws_heldLocks.spec k _ _ (⟨x1.2.1, x1.2.2⟩ : TLocks) 1 v10 v11 h23 h24 _ hx15) (by rintro v s1 A1 ⟨rfl, rfl⟩; exact trivial))) (by decide) (fun v w a hR hF => ?_)
                obtain ⟨s34, s35, A16, hg26, hS, hR⟩ := hR
                obtain ⟨hv15, rfl⟩ := hR; obtain rfl := hv15.symm
                have hS : St e s34 w [Ow kTGrant 33 v10 x1.2.1, Ow kTGrant 33 v11 x1.2.2, Ow (Kd.int .i64) 3 v12 x2.2, Ow kTGrant 33 v8 x25.2.1, Ow kTGrant 33 v9 x25.2.2, Ow kTGrant 33 v13 x23.Given, Ow kTGrant 33 v14 x23.Waits, Ow kTGrant 33 v5 x9.1.Given, Ow kTGrant 33 v6 x9.1.Waits, pt g4 26 ([v10, v11]), pt g3 26 ([v8, v9]), pt g2 26 ([v5, v6]), Ow kTGrant 33 v3 x29.Given, Ow kTGrant 33 v4 x29.Waits, Ow (Kd.int .i64) 3 v7 x9.2, pt g1 37 ([v1, v2])] := hS
                refine stp hF (p_assign rfl) (by decide) (fun a hF => ?_)
                refine nilN ?_
                refine xn ?_
                refine sq ?_
                refine sq ?_
                refine rg ?_
                refine stp hF (p_move rfl) (by decide) (fun a hF => ?_)
                refine stp hF (p_lss rfl rfl) (by decide) (fun a hF => ?_)
                refine nilN ?_
                refine xn ?_
                refine cnd hF rfl (fun hc8 => ?_) (fun hc8 => ?_)
                · replace H := hbt hc8 H
                  refine sq ?_
                  refine rg ?_
                  refine stp hF (p_assign rfl) (by decide) (fun a hF => ?_)
                  refine nilN ?_
                  refine xn ?_
                  refine rt ?_
                  refine xr ?_
                  obtain rfl := hsm H
                  replace hS := hS.sel (is := []) (A' := []) rfl
                  exact ret1 hF rfl rfl hS ⟨rfl, rfl⟩
                · replace H := hbf hc8 H
                  refine skN ?_
                  refine xn ?_
                  refine sq ?_
                  refine rg ?_
                  refine stp hF (p_move rfl) (by decide) (fun a hF => ?_)
                  refine stp hF (p_move rfl) (by decide) (fun a hF => ?_)
                  replace hS := hS.sel (is := [2, 0, 0, 0, 0, 0, 0, 0, 0, 0, 0, 0, 0, 0, 0, 0]) (A' := [Ow (Kd.int .i64) 3 v12 x2.2, Ow kTGrant 33 v10 x1.2.1, Ow kTGrant 33 v11 x1.2.2, Ow kTGrant 33 v8 x25.2.1, Ow kTGrant 33 v9 x25.2.2, Ow kTGrant 33 v13 x23.Given, Ow kTGrant 33 v14 x23.Waits, Ow kTGrant 33 v5 x9.1.Given, Ow kTGrant 33 v6 x9.1.Waits, pt g4 26 ([v10, v11]), pt g3 26 ([v8, v9]), pt g2 26 ([v5, v6]), Ow kTGrant 33 v3 x29.Given, Ow kTGrant 33 v4 x29.Waits, Ow (Kd.int .i64) 3 v7 x9.2, pt g1 37 ([v1, v2])]) rfl
                  obtain ⟨s36, hg27, hl9, hcall9⟩ := St.lend (P := Try.prog) (Bs := [Ow (Kd.int .i64) 3 v12 x2.2]) (A := []) (B := [Ow kTGrant 33 v10 x1.2.1, Ow kTGrant 33 v11 x1.2.2, Ow kTGrant 33 v8 x25.2.1, Ow kTGrant 33 v9 x25.2.2, Ow kTGrant 33 v13 x23.Given, Ow kTGrant 33 v14 x23.Waits, Ow kTGrant 33 v5 x9.1.Given, Ow kTGrant 33 v6 x9.1.Waits, pt g4 26 ([v10, v11]), pt g3 26 ([v8, v9]), pt g2 26 ([v5, v6]), Ow kTGrant 33 v3 x29.Given, Ow kTGrant 33 v4 x29.Waits, Ow (Kd.int .i64) 3 v7 x9.2, pt g1 37 ([v1, v2])]) hS
                  obtain ⟨h25, hl9⟩ := hl9.ow hg27
                  obtain ⟨x12, hx16, H⟩ := hb H
                  refine ste hF (e_call (fst := []) (vs := [v12, (.int .i64 x11)]) (cap := []) rfl rfl go_21 (hcall9 (laws_heldIntS.spec k _ _ x2.2 x11 v12 h25 _ hx16) (by rintro v s1 A1 ⟨rfl, rfl⟩; exact trivial))) (by decide) (fun v w a hR hF => ?_)
                  obtain ⟨s37, s38, A17, hg28, hS, hR⟩ := hR
                  obtain ⟨hv16, rfl⟩ := hR; obtain rfl := hv16.symm
                  have hS : St e s37 w [Ow (Kd.int .i64) 3 v12 x2.2, Ow kTGrant 33 v10 x1.2.1, Ow kTGrant 33 v11 x1.2.2, Ow kTGrant 33 v8 x25.2.1, Ow kTGrant 33 v9 x25.2.2, Ow kTGrant 33 v13 x23.Given, Ow kTGrant 33 v14 x23.Waits, Ow kTGrant 33 v5 x9.1.Given, Ow kTGrant 33 v6 x9.1.Waits, pt g4 26 ([v10, v11]), pt g3 26 ([v8, v9]), pt g2 26 ([v5, v6]), Ow kTGrant 33 v3 x29.Given, Ow kTGrant 33 v4 x29.Waits, Ow (Kd.int .i64) 3 v7 x9.2, pt g1 37 ([v1, v2])] := hS
                  refine stp hF (p_assign rfl) (by decide) (fun a hF => ?_)
                  refine nilN ?_
                  refine xn ?_
                  refine sq ?_
                  refine sq ?_
                  refine rg ?_
                  refine stp hF (p_move rfl) (by decide) (fun a hF => ?_)
                  refine stp hF (p_lss rfl rfl) (by decide) (fun a hF => ?_)
                  refine nilN ?_
                  refine xn ?_
                  refine cnd hF rfl (fun hc9 => ?_) (fun hc9 => ?_)
                  · replace H := hbt hc9 H
                    refine sq ?_
                    refine rg ?_
                    refine stp hF (p_assign rfl) (by decide) (fun a hF => ?_)
                    refine nilN ?_
                    refine xn ?_
                    refine rt ?_
                    refine xr ?_
                    obtain rfl := hsm H
                    replace hS := hS.sel (is := []) (A' := []) rfl
                    exact ret1 hF rfl rfl hS ⟨rfl, rfl⟩
                  · replace H := hbf hc9 H
                    refine skN ?_
                    refine xn ?_
                    refine sq ?_
                    refine sq ?_
                    refine rg ?_
                    refine stp hF (p_move rfl) (by decide) (fun a hF => ?_)
                    refine stp hF (p_move rfl) (by decide) (fun a hF => ?_)
                    refine stp hF (p_neq rfl rfl) (by decide) (fun a hF => ?_)
                    refine nilN ?_
                    refine xn ?_
                    refine cnd hF rfl (fun hc10 => ?_) (fun hc10 => ?_)
                    · replace H := hbt hc10 H
                      refine sq ?_
                      refine rg ?_
                      refine stp hF (p_assign rfl) (by decide) (fun a hF => ?_)
                      refine nilN ?_
                      refine xn ?_
                      refine rt ?_
                      refine xr ?_
                      obtain rfl := hsm H
                      replace hS := hS.sel (is := []) (A' := []) rfl
                      exact ret1 hF rfl rfl hS ⟨rfl, rfl⟩
                    · replace H := hbf hc10 H
                      refine skN ?_
                      refine xn ?_
                      refine sq ?_
                      refine rg ?_
                      refine stp hF (p_ldb_agg (i := 15) (l := []) (m := [v1, v2]) (r := []) hS rfl rfl ia_37 ti_37 rfl rfl rfl) (by decide) (fun a hF => ?_)
                      obtain ⟨x13, hx17, H⟩ := hb H
                      refine ste hF (e_call (fst := []) (vs := [(.agg #[v1, v2])]) (cap := []) rfl rfl go_14 (St.call (A := []) (B := [Ow (Kd.int .i64) 3 v12 x2.2, Ow kTGrant 33 v10 x1.2.1, Ow kTGrant 33 v11 x1.2.2, Ow kTGrant 33 v8 x25.2.1, Ow kTGrant 33 v9 x25.2.2, Ow kTGrant 33 v13 x23.Given, Ow kTGrant 33 v14 x23.Waits, Ow kTGrant 33 v5 x9.1.Given, Ow kTGrant 33 v6 x9.1.Waits, pt g4 26 ([v10, v11]), pt g3 26 ([v8, v9]), pt g2 26 ([v5, v6]), Ow kTGrant 33 v3 x29.Given, Ow kTGrant 33 v4 x29.Waits, Ow (Kd.int .i64) 3 v7 x9.2, pt g1 37 ([v1, v2])]) hS (laws_toLocks.spec k _ _ x7 v1 v2 ((((((((((((((((h1.mono hg1).mono hg2).mono hg4).mono hg5).mono hg7).mono hg9).mono hg12).mono hg13).mono hg15).mono hg16).mono hg19).mono hg22).mono hg23).mono hg24).mono hg26).mono hg28) ((((((((((((((((h2.mono hg1).mono hg2).mono hg4).mono hg5).mono hg7).mono hg9).mono hg12).mono hg13).mono hg15).mono hg16).mono hg19).mono hg22).mono hg23).mono hg24).mono hg26).mono hg28) _ hx17))) (by decide) (fun v w a hR hF => ?_)
                      obtain ⟨s39, A18, hg29, hS, hR⟩ := hR
                      obtain ⟨v15, v16, hv17, rfl⟩ := hR; obtain rfl := hv17.symm
                      have hS : St e s39 w [Ow kTGrant 33 v15 x13.Given, Ow kTGrant 33 v16 x13.Waits, Ow (Kd.int .i64) 3 v12 x2.2, Ow kTGrant 33 v10 x1.2.1, Ow kTGrant 33 v11 x1.2.2, Ow kTGrant 33 v8 x25.2.1, Ow kTGrant 33 v9 x25.2.2, Ow kTGrant 33 v13 x23.Given, Ow kTGrant 33 v14 x23.Waits, Ow kTGrant 33 v5 x9.1.Given, Ow kTGrant 33 v6 x9.1.Waits, pt g4 26 ([v10, v11]), pt g3 26 ([v8, v9]), pt g2 26 ([v5, v6]), Ow kTGrant 33 v3 x29.Given, Ow kTGrant 33 v4 x29.Waits, Ow (Kd.int .i64) 3 v7 x9.2, pt g1 37 ([v1, v2])] := hS
                      refine stp hF (p_move rfl) (by decide) (fun a hF => ?_)
                      obtain ⟨s40, hg30, hl10, hcall10⟩ := St.lend (P := Try.prog) (Bs := [Ow kTGrant 33 v15 x13.Given, Ow kTGrant 33 v16 x13.Waits]) (A := []) (B := [Ow (Kd.int .i64) 3 v12 x2.2, Ow kTGrant 33 v10 x1.2.1, Ow kTGrant 33 v11 x1.2.2, Ow kTGrant 33 v8 x25.2.1, Ow kTGrant 33 v9 x25.2.2, Ow kTGrant 33 v13 x23.Given, Ow kTGrant 33 v14 x23.Waits, Ow kTGrant 33 v5 x9.1.Given, Ow kTGrant 33 v6 x9.1.Waits, pt g4 26 ([v10, v11]), pt g3 26 ([v8, v9]), pt g2 26 ([v5, v6]), Ow kTGrant 33 v3 x29.Given, Ow kTGrant 33 v4 x29.Waits, Ow (Kd.int .i64) 3 v7 x9.2, pt g1 37 ([v1, v2])]) hS
                      obtain ⟨h26, hl10⟩ := hl10.ow hg30
                      obtain ⟨h27, hl10⟩ := hl10.ow hg30
                      obtain ⟨x14, hx18, H⟩ := hb H
                      refine ste hF (e_call (fst := []) (vs := [(.agg #[v15, v16]), (.int .i64 x8)]) (cap := []) rfl rfl go_15 (hcall10 (impl_DropAll.spec k _ _ x13 x8 v15 v16 h26 h27 _ hx18) (by rintro v s1 A1 ⟨_, _, _, rfl, rfl⟩; exact ⟨Ow_flat kTGrant_flat _ _ _, ⟨Ow_flat kTGrant_flat _ _ _, ⟨Ow_flat flat_int _ _ _, trivial⟩⟩⟩))) (by decide) (fun v w a hR hF => ?_)
                      obtain ⟨s41, s42, A19, hg31, hS, hR⟩ := hR
                      obtain ⟨v17, v18, v19, hv18, rfl⟩ := hR; obtain rfl := hv18.symm
                      have hS : St e s41 w [Ow kTGrant 33 v15 x13.Given, Ow kTGrant 33 v16 x13.Waits, Ow kTGrant 33 v17 x14.1.Given, Ow kTGrant 33 v18 x14.1.Waits, Ow (Kd.int .i64) 3 v19 x14.2, Ow (Kd.int .i64) 3 v12 x2.2, Ow kTGrant 33 v10 x1.2.1, Ow kTGrant 33 v11 x1.2.2, Ow kTGrant 33 v8 x25.2.1, Ow kTGrant 33 v9 x25.2.2, Ow kTGrant 33 v13 x23.Given, Ow kTGrant 33 v14 x23.Waits, Ow kTGrant 33 v5 x9.1.Given, Ow kTGrant 33 v6 x9.1.Waits, pt g4 26 ([v10, v11]), pt g3 26 ([v8, v9]), pt g2 26 ([v5, v6]), Ow kTGrant 33 v3 x29.Given, Ow kTGrant 33 v4 x29.Waits, Ow (Kd.int .i64) 3 v7 x9.2, pt g1 37 ([v1, v2])] := hS
                      refine stp hF (p_move rfl) (by decide) (fun a hF => ?_)
                      refine stp hF (p_extract rfl rfl) (by decide) (fun a hF => ?_)
                      refine stp hF (p_extract rfl rfl) (by decide) (fun a hF => ?_)
                      refine ste hF (e_alloc (cs := [(.slice none 0 0), (.slice none 0 0)]) hS ti_26 rfl) (by decide) (fun v w a hR hF => ?_)
                      obtain ⟨g5, rfl, hS⟩ := hR
                      refine ste0 hF (e_stb (i := 0) (l := []) (m := [(.slice none 0 0), (.slice none 0 0)]) (r := []) (m' := [v17, v18]) (cs' := [v17, v18]) hS rfl rfl rfl ti_26 rfl rfl rfl rfl rfl (one_cons (hS.one_ow (i := 3) rfl) (one_cons (hS.one_ow (i := 4) rfl) one_nil)) rfl) (fun v w a hR hF => ?_)
                      have hS : St e s41 w [pt g5 26 ([v17, v18]), Ow kTGrant 33 v15 x13.Given, Ow kTGrant 33 v16 x13.Waits, Ow kTGrant 33 v17 x14.1.Given, Ow kTGrant 33 v18 x14.1.Waits, Ow (Kd.int .i64) 3 v19 x14.2, Ow (Kd.int .i64) 3 v12 x2.2, Ow kTGrant 33 v10 x1.2.1, Ow kTGrant 33 v11 x1.2.2, Ow kTGrant 33 v8 x25.2.1, Ow kTGrant 33 v9 x25.2.2, Ow kTGrant 33 v13 x23.Given, Ow kTGrant 33 v14 x23.Waits, Ow kTGrant 33 v5 x9.1.Given, Ow kTGrant 33 v6 x9.1.Waits, pt g4 26 ([v10, v11]), pt g3 26 ([v8, v9]), pt g2 26 ([v5, v6]), Ow kTGrant 33 v3 x29.Given, Ow kTGrant 33 v4 x29.Waits, Ow (Kd.int .i64) 3 v7 x9.2, pt g1 37 ([v1, v2])] := hR
                      refine stp hF (p_assign rfl) (by decide) (fun a hF => ?_)
                      refine nilN ?_
                      refine xn ?_
                      refine sq ?_
                      refine sq ?_
                      refine rg ?_
                      refine stp hF (p_ldb_agg (i := 0) (l := []) (m := [v17, v18]) (r := []) hS rfl rfl ia_26 ti_26 rfl rfl rfl) (by decide) (fun a hF => ?_)
                      refine stp hF (p_ldb_agg (i := 17) (l := []) (m := [v5, v6]) (r := []) hS rfl rfl ia_26 ti_26 rfl rfl rfl) (by decide) (fun a hF => ?_)
                      replace hS := hS.sel (is := [3, 3, 11, 11, 0, 0, 0, 0, 0, 0, 0, 0, 0, 0, 0, 0, 0, 0, 0, 0, 0, 0]) (A' := [Ow kTGrant 33 v17 x14.1.Given, Ow kTGrant 33 v18 x14.1.Waits, Ow kTGrant 33 v5 x9.1.Given, Ow kTGrant 33 v6 x9.1.Waits, pt g5 26 ([v17, v18]), Ow kTGrant 33 v15 x13.Given, Ow kTGrant 33 v16 x13.Waits, Ow (Kd.int .i64) 3 v19 x14.2, Ow (Kd.int .i64) 3 v12 x2.2, Ow kTGrant 33 v10 x1.2.1, Ow kTGrant 33 v11 x1.2.2, Ow kTGrant 33 v8 x25.2.1, Ow kTGrant 33 v9 x25.2.2, Ow kTGrant 33 v13 x23.Given, Ow kTGrant 33 v14 x23.Waits, pt g4 26 ([v10, v11]), pt g3 26 ([v8, v9]), pt g2 26 ([v5, v6]), Ow kTGrant 33 v3 x29.Given, Ow kTGrant 33 v4 x29.Waits, Ow (Kd.int .i64) 3 v7 x9.2, pt g1 37 ([v1, v2])]) rfl
                      obtain ⟨s43, hg32, hl11, hcall11⟩ := St.lend (P := Try.prog) (Bs := [Ow kTGrant 33 v17 x14.1.Given, Ow kTGrant 33 v18 x14.1.Waits, Ow kTGrant 33 v5 x9.1.Given, Ow kTGrant 33 v6 x9.1.Waits]) (A := []) (B := [pt g5 26 ([v17, v18]), Ow kTGrant 33 v15 x13.Given, Ow kTGrant 33 v16 x13.Waits, Ow (Kd.int .i64) 3 v19 x14.2, Ow (Kd.int .i64) 3 v12 x2.2, Ow kTGrant 33 v10 x1.2.1, Ow kTGrant 33 v11 x1.2.2, Ow kTGrant 33 v8 x25.2.1, Ow kTGrant 33 v9 x25.2.2, Ow kTGrant 33 v13 x23.Given, Ow kTGrant 33 v14 x23.Waits, pt g4 26 ([v10, v11]), pt g3 26 ([v8, v9]), pt g2 26 ([v5, v6]), Ow kTGrant 33 v3 x29.Given, Ow kTGrant 33 v4 x29.Waits, Ow (Kd.int .i64) 3 v7 x9.2, pt g1 37 ([v1, v2])]) hS
                      obtain ⟨h28, hl11⟩ := hl11.ow hg32
                      obtain ⟨h29, hl11⟩ := hl11.ow hg32
                      obtain ⟨h30, hl11⟩ := hl11.ow hg32
                      obtain ⟨h31, hl11⟩ := hl11.ow hg32
                      obtain ⟨x15, hx19, H⟩ := hb H
                      refine ste hF (e_call (fst := []) (vs := [(.agg #[v17, v18]), (.agg #[v5, v6])]) (cap := []) rfl rfl go_16 (hcall11 (laws_eqLocks.spec k _ _ x14.1 x9.1 v17 v18 v5 v6 h28 h29 h30 h31 _ hx19) (by rintro v s1 A1 ⟨rfl, rfl⟩; exact trivial))) (by decide) (fun v w a hR hF => ?_)
                      obtain ⟨s44, s45, A20, hg33, hS, hR⟩ := hR
                      obtain ⟨hv19, rfl⟩ := hR; obtain rfl := hv19.symm
                      have hS : St e s44 w [Ow kTGrant 33 v17 x14.1.Given, Ow kTGrant 33 v18 x14.1.Waits, Ow kTGrant 33 v5 x9.1.Given, Ow kTGrant 33 v6 x9.1.Waits, pt g5 26 ([v17, v18]), Ow kTGrant 33 v15 x13.Given, Ow kTGrant 33 v16 x13.Waits, Ow (Kd.int .i64) 3 v19 x14.2, Ow (Kd.int .i64) 3 v12 x2.2, Ow kTGrant 33 v10 x1.2.1, Ow kTGrant 33 v11 x1.2.2, Ow kTGrant 33 v8 x25.2.1, Ow kTGrant 33 v9 x25.2.2, Ow kTGrant 33 v13 x23.Given, Ow kTGrant 33 v14 x23.Waits, pt g4 26 ([v10, v11]), pt g3 26 ([v8, v9]), pt g2 26 ([v5, v6]), Ow kTGrant 33 v3 x29.Given, Ow kTGrant 33 v4 x29.Waits, Ow (Kd.int .i64) 3 v7 x9.2, pt g1 37 ([v1, v2])] := hS
                      refine stp hF (p_not rfl) (by decide) (fun a hF => ?_)
                      refine stp hF (p_move rfl) (by decide) (fun a hF => ?_)
                      obtain ⟨x17, H, HK4⟩ := hb H
                      refine cutj 5 (fun a w => ∃ (x3 : Bool) (s46 : HF) , St e s46 w [Ow kTGrant 33 v17 x14.1.Given, Ow kTGrant 33 v18 x14.1.Waits, Ow kTGrant 33 v5 x9.1.Given, Ow kTGrant 33 v6 x9.1.Waits, pt g5 26 ([v17, v18]), Ow kTGrant 33 v15 x13.Given, Ow kTGrant 33 v16 x13.Waits, Ow (Kd.int .i64) 3 v19 x14.2, Ow (Kd.int .i64) 3 v12 x2.2, Ow kTGrant 33 v10 x1.2.1, Ow kTGrant 33 v11 x1.2.2, Ow kTGrant 33 v8 x25.2.1, Ow kTGrant 33 v9 x25.2.2, Ow kTGrant 33 v13 x23.Given, Ow kTGrant 33 v14 x23.Waits, pt g4 26 ([v10, v11]), pt g3 26 ([v8, v9]), pt g2 26 ([v5, v6]), Ow kTGrant 33 v3 x29.Given, Ow kTGrant 33 v4 x29.Waits, Ow (Kd.int .i64) 3 v7 x9.2, pt g1 37 ([v1, v2])] ∧ Fr 117 a [(9, (.pointer (some ⟨g4, 0, none⟩))), (10, v12), (12, (.int .i64 x2.1)), (103, (.bool x3))] ∧ Sub s44 s46 ∧ laws_FnExactDropAll.c1 k x1 x2 x3 = some r) rfl rfl ?_ ?_
                      · rcases Bool.eq_false_or_eq_true ((!x15)) with hc11 | hc11
                        · replace H := hbt hc11 H
                          refine gofD (j := 4) hF rfl rfl (by rw [hc11]; decide) (by decide) (fun a hF => ?_)
                          refine gofD (j := 4) hF rfl rfl (by rw [hc11]; decide) (by decide) (fun a hF => ?_)
                          refine gofD (j := 4) hF rfl rfl (by rw [hc11]; decide) (by decide) (fun a hF => ?_)
                          refine gofD (j := 4) hF rfl rfl (by rw [hc11]; decide) (by decide) (fun a hF => ?_)
                          refine stp hF (p_pickT rfl hc11 rfl) (by decide) (fun a hF => ?_)
                          refine nilN ?_
                          refine xn ?_
                          obtain rfl := hsm H
                          exact ⟨true, s44, hS, hF.cut ⟨rfl, rfl, rfl, rfl, trivial⟩, (Sub.refl _), HK4⟩
                        · replace H := hbf hc11 H
                          refine gonE (j := 4) hF rfl rfl hc11 ?_
                          refine stp hF (p_move rfl) (by decide) (fun a hF => ?_)
                          refine gonE (j := 4) hF rfl rfl hc11 ?_
                          refine stp hF (p_move rfl) (by decide) (fun a hF => ?_)
                          replace hS := hS.sel (is := [7, 19, 0, 0, 0, 0, 0, 0, 0, 0, 0, 0, 0, 0, 0, 0, 0, 0, 0, 0, 0, 0]) (A' := [Ow (Kd.int .i64) 3 v19 x14.2, Ow (Kd.int .i64) 3 v7 x9.2, Ow kTGrant 33 v17 x14.1.Given, Ow kTGrant 33 v18 x14.1.Waits, Ow kTGrant 33 v5 x9.1.Given, Ow kTGrant 33 v6 x9.1.Waits, pt g5 26 ([v17, v18]), Ow kTGrant 33 v15 x13.Given, Ow kTGrant 33 v16 x13.Waits, Ow (Kd.int .i64) 3 v12 x2.2, Ow kTGrant 33 v10 x1.2.1, Ow kTGrant 33 v11 x1.2.2, Ow kTGrant 33 v8 x25.2.1, Ow kTGrant 33 v9 x25.2.2, Ow kTGrant 33 v13 x23.Given, Ow kTGrant 33 v14 x23.Waits, pt g4 26 ([v10, v11]), pt g3 26 ([v8, v9]), pt g2 26 ([v5, v6]), Ow kTGrant 33 v3 x29.Given, Ow kTGrant 33 v4 x29.Waits, pt g1 37 ([v1, v2])]) rfl
                          obtain ⟨s47, hg34, hl12, hcall12⟩ := St.lend (P := Try.prog) (Bs := [Ow (Kd.int .i64) 3 v19 x14.2, Ow (Kd.int .i64) 3 v7 x9.2]) (A := []) (B := [Ow kTGrant 33 v17 x14.1.Given, Ow kTGrant 33 v18 x14.1.Waits, Ow kTGrant 33 v5 x9.1.Given, Ow kTGrant 33 v6 x9.1.Waits, pt g5 26 ([v17, v18]), Ow kTGrant 33 v15 x13.Given, Ow kTGrant 33 v16 x13.Waits, Ow (Kd.int .i64) 3 v12 x2.2, Ow kTGrant 33 v10 x1.2.1, Ow kTGrant 33 v11 x1.2.2, Ow kTGrant 33 v8 x25.2.1, Ow kTGrant 33 v9 x25.2.2, Ow kTGrant 33 v13 x23.Given, Ow kTGrant 33 v14 x23.Waits, pt g4 26 ([v10, v11]), pt g3 26 ([v8, v9]), pt g2 26 ([v5, v6]), Ow kTGrant 33 v3 x29.Given, Ow kTGrant 33 v4 x29.Waits, pt g1 37 ([v1, v2])]) hS
                          obtain ⟨h32, hl12⟩ := hl12.ow hg34
                          obtain ⟨h33, hl12⟩ := hl12.ow hg34
                          obtain ⟨x16, hx20, H⟩ := hb H
                          refine gonE (j := 4) hF rfl rfl hc11 ?_
                          refine ste hF (e_call (fst := []) (vs := [v19, v7]) (cap := []) rfl rfl go_17 (hcall12 (laws_eqIntS.spec k _ _ x14.2 x9.2 v19 v7 h32 h33 _ hx20) (by rintro v s1 A1 ⟨rfl, rfl⟩; exact trivial))) (by decide) (fun v w a hR hF => ?_)
                          obtain ⟨s48, s49, A21, hg35, hS, hR⟩ := hR
                          obtain ⟨hv20, rfl⟩ := hR; obtain rfl := hv20.symm
                          have hS : St e s48 w [Ow (Kd.int .i64) 3 v19 x14.2, Ow (Kd.int .i64) 3 v7 x9.2, Ow kTGrant 33 v17 x14.1.Given, Ow kTGrant 33 v18 x14.1.Waits, Ow kTGrant 33 v5 x9.1.Given, Ow kTGrant 33 v6 x9.1.Waits, pt g5 26 ([v17, v18]), Ow kTGrant 33 v15 x13.Given, Ow kTGrant 33 v16 x13.Waits, Ow (Kd.int .i64) 3 v12 x2.2, Ow kTGrant 33 v10 x1.2.1, Ow kTGrant 33 v11 x1.2.2, Ow kTGrant 33 v8 x25.2.1, Ow kTGrant 33 v9 x25.2.2, Ow kTGrant 33 v13 x23.Given, Ow kTGrant 33 v14 x23.Waits, pt g4 26 ([v10, v11]), pt g3 26 ([v8, v9]), pt g2 26 ([v5, v6]), Ow kTGrant 33 v3 x29.Given, Ow kTGrant 33 v4 x29.Waits, pt g1 37 ([v1, v2])] := hS
                          refine gonE (j := 4) hF rfl rfl hc11 ?_
                          refine stp hF (p_not rfl) (by decide) (fun a hF => ?_)
                          refine stp hF (p_pickF rfl hc11 rfl) (by decide) (fun a hF => ?_)
                          refine nilN ?_
                          refine xn ?_
                          obtain rfl := hsm H
                          replace hS := hS.sel (is := [2, 2, 2, 2, 2, 2, 2, 0, 1, 1, 1, 1, 1, 1, 1, 1, 1, 1, 1, 1, 0, 0]) (A' := [Ow kTGrant 33 v17 x14.1.Given, Ow kTGrant 33 v18 x14.1.Waits, Ow kTGrant 33 v5 x9.1.Given, Ow kTGrant 33 v6 x9.1.Waits, pt g5 26 ([v17, v18]), Ow kTGrant 33 v15 x13.Given, Ow kTGrant 33 v16 x13.Waits, Ow (Kd.int .i64) 3 v19 x14.2, Ow (Kd.int .i64) 3 v12 x2.2, Ow kTGrant 33 v10 x1.2.1, Ow kTGrant 33 v11 x1.2.2, Ow kTGrant 33 v8 x25.2.1, Ow kTGrant 33 v9 x25.2.2, Ow kTGrant 33 v13 x23.Given, Ow kTGrant 33 v14 x23.Waits, pt g4 26 ([v10, v11]), pt g3 26 ([v8, v9]), pt g2 26 ([v5, v6]), Ow kTGrant 33 v3 x29.Given, Ow kTGrant 33 v4 x29.Waits, Ow (Kd.int .i64) 3 v7 x9.2, pt g1 37 ([v1, v2])]) rfl
                          exact ⟨(!x16), s48, hS, hF.cut ⟨rfl, rfl, rfl, rfl, trivial⟩, hg35, HK4⟩
                      · clear H HK4 hS hF
                        rintro a w ⟨x3, s46, hS, hF, hg36, H⟩
                        unfold laws_FnExactDropAll.c1 at H
                        refine nilN ?_
                        refine xn ?_
                        refine cnd hF rfl (fun hc12 => ?_) (fun hc12 => ?_)
                        · replace H := hbt hc12 H
                          refine sq ?_
                          refine rg ?_
                          refine stp hF (p_assign rfl) (by decide) (fun a hF => ?_)
                          refine nilN ?_
                          refine xn ?_
                          refine rt ?_
                          refine xr ?_
                          obtain rfl := hsm H
                          replace hS := hS.sel (is := []) (A' := []) rfl
                          exact ret1 hF rfl rfl hS ⟨rfl, rfl⟩
                        · replace H := hbf hc12 H
                          refine skN ?_
                          refine xn ?_
                          refine sq ?_
                          refine rg ?_
                          refine stp hF (p_assign rfl) (by decide) (fun a hF => ?_)
                          refine nilN ?_
                          refine xn ?_
                          refine sq ?_
                          refine rg ?_
                          refine stp hF (p_ldb_agg (i := 15) (l := []) (m := [v10, v11]) (r := []) hS rfl rfl ia_26 ti_26 rfl rfl rfl) (by decide) (fun a hF => ?_)
                          refine stp hF (p_move rfl) (by decide) (fun a hF => ?_)
                          replace hS := hS.sel (is := [9, 9, 0, 0, 0, 0, 0, 0, 0, 0, 0, 0, 0, 0, 0, 0, 0, 0, 0, 0, 0, 0]) (A' := [Ow kTGrant 33 v10 x1.2.1, Ow kTGrant 33 v11 x1.2.2, Ow kTGrant 33 v17 x14.1.Given, Ow kTGrant 33 v18 x14.1.Waits, Ow kTGrant 33 v5 x9.1.Given, Ow kTGrant 33 v6 x9.1.Waits, pt g5 26 ([v17, v18]), Ow kTGrant 33 v15 x13.Given, Ow kTGrant 33 v16 x13.Waits, Ow (Kd.int .i64) 3 v19 x14.2, Ow (Kd.int .i64) 3 v12 x2.2, Ow kTGrant 33 v8 x25.2.1, Ow kTGrant 33 v9 x25.2.2, Ow kTGrant 33 v13 x23.Given, Ow kTGrant 33 v14 x23.Waits, pt g4 26 ([v10, v11]), pt g3 26 ([v8, v9]), pt g2 26 ([v5, v6]), Ow kTGrant 33 v3 x29.Given, Ow kTGrant 33 v4 x29.Waits, Ow (Kd.int .i64) 3 v7 x9.2, pt g1 37 ([v1, v2])]) rfl
                          obtain ⟨s50, hg37, hl13, hcall13⟩ := St.lend (P := Try.prog) (Bs := [Ow kTGrant 33 v10 x1.2.1, Ow kTGrant 33 v11 x1.2.2]) (A := []) (B := [Ow kTGrant 33 v17 x14.1.Given, Ow kTGrant 33 v18 x14.1.Waits, Ow kTGrant 33 v5 x9.1.Given, Ow kTGrant 33 v6 x9.1.Waits, pt g5 26 ([v17, v18]), Ow kTGrant 33 v15 x13.Given, Ow kTGrant 33 v16 x13.Waits, Ow (Kd.int .i64) 3 v19 x14.2, Ow (Kd.int .i64) 3 v12 x2.2, Ow kTGrant 33 v8 x25.2.1, Ow kTGrant 33 v9 x25.2.2, Ow kTGrant 33 v13 x23.Given, Ow kTGrant 33 v14 x23.Waits, pt g4 26 ([v10, v11]), pt g3 26 ([v8, v9]), pt g2 26 ([v5, v6]), Ow kTGrant 33 v3 x29.Given, Ow kTGrant 33 v4 x29.Waits, Ow (Kd.int .i64) 3 v7 x9.2, pt g1 37 ([v1, v2])]) hS
                          obtain ⟨h34, hl13⟩ := hl13.ow hg37
                          obtain ⟨h35, hl13⟩ := hl13.ow hg37
                          obtain ⟨x4, hx21, H⟩ := hb H
                          refine ste hF (e_call (fst := []) (vs := [(.agg #[v10, v11]), (.int .i64 1)]) (cap := []) rfl rfl go_20 (hcall13 (laws_heldLocks.spec k _ _ (⟨x1.2.1, x1.2.2⟩ : TLocks) 1 v10 v11 h34 h35 _ hx21) (by rintro v s1 A1 ⟨rfl, rfl⟩; exact trivial))) (by decide) (fun v w a hR hF => ?_)
                          obtain ⟨s51, s52, A22, hg38, hS, hR⟩ := hR
                          obtain ⟨hv21, rfl⟩ := hR; obtain rfl := hv21.symm
                          have hS : St e s51 w [Ow kTGrant 33 v10 x1.2.1, Ow kTGrant 33 v11 x1.2.2, Ow kTGrant 33 v17 x14.1.Given, Ow kTGrant 33 v18 x14.1.Waits, Ow kTGrant 33 v5 x9.1.Given, Ow kTGrant 33 v6 x9.1.Waits, pt g5 26 ([v17, v18]), Ow kTGrant 33 v15 x13.Given, Ow kTGrant 33 v16 x13.Waits, Ow (Kd.int .i64) 3 v19 x14.2, Ow (Kd.int .i64) 3 v12 x2.2, Ow kTGrant 33 v8 x25.2.1, Ow kTGrant 33 v9 x25.2.2, Ow kTGrant 33 v13 x23.Given, Ow kTGrant 33 v14 x23.Waits, pt g4 26 ([v10, v11]), pt g3 26 ([v8, v9]), pt g2 26 ([v5, v6]), Ow kTGrant 33 v3 x29.Given, Ow kTGrant 33 v4 x29.Waits, Ow (Kd.int .i64) 3 v7 x9.2, pt g1 37 ([v1, v2])] := hS
                          refine stp hF (p_assign rfl) (by decide) (fun a hF => ?_)
                          refine nilN ?_
                          refine xn ?_
                          refine sq ?_
                          refine sq ?_
                          refine rg ?_
                          refine stp hF (p_move rfl) (by decide) (fun a hF => ?_)
                          refine stp hF (p_lss rfl rfl) (by decide) (fun a hF => ?_)
                          refine nilN ?_
                          refine xn ?_
                          refine cnd hF rfl (fun hc13 => ?_) (fun hc13 => ?_)
                          · replace H := hbt hc13 H
                            refine sq ?_
                            refine rg ?_
                            refine stp hF (p_assign rfl) (by decide) (fun a hF => ?_)
                            refine nilN ?_
                            refine xn ?_
                            refine rt ?_
                            refine xr ?_
                            obtain rfl := hsm H
                            replace hS := hS.sel (is := []) (A' := []) rfl
                            exact ret1 hF rfl rfl hS ⟨rfl, rfl⟩
                          · replace H := hbf hc13 H
                            refine skN ?_
                            refine xn ?_
                            refine sq ?_
                            refine rg ?_
                            refine stp hF (p_move rfl) (by decide) (fun a hF => ?_)
                            refine stp hF (p_move rfl) (by decide) (fun a hF => ?_)
                            replace hS := hS.sel (is := [10, 0, 0, 0, 0, 0, 0, 0, 0, 0, 0, 0, 0, 0, 0, 0, 0, 0, 0, 0, 0, 0]) (A' := [Ow (Kd.int .i64) 3 v12 x2.2, Ow kTGrant 33 v10 x1.2.1, Ow kTGrant 33 v11 x1.2.2, Ow kTGrant 33 v17 x14.1.Given, Ow kTGrant 33 v18 x14.1.Waits, Ow kTGrant 33 v5 x9.1.Given, Ow kTGrant 33 v6 x9.1.Waits, pt g5 26 ([v17, v18]), Ow kTGrant 33 v15 x13.Given, Ow kTGrant 33 v16 x13.Waits, Ow (Kd.int .i64) 3 v19 x14.2, Ow kTGrant 33 v8 x25.2.1, Ow kTGrant 33 v9 x25.2.2, Ow kTGrant 33 v13 x23.Given, Ow kTGrant 33 v14 x23.Waits, pt g4 26 ([v10, v11]), pt g3 26 ([v8, v9]), pt g2 26 ([v5, v6]), Ow kTGrant 33 v3 x29.Given, Ow kTGrant 33 v4 x29.Waits, Ow (Kd.int .i64) 3 v7 x9.2, pt g1 37 ([v1, v2])]) rfl
                            obtain ⟨s53, hg39, hl14, hcall14⟩ := St.lend (P := Try.prog) (Bs := [Ow (Kd.int .i64) 3 v12 x2.2]) (A := []) (B := [Ow kTGrant 33 v10 x1.2.1, Ow kTGrant 33 v11 x1.2.2, Ow kTGrant 33 v17 x14.1.Given, Ow kTGrant 33 v18 x14.1.Waits, Ow kTGrant 33 v5 x9.1.Given, Ow kTGrant 33 v6 x9.1.Waits, pt g5 26 ([v17, v18]), Ow kTGrant 33 v15 x13.Given, Ow kTGrant 33 v16 x13.Waits, Ow (Kd.int .i64) 3 v19 x14.2, Ow kTGrant 33 v8 x25.2.1, Ow kTGrant 33 v9 x25.2.2, Ow kTGrant 33 v13 x23.Given, Ow kTGrant 33 v14 x23.Waits, pt g4 26 ([v10, v11]), pt g3 26 ([v8, v9]), pt g2 26 ([v5, v6]), Ow kTGrant 33 v3 x29.Given, Ow kTGrant 33 v4 x29.Waits, Ow (Kd.int .i64) 3 v7 x9.2, pt g1 37 ([v1, v2])]) hS
                            obtain ⟨h36, hl14⟩ := hl14.ow hg39
                            obtain ⟨x5, hx22, H⟩ := hb H
                            refine ste hF (e_call (fst := []) (vs := [v12, (.int .i64 x4)]) (cap := []) rfl rfl go_21 (hcall14 (laws_heldIntS.spec k _ _ x2.2 x4 v12 h36 _ hx22) (by rintro v s1 A1 ⟨rfl, rfl⟩; exact trivial))) (by decide) (fun v w a hR hF => ?_)
                            obtain ⟨s54, s55, A23, hg40, hS, hR⟩ := hR
                            obtain ⟨hv22, rfl⟩ := hR; obtain rfl := hv22.symm
                            have hS : St e s54 w [Ow (Kd.int .i64) 3 v12 x2.2, Ow kTGrant 33 v10 x1.2.1, Ow kTGrant 33 v11 x1.2.2, Ow kTGrant 33 v17 x14.1.Given, Ow kTGrant 33 v18 x14.1.Waits, Ow kTGrant 33 v5 x9.1.Given, Ow kTGrant 33 v6 x9.1.Waits, pt g5 26 ([v17, v18]), Ow kTGrant 33 v15 x13.Given, Ow kTGrant 33 v16 x13.Waits, Ow (Kd.int .i64) 3 v19 x14.2, Ow kTGrant 33 v8 x25.2.1, Ow kTGrant 33 v9 x25.2.2, Ow kTGrant 33 v13 x23.Given, Ow kTGrant 33 v14 x23.Waits, pt g4 26 ([v10, v11]), pt g3 26 ([v8, v9]), pt g2 26 ([v5, v6]), Ow kTGrant 33 v3 x29.Given, Ow kTGrant 33 v4 x29.Waits, Ow (Kd.int .i64) 3 v7 x9.2, pt g1 37 ([v1, v2])] := hS
                            refine stp hF (p_assign rfl) (by decide) (fun a hF => ?_)
                            refine nilN ?_
                            refine xn ?_
                            refine sq ?_
                            refine sq ?_
                            refine rg ?_
                            refine stp hF (p_move rfl) (by decide) (fun a hF => ?_)
                            refine stp hF (p_lss rfl rfl) (by decide) (fun a hF => ?_)
                            refine nilN ?_
                            refine xn ?_
                            refine cnd hF rfl (fun hc14 => ?_) (fun hc14 => ?_)
                            · replace H := hbt hc14 H
                              refine sq ?_
                              refine rg ?_
                              refine stp hF (p_assign rfl) (by decide) (fun a hF => ?_)
                              refine nilN ?_
                              refine xn ?_
                              refine rt ?_
                              refine xr ?_
                              obtain rfl := hsm H
                              replace hS := hS.sel (is := []) (A' := []) rfl
                              exact ret1 hF rfl rfl hS ⟨rfl, rfl⟩
                            · replace H := hbf hc14 H
                              refine skN ?_
                              refine xn ?_
                              refine sq ?_
                              refine sq ?_
                              refine rg ?_
                              refine stp hF (p_move rfl) (by decide) (fun a hF => ?_)
                              refine stp hF (p_move rfl) (by decide) (fun a hF => ?_)
                              refine stp hF (p_neq rfl rfl) (by decide) (fun a hF => ?_)
                              refine nilN ?_
                              refine xn ?_
                              refine cnd hF rfl (fun hc15 => ?_) (fun hc15 => ?_)
                              · replace H := hbt hc15 H
                                refine sq ?_
                                refine rg ?_
                                refine stp hF (p_assign rfl) (by decide) (fun a hF => ?_)
                                refine nilN ?_
                                refine xn ?_
                                refine rt ?_
                                refine xr ?_
                                obtain rfl := hsm H
                                replace hS := hS.sel (is := []) (A' := []) rfl
                                exact ret1 hF rfl rfl hS ⟨rfl, rfl⟩
                              · replace H := hbf hc15 H
                                refine skN ?_
                                refine xn ?_
                                refine sq ?_
                                refine rg ?_
                                refine stp hF (p_assign rfl) (by decide) (fun a hF => ?_)
                                refine nilN ?_
                                refine xn ?_
                                refine rt ?_
                                obtain rfl := hsm H
                                replace hS := hS.sel (is := []) (A' := []) rfl
                                exact ret1 hF rfl rfl hS ⟨rfl, rfl⟩
end Go.Proofs.Ytbcpkopchnlefaa
