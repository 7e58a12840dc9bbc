/- Functions of this place as plain functions, and that the machine comes to what they say. Conditions: none. -/
import Derived.Test.YtbcpkopchnlefaaKwYFc
set_option linter.unusedVariables false
set_option linter.unusedSimpArgs false
namespace Go.Proofs.Ytbcpkopchnlefaa
open Go.Kw

def laws_FnLocked.c1 (k : Nat) (x1 : Bool) : Option Bool :=
  (some x1)
def laws_FnLocked.c2 (k : Nat) (x2 : TLocks × Int) (x3 : Bool) : Option Bool :=
  (some (x3 && (decide (x2.2 = 0))))
def laws_FnLocked.c3 (k : Nat) (x4 : TLocks × Int) (x5 : TLocks × Int × Int × Int) (x6 : Int) : Option Bool :=
  (if (decide (x4.2 = 1)) = true then ((if (decide ((x4.1.Waits.length : Int) = (w64 ((x5.1.Waits.length : Int) + 1)))) = true then (if 0 ≤ (w64 ((x4.1.Waits.length : Int) - 1)) ∧ (w64 ((x4.1.Waits.length : Int) - 1)) < (x4.1.Waits.length : Int) then (some (decide (((rd x4.1.Waits (w64 ((x4.1.Waits.length : Int) - 1))).Tx) = x5.2.1))) else none) else (some false) : Option Bool).bind fun x7 => laws_FnLocked.c1 k x7) else ((impl_Ask.f k x4.1 x5.2.1 x5.2.2.1 x5.2.2.2).bind fun x2 => ((if (decide (0 < x6)) = true then ((impl_Both.f k x6 x5.2.2.2).bind fun x8 => (some (decide (x8 = x6)))) else (some false) : Option Bool).bind fun x9 => laws_FnLocked.c2 k x2 x9)))
def laws_FnLocked.c4 (k : Nat) (rec_l1 : Int → Int → Option Int) (x10 : Int) (x11 : Int) : Option Int :=
  (rec_l1 x11 (w64 (x10 + 1)))
def laws_FnLocked.c5 (k : Nat) (x10 : Int) (x4 : TLocks × Int) (x12 : Int) (x13 : Bool) : Option Int :=
  (if x13 = true then (if 0 ≤ x10 ∧ x10 < (x4.1.Given.length : Int) then (some ((rd x4.1.Given x10).Mode)) else none) else (some x12))
def laws_FnLocked.l1 (x4 : TLocks × Int) (x5 : TLocks × Int × Int × Int) : Nat → Int → Int → Option Int
  | 0, _, _ => none
  | k + 1, x12, x10 => (if (decide (x10 < (x4.1.Given.length : Int))) = true then (((if 0 ≤ x10 ∧ x10 < (x4.1.Given.length : Int) then ((if (decide (((rd x4.1.Given x10).Tx) = x5.2.1)) = true then (if 0 ≤ x10 ∧ x10 < (x4.1.Given.length : Int) then (some (decide (((rd x4.1.Given x10).Res) = x5.2.2.1))) else none) else (some false) : Option Bool).bind fun x14 => laws_FnLocked.c5 k x10 x4 x12 x14) else none) : Option Int).bind fun x15 => laws_FnLocked.c4 k (laws_FnLocked.l1 x4 x5 k) x10 x15) else (some x12))
def laws_FnLocked.f (k : Nat) (x16 : (List Int)) : Option Bool :=
  ((laws_big.f k x16).bind fun x17 => (if x17 = true then (some true) else ((spec_DrawAsk.f k x16).bind fun x5 => ((impl_Ask.f k x5.1 x5.2.1 x5.2.2.1 x5.2.2.2).bind fun x4 => ((spec_Ask.f k x5.1 x5.2.1 x5.2.2.1 x5.2.2.2).bind fun x18 => (if (decide (x4.2 ≠ x18.2)) = true then (some false) else (if (decide (x4.2 = 2)) = true then (some ((decide ((x4.1.Given.length : Int) = (x5.1.Given.length : Int))) && (decide ((x4.1.Waits.length : Int) = (x5.1.Waits.length : Int))))) else ((impl_LocksOk.f k x4.1).bind fun x19 => (if (!x19) = true then (some false) else (((laws_FnLocked.l1 x4 x5 k 0 0) : Option Int).bind fun x20 => laws_FnLocked.c3 k x4 x5 x20))))))))))
set_option maxRecDepth 100000 in
set_option maxHeartbeats 4000000 in
theorem laws_FnLocked.spec (k : Nat) (s0 : HF) (w : World) (x16 : (List Int)) (v1 : Value) (h1 : Sl (Kd.int .u8) s0 v1 x16) (r : Bool) (H : laws_FnLocked.f k x16 = some r) :
    Law Try.prog 3 #[v1] s0 w [] (fun v s1 A1 => v = (.bool r) ∧ A1 = []) := by
  unfold laws_FnLocked.f at H
  refine Law.intro Try.func3 rfl [(0, v1)] (Nat.le_of_ble_eq_true rfl) (enter_lk ⟨rfl, trivial⟩) (fun e a hS hF => ?_)
  have hF : Fr 139 a [(0, v1)] := hF
  refine sq ?_
  refine rg ?_
  refine stp hF (p_assign rfl) (by decide) (fun a hF => ?_)
  refine nilN ?_
  refine xn ?_
  refine sq ?_
  refine sq ?_
  refine rg ?_
  refine stp hF (p_move rfl) (by decide) (fun a hF => ?_)
  obtain ⟨x17, hx1, H⟩ := hb H
  refine ste hF (e_call (fst := []) (vs := [v1]) (cap := []) rfl rfl go_6 (St.call (A := []) (B := []) hS (laws_big.spec k _ _ x16 v1 h1 _ hx1))) (by decide) (fun v w a hR hF => ?_)
  obtain ⟨s2, A2, hg1, hS, hR⟩ := hR
  obtain ⟨hv1, rfl⟩ := hR; obtain rfl := hv1.symm
  have hS : St e s2 w [] := hS
  refine nilN ?_
  refine xn ?_
  refine cnd hF rfl (fun hc1 => ?_) (fun hc1 => ?_)
  · replace H := hbt hc1 H
    refine sq ?_
    refine rg ?_
    refine stp hF (p_assign rfl) (by decide) (fun a hF => ?_)
    refine nilN ?_
    refine xn ?_
    refine rt ?_
    refine xr ?_
    obtain rfl := hsm H
    exact ret1 hF rfl rfl hS ⟨rfl, rfl⟩
  · replace H := hbf hc1 H
    refine skN ?_
    refine xn ?_
    refine sq ?_
    refine rg ?_
    refine stp hF (p_move rfl) (by decide) (fun a hF => ?_)
    obtain ⟨x5, hx2, H⟩ := hb H
    refine ste hF (e_call (fst := []) (vs := [v1]) (cap := []) rfl rfl go_7 (St.call (A := []) (B := []) hS (spec_DrawAsk.spec k _ _ x16 v1 (h1.mono hg1) _ hx2))) (by decide) (fun v w a hR hF => ?_)
    obtain ⟨s3, A3, hg2, hS, hR⟩ := hR
    obtain ⟨v2, v3, hv2, rfl⟩ := hR; obtain rfl := hv2.symm
    have hS : St e s3 w [Ow kTGrant 33 v2 x5.1.Given, Ow kTGrant 33 v3 x5.1.Waits] := hS
    refine stp hF (p_move rfl) (by decide) (fun a hF => ?_)
    refine stp hF (p_extract rfl rfl) (by decide) (fun a hF => ?_)
    refine stp hF (p_extract rfl rfl) (by decide) (fun a hF => ?_)
    refine stp hF (p_extract rfl rfl) (by decide) (fun a hF => ?_)
    refine stp hF (p_extract rfl rfl) (by decide) (fun a hF => ?_)
    refine ste hF (e_alloc (cs := [(.slice none 0 0), (.slice none 0 0)]) hS ti_26 rfl) (by decide) (fun v w a hR hF => ?_)
    obtain ⟨g1, rfl, hS⟩ := hR
    refine ste0 hF (e_stb (i := 0) (l := []) (m := [(.slice none 0 0), (.slice none 0 0)]) (r := []) (m' := [v2, v3]) (cs' := [v2, v3]) hS rfl rfl rfl ti_26 rfl rfl rfl rfl rfl (one_cons (hS.one_ow (i := 1) rfl) (one_cons (hS.one_ow (i := 2) rfl) one_nil)) rfl) (fun v w a hR hF => ?_)
    have hS : St e s3 w [pt g1 26 ([v2, v3]), Ow kTGrant 33 v2 x5.1.Given, Ow kTGrant 33 v3 x5.1.Waits] := hR
    refine stp hF (p_assign rfl) (by decide) (fun a hF => ?_)
    refine stp hF (p_assign rfl) (by decide) (fun a hF => ?_)
    refine stp hF (p_assign rfl) (by decide) (fun a hF => ?_)
    refine nilN ?_
    refine xn ?_
    refine sq ?_
    refine rg ?_
    refine stp hF (p_ldb_agg (i := 0) (l := []) (m := [v2, v3]) (r := []) hS rfl rfl ia_26 ti_26 rfl rfl rfl) (by decide) (fun a hF => ?_)
    refine stp hF (p_move rfl) (by decide) (fun a hF => ?_)
    refine stp hF (p_move rfl) (by decide) (fun a hF => ?_)
    refine stp hF (p_move rfl) (by decide) (fun a hF => ?_)
    replace hS := hS.sel (is := [1, 1, 0]) (A' := [Ow kTGrant 33 v2 x5.1.Given, Ow kTGrant 33 v3 x5.1.Waits, pt g1 26 ([v2, v3])]) rfl
    obtain ⟨s4, hg3, hl1, hcall1⟩ := St.lend (P := Try.prog) (Bs := [Ow kTGrant 33 v2 x5.1.Given, Ow kTGrant 33 v3 x5.1.Waits]) (A := []) (B := [pt g1 26 ([v2, v3])]) hS
    obtain ⟨h2, hl1⟩ := hl1.ow hg3
    obtain ⟨h3, hl1⟩ := hl1.ow hg3
    obtain ⟨x4, hx3, H⟩ := hb H
    refine ste hF (e_call (fst := []) (vs := [(.agg #[v2, v3]), (.int .i64 x5.2.1), (.int .i64 x5.2.2.1), (.int .i64 x5.2.2.2)]) (cap := []) rfl rfl go_8 (hcall1 (impl_Ask.spec k _ _ x5.1 x5.2.1 x5.2.2.1 x5.2.2.2 v2 v3 h2 h3 _ hx3) (by rintro v s1 A1 ⟨_, _, rfl, rfl⟩; exact ⟨Ow_flat kTGrant_flat _ _ _, ⟨Ow_flat kTGrant_flat _ _ _, trivial⟩⟩))) (by decide) (fun v w a hR hF => ?_)
    obtain ⟨s5, s6, A4, hg4, hS, hR⟩ := hR
    obtain ⟨v4, v5, hv3, rfl⟩ := hR; obtain rfl := hv3.symm
    have hS : St e s5 w [Ow kTGrant 33 v2 x5.1.Given, Ow kTGrant 33 v3 x5.1.Waits, Ow kTGrant 33 v4 x4.1.Given, Ow kTGrant 33 v5 x4.1.Waits, pt g1 26 ([v2, v3])] := hS
    refine stp hF (p_move rfl) (by decide) (fun a hF => ?_)
    refine stp hF (p_extract rfl rfl) (by decide) (fun a hF => ?_)
    refine stp hF (p_extract rfl rfl) (by decide) (fun a hF => ?_)
    refine ste hF (e_alloc (cs := [(.slice none 0 0), (.slice none 0 0)]) hS ti_26 rfl) (by decide) (fun v w a hR hF => ?_)
    obtain ⟨g2, rfl, hS⟩ := hR
    refine ste0 hF (e_stb (i := 0) (l := []) (m := [(.slice none 0 0), (.slice none 0 0)]) (r := []) (m' := [v4, v5]) (cs' := [v4, v5]) hS rfl rfl rfl ti_26 rfl rfl rfl rfl rfl (one_cons (hS.one_ow (i := 3) rfl) (one_cons (hS.one_ow (i := 4) rfl) one_nil)) rfl) (fun v w a hR hF => ?_)
    have hS : St e s5 w [pt g2 26 ([v4, v5]), Ow kTGrant 33 v2 x5.1.Given, Ow kTGrant 33 v3 x5.1.Waits, Ow kTGrant 33 v4 x4.1.Given, Ow kTGrant 33 v5 x4.1.Waits, pt g1 26 ([v2, v3])] := hR
    refine stp hF (p_assign rfl) (by decide) (fun a hF => ?_)
    refine nilN ?_
    refine xn ?_
    refine sq ?_
    refine rg ?_
    refine stp hF (p_ldb_agg (i := 5) (l := []) (m := [v2, v3]) (r := []) hS rfl rfl ia_26 ti_26 rfl rfl rfl) (by decide) (fun a hF => ?_)
    refine stp hF (p_move rfl) (by decide) (fun a hF => ?_)
    refine stp hF (p_move rfl) (by decide) (fun a hF => ?_)
    refine stp hF (p_move rfl) (by decide) (fun a hF => ?_)
    replace hS := hS.sel (is := [1, 1, 0, 0, 0, 0]) (A' := [Ow kTGrant 33 v2 x5.1.Given, Ow kTGrant 33 v3 x5.1.Waits, pt g2 26 ([v4, v5]), Ow kTGrant 33 v4 x4.1.Given, Ow kTGrant 33 v5 x4.1.Waits, pt g1 26 ([v2, v3])]) rfl
    obtain ⟨s7, hg5, hl2, hcall2⟩ := St.lend (P := Try.prog) (Bs := [Ow kTGrant 33 v2 x5.1.Given, Ow kTGrant 33 v3 x5.1.Waits]) (A := []) (B := [pt g2 26 ([v4, v5]), Ow kTGrant 33 v4 x4.1.Given, Ow kTGrant 33 v5 x4.1.Waits, pt g1 26 ([v2, v3])]) hS
    obtain ⟨h4, hl2⟩ := hl2.ow hg5
    obtain ⟨h5, hl2⟩ := hl2.ow hg5
    obtain ⟨x18, hx4, H⟩ := hb H
    refine ste hF (e_call (fst := []) (vs := [(.agg #[v2, v3]), (.int .i64 x5.2.1), (.int .i64 x5.2.2.1), (.int .i64 x5.2.2.2)]) (cap := []) rfl rfl go_9 (hcall2 (spec_Ask.spec k _ _ x5.1 x5.2.1 x5.2.2.1 x5.2.2.2 v2 v3 h4 h5 _ hx4) (by rintro v s1 A1 ⟨_, _, rfl, rfl⟩; exact ⟨Ow_flat kTGrant_flat _ _ _, ⟨Ow_flat kTGrant_flat _ _ _, trivial⟩⟩))) (by decide) (fun v w a hR hF => ?_)
    obtain ⟨s8, s9, A5, hg6, hS, hR⟩ := hR
    obtain ⟨v6, v7, hv4, rfl⟩ := hR; obtain rfl := hv4.symm
    have hS : St e s8 w [Ow kTGrant 33 v2 x5.1.Given, Ow kTGrant 33 v3 x5.1.Waits, Ow kTGrant 33 v6 x18.1.Given, Ow kTGrant 33 v7 x18.1.Waits, pt g2 26 ([v4, v5]), Ow kTGrant 33 v4 x4.1.Given, Ow kTGrant 33 v5 x4.1.Waits, pt g1 26 ([v2, v3])] := hS
    refine stp hF (p_move rfl) (by decide) (fun a hF => ?_)
    refine stp hF (p_extract rfl rfl) (by decide) (fun a hF => ?_)
    refine stp hF (p_extract rfl rfl) (by decide) (fun a hF => ?_)
    refine ste hF (e_alloc (cs := [(.slice none 0 0), (.slice none 0 0)]) hS ti_26 rfl) (by decide) (fun v w a hR hF => ?_)
    obtain ⟨g3, rfl, hS⟩ := hR
    refine ste0 hF (e_stb (i := 0) (l := []) (m := [(.slice none 0 0), (.slice none 0 0)]) (r := []) (m' := [v6, v7]) (cs' := [v6, v7]) hS rfl rfl rfl ti_26 rfl rfl rfl rfl rfl (one_cons (hS.one_ow (i := 3) rfl) (one_cons (hS.one_ow (i := 4) rfl) one_nil)) rfl) (fun v w a hR hF => ?_)
    have hS : St e s8 w [pt g3 26 ([v6, v7]), Ow kTGrant 33 v2 x5.1.Given, Ow kTGrant 33 v3 x5.1.Waits, Ow kTGrant 33 v6 x18.1.Given, Ow kTGrant 33 v7 x18.1.Waits, pt g2 26 ([v4, v5]), Ow kTGrant 33 v4 x4.1.Given, Ow kTGrant 33 v5 x4.1.Waits, pt g1 26 ([v2, v3])] := hR
    refine stp hF (p_assign rfl) (by decide) (fun a hF => ?_)
    refine nilN ?_
    refine xn ?_
    refine sq ?_
    refine sq ?_
    refine rg ?_
    refine stp hF (p_move rfl) (by decide) (fun a hF => ?_)
    refine stp hF (p_move rfl) (by decide) (fun a hF => ?_)
    refine stp hF (p_neq rfl rfl) (by decide) (fun a hF => ?_)
    refine nilN ?_
    refine xn ?_
    refine cnd hF rfl (fun hc2 => ?_) (fun hc2 => ?_)
    · replace H := hbt hc2 H
      refine sq ?_
      refine rg ?_
      refine stp hF (p_assign rfl) (by decide) (fun a hF => ?_)
      refine nilN ?_
      refine xn ?_
      refine rt ?_
      refine xr ?_
      obtain rfl := hsm H
      replace hS := hS.sel (is := []) (A' := []) rfl
      exact ret1 hF rfl rfl hS ⟨rfl, rfl⟩
    · replace H := hbf hc2 H
      refine skN ?_
      refine xn ?_
      refine sq ?_
      refine sq ?_
      refine rg ?_
      refine stp hF (p_move rfl) (by decide) (fun a hF => ?_)
      refine stp hF (p_eql rfl rfl) (by decide) (fun a hF => ?_)
      refine nilN ?_
      refine xn ?_
      refine cnd hF rfl (fun hc3 => ?_) (fun hc3 => ?_)
      · replace H := hbt hc3 H
        refine sq ?_
        refine rg ?_
        refine stp hF (p_fldb (o' := 0) rfl fi_26_0 rfl) (by decide) (fun a hF => ?_)
        refine stp hF (p_ldb_one (i := 5) hS rfl rfl ia_24 rfl) (by decide) (fun a hF => ?_)
        refine stp hF (p_leno (i := 6) hS rfl un_24 rfl) (by decide) (fun a hF => ?_)
        refine stp hF (p_fldb (o' := 0) rfl fi_26_0 rfl) (by decide) (fun a hF => ?_)
        refine stp hF (p_ldb_one (i := 8) hS rfl rfl ia_24 rfl) (by decide) (fun a hF => ?_)
        refine stp hF (p_leno (i := 1) hS rfl un_24 rfl) (by decide) (fun a hF => ?_)
        refine stp hF (p_eql rfl rfl) (by decide) (fun a hF => ?_)
        refine stp hF (p_move rfl) (by decide) (fun a hF => ?_)
        refine cutj 8 (fun a w => St e s8 w [pt g3 26 ([v6, v7]), Ow kTGrant 33 v2 x5.1.Given, Ow kTGrant 33 v3 x5.1.Waits, Ow kTGrant 33 v6 x18.1.Given, Ow kTGrant 33 v7 x18.1.Waits, pt g2 26 ([v4, v5]), Ow kTGrant 33 v4 x4.1.Given, Ow kTGrant 33 v5 x4.1.Waits, pt g1 26 ([v2, v3])] ∧ Fr 139 a [(60, (.bool ((decide ((x4.1.Given.length : Int) = (x5.1.Given.length : Int))) && (decide ((x4.1.Waits.length : Int) = (x5.1.Waits.length : Int))))))]) rfl rfl ?_ ?_
        · rcases Bool.eq_false_or_eq_true (decide ((x4.1.Given.length : Int) = (x5.1.Given.length : Int))) with hc4 | hc4
          · skip
            refine gonE (j := 7) hF rfl rfl hc4 ?_
            refine stp hF (p_fldb (o' := 1) rfl fi_26_1 rfl) (by decide) (fun a hF => ?_)
            refine gonE (j := 7) hF rfl rfl hc4 ?_
            refine stp hF (p_ldb_one (i := 5) hS rfl rfl ia_24 rfl) (by decide) (fun a hF => ?_)
            refine gonE (j := 7) hF rfl rfl hc4 ?_
            refine stp hF (p_leno (i := 7) hS rfl un_24 rfl) (by decide) (fun a hF => ?_)
            refine gonE (j := 7) hF rfl rfl hc4 ?_
            refine stp hF (p_fldb (o' := 1) rfl fi_26_1 rfl) (by decide) (fun a hF => ?_)
            refine gonE (j := 7) hF rfl rfl hc4 ?_
            refine stp hF (p_ldb_one (i := 8) hS rfl rfl ia_24 rfl) (by decide) (fun a hF => ?_)
            refine gonE (j := 7) hF rfl rfl hc4 ?_
            refine stp hF (p_leno (i := 2) hS rfl un_24 rfl) (by decide) (fun a hF => ?_)
            refine gonE (j := 7) hF rfl rfl hc4 ?_
            refine stp hF (p_eql rfl rfl) (by decide) (fun a hF => ?_)
            refine stp hF (p_andT rfl hc4 rfl) (by decide) (fun a hF => ?_)
            refine nilN ?_
            refine xn ?_
            exact ⟨hS, hF.cut ⟨rfl, trivial⟩⟩
          · skip
            refine gofD (j := 7) hF rfl rfl (by rw [hc4]; decide) (by decide) (fun a hF => ?_)
            refine gofD (j := 7) hF rfl rfl (by rw [hc4]; decide) (by decide) (fun a hF => ?_)
            refine gofD (j := 7) hF rfl rfl (by rw [hc4]; decide) (by decide) (fun a hF => ?_)
            refine gofD (j := 7) hF rfl rfl (by rw [hc4]; decide) (by decide) (fun a hF => ?_)
            refine gofD (j := 7) hF rfl rfl (by rw [hc4]; decide) (by decide) (fun a hF => ?_)
            refine gofD (j := 7) hF rfl rfl (by rw [hc4]; decide) (by decide) (fun a hF => ?_)
            refine gofD (j := 7) hF rfl rfl (by rw [hc4]; decide) (by decide) (fun a hF => ?_)
            refine stp hF (p_andF (decide ((x4.1.Waits.length : Int) = (x5.1.Waits.length : Int))) rfl hc4 rfl) (by decide) (fun a hF => ?_)
            refine nilN ?_
            refine xn ?_
            exact ⟨hS, hF.cut ⟨rfl, trivial⟩⟩
        clear hS hF
        rintro a w ⟨hS, hF⟩
        refine stp hF (p_assign rfl) (by decide) (fun a hF => ?_)
        refine nilN ?_
        refine xn ?_
        refine rt ?_
        refine xr ?_
        obtain rfl := hsm H
        replace hS := hS.sel (is := []) (A' := []) rfl
        exact ret1 hF rfl rfl hS ⟨rfl, rfl⟩
      · replace H := hbf hc3 H
        refine skN ?_
        refine xn ?_
        refine sq ?_
        refine sq ?_
        refine rg ?_
        refine stp hF (p_ldb_agg (i := 5) (l := []) (m := [v4, v5]) (r := []) hS rfl rfl ia_26 ti_26 rfl rfl rfl) (by decide) (fun a hF => ?_)
        replace hS := hS.sel (is := [6, 6, 0, 0, 0, 0, 0, 0, 0]) (A' := [Ow kTGrant 33 v4 x4.1.Given, Ow kTGrant 33 v5 x4.1.Waits, pt g3 26 ([v6, v7]), Ow kTGrant 33 v2 x5.1.Given, Ow kTGrant 33 v3 x5.1.Waits, Ow kTGrant 33 v6 x18.1.Given, Ow kTGrant 33 v7 x18.1.Waits, pt g2 26 ([v4, v5]), pt g1 26 ([v2, v3])]) rfl
        obtain ⟨s10, hg7, hl3, hcall3⟩ := St.lend (P := Try.prog) (Bs := [Ow kTGrant 33 v4 x4.1.Given, Ow kTGrant 33 v5 x4.1.Waits]) (A := []) (B := [pt g3 26 ([v6, v7]), Ow kTGrant 33 v2 x5.1.Given, Ow kTGrant 33 v3 x5.1.Waits, Ow kTGrant 33 v6 x18.1.Given, Ow kTGrant 33 v7 x18.1.Waits, pt g2 26 ([v4, v5]), pt g1 26 ([v2, v3])]) hS
        obtain ⟨h6, hl3⟩ := hl3.ow hg7
        obtain ⟨h7, hl3⟩ := hl3.ow hg7
        obtain ⟨x19, hx5, H⟩ := hb H
        refine ste hF (e_call (fst := []) (vs := [(.agg #[v4, v5])]) (cap := []) rfl rfl go_10 (hcall3 (impl_LocksOk.spec k _ _ x4.1 v4 v5 h6 h7 _ hx5) (by rintro v s1 A1 ⟨rfl, rfl⟩; exact trivial))) (by decide) (fun v w a hR hF => ?_)
        obtain ⟨s11, s12, A6, hg8, hS, hR⟩ := hR
        obtain ⟨hv5, rfl⟩ := hR; obtain rfl := hv5.symm
        have hS : St e s11 w [Ow kTGrant 33 v4 x4.1.Given, Ow kTGrant 33 v5 x4.1.Waits, pt g3 26 ([v6, v7]), Ow kTGrant 33 v2 x5.1.Given, Ow kTGrant 33 v3 x5.1.Waits, Ow kTGrant 33 v6 x18.1.Given, Ow kTGrant 33 v7 x18.1.Waits, pt g2 26 ([v4, v5]), pt g1 26 ([v2, v3])] := hS
        refine stp hF (p_not rfl) (by decide) (fun a hF => ?_)
        refine nilN ?_
        refine xn ?_
        refine cnd hF rfl (fun hc5 => ?_) (fun hc5 => ?_)
        · replace H := hbt hc5 H
          refine sq ?_
          refine rg ?_
          refine stp hF (p_assign rfl) (by decide) (fun a hF => ?_)
          refine nilN ?_
          refine xn ?_
          refine rt ?_
          refine xr ?_
          obtain rfl := hsm H
          replace hS := hS.sel (is := []) (A' := []) rfl
          exact ret1 hF rfl rfl hS ⟨rfl, rfl⟩
        · replace H := hbf hc5 H
          refine skN ?_
          refine xn ?_
          refine sq ?_
          refine rg ?_
          refine stp hF (p_assign rfl) (by decide) (fun a hF => ?_)
          refine nilN ?_
          refine xn ?_
          obtain ⟨x20, H, HK1⟩ := hb H
          refine sqj (fun a w => ∃ (x6 : Int) , St e s11 w [Ow kTGrant 33 v4 x4.1.Given, Ow kTGrant 33 v5 x4.1.Waits, pt g3 26 ([v6, v7]), Ow kTGrant 33 v2 x5.1.Given, Ow kTGrant 33 v3 x5.1.Waits, Ow kTGrant 33 v6 x18.1.Given, Ow kTGrant 33 v7 x18.1.Waits, pt g2 26 ([v4, v5]), pt g1 26 ([v2, v3])] ∧ Fr 139 a [(3, (.pointer (some ⟨g1, 0, none⟩))), (4, (.int .i64 x5.2.1)), (5, (.int .i64 x5.2.2.1)), (6, (.int .i64 x5.2.2.2)), (7, (.pointer (some ⟨g2, 0, none⟩))), (8, (.int .i64 x4.2)), (11, (.int .i64 x6))] ∧ laws_FnLocked.c3 k x4 x5 x6 = some r) ?_ ?_
          · skip
            refine sq ?_
            refine rg ?_
            refine stp hF (p_assign rfl) (by decide) (fun a hF => ?_)
            refine nilN ?_
            refine xn ?_
            refine blk ?_
            refine loop_ind (fun k1 a w => ∃ (x12 : Int) (x10 : Int) , St e s11 w [Ow kTGrant 33 v4 x4.1.Given, Ow kTGrant 33 v5 x4.1.Waits, pt g3 26 ([v6, v7]), Ow kTGrant 33 v2 x5.1.Given, Ow kTGrant 33 v3 x5.1.Waits, Ow kTGrant 33 v6 x18.1.Given, Ow kTGrant 33 v7 x18.1.Waits, pt g2 26 ([v4, v5]), pt g1 26 ([v2, v3])] ∧ Fr 139 a [(3, (.pointer (some ⟨g1, 0, none⟩))), (4, (.int .i64 x5.2.1)), (5, (.int .i64 x5.2.2.1)), (6, (.int .i64 x5.2.2.2)), (7, (.pointer (some ⟨g2, 0, none⟩))), (8, (.int .i64 x4.2)), (11, (.int .i64 x12)), (12, (.int .i64 x10))] ∧ laws_FnLocked.l1 x4 x5 k1 x12 x10 = some x20) k ?_ ?_ ?_
            · skip
              exact ⟨0, 0, hS, hF.cut ⟨rfl, rfl, rfl, rfl, rfl, rfl, rfl, rfl, trivial⟩, H⟩
            · clear H hS hF
              rintro a w ⟨x12, x10, hS, hF, H⟩
              exact absurd (show none = some _ from H) (by simp)
            · clear H hS hF
              rintro k1 a w ⟨x12, x10, hS, hF, H⟩
              rw [laws_FnLocked.l1.eq_2] at H
              refine sq ?_
              refine sq ?_
              refine rg ?_
              refine stp hF (p_move rfl) (by decide) (fun a hF => ?_)
              refine stp hF (p_fldb (o' := 0) rfl fi_26_0 rfl) (by decide) (fun a hF => ?_)
              refine stp hF (p_ldb_one (i := 7) hS rfl rfl ia_24 rfl) (by decide) (fun a hF => ?_)
              refine stp hF (p_leno (i := 0) hS rfl un_24 rfl) (by decide) (fun a hF => ?_)
              refine stp hF (p_lss rfl rfl) (by decide) (fun a hF => ?_)
              refine nilN ?_
              refine xn ?_
              refine cnd hF rfl (fun hc6 => ?_) (fun hc6 => ?_)
              · replace H := hbt hc6 H
                refine skN ?_
                refine xn ?_
                obtain ⟨x15, H, HK2⟩ := hb H
                refine sqj (fun a w => ∃ (x11 : Int) , St e s11 w [Ow kTGrant 33 v4 x4.1.Given, Ow kTGrant 33 v5 x4.1.Waits, pt g3 26 ([v6, v7]), Ow kTGrant 33 v2 x5.1.Given, Ow kTGrant 33 v3 x5.1.Waits, Ow kTGrant 33 v6 x18.1.Given, Ow kTGrant 33 v7 x18.1.Waits, pt g2 26 ([v4, v5]), pt g1 26 ([v2, v3])] ∧ Fr 139 a [(3, (.pointer (some ⟨g1, 0, none⟩))), (4, (.int .i64 x5.2.1)), (5, (.int .i64 x5.2.2.1)), (6, (.int .i64 x5.2.2.2)), (7, (.pointer (some ⟨g2, 0, none⟩))), (8, (.int .i64 x4.2)), (11, (.int .i64 x11)), (12, (.int .i64 x10))] ∧ laws_FnLocked.c4 k1 (laws_FnLocked.l1 x4 x5 k1) x10 x11 = some x20) ?_ ?_
                · skip
                  refine blk ?_
                  refine sq ?_
                  refine rg ?_
                  refine stp hF (p_fldb (o' := 0) rfl fi_26_0 rfl) (by decide) (fun a hF => ?_)
                  refine stp hF (p_ldb_one (i := 7) hS rfl rfl ia_24 rfl) (by decide) (fun a hF => ?_)
                  refine stp hF (p_move rfl) (by decide) (fun a hF => ?_)
                  obtain ⟨hq1, H⟩ := hck H
                  obtain ⟨b1, o1, q1, hv6, p1⟩ := p_idxo (n := 0) (i := x10) hS rfl un_24 ti_33 hq1.1 hq1.2
                  refine stp hF (p1 rfl rfl) (by decide) (fun a hF => ?_)
                  refine stp hF (p_fldb (o' := (o1 + x10.toNat * kTGrant.sz)) rfl fi_33_0 rfl) (by decide) (fun a hF => ?_)
                  obtain ⟨u1, h8, p2⟩ := p_ldo_one (P := Try.prog) (n := 0) hS rfl hv6 kTGrant_Tx hq1.1 hq1.2 rfl ia_3 rfl
                  obtain rfl : u1 = .int .i64 ((rd x4.1.Given x10).Tx) := by injection h8
                  refine stp hF (p2 rfl) (by decide) (fun a hF => ?_)
                  refine stp hF (p_move rfl) (by decide) (fun a hF => ?_)
                  refine stp hF (p_eql rfl rfl) (by decide) (fun a hF => ?_)
                  refine stp hF (p_move rfl) (by decide) (fun a hF => ?_)
                  obtain ⟨x14, H, HK3⟩ := hb H
                  refine cutj 9 (fun a w => ∃ (x13 : Bool) , St e s11 w [Ow kTGrant 33 v4 x4.1.Given, Ow kTGrant 33 v5 x4.1.Waits, pt g3 26 ([v6, v7]), Ow kTGrant 33 v2 x5.1.Given, Ow kTGrant 33 v3 x5.1.Waits, Ow kTGrant 33 v6 x18.1.Given, Ow kTGrant 33 v7 x18.1.Waits, pt g2 26 ([v4, v5]), pt g1 26 ([v2, v3])] ∧ Fr 139 a [(3, (.pointer (some ⟨g1, 0, none⟩))), (4, (.int .i64 x5.2.1)), (5, (.int .i64 x5.2.2.1)), (6, (.int .i64 x5.2.2.2)), (7, (.pointer (some ⟨g2, 0, none⟩))), (8, (.int .i64 x4.2)), (11, (.int .i64 x12)), (12, (.int .i64 x10)), (88, (.bool x13))] ∧ laws_FnLocked.c5 k1 x10 x4 x12 x13 = some x15) rfl rfl ?_ ?_
                  · rcases Bool.eq_false_or_eq_true (decide (((rd x4.1.Given x10).Tx) = x5.2.1)) with hc7 | hc7
                    · replace H := hbt hc7 H
                      refine gonE (j := 8) hF rfl rfl hc7 ?_
                      refine stp hF (p_fldb (o' := 0) rfl fi_26_0 rfl) (by decide) (fun a hF => ?_)
                      refine gonE (j := 8) hF rfl rfl hc7 ?_
                      refine stp hF (p_ldb_one (i := 7) hS rfl rfl ia_24 rfl) (by decide) (fun a hF => ?_)
                      refine gonE (j := 8) hF rfl rfl hc7 ?_
                      refine stp hF (p_move rfl) (by decide) (fun a hF => ?_)
                      obtain ⟨hq2, H⟩ := hck H
                      obtain ⟨b2, o2, q2, hv7, p3⟩ := p_idxo (n := 0) (i := x10) hS rfl un_24 ti_33 hq2.1 hq2.2
                      refine gonE (j := 8) hF rfl rfl hc7 ?_
                      refine stp hF (p3 rfl rfl) (by decide) (fun a hF => ?_)
                      refine gonE (j := 8) hF rfl rfl hc7 ?_
                      refine stp hF (p_fldb (o' := ((o2 + x10.toNat * kTGrant.sz) + 1)) rfl fi_33_1 rfl) (by decide) (fun a hF => ?_)
                      obtain ⟨u2, h9, p4⟩ := p_ldo_one (P := Try.prog) (n := 0) hS rfl hv7 kTGrant_Res hq2.1 hq2.2 rfl ia_3 rfl
                      obtain rfl : u2 = .int .i64 ((rd x4.1.Given x10).Res) := by injection h9
                      refine gonE (j := 8) hF rfl rfl hc7 ?_
                      refine stp hF (p4 rfl) (by decide) (fun a hF => ?_)
                      refine gonE (j := 8) hF rfl rfl hc7 ?_
                      refine stp hF (p_move rfl) (by decide) (fun a hF => ?_)
                      refine gonE (j := 8) hF rfl rfl hc7 ?_
                      refine stp hF (p_eql rfl rfl) (by decide) (fun a hF => ?_)
                      refine stp hF (p_pickT rfl hc7 rfl) (by decide) (fun a hF => ?_)
                      refine nilN ?_
                      refine xn ?_
                      obtain rfl := hsm H
                      exact ⟨(decide (((rd x4.1.Given x10).Res) = x5.2.2.1)), hS, hF.cut ⟨rfl, rfl, rfl, rfl, rfl, rfl, rfl, rfl, rfl, trivial⟩, HK3⟩
                    · replace H := hbf hc7 H
                      refine gofD (j := 8) hF rfl rfl (by rw [hc7]; decide) (by decide) (fun a hF => ?_)
                      refine gofD (j := 8) hF rfl rfl (by rw [hc7]; decide) (by decide) (fun a hF => ?_)
                      refine gofD (j := 8) hF rfl rfl (by rw [hc7]; decide) (by decide) (fun a hF => ?_)
                      refine gofD (j := 8) hF rfl rfl (by rw [hc7]; decide) (by decide) (fun a hF => ?_)
                      refine gofD (j := 8) hF rfl rfl (by rw [hc7]; decide) (by decide) (fun a hF => ?_)
                      refine gofD (j := 8) hF rfl rfl (by rw [hc7]; decide) (by decide) (fun a hF => ?_)
                      refine gofD (j := 8) hF rfl rfl (by rw [hc7]; decide) (by decide) (fun a hF => ?_)
                      refine gofD (j := 8) hF rfl rfl (by rw [hc7]; decide) (by decide) (fun a hF => ?_)
                      refine stp hF (p_pickF rfl hc7 rfl) (by decide) (fun a hF => ?_)
                      refine nilN ?_
                      refine xn ?_
                      obtain rfl := hsm H
                      exact ⟨false, hS, hF.cut ⟨rfl, rfl, rfl, rfl, rfl, rfl, rfl, rfl, rfl, trivial⟩, HK3⟩
                  · clear H HK3 hS hF
                    rintro a w ⟨x13, hS, hF, H⟩
                    unfold laws_FnLocked.c5 at H
                    refine nilN ?_
                    refine xn ?_
                    refine cnd hF rfl (fun hc8 => ?_) (fun hc8 => ?_)
                    · replace H := hbt hc8 H
                      refine rg ?_
                      refine stp hF (p_fldb (o' := 0) rfl fi_26_0 rfl) (by decide) (fun a hF => ?_)
                      refine stp hF (p_ldb_one (i := 7) hS rfl rfl ia_24 rfl) (by decide) (fun a hF => ?_)
                      refine stp hF (p_move rfl) (by decide) (fun a hF => ?_)
                      obtain ⟨hq3, H⟩ := hck H
                      obtain ⟨b3, o3, q3, hv8, p5⟩ := p_idxo (n := 0) (i := x10) hS rfl un_24 ti_33 hq3.1 hq3.2
                      refine stp hF (p5 rfl rfl) (by decide) (fun a hF => ?_)
                      refine stp hF (p_fldb (o' := ((o3 + x10.toNat * kTGrant.sz) + 2)) rfl fi_33_2 rfl) (by decide) (fun a hF => ?_)
                      obtain ⟨u3, h10, p6⟩ := p_ldo_one (P := Try.prog) (n := 0) hS rfl hv8 kTGrant_Mode hq3.1 hq3.2 rfl ia_3 rfl
                      obtain rfl : u3 = .int .i64 ((rd x4.1.Given x10).Mode) := by injection h10
                      refine stp hF (p6 rfl) (by decide) (fun a hF => ?_)
                      refine stp hF (p_assign rfl) (by decide) (fun a hF => ?_)
                      refine nilN ?_
                      refine bn (xn ?_)
                      obtain rfl := hsm H
                      exact ⟨((rd x4.1.Given x10).Mode), hS, hF.cut ⟨rfl, rfl, rfl, rfl, rfl, rfl, rfl, rfl, trivial⟩, HK2⟩
                    · replace H := hbf hc8 H
                      refine skN ?_
                      refine bn (xn ?_)
                      obtain rfl := hsm H
                      exact ⟨x12, hS, hF.cut ⟨rfl, rfl, rfl, rfl, rfl, rfl, rfl, rfl, trivial⟩, HK2⟩
                · clear H HK2 hS hF
                  rintro a w ⟨x11, hS, hF, H⟩
                  unfold laws_FnLocked.c4 at H
                  refine rg ?_
                  refine stp hF (p_move rfl) (by decide) (fun a hF => ?_)
                  refine stp hF (p_add (c := w64 (x10 + 1)) rfl rfl rfl) (by decide) (fun a hF => ?_)
                  refine stp hF (p_assign rfl) (by decide) (fun a hF => ?_)
                  refine nilN ?_
                  refine xn ?_
                  exact ⟨x11, (w64 (x10 + 1)), hS, hF.cut ⟨rfl, rfl, rfl, rfl, rfl, rfl, rfl, rfl, trivial⟩, H⟩
              · replace H := hbf hc6 H
                refine exi ?_
                refine xe (xe (hit (xn ?_)))
                obtain rfl := hsm H
                exact ⟨x12, hS, hF.cut ⟨rfl, rfl, rfl, rfl, rfl, rfl, rfl, trivial⟩, HK1⟩
          · clear H HK1 hS hF
            rintro a w ⟨x6, hS, hF, H⟩
            unfold laws_FnLocked.c3 at H
            refine sq ?_
            refine sq ?_
            refine rg ?_
            refine stp hF (p_move rfl) (by decide) (fun a hF => ?_)
            refine stp hF (p_eql rfl rfl) (by decide) (fun a hF => ?_)
            refine nilN ?_
            refine xn ?_
            refine cnd hF rfl (fun hc9 => ?_) (fun hc9 => ?_)
            · replace H := hbt hc9 H
              refine sq ?_
              refine rg ?_
              refine stp hF (p_fldb (o' := 1) rfl fi_26_1 rfl) (by decide) (fun a hF => ?_)
              refine stp hF (p_ldb_one (i := 7) hS rfl rfl ia_24 rfl) (by decide) (fun a hF => ?_)
              refine stp hF (p_leno (i := 1) hS rfl un_24 rfl) (by decide) (fun a hF => ?_)
              refine stp hF (p_fldb (o' := 1) rfl fi_26_1 rfl) (by decide) (fun a hF => ?_)
              refine stp hF (p_ldb_one (i := 8) hS rfl rfl ia_24 rfl) (by decide) (fun a hF => ?_)
              refine stp hF (p_leno (i := 4) hS rfl un_24 rfl) (by decide) (fun a hF => ?_)
              refine stp hF (p_add (c := w64 ((x5.1.Waits.length : Int) + 1)) rfl rfl rfl) (by decide) (fun a hF => ?_)
              refine stp hF (p_eql rfl rfl) (by decide) (fun a hF => ?_)
              refine stp hF (p_move rfl) (by decide) (fun a hF => ?_)
              obtain ⟨x7, H, HK4⟩ := hb H
              refine cutj 12 (fun a w => ∃ (x1 : Bool) , St e s11 w [Ow kTGrant 33 v4 x4.1.Given, Ow kTGrant 33 v5 x4.1.Waits, pt g3 26 ([v6, v7]), Ow kTGrant 33 v2 x5.1.Given, Ow kTGrant 33 v3 x5.1.Waits, Ow kTGrant 33 v6 x18.1.Given, Ow kTGrant 33 v7 x18.1.Waits, pt g2 26 ([v4, v5]), pt g1 26 ([v2, v3])] ∧ Fr 139 a [(117, (.bool x1))] ∧ laws_FnLocked.c1 k x1 = some r) rfl rfl ?_ ?_
              · rcases Bool.eq_false_or_eq_true (decide ((x4.1.Waits.length : Int) = (w64 ((x5.1.Waits.length : Int) + 1)))) with hc10 | hc10
                · replace H := hbt hc10 H
                  refine gonE (j := 8) hF rfl rfl hc10 ?_
                  refine stp hF (p_fldb (o' := 1) rfl fi_26_1 rfl) (by decide) (fun a hF => ?_)
                  refine gonE (j := 8) hF rfl rfl hc10 ?_
                  refine stp hF (p_ldb_one (i := 7) hS rfl rfl ia_24 rfl) (by decide) (fun a hF => ?_)
                  refine gonE (j := 8) hF rfl rfl hc10 ?_
                  refine stp hF (p_fldb (o' := 1) rfl fi_26_1 rfl) (by decide) (fun a hF => ?_)
                  refine gonE (j := 8) hF rfl rfl hc10 ?_
                  refine stp hF (p_ldb_one (i := 7) hS rfl rfl ia_24 rfl) (by decide) (fun a hF => ?_)
                  refine gonE (j := 8) hF rfl rfl hc10 ?_
                  refine stp hF (p_leno (i := 1) hS rfl un_24 rfl) (by decide) (fun a hF => ?_)
                  refine gonE (j := 8) hF rfl rfl hc10 ?_
                  refine stp hF (p_sub (c := w64 ((x4.1.Waits.length : Int) - 1)) rfl rfl rfl) (by decide) (fun a hF => ?_)
                  obtain ⟨hq4, H⟩ := hck H
                  obtain ⟨b4, o4, q4, hv9, p7⟩ := p_idxo (n := 1) (i := (w64 ((x4.1.Waits.length : Int) - 1))) hS rfl un_24 ti_33 hq4.1 hq4.2
                  refine gonE (j := 8) hF rfl rfl hc10 ?_
                  refine stp hF (p7 rfl rfl) (by decide) (fun a hF => ?_)
                  refine gonE (j := 8) hF rfl rfl hc10 ?_
                  refine stp hF (p_fldb (o' := (o4 + (w64 ((x4.1.Waits.length : Int) - 1)).toNat * kTGrant.sz)) rfl fi_33_0 rfl) (by decide) (fun a hF => ?_)
                  obtain ⟨u4, h11, p8⟩ := p_ldo_one (P := Try.prog) (n := 1) hS rfl hv9 kTGrant_Tx hq4.1 hq4.2 rfl ia_3 rfl
                  obtain rfl : u4 = .int .i64 ((rd x4.1.Waits (w64 ((x4.1.Waits.length : Int) - 1))).Tx) := by injection h11
                  refine gonE (j := 8) hF rfl rfl hc10 ?_
                  refine stp hF (p8 rfl) (by decide) (fun a hF => ?_)
                  refine gonE (j := 8) hF rfl rfl hc10 ?_
                  refine stp hF (p_move rfl) (by decide) (fun a hF => ?_)
                  refine gonE (j := 8) hF rfl rfl hc10 ?_
                  refine stp hF (p_eql rfl rfl) (by decide) (fun a hF => ?_)
                  refine stp hF (p_pickT rfl hc10 rfl) (by decide) (fun a hF => ?_)
                  refine nilN ?_
                  refine xn ?_
                  obtain rfl := hsm H
                  exact ⟨(decide (((rd x4.1.Waits (w64 ((x4.1.Waits.length : Int) - 1))).Tx) = x5.2.1)), hS, hF.cut ⟨rfl, trivial⟩, HK4⟩
                · replace H := hbf hc10 H
                  refine gofD (j := 8) hF rfl rfl (by rw [hc10]; decide) (by decide) (fun a hF => ?_)
                  refine gofD (j := 8) hF rfl rfl (by rw [hc10]; decide) (by decide) (fun a hF => ?_)
                  refine gofD (j := 8) hF rfl rfl (by rw [hc10]; decide) (by decide) (fun a hF => ?_)
                  refine gofD (j := 8) hF rfl rfl (by rw [hc10]; decide) (by decide) (fun a hF => ?_)
                  refine gofD (j := 8) hF rfl rfl (by rw [hc10]; decide) (by decide) (fun a hF => ?_)
                  refine gofD (j := 8) hF rfl rfl (by rw [hc10]; decide) (by decide) (fun a hF => ?_)
                  refine gofD (j := 8) hF rfl rfl (by rw [hc10]; decide) (by decide) (fun a hF => ?_)
                  refine gofD (j := 8) hF rfl rfl (by rw [hc10]; decide) (by decide) (fun a hF => ?_)
                  refine gofD (j := 8) hF rfl rfl (by rw [hc10]; decide) (by decide) (fun a hF => ?_)
                  refine gofD (j := 8) hF rfl rfl (by rw [hc10]; decide) (by decide) (fun a hF => ?_)
                  refine gofD (j := 8) hF rfl rfl (by rw [hc10]; decide) (by decide) (fun a hF => ?_)
                  refine stp hF (p_pickF rfl hc10 rfl) (by decide) (fun a hF => ?_)
                  refine nilN ?_
                  refine xn ?_
                  obtain rfl := hsm H
                  exact ⟨false, hS, hF.cut ⟨rfl, trivial⟩, HK4⟩
              · clear H HK4 hS hF
                rintro a w ⟨x1, hS, hF, H⟩
                unfold laws_FnLocked.c1 at H
                refine stp hF (p_assign rfl) (by decide) (fun a hF => ?_)
                refine nilN ?_
                refine xn ?_
                refine rt ?_
                refine xr ?_
                obtain rfl := hsm H
                replace hS := hS.sel (is := []) (A' := []) rfl
                exact ret1 hF rfl rfl hS ⟨rfl, rfl⟩
            · replace H := hbf hc9 H
              refine skN ?_
              refine xn ?_
              refine sq ?_
              refine rg ?_
              refine stp hF (p_ldb_agg (i := 7) (l := []) (m := [v4, v5]) (r := []) hS rfl rfl ia_26 ti_26 rfl rfl rfl) (by decide) (fun a hF => ?_)
              refine stp hF (p_move rfl) (by decide) (fun a hF => ?_)
              refine stp hF (p_move rfl) (by decide) (fun a hF => ?_)
              refine stp hF (p_move rfl) (by decide) (fun a hF => ?_)
              obtain ⟨s13, hg9, hl4, hcall4⟩ := St.lend (P := Try.prog) (Bs := [Ow kTGrant 33 v4 x4.1.Given, Ow kTGrant 33 v5 x4.1.Waits]) (A := []) (B := [pt g3 26 ([v6, v7]), Ow kTGrant 33 v2 x5.1.Given, Ow kTGrant 33 v3 x5.1.Waits, Ow kTGrant 33 v6 x18.1.Given, Ow kTGrant 33 v7 x18.1.Waits, pt g2 26 ([v4, v5]), pt g1 26 ([v2, v3])]) hS
              obtain ⟨h12, hl4⟩ := hl4.ow hg9
              obtain ⟨h13, hl4⟩ := hl4.ow hg9
              obtain ⟨x2, hx6, H⟩ := hb H
              refine ste hF (e_call (fst := []) (vs := [(.agg #[v4, v5]), (.int .i64 x5.2.1), (.int .i64 x5.2.2.1), (.int .i64 x5.2.2.2)]) (cap := []) rfl rfl go_8 (hcall4 (impl_Ask.spec k _ _ x4.1 x5.2.1 x5.2.2.1 x5.2.2.2 v4 v5 h12 h13 _ hx6) (by rintro v s1 A1 ⟨_, _, rfl, rfl⟩; exact ⟨Ow_flat kTGrant_flat _ _ _, ⟨Ow_flat kTGrant_flat _ _ _, trivial⟩⟩))) (by decide) (fun v w a hR hF => ?_)
              obtain ⟨s14, s15, A7, hg10, hS, hR⟩ := hR
              obtain ⟨v8, v9, hv10, rfl⟩ := hR; obtain rfl := hv10.symm
              have hS : St e s14 w [Ow kTGrant 33 v4 x4.1.Given, Ow kTGrant 33 v5 x4.1.Waits, Ow kTGrant 33 v8 x2.1.Given, Ow kTGrant 33 v9 x2.1.Waits, pt g3 26 ([v6, v7]), Ow kTGrant 33 v2 x5.1.Given, Ow kTGrant 33 v3 x5.1.Waits, Ow kTGrant 33 v6 x18.1.Given, Ow kTGrant 33 v7 x18.1.Waits, pt g2 26 ([v4, v5]), pt g1 26 ([v2, v3])] := hS
              refine stp hF (p_move rfl) (by decide) (fun a hF => ?_)
              refine stp hF (p_extract rfl rfl) (by decide) (fun a hF => ?_)
              refine stp hF (p_extract rfl rfl) (by decide) (fun a hF => ?_)
              refine ste hF (e_alloc (cs := [(.slice none 0 0), (.slice none 0 0)]) hS ti_26 rfl) (by decide) (fun v w a hR hF => ?_)
              obtain ⟨g4, rfl, hS⟩ := hR
              refine ste0 hF (e_stb (i := 0) (l := []) (m := [(.slice none 0 0), (.slice none 0 0)]) (r := []) (m' := [v8, v9]) (cs' := [v8, v9]) hS rfl rfl rfl ti_26 rfl rfl rfl rfl rfl (one_cons (hS.one_ow (i := 3) rfl) (one_cons (hS.one_ow (i := 4) rfl) one_nil)) rfl) (fun v w a hR hF => ?_)
              have hS : St e s14 w [pt g4 26 ([v8, v9]), Ow kTGrant 33 v4 x4.1.Given, Ow kTGrant 33 v5 x4.1.Waits, Ow kTGrant 33 v8 x2.1.Given, Ow kTGrant 33 v9 x2.1.Waits, pt g3 26 ([v6, v7]), Ow kTGrant 33 v2 x5.1.Given, Ow kTGrant 33 v3 x5.1.Waits, Ow kTGrant 33 v6 x18.1.Given, Ow kTGrant 33 v7 x18.1.Waits, pt g2 26 ([v4, v5]), pt g1 26 ([v2, v3])] := hR
              refine stp hF (p_assign rfl) (by decide) (fun a hF => ?_)
              refine nilN ?_
              refine xn ?_
              refine sq ?_
              refine rg ?_
              refine stp hF (p_move rfl) (by decide) (fun a hF => ?_)
              refine stp hF (p_gtr rfl rfl) (by decide) (fun a hF => ?_)
              refine stp hF (p_move rfl) (by decide) (fun a hF => ?_)
              obtain ⟨x9, H, HK5⟩ := hb H
              refine cutj 6 (fun a w => ∃ (x3 : Bool) (s16 : HF) , St e s16 w [pt g4 26 ([v8, v9]), Ow kTGrant 33 v4 x4.1.Given, Ow kTGrant 33 v5 x4.1.Waits, Ow kTGrant 33 v8 x2.1.Given, Ow kTGrant 33 v9 x2.1.Waits, pt g3 26 ([v6, v7]), Ow kTGrant 33 v2 x5.1.Given, Ow kTGrant 33 v3 x5.1.Waits, Ow kTGrant 33 v6 x18.1.Given, Ow kTGrant 33 v7 x18.1.Waits, pt g2 26 ([v4, v5]), pt g1 26 ([v2, v3])] ∧ Fr 139 a [(14, (.int .i64 x2.2)), (134, (.bool x3))] ∧ Sub s14 s16 ∧ laws_FnLocked.c2 k x2 x3 = some r) rfl rfl ?_ ?_
              · rcases Bool.eq_false_or_eq_true (decide (0 < x6)) with hc11 | hc11
                · replace H := hbt hc11 H
                  refine gonE (j := 2) hF rfl rfl hc11 ?_
                  refine stp hF (p_move rfl) (by decide) (fun a hF => ?_)
                  refine gonE (j := 2) hF rfl rfl hc11 ?_
                  refine stp hF (p_move rfl) (by decide) (fun a hF => ?_)
                  obtain ⟨x8, hx7, H⟩ := hb H
                  refine gonE (j := 2) hF rfl rfl hc11 ?_
                  refine ste hF (e_call (fst := []) (vs := [(.int .i64 x6), (.int .i64 x5.2.2.2)]) (cap := []) rfl rfl go_11 (St.call (A := []) (B := [pt g4 26 ([v8, v9]), Ow kTGrant 33 v4 x4.1.Given, Ow kTGrant 33 v5 x4.1.Waits, Ow kTGrant 33 v8 x2.1.Given, Ow kTGrant 33 v9 x2.1.Waits, pt g3 26 ([v6, v7]), Ow kTGrant 33 v2 x5.1.Given, Ow kTGrant 33 v3 x5.1.Waits, Ow kTGrant 33 v6 x18.1.Given, Ow kTGrant 33 v7 x18.1.Waits, pt g2 26 ([v4, v5]), pt g1 26 ([v2, v3])]) hS (impl_Both.spec k _ _ x6 x5.2.2.2 _ hx7))) (by decide) (fun v w a hR hF => ?_)
                  obtain ⟨s17, A8, hg11, hS, hR⟩ := hR
                  obtain ⟨hv11, rfl⟩ := hR; obtain rfl := hv11.symm
                  have hS : St e s17 w [pt g4 26 ([v8, v9]), Ow kTGrant 33 v4 x4.1.Given, Ow kTGrant 33 v5 x4.1.Waits, Ow kTGrant 33 v8 x2.1.Given, Ow kTGrant 33 v9 x2.1.Waits, pt g3 26 ([v6, v7]), Ow kTGrant 33 v2 x5.1.Given, Ow kTGrant 33 v3 x5.1.Waits, Ow kTGrant 33 v6 x18.1.Given, Ow kTGrant 33 v7 x18.1.Waits, pt g2 26 ([v4, v5]), pt g1 26 ([v2, v3])] := hS
                  refine gonE (j := 2) hF rfl rfl hc11 ?_
                  refine stp hF (p_move rfl) (by decide) (fun a hF => ?_)
                  refine gonE (j := 2) hF rfl rfl hc11 ?_
                  refine stp hF (p_eql rfl rfl) (by decide) (fun a hF => ?_)
                  refine stp hF (p_pickT rfl hc11 rfl) (by decide) (fun a hF => ?_)
                  refine nilN ?_
                  refine xn ?_
                  obtain rfl := hsm H
                  exact ⟨(decide (x8 = x6)), s17, hS, hF.cut ⟨rfl, rfl, trivial⟩, hg11, HK5⟩
                · replace H := hbf hc11 H
                  refine gofD (j := 2) hF rfl rfl (by rw [hc11]; decide) (by decide) (fun a hF => ?_)
                  refine gofD (j := 2) hF rfl rfl (by rw [hc11]; decide) (by decide) (fun a hF => ?_)
                  refine gofD (j := 2) hF rfl rfl (by rw [hc11]; decide) (by decide) (fun a hF => ?_)
                  refine gofD (j := 2) hF rfl rfl (by rw [hc11]; decide) (by decide) (fun a hF => ?_)
                  refine gofD (j := 2) hF rfl rfl (by rw [hc11]; decide) (by decide) (fun a hF => ?_)
                  refine stp hF (p_pickF rfl hc11 rfl) (by decide) (fun a hF => ?_)
                  refine nilN ?_
                  refine xn ?_
                  obtain rfl := hsm H
                  exact ⟨false, s14, hS, hF.cut ⟨rfl, rfl, trivial⟩, (Sub.refl _), HK5⟩
              · clear H HK5 hS hF
                rintro a w ⟨x3, s16, hS, hF, hg12, H⟩
                unfold laws_FnLocked.c2 at H
                refine stp hF (p_move rfl) (by decide) (fun a hF => ?_)
                refine cutj 3 (fun a w => St e s16 w [pt g4 26 ([v8, v9]), Ow kTGrant 33 v4 x4.1.Given, Ow kTGrant 33 v5 x4.1.Waits, Ow kTGrant 33 v8 x2.1.Given, Ow kTGrant 33 v9 x2.1.Waits, pt g3 26 ([v6, v7]), Ow kTGrant 33 v2 x5.1.Given, Ow kTGrant 33 v3 x5.1.Waits, Ow kTGrant 33 v6 x18.1.Given, Ow kTGrant 33 v7 x18.1.Waits, pt g2 26 ([v4, v5]), pt g1 26 ([v2, v3])] ∧ Fr 139 a [(138, (.bool (x3 && (decide (x2.2 = 0)))))]) rfl rfl ?_ ?_
                · rcases Bool.eq_false_or_eq_true (x3) with hc12 | hc12
                  · skip
                    refine gonE (j := 9) hF rfl rfl hc12 ?_
                    refine stp hF (p_move rfl) (by decide) (fun a hF => ?_)
                    refine gonE (j := 9) hF rfl rfl hc12 ?_
                    refine stp hF (p_eql rfl rfl) (by decide) (fun a hF => ?_)
                    refine stp hF (p_andT rfl hc12 rfl) (by decide) (fun a hF => ?_)
                    refine nilN ?_
                    refine xn ?_
                    exact ⟨hS, hF.cut ⟨rfl, trivial⟩⟩
                  · skip
                    refine gofD (j := 9) hF rfl rfl (by rw [hc12]; decide) (by decide) (fun a hF => ?_)
                    refine gofD (j := 9) hF rfl rfl (by rw [hc12]; decide) (by decide) (fun a hF => ?_)
                    refine stp hF (p_andF (decide (x2.2 = 0)) rfl hc12 rfl) (by decide) (fun a hF => ?_)
                    refine nilN ?_
                    refine xn ?_
                    exact ⟨hS, hF.cut ⟨rfl, trivial⟩⟩
                clear hS hF
                rintro a w ⟨hS, hF⟩
                refine stp hF (p_assign rfl) (by decide) (fun a hF => ?_)
                refine nilN ?_
                refine xn ?_
                refine rt ?_
                obtain rfl := hsm H
                replace hS := hS.sel (is := []) (A' := []) rfl
                exact ret1 hF rfl rfl hS ⟨rfl, rfl⟩

def spec_DropAll.f (k : Nat) (x1 : TLocks) (x2 : Int) : Option (TLocks × (List Int)) :=
  ((spec_l9Copy.f k x1).bind fun x3 => ((spec_LocksOk.f k x1).bind fun x4 => (if (!x4) = true then (some (x3, ([] : List Int))) else ((spec_l9Drop.f k x3.Given x3.Waits x2).bind fun x5 => (some ((⟨x5.2.1, x5.2.2⟩ : TLocks), x5.1))))))
set_option maxRecDepth 100000 in
set_option maxHeartbeats 4000000 in
theorem spec_DropAll.spec (k : Nat) (s0 : HF) (w : World) (x1 : TLocks) (x2 : Int) (v1 : Value) (v2 : Value) (h1 : Sl kTGrant s0 v1 x1.Given) (h2 : Sl kTGrant s0 v2 x1.Waits) (r : TLocks × (List Int)) (H : spec_DropAll.f k x1 x2 = some r) :
    Law Try.prog 13 #[(.agg #[v1, v2]), (.int .i64 x2)] s0 w [] (fun v s1 A1 => ∃ (u0 : Value) (u1 : Value) (u2 : Value), v = (.tuple #[(.agg #[u0, u1]), u2]) ∧ A1 = [Ow kTGrant 33 u0 r.1.Given, Ow kTGrant 33 u1 r.1.Waits, Ow (Kd.int .i64) 3 u2 r.2]) := by
  unfold spec_DropAll.f at H
  refine Law.intro Try.func13 rfl [(0, (.agg #[v1, v2])), (1, (.int .i64 x2))] (Nat.le_of_ble_eq_true rfl) (enter_lk ⟨rfl, rfl, trivial⟩) (fun e a hS hF => ?_)
  have hF : Fr 19 a [(0, (.agg #[v1, v2])), (1, (.int .i64 x2))] := hF
  refine sq ?_
  refine rg ?_
  refine ste hF (e_box (cs := [v1, v2]) hS rfl rfl) (by decide) (fun v w a hR hF => ?_)
  obtain ⟨g1, rfl, hS⟩ := hR
  refine ste hF (e_alloc (cs := [(.slice none 0 0), (.slice none 0 0)]) hS ti_26 rfl) (by decide) (fun v w a hR hF => ?_)
  obtain ⟨g2, rfl, hS⟩ := hR
  refine stp hF (p_assign rfl) (by decide) (fun a hF => ?_)
  refine nilN ?_
  refine xn ?_
  refine sq ?_
  refine rg ?_
  refine stp hF (p_ldb_agg (i := 1) (l := []) (m := [v1, v2]) (r := []) hS rfl rfl ia_26 ti_26 rfl rfl rfl) (by decide) (fun a hF => ?_)
  obtain ⟨x3, hx1, H⟩ := hb H
  refine ste hF (e_call (fst := []) (vs := [(.agg #[v1, v2])]) (cap := []) rfl rfl go_40 (St.call (A := []) (B := [pt g2 26 ([(.slice none 0 0), (.slice none 0 0)]), pt g1 26 ([v1, v2])]) hS (spec_l9Copy.spec k _ _ x1 v1 v2 h1 h2 _ hx1))) (by decide) (fun v w a hR hF => ?_)
  obtain ⟨s2, A2, hg1, hS, hR⟩ := hR
  obtain ⟨v3, v4, hv1, rfl⟩ := hR; obtain rfl := hv1.symm
  have hS : St e s2 w [Ow kTGrant 33 v3 x3.Given, Ow kTGrant 33 v4 x3.Waits, pt g2 26 ([(.slice none 0 0), (.slice none 0 0)]), pt g1 26 ([v1, v2])] := hS
  refine ste hF (e_alloc (cs := [(.slice none 0 0), (.slice none 0 0)]) hS ti_26 rfl) (by decide) (fun v w a hR hF => ?_)
  obtain ⟨g3, rfl, hS⟩ := hR
  refine ste0 hF (e_stb (i := 0) (l := []) (m := [(.slice none 0 0), (.slice none 0 0)]) (r := []) (m' := [v3, v4]) (cs' := [v3, v4]) hS rfl rfl rfl ti_26 rfl rfl rfl rfl rfl (one_cons (hS.one_ow (i := 1) rfl) (one_cons (hS.one_ow (i := 2) rfl) one_nil)) rfl) (fun v w a hR hF => ?_)
  have hS : St e s2 w [pt g3 26 ([v3, v4]), Ow kTGrant 33 v3 x3.Given, Ow kTGrant 33 v4 x3.Waits, pt g2 26 ([(.slice none 0 0), (.slice none 0 0)]), pt g1 26 ([v1, v2])] := hR
  refine nilN ?_
  refine xn ?_
  refine sq ?_
  refine sq ?_
  refine rg ?_
  refine stp hF (p_ldb_agg (i := 4) (l := []) (m := [v1, v2]) (r := []) hS rfl rfl ia_26 ti_26 rfl rfl rfl) (by decide) (fun a hF => ?_)
  obtain ⟨x4, hx2, H⟩ := hb H
  refine ste hF (e_call (fst := []) (vs := [(.agg #[v1, v2])]) (cap := []) rfl rfl go_41 (St.call (A := []) (B := [pt g3 26 ([v3, v4]), Ow kTGrant 33 v3 x3.Given, Ow kTGrant 33 v4 x3.Waits, pt g2 26 ([(.slice none 0 0), (.slice none 0 0)]), pt g1 26 ([v1, v2])]) hS (spec_LocksOk.spec k _ _ x1 v1 v2 (h1.mono hg1) (h2.mono hg1) _ hx2))) (by decide) (fun v w a hR hF => ?_)
  obtain ⟨s3, A3, hg2, hS, hR⟩ := hR
  obtain ⟨hv2, rfl⟩ := hR; obtain rfl := hv2.symm
  have hS : St e s3 w [pt g3 26 ([v3, v4]), Ow kTGrant 33 v3 x3.Given, Ow kTGrant 33 v4 x3.Waits, pt g2 26 ([(.slice none 0 0), (.slice none 0 0)]), pt g1 26 ([v1, v2])] := hS
  refine stp hF (p_not rfl) (by decide) (fun a hF => ?_)
  refine nilN ?_
  refine xn ?_
  refine cnd hF rfl (fun hc1 => ?_) (fun hc1 => ?_)
  · replace H := hbt hc1 H
    refine sq ?_
    refine rg ?_
    refine stp hF (p_ldb_agg (i := 0) (l := []) (m := [v3, v4]) (r := []) hS rfl rfl ia_26 ti_26 rfl rfl rfl) (by decide) (fun a hF => ?_)
    refine ste hF (e_bslice (kd := (Kd.int .i64)) (et := 3) (ps := []) (vs := []) (cs := []) (xs := ([] : List Int)) hS rfl (by intro w; kernel_rfl) rfl (by decide) (Nat.le_of_ble_eq_true rfl) (by exact (Rows.nil _ _ _ _))) (by decide) (fun v5 w a hR hF => ?_)
    have hS : St e s3 w [Ow (Kd.int .i64) 3 v5 ([] : List Int), pt g3 26 ([v3, v4]), Ow kTGrant 33 v3 x3.Given, Ow kTGrant 33 v4 x3.Waits, pt g2 26 ([(.slice none 0 0), (.slice none 0 0)]), pt g1 26 ([v1, v2])] := hR
    refine ste0 hF (e_stb (i := 4) (l := []) (m := [(.slice none 0 0), (.slice none 0 0)]) (r := []) (m' := [v3, v4]) (cs' := [v3, v4]) hS rfl rfl rfl ti_26 rfl rfl rfl rfl rfl (one_cons (hS.one_ow (i := 2) rfl) (one_cons (hS.one_ow (i := 3) rfl) one_nil)) rfl) (fun v w a hR hF => ?_)
    have hS : St e s3 w [pt g2 26 ([v3, v4]), Ow (Kd.int .i64) 3 v5 ([] : List Int), pt g3 26 ([v3, v4]), Ow kTGrant 33 v3 x3.Given, Ow kTGrant 33 v4 x3.Waits, pt g1 26 ([v1, v2])] := hR
    refine stp hF (p_assign rfl) (by decide) (fun a hF => ?_)
    refine nilN ?_
    refine xn ?_
    refine rt ?_
    refine xr ?_
    obtain rfl := hsm H
    have h3 : RvOk Try.prog _ w (.cell 4 26) _ := rvC (i := 0) hS rfl (show lk [(4, (.pointer (some ⟨g2, 0, none⟩))), (5, v5)] 4 = _ from rfl) ia_26 ti_26 rfl
    replace hS := hS.sel (is := [3, 3, 1]) (A' := [Ow kTGrant 33 v3 x3.Given, Ow kTGrant 33 v4 x3.Waits, Ow (Kd.int .i64) 3 v5 ([] : List Int)]) rfl
    exact retc2 hF rfl h3 (rvT rfl) hS ⟨v3, v4, v5, rfl, rfl⟩
  · replace H := hbf hc1 H
    refine skN ?_
    refine xn ?_
    refine sq ?_
    refine rg ?_
    refine stp hF (p_move rfl) (by decide) (fun a hF => ?_)
    obtain ⟨x5, hx3, H⟩ := hb H
    refine ste hF (e_call (fst := []) (vs := [(.pointer (some ⟨g3, 0, none⟩)), (.int .i64 x2)]) (cap := []) rfl rfl go_49 (St.call (A := [pt g3 26 ([v3, v4]), Ow kTGrant 33 v3 x3.Given, Ow kTGrant 33 v4 x3.Waits]) (B := [pt g2 26 ([(.slice none 0 0), (.slice none 0 0)]), pt g1 26 ([v1, v2])]) hS (spec_l9Drop.spec k _ _ x3.Given x3.Waits x2 v3 v4 g3 _ hx3))) (by decide) (fun v w a hR hF => ?_)
    obtain ⟨s4, A4, hg3, hS, hR⟩ := hR
    obtain ⟨v6, v7, v8, hv3, rfl⟩ := hR; obtain rfl := hv3.symm
    have hS : St e s4 w [pt g3 26 ([v6, v7]), Ow kTGrant 33 v6 x5.2.1, Ow kTGrant 33 v7 x5.2.2, Ow (Kd.int .i64) 3 v8 x5.1, pt g2 26 ([(.slice none 0 0), (.slice none 0 0)]), pt g1 26 ([v1, v2])] := hS
    refine stp hF (p_assign rfl) (by decide) (fun a hF => ?_)
    refine nilN ?_
    refine xn ?_
    refine sq ?_
    refine rg ?_
    refine stp hF (p_ldb_agg (i := 0) (l := []) (m := [v6, v7]) (r := []) hS rfl rfl ia_26 ti_26 rfl rfl rfl) (by decide) (fun a hF => ?_)
    refine stp hF (p_move rfl) (by decide) (fun a hF => ?_)
    refine ste0 hF (e_stb (i := 4) (l := []) (m := [(.slice none 0 0), (.slice none 0 0)]) (r := []) (m' := [v6, v7]) (cs' := [v6, v7]) hS rfl rfl rfl ti_26 rfl rfl rfl rfl rfl (one_cons (hS.one_ow (i := 1) rfl) (one_cons (hS.one_ow (i := 2) rfl) one_nil)) rfl) (fun v w a hR hF => ?_)
    have hS : St e s4 w [pt g2 26 ([v6, v7]), pt g3 26 ([v6, v7]), Ow kTGrant 33 v6 x5.2.1, Ow kTGrant 33 v7 x5.2.2, Ow (Kd.int .i64) 3 v8 x5.1, pt g1 26 ([v1, v2])] := hR
    refine stp hF (p_assign rfl) (by decide) (fun a hF => ?_)
    refine nilN ?_
    refine xn ?_
    refine rt ?_
    obtain rfl := hsm H
    have h4 : RvOk Try.prog _ w (.cell 4 26) _ := rvC (i := 0) hS rfl (show lk [(4, (.pointer (some ⟨g2, 0, none⟩))), (5, v8)] 4 = _ from rfl) ia_26 ti_26 rfl
    replace hS := hS.sel (is := [2, 2, 2]) (A' := [Ow kTGrant 33 v6 x5.2.1, Ow kTGrant 33 v7 x5.2.2, Ow (Kd.int .i64) 3 v8 x5.1]) rfl
    exact retc2 hF rfl h4 (rvT rfl) hS ⟨v6, v7, v8, rfl, rfl⟩

def impl_DropAll_1.f (k : Nat) (x1 : TGrant) (x2 : Int) : Option Bool :=
  (some (decide (x1.Tx = x2)))
set_option maxRecDepth 100000 in
set_option maxHeartbeats 4000000 in
theorem impl_DropAll_1.spec (k : Nat) (s0 : HF) (w : World) (x1 : TGrant) (x2 : Int) (ad1 : Addr) (h1 : Pr (Kd.int .i64) s0 ad1 x2) (r : Bool) (H : impl_DropAll_1.f k x1 x2 = some r) :
    Law Try.prog 51 #[(.agg #[(.int .i64 x1.Tx), (.int .i64 x1.Res), (.int .i64 x1.Mode)]), (.pointer (some ad1))] s0 w [] (fun v s1 A1 => v = (.bool r) ∧ A1 = []) := by
  unfold impl_DropAll_1.f at H
  refine Law.intro Try.func51 rfl [(0, (.agg #[(.int .i64 x1.Tx), (.int .i64 x1.Res), (.int .i64 x1.Mode)])), (1, (.pointer (some ad1)))] (Nat.le_of_ble_eq_true rfl) (enter_lk ⟨rfl, rfl, trivial⟩) (fun e a hS hF => ?_)
  have hF : Fr 8 a [(0, (.agg #[(.int .i64 x1.Tx), (.int .i64 x1.Res), (.int .i64 x1.Mode)])), (1, (.pointer (some ad1)))] := hF
  refine sq ?_
  refine rg ?_
  refine ste hF (e_box (cs := [(.int .i64 x1.Tx), (.int .i64 x1.Res), (.int .i64 x1.Mode)]) hS rfl rfl) (by decide) (fun v w a hR hF => ?_)
  obtain ⟨g1, rfl, hS⟩ := hR
  refine stp hF (p_assign rfl) (by decide) (fun a hF => ?_)
  refine nilN ?_
  refine xn ?_
  refine sq ?_
  refine rg ?_
  refine stp hF (p_fldb (o' := 0) rfl fi_33_0 rfl) (by decide) (fun a hF => ?_)
  refine stp hF (p_ldb_one (i := 0) hS rfl rfl ia_3 rfl) (by decide) (fun a hF => ?_)
  refine stp hF (p_ldr_int rfl hS h1 ia_3) (by decide) (fun a hF => ?_)
  refine stp hF (p_eql rfl rfl) (by decide) (fun a hF => ?_)
  refine stp hF (p_assign rfl) (by decide) (fun a hF => ?_)
  refine nilN ?_
  refine xn ?_
  refine rt ?_
  obtain rfl := hsm H
  replace hS := hS.sel (is := []) (A' := []) rfl
  exact ret1 hF rfl rfl hS ⟨rfl, rfl⟩

def impl_Grant_63_151.c1 (k : Nat) : Option Int :=
  (some (-1))
def impl_Grant_63_151.l1 (x1 : (List TGrant)) (x2 : Int) : Nat → Int → Option (Ex Int Unit)
  | 0, _ => none
  | k + 1, x3 => (if (decide (x3 < (x1.length : Int))) = true then (if 0 ≤ x3 ∧ x3 < (x1.length : Int) then ((impl_DropAll_1.f k (rd x1 x3) x2).bind fun x4 => (if x4 = true then (some (Ex.ret x3)) else ((impl_Grant_63_151.l1 x1 x2 k) (w64 (x3 + 1))))) else none) else (some (Ex.go ())))
def impl_Grant_63_151.f (k : Nat) (x1 : (List TGrant)) (x2 : Int) : Option Int :=
  (((impl_Grant_63_151.l1 x1 x2 k 0) : Option (Ex Int Unit)).bind fun x5 => Ex.on x5 (fun r => some r) (fun y => impl_Grant_63_151.c1 k))
set_option maxRecDepth 100000 in
set_option maxHeartbeats 4000000 in
theorem impl_Grant_63_151.spec (k : Nat) (s0 : HF) (w : World) (x1 : (List TGrant)) (x2 : Int) (v1 : Value) (ad1 : Addr) (h1 : Sl kTGrant s0 v1 x1) (h2 : Pr (Kd.int .i64) s0 ad1 x2) (r : Int) (H : impl_Grant_63_151.f k x1 x2 = some r) :
    Law Try.prog 63 #[v1, (.func (.func 51) #[] #[(.pointer (some ad1))])] s0 w [] (fun v s1 A1 => v = (.int .i64 r) ∧ A1 = []) := by
  unfold impl_Grant_63_151.f at H
  refine Law.intro Try.func63 rfl [(0, v1), (1, (.func (.func 51) #[] #[(.pointer (some ad1))]))] (Nat.le_of_ble_eq_true rfl) (enter_lk ⟨rfl, rfl, trivial⟩) (fun e a hS hF => ?_)
  have hF : Fr 19 a [(0, v1), (1, (.func (.func 51) #[] #[(.pointer (some ad1))]))] := hF
  refine sq ?_
  refine rg ?_
  refine stp hF (p_assign rfl) (by decide) (fun a hF => ?_)
  refine nilN ?_
  refine xn ?_
  obtain ⟨x5, H, HK1⟩ := hb H
  refine sqj (fun a w => ∃ (s2 : HF) , St e s2 w [] ∧ Fr 19 a [] ∧ Sub s0 s2 ∧ impl_Grant_63_151.c1 k = some r) ?_ ?_
  · skip
    refine sq ?_
    refine rg ?_
    refine stp hF (p_move rfl) (by decide) (fun a hF => ?_)
    refine stp hF (p_lenr un_24 rfl h1) (by decide) (fun a hF => ?_)
    refine stp hF (p_move rfl) (by decide) (fun a hF => ?_)
    refine nilN ?_
    refine xn ?_
    refine blk ?_
    refine loop_ind (fun k1 a w => ∃ (x3 : Int) (s3 : HF) , St e s3 w [] ∧ Fr 19 a [(0, v1), (1, (.func (.func 51) #[] #[(.pointer (some ad1))])), (7, (.int .i64 (x1.length : Int))), (8, (.int .i64 x3))] ∧ Sub s0 s3 ∧ impl_Grant_63_151.l1 x1 x2 k1 x3 = some x5) k ?_ ?_ ?_
    · skip
      exact ⟨0, s0, hS, hF.cut ⟨rfl, rfl, rfl, rfl, trivial⟩, (Sub.refl _), H⟩
    · clear H hS hF
      rintro a w ⟨x3, s3, hS, hF, hg1, H⟩
      exact absurd (show none = some _ from H) (by simp)
    · clear H hS hF
      rintro k1 a w ⟨x3, s3, hS, hF, hg1, H⟩
      rw [impl_Grant_63_151.l1.eq_2] at H
      refine sq ?_
      refine rg ?_
      refine stp hF (p_lss rfl rfl) (by decide) (fun a hF => ?_)
      refine nilN ?_
      refine xn ?_
      refine sq ?_
      refine cnd hF rfl (fun hc1 => ?_) (fun hc1 => ?_)
      · replace H := hbt hc1 H
        refine skN ?_
        refine xn ?_
        refine sq ?_
        refine blk ?_
        refine sq ?_
        refine rg ?_
        refine stp hF (p_move rfl) (by decide) (fun a hF => ?_)
        refine stp hF (p_assign rfl) (by decide) (fun a hF => ?_)
        refine nilN ?_
        refine xn ?_
        refine sq ?_
        refine rg ?_
        refine stp hF (p_move rfl) (by decide) (fun a hF => ?_)
        refine stp hF (p_move rfl) (by decide) (fun a hF => ?_)
        refine stp hF (p_move rfl) (by decide) (fun a hF => ?_)
        obtain ⟨hq1, H⟩ := hck H
        obtain ⟨ad2, h3, p1⟩ := p_idxr (P := Try.prog) (i := x3) (h1.mono hg1) un_24 ti_33 hq1.1 hq1.2
        refine stp hF (p1 rfl rfl) (by decide) (fun a hF => ?_)
        obtain ⟨c2, h4, p2⟩ := p_ldr_agg (P := Try.prog) h3 ia_33 ti_33
        obtain rfl := kTGrant_open h4
        refine stp hF (p2 rfl hS.ro) (by decide) (fun a hF => ?_)
        obtain ⟨x4, hx1, H⟩ := hb H
        refine ste hF (e_call (fst := []) (vs := [(.agg #[(.int .i64 ((rd x1 x3).Tx)), (.int .i64 ((rd x1 x3).Res)), (.int .i64 ((rd x1 x3).Mode))])]) (cap := [(.pointer (some ad1))]) rfl rfl go_51 (St.call (A := []) (B := []) hS (impl_DropAll_1.spec k1 _ _ (rd x1 x3) x2 ad1 (h2.mono hg1) _ hx1))) (by decide) (fun v w a hR hF => ?_)
        obtain ⟨s4, A2, hg2, hS, hR⟩ := hR
        obtain ⟨hv1, rfl⟩ := hR; obtain rfl := hv1.symm
        have hS : St e s4 w [] := hS
        refine nilN ?_
        refine xn ?_
        refine cnd hF rfl (fun hc2 => ?_) (fun hc2 => ?_)
        · replace H := hbt hc2 H
          refine sq ?_
          refine rg ?_
          refine stp hF (p_move rfl) (by decide) (fun a hF => ?_)
          refine stp hF (p_assign rfl) (by decide) (fun a hF => ?_)
          refine nilN ?_
          refine xn ?_
          refine rt ?_
          refine br (xr (xr (br (xr ?_))))
          obtain rfl := hsm H
          have H := hon1 HK1
          obtain rfl := hsm H
          exact ret1 hF rfl rfl hS ⟨rfl, rfl⟩
        · replace H := hbf hc2 H
          refine skN ?_
          refine bn (xn ?_)
          refine rg ?_
          refine stp hF (p_add (c := w64 (x3 + 1)) rfl rfl rfl) (by decide) (fun a hF => ?_)
          refine stp hF (p_move rfl) (by decide) (fun a hF => ?_)
          refine nilN ?_
          refine xn ?_
          exact ⟨(w64 (x3 + 1)), s4, hS, hF.cut ⟨rfl, rfl, rfl, rfl, trivial⟩, (hg1.trans hg2), H⟩
      · replace H := hbf hc1 H
        refine exi ?_
        refine xe (xe (hit (xn ?_)))
        obtain rfl := hsm H
        exact ⟨s3, hS, hF.cut trivial, hg1, HK1⟩
  · clear H HK1 hS hF
    rintro a w ⟨s2, hS, hF, hg3, H⟩
    unfold impl_Grant_63_151.c1 at H
    refine sq ?_
    refine rg ?_
    refine stp hF (p_assign rfl) (by decide) (fun a hF => ?_)
    refine nilN ?_
    refine xn ?_
    refine rt ?_
    obtain rfl := hsm H
    exact ret1 hF rfl rfl hS ⟨rfl, rfl⟩

def impl_Grant_52_151.c1 (k : Nat) (x1 : (List TGrant)) (x2 : Int) : Option (List TGrant) :=
  (if 0 ≤ x2 ∧ x2 ≤ (x1.length : Int) then (if 0 ≤ (0 : Int) ∧ (0 : Int) ≤ x2 ∧ x2 ≤ ((x1.take x2.toNat ++ List.replicate (x1.length - x2.toNat) (⟨0, 0, 0⟩ : TGrant)).length : Int) then (some (cut (x1.take x2.toNat ++ List.replicate (x1.length - x2.toNat) (⟨0, 0, 0⟩ : TGrant)) (0 : Int) x2)) else none) else none)
def impl_Grant_52_151.c2 (k : Nat) (rec_l1 : (List TGrant) → Int → Int → Option ((List TGrant) × Int)) (x3 : Int) (x4 : (List TGrant)) (x5 : Int) : Option ((List TGrant) × Int) :=
  (rec_l1 x4 x5 (w64 (x3 + 1)))
def impl_Grant_52_151.l1 (x6 : Int) : Nat → (List TGrant) → Int → Int → Option ((List TGrant) × Int)
  | 0, _, _, _ => none
  | k + 1, x7, x8, x3 => (if (decide (x3 < (x7.length : Int))) = true then (((if 0 ≤ x3 ∧ x3 < (x7.length : Int) then ((impl_DropAll_1.f k (rd x7 x3) x6).bind fun x9 => (if (!x9) = true then (if 0 ≤ x8 ∧ x8 < (x7.length : Int) then (some ((wr x7 x8 (rd x7 x3)), w64 (x8 + 1))) else none) else (some (x7, x8)))) else none) : Option ((List TGrant) × Int)).bind fun x10 => impl_Grant_52_151.c2 k (impl_Grant_52_151.l1 x6 k) x3 x10.1 x10.2) else (some (x7, x8)))
def impl_Grant_52_151.f (k : Nat) (x11 : (List TGrant)) (x6 : Int) : Option (List TGrant) :=
  ((impl_Grant_63_151.f k x11 x6).bind fun x12 => (if (decide (x12 = (-1))) = true then (some x11) else (((impl_Grant_52_151.l1 x6 k x11 x12 (w64 (x12 + 1))) : Option ((List TGrant) × Int)).bind fun x13 => impl_Grant_52_151.c1 k x13.1 x13.2)))
set_option maxRecDepth 100000 in
set_option maxHeartbeats 4000000 in
theorem impl_Grant_52_151.spec (k : Nat) (s0 : HF) (w : World) (x11 : (List TGrant)) (x6 : Int) (v1 : Value) (ad1 : Addr) (h1 : Pr (Kd.int .i64) s0 ad1 x6) (r : (List TGrant)) (H : impl_Grant_52_151.f k x11 x6 = some r) :
    Law Try.prog 52 #[v1, (.func (.func 51) #[] #[(.pointer (some ad1))])] s0 w [Ow kTGrant 33 v1 x11] (fun v s1 A1 => ∃ (u0 : Value), v = u0 ∧ A1 = [Ow kTGrant 33 u0 r]) := by
  unfold impl_Grant_52_151.f at H
  refine Law.intro Try.func52 rfl [(0, v1), (1, (.func (.func 51) #[] #[(.pointer (some ad1))]))] (Nat.le_of_ble_eq_true rfl) (enter_lk ⟨rfl, rfl, trivial⟩) (fun e a hS hF => ?_)
  have hF : Fr 42 a [(0, v1), (1, (.func (.func 51) #[] #[(.pointer (some ad1))]))] := hF
  refine sq ?_
  refine rg ?_
  refine stp hF (p_assign rfl) (by decide) (fun a hF => ?_)
  refine nilN ?_
  refine xn ?_
  refine sq ?_
  refine rg ?_
  refine stp hF (p_move rfl) (by decide) (fun a hF => ?_)
  refine stp hF (p_move rfl) (by decide) (fun a hF => ?_)
  obtain ⟨s2, hg1, hl1, hcall1⟩ := St.lend (P := Try.prog) (Bs := [Ow kTGrant 33 v1 x11]) (A := []) (B := []) hS
  obtain ⟨h2, hl1⟩ := hl1.ow hg1
  obtain ⟨x12, hx1, H⟩ := hb H
  refine ste hF (e_call (fst := []) (vs := [v1, (.func (.func 51) #[] #[(.pointer (some ad1))])]) (cap := []) rfl rfl go_63 (hcall1 (impl_Grant_63_151.spec k _ _ x11 x6 v1 ad1 h2 (h1.mono hg1) _ hx1) (by rintro v s1 A1 ⟨rfl, rfl⟩; exact trivial))) (by decide) (fun v w a hR hF => ?_)
  obtain ⟨s3, s4, A2, hg2, hS, hR⟩ := hR
  obtain ⟨hv1, rfl⟩ := hR; obtain rfl := hv1.symm
  have hS : St e s3 w [Ow kTGrant 33 v1 x11] := hS
  refine stp hF (p_assign rfl) (by decide) (fun a hF => ?_)
  refine nilN ?_
  refine xn ?_
  refine sq ?_
  refine sq ?_
  refine rg ?_
  refine stp hF (p_move rfl) (by decide) (fun a hF => ?_)
  refine stp hF (p_eql rfl rfl) (by decide) (fun a hF => ?_)
  refine nilN ?_
  refine xn ?_
  refine cnd hF rfl (fun hc1 => ?_) (fun hc1 => ?_)
  · replace H := hbt hc1 H
    refine sq ?_
    refine rg ?_
    refine stp hF (p_move rfl) (by decide) (fun a hF => ?_)
    refine stp hF (p_assign rfl) (by decide) (fun a hF => ?_)
    refine nilN ?_
    refine xn ?_
    refine rt ?_
    refine xr ?_
    obtain rfl := hsm H
    exact ret1 hF rfl rfl hS ⟨v1, rfl, rfl⟩
  · replace H := hbf hc1 H
    refine skN ?_
    refine xn ?_
    obtain ⟨x13, H, HK1⟩ := hb H
    refine sqj (fun a w => ∃ (x1 : (List TGrant)) (x2 : Int) (s5 : HF) , St e s5 w [Ow kTGrant 33 v1 x1] ∧ Fr 42 a [(0, v1), (5, (.int .i64 x2))] ∧ Sub s3 s5 ∧ impl_Grant_52_151.c1 k x1 x2 = some r) ?_ ?_
    · skip
      refine sq ?_
      refine rg ?_
      refine stp hF (p_move rfl) (by decide) (fun a hF => ?_)
      refine stp hF (p_add (c := w64 (x12 + 1)) rfl rfl rfl) (by decide) (fun a hF => ?_)
      refine stp hF (p_assign rfl) (by decide) (fun a hF => ?_)
      refine nilN ?_
      refine xn ?_
      refine blk ?_
      refine loop_ind (fun k1 a w => ∃ (x7 : (List TGrant)) (x8 : Int) (x3 : Int) (s6 : HF) , St e s6 w [Ow kTGrant 33 v1 x7] ∧ Fr 42 a [(0, v1), (1, (.func (.func 51) #[] #[(.pointer (some ad1))])), (5, (.int .i64 x8)), (6, (.int .i64 x3))] ∧ Sub s3 s6 ∧ impl_Grant_52_151.l1 x6 k1 x7 x8 x3 = some x13) k ?_ ?_ ?_
      · skip
        exact ⟨x11, x12, (w64 (x12 + 1)), s3, hS, hF.cut ⟨rfl, rfl, rfl, rfl, trivial⟩, (Sub.refl _), H⟩
      · clear H hS hF
        rintro a w ⟨x7, x8, x3, s6, hS, hF, hg3, H⟩
        exact absurd (show none = some _ from H) (by simp)
      · clear H hS hF
        rintro k1 a w ⟨x7, x8, x3, s6, hS, hF, hg3, H⟩
        rw [impl_Grant_52_151.l1.eq_2] at H
        refine sq ?_
        refine sq ?_
        refine rg ?_
        refine stp hF (p_move rfl) (by decide) (fun a hF => ?_)
        refine stp hF (p_move rfl) (by decide) (fun a hF => ?_)
        refine stp hF (p_leno (i := 0) hS rfl un_24 rfl) (by decide) (fun a hF => ?_)
        refine stp hF (p_lss rfl rfl) (by decide) (fun a hF => ?_)
        refine nilN ?_
        refine xn ?_
        refine cnd hF rfl (fun hc2 => ?_) (fun hc2 => ?_)
        · replace H := hbt hc2 H
          refine skN ?_
          refine xn ?_
          obtain ⟨x10, H, HK2⟩ := hb H
          refine sqj (fun a w => ∃ (x4 : (List TGrant)) (x5 : Int) (s7 : HF) , St e s7 w [Ow kTGrant 33 v1 x4] ∧ Fr 42 a [(0, v1), (1, (.func (.func 51) #[] #[(.pointer (some ad1))])), (5, (.int .i64 x5)), (6, (.int .i64 x3))] ∧ Sub s6 s7 ∧ impl_Grant_52_151.c2 k1 (impl_Grant_52_151.l1 x6 k1) x3 x4 x5 = some x13) ?_ ?_
          · skip
            refine blk ?_
            refine sq ?_
            refine rg ?_
            refine stp hF (p_move rfl) (by decide) (fun a hF => ?_)
            refine stp hF (p_move rfl) (by decide) (fun a hF => ?_)
            obtain ⟨hq1, H⟩ := hck H
            obtain ⟨b1, o1, q1, hv2, p1⟩ := p_idxo (n := 0) (i := x3) hS rfl un_24 ti_33 hq1.1 hq1.2
            refine stp hF (p1 rfl rfl) (by decide) (fun a hF => ?_)
            obtain ⟨c3, h3, p2⟩ := p_ldo_agg (P := Try.prog) (n := 0) hS rfl hv2 (Lens.id _) hq1.1 hq1.2 rfl ia_33 ti_33
            obtain rfl := kTGrant_open h3
            refine stp hF (p2 rfl) (by decide) (fun a hF => ?_)
            refine ste hF (e_alloc (cs := [(.int .i64 0), (.int .i64 0), (.int .i64 0)]) hS ti_33 rfl) (by decide) (fun v w a hR hF => ?_)
            obtain ⟨g1, rfl, hS⟩ := hR
            refine ste0 hF (e_stb (i := 0) (l := []) (m := [(.int .i64 0), (.int .i64 0), (.int .i64 0)]) (r := []) (m' := [(.int .i64 ((rd x7 x3).Tx)), (.int .i64 ((rd x7 x3).Res)), (.int .i64 ((rd x7 x3).Mode))]) (cs' := [(.int .i64 ((rd x7 x3).Tx)), (.int .i64 ((rd x7 x3).Res)), (.int .i64 ((rd x7 x3).Mode))]) hS rfl rfl rfl ti_33 rfl rfl rfl rfl rfl (one_cons rfl (one_cons rfl (one_cons rfl one_nil))) rfl) (fun v w a hR hF => ?_)
            have hS : St e s6 w [pt g1 33 ([(.int .i64 ((rd x7 x3).Tx)), (.int .i64 ((rd x7 x3).Res)), (.int .i64 ((rd x7 x3).Mode))]), Ow kTGrant 33 v1 x7] := hR
            refine nilN ?_
            refine xn ?_
            refine sq ?_
            refine rg ?_
            refine stp hF (p_move rfl) (by decide) (fun a hF => ?_)
            refine stp hF (p_ldb_agg (i := 0) (l := []) (m := [(.int .i64 ((rd x7 x3).Tx)), (.int .i64 ((rd x7 x3).Res)), (.int .i64 ((rd x7 x3).Mode))]) (r := []) hS rfl rfl ia_33 ti_33 rfl rfl rfl) (by decide) (fun a hF => ?_)
            obtain ⟨x9, hx2, H⟩ := hb H
            refine ste hF (e_call (fst := []) (vs := [(.agg #[(.int .i64 ((rd x7 x3).Tx)), (.int .i64 ((rd x7 x3).Res)), (.int .i64 ((rd x7 x3).Mode))])]) (cap := [(.pointer (some ad1))]) rfl rfl go_51 (St.call (A := []) (B := [pt g1 33 ([(.int .i64 ((rd x7 x3).Tx)), (.int .i64 ((rd x7 x3).Res)), (.int .i64 ((rd x7 x3).Mode))]), Ow kTGrant 33 v1 x7]) hS (impl_DropAll_1.spec k1 _ _ (rd x7 x3) x6 ad1 ((h1.mono hg2).mono hg3) _ hx2))) (by decide) (fun v w a hR hF => ?_)
            obtain ⟨s8, A3, hg4, hS, hR⟩ := hR
            obtain ⟨hv3, rfl⟩ := hR; obtain rfl := hv3.symm
            have hS : St e s8 w [pt g1 33 ([(.int .i64 ((rd x7 x3).Tx)), (.int .i64 ((rd x7 x3).Res)), (.int .i64 ((rd x7 x3).Mode))]), Ow kTGrant 33 v1 x7] := hS
            refine stp hF (p_not rfl) (by decide) (fun a hF => ?_)
            refine nilN ?_
            refine xn ?_
            refine cnd hF rfl (fun hc3 => ?_) (fun hc3 => ?_)
            · replace H := hbt hc3 H
              refine sq ?_
              refine rg ?_
              refine stp hF (p_move rfl) (by decide) (fun a hF => ?_)
              refine stp hF (p_move rfl) (by decide) (fun a hF => ?_)
              refine stp hF (p_ldb_agg (i := 0) (l := []) (m := [(.int .i64 ((rd x7 x3).Tx)), (.int .i64 ((rd x7 x3).Res)), (.int .i64 ((rd x7 x3).Mode))]) (r := []) hS rfl rfl ia_33 ti_33 rfl rfl rfl) (by decide) (fun a hF => ?_)
              obtain ⟨hq2, H⟩ := hck H
              obtain ⟨b2, o2, q2, hv4, p3⟩ := p_idxo (n := 1) (i := x8) hS rfl un_24 ti_33 hq2.1 hq2.2
              refine stp hF (p3 rfl rfl) (by decide) (fun a hF => ?_)
              refine ste0 hF (e_sto (n := 1) (c := (rd x7 x3)) hS rfl hv4 (Lens.id _) hq2.1 hq2.2 rfl rfl rfl ti_33 rfl (kTGrant_mk (x := (rd x7 x3)) )) (fun v w a hR hF => ?_)
              have hS : St e s8 w [Ow kTGrant 33 v1 (wr x7 x8 (rd x7 x3)), pt g1 33 ([(.int .i64 ((rd x7 x3).Tx)), (.int .i64 ((rd x7 x3).Res)), (.int .i64 ((rd x7 x3).Mode))])] := hR
              refine nilN ?_
              refine xn ?_
              refine rg ?_
              refine stp hF (p_move rfl) (by decide) (fun a hF => ?_)
              refine stp hF (p_add (c := w64 (x8 + 1)) rfl rfl rfl) (by decide) (fun a hF => ?_)
              refine stp hF (p_assign rfl) (by decide) (fun a hF => ?_)
              refine nilN ?_
              refine bn (xn ?_)
              obtain rfl := hsm H
              replace hS := hS.sel (is := [0]) (A' := [Ow kTGrant 33 v1 (wr x7 x8 (rd x7 x3))]) rfl
              exact ⟨(wr x7 x8 (rd x7 x3)), (w64 (x8 + 1)), s8, hS, hF.cut ⟨rfl, rfl, rfl, rfl, trivial⟩, hg4, HK2⟩
            · replace H := hbf hc3 H
              refine skN ?_
              refine bn (xn ?_)
              obtain rfl := hsm H
              replace hS := hS.sel (is := [1]) (A' := [Ow kTGrant 33 v1 x7]) rfl
              exact ⟨x7, x8, s8, hS, hF.cut ⟨rfl, rfl, rfl, rfl, trivial⟩, hg4, HK2⟩
          · clear H HK2 hS hF
            rintro a w ⟨x4, x5, s7, hS, hF, hg5, H⟩
            unfold impl_Grant_52_151.c2 at H
            refine rg ?_
            refine stp hF (p_move rfl) (by decide) (fun a hF => ?_)
            refine stp hF (p_add (c := w64 (x3 + 1)) rfl rfl rfl) (by decide) (fun a hF => ?_)
            refine stp hF (p_assign rfl) (by decide) (fun a hF => ?_)
            refine nilN ?_
            refine xn ?_
            exact ⟨x4, x5, (w64 (x3 + 1)), s7, hS, hF.cut ⟨rfl, rfl, rfl, rfl, trivial⟩, (hg3.trans hg5), H⟩
        · replace H := hbf hc2 H
          refine exi ?_
          refine xe (xe (hit (xn ?_)))
          obtain rfl := hsm H
          exact ⟨x7, x8, s6, hS, hF.cut ⟨rfl, rfl, trivial⟩, hg3, HK1⟩
    · clear H HK1 hS hF
      rintro a w ⟨x1, x2, s5, hS, hF, hg6, H⟩
      unfold impl_Grant_52_151.c1 at H
      refine sq ?_
      refine rg ?_
      refine stp hF (p_move rfl) (by decide) (fun a hF => ?_)
      refine stp hF (p_move rfl) (by decide) (fun a hF => ?_)
      obtain ⟨hq3, H⟩ := hck H
      obtain ⟨v2, h4, p4⟩ := p_tail (P := Try.prog) (n := 0) (i := x2) hS rfl un_24 ti_33 hq3.1 hq3.2
      refine stp hF (p4 rfl rfl) (by decide) (fun a hF => ?_)
      refine ste0 hF (e_clear (n := 0) (kd := kTGrant) (x0 := (⟨0, 0, 0⟩ : TGrant)) (c := [(.int .i64 0), (.int .i64 0), (.int .i64 0)]) hS rfl h4 (by omega) rfl un_24 ti_33 rfl (kTGrant_mk (x := (⟨0, 0, 0⟩ : TGrant)) )) (fun v w a hR hF => ?_)
      have hS : St e s5 w [Ow kTGrant 33 v1 (x1.take x2.toNat ++ List.replicate (x1.length - x2.toNat) (⟨0, 0, 0⟩ : TGrant))] := hR
      refine nilN ?_
      refine xn ?_
      refine sq ?_
      refine rg ?_
      refine stp hF (p_move rfl) (by decide) (fun a hF => ?_)
      refine stp hF (p_move rfl) (by decide) (fun a hF => ?_)
      obtain ⟨hq4, H⟩ := hck H
      obtain ⟨v3, hS, p5⟩ := p_slo (n := 0) (i := (0 : Int)) (j := x2) hS rfl un_24 ti_33 hq4.1 hq4.2.1 hq4.2.2
      refine stp hF (p5 rfl rfl rfl) (by decide) (fun a hF => ?_)
      refine stp hF (p_assign rfl) (by decide) (fun a hF => ?_)
      refine nilN ?_
      refine xn ?_
      refine rt ?_
      obtain rfl := hsm H
      exact ret1 hF rfl rfl hS ⟨v3, rfl, rfl⟩

def impl_DropAll_2.f (k : Nat) (x1 : TGrant) (x2 : TGrant) : Option Bool :=
  (some (decide (x1.Res = x2.Res)))
set_option maxRecDepth 100000 in
set_option maxHeartbeats 4000000 in
theorem impl_DropAll_2.spec (k : Nat) (s0 : HF) (w : World) (x1 : TGrant) (x2 : TGrant) (ad1 : Addr) (h1 : Pr kTGrant s0 ad1 x2) (r : Bool) (H : impl_DropAll_2.f k x1 x2 = some r) :
    Law Try.prog 53 #[(.agg #[(.int .i64 x1.Tx), (.int .i64 x1.Res), (.int .i64 x1.Mode)]), (.pointer (some ad1))] s0 w [] (fun v s1 A1 => v = (.bool r) ∧ A1 = []) := by
  unfold impl_DropAll_2.f at H
  refine Law.intro Try.func53 rfl [(0, (.agg #[(.int .i64 x1.Tx), (.int .i64 x1.Res), (.int .i64 x1.Mode)])), (1, (.pointer (some ad1)))] (Nat.le_of_ble_eq_true rfl) (enter_lk ⟨rfl, rfl, trivial⟩) (fun e a hS hF => ?_)
  have hF : Fr 9 a [(0, (.agg #[(.int .i64 x1.Tx), (.int .i64 x1.Res), (.int .i64 x1.Mode)])), (1, (.pointer (some ad1)))] := hF
  refine sq ?_
  refine rg ?_
  refine ste hF (e_box (cs := [(.int .i64 x1.Tx), (.int .i64 x1.Res), (.int .i64 x1.Mode)]) hS rfl rfl) (by decide) (fun v w a hR hF => ?_)
  obtain ⟨g1, rfl, hS⟩ := hR
  refine stp hF (p_assign rfl) (by decide) (fun a hF => ?_)
  refine nilN ?_
  refine xn ?_
  refine sq ?_
  refine rg ?_
  refine stp hF (p_fldb (o' := 1) rfl fi_33_1 rfl) (by decide) (fun a hF => ?_)
  refine stp hF (p_ldb_one (i := 0) hS rfl rfl ia_3 rfl) (by decide) (fun a hF => ?_)
  have h2 : Pr (Kd.int .i64) s0 (ad1.add 1) x2.Res := h1.lens kTGrant_Res
  refine stp hF (p_fld rfl fi_33_1) (by decide) (fun a hF => ?_)
  refine stp hF (p_ldr_int rfl hS h2 ia_3) (by decide) (fun a hF => ?_)
  refine stp hF (p_eql rfl rfl) (by decide) (fun a hF => ?_)
  refine stp hF (p_assign rfl) (by decide) (fun a hF => ?_)
  refine nilN ?_
  refine xn ?_
  refine rt ?_
  obtain rfl := hsm H
  replace hS := hS.sel (is := []) (A' := []) rfl
  exact ret1 hF rfl rfl hS ⟨rfl, rfl⟩

def impl_Grant_63_253.c1 (k : Nat) : Option Int :=
  (some (-1))
def impl_Grant_63_253.l1 (x1 : (List TGrant)) (x2 : TGrant) : Nat → Int → Option (Ex Int Unit)
  | 0, _ => none
  | k + 1, x3 => (if (decide (x3 < (x1.length : Int))) = true then (if 0 ≤ x3 ∧ x3 < (x1.length : Int) then ((impl_DropAll_2.f k (rd x1 x3) x2).bind fun x4 => (if x4 = true then (some (Ex.ret x3)) else ((impl_Grant_63_253.l1 x1 x2 k) (w64 (x3 + 1))))) else none) else (some (Ex.go ())))
def impl_Grant_63_253.f (k : Nat) (x1 : (List TGrant)) (x2 : TGrant) : Option Int :=
  (((impl_Grant_63_253.l1 x1 x2 k 0) : Option (Ex Int Unit)).bind fun x5 => Ex.on x5 (fun r => some r) (fun y => impl_Grant_63_253.c1 k))
set_option maxRecDepth 100000 in
set_option maxHeartbeats 4000000 in
theorem impl_Grant_63_253.spec (k : Nat) (s0 : HF) (w : World) (x1 : (List TGrant)) (x2 : TGrant) (v1 : Value) (ad1 : Addr) (h1 : Sl kTGrant s0 v1 x1) (h2 : Pr kTGrant s0 ad1 x2) (r : Int) (H : impl_Grant_63_253.f k x1 x2 = some r) :
    Law Try.prog 63 #[v1, (.func (.func 53) #[] #[(.pointer (some ad1))])] s0 w [] (fun v s1 A1 => v = (.int .i64 r) ∧ A1 = []) := by
  unfold impl_Grant_63_253.f at H
  refine Law.intro Try.func63 rfl [(0, v1), (1, (.func (.func 53) #[] #[(.pointer (some ad1))]))] (Nat.le_of_ble_eq_true rfl) (enter_lk ⟨rfl, rfl, trivial⟩) (fun e a hS hF => ?_)
  have hF : Fr 19 a [(0, v1), (1, (.func (.func 53) #[] #[(.pointer (some ad1))]))] := hF
  refine sq ?_
  refine rg ?_
  refine stp hF (p_assign rfl) (by decide) (fun a hF => ?_)
  refine nilN ?_
  refine xn ?_
  obtain ⟨x5, H, HK1⟩ := hb H
  refine sqj (fun a w => ∃ (s2 : HF) , St e s2 w [] ∧ Fr 19 a [] ∧ Sub s0 s2 ∧ impl_Grant_63_253.c1 k = some r) ?_ ?_
  · skip
    refine sq ?_
    refine rg ?_
    refine stp hF (p_move rfl) (by decide) (fun a hF => ?_)
    refine stp hF (p_lenr un_24 rfl h1) (by decide) (fun a hF => ?_)
    refine stp hF (p_move rfl) (by decide) (fun a hF => ?_)
    refine nilN ?_
    refine xn ?_
    refine blk ?_
    refine loop_ind (fun k1 a w => ∃ (x3 : Int) (s3 : HF) , St e s3 w [] ∧ Fr 19 a [(0, v1), (1, (.func (.func 53) #[] #[(.pointer (some ad1))])), (7, (.int .i64 (x1.length : Int))), (8, (.int .i64 x3))] ∧ Sub s0 s3 ∧ impl_Grant_63_253.l1 x1 x2 k1 x3 = some x5) k ?_ ?_ ?_
    · skip
      exact ⟨0, s0, hS, hF.cut ⟨rfl, rfl, rfl, rfl, trivial⟩, (Sub.refl _), H⟩
    · clear H hS hF
      rintro a w ⟨x3, s3, hS, hF, hg1, H⟩
      exact absurd (show none = some _ from H) (by simp)
    · clear H hS hF
      rintro k1 a w ⟨x3, s3, hS, hF, hg1, H⟩
      rw [impl_Grant_63_253.l1.eq_2] at H
      refine sq ?_
      refine rg ?_
      refine stp hF (p_lss rfl rfl) (by decide) (fun a hF => ?_)
      refine nilN ?_
      refine xn ?_
      refine sq ?_
      refine cnd hF rfl (fun hc1 => ?_) (fun hc1 => ?_)
      · replace H := hbt hc1 H
        refine skN ?_
        refine xn ?_
        refine sq ?_
        refine blk ?_
        refine sq ?_
        refine rg ?_
        refine stp hF (p_move rfl) (by decide) (fun a hF => ?_)
        refine stp hF (p_assign rfl) (by decide) (fun a hF => ?_)
        refine nilN ?_
        refine xn ?_
        refine sq ?_
        refine rg ?_
        refine stp hF (p_move rfl) (by decide) (fun a hF => ?_)
        refine stp hF (p_move rfl) (by decide) (fun a hF => ?_)
        refine stp hF (p_move rfl) (by decide) (fun a hF => ?_)
        obtain ⟨hq1, H⟩ := hck H
        obtain ⟨ad2, h3, p1⟩ := p_idxr (P := Try.prog) (i := x3) (h1.mono hg1) un_24 ti_33 hq1.1 hq1.2
        refine stp hF (p1 rfl rfl) (by decide) (fun a hF => ?_)
        obtain ⟨c2, h4, p2⟩ := p_ldr_agg (P := Try.prog) h3 ia_33 ti_33
        obtain rfl := kTGrant_open h4
        refine stp hF (p2 rfl hS.ro) (by decide) (fun a hF => ?_)
        obtain ⟨x4, hx1, H⟩ := hb H
        refine ste hF (e_call (fst := []) (vs := [(.agg #[(.int .i64 ((rd x1 x3).Tx)), (.int .i64 ((rd x1 x3).Res)), (.int .i64 ((rd x1 x3).Mode))])]) (cap := [(.pointer (some ad1))]) rfl rfl go_53 (St.call (A := []) (B := []) hS (impl_DropAll_2.spec k1 _ _ (rd x1 x3) x2 ad1 (h2.mono hg1) _ hx1))) (by decide) (fun v w a hR hF => ?_)
        obtain ⟨s4, A2, hg2, hS, hR⟩ := hR
        obtain ⟨hv1, rfl⟩ := hR; obtain rfl := hv1.symm
        have hS : St e s4 w [] := hS
        refine nilN ?_
        refine xn ?_
        refine cnd hF rfl (fun hc2 => ?_) (fun hc2 => ?_)
        · replace H := hbt hc2 H
          refine sq ?_
          refine rg ?_
          refine stp hF (p_move rfl) (by decide) (fun a hF => ?_)
          refine stp hF (p_assign rfl) (by decide) (fun a hF => ?_)
          refine nilN ?_
          refine xn ?_
          refine rt ?_
          refine br (xr (xr (br (xr ?_))))
          obtain rfl := hsm H
          have H := hon1 HK1
          obtain rfl := hsm H
          exact ret1 hF rfl rfl hS ⟨rfl, rfl⟩
        · replace H := hbf hc2 H
          refine skN ?_
          refine bn (xn ?_)
          refine rg ?_
          refine stp hF (p_add (c := w64 (x3 + 1)) rfl rfl rfl) (by decide) (fun a hF => ?_)
          refine stp hF (p_move rfl) (by decide) (fun a hF => ?_)
          refine nilN ?_
          refine xn ?_
          exact ⟨(w64 (x3 + 1)), s4, hS, hF.cut ⟨rfl, rfl, rfl, rfl, trivial⟩, (hg1.trans hg2), H⟩
      · replace H := hbf hc1 H
        refine exi ?_
        refine xe (xe (hit (xn ?_)))
        obtain rfl := hsm H
        exact ⟨s3, hS, hF.cut trivial, hg1, HK1⟩
  · clear H HK1 hS hF
    rintro a w ⟨s2, hS, hF, hg3, H⟩
    unfold impl_Grant_63_253.c1 at H
    refine sq ?_
    refine rg ?_
    refine stp hF (p_assign rfl) (by decide) (fun a hF => ?_)
    refine nilN ?_
    refine xn ?_
    refine rt ?_
    obtain rfl := hsm H
    exact ret1 hF rfl rfl hS ⟨rfl, rfl⟩

def impl_Grant_36_253.f (k : Nat) (x1 : (List TGrant)) (x2 : TGrant) : Option Bool :=
  ((impl_Grant_63_253.f k x1 x2).bind fun x3 => (some (decide (0 ≤ x3))))
set_option maxRecDepth 100000 in
set_option maxHeartbeats 4000000 in
theorem impl_Grant_36_253.spec (k : Nat) (s0 : HF) (w : World) (x1 : (List TGrant)) (x2 : TGrant) (v1 : Value) (ad1 : Addr) (h1 : Sl kTGrant s0 v1 x1) (h2 : Pr kTGrant s0 ad1 x2) (r : Bool) (H : impl_Grant_36_253.f k x1 x2 = some r) :
    Law Try.prog 36 #[v1, (.func (.func 53) #[] #[(.pointer (some ad1))])] s0 w [] (fun v s1 A1 => v = (.bool r) ∧ A1 = []) := by
  unfold impl_Grant_36_253.f at H
  refine Law.intro Try.func36 rfl [(0, v1), (1, (.func (.func 53) #[] #[(.pointer (some ad1))]))] (Nat.le_of_ble_eq_true rfl) (enter_lk ⟨rfl, rfl, trivial⟩) (fun e a hS hF => ?_)
  have hF : Fr 9 a [(0, v1), (1, (.func (.func 53) #[] #[(.pointer (some ad1))]))] := hF
  refine sq ?_
  refine rg ?_
  refine stp hF (p_assign rfl) (by decide) (fun a hF => ?_)
  refine nilN ?_
  refine xn ?_
  refine sq ?_
  refine rg ?_
  refine stp hF (p_move rfl) (by decide) (fun a hF => ?_)
  refine stp hF (p_move rfl) (by decide) (fun a hF => ?_)
  obtain ⟨x3, hx1, H⟩ := hb H
  refine ste hF (e_call (fst := []) (vs := [v1, (.func (.func 53) #[] #[(.pointer (some ad1))])]) (cap := []) rfl rfl go_63 (St.call (A := []) (B := []) hS (impl_Grant_63_253.spec k _ _ x1 x2 v1 ad1 h1 h2 _ hx1))) (by decide) (fun v w a hR hF => ?_)
  obtain ⟨s2, A2, hg1, hS, hR⟩ := hR
  obtain ⟨hv1, rfl⟩ := hR; obtain rfl := hv1.symm
  have hS : St e s2 w [] := hS
  refine stp hF (p_geq rfl rfl) (by decide) (fun a hF => ?_)
  refine stp hF (p_assign rfl) (by decide) (fun a hF => ?_)
  refine nilN ?_
  refine xn ?_
  refine rt ?_
  obtain rfl := hsm H
  exact ret1 hF rfl rfl hS ⟨rfl, rfl⟩

def impl_DropAll.c1 (k : Nat) (x1 : (List TGrant)) (x2 : (List Int)) (x3 : (List TGrant)) : Option (TLocks × (List Int)) :=
  (some ((⟨x3, x1⟩ : TLocks), x2))
def impl_DropAll.c2 (k : Nat) (rec_l1 : (List TGrant) → (List Int) → (List TGrant) → Int → Option ((List TGrant) × (List Int) × (List TGrant))) (x4 : Int) (x5 : (List TGrant)) (x6 : (List Int)) (x7 : (List TGrant)) : Option ((List TGrant) × (List Int) × (List TGrant)) :=
  (rec_l1 x5 x6 x7 (w64 (x4 + 1)))
def impl_DropAll.c3 (k : Nat) (x8 : (List TGrant)) (x9 : (List TGrant)) (x4 : Int) (x10 : (List Int)) (x11 : (List TGrant)) (x12 : Int) (x13 : Bool) : Option ((List TGrant) × (List Int) × (List TGrant)) :=
  (if x13 = true then (if x8.length + 1 ≤ 5864062014805 then (some ((x8 ++ ([(rd x9 x4)] : List TGrant)), x10, x11)) else none) else ((impl_Locks_give.f k x11 (rd x9 x4) x12).bind fun x14 => (if x10.length + 1 ≤ 17592186044416 then (some (x8, (x10 ++ ([(rd x9 x4).Tx] : List Int)), x14)) else none)))
def impl_DropAll.l1 (x9 : (List TGrant)) : Nat → (List TGrant) → (List Int) → (List TGrant) → Int → Option ((List TGrant) × (List Int) × (List TGrant))
  | 0, _, _, _, _ => none
  | k + 1, x8, x10, x11, x4 => (if (decide (x4 < (x9.length : Int))) = true then (((if 0 ≤ x4 ∧ x4 < (x9.length : Int) then ((impl_would.f k (⟨x11, []⟩ : TLocks) (rd x9 x4)).bind fun x12 => ((impl_Grant_36_253.f k x8 (rd x9 x4)).bind fun x15 => ((if x15 = true then (some true) else ((impl_allGo.f k (⟨x11, []⟩ : TLocks) (rd x9 x4) x12).bind fun x16 => (some (!x16))) : Option Bool).bind fun x17 => impl_DropAll.c3 k x8 x9 x4 x10 x11 x12 x17))) else none) : Option ((List TGrant) × (List Int) × (List TGrant))).bind fun x18 => impl_DropAll.c2 k (impl_DropAll.l1 x9 k) x4 x18.1 x18.2.1 x18.2.2) else (some (x8, x10, x11)))
def impl_DropAll.f (k : Nat) (x19 : TLocks) (x20 : Int) : Option (TLocks × (List Int)) :=
  ((impl_LocksOk.f k x19).bind fun x21 => (if (!x21) = true then ((impl_cloneLocks.f k x19).bind fun x22 => (some (x22, ([] : List Int)))) else ((impl_cloneLocks.f k x19).bind fun x23 => ((impl_Grant_52_151.f k x23.Given x20).bind fun x24 => ((impl_Grant_52_151.f k x23.Waits x20).bind fun x9 => (((impl_DropAll.l1 x9 k ([] : List TGrant) ([] : List Int) x24 0) : Option ((List TGrant) × (List Int) × (List TGrant))).bind fun x25 => impl_DropAll.c1 k x25.1 x25.2.1 x25.2.2))))))
set_option maxRecDepth 100000 in
set_option maxHeartbeats 4000000 in
theorem impl_DropAll.spec (k : Nat) (s0 : HF) (w : World) (x19 : TLocks) (x20 : Int) (v1 : Value) (v2 : Value) (h1 : Sl kTGrant s0 v1 x19.Given) (h2 : Sl kTGrant s0 v2 x19.Waits) (r : TLocks × (List Int)) (H : impl_DropAll.f k x19 x20 = some r) :
    Law Try.prog 15 #[(.agg #[v1, v2]), (.int .i64 x20)] s0 w [] (fun v s1 A1 => ∃ (u0 : Value) (u1 : Value) (u2 : Value), v = (.tuple #[(.agg #[u0, u1]), u2]) ∧ A1 = [Ow kTGrant 33 u0 r.1.Given, Ow kTGrant 33 u1 r.1.Waits, Ow (Kd.int .i64) 3 u2 r.2]) := by
  unfold impl_DropAll.f at H
  refine Law.intro Try.func15 rfl [(0, (.agg #[v1, v2])), (1, (.int .i64 x20))] (Nat.le_of_ble_eq_true rfl) (enter_lk ⟨rfl, rfl, trivial⟩) (fun e a hS hF => ?_)
  have hF : Fr 71 a [(0, (.agg #[v1, v2])), (1, (.int .i64 x20))] := hF
  refine sq ?_
  refine rg ?_
  refine ste hF (e_box (cs := [v1, v2]) hS rfl rfl) (by decide) (fun v w a hR hF => ?_)
  obtain ⟨g1, rfl, hS⟩ := hR
  refine ste hF (e_box (cs := [(.int .i64 x20)]) hS rfl rfl) (by decide) (fun v w a hR hF => ?_)
  obtain ⟨g2, rfl, hS⟩ := hR
  refine ste hF (e_alloc (cs := [(.slice none 0 0), (.slice none 0 0)]) hS ti_26 rfl) (by decide) (fun v w a hR hF => ?_)
  obtain ⟨g3, rfl, hS⟩ := hR
  refine stp hF (p_assign rfl) (by decide) (fun a hF => ?_)
  refine nilN ?_
  refine xn ?_
  refine sq ?_
  refine sq ?_
  refine rg ?_
  refine stp hF (p_ldb_agg (i := 2) (l := []) (m := [v1, v2]) (r := []) hS rfl rfl ia_26 ti_26 rfl rfl rfl) (by decide) (fun a hF => ?_)
  obtain ⟨x21, hx1, H⟩ := hb H
  refine ste hF (e_call (fst := []) (vs := [(.agg #[v1, v2])]) (cap := []) rfl rfl go_10 (St.call (A := []) (B := [pt g3 26 ([(.slice none 0 0), (.slice none 0 0)]), pt g2 3 ([(.int .i64 x20)]), pt g1 26 ([v1, v2])]) hS (impl_LocksOk.spec k _ _ x19 v1 v2 h1 h2 _ hx1))) (by decide) (fun v w a hR hF => ?_)
  obtain ⟨s2, A2, hg1, hS, hR⟩ := hR
  obtain ⟨hv1, rfl⟩ := hR; obtain rfl := hv1.symm
  have hS : St e s2 w [pt g3 26 ([(.slice none 0 0), (.slice none 0 0)]), pt g2 3 ([(.int .i64 x20)]), pt g1 26 ([v1, v2])] := hS
  refine stp hF (p_not rfl) (by decide) (fun a hF => ?_)
  refine nilN ?_
  refine xn ?_
  refine cnd hF rfl (fun hc1 => ?_) (fun hc1 => ?_)
  · replace H := hbt hc1 H
    refine sq ?_
    refine rg ?_
    refine stp hF (p_ldb_agg (i := 2) (l := []) (m := [v1, v2]) (r := []) hS rfl rfl ia_26 ti_26 rfl rfl rfl) (by decide) (fun a hF => ?_)
    obtain ⟨x22, hx2, H⟩ := hb H
    refine ste hF (e_call (fst := []) (vs := [(.agg #[v1, v2])]) (cap := []) rfl rfl go_31 (St.call (A := []) (B := [pt g3 26 ([(.slice none 0 0), (.slice none 0 0)]), pt g2 3 ([(.int .i64 x20)]), pt g1 26 ([v1, v2])]) hS (impl_cloneLocks.spec k _ _ x19 v1 v2 (h1.mono hg1) (h2.mono hg1) _ hx2))) (by decide) (fun v w a hR hF => ?_)
    obtain ⟨s3, A3, hg2, hS, hR⟩ := hR
    obtain ⟨v3, v4, hv2, rfl⟩ := hR; obtain rfl := hv2.symm
    have hS : St e s3 w [Ow kTGrant 33 v3 x22.Given, Ow kTGrant 33 v4 x22.Waits, pt g3 26 ([(.slice none 0 0), (.slice none 0 0)]), pt g2 3 ([(.int .i64 x20)]), pt g1 26 ([v1, v2])] := hS
    refine ste0 hF (e_stb (i := 2) (l := []) (m := [(.slice none 0 0), (.slice none 0 0)]) (r := []) (m' := [v3, v4]) (cs' := [v3, v4]) hS rfl rfl rfl ti_26 rfl rfl rfl rfl rfl (one_cons (hS.one_ow (i := 0) rfl) (one_cons (hS.one_ow (i := 1) rfl) one_nil)) rfl) (fun v w a hR hF => ?_)
    have hS : St e s3 w [pt g3 26 ([v3, v4]), Ow kTGrant 33 v3 x22.Given, Ow kTGrant 33 v4 x22.Waits, pt g2 3 ([(.int .i64 x20)]), pt g1 26 ([v1, v2])] := hR
    refine stp hF (p_assign rfl) (by decide) (fun a hF => ?_)
    refine nilN ?_
    refine xn ?_
    refine rt ?_
    refine xr ?_
    obtain rfl := hsm H
    have h3 : RvOk Try.prog _ w (.cell 4 26) _ := rvC (i := 0) hS rfl (show lk [(4, (.pointer (some ⟨g3, 0, none⟩))), (5, (.slice none 0 0))] 4 = _ from rfl) ia_26 ti_26 rfl
    replace hS := hS.ownNil (Kd.int .i64) 3 none
    replace hS := hS.sel (is := [2, 2, 0]) (A' := [Ow kTGrant 33 v3 x22.Given, Ow kTGrant 33 v4 x22.Waits, Ow (Kd.int .i64) 3 (.slice none 0 0) ([] : List Int)]) rfl
    exact retc2 hF rfl h3 (rvT rfl) hS ⟨v3, v4, (.slice none 0 0), rfl, rfl⟩
  · replace H := hbf hc1 H
    refine skN ?_
    refine xn ?_
    refine sq ?_
    refine rg ?_
    obtain ⟨s4, hg3, h4, hS⟩ := hS.freezeB (i := 1) (g := g2) (T := 3) (cs := [(.int .i64 x20)]) (B := [pt g3 26 ([(.slice none 0 0), (.slice none 0 0)]), pt g1 26 ([v1, v2])]) rfl
    have h5 : Pr (Kd.int .i64) s4 ⟨g2, 0, none⟩ x20 := Pr.box h4 (by exact rfl)
    refine stp hF (p_makefunc (fs := []) (cs := [(.tmp 3)]) rfl rfl) (by decide) (fun a hF => ?_)
    refine stp hF (p_assign rfl) (by decide) (fun a hF => ?_)
    refine nilN ?_
    refine xn ?_
    refine sq ?_
    refine rg ?_
    refine stp hF (p_ldb_agg (i := 1) (l := []) (m := [v1, v2]) (r := []) hS rfl rfl ia_26 ti_26 rfl rfl rfl) (by decide) (fun a hF => ?_)
    obtain ⟨x23, hx3, H⟩ := hb H
    refine ste hF (e_call (fst := []) (vs := [(.agg #[v1, v2])]) (cap := []) rfl rfl go_31 (St.call (A := []) (B := [pt g3 26 ([(.slice none 0 0), (.slice none 0 0)]), pt g1 26 ([v1, v2])]) hS (impl_cloneLocks.spec k _ _ x19 v1 v2 ((h1.mono hg1).mono hg3) ((h2.mono hg1).mono hg3) _ hx3))) (by decide) (fun v w a hR hF => ?_)
    obtain ⟨s5, A4, hg4, hS, hR⟩ := hR
    obtain ⟨v5, v6, hv3, rfl⟩ := hR; obtain rfl := hv3.symm
    have hS : St e s5 w [Ow kTGrant 33 v5 x23.Given, Ow kTGrant 33 v6 x23.Waits, pt g3 26 ([(.slice none 0 0), (.slice none 0 0)]), pt g1 26 ([v1, v2])] := hS
    refine ste hF (e_alloc (cs := [(.slice none 0 0), (.slice none 0 0)]) hS ti_26 rfl) (by decide) (fun v w a hR hF => ?_)
    obtain ⟨g4, rfl, hS⟩ := hR
    refine ste0 hF (e_stb (i := 0) (l := []) (m := [(.slice none 0 0), (.slice none 0 0)]) (r := []) (m' := [v5, v6]) (cs' := [v5, v6]) hS rfl rfl rfl ti_26 rfl rfl rfl rfl rfl (one_cons (hS.one_ow (i := 1) rfl) (one_cons (hS.one_ow (i := 2) rfl) one_nil)) rfl) (fun v w a hR hF => ?_)
    have hS : St e s5 w [pt g4 26 ([v5, v6]), Ow kTGrant 33 v5 x23.Given, Ow kTGrant 33 v6 x23.Waits, pt g3 26 ([(.slice none 0 0), (.slice none 0 0)]), pt g1 26 ([v1, v2])] := hR
    refine nilN ?_
    refine xn ?_
    refine sq ?_
    refine rg ?_
    refine stp hF (p_fldb (o' := 0) rfl fi_26_0 rfl) (by decide) (fun a hF => ?_)
    refine stp hF (p_ldb_one (i := 0) hS rfl rfl ia_24 rfl) (by decide) (fun a hF => ?_)
    refine stp hF (p_move rfl) (by decide) (fun a hF => ?_)
    replace hS := hS.sel (is := [1, 0, 0, 0, 0]) (A' := [Ow kTGrant 33 v5 x23.Given, pt g4 26 ([v5, v6]), Ow kTGrant 33 v6 x23.Waits, pt g3 26 ([(.slice none 0 0), (.slice none 0 0)]), pt g1 26 ([v1, v2])]) rfl
    obtain ⟨x24, hx4, H⟩ := hb H
    refine ste hF (e_call (fst := []) (vs := [v5, (.func (.func 51) #[] #[(.pointer (some (⟨g2, 0, none⟩ : Addr)))])]) (cap := []) rfl rfl go_52 (St.call (A := [Ow kTGrant 33 v5 x23.Given]) (B := [pt g4 26 ([v5, v6]), Ow kTGrant 33 v6 x23.Waits, pt g3 26 ([(.slice none 0 0), (.slice none 0 0)]), pt g1 26 ([v1, v2])]) hS (impl_Grant_52_151.spec k _ _ x23.Given x20 v5 (⟨g2, 0, none⟩ : Addr) (h5.mono hg4) _ hx4))) (by decide) (fun v w a hR hF => ?_)
    obtain ⟨s6, A5, hg5, hS, hR⟩ := hR
    obtain ⟨v7, hv4, rfl⟩ := hR; obtain rfl := hv4.symm
    have hS : St e s6 w [Ow kTGrant 33 v7 x24, pt g4 26 ([v5, v6]), Ow kTGrant 33 v6 x23.Waits, pt g3 26 ([(.slice none 0 0), (.slice none 0 0)]), pt g1 26 ([v1, v2])] := hS
    refine stp hF (p_fldb (o' := 0) rfl fi_26_0 rfl) (by decide) (fun a hF => ?_)
    refine ste0 hF (e_stb (i := 1) (l := []) (m := [v5]) (r := [v6]) (m' := [v7]) (cs' := [v7, v6]) hS rfl rfl rfl ti_24 rfl rfl rfl (cells_one (hS.one_ow (i := 0) rfl)) rfl (one_cons (hS.one_ow (i := 0) rfl) one_nil) rfl) (fun v w a hR hF => ?_)
    have hS : St e s6 w [pt g4 26 ([v7, v6]), Ow kTGrant 33 v7 x24, Ow kTGrant 33 v6 x23.Waits, pt g3 26 ([(.slice none 0 0), (.slice none 0 0)]), pt g1 26 ([v1, v2])] := hR
    refine nilN ?_
    refine xn ?_
    refine sq ?_
    refine rg ?_
    refine stp hF (p_fldb (o' := 1) rfl fi_26_1 rfl) (by decide) (fun a hF => ?_)
    refine stp hF (p_ldb_one (i := 0) hS rfl rfl ia_24 rfl) (by decide) (fun a hF => ?_)
    refine stp hF (p_move rfl) (by decide) (fun a hF => ?_)
    replace hS := hS.sel (is := [2, 0, 0, 0, 0]) (A' := [Ow kTGrant 33 v6 x23.Waits, pt g4 26 ([v7, v6]), Ow kTGrant 33 v7 x24, pt g3 26 ([(.slice none 0 0), (.slice none 0 0)]), pt g1 26 ([v1, v2])]) rfl
    obtain ⟨x9, hx5, H⟩ := hb H
    refine ste hF (e_call (fst := []) (vs := [v6, (.func (.func 51) #[] #[(.pointer (some (⟨g2, 0, none⟩ : Addr)))])]) (cap := []) rfl rfl go_52 (St.call (A := [Ow kTGrant 33 v6 x23.Waits]) (B := [pt g4 26 ([v7, v6]), Ow kTGrant 33 v7 x24, pt g3 26 ([(.slice none 0 0), (.slice none 0 0)]), pt g1 26 ([v1, v2])]) hS (impl_Grant_52_151.spec k _ _ x23.Waits x20 v6 (⟨g2, 0, none⟩ : Addr) ((h5.mono hg4).mono hg5) _ hx5))) (by decide) (fun v w a hR hF => ?_)
    obtain ⟨s7, A6, hg6, hS, hR⟩ := hR
    obtain ⟨v8, hv5, rfl⟩ := hR; obtain rfl := hv5.symm
    have hS : St e s7 w [Ow kTGrant 33 v8 x9, pt g4 26 ([v7, v6]), Ow kTGrant 33 v7 x24, pt g3 26 ([(.slice none 0 0), (.slice none 0 0)]), pt g1 26 ([v1, v2])] := hS
    refine stp hF (p_assign rfl) (by decide) (fun a hF => ?_)
    refine nilN ?_
    refine xn ?_
    refine sq ?_
    refine rg ?_
    refine ste hF (e_bslice (kd := (Kd.int .i64)) (et := 3) (ps := []) (vs := []) (cs := []) (xs := ([] : List Int)) hS rfl (by intro w; kernel_rfl) rfl (by decide) (Nat.le_of_ble_eq_true rfl) (by exact (Rows.nil _ _ _ _))) (by decide) (fun v9 w a hR hF => ?_)
    have hS : St e s7 w [Ow (Kd.int .i64) 3 v9 ([] : List Int), Ow kTGrant 33 v8 x9, pt g4 26 ([v7, v6]), Ow kTGrant 33 v7 x24, pt g3 26 ([(.slice none 0 0), (.slice none 0 0)]), pt g1 26 ([v1, v2])] := hR
    refine stp hF (p_assign rfl) (by decide) (fun a hF => ?_)
    refine nilN ?_
    refine xn ?_
    refine sq ?_
    refine rg ?_
    refine ste hF (e_bslice (kd := kTGrant) (et := 33) (ps := []) (vs := []) (cs := []) (xs := ([] : List TGrant)) hS rfl (by intro w; kernel_rfl) rfl (by decide) (Nat.le_of_ble_eq_true rfl) (by exact (Rows.nil _ _ _ _))) (by decide) (fun v10 w a hR hF => ?_)
    have hS : St e s7 w [Ow kTGrant 33 v10 ([] : List TGrant), Ow (Kd.int .i64) 3 v9 ([] : List Int), Ow kTGrant 33 v8 x9, pt g4 26 ([v7, v6]), Ow kTGrant 33 v7 x24, pt g3 26 ([(.slice none 0 0), (.slice none 0 0)]), pt g1 26 ([v1, v2])] := hR
    refine stp hF (p_assign rfl) (by decide) (fun a hF => ?_)
    refine nilN ?_
    refine xn ?_
    obtain ⟨x25, H, HK1⟩ := hb H
    refine sqj (fun a w => ∃ (x1 : (List TGrant)) (x2 : (List Int)) (x3 : (List TGrant)) (s8 : HF) (v11 : Value) (v12 : Value) (v13 : Value) , St e s8 w [Ow kTGrant 33 v11 x1, Ow (Kd.int .i64) 3 v12 x2, Ow kTGrant 33 v8 x9, pt g4 26 ([v13, v6]), Ow kTGrant 33 v13 x3, pt g3 26 ([(.slice none 0 0), (.slice none 0 0)]), pt g1 26 ([v1, v2])] ∧ Fr 71 a [(4, (.pointer (some ⟨g3, 0, none⟩))), (7, (.pointer (some ⟨g4, 0, none⟩))), (9, v12), (10, v11)] ∧ Sub s7 s8 ∧ impl_DropAll.c1 k x1 x2 x3 = some r) ?_ ?_
    · skip
      refine sq ?_
      refine rg ?_
      refine stp hF (p_move rfl) (by decide) (fun a hF => ?_)
      refine stp hF (p_leno (i := 2) hS rfl un_24 rfl) (by decide) (fun a hF => ?_)
      refine stp hF (p_move rfl) (by decide) (fun a hF => ?_)
      refine nilN ?_
      refine xn ?_
      refine blk ?_
      refine loop_ind (fun k1 a w => ∃ (x8 : (List TGrant)) (x10 : (List Int)) (x11 : (List TGrant)) (x4 : Int) (s9 : HF) (v14 : Value) (v15 : Value) (v16 : Value) , St e s9 w [Ow kTGrant 33 v14 x8, Ow (Kd.int .i64) 3 v15 x10, Ow kTGrant 33 v8 x9, pt g4 26 ([v16, v6]), Ow kTGrant 33 v16 x11, pt g3 26 ([(.slice none 0 0), (.slice none 0 0)]), pt g1 26 ([v1, v2])] ∧ Fr 71 a [(4, (.pointer (some ⟨g3, 0, none⟩))), (7, (.pointer (some ⟨g4, 0, none⟩))), (9, v15), (10, v14), (34, v8), (35, (.int .i64 (x9.length : Int))), (36, (.int .i64 x4))] ∧ Sub s7 s9 ∧ impl_DropAll.l1 x9 k1 x8 x10 x11 x4 = some x25) k ?_ ?_ ?_
      · skip
        exact ⟨([] : List TGrant), ([] : List Int), x24, 0, s7, v10, v9, v7, hS, hF.cut ⟨rfl, rfl, rfl, rfl, rfl, rfl, rfl, trivial⟩, (Sub.refl _), H⟩
      · clear H hS hF
        rintro a w ⟨x8, x10, x11, x4, s9, v14, v15, v16, hS, hF, hg7, H⟩
        exact absurd (show none = some _ from H) (by simp)
      · clear H hS hF
        rintro k1 a w ⟨x8, x10, x11, x4, s9, v14, v15, v16, hS, hF, hg7, H⟩
        rw [impl_DropAll.l1.eq_2] at H
        refine sq ?_
        refine rg ?_
        refine stp hF (p_lss rfl rfl) (by decide) (fun a hF => ?_)
        refine nilN ?_
        refine xn ?_
        refine sq ?_
        refine cnd hF rfl (fun hc2 => ?_) (fun hc2 => ?_)
        · replace H := hbt hc2 H
          refine skN ?_
          refine xn ?_
          obtain ⟨x18, H, HK2⟩ := hb H
          refine sqj (fun a w => ∃ (x5 : (List TGrant)) (x6 : (List Int)) (x7 : (List TGrant)) (s10 : HF) (v17 : Value) (v18 : Value) (v19 : Value) , St e s10 w [Ow kTGrant 33 v17 x5, Ow (Kd.int .i64) 3 v18 x6, Ow kTGrant 33 v8 x9, pt g4 26 ([v19, v6]), Ow kTGrant 33 v19 x7, pt g3 26 ([(.slice none 0 0), (.slice none 0 0)]), pt g1 26 ([v1, v2])] ∧ Fr 71 a [(4, (.pointer (some ⟨g3, 0, none⟩))), (7, (.pointer (some ⟨g4, 0, none⟩))), (9, v18), (10, v17), (34, v8), (35, (.int .i64 (x9.length : Int))), (36, (.int .i64 x4))] ∧ Sub s9 s10 ∧ impl_DropAll.c2 k1 (impl_DropAll.l1 x9 k1) x4 x5 x6 x7 = some x25) ?_ ?_
          · skip
            refine blk ?_
            refine sq ?_
            refine rg ?_
            obtain ⟨hq1, H⟩ := hck H
            obtain ⟨b1, o1, q1, hv6, p1⟩ := p_idxo (n := 2) (i := x4) hS rfl un_24 ti_33 hq1.1 hq1.2
            refine stp hF (p1 rfl rfl) (by decide) (fun a hF => ?_)
            obtain ⟨c4, h6, p2⟩ := p_ldo_agg (P := Try.prog) (n := 2) hS rfl hv6 (Lens.id _) hq1.1 hq1.2 rfl ia_33 ti_33
            obtain rfl := kTGrant_open h6
            refine stp hF (p2 rfl) (by decide) (fun a hF => ?_)
            refine ste hF (e_alloc (cs := [(.int .i64 0), (.int .i64 0), (.int .i64 0)]) hS ti_33 rfl) (by decide) (fun v w a hR hF => ?_)
            obtain ⟨g5, rfl, hS⟩ := hR
            refine ste0 hF (e_stb (i := 0) (l := []) (m := [(.int .i64 0), (.int .i64 0), (.int .i64 0)]) (r := []) (m' := [(.int .i64 ((rd x9 x4).Tx)), (.int .i64 ((rd x9 x4).Res)), (.int .i64 ((rd x9 x4).Mode))]) (cs' := [(.int .i64 ((rd x9 x4).Tx)), (.int .i64 ((rd x9 x4).Res)), (.int .i64 ((rd x9 x4).Mode))]) hS rfl rfl rfl ti_33 rfl rfl rfl rfl rfl (one_cons rfl (one_cons rfl (one_cons rfl one_nil))) rfl) (fun v w a hR hF => ?_)
            have hS : St e s9 w [pt g5 33 ([(.int .i64 ((rd x9 x4).Tx)), (.int .i64 ((rd x9 x4).Res)), (.int .i64 ((rd x9 x4).Mode))]), Ow kTGrant 33 v14 x8, Ow (Kd.int .i64) 3 v15 x10, Ow kTGrant 33 v8 x9, pt g4 26 ([v16, v6]), Ow kTGrant 33 v16 x11, pt g3 26 ([(.slice none 0 0), (.slice none 0 0)]), pt g1 26 ([v1, v2])] := hR
            refine nilN ?_
            refine xn ?_
            refine sq ?_
            refine rg ?_
            refine stp hF (p_ldb_agg (i := 4) (l := []) (m := [v16, v6]) (r := []) hS rfl rfl ia_26 ti_26 rfl rfl rfl) (by decide) (fun a hF => ?_)
            refine stp hF (p_ldb_agg (i := 0) (l := []) (m := [(.int .i64 ((rd x9 x4).Tx)), (.int .i64 ((rd x9 x4).Res)), (.int .i64 ((rd x9 x4).Mode))]) (r := []) hS rfl rfl ia_33 ti_33 rfl rfl rfl) (by decide) (fun a hF => ?_)
            replace hS := hS.sel (is := [5, 0, 0, 0, 0, 0, 0, 0]) (A' := [Ow kTGrant 33 v16 x11, pt g5 33 ([(.int .i64 ((rd x9 x4).Tx)), (.int .i64 ((rd x9 x4).Res)), (.int .i64 ((rd x9 x4).Mode))]), Ow kTGrant 33 v14 x8, Ow (Kd.int .i64) 3 v15 x10, Ow kTGrant 33 v8 x9, pt g4 26 ([v16, v6]), pt g3 26 ([(.slice none 0 0), (.slice none 0 0)]), pt g1 26 ([v1, v2])]) rfl
            obtain ⟨s11, hg8, hl1, hcall1⟩ := St.lend (P := Try.prog) (Bs := [Ow kTGrant 33 v16 x11]) (A := []) (B := [pt g5 33 ([(.int .i64 ((rd x9 x4).Tx)), (.int .i64 ((rd x9 x4).Res)), (.int .i64 ((rd x9 x4).Mode))]), Ow kTGrant 33 v14 x8, Ow (Kd.int .i64) 3 v15 x10, Ow kTGrant 33 v8 x9, pt g4 26 ([v16, v6]), pt g3 26 ([(.slice none 0 0), (.slice none 0 0)]), pt g1 26 ([v1, v2])]) hS
            obtain ⟨h7, hl1⟩ := hl1.ow hg8
            obtain ⟨x12, hx6, H⟩ := hb H
            refine ste hF (e_call (fst := []) (vs := [(.agg #[v16, v6]), (.agg #[(.int .i64 ((rd x9 x4).Tx)), (.int .i64 ((rd x9 x4).Res)), (.int .i64 ((rd x9 x4).Mode))])]) (cap := []) rfl rfl go_34 (hcall1 (impl_would.spec k1 _ _ (⟨x11, []⟩ : TLocks) (rd x9 x4) v16 v6 h7 _ hx6) (by rintro v s1 A1 ⟨rfl, rfl⟩; exact trivial))) (by decide) (fun v w a hR hF => ?_)
            obtain ⟨s12, s13, A7, hg9, hS, hR⟩ := hR
            obtain ⟨hv7, rfl⟩ := hR; obtain rfl := hv7.symm
            have hS : St e s12 w [Ow kTGrant 33 v16 x11, pt g5 33 ([(.int .i64 ((rd x9 x4).Tx)), (.int .i64 ((rd x9 x4).Res)), (.int .i64 ((rd x9 x4).Mode))]), Ow kTGrant 33 v14 x8, Ow (Kd.int .i64) 3 v15 x10, Ow kTGrant 33 v8 x9, pt g4 26 ([v16, v6]), pt g3 26 ([(.slice none 0 0), (.slice none 0 0)]), pt g1 26 ([v1, v2])] := hS
            refine stp hF (p_assign rfl) (by decide) (fun a hF => ?_)
            refine nilN ?_
            refine xn ?_
            refine sq ?_
            refine rg ?_
            refine stp hF (p_move rfl) (by decide) (fun a hF => ?_)
            obtain ⟨s14, hg10, h8, hS⟩ := hS.freezeB (i := 1) (g := g5) (T := 33) (cs := [(.int .i64 ((rd x9 x4).Tx)), (.int .i64 ((rd x9 x4).Res)), (.int .i64 ((rd x9 x4).Mode))]) (B := [Ow kTGrant 33 v16 x11, Ow kTGrant 33 v14 x8, Ow (Kd.int .i64) 3 v15 x10, Ow kTGrant 33 v8 x9, pt g4 26 ([v16, v6]), pt g3 26 ([(.slice none 0 0), (.slice none 0 0)]), pt g1 26 ([v1, v2])]) rfl
            have h9 : Pr kTGrant s14 ⟨g5, 0, none⟩ (rd x9 x4) := Pr.box h8 (by exact (kTGrant_mk (x := (rd x9 x4)) ))
            refine stp hF (p_makefunc (fs := []) (cs := [(.tmp 12)]) rfl rfl) (by decide) (fun a hF => ?_)
            replace hS := hS.sel (is := [1, 0, 0, 0, 0, 0, 0]) (A' := [Ow kTGrant 33 v14 x8, Ow kTGrant 33 v16 x11, Ow (Kd.int .i64) 3 v15 x10, Ow kTGrant 33 v8 x9, pt g4 26 ([v16, v6]), pt g3 26 ([(.slice none 0 0), (.slice none 0 0)]), pt g1 26 ([v1, v2])]) rfl
            obtain ⟨s15, hg11, hl2, hcall2⟩ := St.lend (P := Try.prog) (Bs := [Ow kTGrant 33 v14 x8]) (A := []) (B := [Ow kTGrant 33 v16 x11, Ow (Kd.int .i64) 3 v15 x10, Ow kTGrant 33 v8 x9, pt g4 26 ([v16, v6]), pt g3 26 ([(.slice none 0 0), (.slice none 0 0)]), pt g1 26 ([v1, v2])]) hS
            obtain ⟨h10, hl2⟩ := hl2.ow hg11
            obtain ⟨x15, hx7, H⟩ := hb H
            refine ste hF (e_call (fst := []) (vs := [v14, (.func (.func 53) #[] #[(.pointer (some (⟨g5, 0, none⟩ : Addr)))])]) (cap := []) rfl rfl go_36 (hcall2 (impl_Grant_36_253.spec k1 _ _ x8 (rd x9 x4) v14 (⟨g5, 0, none⟩ : Addr) h10 (h9.mono hg11) _ hx7) (by rintro v s1 A1 ⟨rfl, rfl⟩; exact trivial))) (by decide) (fun v w a hR hF => ?_)
            obtain ⟨s16, s17, A8, hg12, hS, hR⟩ := hR
            obtain ⟨hv8, rfl⟩ := hR; obtain rfl := hv8.symm
            have hS : St e s16 w [Ow kTGrant 33 v14 x8, Ow kTGrant 33 v16 x11, Ow (Kd.int .i64) 3 v15 x10, Ow kTGrant 33 v8 x9, pt g4 26 ([v16, v6]), pt g3 26 ([(.slice none 0 0), (.slice none 0 0)]), pt g1 26 ([v1, v2])] := hS
            refine stp hF (p_assign rfl) (by decide) (fun a hF => ?_)
            refine nilN ?_
            refine xn ?_
            refine sq ?_
            refine sq ?_
            refine rg ?_
            refine stp hF (p_move rfl) (by decide) (fun a hF => ?_)
            refine stp hF (p_move rfl) (by decide) (fun a hF => ?_)
            obtain ⟨x17, H, HK3⟩ := hb H
            refine cutj 6 (fun a w => ∃ (x13 : Bool) (s18 : HF) , St e s18 w [Ow kTGrant 33 v14 x8, Ow kTGrant 33 v16 x11, Ow (Kd.int .i64) 3 v15 x10, Ow kTGrant 33 v8 x9, pt g4 26 ([v16, v6]), pt g3 26 ([(.slice none 0 0), (.slice none 0 0)]), pt g1 26 ([v1, v2])] ∧ Fr 71 a [(4, (.pointer (some ⟨g3, 0, none⟩))), (7, (.pointer (some ⟨g4, 0, none⟩))), (9, v15), (10, v14), (12, (.pointer (some (⟨g5, 0, none⟩ : Addr)))), (13, (.int .i64 x12)), (34, v8), (35, (.int .i64 (x9.length : Int))), (36, (.int .i64 x4)), (53, (.bool x13))] ∧ Sub s16 s18 ∧ impl_DropAll.c3 k1 x8 x9 x4 x10 x11 x12 x13 = some x18) rfl rfl ?_ ?_
            · rcases Bool.eq_false_or_eq_true (x15) with hc3 | hc3
              · replace H := hbt hc3 H
                refine gofD (j := 1) hF rfl rfl (by rw [hc3]; decide) (by decide) (fun a hF => ?_)
                refine gofD (j := 1) hF rfl rfl (by rw [hc3]; decide) (by decide) (fun a hF => ?_)
                refine gofD (j := 1) hF rfl rfl (by rw [hc3]; decide) (by decide) (fun a hF => ?_)
                refine gofD (j := 1) hF rfl rfl (by rw [hc3]; decide) (by decide) (fun a hF => ?_)
                refine gofD (j := 1) hF rfl rfl (by rw [hc3]; decide) (by decide) (fun a hF => ?_)
                refine stp hF (p_pickT rfl hc3 rfl) (by decide) (fun a hF => ?_)
                refine nilN ?_
                refine xn ?_
                obtain rfl := hsm H
                exact ⟨true, s16, hS, hF.cut ⟨rfl, rfl, rfl, rfl, rfl, rfl, rfl, rfl, rfl, rfl, trivial⟩, (Sub.refl _), HK3⟩
              · replace H := hbf hc3 H
                refine gonE (j := 1) hF rfl rfl hc3 ?_
                refine stp hF (p_ldb_agg (i := 4) (l := []) (m := [v16, v6]) (r := []) hS rfl rfl ia_26 ti_26 rfl rfl rfl) (by decide) (fun a hF => ?_)
                obtain ⟨c5, h11, p3⟩ := p_ldr_agg (P := Try.prog) (h9.mono hg12) ia_33 ti_33
                obtain rfl := kTGrant_open h11
                refine gonE (j := 1) hF rfl rfl hc3 ?_
                refine stp hF (p3 rfl hS.ro) (by decide) (fun a hF => ?_)
                refine gonE (j := 1) hF rfl rfl hc3 ?_
                refine stp hF (p_move rfl) (by decide) (fun a hF => ?_)
                replace hS := hS.sel (is := [1, 0, 0, 0, 0, 0, 0]) (A' := [Ow kTGrant 33 v16 x11, Ow kTGrant 33 v14 x8, Ow (Kd.int .i64) 3 v15 x10, Ow kTGrant 33 v8 x9, pt g4 26 ([v16, v6]), pt g3 26 ([(.slice none 0 0), (.slice none 0 0)]), pt g1 26 ([v1, v2])]) rfl
                obtain ⟨s19, hg13, hl3, hcall3⟩ := St.lend (P := Try.prog) (Bs := [Ow kTGrant 33 v16 x11]) (A := []) (B := [Ow kTGrant 33 v14 x8, Ow (Kd.int .i64) 3 v15 x10, Ow kTGrant 33 v8 x9, pt g4 26 ([v16, v6]), pt g3 26 ([(.slice none 0 0), (.slice none 0 0)]), pt g1 26 ([v1, v2])]) hS
                obtain ⟨h12, hl3⟩ := hl3.ow hg13
                obtain ⟨x16, hx8, H⟩ := hb H
                refine gonE (j := 1) hF rfl rfl hc3 ?_
                refine ste hF (e_call (fst := []) (vs := [(.agg #[v16, v6]), (.agg #[(.int .i64 ((rd x9 x4).Tx)), (.int .i64 ((rd x9 x4).Res)), (.int .i64 ((rd x9 x4).Mode))]), (.int .i64 x12)]) (cap := []) rfl rfl go_38 (hcall3 (impl_allGo.spec k1 _ _ (⟨x11, []⟩ : TLocks) (rd x9 x4) x12 v16 v6 h12 _ hx8) (by rintro v s1 A1 ⟨rfl, rfl⟩; exact trivial))) (by decide) (fun v w a hR hF => ?_)
                obtain ⟨s20, s21, A9, hg14, hS, hR⟩ := hR
                obtain ⟨hv9, rfl⟩ := hR; obtain rfl := hv9.symm
                have hS : St e s20 w [Ow kTGrant 33 v16 x11, Ow kTGrant 33 v14 x8, Ow (Kd.int .i64) 3 v15 x10, Ow kTGrant 33 v8 x9, pt g4 26 ([v16, v6]), pt g3 26 ([(.slice none 0 0), (.slice none 0 0)]), pt g1 26 ([v1, v2])] := hS
                refine gonE (j := 1) hF rfl rfl hc3 ?_
                refine stp hF (p_not rfl) (by decide) (fun a hF => ?_)
                refine stp hF (p_pickF rfl hc3 rfl) (by decide) (fun a hF => ?_)
                refine nilN ?_
                refine xn ?_
                obtain rfl := hsm H
                replace hS := hS.sel (is := [1, 0, 0, 0, 0, 0, 0]) (A' := [Ow kTGrant 33 v14 x8, Ow kTGrant 33 v16 x11, Ow (Kd.int .i64) 3 v15 x10, Ow kTGrant 33 v8 x9, pt g4 26 ([v16, v6]), pt g3 26 ([(.slice none 0 0), (.slice none 0 0)]), pt g1 26 ([v1, v2])]) rfl
                exact ⟨(!x16), s20, hS, hF.cut ⟨rfl, rfl, rfl, rfl, rfl, rfl, rfl, rfl, rfl, rfl, trivial⟩, hg14, HK3⟩
            · clear H HK3 hS hF
              rintro a w ⟨x13, s18, hS, hF, hg15, H⟩
              unfold impl_DropAll.c3 at H
              refine nilN ?_
              refine xn ?_
              refine cnd hF rfl (fun hc4 => ?_) (fun hc4 => ?_)
              · replace H := hbt hc4 H
                refine sq ?_
                refine rg ?_
                refine stp hF (p_move rfl) (by decide) (fun a hF => ?_)
                obtain ⟨c6, h13, p4⟩ := p_ldr_agg (P := Try.prog) ((h9.mono hg12).mono hg15) ia_33 ti_33
                obtain rfl := kTGrant_open h13
                refine stp hF (p4 rfl hS.ro) (by decide) (fun a hF => ?_)
                refine ste hF (e_bslice (kd := kTGrant) (et := 33) (ps := [(0, (.tmp 55))]) (vs := [(0, (.agg #[(.int .i64 ((rd x9 x4).Tx)), (.int .i64 ((rd x9 x4).Res)), (.int .i64 ((rd x9 x4).Mode))]))]) (cs := [(.int .i64 ((rd x9 x4).Tx)), (.int .i64 ((rd x9 x4).Res)), (.int .i64 ((rd x9 x4).Mode))]) (xs := ([(rd x9 x4)] : List TGrant)) hS rfl (by intro w; kernel_rfl) rfl (by decide) (Nat.le_of_ble_eq_true rfl) (by exact (rows_cons (kd := kTGrant) (x := (rd x9 x4)) (c := [(.int .i64 ((rd x9 x4).Tx)), (.int .i64 ((rd x9 x4).Res)), (.int .i64 ((rd x9 x4).Mode))]) (cs := []) (kTGrant_mk (x := (rd x9 x4)) ) (Rows.nil _ _ _ _)))) (by decide) (fun v20 w a hR hF => ?_)
                have hS : St e s18 w [Ow kTGrant 33 v20 ([(rd x9 x4)] : List TGrant), Ow kTGrant 33 v14 x8, Ow kTGrant 33 v16 x11, Ow (Kd.int .i64) 3 v15 x10, Ow kTGrant 33 v8 x9, pt g4 26 ([v16, v6]), pt g3 26 ([(.slice none 0 0), (.slice none 0 0)]), pt g1 26 ([v1, v2])] := hR
                obtain ⟨hq2, H⟩ := hck H
                refine ste hF (e_append (n := 1) hS rfl rfl rfl (hS.src (n := 0) rfl) un_24 ti_33 rfl (by decide) (by decide) (Nat.le_trans (Nat.mul_le_mul_right 24 hq2) (by decide))) (by decide) (fun v21 w a hR hF => ?_)
                have hS : St e s18 w [Ow kTGrant 33 v21 (x8 ++ ([(rd x9 x4)] : List TGrant)), Ow kTGrant 33 v20 ([(rd x9 x4)] : List TGrant), Ow kTGrant 33 v16 x11, Ow (Kd.int .i64) 3 v15 x10, Ow kTGrant 33 v8 x9, pt g4 26 ([v16, v6]), pt g3 26 ([(.slice none 0 0), (.slice none 0 0)]), pt g1 26 ([v1, v2])] := hR
                replace hS := hS.sel (is := [0, 1, 1, 1, 1, 1, 1]) (A' := [Ow kTGrant 33 v21 (x8 ++ ([(rd x9 x4)] : List TGrant)), Ow kTGrant 33 v16 x11, Ow (Kd.int .i64) 3 v15 x10, Ow kTGrant 33 v8 x9, pt g4 26 ([v16, v6]), pt g3 26 ([(.slice none 0 0), (.slice none 0 0)]), pt g1 26 ([v1, v2])]) rfl
                refine stp hF (p_assign rfl) (by decide) (fun a hF => ?_)
                refine nilN ?_
                refine xn ?_
                refine exi ?_
                refine xe (hit (xn ?_))
                obtain rfl := hsm H
                replace hS := hS.sel (is := [0, 1, 1, 1, 0, 0, 0]) (A' := [Ow kTGrant 33 v21 (x8 ++ ([(rd x9 x4)] : List TGrant)), Ow (Kd.int .i64) 3 v15 x10, Ow kTGrant 33 v8 x9, pt g4 26 ([v16, v6]), Ow kTGrant 33 v16 x11, pt g3 26 ([(.slice none 0 0), (.slice none 0 0)]), pt g1 26 ([v1, v2])]) rfl
                exact ⟨(x8 ++ ([(rd x9 x4)] : List TGrant)), x10, x11, s18, v21, v15, v16, hS, hF.cut ⟨rfl, rfl, rfl, rfl, rfl, rfl, rfl, trivial⟩, (((hg9.trans hg10).trans hg12).trans hg15), HK2⟩
              · replace H := hbf hc4 H
                refine skN ?_
                refine xn ?_
                refine sq ?_
                refine rg ?_
                obtain ⟨c7, h14, p5⟩ := p_ldr_agg (P := Try.prog) ((h9.mono hg12).mono hg15) ia_33 ti_33
                obtain rfl := kTGrant_open h14
                refine stp hF (p5 rfl hS.ro) (by decide) (fun a hF => ?_)
                refine stp hF (p_move rfl) (by decide) (fun a hF => ?_)
                replace hS := hS.sel (is := [4, 1, 0, 0, 0, 0, 0]) (A' := [pt g4 26 ([v16, v6]), Ow kTGrant 33 v16 x11, Ow kTGrant 33 v14 x8, Ow (Kd.int .i64) 3 v15 x10, Ow kTGrant 33 v8 x9, pt g3 26 ([(.slice none 0 0), (.slice none 0 0)]), pt g1 26 ([v1, v2])]) rfl
                obtain ⟨x14, hx9, H⟩ := hb H
                refine ste hF (e_call (fst := []) (vs := [(.pointer (some ⟨g4, 0, none⟩)), (.agg #[(.int .i64 ((rd x9 x4).Tx)), (.int .i64 ((rd x9 x4).Res)), (.int .i64 ((rd x9 x4).Mode))]), (.int .i64 x12)]) (cap := []) rfl rfl go_39 (St.call (A := [pt g4 26 ([v16, v6]), Ow kTGrant 33 v16 x11]) (B := [Ow kTGrant 33 v14 x8, Ow (Kd.int .i64) 3 v15 x10, Ow kTGrant 33 v8 x9, pt g3 26 ([(.slice none 0 0), (.slice none 0 0)]), pt g1 26 ([v1, v2])]) hS (impl_Locks_give.spec k1 _ _ x11 (rd x9 x4) x12 v16 v6 g4 _ hx9))) (by decide) (fun v w a hR hF => ?_)
                obtain ⟨s22, A10, hg16, hS, hR⟩ := hR
                obtain ⟨v22, hv10, rfl⟩ := hR; obtain rfl := hv10.symm
                have hS : St e s22 w [pt g4 26 ([v22, v6]), Ow kTGrant 33 v22 x14, Ow kTGrant 33 v14 x8, Ow (Kd.int .i64) 3 v15 x10, Ow kTGrant 33 v8 x9, pt g3 26 ([(.slice none 0 0), (.slice none 0 0)]), pt g1 26 ([v1, v2])] := hS
                refine nilN ?_
                refine xn ?_
                refine rg ?_
                refine stp hF (p_move rfl) (by decide) (fun a hF => ?_)
                have h15 : Pr (Kd.int .i64) s22 ((⟨g5, 0, none⟩ : Addr).add 0) ((rd x9 x4).Tx) := (((h9.mono hg12).mono hg15).mono hg16).lens kTGrant_Tx
                refine stp hF (p_fld rfl fi_33_0) (by decide) (fun a hF => ?_)
                refine stp hF (p_ldr_int rfl hS h15 ia_3) (by decide) (fun a hF => ?_)
                refine ste hF (e_bslice (kd := (Kd.int .i64)) (et := 3) (ps := [(0, (.tmp 63))]) (vs := [(0, (.int .i64 ((rd x9 x4).Tx)))]) (cs := [(.int .i64 ((rd x9 x4).Tx))]) (xs := ([(rd x9 x4).Tx] : List Int)) hS rfl (by intro w; kernel_rfl) rfl (by decide) (Nat.le_of_ble_eq_true rfl) (by exact (rows_cons (kd := (Kd.int .i64)) (x := (rd x9 x4).Tx) (c := [(.int .i64 ((rd x9 x4).Tx))]) (cs := []) rfl (Rows.nil _ _ _ _)))) (by decide) (fun v23 w a hR hF => ?_)
                have hS : St e s22 w [Ow (Kd.int .i64) 3 v23 ([(rd x9 x4).Tx] : List Int), pt g4 26 ([v22, v6]), Ow kTGrant 33 v22 x14, Ow kTGrant 33 v14 x8, Ow (Kd.int .i64) 3 v15 x10, Ow kTGrant 33 v8 x9, pt g3 26 ([(.slice none 0 0), (.slice none 0 0)]), pt g1 26 ([v1, v2])] := hR
                obtain ⟨hq3, H⟩ := hck H
                refine ste hF (e_append (n := 4) hS rfl rfl rfl (hS.src (n := 0) rfl) un_39 ti_3 rfl (by decide) (by decide) (Nat.le_trans (Nat.mul_le_mul_right 8 hq3) (by decide))) (by decide) (fun v24 w a hR hF => ?_)
                have hS : St e s22 w [Ow (Kd.int .i64) 3 v24 (x10 ++ ([(rd x9 x4).Tx] : List Int)), Ow (Kd.int .i64) 3 v23 ([(rd x9 x4).Tx] : List Int), pt g4 26 ([v22, v6]), Ow kTGrant 33 v22 x14, Ow kTGrant 33 v14 x8, Ow kTGrant 33 v8 x9, pt g3 26 ([(.slice none 0 0), (.slice none 0 0)]), pt g1 26 ([v1, v2])] := hR
                replace hS := hS.sel (is := [0, 1, 1, 1, 1, 1, 1]) (A' := [Ow (Kd.int .i64) 3 v24 (x10 ++ ([(rd x9 x4).Tx] : List Int)), pt g4 26 ([v22, v6]), Ow kTGrant 33 v22 x14, Ow kTGrant 33 v14 x8, Ow kTGrant 33 v8 x9, pt g3 26 ([(.slice none 0 0), (.slice none 0 0)]), pt g1 26 ([v1, v2])]) rfl
                refine stp hF (p_assign rfl) (by decide) (fun a hF => ?_)
                refine nilN ?_
                refine bn (xn ?_)
                obtain rfl := hsm H
                replace hS := hS.sel (is := [3, 0, 2, 0, 0, 0, 0]) (A' := [Ow kTGrant 33 v14 x8, Ow (Kd.int .i64) 3 v24 (x10 ++ ([(rd x9 x4).Tx] : List Int)), Ow kTGrant 33 v8 x9, pt g4 26 ([v22, v6]), Ow kTGrant 33 v22 x14, pt g3 26 ([(.slice none 0 0), (.slice none 0 0)]), pt g1 26 ([v1, v2])]) rfl
                exact ⟨x8, (x10 ++ ([(rd x9 x4).Tx] : List Int)), x14, s22, v14, v24, v22, hS, hF.cut ⟨rfl, rfl, rfl, rfl, rfl, rfl, rfl, trivial⟩, ((((hg9.trans hg10).trans hg12).trans hg15).trans hg16), HK2⟩
          · clear H HK2 hS hF
            rintro a w ⟨x5, x6, x7, s10, v17, v18, v19, hS, hF, hg17, H⟩
            unfold impl_DropAll.c2 at H
            refine rg ?_
            refine stp hF (p_add (c := w64 (x4 + 1)) rfl rfl rfl) (by decide) (fun a hF => ?_)
            refine stp hF (p_move rfl) (by decide) (fun a hF => ?_)
            refine nilN ?_
            refine xn ?_
            exact ⟨x5, x6, x7, (w64 (x4 + 1)), s10, v17, v18, v19, hS, hF.cut ⟨rfl, rfl, rfl, rfl, rfl, rfl, rfl, trivial⟩, (hg7.trans hg17), H⟩
        · replace H := hbf hc2 H
          refine exi ?_
          refine xe (xe (hit (xn ?_)))
          obtain rfl := hsm H
          exact ⟨x8, x10, x11, s9, v14, v15, v16, hS, hF.cut ⟨rfl, rfl, rfl, rfl, trivial⟩, hg7, HK1⟩
    · clear H HK1 hS hF
      rintro a w ⟨x1, x2, x3, s8, v11, v12, v13, hS, hF, hg18, H⟩
      unfold impl_DropAll.c1 at H
      refine sq ?_
      refine rg ?_
      refine stp hF (p_move rfl) (by decide) (fun a hF => ?_)
      refine stp hF (p_fldb (o' := 1) rfl fi_26_1 rfl) (by decide) (fun a hF => ?_)
      refine ste0 hF (e_stb (i := 3) (l := [v13]) (m := [v6]) (r := []) (m' := [v11]) (cs' := [v13, v11]) hS rfl rfl rfl ti_24 rfl rfl rfl (cells_one (hS.one_ow (i := 0) rfl)) rfl (one_cons (hS.one_ow (i := 0) rfl) one_nil) rfl) (fun v w a hR hF => ?_)
      have hS : St e s8 w [pt g4 26 ([v13, v11]), Ow kTGrant 33 v11 x1, Ow (Kd.int .i64) 3 v12 x2, Ow kTGrant 33 v8 x9, Ow kTGrant 33 v13 x3, pt g3 26 ([(.slice none 0 0), (.slice none 0 0)]), pt g1 26 ([v1, v2])] := hR
      refine nilN ?_
      refine xn ?_
      refine sq ?_
      refine rg ?_
      refine stp hF (p_ldb_agg (i := 0) (l := []) (m := [v13, v11]) (r := []) hS rfl rfl ia_26 ti_26 rfl rfl rfl) (by decide) (fun a hF => ?_)
      refine stp hF (p_move rfl) (by decide) (fun a hF => ?_)
      refine ste0 hF (e_stb (i := 5) (l := []) (m := [(.slice none 0 0), (.slice none 0 0)]) (r := []) (m' := [v13, v11]) (cs' := [v13, v11]) hS rfl rfl rfl ti_26 rfl rfl rfl rfl rfl (one_cons (hS.one_ow (i := 4) rfl) (one_cons (hS.one_ow (i := 1) rfl) one_nil)) rfl) (fun v w a hR hF => ?_)
      have hS : St e s8 w [pt g3 26 ([v13, v11]), pt g4 26 ([v13, v11]), Ow kTGrant 33 v11 x1, Ow (Kd.int .i64) 3 v12 x2, Ow kTGrant 33 v8 x9, Ow kTGrant 33 v13 x3, pt g1 26 ([v1, v2])] := hR
      refine stp hF (p_assign rfl) (by decide) (fun a hF => ?_)
      refine nilN ?_
      refine xn ?_
      refine rt ?_
      obtain rfl := hsm H
      have h16 : RvOk Try.prog _ w (.cell 4 26) _ := rvC (i := 0) hS rfl (show lk [(4, (.pointer (some ⟨g3, 0, none⟩))), (5, v12)] 4 = _ from rfl) ia_26 ti_26 rfl
      replace hS := hS.sel (is := [5, 2, 2]) (A' := [Ow kTGrant 33 v13 x3, Ow kTGrant 33 v11 x1, Ow (Kd.int .i64) 3 v12 x2]) rfl
      exact retc2 hF rfl h16 (rvT rfl) hS ⟨v13, v11, v12, rfl, rfl⟩

def spec_DrawLocks.f (k : Nat) (x1 : (List Int)) : Option TLocks :=
  ((spec_l1New.f k x1).bind fun x2 => ((spec_l1Size.f k x1 30).bind fun x3 => ((spec_l9Draw.f k x2.b x2.i x2.h_ x3).bind fun x4 => (some x4.1))))
set_option maxRecDepth 100000 in
set_option maxHeartbeats 4000000 in
theorem spec_DrawLocks.spec (k : Nat) (s0 : HF) (w : World) (x1 : (List Int)) (v1 : Value) (h1 : Sl (Kd.int .u8) s0 v1 x1) (r : TLocks) (H : spec_DrawLocks.f k x1 = some r) :
    Law Try.prog 22 #[v1] s0 w [] (fun v s1 A1 => ∃ (u0 : Value) (u1 : Value), v = (.agg #[u0, u1]) ∧ A1 = [Ow kTGrant 33 u0 r.Given, Ow kTGrant 33 u1 r.Waits]) := by
  unfold spec_DrawLocks.f at H
  refine Law.intro Try.func22 rfl [(0, v1)] (Nat.le_of_ble_eq_true rfl) (enter_lk ⟨rfl, trivial⟩) (fun e a hS hF => ?_)
  have hF : Fr 10 a [(0, v1)] := hF
  refine sq ?_
  refine rg ?_
  refine ste hF (e_alloc (cs := [(.slice none 0 0), (.slice none 0 0)]) hS ti_26 rfl) (by decide) (fun v w a hR hF => ?_)
  obtain ⟨g1, rfl, hS⟩ := hR
  refine nilN ?_
  refine xn ?_
  refine sq ?_
  refine rg ?_
  refine stp hF (p_move rfl) (by decide) (fun a hF => ?_)
  obtain ⟨x2, hx1, H⟩ := hb H
  refine ste hF (e_call (fst := []) (vs := [v1]) (cap := []) rfl rfl go_27 (St.call (A := []) (B := [pt g1 26 ([(.slice none 0 0), (.slice none 0 0)])]) hS (spec_l1New.spec k _ _ x1 v1 h1 _ hx1))) (by decide) (fun v w a hR hF => ?_)
  obtain ⟨s2, A2, hg1, hS, hR⟩ := hR
  obtain ⟨g2, v2, hv1, rfl, h2⟩ := hR; obtain rfl := hv1.symm
  have hS : St e s2 w [pt g2 74 ([v2, (.int .i64 x2.i), (.int .i64 x2.h_)]), pt g1 26 ([(.slice none 0 0), (.slice none 0 0)])] := hS
  refine stp hF (p_assign rfl) (by decide) (fun a hF => ?_)
  refine nilN ?_
  refine xn ?_
  refine sq ?_
  refine rg ?_
  refine stp hF (p_move rfl) (by decide) (fun a hF => ?_)
  refine stp hF (p_move rfl) (by decide) (fun a hF => ?_)
  obtain ⟨x3, hx2, H⟩ := hb H
  refine ste hF (e_call (fst := []) (vs := [v1, (.int .i64 30)]) (cap := []) rfl rfl go_29 (St.call (A := []) (B := [pt g2 74 ([v2, (.int .i64 x2.i), (.int .i64 x2.h_)]), pt g1 26 ([(.slice none 0 0), (.slice none 0 0)])]) hS (spec_l1Size.spec k _ _ x1 30 v1 (h1.mono hg1) _ hx2))) (by decide) (fun v w a hR hF => ?_)
  obtain ⟨s3, A3, hg2, hS, hR⟩ := hR
  obtain ⟨hv2, rfl⟩ := hR; obtain rfl := hv2.symm
  have hS : St e s3 w [pt g2 74 ([v2, (.int .i64 x2.i), (.int .i64 x2.h_)]), pt g1 26 ([(.slice none 0 0), (.slice none 0 0)])] := hS
  obtain ⟨x4, hx3, H⟩ := hb H
  refine ste hF (e_call (fst := []) (vs := [(.pointer (some ⟨g2, 0, none⟩)), (.int .i64 x3)]) (cap := []) rfl rfl go_57 (St.call (A := [pt g2 74 ([v2, (.int .i64 x2.i), (.int .i64 x2.h_)])]) (B := [pt g1 26 ([(.slice none 0 0), (.slice none 0 0)])]) hS (spec_l9Draw.spec k _ _ x2.b x2.i x2.h_ x3 v2 g2 (h2.mono hg2) _ hx3))) (by decide) (fun v w a hR hF => ?_)
  obtain ⟨s4, A4, hg3, hS, hR⟩ := hR
  obtain ⟨v3, v4, v5, hv3, rfl, h3⟩ := hR; obtain rfl := hv3.symm
  have hS : St e s4 w [pt g2 74 ([v3, (.int .i64 x4.2.2.1), (.int .i64 x4.2.2.2)]), Ow kTGrant 33 v4 x4.1.Given, Ow kTGrant 33 v5 x4.1.Waits, pt g1 26 ([(.slice none 0 0), (.slice none 0 0)])] := hS
  refine ste0 hF (e_stb (i := 3) (l := []) (m := [(.slice none 0 0), (.slice none 0 0)]) (r := []) (m' := [v4, v5]) (cs' := [v4, v5]) hS rfl rfl rfl ti_26 rfl rfl rfl rfl rfl (one_cons (hS.one_ow (i := 1) rfl) (one_cons (hS.one_ow (i := 2) rfl) one_nil)) rfl) (fun v w a hR hF => ?_)
  have hS : St e s4 w [pt g1 26 ([v4, v5]), pt g2 74 ([v3, (.int .i64 x4.2.2.1), (.int .i64 x4.2.2.2)]), Ow kTGrant 33 v4 x4.1.Given, Ow kTGrant 33 v5 x4.1.Waits] := hR
  refine nilN ?_
  refine xn ?_
  refine rt ?_
  obtain rfl := hsm H
  have h4 : RvOk Try.prog _ w (.cell 2 26) _ := rvC (i := 0) hS rfl (show lk [(2, (.pointer (some ⟨g1, 0, none⟩)))] 2 = _ from rfl) ia_26 ti_26 rfl
  replace hS := hS.sel (is := [2, 2]) (A' := [Ow kTGrant 33 v4 x4.1.Given, Ow kTGrant 33 v5 x4.1.Waits]) rfl
  exact retc1 hF rfl h4 hS ⟨v4, v5, rfl, rfl⟩

def laws_at.f (k : Nat) (x1 : (List Int)) (x2 : Int) : Option Int :=
  (if (decide (x2 < (x1.length : Int))) = true then (if 0 ≤ x2 ∧ x2 < (x1.length : Int) then (some (w64 (rd x1 x2))) else none) else (some ((w64 ((w64 (x2 * 31)) + (w64 ((x1.length : Int) * 7)))).tmod 256)))
set_option maxRecDepth 100000 in
set_option maxHeartbeats 4000000 in
theorem laws_at.spec (k : Nat) (s0 : HF) (w : World) (x1 : (List Int)) (x2 : Int) (v1 : Value) (h1 : Sl (Kd.int .u8) s0 v1 x1) (r : Int) (H : laws_at.f k x1 x2 = some r) :
    Law Try.prog 23 #[v1, (.int .i64 x2)] s0 w [] (fun v s1 A1 => v = (.int .i64 r) ∧ A1 = []) := by
  unfold laws_at.f at H
  refine Law.intro Try.func23 rfl [(0, v1), (1, (.int .i64 x2))] (Nat.le_of_ble_eq_true rfl) (enter_lk ⟨rfl, rfl, trivial⟩) (fun e a hS hF => ?_)
  have hF : Fr 21 a [(0, v1), (1, (.int .i64 x2))] := hF
  refine sq ?_
  refine rg ?_
  refine stp hF (p_assign rfl) (by decide) (fun a hF => ?_)
  refine nilN ?_
  refine xn ?_
  refine sq ?_
  refine sq ?_
  refine rg ?_
  refine stp hF (p_move rfl) (by decide) (fun a hF => ?_)
  refine stp hF (p_move rfl) (by decide) (fun a hF => ?_)
  refine stp hF (p_lenr un_22 rfl h1) (by decide) (fun a hF => ?_)
  refine stp hF (p_lss rfl rfl) (by decide) (fun a hF => ?_)
  refine nilN ?_
  refine xn ?_
  refine cnd hF rfl (fun hc1 => ?_) (fun hc1 => ?_)
  · replace H := hbt hc1 H
    refine sq ?_
    refine rg ?_
    refine stp hF (p_move rfl) (by decide) (fun a hF => ?_)
    refine stp hF (p_move rfl) (by decide) (fun a hF => ?_)
    obtain ⟨hq1, H⟩ := hck H
    obtain ⟨ad1, h2, p1⟩ := p_idxr (P := Try.prog) (i := x2) h1 un_22 ti_5 hq1.1 hq1.2
    refine stp hF (p1 rfl rfl) (by decide) (fun a hF => ?_)
    refine stp hF (p_ldr_int rfl hS h2 ia_5) (by decide) (fun a hF => ?_)
    refine stp hF (p_cvint (c := w64 (rd x1 x2)) un_5 un_3 rfl rfl) (by decide) (fun a hF => ?_)
    refine stp hF (p_assign rfl) (by decide) (fun a hF => ?_)
    refine nilN ?_
    refine xn ?_
    refine rt ?_
    refine xr ?_
    obtain rfl := hsm H
    exact ret1 hF rfl rfl hS ⟨rfl, rfl⟩
  · replace H := hbf hc1 H
    refine skN ?_
    refine xn ?_
    refine sq ?_
    refine rg ?_
    refine stp hF (p_move rfl) (by decide) (fun a hF => ?_)
    refine stp hF (p_mul (c := w64 (x2 * 31)) rfl rfl rfl) (by decide) (fun a hF => ?_)
    refine stp hF (p_move rfl) (by decide) (fun a hF => ?_)
    refine stp hF (p_lenr un_22 rfl h1) (by decide) (fun a hF => ?_)
    refine stp hF (p_mul (c := w64 ((x1.length : Int) * 7)) rfl rfl rfl) (by decide) (fun a hF => ?_)
    refine stp hF (p_add (c := w64 ((w64 (x2 * 31)) + (w64 ((x1.length : Int) * 7)))) rfl rfl rfl) (by decide) (fun a hF => ?_)
    refine stp hF (p_rem (c := (w64 ((w64 (x2 * 31)) + (w64 ((x1.length : Int) * 7)))).tmod 256) rfl rfl (by decide) rfl) (by decide) (fun a hF => ?_)
    refine stp hF (p_assign rfl) (by decide) (fun a hF => ?_)
    refine nilN ?_
    refine xn ?_
    refine rt ?_
    obtain rfl := hsm H
    exact ret1 hF rfl rfl hS ⟨rfl, rfl⟩

def laws_sameInts.c1 (k : Nat) : Option Bool :=
  (some true)
def laws_sameInts.l1 (x1 : (List Int)) (x2 : (List Int)) : Nat → Int → Option (Ex Bool Unit)
  | 0, _ => none
  | k + 1, x3 => (if (decide (x3 < (x1.length : Int))) = true then (if 0 ≤ x3 ∧ x3 < (x1.length : Int) then (if 0 ≤ x3 ∧ x3 < (x2.length : Int) then (if (decide ((rd x1 x3) ≠ (rd x2 x3))) = true then (some (Ex.ret false)) else ((laws_sameInts.l1 x1 x2 k) (w64 (x3 + 1)))) else none) else none) else (some (Ex.go ())))
def laws_sameInts.f (k : Nat) (x1 : (List Int)) (x2 : (List Int)) : Option Bool :=
  (if (decide ((x1.length : Int) ≠ (x2.length : Int))) = true then (some false) else (((laws_sameInts.l1 x1 x2 k 0) : Option (Ex Bool Unit)).bind fun x4 => Ex.on x4 (fun r => some r) (fun y => laws_sameInts.c1 k)))
set_option maxRecDepth 100000 in
set_option maxHeartbeats 4000000 in
theorem laws_sameInts.spec (k : Nat) (s0 : HF) (w : World) (x1 : (List Int)) (x2 : (List Int)) (v1 : Value) (v2 : Value) (h1 : Sl (Kd.int .i64) s0 v1 x1) (h2 : Sl (Kd.int .i64) s0 v2 x2) (r : Bool) (H : laws_sameInts.f k x1 x2 = some r) :
    Law Try.prog 24 #[v1, v2] s0 w [] (fun v s1 A1 => v = (.bool r) ∧ A1 = []) := by
  unfold laws_sameInts.f at H
  refine Law.intro Try.func24 rfl [(0, v1), (1, v2)] (Nat.le_of_ble_eq_true rfl) (enter_lk ⟨rfl, rfl, trivial⟩) (fun e a hS hF => ?_)
  have hF : Fr 26 a [(0, v1), (1, v2)] := hF
  refine sq ?_
  refine rg ?_
  refine stp hF (p_assign rfl) (by decide) (fun a hF => ?_)
  refine nilN ?_
  refine xn ?_
  refine sq ?_
  refine sq ?_
  refine rg ?_
  refine stp hF (p_move rfl) (by decide) (fun a hF => ?_)
  refine stp hF (p_lenr un_39 rfl h1) (by decide) (fun a hF => ?_)
  refine stp hF (p_move rfl) (by decide) (fun a hF => ?_)
  refine stp hF (p_lenr un_39 rfl h2) (by decide) (fun a hF => ?_)
  refine stp hF (p_neq rfl rfl) (by decide) (fun a hF => ?_)
  refine nilN ?_
  refine xn ?_
  refine cnd hF rfl (fun hc1 => ?_) (fun hc1 => ?_)
  · replace H := hbt hc1 H
    refine sq ?_
    refine rg ?_
    refine stp hF (p_assign rfl) (by decide) (fun a hF => ?_)
    refine nilN ?_
    refine xn ?_
    refine rt ?_
    refine xr ?_
    obtain rfl := hsm H
    exact ret1 hF rfl rfl hS ⟨rfl, rfl⟩
  · replace H := hbf hc1 H
    refine skN ?_
    refine xn ?_
    obtain ⟨x4, H, HK1⟩ := hb H
    refine sqj (fun a w => St e s0 w [] ∧ Fr 26 a [] ∧ laws_sameInts.c1 k = some r) ?_ ?_
    · skip
      refine sq ?_
      refine rg ?_
      refine stp hF (p_assign rfl) (by decide) (fun a hF => ?_)
      refine nilN ?_
      refine xn ?_
      refine blk ?_
      refine loop_ind (fun k1 a w => ∃ (x3 : Int) , St e s0 w [] ∧ Fr 26 a [(0, v1), (1, v2), (5, (.int .i64 x3))] ∧ laws_sameInts.l1 x1 x2 k1 x3 = some x4) k ?_ ?_ ?_
      · skip
        exact ⟨0, hS, hF.cut ⟨rfl, rfl, rfl, trivial⟩, H⟩
      · clear H hS hF
        rintro a w ⟨x3, hS, hF, H⟩
        exact absurd (show none = some _ from H) (by simp)
      · clear H hS hF
        rintro k1 a w ⟨x3, hS, hF, H⟩
        rw [laws_sameInts.l1.eq_2] at H
        refine sq ?_
        refine sq ?_
        refine rg ?_
        refine stp hF (p_move rfl) (by decide) (fun a hF => ?_)
        refine stp hF (p_move rfl) (by decide) (fun a hF => ?_)
        refine stp hF (p_lenr un_39 rfl h1) (by decide) (fun a hF => ?_)
        refine stp hF (p_lss rfl rfl) (by decide) (fun a hF => ?_)
        refine nilN ?_
        refine xn ?_
        refine cnd hF rfl (fun hc2 => ?_) (fun hc2 => ?_)
        · replace H := hbt hc2 H
          refine skN ?_
          refine xn ?_
          refine sq ?_
          refine blk ?_
          refine sq ?_
          replace hS : St e s0 w.drew [] := hS.drewN 1
          refine drw [0, 1, 2, 3, 4, 5, 6, 7, 8] mixed (by kernel_rfl) (by decide) (hF.cut (L' := [(0, v1), (1, v2), (5, (.int .i64 x3)), (11, (.int .i64 x3)), (12, v1), (13, (.int .i64 (x1.length : Int))), (14, (.bool (decide (x3 < (x1.length : Int)))))]) ⟨rfl, rfl, rfl, rfl, rfl, rfl, rfl, trivial⟩) ?_
          clear hF
          generalize w.drew = w at hS ⊢
          refine pk1 rfl (by decide) rfl (by kernel_rfl) rfl (p_move rfl) ?_
          refine pk1 rfl (by decide) rfl (by kernel_rfl) rfl (p_move rfl) ?_
          obtain ⟨hq1, H⟩ := hck H
          obtain ⟨ad1, h3, p1⟩ := p_idxr (P := Try.prog) (i := x3) h1 un_39 ti_3 hq1.1 hq1.2
          refine pk1 rfl (by decide) rfl (by kernel_rfl) rfl (p1 rfl rfl) ?_
          refine pk1 rfl (by decide) rfl (by kernel_rfl) rfl (p_ldr_int rfl hS h3 ia_3) ?_
          refine pk1 rfl (by decide) rfl (by kernel_rfl) rfl (p_move rfl) ?_
          refine pk1 rfl (by decide) rfl (by kernel_rfl) rfl (p_move rfl) ?_
          obtain ⟨hq2, H⟩ := hck H
          obtain ⟨ad2, h4, p2⟩ := p_idxr (P := Try.prog) (i := x3) h2 un_39 ti_3 hq2.1 hq2.2
          refine pk1 rfl (by decide) rfl (by kernel_rfl) rfl (p2 rfl rfl) ?_
          refine pk1 rfl (by decide) rfl (by kernel_rfl) rfl (p_ldr_int rfl hS h4 ia_3) ?_
          refine pk1 rfl (by decide) rfl (by kernel_rfl) rfl (p_neq rfl rfl) ?_
          refine pkF (fun a hF => ?_)
          refine xn ?_
          refine cnd hF rfl (fun hc3 => ?_) (fun hc3 => ?_)
          · replace H := hbt hc3 H
            refine sq ?_
            refine rg ?_
            refine stp hF (p_assign rfl) (by decide) (fun a hF => ?_)
            refine nilN ?_
            refine xn ?_
            refine rt ?_
            refine br (xr (xr (br (xr ?_))))
            obtain rfl := hsm H
            have H := hon1 HK1
            obtain rfl := hsm H
            exact ret1 hF rfl rfl hS ⟨rfl, rfl⟩
          · replace H := hbf hc3 H
            refine skN ?_
            refine bn (xn ?_)
            refine rg ?_
            refine stp hF (p_move rfl) (by decide) (fun a hF => ?_)
            refine stp hF (p_add (c := w64 (x3 + 1)) rfl rfl rfl) (by decide) (fun a hF => ?_)
            refine stp hF (p_assign rfl) (by decide) (fun a hF => ?_)
            refine nilN ?_
            refine xn ?_
            exact ⟨(w64 (x3 + 1)), hS, hF.cut ⟨rfl, rfl, rfl, trivial⟩, H⟩
        · replace H := hbf hc2 H
          refine exi ?_
          refine xe (xe (hit (xn ?_)))
          obtain rfl := hsm H
          exact ⟨hS, hF.cut trivial, HK1⟩
    · clear H HK1 hS hF
      rintro a w ⟨hS, hF, H⟩
      unfold laws_sameInts.c1 at H
      refine sq ?_
      refine rg ?_
      refine stp hF (p_assign rfl) (by decide) (fun a hF => ?_)
      refine nilN ?_
      refine xn ?_
      refine rt ?_
      obtain rfl := hsm H
      exact ret1 hF rfl rfl hS ⟨rfl, rfl⟩

def impl_waitsFor.c1 (k : Nat) (x1 : (List Int)) : Option (List Int) :=
  (some x1)
def impl_waitsFor.c2 (k : Nat) (rec_l1 : (List Int) → Int → Option (List Int)) (x2 : Int) (x3 : (List Int)) : Option (List Int) :=
  (rec_l1 x3 (w64 (x2 + 1)))
def impl_waitsFor.l1 (x4 : TLocks) (x5 : Int) : Nat → (List Int) → Int → Option (List Int)
  | 0, _, _ => none
  | k + 1, x6, x2 => (if (decide (x2 < ((cut x4.Waits (0 : Int) x5).length : Int))) = true then (((if 0 ≤ x2 ∧ x2 < ((cut x4.Waits (0 : Int) x5).length : Int) then (if ((decide (((rd (cut x4.Waits (0 : Int) x5) x2).Res) = ((rd x4.Waits x5).Res))) && (decide (((rd (cut x4.Waits (0 : Int) x5) x2).Tx) ≠ ((rd x4.Waits x5).Tx)))) = true then (if x6.length + 1 ≤ 17592186044416 then (some (x6 ++ ([(rd (cut x4.Waits (0 : Int) x5) x2).Tx] : List Int))) else none) else (some x6)) else none) : Option (List Int)).bind fun x7 => impl_waitsFor.c2 k (impl_waitsFor.l1 x4 x5 k) x2 x7) else (some x6))
def impl_waitsFor.c3 (k : Nat) (x5 : Int) (x4 : TLocks) (x8 : (List Int)) : Option (List Int) :=
  (((if 0 ≤ (0 : Int) ∧ (0 : Int) ≤ x5 ∧ x5 ≤ (x4.Waits.length : Int) then (impl_waitsFor.l1 x4 x5 k x8 0) else none) : Option (List Int)).bind fun x9 => impl_waitsFor.c1 k x9)
def impl_waitsFor.c4 (k : Nat) (rec_l2 : (List Int) → Int → Option (List Int)) (x10 : Int) (x11 : (List Int)) : Option (List Int) :=
  (rec_l2 x11 (w64 (x10 + 1)))
def impl_waitsFor.c5 (k : Nat) (x12 : (List Int)) (x4 : TLocks) (x10 : Int) (x13 : Bool) : Option (List Int) :=
  (if x13 = true then (if x12.length + 1 ≤ 17592186044416 then (some (x12 ++ ([(rd x4.Given x10).Tx] : List Int))) else none) else (some x12))
def impl_waitsFor.l2 (x4 : TLocks) (x5 : Int) (x14 : Int) : Nat → (List Int) → Int → Option (List Int)
  | 0, _, _ => none
  | k + 1, x12, x10 => (if (decide (x10 < (x4.Given.length : Int))) = true then (((if 0 ≤ x10 ∧ x10 < (x4.Given.length : Int) then ((if ((decide (((rd x4.Given x10).Res) = ((rd x4.Waits x5).Res))) && (decide (((rd x4.Given x10).Tx) ≠ ((rd x4.Waits x5).Tx)))) = true then ((impl_Goes.f k x14 ((rd x4.Given x10).Mode)).bind fun x15 => (some (!x15))) else (some false) : Option Bool).bind fun x16 => impl_waitsFor.c5 k x12 x4 x10 x16) else none) : Option (List Int)).bind fun x17 => impl_waitsFor.c4 k (impl_waitsFor.l2 x4 x5 x14 k) x10 x17) else (some x12))
def impl_waitsFor.f (k : Nat) (x4 : TLocks) (x5 : Int) : Option (List Int) :=
  (if 0 ≤ x5 ∧ x5 < (x4.Waits.length : Int) then ((impl_would.f k x4 (rd x4.Waits x5)).bind fun x14 => (((impl_waitsFor.l2 x4 x5 x14 k ([] : List Int) 0) : Option (List Int)).bind fun x18 => impl_waitsFor.c3 k x5 x4 x18)) else none)
set_option maxRecDepth 100000 in
set_option maxHeartbeats 4000000 in
theorem impl_waitsFor.spec (k : Nat) (s0 : HF) (w : World) (x4 : TLocks) (x5 : Int) (v1 : Value) (v2 : Value) (h1 : Sl kTGrant s0 v1 x4.Given) (h2 : Sl kTGrant s0 v2 x4.Waits) (r : (List Int)) (H : impl_waitsFor.f k x4 x5 = some r) :
    Law Try.prog 79 #[(.agg #[v1, v2]), (.int .i64 x5)] s0 w [] (fun v s1 A1 => ∃ (u0 : Value), v = u0 ∧ A1 = [Ow (Kd.int .i64) 3 u0 r]) := by
  unfold impl_waitsFor.f at H
  refine Law.intro Try.func79 rfl [(0, (.agg #[v1, v2])), (1, (.int .i64 x5))] (Nat.le_of_ble_eq_true rfl) (enter_lk ⟨rfl, rfl, trivial⟩) (fun e a hS hF => ?_)
  have hF : Fr 81 a [(0, (.agg #[v1, v2])), (1, (.int .i64 x5))] := hF
  refine sq ?_
  refine rg ?_
  refine ste hF (e_box (cs := [v1, v2]) hS rfl rfl) (by decide) (fun v w a hR hF => ?_)
  obtain ⟨g1, rfl, hS⟩ := hR
  refine stp hF (p_assign rfl) (by decide) (fun a hF => ?_)
  refine nilN ?_
  refine xn ?_
  refine sq ?_
  refine rg ?_
  refine stp hF (p_fldb (o' := 1) rfl fi_26_1 rfl) (by decide) (fun a hF => ?_)
  refine stp hF (p_ldb_one (i := 0) hS rfl rfl ia_24 rfl) (by decide) (fun a hF => ?_)
  refine stp hF (p_move rfl) (by decide) (fun a hF => ?_)
  obtain ⟨hq1, H⟩ := hck H
  obtain ⟨ad1, h3, p1⟩ := p_idxr (P := Try.prog) (i := x5) h2 un_24 ti_33 hq1.1 hq1.2
  refine stp hF (p1 rfl rfl) (by decide) (fun a hF => ?_)
  obtain ⟨c6, h4, p2⟩ := p_ldr_agg (P := Try.prog) h3 ia_33 ti_33
  obtain rfl := kTGrant_open h4
  refine stp hF (p2 rfl hS.ro) (by decide) (fun a hF => ?_)
  refine ste hF (e_alloc (cs := [(.int .i64 0), (.int .i64 0), (.int .i64 0)]) hS ti_33 rfl) (by decide) (fun v w a hR hF => ?_)
  obtain ⟨g2, rfl, hS⟩ := hR
  refine ste0 hF (e_stb (i := 0) (l := []) (m := [(.int .i64 0), (.int .i64 0), (.int .i64 0)]) (r := []) (m' := [(.int .i64 ((rd x4.Waits x5).Tx)), (.int .i64 ((rd x4.Waits x5).Res)), (.int .i64 ((rd x4.Waits x5).Mode))]) (cs' := [(.int .i64 ((rd x4.Waits x5).Tx)), (.int .i64 ((rd x4.Waits x5).Res)), (.int .i64 ((rd x4.Waits x5).Mode))]) hS rfl rfl rfl ti_33 rfl rfl rfl rfl rfl (one_cons rfl (one_cons rfl (one_cons rfl one_nil))) rfl) (fun v w a hR hF => ?_)
  have hS : St e s0 w [pt g2 33 ([(.int .i64 ((rd x4.Waits x5).Tx)), (.int .i64 ((rd x4.Waits x5).Res)), (.int .i64 ((rd x4.Waits x5).Mode))]), pt g1 26 ([v1, v2])] := hR
  refine nilN ?_
  refine xn ?_
  refine sq ?_
  refine rg ?_
  refine stp hF (p_ldb_agg (i := 1) (l := []) (m := [v1, v2]) (r := []) hS rfl rfl ia_26 ti_26 rfl rfl rfl) (by decide) (fun a hF => ?_)
  refine stp hF (p_ldb_agg (i := 0) (l := []) (m := [(.int .i64 ((rd x4.Waits x5).Tx)), (.int .i64 ((rd x4.Waits x5).Res)), (.int .i64 ((rd x4.Waits x5).Mode))]) (r := []) hS rfl rfl ia_33 ti_33 rfl rfl rfl) (by decide) (fun a hF => ?_)
  obtain ⟨x14, hx1, H⟩ := hb H
  refine ste hF (e_call (fst := []) (vs := [(.agg #[v1, v2]), (.agg #[(.int .i64 ((rd x4.Waits x5).Tx)), (.int .i64 ((rd x4.Waits x5).Res)), (.int .i64 ((rd x4.Waits x5).Mode))])]) (cap := []) rfl rfl go_34 (St.call (A := []) (B := [pt g2 33 ([(.int .i64 ((rd x4.Waits x5).Tx)), (.int .i64 ((rd x4.Waits x5).Res)), (.int .i64 ((rd x4.Waits x5).Mode))]), pt g1 26 ([v1, v2])]) hS (impl_would.spec k _ _ x4 (rd x4.Waits x5) v1 v2 h1 _ hx1))) (by decide) (fun v w a hR hF => ?_)
  obtain ⟨s2, A2, hg1, hS, hR⟩ := hR
  obtain ⟨hv1, rfl⟩ := hR; obtain rfl := hv1.symm
  have hS : St e s2 w [pt g2 33 ([(.int .i64 ((rd x4.Waits x5).Tx)), (.int .i64 ((rd x4.Waits x5).Res)), (.int .i64 ((rd x4.Waits x5).Mode))]), pt g1 26 ([v1, v2])] := hS
  refine stp hF (p_assign rfl) (by decide) (fun a hF => ?_)
  refine nilN ?_
  refine xn ?_
  refine sq ?_
  refine rg ?_
  refine ste hF (e_bslice (kd := (Kd.int .i64)) (et := 3) (ps := []) (vs := []) (cs := []) (xs := ([] : List Int)) hS rfl (by intro w; kernel_rfl) rfl (by decide) (Nat.le_of_ble_eq_true rfl) (by exact (Rows.nil _ _ _ _))) (by decide) (fun v3 w a hR hF => ?_)
  have hS : St e s2 w [Ow (Kd.int .i64) 3 v3 ([] : List Int), pt g2 33 ([(.int .i64 ((rd x4.Waits x5).Tx)), (.int .i64 ((rd x4.Waits x5).Res)), (.int .i64 ((rd x4.Waits x5).Mode))]), pt g1 26 ([v1, v2])] := hR
  refine stp hF (p_assign rfl) (by decide) (fun a hF => ?_)
  refine nilN ?_
  refine xn ?_
  obtain ⟨x18, H, HK1⟩ := hb H
  refine sqj (fun a w => ∃ (x8 : (List Int)) (s3 : HF) (v4 : Value) , St e s3 w [Ow (Kd.int .i64) 3 v4 x8, pt g2 33 ([(.int .i64 ((rd x4.Waits x5).Tx)), (.int .i64 ((rd x4.Waits x5).Res)), (.int .i64 ((rd x4.Waits x5).Mode))]), pt g1 26 ([v1, v2])] ∧ Fr 81 a [(1, (.int .i64 x5)), (2, (.pointer (some ⟨g1, 0, none⟩))), (5, (.pointer (some ⟨g2, 0, none⟩))), (7, v4)] ∧ Sub s2 s3 ∧ impl_waitsFor.c3 k x5 x4 x8 = some r) ?_ ?_
  · skip
    refine sq ?_
    refine rg ?_
    refine stp hF (p_fldb (o' := 0) rfl fi_26_0 rfl) (by decide) (fun a hF => ?_)
    refine stp hF (p_ldb_one (i := 2) hS rfl rfl ia_24 rfl) (by decide) (fun a hF => ?_)
    refine stp hF (p_lenr un_24 rfl (h1.mono hg1)) (by decide) (fun a hF => ?_)
    refine stp hF (p_move rfl) (by decide) (fun a hF => ?_)
    refine nilN ?_
    refine xn ?_
    refine blk ?_
    refine loop_ind (fun k1 a w => ∃ (x12 : (List Int)) (x10 : Int) (s4 : HF) (v5 : Value) , St e s4 w [Ow (Kd.int .i64) 3 v5 x12, pt g2 33 ([(.int .i64 ((rd x4.Waits x5).Tx)), (.int .i64 ((rd x4.Waits x5).Res)), (.int .i64 ((rd x4.Waits x5).Mode))]), pt g1 26 ([v1, v2])] ∧ Fr 81 a [(1, (.int .i64 x5)), (2, (.pointer (some ⟨g1, 0, none⟩))), (5, (.pointer (some ⟨g2, 0, none⟩))), (6, (.int .i64 x14)), (7, v5), (22, v1), (23, (.int .i64 (x4.Given.length : Int))), (24, (.int .i64 x10))] ∧ Sub s2 s4 ∧ impl_waitsFor.l2 x4 x5 x14 k1 x12 x10 = some x18) k ?_ ?_ ?_
    · skip
      exact ⟨([] : List Int), 0, s2, v3, hS, hF.cut ⟨rfl, rfl, rfl, rfl, rfl, rfl, rfl, rfl, trivial⟩, (Sub.refl _), H⟩
    · clear H hS hF
      rintro a w ⟨x12, x10, s4, v5, hS, hF, hg2, H⟩
      exact absurd (show none = some _ from H) (by simp)
    · clear H hS hF
      rintro k1 a w ⟨x12, x10, s4, v5, hS, hF, hg2, H⟩
      rw [impl_waitsFor.l2.eq_2] at H
      refine sq ?_
      refine rg ?_
      refine stp hF (p_lss rfl rfl) (by decide) (fun a hF => ?_)
      refine nilN ?_
      refine xn ?_
      refine sq ?_
      refine cnd hF rfl (fun hc1 => ?_) (fun hc1 => ?_)
      · replace H := hbt hc1 H
        refine skN ?_
        refine xn ?_
        obtain ⟨x17, H, HK2⟩ := hb H
        refine sqj (fun a w => ∃ (x11 : (List Int)) (s5 : HF) (v6 : Value) , St e s5 w [Ow (Kd.int .i64) 3 v6 x11, pt g2 33 ([(.int .i64 ((rd x4.Waits x5).Tx)), (.int .i64 ((rd x4.Waits x5).Res)), (.int .i64 ((rd x4.Waits x5).Mode))]), pt g1 26 ([v1, v2])] ∧ Fr 81 a [(1, (.int .i64 x5)), (2, (.pointer (some ⟨g1, 0, none⟩))), (5, (.pointer (some ⟨g2, 0, none⟩))), (6, (.int .i64 x14)), (7, v6), (22, v1), (23, (.int .i64 (x4.Given.length : Int))), (24, (.int .i64 x10))] ∧ Sub s4 s5 ∧ impl_waitsFor.c4 k1 (impl_waitsFor.l2 x4 x5 x14 k1) x10 x11 = some x18) ?_ ?_
        · skip
          refine blk ?_
          refine sq ?_
          refine rg ?_
          obtain ⟨hq2, H⟩ := hck H
          obtain ⟨ad2, h5, p3⟩ := p_idxr (P := Try.prog) (i := x10) ((h1.mono hg1).mono hg2) un_24 ti_33 hq2.1 hq2.2
          refine stp hF (p3 rfl rfl) (by decide) (fun a hF => ?_)
          obtain ⟨c7, h6, p4⟩ := p_ldr_agg (P := Try.prog) h5 ia_33 ti_33
          obtain rfl := kTGrant_open h6
          refine stp hF (p4 rfl hS.ro) (by decide) (fun a hF => ?_)
          refine ste hF (e_alloc (cs := [(.int .i64 0), (.int .i64 0), (.int .i64 0)]) hS ti_33 rfl) (by decide) (fun v w a hR hF => ?_)
          obtain ⟨g3, rfl, hS⟩ := hR
          refine ste0 hF (e_stb (i := 0) (l := []) (m := [(.int .i64 0), (.int .i64 0), (.int .i64 0)]) (r := []) (m' := [(.int .i64 ((rd x4.Given x10).Tx)), (.int .i64 ((rd x4.Given x10).Res)), (.int .i64 ((rd x4.Given x10).Mode))]) (cs' := [(.int .i64 ((rd x4.Given x10).Tx)), (.int .i64 ((rd x4.Given x10).Res)), (.int .i64 ((rd x4.Given x10).Mode))]) hS rfl rfl rfl ti_33 rfl rfl rfl rfl rfl (one_cons rfl (one_cons rfl (one_cons rfl one_nil))) rfl) (fun v w a hR hF => ?_)
          have hS : St e s4 w [pt g3 33 ([(.int .i64 ((rd x4.Given x10).Tx)), (.int .i64 ((rd x4.Given x10).Res)), (.int .i64 ((rd x4.Given x10).Mode))]), Ow (Kd.int .i64) 3 v5 x12, pt g2 33 ([(.int .i64 ((rd x4.Waits x5).Tx)), (.int .i64 ((rd x4.Waits x5).Res)), (.int .i64 ((rd x4.Waits x5).Mode))]), pt g1 26 ([v1, v2])] := hR
          refine nilN ?_
          refine xn ?_
          refine sq ?_
          refine rg ?_
          refine stp hF (p_fldb (o' := 1) rfl fi_33_1 rfl) (by decide) (fun a hF => ?_)
          refine stp hF (p_ldb_one (i := 0) hS rfl rfl ia_3 rfl) (by decide) (fun a hF => ?_)
          refine stp hF (p_fldb (o' := 1) rfl fi_33_1 rfl) (by decide) (fun a hF => ?_)
          refine stp hF (p_ldb_one (i := 2) hS rfl rfl ia_3 rfl) (by decide) (fun a hF => ?_)
          refine stp hF (p_eql rfl rfl) (by decide) (fun a hF => ?_)
          refine stp hF (p_move rfl) (by decide) (fun a hF => ?_)
          refine cutj 6 (fun a w => St e s4 w [pt g3 33 ([(.int .i64 ((rd x4.Given x10).Tx)), (.int .i64 ((rd x4.Given x10).Res)), (.int .i64 ((rd x4.Given x10).Mode))]), Ow (Kd.int .i64) 3 v5 x12, pt g2 33 ([(.int .i64 ((rd x4.Waits x5).Tx)), (.int .i64 ((rd x4.Waits x5).Res)), (.int .i64 ((rd x4.Waits x5).Mode))]), pt g1 26 ([v1, v2])] ∧ Fr 81 a [(1, (.int .i64 x5)), (2, (.pointer (some ⟨g1, 0, none⟩))), (5, (.pointer (some ⟨g2, 0, none⟩))), (6, (.int .i64 x14)), (7, v5), (9, (.pointer (some ⟨g3, 0, none⟩))), (22, v1), (23, (.int .i64 (x4.Given.length : Int))), (24, (.int .i64 x10)), (39, (.bool ((decide (((rd x4.Given x10).Res) = ((rd x4.Waits x5).Res))) && (decide (((rd x4.Given x10).Tx) ≠ ((rd x4.Waits x5).Tx))))))]) rfl rfl ?_ ?_
          · rcases Bool.eq_false_or_eq_true (decide (((rd x4.Given x10).Res) = ((rd x4.Waits x5).Res))) with hc2 | hc2
            · skip
              refine gonE (j := 5) hF rfl rfl hc2 ?_
              refine stp hF (p_fldb (o' := 0) rfl fi_33_0 rfl) (by decide) (fun a hF => ?_)
              refine gonE (j := 5) hF rfl rfl hc2 ?_
              refine stp hF (p_ldb_one (i := 0) hS rfl rfl ia_3 rfl) (by decide) (fun a hF => ?_)
              refine gonE (j := 5) hF rfl rfl hc2 ?_
              refine stp hF (p_fldb (o' := 0) rfl fi_33_0 rfl) (by decide) (fun a hF => ?_)
              refine gonE (j := 5) hF rfl rfl hc2 ?_
              refine stp hF (p_ldb_one (i := 2) hS rfl rfl ia_3 rfl) (by decide) (fun a hF => ?_)
              refine gonE (j := 5) hF rfl rfl hc2 ?_
              refine stp hF (p_neq rfl rfl) (by decide) (fun a hF => ?_)
              refine stp hF (p_andT rfl hc2 rfl) (by decide) (fun a hF => ?_)
              refine nilN ?_
              refine xn ?_
              exact ⟨hS, hF.cut ⟨rfl, rfl, rfl, rfl, rfl, rfl, rfl, rfl, rfl, rfl, trivial⟩⟩
            · skip
              refine gofD (j := 5) hF rfl rfl (by rw [hc2]; decide) (by decide) (fun a hF => ?_)
              refine gofD (j := 5) hF rfl rfl (by rw [hc2]; decide) (by decide) (fun a hF => ?_)
              refine gofD (j := 5) hF rfl rfl (by rw [hc2]; decide) (by decide) (fun a hF => ?_)
              refine gofD (j := 5) hF rfl rfl (by rw [hc2]; decide) (by decide) (fun a hF => ?_)
              refine gofD (j := 5) hF rfl rfl (by rw [hc2]; decide) (by decide) (fun a hF => ?_)
              refine stp hF (p_andF (decide (((rd x4.Given x10).Tx) ≠ ((rd x4.Waits x5).Tx))) rfl hc2 rfl) (by decide) (fun a hF => ?_)
              refine nilN ?_
              refine xn ?_
              exact ⟨hS, hF.cut ⟨rfl, rfl, rfl, rfl, rfl, rfl, rfl, rfl, rfl, rfl, trivial⟩⟩
          clear hS hF
          rintro a w ⟨hS, hF⟩
          refine stp hF (p_move rfl) (by decide) (fun a hF => ?_)
          obtain ⟨x16, H, HK3⟩ := hb H
          refine cutj 6 (fun a w => ∃ (x13 : Bool) (s6 : HF) , St e s6 w [pt g3 33 ([(.int .i64 ((rd x4.Given x10).Tx)), (.int .i64 ((rd x4.Given x10).Res)), (.int .i64 ((rd x4.Given x10).Mode))]), Ow (Kd.int .i64) 3 v5 x12, pt g2 33 ([(.int .i64 ((rd x4.Waits x5).Tx)), (.int .i64 ((rd x4.Waits x5).Res)), (.int .i64 ((rd x4.Waits x5).Mode))]), pt g1 26 ([v1, v2])] ∧ Fr 81 a [(1, (.int .i64 x5)), (2, (.pointer (some ⟨g1, 0, none⟩))), (5, (.pointer (some ⟨g2, 0, none⟩))), (6, (.int .i64 x14)), (7, v5), (9, (.pointer (some ⟨g3, 0, none⟩))), (22, v1), (23, (.int .i64 (x4.Given.length : Int))), (24, (.int .i64 x10)), (46, (.bool x13))] ∧ Sub s4 s6 ∧ impl_waitsFor.c5 k1 x12 x4 x10 x13 = some x17) rfl rfl ?_ ?_
          · rcases Bool.eq_false_or_eq_true (((decide (((rd x4.Given x10).Res) = ((rd x4.Waits x5).Res))) && (decide (((rd x4.Given x10).Tx) ≠ ((rd x4.Waits x5).Tx))))) with hc3 | hc3
            · replace H := hbt hc3 H
              refine gonE (j := 12) hF rfl rfl hc3 ?_
              refine stp hF (p_move rfl) (by decide) (fun a hF => ?_)
              refine gonE (j := 12) hF rfl rfl hc3 ?_
              refine stp hF (p_fldb (o' := 2) rfl fi_33_2 rfl) (by decide) (fun a hF => ?_)
              refine gonE (j := 12) hF rfl rfl hc3 ?_
              refine stp hF (p_ldb_one (i := 0) hS rfl rfl ia_3 rfl) (by decide) (fun a hF => ?_)
              obtain ⟨x15, hx2, H⟩ := hb H
              refine gonE (j := 12) hF rfl rfl hc3 ?_
              refine ste hF (e_call (fst := []) (vs := [(.int .i64 x14), (.int .i64 ((rd x4.Given x10).Mode))]) (cap := []) rfl rfl go_46 (St.call (A := []) (B := [pt g3 33 ([(.int .i64 ((rd x4.Given x10).Tx)), (.int .i64 ((rd x4.Given x10).Res)), (.int .i64 ((rd x4.Given x10).Mode))]), Ow (Kd.int .i64) 3 v5 x12, pt g2 33 ([(.int .i64 ((rd x4.Waits x5).Tx)), (.int .i64 ((rd x4.Waits x5).Res)), (.int .i64 ((rd x4.Waits x5).Mode))]), pt g1 26 ([v1, v2])]) hS (impl_Goes.spec k1 _ _ x14 ((rd x4.Given x10).Mode) _ hx2))) (by decide) (fun v w a hR hF => ?_)
              obtain ⟨s7, A3, hg3, hS, hR⟩ := hR
              obtain ⟨hv2, rfl⟩ := hR; obtain rfl := hv2.symm
              have hS : St e s7 w [pt g3 33 ([(.int .i64 ((rd x4.Given x10).Tx)), (.int .i64 ((rd x4.Given x10).Res)), (.int .i64 ((rd x4.Given x10).Mode))]), Ow (Kd.int .i64) 3 v5 x12, pt g2 33 ([(.int .i64 ((rd x4.Waits x5).Tx)), (.int .i64 ((rd x4.Waits x5).Res)), (.int .i64 ((rd x4.Waits x5).Mode))]), pt g1 26 ([v1, v2])] := hS
              refine gonE (j := 12) hF rfl rfl hc3 ?_
              refine stp hF (p_not rfl) (by decide) (fun a hF => ?_)
              refine stp hF (p_pickT rfl hc3 rfl) (by decide) (fun a hF => ?_)
              refine nilN ?_
              refine xn ?_
              obtain rfl := hsm H
              exact ⟨(!x15), s7, hS, hF.cut ⟨rfl, rfl, rfl, rfl, rfl, rfl, rfl, rfl, rfl, rfl, trivial⟩, hg3, HK3⟩
            · replace H := hbf hc3 H
              refine gofD (j := 12) hF rfl rfl (by rw [hc3]; decide) (by decide) (fun a hF => ?_)
              refine gofD (j := 12) hF rfl rfl (by rw [hc3]; decide) (by decide) (fun a hF => ?_)
              refine gofD (j := 12) hF rfl rfl (by rw [hc3]; decide) (by decide) (fun a hF => ?_)
              refine gofD (j := 12) hF rfl rfl (by rw [hc3]; decide) (by decide) (fun a hF => ?_)
              refine gofD (j := 12) hF rfl rfl (by rw [hc3]; decide) (by decide) (fun a hF => ?_)
              refine stp hF (p_pickF rfl hc3 rfl) (by decide) (fun a hF => ?_)
              refine nilN ?_
              refine xn ?_
              obtain rfl := hsm H
              exact ⟨false, s4, hS, hF.cut ⟨rfl, rfl, rfl, rfl, rfl, rfl, rfl, rfl, rfl, rfl, trivial⟩, (Sub.refl _), HK3⟩
          · clear H HK3 hS hF
            rintro a w ⟨x13, s6, hS, hF, hg4, H⟩
            unfold impl_waitsFor.c5 at H
            refine nilN ?_
            refine xn ?_
            refine cnd hF rfl (fun hc4 => ?_) (fun hc4 => ?_)
            · replace H := hbt hc4 H
              refine rg ?_
              refine stp hF (p_move rfl) (by decide) (fun a hF => ?_)
              refine stp hF (p_fldb (o' := 0) rfl fi_33_0 rfl) (by decide) (fun a hF => ?_)
              refine stp hF (p_ldb_one (i := 0) hS rfl rfl ia_3 rfl) (by decide) (fun a hF => ?_)
              refine ste hF (e_bslice (kd := (Kd.int .i64)) (et := 3) (ps := [(0, (.tmp 49))]) (vs := [(0, (.int .i64 ((rd x4.Given x10).Tx)))]) (cs := [(.int .i64 ((rd x4.Given x10).Tx))]) (xs := ([(rd x4.Given x10).Tx] : List Int)) hS rfl (by intro w; kernel_rfl) rfl (by decide) (Nat.le_of_ble_eq_true rfl) (by exact (rows_cons (kd := (Kd.int .i64)) (x := (rd x4.Given x10).Tx) (c := [(.int .i64 ((rd x4.Given x10).Tx))]) (cs := []) rfl (Rows.nil _ _ _ _)))) (by decide) (fun v7 w a hR hF => ?_)
              have hS : St e s6 w [Ow (Kd.int .i64) 3 v7 ([(rd x4.Given x10).Tx] : List Int), pt g3 33 ([(.int .i64 ((rd x4.Given x10).Tx)), (.int .i64 ((rd x4.Given x10).Res)), (.int .i64 ((rd x4.Given x10).Mode))]), Ow (Kd.int .i64) 3 v5 x12, pt g2 33 ([(.int .i64 ((rd x4.Waits x5).Tx)), (.int .i64 ((rd x4.Waits x5).Res)), (.int .i64 ((rd x4.Waits x5).Mode))]), pt g1 26 ([v1, v2])] := hR
              obtain ⟨hq3, H⟩ := hck H
              refine ste hF (e_append (n := 2) hS rfl rfl rfl (hS.src (n := 0) rfl) un_39 ti_3 rfl (by decide) (by decide) (Nat.le_trans (Nat.mul_le_mul_right 8 hq3) (by decide))) (by decide) (fun v8 w a hR hF => ?_)
              have hS : St e s6 w [Ow (Kd.int .i64) 3 v8 (x12 ++ ([(rd x4.Given x10).Tx] : List Int)), Ow (Kd.int .i64) 3 v7 ([(rd x4.Given x10).Tx] : List Int), pt g3 33 ([(.int .i64 ((rd x4.Given x10).Tx)), (.int .i64 ((rd x4.Given x10).Res)), (.int .i64 ((rd x4.Given x10).Mode))]), pt g2 33 ([(.int .i64 ((rd x4.Waits x5).Tx)), (.int .i64 ((rd x4.Waits x5).Res)), (.int .i64 ((rd x4.Waits x5).Mode))]), pt g1 26 ([v1, v2])] := hR
              replace hS := hS.sel (is := [0, 1, 1, 1]) (A' := [Ow (Kd.int .i64) 3 v8 (x12 ++ ([(rd x4.Given x10).Tx] : List Int)), pt g3 33 ([(.int .i64 ((rd x4.Given x10).Tx)), (.int .i64 ((rd x4.Given x10).Res)), (.int .i64 ((rd x4.Given x10).Mode))]), pt g2 33 ([(.int .i64 ((rd x4.Waits x5).Tx)), (.int .i64 ((rd x4.Waits x5).Res)), (.int .i64 ((rd x4.Waits x5).Mode))]), pt g1 26 ([v1, v2])]) rfl
              refine stp hF (p_assign rfl) (by decide) (fun a hF => ?_)
              refine nilN ?_
              refine bn (xn ?_)
              obtain rfl := hsm H
              replace hS := hS.sel (is := [0, 1, 1]) (A' := [Ow (Kd.int .i64) 3 v8 (x12 ++ ([(rd x4.Given x10).Tx] : List Int)), pt g2 33 ([(.int .i64 ((rd x4.Waits x5).Tx)), (.int .i64 ((rd x4.Waits x5).Res)), (.int .i64 ((rd x4.Waits x5).Mode))]), pt g1 26 ([v1, v2])]) rfl
              exact ⟨(x12 ++ ([(rd x4.Given x10).Tx] : List Int)), s6, v8, hS, hF.cut ⟨rfl, rfl, rfl, rfl, rfl, rfl, rfl, rfl, trivial⟩, hg4, HK2⟩
            · replace H := hbf hc4 H
              refine skN ?_
              refine bn (xn ?_)
              obtain rfl := hsm H
              replace hS := hS.sel (is := [1, 1, 1]) (A' := [Ow (Kd.int .i64) 3 v5 x12, pt g2 33 ([(.int .i64 ((rd x4.Waits x5).Tx)), (.int .i64 ((rd x4.Waits x5).Res)), (.int .i64 ((rd x4.Waits x5).Mode))]), pt g1 26 ([v1, v2])]) rfl
              exact ⟨x12, s6, v5, hS, hF.cut ⟨rfl, rfl, rfl, rfl, rfl, rfl, rfl, rfl, trivial⟩, hg4, HK2⟩
        · clear H HK2 hS hF
          rintro a w ⟨x11, s5, v6, hS, hF, hg5, H⟩
          unfold impl_waitsFor.c4 at H
          refine rg ?_
          refine stp hF (p_add (c := w64 (x10 + 1)) rfl rfl rfl) (by decide) (fun a hF => ?_)
          refine stp hF (p_move rfl) (by decide) (fun a hF => ?_)
          refine nilN ?_
          refine xn ?_
          exact ⟨x11, (w64 (x10 + 1)), s5, v6, hS, hF.cut ⟨rfl, rfl, rfl, rfl, rfl, rfl, rfl, rfl, trivial⟩, (hg2.trans hg5), H⟩
      · replace H := hbf hc1 H
        refine exi ?_
        refine xe (xe (hit (xn ?_)))
        obtain rfl := hsm H
        exact ⟨x12, s4, v5, hS, hF.cut ⟨rfl, rfl, rfl, rfl, trivial⟩, hg2, HK1⟩
  · clear H HK1 hS hF
    rintro a w ⟨x8, s3, v4, hS, hF, hg6, H⟩
    unfold impl_waitsFor.c3 at H
    obtain ⟨x9, H, HK4⟩ := hb H
    refine sqj (fun a w => ∃ (x1 : (List Int)) (v9 : Value) , St e s3 w [Ow (Kd.int .i64) 3 v9 x1, pt g2 33 ([(.int .i64 ((rd x4.Waits x5).Tx)), (.int .i64 ((rd x4.Waits x5).Res)), (.int .i64 ((rd x4.Waits x5).Mode))]), pt g1 26 ([v1, v2])] ∧ Fr 81 a [(7, v9)] ∧ impl_waitsFor.c1 k x1 = some r) ?_ ?_
    · skip
      refine sq ?_
      refine rg ?_
      refine stp hF (p_fldb (o' := 1) rfl fi_26_1 rfl) (by decide) (fun a hF => ?_)
      refine stp hF (p_ldb_one (i := 2) hS rfl rfl ia_24 rfl) (by decide) (fun a hF => ?_)
      refine stp hF (p_move rfl) (by decide) (fun a hF => ?_)
      obtain ⟨hq4, H⟩ := hck H
      obtain ⟨v10, h7, p5⟩ := p_slr (i := (0 : Int)) (j := x5) un_24 ti_33 ((h2.mono hg1).mono hg6) hq4.1 hq4.2.1 hq4.2.2
      refine stp hF (p5 rfl rfl rfl) (by decide) (fun a hF => ?_)
      refine stp hF (p_lenr un_24 rfl h7) (by decide) (fun a hF => ?_)
      refine stp hF (p_move rfl) (by decide) (fun a hF => ?_)
      refine nilN ?_
      refine xn ?_
      refine blk ?_
      refine loop_ind (fun k2 a w => ∃ (x6 : (List Int)) (x2 : Int) (v11 : Value) , St e s3 w [Ow (Kd.int .i64) 3 v11 x6, pt g2 33 ([(.int .i64 ((rd x4.Waits x5).Tx)), (.int .i64 ((rd x4.Waits x5).Res)), (.int .i64 ((rd x4.Waits x5).Mode))]), pt g1 26 ([v1, v2])] ∧ Fr 81 a [(5, (.pointer (some ⟨g2, 0, none⟩))), (7, v11), (56, v10), (57, (.int .i64 ((cut x4.Waits (0 : Int) x5).length : Int))), (58, (.int .i64 x2))] ∧ impl_waitsFor.l1 x4 x5 k2 x6 x2 = some x9) k ?_ ?_ ?_
      · skip
        exact ⟨x8, 0, v4, hS, hF.cut ⟨rfl, rfl, rfl, rfl, rfl, trivial⟩, H⟩
      · clear H hS hF
        rintro a w ⟨x6, x2, v11, hS, hF, H⟩
        exact absurd (show none = some _ from H) (by simp)
      · clear H hS hF
        rintro k2 a w ⟨x6, x2, v11, hS, hF, H⟩
        rw [impl_waitsFor.l1.eq_2] at H
        refine sq ?_
        refine rg ?_
        refine stp hF (p_lss rfl rfl) (by decide) (fun a hF => ?_)
        refine nilN ?_
        refine xn ?_
        refine sq ?_
        refine cnd hF rfl (fun hc5 => ?_) (fun hc5 => ?_)
        · replace H := hbt hc5 H
          refine skN ?_
          refine xn ?_
          obtain ⟨x7, H, HK5⟩ := hb H
          refine sqj (fun a w => ∃ (x3 : (List Int)) (v12 : Value) , St e s3 w [Ow (Kd.int .i64) 3 v12 x3, pt g2 33 ([(.int .i64 ((rd x4.Waits x5).Tx)), (.int .i64 ((rd x4.Waits x5).Res)), (.int .i64 ((rd x4.Waits x5).Mode))]), pt g1 26 ([v1, v2])] ∧ Fr 81 a [(5, (.pointer (some ⟨g2, 0, none⟩))), (7, v12), (56, v10), (57, (.int .i64 ((cut x4.Waits (0 : Int) x5).length : Int))), (58, (.int .i64 x2))] ∧ impl_waitsFor.c2 k2 (impl_waitsFor.l1 x4 x5 k2) x2 x3 = some x9) ?_ ?_
          · skip
            refine blk ?_
            refine sq ?_
            refine rg ?_
            obtain ⟨hq5, H⟩ := hck H
            obtain ⟨ad3, h8, p6⟩ := p_idxr (P := Try.prog) (i := x2) h7 un_24 ti_33 hq5.1 hq5.2
            refine stp hF (p6 rfl rfl) (by decide) (fun a hF => ?_)
            obtain ⟨c8, h9, p7⟩ := p_ldr_agg (P := Try.prog) h8 ia_33 ti_33
            obtain rfl := kTGrant_open h9
            refine stp hF (p7 rfl hS.ro) (by decide) (fun a hF => ?_)
            refine ste hF (e_alloc (cs := [(.int .i64 0), (.int .i64 0), (.int .i64 0)]) hS ti_33 rfl) (by decide) (fun v w a hR hF => ?_)
            obtain ⟨g4, rfl, hS⟩ := hR
            refine ste0 hF (e_stb (i := 0) (l := []) (m := [(.int .i64 0), (.int .i64 0), (.int .i64 0)]) (r := []) (m' := [(.int .i64 ((rd (cut x4.Waits (0 : Int) x5) x2).Tx)), (.int .i64 ((rd (cut x4.Waits (0 : Int) x5) x2).Res)), (.int .i64 ((rd (cut x4.Waits (0 : Int) x5) x2).Mode))]) (cs' := [(.int .i64 ((rd (cut x4.Waits (0 : Int) x5) x2).Tx)), (.int .i64 ((rd (cut x4.Waits (0 : Int) x5) x2).Res)), (.int .i64 ((rd (cut x4.Waits (0 : Int) x5) x2).Mode))]) hS rfl rfl rfl ti_33 rfl rfl rfl rfl rfl (one_cons rfl (one_cons rfl (one_cons rfl one_nil))) rfl) (fun v w a hR hF => ?_)
            have hS : St e s3 w [pt g4 33 ([(.int .i64 ((rd (cut x4.Waits (0 : Int) x5) x2).Tx)), (.int .i64 ((rd (cut x4.Waits (0 : Int) x5) x2).Res)), (.int .i64 ((rd (cut x4.Waits (0 : Int) x5) x2).Mode))]), Ow (Kd.int .i64) 3 v11 x6, pt g2 33 ([(.int .i64 ((rd x4.Waits x5).Tx)), (.int .i64 ((rd x4.Waits x5).Res)), (.int .i64 ((rd x4.Waits x5).Mode))]), pt g1 26 ([v1, v2])] := hR
            refine nilN ?_
            refine xn ?_
            refine sq ?_
            refine rg ?_
            refine stp hF (p_fldb (o' := 1) rfl fi_33_1 rfl) (by decide) (fun a hF => ?_)
            refine stp hF (p_ldb_one (i := 0) hS rfl rfl ia_3 rfl) (by decide) (fun a hF => ?_)
            refine stp hF (p_fldb (o' := 1) rfl fi_33_1 rfl) (by decide) (fun a hF => ?_)
            refine stp hF (p_ldb_one (i := 2) hS rfl rfl ia_3 rfl) (by decide) (fun a hF => ?_)
            refine stp hF (p_eql rfl rfl) (by decide) (fun a hF => ?_)
            refine stp hF (p_move rfl) (by decide) (fun a hF => ?_)
            refine cutj 6 (fun a w => St e s3 w [pt g4 33 ([(.int .i64 ((rd (cut x4.Waits (0 : Int) x5) x2).Tx)), (.int .i64 ((rd (cut x4.Waits (0 : Int) x5) x2).Res)), (.int .i64 ((rd (cut x4.Waits (0 : Int) x5) x2).Mode))]), Ow (Kd.int .i64) 3 v11 x6, pt g2 33 ([(.int .i64 ((rd x4.Waits x5).Tx)), (.int .i64 ((rd x4.Waits x5).Res)), (.int .i64 ((rd x4.Waits x5).Mode))]), pt g1 26 ([v1, v2])] ∧ Fr 81 a [(5, (.pointer (some ⟨g2, 0, none⟩))), (7, v11), (11, (.pointer (some ⟨g4, 0, none⟩))), (56, v10), (57, (.int .i64 ((cut x4.Waits (0 : Int) x5).length : Int))), (58, (.int .i64 x2)), (73, (.bool ((decide (((rd (cut x4.Waits (0 : Int) x5) x2).Res) = ((rd x4.Waits x5).Res))) && (decide (((rd (cut x4.Waits (0 : Int) x5) x2).Tx) ≠ ((rd x4.Waits x5).Tx))))))]) rfl rfl ?_ ?_
            · rcases Bool.eq_false_or_eq_true (decide (((rd (cut x4.Waits (0 : Int) x5) x2).Res) = ((rd x4.Waits x5).Res))) with hc6 | hc6
              · skip
                refine gonE (j := 5) hF rfl rfl hc6 ?_
                refine stp hF (p_fldb (o' := 0) rfl fi_33_0 rfl) (by decide) (fun a hF => ?_)
                refine gonE (j := 5) hF rfl rfl hc6 ?_
                refine stp hF (p_ldb_one (i := 0) hS rfl rfl ia_3 rfl) (by decide) (fun a hF => ?_)
                refine gonE (j := 5) hF rfl rfl hc6 ?_
                refine stp hF (p_fldb (o' := 0) rfl fi_33_0 rfl) (by decide) (fun a hF => ?_)
                refine gonE (j := 5) hF rfl rfl hc6 ?_
                refine stp hF (p_ldb_one (i := 2) hS rfl rfl ia_3 rfl) (by decide) (fun a hF => ?_)
                refine gonE (j := 5) hF rfl rfl hc6 ?_
                refine stp hF (p_neq rfl rfl) (by decide) (fun a hF => ?_)
                refine stp hF (p_andT rfl hc6 rfl) (by decide) (fun a hF => ?_)
                refine nilN ?_
                refine xn ?_
                exact ⟨hS, hF.cut ⟨rfl, rfl, rfl, rfl, rfl, rfl, rfl, trivial⟩⟩
              · skip
                refine gofD (j := 5) hF rfl rfl (by rw [hc6]; decide) (by decide) (fun a hF => ?_)
                refine gofD (j := 5) hF rfl rfl (by rw [hc6]; decide) (by decide) (fun a hF => ?_)
                refine gofD (j := 5) hF rfl rfl (by rw [hc6]; decide) (by decide) (fun a hF => ?_)
                refine gofD (j := 5) hF rfl rfl (by rw [hc6]; decide) (by decide) (fun a hF => ?_)
                refine gofD (j := 5) hF rfl rfl (by rw [hc6]; decide) (by decide) (fun a hF => ?_)
                refine stp hF (p_andF (decide (((rd (cut x4.Waits (0 : Int) x5) x2).Tx) ≠ ((rd x4.Waits x5).Tx))) rfl hc6 rfl) (by decide) (fun a hF => ?_)
                refine nilN ?_
                refine xn ?_
                exact ⟨hS, hF.cut ⟨rfl, rfl, rfl, rfl, rfl, rfl, rfl, trivial⟩⟩
            clear hS hF
            rintro a w ⟨hS, hF⟩
            refine nilN ?_
            refine xn ?_
            refine cnd hF rfl (fun hc7 => ?_) (fun hc7 => ?_)
            · replace H := hbt hc7 H
              refine rg ?_
              refine stp hF (p_move rfl) (by decide) (fun a hF => ?_)
              refine stp hF (p_fldb (o' := 0) rfl fi_33_0 rfl) (by decide) (fun a hF => ?_)
              refine stp hF (p_ldb_one (i := 0) hS rfl rfl ia_3 rfl) (by decide) (fun a hF => ?_)
              refine ste hF (e_bslice (kd := (Kd.int .i64)) (et := 3) (ps := [(0, (.tmp 76))]) (vs := [(0, (.int .i64 ((rd (cut x4.Waits (0 : Int) x5) x2).Tx)))]) (cs := [(.int .i64 ((rd (cut x4.Waits (0 : Int) x5) x2).Tx))]) (xs := ([(rd (cut x4.Waits (0 : Int) x5) x2).Tx] : List Int)) hS rfl (by intro w; kernel_rfl) rfl (by decide) (Nat.le_of_ble_eq_true rfl) (by exact (rows_cons (kd := (Kd.int .i64)) (x := (rd (cut x4.Waits (0 : Int) x5) x2).Tx) (c := [(.int .i64 ((rd (cut x4.Waits (0 : Int) x5) x2).Tx))]) (cs := []) rfl (Rows.nil _ _ _ _)))) (by decide) (fun v13 w a hR hF => ?_)
              have hS : St e s3 w [Ow (Kd.int .i64) 3 v13 ([(rd (cut x4.Waits (0 : Int) x5) x2).Tx] : List Int), pt g4 33 ([(.int .i64 ((rd (cut x4.Waits (0 : Int) x5) x2).Tx)), (.int .i64 ((rd (cut x4.Waits (0 : Int) x5) x2).Res)), (.int .i64 ((rd (cut x4.Waits (0 : Int) x5) x2).Mode))]), Ow (Kd.int .i64) 3 v11 x6, pt g2 33 ([(.int .i64 ((rd x4.Waits x5).Tx)), (.int .i64 ((rd x4.Waits x5).Res)), (.int .i64 ((rd x4.Waits x5).Mode))]), pt g1 26 ([v1, v2])] := hR
              obtain ⟨hq6, H⟩ := hck H
              refine ste hF (e_append (n := 2) hS rfl rfl rfl (hS.src (n := 0) rfl) un_39 ti_3 rfl (by decide) (by decide) (Nat.le_trans (Nat.mul_le_mul_right 8 hq6) (by decide))) (by decide) (fun v14 w a hR hF => ?_)
              have hS : St e s3 w [Ow (Kd.int .i64) 3 v14 (x6 ++ ([(rd (cut x4.Waits (0 : Int) x5) x2).Tx] : List Int)), Ow (Kd.int .i64) 3 v13 ([(rd (cut x4.Waits (0 : Int) x5) x2).Tx] : List Int), pt g4 33 ([(.int .i64 ((rd (cut x4.Waits (0 : Int) x5) x2).Tx)), (.int .i64 ((rd (cut x4.Waits (0 : Int) x5) x2).Res)), (.int .i64 ((rd (cut x4.Waits (0 : Int) x5) x2).Mode))]), pt g2 33 ([(.int .i64 ((rd x4.Waits x5).Tx)), (.int .i64 ((rd x4.Waits x5).Res)), (.int .i64 ((rd x4.Waits x5).Mode))]), pt g1 26 ([v1, v2])] := hR
              replace hS := hS.sel (is := [0, 1, 1, 1]) (A' := [Ow (Kd.int .i64) 3 v14 (x6 ++ ([(rd (cut x4.Waits (0 : Int) x5) x2).Tx] : List Int)), pt g4 33 ([(.int .i64 ((rd (cut x4.Waits (0 : Int) x5) x2).Tx)), (.int .i64 ((rd (cut x4.Waits (0 : Int) x5) x2).Res)), (.int .i64 ((rd (cut x4.Waits (0 : Int) x5) x2).Mode))]), pt g2 33 ([(.int .i64 ((rd x4.Waits x5).Tx)), (.int .i64 ((rd x4.Waits x5).Res)), (.int .i64 ((rd x4.Waits x5).Mode))]), pt g1 26 ([v1, v2])]) rfl
              refine stp hF (p_assign rfl) (by decide) (fun a hF => ?_)
              refine nilN ?_
              refine bn (xn ?_)
              obtain rfl := hsm H
              replace hS := hS.sel (is := [0, 1, 1]) (A' := [Ow (Kd.int .i64) 3 v14 (x6 ++ ([(rd (cut x4.Waits (0 : Int) x5) x2).Tx] : List Int)), pt g2 33 ([(.int .i64 ((rd x4.Waits x5).Tx)), (.int .i64 ((rd x4.Waits x5).Res)), (.int .i64 ((rd x4.Waits x5).Mode))]), pt g1 26 ([v1, v2])]) rfl
              exact ⟨(x6 ++ ([(rd (cut x4.Waits (0 : Int) x5) x2).Tx] : List Int)), v14, hS, hF.cut ⟨rfl, rfl, rfl, rfl, rfl, trivial⟩, HK5⟩
            · replace H := hbf hc7 H
              refine skN ?_
              refine bn (xn ?_)
              obtain rfl := hsm H
              replace hS := hS.sel (is := [1, 1, 1]) (A' := [Ow (Kd.int .i64) 3 v11 x6, pt g2 33 ([(.int .i64 ((rd x4.Waits x5).Tx)), (.int .i64 ((rd x4.Waits x5).Res)), (.int .i64 ((rd x4.Waits x5).Mode))]), pt g1 26 ([v1, v2])]) rfl
              exact ⟨x6, v11, hS, hF.cut ⟨rfl, rfl, rfl, rfl, rfl, trivial⟩, HK5⟩
          · clear H HK5 hS hF
            rintro a w ⟨x3, v12, hS, hF, H⟩
            unfold impl_waitsFor.c2 at H
            refine rg ?_
            refine stp hF (p_add (c := w64 (x2 + 1)) rfl rfl rfl) (by decide) (fun a hF => ?_)
            refine stp hF (p_move rfl) (by decide) (fun a hF => ?_)
            refine nilN ?_
            refine xn ?_
            exact ⟨x3, (w64 (x2 + 1)), v12, hS, hF.cut ⟨rfl, rfl, rfl, rfl, rfl, trivial⟩, H⟩
        · replace H := hbf hc5 H
          refine exi ?_
          refine xe (xe (hit (xn ?_)))
          obtain rfl := hsm H
          exact ⟨x6, v11, hS, hF.cut ⟨rfl, trivial⟩, HK4⟩
    · clear H HK4 hS hF
      rintro a w ⟨x1, v9, hS, hF, H⟩
      unfold impl_waitsFor.c1 at H
      refine sq ?_
      refine rg ?_
      refine stp hF (p_move rfl) (by decide) (fun a hF => ?_)
      refine stp hF (p_assign rfl) (by decide) (fun a hF => ?_)
      refine nilN ?_
      refine xn ?_
      refine rt ?_
      obtain rfl := hsm H
      replace hS := hS.sel (is := [0]) (A' := [Ow (Kd.int .i64) 3 v9 x1]) rfl
      exact ret1 hF rfl rfl hS ⟨v9, rfl, rfl⟩

def slices_Index.c1 (k : Nat) : Option Int :=
  (some (-1))
def slices_Index.l1 (x1 : (List Int)) (x2 : Int) : Nat → Int → Option (Ex Int Unit)
  | 0, _ => none
  | k + 1, x3 => (if (decide (x3 < (x1.length : Int))) = true then (if 0 ≤ x3 ∧ x3 < (x1.length : Int) then (if (decide (x2 = (rd x1 x3))) = true then (some (Ex.ret x3)) else ((slices_Index.l1 x1 x2 k) (w64 (x3 + 1)))) else none) else (some (Ex.go ())))
def slices_Index.f (k : Nat) (x1 : (List Int)) (x2 : Int) : Option Int :=
  (((slices_Index.l1 x1 x2 k 0) : Option (Ex Int Unit)).bind fun x4 => Ex.on x4 (fun r => some r) (fun y => slices_Index.c1 k))
set_option maxRecDepth 100000 in
set_option maxHeartbeats 4000000 in
theorem slices_Index.spec (k : Nat) (s0 : HF) (w : World) (x1 : (List Int)) (x2 : Int) (v1 : Value) (h1 : Sl (Kd.int .i64) s0 v1 x1) (r : Int) (H : slices_Index.f k x1 x2 = some r) :
    Law Try.prog 85 #[v1, (.int .i64 x2)] s0 w [] (fun v s1 A1 => v = (.int .i64 r) ∧ A1 = []) := by
  unfold slices_Index.f at H
  refine Law.intro Try.func85 rfl [(0, v1), (1, (.int .i64 x2))] (Nat.le_of_ble_eq_true rfl) (enter_lk ⟨rfl, rfl, trivial⟩) (fun e a hS hF => ?_)
  have hF : Fr 19 a [(0, v1), (1, (.int .i64 x2))] := hF
  refine sq ?_
  refine rg ?_
  refine stp hF (p_assign rfl) (by decide) (fun a hF => ?_)
  refine nilN ?_
  refine xn ?_
  obtain ⟨x4, H, HK1⟩ := hb H
  refine sqj (fun a w => St e s0 w [] ∧ Fr 19 a [] ∧ slices_Index.c1 k = some r) ?_ ?_
  · skip
    refine sq ?_
    refine rg ?_
    refine stp hF (p_move rfl) (by decide) (fun a hF => ?_)
    refine stp hF (p_lenr un_39 rfl h1) (by decide) (fun a hF => ?_)
    refine stp hF (p_move rfl) (by decide) (fun a hF => ?_)
    refine nilN ?_
    refine xn ?_
    refine blk ?_
    refine loop_ind (fun k1 a w => ∃ (x3 : Int) , St e s0 w [] ∧ Fr 19 a [(0, v1), (1, (.int .i64 x2)), (7, (.int .i64 (x1.length : Int))), (8, (.int .i64 x3))] ∧ slices_Index.l1 x1 x2 k1 x3 = some x4) k ?_ ?_ ?_
    · skip
      exact ⟨0, hS, hF.cut ⟨rfl, rfl, rfl, rfl, trivial⟩, H⟩
    · clear H hS hF
      rintro a w ⟨x3, hS, hF, H⟩
      exact absurd (show none = some _ from H) (by simp)
    · clear H hS hF
      rintro k1 a w ⟨x3, hS, hF, H⟩
      rw [slices_Index.l1.eq_2] at H
      refine sq ?_
      refine rg ?_
      refine stp hF (p_lss rfl rfl) (by decide) (fun a hF => ?_)
      refine nilN ?_
      refine xn ?_
      refine sq ?_
      refine cnd hF rfl (fun hc1 => ?_) (fun hc1 => ?_)
      · replace H := hbt hc1 H
        refine skN ?_
        refine xn ?_
        refine sq ?_
        refine blk ?_
        refine sq ?_
        refine rg ?_
        refine stp hF (p_move rfl) (by decide) (fun a hF => ?_)
        refine stp hF (p_assign rfl) (by decide) (fun a hF => ?_)
        refine nilN ?_
        refine xn ?_
        refine sq ?_
        refine rg ?_
        refine stp hF (p_move rfl) (by decide) (fun a hF => ?_)
        refine stp hF (p_move rfl) (by decide) (fun a hF => ?_)
        refine stp hF (p_move rfl) (by decide) (fun a hF => ?_)
        obtain ⟨hq1, H⟩ := hck H
        obtain ⟨ad1, h2, p1⟩ := p_idxr (P := Try.prog) (i := x3) h1 un_39 ti_3 hq1.1 hq1.2
        refine stp hF (p1 rfl rfl) (by decide) (fun a hF => ?_)
        refine stp hF (p_ldr_int rfl hS h2 ia_3) (by decide) (fun a hF => ?_)
        refine stp hF (p_eql rfl rfl) (by decide) (fun a hF => ?_)
        refine nilN ?_
        refine xn ?_
        refine cnd hF rfl (fun hc2 => ?_) (fun hc2 => ?_)
        · replace H := hbt hc2 H
          refine sq ?_
          refine rg ?_
          refine stp hF (p_move rfl) (by decide) (fun a hF => ?_)
          refine stp hF (p_assign rfl) (by decide) (fun a hF => ?_)
          refine nilN ?_
          refine xn ?_
          refine rt ?_
          refine br (xr (xr (br (xr ?_))))
          obtain rfl := hsm H
          have H := hon1 HK1
          obtain rfl := hsm H
          exact ret1 hF rfl rfl hS ⟨rfl, rfl⟩
        · replace H := hbf hc2 H
          refine skN ?_
          refine bn (xn ?_)
          refine rg ?_
          refine stp hF (p_add (c := w64 (x3 + 1)) rfl rfl rfl) (by decide) (fun a hF => ?_)
          refine stp hF (p_move rfl) (by decide) (fun a hF => ?_)
          refine nilN ?_
          refine xn ?_
          exact ⟨(w64 (x3 + 1)), hS, hF.cut ⟨rfl, rfl, rfl, rfl, trivial⟩, H⟩
      · replace H := hbf hc1 H
        refine exi ?_
        refine xe (xe (hit (xn ?_)))
        obtain rfl := hsm H
        exact ⟨hS, hF.cut trivial, HK1⟩
  · clear H HK1 hS hF
    rintro a w ⟨hS, hF, H⟩
    unfold slices_Index.c1 at H
    refine sq ?_
    refine rg ?_
    refine stp hF (p_assign rfl) (by decide) (fun a hF => ?_)
    refine nilN ?_
    refine xn ?_
    refine rt ?_
    obtain rfl := hsm H
    exact ret1 hF rfl rfl hS ⟨rfl, rfl⟩

def slices_Contains.f (k : Nat) (x1 : (List Int)) (x2 : Int) : Option Bool :=
  ((slices_Index.f k x1 x2).bind fun x3 => (some (decide (0 ≤ x3))))
set_option maxRecDepth 100000 in
set_option maxHeartbeats 4000000 in
theorem slices_Contains.spec (k : Nat) (s0 : HF) (w : World) (x1 : (List Int)) (x2 : Int) (v1 : Value) (h1 : Sl (Kd.int .i64) s0 v1 x1) (r : Bool) (H : slices_Contains.f k x1 x2 = some r) :
    Law Try.prog 80 #[v1, (.int .i64 x2)] s0 w [] (fun v s1 A1 => v = (.bool r) ∧ A1 = []) := by
  unfold slices_Contains.f at H
  refine Law.intro Try.func80 rfl [(0, v1), (1, (.int .i64 x2))] (Nat.le_of_ble_eq_true rfl) (enter_lk ⟨rfl, rfl, trivial⟩) (fun e a hS hF => ?_)
  have hF : Fr 9 a [(0, v1), (1, (.int .i64 x2))] := hF
  refine sq ?_
  refine rg ?_
  refine stp hF (p_assign rfl) (by decide) (fun a hF => ?_)
  refine nilN ?_
  refine xn ?_
  refine sq ?_
  refine rg ?_
  refine stp hF (p_move rfl) (by decide) (fun a hF => ?_)
  refine stp hF (p_move rfl) (by decide) (fun a hF => ?_)
  obtain ⟨x3, hx1, H⟩ := hb H
  refine ste hF (e_call (fst := []) (vs := [v1, (.int .i64 x2)]) (cap := []) rfl rfl go_85 (St.call (A := []) (B := []) hS (slices_Index.spec k _ _ x1 x2 v1 h1 _ hx1))) (by decide) (fun v w a hR hF => ?_)
  obtain ⟨s2, A2, hg1, hS, hR⟩ := hR
  obtain ⟨hv1, rfl⟩ := hR; obtain rfl := hv1.symm
  have hS : St e s2 w [] := hS
  refine stp hF (p_geq rfl rfl) (by decide) (fun a hF => ?_)
  refine stp hF (p_assign rfl) (by decide) (fun a hF => ?_)
  refine nilN ?_
  refine xn ?_
  refine rt ?_
  obtain rfl := hsm H
  exact ret1 hF rfl rfl hS ⟨rfl, rfl⟩

def impl_comesBack.c1 (k : Nat) (x1 : (List Int)) (x2 : (List Int)) : Option Bool :=
  (some false)
def impl_comesBack.c2 (k : Nat) (rec_l1 : (List Int) → (List Int) → Int → Option (Ex Bool ((List Int) × (List Int)))) (x3 : Int) (x4 : (List Int)) (x5 : (List Int)) : Option (Ex Bool ((List Int) × (List Int))) :=
  (rec_l1 x4 x5 (w64 (x3 + 1)))
def impl_comesBack.l1 (rec_l2 : (List Int) → (List Int) → Option (Ex Bool ((List Int) × (List Int)))) (x6 : (List Int)) (x7 : Int) : Nat → (List Int) → (List Int) → Int → Option (Ex Bool ((List Int) × (List Int)))
  | 0, _, _, _ => none
  | k + 1, x8, x9, x3 => (if (decide (x3 < (x6.length : Int))) = true then (((if 0 ≤ x3 ∧ x3 < (x6.length : Int) then (if (decide ((rd x6 x3) = x7)) = true then (some (Ex.ret true)) else ((slices_Contains.f k x9 (rd x6 x3)).bind fun x10 => (if (!x10) = true then (if x9.length + 1 ≤ 17592186044416 then (if x8.length + 1 ≤ 17592186044416 then (some (Ex.go ((x8 ++ ([(rd x6 x3)] : List Int)), (x9 ++ ([(rd x6 x3)] : List Int))))) else none) else none) else (some (Ex.go (x8, x9)))))) else none) : Option (Ex Bool ((List Int) × (List Int)))).bind fun x11 => Ex.on x11 (fun r => some (Ex.ret r)) (fun y => impl_comesBack.c2 k (impl_comesBack.l1 rec_l2 x6 x7 k) x3 y.1 y.2)) else (rec_l2 x8 x9))
def impl_comesBack.l2 (x12 : TLocks) (x7 : Int) : Nat → (List Int) → (List Int) → Option (Ex Bool ((List Int) × (List Int)))
  | 0, _, _ => none
  | k + 1, x13, x14 => (if (decide (0 < (x13.length : Int))) = true then (if 0 ≤ (0 : Int) ∧ (0 : Int) < (x13.length : Int) then ((impl_waitAt.f k x12 (rd x13 (0 : Int))).bind fun x15 => (if 0 ≤ (1 : Int) ∧ (1 : Int) ≤ (x13.length : Int) ∧ (x13.length : Int) ≤ (x13.length : Int) then (if (decide (x15 < 0)) = true then ((impl_comesBack.l2 x12 x7 k) (cut x13 (1 : Int) (x13.length : Int)) x14) else ((impl_waitsFor.f k x12 x15).bind fun x6 => (impl_comesBack.l1 (impl_comesBack.l2 x12 x7 k) x6 x7 k (cut x13 (1 : Int) (x13.length : Int)) x14 0))) else none)) else none) else (some (Ex.go (x13, x14))))
def impl_comesBack.f (k : Nat) (x12 : TLocks) (x7 : Int) : Option Bool :=
  (((impl_comesBack.l2 x12 x7 k ([x7] : List Int) ([] : List Int)) : Option (Ex Bool ((List Int) × (List Int)))).bind fun x16 => Ex.on x16 (fun r => some r) (fun y => impl_comesBack.c1 k y.1 y.2))
set_option maxRecDepth 100000 in
set_option maxHeartbeats 4000000 in
theorem impl_comesBack.spec (k : Nat) (s0 : HF) (w : World) (x12 : TLocks) (x7 : Int) (v1 : Value) (v2 : Value) (h1 : Sl kTGrant s0 v1 x12.Given) (h2 : Sl kTGrant s0 v2 x12.Waits) (r : Bool) (H : impl_comesBack.f k x12 x7 = some r) :
    Law Try.prog 58 #[(.agg #[v1, v2]), (.int .i64 x7)] s0 w [] (fun v s1 A1 => v = (.bool r) ∧ A1 = []) := by
  unfold impl_comesBack.f at H
  refine Law.intro Try.func58 rfl [(0, (.agg #[v1, v2])), (1, (.int .i64 x7))] (Nat.le_of_ble_eq_true rfl) (enter_lk ⟨rfl, rfl, trivial⟩) (fun e a hS hF => ?_)
  have hF : Fr 49 a [(0, (.agg #[v1, v2])), (1, (.int .i64 x7))] := hF
  refine sq ?_
  refine rg ?_
  refine ste hF (e_box (cs := [v1, v2]) hS rfl rfl) (by decide) (fun v w a hR hF => ?_)
  obtain ⟨g1, rfl, hS⟩ := hR
  refine stp hF (p_assign rfl) (by decide) (fun a hF => ?_)
  refine nilN ?_
  refine xn ?_
  refine sq ?_
  refine rg ?_
  refine ste hF (e_bslice (kd := (Kd.int .i64)) (et := 3) (ps := []) (vs := []) (cs := []) (xs := ([] : List Int)) hS rfl (by intro w; kernel_rfl) rfl (by decide) (Nat.le_of_ble_eq_true rfl) (by exact (Rows.nil _ _ _ _))) (by decide) (fun v3 w a hR hF => ?_)
  have hS : St e s0 w [Ow (Kd.int .i64) 3 v3 ([] : List Int), pt g1 26 ([v1, v2])] := hR
  refine stp hF (p_assign rfl) (by decide) (fun a hF => ?_)
  refine nilN ?_
  refine xn ?_
  refine sq ?_
  refine rg ?_
  refine stp hF (p_move rfl) (by decide) (fun a hF => ?_)
  refine ste hF (e_bslice (kd := (Kd.int .i64)) (et := 3) (ps := [(0, (.tmp 11))]) (vs := [(0, (.int .i64 x7))]) (cs := [(.int .i64 x7)]) (xs := ([x7] : List Int)) hS rfl (by intro w; kernel_rfl) rfl (by decide) (Nat.le_of_ble_eq_true rfl) (by exact (rows_cons (kd := (Kd.int .i64)) (x := x7) (c := [(.int .i64 x7)]) (cs := []) rfl (Rows.nil _ _ _ _)))) (by decide) (fun v4 w a hR hF => ?_)
  have hS : St e s0 w [Ow (Kd.int .i64) 3 v4 ([x7] : List Int), Ow (Kd.int .i64) 3 v3 ([] : List Int), pt g1 26 ([v1, v2])] := hR
  refine stp hF (p_assign rfl) (by decide) (fun a hF => ?_)
  refine nilN ?_
  refine xn ?_
  obtain ⟨x16, H, HK1⟩ := hb H
  refine sqj (fun a w => ∃ (x1 : (List Int)) (x2 : (List Int)) (s2 : HF) (v5 : Value) (v6 : Value) , St e s2 w [Ow (Kd.int .i64) 3 v5 x1, Ow (Kd.int .i64) 3 v6 x2, pt g1 26 ([v1, v2])] ∧ Fr 49 a [] ∧ Sub s0 s2 ∧ impl_comesBack.c1 k x1 x2 = some r) ?_ ?_
  · skip
    refine blk ?_
    refine loop_ind (fun k1 a w => ∃ (x13 : (List Int)) (x14 : (List Int)) (s3 : HF) (v7 : Value) (v8 : Value) , St e s3 w [Ow (Kd.int .i64) 3 v7 x13, Ow (Kd.int .i64) 3 v8 x14, pt g1 26 ([v1, v2])] ∧ Fr 49 a [(1, (.int .i64 x7)), (2, (.pointer (some ⟨g1, 0, none⟩))), (5, v8), (6, v7)] ∧ Sub s0 s3 ∧ impl_comesBack.l2 x12 x7 k1 x13 x14 = some x16) k ?_ ?_ ?_
    · skip
      exact ⟨([x7] : List Int), ([] : List Int), s0, v4, v3, hS, hF.cut ⟨rfl, rfl, rfl, rfl, trivial⟩, (Sub.refl _), H⟩
    · clear H hS hF
      rintro a w ⟨x13, x14, s3, v7, v8, hS, hF, hg1, H⟩
      exact absurd (show none = some _ from H) (by simp)
    · clear H hS hF
      rintro k1 a w ⟨x13, x14, s3, v7, v8, hS, hF, hg1, H⟩
      rw [impl_comesBack.l2.eq_2] at H
      refine sq ?_
      refine sq ?_
      refine rg ?_
      refine stp hF (p_move rfl) (by decide) (fun a hF => ?_)
      refine stp hF (p_leno (i := 0) hS rfl un_39 rfl) (by decide) (fun a hF => ?_)
      refine stp hF (p_gtr rfl rfl) (by decide) (fun a hF => ?_)
      refine nilN ?_
      refine xn ?_
      refine cnd hF rfl (fun hc1 => ?_) (fun hc1 => ?_)
      · replace H := hbt hc1 H
        refine skN ?_
        refine xn ?_
        refine blk ?_
        refine sq ?_
        replace hS : St e s3 w.drew [Ow (Kd.int .i64) 3 v7 x13, Ow (Kd.int .i64) 3 v8 x14, pt g1 26 ([v1, v2])] := hS.drewN 1
        refine drw [0, 1, 2, 3, 4, 5] mixed (by kernel_rfl) (by decide) (hF.cut (L' := [(1, (.int .i64 x7)), (2, (.pointer (some ⟨g1, 0, none⟩))), (5, v8), (6, v7), (13, v7), (14, (.int .i64 (x13.length : Int))), (15, (.bool (decide (0 < (x13.length : Int)))))]) ⟨rfl, rfl, rfl, rfl, rfl, rfl, rfl, trivial⟩) ?_
        clear hF
        generalize w.drew = w at hS ⊢
        refine pk1 rfl (by decide) rfl (by kernel_rfl) rfl (p_ldb_agg (i := 2) (l := []) (m := [v1, v2]) (r := []) hS rfl rfl ia_26 ti_26 rfl rfl rfl) ?_
        refine pk1 rfl (by decide) rfl (by kernel_rfl) rfl (p_move rfl) ?_
        obtain ⟨hq1, H⟩ := hck H
        obtain ⟨b1, o1, q1, hv1, p1⟩ := p_idxo (n := 0) (i := (0 : Int)) hS rfl un_39 ti_3 hq1.1 hq1.2
        refine pk1 rfl (by decide) rfl (by kernel_rfl) rfl (p1 rfl rfl) ?_
        obtain ⟨u1, h3, p2⟩ := p_ldo_one (P := Try.prog) (n := 0) hS rfl hv1 (Lens.id _) hq1.1 hq1.2 rfl ia_3 rfl
        obtain rfl : u1 = .int .i64 (rd x13 (0 : Int)) := by injection h3
        refine pk1 rfl (by decide) rfl (by kernel_rfl) rfl (p2 rfl) ?_
        obtain ⟨x15, hx1, H⟩ := hb H
        refine pkE [2, 1] rfl (by decide) (by kernel_rfl) (by kernel_rfl) (e_call (fst := []) (vs := [(.agg #[v1, v2]), (.int .i64 (rd x13 (0 : Int)))]) (cap := []) rfl rfl go_33 (St.call (A := []) (B := [Ow (Kd.int .i64) 3 v7 x13, Ow (Kd.int .i64) 3 v8 x14, pt g1 26 ([v1, v2])]) hS (impl_waitAt.spec k1 _ _ x12 (rd x13 (0 : Int)) v1 v2 (h1.mono hg1) (h2.mono hg1) _ hx1))) ?_
        intro v w hR
        obtain ⟨s4, A2, hg2, hS, hR⟩ := hR
        obtain ⟨hv2, rfl⟩ := hR; obtain rfl := hv2.symm
        have hS : St e s4 w [Ow (Kd.int .i64) 3 v7 x13, Ow (Kd.int .i64) 3 v8 x14, pt g1 26 ([v1, v2])] := hS
        refine ⟨⟨knw rfl rfl rfl (p1 rfl rfl), ⟨knw rfl rfl rfl (p_move rfl), trivial⟩⟩, ?_⟩
        refine pkE [] rfl (by decide) (by kernel_rfl) (by kernel_rfl) (puEf (p_assign rfl)) ?_
        rintro v w' ⟨rfl, rfl⟩
        refine ⟨trivial, ?_⟩
        refine pkF (fun a hF => ?_)
        refine xn ?_
        refine sq ?_
        refine rg ?_
        refine stp hF (p_move rfl) (by decide) (fun a hF => ?_)
        obtain ⟨hq2, H⟩ := hck H
        obtain ⟨v9, hS, p3⟩ := p_slo (n := 0) (i := (1 : Int)) (j := (x13.length : Int)) hS rfl un_39 ti_3 hq2.1 hq2.2.1 hq2.2.2
        refine stp hF (p3 rfl rfl rfl) (by decide) (fun a hF => ?_)
        refine stp hF (p_assign rfl) (by decide) (fun a hF => ?_)
        refine nilN ?_
        refine xn ?_
        refine sq ?_
        refine sq ?_
        refine rg ?_
        refine stp hF (p_move rfl) (by decide) (fun a hF => ?_)
        refine stp hF (p_lss rfl rfl) (by decide) (fun a hF => ?_)
        refine nilN ?_
        refine xn ?_
        refine cnd hF rfl (fun hc2 => ?_) (fun hc2 => ?_)
        · replace H := hbt hc2 H
          refine exi ?_
          refine xe (hit (xn ?_))
          exact ⟨(cut x13 (1 : Int) (x13.length : Int)), x14, s4, v9, v8, hS, hF.cut ⟨rfl, rfl, rfl, rfl, trivial⟩, (hg1.trans hg2), H⟩
        · replace H := hbf hc2 H
          refine skN ?_
          refine xn ?_
          refine sq ?_
          refine rg ?_
          refine stp hF (p_ldb_agg (i := 2) (l := []) (m := [v1, v2]) (r := []) hS rfl rfl ia_26 ti_26 rfl rfl rfl) (by decide) (fun a hF => ?_)
          refine stp hF (p_move rfl) (by decide) (fun a hF => ?_)
          obtain ⟨x6, hx2, H⟩ := hb H
          refine ste hF (e_call (fst := []) (vs := [(.agg #[v1, v2]), (.int .i64 x15)]) (cap := []) rfl rfl go_79 (St.call (A := []) (B := [Ow (Kd.int .i64) 3 v9 (cut x13 (1 : Int) (x13.length : Int)), Ow (Kd.int .i64) 3 v8 x14, pt g1 26 ([v1, v2])]) hS (impl_waitsFor.spec k1 _ _ x12 x15 v1 v2 ((h1.mono hg1).mono hg2) ((h2.mono hg1).mono hg2) _ hx2))) (by decide) (fun v w a hR hF => ?_)
          obtain ⟨s5, A3, hg3, hS, hR⟩ := hR
          obtain ⟨v10, hv3, rfl⟩ := hR; obtain rfl := hv3.symm
          have hS : St e s5 w [Ow (Kd.int .i64) 3 v10 x6, Ow (Kd.int .i64) 3 v9 (cut x13 (1 : Int) (x13.length : Int)), Ow (Kd.int .i64) 3 v8 x14, pt g1 26 ([v1, v2])] := hS
          refine stp hF (p_leno (i := 0) hS rfl un_39 rfl) (by decide) (fun a hF => ?_)
          refine stp hF (p_move rfl) (by decide) (fun a hF => ?_)
          refine nilN ?_
          refine xn ?_
          refine blk ?_
          refine loop_ind (fun k2 a w => ∃ (x8 : (List Int)) (x9 : (List Int)) (x3 : Int) (s6 : HF) (v11 : Value) (v12 : Value) , St e s6 w [Ow (Kd.int .i64) 3 v10 x6, Ow (Kd.int .i64) 3 v11 x8, Ow (Kd.int .i64) 3 v12 x9, pt g1 26 ([v1, v2])] ∧ Fr 49 a [(1, (.int .i64 x7)), (2, (.pointer (some ⟨g1, 0, none⟩))), (5, v12), (6, v11), (27, v10), (28, (.int .i64 (x6.length : Int))), (29, (.int .i64 x3))] ∧ Sub s5 s6 ∧ impl_comesBack.l1 (impl_comesBack.l2 x12 x7 k1) x6 x7 k2 x8 x9 x3 = some x16) k1 ?_ ?_ ?_
          · skip
            exact ⟨(cut x13 (1 : Int) (x13.length : Int)), x14, 0, s5, v9, v8, hS, hF.cut ⟨rfl, rfl, rfl, rfl, rfl, rfl, rfl, trivial⟩, (Sub.refl _), H⟩
          · clear H hS hF
            rintro a w ⟨x8, x9, x3, s6, v11, v12, hS, hF, hg4, H⟩
            exact absurd (show none = some _ from H) (by simp)
          · clear H hS hF
            rintro k2 a w ⟨x8, x9, x3, s6, v11, v12, hS, hF, hg4, H⟩
            rw [impl_comesBack.l1.eq_2] at H
            refine sq ?_
            refine rg ?_
            refine stp hF (p_lss rfl rfl) (by decide) (fun a hF => ?_)
            refine nilN ?_
            refine xn ?_
            refine sq ?_
            refine cnd hF rfl (fun hc3 => ?_) (fun hc3 => ?_)
            · replace H := hbt hc3 H
              refine skN ?_
              refine xn ?_
              obtain ⟨x11, H, HK2⟩ := hb H
              refine sqj (fun a w => ∃ (x4 : (List Int)) (x5 : (List Int)) (s7 : HF) (v13 : Value) (v14 : Value) , St e s7 w [Ow (Kd.int .i64) 3 v10 x6, Ow (Kd.int .i64) 3 v13 x4, Ow (Kd.int .i64) 3 v14 x5, pt g1 26 ([v1, v2])] ∧ Fr 49 a [(1, (.int .i64 x7)), (2, (.pointer (some ⟨g1, 0, none⟩))), (5, v14), (6, v13), (27, v10), (28, (.int .i64 (x6.length : Int))), (29, (.int .i64 x3))] ∧ Sub s6 s7 ∧ impl_comesBack.c2 k2 (impl_comesBack.l1 (impl_comesBack.l2 x12 x7 k1) x6 x7 k2) x3 x4 x5 = some x16) ?_ ?_
              · skip
                refine blk ?_
                refine sq ?_
                refine rg ?_
                obtain ⟨hq3, H⟩ := hck H
                obtain ⟨b2, o2, q2, hv4, p4⟩ := p_idxo (n := 0) (i := x3) hS rfl un_39 ti_3 hq3.1 hq3.2
                refine stp hF (p4 rfl rfl) (by decide) (fun a hF => ?_)
                obtain ⟨u2, h4, p5⟩ := p_ldo_one (P := Try.prog) (n := 0) hS rfl hv4 (Lens.id _) hq3.1 hq3.2 rfl ia_3 rfl
                obtain rfl : u2 = .int .i64 (rd x6 x3) := by injection h4
                refine stp hF (p5 rfl) (by decide) (fun a hF => ?_)
                refine stp hF (p_assign rfl) (by decide) (fun a hF => ?_)
                refine nilN ?_
                refine xn ?_
                refine sq ?_
                refine sq ?_
                refine rg ?_
                refine stp hF (p_move rfl) (by decide) (fun a hF => ?_)
                refine stp hF (p_move rfl) (by decide) (fun a hF => ?_)
                refine stp hF (p_eql rfl rfl) (by decide) (fun a hF => ?_)
                refine nilN ?_
                refine xn ?_
                refine cnd hF rfl (fun hc4 => ?_) (fun hc4 => ?_)
                · replace H := hbt hc4 H
                  refine sq ?_
                  refine rg ?_
                  refine stp hF (p_assign rfl) (by decide) (fun a hF => ?_)
                  refine nilN ?_
                  refine xn ?_
                  refine rt ?_
                  refine xr (br (xr (xr (br (br (xr (br (xr ?_))))))))
                  obtain rfl := hsm H
                  have H := hon1 HK2
                  obtain rfl := hsm H
                  have H := hon1 HK1
                  obtain rfl := hsm H
                  replace hS := hS.sel (is := []) (A' := []) rfl
                  exact ret1 hF rfl rfl hS ⟨rfl, rfl⟩
                · replace H := hbf hc4 H
                  refine skN ?_
                  refine xn ?_
                  refine sq ?_
                  refine rg ?_
                  refine stp hF (p_move rfl) (by decide) (fun a hF => ?_)
                  refine stp hF (p_move rfl) (by decide) (fun a hF => ?_)
                  replace hS := hS.sel (is := [2, 0, 0, 0]) (A' := [Ow (Kd.int .i64) 3 v12 x9, Ow (Kd.int .i64) 3 v10 x6, Ow (Kd.int .i64) 3 v11 x8, pt g1 26 ([v1, v2])]) rfl
                  obtain ⟨s8, hg5, hl1, hcall1⟩ := St.lend (P := Try.prog) (Bs := [Ow (Kd.int .i64) 3 v12 x9]) (A := []) (B := [Ow (Kd.int .i64) 3 v10 x6, Ow (Kd.int .i64) 3 v11 x8, pt g1 26 ([v1, v2])]) hS
                  obtain ⟨h5, hl1⟩ := hl1.ow hg5
                  obtain ⟨x10, hx3, H⟩ := hb H
                  refine ste hF (e_call (fst := []) (vs := [v12, (.int .i64 (rd x6 x3))]) (cap := []) rfl rfl go_80 (hcall1 (slices_Contains.spec k2 _ _ x9 (rd x6 x3) v12 h5 _ hx3) (by rintro v s1 A1 ⟨rfl, rfl⟩; exact trivial))) (by decide) (fun v w a hR hF => ?_)
                  obtain ⟨s9, s10, A4, hg6, hS, hR⟩ := hR
                  obtain ⟨hv5, rfl⟩ := hR; obtain rfl := hv5.symm
                  have hS : St e s9 w [Ow (Kd.int .i64) 3 v12 x9, Ow (Kd.int .i64) 3 v10 x6, Ow (Kd.int .i64) 3 v11 x8, pt g1 26 ([v1, v2])] := hS
                  refine stp hF (p_not rfl) (by decide) (fun a hF => ?_)
                  refine nilN ?_
                  refine xn ?_
                  refine cnd hF rfl (fun hc5 => ?_) (fun hc5 => ?_)
                  · replace H := hbt hc5 H
                    refine sq ?_
                    refine rg ?_
                    refine stp hF (p_move rfl) (by decide) (fun a hF => ?_)
                    refine stp hF (p_move rfl) (by decide) (fun a hF => ?_)
                    refine ste hF (e_bslice (kd := (Kd.int .i64)) (et := 3) (ps := [(0, (.tmp 41))]) (vs := [(0, (.int .i64 (rd x6 x3)))]) (cs := [(.int .i64 (rd x6 x3))]) (xs := ([(rd x6 x3)] : List Int)) hS rfl (by intro w; kernel_rfl) rfl (by decide) (Nat.le_of_ble_eq_true rfl) (by exact (rows_cons (kd := (Kd.int .i64)) (x := (rd x6 x3)) (c := [(.int .i64 (rd x6 x3))]) (cs := []) rfl (Rows.nil _ _ _ _)))) (by decide) (fun v15 w a hR hF => ?_)
                    have hS : St e s9 w [Ow (Kd.int .i64) 3 v15 ([(rd x6 x3)] : List Int), Ow (Kd.int .i64) 3 v12 x9, Ow (Kd.int .i64) 3 v10 x6, Ow (Kd.int .i64) 3 v11 x8, pt g1 26 ([v1, v2])] := hR
                    obtain ⟨hq4, H⟩ := hck H
                    refine ste hF (e_append (n := 1) hS rfl rfl rfl (hS.src (n := 0) rfl) un_39 ti_3 rfl (by decide) (by decide) (Nat.le_trans (Nat.mul_le_mul_right 8 hq4) (by decide))) (by decide) (fun v16 w a hR hF => ?_)
                    have hS : St e s9 w [Ow (Kd.int .i64) 3 v16 (x9 ++ ([(rd x6 x3)] : List Int)), Ow (Kd.int .i64) 3 v15 ([(rd x6 x3)] : List Int), Ow (Kd.int .i64) 3 v10 x6, Ow (Kd.int .i64) 3 v11 x8, pt g1 26 ([v1, v2])] := hR
                    replace hS := hS.sel (is := [0, 1, 1, 1]) (A' := [Ow (Kd.int .i64) 3 v16 (x9 ++ ([(rd x6 x3)] : List Int)), Ow (Kd.int .i64) 3 v10 x6, Ow (Kd.int .i64) 3 v11 x8, pt g1 26 ([v1, v2])]) rfl
                    refine stp hF (p_assign rfl) (by decide) (fun a hF => ?_)
                    refine nilN ?_
                    refine xn ?_
                    refine rg ?_
                    refine stp hF (p_move rfl) (by decide) (fun a hF => ?_)
                    refine stp hF (p_move rfl) (by decide) (fun a hF => ?_)
                    refine ste hF (e_bslice (kd := (Kd.int .i64)) (et := 3) (ps := [(0, (.tmp 45))]) (vs := [(0, (.int .i64 (rd x6 x3)))]) (cs := [(.int .i64 (rd x6 x3))]) (xs := ([(rd x6 x3)] : List Int)) hS rfl (by intro w; kernel_rfl) rfl (by decide) (Nat.le_of_ble_eq_true rfl) (by exact (rows_cons (kd := (Kd.int .i64)) (x := (rd x6 x3)) (c := [(.int .i64 (rd x6 x3))]) (cs := []) rfl (Rows.nil _ _ _ _)))) (by decide) (fun v17 w a hR hF => ?_)
                    have hS : St e s9 w [Ow (Kd.int .i64) 3 v17 ([(rd x6 x3)] : List Int), Ow (Kd.int .i64) 3 v16 (x9 ++ ([(rd x6 x3)] : List Int)), Ow (Kd.int .i64) 3 v10 x6, Ow (Kd.int .i64) 3 v11 x8, pt g1 26 ([v1, v2])] := hR
                    obtain ⟨hq5, H⟩ := hck H
                    refine ste hF (e_append (n := 3) hS rfl rfl rfl (hS.src (n := 0) rfl) un_39 ti_3 rfl (by decide) (by decide) (Nat.le_trans (Nat.mul_le_mul_right 8 hq5) (by decide))) (by decide) (fun v18 w a hR hF => ?_)
                    have hS : St e s9 w [Ow (Kd.int .i64) 3 v18 (x8 ++ ([(rd x6 x3)] : List Int)), Ow (Kd.int .i64) 3 v17 ([(rd x6 x3)] : List Int), Ow (Kd.int .i64) 3 v16 (x9 ++ ([(rd x6 x3)] : List Int)), Ow (Kd.int .i64) 3 v10 x6, pt g1 26 ([v1, v2])] := hR
                    replace hS := hS.sel (is := [0, 1, 1, 1]) (A' := [Ow (Kd.int .i64) 3 v18 (x8 ++ ([(rd x6 x3)] : List Int)), Ow (Kd.int .i64) 3 v16 (x9 ++ ([(rd x6 x3)] : List Int)), Ow (Kd.int .i64) 3 v10 x6, pt g1 26 ([v1, v2])]) rfl
                    refine stp hF (p_assign rfl) (by decide) (fun a hF => ?_)
                    refine nilN ?_
                    refine bn (xn ?_)
                    obtain rfl := hsm H
                    replace hS := hS.sel (is := [2, 0, 0, 0]) (A' := [Ow (Kd.int .i64) 3 v10 x6, Ow (Kd.int .i64) 3 v18 (x8 ++ ([(rd x6 x3)] : List Int)), Ow (Kd.int .i64) 3 v16 (x9 ++ ([(rd x6 x3)] : List Int)), pt g1 26 ([v1, v2])]) rfl
                    exact ⟨(x8 ++ ([(rd x6 x3)] : List Int)), (x9 ++ ([(rd x6 x3)] : List Int)), s9, v18, v16, hS, hF.cut ⟨rfl, rfl, rfl, rfl, rfl, rfl, rfl, trivial⟩, hg6, HK2⟩
                  · replace H := hbf hc5 H
                    refine skN ?_
                    refine bn (xn ?_)
                    obtain rfl := hsm H
                    replace hS := hS.sel (is := [1, 1, 0, 0]) (A' := [Ow (Kd.int .i64) 3 v10 x6, Ow (Kd.int .i64) 3 v11 x8, Ow (Kd.int .i64) 3 v12 x9, pt g1 26 ([v1, v2])]) rfl
                    exact ⟨x8, x9, s9, v11, v12, hS, hF.cut ⟨rfl, rfl, rfl, rfl, rfl, rfl, rfl, trivial⟩, hg6, HK2⟩
              · clear H HK2 hS hF
                rintro a w ⟨x4, x5, s7, v13, v14, hS, hF, hg7, H⟩
                unfold impl_comesBack.c2 at H
                refine rg ?_
                refine stp hF (p_add (c := w64 (x3 + 1)) rfl rfl rfl) (by decide) (fun a hF => ?_)
                refine stp hF (p_move rfl) (by decide) (fun a hF => ?_)
                refine nilN ?_
                refine xn ?_
                exact ⟨x4, x5, (w64 (x3 + 1)), s7, v13, v14, hS, hF.cut ⟨rfl, rfl, rfl, rfl, rfl, rfl, rfl, trivial⟩, (hg4.trans hg7), H⟩
            · replace H := hbf hc3 H
              refine exi ?_
              refine xe (xe (hit (bn (xn ?_))))
              replace hS := hS.sel (is := [1, 1, 1]) (A' := [Ow (Kd.int .i64) 3 v11 x8, Ow (Kd.int .i64) 3 v12 x9, pt g1 26 ([v1, v2])]) rfl
              exact ⟨x8, x9, s6, v11, v12, hS, hF.cut ⟨rfl, rfl, rfl, rfl, trivial⟩, (((hg1.trans hg2).trans hg3).trans hg4), H⟩
      · replace H := hbf hc1 H
        refine exi ?_
        refine xe (xe (hit (xn ?_)))
        obtain rfl := hsm H
        exact ⟨x13, x14, s3, v7, v8, hS, hF.cut trivial, hg1, HK1⟩
  · clear H HK1 hS hF
    rintro a w ⟨x1, x2, s2, v5, v6, hS, hF, hg8, H⟩
    unfold impl_comesBack.c1 at H
    refine sq ?_
    refine rg ?_
    refine stp hF (p_assign rfl) (by decide) (fun a hF => ?_)
    refine nilN ?_
    refine xn ?_
    refine rt ?_
    obtain rfl := hsm H
    replace hS := hS.sel (is := []) (A' := []) rfl
    exact ret1 hF rfl rfl hS ⟨rfl, rfl⟩

def impl_Stuck.c1 (k : Nat) (x1 : Int) : Option Int :=
  (some x1)
def impl_Stuck.c2 (k : Nat) (rec_l1 : Int → Int → Option Int) (x2 : Int) (x3 : Int) : Option Int :=
  (rec_l1 x3 (w64 (x2 + 1)))
def impl_Stuck.c3 (k : Nat) (x4 : TLocks) (x2 : Int) (x5 : Int) (x6 : Bool) : Option Int :=
  (if x6 = true then (some ((rd x4.Waits x2).Tx)) else (some x5))
def impl_Stuck.l1 (x4 : TLocks) : Nat → Int → Int → Option Int
  | 0, _, _ => none
  | k + 1, x5, x2 => (if (decide (x2 < (x4.Waits.length : Int))) = true then (((if 0 ≤ x2 ∧ x2 < (x4.Waits.length : Int) then ((if (decide (x5 < ((rd x4.Waits x2).Tx))) = true then ((impl_comesBack.f k x4 ((rd x4.Waits x2).Tx)).bind fun x7 => (some x7)) else (some false) : Option Bool).bind fun x8 => impl_Stuck.c3 k x4 x2 x5 x8) else none) : Option Int).bind fun x9 => impl_Stuck.c2 k (impl_Stuck.l1 x4 k) x2 x9) else (some x5))
def impl_Stuck.f (k : Nat) (x4 : TLocks) : Option Int :=
  (((impl_Stuck.l1 x4 k 0 0) : Option Int).bind fun x10 => impl_Stuck.c1 k x10)
set_option maxRecDepth 100000 in
set_option maxHeartbeats 4000000 in
theorem impl_Stuck.spec (k : Nat) (s0 : HF) (w : World) (x4 : TLocks) (v1 : Value) (v2 : Value) (h1 : Sl kTGrant s0 v1 x4.Given) (h2 : Sl kTGrant s0 v2 x4.Waits) (r : Int) (H : impl_Stuck.f k x4 = some r) :
    Law Try.prog 25 #[(.agg #[v1, v2])] s0 w [] (fun v s1 A1 => v = (.int .i64 r) ∧ A1 = []) := by
  unfold impl_Stuck.f at H
  refine Law.intro Try.func25 rfl [(0, (.agg #[v1, v2]))] (Nat.le_of_ble_eq_true rfl) (enter_lk ⟨rfl, trivial⟩) (fun e a hS hF => ?_)
  have hF : Fr 27 a [(0, (.agg #[v1, v2]))] := hF
  refine sq ?_
  refine rg ?_
  refine ste hF (e_box (cs := [v1, v2]) hS rfl rfl) (by decide) (fun v w a hR hF => ?_)
  obtain ⟨g1, rfl, hS⟩ := hR
  refine stp hF (p_assign rfl) (by decide) (fun a hF => ?_)
  refine nilN ?_
  refine xn ?_
  refine sq ?_
  refine rg ?_
  refine stp hF (p_assign rfl) (by decide) (fun a hF => ?_)
  refine nilN ?_
  refine xn ?_
  obtain ⟨x10, H, HK1⟩ := hb H
  refine sqj (fun a w => ∃ (x1 : Int) (s2 : HF) , St e s2 w [pt g1 26 ([v1, v2])] ∧ Fr 27 a [(3, (.int .i64 x1))] ∧ Sub s0 s2 ∧ impl_Stuck.c1 k x1 = some r) ?_ ?_
  · skip
    refine sq ?_
    refine rg ?_
    refine stp hF (p_fldb (o' := 1) rfl fi_26_1 rfl) (by decide) (fun a hF => ?_)
    refine stp hF (p_ldb_one (i := 0) hS rfl rfl ia_24 rfl) (by decide) (fun a hF => ?_)
    refine stp hF (p_lenr un_24 rfl h2) (by decide) (fun a hF => ?_)
    refine stp hF (p_move rfl) (by decide) (fun a hF => ?_)
    refine nilN ?_
    refine xn ?_
    refine blk ?_
    refine loop_ind (fun k1 a w => ∃ (x5 : Int) (x2 : Int) (s3 : HF) , St e s3 w [pt g1 26 ([v1, v2])] ∧ Fr 27 a [(1, (.pointer (some ⟨g1, 0, none⟩))), (3, (.int .i64 x5)), (7, v2), (8, (.int .i64 (x4.Waits.length : Int))), (9, (.int .i64 x2))] ∧ Sub s0 s3 ∧ impl_Stuck.l1 x4 k1 x5 x2 = some x10) k ?_ ?_ ?_
    · skip
      exact ⟨0, 0, s0, hS, hF.cut ⟨rfl, rfl, rfl, rfl, rfl, trivial⟩, (Sub.refl _), H⟩
    · clear H hS hF
      rintro a w ⟨x5, x2, s3, hS, hF, hg1, H⟩
      exact absurd (show none = some _ from H) (by simp)
    · clear H hS hF
      rintro k1 a w ⟨x5, x2, s3, hS, hF, hg1, H⟩
      rw [impl_Stuck.l1.eq_2] at H
      refine sq ?_
      refine rg ?_
      refine stp hF (p_lss rfl rfl) (by decide) (fun a hF => ?_)
      refine nilN ?_
      refine xn ?_
      refine sq ?_
      refine cnd hF rfl (fun hc1 => ?_) (fun hc1 => ?_)
      · replace H := hbt hc1 H
        refine skN ?_
        refine xn ?_
        obtain ⟨x9, H, HK2⟩ := hb H
        refine sqj (fun a w => ∃ (x3 : Int) (s4 : HF) , St e s4 w [pt g1 26 ([v1, v2])] ∧ Fr 27 a [(1, (.pointer (some ⟨g1, 0, none⟩))), (3, (.int .i64 x3)), (7, v2), (8, (.int .i64 (x4.Waits.length : Int))), (9, (.int .i64 x2))] ∧ Sub s3 s4 ∧ impl_Stuck.c2 k1 (impl_Stuck.l1 x4 k1) x2 x3 = some x10) ?_ ?_
        · skip
          refine blk ?_
          refine sq ?_
          refine rg ?_
          obtain ⟨hq1, H⟩ := hck H
          obtain ⟨ad1, h3, p1⟩ := p_idxr (P := Try.prog) (i := x2) (h2.mono hg1) un_24 ti_33 hq1.1 hq1.2
          refine stp hF (p1 rfl rfl) (by decide) (fun a hF => ?_)
          obtain ⟨c4, h4, p2⟩ := p_ldr_agg (P := Try.prog) h3 ia_33 ti_33
          obtain rfl := kTGrant_open h4
          refine stp hF (p2 rfl hS.ro) (by decide) (fun a hF => ?_)
          refine ste hF (e_alloc (cs := [(.int .i64 0), (.int .i64 0), (.int .i64 0)]) hS ti_33 rfl) (by decide) (fun v w a hR hF => ?_)
          obtain ⟨g2, rfl, hS⟩ := hR
          refine ste0 hF (e_stb (i := 0) (l := []) (m := [(.int .i64 0), (.int .i64 0), (.int .i64 0)]) (r := []) (m' := [(.int .i64 ((rd x4.Waits x2).Tx)), (.int .i64 ((rd x4.Waits x2).Res)), (.int .i64 ((rd x4.Waits x2).Mode))]) (cs' := [(.int .i64 ((rd x4.Waits x2).Tx)), (.int .i64 ((rd x4.Waits x2).Res)), (.int .i64 ((rd x4.Waits x2).Mode))]) hS rfl rfl rfl ti_33 rfl rfl rfl rfl rfl (one_cons rfl (one_cons rfl (one_cons rfl one_nil))) rfl) (fun v w a hR hF => ?_)
          have hS : St e s3 w [pt g2 33 ([(.int .i64 ((rd x4.Waits x2).Tx)), (.int .i64 ((rd x4.Waits x2).Res)), (.int .i64 ((rd x4.Waits x2).Mode))]), pt g1 26 ([v1, v2])] := hR
          refine nilN ?_
          refine xn ?_
          refine sq ?_
          refine rg ?_
          refine stp hF (p_fldb (o' := 0) rfl fi_33_0 rfl) (by decide) (fun a hF => ?_)
          refine stp hF (p_ldb_one (i := 0) hS rfl rfl ia_3 rfl) (by decide) (fun a hF => ?_)
          refine stp hF (p_move rfl) (by decide) (fun a hF => ?_)
          refine stp hF (p_gtr rfl rfl) (by decide) (fun a hF => ?_)
          refine stp hF (p_move rfl) (by decide) (fun a hF => ?_)
          obtain ⟨x8, H, HK3⟩ := hb H
          refine cutj 5 (fun a w => ∃ (x6 : Bool) (s5 : HF) , St e s5 w [pt g2 33 ([(.int .i64 ((rd x4.Waits x2).Tx)), (.int .i64 ((rd x4.Waits x2).Res)), (.int .i64 ((rd x4.Waits x2).Mode))]), pt g1 26 ([v1, v2])] ∧ Fr 27 a [(1, (.pointer (some ⟨g1, 0, none⟩))), (3, (.int .i64 x5)), (5, (.pointer (some ⟨g2, 0, none⟩))), (7, v2), (8, (.int .i64 (x4.Waits.length : Int))), (9, (.int .i64 x2)), (22, (.bool x6))] ∧ Sub s3 s5 ∧ impl_Stuck.c3 k1 x4 x2 x5 x6 = some x9) rfl rfl ?_ ?_
          · rcases Bool.eq_false_or_eq_true (decide (x5 < ((rd x4.Waits x2).Tx))) with hc2 | hc2
            · replace H := hbt hc2 H
              refine gonE (j := 4) hF rfl rfl hc2 ?_
              refine stp hF (p_ldb_agg (i := 1) (l := []) (m := [v1, v2]) (r := []) hS rfl rfl ia_26 ti_26 rfl rfl rfl) (by decide) (fun a hF => ?_)
              refine gonE (j := 4) hF rfl rfl hc2 ?_
              refine stp hF (p_fldb (o' := 0) rfl fi_33_0 rfl) (by decide) (fun a hF => ?_)
              refine gonE (j := 4) hF rfl rfl hc2 ?_
              refine stp hF (p_ldb_one (i := 0) hS rfl rfl ia_3 rfl) (by decide) (fun a hF => ?_)
              obtain ⟨x7, hx1, H⟩ := hb H
              refine gonE (j := 4) hF rfl rfl hc2 ?_
              refine ste hF (e_call (fst := []) (vs := [(.agg #[v1, v2]), (.int .i64 ((rd x4.Waits x2).Tx))]) (cap := []) rfl rfl go_58 (St.call (A := []) (B := [pt g2 33 ([(.int .i64 ((rd x4.Waits x2).Tx)), (.int .i64 ((rd x4.Waits x2).Res)), (.int .i64 ((rd x4.Waits x2).Mode))]), pt g1 26 ([v1, v2])]) hS (impl_comesBack.spec k1 _ _ x4 ((rd x4.Waits x2).Tx) v1 v2 (h1.mono hg1) (h2.mono hg1) _ hx1))) (by decide) (fun v w a hR hF => ?_)
              obtain ⟨s6, A2, hg2, hS, hR⟩ := hR
              obtain ⟨hv1, rfl⟩ := hR; obtain rfl := hv1.symm
              have hS : St e s6 w [pt g2 33 ([(.int .i64 ((rd x4.Waits x2).Tx)), (.int .i64 ((rd x4.Waits x2).Res)), (.int .i64 ((rd x4.Waits x2).Mode))]), pt g1 26 ([v1, v2])] := hS
              refine stp hF (p_pickT rfl hc2 rfl) (by decide) (fun a hF => ?_)
              refine nilN ?_
              refine xn ?_
              obtain rfl := hsm H
              exact ⟨x7, s6, hS, hF.cut ⟨rfl, rfl, rfl, rfl, rfl, rfl, rfl, trivial⟩, hg2, HK3⟩
            · replace H := hbf hc2 H
              refine gofD (j := 4) hF rfl rfl (by rw [hc2]; decide) (by decide) (fun a hF => ?_)
              refine gofD (j := 4) hF rfl rfl (by rw [hc2]; decide) (by decide) (fun a hF => ?_)
              refine gofD (j := 4) hF rfl rfl (by rw [hc2]; decide) (by decide) (fun a hF => ?_)
              refine gofD (j := 4) hF rfl rfl (by rw [hc2]; decide) (by decide) (fun a hF => ?_)
              refine stp hF (p_pickF rfl hc2 rfl) (by decide) (fun a hF => ?_)
              refine nilN ?_
              refine xn ?_
              obtain rfl := hsm H
              exact ⟨false, s3, hS, hF.cut ⟨rfl, rfl, rfl, rfl, rfl, rfl, rfl, trivial⟩, (Sub.refl _), HK3⟩
          · clear H HK3 hS hF
            rintro a w ⟨x6, s5, hS, hF, hg3, H⟩
            unfold impl_Stuck.c3 at H
            refine nilN ?_
            refine xn ?_
            refine cnd hF rfl (fun hc3 => ?_) (fun hc3 => ?_)
            · replace H := hbt hc3 H
              refine rg ?_
              refine stp hF (p_fldb (o' := 0) rfl fi_33_0 rfl) (by decide) (fun a hF => ?_)
              refine stp hF (p_ldb_one (i := 0) hS rfl rfl ia_3 rfl) (by decide) (fun a hF => ?_)
              refine stp hF (p_assign rfl) (by decide) (fun a hF => ?_)
              refine nilN ?_
              refine bn (xn ?_)
              obtain rfl := hsm H
              replace hS := hS.sel (is := [1]) (A' := [pt g1 26 ([v1, v2])]) rfl
              exact ⟨((rd x4.Waits x2).Tx), s5, hS, hF.cut ⟨rfl, rfl, rfl, rfl, rfl, trivial⟩, hg3, HK2⟩
            · replace H := hbf hc3 H
              refine skN ?_
              refine bn (xn ?_)
              obtain rfl := hsm H
              replace hS := hS.sel (is := [1]) (A' := [pt g1 26 ([v1, v2])]) rfl
              exact ⟨x5, s5, hS, hF.cut ⟨rfl, rfl, rfl, rfl, rfl, trivial⟩, hg3, HK2⟩
        · clear H HK2 hS hF
          rintro a w ⟨x3, s4, hS, hF, hg4, H⟩
          unfold impl_Stuck.c2 at H
          refine rg ?_
          refine stp hF (p_add (c := w64 (x2 + 1)) rfl rfl rfl) (by decide) (fun a hF => ?_)
          refine stp hF (p_move rfl) (by decide) (fun a hF => ?_)
          refine nilN ?_
          refine xn ?_
          exact ⟨x3, (w64 (x2 + 1)), s4, hS, hF.cut ⟨rfl, rfl, rfl, rfl, rfl, trivial⟩, (hg1.trans hg4), H⟩
      · replace H := hbf hc1 H
        refine exi ?_
        refine xe (xe (hit (xn ?_)))
        obtain rfl := hsm H
        exact ⟨x5, s3, hS, hF.cut ⟨rfl, trivial⟩, hg1, HK1⟩
  · clear H HK1 hS hF
    rintro a w ⟨x1, s2, hS, hF, hg5, H⟩
    unfold impl_Stuck.c1 at H
    refine sq ?_
    refine rg ?_
    refine stp hF (p_move rfl) (by decide) (fun a hF => ?_)
    refine stp hF (p_assign rfl) (by decide) (fun a hF => ?_)
    refine nilN ?_
    refine xn ?_
    refine rt ?_
    obtain rfl := hsm H
    replace hS := hS.sel (is := []) (A' := []) rfl
    exact ret1 hF rfl rfl hS ⟨rfl, rfl⟩

def spec_l9For.c1 (k : Nat) (x1 : (List Int)) : Option (List Int) :=
  (some x1)
def spec_l9For.c2 (k : Nat) (rec_l1 : (List Int) → Int → Option (List Int)) (x2 : Int) (x3 : (List Int)) : Option (List Int) :=
  (rec_l1 x3 (w64 (x2 + 1)))
def spec_l9For.l1 (x4 : Int) (x5 : TLocks) : Nat → (List Int) → Int → Option (List Int)
  | 0, _, _ => none
  | k + 1, x6, x2 => (if (decide (x2 < x4)) = true then (((if 0 ≤ x2 ∧ x2 < (x5.Waits.length : Int) then (if (decide (((rd x5.Waits x2).Res) = ((rd x5.Waits x4).Res))) = true then (if 0 ≤ x2 ∧ x2 < (x5.Waits.length : Int) then (if x6.length + 1 ≤ 17592186044416 then (some (x6 ++ ([(rd x5.Waits x2).Tx] : List Int))) else none) else none) else (some x6)) else none) : Option (List Int)).bind fun x7 => spec_l9For.c2 k (spec_l9For.l1 x4 x5 k) x2 x7) else (some x6))
def spec_l9For.c3 (k : Nat) (x4 : Int) (x5 : TLocks) (x8 : (List Int)) : Option (List Int) :=
  (((spec_l9For.l1 x4 x5 k x8 0) : Option (List Int)).bind fun x9 => spec_l9For.c1 k x9)
def spec_l9For.c4 (k : Nat) (rec_l2 : (List Int) → Int → Option (List Int)) (x10 : Int) (x11 : (List Int)) : Option (List Int) :=
  (rec_l2 x11 (w64 (x10 + 1)))
def spec_l9For.c5 (k : Nat) (x12 : (List Int)) (x5 : TLocks) (x10 : Int) (x13 : Bool) : Option (List Int) :=
  (if x13 = true then (if x12.length + 1 ≤ 17592186044416 then (some (x12 ++ ([(rd x5.Given x10).Tx] : List Int))) else none) else (some x12))
def spec_l9For.l2 (x5 : TLocks) (x4 : Int) (x14 : Int) : Nat → (List Int) → Int → Option (List Int)
  | 0, _, _ => none
  | k + 1, x12, x10 => (if (decide (x10 < (x5.Given.length : Int))) = true then (((if 0 ≤ x10 ∧ x10 < (x5.Given.length : Int) then ((if ((decide (((rd x5.Given x10).Res) = ((rd x5.Waits x4).Res))) && (decide (((rd x5.Given x10).Tx) ≠ ((rd x5.Waits x4).Tx)))) = true then ((spec_Goes.f k x14 ((rd x5.Given x10).Mode)).bind fun x15 => (some (!x15))) else (some false) : Option Bool).bind fun x16 => spec_l9For.c5 k x12 x5 x10 x16) else none) : Option (List Int)).bind fun x17 => spec_l9For.c4 k (spec_l9For.l2 x5 x4 x14 k) x10 x17) else (some x12))
def spec_l9For.f (k : Nat) (x5 : TLocks) (x4 : Int) : Option (List Int) :=
  (if 0 ≤ x4 ∧ x4 < (x5.Waits.length : Int) then ((spec_l9Would.f k x5 (rd x5.Waits x4)).bind fun x14 => (((spec_l9For.l2 x5 x4 x14 k ([] : List Int) 0) : Option (List Int)).bind fun x18 => spec_l9For.c3 k x4 x5 x18)) else none)
set_option maxRecDepth 100000 in
set_option maxHeartbeats 4000000 in
theorem spec_l9For.spec (k : Nat) (s0 : HF) (w : World) (x5 : TLocks) (x4 : Int) (v1 : Value) (v2 : Value) (h1 : Sl kTGrant s0 v1 x5.Given) (h2 : Sl kTGrant s0 v2 x5.Waits) (r : (List Int)) (H : spec_l9For.f k x5 x4 = some r) :
    Law Try.prog 81 #[(.agg #[v1, v2]), (.int .i64 x4)] s0 w [] (fun v s1 A1 => ∃ (u0 : Value), v = u0 ∧ A1 = [Ow (Kd.int .i64) 3 u0 r]) := by
  unfold spec_l9For.f at H
  refine Law.intro Try.func81 rfl [(0, (.agg #[v1, v2])), (1, (.int .i64 x4))] (Nat.le_of_ble_eq_true rfl) (enter_lk ⟨rfl, rfl, trivial⟩) (fun e a hS hF => ?_)
  have hF : Fr 80 a [(0, (.agg #[v1, v2])), (1, (.int .i64 x4))] := hF
  refine sq ?_
  refine rg ?_
  refine ste hF (e_box (cs := [v1, v2]) hS rfl rfl) (by decide) (fun v w a hR hF => ?_)
  obtain ⟨g1, rfl, hS⟩ := hR
  refine stp hF (p_assign rfl) (by decide) (fun a hF => ?_)
  refine nilN ?_
  refine xn ?_
  refine sq ?_
  refine rg ?_
  refine stp hF (p_fldb (o' := 1) rfl fi_26_1 rfl) (by decide) (fun a hF => ?_)
  refine stp hF (p_ldb_one (i := 0) hS rfl rfl ia_24 rfl) (by decide) (fun a hF => ?_)
  refine stp hF (p_move rfl) (by decide) (fun a hF => ?_)
  obtain ⟨hq1, H⟩ := hck H
  obtain ⟨ad1, h3, p1⟩ := p_idxr (P := Try.prog) (i := x4) h2 un_24 ti_33 hq1.1 hq1.2
  refine stp hF (p1 rfl rfl) (by decide) (fun a hF => ?_)
  obtain ⟨c6, h4, p2⟩ := p_ldr_agg (P := Try.prog) h3 ia_33 ti_33
  obtain rfl := kTGrant_open h4
  refine stp hF (p2 rfl hS.ro) (by decide) (fun a hF => ?_)
  refine ste hF (e_alloc (cs := [(.int .i64 0), (.int .i64 0), (.int .i64 0)]) hS ti_33 rfl) (by decide) (fun v w a hR hF => ?_)
  obtain ⟨g2, rfl, hS⟩ := hR
  refine ste0 hF (e_stb (i := 0) (l := []) (m := [(.int .i64 0), (.int .i64 0), (.int .i64 0)]) (r := []) (m' := [(.int .i64 ((rd x5.Waits x4).Tx)), (.int .i64 ((rd x5.Waits x4).Res)), (.int .i64 ((rd x5.Waits x4).Mode))]) (cs' := [(.int .i64 ((rd x5.Waits x4).Tx)), (.int .i64 ((rd x5.Waits x4).Res)), (.int .i64 ((rd x5.Waits x4).Mode))]) hS rfl rfl rfl ti_33 rfl rfl rfl rfl rfl (one_cons rfl (one_cons rfl (one_cons rfl one_nil))) rfl) (fun v w a hR hF => ?_)
  have hS : St e s0 w [pt g2 33 ([(.int .i64 ((rd x5.Waits x4).Tx)), (.int .i64 ((rd x5.Waits x4).Res)), (.int .i64 ((rd x5.Waits x4).Mode))]), pt g1 26 ([v1, v2])] := hR
  refine nilN ?_
  refine xn ?_
  refine sq ?_
  refine rg ?_
  refine stp hF (p_ldb_agg (i := 1) (l := []) (m := [v1, v2]) (r := []) hS rfl rfl ia_26 ti_26 rfl rfl rfl) (by decide) (fun a hF => ?_)
  refine stp hF (p_ldb_agg (i := 0) (l := []) (m := [(.int .i64 ((rd x5.Waits x4).Tx)), (.int .i64 ((rd x5.Waits x4).Res)), (.int .i64 ((rd x5.Waits x4).Mode))]) (r := []) hS rfl rfl ia_33 ti_33 rfl rfl rfl) (by decide) (fun a hF => ?_)
  obtain ⟨x14, hx1, H⟩ := hb H
  refine ste hF (e_call (fst := []) (vs := [(.agg #[v1, v2]), (.agg #[(.int .i64 ((rd x5.Waits x4).Tx)), (.int .i64 ((rd x5.Waits x4).Res)), (.int .i64 ((rd x5.Waits x4).Mode))])]) (cap := []) rfl rfl go_71 (St.call (A := []) (B := [pt g2 33 ([(.int .i64 ((rd x5.Waits x4).Tx)), (.int .i64 ((rd x5.Waits x4).Res)), (.int .i64 ((rd x5.Waits x4).Mode))]), pt g1 26 ([v1, v2])]) hS (spec_l9Would.spec k _ _ x5 (rd x5.Waits x4) v1 v2 h1 h2 _ hx1))) (by decide) (fun v w a hR hF => ?_)
  obtain ⟨s2, A2, hg1, hS, hR⟩ := hR
  obtain ⟨hv1, rfl⟩ := hR; obtain rfl := hv1.symm
  have hS : St e s2 w [pt g2 33 ([(.int .i64 ((rd x5.Waits x4).Tx)), (.int .i64 ((rd x5.Waits x4).Res)), (.int .i64 ((rd x5.Waits x4).Mode))]), pt g1 26 ([v1, v2])] := hS
  refine stp hF (p_assign rfl) (by decide) (fun a hF => ?_)
  refine nilN ?_
  refine xn ?_
  refine sq ?_
  refine rg ?_
  refine ste hF (e_bslice (kd := (Kd.int .i64)) (et := 3) (ps := []) (vs := []) (cs := []) (xs := ([] : List Int)) hS rfl (by intro w; kernel_rfl) rfl (by decide) (Nat.le_of_ble_eq_true rfl) (by exact (Rows.nil _ _ _ _))) (by decide) (fun v3 w a hR hF => ?_)
  have hS : St e s2 w [Ow (Kd.int .i64) 3 v3 ([] : List Int), pt g2 33 ([(.int .i64 ((rd x5.Waits x4).Tx)), (.int .i64 ((rd x5.Waits x4).Res)), (.int .i64 ((rd x5.Waits x4).Mode))]), pt g1 26 ([v1, v2])] := hR
  refine stp hF (p_assign rfl) (by decide) (fun a hF => ?_)
  refine nilN ?_
  refine xn ?_
  obtain ⟨x18, H, HK1⟩ := hb H
  refine sqj (fun a w => ∃ (x8 : (List Int)) (s3 : HF) (v4 : Value) , St e s3 w [Ow (Kd.int .i64) 3 v4 x8, pt g2 33 ([(.int .i64 ((rd x5.Waits x4).Tx)), (.int .i64 ((rd x5.Waits x4).Res)), (.int .i64 ((rd x5.Waits x4).Mode))]), pt g1 26 ([v1, v2])] ∧ Fr 80 a [(1, (.int .i64 x4)), (2, (.pointer (some ⟨g1, 0, none⟩))), (5, (.pointer (some ⟨g2, 0, none⟩))), (7, v4)] ∧ Sub s2 s3 ∧ spec_l9For.c3 k x4 x5 x8 = some r) ?_ ?_
  · skip
    refine sq ?_
    refine rg ?_
    refine stp hF (p_assign rfl) (by decide) (fun a hF => ?_)
    refine nilN ?_
    refine xn ?_
    refine blk ?_
    refine loop_ind (fun k1 a w => ∃ (x12 : (List Int)) (x10 : Int) (s4 : HF) (v5 : Value) , St e s4 w [Ow (Kd.int .i64) 3 v5 x12, pt g2 33 ([(.int .i64 ((rd x5.Waits x4).Tx)), (.int .i64 ((rd x5.Waits x4).Res)), (.int .i64 ((rd x5.Waits x4).Mode))]), pt g1 26 ([v1, v2])] ∧ Fr 80 a [(1, (.int .i64 x4)), (2, (.pointer (some ⟨g1, 0, none⟩))), (5, (.pointer (some ⟨g2, 0, none⟩))), (6, (.int .i64 x14)), (7, v5), (8, (.int .i64 x10))] ∧ Sub s2 s4 ∧ spec_l9For.l2 x5 x4 x14 k1 x12 x10 = some x18) k ?_ ?_ ?_
    · skip
      exact ⟨([] : List Int), 0, s2, v3, hS, hF.cut ⟨rfl, rfl, rfl, rfl, rfl, rfl, trivial⟩, (Sub.refl _), H⟩
    · clear H hS hF
      rintro a w ⟨x12, x10, s4, v5, hS, hF, hg2, H⟩
      exact absurd (show none = some _ from H) (by simp)
    · clear H hS hF
      rintro k1 a w ⟨x12, x10, s4, v5, hS, hF, hg2, H⟩
      rw [spec_l9For.l2.eq_2] at H
      refine sq ?_
      refine sq ?_
      refine rg ?_
      refine stp hF (p_move rfl) (by decide) (fun a hF => ?_)
      refine stp hF (p_fldb (o' := 0) rfl fi_26_0 rfl) (by decide) (fun a hF => ?_)
      refine stp hF (p_ldb_one (i := 2) hS rfl rfl ia_24 rfl) (by decide) (fun a hF => ?_)
      refine stp hF (p_lenr un_24 rfl ((h1.mono hg1).mono hg2)) (by decide) (fun a hF => ?_)
      refine stp hF (p_lss rfl rfl) (by decide) (fun a hF => ?_)
      refine nilN ?_
      refine xn ?_
      refine cnd hF rfl (fun hc1 => ?_) (fun hc1 => ?_)
      · replace H := hbt hc1 H
        refine skN ?_
        refine xn ?_
        obtain ⟨x17, H, HK2⟩ := hb H
        refine sqj (fun a w => ∃ (x11 : (List Int)) (s5 : HF) (v6 : Value) , St e s5 w [Ow (Kd.int .i64) 3 v6 x11, pt g2 33 ([(.int .i64 ((rd x5.Waits x4).Tx)), (.int .i64 ((rd x5.Waits x4).Res)), (.int .i64 ((rd x5.Waits x4).Mode))]), pt g1 26 ([v1, v2])] ∧ Fr 80 a [(1, (.int .i64 x4)), (2, (.pointer (some ⟨g1, 0, none⟩))), (5, (.pointer (some ⟨g2, 0, none⟩))), (6, (.int .i64 x14)), (7, v6), (8, (.int .i64 x10))] ∧ Sub s4 s5 ∧ spec_l9For.c4 k1 (spec_l9For.l2 x5 x4 x14 k1) x10 x11 = some x18) ?_ ?_
        · skip
          refine blk ?_
          refine sq ?_
          refine rg ?_
          refine stp hF (p_fldb (o' := 0) rfl fi_26_0 rfl) (by decide) (fun a hF => ?_)
          refine stp hF (p_ldb_one (i := 2) hS rfl rfl ia_24 rfl) (by decide) (fun a hF => ?_)
          refine stp hF (p_move rfl) (by decide) (fun a hF => ?_)
          obtain ⟨hq2, H⟩ := hck H
          obtain ⟨ad2, h5, p3⟩ := p_idxr (P := Try.prog) (i := x10) ((h1.mono hg1).mono hg2) un_24 ti_33 hq2.1 hq2.2
          refine stp hF (p3 rfl rfl) (by decide) (fun a hF => ?_)
          obtain ⟨c7, h6, p4⟩ := p_ldr_agg (P := Try.prog) h5 ia_33 ti_33
          obtain rfl := kTGrant_open h6
          refine stp hF (p4 rfl hS.ro) (by decide) (fun a hF => ?_)
          refine ste hF (e_alloc (cs := [(.int .i64 0), (.int .i64 0), (.int .i64 0)]) hS ti_33 rfl) (by decide) (fun v w a hR hF => ?_)
          obtain ⟨g3, rfl, hS⟩ := hR
          refine ste0 hF (e_stb (i := 0) (l := []) (m := [(.int .i64 0), (.int .i64 0), (.int .i64 0)]) (r := []) (m' := [(.int .i64 ((rd x5.Given x10).Tx)), (.int .i64 ((rd x5.Given x10).Res)), (.int .i64 ((rd x5.Given x10).Mode))]) (cs' := [(.int .i64 ((rd x5.Given x10).Tx)), (.int .i64 ((rd x5.Given x10).Res)), (.int .i64 ((rd x5.Given x10).Mode))]) hS rfl rfl rfl ti_33 rfl rfl rfl rfl rfl (one_cons rfl (one_cons rfl (one_cons rfl one_nil))) rfl) (fun v w a hR hF => ?_)
          have hS : St e s4 w [pt g3 33 ([(.int .i64 ((rd x5.Given x10).Tx)), (.int .i64 ((rd x5.Given x10).Res)), (.int .i64 ((rd x5.Given x10).Mode))]), Ow (Kd.int .i64) 3 v5 x12, pt g2 33 ([(.int .i64 ((rd x5.Waits x4).Tx)), (.int .i64 ((rd x5.Waits x4).Res)), (.int .i64 ((rd x5.Waits x4).Mode))]), pt g1 26 ([v1, v2])] := hR
          refine nilN ?_
          refine xn ?_
          refine sq ?_
          refine rg ?_
          refine stp hF (p_fldb (o' := 1) rfl fi_33_1 rfl) (by decide) (fun a hF => ?_)
          refine stp hF (p_ldb_one (i := 0) hS rfl rfl ia_3 rfl) (by decide) (fun a hF => ?_)
          refine stp hF (p_fldb (o' := 1) rfl fi_33_1 rfl) (by decide) (fun a hF => ?_)
          refine stp hF (p_ldb_one (i := 2) hS rfl rfl ia_3 rfl) (by decide) (fun a hF => ?_)
          refine stp hF (p_eql rfl rfl) (by decide) (fun a hF => ?_)
          refine stp hF (p_move rfl) (by decide) (fun a hF => ?_)
          refine cutj 6 (fun a w => St e s4 w [pt g3 33 ([(.int .i64 ((rd x5.Given x10).Tx)), (.int .i64 ((rd x5.Given x10).Res)), (.int .i64 ((rd x5.Given x10).Mode))]), Ow (Kd.int .i64) 3 v5 x12, pt g2 33 ([(.int .i64 ((rd x5.Waits x4).Tx)), (.int .i64 ((rd x5.Waits x4).Res)), (.int .i64 ((rd x5.Waits x4).Mode))]), pt g1 26 ([v1, v2])] ∧ Fr 80 a [(1, (.int .i64 x4)), (2, (.pointer (some ⟨g1, 0, none⟩))), (5, (.pointer (some ⟨g2, 0, none⟩))), (6, (.int .i64 x14)), (7, v5), (8, (.int .i64 x10)), (9, (.pointer (some ⟨g3, 0, none⟩))), (43, (.bool ((decide (((rd x5.Given x10).Res) = ((rd x5.Waits x4).Res))) && (decide (((rd x5.Given x10).Tx) ≠ ((rd x5.Waits x4).Tx))))))]) rfl rfl ?_ ?_
          · rcases Bool.eq_false_or_eq_true (decide (((rd x5.Given x10).Res) = ((rd x5.Waits x4).Res))) with hc2 | hc2
            · skip
              refine gonE (j := 5) hF rfl rfl hc2 ?_
              refine stp hF (p_fldb (o' := 0) rfl fi_33_0 rfl) (by decide) (fun a hF => ?_)
              refine gonE (j := 5) hF rfl rfl hc2 ?_
              refine stp hF (p_ldb_one (i := 0) hS rfl rfl ia_3 rfl) (by decide) (fun a hF => ?_)
              refine gonE (j := 5) hF rfl rfl hc2 ?_
              refine stp hF (p_fldb (o' := 0) rfl fi_33_0 rfl) (by decide) (fun a hF => ?_)
              refine gonE (j := 5) hF rfl rfl hc2 ?_
              refine stp hF (p_ldb_one (i := 2) hS rfl rfl ia_3 rfl) (by decide) (fun a hF => ?_)
              refine gonE (j := 5) hF rfl rfl hc2 ?_
              refine stp hF (p_neq rfl rfl) (by decide) (fun a hF => ?_)
              refine stp hF (p_andT rfl hc2 rfl) (by decide) (fun a hF => ?_)
              refine nilN ?_
              refine xn ?_
              exact ⟨hS, hF.cut ⟨rfl, rfl, rfl, rfl, rfl, rfl, rfl, rfl, trivial⟩⟩
            · skip
              refine gofD (j := 5) hF rfl rfl (by rw [hc2]; decide) (by decide) (fun a hF => ?_)
              refine gofD (j := 5) hF rfl rfl (by rw [hc2]; decide) (by decide) (fun a hF => ?_)
              refine gofD (j := 5) hF rfl rfl (by rw [hc2]; decide) (by decide) (fun a hF => ?_)
              refine gofD (j := 5) hF rfl rfl (by rw [hc2]; decide) (by decide) (fun a hF => ?_)
              refine gofD (j := 5) hF rfl rfl (by rw [hc2]; decide) (by decide) (fun a hF => ?_)
              refine stp hF (p_andF (decide (((rd x5.Given x10).Tx) ≠ ((rd x5.Waits x4).Tx))) rfl hc2 rfl) (by decide) (fun a hF => ?_)
              refine nilN ?_
              refine xn ?_
              exact ⟨hS, hF.cut ⟨rfl, rfl, rfl, rfl, rfl, rfl, rfl, rfl, trivial⟩⟩
          clear hS hF
          rintro a w ⟨hS, hF⟩
          refine stp hF (p_move rfl) (by decide) (fun a hF => ?_)
          obtain ⟨x16, H, HK3⟩ := hb H
          refine cutj 6 (fun a w => ∃ (x13 : Bool) (s6 : HF) , St e s6 w [pt g3 33 ([(.int .i64 ((rd x5.Given x10).Tx)), (.int .i64 ((rd x5.Given x10).Res)), (.int .i64 ((rd x5.Given x10).Mode))]), Ow (Kd.int .i64) 3 v5 x12, pt g2 33 ([(.int .i64 ((rd x5.Waits x4).Tx)), (.int .i64 ((rd x5.Waits x4).Res)), (.int .i64 ((rd x5.Waits x4).Mode))]), pt g1 26 ([v1, v2])] ∧ Fr 80 a [(1, (.int .i64 x4)), (2, (.pointer (some ⟨g1, 0, none⟩))), (5, (.pointer (some ⟨g2, 0, none⟩))), (6, (.int .i64 x14)), (7, v5), (8, (.int .i64 x10)), (9, (.pointer (some ⟨g3, 0, none⟩))), (50, (.bool x13))] ∧ Sub s4 s6 ∧ spec_l9For.c5 k1 x12 x5 x10 x13 = some x17) rfl rfl ?_ ?_
          · rcases Bool.eq_false_or_eq_true (((decide (((rd x5.Given x10).Res) = ((rd x5.Waits x4).Res))) && (decide (((rd x5.Given x10).Tx) ≠ ((rd x5.Waits x4).Tx))))) with hc3 | hc3
            · replace H := hbt hc3 H
              refine gonE (j := 12) hF rfl rfl hc3 ?_
              refine stp hF (p_move rfl) (by decide) (fun a hF => ?_)
              refine gonE (j := 12) hF rfl rfl hc3 ?_
              refine stp hF (p_fldb (o' := 2) rfl fi_33_2 rfl) (by decide) (fun a hF => ?_)
              refine gonE (j := 12) hF rfl rfl hc3 ?_
              refine stp hF (p_ldb_one (i := 0) hS rfl rfl ia_3 rfl) (by decide) (fun a hF => ?_)
              obtain ⟨x15, hx2, H⟩ := hb H
              refine gonE (j := 12) hF rfl rfl hc3 ?_
              refine ste hF (e_call (fst := []) (vs := [(.int .i64 x14), (.int .i64 ((rd x5.Given x10).Mode))]) (cap := []) rfl rfl go_67 (St.call (A := []) (B := [pt g3 33 ([(.int .i64 ((rd x5.Given x10).Tx)), (.int .i64 ((rd x5.Given x10).Res)), (.int .i64 ((rd x5.Given x10).Mode))]), Ow (Kd.int .i64) 3 v5 x12, pt g2 33 ([(.int .i64 ((rd x5.Waits x4).Tx)), (.int .i64 ((rd x5.Waits x4).Res)), (.int .i64 ((rd x5.Waits x4).Mode))]), pt g1 26 ([v1, v2])]) hS (spec_Goes.spec k1 _ _ x14 ((rd x5.Given x10).Mode) _ hx2))) (by decide) (fun v w a hR hF => ?_)
              obtain ⟨s7, A3, hg3, hS, hR⟩ := hR
              obtain ⟨hv2, rfl⟩ := hR; obtain rfl := hv2.symm
              have hS : St e s7 w [pt g3 33 ([(.int .i64 ((rd x5.Given x10).Tx)), (.int .i64 ((rd x5.Given x10).Res)), (.int .i64 ((rd x5.Given x10).Mode))]), Ow (Kd.int .i64) 3 v5 x12, pt g2 33 ([(.int .i64 ((rd x5.Waits x4).Tx)), (.int .i64 ((rd x5.Waits x4).Res)), (.int .i64 ((rd x5.Waits x4).Mode))]), pt g1 26 ([v1, v2])] := hS
              refine gonE (j := 12) hF rfl rfl hc3 ?_
              refine stp hF (p_not rfl) (by decide) (fun a hF => ?_)
              refine stp hF (p_pickT rfl hc3 rfl) (by decide) (fun a hF => ?_)
              refine nilN ?_
              refine xn ?_
              obtain rfl := hsm H
              exact ⟨(!x15), s7, hS, hF.cut ⟨rfl, rfl, rfl, rfl, rfl, rfl, rfl, rfl, trivial⟩, hg3, HK3⟩
            · replace H := hbf hc3 H
              refine gofD (j := 12) hF rfl rfl (by rw [hc3]; decide) (by decide) (fun a hF => ?_)
              refine gofD (j := 12) hF rfl rfl (by rw [hc3]; decide) (by decide) (fun a hF => ?_)
              refine gofD (j := 12) hF rfl rfl (by rw [hc3]; decide) (by decide) (fun a hF => ?_)
              refine gofD (j := 12) hF rfl rfl (by rw [hc3]; decide) (by decide) (fun a hF => ?_)
              refine gofD (j := 12) hF rfl rfl (by rw [hc3]; decide) (by decide) (fun a hF => ?_)
              refine stp hF (p_pickF rfl hc3 rfl) (by decide) (fun a hF => ?_)
              refine nilN ?_
              refine xn ?_
              obtain rfl := hsm H
              exact ⟨false, s4, hS, hF.cut ⟨rfl, rfl, rfl, rfl, rfl, rfl, rfl, rfl, trivial⟩, (Sub.refl _), HK3⟩
          · clear H HK3 hS hF
            rintro a w ⟨x13, s6, hS, hF, hg4, H⟩
            unfold spec_l9For.c5 at H
            refine nilN ?_
            refine xn ?_
            refine cnd hF rfl (fun hc4 => ?_) (fun hc4 => ?_)
            · replace H := hbt hc4 H
              refine rg ?_
              refine stp hF (p_move rfl) (by decide) (fun a hF => ?_)
              refine stp hF (p_fldb (o' := 0) rfl fi_33_0 rfl) (by decide) (fun a hF => ?_)
              refine stp hF (p_ldb_one (i := 0) hS rfl rfl ia_3 rfl) (by decide) (fun a hF => ?_)
              refine ste hF (e_bslice (kd := (Kd.int .i64)) (et := 3) (ps := [(0, (.tmp 53))]) (vs := [(0, (.int .i64 ((rd x5.Given x10).Tx)))]) (cs := [(.int .i64 ((rd x5.Given x10).Tx))]) (xs := ([(rd x5.Given x10).Tx] : List Int)) hS rfl (by intro w; kernel_rfl) rfl (by decide) (Nat.le_of_ble_eq_true rfl) (by exact (rows_cons (kd := (Kd.int .i64)) (x := (rd x5.Given x10).Tx) (c := [(.int .i64 ((rd x5.Given x10).Tx))]) (cs := []) rfl (Rows.nil _ _ _ _)))) (by decide) (fun v7 w a hR hF => ?_)
              have hS : St e s6 w [Ow (Kd.int .i64) 3 v7 ([(rd x5.Given x10).Tx] : List Int), pt g3 33 ([(.int .i64 ((rd x5.Given x10).Tx)), (.int .i64 ((rd x5.Given x10).Res)), (.int .i64 ((rd x5.Given x10).Mode))]), Ow (Kd.int .i64) 3 v5 x12, pt g2 33 ([(.int .i64 ((rd x5.Waits x4).Tx)), (.int .i64 ((rd x5.Waits x4).Res)), (.int .i64 ((rd x5.Waits x4).Mode))]), pt g1 26 ([v1, v2])] := hR
              obtain ⟨hq3, H⟩ := hck H
              refine ste hF (e_append (n := 2) hS rfl rfl rfl (hS.src (n := 0) rfl) un_39 ti_3 rfl (by decide) (by decide) (Nat.le_trans (Nat.mul_le_mul_right 8 hq3) (by decide))) (by decide) (fun v8 w a hR hF => ?_)
              have hS : St e s6 w [Ow (Kd.int .i64) 3 v8 (x12 ++ ([(rd x5.Given x10).Tx] : List Int)), Ow (Kd.int .i64) 3 v7 ([(rd x5.Given x10).Tx] : List Int), pt g3 33 ([(.int .i64 ((rd x5.Given x10).Tx)), (.int .i64 ((rd x5.Given x10).Res)), (.int .i64 ((rd x5.Given x10).Mode))]), pt g2 33 ([(.int .i64 ((rd x5.Waits x4).Tx)), (.int .i64 ((rd x5.Waits x4).Res)), (.int .i64 ((rd x5.Waits x4).Mode))]), pt g1 26 ([v1, v2])] := hR
              replace hS := hS.sel (is := [0, 1, 1, 1]) (A' := [Ow (Kd.int .i64) 3 v8 (x12 ++ ([(rd x5.Given x10).Tx] : List Int)), pt g3 33 ([(.int .i64 ((rd x5.Given x10).Tx)), (.int .i64 ((rd x5.Given x10).Res)), (.int .i64 ((rd x5.Given x10).Mode))]), pt g2 33 ([(.int .i64 ((rd x5.Waits x4).Tx)), (.int .i64 ((rd x5.Waits x4).Res)), (.int .i64 ((rd x5.Waits x4).Mode))]), pt g1 26 ([v1, v2])]) rfl
              refine stp hF (p_assign rfl) (by decide) (fun a hF => ?_)
              refine nilN ?_
              refine bn (xn ?_)
              obtain rfl := hsm H
              replace hS := hS.sel (is := [0, 1, 1]) (A' := [Ow (Kd.int .i64) 3 v8 (x12 ++ ([(rd x5.Given x10).Tx] : List Int)), pt g2 33 ([(.int .i64 ((rd x5.Waits x4).Tx)), (.int .i64 ((rd x5.Waits x4).Res)), (.int .i64 ((rd x5.Waits x4).Mode))]), pt g1 26 ([v1, v2])]) rfl
              exact ⟨(x12 ++ ([(rd x5.Given x10).Tx] : List Int)), s6, v8, hS, hF.cut ⟨rfl, rfl, rfl, rfl, rfl, rfl, trivial⟩, hg4, HK2⟩
            · replace H := hbf hc4 H
              refine skN ?_
              refine bn (xn ?_)
              obtain rfl := hsm H
              replace hS := hS.sel (is := [1, 1, 1]) (A' := [Ow (Kd.int .i64) 3 v5 x12, pt g2 33 ([(.int .i64 ((rd x5.Waits x4).Tx)), (.int .i64 ((rd x5.Waits x4).Res)), (.int .i64 ((rd x5.Waits x4).Mode))]), pt g1 26 ([v1, v2])]) rfl
              exact ⟨x12, s6, v5, hS, hF.cut ⟨rfl, rfl, rfl, rfl, rfl, rfl, trivial⟩, hg4, HK2⟩
        · clear H HK2 hS hF
          rintro a w ⟨x11, s5, v6, hS, hF, hg5, H⟩
          unfold spec_l9For.c4 at H
          refine rg ?_
          refine stp hF (p_move rfl) (by decide) (fun a hF => ?_)
          refine stp hF (p_add (c := w64 (x10 + 1)) rfl rfl rfl) (by decide) (fun a hF => ?_)
          refine stp hF (p_assign rfl) (by decide) (fun a hF => ?_)
          refine nilN ?_
          refine xn ?_
          exact ⟨x11, (w64 (x10 + 1)), s5, v6, hS, hF.cut ⟨rfl, rfl, rfl, rfl, rfl, rfl, trivial⟩, (hg2.trans hg5), H⟩
      · replace H := hbf hc1 H
        refine exi ?_
        refine xe (xe (hit (xn ?_)))
        obtain rfl := hsm H
        exact ⟨x12, s4, v5, hS, hF.cut ⟨rfl, rfl, rfl, rfl, trivial⟩, hg2, HK1⟩
  · clear H HK1 hS hF
    rintro a w ⟨x8, s3, v4, hS, hF, hg6, H⟩
    unfold spec_l9For.c3 at H
    obtain ⟨x9, H, HK4⟩ := hb H
    refine sqj (fun a w => ∃ (x1 : (List Int)) (v9 : Value) , St e s3 w [Ow (Kd.int .i64) 3 v9 x1, pt g2 33 ([(.int .i64 ((rd x5.Waits x4).Tx)), (.int .i64 ((rd x5.Waits x4).Res)), (.int .i64 ((rd x5.Waits x4).Mode))]), pt g1 26 ([v1, v2])] ∧ Fr 80 a [(7, v9)] ∧ spec_l9For.c1 k x1 = some r) ?_ ?_
    · skip
      refine sq ?_
      refine rg ?_
      refine stp hF (p_assign rfl) (by decide) (fun a hF => ?_)
      refine nilN ?_
      refine xn ?_
      refine blk ?_
      refine loop_ind (fun k2 a w => ∃ (x6 : (List Int)) (x2 : Int) (v10 : Value) , St e s3 w [Ow (Kd.int .i64) 3 v10 x6, pt g2 33 ([(.int .i64 ((rd x5.Waits x4).Tx)), (.int .i64 ((rd x5.Waits x4).Res)), (.int .i64 ((rd x5.Waits x4).Mode))]), pt g1 26 ([v1, v2])] ∧ Fr 80 a [(1, (.int .i64 x4)), (2, (.pointer (some ⟨g1, 0, none⟩))), (5, (.pointer (some ⟨g2, 0, none⟩))), (7, v10), (10, (.int .i64 x2))] ∧ spec_l9For.l1 x4 x5 k2 x6 x2 = some x9) k ?_ ?_ ?_
      · skip
        exact ⟨x8, 0, v4, hS, hF.cut ⟨rfl, rfl, rfl, rfl, rfl, trivial⟩, H⟩
      · clear H hS hF
        rintro a w ⟨x6, x2, v10, hS, hF, H⟩
        exact absurd (show none = some _ from H) (by simp)
      · clear H hS hF
        rintro k2 a w ⟨x6, x2, v10, hS, hF, H⟩
        rw [spec_l9For.l1.eq_2] at H
        refine sq ?_
        refine sq ?_
        refine rg ?_
        refine stp hF (p_move rfl) (by decide) (fun a hF => ?_)
        refine stp hF (p_move rfl) (by decide) (fun a hF => ?_)
        refine stp hF (p_lss rfl rfl) (by decide) (fun a hF => ?_)
        refine nilN ?_
        refine xn ?_
        refine cnd hF rfl (fun hc5 => ?_) (fun hc5 => ?_)
        · replace H := hbt hc5 H
          refine skN ?_
          refine xn ?_
          obtain ⟨x7, H, HK5⟩ := hb H
          refine sqj (fun a w => ∃ (x3 : (List Int)) (v11 : Value) , St e s3 w [Ow (Kd.int .i64) 3 v11 x3, pt g2 33 ([(.int .i64 ((rd x5.Waits x4).Tx)), (.int .i64 ((rd x5.Waits x4).Res)), (.int .i64 ((rd x5.Waits x4).Mode))]), pt g1 26 ([v1, v2])] ∧ Fr 80 a [(1, (.int .i64 x4)), (2, (.pointer (some ⟨g1, 0, none⟩))), (5, (.pointer (some ⟨g2, 0, none⟩))), (7, v11), (10, (.int .i64 x2))] ∧ spec_l9For.c2 k2 (spec_l9For.l1 x4 x5 k2) x2 x3 = some x9) ?_ ?_
          · skip
            refine blk ?_
            refine sq ?_
            replace hS : St e s3 w.drew [Ow (Kd.int .i64) 3 v10 x6, pt g2 33 ([(.int .i64 ((rd x5.Waits x4).Tx)), (.int .i64 ((rd x5.Waits x4).Res)), (.int .i64 ((rd x5.Waits x4).Mode))]), pt g1 26 ([v1, v2])] := hS.drewN 1
            refine drw [0, 1, 2, 3, 4, 5, 6, 7, 8] mixed (by kernel_rfl) (by decide) (hF.cut (L' := [(1, (.int .i64 x4)), (2, (.pointer (some ⟨g1, 0, none⟩))), (5, (.pointer (some ⟨g2, 0, none⟩))), (7, v10), (10, (.int .i64 x2)), (56, (.int .i64 x2)), (57, (.int .i64 x4)), (58, (.bool (decide (x2 < x4))))]) ⟨rfl, rfl, rfl, rfl, rfl, rfl, rfl, rfl, trivial⟩) ?_
            clear hF
            generalize w.drew = w at hS ⊢
            refine pk1 rfl (by decide) rfl (by kernel_rfl) rfl (p_fldb (o' := 1) rfl fi_26_1 rfl) ?_
            refine pk1 rfl (by decide) rfl (by kernel_rfl) rfl (p_ldb_one (i := 2) hS rfl rfl ia_24 rfl) ?_
            refine pk1 rfl (by decide) rfl (by kernel_rfl) rfl (p_move rfl) ?_
            obtain ⟨hq4, H⟩ := hck H
            obtain ⟨ad3, h7, p5⟩ := p_idxr (P := Try.prog) (i := x2) ((h2.mono hg1).mono hg6) un_24 ti_33 hq4.1 hq4.2
            refine pk1 rfl (by decide) rfl (by kernel_rfl) rfl (p5 rfl rfl) ?_
            have h8 : Pr (Kd.int .i64) s3 (ad3.add 1) ((rd x5.Waits x2).Res) := h7.lens kTGrant_Res
            refine pk1 rfl (by decide) rfl (by kernel_rfl) rfl (p_fld rfl fi_33_1) ?_
            refine pk1 rfl (by decide) rfl (by kernel_rfl) rfl (p_ldr_int rfl hS h8 ia_3) ?_
            refine pk1 rfl (by decide) rfl (by kernel_rfl) rfl (p_fldb (o' := 1) rfl fi_33_1 rfl) ?_
            refine pk1 rfl (by decide) rfl (by kernel_rfl) rfl (p_ldb_one (i := 1) hS rfl rfl ia_3 rfl) ?_
            refine pk1 rfl (by decide) rfl (by kernel_rfl) rfl (p_eql rfl rfl) ?_
            refine pkF (fun a hF => ?_)
            refine xn ?_
            refine cnd hF rfl (fun hc6 => ?_) (fun hc6 => ?_)
            · replace H := hbt hc6 H
              refine rg ?_
              refine stp hF (p_move rfl) (by decide) (fun a hF => ?_)
              refine stp hF (p_fldb (o' := 1) rfl fi_26_1 rfl) (by decide) (fun a hF => ?_)
              refine stp hF (p_ldb_one (i := 2) hS rfl rfl ia_24 rfl) (by decide) (fun a hF => ?_)
              refine stp hF (p_move rfl) (by decide) (fun a hF => ?_)
              obtain ⟨hq5, H⟩ := hck H
              obtain ⟨ad4, h9, p6⟩ := p_idxr (P := Try.prog) (i := x2) ((h2.mono hg1).mono hg6) un_24 ti_33 hq5.1 hq5.2
              refine stp hF (p6 rfl rfl) (by decide) (fun a hF => ?_)
              have h10 : Pr (Kd.int .i64) s3 (ad4.add 0) ((rd x5.Waits x2).Tx) := h9.lens kTGrant_Tx
              refine stp hF (p_fld rfl fi_33_0) (by decide) (fun a hF => ?_)
              refine stp hF (p_ldr_int rfl hS h10 ia_3) (by decide) (fun a hF => ?_)
              refine ste hF (e_bslice (kd := (Kd.int .i64)) (et := 3) (ps := [(0, (.tmp 76))]) (vs := [(0, (.int .i64 ((rd x5.Waits x2).Tx)))]) (cs := [(.int .i64 ((rd x5.Waits x2).Tx))]) (xs := ([(rd x5.Waits x2).Tx] : List Int)) hS rfl (by intro w; kernel_rfl) rfl (by decide) (Nat.le_of_ble_eq_true rfl) (by exact (rows_cons (kd := (Kd.int .i64)) (x := (rd x5.Waits x2).Tx) (c := [(.int .i64 ((rd x5.Waits x2).Tx))]) (cs := []) rfl (Rows.nil _ _ _ _)))) (by decide) (fun v12 w a hR hF => ?_)
              have hS : St e s3 w [Ow (Kd.int .i64) 3 v12 ([(rd x5.Waits x2).Tx] : List Int), Ow (Kd.int .i64) 3 v10 x6, pt g2 33 ([(.int .i64 ((rd x5.Waits x4).Tx)), (.int .i64 ((rd x5.Waits x4).Res)), (.int .i64 ((rd x5.Waits x4).Mode))]), pt g1 26 ([v1, v2])] := hR
              obtain ⟨hq6, H⟩ := hck H
              refine ste hF (e_append (n := 1) hS rfl rfl rfl (hS.src (n := 0) rfl) un_39 ti_3 rfl (by decide) (by decide) (Nat.le_trans (Nat.mul_le_mul_right 8 hq6) (by decide))) (by decide) (fun v13 w a hR hF => ?_)
              have hS : St e s3 w [Ow (Kd.int .i64) 3 v13 (x6 ++ ([(rd x5.Waits x2).Tx] : List Int)), Ow (Kd.int .i64) 3 v12 ([(rd x5.Waits x2).Tx] : List Int), pt g2 33 ([(.int .i64 ((rd x5.Waits x4).Tx)), (.int .i64 ((rd x5.Waits x4).Res)), (.int .i64 ((rd x5.Waits x4).Mode))]), pt g1 26 ([v1, v2])] := hR
              replace hS := hS.sel (is := [0, 1, 1]) (A' := [Ow (Kd.int .i64) 3 v13 (x6 ++ ([(rd x5.Waits x2).Tx] : List Int)), pt g2 33 ([(.int .i64 ((rd x5.Waits x4).Tx)), (.int .i64 ((rd x5.Waits x4).Res)), (.int .i64 ((rd x5.Waits x4).Mode))]), pt g1 26 ([v1, v2])]) rfl
              refine stp hF (p_assign rfl) (by decide) (fun a hF => ?_)
              refine nilN ?_
              refine bn (xn ?_)
              obtain rfl := hsm H
              exact ⟨(x6 ++ ([(rd x5.Waits x2).Tx] : List Int)), v13, hS, hF.cut ⟨rfl, rfl, rfl, rfl, rfl, trivial⟩, HK5⟩
            · replace H := hbf hc6 H
              refine skN ?_
              refine bn (xn ?_)
              obtain rfl := hsm H
              exact ⟨x6, v10, hS, hF.cut ⟨rfl, rfl, rfl, rfl, rfl, trivial⟩, HK5⟩
          · clear H HK5 hS hF
            rintro a w ⟨x3, v11, hS, hF, H⟩
            unfold spec_l9For.c2 at H
            refine rg ?_
            refine stp hF (p_move rfl) (by decide) (fun a hF => ?_)
            refine stp hF (p_add (c := w64 (x2 + 1)) rfl rfl rfl) (by decide) (fun a hF => ?_)
            refine stp hF (p_assign rfl) (by decide) (fun a hF => ?_)
            refine nilN ?_
            refine xn ?_
            exact ⟨x3, (w64 (x2 + 1)), v11, hS, hF.cut ⟨rfl, rfl, rfl, rfl, rfl, trivial⟩, H⟩
        · replace H := hbf hc5 H
          refine exi ?_
          refine xe (xe (hit (xn ?_)))
          obtain rfl := hsm H
          exact ⟨x6, v10, hS, hF.cut ⟨rfl, trivial⟩, HK4⟩
    · clear H HK4 hS hF
      rintro a w ⟨x1, v9, hS, hF, H⟩
      unfold spec_l9For.c1 at H
      refine sq ?_
      refine rg ?_
      refine stp hF (p_move rfl) (by decide) (fun a hF => ?_)
      refine stp hF (p_assign rfl) (by decide) (fun a hF => ?_)
      refine nilN ?_
      refine xn ?_
      refine rt ?_
      obtain rfl := hsm H
      replace hS := hS.sel (is := [0]) (A' := [Ow (Kd.int .i64) 3 v9 x1]) rfl
      exact ret1 hF rfl rfl hS ⟨v9, rfl, rfl⟩

def spec_l9Among.c1 (k : Nat) : Option Bool :=
  (some false)
def spec_l9Among.l1 (x1 : (List Int)) (x2 : Int) : Nat → Int → Option (Ex Bool Unit)
  | 0, _ => none
  | k + 1, x3 => (if (decide (x3 < (x1.length : Int))) = true then (if 0 ≤ x3 ∧ x3 < (x1.length : Int) then (if (decide ((rd x1 x3) = x2)) = true then (some (Ex.ret true)) else ((spec_l9Among.l1 x1 x2 k) (w64 (x3 + 1)))) else none) else (some (Ex.go ())))
def spec_l9Among.f (k : Nat) (x1 : (List Int)) (x2 : Int) : Option Bool :=
  (((spec_l9Among.l1 x1 x2 k 0) : Option (Ex Bool Unit)).bind fun x4 => Ex.on x4 (fun r => some r) (fun y => spec_l9Among.c1 k))
set_option maxRecDepth 100000 in
set_option maxHeartbeats 4000000 in
theorem spec_l9Among.spec (k : Nat) (s0 : HF) (w : World) (x1 : (List Int)) (x2 : Int) (v1 : Value) (h1 : Sl (Kd.int .i64) s0 v1 x1) (r : Bool) (H : spec_l9Among.f k x1 x2 = some r) :
    Law Try.prog 82 #[v1, (.int .i64 x2)] s0 w [] (fun v s1 A1 => v = (.bool r) ∧ A1 = []) := by
  unfold spec_l9Among.f at H
  refine Law.intro Try.func82 rfl [(0, v1), (1, (.int .i64 x2))] (Nat.le_of_ble_eq_true rfl) (enter_lk ⟨rfl, rfl, trivial⟩) (fun e a hS hF => ?_)
  have hF : Fr 18 a [(0, v1), (1, (.int .i64 x2))] := hF
  refine sq ?_
  refine rg ?_
  refine stp hF (p_assign rfl) (by decide) (fun a hF => ?_)
  refine nilN ?_
  refine xn ?_
  obtain ⟨x4, H, HK1⟩ := hb H
  refine sqj (fun a w => St e s0 w [] ∧ Fr 18 a [] ∧ spec_l9Among.c1 k = some r) ?_ ?_
  · skip
    refine sq ?_
    refine rg ?_
    refine stp hF (p_assign rfl) (by decide) (fun a hF => ?_)
    refine nilN ?_
    refine xn ?_
    refine blk ?_
    refine loop_ind (fun k1 a w => ∃ (x3 : Int) , St e s0 w [] ∧ Fr 18 a [(0, v1), (1, (.int .i64 x2)), (5, (.int .i64 x3))] ∧ spec_l9Among.l1 x1 x2 k1 x3 = some x4) k ?_ ?_ ?_
    · skip
      exact ⟨0, hS, hF.cut ⟨rfl, rfl, rfl, trivial⟩, H⟩
    · clear H hS hF
      rintro a w ⟨x3, hS, hF, H⟩
      exact absurd (show none = some _ from H) (by simp)
    · clear H hS hF
      rintro k1 a w ⟨x3, hS, hF, H⟩
      rw [spec_l9Among.l1.eq_2] at H
      refine sq ?_
      refine sq ?_
      refine rg ?_
      refine stp hF (p_move rfl) (by decide) (fun a hF => ?_)
      refine stp hF (p_move rfl) (by decide) (fun a hF => ?_)
      refine stp hF (p_lenr un_39 rfl h1) (by decide) (fun a hF => ?_)
      refine stp hF (p_lss rfl rfl) (by decide) (fun a hF => ?_)
      refine nilN ?_
      refine xn ?_
      refine cnd hF rfl (fun hc1 => ?_) (fun hc1 => ?_)
      · replace H := hbt hc1 H
        refine skN ?_
        refine xn ?_
        refine sq ?_
        refine blk ?_
        refine sq ?_
        refine rg ?_
        refine stp hF (p_move rfl) (by decide) (fun a hF => ?_)
        refine stp hF (p_move rfl) (by decide) (fun a hF => ?_)
        obtain ⟨hq1, H⟩ := hck H
        obtain ⟨ad1, h2, p1⟩ := p_idxr (P := Try.prog) (i := x3) h1 un_39 ti_3 hq1.1 hq1.2
        refine stp hF (p1 rfl rfl) (by decide) (fun a hF => ?_)
        refine stp hF (p_ldr_int rfl hS h2 ia_3) (by decide) (fun a hF => ?_)
        refine stp hF (p_move rfl) (by decide) (fun a hF => ?_)
        refine stp hF (p_eql rfl rfl) (by decide) (fun a hF => ?_)
        refine nilN ?_
        refine xn ?_
        refine cnd hF rfl (fun hc2 => ?_) (fun hc2 => ?_)
        · replace H := hbt hc2 H
          refine sq ?_
          refine rg ?_
          refine stp hF (p_assign rfl) (by decide) (fun a hF => ?_)
          refine nilN ?_
          refine xn ?_
          refine rt ?_
          refine br (xr (xr (br (xr ?_))))
          obtain rfl := hsm H
          have H := hon1 HK1
          obtain rfl := hsm H
          exact ret1 hF rfl rfl hS ⟨rfl, rfl⟩
        · replace H := hbf hc2 H
          refine skN ?_
          refine bn (xn ?_)
          refine rg ?_
          refine stp hF (p_move rfl) (by decide) (fun a hF => ?_)
          refine stp hF (p_add (c := w64 (x3 + 1)) rfl rfl rfl) (by decide) (fun a hF => ?_)
          refine stp hF (p_assign rfl) (by decide) (fun a hF => ?_)
          refine nilN ?_
          refine xn ?_
          exact ⟨(w64 (x3 + 1)), hS, hF.cut ⟨rfl, rfl, rfl, trivial⟩, H⟩
      · replace H := hbf hc1 H
        refine exi ?_
        refine xe (xe (hit (xn ?_)))
        obtain rfl := hsm H
        exact ⟨hS, hF.cut trivial, HK1⟩
  · clear H HK1 hS hF
    rintro a w ⟨hS, hF, H⟩
    unfold spec_l9Among.c1 at H
    refine sq ?_
    refine rg ?_
    refine stp hF (p_assign rfl) (by decide) (fun a hF => ?_)
    refine nilN ?_
    refine xn ?_
    refine rt ?_
    obtain rfl := hsm H
    exact ret1 hF rfl rfl hS ⟨rfl, rfl⟩
end Go.Proofs.Ytbcpkopchnlefaa
