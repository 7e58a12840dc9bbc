/- Functions of this place as plain functions, and that the machine comes to what they say. Conditions: none. -/
import Derived.Test.YtbcpkopchnlefaaKwYFc
set_option linter.unusedVariables false
set_option linter.unusedSimpArgs false
namespace Go.Proofs.Ytbcpkopchnlefaa
open Go.Kw

def laws_FnLocked.c1 (k : Nat) (x1 : Bool) : Option Bool :=
  (some x1)
def laws_FnLocked.c2 (k : Nat) (x2 : TLocks × Int) (x3 : Bool) : Option Bool :=
  (some (x3 && (decide (x2.2 = 0))))
def laws_FnLocked.c3 (k : Nat) (x4 : TLocks × Int) (x5 : TLocks × Int × Int × Int) (x6 : Int) : Option Bool :=
  (if (decide (x4.2 = 1)) = true then ((if (decide ((x4.1.Waits.length : Int) = (w64 ((x5.1.Waits.length : Int) + 1)))) = true then (if 0 ≤ (w64 ((x4.1.Waits.length : Int) - 1)) ∧ (w64 ((x4.1.Waits.length : Int) - 1)) < (x4.1.Waits.length : Int) then (some (decide (((rd x4.1.Waits (w64 ((x4.1.Waits.length : Int) - 1))).Tx) = x5.2.1))) else none) else (some false) : Option Bool).bind fun x7 => laws_FnLocked.c1 k x7) else ((impl_Ask.f k x4.1 x5.2.1 x5.2.2.1 x5.2.2.2).bind fun x2 => ((if (decide (0 < x6)) = true then ((impl_Both.f k x6 x5.2.2.2).bind fun x8 => (some (decide (x8 = x6)))) else (some false) : Option Bool).bind fun x9 => laws_FnLocked.c2 k x2 x9)))
def laws_FnLocked.c4 (k : Nat) (rec_l1 : Int → Int → Option Int) (x10 : Int) (x11 : Int) : Option Int :=
  (rec_l1 x11 (w64 (x10 + 1)))
def laws_FnLocked.c5 (k : Nat) (x10 : Int) (x4 : TLocks × Int) (x12 : Int) (x13 : Bool) : Option Int :=
  (if x13 = true then (if 0 ≤ x10 ∧ x10 < (x4.1.Given.length : Int) then (some ((rd x4.1.Given x10).Mode)) else none) else (some x12))
def laws_FnLocked.l1 (x4 : TLocks × Int) (x5 : TLocks × Int × Int × Int) : Nat → Int → Int → Option Int
  | 0, _, _ => none
  | k + 1, x12, x10 => (if (decide (x10 < (x4.1.Given.length : Int))) = true then (((if 0 ≤ x10 ∧ x10 < (x4.1.Given.length : Int) then ((if (decide (((rd x4.1.Given x10).Tx) = x5.2.1)) = true then (if 0 ≤ x10 ∧ x10 < (x4.1.Given.length : Int) then (some (decide (((rd x4.1.Given x10).Res) = x5.2.2.1))) else none) else (some false) : Option Bool).bind fun x14 => laws_FnLocked.c5 k x10 x4 x12 x14) else none) : Option Int).bind fun x15 => laws_FnLocked.c4 k (laws_FnLocked.l1 x4 x5 k) x10 x15) else (some x12))
def laws_FnLocked.f (k : Nat) (x16 : (List Int)) : Option Bool :=
  ((laws_big.f k x16).bind fun x17 => (if x17 = true then (some true) else ((spec_DrawAsk.f k x16).bind fun x5 => ((impl_Ask.f k x5.1 x5.2.1 x5.2.2.1 x5.2.2.2).bind fun x4 => ((spec_Ask.f k x5.1 x5.2.1 x5.2.2.1 x5.2.2.2).bind fun x18 => (if (decide (x4.2 ≠ x18.2)) = true then (some false) else (if (decide (x4.2 = 2)) = true then (some ((decide ((x4.1.Given.length : Int) = (x5.1.Given.length : Int))) && (decide ((x4.1.Waits.length : Int) = (x5.1.Waits.length : Int))))) else ((impl_LocksOk.f k x4.1).bind fun x19 => (if (!x19) = true then (some false) else (((laws_FnLocked.l1 x4 x5 k 0 0) : Option Int).bind fun x20 => laws_FnLocked.c3 k x4 x5 x20))))))))))
set_option maxRecDepth 100000 in
set_option maxHeartbeats 4000000 in
theorem laws_FnLocked.spec (k : Nat) (s0 : HF) (w : World) (x16 : (List Int)) (v1 : Value) (h1 : Sl (Kd.int .u8) s0 v1 x16) (r : Bool) (H : laws_FnLocked.f k x16 = some r) :
    Law Try.prog 3 #[v1] s0 w [] (fun v s1 A1 => v = (.bool r) ∧ A1 = []) := by
  unfold laws_FnLocked.f at H
  refine Law.intro Try.func3 rfl [(0, v1)] (Nat.le_of_ble_eq_true rfl) (enter_lk ⟨rfl, trivial⟩) (fun e a hS hF => ?_)
  have hF : Fr 139 a [(0, v1)] := hF
  refine sq ?_
  refine rg ?_
  refine stp hF (p_assign rfl) (by decide) (fun a hF => ?_)
  refine nilN ?_
  refine xn ?_
  refine sq ?_
  refine sq ?_
  refine rg ?_
  refine stp hF (p_move rfl) (by decide) (fun a hF => ?_)
  obtain ⟨x17, hx1, H⟩ := hb H
  refine ste hF (e_call (fst := []) (vs := [v1]) (cap := []) rfl rfl go_6 (St.call (A := []) (B := []) hS (laws_big.spec k _ _ x16 v1 h1 _ hx1))) (by decide) (fun v w a hR hF => ?_)
  obtain ⟨s2, A2, hg1, hS, hR⟩ := hR
  obtain ⟨hv1, rfl⟩ := hR; obtain rfl := hv1.symm
  have hS : St e s2 w [] := hS
  refine nilN ?_
  refine xn ?_
  refine cnd hF rfl (fun hc1 => ?_) (fun hc1 => ?_)
  · replace H := hbt hc1 H
    refine sq ?_
    refine rg ?_
    refine stp hF (p_assign rfl) (by decide) (fun a hF => ?_)
    refine nilN ?_
    refine xn ?_
    refine rt ?_
    refine xr ?_
    obtain rfl := hsm H
    exact ret1 hF rfl rfl hS ⟨rfl, rfl⟩
  · replace H := hbf hc1 H
    refine skN ?_
    refine xn ?_
    refine sq ?_
    refine rg ?_
    refine stp hF (p_move rfl) (by decide) (fun a hF => ?_)
    obtain ⟨x5, hx2, H⟩ := hb H
    refine ste hF (e_call (fst := []) (vs := [v1]) (cap := []) rfl rfl go_7 (St.call (A := []) (B := []) hS (spec_DrawAsk.spec k _ _ x16 v1 (h1.mono hg1) _ hx2))) (by decide) (fun v w a hR hF => ?_)
    obtain ⟨s3, A3, hg2, hS, hR⟩ := hR
    obtain ⟨v2, v3, hv2, rfl⟩ := hR; obtain rfl := hv2.symm
    have hS : St e s3 w [Ow kTGrant 33 v2 x5.1.Given, Ow kTGrant 33 v3 x5.1.Waits] := hS
    refine stp hF (p_move rfl) (by decide) (fun a hF => ?_)
    refine stp hF (p_extract rfl rfl) (by decide) (fun a hF => ?_)
    refine stp hF (p_extract rfl rfl) (by decide) (fun a hF => ?_)
    refine stp hF (p_extract rfl rfl) (by decide) (fun a hF => ?_)
    refine stp hF (p_extract rfl rfl) (by decide) (fun a hF => ?_)
    refine ste hF (e_alloc (cs := [(.slice none 0 0), (.slice none 0 0)]) hS ti_26 rfl) (by decide) (fun v w a hR hF => ?_)
    obtain ⟨g1, rfl, hS⟩ := hR
    refine ste0 hF (e_stb (i := 0) (l := []) (m := [(.slice none 0 0), (.slice none 0 0)]) (r := []) (m' := [v2, v3]) (cs' := [v2, v3]) hS rfl rfl rfl ti_26 rfl rfl rfl rfl rfl (one_cons (hS.one_ow (i := 1) rfl) (one_cons (hS.one_ow (i := 2) rfl) one_nil)) rfl) (fun v w a hR hF => ?_)
    have hS : St e s3 w [pt g1 26 ([v2, v3]), Ow kTGrant 33 v2 x5.1.Given, Ow kTGrant 33 v3 x5.1.Waits] := hR
    refine stp hF (p_assign rfl) (by decide) (fun a hF => ?_)
    refine stp hF (p_assign rfl) (by decide) (fun a hF => ?_)
    refine stp hF (p_assign rfl) (by decide) (fun a hF => ?_)
    refine nilN ?_
    refine xn ?_
    refine sq ?_
    refine rg ?_
    refine stp hF (p_ldb_agg (i := 0) (l := []) (m := [v2, v3]) (r := []) hS rfl rfl ia_26 ti_26 rfl rfl rfl) (by decide) (fun a hF => ?_)
    refine stp hF (p_move rfl) (by decide) (fun a hF => ?_)
    refine stp hF (p_move rfl) (by decide) (fun a hF => ?_)
    refine stp hF (p_move rfl) (by decide) (fun a hF => ?_)
    replace hS := hS.sel (is := [1, 1, 0]) (A' := [Ow kTGrant 33 v2 x5.1.Given, Ow kTGrant 33 v3 x5.1.Waits, pt g1 26 ([v2, v3])]) rfl
    obtain ⟨s4, hg3, hl1, hcall1⟩ := St.lend (P := Try.prog) (Bs := [Ow kTGrant 33 v2 x5.1.Given, Ow kTGrant 33 v3 x5.1.Waits]) (A := []) (B := [pt g1 26 ([v2, v3])]) hS
    obtain ⟨h2, hl1⟩ := hl1.ow hg3
    obtain ⟨h3, hl1⟩ := hl1.ow hg3
    obtain ⟨x4, hx3, H⟩ := hb H
    refine ste hF (e_call (fst := []) (vs := [(.agg #[v2, v3]), (.int .i64 x5.2.1), (.int .i64 x5.2.2.1), (.int .i64 x5.2.2.2)]) (cap := []) rfl rfl go_8 (hcall1 (impl_Ask.spec k _ _ x5.1 x5.2.1 x5.2.2.1 x5.2.2.2 v2 v3 h2 h3 _ hx3) (by rintro v s1 A1 ⟨_, _, rfl, rfl⟩; exact ⟨Ow_flat kTGrant_flat _ _ _, ⟨Ow_flat kTGrant_flat _ _ _, trivial⟩⟩))) (by decide) (fun v w a hR hF => ?_)
    obtain ⟨s5, s6, A4, hg4, hS, hR⟩ := hR
    obtain ⟨v4, v5, hv3, rfl⟩ := hR; obtain rfl := hv3.symm
    have hS : St e s5 w [Ow kTGrant 33 v2 x5.1.Given, Ow kTGrant 33 v3 x5.1.Waits, Ow kTGrant 33 v4 x4.1.Given, Ow kTGrant 33 v5 x4.1.Waits, pt g1 26 ([v2, v3])] := hS
    refine stp hF (p_move rfl) (by decide) (fun a hF => ?_)
    refine stp hF (p_extract rfl rfl) (by decide) (fun a hF => ?_)
    refine stp hF (p_extract rfl rfl) (by decide) (fun a hF => ?_)
    refine ste hF (e_alloc (cs := [(.slice none 0 0), (.slice none 0 0)]) hS ti_26 rfl) (by decide) (fun v w a hR hF => ?_)
    obtain ⟨g2, rfl, hS⟩ := hR
    refine ste0 hF (e_stb (i := 0) (l := []) (m := [(.slice none 0 0), (.slice none 0 0)]) (r := []) (m' := [v4, v5]) (cs' := [v4, v5]) hS rfl rfl rfl ti_26 rfl rfl rfl rfl rfl (one_cons (hS.one_ow (i := 3) rfl) (one_cons (hS.one_ow (i := 4) rfl) one_nil)) rfl) (fun v w a hR hF => ?_)
    have hS : St e s5 w [pt g2 26 ([v4, v5]), Ow kTGrant 33 v2 x5.1.Given, Ow kTGrant 33 v3 x5.1.Waits, Ow kTGrant 33 v4 x4.1.Given, Ow kTGrant 33 v5 x4.1.Waits, pt g1 26 ([v2, v3])] := hR
    refine stp hF (p_assign rfl) (by decide) (fun a hF => ?_)
    refine nilN ?_
    refine xn ?_
    refine sq ?_
    refine rg ?_
    refine stp hF (p_ldb_agg (i := 5) (l := []) (m := [v2, v3]) (r := []) hS rfl rfl ia_26 ti_26 rfl rfl rfl) (by decide) (fun a hF => ?_)
    refine stp hF (p_move rfl) (by decide) (fun a hF => ?_)
    refine stp hF (p_move rfl) (by decide) (fun a hF => ?_)
    refine stp hF (p_move rfl) (by decide) (fun a hF => ?_)
    replace hS := hS.sel (is := [1, 1, 0, 0, 0, 0]) (A' := [Ow kTGrant 33 v2 x5.1.Given, Ow kTGrant 33 v3 x5.1.Waits, pt g2 26 ([v4, v5]), Ow kTGrant 33 v4 x4.1.Given, Ow kTGrant 33 v5 x4.1.Waits, pt g1 26 ([v2, v3])]) rfl
    obtain ⟨s7, hg5, hl2, hcall2⟩ := St.lend (P := Try.prog) (Bs := [Ow kTGrant 33 v2 x5.1.Given, Ow kTGrant 33 v3 x5.1.Waits]) (A := []) (B := [pt g2 26 ([v4, v5]), Ow kTGrant 33 v4 x4.1.Given, Ow kTGrant 33 v5 x4.1.Waits, pt g1 26 ([v2, v3])]) hS
    obtain ⟨h4, hl2⟩ := hl2.ow hg5
    obtain ⟨h5, hl2⟩ := hl2.ow hg5
    obtain ⟨x18, hx4, H⟩ := hb H
    refine ste hF (e_call (fst := []) (vs := [(.agg #[v2, v3]), (.int .i64 x5.2.1), (.int .i64 x5.2.2.1), (.int .i64 x5.2.2.2)]) (cap := []) rfl rfl go_9 (hcall2 (spec_Ask.spec k _ _ x5.1 x5.2.1 x5.2.2.1 x5.2.2.2 v2 v3 h4 h5 _ hx4) (by rintro v s1 A1 ⟨_, _, rfl, rfl⟩; exact ⟨Ow_flat kTGrant_flat _ _ _, ⟨Ow_flat kTGrant_flat _ _ _, trivial⟩⟩))) (by decide) (fun v w a hR hF => ?_)
    obtain ⟨s8, s9, A5, hg6, hS, hR⟩ := hR
    obtain ⟨v6, v7, hv4, rfl⟩ := hR; obtain rfl := hv4.symm
    have hS : St e s8 w [Ow kTGrant 33 v2 x5.1.Given, Ow kTGrant 33 v3 x5.1.Waits, Ow kTGrant 33 v6 x18.1.Given, Ow kTGrant 33 v7 x18.1.Waits, pt g2 26 ([v4, v5]), Ow kTGrant 33 v4 x4.1.Given, Ow kTGrant 33 v5 x4.1.Waits, pt g1 26 ([v2, v3])] := hS
    refine stp hF (p_move rfl) (by decide) (fun a hF => ?_)
    refine stp hF (p_extract rfl rfl) (by decide) (fun a hF => ?_)
    refine stp hF (p_extract rfl rfl) (by decide) (fun a hF => ?_)
    refine ste hF (e_alloc (cs := [(.slice none 0 0), (.slice none 0 0)]) hS ti_26 rfl) (by decide) (fun v w a hR hF => ?_)
    obtain ⟨g3, rfl, hS⟩ := hR
    refine ste0 hF (e_stb (i := 0) (l := []) (m := [(.slice none 0 0), (.slice none 0 0)]) (r := []) (m' := [v6, v7]) (cs' := [v6, v7]) hS rfl rfl rfl ti_26 rfl rfl rfl rfl rfl (one_cons (hS.one_ow (i := 3) rfl) (one_cons (hS.one_ow (i := 4) rfl) one_nil)) rfl) (fun v w a hR hF => ?_)
    have hS : St e s8 w [pt g3 26 ([v6, v7]), Ow kTGrant 33 v2 x5.1.Given, Ow kTGrant 33 v3 x5.1.Waits, Ow kTGrant 33 v6 x18.1.Given, Ow kTGrant 33 v7 x18.1.Waits, pt g2 26 ([v4, v5]), Ow kTGrant 33 v4 x4.1.Given, Ow kTGrant 33 v5 x4.1.Waits, pt g1 26 ([v2, v3])] := hR
    refine stp hF (p_assign rfl) (by decide) (fun a hF => ?_)
    refine nilN ?_
    refine xn ?_
    refine sq ?_
    refine sq ?_
    refine rg ?_
    refine stp hF (p_move rfl) (by decide) (fun a hF => ?_)
    refine stp hF (p_move rfl) (by decide) (fun a hF => ?_)
    refine stp hF (p_neq rfl rfl) (by decide) (fun a hF => ?_)
    refine nilN ?_
    refine xn ?_
    refine cnd hF rfl (fun hc2 => ?_) (fun hc2 => ?_)
    · replace H := hbt hc2 H
      refine sq ?_
      refine rg ?_
      refine stp hF (p_assign rfl) (by decide) (fun a hF => ?_)
      refine nilN ?_
      refine xn ?_
      refine rt ?_
      refine xr ?_
      obtain rfl := hsm H
      replace hS := hS.sel (is := []) (A' := []) rfl
      exact ret1 hF rfl rfl hS ⟨rfl, rfl⟩
    · replace H := hbf hc2 H
      refine skN ?_
      refine xn ?_
      refine sq ?_
      refine sq ?_
      refine rg ?_
      refine stp hF (p_move rfl) (by decide) (fun a hF => ?_)
      refine stp hF (p_eql rfl rfl) (by decide) (fun a hF => ?_)
      refine nilN ?_
      refine xn ?_
      refine cnd hF rfl (fun hc3 => ?_) (fun hc3 => ?_)
      · replace H := hbt hc3 H
        refine sq ?_
        refine rg ?_
        refine stp hF (p_fldb (o' := 0) rfl fi_26_0 rfl) (by decide) (fun a hF => ?_)
        refine stp hF (p_ldb_one (i := 5) hS rfl rfl ia_24 rfl) (by decide) (fun a hF => ?_)
        refine stp hF (p_leno (i := 6) hS rfl un_24 rfl) (by decide) (fun a hF => ?_)
        refine stp hF (p_fldb (o' := 0) rfl fi_26_0 rfl) (by decide) (fun a hF => ?_)
        refine stp hF (p_ldb_one (i := 8) hS rfl rfl ia_24 rfl) (by decide) (fun a hF => ?_)
        refine stp hF (p_leno (i := 1) hS rfl un_24 rfl) (by decide) (fun a hF => ?_)
        refine stp hF (p_eql rfl rfl) (by decide) (fun a hF => ?_)
        refine stp hF (p_move rfl) (by decide) (fun a hF => ?_)
        refine cutj 8 (fun a w => St e s8 w [pt g3 26 ([v6, v7]), Ow kTGrant 33 v2 x5.1.Given, Ow kTGrant 33 v3 x5.1.Waits, Ow kTGrant 33 v6 x18.1.Given, Ow kTGrant 33 v7 x18.1.Waits, pt g2 26 ([v4, v5]), Ow kTGrant 33 v4 x4.1.Given, Ow kTGrant 33 v5 x4.1.Waits, pt g1 26 ([v2, v3])] ∧ Fr 139 a [(60, (.bool ((decide ((x4.1.Given.length : Int) = (x5.1.Given.length : Int))) && (decide ((x4.1.Waits.length : Int) = (x5.1.Waits.length : Int))))))]) rfl rfl ?_ ?_
        · rcases Bool.eq_false_or_eq_true (decide ((x4.1.Given.length : Int) = (x5.1.Given.length : Int))) with hc4 | hc4
          · skip
            refine gonE (j := 7) hF rfl rfl hc4 ?_
            refine stp hF (p_fldb (o' := 1) rfl fi_26_1 rfl) (by decide) (fun a hF => ?_)
            refine gonE (j := 7) hF rfl rfl hc4 ?_
            refine stp hF (p_ldb_one (i := 5) hS rfl rfl ia_24 rfl) (by decide) (fun a hF => ?_)
            refine gonE (j := 7) hF rfl rfl hc4 ?_
            refine stp hF (p_leno (i := 7) hS rfl un_24 rfl) (by decide) (fun a hF => ?_)
            refine gonE (j := 7) hF rfl rfl hc4 ?_
            refine stp hF (p_fldb (o' := 1) rfl fi_26_1 rfl) (by decide) (fun a hF => ?_)
            refine gonE (j := 7) hF rfl rfl hc4 ?_
            refine stp hF (p_ldb_one (i := 8) hS rfl rfl ia_24 rfl) (by decide) (fun a hF => ?_)
            refine gonE (j := 7) hF rfl rfl hc4 ?_
            refine stp hF (p_leno (i := 2) hS rfl un_24 rfl) (by decide) (fun a hF => ?_)
            refine gonE (j := 7) hF rfl rfl hc4 ?_
            refine stp hF (p_eql rfl rfl) (by decide) (fun a hF => ?_)
            refine stp hF (p_andT rfl hc4 rfl) (by decide) (fun a hF => ?_)
            refine nilN ?_
            refine xn ?_
            exact ⟨hS, hF.cut ⟨rfl, trivial⟩⟩
          · skip
            refine gofD (j := 7) hF rfl rfl (by rw [hc4]; decide) (by decide) (fun a hF => ?_)
            refine gofD (j := 7) hF rfl rfl (by rw [hc4]; decide) (by decide) (fun a hF => ?_)
            refine gofD (j := 7) hF rfl rfl (by rw [hc4]; decide) (by decide) (fun a hF => ?_)
            refine gofD (j := 7) hF rfl rfl (by rw [hc4]; decide) (by decide) (fun a hF => ?_)
            refine gofD (j := 7) hF rfl rfl (by rw [hc4]; decide) (by decide) (fun a hF => ?_)
            refine gofD (j := 7) hF rfl rfl (by rw [hc4]; decide) (by decide) (fun a hF => ?_)
            refine gofD (j := 7) hF rfl rfl (by rw [hc4]; decide) (by decide) (fun a hF => ?_)
            refine stp hF (p_andF (decide ((x4.1.Waits.length : Int) = (x5.1.Waits.length : Int))) rfl hc4 rfl) (by decide) (fun a hF => ?_)
            refine nilN ?_
            refine xn ?_
            exact ⟨hS, hF.cut ⟨rfl, trivial⟩⟩
        clear hS hF
        rintro a w ⟨hS, hF⟩
        refine stp hF (p_assign rfl) (by decide) (fun a hF => ?_)
        refine nilN ?_
        refine xn ?_
        refine rt ?_
        refine xr ?_
        obtain rfl := hsm H
        replace hS := hS.sel (is := []) (A' := []) rfl
        exact ret1 hF rfl rfl hS ⟨rfl, rfl⟩
      · replace H := hbf hc3 H
        refine skN ?_
        refine xn ?_
        refine sq ?_
        refine sq ?_
        refine rg ?_
        refine stp hF (p_ldb_agg (i := 5) (l := []) (m := [v4, v5]) (r := []) hS rfl rfl ia_26 ti_26 rfl rfl rfl) (by decide) (fun a hF => ?_)
        replace hS := hS.sel (is := [6, 6, 0, 0, 0, 0, 0, 0, 0]) (A' := [Ow kTGrant 33 v4 x4.1.Given, Ow kTGrant 33 v5 x4.1.Waits, pt g3 26 ([v6, v7]), Ow kTGrant 33 v2 x5.1.Given, Ow kTGrant 33 v3 x5.1.Waits, Ow kTGrant 33 v6 x18.1.Given, Ow kTGrant 33 v7 x18.1.Waits, pt g2 26 ([v4, v5]), pt g1 26 ([v2, v3])]) rfl
        obtain ⟨s10, hg7, hl3, hcall3⟩ := St.lend (P := Try.prog) (Bs := [Ow kTGrant 33 v4 x4.1.Given, Ow kTGrant 33 v5 x4.1.Waits]) (A := []) (B := [pt g3 26 ([v6, v7]), Ow kTGrant 33 v2 x5.1.Given, Ow kTGrant 33 v3 x5.1.Waits, Ow kTGrant 33 v6 x18.1.Given, Ow kTGrant 33 v7 x18.1.Waits, pt g2 26 ([v4, v5]), pt g1 26 ([v2, v3])]) hS
        obtain ⟨h6, hl3⟩ := hl3.ow hg7
        obtain ⟨h7, hl3⟩ := hl3.ow hg7
        obtain ⟨x19, hx5, H⟩ := hb H
        refine ste hF (e_call (fst := []) (vs := [(.agg #[v4, v5])]) (cap := []) rfl rfl go_10 (hcall3 (impl_LocksOk.spec k _ _ x4.1 v4 v5 h6 h7 _ hx5) (by rintro v s1 A1 ⟨rfl, rfl⟩; exact trivial))) (by decide) (fun v w a hR hF => ?_)
        obtain ⟨s11, s12, A6, hg8, hS, hR⟩ := hR
        obtain ⟨hv5, rfl⟩ := hR; obtain rfl := hv5.symm
        have hS : St e s11 w [Ow kTGrant 33 v4 x4.1.Given, Ow kTGrant 33 v5 x4.1.Waits, pt g3 26 ([v6, v7]), Ow kTGrant 33 v2 x5.1.Given, Ow kTGrant 33 v3 x5.1.Waits, Ow kTGrant 33 v6 x18.1.Given, Ow kTGrant 33 v7 x18.1.Waits, pt g2 26 ([v4, v5]), pt g1 26 ([v2, v3])] := hS
        refine stp hF (p_not rfl) (by decide) (fun a hF => ?_)
        refine nilN ?_
        refine xn ?_
        refine cnd hF rfl (fun hc5 => ?_) (fun hc5 => ?_)
        · replace H := hbt hc5 H
          refine sq ?_
          refine rg ?_
          refine stp hF (p_assign rfl) (by decide) (fun a hF => ?_)
          refine nilN ?_
          refine xn ?_
          refine rt ?_
          refine xr ?_
          obtain rfl := hsm H
          replace hS := hS.sel (is := []) (A' := []) rfl
          exact ret1 hF rfl rfl hS ⟨rfl, rfl⟩
        · replace H := hbf hc5 H
          refine skN ?_
          refine xn ?_
          refine sq ?_
          refine rg ?_
          refine stp hF (p_assign rfl) (by decide) (fun a hF => ?_)
          refine nilN ?_
          refine xn ?_
          obtain ⟨x20, H, HK1⟩ := hb H
          refine sqj (fun a w => ∃ (x6 : Int) , St e s11 w [Ow kTGrant 33 v4 x4.1.Given, Ow kTGrant 33 v5 x4.1.Waits, pt g3 26 ([v6, v7]), Ow kTGrant 33 v2 x5.1.Given, Ow kTGrant 33 v3 x5.1.Waits, Ow kTGrant 33 v6 x18.1.Given, Ow kTGrant 33 v7 x18.1.Waits, pt g2 26 ([v4, v5]), pt g1 26 ([v2, v3])] ∧ Fr 139 a [(3, (.pointer (some ⟨g1, 0, none⟩))), (4, (.int .i64 x5.2.1)), (5, (.int .i64 x5.2.2.1)), (6, (.int .i64 x5.2.2.2)), (7, (.pointer (some ⟨g2, 0, none⟩))), (8, (.int .i64 x4.2)), (11, (.int .i64 x6))] ∧ laws_FnLocked.c3 k x4 x5 x6 = some r) ?_ ?_
          · skip
            refine sq ?_
            refine rg ?_
            refine stp hF (p_assign rfl) (by decide) (fun a hF => ?_)
            refine nilN ?_
            refine xn ?_
            refine blk ?_
            refine loop_ind (fun k1 a w => ∃ (x12 : Int) (x10 : Int) , St e s11 w [Ow kTGrant 33 v4 x4.1.Given, Ow kTGrant 33 v5 x4.1.Waits, pt g3 26 ([v6, v7]), Ow kTGrant 33 v2 x5.1.Given, Ow kTGrant 33 v3 x5.1.Waits, Ow kTGrant 33 v6 x18.1.Given, Ow kTGrant 33 v7 x18.1.Waits, pt g2 26 ([v4, v5]), pt g1 26 ([v2, v3])] ∧ Fr 139 a [(3, (.pointer (some ⟨g1, 0, none⟩))), (4, (.int .i64 x5.2.1)), (5, (.int .i64 x5.2.2.1)), (6, (.int .i64 x5.2.2.2)), (7, (.pointer (some ⟨g2, 0, none⟩))), (8, (.int .i64 x4.2)), (11, (.int .i64 x12)), (12, (.int .i64 x10))] ∧ laws_FnLocked.l1 x4 x5 k1 x12 x10 = some x20) k ?_ ?_ ?_
            · skip
              exact ⟨0, 0, hS, hF.cut ⟨rfl, rfl, rfl, rfl, rfl, rfl, rfl, rfl, trivial⟩, H⟩
            · clear H hS hF
              rintro a w ⟨x12, x10, hS, hF, H⟩
              exact absurd (show none = some _ from H) (by simp)
            · clear H hS hF
              rintro k1 a w ⟨x12, x10, hS, hF, H⟩
              rw [laws_FnLocked.l1.eq_2] at H
              refine sq ?_
              refine sq ?_
              refine rg ?_
              refine stp hF (p_move rfl) (by decide) (fun a hF => ?_)
              refine stp hF (p_fldb (o' := 0) rfl fi_26_0 rfl) (by decide) (fun a hF => ?_)
              refine stp hF (p_ldb_one (i := 7) hS rfl rfl ia_24 rfl) (by decide) (fun a hF => ?_)
              refine stp hF (p_leno (i := 0) hS rfl un_24 rfl) (by decide) (fun a hF => ?_)
              refine stp hF (p_lss rfl rfl) (by decide) (fun a hF => ?_)
              refine nilN ?_
              refine xn ?_
              refine cnd hF rfl (fun hc6 => ?_) (fun hc6 => ?_)
              · replace H := hbt hc6 H
                refine skN ?_
                refine xn ?_
                obtain ⟨x15, H, HK2⟩ := hb H
                refine sqj (fun a w => ∃ (x11 : Int) , St e s11 w [Ow kTGrant 33 v4 x4.1.Given, Ow kTGrant 33 v5 x4.1.Waits, pt g3 26 ([v6, v7]), Ow kTGrant 33 v2 x5.1.Given, Ow kTGrant 33 v3 x5.1.Waits, Ow kTGrant 33 v6 x18.1.Given, Ow kTGrant 33 v7 x18.1.Waits, pt g2 26 ([v4, v5]), pt g1 26 ([v2, v3])] ∧ Fr 139 a [(3, (.pointer (some ⟨g1, 0, none⟩))), (4, (.int .i64 x5.2.1)), (5, (.int .i64 x5.2.2.1)), (6, (.int .i64 x5.2.2.2)), (7, (.pointer (some ⟨g2, 0, none⟩))), (8, (.int .i64 x4.2)), (11, (.int .i64 x11)), (12, (.int .i64 x10))] ∧ laws_FnLocked.c4 k1 (laws_FnLocked.l1 x4 x5 k1) x10 x11 = some x20) ?_ ?_
                · skip
                  refine blk ?_
                  refine sq ?_
                  refine rg ?_
                  refine stp hF (p_fldb (o' := 0) rfl fi_26_0 rfl) (by decide) (fun a hF => ?_)
                  refine stp hF (p_ldb_one (i := 7) hS rfl rfl ia_24 rfl) (by decide) (fun a hF => ?_)
                  refine stp hF (p_move rfl) (by decide) (fun a hF => ?_)
                  obtain ⟨hq1, H⟩ := hck H
                  obtain ⟨b1, o1, q1, hv6, p1⟩ := p_idxo (n := 0) (i := x10) hS rfl un_24 ti_33 hq1.1 hq1.2
                  refine stp hF (p1 rfl rfl) (by decide) (fun a hF => ?_)
                  refine stp hF (p_fldb (o' := (o1 + x10.toNat * kTGrant.sz)) rfl fi_33_0 rfl) (by decide) (fun a hF => ?_)
                  obtain ⟨u1, h8, p2⟩ := p_ldo_one (P := Try.prog) (n := 0) hS rfl hv6 kTGrant_Tx hq1.1 hq1.2 rfl ia_3 rfl
                  obtain rfl : u1 = .int .i64 ((rd x4.1.Given x10).Tx) := by injection h8
                  refine stp hF (p2 rfl) (by decide) (fun a hF => ?_)
                  refine stp hF (p_move rfl) (by decide) (fun a hF => ?_)
                  refine stp hF (p_eql rfl rfl) (by decide) (fun a hF => ?_)
                  refine stp hF (p_move rfl) (by decide) (fun a hF => ?_)
                  obtain ⟨x14, H, HK3⟩ := hb H
                  refine cutj 9 (fun a w => ∃ (x13 : Bool) , St e s11 w [Ow kTGrant 33 v4 x4.1.Given, Ow kTGrant 33 v5 x4.1.Waits, pt g3 26 ([v6, v7]), Ow kTGrant 33 v2 x5.1.Given, Ow kTGrant 33 v3 x5.1.Waits, Ow kTGrant 33 v6 x18.1.Given, Ow kTGrant 33 v7 x18.1.Waits, pt g2 26 ([v4, v5]), pt g1 26 ([v2, v3])] ∧ Fr 139 a [(3, (.pointer (some ⟨g1, 0, none⟩))), (4, (.int .i64 x5.2.1)), (5, (.int .i64 x5.2.2.1)), (6, (.int .i64 x5.2.2.2)), (7, (.pointer (some ⟨g2, 0, none⟩))), (8, (.int .i64 x4.2)), (11, (.int .i64 x12)), (12, (.int .i64 x10)), (88, (.bool x13))] ∧ laws_FnLocked.c5 k1 x10 x4 x12 x13 = some x15) rfl rfl ?_ ?_
                  · rcases Bool.eq_false_or_eq_true (decide (((rd x4.1.Given x10).Tx) = x5.2.1)) with hc7 | hc7
                    · replace H := hbt hc7 H
                      refine gonE (j := 8) hF rfl rfl hc7 ?_
                      refine stp hF (p_fldb (o' := 0) rfl fi_26_0 rfl) (by decide) (fun a hF => ?_)
                      refine gonE (j := 8) hF rfl rfl hc7 ?_
                      refine stp hF (p_ldb_one (i := 7) hS rfl rfl ia_24 rfl) (by decide) (fun a hF => ?_)
                      refine gonE (j := 8) hF rfl rfl hc7 ?_
                      refine stp hF (p_move rfl) (by decide) (fun a hF => ?_)
                      obtain ⟨hq2, H⟩ := hck H
                      obtain ⟨b2, o2, q2, hv7, p3⟩ := p_idxo (n := 0) (i := x10) hS rfl un_24 ti_33 hq2.1 hq2.2
                      refine gonE (j := 8) hF rfl rfl hc7 ?_
                      refine stp hF (p3 rfl rfl) (by decide) (fun a hF => ?_)
                      refine gonE (j := 8) hF rfl rfl hc7 ?_
                      refine stp hF (p_fldb (o' := ((o2 + x10.toNat * kTGrant.sz) + 1)) rfl fi_33_1 rfl) (by decide) (fun a hF => ?_)
                      obtain ⟨u2, h9, p4⟩ := p_ldo_one (P := Try.prog) (n := 0) hS rfl hv7 kTGrant_Res hq2.1 hq2.2 rfl ia_3 rfl
                      obtain rfl : u2 = .int .i64 ((rd x4.1.Given x10).Res) := by injection h9
                      refine gonE (j := 8) hF rfl rfl hc7 ?_
                      refine stp hF (p4 rfl) (by decide) (fun a hF => ?_)
                      refine gonE (j := 8) hF rfl rfl hc7 ?_
                      refine stp hF (p_move rfl) (by decide) (fun a hF => ?_)
                      refine gonE (j := 8) hF rfl rfl hc7 ?_
                      refine stp hF (p_eql rfl rfl) (by decide) (fun a hF => ?_)
                      refine stp hF (p_pickT rfl hc7 rfl) (by decide) (fun a hF => ?_)
                      refine nilN ?_
                      refine xn ?_
                      obtain rfl := hsm H
                      exact ⟨(decide (((rd x4.1.Given x10).Res) = x5.2.2.1)), hS, hF.cut ⟨rfl, rfl, rfl, rfl, rfl, rfl, rfl, rfl, rfl, trivial⟩, HK3⟩
                    · replace H := hbf hc7 H
                      refine gofD (j := 8) hF rfl rfl (by rw [hc7]; decide) (by decide) (fun a hF => ?_)
                      refine gofD (j := 8) hF rfl rfl (by rw [hc7]; decide) (by decide) (fun a hF => ?_)
                      refine gofD (j := 8) hF rfl rfl (by rw [hc7]; decide) (by decide) (fun a hF => ?_)
                      refine gofD (j := 8) hF rfl rfl (by rw [hc7]; decide) (by decide) (fun a hF => ?_)
                      refine gofD (j := 8) hF rfl rfl (by rw [hc7]; decide) (by decide) (fun a hF => ?_)
                      refine gofD (j := 8) hF rfl rfl (by rw [hc7]; decide) (by decide) (fun a hF => ?_)
                      refine gofD (j := 8) hF rfl rfl (by rw [hc7]; decide) (by decide) (fun a hF => ?_)
                      refine gofD (j := 8) hF rfl rfl (by rw [hc7]; decide) (by decide) (fun a hF => ?_)
                      refine stp hF (p_pickF rfl hc7 rfl) (by decide) (fun a hF => ?_)
                      refine nilN ?_
                      refine xn ?_
                      obtain rfl := hsm H
                      exact ⟨false, hS, hF.cut ⟨rfl, rfl, rfl, rfl, rfl, rfl, rfl, rfl, rfl, trivial⟩, HK3⟩
                  · clear H HK3 hS hF
                    rintro a w ⟨x13, hS, hF, H⟩
                    unfold laws_FnLocked.c5 at H
                    refine nilN ?_
                    refine xn ?_
                    refine cnd hF rfl (fun hc8 => ?_) (fun hc8 => ?_)
                    · replace H := hbt hc8 H
                      refine rg ?_
                      refine stp hF (p_fldb (o' := 0) rfl fi_26_0 rfl) (by decide) (fun a hF => ?_)
                      refine stp hF (p_ldb_one (i := 7) hS rfl rfl ia_24 rfl) (by decide) (fun a hF => ?_)
                      refine stp hF (p_move rfl) (by decide) (fun a hF => ?_)
                      obtain ⟨hq3, H⟩ := hck H
                      obtain ⟨b3, o3, q3, hv8, p5⟩ := p_idxo (n := 0) (i := x10) hS rfl un_24 ti_33 hq3.1 hq3.2
                      refine stp hF (p5 rfl rfl) (by decide) (fun a hF => ?_)
                      refine stp hF (p_fldb (o' := ((o3 + x10.toNat * kTGrant.sz) + 2)) rfl fi_33_2 rfl) (by decide) (fun a hF => ?_)
                      obtain ⟨u3, h10, p6⟩ := p_ldo_one (P := Try.prog) (n := 0) hS rfl hv8 kTGrant_Mode hq3.1 hq3.2 rfl ia_3 rfl
                      obtain rfl : u3 = .int .i64 ((rd x4.1.Given x10).Mode) := by injection h10
                      refine stp hF (p6 rfl) (by decide) (fun a hF => ?_)
                      refine stp hF (p_assign rfl) (by decide) (fun a hF => ?_)
                      refine nilN ?_
                      refine bn (xn ?_)
                      obtain rfl := hsm H
                      exact ⟨((rd x4.1.Given x10).Mode), hS, hF.cut ⟨rfl, rfl, rfl, rfl, rfl, rfl, rfl, rfl, trivial⟩, HK2⟩
                    · replace H := hbf hc8 H
                      refine skN ?_
                      refine bn (xn ?_)
                      obtain rfl := hsm H
                      exact ⟨x12, hS, hF.cut ⟨rfl, rfl, rfl, rfl, rfl, rfl, rfl, rfl, trivial⟩, HK2⟩
                · clear H HK2 hS hF
                  rintro a w ⟨x11, hS, hF, H⟩
                  unfold laws_FnLocked.c4 at H
                  refine rg ?_
                  refine stp hF (p_move rfl) (by decide) (fun a hF => ?_)
                  refine stp hF (p_add (c := w64 (x10 + 1)) rfl rfl rfl) (by decide) (fun a hF => ?_)
                  refine stp hF (p_assign rfl) (by decide) (fun a hF => ?_)
                  refine nilN ?_
                  refine xn ?_
                  exact ⟨x11, (w64 (x10 + 1)), hS, hF.cut ⟨rfl, rfl, rfl, rfl, rfl, rfl, rfl, rfl, trivial⟩, H⟩
              · replace H := hbf hc6 H
                refine exi ?_
                refine xe (xe (hit (xn ?_)))
                obtain rfl := hsm H
                exact ⟨x12, hS, hF.cut ⟨rfl, rfl, rfl, rfl, rfl, rfl, rfl, trivial⟩, HK1⟩
          · clear H HK1 hS hF
            rintro a w ⟨x6, hS, hF, H⟩
            unfold laws_FnLocked.c3 at H
            refine sq ?_
            refine sq ?_
            refine rg ?_
            refine stp hF (p_move rfl) (by decide) (fun a hF => ?_)
            refine stp hF (p_eql rfl rfl) (by decide) (fun a hF => ?_)
            refine nilN ?_
            refine xn ?_
            refine cnd hF rfl (fun hc9 => ?_) (fun hc9 => ?_)
            · replace H := hbt hc9 H
              refine sq ?_
              refine rg ?_
              refine stp hF (p_fldb (o' := 1) rfl fi_26_1 rfl) (by decide) (fun a hF => ?_)
              refine stp hF (p_ldb_one (i := 7) hS rfl rfl ia_24 rfl) (by decide) (fun a hF => ?_)
              refine stp hF (p_leno (i := 1) hS rfl un_24 rfl) (by decide) (fun a hF => ?_)
              refine stp hF (p_fldb (o' := 1) rfl fi_26_1 rfl) (by decide) (fun a hF => ?_)
              refine stp hF (p_ldb_one (i := 8) hS rfl rfl ia_24 rfl) (by decide) (fun a hF => ?_)
              refine stp hF (p_leno (i := 4) hS rfl un_24 rfl) (by decide) (fun a hF => ?_)
              refine stp hF (p_add (c := w64 ((x5.1.Waits.length : Int) + 1)) rfl rfl rfl) (by decide) (fun a hF => ?_)
              refine stp hF (p_eql rfl rfl) (by decide) (fun a hF => ?_)
              refine stp hF (p_move rfl) (by decide) (fun a hF => ?_)
              obtain ⟨x7, H, HK4⟩ := hb H
              refine cutj 12 (fun a w => ∃ (x1 : Bool) , St e s11 w [Ow kTGrant 33 v4 x4.1.Given, Ow kTGrant 33 v5 x4.1.Waits, pt g3 26 ([v6, v7]), Ow kTGrant 33 v2 x5.1.Given, Ow kTGrant 33 v3 x5.1.Waits, Ow kTGrant 33 v6 x18.1.Given, Ow kTGrant 33 v7 x18.1.Waits, pt g2 26 ([v4, v5]), pt g1 26 ([v2, v3])] ∧ Fr 139 a [(117, (.bool x1))] ∧ laws_FnLocked.c1 k x1 = some r) rfl rfl ?_ ?_
              · rcases Bool.eq_false_or_eq_true (decide ((x4.1.Waits.length : Int) = (w64 ((x5.1.Waits.length : Int) + 1)))) with hc10 | hc10
                · replace H := hbt hc10 H
                  refine gonE (j := 8) hF rfl rfl hc10 ?_
                  refine stp hF (p_fldb (o' := 1) rfl fi_26_1 rfl) (by decide) (fun a hF => ?_)
                  refine gonE (j := 8) hF rfl rfl hc10 ?_
                  refine stp hF (p_ldb_one (i := 7) hS rfl rfl ia_24 rfl) (by decide) (fun a hF => ?_)
                  refine gonE (j := 8) hF rfl rfl hc10 ?_
                  refine stp hF (p_fldb (o' := 1) rfl fi_26_1 rfl) (by decide) (fun a hF => ?_)
                  refine gonE (j := 8) hF rfl rfl hc10 ?_
                  refine stp hF (p_ldb_one (i := 7) hS rfl rfl ia_24 rfl) (by decide) (fun a hF => ?_)
                  refine gonE (j := 8) hF rfl rfl hc10 ?_
                  refine stp hF (p_leno (i := 1) hS rfl un_24 rfl) (by decide) (fun a hF => ?_)
                  refine gonE (j := 8) hF rfl rfl hc10 ?_
                  refine stp hF (p_sub (c := w64 ((x4.1.Waits.length : Int) - 1)) rfl rfl rfl) (by decide) (fun a hF => ?_)
                  obtain ⟨hq4, H⟩ := hck H
                  obtain ⟨b4, o4, q4, hv9, p7⟩ := p_idxo (n := 1) (i := (w64 ((x4.1.Waits.length : Int) - 1))) hS rfl un_24 ti_33 hq4.1 hq4.2
                  refine gonE (j := 8) hF rfl rfl hc10 ?_
                  refine stp hF (p7 rfl rfl) (by decide) (fun a hF => ?_)
                  refine gonE (j := 8) hF rfl rfl hc10 ?_
                  refine stp hF (p_fldb (o' := (o4 + (w64 ((x4.1.Waits.length : Int) - 1)).toNat * kTGrant.sz)) rfl fi_33_0 rfl) (by decide) (fun a hF => ?_)
                  obtain ⟨u4, h11, p8⟩ := p_ldo_one (P := Try.prog) (n := 1) hS rfl hv9 kTGrant_Tx hq4.1 hq4.2 rfl ia_3 rfl
                  obtain rfl : u4 = .int .i64 ((rd x4.1.Waits (w64 ((x4.1.Waits.length : Int) - 1))).Tx) := by injection h11
                  refine gonE (j := 8) hF rfl rfl hc10 ?_
                  refine stp hF (p8 rfl) (by decide) (fun a hF => ?_)
                  refine gonE (j := 8) hF rfl rfl hc10 ?_
                  refine stp hF (p_move rfl) (by decide) (fun a hF => ?_)
                  refine gonE (j := 8) hF rfl rfl hc10 ?_
                  refine stp hF (p_eql rfl rfl) (by decide) (fun a hF => ?_)
                  refine stp hF (p_pickT rfl hc10 rfl) (by decide) (fun a hF => ?_)
                  refine nilN ?_
                  refine xn ?_
                  obtain rfl := hsm H
                  exact ⟨(decide (((rd x4.1.Waits (w64 ((x4.1.Waits.length : Int) - 1))).Tx) = x5.2.1)), hS, hF.cut ⟨rfl, trivial⟩, HK4⟩
                · replace H := hbf hc10 H
                  refine gofD (j := 8) hF rfl rfl (by rw [hc10]; decide) (by decide) (fun a hF => ?_)
                  refine gofD (j := 8) hF rfl rfl (by rw [hc10]; decide) (by decide) (fun a hF => ?_)
                  refine gofD (j := 8) hF rfl rfl (by rw [hc10]; decide) (by decide) (fun a hF => ?_)
                  refine gofD (j := 8) hF rfl rfl (by rw [hc10]; decide) (by decide) (fun a hF => ?_)
                  refine gofD (j := 8) hF rfl rfl (by rw [hc10]; decide) (by decide) (fun a hF => ?_)
                  refine gofD (j := 8) hF rfl rfl (by rw [hc10]; decide) (by decide) (fun a hF => ?_)
                  refine gofD (j := 8) hF rfl rfl (by rw [hc10]; decide) (by decide) (fun a hF => ?_)
                  refine gofD (j := 8) hF rfl rfl (by rw [hc10]; decide) (by decide) (fun a hF => ?_)
                  refine gofD (j := 8) hF rfl rfl (by rw [hc10]; decide) (by decide) (fun a hF => ?_)
                  refine gofD (j := 8) hF rfl rfl (by rw [hc10]; decide) (by decide) (fun a hF => ?_)
                  refine gofD (j := 8) hF rfl rfl (by rw [hc10]; decide) (by decide) (fun a hF => ?_)
                  refine stp hF (p_pickF rfl hc10 rfl) (by decide) (fun a hF => ?_)
                  refine nilN ?_
                  refine xn ?_
                  obtain rfl := hsm H
                  exact ⟨false, hS, hF.cut ⟨rfl, trivial⟩, HK4⟩
              · clear H HK4 hS hF
                rintro a w ⟨x1, hS, hF, H⟩
                unfold laws_FnLocked.c1 at H
                refine stp hF (p_assign rfl) (by decide) (fun a hF => ?_)
                refine nilN ?_
                refine xn ?_
                refine rt ?_
                refine xr ?_
                obtain rfl := hsm H
                replace hS := hS.sel (is := []) (A' := []) rfl
                exact ret1 hF rfl rfl hS ⟨rfl, rfl⟩
            · replace H := hbf hc9 H
              refine skN ?_
              refine xn ?_
              refine sq ?_
              refine rg ?_
              refine stp hF (p_ldb_agg (i := 7) (l := []) (m := [v4, v5]) (r := []) hS rfl rfl ia_26 ti_26 rfl rfl rfl) (by decide) (fun a hF => ?_)
              refine stp hF (p_move rfl) (by decide) (fun a hF => ?_)
              refine stp hF (p_move rfl) (by decide) (fun a hF => ?_)
              refine stp hF (p_move rfl) (by decide) (fun a hF => ?_)
              obtain ⟨s13, hg9, hl4, hcall4⟩ := St.lend (P := Try.prog) (Bs := [Ow kTGrant 33 v4 x4.1.Given, Ow kTGrant 33 v5 x4.1.Waits]) (A := []) (B := [pt g3 26 ([v6, v7]), Ow kTGrant 33 v2 x5.1.Given, Ow kTGrant 33 v3 x5.1.Waits, Ow kTGrant 33 v6 x18.1.Given, Ow kTGrant 33 v7 x18.1.Waits, pt g2 26 ([v4, v5]), pt g1 26 ([v2, v3])]) hS
              obtain ⟨h12, hl4⟩ := hl4.ow hg9
              obtain ⟨h13, hl4⟩ := hl4.ow hg9
              obtain ⟨x2, hx6, H⟩ := hb H
              refine ste hF (e_call (fst := []) (vs := [(.agg #[v4, v5]), (.int .i64 x5.2.1), (.int .i64 x5.2.2.1), (.int .i64 x5.2.2.2)]) (cap := []) rfl rfl go_8 (hcall4 (impl_Ask.spec k _ _ x4.1 x5.2.1 x5.2.2.1 x5.2.2.2 v4 v5 h12 h13 _ hx6) (by rintro v s1 A1 ⟨_, _, rfl, rfl⟩; exact ⟨Ow_flat kTGrant_flat _ _ _, ⟨Ow_flat kTGrant_flat _ _ _, trivial⟩⟩))) (by decide) (fun v w a hR hF => ?_)
              obtain ⟨s14, s15, A7, hg10, hS, hR⟩ := hR
              obtain ⟨v8, v9, hv10, rfl⟩ := hR; obtain rfl := hv10.symm
              have hS : St e s14 w [Ow kTGrant 33 v4 x4.1.Given, Ow kTGrant 33 v5 x4.1.Waits, Ow kTGrant 33 v8 x2.1.Given, Ow kTGrant 33 v9 x2.1.Waits, pt g3 26 ([v6, v7]), Ow kTGrant 33 v2 x5.1.Given, Ow kTGrant 33 v3 x5.1.Waits, Ow kTGrant 33 v6 x18.1.Given, Ow kTGrant 33 v7 x18.1.Waits, pt g2 26 ([v4, v5]), pt g1 26 ([v2, v3])] := hS
              refine stp hF (p_move rfl) (by decide) (fun a hF => ?_)
              refine stp hF (p_extract rfl rfl) (by decide) (fun a hF => ?_)
              refine stp hF (p_extract rfl rfl) (by decide) (fun a hF => ?_)
              refine ste hF (e_alloc (cs := [(.slice none 0 0), (.slice none 0 0)]) hS ti_26 rfl) (by decide) (fun v w a hR hF => ?_)
              obtain ⟨g4, rfl, hS⟩ := hR
              refine ste0 hF (e_stb (i := 0) (l := []) (m := [(.slice none 0 0), (.slice none 0 0)]) (r := []) (m' := [v8, v9]) (cs' := [v8, v9]) hS rfl rfl rfl ti_26 rfl rfl rfl rfl rfl (one_cons (hS.one_ow (i := 3) rfl) (one_cons (hS.one_ow (i := 4) rfl) one_nil)) rfl) (fun v w a hR hF => ?_)
              have hS : St e s14 w [pt g4 26 ([v8, v9]), Ow kTGrant 33 v4 x4.1.Given, Ow kTGrant 33 v5 x4.1.Waits, Ow kTGrant 33 v8 x2.1.Given, Ow kTGrant 33 v9 x2.1.Waits, pt g3 26 ([v6, v7]), Ow kTGrant 33 v2 x5.1.Given, Ow kTGrant 33 v3 x5.1.Waits, Ow kTGrant 33 v6 x18.1.Given, Ow kTGrant 33 v7 x18.1.Waits, pt g2 26 ([v4, v5]), pt g1 26 ([v2, v3])] := hR
              refine stp hF (p_assign rfl) (by decide) (fun a hF => ?_)
              refine nilN ?_
              refine xn ?_
              refine sq ?_
              refine rg ?_
              refine stp hF (p_move rfl) (by decide) (fun a hF => ?_)
              refine stp hF (p_gtr rfl rfl) (by decide) (fun a hF => ?_)
              refine stp hF (p_move rfl) (by decide) (fun a hF => ?_)
              obtain ⟨x9, H, HK5⟩ := hb H
              refine cutj 6 (fun a w => ∃ (x3 : Bool) (s16 : HF) , St e s16 w [pt g4 26 ([v8, v9]), Ow kTGrant 33 v4 x4.1.Given, Ow kTGrant 33 v5 x4.1.Waits, Ow kTGrant 33 v8 x2.1.Given, Ow kTGrant 33 v9 x2.1.Waits, pt g3 26 ([v6, v7]), Ow kTGrant 33 v2 x5.1.Given, Ow kTGrant 33 v3 x5.1.Waits, Ow kTGrant 33 v6 x18.1.Given, Ow kTGrant 33 v7 x18.1.Waits, pt g2 26 ([v4, v5]), pt g1 26 ([v2, v3])] ∧ Fr 139 a [(14, (.int .i64 x2.2)), (134, (.bool x3))] ∧ Sub s14 s16 ∧ laws_FnLocked.c2 k x2 x3 = some r) rfl rfl ?_ ?_
              · rcases Bool.eq_false_or_eq_true (decide (0 < x6)) with hc11 | hc11
                · replace H := hbt hc11 H
                  refine gonE (j := 2) hF rfl rfl hc11 ?_
                  refine stp hF (p_move rfl) (by decide) (fun a hF => ?_)
                  refine gonE (j := 2) hF rfl rfl hc11 ?_
                  refine stp hF (p_move rfl) (by decide) (fun a hF => ?_)
                  obtain ⟨x8, hx7, H⟩ := hb H
                  refine gonE (j := 2) hF rfl rfl hc11 ?_
                  refine ste hF (e_call (fst := []) (vs := [(.int .i64 x6), (.int .i64 x5.2.2.2)]) (cap := []) rfl rfl go_11 (St.call (A := []) (B := [pt g4 26 ([v8, v9]), Ow kTGrant 33 v4 x4.1.Given, Ow kTGrant 33 v5 x4.1.Waits, Ow kTGrant 33 v8 x2.1.Given, Ow kTGrant 33 v9 x2.1.Waits, pt g3 26 ([v6, v7]), Ow kTGrant 33 v2 x5.1.Given, Ow kTGrant 33 v3 x5.1.Waits, Ow kTGrant 33 v6 x18.1.Given, Ow kTGrant 33 v7 x18.1.Waits, pt g2 26 ([v4, v5]), pt g1 26 ([v2, v3])]) hS (impl_Both.spec k _ _ x6 x5.2.2.2 _ hx7))) (by decide) (fun v w a hR hF => ?_)
                  obtain ⟨s17, A8, hg11, hS, hR⟩ := hR
                  obtain ⟨hv11, rfl⟩ := hR; obtain rfl := hv11.symm
                  have hS : St e s17 w [pt g4 26 ([v8, v9]), Ow kTGrant 33 v4 x4.1.Given, Ow kTGrant 33 v5 x4.1.Waits, Ow kTGrant 33 v8 x2.1.Given, Ow kTGrant 33 v9 x2.1.Waits, pt g3 26 ([v6, v7]), Ow kTGrant 33 v2 x5.1.Given, Ow kTGrant 33 v3 x5.1.Waits, Ow kTGrant 33 v6 x18.1.Given, Ow kTGrant 33 v7 x18.1.Waits, pt g2 26 ([v4, v5]), pt g1 26 ([v2, v3])] := hS
                  refine gonE (j := 2) hF rfl rfl hc11 ?_
                  refine stp hF (p_move rfl) (by decide) (fun a hF => ?_)
                  refine gonE (j := 2) hF rfl rfl hc11 ?_
                  refine stp hF (p_eql rfl rfl) (by decide) (fun a hF => ?_)
                  refine stp hF (p_pickT rfl hc11 rfl) (by decide) (fun a hF => ?_)
                  refine nilN ?_
                  refine xn ?_
                  obtain rfl := hsm H
                  exact ⟨(decide (x8 = x6)), s17, hS, hF.cut ⟨rfl, rfl, trivial⟩, hg11, HK5⟩
                · replace H := hbf hc11 H
                  refine gofD (j := 2) hF rfl rfl (by rw [hc11]; decide) (by decide) (fun a hF => ?_)
                  refine gofD (j := 2) hF rfl rfl (by rw [hc11]; decide) (by decide) (fun a hF => ?_)
                  refine gofD (j := 2) hF rfl rfl (by rw [hc11]; decide) (by decide) (fun a hF => ?_)
                  refine gofD (j := 2) hF rfl rfl (by rw [hc11]; decide) (by decide) (fun a hF => ?_)
                  refine gofD (j := 2) hF rfl rfl (by rw [hc11]; decide) (by decide) (fun a hF => ?_)
                  refine stp hF (p_pickF rfl hc11 rfl) (by decide) (fun a hF => ?_)
                  refine nilN ?_
                  refine xn ?_
                  obtain rfl := hsm H
                  exact ⟨false, s14, hS, hF.cut ⟨rfl, rfl, trivial⟩, (Sub.refl _), HK5⟩
              · clear H HK5 hS hF
                rintro a w ⟨x3, s16, hS, hF, hg12, H⟩
                unfold laws_FnLocked.c2 at H
                refine stp hF (p_move rfl) (by decide) (fun a hF => ?_)
                refine cutj 3 (fun a w => St e s16 w [pt g4 26 ([v8, v9]), Ow kTGrant 33 v4 x4.1.Given, Ow kTGrant 33 v5 x4.1.Waits, Ow kTGrant 33 v8 x2.1.Given, Ow kTGrant 33 v9 x2.1.Waits, pt g3 26 ([v6, v7]), Ow kTGrant 33 v2 x5.1.Given, Ow kTGrant 33 v3 x5.1.Waits, Ow kTGrant 33 v6 x18.1.Given, Ow kTGrant 33 v7 x18.1.Waits, pt g2 26 ([v4, v5]), pt g1 26 ([v2, v3])] ∧ Fr 139 a [(138, (.bool (x3 && (decide (x2.2 = 0)))))]) rfl rfl ?_ ?_
                · rcases Bool.eq_false_or_eq_true (x3) with hc12 | hc12
                  · skip
                    refine gonE (j := 9) hF rfl rfl hc12 ?_
                    refine stp hF (p_move rfl) (by decide) (fun a hF => ?_)
                    refine gonE (j := 9) hF rfl rfl hc12 ?_
                    refine stp hF (p_eql rfl rfl) (by decide) (fun a hF => ?_)
                    refine stp hF (p_andT rfl hc12 rfl) (by decide) (fun a hF => ?_)
                    refine nilN ?_
                    refine xn ?_
                    exact ⟨hS, hF.cut ⟨rfl, trivial⟩⟩
                  · skip
                    refine gofD (j := 9) hF rfl rfl (by rw [hc12]; decide) (by decide) (fun a hF => ?_)
                    refine gofD (j := 9) hF rfl rfl (by rw [hc12]; decide) (by decide) (fun a hF => ?_)
                    refine stp hF (p_andF (decide (x2.2 = 0)) rfl hc12 rfl) (by decide) (fun a hF => ?_)
                    refine nilN ?_
                    refine xn ?_
                    exact ⟨hS, hF.cut ⟨rfl, trivial⟩⟩
                clear hS hF
                rintro a w ⟨hS, hF⟩
                refine stp hF (p_assign rfl) (by decide) (fun a hF => ?_)
                refine nilN ?_
                refine xn ?_
                refine rt ?_
                obtain rfl := hsm H
                replace hS := hS.sel (is := []) (A' := []) rfl
                exact ret1 hF rfl rfl hS ⟨rfl, rfl⟩
end Go.Proofs.Ytbcpkopchnlefaa
