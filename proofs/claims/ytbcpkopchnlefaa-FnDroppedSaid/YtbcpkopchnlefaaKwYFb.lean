/- Functions of this place as plain functions, and that the machine comes to what they say. Conditions: none. -/
import Derived.Test.YtbcpkopchnlefaaKwYFa
set_option linter.unusedVariables false
set_option linter.unusedSimpArgs false
namespace Go.Proofs.Ytbcpkopchnlefaa
open Go.Kw

def spec_l9DrawAny.c1 (k : Nat) (x1 : (List Int)) (x2 : Int) (x3 : Int) (x4 : (List TGrant)) (x5 : (List TGrant)) : Option (TLocks × (List Int) × Int × Int) :=
  (some ((⟨x4, x5⟩ : TLocks), x1, x2, x3))
def spec_l9DrawAny.f (k : Nat) (x6 : (List Int)) (x7 : Int) (x8 : Int) (x9 : Int) : Option (TLocks × (List Int) × Int × Int) :=
  ((spec_l9Draw.f k x6 x7 x8 x9).bind fun x10 => ((((spec_l1Below.f k x10.2.1 x10.2.2.1 x10.2.2.2 12).bind fun x11 => (if (decide (x11.1 = 0)) = true then ((spec_l1Below.f k x11.2.1 x11.2.2.1 x11.2.2.2 4).bind fun x12 => ((spec_l1Below.f k x12.2.1 x12.2.2.1 x12.2.2.2 3).bind fun x13 => ((spec_l1Below.f k x13.2.1 x13.2.2.1 x13.2.2.2 6).bind fun x14 => (if x10.1.Given.length + 1 ≤ 5864062014805 then (some (x14.2.1, x14.2.2.1, x14.2.2.2, (x10.1.Given ++ ([(⟨x12.1, x13.1, x14.1⟩ : TGrant)] : List TGrant)), x10.1.Waits)) else none)))) else (if (decide (x11.1 = 1)) = true then ((spec_l1Below.f k x11.2.1 x11.2.2.1 x11.2.2.2 4).bind fun x15 => ((spec_l1Int.f k x15.2.1 x15.2.2.1 x15.2.2.2 ([0, 100] : List Int)).bind fun x16 => ((spec_l1Below.f k x16.2.1 x16.2.2.1 x16.2.2.2 4).bind fun x17 => (if x10.1.Waits.length + 1 ≤ 5864062014805 then (some (x17.2.1, x17.2.2.1, x17.2.2.2, x10.1.Given, (x10.1.Waits ++ ([(⟨x15.1, x16.1, w64 (1 + x17.1)⟩ : TGrant)] : List TGrant)))) else none)))) else (some (x11.2.1, x11.2.2.1, x11.2.2.2, x10.1.Given, x10.1.Waits))))) : Option ((List Int) × Int × Int × (List TGrant) × (List TGrant))).bind fun x18 => spec_l9DrawAny.c1 k x18.1 x18.2.1 x18.2.2.1 x18.2.2.2.1 x18.2.2.2.2))
set_option maxRecDepth 100000 in
set_option maxHeartbeats 4000000 in
theorem spec_l9DrawAny.spec (k : Nat) (s0 : HF) (w : World) (x6 : (List Int)) (x7 : Int) (x8 : Int) (x9 : Int) (v1 : Value) (g1 : Nat) (h1 : Sl (Kd.int .u8) s0 v1 x6) (r : TLocks × (List Int) × Int × Int) (H : spec_l9DrawAny.f k x6 x7 x8 x9 = some r) :
    Law Try.prog 28 #[(.pointer (some ⟨g1, 0, none⟩)), (.int .i64 x9)] s0 w [pt g1 74 ([v1, (.int .i64 x7), (.int .i64 x8)])] (fun v s1 A1 => ∃ (u0 : Value) (u1 : Value) (u2 : Value), v = (.agg #[u1, u2]) ∧ A1 = [pt g1 74 ([u0, (.int .i64 r.2.2.1), (.int .i64 r.2.2.2)]), Ow kTGrant 33 u1 r.1.Given, Ow kTGrant 33 u2 r.1.Waits] ∧ Sl (Kd.int .u8) s1 u0 r.2.1) := by
  unfold spec_l9DrawAny.f at H
  refine Law.intro Try.func28 rfl [(0, (.pointer (some ⟨g1, 0, none⟩))), (1, (.int .i64 x9))] (Nat.le_of_ble_eq_true rfl) (enter_lk ⟨rfl, rfl, trivial⟩) (fun e a hS hF => ?_)
  have hF : Fr 42 a [(0, (.pointer (some ⟨g1, 0, none⟩))), (1, (.int .i64 x9))] := hF
  refine sq ?_
  refine rg ?_
  refine ste hF (e_alloc (cs := [(.slice none 0 0), (.slice none 0 0)]) hS ti_26 rfl) (by decide) (fun v w a hR hF => ?_)
  obtain ⟨g2, rfl, hS⟩ := hR
  refine nilN ?_
  refine xn ?_
  refine sq ?_
  refine rg ?_
  refine stp hF (p_move rfl) (by decide) (fun a hF => ?_)
  refine stp hF (p_move rfl) (by decide) (fun a hF => ?_)
  replace hS := hS.sel (is := [1, 0]) (A' := [pt g1 74 ([v1, (.int .i64 x7), (.int .i64 x8)]), pt g2 26 ([(.slice none 0 0), (.slice none 0 0)])]) rfl
  obtain ⟨x10, hx1, H⟩ := hb H
  refine ste hF (e_call (fst := []) (vs := [(.pointer (some ⟨g1, 0, none⟩)), (.int .i64 x9)]) (cap := []) rfl rfl go_57 (St.call (A := [pt g1 74 ([v1, (.int .i64 x7), (.int .i64 x8)])]) (B := [pt g2 26 ([(.slice none 0 0), (.slice none 0 0)])]) hS (spec_l9Draw.spec k _ _ x6 x7 x8 x9 v1 g1 h1 _ hx1))) (by decide) (fun v w a hR hF => ?_)
  obtain ⟨s2, A2, hg1, hS, hR⟩ := hR
  obtain ⟨v2, v3, v4, hv1, rfl, h2⟩ := hR; obtain rfl := hv1.symm
  have hS : St e s2 w [pt g1 74 ([v2, (.int .i64 x10.2.2.1), (.int .i64 x10.2.2.2)]), Ow kTGrant 33 v3 x10.1.Given, Ow kTGrant 33 v4 x10.1.Waits, pt g2 26 ([(.slice none 0 0), (.slice none 0 0)])] := hS
  refine ste hF (e_alloc (cs := [(.slice none 0 0), (.slice none 0 0)]) hS ti_26 rfl) (by decide) (fun v w a hR hF => ?_)
  obtain ⟨g3, rfl, hS⟩ := hR
  refine ste0 hF (e_stb (i := 0) (l := []) (m := [(.slice none 0 0), (.slice none 0 0)]) (r := []) (m' := [v3, v4]) (cs' := [v3, v4]) hS rfl rfl rfl ti_26 rfl rfl rfl rfl rfl (one_cons (hS.one_ow (i := 2) rfl) (one_cons (hS.one_ow (i := 3) rfl) one_nil)) rfl) (fun v w a hR hF => ?_)
  have hS : St e s2 w [pt g3 26 ([v3, v4]), pt g1 74 ([v2, (.int .i64 x10.2.2.1), (.int .i64 x10.2.2.2)]), Ow kTGrant 33 v3 x10.1.Given, Ow kTGrant 33 v4 x10.1.Waits, pt g2 26 ([(.slice none 0 0), (.slice none 0 0)])] := hR
  refine nilN ?_
  refine xn ?_
  obtain ⟨x18, H, HK1⟩ := hb H
  refine sqj (fun a w => ∃ (x1 : (List Int)) (x2 : Int) (x3 : Int) (x4 : (List TGrant)) (x5 : (List TGrant)) (s3 : HF) (v5 : Value) (v6 : Value) (v7 : Value) , St e s3 w [pt g3 26 ([v6, v7]), pt g1 74 ([v5, (.int .i64 x2), (.int .i64 x3)]), Ow kTGrant 33 v6 x4, Ow kTGrant 33 v7 x5, pt g2 26 ([(.slice none 0 0), (.slice none 0 0)])] ∧ Fr 42 a [(4, (.pointer (some ⟨g2, 0, none⟩))), (5, (.pointer (some ⟨g3, 0, none⟩)))] ∧ Sub s2 s3 ∧ Sl (Kd.int .u8) s3 v5 x1 ∧ spec_l9DrawAny.c1 k x1 x2 x3 x4 x5 = some r) ?_ ?_
  · skip
    refine sq ?_
    refine rg ?_
    refine stp hF (p_move rfl) (by decide) (fun a hF => ?_)
    replace hS := hS.sel (is := [1, 0, 0, 0, 0]) (A' := [pt g1 74 ([v2, (.int .i64 x10.2.2.1), (.int .i64 x10.2.2.2)]), pt g3 26 ([v3, v4]), Ow kTGrant 33 v3 x10.1.Given, Ow kTGrant 33 v4 x10.1.Waits, pt g2 26 ([(.slice none 0 0), (.slice none 0 0)])]) rfl
    obtain ⟨x11, hx2, H⟩ := hb H
    refine ste hF (e_call (fst := []) (vs := [(.pointer (some ⟨g1, 0, none⟩)), (.int .i64 12)]) (cap := []) rfl rfl go_60 (St.call (A := [pt g1 74 ([v2, (.int .i64 x10.2.2.1), (.int .i64 x10.2.2.2)])]) (B := [pt g3 26 ([v3, v4]), Ow kTGrant 33 v3 x10.1.Given, Ow kTGrant 33 v4 x10.1.Waits, pt g2 26 ([(.slice none 0 0), (.slice none 0 0)])]) hS (spec_l1Below.spec k _ _ x10.2.1 x10.2.2.1 x10.2.2.2 12 v2 g1 h2 _ hx2))) (by decide) (fun v w a hR hF => ?_)
    obtain ⟨s4, A3, hg2, hS, hR⟩ := hR
    obtain ⟨v8, hv2, rfl, h3⟩ := hR; obtain rfl := hv2.symm
    have hS : St e s4 w [pt g1 74 ([v8, (.int .i64 x11.2.2.1), (.int .i64 x11.2.2.2)]), pt g3 26 ([v3, v4]), Ow kTGrant 33 v3 x10.1.Given, Ow kTGrant 33 v4 x10.1.Waits, pt g2 26 ([(.slice none 0 0), (.slice none 0 0)])] := hS
    refine nilN ?_
    refine xn ?_
    refine blk ?_
    refine sq ?_
    refine rg ?_
    refine stp hF (p_eql rfl rfl) (by decide) (fun a hF => ?_)
    refine stp hF (p_assign rfl) (by decide) (fun a hF => ?_)
    refine nilN ?_
    refine xn ?_
    refine cnd hF rfl (fun hc1 => ?_) (fun hc1 => ?_)
    · replace H := hbt hc1 H
      replace hS : St e s4 w.drew [pt g1 74 ([v8, (.int .i64 x11.2.2.1), (.int .i64 x11.2.2.2)]), pt g3 26 ([v3, v4]), Ow kTGrant 33 v3 x10.1.Given, Ow kTGrant 33 v4 x10.1.Waits, pt g2 26 ([(.slice none 0 0), (.slice none 0 0)])] := hS.drewN 1
      refine drw [0, 1, 2, 3, 4, 5, 6, 7, 8, 9, 10, 11, 12] mixed (by kernel_rfl) (by decide) (hF.cut (L' := [(0, (.pointer (some ⟨g1, 0, none⟩))), (1, (.int .i64 x9)), (4, (.pointer (some ⟨g2, 0, none⟩))), (5, (.pointer (some ⟨g3, 0, none⟩))), (6, (.pointer (some ⟨g1, 0, none⟩))), (7, (.int .i64 x9)), (8, (.agg #[v3, v4])), (9, (.pointer (some ⟨g1, 0, none⟩))), (10, (.int .i64 x11.1)), (11, (.bool (decide (x11.1 = 0)))), (12, (.bool (decide (x11.1 = 0))))]) ⟨rfl, rfl, rfl, rfl, rfl, rfl, rfl, rfl, rfl, rfl, rfl, trivial⟩) ?_
      clear hF
      generalize w.drew = w at hS ⊢
      refine pk1 rfl (by decide) rfl (by kernel_rfl) rfl (p_fldb (o' := 0) rfl fi_26_0 rfl) ?_
      refine pk1 rfl (by decide) rfl (by kernel_rfl) rfl (p_ldb_one (i := 1) hS rfl rfl ia_24 rfl) ?_
      refine pk1 rfl (by decide) rfl (by kernel_rfl) rfl (p_move rfl) ?_
      refine pkPerm [4, 3, 5, 6, 7, 8, 9, 10, 11, 12] (by kernel_rfl) ?_
      refine pk1 rfl (by decide) rfl (by kernel_rfl) rfl (p_move rfl) ?_
      refine pkPerm [6, 3, 5, 7, 8, 9, 10, 11, 12] (by kernel_rfl) ?_
      refine pk1 rfl (by decide) rfl (by kernel_rfl) rfl (p_move rfl) ?_
      obtain ⟨x12, hx3, H⟩ := hb H
      refine pkE [6, 4, 1, 0] rfl (by decide) (by kernel_rfl) (by kernel_rfl) (e_call (fst := []) (vs := [(.pointer (some ⟨g1, 0, none⟩)), (.int .i64 4)]) (cap := []) rfl rfl go_60 (St.call (A := [pt g1 74 ([v8, (.int .i64 x11.2.2.1), (.int .i64 x11.2.2.2)])]) (B := [pt g3 26 ([v3, v4]), Ow kTGrant 33 v3 x10.1.Given, Ow kTGrant 33 v4 x10.1.Waits, pt g2 26 ([(.slice none 0 0), (.slice none 0 0)])]) hS (spec_l1Below.spec k _ _ x11.2.1 x11.2.2.1 x11.2.2.2 4 v8 g1 h3 _ hx3))) ?_
      intro v w hR
      obtain ⟨s5, A4, hg3, hS, hR⟩ := hR
      obtain ⟨v9, hv3, rfl, h4⟩ := hR; obtain rfl := hv3.symm
      have hS : St e s5 w [pt g1 74 ([v9, (.int .i64 x12.2.2.1), (.int .i64 x12.2.2.2)]), pt g3 26 ([v3, v4]), Ow kTGrant 33 v3 x10.1.Given, Ow kTGrant 33 v4 x10.1.Waits, pt g2 26 ([(.slice none 0 0), (.slice none 0 0)])] := hS
      refine ⟨⟨knw rfl rfl rfl (p_move rfl), ⟨knw rfl rfl rfl (p_move rfl), ⟨knw rfl rfl rfl (p_ldb_one (i := 1) hS rfl rfl ia_24 rfl), ⟨knw rfl rfl rfl (p_fldb (o' := 0) rfl fi_26_0 rfl), trivial⟩⟩⟩⟩, ?_⟩
      obtain ⟨x13, hx4, H⟩ := hb H
      refine pkE [6, 1, 0] rfl (by decide) (by kernel_rfl) (by kernel_rfl) (e_call (fst := []) (vs := [(.pointer (some ⟨g1, 0, none⟩)), (.int .i64 3)]) (cap := []) rfl rfl go_60 (St.call (A := [pt g1 74 ([v9, (.int .i64 x12.2.2.1), (.int .i64 x12.2.2.2)])]) (B := [pt g3 26 ([v3, v4]), Ow kTGrant 33 v3 x10.1.Given, Ow kTGrant 33 v4 x10.1.Waits, pt g2 26 ([(.slice none 0 0), (.slice none 0 0)])]) hS (spec_l1Below.spec k _ _ x12.2.1 x12.2.2.1 x12.2.2.2 3 v9 g1 h4 _ hx4))) ?_
      intro v w hR
      obtain ⟨s6, A5, hg4, hS, hR⟩ := hR
      obtain ⟨v10, hv4, rfl, h5⟩ := hR; obtain rfl := hv4.symm
      have hS : St e s6 w [pt g1 74 ([v10, (.int .i64 x13.2.2.1), (.int .i64 x13.2.2.2)]), pt g3 26 ([v3, v4]), Ow kTGrant 33 v3 x10.1.Given, Ow kTGrant 33 v4 x10.1.Waits, pt g2 26 ([(.slice none 0 0), (.slice none 0 0)])] := hS
      refine ⟨⟨knw rfl rfl rfl (p_move rfl), ⟨knw rfl rfl rfl (p_ldb_one (i := 1) hS rfl rfl ia_24 rfl), ⟨knw rfl rfl rfl (p_fldb (o' := 0) rfl fi_26_0 rfl), trivial⟩⟩⟩, ?_⟩
      obtain ⟨x14, hx5, H⟩ := hb H
      refine pkE [1, 0] rfl (by decide) (by kernel_rfl) (by kernel_rfl) (e_call (fst := []) (vs := [(.pointer (some ⟨g1, 0, none⟩)), (.int .i64 6)]) (cap := []) rfl rfl go_60 (St.call (A := [pt g1 74 ([v10, (.int .i64 x13.2.2.1), (.int .i64 x13.2.2.2)])]) (B := [pt g3 26 ([v3, v4]), Ow kTGrant 33 v3 x10.1.Given, Ow kTGrant 33 v4 x10.1.Waits, pt g2 26 ([(.slice none 0 0), (.slice none 0 0)])]) hS (spec_l1Below.spec k _ _ x13.2.1 x13.2.2.1 x13.2.2.2 6 v10 g1 h5 _ hx5))) ?_
      intro v w hR
      obtain ⟨s7, A6, hg5, hS, hR⟩ := hR
      obtain ⟨v11, hv5, rfl, h6⟩ := hR; obtain rfl := hv5.symm
      have hS : St e s7 w [pt g1 74 ([v11, (.int .i64 x14.2.2.1), (.int .i64 x14.2.2.2)]), pt g3 26 ([v3, v4]), Ow kTGrant 33 v3 x10.1.Given, Ow kTGrant 33 v4 x10.1.Waits, pt g2 26 ([(.slice none 0 0), (.slice none 0 0)])] := hS
      refine ⟨⟨knw rfl rfl rfl (p_ldb_one (i := 1) hS rfl rfl ia_24 rfl), ⟨knw rfl rfl rfl (p_fldb (o' := 0) rfl fi_26_0 rfl), trivial⟩⟩, ?_⟩
      refine pk1 rfl (by decide) rfl (by kernel_rfl) rfl (p_build (ps := [(0, (.tmp 16)), (1, (.tmp 18)), (2, (.tmp 20))]) (vs := [(0, (.int .i64 x12.1)), (1, (.int .i64 x13.1)), (2, (.int .i64 x14.1))]) (v := (.agg #[(.int .i64 x12.1), (.int .i64 x13.1), (.int .i64 x14.1)])) rfl (by intro w; kernel_rfl)) ?_
      refine pkE [1, 0] rfl (by decide) (by kernel_rfl) (by kernel_rfl) (e_bslice (kd := kTGrant) (et := 33) (ps := [(0, (.tmp 21))]) (vs := [(0, (.agg #[(.int .i64 x12.1), (.int .i64 x13.1), (.int .i64 x14.1)]))]) (cs := [(.int .i64 x12.1), (.int .i64 x13.1), (.int .i64 x14.1)]) (xs := ([(⟨x12.1, x13.1, x14.1⟩ : TGrant)] : List TGrant)) hS rfl (by intro w; kernel_rfl) rfl (by decide) (Nat.le_of_ble_eq_true rfl) (by exact (rows_cons (kd := kTGrant) (x := (⟨x12.1, x13.1, x14.1⟩ : TGrant)) (c := [(.int .i64 x12.1), (.int .i64 x13.1), (.int .i64 x14.1)]) (cs := []) (kTGrant_mk (x := (⟨x12.1, x13.1, x14.1⟩ : TGrant)) ) (Rows.nil _ _ _ _)))) ?_
      intro v12 w hR
      have hS : St e s7 w [Ow kTGrant 33 v12 ([(⟨x12.1, x13.1, x14.1⟩ : TGrant)] : List TGrant), pt g1 74 ([v11, (.int .i64 x14.2.2.1), (.int .i64 x14.2.2.2)]), pt g3 26 ([v3, v4]), Ow kTGrant 33 v3 x10.1.Given, Ow kTGrant 33 v4 x10.1.Waits, pt g2 26 ([(.slice none 0 0), (.slice none 0 0)])] := hR
      refine ⟨⟨knw rfl rfl rfl (p_ldb_one (i := 2) hS rfl rfl ia_24 rfl), ⟨knw rfl rfl rfl (p_fldb (o' := 0) rfl fi_26_0 rfl), trivial⟩⟩, ?_⟩
      obtain ⟨hq1, H⟩ := hck H
      refine pkE [0] rfl (by decide) (by kernel_rfl) (by kernel_rfl) (e_append (n := 3) hS rfl rfl rfl (hS.src (n := 0) rfl) un_24 ti_33 rfl (by decide) (by decide) (Nat.le_trans (Nat.mul_le_mul_right 24 hq1) (by decide))) ?_
      intro v13 w hR
      have hS : St e s7 w [Ow kTGrant 33 v13 (x10.1.Given ++ ([(⟨x12.1, x13.1, x14.1⟩ : TGrant)] : List TGrant)), Ow kTGrant 33 v12 ([(⟨x12.1, x13.1, x14.1⟩ : TGrant)] : List TGrant), pt g1 74 ([v11, (.int .i64 x14.2.2.1), (.int .i64 x14.2.2.2)]), pt g3 26 ([v3, v4]), Ow kTGrant 33 v4 x10.1.Waits, pt g2 26 ([(.slice none 0 0), (.slice none 0 0)])] := hR
      replace hS := hS.sel (is := [0, 1, 1, 1, 1]) (A' := [Ow kTGrant 33 v13 (x10.1.Given ++ ([(⟨x12.1, x13.1, x14.1⟩ : TGrant)] : List TGrant)), pt g1 74 ([v11, (.int .i64 x14.2.2.1), (.int .i64 x14.2.2.2)]), pt g3 26 ([v3, v4]), Ow kTGrant 33 v4 x10.1.Waits, pt g2 26 ([(.slice none 0 0), (.slice none 0 0)])]) rfl
      refine ⟨⟨knw rfl rfl rfl (p_fldb (o' := 0) rfl fi_26_0 rfl), trivial⟩, ?_⟩
      refine pk1 rfl (by decide) rfl (by kernel_rfl) rfl (p_fldb (o' := 0) rfl fi_26_0 rfl) ?_
      refine pkE0 [] rfl (by kernel_rfl) (by kernel_rfl) (e_stb (i := 2) (l := []) (m := [v3]) (r := [v4]) (m' := [v13]) (cs' := [v13, v4]) hS rfl rfl rfl ti_24 rfl rfl rfl (cells_one (hS.one_ow (i := 0) rfl)) rfl (one_cons (hS.one_ow (i := 0) rfl) one_nil) rfl) ?_
      intro v w hR
      have hS : St e s7 w [pt g3 26 ([v13, v4]), Ow kTGrant 33 v13 (x10.1.Given ++ ([(⟨x12.1, x13.1, x14.1⟩ : TGrant)] : List TGrant)), pt g1 74 ([v11, (.int .i64 x14.2.2.1), (.int .i64 x14.2.2.2)]), Ow kTGrant 33 v4 x10.1.Waits, pt g2 26 ([(.slice none 0 0), (.slice none 0 0)])] := hR
      refine ⟨trivial, ?_⟩
      refine pkF (fun a hF => ?_)
      refine bn (xn ?_)
      obtain rfl := hsm H
      replace hS := hS.sel (is := [0, 1, 0, 0, 0]) (A' := [pt g3 26 ([v13, v4]), pt g1 74 ([v11, (.int .i64 x14.2.2.1), (.int .i64 x14.2.2.2)]), Ow kTGrant 33 v13 (x10.1.Given ++ ([(⟨x12.1, x13.1, x14.1⟩ : TGrant)] : List TGrant)), Ow kTGrant 33 v4 x10.1.Waits, pt g2 26 ([(.slice none 0 0), (.slice none 0 0)])]) rfl
      exact ⟨x14.2.1, x14.2.2.1, x14.2.2.2, (x10.1.Given ++ ([(⟨x12.1, x13.1, x14.1⟩ : TGrant)] : List TGrant)), x10.1.Waits, s7, v11, v13, v4, hS, hF.cut ⟨rfl, rfl, trivial⟩, (((hg2.trans hg3).trans hg4).trans hg5), h6, HK1⟩
    · replace H := hbf hc1 H
      refine sq ?_
      refine rg ?_
      refine stp hF (p_eql rfl rfl) (by decide) (fun a hF => ?_)
      refine stp hF (p_assign rfl) (by decide) (fun a hF => ?_)
      refine nilN ?_
      refine xn ?_
      refine cnd hF rfl (fun hc2 => ?_) (fun hc2 => ?_)
      · replace H := hbt hc2 H
        replace hS : St e s4 w.drew [pt g1 74 ([v8, (.int .i64 x11.2.2.1), (.int .i64 x11.2.2.2)]), pt g3 26 ([v3, v4]), Ow kTGrant 33 v3 x10.1.Given, Ow kTGrant 33 v4 x10.1.Waits, pt g2 26 ([(.slice none 0 0), (.slice none 0 0)])] := hS.drewN 1
        refine drw [0, 1, 2, 3, 4, 5, 6, 7, 8, 9, 10, 11, 12, 13, 14] mixed (by kernel_rfl) (by decide) (hF.cut (L' := [(0, (.pointer (some ⟨g1, 0, none⟩))), (1, (.int .i64 x9)), (4, (.pointer (some ⟨g2, 0, none⟩))), (5, (.pointer (some ⟨g3, 0, none⟩))), (6, (.pointer (some ⟨g1, 0, none⟩))), (7, (.int .i64 x9)), (8, (.agg #[v3, v4])), (9, (.pointer (some ⟨g1, 0, none⟩))), (10, (.int .i64 x11.1)), (11, (.bool (decide (x11.1 = 0)))), (12, (.bool (decide (x11.1 = 0)))), (25, (.bool (decide (x11.1 = 1)))), (26, (.bool (decide (x11.1 = 1))))]) ⟨rfl, rfl, rfl, rfl, rfl, rfl, rfl, rfl, rfl, rfl, rfl, rfl, rfl, trivial⟩) ?_
        clear hF
        generalize w.drew = w at hS ⊢
        refine pk1 rfl (by decide) rfl (by kernel_rfl) rfl (p_fldb (o' := 1) rfl fi_26_1 rfl) ?_
        refine pk1 rfl (by decide) rfl (by kernel_rfl) rfl (p_ldb_one (i := 1) hS rfl rfl ia_24 rfl) ?_
        refine pk1 rfl (by decide) rfl (by kernel_rfl) rfl (p_move rfl) ?_
        refine pkPerm [4, 3, 5, 6, 7, 8, 9, 10, 11, 12, 13, 14] (by kernel_rfl) ?_
        refine pk1 rfl (by decide) rfl (by kernel_rfl) rfl (p_move rfl) ?_
        refine pkPerm [7, 3, 5, 6, 8, 9, 10, 11, 12, 13, 14] (by kernel_rfl) ?_
        refine pk1 rfl (by decide) rfl (by kernel_rfl) rfl (p_move rfl) ?_
        refine pkAlt [3, 5] (by kernel_rfl) rfl ⟨?_, ?_, trivial⟩
        · skip
          obtain ⟨x15, hx6, H⟩ := hb H
          refine altE [7, 4, 1, 0] [5, 6, 8, 9, 10, 11, 12, 13, 14] rfl rfl rfl (by decide) (by kernel_rfl) (e_call (fst := []) (vs := [(.pointer (some ⟨g1, 0, none⟩)), (.int .i64 4)]) (cap := []) rfl rfl go_60 (St.call (A := [pt g1 74 ([v8, (.int .i64 x11.2.2.1), (.int .i64 x11.2.2.2)])]) (B := [pt g3 26 ([v3, v4]), Ow kTGrant 33 v3 x10.1.Given, Ow kTGrant 33 v4 x10.1.Waits, pt g2 26 ([(.slice none 0 0), (.slice none 0 0)])]) hS (spec_l1Below.spec k _ _ x11.2.1 x11.2.2.1 x11.2.2.2 4 v8 g1 h3 _ hx6))) ?_
          intro v w hR
          obtain ⟨s8, A7, hg6, hS, hR⟩ := hR
          obtain ⟨v14, hv6, rfl, h7⟩ := hR; obtain rfl := hv6.symm
          have hS : St e s8 w [pt g1 74 ([v14, (.int .i64 x15.2.2.1), (.int .i64 x15.2.2.2)]), pt g3 26 ([v3, v4]), Ow kTGrant 33 v3 x10.1.Given, Ow kTGrant 33 v4 x10.1.Waits, pt g2 26 ([(.slice none 0 0), (.slice none 0 0)])] := hS
          refine ⟨⟨knw rfl rfl rfl (p_move rfl), ⟨knw rfl rfl rfl (p_move rfl), ⟨knw rfl rfl rfl (p_ldb_one (i := 1) hS rfl rfl ia_24 rfl), ⟨knw rfl rfl rfl (p_fldb (o' := 1) rfl fi_26_1 rfl), trivial⟩⟩⟩⟩, ?_⟩
          refine pkE [7, 4, 1, 0] rfl (by decide) (by kernel_rfl) (by kernel_rfl) (e_bslice (kd := (Kd.int .i64)) (et := 3) (ps := [(0, (.const (.int .i64 0))), (1, (.const (.int .i64 100)))]) (vs := [(0, (.int .i64 0)), (1, (.int .i64 100))]) (cs := [(.int .i64 0), (.int .i64 100)]) (xs := ([0, 100] : List Int)) hS rfl (by intro w; kernel_rfl) rfl (by decide) (Nat.le_of_ble_eq_true rfl) (by exact (rows_cons (kd := (Kd.int .i64)) (x := 0) (c := [(.int .i64 0)]) (cs := [(.int .i64 100)]) rfl (rows_cons (kd := (Kd.int .i64)) (x := 100) (c := [(.int .i64 100)]) (cs := []) rfl (Rows.nil _ _ _ _))))) ?_
          intro v15 w hR
          have hS : St e s8 w [Ow (Kd.int .i64) 3 v15 ([0, 100] : List Int), pt g1 74 ([v14, (.int .i64 x15.2.2.1), (.int .i64 x15.2.2.2)]), pt g3 26 ([v3, v4]), Ow kTGrant 33 v3 x10.1.Given, Ow kTGrant 33 v4 x10.1.Waits, pt g2 26 ([(.slice none 0 0), (.slice none 0 0)])] := hR
          refine ⟨⟨knw rfl rfl rfl (p_move rfl), ⟨knw rfl rfl rfl (p_move rfl), ⟨knw rfl rfl rfl (p_ldb_one (i := 2) hS rfl rfl ia_24 rfl), ⟨knw rfl rfl rfl (p_fldb (o' := 1) rfl fi_26_1 rfl), trivial⟩⟩⟩⟩, ?_⟩
          obtain ⟨s9, hg7, h8, hS⟩ := hS.freeze (i := 0) (kd := (Kd.int .i64)) (et := 3) (v := v15) (xs := ([0, 100] : List Int)) (B := [pt g1 74 ([v14, (.int .i64 x15.2.2.1), (.int .i64 x15.2.2.2)]), pt g3 26 ([v3, v4]), Ow kTGrant 33 v3 x10.1.Given, Ow kTGrant 33 v4 x10.1.Waits, pt g2 26 ([(.slice none 0 0), (.slice none 0 0)])]) rfl
          obtain ⟨x16, hx7, H⟩ := hb H
          refine pkE [7, 1, 0] rfl (by decide) (by kernel_rfl) (by kernel_rfl) (e_call (fst := []) (vs := [(.pointer (some ⟨g1, 0, none⟩)), v15]) (cap := []) rfl rfl go_30 (St.call (A := [pt g1 74 ([v14, (.int .i64 x15.2.2.1), (.int .i64 x15.2.2.2)])]) (B := [pt g3 26 ([v3, v4]), Ow kTGrant 33 v3 x10.1.Given, Ow kTGrant 33 v4 x10.1.Waits, pt g2 26 ([(.slice none 0 0), (.slice none 0 0)])]) hS (spec_l1Int.spec k _ _ x15.2.1 x15.2.2.1 x15.2.2.2 ([0, 100] : List Int) v14 g1 v15 (h7.mono hg7) h8 _ hx7))) ?_
          intro v w hR
          obtain ⟨s10, A8, hg8, hS, hR⟩ := hR
          obtain ⟨v16, hv7, rfl, h9⟩ := hR; obtain rfl := hv7.symm
          have hS : St e s10 w [pt g1 74 ([v16, (.int .i64 x16.2.2.1), (.int .i64 x16.2.2.2)]), pt g3 26 ([v3, v4]), Ow kTGrant 33 v3 x10.1.Given, Ow kTGrant 33 v4 x10.1.Waits, pt g2 26 ([(.slice none 0 0), (.slice none 0 0)])] := hS
          refine ⟨⟨knw rfl rfl rfl (p_move rfl), ⟨knw rfl rfl rfl (p_ldb_one (i := 1) hS rfl rfl ia_24 rfl), ⟨knw rfl rfl rfl (p_fldb (o' := 1) rfl fi_26_1 rfl), trivial⟩⟩⟩, ?_⟩
          obtain ⟨x17, hx8, H⟩ := hb H
          refine pkE [1, 0] rfl (by decide) (by kernel_rfl) (by kernel_rfl) (e_call (fst := []) (vs := [(.pointer (some ⟨g1, 0, none⟩)), (.int .i64 4)]) (cap := []) rfl rfl go_60 (St.call (A := [pt g1 74 ([v16, (.int .i64 x16.2.2.1), (.int .i64 x16.2.2.2)])]) (B := [pt g3 26 ([v3, v4]), Ow kTGrant 33 v3 x10.1.Given, Ow kTGrant 33 v4 x10.1.Waits, pt g2 26 ([(.slice none 0 0), (.slice none 0 0)])]) hS (spec_l1Below.spec k _ _ x16.2.1 x16.2.2.1 x16.2.2.2 4 v16 g1 h9 _ hx8))) ?_
          intro v w hR
          obtain ⟨s11, A9, hg9, hS, hR⟩ := hR
          obtain ⟨v17, hv8, rfl, h10⟩ := hR; obtain rfl := hv8.symm
          have hS : St e s11 w [pt g1 74 ([v17, (.int .i64 x17.2.2.1), (.int .i64 x17.2.2.2)]), pt g3 26 ([v3, v4]), Ow kTGrant 33 v3 x10.1.Given, Ow kTGrant 33 v4 x10.1.Waits, pt g2 26 ([(.slice none 0 0), (.slice none 0 0)])] := hS
          refine ⟨⟨knw rfl rfl rfl (p_ldb_one (i := 1) hS rfl rfl ia_24 rfl), ⟨knw rfl rfl rfl (p_fldb (o' := 1) rfl fi_26_1 rfl), trivial⟩⟩, ?_⟩
          refine pk1 rfl (by decide) rfl (by kernel_rfl) rfl (p_add (c := w64 (1 + x17.1)) rfl rfl rfl) ?_
          refine pk1 rfl (by decide) rfl (by kernel_rfl) rfl (p_build (ps := [(0, (.tmp 30)), (1, (.tmp 33)), (2, (.tmp 36))]) (vs := [(0, (.int .i64 x15.1)), (1, (.int .i64 x16.1)), (2, (.int .i64 (w64 (1 + x17.1))))]) (v := (.agg #[(.int .i64 x15.1), (.int .i64 x16.1), (.int .i64 (w64 (1 + x17.1)))])) rfl (by intro w; kernel_rfl)) ?_
          refine pkE [9, 1, 0] rfl (by decide) (by kernel_rfl) (by kernel_rfl) (e_bslice (kd := kTGrant) (et := 33) (ps := [(0, (.tmp 37))]) (vs := [(0, (.agg #[(.int .i64 x15.1), (.int .i64 x16.1), (.int .i64 (w64 (1 + x17.1)))]))]) (cs := [(.int .i64 x15.1), (.int .i64 x16.1), (.int .i64 (w64 (1 + x17.1)))]) (xs := ([(⟨x15.1, x16.1, w64 (1 + x17.1)⟩ : TGrant)] : List TGrant)) hS rfl (by intro w; kernel_rfl) rfl (by decide) (Nat.le_of_ble_eq_true rfl) (by exact (rows_cons (kd := kTGrant) (x := (⟨x15.1, x16.1, w64 (1 + x17.1)⟩ : TGrant)) (c := [(.int .i64 x15.1), (.int .i64 x16.1), (.int .i64 (w64 (1 + x17.1)))]) (cs := []) (kTGrant_mk (x := (⟨x15.1, x16.1, w64 (1 + x17.1)⟩ : TGrant)) ) (Rows.nil _ _ _ _)))) ?_
          intro v18 w hR
          have hS : St e s11 w [Ow kTGrant 33 v18 ([(⟨x15.1, x16.1, w64 (1 + x17.1)⟩ : TGrant)] : List TGrant), pt g1 74 ([v17, (.int .i64 x17.2.2.1), (.int .i64 x17.2.2.2)]), pt g3 26 ([v3, v4]), Ow kTGrant 33 v3 x10.1.Given, Ow kTGrant 33 v4 x10.1.Waits, pt g2 26 ([(.slice none 0 0), (.slice none 0 0)])] := hR
          refine ⟨⟨knw rfl rfl rfl (p_add (c := w64 (1 + x17.1)) rfl rfl rfl), ⟨knw rfl rfl rfl (p_ldb_one (i := 2) hS rfl rfl ia_24 rfl), ⟨knw rfl rfl rfl (p_fldb (o' := 1) rfl fi_26_1 rfl), trivial⟩⟩⟩, ?_⟩
          obtain ⟨hq2, H⟩ := hck H
          refine pkE [9, 0] rfl (by decide) (by kernel_rfl) (by kernel_rfl) (e_append (n := 4) hS rfl rfl rfl (hS.src (n := 0) rfl) un_24 ti_33 rfl (by decide) (by decide) (Nat.le_trans (Nat.mul_le_mul_right 24 hq2) (by decide))) ?_
          intro v19 w hR
          have hS : St e s11 w [Ow kTGrant 33 v19 (x10.1.Waits ++ ([(⟨x15.1, x16.1, w64 (1 + x17.1)⟩ : TGrant)] : List TGrant)), Ow kTGrant 33 v18 ([(⟨x15.1, x16.1, w64 (1 + x17.1)⟩ : TGrant)] : List TGrant), pt g1 74 ([v17, (.int .i64 x17.2.2.1), (.int .i64 x17.2.2.2)]), pt g3 26 ([v3, v4]), Ow kTGrant 33 v3 x10.1.Given, pt g2 26 ([(.slice none 0 0), (.slice none 0 0)])] := hR
          replace hS := hS.sel (is := [0, 1, 1, 1, 1]) (A' := [Ow kTGrant 33 v19 (x10.1.Waits ++ ([(⟨x15.1, x16.1, w64 (1 + x17.1)⟩ : TGrant)] : List TGrant)), pt g1 74 ([v17, (.int .i64 x17.2.2.1), (.int .i64 x17.2.2.2)]), pt g3 26 ([v3, v4]), Ow kTGrant 33 v3 x10.1.Given, pt g2 26 ([(.slice none 0 0), (.slice none 0 0)])]) rfl
          refine ⟨⟨knw rfl rfl rfl (p_add (c := w64 (1 + x17.1)) rfl rfl rfl), ⟨knw rfl rfl rfl (p_fldb (o' := 1) rfl fi_26_1 rfl), trivial⟩⟩, ?_⟩
          refine pk1 rfl (by decide) rfl (by kernel_rfl) rfl (p_fldb (o' := 1) rfl fi_26_1 rfl) ?_
          refine pkE0 [] rfl (by kernel_rfl) (by kernel_rfl) (e_stb (i := 2) (l := [v3]) (m := [v4]) (r := []) (m' := [v19]) (cs' := [v3, v19]) hS rfl rfl rfl ti_24 rfl rfl rfl (cells_one (hS.one_ow (i := 0) rfl)) rfl (one_cons (hS.one_ow (i := 0) rfl) one_nil) rfl) ?_
          intro v w hR
          have hS : St e s11 w [pt g3 26 ([v3, v19]), Ow kTGrant 33 v19 (x10.1.Waits ++ ([(⟨x15.1, x16.1, w64 (1 + x17.1)⟩ : TGrant)] : List TGrant)), pt g1 74 ([v17, (.int .i64 x17.2.2.1), (.int .i64 x17.2.2.2)]), Ow kTGrant 33 v3 x10.1.Given, pt g2 26 ([(.slice none 0 0), (.slice none 0 0)])] := hR
          refine ⟨trivial, ?_⟩
          refine pkF (fun a hF => ?_)
          refine bn (xn ?_)
          obtain rfl := hsm H
          replace hS := hS.sel (is := [0, 1, 1, 0, 0]) (A' := [pt g3 26 ([v3, v19]), pt g1 74 ([v17, (.int .i64 x17.2.2.1), (.int .i64 x17.2.2.2)]), Ow kTGrant 33 v3 x10.1.Given, Ow kTGrant 33 v19 (x10.1.Waits ++ ([(⟨x15.1, x16.1, w64 (1 + x17.1)⟩ : TGrant)] : List TGrant)), pt g2 26 ([(.slice none 0 0), (.slice none 0 0)])]) rfl
          exact ⟨x17.2.1, x17.2.2.1, x17.2.2.2, x10.1.Given, (x10.1.Waits ++ ([(⟨x15.1, x16.1, w64 (1 + x17.1)⟩ : TGrant)] : List TGrant)), s11, v17, v3, v19, hS, hF.cut ⟨rfl, rfl, trivial⟩, ((((hg2.trans hg6).trans hg7).trans hg8).trans hg9), h10, HK1⟩
        · skip
          refine altE [7, 4, 2, 1, 0] [3, 6, 8, 9, 10, 11, 12, 13, 14] rfl rfl rfl (by decide) (by kernel_rfl) (e_bslice (kd := (Kd.int .i64)) (et := 3) (ps := [(0, (.const (.int .i64 0))), (1, (.const (.int .i64 100)))]) (vs := [(0, (.int .i64 0)), (1, (.int .i64 100))]) (cs := [(.int .i64 0), (.int .i64 100)]) (xs := ([0, 100] : List Int)) hS rfl (by intro w; kernel_rfl) rfl (by decide) (Nat.le_of_ble_eq_true rfl) (by exact (rows_cons (kd := (Kd.int .i64)) (x := 0) (c := [(.int .i64 0)]) (cs := [(.int .i64 100)]) rfl (rows_cons (kd := (Kd.int .i64)) (x := 100) (c := [(.int .i64 100)]) (cs := []) rfl (Rows.nil _ _ _ _))))) ?_
          intro v20 w hR
          have hS : St e s4 w [Ow (Kd.int .i64) 3 v20 ([0, 100] : List Int), pt g1 74 ([v8, (.int .i64 x11.2.2.1), (.int .i64 x11.2.2.2)]), pt g3 26 ([v3, v4]), Ow kTGrant 33 v3 x10.1.Given, Ow kTGrant 33 v4 x10.1.Waits, pt g2 26 ([(.slice none 0 0), (.slice none 0 0)])] := hR
          refine ⟨⟨knw rfl rfl rfl (p_move rfl), ⟨knw rfl rfl rfl (p_move rfl), ⟨knw rfl rfl rfl (p_move rfl), ⟨knw rfl rfl rfl (p_ldb_one (i := 2) hS rfl rfl ia_24 rfl), ⟨knw rfl rfl rfl (p_fldb (o' := 1) rfl fi_26_1 rfl), trivial⟩⟩⟩⟩⟩, ?_⟩
          replace hS := hS.sel (is := [1, 0, 0, 0, 0, 0]) (A' := [pt g1 74 ([v8, (.int .i64 x11.2.2.1), (.int .i64 x11.2.2.2)]), Ow (Kd.int .i64) 3 v20 ([0, 100] : List Int), pt g3 26 ([v3, v4]), Ow kTGrant 33 v3 x10.1.Given, Ow kTGrant 33 v4 x10.1.Waits, pt g2 26 ([(.slice none 0 0), (.slice none 0 0)])]) rfl
          obtain ⟨x19, hx9, H⟩ := hb H
          refine pkE [7, 4, 1, 0] rfl (by decide) (by kernel_rfl) (by kernel_rfl) (e_call (fst := []) (vs := [(.pointer (some ⟨g1, 0, none⟩)), (.int .i64 4)]) (cap := []) rfl rfl go_60 (St.call (A := [pt g1 74 ([v8, (.int .i64 x11.2.2.1), (.int .i64 x11.2.2.2)])]) (B := [Ow (Kd.int .i64) 3 v20 ([0, 100] : List Int), pt g3 26 ([v3, v4]), Ow kTGrant 33 v3 x10.1.Given, Ow kTGrant 33 v4 x10.1.Waits, pt g2 26 ([(.slice none 0 0), (.slice none 0 0)])]) hS (spec_l1Below.spec k _ _ x11.2.1 x11.2.2.1 x11.2.2.2 4 v8 g1 h3 _ hx9))) ?_
          intro v w hR
          obtain ⟨s12, A10, hg10, hS, hR⟩ := hR
          obtain ⟨v21, hv9, rfl, h11⟩ := hR; obtain rfl := hv9.symm
          have hS : St e s12 w [pt g1 74 ([v21, (.int .i64 x19.2.2.1), (.int .i64 x19.2.2.2)]), Ow (Kd.int .i64) 3 v20 ([0, 100] : List Int), pt g3 26 ([v3, v4]), Ow kTGrant 33 v3 x10.1.Given, Ow kTGrant 33 v4 x10.1.Waits, pt g2 26 ([(.slice none 0 0), (.slice none 0 0)])] := hS
          refine ⟨⟨knw rfl rfl rfl (p_move rfl), ⟨knw rfl rfl rfl (p_move rfl), ⟨knw rfl rfl rfl (p_ldb_one (i := 2) hS rfl rfl ia_24 rfl), ⟨knw rfl rfl rfl (p_fldb (o' := 1) rfl fi_26_1 rfl), trivial⟩⟩⟩⟩, ?_⟩
          obtain ⟨s13, hg11, h12, hS⟩ := hS.freeze (i := 1) (kd := (Kd.int .i64)) (et := 3) (v := v20) (xs := ([0, 100] : List Int)) (B := [pt g1 74 ([v21, (.int .i64 x19.2.2.1), (.int .i64 x19.2.2.2)]), pt g3 26 ([v3, v4]), Ow kTGrant 33 v3 x10.1.Given, Ow kTGrant 33 v4 x10.1.Waits, pt g2 26 ([(.slice none 0 0), (.slice none 0 0)])]) rfl
          obtain ⟨x20, hx10, H⟩ := hb H
          refine pkE [7, 1, 0] rfl (by decide) (by kernel_rfl) (by kernel_rfl) (e_call (fst := []) (vs := [(.pointer (some ⟨g1, 0, none⟩)), v20]) (cap := []) rfl rfl go_30 (St.call (A := [pt g1 74 ([v21, (.int .i64 x19.2.2.1), (.int .i64 x19.2.2.2)])]) (B := [pt g3 26 ([v3, v4]), Ow kTGrant 33 v3 x10.1.Given, Ow kTGrant 33 v4 x10.1.Waits, pt g2 26 ([(.slice none 0 0), (.slice none 0 0)])]) hS (spec_l1Int.spec k _ _ x19.2.1 x19.2.2.1 x19.2.2.2 ([0, 100] : List Int) v21 g1 v20 (h11.mono hg11) h12 _ hx10))) ?_
          intro v w hR
          obtain ⟨s14, A11, hg12, hS, hR⟩ := hR
          obtain ⟨v22, hv10, rfl, h13⟩ := hR; obtain rfl := hv10.symm
          have hS : St e s14 w [pt g1 74 ([v22, (.int .i64 x20.2.2.1), (.int .i64 x20.2.2.2)]), pt g3 26 ([v3, v4]), Ow kTGrant 33 v3 x10.1.Given, Ow kTGrant 33 v4 x10.1.Waits, pt g2 26 ([(.slice none 0 0), (.slice none 0 0)])] := hS
          refine ⟨⟨knw rfl rfl rfl (p_move rfl), ⟨knw rfl rfl rfl (p_ldb_one (i := 1) hS rfl rfl ia_24 rfl), ⟨knw rfl rfl rfl (p_fldb (o' := 1) rfl fi_26_1 rfl), trivial⟩⟩⟩, ?_⟩
          obtain ⟨x21, hx11, H⟩ := hb H
          refine pkE [1, 0] rfl (by decide) (by kernel_rfl) (by kernel_rfl) (e_call (fst := []) (vs := [(.pointer (some ⟨g1, 0, none⟩)), (.int .i64 4)]) (cap := []) rfl rfl go_60 (St.call (A := [pt g1 74 ([v22, (.int .i64 x20.2.2.1), (.int .i64 x20.2.2.2)])]) (B := [pt g3 26 ([v3, v4]), Ow kTGrant 33 v3 x10.1.Given, Ow kTGrant 33 v4 x10.1.Waits, pt g2 26 ([(.slice none 0 0), (.slice none 0 0)])]) hS (spec_l1Below.spec k _ _ x20.2.1 x20.2.2.1 x20.2.2.2 4 v22 g1 h13 _ hx11))) ?_
          intro v w hR
          obtain ⟨s15, A12, hg13, hS, hR⟩ := hR
          obtain ⟨v23, hv11, rfl, h14⟩ := hR; obtain rfl := hv11.symm
          have hS : St e s15 w [pt g1 74 ([v23, (.int .i64 x21.2.2.1), (.int .i64 x21.2.2.2)]), pt g3 26 ([v3, v4]), Ow kTGrant 33 v3 x10.1.Given, Ow kTGrant 33 v4 x10.1.Waits, pt g2 26 ([(.slice none 0 0), (.slice none 0 0)])] := hS
          refine ⟨⟨knw rfl rfl rfl (p_ldb_one (i := 1) hS rfl rfl ia_24 rfl), ⟨knw rfl rfl rfl (p_fldb (o' := 1) rfl fi_26_1 rfl), trivial⟩⟩, ?_⟩
          refine pk1 rfl (by decide) rfl (by kernel_rfl) rfl (p_add (c := w64 (1 + x21.1)) rfl rfl rfl) ?_
          refine pk1 rfl (by decide) rfl (by kernel_rfl) rfl (p_build (ps := [(0, (.tmp 30)), (1, (.tmp 33)), (2, (.tmp 36))]) (vs := [(0, (.int .i64 x19.1)), (1, (.int .i64 x20.1)), (2, (.int .i64 (w64 (1 + x21.1))))]) (v := (.agg #[(.int .i64 x19.1), (.int .i64 x20.1), (.int .i64 (w64 (1 + x21.1)))])) rfl (by intro w; kernel_rfl)) ?_
          refine pkE [9, 1, 0] rfl (by decide) (by kernel_rfl) (by kernel_rfl) (e_bslice (kd := kTGrant) (et := 33) (ps := [(0, (.tmp 37))]) (vs := [(0, (.agg #[(.int .i64 x19.1), (.int .i64 x20.1), (.int .i64 (w64 (1 + x21.1)))]))]) (cs := [(.int .i64 x19.1), (.int .i64 x20.1), (.int .i64 (w64 (1 + x21.1)))]) (xs := ([(⟨x19.1, x20.1, w64 (1 + x21.1)⟩ : TGrant)] : List TGrant)) hS rfl (by intro w; kernel_rfl) rfl (by decide) (Nat.le_of_ble_eq_true rfl) (by exact (rows_cons (kd := kTGrant) (x := (⟨x19.1, x20.1, w64 (1 + x21.1)⟩ : TGrant)) (c := [(.int .i64 x19.1), (.int .i64 x20.1), (.int .i64 (w64 (1 + x21.1)))]) (cs := []) (kTGrant_mk (x := (⟨x19.1, x20.1, w64 (1 + x21.1)⟩ : TGrant)) ) (Rows.nil _ _ _ _)))) ?_
          intro v24 w hR
          have hS : St e s15 w [Ow kTGrant 33 v24 ([(⟨x19.1, x20.1, w64 (1 + x21.1)⟩ : TGrant)] : List TGrant), pt g1 74 ([v23, (.int .i64 x21.2.2.1), (.int .i64 x21.2.2.2)]), pt g3 26 ([v3, v4]), Ow kTGrant 33 v3 x10.1.Given, Ow kTGrant 33 v4 x10.1.Waits, pt g2 26 ([(.slice none 0 0), (.slice none 0 0)])] := hR
          refine ⟨⟨knw rfl rfl rfl (p_add (c := w64 (1 + x21.1)) rfl rfl rfl), ⟨knw rfl rfl rfl (p_ldb_one (i := 2) hS rfl rfl ia_24 rfl), ⟨knw rfl rfl rfl (p_fldb (o' := 1) rfl fi_26_1 rfl), trivial⟩⟩⟩, ?_⟩
          obtain ⟨hq3, H⟩ := hck H
          refine pkE [9, 0] rfl (by decide) (by kernel_rfl) (by kernel_rfl) (e_append (n := 4) hS rfl rfl rfl (hS.src (n := 0) rfl) un_24 ti_33 rfl (by decide) (by decide) (Nat.le_trans (Nat.mul_le_mul_right 24 hq3) (by decide))) ?_
          intro v25 w hR
          have hS : St e s15 w [Ow kTGrant 33 v25 (x10.1.Waits ++ ([(⟨x19.1, x20.1, w64 (1 + x21.1)⟩ : TGrant)] : List TGrant)), Ow kTGrant 33 v24 ([(⟨x19.1, x20.1, w64 (1 + x21.1)⟩ : TGrant)] : List TGrant), pt g1 74 ([v23, (.int .i64 x21.2.2.1), (.int .i64 x21.2.2.2)]), pt g3 26 ([v3, v4]), Ow kTGrant 33 v3 x10.1.Given, pt g2 26 ([(.slice none 0 0), (.slice none 0 0)])] := hR
          replace hS := hS.sel (is := [0, 1, 1, 1, 1]) (A' := [Ow kTGrant 33 v25 (x10.1.Waits ++ ([(⟨x19.1, x20.1, w64 (1 + x21.1)⟩ : TGrant)] : List TGrant)), pt g1 74 ([v23, (.int .i64 x21.2.2.1), (.int .i64 x21.2.2.2)]), pt g3 26 ([v3, v4]), Ow kTGrant 33 v3 x10.1.Given, pt g2 26 ([(.slice none 0 0), (.slice none 0 0)])]) rfl
          refine ⟨⟨knw rfl rfl rfl (p_add (c := w64 (1 + x21.1)) rfl rfl rfl), ⟨knw rfl rfl rfl (p_fldb (o' := 1) rfl fi_26_1 rfl), trivial⟩⟩, ?_⟩
          refine pk1 rfl (by decide) rfl (by kernel_rfl) rfl (p_fldb (o' := 1) rfl fi_26_1 rfl) ?_
          refine pkE0 [] rfl (by kernel_rfl) (by kernel_rfl) (e_stb (i := 2) (l := [v3]) (m := [v4]) (r := []) (m' := [v25]) (cs' := [v3, v25]) hS rfl rfl rfl ti_24 rfl rfl rfl (cells_one (hS.one_ow (i := 0) rfl)) rfl (one_cons (hS.one_ow (i := 0) rfl) one_nil) rfl) ?_
          intro v w hR
          have hS : St e s15 w [pt g3 26 ([v3, v25]), Ow kTGrant 33 v25 (x10.1.Waits ++ ([(⟨x19.1, x20.1, w64 (1 + x21.1)⟩ : TGrant)] : List TGrant)), pt g1 74 ([v23, (.int .i64 x21.2.2.1), (.int .i64 x21.2.2.2)]), Ow kTGrant 33 v3 x10.1.Given, pt g2 26 ([(.slice none 0 0), (.slice none 0 0)])] := hR
          refine ⟨trivial, ?_⟩
          refine pkF (fun a hF => ?_)
          refine bn (xn ?_)
          obtain rfl := hsm H
          replace hS := hS.sel (is := [0, 1, 1, 0, 0]) (A' := [pt g3 26 ([v3, v25]), pt g1 74 ([v23, (.int .i64 x21.2.2.1), (.int .i64 x21.2.2.2)]), Ow kTGrant 33 v3 x10.1.Given, Ow kTGrant 33 v25 (x10.1.Waits ++ ([(⟨x19.1, x20.1, w64 (1 + x21.1)⟩ : TGrant)] : List TGrant)), pt g2 26 ([(.slice none 0 0), (.slice none 0 0)])]) rfl
          exact ⟨x21.2.1, x21.2.2.1, x21.2.2.2, x10.1.Given, (x10.1.Waits ++ ([(⟨x19.1, x20.1, w64 (1 + x21.1)⟩ : TGrant)] : List TGrant)), s15, v23, v3, v25, hS, hF.cut ⟨rfl, rfl, trivial⟩, ((((hg2.trans hg10).trans hg11).trans hg12).trans hg13), h14, HK1⟩
      · replace H := hbf hc2 H
        refine skN ?_
        refine bn (xn ?_)
        obtain rfl := hsm H
        replace hS := hS.sel (is := [1, 0, 0, 0, 0]) (A' := [pt g3 26 ([v3, v4]), pt g1 74 ([v8, (.int .i64 x11.2.2.1), (.int .i64 x11.2.2.2)]), Ow kTGrant 33 v3 x10.1.Given, Ow kTGrant 33 v4 x10.1.Waits, pt g2 26 ([(.slice none 0 0), (.slice none 0 0)])]) rfl
        exact ⟨x11.2.1, x11.2.2.1, x11.2.2.2, x10.1.Given, x10.1.Waits, s4, v8, v3, v4, hS, hF.cut ⟨rfl, rfl, trivial⟩, hg2, h3, HK1⟩
  · clear H HK1 hS hF
    rintro a w ⟨x1, x2, x3, x4, x5, s3, v5, v6, v7, hS, hF, hg14, h15, H⟩
    unfold spec_l9DrawAny.c1 at H
    refine sq ?_
    refine rg ?_
    refine stp hF (p_ldb_agg (i := 0) (l := []) (m := [v6, v7]) (r := []) hS rfl rfl ia_26 ti_26 rfl rfl rfl) (by decide) (fun a hF => ?_)
    refine ste0 hF (e_stb (i := 4) (l := []) (m := [(.slice none 0 0), (.slice none 0 0)]) (r := []) (m' := [v6, v7]) (cs' := [v6, v7]) hS rfl rfl rfl ti_26 rfl rfl rfl rfl rfl (one_cons (hS.one_ow (i := 2) rfl) (one_cons (hS.one_ow (i := 3) rfl) one_nil)) rfl) (fun v w a hR hF => ?_)
    have hS : St e s3 w [pt g2 26 ([v6, v7]), pt g3 26 ([v6, v7]), pt g1 74 ([v5, (.int .i64 x2), (.int .i64 x3)]), Ow kTGrant 33 v6 x4, Ow kTGrant 33 v7 x5] := hR
    refine nilN ?_
    refine xn ?_
    refine rt ?_
    obtain rfl := hsm H
    have h16 : RvOk Try.prog _ w (.cell 4 26) _ := rvC (i := 0) hS rfl (show lk [(4, (.pointer (some ⟨g2, 0, none⟩)))] 4 = _ from rfl) ia_26 ti_26 rfl
    replace hS := hS.sel (is := [2, 2, 2]) (A' := [pt g1 74 ([v5, (.int .i64 x2), (.int .i64 x3)]), Ow kTGrant 33 v6 x4, Ow kTGrant 33 v7 x5]) rfl
    exact retc1 hF rfl h16 hS ⟨v5, v6, v7, rfl, rfl, h15⟩

def spec_DrawAsk.c1 (k : Nat) (x1 : (List Int)) (x2 : Int) (x3 : Int) (x4 : (List TGrant)) (x5 : (List TGrant)) (x6 : Int) (x7 : Int) (x8 : Int) : Option (TLocks × Int × Int × Int) :=
  (some ((⟨x4, x5⟩ : TLocks), x6, x7, x8))
def spec_DrawAsk.f (k : Nat) (x9 : (List Int)) : Option (TLocks × Int × Int × Int) :=
  ((spec_l1New.f k x9).bind fun x10 => ((spec_l1Size.f k x9 16).bind fun x11 => ((spec_l9DrawAny.f k x10.b x10.i x10.h_ x11).bind fun x12 => ((((spec_l1Int.f k x12.2.1 x12.2.2.1 x12.2.2.2 ([1, 2, 3, 4, 5, 6, 0, 100] : List Int)).bind fun x13 => ((spec_l1Int.f k x13.2.1 x13.2.2.1 x13.2.2.2 ([0, 1, 2, 2, (-1), 100] : List Int)).bind fun x14 => ((spec_l1Int.f k x14.2.1 x14.2.2.1 x14.2.2.2 ([1, 2, 3, 4, 4, 0, 5] : List Int)).bind fun x15 => (some (x15.2.1, x15.2.2.1, x15.2.2.2, x12.1.Given, x12.1.Waits, x13.1, x14.1, x15.1))))) : Option ((List Int) × Int × Int × (List TGrant) × (List TGrant) × Int × Int × Int)).bind fun x16 => spec_DrawAsk.c1 k x16.1 x16.2.1 x16.2.2.1 x16.2.2.2.1 x16.2.2.2.2.1 x16.2.2.2.2.2.1 x16.2.2.2.2.2.2.1 x16.2.2.2.2.2.2.2))))
set_option maxRecDepth 100000 in
set_option maxHeartbeats 4000000 in
theorem spec_DrawAsk.spec (k : Nat) (s0 : HF) (w : World) (x9 : (List Int)) (v1 : Value) (h1 : Sl (Kd.int .u8) s0 v1 x9) (r : TLocks × Int × Int × Int) (H : spec_DrawAsk.f k x9 = some r) :
    Law Try.prog 7 #[v1] s0 w [] (fun v s1 A1 => ∃ (u0 : Value) (u1 : Value), v = (.tuple #[(.agg #[u0, u1]), (.int .i64 r.2.1), (.int .i64 r.2.2.1), (.int .i64 r.2.2.2)]) ∧ A1 = [Ow kTGrant 33 u0 r.1.Given, Ow kTGrant 33 u1 r.1.Waits]) := by
  unfold spec_DrawAsk.f at H
  refine Law.intro Try.func7 rfl [(0, v1)] (Nat.le_of_ble_eq_true rfl) (enter_lk ⟨rfl, trivial⟩) (fun e a hS hF => ?_)
  have hF : Fr 24 a [(0, v1)] := hF
  refine sq ?_
  refine rg ?_
  refine ste hF (e_alloc (cs := [(.slice none 0 0), (.slice none 0 0)]) hS ti_26 rfl) (by decide) (fun v w a hR hF => ?_)
  obtain ⟨g1, rfl, hS⟩ := hR
  refine stp hF (p_assign rfl) (by decide) (fun a hF => ?_)
  refine stp hF (p_assign rfl) (by decide) (fun a hF => ?_)
  refine stp hF (p_assign rfl) (by decide) (fun a hF => ?_)
  refine nilN ?_
  refine xn ?_
  refine sq ?_
  refine rg ?_
  refine stp hF (p_move rfl) (by decide) (fun a hF => ?_)
  obtain ⟨x10, hx1, H⟩ := hb H
  refine ste hF (e_call (fst := []) (vs := [v1]) (cap := []) rfl rfl go_27 (St.call (A := []) (B := [pt g1 26 ([(.slice none 0 0), (.slice none 0 0)])]) hS (spec_l1New.spec k _ _ x9 v1 h1 _ hx1))) (by decide) (fun v w a hR hF => ?_)
  obtain ⟨s2, A2, hg1, hS, hR⟩ := hR
  obtain ⟨g2, v2, hv1, rfl, h2⟩ := hR; obtain rfl := hv1.symm
  have hS : St e s2 w [pt g2 74 ([v2, (.int .i64 x10.i), (.int .i64 x10.h_)]), pt g1 26 ([(.slice none 0 0), (.slice none 0 0)])] := hS
  refine stp hF (p_assign rfl) (by decide) (fun a hF => ?_)
  refine nilN ?_
  refine xn ?_
  refine sq ?_
  refine rg ?_
  refine stp hF (p_move rfl) (by decide) (fun a hF => ?_)
  refine stp hF (p_move rfl) (by decide) (fun a hF => ?_)
  obtain ⟨x11, hx2, H⟩ := hb H
  refine ste hF (e_call (fst := []) (vs := [v1, (.int .i64 16)]) (cap := []) rfl rfl go_29 (St.call (A := []) (B := [pt g2 74 ([v2, (.int .i64 x10.i), (.int .i64 x10.h_)]), pt g1 26 ([(.slice none 0 0), (.slice none 0 0)])]) hS (spec_l1Size.spec k _ _ x9 16 v1 (h1.mono hg1) _ hx2))) (by decide) (fun v w a hR hF => ?_)
  obtain ⟨s3, A3, hg2, hS, hR⟩ := hR
  obtain ⟨hv2, rfl⟩ := hR; obtain rfl := hv2.symm
  have hS : St e s3 w [pt g2 74 ([v2, (.int .i64 x10.i), (.int .i64 x10.h_)]), pt g1 26 ([(.slice none 0 0), (.slice none 0 0)])] := hS
  obtain ⟨x12, hx3, H⟩ := hb H
  refine ste hF (e_call (fst := []) (vs := [(.pointer (some ⟨g2, 0, none⟩)), (.int .i64 x11)]) (cap := []) rfl rfl go_28 (St.call (A := [pt g2 74 ([v2, (.int .i64 x10.i), (.int .i64 x10.h_)])]) (B := [pt g1 26 ([(.slice none 0 0), (.slice none 0 0)])]) hS (spec_l9DrawAny.spec k _ _ x10.b x10.i x10.h_ x11 v2 g2 (h2.mono hg2) _ hx3))) (by decide) (fun v w a hR hF => ?_)
  obtain ⟨s4, A4, hg3, hS, hR⟩ := hR
  obtain ⟨v3, v4, v5, hv3, rfl, h3⟩ := hR; obtain rfl := hv3.symm
  have hS : St e s4 w [pt g2 74 ([v3, (.int .i64 x12.2.2.1), (.int .i64 x12.2.2.2)]), Ow kTGrant 33 v4 x12.1.Given, Ow kTGrant 33 v5 x12.1.Waits, pt g1 26 ([(.slice none 0 0), (.slice none 0 0)])] := hS
  refine ste hF (e_alloc (cs := [(.slice none 0 0), (.slice none 0 0)]) hS ti_26 rfl) (by decide) (fun v w a hR hF => ?_)
  obtain ⟨g3, rfl, hS⟩ := hR
  refine ste0 hF (e_stb (i := 0) (l := []) (m := [(.slice none 0 0), (.slice none 0 0)]) (r := []) (m' := [v4, v5]) (cs' := [v4, v5]) hS rfl rfl rfl ti_26 rfl rfl rfl rfl rfl (one_cons (hS.one_ow (i := 2) rfl) (one_cons (hS.one_ow (i := 3) rfl) one_nil)) rfl) (fun v w a hR hF => ?_)
  have hS : St e s4 w [pt g3 26 ([v4, v5]), pt g2 74 ([v3, (.int .i64 x12.2.2.1), (.int .i64 x12.2.2.2)]), Ow kTGrant 33 v4 x12.1.Given, Ow kTGrant 33 v5 x12.1.Waits, pt g1 26 ([(.slice none 0 0), (.slice none 0 0)])] := hR
  refine nilN ?_
  refine xn ?_
  obtain ⟨x16, H, HK1⟩ := hb H
  refine sqj (fun a w => ∃ (x1 : (List Int)) (x2 : Int) (x3 : Int) (x4 : (List TGrant)) (x5 : (List TGrant)) (x6 : Int) (x7 : Int) (x8 : Int) (s5 : HF) (v6 : Value) (v7 : Value) (v8 : Value) , St e s5 w [pt g3 26 ([v4, v5]), pt g2 74 ([v6, (.int .i64 x2), (.int .i64 x3)]), pt g1 26 ([v7, v8]), Ow kTGrant 33 v7 x4, Ow kTGrant 33 v8 x5] ∧ Fr 24 a [(2, (.pointer (some ⟨g1, 0, none⟩))), (3, (.int .i64 x6)), (4, (.int .i64 x7)), (5, (.int .i64 x8))] ∧ Sub s4 s5 ∧ Sl (Kd.int .u8) s5 v6 x1 ∧ spec_DrawAsk.c1 k x1 x2 x3 x4 x5 x6 x7 x8 = some r) ?_ ?_
  · skip
    replace hS : St e s4 w.drew [pt g3 26 ([v4, v5]), pt g2 74 ([v3, (.int .i64 x12.2.2.1), (.int .i64 x12.2.2.2)]), Ow kTGrant 33 v4 x12.1.Given, Ow kTGrant 33 v5 x12.1.Waits, pt g1 26 ([(.slice none 0 0), (.slice none 0 0)])] := hS.drewN 1
    refine drw [0, 1, 2, 3, 4, 5, 6, 7, 8, 9, 10, 11, 12, 13] mixed (by kernel_rfl) (by decide) (hF.cut (L' := [(0, v1), (2, (.pointer (some ⟨g1, 0, none⟩))), (3, (.int .i64 0)), (4, (.int .i64 0)), (5, (.int .i64 0)), (6, (.pointer (some ⟨g2, 0, none⟩))), (7, (.pointer (some ⟨g3, 0, none⟩))), (8, v1), (9, (.pointer (some ⟨g2, 0, none⟩))), (10, (.pointer (some ⟨g2, 0, none⟩))), (11, v1), (12, (.int .i64 x11)), (13, (.agg #[v4, v5]))]) ⟨rfl, rfl, rfl, rfl, rfl, rfl, rfl, rfl, rfl, rfl, rfl, rfl, rfl, trivial⟩) ?_
    clear hF
    generalize w.drew = w at hS ⊢
    refine pk1 rfl (by decide) rfl (by kernel_rfl) rfl (p_ldb_agg (i := 0) (l := []) (m := [v4, v5]) (r := []) hS rfl rfl ia_26 ti_26 rfl rfl rfl) ?_
    refine pk1 rfl (by decide) rfl (by kernel_rfl) rfl (p_move rfl) ?_
    refine pkPerm [4, 2, 3, 5, 6, 7, 8, 9, 10, 11, 12, 13] (by kernel_rfl) ?_
    refine pk1 rfl (by decide) rfl (by kernel_rfl) rfl (p_move rfl) ?_
    refine pkPerm [7, 2, 3, 5, 6, 8, 9, 10, 11, 12, 13] (by kernel_rfl) ?_
    refine pk1 rfl (by decide) rfl (by kernel_rfl) rfl (p_move rfl) ?_
    refine pkAlt [2, 5, 8] (by kernel_rfl) rfl ⟨?_, ?_, ?_, trivial⟩
    · skip
      refine altE [7, 4, 1, 0] [3, 5, 6, 8, 9, 10, 11, 12, 13] rfl rfl rfl (by decide) (by kernel_rfl) (e_bslice (kd := (Kd.int .i64)) (et := 3) (ps := [(0, (.const (.int .i64 1))), (1, (.const (.int .i64 2))), (2, (.const (.int .i64 3))), (3, (.const (.int .i64 4))), (4, (.const (.int .i64 5))), (5, (.const (.int .i64 6))), (6, (.const (.int .i64 0))), (7, (.const (.int .i64 100)))]) (vs := [(0, (.int .i64 1)), (1, (.int .i64 2)), (2, (.int .i64 3)), (3, (.int .i64 4)), (4, (.int .i64 5)), (5, (.int .i64 6)), (6, (.int .i64 0)), (7, (.int .i64 100))]) (cs := [(.int .i64 1), (.int .i64 2), (.int .i64 3), (.int .i64 4), (.int .i64 5), (.int .i64 6), (.int .i64 0), (.int .i64 100)]) (xs := ([1, 2, 3, 4, 5, 6, 0, 100] : List Int)) hS rfl (by intro w; kernel_rfl) rfl (by decide) (Nat.le_of_ble_eq_true rfl) (by exact (rows_cons (kd := (Kd.int .i64)) (x := 1) (c := [(.int .i64 1)]) (cs := [(.int .i64 2), (.int .i64 3), (.int .i64 4), (.int .i64 5), (.int .i64 6), (.int .i64 0), (.int .i64 100)]) rfl (rows_cons (kd := (Kd.int .i64)) (x := 2) (c := [(.int .i64 2)]) (cs := [(.int .i64 3), (.int .i64 4), (.int .i64 5), (.int .i64 6), (.int .i64 0), (.int .i64 100)]) rfl (rows_cons (kd := (Kd.int .i64)) (x := 3) (c := [(.int .i64 3)]) (cs := [(.int .i64 4), (.int .i64 5), (.int .i64 6), (.int .i64 0), (.int .i64 100)]) rfl (rows_cons (kd := (Kd.int .i64)) (x := 4) (c := [(.int .i64 4)]) (cs := [(.int .i64 5), (.int .i64 6), (.int .i64 0), (.int .i64 100)]) rfl (rows_cons (kd := (Kd.int .i64)) (x := 5) (c := [(.int .i64 5)]) (cs := [(.int .i64 6), (.int .i64 0), (.int .i64 100)]) rfl (rows_cons (kd := (Kd.int .i64)) (x := 6) (c := [(.int .i64 6)]) (cs := [(.int .i64 0), (.int .i64 100)]) rfl (rows_cons (kd := (Kd.int .i64)) (x := 0) (c := [(.int .i64 0)]) (cs := [(.int .i64 100)]) rfl (rows_cons (kd := (Kd.int .i64)) (x := 100) (c := [(.int .i64 100)]) (cs := []) rfl (Rows.nil _ _ _ _))))))))))) ?_
      intro v9 w hR
      have hS : St e s4 w [Ow (Kd.int .i64) 3 v9 ([1, 2, 3, 4, 5, 6, 0, 100] : List Int), pt g3 26 ([v4, v5]), pt g2 74 ([v3, (.int .i64 x12.2.2.1), (.int .i64 x12.2.2.2)]), Ow kTGrant 33 v4 x12.1.Given, Ow kTGrant 33 v5 x12.1.Waits, pt g1 26 ([(.slice none 0 0), (.slice none 0 0)])] := hR
      refine ⟨⟨knw rfl rfl rfl (p_move rfl), ⟨knw rfl rfl rfl (p_move rfl), ⟨knw rfl rfl rfl (p_move rfl), ⟨knw rfl rfl rfl (p_ldb_agg (i := 1) (l := []) (m := [v4, v5]) (r := []) hS rfl rfl ia_26 ti_26 rfl rfl rfl), trivial⟩⟩⟩⟩, ?_⟩
      refine pkAlt [3, 5, 8] (by kernel_rfl) rfl ⟨?_, ?_, ?_, trivial⟩
      · skip
        obtain ⟨s6, hg4, h4, hS⟩ := hS.freeze (i := 0) (kd := (Kd.int .i64)) (et := 3) (v := v9) (xs := ([1, 2, 3, 4, 5, 6, 0, 100] : List Int)) (B := [pt g3 26 ([v4, v5]), pt g2 74 ([v3, (.int .i64 x12.2.2.1), (.int .i64 x12.2.2.2)]), Ow kTGrant 33 v4 x12.1.Given, Ow kTGrant 33 v5 x12.1.Waits, pt g1 26 ([(.slice none 0 0), (.slice none 0 0)])]) rfl
        replace hS := hS.sel (is := [1, 0, 0, 0, 0]) (A' := [pt g2 74 ([v3, (.int .i64 x12.2.2.1), (.int .i64 x12.2.2.2)]), pt g3 26 ([v4, v5]), Ow kTGrant 33 v4 x12.1.Given, Ow kTGrant 33 v5 x12.1.Waits, pt g1 26 ([(.slice none 0 0), (.slice none 0 0)])]) rfl
        obtain ⟨x13, hx4, H⟩ := hb H
        refine altE [7, 4, 0] [5, 6, 8, 9, 10, 11, 12, 13] rfl rfl rfl (by decide) (by kernel_rfl) (e_call (fst := []) (vs := [(.pointer (some ⟨g2, 0, none⟩)), v9]) (cap := []) rfl rfl go_30 (St.call (A := [pt g2 74 ([v3, (.int .i64 x12.2.2.1), (.int .i64 x12.2.2.2)])]) (B := [pt g3 26 ([v4, v5]), Ow kTGrant 33 v4 x12.1.Given, Ow kTGrant 33 v5 x12.1.Waits, pt g1 26 ([(.slice none 0 0), (.slice none 0 0)])]) hS (spec_l1Int.spec k _ _ x12.2.1 x12.2.2.1 x12.2.2.2 ([1, 2, 3, 4, 5, 6, 0, 100] : List Int) v3 g2 v9 (h3.mono hg4) h4 _ hx4))) ?_
        intro v w hR
        obtain ⟨s7, A5, hg5, hS, hR⟩ := hR
        obtain ⟨v10, hv4, rfl, h5⟩ := hR; obtain rfl := hv4.symm
        have hS : St e s7 w [pt g2 74 ([v10, (.int .i64 x13.2.2.1), (.int .i64 x13.2.2.2)]), pt g3 26 ([v4, v5]), Ow kTGrant 33 v4 x12.1.Given, Ow kTGrant 33 v5 x12.1.Waits, pt g1 26 ([(.slice none 0 0), (.slice none 0 0)])] := hS
        refine ⟨⟨knw rfl rfl rfl (p_move rfl), ⟨knw rfl rfl rfl (p_move rfl), ⟨knw rfl rfl rfl (p_ldb_agg (i := 1) (l := []) (m := [v4, v5]) (r := []) hS rfl rfl ia_26 ti_26 rfl rfl rfl), trivial⟩⟩⟩, ?_⟩
        refine pkAlt [5, 8] (by kernel_rfl) rfl ⟨?_, ?_, trivial⟩
        · skip
          refine altE [7, 4, 0] [6, 8, 9, 10, 11, 12, 13] rfl rfl rfl (by decide) (by kernel_rfl) (e_bslice (kd := (Kd.int .i64)) (et := 3) (ps := [(0, (.const (.int .i64 0))), (1, (.const (.int .i64 1))), (2, (.const (.int .i64 2))), (3, (.const (.int .i64 2))), (4, (.const (.int .i64 (-1)))), (5, (.const (.int .i64 100)))]) (vs := [(0, (.int .i64 0)), (1, (.int .i64 1)), (2, (.int .i64 2)), (3, (.int .i64 2)), (4, (.int .i64 (-1))), (5, (.int .i64 100))]) (cs := [(.int .i64 0), (.int .i64 1), (.int .i64 2), (.int .i64 2), (.int .i64 (-1)), (.int .i64 100)]) (xs := ([0, 1, 2, 2, (-1), 100] : List Int)) hS rfl (by intro w; kernel_rfl) rfl (by decide) (Nat.le_of_ble_eq_true rfl) (by exact (rows_cons (kd := (Kd.int .i64)) (x := 0) (c := [(.int .i64 0)]) (cs := [(.int .i64 1), (.int .i64 2), (.int .i64 2), (.int .i64 (-1)), (.int .i64 100)]) rfl (rows_cons (kd := (Kd.int .i64)) (x := 1) (c := [(.int .i64 1)]) (cs := [(.int .i64 2), (.int .i64 2), (.int .i64 (-1)), (.int .i64 100)]) rfl (rows_cons (kd := (Kd.int .i64)) (x := 2) (c := [(.int .i64 2)]) (cs := [(.int .i64 2), (.int .i64 (-1)), (.int .i64 100)]) rfl (rows_cons (kd := (Kd.int .i64)) (x := 2) (c := [(.int .i64 2)]) (cs := [(.int .i64 (-1)), (.int .i64 100)]) rfl (rows_cons (kd := (Kd.int .i64)) (x := (-1)) (c := [(.int .i64 (-1))]) (cs := [(.int .i64 100)]) rfl (rows_cons (kd := (Kd.int .i64)) (x := 100) (c := [(.int .i64 100)]) (cs := []) rfl (Rows.nil _ _ _ _))))))))) ?_
          intro v11 w hR
          have hS : St e s7 w [Ow (Kd.int .i64) 3 v11 ([0, 1, 2, 2, (-1), 100] : List Int), pt g2 74 ([v10, (.int .i64 x13.2.2.1), (.int .i64 x13.2.2.2)]), pt g3 26 ([v4, v5]), Ow kTGrant 33 v4 x12.1.Given, Ow kTGrant 33 v5 x12.1.Waits, pt g1 26 ([(.slice none 0 0), (.slice none 0 0)])] := hR
          refine ⟨⟨knw rfl rfl rfl (p_move rfl), ⟨knw rfl rfl rfl (p_move rfl), ⟨knw rfl rfl rfl (p_ldb_agg (i := 2) (l := []) (m := [v4, v5]) (r := []) hS rfl rfl ia_26 ti_26 rfl rfl rfl), trivial⟩⟩⟩, ?_⟩
          refine pkAlt [6, 8] (by kernel_rfl) rfl ⟨?_, ?_, trivial⟩
          · skip
            obtain ⟨s8, hg6, h6, hS⟩ := hS.freeze (i := 0) (kd := (Kd.int .i64)) (et := 3) (v := v11) (xs := ([0, 1, 2, 2, (-1), 100] : List Int)) (B := [pt g2 74 ([v10, (.int .i64 x13.2.2.1), (.int .i64 x13.2.2.2)]), pt g3 26 ([v4, v5]), Ow kTGrant 33 v4 x12.1.Given, Ow kTGrant 33 v5 x12.1.Waits, pt g1 26 ([(.slice none 0 0), (.slice none 0 0)])]) rfl
            obtain ⟨x14, hx5, H⟩ := hb H
            refine altE [7, 0] [8, 9, 10, 11, 12, 13] rfl rfl rfl (by decide) (by kernel_rfl) (e_call (fst := []) (vs := [(.pointer (some ⟨g2, 0, none⟩)), v11]) (cap := []) rfl rfl go_30 (St.call (A := [pt g2 74 ([v10, (.int .i64 x13.2.2.1), (.int .i64 x13.2.2.2)])]) (B := [pt g3 26 ([v4, v5]), Ow kTGrant 33 v4 x12.1.Given, Ow kTGrant 33 v5 x12.1.Waits, pt g1 26 ([(.slice none 0 0), (.slice none 0 0)])]) hS (spec_l1Int.spec k _ _ x13.2.1 x13.2.2.1 x13.2.2.2 ([0, 1, 2, 2, (-1), 100] : List Int) v10 g2 v11 (h5.mono hg6) h6 _ hx5))) ?_
            intro v w hR
            obtain ⟨s9, A6, hg7, hS, hR⟩ := hR
            obtain ⟨v12, hv5, rfl, h7⟩ := hR; obtain rfl := hv5.symm
            have hS : St e s9 w [pt g2 74 ([v12, (.int .i64 x14.2.2.1), (.int .i64 x14.2.2.2)]), pt g3 26 ([v4, v5]), Ow kTGrant 33 v4 x12.1.Given, Ow kTGrant 33 v5 x12.1.Waits, pt g1 26 ([(.slice none 0 0), (.slice none 0 0)])] := hS
            refine ⟨⟨knw rfl rfl rfl (p_move rfl), ⟨knw rfl rfl rfl (p_ldb_agg (i := 1) (l := []) (m := [v4, v5]) (r := []) hS rfl rfl ia_26 ti_26 rfl rfl rfl), trivial⟩⟩, ?_⟩
            refine pkE [7, 0] rfl (by decide) (by kernel_rfl) (by kernel_rfl) (e_bslice (kd := (Kd.int .i64)) (et := 3) (ps := [(0, (.const (.int .i64 1))), (1, (.const (.int .i64 2))), (2, (.const (.int .i64 3))), (3, (.const (.int .i64 4))), (4, (.const (.int .i64 4))), (5, (.const (.int .i64 0))), (6, (.const (.int .i64 5)))]) (vs := [(0, (.int .i64 1)), (1, (.int .i64 2)), (2, (.int .i64 3)), (3, (.int .i64 4)), (4, (.int .i64 4)), (5, (.int .i64 0)), (6, (.int .i64 5))]) (cs := [(.int .i64 1), (.int .i64 2), (.int .i64 3), (.int .i64 4), (.int .i64 4), (.int .i64 0), (.int .i64 5)]) (xs := ([1, 2, 3, 4, 4, 0, 5] : List Int)) hS rfl (by intro w; kernel_rfl) rfl (by decide) (Nat.le_of_ble_eq_true rfl) (by exact (rows_cons (kd := (Kd.int .i64)) (x := 1) (c := [(.int .i64 1)]) (cs := [(.int .i64 2), (.int .i64 3), (.int .i64 4), (.int .i64 4), (.int .i64 0), (.int .i64 5)]) rfl (rows_cons (kd := (Kd.int .i64)) (x := 2) (c := [(.int .i64 2)]) (cs := [(.int .i64 3), (.int .i64 4), (.int .i64 4), (.int .i64 0), (.int .i64 5)]) rfl (rows_cons (kd := (Kd.int .i64)) (x := 3) (c := [(.int .i64 3)]) (cs := [(.int .i64 4), (.int .i64 4), (.int .i64 0), (.int .i64 5)]) rfl (rows_cons (kd := (Kd.int .i64)) (x := 4) (c := [(.int .i64 4)]) (cs := [(.int .i64 4), (.int .i64 0), (.int .i64 5)]) rfl (rows_cons (kd := (Kd.int .i64)) (x := 4) (c := [(.int .i64 4)]) (cs := [(.int .i64 0), (.int .i64 5)]) rfl (rows_cons (kd := (Kd.int .i64)) (x := 0) (c := [(.int .i64 0)]) (cs := [(.int .i64 5)]) rfl (rows_cons (kd := (Kd.int .i64)) (x := 5) (c := [(.int .i64 5)]) (cs := []) rfl (Rows.nil _ _ _ _)))))))))) ?_
            intro v13 w hR
            have hS : St e s9 w [Ow (Kd.int .i64) 3 v13 ([1, 2, 3, 4, 4, 0, 5] : List Int), pt g2 74 ([v12, (.int .i64 x14.2.2.1), (.int .i64 x14.2.2.2)]), pt g3 26 ([v4, v5]), Ow kTGrant 33 v4 x12.1.Given, Ow kTGrant 33 v5 x12.1.Waits, pt g1 26 ([(.slice none 0 0), (.slice none 0 0)])] := hR
            refine ⟨⟨knw rfl rfl rfl (p_move rfl), ⟨knw rfl rfl rfl (p_ldb_agg (i := 2) (l := []) (m := [v4, v5]) (r := []) hS rfl rfl ia_26 ti_26 rfl rfl rfl), trivial⟩⟩, ?_⟩
            obtain ⟨s10, hg8, h8, hS⟩ := hS.freeze (i := 0) (kd := (Kd.int .i64)) (et := 3) (v := v13) (xs := ([1, 2, 3, 4, 4, 0, 5] : List Int)) (B := [pt g2 74 ([v12, (.int .i64 x14.2.2.1), (.int .i64 x14.2.2.2)]), pt g3 26 ([v4, v5]), Ow kTGrant 33 v4 x12.1.Given, Ow kTGrant 33 v5 x12.1.Waits, pt g1 26 ([(.slice none 0 0), (.slice none 0 0)])]) rfl
            obtain ⟨x15, hx6, H⟩ := hb H
            refine pkE [0] rfl (by decide) (by kernel_rfl) (by kernel_rfl) (e_call (fst := []) (vs := [(.pointer (some ⟨g2, 0, none⟩)), v13]) (cap := []) rfl rfl go_30 (St.call (A := [pt g2 74 ([v12, (.int .i64 x14.2.2.1), (.int .i64 x14.2.2.2)])]) (B := [pt g3 26 ([v4, v5]), Ow kTGrant 33 v4 x12.1.Given, Ow kTGrant 33 v5 x12.1.Waits, pt g1 26 ([(.slice none 0 0), (.slice none 0 0)])]) hS (spec_l1Int.spec k _ _ x14.2.1 x14.2.2.1 x14.2.2.2 ([1, 2, 3, 4, 4, 0, 5] : List Int) v12 g2 v13 (h7.mono hg8) h8 _ hx6))) ?_
            intro v w hR
            obtain ⟨s11, A7, hg9, hS, hR⟩ := hR
            obtain ⟨v14, hv6, rfl, h9⟩ := hR; obtain rfl := hv6.symm
            have hS : St e s11 w [pt g2 74 ([v14, (.int .i64 x15.2.2.1), (.int .i64 x15.2.2.2)]), pt g3 26 ([v4, v5]), Ow kTGrant 33 v4 x12.1.Given, Ow kTGrant 33 v5 x12.1.Waits, pt g1 26 ([(.slice none 0 0), (.slice none 0 0)])] := hS
            refine ⟨⟨knw rfl rfl rfl (p_ldb_agg (i := 1) (l := []) (m := [v4, v5]) (r := []) hS rfl rfl ia_26 ti_26 rfl rfl rfl), trivial⟩, ?_⟩
            refine pkE0 [] rfl (by kernel_rfl) (by kernel_rfl) (e_stb (i := 4) (l := []) (m := [(.slice none 0 0), (.slice none 0 0)]) (r := []) (m' := [v4, v5]) (cs' := [v4, v5]) hS rfl rfl rfl ti_26 rfl rfl rfl rfl rfl (one_cons (hS.one_ow (i := 2) rfl) (one_cons (hS.one_ow (i := 3) rfl) one_nil)) rfl) ?_
            intro v w hR
            have hS : St e s11 w [pt g1 26 ([v4, v5]), pt g2 74 ([v14, (.int .i64 x15.2.2.1), (.int .i64 x15.2.2.2)]), pt g3 26 ([v4, v5]), Ow kTGrant 33 v4 x12.1.Given, Ow kTGrant 33 v5 x12.1.Waits] := hR
            refine ⟨trivial, ?_⟩
            refine pkE [] rfl (by decide) (by kernel_rfl) (by kernel_rfl) (puEf (p_assign rfl)) ?_
            rintro v w' ⟨rfl, rfl⟩
            refine ⟨trivial, ?_⟩
            refine pkE [] rfl (by decide) (by kernel_rfl) (by kernel_rfl) (puEf (p_assign rfl)) ?_
            rintro v w' ⟨rfl, rfl⟩
            refine ⟨trivial, ?_⟩
            refine pkE [] rfl (by decide) (by kernel_rfl) (by kernel_rfl) (puEf (p_assign rfl)) ?_
            rintro v w' ⟨rfl, rfl⟩
            refine ⟨trivial, ?_⟩
            refine pkF (fun a hF => ?_)
            refine xn ?_
            obtain rfl := hsm H
            replace hS := hS.sel (is := [2, 1, 0, 0, 0]) (A' := [pt g3 26 ([v4, v5]), pt g2 74 ([v14, (.int .i64 x15.2.2.1), (.int .i64 x15.2.2.2)]), pt g1 26 ([v4, v5]), Ow kTGrant 33 v4 x12.1.Given, Ow kTGrant 33 v5 x12.1.Waits]) rfl
            exact ⟨x15.2.1, x15.2.2.1, x15.2.2.2, x12.1.Given, x12.1.Waits, x13.1, x14.1, x15.1, s11, v14, v4, v5, hS, hF.cut ⟨rfl, rfl, rfl, rfl, trivial⟩, (((((hg4.trans hg5).trans hg6).trans hg7).trans hg8).trans hg9), h9, HK1⟩
          · skip
            refine altE [7, 4, 0] [6, 9, 10, 11, 12, 13] rfl rfl rfl (by decide) (by kernel_rfl) (e_bslice (kd := (Kd.int .i64)) (et := 3) (ps := [(0, (.const (.int .i64 1))), (1, (.const (.int .i64 2))), (2, (.const (.int .i64 3))), (3, (.const (.int .i64 4))), (4, (.const (.int .i64 4))), (5, (.const (.int .i64 0))), (6, (.const (.int .i64 5)))]) (vs := [(0, (.int .i64 1)), (1, (.int .i64 2)), (2, (.int .i64 3)), (3, (.int .i64 4)), (4, (.int .i64 4)), (5, (.int .i64 0)), (6, (.int .i64 5))]) (cs := [(.int .i64 1), (.int .i64 2), (.int .i64 3), (.int .i64 4), (.int .i64 4), (.int .i64 0), (.int .i64 5)]) (xs := ([1, 2, 3, 4, 4, 0, 5] : List Int)) hS rfl (by intro w; kernel_rfl) rfl (by decide) (Nat.le_of_ble_eq_true rfl) (by exact (rows_cons (kd := (Kd.int .i64)) (x := 1) (c := [(.int .i64 1)]) (cs := [(.int .i64 2), (.int .i64 3), (.int .i64 4), (.int .i64 4), (.int .i64 0), (.int .i64 5)]) rfl (rows_cons (kd := (Kd.int .i64)) (x := 2) (c := [(.int .i64 2)]) (cs := [(.int .i64 3), (.int .i64 4), (.int .i64 4), (.int .i64 0), (.int .i64 5)]) rfl (rows_cons (kd := (Kd.int .i64)) (x := 3) (c := [(.int .i64 3)]) (cs := [(.int .i64 4), (.int .i64 4), (.int .i64 0), (.int .i64 5)]) rfl (rows_cons (kd := (Kd.int .i64)) (x := 4) (c := [(.int .i64 4)]) (cs := [(.int .i64 4), (.int .i64 0), (.int .i64 5)]) rfl (rows_cons (kd := (Kd.int .i64)) (x := 4) (c := [(.int .i64 4)]) (cs := [(.int .i64 0), (.int .i64 5)]) rfl (rows_cons (kd := (Kd.int .i64)) (x := 0) (c := [(.int .i64 0)]) (cs := [(.int .i64 5)]) rfl (rows_cons (kd := (Kd.int .i64)) (x := 5) (c := [(.int .i64 5)]) (cs := []) rfl (Rows.nil _ _ _ _)))))))))) ?_
            intro v15 w hR
            have hS : St e s7 w [Ow (Kd.int .i64) 3 v15 ([1, 2, 3, 4, 4, 0, 5] : List Int), Ow (Kd.int .i64) 3 v11 ([0, 1, 2, 2, (-1), 100] : List Int), pt g2 74 ([v10, (.int .i64 x13.2.2.1), (.int .i64 x13.2.2.2)]), pt g3 26 ([v4, v5]), Ow kTGrant 33 v4 x12.1.Given, Ow kTGrant 33 v5 x12.1.Waits, pt g1 26 ([(.slice none 0 0), (.slice none 0 0)])] := hR
            refine ⟨⟨knw rfl rfl rfl (p_move rfl), ⟨knw rfl rfl rfl (p_move rfl), ⟨knw rfl rfl rfl (p_ldb_agg (i := 3) (l := []) (m := [v4, v5]) (r := []) hS rfl rfl ia_26 ti_26 rfl rfl rfl), trivial⟩⟩⟩, ?_⟩
            obtain ⟨s12, hg10, h10, hS⟩ := hS.freeze (i := 1) (kd := (Kd.int .i64)) (et := 3) (v := v11) (xs := ([0, 1, 2, 2, (-1), 100] : List Int)) (B := [Ow (Kd.int .i64) 3 v15 ([1, 2, 3, 4, 4, 0, 5] : List Int), pt g2 74 ([v10, (.int .i64 x13.2.2.1), (.int .i64 x13.2.2.2)]), pt g3 26 ([v4, v5]), Ow kTGrant 33 v4 x12.1.Given, Ow kTGrant 33 v5 x12.1.Waits, pt g1 26 ([(.slice none 0 0), (.slice none 0 0)])]) rfl
            replace hS := hS.sel (is := [1, 0, 0, 0, 0, 0]) (A' := [pt g2 74 ([v10, (.int .i64 x13.2.2.1), (.int .i64 x13.2.2.2)]), Ow (Kd.int .i64) 3 v15 ([1, 2, 3, 4, 4, 0, 5] : List Int), pt g3 26 ([v4, v5]), Ow kTGrant 33 v4 x12.1.Given, Ow kTGrant 33 v5 x12.1.Waits, pt g1 26 ([(.slice none 0 0), (.slice none 0 0)])]) rfl
            obtain ⟨x17, hx7, H⟩ := hb H
            refine pkE [7, 0] rfl (by decide) (by kernel_rfl) (by kernel_rfl) (e_call (fst := []) (vs := [(.pointer (some ⟨g2, 0, none⟩)), v11]) (cap := []) rfl rfl go_30 (St.call (A := [pt g2 74 ([v10, (.int .i64 x13.2.2.1), (.int .i64 x13.2.2.2)])]) (B := [Ow (Kd.int .i64) 3 v15 ([1, 2, 3, 4, 4, 0, 5] : List Int), pt g3 26 ([v4, v5]), Ow kTGrant 33 v4 x12.1.Given, Ow kTGrant 33 v5 x12.1.Waits, pt g1 26 ([(.slice none 0 0), (.slice none 0 0)])]) hS (spec_l1Int.spec k _ _ x13.2.1 x13.2.2.1 x13.2.2.2 ([0, 1, 2, 2, (-1), 100] : List Int) v10 g2 v11 (h5.mono hg10) h10 _ hx7))) ?_
            intro v w hR
            obtain ⟨s13, A8, hg11, hS, hR⟩ := hR
            obtain ⟨v16, hv7, rfl, h11⟩ := hR; obtain rfl := hv7.symm
            have hS : St e s13 w [pt g2 74 ([v16, (.int .i64 x17.2.2.1), (.int .i64 x17.2.2.2)]), Ow (Kd.int .i64) 3 v15 ([1, 2, 3, 4, 4, 0, 5] : List Int), pt g3 26 ([v4, v5]), Ow kTGrant 33 v4 x12.1.Given, Ow kTGrant 33 v5 x12.1.Waits, pt g1 26 ([(.slice none 0 0), (.slice none 0 0)])] := hS
            refine ⟨⟨knw rfl rfl rfl (p_move rfl), ⟨knw rfl rfl rfl (p_ldb_agg (i := 2) (l := []) (m := [v4, v5]) (r := []) hS rfl rfl ia_26 ti_26 rfl rfl rfl), trivial⟩⟩, ?_⟩
            obtain ⟨s14, hg12, h12, hS⟩ := hS.freeze (i := 1) (kd := (Kd.int .i64)) (et := 3) (v := v15) (xs := ([1, 2, 3, 4, 4, 0, 5] : List Int)) (B := [pt g2 74 ([v16, (.int .i64 x17.2.2.1), (.int .i64 x17.2.2.2)]), pt g3 26 ([v4, v5]), Ow kTGrant 33 v4 x12.1.Given, Ow kTGrant 33 v5 x12.1.Waits, pt g1 26 ([(.slice none 0 0), (.slice none 0 0)])]) rfl
            obtain ⟨x18, hx8, H⟩ := hb H
            refine pkE [0] rfl (by decide) (by kernel_rfl) (by kernel_rfl) (e_call (fst := []) (vs := [(.pointer (some ⟨g2, 0, none⟩)), v15]) (cap := []) rfl rfl go_30 (St.call (A := [pt g2 74 ([v16, (.int .i64 x17.2.2.1), (.int .i64 x17.2.2.2)])]) (B := [pt g3 26 ([v4, v5]), Ow kTGrant 33 v4 x12.1.Given, Ow kTGrant 33 v5 x12.1.Waits, pt g1 26 ([(.slice none 0 0), (.slice none 0 0)])]) hS (spec_l1Int.spec k _ _ x17.2.1 x17.2.2.1 x17.2.2.2 ([1, 2, 3, 4, 4, 0, 5] : List Int) v16 g2 v15 (h11.mono hg12) h12 _ hx8))) ?_
            intro v w hR
            obtain ⟨s15, A9, hg13, hS, hR⟩ := hR
            obtain ⟨v17, hv8, rfl, h13⟩ := hR; obtain rfl := hv8.symm
            have hS : St e s15 w [pt g2 74 ([v17, (.int .i64 x18.2.2.1), (.int .i64 x18.2.2.2)]), pt g3 26 ([v4, v5]), Ow kTGrant 33 v4 x12.1.Given, Ow kTGrant 33 v5 x12.1.Waits, pt g1 26 ([(.slice none 0 0), (.slice none 0 0)])] := hS
            refine ⟨⟨knw rfl rfl rfl (p_ldb_agg (i := 1) (l := []) (m := [v4, v5]) (r := []) hS rfl rfl ia_26 ti_26 rfl rfl rfl), trivial⟩, ?_⟩
            refine pkE0 [] rfl (by kernel_rfl) (by kernel_rfl) (e_stb (i := 4) (l := []) (m := [(.slice none 0 0), (.slice none 0 0)]) (r := []) (m' := [v4, v5]) (cs' := [v4, v5]) hS rfl rfl rfl ti_26 rfl rfl rfl rfl rfl (one_cons (hS.one_ow (i := 2) rfl) (one_cons (hS.one_ow (i := 3) rfl) one_nil)) rfl) ?_
            intro v w hR
            have hS : St e s15 w [pt g1 26 ([v4, v5]), pt g2 74 ([v17, (.int .i64 x18.2.2.1), (.int .i64 x18.2.2.2)]), pt g3 26 ([v4, v5]), Ow kTGrant 33 v4 x12.1.Given, Ow kTGrant 33 v5 x12.1.Waits] := hR
            refine ⟨trivial, ?_⟩
            refine pkE [] rfl (by decide) (by kernel_rfl) (by kernel_rfl) (puEf (p_assign rfl)) ?_
            rintro v w' ⟨rfl, rfl⟩
            refine ⟨trivial, ?_⟩
            refine pkE [] rfl (by decide) (by kernel_rfl) (by kernel_rfl) (puEf (p_assign rfl)) ?_
            rintro v w' ⟨rfl, rfl⟩
            refine ⟨trivial, ?_⟩
            refine pkE [] rfl (by decide) (by kernel_rfl) (by kernel_rfl) (puEf (p_assign rfl)) ?_
            rintro v w' ⟨rfl, rfl⟩
            refine ⟨trivial, ?_⟩
            refine pkF (fun a hF => ?_)
            refine xn ?_
            obtain rfl := hsm H
            replace hS := hS.sel (is := [2, 1, 0, 0, 0]) (A' := [pt g3 26 ([v4, v5]), pt g2 74 ([v17, (.int .i64 x18.2.2.1), (.int .i64 x18.2.2.2)]), pt g1 26 ([v4, v5]), Ow kTGrant 33 v4 x12.1.Given, Ow kTGrant 33 v5 x12.1.Waits]) rfl
            exact ⟨x18.2.1, x18.2.2.1, x18.2.2.2, x12.1.Given, x12.1.Waits, x13.1, x17.1, x18.1, s15, v17, v4, v5, hS, hF.cut ⟨rfl, rfl, rfl, rfl, trivial⟩, (((((hg4.trans hg5).trans hg10).trans hg11).trans hg12).trans hg13), h13, HK1⟩
        · skip
          refine altE [7, 4, 0] [5, 6, 9, 10, 11, 12, 13] rfl rfl rfl (by decide) (by kernel_rfl) (e_bslice (kd := (Kd.int .i64)) (et := 3) (ps := [(0, (.const (.int .i64 1))), (1, (.const (.int .i64 2))), (2, (.const (.int .i64 3))), (3, (.const (.int .i64 4))), (4, (.const (.int .i64 4))), (5, (.const (.int .i64 0))), (6, (.const (.int .i64 5)))]) (vs := [(0, (.int .i64 1)), (1, (.int .i64 2)), (2, (.int .i64 3)), (3, (.int .i64 4)), (4, (.int .i64 4)), (5, (.int .i64 0)), (6, (.int .i64 5))]) (cs := [(.int .i64 1), (.int .i64 2), (.int .i64 3), (.int .i64 4), (.int .i64 4), (.int .i64 0), (.int .i64 5)]) (xs := ([1, 2, 3, 4, 4, 0, 5] : List Int)) hS rfl (by intro w; kernel_rfl) rfl (by decide) (Nat.le_of_ble_eq_true rfl) (by exact (rows_cons (kd := (Kd.int .i64)) (x := 1) (c := [(.int .i64 1)]) (cs := [(.int .i64 2), (.int .i64 3), (.int .i64 4), (.int .i64 4), (.int .i64 0), (.int .i64 5)]) rfl (rows_cons (kd := (Kd.int .i64)) (x := 2) (c := [(.int .i64 2)]) (cs := [(.int .i64 3), (.int .i64 4), (.int .i64 4), (.int .i64 0), (.int .i64 5)]) rfl (rows_cons (kd := (Kd.int .i64)) (x := 3) (c := [(.int .i64 3)]) (cs := [(.int .i64 4), (.int .i64 4), (.int .i64 0), (.int .i64 5)]) rfl (rows_cons (kd := (Kd.int .i64)) (x := 4) (c := [(.int .i64 4)]) (cs := [(.int .i64 4), (.int .i64 0), (.int .i64 5)]) rfl (rows_cons (kd := (Kd.int .i64)) (x := 4) (c := [(.int .i64 4)]) (cs := [(.int .i64 0), (.int .i64 5)]) rfl (rows_cons (kd := (Kd.int .i64)) (x := 0) (c := [(.int .i64 0)]) (cs := [(.int .i64 5)]) rfl (rows_cons (kd := (Kd.int .i64)) (x := 5) (c := [(.int .i64 5)]) (cs := []) rfl (Rows.nil _ _ _ _)))))))))) ?_
          intro v18 w hR
          have hS : St e s7 w [Ow (Kd.int .i64) 3 v18 ([1, 2, 3, 4, 4, 0, 5] : List Int), pt g2 74 ([v10, (.int .i64 x13.2.2.1), (.int .i64 x13.2.2.2)]), pt g3 26 ([v4, v5]), Ow kTGrant 33 v4 x12.1.Given, Ow kTGrant 33 v5 x12.1.Waits, pt g1 26 ([(.slice none 0 0), (.slice none 0 0)])] := hR
          refine ⟨⟨knw rfl rfl rfl (p_move rfl), ⟨knw rfl rfl rfl (p_move rfl), ⟨knw rfl rfl rfl (p_ldb_agg (i := 2) (l := []) (m := [v4, v5]) (r := []) hS rfl rfl ia_26 ti_26 rfl rfl rfl), trivial⟩⟩⟩, ?_⟩
          refine pkE [7, 4, 0] rfl (by decide) (by kernel_rfl) (by kernel_rfl) (e_bslice (kd := (Kd.int .i64)) (et := 3) (ps := [(0, (.const (.int .i64 0))), (1, (.const (.int .i64 1))), (2, (.const (.int .i64 2))), (3, (.const (.int .i64 2))), (4, (.const (.int .i64 (-1)))), (5, (.const (.int .i64 100)))]) (vs := [(0, (.int .i64 0)), (1, (.int .i64 1)), (2, (.int .i64 2)), (3, (.int .i64 2)), (4, (.int .i64 (-1))), (5, (.int .i64 100))]) (cs := [(.int .i64 0), (.int .i64 1), (.int .i64 2), (.int .i64 2), (.int .i64 (-1)), (.int .i64 100)]) (xs := ([0, 1, 2, 2, (-1), 100] : List Int)) hS rfl (by intro w; kernel_rfl) rfl (by decide) (Nat.le_of_ble_eq_true rfl) (by exact (rows_cons (kd := (Kd.int .i64)) (x := 0) (c := [(.int .i64 0)]) (cs := [(.int .i64 1), (.int .i64 2), (.int .i64 2), (.int .i64 (-1)), (.int .i64 100)]) rfl (rows_cons (kd := (Kd.int .i64)) (x := 1) (c := [(.int .i64 1)]) (cs := [(.int .i64 2), (.int .i64 2), (.int .i64 (-1)), (.int .i64 100)]) rfl (rows_cons (kd := (Kd.int .i64)) (x := 2) (c := [(.int .i64 2)]) (cs := [(.int .i64 2), (.int .i64 (-1)), (.int .i64 100)]) rfl (rows_cons (kd := (Kd.int .i64)) (x := 2) (c := [(.int .i64 2)]) (cs := [(.int .i64 (-1)), (.int .i64 100)]) rfl (rows_cons (kd := (Kd.int .i64)) (x := (-1)) (c := [(.int .i64 (-1))]) (cs := [(.int .i64 100)]) rfl (rows_cons (kd := (Kd.int .i64)) (x := 100) (c := [(.int .i64 100)]) (cs := []) rfl (Rows.nil _ _ _ _))))))))) ?_
          intro v19 w hR
          have hS : St e s7 w [Ow (Kd.int .i64) 3 v19 ([0, 1, 2, 2, (-1), 100] : List Int), Ow (Kd.int .i64) 3 v18 ([1, 2, 3, 4, 4, 0, 5] : List Int), pt g2 74 ([v10, (.int .i64 x13.2.2.1), (.int .i64 x13.2.2.2)]), pt g3 26 ([v4, v5]), Ow kTGrant 33 v4 x12.1.Given, Ow kTGrant 33 v5 x12.1.Waits, pt g1 26 ([(.slice none 0 0), (.slice none 0 0)])] := hR
          refine ⟨⟨knw rfl rfl rfl (p_move rfl), ⟨knw rfl rfl rfl (p_move rfl), ⟨knw rfl rfl rfl (p_ldb_agg (i := 3) (l := []) (m := [v4, v5]) (r := []) hS rfl rfl ia_26 ti_26 rfl rfl rfl), trivial⟩⟩⟩, ?_⟩
          obtain ⟨s16, hg14, h14, hS⟩ := hS.freeze (i := 0) (kd := (Kd.int .i64)) (et := 3) (v := v19) (xs := ([0, 1, 2, 2, (-1), 100] : List Int)) (B := [Ow (Kd.int .i64) 3 v18 ([1, 2, 3, 4, 4, 0, 5] : List Int), pt g2 74 ([v10, (.int .i64 x13.2.2.1), (.int .i64 x13.2.2.2)]), pt g3 26 ([v4, v5]), Ow kTGrant 33 v4 x12.1.Given, Ow kTGrant 33 v5 x12.1.Waits, pt g1 26 ([(.slice none 0 0), (.slice none 0 0)])]) rfl
          replace hS := hS.sel (is := [1, 0, 0, 0, 0, 0]) (A' := [pt g2 74 ([v10, (.int .i64 x13.2.2.1), (.int .i64 x13.2.2.2)]), Ow (Kd.int .i64) 3 v18 ([1, 2, 3, 4, 4, 0, 5] : List Int), pt g3 26 ([v4, v5]), Ow kTGrant 33 v4 x12.1.Given, Ow kTGrant 33 v5 x12.1.Waits, pt g1 26 ([(.slice none 0 0), (.slice none 0 0)])]) rfl
          obtain ⟨x19, hx9, H⟩ := hb H
          refine pkE [7, 0] rfl (by decide) (by kernel_rfl) (by kernel_rfl) (e_call (fst := []) (vs := [(.pointer (some ⟨g2, 0, none⟩)), v19]) (cap := []) rfl rfl go_30 (St.call (A := [pt g2 74 ([v10, (.int .i64 x13.2.2.1), (.int .i64 x13.2.2.2)])]) (B := [Ow (Kd.int .i64) 3 v18 ([1, 2, 3, 4, 4, 0, 5] : List Int), pt g3 26 ([v4, v5]), Ow kTGrant 33 v4 x12.1.Given, Ow kTGrant 33 v5 x12.1.Waits, pt g1 26 ([(.slice none 0 0), (.slice none 0 0)])]) hS (spec_l1Int.spec k _ _ x13.2.1 x13.2.2.1 x13.2.2.2 ([0, 1, 2, 2, (-1), 100] : List Int) v10 g2 v19 (h5.mono hg14) h14 _ hx9))) ?_
          intro v w hR
          obtain ⟨s17, A10, hg15, hS, hR⟩ := hR
          obtain ⟨v20, hv9, rfl, h15⟩ := hR; obtain rfl := hv9.symm
          have hS : St e s17 w [pt g2 74 ([v20, (.int .i64 x19.2.2.1), (.int .i64 x19.2.2.2)]), Ow (Kd.int .i64) 3 v18 ([1, 2, 3, 4, 4, 0, 5] : List Int), pt g3 26 ([v4, v5]), Ow kTGrant 33 v4 x12.1.Given, Ow kTGrant 33 v5 x12.1.Waits, pt g1 26 ([(.slice none 0 0), (.slice none 0 0)])] := hS
          refine ⟨⟨knw rfl rfl rfl (p_move rfl), ⟨knw rfl rfl rfl (p_ldb_agg (i := 2) (l := []) (m := [v4, v5]) (r := []) hS rfl rfl ia_26 ti_26 rfl rfl rfl), trivial⟩⟩, ?_⟩
          obtain ⟨s18, hg16, h16, hS⟩ := hS.freeze (i := 1) (kd := (Kd.int .i64)) (et := 3) (v := v18) (xs := ([1, 2, 3, 4, 4, 0, 5] : List Int)) (B := [pt g2 74 ([v20, (.int .i64 x19.2.2.1), (.int .i64 x19.2.2.2)]), pt g3 26 ([v4, v5]), Ow kTGrant 33 v4 x12.1.Given, Ow kTGrant 33 v5 x12.1.Waits, pt g1 26 ([(.slice none 0 0), (.slice none 0 0)])]) rfl
          obtain ⟨x20, hx10, H⟩ := hb H
          refine pkE [0] rfl (by decide) (by kernel_rfl) (by kernel_rfl) (e_call (fst := []) (vs := [(.pointer (some ⟨g2, 0, none⟩)), v18]) (cap := []) rfl rfl go_30 (St.call (A := [pt g2 74 ([v20, (.int .i64 x19.2.2.1), (.int .i64 x19.2.2.2)])]) (B := [pt g3 26 ([v4, v5]), Ow kTGrant 33 v4 x12.1.Given, Ow kTGrant 33 v5 x12.1.Waits, pt g1 26 ([(.slice none 0 0), (.slice none 0 0)])]) hS (spec_l1Int.spec k _ _ x19.2.1 x19.2.2.1 x19.2.2.2 ([1, 2, 3, 4, 4, 0, 5] : List Int) v20 g2 v18 (h15.mono hg16) h16 _ hx10))) ?_
          intro v w hR
          obtain ⟨s19, A11, hg17, hS, hR⟩ := hR
          obtain ⟨v21, hv10, rfl, h17⟩ := hR; obtain rfl := hv10.symm
          have hS : St e s19 w [pt g2 74 ([v21, (.int .i64 x20.2.2.1), (.int .i64 x20.2.2.2)]), pt g3 26 ([v4, v5]), Ow kTGrant 33 v4 x12.1.Given, Ow kTGrant 33 v5 x12.1.Waits, pt g1 26 ([(.slice none 0 0), (.slice none 0 0)])] := hS
          refine ⟨⟨knw rfl rfl rfl (p_ldb_agg (i := 1) (l := []) (m := [v4, v5]) (r := []) hS rfl rfl ia_26 ti_26 rfl rfl rfl), trivial⟩, ?_⟩
          refine pkE0 [] rfl (by kernel_rfl) (by kernel_rfl) (e_stb (i := 4) (l := []) (m := [(.slice none 0 0), (.slice none 0 0)]) (r := []) (m' := [v4, v5]) (cs' := [v4, v5]) hS rfl rfl rfl ti_26 rfl rfl rfl rfl rfl (one_cons (hS.one_ow (i := 2) rfl) (one_cons (hS.one_ow (i := 3) rfl) one_nil)) rfl) ?_
          intro v w hR
          have hS : St e s19 w [pt g1 26 ([v4, v5]), pt g2 74 ([v21, (.int .i64 x20.2.2.1), (.int .i64 x20.2.2.2)]), pt g3 26 ([v4, v5]), Ow kTGrant 33 v4 x12.1.Given, Ow kTGrant 33 v5 x12.1.Waits] := hR
          refine ⟨trivial, ?_⟩
          refine pkE [] rfl (by decide) (by kernel_rfl) (by kernel_rfl) (puEf (p_assign rfl)) ?_
          rintro v w' ⟨rfl, rfl⟩
          refine ⟨trivial, ?_⟩
          refine pkE [] rfl (by decide) (by kernel_rfl) (by kernel_rfl) (puEf (p_assign rfl)) ?_
          rintro v w' ⟨rfl, rfl⟩
          refine ⟨trivial, ?_⟩
          refine pkE [] rfl (by decide) (by kernel_rfl) (by kernel_rfl) (puEf (p_assign rfl)) ?_
          rintro v w' ⟨rfl, rfl⟩
          refine ⟨trivial, ?_⟩
          refine pkF (fun a hF => ?_)
          refine xn ?_
          obtain rfl := hsm H
          replace hS := hS.sel (is := [2, 1, 0, 0, 0]) (A' := [pt g3 26 ([v4, v5]), pt g2 74 ([v21, (.int .i64 x20.2.2.1), (.int .i64 x20.2.2.2)]), pt g1 26 ([v4, v5]), Ow kTGrant 33 v4 x12.1.Given, Ow kTGrant 33 v5 x12.1.Waits]) rfl
          exact ⟨x20.2.1, x20.2.2.1, x20.2.2.2, x12.1.Given, x12.1.Waits, x13.1, x19.1, x20.1, s19, v21, v4, v5, hS, hF.cut ⟨rfl, rfl, rfl, rfl, trivial⟩, (((((hg4.trans hg5).trans hg14).trans hg15).trans hg16).trans hg17), h17, HK1⟩
      · skip
        refine altE [7, 4, 1, 0] [3, 6, 8, 9, 10, 11, 12, 13] rfl rfl rfl (by decide) (by kernel_rfl) (e_bslice (kd := (Kd.int .i64)) (et := 3) (ps := [(0, (.const (.int .i64 0))), (1, (.const (.int .i64 1))), (2, (.const (.int .i64 2))), (3, (.const (.int .i64 2))), (4, (.const (.int .i64 (-1)))), (5, (.const (.int .i64 100)))]) (vs := [(0, (.int .i64 0)), (1, (.int .i64 1)), (2, (.int .i64 2)), (3, (.int .i64 2)), (4, (.int .i64 (-1))), (5, (.int .i64 100))]) (cs := [(.int .i64 0), (.int .i64 1), (.int .i64 2), (.int .i64 2), (.int .i64 (-1)), (.int .i64 100)]) (xs := ([0, 1, 2, 2, (-1), 100] : List Int)) hS rfl (by intro w; kernel_rfl) rfl (by decide) (Nat.le_of_ble_eq_true rfl) (by exact (rows_cons (kd := (Kd.int .i64)) (x := 0) (c := [(.int .i64 0)]) (cs := [(.int .i64 1), (.int .i64 2), (.int .i64 2), (.int .i64 (-1)), (.int .i64 100)]) rfl (rows_cons (kd := (Kd.int .i64)) (x := 1) (c := [(.int .i64 1)]) (cs := [(.int .i64 2), (.int .i64 2), (.int .i64 (-1)), (.int .i64 100)]) rfl (rows_cons (kd := (Kd.int .i64)) (x := 2) (c := [(.int .i64 2)]) (cs := [(.int .i64 2), (.int .i64 (-1)), (.int .i64 100)]) rfl (rows_cons (kd := (Kd.int .i64)) (x := 2) (c := [(.int .i64 2)]) (cs := [(.int .i64 (-1)), (.int .i64 100)]) rfl (rows_cons (kd := (Kd.int .i64)) (x := (-1)) (c := [(.int .i64 (-1))]) (cs := [(.int .i64 100)]) rfl (rows_cons (kd := (Kd.int .i64)) (x := 100) (c := [(.int .i64 100)]) (cs := []) rfl (Rows.nil _ _ _ _))))))))) ?_
        intro v22 w hR
        have hS : St e s4 w [Ow (Kd.int .i64) 3 v22 ([0, 1, 2, 2, (-1), 100] : List Int), Ow (Kd.int .i64) 3 v9 ([1, 2, 3, 4, 5, 6, 0, 100] : List Int), pt g3 26 ([v4, v5]), pt g2 74 ([v3, (.int .i64 x12.2.2.1), (.int .i64 x12.2.2.2)]), Ow kTGrant 33 v4 x12.1.Given, Ow kTGrant 33 v5 x12.1.Waits, pt g1 26 ([(.slice none 0 0), (.slice none 0 0)])] := hR
        refine ⟨⟨knw rfl rfl rfl (p_move rfl), ⟨knw rfl rfl rfl (p_move rfl), ⟨knw rfl rfl rfl (p_move rfl), ⟨knw rfl rfl rfl (p_ldb_agg (i := 2) (l := []) (m := [v4, v5]) (r := []) hS rfl rfl ia_26 ti_26 rfl rfl rfl), trivial⟩⟩⟩⟩, ?_⟩
        refine pkAlt [3, 8] (by kernel_rfl) rfl ⟨?_, ?_, trivial⟩
        · skip
          obtain ⟨s20, hg18, h18, hS⟩ := hS.freeze (i := 1) (kd := (Kd.int .i64)) (et := 3) (v := v9) (xs := ([1, 2, 3, 4, 5, 6, 0, 100] : List Int)) (B := [Ow (Kd.int .i64) 3 v22 ([0, 1, 2, 2, (-1), 100] : List Int), pt g3 26 ([v4, v5]), pt g2 74 ([v3, (.int .i64 x12.2.2.1), (.int .i64 x12.2.2.2)]), Ow kTGrant 33 v4 x12.1.Given, Ow kTGrant 33 v5 x12.1.Waits, pt g1 26 ([(.slice none 0 0), (.slice none 0 0)])]) rfl
          replace hS := hS.sel (is := [2, 0, 0, 0, 0, 0]) (A' := [pt g2 74 ([v3, (.int .i64 x12.2.2.1), (.int .i64 x12.2.2.2)]), Ow (Kd.int .i64) 3 v22 ([0, 1, 2, 2, (-1), 100] : List Int), pt g3 26 ([v4, v5]), Ow kTGrant 33 v4 x12.1.Given, Ow kTGrant 33 v5 x12.1.Waits, pt g1 26 ([(.slice none 0 0), (.slice none 0 0)])]) rfl
          obtain ⟨x21, hx11, H⟩ := hb H
          refine altE [7, 4, 0] [6, 8, 9, 10, 11, 12, 13] rfl rfl rfl (by decide) (by kernel_rfl) (e_call (fst := []) (vs := [(.pointer (some ⟨g2, 0, none⟩)), v9]) (cap := []) rfl rfl go_30 (St.call (A := [pt g2 74 ([v3, (.int .i64 x12.2.2.1), (.int .i64 x12.2.2.2)])]) (B := [Ow (Kd.int .i64) 3 v22 ([0, 1, 2, 2, (-1), 100] : List Int), pt g3 26 ([v4, v5]), Ow kTGrant 33 v4 x12.1.Given, Ow kTGrant 33 v5 x12.1.Waits, pt g1 26 ([(.slice none 0 0), (.slice none 0 0)])]) hS (spec_l1Int.spec k _ _ x12.2.1 x12.2.2.1 x12.2.2.2 ([1, 2, 3, 4, 5, 6, 0, 100] : List Int) v3 g2 v9 (h3.mono hg18) h18 _ hx11))) ?_
          intro v w hR
          obtain ⟨s21, A12, hg19, hS, hR⟩ := hR
          obtain ⟨v23, hv11, rfl, h19⟩ := hR; obtain rfl := hv11.symm
          have hS : St e s21 w [pt g2 74 ([v23, (.int .i64 x21.2.2.1), (.int .i64 x21.2.2.2)]), Ow (Kd.int .i64) 3 v22 ([0, 1, 2, 2, (-1), 100] : List Int), pt g3 26 ([v4, v5]), Ow kTGrant 33 v4 x12.1.Given, Ow kTGrant 33 v5 x12.1.Waits, pt g1 26 ([(.slice none 0 0), (.slice none 0 0)])] := hS
          refine ⟨⟨knw rfl rfl rfl (p_move rfl), ⟨knw rfl rfl rfl (p_move rfl), ⟨knw rfl rfl rfl (p_ldb_agg (i := 2) (l := []) (m := [v4, v5]) (r := []) hS rfl rfl ia_26 ti_26 rfl rfl rfl), trivial⟩⟩⟩, ?_⟩
          refine pkAlt [6, 8] (by kernel_rfl) rfl ⟨?_, ?_, trivial⟩
          · skip
            obtain ⟨s22, hg20, h20, hS⟩ := hS.freeze (i := 1) (kd := (Kd.int .i64)) (et := 3) (v := v22) (xs := ([0, 1, 2, 2, (-1), 100] : List Int)) (B := [pt g2 74 ([v23, (.int .i64 x21.2.2.1), (.int .i64 x21.2.2.2)]), pt g3 26 ([v4, v5]), Ow kTGrant 33 v4 x12.1.Given, Ow kTGrant 33 v5 x12.1.Waits, pt g1 26 ([(.slice none 0 0), (.slice none 0 0)])]) rfl
            obtain ⟨x22, hx12, H⟩ := hb H
            refine altE [7, 0] [8, 9, 10, 11, 12, 13] rfl rfl rfl (by decide) (by kernel_rfl) (e_call (fst := []) (vs := [(.pointer (some ⟨g2, 0, none⟩)), v22]) (cap := []) rfl rfl go_30 (St.call (A := [pt g2 74 ([v23, (.int .i64 x21.2.2.1), (.int .i64 x21.2.2.2)])]) (B := [pt g3 26 ([v4, v5]), Ow kTGrant 33 v4 x12.1.Given, Ow kTGrant 33 v5 x12.1.Waits, pt g1 26 ([(.slice none 0 0), (.slice none 0 0)])]) hS (spec_l1Int.spec k _ _ x21.2.1 x21.2.2.1 x21.2.2.2 ([0, 1, 2, 2, (-1), 100] : List Int) v23 g2 v22 (h19.mono hg20) h20 _ hx12))) ?_
            intro v w hR
            obtain ⟨s23, A13, hg21, hS, hR⟩ := hR
            obtain ⟨v24, hv12, rfl, h21⟩ := hR; obtain rfl := hv12.symm
            have hS : St e s23 w [pt g2 74 ([v24, (.int .i64 x22.2.2.1), (.int .i64 x22.2.2.2)]), pt g3 26 ([v4, v5]), Ow kTGrant 33 v4 x12.1.Given, Ow kTGrant 33 v5 x12.1.Waits, pt g1 26 ([(.slice none 0 0), (.slice none 0 0)])] := hS
            refine ⟨⟨knw rfl rfl rfl (p_move rfl), ⟨knw rfl rfl rfl (p_ldb_agg (i := 1) (l := []) (m := [v4, v5]) (r := []) hS rfl rfl ia_26 ti_26 rfl rfl rfl), trivial⟩⟩, ?_⟩
            refine pkE [7, 0] rfl (by decide) (by kernel_rfl) (by kernel_rfl) (e_bslice (kd := (Kd.int .i64)) (et := 3) (ps := [(0, (.const (.int .i64 1))), (1, (.const (.int .i64 2))), (2, (.const (.int .i64 3))), (3, (.const (.int .i64 4))), (4, (.const (.int .i64 4))), (5, (.const (.int .i64 0))), (6, (.const (.int .i64 5)))]) (vs := [(0, (.int .i64 1)), (1, (.int .i64 2)), (2, (.int .i64 3)), (3, (.int .i64 4)), (4, (.int .i64 4)), (5, (.int .i64 0)), (6, (.int .i64 5))]) (cs := [(.int .i64 1), (.int .i64 2), (.int .i64 3), (.int .i64 4), (.int .i64 4), (.int .i64 0), (.int .i64 5)]) (xs := ([1, 2, 3, 4, 4, 0, 5] : List Int)) hS rfl (by intro w; kernel_rfl) rfl (by decide) (Nat.le_of_ble_eq_true rfl) (by exact (rows_cons (kd := (Kd.int .i64)) (x := 1) (c := [(.int .i64 1)]) (cs := [(.int .i64 2), (.int .i64 3), (.int .i64 4), (.int .i64 4), (.int .i64 0), (.int .i64 5)]) rfl (rows_cons (kd := (Kd.int .i64)) (x := 2) (c := [(.int .i64 2)]) (cs := [(.int .i64 3), (.int .i64 4), (.int .i64 4), (.int .i64 0), (.int .i64 5)]) rfl (rows_cons (kd := (Kd.int .i64)) (x := 3) (c := [(.int .i64 3)]) (cs := [(.int .i64 4), (.int .i64 4), (.int .i64 0), (.int .i64 5)]) rfl (rows_cons (kd := (Kd.int .i64)) (x := 4) (c := [(.int .i64 4)]) (cs := [(.int .i64 4), (.int .i64 0), (.int .i64 5)]) rfl (rows_cons (kd := (Kd.int .i64)) (x := 4) (c := [(.int .i64 4)]) (cs := [(.int .i64 0), (.int .i64 5)]) rfl (rows_cons (kd := (Kd.int .i64)) (x := 0) (c := [(.int .i64 0)]) (cs := [(.int .i64 5)]) rfl (rows_cons (kd := (Kd.int .i64)) (x := 5) (c := [(.int .i64 5)]) (cs := []) rfl (Rows.nil _ _ _ _)))))))))) ?_
            intro v25 w hR
            have hS : St e s23 w [Ow (Kd.int .i64) 3 v25 ([1, 2, 3, 4, 4, 0, 5] : List Int), pt g2 74 ([v24, (.int .i64 x22.2.2.1), (.int .i64 x22.2.2.2)]), pt g3 26 ([v4, v5]), Ow kTGrant 33 v4 x12.1.Given, Ow kTGrant 33 v5 x12.1.Waits, pt g1 26 ([(.slice none 0 0), (.slice none 0 0)])] := hR
            refine ⟨⟨knw rfl rfl rfl (p_move rfl), ⟨knw rfl rfl rfl (p_ldb_agg (i := 2) (l := []) (m := [v4, v5]) (r := []) hS rfl rfl ia_26 ti_26 rfl rfl rfl), trivial⟩⟩, ?_⟩
            obtain ⟨s24, hg22, h22, hS⟩ := hS.freeze (i := 0) (kd := (Kd.int .i64)) (et := 3) (v := v25) (xs := ([1, 2, 3, 4, 4, 0, 5] : List Int)) (B := [pt g2 74 ([v24, (.int .i64 x22.2.2.1), (.int .i64 x22.2.2.2)]), pt g3 26 ([v4, v5]), Ow kTGrant 33 v4 x12.1.Given, Ow kTGrant 33 v5 x12.1.Waits, pt g1 26 ([(.slice none 0 0), (.slice none 0 0)])]) rfl
            obtain ⟨x23, hx13, H⟩ := hb H
            refine pkE [0] rfl (by decide) (by kernel_rfl) (by kernel_rfl) (e_call (fst := []) (vs := [(.pointer (some ⟨g2, 0, none⟩)), v25]) (cap := []) rfl rfl go_30 (St.call (A := [pt g2 74 ([v24, (.int .i64 x22.2.2.1), (.int .i64 x22.2.2.2)])]) (B := [pt g3 26 ([v4, v5]), Ow kTGrant 33 v4 x12.1.Given, Ow kTGrant 33 v5 x12.1.Waits, pt g1 26 ([(.slice none 0 0), (.slice none 0 0)])]) hS (spec_l1Int.spec k _ _ x22.2.1 x22.2.2.1 x22.2.2.2 ([1, 2, 3, 4, 4, 0, 5] : List Int) v24 g2 v25 (h21.mono hg22) h22 _ hx13))) ?_
            intro v w hR
            obtain ⟨s25, A14, hg23, hS, hR⟩ := hR
            obtain ⟨v26, hv13, rfl, h23⟩ := hR; obtain rfl := hv13.symm
            have hS : St e s25 w [pt g2 74 ([v26, (.int .i64 x23.2.2.1), (.int .i64 x23.2.2.2)]), pt g3 26 ([v4, v5]), Ow kTGrant 33 v4 x12.1.Given, Ow kTGrant 33 v5 x12.1.Waits, pt g1 26 ([(.slice none 0 0), (.slice none 0 0)])] := hS
            refine ⟨⟨knw rfl rfl rfl (p_ldb_agg (i := 1) (l := []) (m := [v4, v5]) (r := []) hS rfl rfl ia_26 ti_26 rfl rfl rfl), trivial⟩, ?_⟩
            refine pkE0 [] rfl (by kernel_rfl) (by kernel_rfl) (e_stb (i := 4) (l := []) (m := [(.slice none 0 0), (.slice none 0 0)]) (r := []) (m' := [v4, v5]) (cs' := [v4, v5]) hS rfl rfl rfl ti_26 rfl rfl rfl rfl rfl (one_cons (hS.one_ow (i := 2) rfl) (one_cons (hS.one_ow (i := 3) rfl) one_nil)) rfl) ?_
            intro v w hR
            have hS : St e s25 w [pt g1 26 ([v4, v5]), pt g2 74 ([v26, (.int .i64 x23.2.2.1), (.int .i64 x23.2.2.2)]), pt g3 26 ([v4, v5]), Ow kTGrant 33 v4 x12.1.Given, Ow kTGrant 33 v5 x12.1.Waits] := hR
            refine ⟨trivial, ?_⟩
            refine pkE [] rfl (by decide) (by kernel_rfl) (by kernel_rfl) (puEf (p_assign rfl)) ?_
            rintro v w' ⟨rfl, rfl⟩
            refine ⟨trivial, ?_⟩
            refine pkE [] rfl (by decide) (by kernel_rfl) (by kernel_rfl) (puEf (p_assign rfl)) ?_
            rintro v w' ⟨rfl, rfl⟩
            refine ⟨trivial, ?_⟩
            refine pkE [] rfl (by decide) (by kernel_rfl) (by kernel_rfl) (puEf (p_assign rfl)) ?_
            rintro v w' ⟨rfl, rfl⟩
            refine ⟨trivial, ?_⟩
            refine pkF (fun a hF => ?_)
            refine xn ?_
            obtain rfl := hsm H
            replace hS := hS.sel (is := [2, 1, 0, 0, 0]) (A' := [pt g3 26 ([v4, v5]), pt g2 74 ([v26, (.int .i64 x23.2.2.1), (.int .i64 x23.2.2.2)]), pt g1 26 ([v4, v5]), Ow kTGrant 33 v4 x12.1.Given, Ow kTGrant 33 v5 x12.1.Waits]) rfl
            exact ⟨x23.2.1, x23.2.2.1, x23.2.2.2, x12.1.Given, x12.1.Waits, x21.1, x22.1, x23.1, s25, v26, v4, v5, hS, hF.cut ⟨rfl, rfl, rfl, rfl, trivial⟩, (((((hg18.trans hg19).trans hg20).trans hg21).trans hg22).trans hg23), h23, HK1⟩
          · skip
            refine altE [7, 4, 0] [6, 9, 10, 11, 12, 13] rfl rfl rfl (by decide) (by kernel_rfl) (e_bslice (kd := (Kd.int .i64)) (et := 3) (ps := [(0, (.const (.int .i64 1))), (1, (.const (.int .i64 2))), (2, (.const (.int .i64 3))), (3, (.const (.int .i64 4))), (4, (.const (.int .i64 4))), (5, (.const (.int .i64 0))), (6, (.const (.int .i64 5)))]) (vs := [(0, (.int .i64 1)), (1, (.int .i64 2)), (2, (.int .i64 3)), (3, (.int .i64 4)), (4, (.int .i64 4)), (5, (.int .i64 0)), (6, (.int .i64 5))]) (cs := [(.int .i64 1), (.int .i64 2), (.int .i64 3), (.int .i64 4), (.int .i64 4), (.int .i64 0), (.int .i64 5)]) (xs := ([1, 2, 3, 4, 4, 0, 5] : List Int)) hS rfl (by intro w; kernel_rfl) rfl (by decide) (Nat.le_of_ble_eq_true rfl) (by exact (rows_cons (kd := (Kd.int .i64)) (x := 1) (c := [(.int .i64 1)]) (cs := [(.int .i64 2), (.int .i64 3), (.int .i64 4), (.int .i64 4), (.int .i64 0), (.int .i64 5)]) rfl (rows_cons (kd := (Kd.int .i64)) (x := 2) (c := [(.int .i64 2)]) (cs := [(.int .i64 3), (.int .i64 4), (.int .i64 4), (.int .i64 0), (.int .i64 5)]) rfl (rows_cons (kd := (Kd.int .i64)) (x := 3) (c := [(.int .i64 3)]) (cs := [(.int .i64 4), (.int .i64 4), (.int .i64 0), (.int .i64 5)]) rfl (rows_cons (kd := (Kd.int .i64)) (x := 4) (c := [(.int .i64 4)]) (cs := [(.int .i64 4), (.int .i64 0), (.int .i64 5)]) rfl (rows_cons (kd := (Kd.int .i64)) (x := 4) (c := [(.int .i64 4)]) (cs := [(.int .i64 0), (.int .i64 5)]) rfl (rows_cons (kd := (Kd.int .i64)) (x := 0) (c := [(.int .i64 0)]) (cs := [(.int .i64 5)]) rfl (rows_cons (kd := (Kd.int .i64)) (x := 5) (c := [(.int .i64 5)]) (cs := []) rfl (Rows.nil _ _ _ _)))))))))) ?_
            intro v27 w hR
            have hS : St e s21 w [Ow (Kd.int .i64) 3 v27 ([1, 2, 3, 4, 4, 0, 5] : List Int), pt g2 74 ([v23, (.int .i64 x21.2.2.1), (.int .i64 x21.2.2.2)]), Ow (Kd.int .i64) 3 v22 ([0, 1, 2, 2, (-1), 100] : List Int), pt g3 26 ([v4, v5]), Ow kTGrant 33 v4 x12.1.Given, Ow kTGrant 33 v5 x12.1.Waits, pt g1 26 ([(.slice none 0 0), (.slice none 0 0)])] := hR
            refine ⟨⟨knw rfl rfl rfl (p_move rfl), ⟨knw rfl rfl rfl (p_move rfl), ⟨knw rfl rfl rfl (p_ldb_agg (i := 3) (l := []) (m := [v4, v5]) (r := []) hS rfl rfl ia_26 ti_26 rfl rfl rfl), trivial⟩⟩⟩, ?_⟩
            obtain ⟨s26, hg24, h24, hS⟩ := hS.freeze (i := 2) (kd := (Kd.int .i64)) (et := 3) (v := v22) (xs := ([0, 1, 2, 2, (-1), 100] : List Int)) (B := [Ow (Kd.int .i64) 3 v27 ([1, 2, 3, 4, 4, 0, 5] : List Int), pt g2 74 ([v23, (.int .i64 x21.2.2.1), (.int .i64 x21.2.2.2)]), pt g3 26 ([v4, v5]), Ow kTGrant 33 v4 x12.1.Given, Ow kTGrant 33 v5 x12.1.Waits, pt g1 26 ([(.slice none 0 0), (.slice none 0 0)])]) rfl
            replace hS := hS.sel (is := [1, 0, 0, 0, 0, 0]) (A' := [pt g2 74 ([v23, (.int .i64 x21.2.2.1), (.int .i64 x21.2.2.2)]), Ow (Kd.int .i64) 3 v27 ([1, 2, 3, 4, 4, 0, 5] : List Int), pt g3 26 ([v4, v5]), Ow kTGrant 33 v4 x12.1.Given, Ow kTGrant 33 v5 x12.1.Waits, pt g1 26 ([(.slice none 0 0), (.slice none 0 0)])]) rfl
            obtain ⟨x24, hx14, H⟩ := hb H
            refine pkE [7, 0] rfl (by decide) (by kernel_rfl) (by kernel_rfl) (e_call (fst := []) (vs := [(.pointer (some ⟨g2, 0, none⟩)), v22]) (cap := []) rfl rfl go_30 (St.call (A := [pt g2 74 ([v23, (.int .i64 x21.2.2.1), (.int .i64 x21.2.2.2)])]) (B := [Ow (Kd.int .i64) 3 v27 ([1, 2, 3, 4, 4, 0, 5] : List Int), pt g3 26 ([v4, v5]), Ow kTGrant 33 v4 x12.1.Given, Ow kTGrant 33 v5 x12.1.Waits, pt g1 26 ([(.slice none 0 0), (.slice none 0 0)])]) hS (spec_l1Int.spec k _ _ x21.2.1 x21.2.2.1 x21.2.2.2 ([0, 1, 2, 2, (-1), 100] : List Int) v23 g2 v22 (h19.mono hg24) h24 _ hx14))) ?_
            intro v w hR
            obtain ⟨s27, A15, hg25, hS, hR⟩ := hR
            obtain ⟨v28, hv14, rfl, h25⟩ := hR; obtain rfl := hv14.symm
            have hS : St e s27 w [pt g2 74 ([v28, (.int .i64 x24.2.2.1), (.int .i64 x24.2.2.2)]), Ow (Kd.int .i64) 3 v27 ([1, 2, 3, 4, 4, 0, 5] : List Int), pt g3 26 ([v4, v5]), Ow kTGrant 33 v4 x12.1.Given, Ow kTGrant 33 v5 x12.1.Waits, pt g1 26 ([(.slice none 0 0), (.slice none 0 0)])] := hS
            refine ⟨⟨knw rfl rfl rfl (p_move rfl), ⟨knw rfl rfl rfl (p_ldb_agg (i := 2) (l := []) (m := [v4, v5]) (r := []) hS rfl rfl ia_26 ti_26 rfl rfl rfl), trivial⟩⟩, ?_⟩
            obtain ⟨s28, hg26, h26, hS⟩ := hS.freeze (i := 1) (kd := (Kd.int .i64)) (et := 3) (v := v27) (xs := ([1, 2, 3, 4, 4, 0, 5] : List Int)) (B := [pt g2 74 ([v28, (.int .i64 x24.2.2.1), (.int .i64 x24.2.2.2)]), pt g3 26 ([v4, v5]), Ow kTGrant 33 v4 x12.1.Given, Ow kTGrant 33 v5 x12.1.Waits, pt g1 26 ([(.slice none 0 0), (.slice none 0 0)])]) rfl
            obtain ⟨x25, hx15, H⟩ := hb H
            refine pkE [0] rfl (by decide) (by kernel_rfl) (by kernel_rfl) (e_call (fst := []) (vs := [(.pointer (some ⟨g2, 0, none⟩)), v27]) (cap := []) rfl rfl go_30 (St.call (A := [pt g2 74 ([v28, (.int .i64 x24.2.2.1), (.int .i64 x24.2.2.2)])]) (B := [pt g3 26 ([v4, v5]), Ow kTGrant 33 v4 x12.1.Given, Ow kTGrant 33 v5 x12.1.Waits, pt g1 26 ([(.slice none 0 0), (.slice none 0 0)])]) hS (spec_l1Int.spec k _ _ x24.2.1 x24.2.2.1 x24.2.2.2 ([1, 2, 3, 4, 4, 0, 5] : List Int) v28 g2 v27 (h25.mono hg26) h26 _ hx15))) ?_
            intro v w hR
            obtain ⟨s29, A16, hg27, hS, hR⟩ := hR
            obtain ⟨v29, hv15, rfl, h27⟩ := hR; obtain rfl := hv15.symm
            have hS : St e s29 w [pt g2 74 ([v29, (.int .i64 x25.2.2.1), (.int .i64 x25.2.2.2)]), pt g3 26 ([v4, v5]), Ow kTGrant 33 v4 x12.1.Given, Ow kTGrant 33 v5 x12.1.Waits, pt g1 26 ([(.slice none 0 0), (.slice none 0 0)])] := hS
            refine ⟨⟨knw rfl rfl rfl (p_ldb_agg (i := 1) (l := []) (m := [v4, v5]) (r := []) hS rfl rfl ia_26 ti_26 rfl rfl rfl), trivial⟩, ?_⟩
            refine pkE0 [] rfl (by kernel_rfl) (by kernel_rfl) (e_stb (i := 4) (l := []) (m := [(.slice none 0 0), (.slice none 0 0)]) (r := []) (m' := [v4, v5]) (cs' := [v4, v5]) hS rfl rfl rfl ti_26 rfl rfl rfl rfl rfl (one_cons (hS.one_ow (i := 2) rfl) (one_cons (hS.one_ow (i := 3) rfl) one_nil)) rfl) ?_
            intro v w hR
            have hS : St e s29 w [pt g1 26 ([v4, v5]), pt g2 74 ([v29, (.int .i64 x25.2.2.1), (.int .i64 x25.2.2.2)]), pt g3 26 ([v4, v5]), Ow kTGrant 33 v4 x12.1.Given, Ow kTGrant 33 v5 x12.1.Waits] := hR
            refine ⟨trivial, ?_⟩
            refine pkE [] rfl (by decide) (by kernel_rfl) (by kernel_rfl) (puEf (p_assign rfl)) ?_
            rintro v w' ⟨rfl, rfl⟩
            refine ⟨trivial, ?_⟩
            refine pkE [] rfl (by decide) (by kernel_rfl) (by kernel_rfl) (puEf (p_assign rfl)) ?_
            rintro v w' ⟨rfl, rfl⟩
            refine ⟨trivial, ?_⟩
            refine pkE [] rfl (by decide) (by kernel_rfl) (by kernel_rfl) (puEf (p_assign rfl)) ?_
            rintro v w' ⟨rfl, rfl⟩
            refine ⟨trivial, ?_⟩
            refine pkF (fun a hF => ?_)
            refine xn ?_
            obtain rfl := hsm H
            replace hS := hS.sel (is := [2, 1, 0, 0, 0]) (A' := [pt g3 26 ([v4, v5]), pt g2 74 ([v29, (.int .i64 x25.2.2.1), (.int .i64 x25.2.2.2)]), pt g1 26 ([v4, v5]), Ow kTGrant 33 v4 x12.1.Given, Ow kTGrant 33 v5 x12.1.Waits]) rfl
            exact ⟨x25.2.1, x25.2.2.1, x25.2.2.2, x12.1.Given, x12.1.Waits, x21.1, x24.1, x25.1, s29, v29, v4, v5, hS, hF.cut ⟨rfl, rfl, rfl, rfl, trivial⟩, (((((hg18.trans hg19).trans hg24).trans hg25).trans hg26).trans hg27), h27, HK1⟩
        · skip
          refine altE [7, 4, 1, 0] [3, 6, 9, 10, 11, 12, 13] rfl rfl rfl (by decide) (by kernel_rfl) (e_bslice (kd := (Kd.int .i64)) (et := 3) (ps := [(0, (.const (.int .i64 1))), (1, (.const (.int .i64 2))), (2, (.const (.int .i64 3))), (3, (.const (.int .i64 4))), (4, (.const (.int .i64 4))), (5, (.const (.int .i64 0))), (6, (.const (.int .i64 5)))]) (vs := [(0, (.int .i64 1)), (1, (.int .i64 2)), (2, (.int .i64 3)), (3, (.int .i64 4)), (4, (.int .i64 4)), (5, (.int .i64 0)), (6, (.int .i64 5))]) (cs := [(.int .i64 1), (.int .i64 2), (.int .i64 3), (.int .i64 4), (.int .i64 4), (.int .i64 0), (.int .i64 5)]) (xs := ([1, 2, 3, 4, 4, 0, 5] : List Int)) hS rfl (by intro w; kernel_rfl) rfl (by decide) (Nat.le_of_ble_eq_true rfl) (by exact (rows_cons (kd := (Kd.int .i64)) (x := 1) (c := [(.int .i64 1)]) (cs := [(.int .i64 2), (.int .i64 3), (.int .i64 4), (.int .i64 4), (.int .i64 0), (.int .i64 5)]) rfl (rows_cons (kd := (Kd.int .i64)) (x := 2) (c := [(.int .i64 2)]) (cs := [(.int .i64 3), (.int .i64 4), (.int .i64 4), (.int .i64 0), (.int .i64 5)]) rfl (rows_cons (kd := (Kd.int .i64)) (x := 3) (c := [(.int .i64 3)]) (cs := [(.int .i64 4), (.int .i64 4), (.int .i64 0), (.int .i64 5)]) rfl (rows_cons (kd := (Kd.int .i64)) (x := 4) (c := [(.int .i64 4)]) (cs := [(.int .i64 4), (.int .i64 0), (.int .i64 5)]) rfl (rows_cons (kd := (Kd.int .i64)) (x := 4) (c := [(.int .i64 4)]) (cs := [(.int .i64 0), (.int .i64 5)]) rfl (rows_cons (kd := (Kd.int .i64)) (x := 0) (c := [(.int .i64 0)]) (cs := [(.int .i64 5)]) rfl (rows_cons (kd := (Kd.int .i64)) (x := 5) (c := [(.int .i64 5)]) (cs := []) rfl (Rows.nil _ _ _ _)))))))))) ?_
          intro v30 w hR
          have hS : St e s4 w [Ow (Kd.int .i64) 3 v30 ([1, 2, 3, 4, 4, 0, 5] : List Int), Ow (Kd.int .i64) 3 v22 ([0, 1, 2, 2, (-1), 100] : List Int), Ow (Kd.int .i64) 3 v9 ([1, 2, 3, 4, 5, 6, 0, 100] : List Int), pt g3 26 ([v4, v5]), pt g2 74 ([v3, (.int .i64 x12.2.2.1), (.int .i64 x12.2.2.2)]), Ow kTGrant 33 v4 x12.1.Given, Ow kTGrant 33 v5 x12.1.Waits, pt g1 26 ([(.slice none 0 0), (.slice none 0 0)])] := hR
          refine ⟨⟨knw rfl rfl rfl (p_move rfl), ⟨knw rfl rfl rfl (p_move rfl), ⟨knw rfl rfl rfl (p_move rfl), ⟨knw rfl rfl rfl (p_ldb_agg (i := 3) (l := []) (m := [v4, v5]) (r := []) hS rfl rfl ia_26 ti_26 rfl rfl rfl), trivial⟩⟩⟩⟩, ?_⟩
          obtain ⟨s30, hg28, h28, hS⟩ := hS.freeze (i := 2) (kd := (Kd.int .i64)) (et := 3) (v := v9) (xs := ([1, 2, 3, 4, 5, 6, 0, 100] : List Int)) (B := [Ow (Kd.int .i64) 3 v30 ([1, 2, 3, 4, 4, 0, 5] : List Int), Ow (Kd.int .i64) 3 v22 ([0, 1, 2, 2, (-1), 100] : List Int), pt g3 26 ([v4, v5]), pt g2 74 ([v3, (.int .i64 x12.2.2.1), (.int .i64 x12.2.2.2)]), Ow kTGrant 33 v4 x12.1.Given, Ow kTGrant 33 v5 x12.1.Waits, pt g1 26 ([(.slice none 0 0), (.slice none 0 0)])]) rfl
          replace hS := hS.sel (is := [3, 0, 0, 0, 0, 0, 0]) (A' := [pt g2 74 ([v3, (.int .i64 x12.2.2.1), (.int .i64 x12.2.2.2)]), Ow (Kd.int .i64) 3 v30 ([1, 2, 3, 4, 4, 0, 5] : List Int), Ow (Kd.int .i64) 3 v22 ([0, 1, 2, 2, (-1), 100] : List Int), pt g3 26 ([v4, v5]), Ow kTGrant 33 v4 x12.1.Given, Ow kTGrant 33 v5 x12.1.Waits, pt g1 26 ([(.slice none 0 0), (.slice none 0 0)])]) rfl
          obtain ⟨x26, hx16, H⟩ := hb H
          refine pkE [7, 4, 0] rfl (by decide) (by kernel_rfl) (by kernel_rfl) (e_call (fst := []) (vs := [(.pointer (some ⟨g2, 0, none⟩)), v9]) (cap := []) rfl rfl go_30 (St.call (A := [pt g2 74 ([v3, (.int .i64 x12.2.2.1), (.int .i64 x12.2.2.2)])]) (B := [Ow (Kd.int .i64) 3 v30 ([1, 2, 3, 4, 4, 0, 5] : List Int), Ow (Kd.int .i64) 3 v22 ([0, 1, 2, 2, (-1), 100] : List Int), pt g3 26 ([v4, v5]), Ow kTGrant 33 v4 x12.1.Given, Ow kTGrant 33 v5 x12.1.Waits, pt g1 26 ([(.slice none 0 0), (.slice none 0 0)])]) hS (spec_l1Int.spec k _ _ x12.2.1 x12.2.2.1 x12.2.2.2 ([1, 2, 3, 4, 5, 6, 0, 100] : List Int) v3 g2 v9 (h3.mono hg28) h28 _ hx16))) ?_
          intro v w hR
          obtain ⟨s31, A17, hg29, hS, hR⟩ := hR
          obtain ⟨v31, hv16, rfl, h29⟩ := hR; obtain rfl := hv16.symm
          have hS : St e s31 w [pt g2 74 ([v31, (.int .i64 x26.2.2.1), (.int .i64 x26.2.2.2)]), Ow (Kd.int .i64) 3 v30 ([1, 2, 3, 4, 4, 0, 5] : List Int), Ow (Kd.int .i64) 3 v22 ([0, 1, 2, 2, (-1), 100] : List Int), pt g3 26 ([v4, v5]), Ow kTGrant 33 v4 x12.1.Given, Ow kTGrant 33 v5 x12.1.Waits, pt g1 26 ([(.slice none 0 0), (.slice none 0 0)])] := hS
          refine ⟨⟨knw rfl rfl rfl (p_move rfl), ⟨knw rfl rfl rfl (p_move rfl), ⟨knw rfl rfl rfl (p_ldb_agg (i := 3) (l := []) (m := [v4, v5]) (r := []) hS rfl rfl ia_26 ti_26 rfl rfl rfl), trivial⟩⟩⟩, ?_⟩
          obtain ⟨s32, hg30, h30, hS⟩ := hS.freeze (i := 2) (kd := (Kd.int .i64)) (et := 3) (v := v22) (xs := ([0, 1, 2, 2, (-1), 100] : List Int)) (B := [pt g2 74 ([v31, (.int .i64 x26.2.2.1), (.int .i64 x26.2.2.2)]), Ow (Kd.int .i64) 3 v30 ([1, 2, 3, 4, 4, 0, 5] : List Int), pt g3 26 ([v4, v5]), Ow kTGrant 33 v4 x12.1.Given, Ow kTGrant 33 v5 x12.1.Waits, pt g1 26 ([(.slice none 0 0), (.slice none 0 0)])]) rfl
          obtain ⟨x27, hx17, H⟩ := hb H
          refine pkE [7, 0] rfl (by decide) (by kernel_rfl) (by kernel_rfl) (e_call (fst := []) (vs := [(.pointer (some ⟨g2, 0, none⟩)), v22]) (cap := []) rfl rfl go_30 (St.call (A := [pt g2 74 ([v31, (.int .i64 x26.2.2.1), (.int .i64 x26.2.2.2)])]) (B := [Ow (Kd.int .i64) 3 v30 ([1, 2, 3, 4, 4, 0, 5] : List Int), pt g3 26 ([v4, v5]), Ow kTGrant 33 v4 x12.1.Given, Ow kTGrant 33 v5 x12.1.Waits, pt g1 26 ([(.slice none 0 0), (.slice none 0 0)])]) hS (spec_l1Int.spec k _ _ x26.2.1 x26.2.2.1 x26.2.2.2 ([0, 1, 2, 2, (-1), 100] : List Int) v31 g2 v22 (h29.mono hg30) h30 _ hx17))) ?_
          intro v w hR
          obtain ⟨s33, A18, hg31, hS, hR⟩ := hR
          obtain ⟨v32, hv17, rfl, h31⟩ := hR; obtain rfl := hv17.symm
          have hS : St e s33 w [pt g2 74 ([v32, (.int .i64 x27.2.2.1), (.int .i64 x27.2.2.2)]), Ow (Kd.int .i64) 3 v30 ([1, 2, 3, 4, 4, 0, 5] : List Int), pt g3 26 ([v4, v5]), Ow kTGrant 33 v4 x12.1.Given, Ow kTGrant 33 v5 x12.1.Waits, pt g1 26 ([(.slice none 0 0), (.slice none 0 0)])] := hS
          refine ⟨⟨knw rfl rfl rfl (p_move rfl), ⟨knw rfl rfl rfl (p_ldb_agg (i := 2) (l := []) (m := [v4, v5]) (r := []) hS rfl rfl ia_26 ti_26 rfl rfl rfl), trivial⟩⟩, ?_⟩
          obtain ⟨s34, hg32, h32, hS⟩ := hS.freeze (i := 1) (kd := (Kd.int .i64)) (et := 3) (v := v30) (xs := ([1, 2, 3, 4, 4, 0, 5] : List Int)) (B := [pt g2 74 ([v32, (.int .i64 x27.2.2.1), (.int .i64 x27.2.2.2)]), pt g3 26 ([v4, v5]), Ow kTGrant 33 v4 x12.1.Given, Ow kTGrant 33 v5 x12.1.Waits, pt g1 26 ([(.slice none 0 0), (.slice none 0 0)])]) rfl
          obtain ⟨x28, hx18, H⟩ := hb H
          refine pkE [0] rfl (by decide) (by kernel_rfl) (by kernel_rfl) (e_call (fst := []) (vs := [(.pointer (some ⟨g2, 0, none⟩)), v30]) (cap := []) rfl rfl go_30 (St.call (A := [pt g2 74 ([v32, (.int .i64 x27.2.2.1), (.int .i64 x27.2.2.2)])]) (B := [pt g3 26 ([v4, v5]), Ow kTGrant 33 v4 x12.1.Given, Ow kTGrant 33 v5 x12.1.Waits, pt g1 26 ([(.slice none 0 0), (.slice none 0 0)])]) hS (spec_l1Int.spec k _ _ x27.2.1 x27.2.2.1 x27.2.2.2 ([1, 2, 3, 4, 4, 0, 5] : List Int) v32 g2 v30 (h31.mono hg32) h32 _ hx18))) ?_
          intro v w hR
          obtain ⟨s35, A19, hg33, hS, hR⟩ := hR
          obtain ⟨v33, hv18, rfl, h33⟩ := hR; obtain rfl := hv18.symm
          have hS : St e s35 w [pt g2 74 ([v33, (.int .i64 x28.2.2.1), (.int .i64 x28.2.2.2)]), pt g3 26 ([v4, v5]), Ow kTGrant 33 v4 x12.1.Given, Ow kTGrant 33 v5 x12.1.Waits, pt g1 26 ([(.slice none 0 0), (.slice none 0 0)])] := hS
          refine ⟨⟨knw rfl rfl rfl (p_ldb_agg (i := 1) (l := []) (m := [v4, v5]) (r := []) hS rfl rfl ia_26 ti_26 rfl rfl rfl), trivial⟩, ?_⟩
          refine pkE0 [] rfl (by kernel_rfl) (by kernel_rfl) (e_stb (i := 4) (l := []) (m := [(.slice none 0 0), (.slice none 0 0)]) (r := []) (m' := [v4, v5]) (cs' := [v4, v5]) hS rfl rfl rfl ti_26 rfl rfl rfl rfl rfl (one_cons (hS.one_ow (i := 2) rfl) (one_cons (hS.one_ow (i := 3) rfl) one_nil)) rfl) ?_
          intro v w hR
          have hS : St e s35 w [pt g1 26 ([v4, v5]), pt g2 74 ([v33, (.int .i64 x28.2.2.1), (.int .i64 x28.2.2.2)]), pt g3 26 ([v4, v5]), Ow kTGrant 33 v4 x12.1.Given, Ow kTGrant 33 v5 x12.1.Waits] := hR
          refine ⟨trivial, ?_⟩
          refine pkE [] rfl (by decide) (by kernel_rfl) (by kernel_rfl) (puEf (p_assign rfl)) ?_
          rintro v w' ⟨rfl, rfl⟩
          refine ⟨trivial, ?_⟩
          refine pkE [] rfl (by decide) (by kernel_rfl) (by kernel_rfl) (puEf (p_assign rfl)) ?_
          rintro v w' ⟨rfl, rfl⟩
          refine ⟨trivial, ?_⟩
          refine pkE [] rfl (by decide) (by kernel_rfl) (by kernel_rfl) (puEf (p_assign rfl)) ?_
          rintro v w' ⟨rfl, rfl⟩
          refine ⟨trivial, ?_⟩
          refine pkF (fun a hF => ?_)
          refine xn ?_
          obtain rfl := hsm H
          replace hS := hS.sel (is := [2, 1, 0, 0, 0]) (A' := [pt g3 26 ([v4, v5]), pt g2 74 ([v33, (.int .i64 x28.2.2.1), (.int .i64 x28.2.2.2)]), pt g1 26 ([v4, v5]), Ow kTGrant 33 v4 x12.1.Given, Ow kTGrant 33 v5 x12.1.Waits]) rfl
          exact ⟨x28.2.1, x28.2.2.1, x28.2.2.2, x12.1.Given, x12.1.Waits, x26.1, x27.1, x28.1, s35, v33, v4, v5, hS, hF.cut ⟨rfl, rfl, rfl, rfl, trivial⟩, (((((hg28.trans hg29).trans hg30).trans hg31).trans hg32).trans hg33), h33, HK1⟩
      · skip
        refine altE [7, 4, 1, 0] [3, 5, 6, 9, 10, 11, 12, 13] rfl rfl rfl (by decide) (by kernel_rfl) (e_bslice (kd := (Kd.int .i64)) (et := 3) (ps := [(0, (.const (.int .i64 1))), (1, (.const (.int .i64 2))), (2, (.const (.int .i64 3))), (3, (.const (.int .i64 4))), (4, (.const (.int .i64 4))), (5, (.const (.int .i64 0))), (6, (.const (.int .i64 5)))]) (vs := [(0, (.int .i64 1)), (1, (.int .i64 2)), (2, (.int .i64 3)), (3, (.int .i64 4)), (4, (.int .i64 4)), (5, (.int .i64 0)), (6, (.int .i64 5))]) (cs := [(.int .i64 1), (.int .i64 2), (.int .i64 3), (.int .i64 4), (.int .i64 4), (.int .i64 0), (.int .i64 5)]) (xs := ([1, 2, 3, 4, 4, 0, 5] : List Int)) hS rfl (by intro w; kernel_rfl) rfl (by decide) (Nat.le_of_ble_eq_true rfl) (by exact (rows_cons (kd := (Kd.int .i64)) (x := 1) (c := [(.int .i64 1)]) (cs := [(.int .i64 2), (.int .i64 3), (.int .i64 4), (.int .i64 4), (.int .i64 0), (.int .i64 5)]) rfl (rows_cons (kd := (Kd.int .i64)) (x := 2) (c := [(.int .i64 2)]) (cs := [(.int .i64 3), (.int .i64 4), (.int .i64 4), (.int .i64 0), (.int .i64 5)]) rfl (rows_cons (kd := (Kd.int .i64)) (x := 3) (c := [(.int .i64 3)]) (cs := [(.int .i64 4), (.int .i64 4), (.int .i64 0), (.int .i64 5)]) rfl (rows_cons (kd := (Kd.int .i64)) (x := 4) (c := [(.int .i64 4)]) (cs := [(.int .i64 4), (.int .i64 0), (.int .i64 5)]) rfl (rows_cons (kd := (Kd.int .i64)) (x := 4) (c := [(.int .i64 4)]) (cs := [(.int .i64 0), (.int .i64 5)]) rfl (rows_cons (kd := (Kd.int .i64)) (x := 0) (c := [(.int .i64 0)]) (cs := [(.int .i64 5)]) rfl (rows_cons (kd := (Kd.int .i64)) (x := 5) (c := [(.int .i64 5)]) (cs := []) rfl (Rows.nil _ _ _ _)))))))))) ?_
        intro v34 w hR
        have hS : St e s4 w [Ow (Kd.int .i64) 3 v34 ([1, 2, 3, 4, 4, 0, 5] : List Int), Ow (Kd.int .i64) 3 v9 ([1, 2, 3, 4, 5, 6, 0, 100] : List Int), pt g3 26 ([v4, v5]), pt g2 74 ([v3, (.int .i64 x12.2.2.1), (.int .i64 x12.2.2.2)]), Ow kTGrant 33 v4 x12.1.Given, Ow kTGrant 33 v5 x12.1.Waits, pt g1 26 ([(.slice none 0 0), (.slice none 0 0)])] := hR
        refine ⟨⟨knw rfl rfl rfl (p_move rfl), ⟨knw rfl rfl rfl (p_move rfl), ⟨knw rfl rfl rfl (p_move rfl), ⟨knw rfl rfl rfl (p_ldb_agg (i := 2) (l := []) (m := [v4, v5]) (r := []) hS rfl rfl ia_26 ti_26 rfl rfl rfl), trivial⟩⟩⟩⟩, ?_⟩
        refine pkAlt [3, 5] (by kernel_rfl) rfl ⟨?_, ?_, trivial⟩
        · skip
          obtain ⟨s36, hg34, h34, hS⟩ := hS.freeze (i := 1) (kd := (Kd.int .i64)) (et := 3) (v := v9) (xs := ([1, 2, 3, 4, 5, 6, 0, 100] : List Int)) (B := [Ow (Kd.int .i64) 3 v34 ([1, 2, 3, 4, 4, 0, 5] : List Int), pt g3 26 ([v4, v5]), pt g2 74 ([v3, (.int .i64 x12.2.2.1), (.int .i64 x12.2.2.2)]), Ow kTGrant 33 v4 x12.1.Given, Ow kTGrant 33 v5 x12.1.Waits, pt g1 26 ([(.slice none 0 0), (.slice none 0 0)])]) rfl
          replace hS := hS.sel (is := [2, 0, 0, 0, 0, 0]) (A' := [pt g2 74 ([v3, (.int .i64 x12.2.2.1), (.int .i64 x12.2.2.2)]), Ow (Kd.int .i64) 3 v34 ([1, 2, 3, 4, 4, 0, 5] : List Int), pt g3 26 ([v4, v5]), Ow kTGrant 33 v4 x12.1.Given, Ow kTGrant 33 v5 x12.1.Waits, pt g1 26 ([(.slice none 0 0), (.slice none 0 0)])]) rfl
          obtain ⟨x29, hx19, H⟩ := hb H
          refine altE [7, 4, 0] [5, 6, 9, 10, 11, 12, 13] rfl rfl rfl (by decide) (by kernel_rfl) (e_call (fst := []) (vs := [(.pointer (some ⟨g2, 0, none⟩)), v9]) (cap := []) rfl rfl go_30 (St.call (A := [pt g2 74 ([v3, (.int .i64 x12.2.2.1), (.int .i64 x12.2.2.2)])]) (B := [Ow (Kd.int .i64) 3 v34 ([1, 2, 3, 4, 4, 0, 5] : List Int), pt g3 26 ([v4, v5]), Ow kTGrant 33 v4 x12.1.Given, Ow kTGrant 33 v5 x12.1.Waits, pt g1 26 ([(.slice none 0 0), (.slice none 0 0)])]) hS (spec_l1Int.spec k _ _ x12.2.1 x12.2.2.1 x12.2.2.2 ([1, 2, 3, 4, 5, 6, 0, 100] : List Int) v3 g2 v9 (h3.mono hg34) h34 _ hx19))) ?_
          intro v w hR
          obtain ⟨s37, A20, hg35, hS, hR⟩ := hR
          obtain ⟨v35, hv19, rfl, h35⟩ := hR; obtain rfl := hv19.symm
          have hS : St e s37 w [pt g2 74 ([v35, (.int .i64 x29.2.2.1), (.int .i64 x29.2.2.2)]), Ow (Kd.int .i64) 3 v34 ([1, 2, 3, 4, 4, 0, 5] : List Int), pt g3 26 ([v4, v5]), Ow kTGrant 33 v4 x12.1.Given, Ow kTGrant 33 v5 x12.1.Waits, pt g1 26 ([(.slice none 0 0), (.slice none 0 0)])] := hS
          refine ⟨⟨knw rfl rfl rfl (p_move rfl), ⟨knw rfl rfl rfl (p_move rfl), ⟨knw rfl rfl rfl (p_ldb_agg (i := 2) (l := []) (m := [v4, v5]) (r := []) hS rfl rfl ia_26 ti_26 rfl rfl rfl), trivial⟩⟩⟩, ?_⟩
          refine pkE [7, 4, 0] rfl (by decide) (by kernel_rfl) (by kernel_rfl) (e_bslice (kd := (Kd.int .i64)) (et := 3) (ps := [(0, (.const (.int .i64 0))), (1, (.const (.int .i64 1))), (2, (.const (.int .i64 2))), (3, (.const (.int .i64 2))), (4, (.const (.int .i64 (-1)))), (5, (.const (.int .i64 100)))]) (vs := [(0, (.int .i64 0)), (1, (.int .i64 1)), (2, (.int .i64 2)), (3, (.int .i64 2)), (4, (.int .i64 (-1))), (5, (.int .i64 100))]) (cs := [(.int .i64 0), (.int .i64 1), (.int .i64 2), (.int .i64 2), (.int .i64 (-1)), (.int .i64 100)]) (xs := ([0, 1, 2, 2, (-1), 100] : List Int)) hS rfl (by intro w; kernel_rfl) rfl (by decide) (Nat.le_of_ble_eq_true rfl) (by exact (rows_cons (kd := (Kd.int .i64)) (x := 0) (c := [(.int .i64 0)]) (cs := [(.int .i64 1), (.int .i64 2), (.int .i64 2), (.int .i64 (-1)), (.int .i64 100)]) rfl (rows_cons (kd := (Kd.int .i64)) (x := 1) (c := [(.int .i64 1)]) (cs := [(.int .i64 2), (.int .i64 2), (.int .i64 (-1)), (.int .i64 100)]) rfl (rows_cons (kd := (Kd.int .i64)) (x := 2) (c := [(.int .i64 2)]) (cs := [(.int .i64 2), (.int .i64 (-1)), (.int .i64 100)]) rfl (rows_cons (kd := (Kd.int .i64)) (x := 2) (c := [(.int .i64 2)]) (cs := [(.int .i64 (-1)), (.int .i64 100)]) rfl (rows_cons (kd := (Kd.int .i64)) (x := (-1)) (c := [(.int .i64 (-1))]) (cs := [(.int .i64 100)]) rfl (rows_cons (kd := (Kd.int .i64)) (x := 100) (c := [(.int .i64 100)]) (cs := []) rfl (Rows.nil _ _ _ _))))))))) ?_
          intro v36 w hR
          have hS : St e s37 w [Ow (Kd.int .i64) 3 v36 ([0, 1, 2, 2, (-1), 100] : List Int), pt g2 74 ([v35, (.int .i64 x29.2.2.1), (.int .i64 x29.2.2.2)]), Ow (Kd.int .i64) 3 v34 ([1, 2, 3, 4, 4, 0, 5] : List Int), pt g3 26 ([v4, v5]), Ow kTGrant 33 v4 x12.1.Given, Ow kTGrant 33 v5 x12.1.Waits, pt g1 26 ([(.slice none 0 0), (.slice none 0 0)])] := hR
          refine ⟨⟨knw rfl rfl rfl (p_move rfl), ⟨knw rfl rfl rfl (p_move rfl), ⟨knw rfl rfl rfl (p_ldb_agg (i := 3) (l := []) (m := [v4, v5]) (r := []) hS rfl rfl ia_26 ti_26 rfl rfl rfl), trivial⟩⟩⟩, ?_⟩
          obtain ⟨s38, hg36, h36, hS⟩ := hS.freeze (i := 0) (kd := (Kd.int .i64)) (et := 3) (v := v36) (xs := ([0, 1, 2, 2, (-1), 100] : List Int)) (B := [pt g2 74 ([v35, (.int .i64 x29.2.2.1), (.int .i64 x29.2.2.2)]), Ow (Kd.int .i64) 3 v34 ([1, 2, 3, 4, 4, 0, 5] : List Int), pt g3 26 ([v4, v5]), Ow kTGrant 33 v4 x12.1.Given, Ow kTGrant 33 v5 x12.1.Waits, pt g1 26 ([(.slice none 0 0), (.slice none 0 0)])]) rfl
          obtain ⟨x30, hx20, H⟩ := hb H
          refine pkE [7, 0] rfl (by decide) (by kernel_rfl) (by kernel_rfl) (e_call (fst := []) (vs := [(.pointer (some ⟨g2, 0, none⟩)), v36]) (cap := []) rfl rfl go_30 (St.call (A := [pt g2 74 ([v35, (.int .i64 x29.2.2.1), (.int .i64 x29.2.2.2)])]) (B := [Ow (Kd.int .i64) 3 v34 ([1, 2, 3, 4, 4, 0, 5] : List Int), pt g3 26 ([v4, v5]), Ow kTGrant 33 v4 x12.1.Given, Ow kTGrant 33 v5 x12.1.Waits, pt g1 26 ([(.slice none 0 0), (.slice none 0 0)])]) hS (spec_l1Int.spec k _ _ x29.2.1 x29.2.2.1 x29.2.2.2 ([0, 1, 2, 2, (-1), 100] : List Int) v35 g2 v36 (h35.mono hg36) h36 _ hx20))) ?_
          intro v w hR
          obtain ⟨s39, A21, hg37, hS, hR⟩ := hR
          obtain ⟨v37, hv20, rfl, h37⟩ := hR; obtain rfl := hv20.symm
          have hS : St e s39 w [pt g2 74 ([v37, (.int .i64 x30.2.2.1), (.int .i64 x30.2.2.2)]), Ow (Kd.int .i64) 3 v34 ([1, 2, 3, 4, 4, 0, 5] : List Int), pt g3 26 ([v4, v5]), Ow kTGrant 33 v4 x12.1.Given, Ow kTGrant 33 v5 x12.1.Waits, pt g1 26 ([(.slice none 0 0), (.slice none 0 0)])] := hS
          refine ⟨⟨knw rfl rfl rfl (p_move rfl), ⟨knw rfl rfl rfl (p_ldb_agg (i := 2) (l := []) (m := [v4, v5]) (r := []) hS rfl rfl ia_26 ti_26 rfl rfl rfl), trivial⟩⟩, ?_⟩
          obtain ⟨s40, hg38, h38, hS⟩ := hS.freeze (i := 1) (kd := (Kd.int .i64)) (et := 3) (v := v34) (xs := ([1, 2, 3, 4, 4, 0, 5] : List Int)) (B := [pt g2 74 ([v37, (.int .i64 x30.2.2.1), (.int .i64 x30.2.2.2)]), pt g3 26 ([v4, v5]), Ow kTGrant 33 v4 x12.1.Given, Ow kTGrant 33 v5 x12.1.Waits, pt g1 26 ([(.slice none 0 0), (.slice none 0 0)])]) rfl
          obtain ⟨x31, hx21, H⟩ := hb H
          refine pkE [0] rfl (by decide) (by kernel_rfl) (by kernel_rfl) (e_call (fst := []) (vs := [(.pointer (some ⟨g2, 0, none⟩)), v34]) (cap := []) rfl rfl go_30 (St.call (A := [pt g2 74 ([v37, (.int .i64 x30.2.2.1), (.int .i64 x30.2.2.2)])]) (B := [pt g3 26 ([v4, v5]), Ow kTGrant 33 v4 x12.1.Given, Ow kTGrant 33 v5 x12.1.Waits, pt g1 26 ([(.slice none 0 0), (.slice none 0 0)])]) hS (spec_l1Int.spec k _ _ x30.2.1 x30.2.2.1 x30.2.2.2 ([1, 2, 3, 4, 4, 0, 5] : List Int) v37 g2 v34 (h37.mono hg38) h38 _ hx21))) ?_
          intro v w hR
          obtain ⟨s41, A22, hg39, hS, hR⟩ := hR
          obtain ⟨v38, hv21, rfl, h39⟩ := hR; obtain rfl := hv21.symm
          have hS : St e s41 w [pt g2 74 ([v38, (.int .i64 x31.2.2.1), (.int .i64 x31.2.2.2)]), pt g3 26 ([v4, v5]), Ow kTGrant 33 v4 x12.1.Given, Ow kTGrant 33 v5 x12.1.Waits, pt g1 26 ([(.slice none 0 0), (.slice none 0 0)])] := hS
          refine ⟨⟨knw rfl rfl rfl (p_ldb_agg (i := 1) (l := []) (m := [v4, v5]) (r := []) hS rfl rfl ia_26 ti_26 rfl rfl rfl), trivial⟩, ?_⟩
          refine pkE0 [] rfl (by kernel_rfl) (by kernel_rfl) (e_stb (i := 4) (l := []) (m := [(.slice none 0 0), (.slice none 0 0)]) (r := []) (m' := [v4, v5]) (cs' := [v4, v5]) hS rfl rfl rfl ti_26 rfl rfl rfl rfl rfl (one_cons (hS.one_ow (i := 2) rfl) (one_cons (hS.one_ow (i := 3) rfl) one_nil)) rfl) ?_
          intro v w hR
          have hS : St e s41 w [pt g1 26 ([v4, v5]), pt g2 74 ([v38, (.int .i64 x31.2.2.1), (.int .i64 x31.2.2.2)]), pt g3 26 ([v4, v5]), Ow kTGrant 33 v4 x12.1.Given, Ow kTGrant 33 v5 x12.1.Waits] := hR
          refine ⟨trivial, ?_⟩
          refine pkE [] rfl (by decide) (by kernel_rfl) (by kernel_rfl) (puEf (p_assign rfl)) ?_
          rintro v w' ⟨rfl, rfl⟩
          refine ⟨trivial, ?_⟩
          refine pkE [] rfl (by decide) (by kernel_rfl) (by kernel_rfl) (puEf (p_assign rfl)) ?_
          rintro v w' ⟨rfl, rfl⟩
          refine ⟨trivial, ?_⟩
          refine pkE [] rfl (by decide) (by kernel_rfl) (by kernel_rfl) (puEf (p_assign rfl)) ?_
          rintro v w' ⟨rfl, rfl⟩
          refine ⟨trivial, ?_⟩
          refine pkF (fun a hF => ?_)
          refine xn ?_
          obtain rfl := hsm H
          replace hS := hS.sel (is := [2, 1, 0, 0, 0]) (A' := [pt g3 26 ([v4, v5]), pt g2 74 ([v38, (.int .i64 x31.2.2.1), (.int .i64 x31.2.2.2)]), pt g1 26 ([v4, v5]), Ow kTGrant 33 v4 x12.1.Given, Ow kTGrant 33 v5 x12.1.Waits]) rfl
          exact ⟨x31.2.1, x31.2.2.1, x31.2.2.2, x12.1.Given, x12.1.Waits, x29.1, x30.1, x31.1, s41, v38, v4, v5, hS, hF.cut ⟨rfl, rfl, rfl, rfl, trivial⟩, (((((hg34.trans hg35).trans hg36).trans hg37).trans hg38).trans hg39), h39, HK1⟩
        · skip
          refine altE [7, 4, 1, 0] [3, 6, 9, 10, 11, 12, 13] rfl rfl rfl (by decide) (by kernel_rfl) (e_bslice (kd := (Kd.int .i64)) (et := 3) (ps := [(0, (.const (.int .i64 0))), (1, (.const (.int .i64 1))), (2, (.const (.int .i64 2))), (3, (.const (.int .i64 2))), (4, (.const (.int .i64 (-1)))), (5, (.const (.int .i64 100)))]) (vs := [(0, (.int .i64 0)), (1, (.int .i64 1)), (2, (.int .i64 2)), (3, (.int .i64 2)), (4, (.int .i64 (-1))), (5, (.int .i64 100))]) (cs := [(.int .i64 0), (.int .i64 1), (.int .i64 2), (.int .i64 2), (.int .i64 (-1)), (.int .i64 100)]) (xs := ([0, 1, 2, 2, (-1), 100] : List Int)) hS rfl (by intro w; kernel_rfl) rfl (by decide) (Nat.le_of_ble_eq_true rfl) (by exact (rows_cons (kd := (Kd.int .i64)) (x := 0) (c := [(.int .i64 0)]) (cs := [(.int .i64 1), (.int .i64 2), (.int .i64 2), (.int .i64 (-1)), (.int .i64 100)]) rfl (rows_cons (kd := (Kd.int .i64)) (x := 1) (c := [(.int .i64 1)]) (cs := [(.int .i64 2), (.int .i64 2), (.int .i64 (-1)), (.int .i64 100)]) rfl (rows_cons (kd := (Kd.int .i64)) (x := 2) (c := [(.int .i64 2)]) (cs := [(.int .i64 2), (.int .i64 (-1)), (.int .i64 100)]) rfl (rows_cons (kd := (Kd.int .i64)) (x := 2) (c := [(.int .i64 2)]) (cs := [(.int .i64 (-1)), (.int .i64 100)]) rfl (rows_cons (kd := (Kd.int .i64)) (x := (-1)) (c := [(.int .i64 (-1))]) (cs := [(.int .i64 100)]) rfl (rows_cons (kd := (Kd.int .i64)) (x := 100) (c := [(.int .i64 100)]) (cs := []) rfl (Rows.nil _ _ _ _))))))))) ?_
          intro v39 w hR
          have hS : St e s4 w [Ow (Kd.int .i64) 3 v39 ([0, 1, 2, 2, (-1), 100] : List Int), Ow (Kd.int .i64) 3 v34 ([1, 2, 3, 4, 4, 0, 5] : List Int), Ow (Kd.int .i64) 3 v9 ([1, 2, 3, 4, 5, 6, 0, 100] : List Int), pt g3 26 ([v4, v5]), pt g2 74 ([v3, (.int .i64 x12.2.2.1), (.int .i64 x12.2.2.2)]), Ow kTGrant 33 v4 x12.1.Given, Ow kTGrant 33 v5 x12.1.Waits, pt g1 26 ([(.slice none 0 0), (.slice none 0 0)])] := hR
          refine ⟨⟨knw rfl rfl rfl (p_move rfl), ⟨knw rfl rfl rfl (p_move rfl), ⟨knw rfl rfl rfl (p_move rfl), ⟨knw rfl rfl rfl (p_ldb_agg (i := 3) (l := []) (m := [v4, v5]) (r := []) hS rfl rfl ia_26 ti_26 rfl rfl rfl), trivial⟩⟩⟩⟩, ?_⟩
          obtain ⟨s42, hg40, h40, hS⟩ := hS.freeze (i := 2) (kd := (Kd.int .i64)) (et := 3) (v := v9) (xs := ([1, 2, 3, 4, 5, 6, 0, 100] : List Int)) (B := [Ow (Kd.int .i64) 3 v39 ([0, 1, 2, 2, (-1), 100] : List Int), Ow (Kd.int .i64) 3 v34 ([1, 2, 3, 4, 4, 0, 5] : List Int), pt g3 26 ([v4, v5]), pt g2 74 ([v3, (.int .i64 x12.2.2.1), (.int .i64 x12.2.2.2)]), Ow kTGrant 33 v4 x12.1.Given, Ow kTGrant 33 v5 x12.1.Waits, pt g1 26 ([(.slice none 0 0), (.slice none 0 0)])]) rfl
          replace hS := hS.sel (is := [3, 0, 0, 0, 0, 0, 0]) (A' := [pt g2 74 ([v3, (.int .i64 x12.2.2.1), (.int .i64 x12.2.2.2)]), Ow (Kd.int .i64) 3 v39 ([0, 1, 2, 2, (-1), 100] : List Int), Ow (Kd.int .i64) 3 v34 ([1, 2, 3, 4, 4, 0, 5] : List Int), pt g3 26 ([v4, v5]), Ow kTGrant 33 v4 x12.1.Given, Ow kTGrant 33 v5 x12.1.Waits, pt g1 26 ([(.slice none 0 0), (.slice none 0 0)])]) rfl
          obtain ⟨x32, hx22, H⟩ := hb H
          refine pkE [7, 4, 0] rfl (by decide) (by kernel_rfl) (by kernel_rfl) (e_call (fst := []) (vs := [(.pointer (some ⟨g2, 0, none⟩)), v9]) (cap := []) rfl rfl go_30 (St.call (A := [pt g2 74 ([v3, (.int .i64 x12.2.2.1), (.int .i64 x12.2.2.2)])]) (B := [Ow (Kd.int .i64) 3 v39 ([0, 1, 2, 2, (-1), 100] : List Int), Ow (Kd.int .i64) 3 v34 ([1, 2, 3, 4, 4, 0, 5] : List Int), pt g3 26 ([v4, v5]), Ow kTGrant 33 v4 x12.1.Given, Ow kTGrant 33 v5 x12.1.Waits, pt g1 26 ([(.slice none 0 0), (.slice none 0 0)])]) hS (spec_l1Int.spec k _ _ x12.2.1 x12.2.2.1 x12.2.2.2 ([1, 2, 3, 4, 5, 6, 0, 100] : List Int) v3 g2 v9 (h3.mono hg40) h40 _ hx22))) ?_
          intro v w hR
          obtain ⟨s43, A23, hg41, hS, hR⟩ := hR
          obtain ⟨v40, hv22, rfl, h41⟩ := hR; obtain rfl := hv22.symm
          have hS : St e s43 w [pt g2 74 ([v40, (.int .i64 x32.2.2.1), (.int .i64 x32.2.2.2)]), Ow (Kd.int .i64) 3 v39 ([0, 1, 2, 2, (-1), 100] : List Int), Ow (Kd.int .i64) 3 v34 ([1, 2, 3, 4, 4, 0, 5] : List Int), pt g3 26 ([v4, v5]), Ow kTGrant 33 v4 x12.1.Given, Ow kTGrant 33 v5 x12.1.Waits, pt g1 26 ([(.slice none 0 0), (.slice none 0 0)])] := hS
          refine ⟨⟨knw rfl rfl rfl (p_move rfl), ⟨knw rfl rfl rfl (p_move rfl), ⟨knw rfl rfl rfl (p_ldb_agg (i := 3) (l := []) (m := [v4, v5]) (r := []) hS rfl rfl ia_26 ti_26 rfl rfl rfl), trivial⟩⟩⟩, ?_⟩
          obtain ⟨s44, hg42, h42, hS⟩ := hS.freeze (i := 1) (kd := (Kd.int .i64)) (et := 3) (v := v39) (xs := ([0, 1, 2, 2, (-1), 100] : List Int)) (B := [pt g2 74 ([v40, (.int .i64 x32.2.2.1), (.int .i64 x32.2.2.2)]), Ow (Kd.int .i64) 3 v34 ([1, 2, 3, 4, 4, 0, 5] : List Int), pt g3 26 ([v4, v5]), Ow kTGrant 33 v4 x12.1.Given, Ow kTGrant 33 v5 x12.1.Waits, pt g1 26 ([(.slice none 0 0), (.slice none 0 0)])]) rfl
          obtain ⟨x33, hx23, H⟩ := hb H
          refine pkE [7, 0] rfl (by decide) (by kernel_rfl) (by kernel_rfl) (e_call (fst := []) (vs := [(.pointer (some ⟨g2, 0, none⟩)), v39]) (cap := []) rfl rfl go_30 (St.call (A := [pt g2 74 ([v40, (.int .i64 x32.2.2.1), (.int .i64 x32.2.2.2)])]) (B := [Ow (Kd.int .i64) 3 v34 ([1, 2, 3, 4, 4, 0, 5] : List Int), pt g3 26 ([v4, v5]), Ow kTGrant 33 v4 x12.1.Given, Ow kTGrant 33 v5 x12.1.Waits, pt g1 26 ([(.slice none 0 0), (.slice none 0 0)])]) hS (spec_l1Int.spec k _ _ x32.2.1 x32.2.2.1 x32.2.2.2 ([0, 1, 2, 2, (-1), 100] : List Int) v40 g2 v39 (h41.mono hg42) h42 _ hx23))) ?_
          intro v w hR
          obtain ⟨s45, A24, hg43, hS, hR⟩ := hR
          obtain ⟨v41, hv23, rfl, h43⟩ := hR; obtain rfl := hv23.symm
          have hS : St e s45 w [pt g2 74 ([v41, (.int .i64 x33.2.2.1), (.int .i64 x33.2.2.2)]), Ow (Kd.int .i64) 3 v34 ([1, 2, 3, 4, 4, 0, 5] : List Int), pt g3 26 ([v4, v5]), Ow kTGrant 33 v4 x12.1.Given, Ow kTGrant 33 v5 x12.1.Waits, pt g1 26 ([(.slice none 0 0), (.slice none 0 0)])] := hS
          refine ⟨⟨knw rfl rfl rfl (p_move rfl), ⟨knw rfl rfl rfl (p_ldb_agg (i := 2) (l := []) (m := [v4, v5]) (r := []) hS rfl rfl ia_26 ti_26 rfl rfl rfl), trivial⟩⟩, ?_⟩
          obtain ⟨s46, hg44, h44, hS⟩ := hS.freeze (i := 1) (kd := (Kd.int .i64)) (et := 3) (v := v34) (xs := ([1, 2, 3, 4, 4, 0, 5] : List Int)) (B := [pt g2 74 ([v41, (.int .i64 x33.2.2.1), (.int .i64 x33.2.2.2)]), pt g3 26 ([v4, v5]), Ow kTGrant 33 v4 x12.1.Given, Ow kTGrant 33 v5 x12.1.Waits, pt g1 26 ([(.slice none 0 0), (.slice none 0 0)])]) rfl
          obtain ⟨x34, hx24, H⟩ := hb H
          refine pkE [0] rfl (by decide) (by kernel_rfl) (by kernel_rfl) (e_call (fst := []) (vs := [(.pointer (some ⟨g2, 0, none⟩)), v34]) (cap := []) rfl rfl go_30 (St.call (A := [pt g2 74 ([v41, (.int .i64 x33.2.2.1), (.int .i64 x33.2.2.2)])]) (B := [pt g3 26 ([v4, v5]), Ow kTGrant 33 v4 x12.1.Given, Ow kTGrant 33 v5 x12.1.Waits, pt g1 26 ([(.slice none 0 0), (.slice none 0 0)])]) hS (spec_l1Int.spec k _ _ x33.2.1 x33.2.2.1 x33.2.2.2 ([1, 2, 3, 4, 4, 0, 5] : List Int) v41 g2 v34 (h43.mono hg44) h44 _ hx24))) ?_
          intro v w hR
          obtain ⟨s47, A25, hg45, hS, hR⟩ := hR
          obtain ⟨v42, hv24, rfl, h45⟩ := hR; obtain rfl := hv24.symm
          have hS : St e s47 w [pt g2 74 ([v42, (.int .i64 x34.2.2.1), (.int .i64 x34.2.2.2)]), pt g3 26 ([v4, v5]), Ow kTGrant 33 v4 x12.1.Given, Ow kTGrant 33 v5 x12.1.Waits, pt g1 26 ([(.slice none 0 0), (.slice none 0 0)])] := hS
          refine ⟨⟨knw rfl rfl rfl (p_ldb_agg (i := 1) (l := []) (m := [v4, v5]) (r := []) hS rfl rfl ia_26 ti_26 rfl rfl rfl), trivial⟩, ?_⟩
          refine pkE0 [] rfl (by kernel_rfl) (by kernel_rfl) (e_stb (i := 4) (l := []) (m := [(.slice none 0 0), (.slice none 0 0)]) (r := []) (m' := [v4, v5]) (cs' := [v4, v5]) hS rfl rfl rfl ti_26 rfl rfl rfl rfl rfl (one_cons (hS.one_ow (i := 2) rfl) (one_cons (hS.one_ow (i := 3) rfl) one_nil)) rfl) ?_
          intro v w hR
          have hS : St e s47 w [pt g1 26 ([v4, v5]), pt g2 74 ([v42, (.int .i64 x34.2.2.1), (.int .i64 x34.2.2.2)]), pt g3 26 ([v4, v5]), Ow kTGrant 33 v4 x12.1.Given, Ow kTGrant 33 v5 x12.1.Waits] := hR
          refine ⟨trivial, ?_⟩
          refine pkE [] rfl (by decide) (by kernel_rfl) (by kernel_rfl) (puEf (p_assign rfl)) ?_
          rintro v w' ⟨rfl, rfl⟩
          refine ⟨trivial, ?_⟩
          refine pkE [] rfl (by decide) (by kernel_rfl) (by kernel_rfl) (puEf (p_assign rfl)) ?_
          rintro v w' ⟨rfl, rfl⟩
          refine ⟨trivial, ?_⟩
          refine pkE [] rfl (by decide) (by kernel_rfl) (by kernel_rfl) (puEf (p_assign rfl)) ?_
          rintro v w' ⟨rfl, rfl⟩
          refine ⟨trivial, ?_⟩
          refine pkF (fun a hF => ?_)
          refine xn ?_
          obtain rfl := hsm H
          replace hS := hS.sel (is := [2, 1, 0, 0, 0]) (A' := [pt g3 26 ([v4, v5]), pt g2 74 ([v42, (.int .i64 x34.2.2.1), (.int .i64 x34.2.2.2)]), pt g1 26 ([v4, v5]), Ow kTGrant 33 v4 x12.1.Given, Ow kTGrant 33 v5 x12.1.Waits]) rfl
          exact ⟨x34.2.1, x34.2.2.1, x34.2.2.2, x12.1.Given, x12.1.Waits, x32.1, x33.1, x34.1, s47, v42, v4, v5, hS, hF.cut ⟨rfl, rfl, rfl, rfl, trivial⟩, (((((hg40.trans hg41).trans hg42).trans hg43).trans hg44).trans hg45), h45, HK1⟩
    · skip
      refine altE [7, 4, 1, 0] [2, 3, 6, 8, 9, 10, 11, 12, 13] rfl rfl rfl (by decide) (by kernel_rfl) (e_bslice (kd := (Kd.int .i64)) (et := 3) (ps := [(0, (.const (.int .i64 0))), (1, (.const (.int .i64 1))), (2, (.const (.int .i64 2))), (3, (.const (.int .i64 2))), (4, (.const (.int .i64 (-1)))), (5, (.const (.int .i64 100)))]) (vs := [(0, (.int .i64 0)), (1, (.int .i64 1)), (2, (.int .i64 2)), (3, (.int .i64 2)), (4, (.int .i64 (-1))), (5, (.int .i64 100))]) (cs := [(.int .i64 0), (.int .i64 1), (.int .i64 2), (.int .i64 2), (.int .i64 (-1)), (.int .i64 100)]) (xs := ([0, 1, 2, 2, (-1), 100] : List Int)) hS rfl (by intro w; kernel_rfl) rfl (by decide) (Nat.le_of_ble_eq_true rfl) (by exact (rows_cons (kd := (Kd.int .i64)) (x := 0) (c := [(.int .i64 0)]) (cs := [(.int .i64 1), (.int .i64 2), (.int .i64 2), (.int .i64 (-1)), (.int .i64 100)]) rfl (rows_cons (kd := (Kd.int .i64)) (x := 1) (c := [(.int .i64 1)]) (cs := [(.int .i64 2), (.int .i64 2), (.int .i64 (-1)), (.int .i64 100)]) rfl (rows_cons (kd := (Kd.int .i64)) (x := 2) (c := [(.int .i64 2)]) (cs := [(.int .i64 2), (.int .i64 (-1)), (.int .i64 100)]) rfl (rows_cons (kd := (Kd.int .i64)) (x := 2) (c := [(.int .i64 2)]) (cs := [(.int .i64 (-1)), (.int .i64 100)]) rfl (rows_cons (kd := (Kd.int .i64)) (x := (-1)) (c := [(.int .i64 (-1))]) (cs := [(.int .i64 100)]) rfl (rows_cons (kd := (Kd.int .i64)) (x := 100) (c := [(.int .i64 100)]) (cs := []) rfl (Rows.nil _ _ _ _))))))))) ?_
      intro v43 w hR
      have hS : St e s4 w [Ow (Kd.int .i64) 3 v43 ([0, 1, 2, 2, (-1), 100] : List Int), pt g3 26 ([v4, v5]), pt g2 74 ([v3, (.int .i64 x12.2.2.1), (.int .i64 x12.2.2.2)]), Ow kTGrant 33 v4 x12.1.Given, Ow kTGrant 33 v5 x12.1.Waits, pt g1 26 ([(.slice none 0 0), (.slice none 0 0)])] := hR
      refine ⟨⟨knw rfl rfl rfl (p_move rfl), ⟨knw rfl rfl rfl (p_move rfl), ⟨knw rfl rfl rfl (p_move rfl), ⟨knw rfl rfl rfl (p_ldb_agg (i := 1) (l := []) (m := [v4, v5]) (r := []) hS rfl rfl ia_26 ti_26 rfl rfl rfl), trivial⟩⟩⟩⟩, ?_⟩
      refine pkAlt [2, 8] (by kernel_rfl) rfl ⟨?_, ?_, trivial⟩
      · skip
        refine altE [7, 4, 1, 0] [3, 6, 8, 9, 10, 11, 12, 13] rfl rfl rfl (by decide) (by kernel_rfl) (e_bslice (kd := (Kd.int .i64)) (et := 3) (ps := [(0, (.const (.int .i64 1))), (1, (.const (.int .i64 2))), (2, (.const (.int .i64 3))), (3, (.const (.int .i64 4))), (4, (.const (.int .i64 5))), (5, (.const (.int .i64 6))), (6, (.const (.int .i64 0))), (7, (.const (.int .i64 100)))]) (vs := [(0, (.int .i64 1)), (1, (.int .i64 2)), (2, (.int .i64 3)), (3, (.int .i64 4)), (4, (.int .i64 5)), (5, (.int .i64 6)), (6, (.int .i64 0)), (7, (.int .i64 100))]) (cs := [(.int .i64 1), (.int .i64 2), (.int .i64 3), (.int .i64 4), (.int .i64 5), (.int .i64 6), (.int .i64 0), (.int .i64 100)]) (xs := ([1, 2, 3, 4, 5, 6, 0, 100] : List Int)) hS rfl (by intro w; kernel_rfl) rfl (by decide) (Nat.le_of_ble_eq_true rfl) (by exact (rows_cons (kd := (Kd.int .i64)) (x := 1) (c := [(.int .i64 1)]) (cs := [(.int .i64 2), (.int .i64 3), (.int .i64 4), (.int .i64 5), (.int .i64 6), (.int .i64 0), (.int .i64 100)]) rfl (rows_cons (kd := (Kd.int .i64)) (x := 2) (c := [(.int .i64 2)]) (cs := [(.int .i64 3), (.int .i64 4), (.int .i64 5), (.int .i64 6), (.int .i64 0), (.int .i64 100)]) rfl (rows_cons (kd := (Kd.int .i64)) (x := 3) (c := [(.int .i64 3)]) (cs := [(.int .i64 4), (.int .i64 5), (.int .i64 6), (.int .i64 0), (.int .i64 100)]) rfl (rows_cons (kd := (Kd.int .i64)) (x := 4) (c := [(.int .i64 4)]) (cs := [(.int .i64 5), (.int .i64 6), (.int .i64 0), (.int .i64 100)]) rfl (rows_cons (kd := (Kd.int .i64)) (x := 5) (c := [(.int .i64 5)]) (cs := [(.int .i64 6), (.int .i64 0), (.int .i64 100)]) rfl (rows_cons (kd := (Kd.int .i64)) (x := 6) (c := [(.int .i64 6)]) (cs := [(.int .i64 0), (.int .i64 100)]) rfl (rows_cons (kd := (Kd.int .i64)) (x := 0) (c := [(.int .i64 0)]) (cs := [(.int .i64 100)]) rfl (rows_cons (kd := (Kd.int .i64)) (x := 100) (c := [(.int .i64 100)]) (cs := []) rfl (Rows.nil _ _ _ _))))))))))) ?_
        intro v44 w hR
        have hS : St e s4 w [Ow (Kd.int .i64) 3 v44 ([1, 2, 3, 4, 5, 6, 0, 100] : List Int), Ow (Kd.int .i64) 3 v43 ([0, 1, 2, 2, (-1), 100] : List Int), pt g3 26 ([v4, v5]), pt g2 74 ([v3, (.int .i64 x12.2.2.1), (.int .i64 x12.2.2.2)]), Ow kTGrant 33 v4 x12.1.Given, Ow kTGrant 33 v5 x12.1.Waits, pt g1 26 ([(.slice none 0 0), (.slice none 0 0)])] := hR
        refine ⟨⟨knw rfl rfl rfl (p_move rfl), ⟨knw rfl rfl rfl (p_move rfl), ⟨knw rfl rfl rfl (p_move rfl), ⟨knw rfl rfl rfl (p_ldb_agg (i := 2) (l := []) (m := [v4, v5]) (r := []) hS rfl rfl ia_26 ti_26 rfl rfl rfl), trivial⟩⟩⟩⟩, ?_⟩
        refine pkAlt [3, 8] (by kernel_rfl) rfl ⟨?_, ?_, trivial⟩
        · skip
          obtain ⟨s48, hg46, h46, hS⟩ := hS.freeze (i := 0) (kd := (Kd.int .i64)) (et := 3) (v := v44) (xs := ([1, 2, 3, 4, 5, 6, 0, 100] : List Int)) (B := [Ow (Kd.int .i64) 3 v43 ([0, 1, 2, 2, (-1), 100] : List Int), pt g3 26 ([v4, v5]), pt g2 74 ([v3, (.int .i64 x12.2.2.1), (.int .i64 x12.2.2.2)]), Ow kTGrant 33 v4 x12.1.Given, Ow kTGrant 33 v5 x12.1.Waits, pt g1 26 ([(.slice none 0 0), (.slice none 0 0)])]) rfl
          replace hS := hS.sel (is := [2, 0, 0, 0, 0, 0]) (A' := [pt g2 74 ([v3, (.int .i64 x12.2.2.1), (.int .i64 x12.2.2.2)]), Ow (Kd.int .i64) 3 v43 ([0, 1, 2, 2, (-1), 100] : List Int), pt g3 26 ([v4, v5]), Ow kTGrant 33 v4 x12.1.Given, Ow kTGrant 33 v5 x12.1.Waits, pt g1 26 ([(.slice none 0 0), (.slice none 0 0)])]) rfl
          obtain ⟨x35, hx25, H⟩ := hb H
          refine altE [7, 4, 0] [6, 8, 9, 10, 11, 12, 13] rfl rfl rfl (by decide) (by kernel_rfl) (e_call (fst := []) (vs := [(.pointer (some ⟨g2, 0, none⟩)), v44]) (cap := []) rfl rfl go_30 (St.call (A := [pt g2 74 ([v3, (.int .i64 x12.2.2.1), (.int .i64 x12.2.2.2)])]) (B := [Ow (Kd.int .i64) 3 v43 ([0, 1, 2, 2, (-1), 100] : List Int), pt g3 26 ([v4, v5]), Ow kTGrant 33 v4 x12.1.Given, Ow kTGrant 33 v5 x12.1.Waits, pt g1 26 ([(.slice none 0 0), (.slice none 0 0)])]) hS (spec_l1Int.spec k _ _ x12.2.1 x12.2.2.1 x12.2.2.2 ([1, 2, 3, 4, 5, 6, 0, 100] : List Int) v3 g2 v44 (h3.mono hg46) h46 _ hx25))) ?_
          intro v w hR
          obtain ⟨s49, A26, hg47, hS, hR⟩ := hR
          obtain ⟨v45, hv25, rfl, h47⟩ := hR; obtain rfl := hv25.symm
          have hS : St e s49 w [pt g2 74 ([v45, (.int .i64 x35.2.2.1), (.int .i64 x35.2.2.2)]), Ow (Kd.int .i64) 3 v43 ([0, 1, 2, 2, (-1), 100] : List Int), pt g3 26 ([v4, v5]), Ow kTGrant 33 v4 x12.1.Given, Ow kTGrant 33 v5 x12.1.Waits, pt g1 26 ([(.slice none 0 0), (.slice none 0 0)])] := hS
          refine ⟨⟨knw rfl rfl rfl (p_move rfl), ⟨knw rfl rfl rfl (p_move rfl), ⟨knw rfl rfl rfl (p_ldb_agg (i := 2) (l := []) (m := [v4, v5]) (r := []) hS rfl rfl ia_26 ti_26 rfl rfl rfl), trivial⟩⟩⟩, ?_⟩
          refine pkAlt [6, 8] (by kernel_rfl) rfl ⟨?_, ?_, trivial⟩
          · skip
            obtain ⟨s50, hg48, h48, hS⟩ := hS.freeze (i := 1) (kd := (Kd.int .i64)) (et := 3) (v := v43) (xs := ([0, 1, 2, 2, (-1), 100] : List Int)) (B := [pt g2 74 ([v45, (.int .i64 x35.2.2.1), (.int .i64 x35.2.2.2)]), pt g3 26 ([v4, v5]), Ow kTGrant 33 v4 x12.1.Given, Ow kTGrant 33 v5 x12.1.Waits, pt g1 26 ([(.slice none 0 0), (.slice none 0 0)])]) rfl
            obtain ⟨x36, hx26, H⟩ := hb H
            refine altE [7, 0] [8, 9, 10, 11, 12, 13] rfl rfl rfl (by decide) (by kernel_rfl) (e_call (fst := []) (vs := [(.pointer (some ⟨g2, 0, none⟩)), v43]) (cap := []) rfl rfl go_30 (St.call (A := [pt g2 74 ([v45, (.int .i64 x35.2.2.1), (.int .i64 x35.2.2.2)])]) (B := [pt g3 26 ([v4, v5]), Ow kTGrant 33 v4 x12.1.Given, Ow kTGrant 33 v5 x12.1.Waits, pt g1 26 ([(.slice none 0 0), (.slice none 0 0)])]) hS (spec_l1Int.spec k _ _ x35.2.1 x35.2.2.1 x35.2.2.2 ([0, 1, 2, 2, (-1), 100] : List Int) v45 g2 v43 (h47.mono hg48) h48 _ hx26))) ?_
            intro v w hR
            obtain ⟨s51, A27, hg49, hS, hR⟩ := hR
            obtain ⟨v46, hv26, rfl, h49⟩ := hR; obtain rfl := hv26.symm
            have hS : St e s51 w [pt g2 74 ([v46, (.int .i64 x36.2.2.1), (.int .i64 x36.2.2.2)]), pt g3 26 ([v4, v5]), Ow kTGrant 33 v4 x12.1.Given, Ow kTGrant 33 v5 x12.1.Waits, pt g1 26 ([(.slice none 0 0), (.slice none 0 0)])] := hS
            refine ⟨⟨knw rfl rfl rfl (p_move rfl), ⟨knw rfl rfl rfl (p_ldb_agg (i := 1) (l := []) (m := [v4, v5]) (r := []) hS rfl rfl ia_26 ti_26 rfl rfl rfl), trivial⟩⟩, ?_⟩
            refine pkE [7, 0] rfl (by decide) (by kernel_rfl) (by kernel_rfl) (e_bslice (kd := (Kd.int .i64)) (et := 3) (ps := [(0, (.const (.int .i64 1))), (1, (.const (.int .i64 2))), (2, (.const (.int .i64 3))), (3, (.const (.int .i64 4))), (4, (.const (.int .i64 4))), (5, (.const (.int .i64 0))), (6, (.const (.int .i64 5)))]) (vs := [(0, (.int .i64 1)), (1, (.int .i64 2)), (2, (.int .i64 3)), (3, (.int .i64 4)), (4, (.int .i64 4)), (5, (.int .i64 0)), (6, (.int .i64 5))]) (cs := [(.int .i64 1), (.int .i64 2), (.int .i64 3), (.int .i64 4), (.int .i64 4), (.int .i64 0), (.int .i64 5)]) (xs := ([1, 2, 3, 4, 4, 0, 5] : List Int)) hS rfl (by intro w; kernel_rfl) rfl (by decide) (Nat.le_of_ble_eq_true rfl) (by exact (rows_cons (kd := (Kd.int .i64)) (x := 1) (c := [(.int .i64 1)]) (cs := [(.int .i64 2), (.int .i64 3), (.int .i64 4), (.int .i64 4), (.int .i64 0), (.int .i64 5)]) rfl (rows_cons (kd := (Kd.int .i64)) (x := 2) (c := [(.int .i64 2)]) (cs := [(.int .i64 3), (.int .i64 4), (.int .i64 4), (.int .i64 0), (.int .i64 5)]) rfl (rows_cons (kd := (Kd.int .i64)) (x := 3) (c := [(.int .i64 3)]) (cs := [(.int .i64 4), (.int .i64 4), (.int .i64 0), (.int .i64 5)]) rfl (rows_cons (kd := (Kd.int .i64)) (x := 4) (c := [(.int .i64 4)]) (cs := [(.int .i64 4), (.int .i64 0), (.int .i64 5)]) rfl (rows_cons (kd := (Kd.int .i64)) (x := 4) (c := [(.int .i64 4)]) (cs := [(.int .i64 0), (.int .i64 5)]) rfl (rows_cons (kd := (Kd.int .i64)) (x := 0) (c := [(.int .i64 0)]) (cs := [(.int .i64 5)]) rfl (rows_cons (kd := (Kd.int .i64)) (x := 5) (c := [(.int .i64 5)]) (cs := []) rfl (Rows.nil _ _ _ _)))))))))) ?_
            intro v47 w hR
            have hS : St e s51 w [Ow (Kd.int .i64) 3 v47 ([1, 2, 3, 4, 4, 0, 5] : List Int), pt g2 74 ([v46, (.int .i64 x36.2.2.1), (.int .i64 x36.2.2.2)]), pt g3 26 ([v4, v5]), Ow kTGrant 33 v4 x12.1.Given, Ow kTGrant 33 v5 x12.1.Waits, pt g1 26 ([(.slice none 0 0), (.slice none 0 0)])] := hR
            refine ⟨⟨knw rfl rfl rfl (p_move rfl), ⟨knw rfl rfl rfl (p_ldb_agg (i := 2) (l := []) (m := [v4, v5]) (r := []) hS rfl rfl ia_26 ti_26 rfl rfl rfl), trivial⟩⟩, ?_⟩
            obtain ⟨s52, hg50, h50, hS⟩ := hS.freeze (i := 0) (kd := (Kd.int .i64)) (et := 3) (v := v47) (xs := ([1, 2, 3, 4, 4, 0, 5] : List Int)) (B := [pt g2 74 ([v46, (.int .i64 x36.2.2.1), (.int .i64 x36.2.2.2)]), pt g3 26 ([v4, v5]), Ow kTGrant 33 v4 x12.1.Given, Ow kTGrant 33 v5 x12.1.Waits, pt g1 26 ([(.slice none 0 0), (.slice none 0 0)])]) rfl
            obtain ⟨x37, hx27, H⟩ := hb H
            refine pkE [0] rfl (by decide) (by kernel_rfl) (by kernel_rfl) (e_call (fst := []) (vs := [(.pointer (some ⟨g2, 0, none⟩)), v47]) (cap := []) rfl rfl go_30 (St.call (A := [pt g2 74 ([v46, (.int .i64 x36.2.2.1), (.int .i64 x36.2.2.2)])]) (B := [pt g3 26 ([v4, v5]), Ow kTGrant 33 v4 x12.1.Given, Ow kTGrant 33 v5 x12.1.Waits, pt g1 26 ([(.slice none 0 0), (.slice none 0 0)])]) hS (spec_l1Int.spec k _ _ x36.2.1 x36.2.2.1 x36.2.2.2 ([1, 2, 3, 4, 4, 0, 5] : List Int) v46 g2 v47 (h49.mono hg50) h50 _ hx27))) ?_
            intro v w hR
            obtain ⟨s53, A28, hg51, hS, hR⟩ := hR
            obtain ⟨v48, hv27, rfl, h51⟩ := hR; obtain rfl := hv27.symm
            have hS : St e s53 w [pt g2 74 ([v48, (.int .i64 x37.2.2.1), (.int .i64 x37.2.2.2)]), pt g3 26 ([v4, v5]), Ow kTGrant 33 v4 x12.1.Given, Ow kTGrant 33 v5 x12.1.Waits, pt g1 26 ([(.slice none 0 0), (.slice none 0 0)])] := hS
            refine ⟨⟨knw rfl rfl rfl (p_ldb_agg (i := 1) (l := []) (m := [v4, v5]) (r := []) hS rfl rfl ia_26 ti_26 rfl rfl rfl), trivial⟩, ?_⟩
            refine pkE0 [] rfl (by kernel_rfl) (by kernel_rfl) (e_stb (i := 4) (l := []) (m := [(.slice none 0 0), (.slice none 0 0)]) (r := []) (m' := [v4, v5]) (cs' := [v4, v5]) hS rfl rfl rfl ti_26 rfl rfl rfl rfl rfl (one_cons (hS.one_ow (i := 2) rfl) (one_cons (hS.one_ow (i := 3) rfl) one_nil)) rfl) ?_
            intro v w hR
            have hS : St e s53 w [pt g1 26 ([v4, v5]), pt g2 74 ([v48, (.int .i64 x37.2.2.1), (.int .i64 x37.2.2.2)]), pt g3 26 ([v4, v5]), Ow kTGrant 33 v4 x12.1.Given, Ow kTGrant 33 v5 x12.1.Waits] := hR
            refine ⟨trivial, ?_⟩
            refine pkE [] rfl (by decide) (by kernel_rfl) (by kernel_rfl) (puEf (p_assign rfl)) ?_
            rintro v w' ⟨rfl, rfl⟩
            refine ⟨trivial, ?_⟩
            refine pkE [] rfl (by decide) (by kernel_rfl) (by kernel_rfl) (puEf (p_assign rfl)) ?_
            rintro v w' ⟨rfl, rfl⟩
            refine ⟨trivial, ?_⟩
            refine pkE [] rfl (by decide) (by kernel_rfl) (by kernel_rfl) (puEf (p_assign rfl)) ?_
            rintro v w' ⟨rfl, rfl⟩
            refine ⟨trivial, ?_⟩
            refine pkF (fun a hF => ?_)
            refine xn ?_
            obtain rfl := hsm H
            replace hS := hS.sel (is := [2, 1, 0, 0, 0]) (A' := [pt g3 26 ([v4, v5]), pt g2 74 ([v48, (.int .i64 x37.2.2.1), (.int .i64 x37.2.2.2)]), pt g1 26 ([v4, v5]), Ow kTGrant 33 v4 x12.1.Given, Ow kTGrant 33 v5 x12.1.Waits]) rfl
            exact ⟨x37.2.1, x37.2.2.1, x37.2.2.2, x12.1.Given, x12.1.Waits, x35.1, x36.1, x37.1, s53, v48, v4, v5, hS, hF.cut ⟨rfl, rfl, rfl, rfl, trivial⟩, (((((hg46.trans hg47).trans hg48).trans hg49).trans hg50).trans hg51), h51, HK1⟩
          · skip
            refine altE [7, 4, 0] [6, 9, 10, 11, 12, 13] rfl rfl rfl (by decide) (by kernel_rfl) (e_bslice (kd := (Kd.int .i64)) (et := 3) (ps := [(0, (.const (.int .i64 1))), (1, (.const (.int .i64 2))), (2, (.const (.int .i64 3))), (3, (.const (.int .i64 4))), (4, (.const (.int .i64 4))), (5, (.const (.int .i64 0))), (6, (.const (.int .i64 5)))]) (vs := [(0, (.int .i64 1)), (1, (.int .i64 2)), (2, (.int .i64 3)), (3, (.int .i64 4)), (4, (.int .i64 4)), (5, (.int .i64 0)), (6, (.int .i64 5))]) (cs := [(.int .i64 1), (.int .i64 2), (.int .i64 3), (.int .i64 4), (.int .i64 4), (.int .i64 0), (.int .i64 5)]) (xs := ([1, 2, 3, 4, 4, 0, 5] : List Int)) hS rfl (by intro w; kernel_rfl) rfl (by decide) (Nat.le_of_ble_eq_true rfl) (by exact (rows_cons (kd := (Kd.int .i64)) (x := 1) (c := [(.int .i64 1)]) (cs := [(.int .i64 2), (.int .i64 3), (.int .i64 4), (.int .i64 4), (.int .i64 0), (.int .i64 5)]) rfl (rows_cons (kd := (Kd.int .i64)) (x := 2) (c := [(.int .i64 2)]) (cs := [(.int .i64 3), (.int .i64 4), (.int .i64 4), (.int .i64 0), (.int .i64 5)]) rfl (rows_cons (kd := (Kd.int .i64)) (x := 3) (c := [(.int .i64 3)]) (cs := [(.int .i64 4), (.int .i64 4), (.int .i64 0), (.int .i64 5)]) rfl (rows_cons (kd := (Kd.int .i64)) (x := 4) (c := [(.int .i64 4)]) (cs := [(.int .i64 4), (.int .i64 0), (.int .i64 5)]) rfl (rows_cons (kd := (Kd.int .i64)) (x := 4) (c := [(.int .i64 4)]) (cs := [(.int .i64 0), (.int .i64 5)]) rfl (rows_cons (kd := (Kd.int .i64)) (x := 0) (c := [(.int .i64 0)]) (cs := [(.int .i64 5)]) rfl (rows_cons (kd := (Kd.int .i64)) (x := 5) (c := [(.int .i64 5)]) (cs := []) rfl (Rows.nil _ _ _ _)))))))))) ?_
            intro v49 w hR
            have hS : St e s49 w [Ow (Kd.int .i64) 3 v49 ([1, 2, 3, 4, 4, 0, 5] : List Int), pt g2 74 ([v45, (.int .i64 x35.2.2.1), (.int .i64 x35.2.2.2)]), Ow (Kd.int .i64) 3 v43 ([0, 1, 2, 2, (-1), 100] : List Int), pt g3 26 ([v4, v5]), Ow kTGrant 33 v4 x12.1.Given, Ow kTGrant 33 v5 x12.1.Waits, pt g1 26 ([(.slice none 0 0), (.slice none 0 0)])] := hR
            refine ⟨⟨knw rfl rfl rfl (p_move rfl), ⟨knw rfl rfl rfl (p_move rfl), ⟨knw rfl rfl rfl (p_ldb_agg (i := 3) (l := []) (m := [v4, v5]) (r := []) hS rfl rfl ia_26 ti_26 rfl rfl rfl), trivial⟩⟩⟩, ?_⟩
            obtain ⟨s54, hg52, h52, hS⟩ := hS.freeze (i := 2) (kd := (Kd.int .i64)) (et := 3) (v := v43) (xs := ([0, 1, 2, 2, (-1), 100] : List Int)) (B := [Ow (Kd.int .i64) 3 v49 ([1, 2, 3, 4, 4, 0, 5] : List Int), pt g2 74 ([v45, (.int .i64 x35.2.2.1), (.int .i64 x35.2.2.2)]), pt g3 26 ([v4, v5]), Ow kTGrant 33 v4 x12.1.Given, Ow kTGrant 33 v5 x12.1.Waits, pt g1 26 ([(.slice none 0 0), (.slice none 0 0)])]) rfl
            replace hS := hS.sel (is := [1, 0, 0, 0, 0, 0]) (A' := [pt g2 74 ([v45, (.int .i64 x35.2.2.1), (.int .i64 x35.2.2.2)]), Ow (Kd.int .i64) 3 v49 ([1, 2, 3, 4, 4, 0, 5] : List Int), pt g3 26 ([v4, v5]), Ow kTGrant 33 v4 x12.1.Given, Ow kTGrant 33 v5 x12.1.Waits, pt g1 26 ([(.slice none 0 0), (.slice none 0 0)])]) rfl
            obtain ⟨x38, hx28, H⟩ := hb H
            refine pkE [7, 0] rfl (by decide) (by kernel_rfl) (by kernel_rfl) (e_call (fst := []) (vs := [(.pointer (some ⟨g2, 0, none⟩)), v43]) (cap := []) rfl rfl go_30 (St.call (A := [pt g2 74 ([v45, (.int .i64 x35.2.2.1), (.int .i64 x35.2.2.2)])]) (B := [Ow (Kd.int .i64) 3 v49 ([1, 2, 3, 4, 4, 0, 5] : List Int), pt g3 26 ([v4, v5]), Ow kTGrant 33 v4 x12.1.Given, Ow kTGrant 33 v5 x12.1.Waits, pt g1 26 ([(.slice none 0 0), (.slice none 0 0)])]) hS (spec_l1Int.spec k _ _ x35.2.1 x35.2.2.1 x35.2.2.2 ([0, 1, 2, 2, (-1), 100] : List Int) v45 g2 v43 (h47.mono hg52) h52 _ hx28))) ?_
            intro v w hR
            obtain ⟨s55, A29, hg53, hS, hR⟩ := hR
            obtain ⟨v50, hv28, rfl, h53⟩ := hR; obtain rfl := hv28.symm
            have hS : St e s55 w [pt g2 74 ([v50, (.int .i64 x38.2.2.1), (.int .i64 x38.2.2.2)]), Ow (Kd.int .i64) 3 v49 ([1, 2, 3, 4, 4, 0, 5] : List Int), pt g3 26 ([v4, v5]), Ow kTGrant 33 v4 x12.1.Given, Ow kTGrant 33 v5 x12.1.Waits, pt g1 26 ([(.slice none 0 0), (.slice none 0 0)])] := hS
            refine ⟨⟨knw rfl rfl rfl (p_move rfl), ⟨knw rfl rfl rfl (p_ldb_agg (i := 2) (l := []) (m := [v4, v5]) (r := []) hS rfl rfl ia_26 ti_26 rfl rfl rfl), trivial⟩⟩, ?_⟩
            obtain ⟨s56, hg54, h54, hS⟩ := hS.freeze (i := 1) (kd := (Kd.int .i64)) (et := 3) (v := v49) (xs := ([1, 2, 3, 4, 4, 0, 5] : List Int)) (B := [pt g2 74 ([v50, (.int .i64 x38.2.2.1), (.int .i64 x38.2.2.2)]), pt g3 26 ([v4, v5]), Ow kTGrant 33 v4 x12.1.Given, Ow kTGrant 33 v5 x12.1.Waits, pt g1 26 ([(.slice none 0 0), (.slice none 0 0)])]) rfl
            obtain ⟨x39, hx29, H⟩ := hb H
            refine pkE [0] rfl (by decide) (by kernel_rfl) (by kernel_rfl) (e_call (fst := []) (vs := [(.pointer (some ⟨g2, 0, none⟩)), v49]) (cap := []) rfl rfl go_30 (St.call (A := [pt g2 74 ([v50, (.int .i64 x38.2.2.1), (.int .i64 x38.2.2.2)])]) (B := [pt g3 26 ([v4, v5]), Ow kTGrant 33 v4 x12.1.Given, Ow kTGrant 33 v5 x12.1.Waits, pt g1 26 ([(.slice none 0 0), (.slice none 0 0)])]) hS (spec_l1Int.spec k _ _ x38.2.1 x38.2.2.1 x38.2.2.2 ([1, 2, 3, 4, 4, 0, 5] : List Int) v50 g2 v49 (h53.mono hg54) h54 _ hx29))) ?_
            intro v w hR
            obtain ⟨s57, A30, hg55, hS, hR⟩ := hR
            obtain ⟨v51, hv29, rfl, h55⟩ := hR; obtain rfl := hv29.symm
            have hS : St e s57 w [pt g2 74 ([v51, (.int .i64 x39.2.2.1), (.int .i64 x39.2.2.2)]), pt g3 26 ([v4, v5]), Ow kTGrant 33 v4 x12.1.Given, Ow kTGrant 33 v5 x12.1.Waits, pt g1 26 ([(.slice none 0 0), (.slice none 0 0)])] := hS
            refine ⟨⟨knw rfl rfl rfl (p_ldb_agg (i := 1) (l := []) (m := [v4, v5]) (r := []) hS rfl rfl ia_26 ti_26 rfl rfl rfl), trivial⟩, ?_⟩
            refine pkE0 [] rfl (by kernel_rfl) (by kernel_rfl) (e_stb (i := 4) (l := []) (m := [(.slice none 0 0), (.slice none 0 0)]) (r := []) (m' := [v4, v5]) (cs' := [v4, v5]) hS rfl rfl rfl ti_26 rfl rfl rfl rfl rfl (one_cons (hS.one_ow (i := 2) rfl) (one_cons (hS.one_ow (i := 3) rfl) one_nil)) rfl) ?_
            intro v w hR
            have hS : St e s57 w [pt g1 26 ([v4, v5]), pt g2 74 ([v51, (.int .i64 x39.2.2.1), (.int .i64 x39.2.2.2)]), pt g3 26 ([v4, v5]), Ow kTGrant 33 v4 x12.1.Given, Ow kTGrant 33 v5 x12.1.Waits] := hR
            refine ⟨trivial, ?_⟩
            refine pkE [] rfl (by decide) (by kernel_rfl) (by kernel_rfl) (puEf (p_assign rfl)) ?_
            rintro v w' ⟨rfl, rfl⟩
            refine ⟨trivial, ?_⟩
            refine pkE [] rfl (by decide) (by kernel_rfl) (by kernel_rfl) (puEf (p_assign rfl)) ?_
            rintro v w' ⟨rfl, rfl⟩
            refine ⟨trivial, ?_⟩
            refine pkE [] rfl (by decide) (by kernel_rfl) (by kernel_rfl) (puEf (p_assign rfl)) ?_
            rintro v w' ⟨rfl, rfl⟩
            refine ⟨trivial, ?_⟩
            refine pkF (fun a hF => ?_)
            refine xn ?_
            obtain rfl := hsm H
            replace hS := hS.sel (is := [2, 1, 0, 0, 0]) (A' := [pt g3 26 ([v4, v5]), pt g2 74 ([v51, (.int .i64 x39.2.2.1), (.int .i64 x39.2.2.2)]), pt g1 26 ([v4, v5]), Ow kTGrant 33 v4 x12.1.Given, Ow kTGrant 33 v5 x12.1.Waits]) rfl
            exact ⟨x39.2.1, x39.2.2.1, x39.2.2.2, x12.1.Given, x12.1.Waits, x35.1, x38.1, x39.1, s57, v51, v4, v5, hS, hF.cut ⟨rfl, rfl, rfl, rfl, trivial⟩, (((((hg46.trans hg47).trans hg52).trans hg53).trans hg54).trans hg55), h55, HK1⟩
        · skip
          refine altE [7, 4, 1, 0] [3, 6, 9, 10, 11, 12, 13] rfl rfl rfl (by decide) (by kernel_rfl) (e_bslice (kd := (Kd.int .i64)) (et := 3) (ps := [(0, (.const (.int .i64 1))), (1, (.const (.int .i64 2))), (2, (.const (.int .i64 3))), (3, (.const (.int .i64 4))), (4, (.const (.int .i64 4))), (5, (.const (.int .i64 0))), (6, (.const (.int .i64 5)))]) (vs := [(0, (.int .i64 1)), (1, (.int .i64 2)), (2, (.int .i64 3)), (3, (.int .i64 4)), (4, (.int .i64 4)), (5, (.int .i64 0)), (6, (.int .i64 5))]) (cs := [(.int .i64 1), (.int .i64 2), (.int .i64 3), (.int .i64 4), (.int .i64 4), (.int .i64 0), (.int .i64 5)]) (xs := ([1, 2, 3, 4, 4, 0, 5] : List Int)) hS rfl (by intro w; kernel_rfl) rfl (by decide) (Nat.le_of_ble_eq_true rfl) (by exact (rows_cons (kd := (Kd.int .i64)) (x := 1) (c := [(.int .i64 1)]) (cs := [(.int .i64 2), (.int .i64 3), (.int .i64 4), (.int .i64 4), (.int .i64 0), (.int .i64 5)]) rfl (rows_cons (kd := (Kd.int .i64)) (x := 2) (c := [(.int .i64 2)]) (cs := [(.int .i64 3), (.int .i64 4), (.int .i64 4), (.int .i64 0), (.int .i64 5)]) rfl (rows_cons (kd := (Kd.int .i64)) (x := 3) (c := [(.int .i64 3)]) (cs := [(.int .i64 4), (.int .i64 4), (.int .i64 0), (.int .i64 5)]) rfl (rows_cons (kd := (Kd.int .i64)) (x := 4) (c := [(.int .i64 4)]) (cs := [(.int .i64 4), (.int .i64 0), (.int .i64 5)]) rfl (rows_cons (kd := (Kd.int .i64)) (x := 4) (c := [(.int .i64 4)]) (cs := [(.int .i64 0), (.int .i64 5)]) rfl (rows_cons (kd := (Kd.int .i64)) (x := 0) (c := [(.int .i64 0)]) (cs := [(.int .i64 5)]) rfl (rows_cons (kd := (Kd.int .i64)) (x := 5) (c := [(.int .i64 5)]) (cs := []) rfl (Rows.nil _ _ _ _)))))))))) ?_
          intro v52 w hR
          have hS : St e s4 w [Ow (Kd.int .i64) 3 v52 ([1, 2, 3, 4, 4, 0, 5] : List Int), Ow (Kd.int .i64) 3 v44 ([1, 2, 3, 4, 5, 6, 0, 100] : List Int), Ow (Kd.int .i64) 3 v43 ([0, 1, 2, 2, (-1), 100] : List Int), pt g3 26 ([v4, v5]), pt g2 74 ([v3, (.int .i64 x12.2.2.1), (.int .i64 x12.2.2.2)]), Ow kTGrant 33 v4 x12.1.Given, Ow kTGrant 33 v5 x12.1.Waits, pt g1 26 ([(.slice none 0 0), (.slice none 0 0)])] := hR
          refine ⟨⟨knw rfl rfl rfl (p_move rfl), ⟨knw rfl rfl rfl (p_move rfl), ⟨knw rfl rfl rfl (p_move rfl), ⟨knw rfl rfl rfl (p_ldb_agg (i := 3) (l := []) (m := [v4, v5]) (r := []) hS rfl rfl ia_26 ti_26 rfl rfl rfl), trivial⟩⟩⟩⟩, ?_⟩
          obtain ⟨s58, hg56, h56, hS⟩ := hS.freeze (i := 1) (kd := (Kd.int .i64)) (et := 3) (v := v44) (xs := ([1, 2, 3, 4, 5, 6, 0, 100] : List Int)) (B := [Ow (Kd.int .i64) 3 v52 ([1, 2, 3, 4, 4, 0, 5] : List Int), Ow (Kd.int .i64) 3 v43 ([0, 1, 2, 2, (-1), 100] : List Int), pt g3 26 ([v4, v5]), pt g2 74 ([v3, (.int .i64 x12.2.2.1), (.int .i64 x12.2.2.2)]), Ow kTGrant 33 v4 x12.1.Given, Ow kTGrant 33 v5 x12.1.Waits, pt g1 26 ([(.slice none 0 0), (.slice none 0 0)])]) rfl
          replace hS := hS.sel (is := [3, 0, 0, 0, 0, 0, 0]) (A' := [pt g2 74 ([v3, (.int .i64 x12.2.2.1), (.int .i64 x12.2.2.2)]), Ow (Kd.int .i64) 3 v52 ([1, 2, 3, 4, 4, 0, 5] : List Int), Ow (Kd.int .i64) 3 v43 ([0, 1, 2, 2, (-1), 100] : List Int), pt g3 26 ([v4, v5]), Ow kTGrant 33 v4 x12.1.Given, Ow kTGrant 33 v5 x12.1.Waits, pt g1 26 ([(.slice none 0 0), (.slice none 0 0)])]) rfl
          obtain ⟨x40, hx30, H⟩ := hb H
          refine pkE [7, 4, 0] rfl (by decide) (by kernel_rfl) (by kernel_rfl) (e_call (fst := []) (vs := [(.pointer (some ⟨g2, 0, none⟩)), v44]) (cap := []) rfl rfl go_30 (St.call (A := [pt g2 74 ([v3, (.int .i64 x12.2.2.1), (.int .i64 x12.2.2.2)])]) (B := [Ow (Kd.int .i64) 3 v52 ([1, 2, 3, 4, 4, 0, 5] : List Int), Ow (Kd.int .i64) 3 v43 ([0, 1, 2, 2, (-1), 100] : List Int), pt g3 26 ([v4, v5]), Ow kTGrant 33 v4 x12.1.Given, Ow kTGrant 33 v5 x12.1.Waits, pt g1 26 ([(.slice none 0 0), (.slice none 0 0)])]) hS (spec_l1Int.spec k _ _ x12.2.1 x12.2.2.1 x12.2.2.2 ([1, 2, 3, 4, 5, 6, 0, 100] : List Int) v3 g2 v44 (h3.mono hg56) h56 _ hx30))) ?_
          intro v w hR
          obtain ⟨s59, A31, hg57, hS, hR⟩ := hR
          obtain ⟨v53, hv30, rfl, h57⟩ := hR; obtain rfl := hv30.symm
          have hS : St e s59 w [pt g2 74 ([v53, (.int .i64 x40.2.2.1), (.int .i64 x40.2.2.2)]), Ow (Kd.int .i64) 3 v52 ([1, 2, 3, 4, 4, 0, 5] : List Int), Ow (Kd.int .i64) 3 v43 ([0, 1, 2, 2, (-1), 100] : List Int), pt g3 26 ([v4, v5]), Ow kTGrant 33 v4 x12.1.Given, Ow kTGrant 33 v5 x12.1.Waits, pt g1 26 ([(.slice none 0 0), (.slice none 0 0)])] := hS
          refine ⟨⟨knw rfl rfl rfl (p_move rfl), ⟨knw rfl rfl rfl (p_move rfl), ⟨knw rfl rfl rfl (p_ldb_agg (i := 3) (l := []) (m := [v4, v5]) (r := []) hS rfl rfl ia_26 ti_26 rfl rfl rfl), trivial⟩⟩⟩, ?_⟩
          obtain ⟨s60, hg58, h58, hS⟩ := hS.freeze (i := 2) (kd := (Kd.int .i64)) (et := 3) (v := v43) (xs := ([0, 1, 2, 2, (-1), 100] : List Int)) (B := [pt g2 74 ([v53, (.int .i64 x40.2.2.1), (.int .i64 x40.2.2.2)]), Ow (Kd.int .i64) 3 v52 ([1, 2, 3, 4, 4, 0, 5] : List Int), pt g3 26 ([v4, v5]), Ow kTGrant 33 v4 x12.1.Given, Ow kTGrant 33 v5 x12.1.Waits, pt g1 26 ([(.slice none 0 0), (.slice none 0 0)])]) rfl
          obtain ⟨x41, hx31, H⟩ := hb H
          refine pkE [7, 0] rfl (by decide) (by kernel_rfl) (by kernel_rfl) (e_call (fst := []) (vs := [(.pointer (some ⟨g2, 0, none⟩)), v43]) (cap := []) rfl rfl go_30 (St.call (A := [pt g2 74 ([v53, (.int .i64 x40.2.2.1), (.int .i64 x40.2.2.2)])]) (B := [Ow (Kd.int .i64) 3 v52 ([1, 2, 3, 4, 4, 0, 5] : List Int), pt g3 26 ([v4, v5]), Ow kTGrant 33 v4 x12.1.Given, Ow kTGrant 33 v5 x12.1.Waits, pt g1 26 ([(.slice none 0 0), (.slice none 0 0)])]) hS (spec_l1Int.spec k _ _ x40.2.1 x40.2.2.1 x40.2.2.2 ([0, 1, 2, 2, (-1), 100] : List Int) v53 g2 v43 (h57.mono hg58) h58 _ hx31))) ?_
          intro v w hR
          obtain ⟨s61, A32, hg59, hS, hR⟩ := hR
          obtain ⟨v54, hv31, rfl, h59⟩ := hR; obtain rfl := hv31.symm
          have hS : St e s61 w [pt g2 74 ([v54, (.int .i64 x41.2.2.1), (.int .i64 x41.2.2.2)]), Ow (Kd.int .i64) 3 v52 ([1, 2, 3, 4, 4, 0, 5] : List Int), pt g3 26 ([v4, v5]), Ow kTGrant 33 v4 x12.1.Given, Ow kTGrant 33 v5 x12.1.Waits, pt g1 26 ([(.slice none 0 0), (.slice none 0 0)])] := hS
          refine ⟨⟨knw rfl rfl rfl (p_move rfl), ⟨knw rfl rfl rfl (p_ldb_agg (i := 2) (l := []) (m := [v4, v5]) (r := []) hS rfl rfl ia_26 ti_26 rfl rfl rfl), trivial⟩⟩, ?_⟩
          obtain ⟨s62, hg60, h60, hS⟩ := hS.freeze (i := 1) (kd := (Kd.int .i64)) (et := 3) (v := v52) (xs := ([1, 2, 3, 4, 4, 0, 5] : List Int)) (B := [pt g2 74 ([v54, (.int .i64 x41.2.2.1), (.int .i64 x41.2.2.2)]), pt g3 26 ([v4, v5]), Ow kTGrant 33 v4 x12.1.Given, Ow kTGrant 33 v5 x12.1.Waits, pt g1 26 ([(.slice none 0 0), (.slice none 0 0)])]) rfl
          obtain ⟨x42, hx32, H⟩ := hb H
          refine pkE [0] rfl (by decide) (by kernel_rfl) (by kernel_rfl) (e_call (fst := []) (vs := [(.pointer (some ⟨g2, 0, none⟩)), v52]) (cap := []) rfl rfl go_30 (St.call (A := [pt g2 74 ([v54, (.int .i64 x41.2.2.1), (.int .i64 x41.2.2.2)])]) (B := [pt g3 26 ([v4, v5]), Ow kTGrant 33 v4 x12.1.Given, Ow kTGrant 33 v5 x12.1.Waits, pt g1 26 ([(.slice none 0 0), (.slice none 0 0)])]) hS (spec_l1Int.spec k _ _ x41.2.1 x41.2.2.1 x41.2.2.2 ([1, 2, 3, 4, 4, 0, 5] : List Int) v54 g2 v52 (h59.mono hg60) h60 _ hx32))) ?_
          intro v w hR
          obtain ⟨s63, A33, hg61, hS, hR⟩ := hR
          obtain ⟨v55, hv32, rfl, h61⟩ := hR; obtain rfl := hv32.symm
          have hS : St e s63 w [pt g2 74 ([v55, (.int .i64 x42.2.2.1), (.int .i64 x42.2.2.2)]), pt g3 26 ([v4, v5]), Ow kTGrant 33 v4 x12.1.Given, Ow kTGrant 33 v5 x12.1.Waits, pt g1 26 ([(.slice none 0 0), (.slice none 0 0)])] := hS
          refine ⟨⟨knw rfl rfl rfl (p_ldb_agg (i := 1) (l := []) (m := [v4, v5]) (r := []) hS rfl rfl ia_26 ti_26 rfl rfl rfl), trivial⟩, ?_⟩
          refine pkE0 [] rfl (by kernel_rfl) (by kernel_rfl) (e_stb (i := 4) (l := []) (m := [(.slice none 0 0), (.slice none 0 0)]) (r := []) (m' := [v4, v5]) (cs' := [v4, v5]) hS rfl rfl rfl ti_26 rfl rfl rfl rfl rfl (one_cons (hS.one_ow (i := 2) rfl) (one_cons (hS.one_ow (i := 3) rfl) one_nil)) rfl) ?_
          intro v w hR
          have hS : St e s63 w [pt g1 26 ([v4, v5]), pt g2 74 ([v55, (.int .i64 x42.2.2.1), (.int .i64 x42.2.2.2)]), pt g3 26 ([v4, v5]), Ow kTGrant 33 v4 x12.1.Given, Ow kTGrant 33 v5 x12.1.Waits] := hR
          refine ⟨trivial, ?_⟩
          refine pkE [] rfl (by decide) (by kernel_rfl) (by kernel_rfl) (puEf (p_assign rfl)) ?_
          rintro v w' ⟨rfl, rfl⟩
          refine ⟨trivial, ?_⟩
          refine pkE [] rfl (by decide) (by kernel_rfl) (by kernel_rfl) (puEf (p_assign rfl)) ?_
          rintro v w' ⟨rfl, rfl⟩
          refine ⟨trivial, ?_⟩
          refine pkE [] rfl (by decide) (by kernel_rfl) (by kernel_rfl) (puEf (p_assign rfl)) ?_
          rintro v w' ⟨rfl, rfl⟩
          refine ⟨trivial, ?_⟩
          refine pkF (fun a hF => ?_)
          refine xn ?_
          obtain rfl := hsm H
          replace hS := hS.sel (is := [2, 1, 0, 0, 0]) (A' := [pt g3 26 ([v4, v5]), pt g2 74 ([v55, (.int .i64 x42.2.2.1), (.int .i64 x42.2.2.2)]), pt g1 26 ([v4, v5]), Ow kTGrant 33 v4 x12.1.Given, Ow kTGrant 33 v5 x12.1.Waits]) rfl
          exact ⟨x42.2.1, x42.2.2.1, x42.2.2.2, x12.1.Given, x12.1.Waits, x40.1, x41.1, x42.1, s63, v55, v4, v5, hS, hF.cut ⟨rfl, rfl, rfl, rfl, trivial⟩, (((((hg56.trans hg57).trans hg58).trans hg59).trans hg60).trans hg61), h61, HK1⟩
      · skip
        refine altE [7, 4, 1, 0] [2, 3, 6, 9, 10, 11, 12, 13] rfl rfl rfl (by decide) (by kernel_rfl) (e_bslice (kd := (Kd.int .i64)) (et := 3) (ps := [(0, (.const (.int .i64 1))), (1, (.const (.int .i64 2))), (2, (.const (.int .i64 3))), (3, (.const (.int .i64 4))), (4, (.const (.int .i64 4))), (5, (.const (.int .i64 0))), (6, (.const (.int .i64 5)))]) (vs := [(0, (.int .i64 1)), (1, (.int .i64 2)), (2, (.int .i64 3)), (3, (.int .i64 4)), (4, (.int .i64 4)), (5, (.int .i64 0)), (6, (.int .i64 5))]) (cs := [(.int .i64 1), (.int .i64 2), (.int .i64 3), (.int .i64 4), (.int .i64 4), (.int .i64 0), (.int .i64 5)]) (xs := ([1, 2, 3, 4, 4, 0, 5] : List Int)) hS rfl (by intro w; kernel_rfl) rfl (by decide) (Nat.le_of_ble_eq_true rfl) (by exact (rows_cons (kd := (Kd.int .i64)) (x := 1) (c := [(.int .i64 1)]) (cs := [(.int .i64 2), (.int .i64 3), (.int .i64 4), (.int .i64 4), (.int .i64 0), (.int .i64 5)]) rfl (rows_cons (kd := (Kd.int .i64)) (x := 2) (c := [(.int .i64 2)]) (cs := [(.int .i64 3), (.int .i64 4), (.int .i64 4), (.int .i64 0), (.int .i64 5)]) rfl (rows_cons (kd := (Kd.int .i64)) (x := 3) (c := [(.int .i64 3)]) (cs := [(.int .i64 4), (.int .i64 4), (.int .i64 0), (.int .i64 5)]) rfl (rows_cons (kd := (Kd.int .i64)) (x := 4) (c := [(.int .i64 4)]) (cs := [(.int .i64 4), (.int .i64 0), (.int .i64 5)]) rfl (rows_cons (kd := (Kd.int .i64)) (x := 4) (c := [(.int .i64 4)]) (cs := [(.int .i64 0), (.int .i64 5)]) rfl (rows_cons (kd := (Kd.int .i64)) (x := 0) (c := [(.int .i64 0)]) (cs := [(.int .i64 5)]) rfl (rows_cons (kd := (Kd.int .i64)) (x := 5) (c := [(.int .i64 5)]) (cs := []) rfl (Rows.nil _ _ _ _)))))))))) ?_
        intro v56 w hR
        have hS : St e s4 w [Ow (Kd.int .i64) 3 v56 ([1, 2, 3, 4, 4, 0, 5] : List Int), Ow (Kd.int .i64) 3 v43 ([0, 1, 2, 2, (-1), 100] : List Int), pt g3 26 ([v4, v5]), pt g2 74 ([v3, (.int .i64 x12.2.2.1), (.int .i64 x12.2.2.2)]), Ow kTGrant 33 v4 x12.1.Given, Ow kTGrant 33 v5 x12.1.Waits, pt g1 26 ([(.slice none 0 0), (.slice none 0 0)])] := hR
        refine ⟨⟨knw rfl rfl rfl (p_move rfl), ⟨knw rfl rfl rfl (p_move rfl), ⟨knw rfl rfl rfl (p_move rfl), ⟨knw rfl rfl rfl (p_ldb_agg (i := 2) (l := []) (m := [v4, v5]) (r := []) hS rfl rfl ia_26 ti_26 rfl rfl rfl), trivial⟩⟩⟩⟩, ?_⟩
        refine pkE [7, 4, 1, 0] rfl (by decide) (by kernel_rfl) (by kernel_rfl) (e_bslice (kd := (Kd.int .i64)) (et := 3) (ps := [(0, (.const (.int .i64 1))), (1, (.const (.int .i64 2))), (2, (.const (.int .i64 3))), (3, (.const (.int .i64 4))), (4, (.const (.int .i64 5))), (5, (.const (.int .i64 6))), (6, (.const (.int .i64 0))), (7, (.const (.int .i64 100)))]) (vs := [(0, (.int .i64 1)), (1, (.int .i64 2)), (2, (.int .i64 3)), (3, (.int .i64 4)), (4, (.int .i64 5)), (5, (.int .i64 6)), (6, (.int .i64 0)), (7, (.int .i64 100))]) (cs := [(.int .i64 1), (.int .i64 2), (.int .i64 3), (.int .i64 4), (.int .i64 5), (.int .i64 6), (.int .i64 0), (.int .i64 100)]) (xs := ([1, 2, 3, 4, 5, 6, 0, 100] : List Int)) hS rfl (by intro w; kernel_rfl) rfl (by decide) (Nat.le_of_ble_eq_true rfl) (by exact (rows_cons (kd := (Kd.int .i64)) (x := 1) (c := [(.int .i64 1)]) (cs := [(.int .i64 2), (.int .i64 3), (.int .i64 4), (.int .i64 5), (.int .i64 6), (.int .i64 0), (.int .i64 100)]) rfl (rows_cons (kd := (Kd.int .i64)) (x := 2) (c := [(.int .i64 2)]) (cs := [(.int .i64 3), (.int .i64 4), (.int .i64 5), (.int .i64 6), (.int .i64 0), (.int .i64 100)]) rfl (rows_cons (kd := (Kd.int .i64)) (x := 3) (c := [(.int .i64 3)]) (cs := [(.int .i64 4), (.int .i64 5), (.int .i64 6), (.int .i64 0), (.int .i64 100)]) rfl (rows_cons (kd := (Kd.int .i64)) (x := 4) (c := [(.int .i64 4)]) (cs := [(.int .i64 5), (.int .i64 6), (.int .i64 0), (.int .i64 100)]) rfl (rows_cons (kd := (Kd.int .i64)) (x := 5) (c := [(.int .i64 5)]) (cs := [(.int .i64 6), (.int .i64 0), (.int .i64 100)]) rfl (rows_cons (kd := (Kd.int .i64)) (x := 6) (c := [(.int .i64 6)]) (cs := [(.int .i64 0), (.int .i64 100)]) rfl (rows_cons (kd := (Kd.int .i64)) (x := 0) (c := [(.int .i64 0)]) (cs := [(.int .i64 100)]) rfl (rows_cons (kd := (Kd.int .i64)) (x := 100) (c := [(.int .i64 100)]) (cs := []) rfl (Rows.nil _ _ _ _))))))))))) ?_
        intro v57 w hR
        have hS : St e s4 w [Ow (Kd.int .i64) 3 v57 ([1, 2, 3, 4, 5, 6, 0, 100] : List Int), Ow (Kd.int .i64) 3 v56 ([1, 2, 3, 4, 4, 0, 5] : List Int), Ow (Kd.int .i64) 3 v43 ([0, 1, 2, 2, (-1), 100] : List Int), pt g3 26 ([v4, v5]), pt g2 74 ([v3, (.int .i64 x12.2.2.1), (.int .i64 x12.2.2.2)]), Ow kTGrant 33 v4 x12.1.Given, Ow kTGrant 33 v5 x12.1.Waits, pt g1 26 ([(.slice none 0 0), (.slice none 0 0)])] := hR
        refine ⟨⟨knw rfl rfl rfl (p_move rfl), ⟨knw rfl rfl rfl (p_move rfl), ⟨knw rfl rfl rfl (p_move rfl), ⟨knw rfl rfl rfl (p_ldb_agg (i := 3) (l := []) (m := [v4, v5]) (r := []) hS rfl rfl ia_26 ti_26 rfl rfl rfl), trivial⟩⟩⟩⟩, ?_⟩
        obtain ⟨s64, hg62, h62, hS⟩ := hS.freeze (i := 0) (kd := (Kd.int .i64)) (et := 3) (v := v57) (xs := ([1, 2, 3, 4, 5, 6, 0, 100] : List Int)) (B := [Ow (Kd.int .i64) 3 v56 ([1, 2, 3, 4, 4, 0, 5] : List Int), Ow (Kd.int .i64) 3 v43 ([0, 1, 2, 2, (-1), 100] : List Int), pt g3 26 ([v4, v5]), pt g2 74 ([v3, (.int .i64 x12.2.2.1), (.int .i64 x12.2.2.2)]), Ow kTGrant 33 v4 x12.1.Given, Ow kTGrant 33 v5 x12.1.Waits, pt g1 26 ([(.slice none 0 0), (.slice none 0 0)])]) rfl
        replace hS := hS.sel (is := [3, 0, 0, 0, 0, 0, 0]) (A' := [pt g2 74 ([v3, (.int .i64 x12.2.2.1), (.int .i64 x12.2.2.2)]), Ow (Kd.int .i64) 3 v56 ([1, 2, 3, 4, 4, 0, 5] : List Int), Ow (Kd.int .i64) 3 v43 ([0, 1, 2, 2, (-1), 100] : List Int), pt g3 26 ([v4, v5]), Ow kTGrant 33 v4 x12.1.Given, Ow kTGrant 33 v5 x12.1.Waits, pt g1 26 ([(.slice none 0 0), (.slice none 0 0)])]) rfl
        obtain ⟨x43, hx33, H⟩ := hb H
        refine pkE [7, 4, 0] rfl (by decide) (by kernel_rfl) (by kernel_rfl) (e_call (fst := []) (vs := [(.pointer (some ⟨g2, 0, none⟩)), v57]) (cap := []) rfl rfl go_30 (St.call (A := [pt g2 74 ([v3, (.int .i64 x12.2.2.1), (.int .i64 x12.2.2.2)])]) (B := [Ow (Kd.int .i64) 3 v56 ([1, 2, 3, 4, 4, 0, 5] : List Int), Ow (Kd.int .i64) 3 v43 ([0, 1, 2, 2, (-1), 100] : List Int), pt g3 26 ([v4, v5]), Ow kTGrant 33 v4 x12.1.Given, Ow kTGrant 33 v5 x12.1.Waits, pt g1 26 ([(.slice none 0 0), (.slice none 0 0)])]) hS (spec_l1Int.spec k _ _ x12.2.1 x12.2.2.1 x12.2.2.2 ([1, 2, 3, 4, 5, 6, 0, 100] : List Int) v3 g2 v57 (h3.mono hg62) h62 _ hx33))) ?_
        intro v w hR
        obtain ⟨s65, A34, hg63, hS, hR⟩ := hR
        obtain ⟨v58, hv33, rfl, h63⟩ := hR; obtain rfl := hv33.symm
        have hS : St e s65 w [pt g2 74 ([v58, (.int .i64 x43.2.2.1), (.int .i64 x43.2.2.2)]), Ow (Kd.int .i64) 3 v56 ([1, 2, 3, 4, 4, 0, 5] : List Int), Ow (Kd.int .i64) 3 v43 ([0, 1, 2, 2, (-1), 100] : List Int), pt g3 26 ([v4, v5]), Ow kTGrant 33 v4 x12.1.Given, Ow kTGrant 33 v5 x12.1.Waits, pt g1 26 ([(.slice none 0 0), (.slice none 0 0)])] := hS
        refine ⟨⟨knw rfl rfl rfl (p_move rfl), ⟨knw rfl rfl rfl (p_move rfl), ⟨knw rfl rfl rfl (p_ldb_agg (i := 3) (l := []) (m := [v4, v5]) (r := []) hS rfl rfl ia_26 ti_26 rfl rfl rfl), trivial⟩⟩⟩, ?_⟩
        obtain ⟨s66, hg64, h64, hS⟩ := hS.freeze (i := 2) (kd := (Kd.int .i64)) (et := 3) (v := v43) (xs := ([0, 1, 2, 2, (-1), 100] : List Int)) (B := [pt g2 74 ([v58, (.int .i64 x43.2.2.1), (.int .i64 x43.2.2.2)]), Ow (Kd.int .i64) 3 v56 ([1, 2, 3, 4, 4, 0, 5] : List Int), pt g3 26 ([v4, v5]), Ow kTGrant 33 v4 x12.1.Given, Ow kTGrant 33 v5 x12.1.Waits, pt g1 26 ([(.slice none 0 0), (.slice none 0 0)])]) rfl
        obtain ⟨x44, hx34, H⟩ := hb H
        refine pkE [7, 0] rfl (by decide) (by kernel_rfl) (by kernel_rfl) (e_call (fst := []) (vs := [(.pointer (some ⟨g2, 0, none⟩)), v43]) (cap := []) rfl rfl go_30 (St.call (A := [pt g2 74 ([v58, (.int .i64 x43.2.2.1), (.int .i64 x43.2.2.2)])]) (B := [Ow (Kd.int .i64) 3 v56 ([1, 2, 3, 4, 4, 0, 5] : List Int), pt g3 26 ([v4, v5]), Ow kTGrant 33 v4 x12.1.Given, Ow kTGrant 33 v5 x12.1.Waits, pt g1 26 ([(.slice none 0 0), (.slice none 0 0)])]) hS (spec_l1Int.spec k _ _ x43.2.1 x43.2.2.1 x43.2.2.2 ([0, 1, 2, 2, (-1), 100] : List Int) v58 g2 v43 (h63.mono hg64) h64 _ hx34))) ?_
        intro v w hR
        obtain ⟨s67, A35, hg65, hS, hR⟩ := hR
        obtain ⟨v59, hv34, rfl, h65⟩ := hR; obtain rfl := hv34.symm
        have hS : St e s67 w [pt g2 74 ([v59, (.int .i64 x44.2.2.1), (.int .i64 x44.2.2.2)]), Ow (Kd.int .i64) 3 v56 ([1, 2, 3, 4, 4, 0, 5] : List Int), pt g3 26 ([v4, v5]), Ow kTGrant 33 v4 x12.1.Given, Ow kTGrant 33 v5 x12.1.Waits, pt g1 26 ([(.slice none 0 0), (.slice none 0 0)])] := hS
        refine ⟨⟨knw rfl rfl rfl (p_move rfl), ⟨knw rfl rfl rfl (p_ldb_agg (i := 2) (l := []) (m := [v4, v5]) (r := []) hS rfl rfl ia_26 ti_26 rfl rfl rfl), trivial⟩⟩, ?_⟩
        obtain ⟨s68, hg66, h66, hS⟩ := hS.freeze (i := 1) (kd := (Kd.int .i64)) (et := 3) (v := v56) (xs := ([1, 2, 3, 4, 4, 0, 5] : List Int)) (B := [pt g2 74 ([v59, (.int .i64 x44.2.2.1), (.int .i64 x44.2.2.2)]), pt g3 26 ([v4, v5]), Ow kTGrant 33 v4 x12.1.Given, Ow kTGrant 33 v5 x12.1.Waits, pt g1 26 ([(.slice none 0 0), (.slice none 0 0)])]) rfl
        obtain ⟨x45, hx35, H⟩ := hb H
        refine pkE [0] rfl (by decide) (by kernel_rfl) (by kernel_rfl) (e_call (fst := []) (vs := [(.pointer (some ⟨g2, 0, none⟩)), v56]) (cap := []) rfl rfl go_30 (St.call (A := [pt g2 74 ([v59, (.int .i64 x44.2.2.1), (.int .i64 x44.2.2.2)])]) (B := [pt g3 26 ([v4, v5]), Ow kTGrant 33 v4 x12.1.Given, Ow kTGrant 33 v5 x12.1.Waits, pt g1 26 ([(.slice none 0 0), (.slice none 0 0)])]) hS (spec_l1Int.spec k _ _ x44.2.1 x44.2.2.1 x44.2.2.2 ([1, 2, 3, 4, 4, 0, 5] : List Int) v59 g2 v56 (h65.mono hg66) h66 _ hx35))) ?_
        intro v w hR
        obtain ⟨s69, A36, hg67, hS, hR⟩ := hR
        obtain ⟨v60, hv35, rfl, h67⟩ := hR; obtain rfl := hv35.symm
        have hS : St e s69 w [pt g2 74 ([v60, (.int .i64 x45.2.2.1), (.int .i64 x45.2.2.2)]), pt g3 26 ([v4, v5]), Ow kTGrant 33 v4 x12.1.Given, Ow kTGrant 33 v5 x12.1.Waits, pt g1 26 ([(.slice none 0 0), (.slice none 0 0)])] := hS
        refine ⟨⟨knw rfl rfl rfl (p_ldb_agg (i := 1) (l := []) (m := [v4, v5]) (r := []) hS rfl rfl ia_26 ti_26 rfl rfl rfl), trivial⟩, ?_⟩
        refine pkE0 [] rfl (by kernel_rfl) (by kernel_rfl) (e_stb (i := 4) (l := []) (m := [(.slice none 0 0), (.slice none 0 0)]) (r := []) (m' := [v4, v5]) (cs' := [v4, v5]) hS rfl rfl rfl ti_26 rfl rfl rfl rfl rfl (one_cons (hS.one_ow (i := 2) rfl) (one_cons (hS.one_ow (i := 3) rfl) one_nil)) rfl) ?_
        intro v w hR
        have hS : St e s69 w [pt g1 26 ([v4, v5]), pt g2 74 ([v60, (.int .i64 x45.2.2.1), (.int .i64 x45.2.2.2)]), pt g3 26 ([v4, v5]), Ow kTGrant 33 v4 x12.1.Given, Ow kTGrant 33 v5 x12.1.Waits] := hR
        refine ⟨trivial, ?_⟩
        refine pkE [] rfl (by decide) (by kernel_rfl) (by kernel_rfl) (puEf (p_assign rfl)) ?_
        rintro v w' ⟨rfl, rfl⟩
        refine ⟨trivial, ?_⟩
        refine pkE [] rfl (by decide) (by kernel_rfl) (by kernel_rfl) (puEf (p_assign rfl)) ?_
        rintro v w' ⟨rfl, rfl⟩
        refine ⟨trivial, ?_⟩
        refine pkE [] rfl (by decide) (by kernel_rfl) (by kernel_rfl) (puEf (p_assign rfl)) ?_
        rintro v w' ⟨rfl, rfl⟩
        refine ⟨trivial, ?_⟩
        refine pkF (fun a hF => ?_)
        refine xn ?_
        obtain rfl := hsm H
        replace hS := hS.sel (is := [2, 1, 0, 0, 0]) (A' := [pt g3 26 ([v4, v5]), pt g2 74 ([v60, (.int .i64 x45.2.2.1), (.int .i64 x45.2.2.2)]), pt g1 26 ([v4, v5]), Ow kTGrant 33 v4 x12.1.Given, Ow kTGrant 33 v5 x12.1.Waits]) rfl
        exact ⟨x45.2.1, x45.2.2.1, x45.2.2.2, x12.1.Given, x12.1.Waits, x43.1, x44.1, x45.1, s69, v60, v4, v5, hS, hF.cut ⟨rfl, rfl, rfl, rfl, trivial⟩, (((((hg62.trans hg63).trans hg64).trans hg65).trans hg66).trans hg67), h67, HK1⟩
    · skip
      refine altE [7, 4, 1, 0] [2, 3, 5, 6, 9, 10, 11, 12, 13] rfl rfl rfl (by decide) (by kernel_rfl) (e_bslice (kd := (Kd.int .i64)) (et := 3) (ps := [(0, (.const (.int .i64 1))), (1, (.const (.int .i64 2))), (2, (.const (.int .i64 3))), (3, (.const (.int .i64 4))), (4, (.const (.int .i64 4))), (5, (.const (.int .i64 0))), (6, (.const (.int .i64 5)))]) (vs := [(0, (.int .i64 1)), (1, (.int .i64 2)), (2, (.int .i64 3)), (3, (.int .i64 4)), (4, (.int .i64 4)), (5, (.int .i64 0)), (6, (.int .i64 5))]) (cs := [(.int .i64 1), (.int .i64 2), (.int .i64 3), (.int .i64 4), (.int .i64 4), (.int .i64 0), (.int .i64 5)]) (xs := ([1, 2, 3, 4, 4, 0, 5] : List Int)) hS rfl (by intro w; kernel_rfl) rfl (by decide) (Nat.le_of_ble_eq_true rfl) (by exact (rows_cons (kd := (Kd.int .i64)) (x := 1) (c := [(.int .i64 1)]) (cs := [(.int .i64 2), (.int .i64 3), (.int .i64 4), (.int .i64 4), (.int .i64 0), (.int .i64 5)]) rfl (rows_cons (kd := (Kd.int .i64)) (x := 2) (c := [(.int .i64 2)]) (cs := [(.int .i64 3), (.int .i64 4), (.int .i64 4), (.int .i64 0), (.int .i64 5)]) rfl (rows_cons (kd := (Kd.int .i64)) (x := 3) (c := [(.int .i64 3)]) (cs := [(.int .i64 4), (.int .i64 4), (.int .i64 0), (.int .i64 5)]) rfl (rows_cons (kd := (Kd.int .i64)) (x := 4) (c := [(.int .i64 4)]) (cs := [(.int .i64 4), (.int .i64 0), (.int .i64 5)]) rfl (rows_cons (kd := (Kd.int .i64)) (x := 4) (c := [(.int .i64 4)]) (cs := [(.int .i64 0), (.int .i64 5)]) rfl (rows_cons (kd := (Kd.int .i64)) (x := 0) (c := [(.int .i64 0)]) (cs := [(.int .i64 5)]) rfl (rows_cons (kd := (Kd.int .i64)) (x := 5) (c := [(.int .i64 5)]) (cs := []) rfl (Rows.nil _ _ _ _)))))))))) ?_
      intro v61 w hR
      have hS : St e s4 w [Ow (Kd.int .i64) 3 v61 ([1, 2, 3, 4, 4, 0, 5] : List Int), pt g3 26 ([v4, v5]), pt g2 74 ([v3, (.int .i64 x12.2.2.1), (.int .i64 x12.2.2.2)]), Ow kTGrant 33 v4 x12.1.Given, Ow kTGrant 33 v5 x12.1.Waits, pt g1 26 ([(.slice none 0 0), (.slice none 0 0)])] := hR
      refine ⟨⟨knw rfl rfl rfl (p_move rfl), ⟨knw rfl rfl rfl (p_move rfl), ⟨knw rfl rfl rfl (p_move rfl), ⟨knw rfl rfl rfl (p_ldb_agg (i := 1) (l := []) (m := [v4, v5]) (r := []) hS rfl rfl ia_26 ti_26 rfl rfl rfl), trivial⟩⟩⟩⟩, ?_⟩
      refine pkAlt [2, 5] (by kernel_rfl) rfl ⟨?_, ?_, trivial⟩
      · skip
        refine altE [7, 4, 1, 0] [3, 5, 6, 9, 10, 11, 12, 13] rfl rfl rfl (by decide) (by kernel_rfl) (e_bslice (kd := (Kd.int .i64)) (et := 3) (ps := [(0, (.const (.int .i64 1))), (1, (.const (.int .i64 2))), (2, (.const (.int .i64 3))), (3, (.const (.int .i64 4))), (4, (.const (.int .i64 5))), (5, (.const (.int .i64 6))), (6, (.const (.int .i64 0))), (7, (.const (.int .i64 100)))]) (vs := [(0, (.int .i64 1)), (1, (.int .i64 2)), (2, (.int .i64 3)), (3, (.int .i64 4)), (4, (.int .i64 5)), (5, (.int .i64 6)), (6, (.int .i64 0)), (7, (.int .i64 100))]) (cs := [(.int .i64 1), (.int .i64 2), (.int .i64 3), (.int .i64 4), (.int .i64 5), (.int .i64 6), (.int .i64 0), (.int .i64 100)]) (xs := ([1, 2, 3, 4, 5, 6, 0, 100] : List Int)) hS rfl (by intro w; kernel_rfl) rfl (by decide) (Nat.le_of_ble_eq_true rfl) (by exact (rows_cons (kd := (Kd.int .i64)) (x := 1) (c := [(.int .i64 1)]) (cs := [(.int .i64 2), (.int .i64 3), (.int .i64 4), (.int .i64 5), (.int .i64 6), (.int .i64 0), (.int .i64 100)]) rfl (rows_cons (kd := (Kd.int .i64)) (x := 2) (c := [(.int .i64 2)]) (cs := [(.int .i64 3), (.int .i64 4), (.int .i64 5), (.int .i64 6), (.int .i64 0), (.int .i64 100)]) rfl (rows_cons (kd := (Kd.int .i64)) (x := 3) (c := [(.int .i64 3)]) (cs := [(.int .i64 4), (.int .i64 5), (.int .i64 6), (.int .i64 0), (.int .i64 100)]) rfl (rows_cons (kd := (Kd.int .i64)) (x := 4) (c := [(.int .i64 4)]) (cs := [(.int .i64 5), (.int .i64 6), (.int .i64 0), (.int .i64 100)]) rfl (rows_cons (kd := (Kd.int .i64)) (x := 5) (c := [(.int .i64 5)]) (cs := [(.int .i64 6), (.int .i64 0), (.int .i64 100)]) rfl (rows_cons (kd := (Kd.int .i64)) (x := 6) (c := [(.int .i64 6)]) (cs := [(.int .i64 0), (.int .i64 100)]) rfl (rows_cons (kd := (Kd.int .i64)) (x := 0) (c := [(.int .i64 0)]) (cs := [(.int .i64 100)]) rfl (rows_cons (kd := (Kd.int .i64)) (x := 100) (c := [(.int .i64 100)]) (cs := []) rfl (Rows.nil _ _ _ _))))))))))) ?_
        intro v62 w hR
        have hS : St e s4 w [Ow (Kd.int .i64) 3 v62 ([1, 2, 3, 4, 5, 6, 0, 100] : List Int), Ow (Kd.int .i64) 3 v61 ([1, 2, 3, 4, 4, 0, 5] : List Int), pt g3 26 ([v4, v5]), pt g2 74 ([v3, (.int .i64 x12.2.2.1), (.int .i64 x12.2.2.2)]), Ow kTGrant 33 v4 x12.1.Given, Ow kTGrant 33 v5 x12.1.Waits, pt g1 26 ([(.slice none 0 0), (.slice none 0 0)])] := hR
        refine ⟨⟨knw rfl rfl rfl (p_move rfl), ⟨knw rfl rfl rfl (p_move rfl), ⟨knw rfl rfl rfl (p_move rfl), ⟨knw rfl rfl rfl (p_ldb_agg (i := 2) (l := []) (m := [v4, v5]) (r := []) hS rfl rfl ia_26 ti_26 rfl rfl rfl), trivial⟩⟩⟩⟩, ?_⟩
        refine pkAlt [3, 5] (by kernel_rfl) rfl ⟨?_, ?_, trivial⟩
        · skip
          obtain ⟨s70, hg68, h68, hS⟩ := hS.freeze (i := 0) (kd := (Kd.int .i64)) (et := 3) (v := v62) (xs := ([1, 2, 3, 4, 5, 6, 0, 100] : List Int)) (B := [Ow (Kd.int .i64) 3 v61 ([1, 2, 3, 4, 4, 0, 5] : List Int), pt g3 26 ([v4, v5]), pt g2 74 ([v3, (.int .i64 x12.2.2.1), (.int .i64 x12.2.2.2)]), Ow kTGrant 33 v4 x12.1.Given, Ow kTGrant 33 v5 x12.1.Waits, pt g1 26 ([(.slice none 0 0), (.slice none 0 0)])]) rfl
          replace hS := hS.sel (is := [2, 0, 0, 0, 0, 0]) (A' := [pt g2 74 ([v3, (.int .i64 x12.2.2.1), (.int .i64 x12.2.2.2)]), Ow (Kd.int .i64) 3 v61 ([1, 2, 3, 4, 4, 0, 5] : List Int), pt g3 26 ([v4, v5]), Ow kTGrant 33 v4 x12.1.Given, Ow kTGrant 33 v5 x12.1.Waits, pt g1 26 ([(.slice none 0 0), (.slice none 0 0)])]) rfl
          obtain ⟨x46, hx36, H⟩ := hb H
          refine altE [7, 4, 0] [5, 6, 9, 10, 11, 12, 13] rfl rfl rfl (by decide) (by kernel_rfl) (e_call (fst := []) (vs := [(.pointer (some ⟨g2, 0, none⟩)), v62]) (cap := []) rfl rfl go_30 (St.call (A := [pt g2 74 ([v3, (.int .i64 x12.2.2.1), (.int .i64 x12.2.2.2)])]) (B := [Ow (Kd.int .i64) 3 v61 ([1, 2, 3, 4, 4, 0, 5] : List Int), pt g3 26 ([v4, v5]), Ow kTGrant 33 v4 x12.1.Given, Ow kTGrant 33 v5 x12.1.Waits, pt g1 26 ([(.slice none 0 0), (.slice none 0 0)])]) hS (spec_l1Int.spec k _ _ x12.2.1 x12.2.2.1 x12.2.2.2 ([1, 2, 3, 4, 5, 6, 0, 100] : List Int) v3 g2 v62 (h3.mono hg68) h68 _ hx36))) ?_
          intro v w hR
          obtain ⟨s71, A37, hg69, hS, hR⟩ := hR
          obtain ⟨v63, hv36, rfl, h69⟩ := hR; obtain rfl := hv36.symm
          have hS : St e s71 w [pt g2 74 ([v63, (.int .i64 x46.2.2.1), (.int .i64 x46.2.2.2)]), Ow (Kd.int .i64) 3 v61 ([1, 2, 3, 4, 4, 0, 5] : List Int), pt g3 26 ([v4, v5]), Ow kTGrant 33 v4 x12.1.Given, Ow kTGrant 33 v5 x12.1.Waits, pt g1 26 ([(.slice none 0 0), (.slice none 0 0)])] := hS
          refine ⟨⟨knw rfl rfl rfl (p_move rfl), ⟨knw rfl rfl rfl (p_move rfl), ⟨knw rfl rfl rfl (p_ldb_agg (i := 2) (l := []) (m := [v4, v5]) (r := []) hS rfl rfl ia_26 ti_26 rfl rfl rfl), trivial⟩⟩⟩, ?_⟩
          refine pkE [7, 4, 0] rfl (by decide) (by kernel_rfl) (by kernel_rfl) (e_bslice (kd := (Kd.int .i64)) (et := 3) (ps := [(0, (.const (.int .i64 0))), (1, (.const (.int .i64 1))), (2, (.const (.int .i64 2))), (3, (.const (.int .i64 2))), (4, (.const (.int .i64 (-1)))), (5, (.const (.int .i64 100)))]) (vs := [(0, (.int .i64 0)), (1, (.int .i64 1)), (2, (.int .i64 2)), (3, (.int .i64 2)), (4, (.int .i64 (-1))), (5, (.int .i64 100))]) (cs := [(.int .i64 0), (.int .i64 1), (.int .i64 2), (.int .i64 2), (.int .i64 (-1)), (.int .i64 100)]) (xs := ([0, 1, 2, 2, (-1), 100] : List Int)) hS rfl (by intro w; kernel_rfl) rfl (by decide) (Nat.le_of_ble_eq_true rfl) (by exact (rows_cons (kd := (Kd.int .i64)) (x := 0) (c := [(.int .i64 0)]) (cs := [(.int .i64 1), (.int .i64 2), (.int .i64 2), (.int .i64 (-1)), (.int .i64 100)]) rfl (rows_cons (kd := (Kd.int .i64)) (x := 1) (c := [(.int .i64 1)]) (cs := [(.int .i64 2), (.int .i64 2), (.int .i64 (-1)), (.int .i64 100)]) rfl (rows_cons (kd := (Kd.int .i64)) (x := 2) (c := [(.int .i64 2)]) (cs := [(.int .i64 2), (.int .i64 (-1)), (.int .i64 100)]) rfl (rows_cons (kd := (Kd.int .i64)) (x := 2) (c := [(.int .i64 2)]) (cs := [(.int .i64 (-1)), (.int .i64 100)]) rfl (rows_cons (kd := (Kd.int .i64)) (x := (-1)) (c := [(.int .i64 (-1))]) (cs := [(.int .i64 100)]) rfl (rows_cons (kd := (Kd.int .i64)) (x := 100) (c := [(.int .i64 100)]) (cs := []) rfl (Rows.nil _ _ _ _))))))))) ?_
          intro v64 w hR
          have hS : St e s71 w [Ow (Kd.int .i64) 3 v64 ([0, 1, 2, 2, (-1), 100] : List Int), pt g2 74 ([v63, (.int .i64 x46.2.2.1), (.int .i64 x46.2.2.2)]), Ow (Kd.int .i64) 3 v61 ([1, 2, 3, 4, 4, 0, 5] : List Int), pt g3 26 ([v4, v5]), Ow kTGrant 33 v4 x12.1.Given, Ow kTGrant 33 v5 x12.1.Waits, pt g1 26 ([(.slice none 0 0), (.slice none 0 0)])] := hR
          refine ⟨⟨knw rfl rfl rfl (p_move rfl), ⟨knw rfl rfl rfl (p_move rfl), ⟨knw rfl rfl rfl (p_ldb_agg (i := 3) (l := []) (m := [v4, v5]) (r := []) hS rfl rfl ia_26 ti_26 rfl rfl rfl), trivial⟩⟩⟩, ?_⟩
          obtain ⟨s72, hg70, h70, hS⟩ := hS.freeze (i := 0) (kd := (Kd.int .i64)) (et := 3) (v := v64) (xs := ([0, 1, 2, 2, (-1), 100] : List Int)) (B := [pt g2 74 ([v63, (.int .i64 x46.2.2.1), (.int .i64 x46.2.2.2)]), Ow (Kd.int .i64) 3 v61 ([1, 2, 3, 4, 4, 0, 5] : List Int), pt g3 26 ([v4, v5]), Ow kTGrant 33 v4 x12.1.Given, Ow kTGrant 33 v5 x12.1.Waits, pt g1 26 ([(.slice none 0 0), (.slice none 0 0)])]) rfl
          obtain ⟨x47, hx37, H⟩ := hb H
          refine pkE [7, 0] rfl (by decide) (by kernel_rfl) (by kernel_rfl) (e_call (fst := []) (vs := [(.pointer (some ⟨g2, 0, none⟩)), v64]) (cap := []) rfl rfl go_30 (St.call (A := [pt g2 74 ([v63, (.int .i64 x46.2.2.1), (.int .i64 x46.2.2.2)])]) (B := [Ow (Kd.int .i64) 3 v61 ([1, 2, 3, 4, 4, 0, 5] : List Int), pt g3 26 ([v4, v5]), Ow kTGrant 33 v4 x12.1.Given, Ow kTGrant 33 v5 x12.1.Waits, pt g1 26 ([(.slice none 0 0), (.slice none 0 0)])]) hS (spec_l1Int.spec k _ _ x46.2.1 x46.2.2.1 x46.2.2.2 ([0, 1, 2, 2, (-1), 100] : List Int) v63 g2 v64 (h69.mono hg70) h70 _ hx37))) ?_
          intro v w hR
          obtain ⟨s73, A38, hg71, hS, hR⟩ := hR
          obtain ⟨v65, hv37, rfl, h71⟩ := hR; obtain rfl := hv37.symm
          have hS : St e s73 w [pt g2 74 ([v65, (.int .i64 x47.2.2.1), (.int .i64 x47.2.2.2)]), Ow (Kd.int .i64) 3 v61 ([1, 2, 3, 4, 4, 0, 5] : List Int), pt g3 26 ([v4, v5]), Ow kTGrant 33 v4 x12.1.Given, Ow kTGrant 33 v5 x12.1.Waits, pt g1 26 ([(.slice none 0 0), (.slice none 0 0)])] := hS
          refine ⟨⟨knw rfl rfl rfl (p_move rfl), ⟨knw rfl rfl rfl (p_ldb_agg (i := 2) (l := []) (m := [v4, v5]) (r := []) hS rfl rfl ia_26 ti_26 rfl rfl rfl), trivial⟩⟩, ?_⟩
          obtain ⟨s74, hg72, h72, hS⟩ := hS.freeze (i := 1) (kd := (Kd.int .i64)) (et := 3) (v := v61) (xs := ([1, 2, 3, 4, 4, 0, 5] : List Int)) (B := [pt g2 74 ([v65, (.int .i64 x47.2.2.1), (.int .i64 x47.2.2.2)]), pt g3 26 ([v4, v5]), Ow kTGrant 33 v4 x12.1.Given, Ow kTGrant 33 v5 x12.1.Waits, pt g1 26 ([(.slice none 0 0), (.slice none 0 0)])]) rfl
          obtain ⟨x48, hx38, H⟩ := hb H
          refine pkE [0] rfl (by decide) (by kernel_rfl) (by kernel_rfl) (e_call (fst := []) (vs := [(.pointer (some ⟨g2, 0, none⟩)), v61]) (cap := []) rfl rfl go_30 (St.call (A := [pt g2 74 ([v65, (.int .i64 x47.2.2.1), (.int .i64 x47.2.2.2)])]) (B := [pt g3 26 ([v4, v5]), Ow kTGrant 33 v4 x12.1.Given, Ow kTGrant 33 v5 x12.1.Waits, pt g1 26 ([(.slice none 0 0), (.slice none 0 0)])]) hS (spec_l1Int.spec k _ _ x47.2.1 x47.2.2.1 x47.2.2.2 ([1, 2, 3, 4, 4, 0, 5] : List Int) v65 g2 v61 (h71.mono hg72) h72 _ hx38))) ?_
          intro v w hR
          obtain ⟨s75, A39, hg73, hS, hR⟩ := hR
          obtain ⟨v66, hv38, rfl, h73⟩ := hR; obtain rfl := hv38.symm
          have hS : St e s75 w [pt g2 74 ([v66, (.int .i64 x48.2.2.1), (.int .i64 x48.2.2.2)]), pt g3 26 ([v4, v5]), Ow kTGrant 33 v4 x12.1.Given, Ow kTGrant 33 v5 x12.1.Waits, pt g1 26 ([(.slice none 0 0), (.slice none 0 0)])] := hS
          refine ⟨⟨knw rfl rfl rfl (p_ldb_agg (i := 1) (l := []) (m := [v4, v5]) (r := []) hS rfl rfl ia_26 ti_26 rfl rfl rfl), trivial⟩, ?_⟩
          refine pkE0 [] rfl (by kernel_rfl) (by kernel_rfl) (e_stb (i := 4) (l := []) (m := [(.slice none 0 0), (.slice none 0 0)]) (r := []) (m' := [v4, v5]) (cs' := [v4, v5]) hS rfl rfl rfl ti_26 rfl rfl rfl rfl rfl (one_cons (hS.one_ow (i := 2) rfl) (one_cons (hS.one_ow (i := 3) rfl) one_nil)) rfl) ?_
          intro v w hR
          have hS : St e s75 w [pt g1 26 ([v4, v5]), pt g2 74 ([v66, (.int .i64 x48.2.2.1), (.int .i64 x48.2.2.2)]), pt g3 26 ([v4, v5]), Ow kTGrant 33 v4 x12.1.Given, Ow kTGrant 33 v5 x12.1.Waits] := hR
          refine ⟨trivial, ?_⟩
          refine pkE [] rfl (by decide) (by kernel_rfl) (by kernel_rfl) (puEf (p_assign rfl)) ?_
          rintro v w' ⟨rfl, rfl⟩
          refine ⟨trivial, ?_⟩
          refine pkE [] rfl (by decide) (by kernel_rfl) (by kernel_rfl) (puEf (p_assign rfl)) ?_
          rintro v w' ⟨rfl, rfl⟩
          refine ⟨trivial, ?_⟩
          refine pkE [] rfl (by decide) (by kernel_rfl) (by kernel_rfl) (puEf (p_assign rfl)) ?_
          rintro v w' ⟨rfl, rfl⟩
          refine ⟨trivial, ?_⟩
          refine pkF (fun a hF => ?_)
          refine xn ?_
          obtain rfl := hsm H
          replace hS := hS.sel (is := [2, 1, 0, 0, 0]) (A' := [pt g3 26 ([v4, v5]), pt g2 74 ([v66, (.int .i64 x48.2.2.1), (.int .i64 x48.2.2.2)]), pt g1 26 ([v4, v5]), Ow kTGrant 33 v4 x12.1.Given, Ow kTGrant 33 v5 x12.1.Waits]) rfl
          exact ⟨x48.2.1, x48.2.2.1, x48.2.2.2, x12.1.Given, x12.1.Waits, x46.1, x47.1, x48.1, s75, v66, v4, v5, hS, hF.cut ⟨rfl, rfl, rfl, rfl, trivial⟩, (((((hg68.trans hg69).trans hg70).trans hg71).trans hg72).trans hg73), h73, HK1⟩
        · skip
          refine altE [7, 4, 1, 0] [3, 6, 9, 10, 11, 12, 13] rfl rfl rfl (by decide) (by kernel_rfl) (e_bslice (kd := (Kd.int .i64)) (et := 3) (ps := [(0, (.const (.int .i64 0))), (1, (.const (.int .i64 1))), (2, (.const (.int .i64 2))), (3, (.const (.int .i64 2))), (4, (.const (.int .i64 (-1)))), (5, (.const (.int .i64 100)))]) (vs := [(0, (.int .i64 0)), (1, (.int .i64 1)), (2, (.int .i64 2)), (3, (.int .i64 2)), (4, (.int .i64 (-1))), (5, (.int .i64 100))]) (cs := [(.int .i64 0), (.int .i64 1), (.int .i64 2), (.int .i64 2), (.int .i64 (-1)), (.int .i64 100)]) (xs := ([0, 1, 2, 2, (-1), 100] : List Int)) hS rfl (by intro w; kernel_rfl) rfl (by decide) (Nat.le_of_ble_eq_true rfl) (by exact (rows_cons (kd := (Kd.int .i64)) (x := 0) (c := [(.int .i64 0)]) (cs := [(.int .i64 1), (.int .i64 2), (.int .i64 2), (.int .i64 (-1)), (.int .i64 100)]) rfl (rows_cons (kd := (Kd.int .i64)) (x := 1) (c := [(.int .i64 1)]) (cs := [(.int .i64 2), (.int .i64 2), (.int .i64 (-1)), (.int .i64 100)]) rfl (rows_cons (kd := (Kd.int .i64)) (x := 2) (c := [(.int .i64 2)]) (cs := [(.int .i64 2), (.int .i64 (-1)), (.int .i64 100)]) rfl (rows_cons (kd := (Kd.int .i64)) (x := 2) (c := [(.int .i64 2)]) (cs := [(.int .i64 (-1)), (.int .i64 100)]) rfl (rows_cons (kd := (Kd.int .i64)) (x := (-1)) (c := [(.int .i64 (-1))]) (cs := [(.int .i64 100)]) rfl (rows_cons (kd := (Kd.int .i64)) (x := 100) (c := [(.int .i64 100)]) (cs := []) rfl (Rows.nil _ _ _ _))))))))) ?_
          intro v67 w hR
          have hS : St e s4 w [Ow (Kd.int .i64) 3 v67 ([0, 1, 2, 2, (-1), 100] : List Int), Ow (Kd.int .i64) 3 v62 ([1, 2, 3, 4, 5, 6, 0, 100] : List Int), Ow (Kd.int .i64) 3 v61 ([1, 2, 3, 4, 4, 0, 5] : List Int), pt g3 26 ([v4, v5]), pt g2 74 ([v3, (.int .i64 x12.2.2.1), (.int .i64 x12.2.2.2)]), Ow kTGrant 33 v4 x12.1.Given, Ow kTGrant 33 v5 x12.1.Waits, pt g1 26 ([(.slice none 0 0), (.slice none 0 0)])] := hR
          refine ⟨⟨knw rfl rfl rfl (p_move rfl), ⟨knw rfl rfl rfl (p_move rfl), ⟨knw rfl rfl rfl (p_move rfl), ⟨knw rfl rfl rfl (p_ldb_agg (i := 3) (l := []) (m := [v4, v5]) (r := []) hS rfl rfl ia_26 ti_26 rfl rfl rfl), trivial⟩⟩⟩⟩, ?_⟩
          obtain ⟨s76, hg74, h74, hS⟩ := hS.freeze (i := 1) (kd := (Kd.int .i64)) (et := 3) (v := v62) (xs := ([1, 2, 3, 4, 5, 6, 0, 100] : List Int)) (B := [Ow (Kd.int .i64) 3 v67 ([0, 1, 2, 2, (-1), 100] : List Int), Ow (Kd.int .i64) 3 v61 ([1, 2, 3, 4, 4, 0, 5] : List Int), pt g3 26 ([v4, v5]), pt g2 74 ([v3, (.int .i64 x12.2.2.1), (.int .i64 x12.2.2.2)]), Ow kTGrant 33 v4 x12.1.Given, Ow kTGrant 33 v5 x12.1.Waits, pt g1 26 ([(.slice none 0 0), (.slice none 0 0)])]) rfl
          replace hS := hS.sel (is := [3, 0, 0, 0, 0, 0, 0]) (A' := [pt g2 74 ([v3, (.int .i64 x12.2.2.1), (.int .i64 x12.2.2.2)]), Ow (Kd.int .i64) 3 v67 ([0, 1, 2, 2, (-1), 100] : List Int), Ow (Kd.int .i64) 3 v61 ([1, 2, 3, 4, 4, 0, 5] : List Int), pt g3 26 ([v4, v5]), Ow kTGrant 33 v4 x12.1.Given, Ow kTGrant 33 v5 x12.1.Waits, pt g1 26 ([(.slice none 0 0), (.slice none 0 0)])]) rfl
          obtain ⟨x49, hx39, H⟩ := hb H
          refine pkE [7, 4, 0] rfl (by decide) (by kernel_rfl) (by kernel_rfl) (e_call (fst := []) (vs := [(.pointer (some ⟨g2, 0, none⟩)), v62]) (cap := []) rfl rfl go_30 (St.call (A := [pt g2 74 ([v3, (.int .i64 x12.2.2.1), (.int .i64 x12.2.2.2)])]) (B := [Ow (Kd.int .i64) 3 v67 ([0, 1, 2, 2, (-1), 100] : List Int), Ow (Kd.int .i64) 3 v61 ([1, 2, 3, 4, 4, 0, 5] : List Int), pt g3 26 ([v4, v5]), Ow kTGrant 33 v4 x12.1.Given, Ow kTGrant 33 v5 x12.1.Waits, pt g1 26 ([(.slice none 0 0), (.slice none 0 0)])]) hS (spec_l1Int.spec k _ _ x12.2.1 x12.2.2.1 x12.2.2.2 ([1, 2, 3, 4, 5, 6, 0, 100] : List Int) v3 g2 v62 (h3.mono hg74) h74 _ hx39))) ?_
          intro v w hR
          obtain ⟨s77, A40, hg75, hS, hR⟩ := hR
          obtain ⟨v68, hv39, rfl, h75⟩ := hR; obtain rfl := hv39.symm
          have hS : St e s77 w [pt g2 74 ([v68, (.int .i64 x49.2.2.1), (.int .i64 x49.2.2.2)]), Ow (Kd.int .i64) 3 v67 ([0, 1, 2, 2, (-1), 100] : List Int), Ow (Kd.int .i64) 3 v61 ([1, 2, 3, 4, 4, 0, 5] : List Int), pt g3 26 ([v4, v5]), Ow kTGrant 33 v4 x12.1.Given, Ow kTGrant 33 v5 x12.1.Waits, pt g1 26 ([(.slice none 0 0), (.slice none 0 0)])] := hS
          refine ⟨⟨knw rfl rfl rfl (p_move rfl), ⟨knw rfl rfl rfl (p_move rfl), ⟨knw rfl rfl rfl (p_ldb_agg (i := 3) (l := []) (m := [v4, v5]) (r := []) hS rfl rfl ia_26 ti_26 rfl rfl rfl), trivial⟩⟩⟩, ?_⟩
          obtain ⟨s78, hg76, h76, hS⟩ := hS.freeze (i := 1) (kd := (Kd.int .i64)) (et := 3) (v := v67) (xs := ([0, 1, 2, 2, (-1), 100] : List Int)) (B := [pt g2 74 ([v68, (.int .i64 x49.2.2.1), (.int .i64 x49.2.2.2)]), Ow (Kd.int .i64) 3 v61 ([1, 2, 3, 4, 4, 0, 5] : List Int), pt g3 26 ([v4, v5]), Ow kTGrant 33 v4 x12.1.Given, Ow kTGrant 33 v5 x12.1.Waits, pt g1 26 ([(.slice none 0 0), (.slice none 0 0)])]) rfl
          obtain ⟨x50, hx40, H⟩ := hb H
          refine pkE [7, 0] rfl (by decide) (by kernel_rfl) (by kernel_rfl) (e_call (fst := []) (vs := [(.pointer (some ⟨g2, 0, none⟩)), v67]) (cap := []) rfl rfl go_30 (St.call (A := [pt g2 74 ([v68, (.int .i64 x49.2.2.1), (.int .i64 x49.2.2.2)])]) (B := [Ow (Kd.int .i64) 3 v61 ([1, 2, 3, 4, 4, 0, 5] : List Int), pt g3 26 ([v4, v5]), Ow kTGrant 33 v4 x12.1.Given, Ow kTGrant 33 v5 x12.1.Waits, pt g1 26 ([(.slice none 0 0), (.slice none 0 0)])]) hS (spec_l1Int.spec k _ _ x49.2.1 x49.2.2.1 x49.2.2.2 ([0, 1, 2, 2, (-1), 100] : List Int) v68 g2 v67 (h75.mono hg76) h76 _ hx40))) ?_
          intro v w hR
          obtain ⟨s79, A41, hg77, hS, hR⟩ := hR
          obtain ⟨v69, hv40, rfl, h77⟩ := hR; obtain rfl := hv40.symm
          have hS : St e s79 w [pt g2 74 ([v69, (.int .i64 x50.2.2.1), (.int .i64 x50.2.2.2)]), Ow (Kd.int .i64) 3 v61 ([1, 2, 3, 4, 4, 0, 5] : List Int), pt g3 26 ([v4, v5]), Ow kTGrant 33 v4 x12.1.Given, Ow kTGrant 33 v5 x12.1.Waits, pt g1 26 ([(.slice none 0 0), (.slice none 0 0)])] := hS
          refine ⟨⟨knw rfl rfl rfl (p_move rfl), ⟨knw rfl rfl rfl (p_ldb_agg (i := 2) (l := []) (m := [v4, v5]) (r := []) hS rfl rfl ia_26 ti_26 rfl rfl rfl), trivial⟩⟩, ?_⟩
          obtain ⟨s80, hg78, h78, hS⟩ := hS.freeze (i := 1) (kd := (Kd.int .i64)) (et := 3) (v := v61) (xs := ([1, 2, 3, 4, 4, 0, 5] : List Int)) (B := [pt g2 74 ([v69, (.int .i64 x50.2.2.1), (.int .i64 x50.2.2.2)]), pt g3 26 ([v4, v5]), Ow kTGrant 33 v4 x12.1.Given, Ow kTGrant 33 v5 x12.1.Waits, pt g1 26 ([(.slice none 0 0), (.slice none 0 0)])]) rfl
          obtain ⟨x51, hx41, H⟩ := hb H
          refine pkE [0] rfl (by decide) (by kernel_rfl) (by kernel_rfl) (e_call (fst := []) (vs := [(.pointer (some ⟨g2, 0, none⟩)), v61]) (cap := []) rfl rfl go_30 (St.call (A := [pt g2 74 ([v69, (.int .i64 x50.2.2.1), (.int .i64 x50.2.2.2)])]) (B := [pt g3 26 ([v4, v5]), Ow kTGrant 33 v4 x12.1.Given, Ow kTGrant 33 v5 x12.1.Waits, pt g1 26 ([(.slice none 0 0), (.slice none 0 0)])]) hS (spec_l1Int.spec k _ _ x50.2.1 x50.2.2.1 x50.2.2.2 ([1, 2, 3, 4, 4, 0, 5] : List Int) v69 g2 v61 (h77.mono hg78) h78 _ hx41))) ?_
          intro v w hR
          obtain ⟨s81, A42, hg79, hS, hR⟩ := hR
          obtain ⟨v70, hv41, rfl, h79⟩ := hR; obtain rfl := hv41.symm
          have hS : St e s81 w [pt g2 74 ([v70, (.int .i64 x51.2.2.1), (.int .i64 x51.2.2.2)]), pt g3 26 ([v4, v5]), Ow kTGrant 33 v4 x12.1.Given, Ow kTGrant 33 v5 x12.1.Waits, pt g1 26 ([(.slice none 0 0), (.slice none 0 0)])] := hS
          refine ⟨⟨knw rfl rfl rfl (p_ldb_agg (i := 1) (l := []) (m := [v4, v5]) (r := []) hS rfl rfl ia_26 ti_26 rfl rfl rfl), trivial⟩, ?_⟩
          refine pkE0 [] rfl (by kernel_rfl) (by kernel_rfl) (e_stb (i := 4) (l := []) (m := [(.slice none 0 0), (.slice none 0 0)]) (r := []) (m' := [v4, v5]) (cs' := [v4, v5]) hS rfl rfl rfl ti_26 rfl rfl rfl rfl rfl (one_cons (hS.one_ow (i := 2) rfl) (one_cons (hS.one_ow (i := 3) rfl) one_nil)) rfl) ?_
          intro v w hR
          have hS : St e s81 w [pt g1 26 ([v4, v5]), pt g2 74 ([v70, (.int .i64 x51.2.2.1), (.int .i64 x51.2.2.2)]), pt g3 26 ([v4, v5]), Ow kTGrant 33 v4 x12.1.Given, Ow kTGrant 33 v5 x12.1.Waits] := hR
          refine ⟨trivial, ?_⟩
          refine pkE [] rfl (by decide) (by kernel_rfl) (by kernel_rfl) (puEf (p_assign rfl)) ?_
          rintro v w' ⟨rfl, rfl⟩
          refine ⟨trivial, ?_⟩
          refine pkE [] rfl (by decide) (by kernel_rfl) (by kernel_rfl) (puEf (p_assign rfl)) ?_
          rintro v w' ⟨rfl, rfl⟩
          refine ⟨trivial, ?_⟩
          refine pkE [] rfl (by decide) (by kernel_rfl) (by kernel_rfl) (puEf (p_assign rfl)) ?_
          rintro v w' ⟨rfl, rfl⟩
          refine ⟨trivial, ?_⟩
          refine pkF (fun a hF => ?_)
          refine xn ?_
          obtain rfl := hsm H
          replace hS := hS.sel (is := [2, 1, 0, 0, 0]) (A' := [pt g3 26 ([v4, v5]), pt g2 74 ([v70, (.int .i64 x51.2.2.1), (.int .i64 x51.2.2.2)]), pt g1 26 ([v4, v5]), Ow kTGrant 33 v4 x12.1.Given, Ow kTGrant 33 v5 x12.1.Waits]) rfl
          exact ⟨x51.2.1, x51.2.2.1, x51.2.2.2, x12.1.Given, x12.1.Waits, x49.1, x50.1, x51.1, s81, v70, v4, v5, hS, hF.cut ⟨rfl, rfl, rfl, rfl, trivial⟩, (((((hg74.trans hg75).trans hg76).trans hg77).trans hg78).trans hg79), h79, HK1⟩
      · skip
        refine altE [7, 4, 1, 0] [2, 3, 6, 9, 10, 11, 12, 13] rfl rfl rfl (by decide) (by kernel_rfl) (e_bslice (kd := (Kd.int .i64)) (et := 3) (ps := [(0, (.const (.int .i64 0))), (1, (.const (.int .i64 1))), (2, (.const (.int .i64 2))), (3, (.const (.int .i64 2))), (4, (.const (.int .i64 (-1)))), (5, (.const (.int .i64 100)))]) (vs := [(0, (.int .i64 0)), (1, (.int .i64 1)), (2, (.int .i64 2)), (3, (.int .i64 2)), (4, (.int .i64 (-1))), (5, (.int .i64 100))]) (cs := [(.int .i64 0), (.int .i64 1), (.int .i64 2), (.int .i64 2), (.int .i64 (-1)), (.int .i64 100)]) (xs := ([0, 1, 2, 2, (-1), 100] : List Int)) hS rfl (by intro w; kernel_rfl) rfl (by decide) (Nat.le_of_ble_eq_true rfl) (by exact (rows_cons (kd := (Kd.int .i64)) (x := 0) (c := [(.int .i64 0)]) (cs := [(.int .i64 1), (.int .i64 2), (.int .i64 2), (.int .i64 (-1)), (.int .i64 100)]) rfl (rows_cons (kd := (Kd.int .i64)) (x := 1) (c := [(.int .i64 1)]) (cs := [(.int .i64 2), (.int .i64 2), (.int .i64 (-1)), (.int .i64 100)]) rfl (rows_cons (kd := (Kd.int .i64)) (x := 2) (c := [(.int .i64 2)]) (cs := [(.int .i64 2), (.int .i64 (-1)), (.int .i64 100)]) rfl (rows_cons (kd := (Kd.int .i64)) (x := 2) (c := [(.int .i64 2)]) (cs := [(.int .i64 (-1)), (.int .i64 100)]) rfl (rows_cons (kd := (Kd.int .i64)) (x := (-1)) (c := [(.int .i64 (-1))]) (cs := [(.int .i64 100)]) rfl (rows_cons (kd := (Kd.int .i64)) (x := 100) (c := [(.int .i64 100)]) (cs := []) rfl (Rows.nil _ _ _ _))))))))) ?_
        intro v71 w hR
        have hS : St e s4 w [Ow (Kd.int .i64) 3 v71 ([0, 1, 2, 2, (-1), 100] : List Int), Ow (Kd.int .i64) 3 v61 ([1, 2, 3, 4, 4, 0, 5] : List Int), pt g3 26 ([v4, v5]), pt g2 74 ([v3, (.int .i64 x12.2.2.1), (.int .i64 x12.2.2.2)]), Ow kTGrant 33 v4 x12.1.Given, Ow kTGrant 33 v5 x12.1.Waits, pt g1 26 ([(.slice none 0 0), (.slice none 0 0)])] := hR
        refine ⟨⟨knw rfl rfl rfl (p_move rfl), ⟨knw rfl rfl rfl (p_move rfl), ⟨knw rfl rfl rfl (p_move rfl), ⟨knw rfl rfl rfl (p_ldb_agg (i := 2) (l := []) (m := [v4, v5]) (r := []) hS rfl rfl ia_26 ti_26 rfl rfl rfl), trivial⟩⟩⟩⟩, ?_⟩
        refine pkE [7, 4, 1, 0] rfl (by decide) (by kernel_rfl) (by kernel_rfl) (e_bslice (kd := (Kd.int .i64)) (et := 3) (ps := [(0, (.const (.int .i64 1))), (1, (.const (.int .i64 2))), (2, (.const (.int .i64 3))), (3, (.const (.int .i64 4))), (4, (.const (.int .i64 5))), (5, (.const (.int .i64 6))), (6, (.const (.int .i64 0))), (7, (.const (.int .i64 100)))]) (vs := [(0, (.int .i64 1)), (1, (.int .i64 2)), (2, (.int .i64 3)), (3, (.int .i64 4)), (4, (.int .i64 5)), (5, (.int .i64 6)), (6, (.int .i64 0)), (7, (.int .i64 100))]) (cs := [(.int .i64 1), (.int .i64 2), (.int .i64 3), (.int .i64 4), (.int .i64 5), (.int .i64 6), (.int .i64 0), (.int .i64 100)]) (xs := ([1, 2, 3, 4, 5, 6, 0, 100] : List Int)) hS rfl (by intro w; kernel_rfl) rfl (by decide) (Nat.le_of_ble_eq_true rfl) (by exact (rows_cons (kd := (Kd.int .i64)) (x := 1) (c := [(.int .i64 1)]) (cs := [(.int .i64 2), (.int .i64 3), (.int .i64 4), (.int .i64 5), (.int .i64 6), (.int .i64 0), (.int .i64 100)]) rfl (rows_cons (kd := (Kd.int .i64)) (x := 2) (c := [(.int .i64 2)]) (cs := [(.int .i64 3), (.int .i64 4), (.int .i64 5), (.int .i64 6), (.int .i64 0), (.int .i64 100)]) rfl (rows_cons (kd := (Kd.int .i64)) (x := 3) (c := [(.int .i64 3)]) (cs := [(.int .i64 4), (.int .i64 5), (.int .i64 6), (.int .i64 0), (.int .i64 100)]) rfl (rows_cons (kd := (Kd.int .i64)) (x := 4) (c := [(.int .i64 4)]) (cs := [(.int .i64 5), (.int .i64 6), (.int .i64 0), (.int .i64 100)]) rfl (rows_cons (kd := (Kd.int .i64)) (x := 5) (c := [(.int .i64 5)]) (cs := [(.int .i64 6), (.int .i64 0), (.int .i64 100)]) rfl (rows_cons (kd := (Kd.int .i64)) (x := 6) (c := [(.int .i64 6)]) (cs := [(.int .i64 0), (.int .i64 100)]) rfl (rows_cons (kd := (Kd.int .i64)) (x := 0) (c := [(.int .i64 0)]) (cs := [(.int .i64 100)]) rfl (rows_cons (kd := (Kd.int .i64)) (x := 100) (c := [(.int .i64 100)]) (cs := []) rfl (Rows.nil _ _ _ _))))))))))) ?_
        intro v72 w hR
        have hS : St e s4 w [Ow (Kd.int .i64) 3 v72 ([1, 2, 3, 4, 5, 6, 0, 100] : List Int), Ow (Kd.int .i64) 3 v71 ([0, 1, 2, 2, (-1), 100] : List Int), Ow (Kd.int .i64) 3 v61 ([1, 2, 3, 4, 4, 0, 5] : List Int), pt g3 26 ([v4, v5]), pt g2 74 ([v3, (.int .i64 x12.2.2.1), (.int .i64 x12.2.2.2)]), Ow kTGrant 33 v4 x12.1.Given, Ow kTGrant 33 v5 x12.1.Waits, pt g1 26 ([(.slice none 0 0), (.slice none 0 0)])] := hR
        refine ⟨⟨knw rfl rfl rfl (p_move rfl), ⟨knw rfl rfl rfl (p_move rfl), ⟨knw rfl rfl rfl (p_move rfl), ⟨knw rfl rfl rfl (p_ldb_agg (i := 3) (l := []) (m := [v4, v5]) (r := []) hS rfl rfl ia_26 ti_26 rfl rfl rfl), trivial⟩⟩⟩⟩, ?_⟩
        obtain ⟨s82, hg80, h80, hS⟩ := hS.freeze (i := 0) (kd := (Kd.int .i64)) (et := 3) (v := v72) (xs := ([1, 2, 3, 4, 5, 6, 0, 100] : List Int)) (B := [Ow (Kd.int .i64) 3 v71 ([0, 1, 2, 2, (-1), 100] : List Int), Ow (Kd.int .i64) 3 v61 ([1, 2, 3, 4, 4, 0, 5] : List Int), pt g3 26 ([v4, v5]), pt g2 74 ([v3, (.int .i64 x12.2.2.1), (.int .i64 x12.2.2.2)]), Ow kTGrant 33 v4 x12.1.Given, Ow kTGrant 33 v5 x12.1.Waits, pt g1 26 ([(.slice none 0 0), (.slice none 0 0)])]) rfl
        replace hS := hS.sel (is := [3, 0, 0, 0, 0, 0, 0]) (A' := [pt g2 74 ([v3, (.int .i64 x12.2.2.1), (.int .i64 x12.2.2.2)]), Ow (Kd.int .i64) 3 v71 ([0, 1, 2, 2, (-1), 100] : List Int), Ow (Kd.int .i64) 3 v61 ([1, 2, 3, 4, 4, 0, 5] : List Int), pt g3 26 ([v4, v5]), Ow kTGrant 33 v4 x12.1.Given, Ow kTGrant 33 v5 x12.1.Waits, pt g1 26 ([(.slice none 0 0), (.slice none 0 0)])]) rfl
        obtain ⟨x52, hx42, H⟩ := hb H
        refine pkE [7, 4, 0] rfl (by decide) (by kernel_rfl) (by kernel_rfl) (e_call (fst := []) (vs := [(.pointer (some ⟨g2, 0, none⟩)), v72]) (cap := []) rfl rfl go_30 (St.call (A := [pt g2 74 ([v3, (.int .i64 x12.2.2.1), (.int .i64 x12.2.2.2)])]) (B := [Ow (Kd.int .i64) 3 v71 ([0, 1, 2, 2, (-1), 100] : List Int), Ow (Kd.int .i64) 3 v61 ([1, 2, 3, 4, 4, 0, 5] : List Int), pt g3 26 ([v4, v5]), Ow kTGrant 33 v4 x12.1.Given, Ow kTGrant 33 v5 x12.1.Waits, pt g1 26 ([(.slice none 0 0), (.slice none 0 0)])]) hS (spec_l1Int.spec k _ _ x12.2.1 x12.2.2.1 x12.2.2.2 ([1, 2, 3, 4, 5, 6, 0, 100] : List Int) v3 g2 v72 (h3.mono hg80) h80 _ hx42))) ?_
        intro v w hR
        obtain ⟨s83, A43, hg81, hS, hR⟩ := hR
        obtain ⟨v73, hv42, rfl, h81⟩ := hR; obtain rfl := hv42.symm
        have hS : St e s83 w [pt g2 74 ([v73, (.int .i64 x52.2.2.1), (.int .i64 x52.2.2.2)]), Ow (Kd.int .i64) 3 v71 ([0, 1, 2, 2, (-1), 100] : List Int), Ow (Kd.int .i64) 3 v61 ([1, 2, 3, 4, 4, 0, 5] : List Int), pt g3 26 ([v4, v5]), Ow kTGrant 33 v4 x12.1.Given, Ow kTGrant 33 v5 x12.1.Waits, pt g1 26 ([(.slice none 0 0), (.slice none 0 0)])] := hS
        refine ⟨⟨knw rfl rfl rfl (p_move rfl), ⟨knw rfl rfl rfl (p_move rfl), ⟨knw rfl rfl rfl (p_ldb_agg (i := 3) (l := []) (m := [v4, v5]) (r := []) hS rfl rfl ia_26 ti_26 rfl rfl rfl), trivial⟩⟩⟩, ?_⟩
        obtain ⟨s84, hg82, h82, hS⟩ := hS.freeze (i := 1) (kd := (Kd.int .i64)) (et := 3) (v := v71) (xs := ([0, 1, 2, 2, (-1), 100] : List Int)) (B := [pt g2 74 ([v73, (.int .i64 x52.2.2.1), (.int .i64 x52.2.2.2)]), Ow (Kd.int .i64) 3 v61 ([1, 2, 3, 4, 4, 0, 5] : List Int), pt g3 26 ([v4, v5]), Ow kTGrant 33 v4 x12.1.Given, Ow kTGrant 33 v5 x12.1.Waits, pt g1 26 ([(.slice none 0 0), (.slice none 0 0)])]) rfl
        obtain ⟨x53, hx43, H⟩ := hb H
        refine pkE [7, 0] rfl (by decide) (by kernel_rfl) (by kernel_rfl) (e_call (fst := []) (vs := [(.pointer (some ⟨g2, 0, none⟩)), v71]) (cap := []) rfl rfl go_30 (St.call (A := [pt g2 74 ([v73, (.int .i64 x52.2.2.1), (.int .i64 x52.2.2.2)])]) (B := [Ow (Kd.int .i64) 3 v61 ([1, 2, 3, 4, 4, 0, 5] : List Int), pt g3 26 ([v4, v5]), Ow kTGrant 33 v4 x12.1.Given, Ow kTGrant 33 v5 x12.1.Waits, pt g1 26 ([(.slice none 0 0), (.slice none 0 0)])]) hS (spec_l1Int.spec k _ _ x52.2.1 x52.2.2.1 x52.2.2.2 ([0, 1, 2, 2, (-1), 100] : List Int) v73 g2 v71 (h81.mono hg82) h82 _ hx43))) ?_
        intro v w hR
        obtain ⟨s85, A44, hg83, hS, hR⟩ := hR
        obtain ⟨v74, hv43, rfl, h83⟩ := hR; obtain rfl := hv43.symm
        have hS : St e s85 w [pt g2 74 ([v74, (.int .i64 x53.2.2.1), (.int .i64 x53.2.2.2)]), Ow (Kd.int .i64) 3 v61 ([1, 2, 3, 4, 4, 0, 5] : List Int), pt g3 26 ([v4, v5]), Ow kTGrant 33 v4 x12.1.Given, Ow kTGrant 33 v5 x12.1.Waits, pt g1 26 ([(.slice none 0 0), (.slice none 0 0)])] := hS
        refine ⟨⟨knw rfl rfl rfl (p_move rfl), ⟨knw rfl rfl rfl (p_ldb_agg (i := 2) (l := []) (m := [v4, v5]) (r := []) hS rfl rfl ia_26 ti_26 rfl rfl rfl), trivial⟩⟩, ?_⟩
        obtain ⟨s86, hg84, h84, hS⟩ := hS.freeze (i := 1) (kd := (Kd.int .i64)) (et := 3) (v := v61) (xs := ([1, 2, 3, 4, 4, 0, 5] : List Int)) (B := [pt g2 74 ([v74, (.int .i64 x53.2.2.1), (.int .i64 x53.2.2.2)]), pt g3 26 ([v4, v5]), Ow kTGrant 33 v4 x12.1.Given, Ow kTGrant 33 v5 x12.1.Waits, pt g1 26 ([(.slice none 0 0), (.slice none 0 0)])]) rfl
        obtain ⟨x54, hx44, H⟩ := hb H
        refine pkE [0] rfl (by decide) (by kernel_rfl) (by kernel_rfl) (e_call (fst := []) (vs := [(.pointer (some ⟨g2, 0, none⟩)), v61]) (cap := []) rfl rfl go_30 (St.call (A := [pt g2 74 ([v74, (.int .i64 x53.2.2.1), (.int .i64 x53.2.2.2)])]) (B := [pt g3 26 ([v4, v5]), Ow kTGrant 33 v4 x12.1.Given, Ow kTGrant 33 v5 x12.1.Waits, pt g1 26 ([(.slice none 0 0), (.slice none 0 0)])]) hS (spec_l1Int.spec k _ _ x53.2.1 x53.2.2.1 x53.2.2.2 ([1, 2, 3, 4, 4, 0, 5] : List Int) v74 g2 v61 (h83.mono hg84) h84 _ hx44))) ?_
        intro v w hR
        obtain ⟨s87, A45, hg85, hS, hR⟩ := hR
        obtain ⟨v75, hv44, rfl, h85⟩ := hR; obtain rfl := hv44.symm
        have hS : St e s87 w [pt g2 74 ([v75, (.int .i64 x54.2.2.1), (.int .i64 x54.2.2.2)]), pt g3 26 ([v4, v5]), Ow kTGrant 33 v4 x12.1.Given, Ow kTGrant 33 v5 x12.1.Waits, pt g1 26 ([(.slice none 0 0), (.slice none 0 0)])] := hS
        refine ⟨⟨knw rfl rfl rfl (p_ldb_agg (i := 1) (l := []) (m := [v4, v5]) (r := []) hS rfl rfl ia_26 ti_26 rfl rfl rfl), trivial⟩, ?_⟩
        refine pkE0 [] rfl (by kernel_rfl) (by kernel_rfl) (e_stb (i := 4) (l := []) (m := [(.slice none 0 0), (.slice none 0 0)]) (r := []) (m' := [v4, v5]) (cs' := [v4, v5]) hS rfl rfl rfl ti_26 rfl rfl rfl rfl rfl (one_cons (hS.one_ow (i := 2) rfl) (one_cons (hS.one_ow (i := 3) rfl) one_nil)) rfl) ?_
        intro v w hR
        have hS : St e s87 w [pt g1 26 ([v4, v5]), pt g2 74 ([v75, (.int .i64 x54.2.2.1), (.int .i64 x54.2.2.2)]), pt g3 26 ([v4, v5]), Ow kTGrant 33 v4 x12.1.Given, Ow kTGrant 33 v5 x12.1.Waits] := hR
        refine ⟨trivial, ?_⟩
        refine pkE [] rfl (by decide) (by kernel_rfl) (by kernel_rfl) (puEf (p_assign rfl)) ?_
        rintro v w' ⟨rfl, rfl⟩
        refine ⟨trivial, ?_⟩
        refine pkE [] rfl (by decide) (by kernel_rfl) (by kernel_rfl) (puEf (p_assign rfl)) ?_
        rintro v w' ⟨rfl, rfl⟩
        refine ⟨trivial, ?_⟩
        refine pkE [] rfl (by decide) (by kernel_rfl) (by kernel_rfl) (puEf (p_assign rfl)) ?_
        rintro v w' ⟨rfl, rfl⟩
        refine ⟨trivial, ?_⟩
        refine pkF (fun a hF => ?_)
        refine xn ?_
        obtain rfl := hsm H
        replace hS := hS.sel (is := [2, 1, 0, 0, 0]) (A' := [pt g3 26 ([v4, v5]), pt g2 74 ([v75, (.int .i64 x54.2.2.1), (.int .i64 x54.2.2.2)]), pt g1 26 ([v4, v5]), Ow kTGrant 33 v4 x12.1.Given, Ow kTGrant 33 v5 x12.1.Waits]) rfl
        exact ⟨x54.2.1, x54.2.2.1, x54.2.2.2, x12.1.Given, x12.1.Waits, x52.1, x53.1, x54.1, s87, v75, v4, v5, hS, hF.cut ⟨rfl, rfl, rfl, rfl, trivial⟩, (((((hg80.trans hg81).trans hg82).trans hg83).trans hg84).trans hg85), h85, HK1⟩
  · clear H HK1 hS hF
    rintro a w ⟨x1, x2, x3, x4, x5, x6, x7, x8, s5, v6, v7, v8, hS, hF, hg86, h86, H⟩
    unfold spec_DrawAsk.c1 at H
    refine rt ?_
    obtain rfl := hsm H
    have h87 : RvOk Try.prog _ w (.cell 2 26) _ := rvC (i := 2) hS rfl (show lk [(2, (.pointer (some ⟨g1, 0, none⟩))), (3, (.int .i64 x6)), (4, (.int .i64 x7)), (5, (.int .i64 x8))] 2 = _ from rfl) ia_26 ti_26 rfl
    replace hS := hS.sel (is := [3, 3]) (A' := [Ow kTGrant 33 v7 x4, Ow kTGrant 33 v8 x5]) rfl
    exact retc4 hF rfl h87 (rvT rfl) (rvT rfl) (rvT rfl) hS ⟨v7, v8, rfl, rfl⟩

def impl_Grant_61.f (k : Nat) (x : (List TGrant)) : Option (List TGrant) := if (([] : (List TGrant))).length + x.length ≤ 5864062014805 then some x else none
set_option maxRecDepth 100000 in
theorem impl_Grant_61.spec (k : Nat) (s0 : HF) (w : World) (x : (List TGrant)) (v : Value) (h : Sl kTGrant s0 v x) (r : (List TGrant)) (H : impl_Grant_61.f k x = some r) :
    Law Try.prog 61 #[v] s0 w [] (fun v s1 A1 => ∃ (u0 : Value), v = u0 ∧ A1 = [Ow kTGrant 33 u0 r]) := by
  unfold impl_Grant_61.f at H
  obtain ⟨hq, H⟩ := hck H
  obtain rfl := hsm H
  refine Law.intro Try.func61 rfl [(0, v)] (Nat.le_of_ble_eq_true rfl) (enter_lk ⟨rfl, trivial⟩) (fun e a hS hF => ?_)
  have hF : Fr 8 a [(0, v)] := hF
  refine sq ?_
  refine rg ?_
  refine stp hF (p_assign rfl) (by decide) (fun a hF => ?_)
  refine nilN ?_
  refine xn ?_
  refine sq ?_
  rcases Sl.cases h with ⟨c, rfl, rfl⟩ | ⟨A, c, hv⟩
  · refine sq ?_
    refine rg ?_
    refine stp hF (p_move rfl) (by decide) (fun a hF => ?_)
    refine stp hF (p_eqnil un_24 rfl rfl) (by decide) (fun a hF => ?_)
    refine nilN ?_
    refine xn ?_
    refine cnd hF rfl (fun hc => ?_) (fun hc => absurd hc (by decide))
    refine sq ?_
    refine rg ?_
    refine stp hF (p_assign rfl) (by decide) (fun a hF => ?_)
    refine nilN ?_
    refine xn ?_
    refine rt ?_
    refine xr ?_
    replace hS := hS.ownNil kTGrant 33 none
    exact ret1 hF rfl rfl hS ⟨_, rfl, rfl⟩
  · subst hv
    refine sq ?_
    refine rg ?_
    refine stp hF (p_move rfl) (by decide) (fun a hF => ?_)
    refine stp hF (p_eqnil un_24 rfl rfl) (by decide) (fun a hF => ?_)
    refine nilN ?_
    refine xn ?_
    refine cnd hF rfl (fun hc => absurd hc (by simp)) (fun hc => ?_)
    refine skN ?_
    refine xn ?_
    refine sq ?_
    refine rg ?_
    refine ste hF (e_bslice (kd := kTGrant) (et := 33) (ps := []) (vs := []) (cs := []) (xs := ([] : (List TGrant))) hS rfl (fun w => by kernel_rfl) rfl (by decide) (Nat.le_of_ble_eq_true rfl) (Rows.nil _ _ _ _)) (by decide) (fun v9 w a hR hF => ?_)
    have hS : St e s0 w [Ow kTGrant 33 v9 ([] : (List TGrant))] := hR
    refine stp hF (p_move rfl) (by decide) (fun a hF => ?_)
    refine ste hF (e_append (n := 0) hS rfl rfl rfl (h.src hS) un_24 ti_33 rfl (by decide) (by decide) (Nat.le_trans (Nat.mul_le_mul_right 24 hq) (by decide))) (by decide) (fun v10 w a hR hF => ?_)
    have hS : St e s0 w [Ow kTGrant 33 v10 x] := hR
    refine stp hF (p_assign rfl) (by decide) (fun a hF => ?_)
    refine nilN ?_
    refine xn ?_
    refine rt ?_
    exact ret1 hF rfl rfl hS ⟨_, rfl, rfl⟩

def impl_cloneLocks.f (k : Nat) (x1 : TLocks) : Option TLocks :=
  ((impl_Grant_61.f k x1.Given).bind fun x2 => ((impl_Grant_61.f k x1.Waits).bind fun x3 => (some (⟨x2, x3⟩ : TLocks))))
set_option maxRecDepth 100000 in
set_option maxHeartbeats 4000000 in
theorem impl_cloneLocks.spec (k : Nat) (s0 : HF) (w : World) (x1 : TLocks) (v1 : Value) (v2 : Value) (h1 : Sl kTGrant s0 v1 x1.Given) (h2 : Sl kTGrant s0 v2 x1.Waits) (r : TLocks) (H : impl_cloneLocks.f k x1 = some r) :
    Law Try.prog 31 #[(.agg #[v1, v2])] s0 w [] (fun v s1 A1 => ∃ (u0 : Value) (u1 : Value), v = (.agg #[u0, u1]) ∧ A1 = [Ow kTGrant 33 u0 r.Given, Ow kTGrant 33 u1 r.Waits]) := by
  unfold impl_cloneLocks.f at H
  refine Law.intro Try.func31 rfl [(0, (.agg #[v1, v2]))] (Nat.le_of_ble_eq_true rfl) (enter_lk ⟨rfl, trivial⟩) (fun e a hS hF => ?_)
  have hF : Fr 10 a [(0, (.agg #[v1, v2]))] := hF
  refine sq ?_
  refine rg ?_
  refine ste hF (e_box (cs := [v1, v2]) hS rfl rfl) (by decide) (fun v w a hR hF => ?_)
  obtain ⟨g1, rfl, hS⟩ := hR
  refine ste hF (e_alloc (cs := [(.slice none 0 0), (.slice none 0 0)]) hS ti_26 rfl) (by decide) (fun v w a hR hF => ?_)
  obtain ⟨g2, rfl, hS⟩ := hR
  refine nilN ?_
  refine xn ?_
  refine sq ?_
  replace hS : St e s0 w.drew [pt g2 26 ([(.slice none 0 0), (.slice none 0 0)]), pt g1 26 ([v1, v2])] := hS.drewN 1
  refine drw [0, 1, 2, 3, 4, 5, 6, 7] mixed (by kernel_rfl) (by decide) (hF.cut (L' := [(0, (.agg #[v1, v2])), (1, (.pointer (some ⟨g1, 0, none⟩))), (2, (.pointer (some ⟨g2, 0, none⟩)))]) ⟨rfl, rfl, rfl, trivial⟩) ?_
  clear hF
  generalize w.drew = w at hS ⊢
  refine pk1 rfl (by decide) rfl (by kernel_rfl) rfl (p_fldb (o' := 0) rfl fi_26_0 rfl) ?_
  refine pk1 rfl (by decide) rfl (by kernel_rfl) rfl (p_ldb_one (i := 1) hS rfl rfl ia_24 rfl) ?_
  refine pkPerm [3, 2, 4, 5, 6, 7] (by kernel_rfl) ?_
  refine pk1 rfl (by decide) rfl (by kernel_rfl) rfl (p_fldb (o' := 1) rfl fi_26_1 rfl) ?_
  refine pkPerm [4, 2, 5, 6, 7] (by kernel_rfl) ?_
  refine pk1 rfl (by decide) rfl (by kernel_rfl) rfl (p_ldb_one (i := 1) hS rfl rfl ia_24 rfl) ?_
  obtain ⟨x2, hx1, H⟩ := hb H
  refine pkE [4, 3, 0] rfl (by decide) (by kernel_rfl) (by kernel_rfl) (e_call (fst := []) (vs := [v1]) (cap := []) rfl rfl go_61 (St.call (A := []) (B := [pt g2 26 ([(.slice none 0 0), (.slice none 0 0)]), pt g1 26 ([v1, v2])]) hS (impl_Grant_61.spec k _ _ x1.Given v1 h1 _ hx1))) ?_
  intro v w hR
  obtain ⟨s2, A2, hg1, hS, hR⟩ := hR
  obtain ⟨v3, hv1, rfl⟩ := hR; obtain rfl := hv1.symm
  have hS : St e s2 w [Ow kTGrant 33 v3 x2, pt g2 26 ([(.slice none 0 0), (.slice none 0 0)]), pt g1 26 ([v1, v2])] := hS
  refine ⟨⟨knw rfl rfl rfl (p_ldb_one (i := 2) hS rfl rfl ia_24 rfl), ⟨knw rfl rfl rfl (p_fldb (o' := 1) rfl fi_26_1 rfl), ⟨knw rfl rfl rfl (p_fldb (o' := 0) rfl fi_26_0 rfl), trivial⟩⟩⟩, ?_⟩
  obtain ⟨x3, hx2, H⟩ := hb H
  refine pkE [3, 0] rfl (by decide) (by kernel_rfl) (by kernel_rfl) (e_call (fst := []) (vs := [v2]) (cap := []) rfl rfl go_61 (St.call (A := []) (B := [Ow kTGrant 33 v3 x2, pt g2 26 ([(.slice none 0 0), (.slice none 0 0)]), pt g1 26 ([v1, v2])]) hS (impl_Grant_61.spec k _ _ x1.Waits v2 (h2.mono hg1) _ hx2))) ?_
  intro v w hR
  obtain ⟨s3, A3, hg2, hS, hR⟩ := hR
  obtain ⟨v4, hv2, rfl⟩ := hR; obtain rfl := hv2.symm
  have hS : St e s3 w [Ow kTGrant 33 v4 x3, Ow kTGrant 33 v3 x2, pt g2 26 ([(.slice none 0 0), (.slice none 0 0)]), pt g1 26 ([v1, v2])] := hS
  refine ⟨⟨knw rfl rfl rfl (p_fldb (o' := 1) rfl fi_26_1 rfl), ⟨knw rfl rfl rfl (p_fldb (o' := 0) rfl fi_26_0 rfl), trivial⟩⟩, ?_⟩
  refine pk1 rfl (by decide) rfl (by kernel_rfl) rfl (p_build (ps := [(0, (.tmp 5)), (1, (.tmp 8))]) (vs := [(0, v3), (1, v4)]) (v := (.agg #[v3, v4])) rfl (by intro w; obtain ⟨_, _, _, e1⟩ := hS.el (i := 1) rfl; rw [e1]; obtain ⟨_, _, _, e2⟩ := hS.el (i := 0) rfl; rw [e2]; kernel_rfl)) ?_
  refine pkE0 [] rfl (by kernel_rfl) (by kernel_rfl) (e_stb (i := 2) (l := []) (m := [(.slice none 0 0), (.slice none 0 0)]) (r := []) (m' := [v3, v4]) (cs' := [v3, v4]) hS rfl rfl rfl ti_26 rfl rfl rfl rfl rfl (one_cons (hS.one_ow (i := 1) rfl) (one_cons (hS.one_ow (i := 0) rfl) one_nil)) rfl) ?_
  intro v w hR
  have hS : St e s3 w [pt g2 26 ([v3, v4]), Ow kTGrant 33 v4 x3, Ow kTGrant 33 v3 x2, pt g1 26 ([v1, v2])] := hR
  refine ⟨trivial, ?_⟩
  refine pkF (fun a hF => ?_)
  refine xn ?_
  refine rt ?_
  obtain rfl := hsm H
  have h3 : RvOk Try.prog _ w (.cell 2 26) _ := rvC (i := 0) hS rfl (show lk [(2, (.pointer (some ⟨g2, 0, none⟩)))] 2 = _ from rfl) ia_26 ti_26 rfl
  replace hS := hS.sel (is := [2, 1]) (A' := [Ow kTGrant 33 v3 x2, Ow kTGrant 33 v4 x3]) rfl
  exact retc1 hF rfl h3 hS ⟨v3, v4, rfl, rfl⟩

def impl_in.f (k : Nat) (x1 : Int) (x2 : Int) (x3 : Int) : Option Bool :=
  (some ((decide (x2 ≤ x1)) && (decide (x1 ≤ x3))))
set_option maxRecDepth 100000 in
set_option maxHeartbeats 4000000 in
theorem impl_in.spec (k : Nat) (s0 : HF) (w : World) (x1 : Int) (x2 : Int) (x3 : Int) (r : Bool) (H : impl_in.f k x1 x2 x3 = some r) :
    Law Try.prog 62 #[(.int .i64 x1), (.int .i64 x2), (.int .i64 x3)] s0 w [] (fun v s1 A1 => v = (.bool r) ∧ A1 = []) := by
  unfold impl_in.f at H
  refine Law.intro Try.func62 rfl [(0, (.int .i64 x1)), (1, (.int .i64 x2)), (2, (.int .i64 x3))] (Nat.le_of_ble_eq_true rfl) (enter_lk ⟨rfl, rfl, rfl, trivial⟩) (fun e a hS hF => ?_)
  have hF : Fr 15 a [(0, (.int .i64 x1)), (1, (.int .i64 x2)), (2, (.int .i64 x3))] := hF
  refine sq ?_
  refine rg ?_
  refine stp hF (p_assign rfl) (by decide) (fun a hF => ?_)
  refine nilN ?_
  refine xn ?_
  refine sq ?_
  refine rg ?_
  refine stp hF (p_move rfl) (by decide) (fun a hF => ?_)
  refine stp hF (p_move rfl) (by decide) (fun a hF => ?_)
  refine stp hF (p_geq rfl rfl) (by decide) (fun a hF => ?_)
  refine stp hF (p_move rfl) (by decide) (fun a hF => ?_)
  refine cutj 4 (fun a w => St e s0 w [] ∧ Fr 15 a [(14, (.bool ((decide (x2 ≤ x1)) && (decide (x1 ≤ x3)))))]) rfl rfl ?_ ?_
  · rcases Bool.eq_false_or_eq_true (decide (x2 ≤ x1)) with hc1 | hc1
    · skip
      refine gonE (j := 3) hF rfl rfl hc1 ?_
      refine stp hF (p_move rfl) (by decide) (fun a hF => ?_)
      refine gonE (j := 3) hF rfl rfl hc1 ?_
      refine stp hF (p_move rfl) (by decide) (fun a hF => ?_)
      refine gonE (j := 3) hF rfl rfl hc1 ?_
      refine stp hF (p_leq rfl rfl) (by decide) (fun a hF => ?_)
      refine stp hF (p_andT rfl hc1 rfl) (by decide) (fun a hF => ?_)
      refine nilN ?_
      refine xn ?_
      exact ⟨hS, hF.cut ⟨rfl, trivial⟩⟩
    · skip
      refine gofD (j := 3) hF rfl rfl (by rw [hc1]; decide) (by decide) (fun a hF => ?_)
      refine gofD (j := 3) hF rfl rfl (by rw [hc1]; decide) (by decide) (fun a hF => ?_)
      refine gofD (j := 3) hF rfl rfl (by rw [hc1]; decide) (by decide) (fun a hF => ?_)
      refine stp hF (p_andF (decide (x1 ≤ x3)) rfl hc1 rfl) (by decide) (fun a hF => ?_)
      refine nilN ?_
      refine xn ?_
      exact ⟨hS, hF.cut ⟨rfl, trivial⟩⟩
  clear hS hF
  rintro a w ⟨hS, hF⟩
  refine stp hF (p_assign rfl) (by decide) (fun a hF => ?_)
  refine nilN ?_
  refine xn ?_
  refine rt ?_
  obtain rfl := hsm H
  exact ret1 hF rfl rfl hS ⟨rfl, rfl⟩

def impl_isMode.f (k : Nat) (x1 : Int) : Option Bool :=
  ((impl_in.f k x1 1 4).bind fun x2 => (some x2))
set_option maxRecDepth 100000 in
set_option maxHeartbeats 4000000 in
theorem impl_isMode.spec (k : Nat) (s0 : HF) (w : World) (x1 : Int) (r : Bool) (H : impl_isMode.f k x1 = some r) :
    Law Try.prog 47 #[(.int .i64 x1)] s0 w [] (fun v s1 A1 => v = (.bool r) ∧ A1 = []) := by
  unfold impl_isMode.f at H
  refine Law.intro Try.func47 rfl [(0, (.int .i64 x1))] (Nat.le_of_ble_eq_true rfl) (enter_lk ⟨rfl, trivial⟩) (fun e a hS hF => ?_)
  have hF : Fr 5 a [(0, (.int .i64 x1))] := hF
  refine sq ?_
  refine rg ?_
  refine stp hF (p_assign rfl) (by decide) (fun a hF => ?_)
  refine nilN ?_
  refine xn ?_
  refine sq ?_
  refine rg ?_
  refine stp hF (p_move rfl) (by decide) (fun a hF => ?_)
  obtain ⟨x2, hx1, H⟩ := hb H
  refine ste hF (e_call (fst := []) (vs := [(.int .i64 x1), (.int .i64 1), (.int .i64 4)]) (cap := []) rfl rfl go_62 (St.call (A := []) (B := []) hS (impl_in.spec k _ _ x1 1 4 _ hx1))) (by decide) (fun v w a hR hF => ?_)
  obtain ⟨s2, A2, hg1, hS, hR⟩ := hR
  obtain ⟨hv1, rfl⟩ := hR; obtain rfl := hv1.symm
  have hS : St e s2 w [] := hS
  refine stp hF (p_assign rfl) (by decide) (fun a hF => ?_)
  refine nilN ?_
  refine xn ?_
  refine rt ?_
  obtain rfl := hsm H
  exact ret1 hF rfl rfl hS ⟨rfl, rfl⟩

def impl_grantOk.c1 (k : Nat) (x1 : Bool) : Option Bool :=
  (some x1)
def impl_grantOk.c2 (k : Nat) (x2 : TGrant) (x3 : Bool) : Option Bool :=
  ((if x3 = true then ((impl_isMode.f k x2.Mode).bind fun x4 => (some x4)) else (some false) : Option Bool).bind fun x5 => impl_grantOk.c1 k x5)
def impl_grantOk.f (k : Nat) (x2 : TGrant) : Option Bool :=
  ((impl_in.f k x2.Tx 1 99).bind fun x6 => ((if x6 = true then ((impl_in.f k x2.Res 0 99).bind fun x7 => (some x7)) else (some false) : Option Bool).bind fun x8 => impl_grantOk.c2 k x2 x8))
set_option maxRecDepth 100000 in
set_option maxHeartbeats 4000000 in
theorem impl_grantOk.spec (k : Nat) (s0 : HF) (w : World) (x2 : TGrant) (r : Bool) (H : impl_grantOk.f k x2 = some r) :
    Law Try.prog 32 #[(.agg #[(.int .i64 x2.Tx), (.int .i64 x2.Res), (.int .i64 x2.Mode)])] s0 w [] (fun v s1 A1 => v = (.bool r) ∧ A1 = []) := by
  unfold impl_grantOk.f at H
  refine Law.intro Try.func32 rfl [(0, (.agg #[(.int .i64 x2.Tx), (.int .i64 x2.Res), (.int .i64 x2.Mode)]))] (Nat.le_of_ble_eq_true rfl) (enter_lk ⟨rfl, trivial⟩) (fun e a hS hF => ?_)
  have hF : Fr 16 a [(0, (.agg #[(.int .i64 x2.Tx), (.int .i64 x2.Res), (.int .i64 x2.Mode)]))] := hF
  refine sq ?_
  refine rg ?_
  refine ste hF (e_box (cs := [(.int .i64 x2.Tx), (.int .i64 x2.Res), (.int .i64 x2.Mode)]) hS rfl rfl) (by decide) (fun v w a hR hF => ?_)
  obtain ⟨g1, rfl, hS⟩ := hR
  refine stp hF (p_assign rfl) (by decide) (fun a hF => ?_)
  refine nilN ?_
  refine xn ?_
  refine sq ?_
  refine rg ?_
  refine stp hF (p_fldb (o' := 0) rfl fi_33_0 rfl) (by decide) (fun a hF => ?_)
  refine stp hF (p_ldb_one (i := 0) hS rfl rfl ia_3 rfl) (by decide) (fun a hF => ?_)
  obtain ⟨x6, hx1, H⟩ := hb H
  refine ste hF (e_call (fst := []) (vs := [(.int .i64 x2.Tx), (.int .i64 1), (.int .i64 99)]) (cap := []) rfl rfl go_62 (St.call (A := []) (B := [pt g1 33 ([(.int .i64 x2.Tx), (.int .i64 x2.Res), (.int .i64 x2.Mode)])]) hS (impl_in.spec k _ _ x2.Tx 1 99 _ hx1))) (by decide) (fun v w a hR hF => ?_)
  obtain ⟨s2, A2, hg1, hS, hR⟩ := hR
  obtain ⟨hv1, rfl⟩ := hR; obtain rfl := hv1.symm
  have hS : St e s2 w [pt g1 33 ([(.int .i64 x2.Tx), (.int .i64 x2.Res), (.int .i64 x2.Mode)])] := hS
  refine stp hF (p_move rfl) (by decide) (fun a hF => ?_)
  obtain ⟨x8, H, HK1⟩ := hb H
  refine cutj 4 (fun a w => ∃ (x3 : Bool) (s3 : HF) , St e s3 w [pt g1 33 ([(.int .i64 x2.Tx), (.int .i64 x2.Res), (.int .i64 x2.Mode)])] ∧ Fr 16 a [(1, (.pointer (some ⟨g1, 0, none⟩))), (10, (.bool x3))] ∧ Sub s2 s3 ∧ impl_grantOk.c2 k x2 x3 = some r) rfl rfl ?_ ?_
  · rcases Bool.eq_false_or_eq_true (x6) with hc1 | hc1
    · replace H := hbt hc1 H
      refine gonE (j := 3) hF rfl rfl hc1 ?_
      refine stp hF (p_fldb (o' := 1) rfl fi_33_1 rfl) (by decide) (fun a hF => ?_)
      refine gonE (j := 3) hF rfl rfl hc1 ?_
      refine stp hF (p_ldb_one (i := 0) hS rfl rfl ia_3 rfl) (by decide) (fun a hF => ?_)
      obtain ⟨x7, hx2, H⟩ := hb H
      refine gonE (j := 3) hF rfl rfl hc1 ?_
      refine ste hF (e_call (fst := []) (vs := [(.int .i64 x2.Res), (.int .i64 0), (.int .i64 99)]) (cap := []) rfl rfl go_62 (St.call (A := []) (B := [pt g1 33 ([(.int .i64 x2.Tx), (.int .i64 x2.Res), (.int .i64 x2.Mode)])]) hS (impl_in.spec k _ _ x2.Res 0 99 _ hx2))) (by decide) (fun v w a hR hF => ?_)
      obtain ⟨s4, A3, hg2, hS, hR⟩ := hR
      obtain ⟨hv2, rfl⟩ := hR; obtain rfl := hv2.symm
      have hS : St e s4 w [pt g1 33 ([(.int .i64 x2.Tx), (.int .i64 x2.Res), (.int .i64 x2.Mode)])] := hS
      refine stp hF (p_pickT rfl hc1 rfl) (by decide) (fun a hF => ?_)
      refine nilN ?_
      refine xn ?_
      obtain rfl := hsm H
      exact ⟨x7, s4, hS, hF.cut ⟨rfl, rfl, trivial⟩, hg2, HK1⟩
    · replace H := hbf hc1 H
      refine gofD (j := 3) hF rfl rfl (by rw [hc1]; decide) (by decide) (fun a hF => ?_)
      refine gofD (j := 3) hF rfl rfl (by rw [hc1]; decide) (by decide) (fun a hF => ?_)
      refine gofD (j := 3) hF rfl rfl (by rw [hc1]; decide) (by decide) (fun a hF => ?_)
      refine stp hF (p_pickF rfl hc1 rfl) (by decide) (fun a hF => ?_)
      refine nilN ?_
      refine xn ?_
      obtain rfl := hsm H
      exact ⟨false, s2, hS, hF.cut ⟨rfl, rfl, trivial⟩, (Sub.refl _), HK1⟩
  · clear H HK1 hS hF
    rintro a w ⟨x3, s3, hS, hF, hg3, H⟩
    unfold impl_grantOk.c2 at H
    refine stp hF (p_move rfl) (by decide) (fun a hF => ?_)
    obtain ⟨x5, H, HK2⟩ := hb H
    refine cutj 4 (fun a w => ∃ (x1 : Bool) (s5 : HF) , St e s5 w [pt g1 33 ([(.int .i64 x2.Tx), (.int .i64 x2.Res), (.int .i64 x2.Mode)])] ∧ Fr 16 a [(15, (.bool x1))] ∧ Sub s3 s5 ∧ impl_grantOk.c1 k x1 = some r) rfl rfl ?_ ?_
    · rcases Bool.eq_false_or_eq_true (x3) with hc2 | hc2
      · replace H := hbt hc2 H
        refine gonE (j := 8) hF rfl rfl hc2 ?_
        refine stp hF (p_fldb (o' := 2) rfl fi_33_2 rfl) (by decide) (fun a hF => ?_)
        refine gonE (j := 8) hF rfl rfl hc2 ?_
        refine stp hF (p_ldb_one (i := 0) hS rfl rfl ia_3 rfl) (by decide) (fun a hF => ?_)
        obtain ⟨x4, hx3, H⟩ := hb H
        refine gonE (j := 8) hF rfl rfl hc2 ?_
        refine ste hF (e_call (fst := []) (vs := [(.int .i64 x2.Mode)]) (cap := []) rfl rfl go_47 (St.call (A := []) (B := [pt g1 33 ([(.int .i64 x2.Tx), (.int .i64 x2.Res), (.int .i64 x2.Mode)])]) hS (impl_isMode.spec k _ _ x2.Mode _ hx3))) (by decide) (fun v w a hR hF => ?_)
        obtain ⟨s6, A4, hg4, hS, hR⟩ := hR
        obtain ⟨hv3, rfl⟩ := hR; obtain rfl := hv3.symm
        have hS : St e s6 w [pt g1 33 ([(.int .i64 x2.Tx), (.int .i64 x2.Res), (.int .i64 x2.Mode)])] := hS
        refine stp hF (p_pickT rfl hc2 rfl) (by decide) (fun a hF => ?_)
        refine nilN ?_
        refine xn ?_
        obtain rfl := hsm H
        exact ⟨x4, s6, hS, hF.cut ⟨rfl, trivial⟩, hg4, HK2⟩
      · replace H := hbf hc2 H
        refine gofD (j := 8) hF rfl rfl (by rw [hc2]; decide) (by decide) (fun a hF => ?_)
        refine gofD (j := 8) hF rfl rfl (by rw [hc2]; decide) (by decide) (fun a hF => ?_)
        refine gofD (j := 8) hF rfl rfl (by rw [hc2]; decide) (by decide) (fun a hF => ?_)
        refine stp hF (p_pickF rfl hc2 rfl) (by decide) (fun a hF => ?_)
        refine nilN ?_
        refine xn ?_
        obtain rfl := hsm H
        exact ⟨false, s3, hS, hF.cut ⟨rfl, trivial⟩, (Sub.refl _), HK2⟩
    · clear H HK2 hS hF
      rintro a w ⟨x1, s5, hS, hF, hg5, H⟩
      unfold impl_grantOk.c1 at H
      refine stp hF (p_assign rfl) (by decide) (fun a hF => ?_)
      refine nilN ?_
      refine xn ?_
      refine rt ?_
      obtain rfl := hsm H
      replace hS := hS.sel (is := []) (A' := []) rfl
      exact ret1 hF rfl rfl hS ⟨rfl, rfl⟩

def impl_Goes.c1 (k : Nat) (x1 : Int) (x2 : Int) (x3 : Bool) : Option Bool :=
  (if ((x3 || (decide (x1 = 4))) || (decide (x2 = 4))) = true then (some false) else (some (((decide (x1 = 1)) || (decide (x2 = 1))) || (decide (x1 = x2)))))
def impl_Goes.f (k : Nat) (x1 : Int) (x2 : Int) : Option Bool :=
  ((impl_isMode.f k x1).bind fun x4 => ((if (!x4) = true then (some true) else ((impl_isMode.f k x2).bind fun x5 => (some (!x5))) : Option Bool).bind fun x6 => impl_Goes.c1 k x1 x2 x6))
set_option maxRecDepth 100000 in
set_option maxHeartbeats 4000000 in
theorem impl_Goes.spec (k : Nat) (s0 : HF) (w : World) (x1 : Int) (x2 : Int) (r : Bool) (H : impl_Goes.f k x1 x2 = some r) :
    Law Try.prog 46 #[(.int .i64 x1), (.int .i64 x2)] s0 w [] (fun v s1 A1 => v = (.bool r) ∧ A1 = []) := by
  unfold impl_Goes.f at H
  refine Law.intro Try.func46 rfl [(0, (.int .i64 x1)), (1, (.int .i64 x2))] (Nat.le_of_ble_eq_true rfl) (enter_lk ⟨rfl, rfl, trivial⟩) (fun e a hS hF => ?_)
  have hF : Fr 32 a [(0, (.int .i64 x1)), (1, (.int .i64 x2))] := hF
  refine sq ?_
  refine rg ?_
  refine stp hF (p_assign rfl) (by decide) (fun a hF => ?_)
  refine nilN ?_
  refine xn ?_
  refine sq ?_
  refine sq ?_
  refine rg ?_
  refine stp hF (p_move rfl) (by decide) (fun a hF => ?_)
  obtain ⟨x4, hx1, H⟩ := hb H
  refine ste hF (e_call (fst := []) (vs := [(.int .i64 x1)]) (cap := []) rfl rfl go_47 (St.call (A := []) (B := []) hS (impl_isMode.spec k _ _ x1 _ hx1))) (by decide) (fun v w a hR hF => ?_)
  obtain ⟨s2, A2, hg1, hS, hR⟩ := hR
  obtain ⟨hv1, rfl⟩ := hR; obtain rfl := hv1.symm
  have hS : St e s2 w [] := hS
  refine stp hF (p_not rfl) (by decide) (fun a hF => ?_)
  refine stp hF (p_move rfl) (by decide) (fun a hF => ?_)
  obtain ⟨x6, H, HK1⟩ := hb H
  refine cutj 4 (fun a w => ∃ (x3 : Bool) (s3 : HF) , St e s3 w [] ∧ Fr 32 a [(0, (.int .i64 x1)), (1, (.int .i64 x2)), (12, (.bool x3))] ∧ Sub s2 s3 ∧ impl_Goes.c1 k x1 x2 x3 = some r) rfl rfl ?_ ?_
  · rcases Bool.eq_false_or_eq_true ((!x4)) with hc1 | hc1
    · replace H := hbt hc1 H
      refine gofD (j := 3) hF rfl rfl (by rw [hc1]; decide) (by decide) (fun a hF => ?_)
      refine gofD (j := 3) hF rfl rfl (by rw [hc1]; decide) (by decide) (fun a hF => ?_)
      refine gofD (j := 3) hF rfl rfl (by rw [hc1]; decide) (by decide) (fun a hF => ?_)
      refine stp hF (p_pickT rfl hc1 rfl) (by decide) (fun a hF => ?_)
      refine nilN ?_
      refine xn ?_
      obtain rfl := hsm H
      exact ⟨true, s2, hS, hF.cut ⟨rfl, rfl, rfl, trivial⟩, (Sub.refl _), HK1⟩
    · replace H := hbf hc1 H
      refine gonE (j := 3) hF rfl rfl hc1 ?_
      refine stp hF (p_move rfl) (by decide) (fun a hF => ?_)
      obtain ⟨x5, hx2, H⟩ := hb H
      refine gonE (j := 3) hF rfl rfl hc1 ?_
      refine ste hF (e_call (fst := []) (vs := [(.int .i64 x2)]) (cap := []) rfl rfl go_47 (St.call (A := []) (B := []) hS (impl_isMode.spec k _ _ x2 _ hx2))) (by decide) (fun v w a hR hF => ?_)
      obtain ⟨s4, A3, hg2, hS, hR⟩ := hR
      obtain ⟨hv2, rfl⟩ := hR; obtain rfl := hv2.symm
      have hS : St e s4 w [] := hS
      refine gonE (j := 3) hF rfl rfl hc1 ?_
      refine stp hF (p_not rfl) (by decide) (fun a hF => ?_)
      refine stp hF (p_pickF rfl hc1 rfl) (by decide) (fun a hF => ?_)
      refine nilN ?_
      refine xn ?_
      obtain rfl := hsm H
      exact ⟨(!x5), s4, hS, hF.cut ⟨rfl, rfl, rfl, trivial⟩, hg2, HK1⟩
  · clear H HK1 hS hF
    rintro a w ⟨x3, s3, hS, hF, hg3, H⟩
    unfold impl_Goes.c1 at H
    refine stp hF (p_move rfl) (by decide) (fun a hF => ?_)
    refine cutj 3 (fun a w => St e s3 w [] ∧ Fr 32 a [(0, (.int .i64 x1)), (1, (.int .i64 x2)), (16, (.bool (x3 || (decide (x1 = 4)))))]) rfl rfl ?_ ?_
    · rcases Bool.eq_false_or_eq_true (x3) with hc2 | hc2
      · skip
        refine gofD (j := 8) hF rfl rfl (by rw [hc2]; decide) (by decide) (fun a hF => ?_)
        refine gofD (j := 8) hF rfl rfl (by rw [hc2]; decide) (by decide) (fun a hF => ?_)
        refine stp hF (p_orT (decide (x1 = 4)) rfl hc2 rfl) (by decide) (fun a hF => ?_)
        refine nilN ?_
        refine xn ?_
        exact ⟨hS, hF.cut ⟨rfl, rfl, rfl, trivial⟩⟩
      · skip
        refine gonE (j := 8) hF rfl rfl hc2 ?_
        refine stp hF (p_move rfl) (by decide) (fun a hF => ?_)
        refine gonE (j := 8) hF rfl rfl hc2 ?_
        refine stp hF (p_eql rfl rfl) (by decide) (fun a hF => ?_)
        refine stp hF (p_orF rfl hc2 rfl) (by decide) (fun a hF => ?_)
        refine nilN ?_
        refine xn ?_
        exact ⟨hS, hF.cut ⟨rfl, rfl, rfl, trivial⟩⟩
    clear hS hF
    rintro a w ⟨hS, hF⟩
    refine stp hF (p_move rfl) (by decide) (fun a hF => ?_)
    refine cutj 3 (fun a w => St e s3 w [] ∧ Fr 32 a [(0, (.int .i64 x1)), (1, (.int .i64 x2)), (20, (.bool ((x3 || (decide (x1 = 4))) || (decide (x2 = 4)))))]) rfl rfl ?_ ?_
    · rcases Bool.eq_false_or_eq_true ((x3 || (decide (x1 = 4)))) with hc3 | hc3
      · skip
        refine gofD (j := 12) hF rfl rfl (by rw [hc3]; decide) (by decide) (fun a hF => ?_)
        refine gofD (j := 12) hF rfl rfl (by rw [hc3]; decide) (by decide) (fun a hF => ?_)
        refine stp hF (p_orT (decide (x2 = 4)) rfl hc3 rfl) (by decide) (fun a hF => ?_)
        refine nilN ?_
        refine xn ?_
        exact ⟨hS, hF.cut ⟨rfl, rfl, rfl, trivial⟩⟩
      · skip
        refine gonE (j := 12) hF rfl rfl hc3 ?_
        refine stp hF (p_move rfl) (by decide) (fun a hF => ?_)
        refine gonE (j := 12) hF rfl rfl hc3 ?_
        refine stp hF (p_eql rfl rfl) (by decide) (fun a hF => ?_)
        refine stp hF (p_orF rfl hc3 rfl) (by decide) (fun a hF => ?_)
        refine nilN ?_
        refine xn ?_
        exact ⟨hS, hF.cut ⟨rfl, rfl, rfl, trivial⟩⟩
    clear hS hF
    rintro a w ⟨hS, hF⟩
    refine nilN ?_
    refine xn ?_
    refine cnd hF rfl (fun hc4 => ?_) (fun hc4 => ?_)
    · replace H := hbt hc4 H
      refine sq ?_
      refine rg ?_
      refine stp hF (p_assign rfl) (by decide) (fun a hF => ?_)
      refine nilN ?_
      refine xn ?_
      refine rt ?_
      refine xr ?_
      obtain rfl := hsm H
      exact ret1 hF rfl rfl hS ⟨rfl, rfl⟩
    · replace H := hbf hc4 H
      refine skN ?_
      refine xn ?_
      refine sq ?_
      refine rg ?_
      refine stp hF (p_move rfl) (by decide) (fun a hF => ?_)
      refine stp hF (p_eql rfl rfl) (by decide) (fun a hF => ?_)
      refine stp hF (p_move rfl) (by decide) (fun a hF => ?_)
      refine cutj 3 (fun a w => St e s3 w [] ∧ Fr 32 a [(0, (.int .i64 x1)), (1, (.int .i64 x2)), (26, (.bool ((decide (x1 = 1)) || (decide (x2 = 1)))))]) rfl rfl ?_ ?_
      · rcases Bool.eq_false_or_eq_true (decide (x1 = 1)) with hc5 | hc5
        · skip
          refine gofD (j := 2) hF rfl rfl (by rw [hc5]; decide) (by decide) (fun a hF => ?_)
          refine gofD (j := 2) hF rfl rfl (by rw [hc5]; decide) (by decide) (fun a hF => ?_)
          refine stp hF (p_orT (decide (x2 = 1)) rfl hc5 rfl) (by decide) (fun a hF => ?_)
          refine nilN ?_
          refine xn ?_
          exact ⟨hS, hF.cut ⟨rfl, rfl, rfl, trivial⟩⟩
        · skip
          refine gonE (j := 2) hF rfl rfl hc5 ?_
          refine stp hF (p_move rfl) (by decide) (fun a hF => ?_)
          refine gonE (j := 2) hF rfl rfl hc5 ?_
          refine stp hF (p_eql rfl rfl) (by decide) (fun a hF => ?_)
          refine stp hF (p_orF rfl hc5 rfl) (by decide) (fun a hF => ?_)
          refine nilN ?_
          refine xn ?_
          exact ⟨hS, hF.cut ⟨rfl, rfl, rfl, trivial⟩⟩
      clear hS hF
      rintro a w ⟨hS, hF⟩
      refine stp hF (p_move rfl) (by decide) (fun a hF => ?_)
      refine cutj 4 (fun a w => St e s3 w [] ∧ Fr 32 a [(31, (.bool (((decide (x1 = 1)) || (decide (x2 = 1))) || (decide (x1 = x2)))))]) rfl rfl ?_ ?_
      · rcases Bool.eq_false_or_eq_true (((decide (x1 = 1)) || (decide (x2 = 1)))) with hc6 | hc6
        · skip
          refine gofD (j := 6) hF rfl rfl (by rw [hc6]; decide) (by decide) (fun a hF => ?_)
          refine gofD (j := 6) hF rfl rfl (by rw [hc6]; decide) (by decide) (fun a hF => ?_)
          refine gofD (j := 6) hF rfl rfl (by rw [hc6]; decide) (by decide) (fun a hF => ?_)
          refine stp hF (p_orT (decide (x1 = x2)) rfl hc6 rfl) (by decide) (fun a hF => ?_)
          refine nilN ?_
          refine xn ?_
          exact ⟨hS, hF.cut ⟨rfl, trivial⟩⟩
        · skip
          refine gonE (j := 6) hF rfl rfl hc6 ?_
          refine stp hF (p_move rfl) (by decide) (fun a hF => ?_)
          refine gonE (j := 6) hF rfl rfl hc6 ?_
          refine stp hF (p_move rfl) (by decide) (fun a hF => ?_)
          refine gonE (j := 6) hF rfl rfl hc6 ?_
          refine stp hF (p_eql rfl rfl) (by decide) (fun a hF => ?_)
          refine stp hF (p_orF rfl hc6 rfl) (by decide) (fun a hF => ?_)
          refine nilN ?_
          refine xn ?_
          exact ⟨hS, hF.cut ⟨rfl, trivial⟩⟩
      clear hS hF
      rintro a w ⟨hS, hF⟩
      refine stp hF (p_assign rfl) (by decide) (fun a hF => ?_)
      refine nilN ?_
      refine xn ?_
      refine rt ?_
      obtain rfl := hsm H
      exact ret1 hF rfl rfl hS ⟨rfl, rfl⟩

def impl_LocksOk_1.c1 (k : Nat) (x1 : Bool) : Option Bool :=
  (some x1)
def impl_LocksOk_1.c2 (k : Nat) (x2 : Bool) : Option Bool :=
  (some x2)
def impl_LocksOk_1.f (k : Nat) (x3 : TGrant) (x4 : TGrant) : Option Bool :=
  ((if (decide (x3.Res = x4.Res)) = true then ((if (decide (x3.Tx = x4.Tx)) = true then (some true) else ((impl_Goes.f k x3.Mode x4.Mode).bind fun x5 => (some (!x5))) : Option Bool).bind fun x6 => impl_LocksOk_1.c2 k x6) else (some false) : Option Bool).bind fun x7 => impl_LocksOk_1.c1 k x7)
set_option maxRecDepth 100000 in
set_option maxHeartbeats 4000000 in
theorem impl_LocksOk_1.spec (k : Nat) (s0 : HF) (w : World) (x3 : TGrant) (x4 : TGrant) (ad1 : Addr) (h1 : Pr kTGrant s0 ad1 x4) (r : Bool) (H : impl_LocksOk_1.f k x3 x4 = some r) :
    Law Try.prog 45 #[(.agg #[(.int .i64 x3.Tx), (.int .i64 x3.Res), (.int .i64 x3.Mode)]), (.pointer (some ad1))] s0 w [] (fun v s1 A1 => v = (.bool r) ∧ A1 = []) := by
  unfold impl_LocksOk_1.f at H
  refine Law.intro Try.func45 rfl [(0, (.agg #[(.int .i64 x3.Tx), (.int .i64 x3.Res), (.int .i64 x3.Mode)])), (1, (.pointer (some ad1)))] (Nat.le_of_ble_eq_true rfl) (enter_lk ⟨rfl, rfl, trivial⟩) (fun e a hS hF => ?_)
  have hF : Fr 24 a [(0, (.agg #[(.int .i64 x3.Tx), (.int .i64 x3.Res), (.int .i64 x3.Mode)])), (1, (.pointer (some ad1)))] := hF
  refine sq ?_
  refine rg ?_
  refine ste hF (e_box (cs := [(.int .i64 x3.Tx), (.int .i64 x3.Res), (.int .i64 x3.Mode)]) hS rfl rfl) (by decide) (fun v w a hR hF => ?_)
  obtain ⟨g1, rfl, hS⟩ := hR
  refine stp hF (p_assign rfl) (by decide) (fun a hF => ?_)
  refine nilN ?_
  refine xn ?_
  refine sq ?_
  refine rg ?_
  refine stp hF (p_fldb (o' := 1) rfl fi_33_1 rfl) (by decide) (fun a hF => ?_)
  refine stp hF (p_ldb_one (i := 0) hS rfl rfl ia_3 rfl) (by decide) (fun a hF => ?_)
  have h2 : Pr (Kd.int .i64) s0 (ad1.add 1) x4.Res := h1.lens kTGrant_Res
  refine stp hF (p_fld rfl fi_33_1) (by decide) (fun a hF => ?_)
  refine stp hF (p_ldr_int rfl hS h2 ia_3) (by decide) (fun a hF => ?_)
  refine stp hF (p_eql rfl rfl) (by decide) (fun a hF => ?_)
  refine stp hF (p_move rfl) (by decide) (fun a hF => ?_)
  obtain ⟨x7, H, HK1⟩ := hb H
  refine cutj 14 (fun a w => ∃ (x1 : Bool) (s2 : HF) , St e s2 w [pt g1 33 ([(.int .i64 x3.Tx), (.int .i64 x3.Res), (.int .i64 x3.Mode)])] ∧ Fr 24 a [(23, (.bool x1))] ∧ Sub s0 s2 ∧ impl_LocksOk_1.c1 k x1 = some r) rfl rfl ?_ ?_
  · rcases Bool.eq_false_or_eq_true (decide (x3.Res = x4.Res)) with hc1 | hc1
    · replace H := hbt hc1 H
      refine gonE (j := 5) hF rfl rfl hc1 ?_
      refine stp hF (p_fldb (o' := 0) rfl fi_33_0 rfl) (by decide) (fun a hF => ?_)
      refine gonE (j := 5) hF rfl rfl hc1 ?_
      refine stp hF (p_ldb_one (i := 0) hS rfl rfl ia_3 rfl) (by decide) (fun a hF => ?_)
      have h3 : Pr (Kd.int .i64) s0 (ad1.add 0) x4.Tx := h1.lens kTGrant_Tx
      refine gonE (j := 5) hF rfl rfl hc1 ?_
      refine stp hF (p_fld rfl fi_33_0) (by decide) (fun a hF => ?_)
      refine gonE (j := 5) hF rfl rfl hc1 ?_
      refine stp hF (p_ldr_int rfl hS h3 ia_3) (by decide) (fun a hF => ?_)
      refine gonE (j := 5) hF rfl rfl hc1 ?_
      refine stp hF (p_eql rfl rfl) (by decide) (fun a hF => ?_)
      refine gonE (j := 5) hF rfl rfl hc1 ?_
      refine stp hF (p_move rfl) (by decide) (fun a hF => ?_)
      obtain ⟨x6, H, HK2⟩ := hb H
      refine cutj 7 (fun a w => ∃ (x2 : Bool) (s3 : HF) , St e s3 w [pt g1 33 ([(.int .i64 x3.Tx), (.int .i64 x3.Res), (.int .i64 x3.Mode)])] ∧ Fr 24 a [(9, (.bool (decide (x3.Res = x4.Res)))), (22, (.bool x2))] ∧ Sub s0 s3 ∧ impl_LocksOk_1.c2 k x2 = some x7) rfl rfl ?_ ?_
      · rcases Bool.eq_false_or_eq_true (decide (x3.Tx = x4.Tx)) with hc2 | hc2
        · replace H := hbt hc2 H
          refine gofD (j := 11) hF rfl rfl (by rw [hc2]; decide) (by decide) (fun a hF => ?_)
          refine gofD (j := 11) hF rfl rfl (by rw [hc2]; decide) (by decide) (fun a hF => ?_)
          refine gofD (j := 11) hF rfl rfl (by rw [hc2]; decide) (by decide) (fun a hF => ?_)
          refine gofD (j := 11) hF rfl rfl (by rw [hc2]; decide) (by decide) (fun a hF => ?_)
          refine gofD (j := 11) hF rfl rfl (by rw [hc2]; decide) (by decide) (fun a hF => ?_)
          refine gofD (j := 11) hF rfl rfl (by rw [hc2]; decide) (by decide) (fun a hF => ?_)
          refine gonE (j := 5) hF rfl rfl hc1 ?_
          refine stp hF (p_pickT rfl hc2 rfl) (by decide) (fun a hF => ?_)
          refine nilN ?_
          refine xn ?_
          obtain rfl := hsm H
          exact ⟨true, s0, hS, hF.cut ⟨rfl, rfl, trivial⟩, (Sub.refl _), HK2⟩
        · replace H := hbf hc2 H
          refine gonE (j := 11) hF rfl rfl hc2 ?_
          refine stp hF (p_fldb (o' := 2) rfl fi_33_2 rfl) (by decide) (fun a hF => ?_)
          refine gonE (j := 11) hF rfl rfl hc2 ?_
          refine stp hF (p_ldb_one (i := 0) hS rfl rfl ia_3 rfl) (by decide) (fun a hF => ?_)
          have h4 : Pr (Kd.int .i64) s0 (ad1.add 2) x4.Mode := h1.lens kTGrant_Mode
          refine gonE (j := 11) hF rfl rfl hc2 ?_
          refine stp hF (p_fld rfl fi_33_2) (by decide) (fun a hF => ?_)
          refine gonE (j := 11) hF rfl rfl hc2 ?_
          refine stp hF (p_ldr_int rfl hS h4 ia_3) (by decide) (fun a hF => ?_)
          obtain ⟨x5, hx1, H⟩ := hb H
          refine gonE (j := 11) hF rfl rfl hc2 ?_
          refine ste hF (e_call (fst := []) (vs := [(.int .i64 x3.Mode), (.int .i64 x4.Mode)]) (cap := []) rfl rfl go_46 (St.call (A := []) (B := [pt g1 33 ([(.int .i64 x3.Tx), (.int .i64 x3.Res), (.int .i64 x3.Mode)])]) hS (impl_Goes.spec k _ _ x3.Mode x4.Mode _ hx1))) (by decide) (fun v w a hR hF => ?_)
          obtain ⟨s4, A2, hg1, hS, hR⟩ := hR
          obtain ⟨hv1, rfl⟩ := hR; obtain rfl := hv1.symm
          have hS : St e s4 w [pt g1 33 ([(.int .i64 x3.Tx), (.int .i64 x3.Res), (.int .i64 x3.Mode)])] := hS
          refine gonE (j := 11) hF rfl rfl hc2 ?_
          refine stp hF (p_not rfl) (by decide) (fun a hF => ?_)
          refine gonE (j := 5) hF rfl rfl hc1 ?_
          refine stp hF (p_pickF rfl hc2 rfl) (by decide) (fun a hF => ?_)
          refine nilN ?_
          refine xn ?_
          obtain rfl := hsm H
          exact ⟨(!x5), s4, hS, hF.cut ⟨rfl, rfl, trivial⟩, hg1, HK2⟩
      · clear H HK2 hS hF
        rintro a w ⟨x2, s3, hS, hF, hg2, H⟩
        unfold impl_LocksOk_1.c2 at H
        refine stp hF (p_pickT rfl hc1 rfl) (by decide) (fun a hF => ?_)
        refine nilN ?_
        refine xn ?_
        obtain rfl := hsm H
        exact ⟨x2, s3, hS, hF.cut ⟨rfl, trivial⟩, hg2, HK1⟩
    · replace H := hbf hc1 H
      refine gofD (j := 5) hF rfl rfl (by rw [hc1]; decide) (by decide) (fun a hF => ?_)
      refine gofD (j := 5) hF rfl rfl (by rw [hc1]; decide) (by decide) (fun a hF => ?_)
      refine gofD (j := 5) hF rfl rfl (by rw [hc1]; decide) (by decide) (fun a hF => ?_)
      refine gofD (j := 5) hF rfl rfl (by rw [hc1]; decide) (by decide) (fun a hF => ?_)
      refine gofD (j := 5) hF rfl rfl (by rw [hc1]; decide) (by decide) (fun a hF => ?_)
      refine gofD (j := 5) hF rfl rfl (by rw [hc1]; decide) (by decide) (fun a hF => ?_)
      refine gofU (j := 11) hF rfl rfl (by decide) (fun a hF => ?_)
      refine gofU (j := 11) hF rfl rfl (by decide) (fun a hF => ?_)
      refine gofU (j := 11) hF rfl rfl (by decide) (fun a hF => ?_)
      refine gofU (j := 11) hF rfl rfl (by decide) (fun a hF => ?_)
      refine gofU (j := 11) hF rfl rfl (by decide) (fun a hF => ?_)
      refine gofU (j := 11) hF rfl rfl (by decide) (fun a hF => ?_)
      refine gofD (j := 5) hF rfl rfl (by rw [hc1]; decide) (by decide) (fun a hF => ?_)
      refine stp hF (p_pickF rfl hc1 rfl) (by decide) (fun a hF => ?_)
      refine nilN ?_
      refine xn ?_
      obtain rfl := hsm H
      exact ⟨false, s0, hS, hF.cut ⟨rfl, trivial⟩, (Sub.refl _), HK1⟩
  · clear H HK1 hS hF
    rintro a w ⟨x1, s2, hS, hF, hg3, H⟩
    unfold impl_LocksOk_1.c1 at H
    refine stp hF (p_assign rfl) (by decide) (fun a hF => ?_)
    refine nilN ?_
    refine xn ?_
    refine rt ?_
    obtain rfl := hsm H
    replace hS := hS.sel (is := []) (A' := []) rfl
    exact ret1 hF rfl rfl hS ⟨rfl, rfl⟩

def impl_Grant_63_145.c1 (k : Nat) : Option Int :=
  (some (-1))
def impl_Grant_63_145.l1 (x1 : (List TGrant)) (x2 : TGrant) : Nat → Int → Option (Ex Int Unit)
  | 0, _ => none
  | k + 1, x3 => (if (decide (x3 < (x1.length : Int))) = true then (if 0 ≤ x3 ∧ x3 < (x1.length : Int) then ((impl_LocksOk_1.f k (rd x1 x3) x2).bind fun x4 => (if x4 = true then (some (Ex.ret x3)) else ((impl_Grant_63_145.l1 x1 x2 k) (w64 (x3 + 1))))) else none) else (some (Ex.go ())))
def impl_Grant_63_145.f (k : Nat) (x1 : (List TGrant)) (x2 : TGrant) : Option Int :=
  (((impl_Grant_63_145.l1 x1 x2 k 0) : Option (Ex Int Unit)).bind fun x5 => Ex.on x5 (fun r => some r) (fun y => impl_Grant_63_145.c1 k))
set_option maxRecDepth 100000 in
set_option maxHeartbeats 4000000 in
theorem impl_Grant_63_145.spec (k : Nat) (s0 : HF) (w : World) (x1 : (List TGrant)) (x2 : TGrant) (v1 : Value) (ad1 : Addr) (h1 : Sl kTGrant s0 v1 x1) (h2 : Pr kTGrant s0 ad1 x2) (r : Int) (H : impl_Grant_63_145.f k x1 x2 = some r) :
    Law Try.prog 63 #[v1, (.func (.func 45) #[] #[(.pointer (some ad1))])] s0 w [] (fun v s1 A1 => v = (.int .i64 r) ∧ A1 = []) := by
  unfold impl_Grant_63_145.f at H
  refine Law.intro Try.func63 rfl [(0, v1), (1, (.func (.func 45) #[] #[(.pointer (some ad1))]))] (Nat.le_of_ble_eq_true rfl) (enter_lk ⟨rfl, rfl, trivial⟩) (fun e a hS hF => ?_)
  have hF : Fr 19 a [(0, v1), (1, (.func (.func 45) #[] #[(.pointer (some ad1))]))] := hF
  refine sq ?_
  refine rg ?_
  refine stp hF (p_assign rfl) (by decide) (fun a hF => ?_)
  refine nilN ?_
  refine xn ?_
  obtain ⟨x5, H, HK1⟩ := hb H
  refine sqj (fun a w => ∃ (s2 : HF) , St e s2 w [] ∧ Fr 19 a [] ∧ Sub s0 s2 ∧ impl_Grant_63_145.c1 k = some r) ?_ ?_
  · skip
    refine sq ?_
    refine rg ?_
    refine stp hF (p_move rfl) (by decide) (fun a hF => ?_)
    refine stp hF (p_lenr un_24 rfl h1) (by decide) (fun a hF => ?_)
    refine stp hF (p_move rfl) (by decide) (fun a hF => ?_)
    refine nilN ?_
    refine xn ?_
    refine blk ?_
    refine loop_ind (fun k1 a w => ∃ (x3 : Int) (s3 : HF) , St e s3 w [] ∧ Fr 19 a [(0, v1), (1, (.func (.func 45) #[] #[(.pointer (some ad1))])), (7, (.int .i64 (x1.length : Int))), (8, (.int .i64 x3))] ∧ Sub s0 s3 ∧ impl_Grant_63_145.l1 x1 x2 k1 x3 = some x5) k ?_ ?_ ?_
    · skip
      exact ⟨0, s0, hS, hF.cut ⟨rfl, rfl, rfl, rfl, trivial⟩, (Sub.refl _), H⟩
    · clear H hS hF
      rintro a w ⟨x3, s3, hS, hF, hg1, H⟩
      exact absurd (show none = some _ from H) (by simp)
    · clear H hS hF
      rintro k1 a w ⟨x3, s3, hS, hF, hg1, H⟩
      rw [impl_Grant_63_145.l1.eq_2] at H
      refine sq ?_
      refine rg ?_
      refine stp hF (p_lss rfl rfl) (by decide) (fun a hF => ?_)
      refine nilN ?_
      refine xn ?_
      refine sq ?_
      refine cnd hF rfl (fun hc1 => ?_) (fun hc1 => ?_)
      · replace H := hbt hc1 H
        refine skN ?_
        refine xn ?_
        refine sq ?_
        refine blk ?_
        refine sq ?_
        refine rg ?_
        refine stp hF (p_move rfl) (by decide) (fun a hF => ?_)
        refine stp hF (p_assign rfl) (by decide) (fun a hF => ?_)
        refine nilN ?_
        refine xn ?_
        refine sq ?_
        refine rg ?_
        refine stp hF (p_move rfl) (by decide) (fun a hF => ?_)
        refine stp hF (p_move rfl) (by decide) (fun a hF => ?_)
        refine stp hF (p_move rfl) (by decide) (fun a hF => ?_)
        obtain ⟨hq1, H⟩ := hck H
        obtain ⟨ad2, h3, p1⟩ := p_idxr (P := Try.prog) (i := x3) (h1.mono hg1) un_24 ti_33 hq1.1 hq1.2
        refine stp hF (p1 rfl rfl) (by decide) (fun a hF => ?_)
        obtain ⟨c2, h4, p2⟩ := p_ldr_agg (P := Try.prog) h3 ia_33 ti_33
        obtain rfl := kTGrant_open h4
        refine stp hF (p2 rfl hS.ro) (by decide) (fun a hF => ?_)
        obtain ⟨x4, hx1, H⟩ := hb H
        refine ste hF (e_call (fst := []) (vs := [(.agg #[(.int .i64 ((rd x1 x3).Tx)), (.int .i64 ((rd x1 x3).Res)), (.int .i64 ((rd x1 x3).Mode))])]) (cap := [(.pointer (some ad1))]) rfl rfl go_45 (St.call (A := []) (B := []) hS (impl_LocksOk_1.spec k1 _ _ (rd x1 x3) x2 ad1 (h2.mono hg1) _ hx1))) (by decide) (fun v w a hR hF => ?_)
        obtain ⟨s4, A2, hg2, hS, hR⟩ := hR
        obtain ⟨hv1, rfl⟩ := hR; obtain rfl := hv1.symm
        have hS : St e s4 w [] := hS
        refine nilN ?_
        refine xn ?_
        refine cnd hF rfl (fun hc2 => ?_) (fun hc2 => ?_)
        · replace H := hbt hc2 H
          refine sq ?_
          refine rg ?_
          refine stp hF (p_move rfl) (by decide) (fun a hF => ?_)
          refine stp hF (p_assign rfl) (by decide) (fun a hF => ?_)
          refine nilN ?_
          refine xn ?_
          refine rt ?_
          refine br (xr (xr (br (xr ?_))))
          obtain rfl := hsm H
          have H := hon1 HK1
          obtain rfl := hsm H
          exact ret1 hF rfl rfl hS ⟨rfl, rfl⟩
        · replace H := hbf hc2 H
          refine skN ?_
          refine bn (xn ?_)
          refine rg ?_
          refine stp hF (p_add (c := w64 (x3 + 1)) rfl rfl rfl) (by decide) (fun a hF => ?_)
          refine stp hF (p_move rfl) (by decide) (fun a hF => ?_)
          refine nilN ?_
          refine xn ?_
          exact ⟨(w64 (x3 + 1)), s4, hS, hF.cut ⟨rfl, rfl, rfl, rfl, trivial⟩, (hg1.trans hg2), H⟩
      · replace H := hbf hc1 H
        refine exi ?_
        refine xe (xe (hit (xn ?_)))
        obtain rfl := hsm H
        exact ⟨s3, hS, hF.cut trivial, hg1, HK1⟩
  · clear H HK1 hS hF
    rintro a w ⟨s2, hS, hF, hg3, H⟩
    unfold impl_Grant_63_145.c1 at H
    refine sq ?_
    refine rg ?_
    refine stp hF (p_assign rfl) (by decide) (fun a hF => ?_)
    refine nilN ?_
    refine xn ?_
    refine rt ?_
    obtain rfl := hsm H
    exact ret1 hF rfl rfl hS ⟨rfl, rfl⟩

def impl_Grant_36_145.f (k : Nat) (x1 : (List TGrant)) (x2 : TGrant) : Option Bool :=
  ((impl_Grant_63_145.f k x1 x2).bind fun x3 => (some (decide (0 ≤ x3))))
set_option maxRecDepth 100000 in
set_option maxHeartbeats 4000000 in
theorem impl_Grant_36_145.spec (k : Nat) (s0 : HF) (w : World) (x1 : (List TGrant)) (x2 : TGrant) (v1 : Value) (ad1 : Addr) (h1 : Sl kTGrant s0 v1 x1) (h2 : Pr kTGrant s0 ad1 x2) (r : Bool) (H : impl_Grant_36_145.f k x1 x2 = some r) :
    Law Try.prog 36 #[v1, (.func (.func 45) #[] #[(.pointer (some ad1))])] s0 w [] (fun v s1 A1 => v = (.bool r) ∧ A1 = []) := by
  unfold impl_Grant_36_145.f at H
  refine Law.intro Try.func36 rfl [(0, v1), (1, (.func (.func 45) #[] #[(.pointer (some ad1))]))] (Nat.le_of_ble_eq_true rfl) (enter_lk ⟨rfl, rfl, trivial⟩) (fun e a hS hF => ?_)
  have hF : Fr 9 a [(0, v1), (1, (.func (.func 45) #[] #[(.pointer (some ad1))]))] := hF
  refine sq ?_
  refine rg ?_
  refine stp hF (p_assign rfl) (by decide) (fun a hF => ?_)
  refine nilN ?_
  refine xn ?_
  refine sq ?_
  refine rg ?_
  refine stp hF (p_move rfl) (by decide) (fun a hF => ?_)
  refine stp hF (p_move rfl) (by decide) (fun a hF => ?_)
  obtain ⟨x3, hx1, H⟩ := hb H
  refine ste hF (e_call (fst := []) (vs := [v1, (.func (.func 45) #[] #[(.pointer (some ad1))])]) (cap := []) rfl rfl go_63 (St.call (A := []) (B := []) hS (impl_Grant_63_145.spec k _ _ x1 x2 v1 ad1 h1 h2 _ hx1))) (by decide) (fun v w a hR hF => ?_)
  obtain ⟨s2, A2, hg1, hS, hR⟩ := hR
  obtain ⟨hv1, rfl⟩ := hR; obtain rfl := hv1.symm
  have hS : St e s2 w [] := hS
  refine stp hF (p_geq rfl rfl) (by decide) (fun a hF => ?_)
  refine stp hF (p_assign rfl) (by decide) (fun a hF => ?_)
  refine nilN ?_
  refine xn ?_
  refine rt ?_
  obtain rfl := hsm H
  exact ret1 hF rfl rfl hS ⟨rfl, rfl⟩

def impl_waitAt_1.f (k : Nat) (x1 : TGrant) (x2 : Int) : Option Bool :=
  (some (decide (x1.Tx = x2)))
set_option maxRecDepth 100000 in
set_option maxHeartbeats 4000000 in
theorem impl_waitAt_1.spec (k : Nat) (s0 : HF) (w : World) (x1 : TGrant) (x2 : Int) (ad1 : Addr) (h1 : Pr (Kd.int .i64) s0 ad1 x2) (r : Bool) (H : impl_waitAt_1.f k x1 x2 = some r) :
    Law Try.prog 64 #[(.agg #[(.int .i64 x1.Tx), (.int .i64 x1.Res), (.int .i64 x1.Mode)]), (.pointer (some ad1))] s0 w [] (fun v s1 A1 => v = (.bool r) ∧ A1 = []) := by
  unfold impl_waitAt_1.f at H
  refine Law.intro Try.func64 rfl [(0, (.agg #[(.int .i64 x1.Tx), (.int .i64 x1.Res), (.int .i64 x1.Mode)])), (1, (.pointer (some ad1)))] (Nat.le_of_ble_eq_true rfl) (enter_lk ⟨rfl, rfl, trivial⟩) (fun e a hS hF => ?_)
  have hF : Fr 8 a [(0, (.agg #[(.int .i64 x1.Tx), (.int .i64 x1.Res), (.int .i64 x1.Mode)])), (1, (.pointer (some ad1)))] := hF
  refine sq ?_
  refine rg ?_
  refine ste hF (e_box (cs := [(.int .i64 x1.Tx), (.int .i64 x1.Res), (.int .i64 x1.Mode)]) hS rfl rfl) (by decide) (fun v w a hR hF => ?_)
  obtain ⟨g1, rfl, hS⟩ := hR
  refine stp hF (p_assign rfl) (by decide) (fun a hF => ?_)
  refine nilN ?_
  refine xn ?_
  refine sq ?_
  refine rg ?_
  refine stp hF (p_fldb (o' := 0) rfl fi_33_0 rfl) (by decide) (fun a hF => ?_)
  refine stp hF (p_ldb_one (i := 0) hS rfl rfl ia_3 rfl) (by decide) (fun a hF => ?_)
  refine stp hF (p_ldr_int rfl hS h1 ia_3) (by decide) (fun a hF => ?_)
  refine stp hF (p_eql rfl rfl) (by decide) (fun a hF => ?_)
  refine stp hF (p_assign rfl) (by decide) (fun a hF => ?_)
  refine nilN ?_
  refine xn ?_
  refine rt ?_
  obtain rfl := hsm H
  replace hS := hS.sel (is := []) (A' := []) rfl
  exact ret1 hF rfl rfl hS ⟨rfl, rfl⟩
end Go.Proofs.Ytbcpkopchnlefaa
