/- Functions of this place as plain functions, and that the machine comes to what they say. Conditions: none. -/
import Derived.Test.YtocknibhajihmaaKwB4Fa
set_option linter.unusedVariables false
set_option linter.unusedSimpArgs false
namespace Go.Proofs.Ytocknibhajihmaa
open Go.Kw

def impl_reader_slot.c1 (k : Nat) (x1 : Int × (List Int) × Int × Bool) (x2 : Int) (x3 : (List Int)) (x4 : (List Int)) (x5 : Bool) : Option (TSlot × (List Int) × Int × Bool) :=
  (if (!x5) = true then (some ((⟨false, (⟨0, ([] : List Int), ([] : List Int)⟩ : TObj)⟩ : TSlot), x1.2.1, x1.2.2.1, true)) else (some ((⟨true, (⟨x2, x3, x4⟩ : TObj)⟩ : TSlot), x1.2.1, w64 (x1.2.2.1 + x1.1), x1.2.2.2)))
def impl_reader_slot.f (k : Nat) (x6 : (List Int)) (x7 : Int) (x8 : Bool) : Option (TSlot × (List Int) × Int × Bool) :=
  ((impl_reader_many.f k x6 x7 x8 (x6.length : Int)).bind fun x1 => (if (x1.2.2.2 || (decide (x1.1 = 0))) = true then (some ((⟨false, (⟨0, ([] : List Int), ([] : List Int)⟩ : TObj)⟩ : TSlot), x1.2.1, x1.2.2.1, x1.2.2.2)) else (if (decide ((w64 ((x1.2.1.length : Int) - x1.2.2.1)) < x1.1)) = true then (some ((⟨false, (⟨0, ([] : List Int), ([] : List Int)⟩ : TObj)⟩ : TSlot), x1.2.1, x1.2.2.1, true)) else (((if 0 ≤ x1.2.2.1 ∧ x1.2.2.1 ≤ (w64 (x1.2.2.1 + x1.1)) ∧ (w64 (x1.2.2.1 + x1.1)) ≤ (x1.2.1.length : Int) then ((impl_GetObj.f k (cut x1.2.1 x1.2.2.1 (w64 (x1.2.2.1 + x1.1)))).bind fun x9 => (some (x9.1.Kind, x9.1.Ints, x9.1.Refs, x9.2))) else none) : Option (Int × (List Int) × (List Int) × Bool)).bind fun x10 => impl_reader_slot.c1 k x1 x10.1 x10.2.1 x10.2.2.1 x10.2.2.2))))
set_option maxRecDepth 100000 in
set_option maxHeartbeats 4000000 in
theorem impl_reader_slot.spec (k : Nat) (s0 : HF) (w : World) (x6 : (List Int)) (x7 : Int) (x8 : Bool) (v1 : Value) (g1 : Nat) (h1 : Sl (Kd.int .u8) s0 v1 x6) (r : TSlot × (List Int) × Int × Bool) (H : impl_reader_slot.f k x6 x7 x8 = some r) :
    Law Try.prog 86 #[(.pointer (some ⟨g1, 0, none⟩))] s0 w [pt g1 99 ([v1, (.int .i64 x7), (.bool x8)])] (fun v s1 A1 => ∃ (u0 : Value) (u1 : Value) (u2 : Value), v = (.agg #[(.bool r.1.Has), (.int .i64 r.1.O.Kind), u1, u2]) ∧ A1 = [pt g1 99 ([u0, (.int .i64 r.2.2.1), (.bool r.2.2.2)]), Ow (Kd.int .i64) 3 u1 r.1.O.Ints, Ow (Kd.int .i64) 3 u2 r.1.O.Refs] ∧ Sl (Kd.int .u8) s1 u0 r.2.1) := by
  unfold impl_reader_slot.f at H
  refine Law.intro Try.func86 rfl [(0, (.pointer (some ⟨g1, 0, none⟩)))] (Nat.le_of_ble_eq_true rfl) (enter_lk ⟨rfl, trivial⟩) (fun e a hS hF => ?_)
  have hF : Fr 73 a [(0, (.pointer (some ⟨g1, 0, none⟩)))] := hF
  refine sq ?_
  refine rg ?_
  refine ste hF (e_alloc (cs := [(.bool false), (.int .i64 0), (.slice none 0 0), (.slice none 0 0)]) hS ti_38 rfl) (by decide) (fun v w a hR hF => ?_)
  obtain ⟨g2, rfl, hS⟩ := hR
  refine nilN ?_
  refine xn ?_
  refine sq ?_
  refine rg ?_
  refine stp hF (p_move rfl) (by decide) (fun a hF => ?_)
  refine stp hF (p_move rfl) (by decide) (fun a hF => ?_)
  refine stp hF (p_nilck rfl) (by decide) (fun a hF => ?_)
  refine stp hF (p_fldb (o' := 0) rfl fi_99_0 rfl) (by decide) (fun a hF => ?_)
  refine stp hF (p_ldb_one (i := 1) hS rfl rfl ia_24 rfl) (by decide) (fun a hF => ?_)
  refine stp hF (p_lenr un_24 rfl h1) (by decide) (fun a hF => ?_)
  replace hS := hS.sel (is := [1, 0]) (A' := [pt g1 99 ([v1, (.int .i64 x7), (.bool x8)]), pt g2 38 ([(.bool false), (.int .i64 0), (.slice none 0 0), (.slice none 0 0)])]) rfl
  obtain ⟨x1, hx1, H⟩ := hb H
  refine ste hF (e_callA (fst := []) (vs := [(.pointer (some ⟨g1, 0, none⟩)), (.int .i64 (x6.length : Int))]) (cap := []) rfl rfl go_87 (St.call (A := [pt g1 99 ([v1, (.int .i64 x7), (.bool x8)])]) (B := [pt g2 38 ([(.bool false), (.int .i64 0), (.slice none 0 0), (.slice none 0 0)])]) hS (impl_reader_many.spec k _ _ x6 x7 x8 (x6.length : Int) v1 g1 h1 _ hx1)) rfl) (by decide) (fun v w a hR hF => ?_)
  obtain ⟨s2, A2, hg1, hS, hR⟩ := hR
  obtain ⟨v2, hv1, rfl, h2⟩ := hR; obtain rfl := hv1.symm
  have hS : St e s2 w [pt g1 99 ([v2, (.int .i64 x1.2.2.1), (.bool x1.2.2.2)]), pt g2 38 ([(.bool false), (.int .i64 0), (.slice none 0 0), (.slice none 0 0)])] := hS
  refine stp hF (p_assign rfl) (by decide) (fun a hF => ?_)
  refine nilN ?_
  refine xn ?_
  refine sq ?_
  refine sq ?_
  refine rg ?_
  refine stp hF (p_move rfl) (by decide) (fun a hF => ?_)
  refine stp hF (p_nilck rfl) (by decide) (fun a hF => ?_)
  refine stp hF (p_fldb (o' := 2) rfl fi_99_2 rfl) (by decide) (fun a hF => ?_)
  refine stp hF (p_ldb_one (i := 0) hS rfl rfl ia_4 rfl) (by decide) (fun a hF => ?_)
  refine stp hF (p_move rfl) (by decide) (fun a hF => ?_)
  refine cutj 3 (fun a w => St e s2 w [pt g1 99 ([v2, (.int .i64 x1.2.2.1), (.bool x1.2.2.2)]), pt g2 38 ([(.bool false), (.int .i64 0), (.slice none 0 0), (.slice none 0 0)])] ∧ Fr 73 a [(0, (.pointer (some ⟨g1, 0, none⟩))), (2, (.pointer (some ⟨g2, 0, none⟩))), (3, (.int .i64 x1.1)), (20, (.bool (x1.2.2.2 || (decide (x1.1 = 0)))))]) rfl rfl ?_ ?_
  · rcases Bool.eq_false_or_eq_true (x1.2.2.2) with hc1 | hc1
    · skip
      refine gofD (j := 4) hF rfl rfl (by rw [hc1]; decide) (by decide) (fun a hF => ?_)
      refine gofD (j := 4) hF rfl rfl (by rw [hc1]; decide) (by decide) (fun a hF => ?_)
      refine stp hF (p_orT (decide (x1.1 = 0)) rfl hc1 rfl) (by decide) (fun a hF => ?_)
      refine nilN ?_
      refine xn ?_
      exact ⟨hS, hF.cut ⟨rfl, rfl, rfl, rfl, trivial⟩⟩
    · skip
      refine gonE (j := 4) hF rfl rfl hc1 ?_
      refine stp hF (p_move rfl) (by decide) (fun a hF => ?_)
      refine gonE (j := 4) hF rfl rfl hc1 ?_
      refine stp hF (p_eql rfl rfl) (by decide) (fun a hF => ?_)
      refine stp hF (p_orF rfl hc1 rfl) (by decide) (fun a hF => ?_)
      refine nilN ?_
      refine xn ?_
      exact ⟨hS, hF.cut ⟨rfl, rfl, rfl, rfl, trivial⟩⟩
  clear hS hF
  rintro a w ⟨hS, hF⟩
  refine nilN ?_
  refine xn ?_
  refine cnd hF rfl (fun hc2 => ?_) (fun hc2 => ?_)
  · replace H := hbt hc2 H
    refine sq ?_
    refine rg ?_
    refine stp hF (p_build (ps := []) (vs := []) (v := (.agg #[(.bool false), (.int .i64 0), (.slice none 0 0), (.slice none 0 0)])) rfl (by intro w; kernel_rfl)) (by decide) (fun a hF => ?_)
    refine ste0 hF (e_stb (i := 1) (l := []) (m := [(.bool false), (.int .i64 0), (.slice none 0 0), (.slice none 0 0)]) (r := []) (m' := [(.bool false), (.int .i64 0), (.slice none 0 0), (.slice none 0 0)]) (cs' := [(.bool false), (.int .i64 0), (.slice none 0 0), (.slice none 0 0)]) hS rfl rfl rfl ti_38 rfl rfl rfl rfl rfl (one_cons rfl (one_cons rfl (one_cons rfl (one_cons rfl one_nil)))) rfl) (fun v w a hR hF => ?_)
    have hS : St e s2 w [pt g2 38 ([(.bool false), (.int .i64 0), (.slice none 0 0), (.slice none 0 0)]), pt g1 99 ([v2, (.int .i64 x1.2.2.1), (.bool x1.2.2.2)])] := hR
    refine nilN ?_
    refine xn ?_
    refine rt ?_
    refine xr ?_
    obtain rfl := hsm H
    have h3 : RvOk Try.prog _ w (.cell 2 38) _ := rvC (i := 0) hS rfl (show lk [(2, (.pointer (some ⟨g2, 0, none⟩)))] 2 = _ from rfl) ia_38 ti_38 rfl
    replace hS := hS.ownNil (Kd.int .i64) 3 none
    replace hS := hS.ownNil (Kd.int .i64) 3 none
    replace hS := hS.sel (is := [3, 1, 0]) (A' := [pt g1 99 ([v2, (.int .i64 x1.2.2.1), (.bool x1.2.2.2)]), Ow (Kd.int .i64) 3 (.slice none 0 0) ([] : List Int), Ow (Kd.int .i64) 3 (.slice none 0 0) ([] : List Int)]) rfl
    exact retc1 hF rfl h3 hS ⟨v2, (.slice none 0 0), (.slice none 0 0), rfl, rfl, h2⟩
  · replace H := hbf hc2 H
    refine skN ?_
    refine xn ?_
    refine sq ?_
    refine sq ?_
    replace hS : St e s2 w.drew [pt g1 99 ([v2, (.int .i64 x1.2.2.1), (.bool x1.2.2.2)]), pt g2 38 ([(.bool false), (.int .i64 0), (.slice none 0 0), (.slice none 0 0)])] := hS.drewN 1
    refine drw [0, 1, 2, 3, 4, 5, 6, 7, 8, 9, 10, 11] mixed (by kernel_rfl) (by decide) (hF.cut (L' := [(0, (.pointer (some ⟨g1, 0, none⟩))), (2, (.pointer (some ⟨g2, 0, none⟩))), (3, (.int .i64 x1.1)), (20, (.bool (x1.2.2.2 || (decide (x1.1 = 0)))))]) ⟨rfl, rfl, rfl, rfl, trivial⟩) ?_
    clear hF
    generalize w.drew = w at hS ⊢
    refine pk1 rfl (by decide) rfl (by kernel_rfl) rfl (p_move rfl) ?_
    refine pk1 rfl (by decide) rfl (by kernel_rfl) rfl (p_move rfl) ?_
    refine pk1 rfl (by decide) rfl (by kernel_rfl) rfl (p_nilck rfl) ?_
    refine pk1 rfl (by decide) rfl (by kernel_rfl) rfl (p_fldb (o' := 0) rfl fi_99_0 rfl) ?_
    refine pk1 rfl (by decide) rfl (by kernel_rfl) rfl (p_ldb_one (i := 0) hS rfl rfl ia_24 rfl) ?_
    refine pk1 rfl (by decide) rfl (by kernel_rfl) rfl (p_lenr un_24 rfl h2) ?_
    refine pk1 rfl (by decide) rfl (by kernel_rfl) rfl (p_move rfl) ?_
    refine pk1 rfl (by decide) rfl (by kernel_rfl) rfl (p_nilck rfl) ?_
    refine pk1 rfl (by decide) rfl (by kernel_rfl) rfl (p_fldb (o' := 1) rfl fi_99_1 rfl) ?_
    refine pk1 rfl (by decide) rfl (by kernel_rfl) rfl (p_ldb_one (i := 0) hS rfl rfl ia_3 rfl) ?_
    refine pk1 rfl (by decide) rfl (by kernel_rfl) rfl (p_sub (c := w64 ((x1.2.1.length : Int) - x1.2.2.1)) rfl rfl rfl) ?_
    refine pk1 rfl (by decide) rfl (by kernel_rfl) rfl (p_gtr rfl rfl) ?_
    refine pkF (fun a hF => ?_)
    refine xn ?_
    refine cnd hF rfl (fun hc3 => ?_) (fun hc3 => ?_)
    · replace H := hbt hc3 H
      refine sq ?_
      refine rg ?_
      refine stp hF (p_move rfl) (by decide) (fun a hF => ?_)
      refine stp hF (p_nilck rfl) (by decide) (fun a hF => ?_)
      refine stp hF (p_fldb (o' := 2) rfl fi_99_2 rfl) (by decide) (fun a hF => ?_)
      refine ste0 hF (e_stb (i := 0) (l := [v2, (.int .i64 x1.2.2.1)]) (m := [(.bool x1.2.2.2)]) (r := []) (m' := [(.bool true)]) (cs' := [v2, (.int .i64 x1.2.2.1), (.bool true)]) hS rfl rfl rfl ti_4 rfl rfl rfl rfl rfl (one_cons rfl one_nil) rfl) (fun v w a hR hF => ?_)
      have hS : St e s2 w [pt g1 99 ([v2, (.int .i64 x1.2.2.1), (.bool true)]), pt g2 38 ([(.bool false), (.int .i64 0), (.slice none 0 0), (.slice none 0 0)])] := hR
      refine nilN ?_
      refine xn ?_
      refine sq ?_
      refine rg ?_
      refine stp hF (p_build (ps := []) (vs := []) (v := (.agg #[(.bool false), (.int .i64 0), (.slice none 0 0), (.slice none 0 0)])) rfl (by intro w; kernel_rfl)) (by decide) (fun a hF => ?_)
      refine ste0 hF (e_stb (i := 1) (l := []) (m := [(.bool false), (.int .i64 0), (.slice none 0 0), (.slice none 0 0)]) (r := []) (m' := [(.bool false), (.int .i64 0), (.slice none 0 0), (.slice none 0 0)]) (cs' := [(.bool false), (.int .i64 0), (.slice none 0 0), (.slice none 0 0)]) hS rfl rfl rfl ti_38 rfl rfl rfl rfl rfl (one_cons rfl (one_cons rfl (one_cons rfl (one_cons rfl one_nil)))) rfl) (fun v w a hR hF => ?_)
      have hS : St e s2 w [pt g2 38 ([(.bool false), (.int .i64 0), (.slice none 0 0), (.slice none 0 0)]), pt g1 99 ([v2, (.int .i64 x1.2.2.1), (.bool true)])] := hR
      refine nilN ?_
      refine xn ?_
      refine rt ?_
      refine xr ?_
      obtain rfl := hsm H
      have h4 : RvOk Try.prog _ w (.cell 2 38) _ := rvC (i := 0) hS rfl (show lk [(2, (.pointer (some ⟨g2, 0, none⟩)))] 2 = _ from rfl) ia_38 ti_38 rfl
      replace hS := hS.ownNil (Kd.int .i64) 3 none
      replace hS := hS.ownNil (Kd.int .i64) 3 none
      replace hS := hS.sel (is := [3, 1, 0]) (A' := [pt g1 99 ([v2, (.int .i64 x1.2.2.1), (.bool true)]), Ow (Kd.int .i64) 3 (.slice none 0 0) ([] : List Int), Ow (Kd.int .i64) 3 (.slice none 0 0) ([] : List Int)]) rfl
      exact retc1 hF rfl h4 hS ⟨v2, (.slice none 0 0), (.slice none 0 0), rfl, rfl, h2⟩
    · replace H := hbf hc3 H
      refine skN ?_
      refine xn ?_
      obtain ⟨x10, H, HK1⟩ := hb H
      refine sqj (fun a w => ∃ (x2 : Int) (x3 : (List Int)) (x4 : (List Int)) (x5 : Bool) (s3 : HF) (g3 : Nat) (v3 : Value) (v4 : Value) , St e s3 w [pt g1 99 ([v2, (.int .i64 x1.2.2.1), (.bool x1.2.2.2)]), pt g2 38 ([(.bool false), (.int .i64 0), (.slice none 0 0), (.slice none 0 0)]), pt g3 36 ([(.int .i64 x2), v3, v4]), Ow (Kd.int .i64) 3 v3 x3, Ow (Kd.int .i64) 3 v4 x4] ∧ Fr 73 a [(0, (.pointer (some ⟨g1, 0, none⟩))), (2, (.pointer (some ⟨g2, 0, none⟩))), (3, (.int .i64 x1.1)), (4, (.pointer (some ⟨g3, 0, none⟩))), (5, (.bool x5))] ∧ Sub s2 s3 ∧ impl_reader_slot.c1 k x1 x2 x3 x4 x5 = some r) ?_ ?_
      · skip
        replace hS : St e s2 w.drew [pt g1 99 ([v2, (.int .i64 x1.2.2.1), (.bool x1.2.2.2)]), pt g2 38 ([(.bool false), (.int .i64 0), (.slice none 0 0), (.slice none 0 0)])] := hS.drewN 1
        refine drw [0, 1, 2, 3, 4, 5, 6, 7, 8, 9, 10, 11, 12, 13, 14, 15, 16, 17, 18, 19, 20, 21] mixed (by kernel_rfl) (by decide) (hF.cut (L' := [(0, (.pointer (some ⟨g1, 0, none⟩))), (2, (.pointer (some ⟨g2, 0, none⟩))), (3, (.int .i64 x1.1)), (20, (.bool (x1.2.2.2 || (decide (x1.1 = 0))))), (22, (.int .i64 x1.1)), (23, (.pointer (some ⟨g1, 0, none⟩))), (24, (.pointer (some ⟨g1, 0, none⟩))), (25, (.pointer (some ⟨g1, 0, none⟩))), (26, v2), (27, (.int .i64 (x1.2.1.length : Int))), (28, (.pointer (some ⟨g1, 0, none⟩))), (29, (.pointer (some ⟨g1, 0, none⟩))), (30, (.pointer (some ⟨g1, 1, none⟩))), (31, (.int .i64 x1.2.2.1)), (32, (.int .i64 (w64 ((x1.2.1.length : Int) - x1.2.2.1)))), (33, (.bool (decide ((w64 ((x1.2.1.length : Int) - x1.2.2.1)) < x1.1))))]) ⟨rfl, rfl, rfl, rfl, rfl, rfl, rfl, rfl, rfl, rfl, rfl, rfl, rfl, rfl, rfl, rfl, trivial⟩) ?_
        clear hF
        generalize w.drew = w at hS ⊢
        refine pk1 rfl (by decide) rfl (by kernel_rfl) rfl (p_move rfl) ?_
        refine pk1 rfl (by decide) rfl (by kernel_rfl) rfl (p_nilck rfl) ?_
        refine pk1 rfl (by decide) rfl (by kernel_rfl) rfl (p_fldb (o' := 0) rfl fi_99_0 rfl) ?_
        refine pk1 rfl (by decide) rfl (by kernel_rfl) rfl (p_ldb_one (i := 0) hS rfl rfl ia_24 rfl) ?_
        refine pk1 rfl (by decide) rfl (by kernel_rfl) rfl (p_move rfl) ?_
        refine pk1 rfl (by decide) rfl (by kernel_rfl) rfl (p_nilck rfl) ?_
        refine pk1 rfl (by decide) rfl (by kernel_rfl) rfl (p_fldb (o' := 1) rfl fi_99_1 rfl) ?_
        refine pk1 rfl (by decide) rfl (by kernel_rfl) rfl (p_ldb_one (i := 0) hS rfl rfl ia_3 rfl) ?_
        refine pk1 rfl (by decide) rfl (by kernel_rfl) rfl (p_move rfl) ?_
        refine pk1 rfl (by decide) rfl (by kernel_rfl) rfl (p_nilck rfl) ?_
        refine pk1 rfl (by decide) rfl (by kernel_rfl) rfl (p_fldb (o' := 1) rfl fi_99_1 rfl) ?_
        refine pk1 rfl (by decide) rfl (by kernel_rfl) rfl (p_ldb_one (i := 0) hS rfl rfl ia_3 rfl) ?_
        refine pk1 rfl (by decide) rfl (by kernel_rfl) rfl (p_move rfl) ?_
        refine pk1 rfl (by decide) rfl (by kernel_rfl) rfl (p_add (c := w64 (x1.2.2.1 + x1.1)) rfl rfl rfl) ?_
        obtain ⟨hq1, H⟩ := hck H
        obtain ⟨v5, h5, p1⟩ := p_slr (i := x1.2.2.1) (j := (w64 (x1.2.2.1 + x1.1))) un_24 ti_5 h2 hq1.1 hq1.2.1 hq1.2.2
        refine pk1 rfl (by decide) rfl (by kernel_rfl) rfl (p1 rfl rfl rfl) ?_
        refine pkAlt [15, 19] (by kernel_rfl) rfl ⟨?_, ?_, trivial⟩
        · skip
          obtain ⟨x9, hx2, H⟩ := hb H
          refine altE [13, 12, 11, 10, 9, 8, 7, 6, 5, 4, 3, 2, 1, 0] [16, 17, 18, 19, 20, 21] rfl rfl rfl (by decide) (by kernel_rfl) (e_callA (fst := []) (vs := [v5]) (cap := []) rfl rfl go_143 (St.call (A := []) (B := [pt g1 99 ([v2, (.int .i64 x1.2.2.1), (.bool x1.2.2.2)]), pt g2 38 ([(.bool false), (.int .i64 0), (.slice none 0 0), (.slice none 0 0)])]) hS (impl_GetObj.spec k _ _ (cut x1.2.1 x1.2.2.1 (w64 (x1.2.2.1 + x1.1))) v5 h5 _ hx2)) rfl) ?_
          intro v w hR
          obtain ⟨s4, A3, hg2, hS, hR⟩ := hR
          obtain ⟨v6, v7, hv2, rfl⟩ := hR; obtain rfl := hv2.symm
          have hS : St e s4 w [Ow (Kd.int .i64) 3 v6 x9.1.Ints, Ow (Kd.int .i64) 3 v7 x9.1.Refs, pt g1 99 ([v2, (.int .i64 x1.2.2.1), (.bool x1.2.2.2)]), pt g2 38 ([(.bool false), (.int .i64 0), (.slice none 0 0), (.slice none 0 0)])] := hS
          refine ⟨⟨knw rfl rfl rfl (p_add (c := w64 (x1.2.2.1 + x1.1)) rfl rfl rfl), ⟨knw rfl rfl rfl (p_move rfl), ⟨knw rfl rfl rfl (p_ldb_one (i := 2) hS rfl rfl ia_3 rfl), ⟨knw rfl rfl rfl (p_fldb (o' := 1) rfl fi_99_1 rfl), ⟨knw rfl rfl rfl (p_nilck rfl), ⟨knw rfl rfl rfl (p_move rfl), ⟨knw rfl rfl rfl (p_ldb_one (i := 2) hS rfl rfl ia_3 rfl), ⟨knw rfl rfl rfl (p_fldb (o' := 1) rfl fi_99_1 rfl), ⟨knw rfl rfl rfl (p_nilck rfl), ⟨knw rfl rfl rfl (p_move rfl), ⟨knw rfl rfl rfl (p_ldb_one (i := 2) hS rfl rfl ia_24 rfl), ⟨knw rfl rfl rfl (p_fldb (o' := 0) rfl fi_99_0 rfl), ⟨knw rfl rfl rfl (p_nilck rfl), ⟨knw rfl rfl rfl (p_move rfl), trivial⟩⟩⟩⟩⟩⟩⟩⟩⟩⟩⟩⟩⟩⟩, ?_⟩
          refine pk1 rfl (by decide) rfl (by kernel_rfl) rfl (p_move rfl) ?_
          refine pk1 rfl (by decide) rfl (by kernel_rfl) rfl (p_extract rfl rfl) ?_
          refine pk1 rfl (by decide) rfl (by kernel_rfl) rfl (p_extract rfl rfl) ?_
          refine pkE [18, 17, 16, 13, 12, 11, 10, 9, 8, 7, 6, 5, 4, 3, 2, 1, 0] rfl (by decide) (by kernel_rfl) (by kernel_rfl) (e_alloc (cs := [(.int .i64 0), (.slice none 0 0), (.slice none 0 0)]) hS ti_36 rfl) ?_
          intro v w hR
          obtain ⟨g4, rfl, hS⟩ := hR
          refine ⟨⟨knw rfl rfl rfl (p_extract rfl rfl), ⟨knw rfl rfl rfl (p_extract rfl rfl), ⟨knw rfl rfl rfl (p_move rfl), ⟨knw rfl rfl rfl (p_add (c := w64 (x1.2.2.1 + x1.1)) rfl rfl rfl), ⟨knw rfl rfl rfl (p_move rfl), ⟨knw rfl rfl rfl (p_ldb_one (i := 3) hS rfl rfl ia_3 rfl), ⟨knw rfl rfl rfl (p_fldb (o' := 1) rfl fi_99_1 rfl), ⟨knw rfl rfl rfl (p_nilck rfl), ⟨knw rfl rfl rfl (p_move rfl), ⟨knw rfl rfl rfl (p_ldb_one (i := 3) hS rfl rfl ia_3 rfl), ⟨knw rfl rfl rfl (p_fldb (o' := 1) rfl fi_99_1 rfl), ⟨knw rfl rfl rfl (p_nilck rfl), ⟨knw rfl rfl rfl (p_move rfl), ⟨knw rfl rfl rfl (p_ldb_one (i := 3) hS rfl rfl ia_24 rfl), ⟨knw rfl rfl rfl (p_fldb (o' := 0) rfl fi_99_0 rfl), ⟨knw rfl rfl rfl (p_nilck rfl), ⟨knw rfl rfl rfl (p_move rfl), trivial⟩⟩⟩⟩⟩⟩⟩⟩⟩⟩⟩⟩⟩⟩⟩⟩⟩, ?_⟩
          refine pkE0 [18] rfl (by kernel_rfl) (by kernel_rfl) (e_stb (i := 0) (l := []) (m := [(.int .i64 0), (.slice none 0 0), (.slice none 0 0)]) (r := []) (m' := [(.int .i64 x9.1.Kind), v6, v7]) (cs' := [(.int .i64 x9.1.Kind), v6, v7]) hS rfl rfl rfl ti_36 rfl rfl rfl rfl rfl (one_cons rfl (one_cons (hS.one_ow (i := 1) rfl) (one_cons (hS.one_ow (i := 2) rfl) one_nil))) rfl) ?_
          intro v w hR
          have hS : St e s4 w [pt g4 36 ([(.int .i64 x9.1.Kind), v6, v7]), Ow (Kd.int .i64) 3 v6 x9.1.Ints, Ow (Kd.int .i64) 3 v7 x9.1.Refs, pt g1 99 ([v2, (.int .i64 x1.2.2.1), (.bool x1.2.2.2)]), pt g2 38 ([(.bool false), (.int .i64 0), (.slice none 0 0), (.slice none 0 0)])] := hR
          refine ⟨⟨knw rfl rfl rfl (p_extract rfl rfl), trivial⟩, ?_⟩
          refine pkE [] rfl (by decide) (by kernel_rfl) (by kernel_rfl) (puEf (p_assign rfl)) ?_
          rintro v w' ⟨hv, rfl⟩
          obtain rfl := hv.symm
          refine ⟨trivial, ?_⟩
          refine pkF (fun a hF => ?_)
          refine xn ?_
          obtain rfl := hsm H
          replace hS := hS.sel (is := [3, 3, 0, 0, 0]) (A' := [pt g1 99 ([v2, (.int .i64 x1.2.2.1), (.bool x1.2.2.2)]), pt g2 38 ([(.bool false), (.int .i64 0), (.slice none 0 0), (.slice none 0 0)]), pt g4 36 ([(.int .i64 x9.1.Kind), v6, v7]), Ow (Kd.int .i64) 3 v6 x9.1.Ints, Ow (Kd.int .i64) 3 v7 x9.1.Refs]) rfl
          exact ⟨x9.1.Kind, x9.1.Ints, x9.1.Refs, x9.2, s4, g4, v6, v7, hS, hF.cut ⟨rfl, rfl, rfl, rfl, rfl, trivial⟩, hg2, HK1⟩
        · skip
          refine altE [14, 13, 12, 11, 10, 9, 8, 7, 6, 5, 4, 3, 2, 1, 0] [15, 16, 17, 18, 20, 21] rfl rfl rfl (by decide) (by kernel_rfl) (e_alloc (cs := [(.int .i64 0), (.slice none 0 0), (.slice none 0 0)]) hS ti_36 rfl) ?_
          intro v w hR
          obtain ⟨g5, rfl, hS⟩ := hR
          refine ⟨⟨knw rfl rfl rfl (p1 rfl rfl rfl), ⟨knw rfl rfl rfl (p_add (c := w64 (x1.2.2.1 + x1.1)) rfl rfl rfl), ⟨knw rfl rfl rfl (p_move rfl), ⟨knw rfl rfl rfl (p_ldb_one (i := 1) hS rfl rfl ia_3 rfl), ⟨knw rfl rfl rfl (p_fldb (o' := 1) rfl fi_99_1 rfl), ⟨knw rfl rfl rfl (p_nilck rfl), ⟨knw rfl rfl rfl (p_move rfl), ⟨knw rfl rfl rfl (p_ldb_one (i := 1) hS rfl rfl ia_3 rfl), ⟨knw rfl rfl rfl (p_fldb (o' := 1) rfl fi_99_1 rfl), ⟨knw rfl rfl rfl (p_nilck rfl), ⟨knw rfl rfl rfl (p_move rfl), ⟨knw rfl rfl rfl (p_ldb_one (i := 1) hS rfl rfl ia_24 rfl), ⟨knw rfl rfl rfl (p_fldb (o' := 0) rfl fi_99_0 rfl), ⟨knw rfl rfl rfl (p_nilck rfl), ⟨knw rfl rfl rfl (p_move rfl), trivial⟩⟩⟩⟩⟩⟩⟩⟩⟩⟩⟩⟩⟩⟩⟩, ?_⟩
          obtain ⟨x11, hx3, H⟩ := hb H
          refine pkE [13, 12, 11, 10, 9, 8, 7, 6, 5, 4, 3, 2, 1, 0] rfl (by decide) (by kernel_rfl) (by kernel_rfl) (e_callA (fst := []) (vs := [v5]) (cap := []) rfl rfl go_143 (St.call (A := []) (B := [pt g5 36 ([(.int .i64 0), (.slice none 0 0), (.slice none 0 0)]), pt g1 99 ([v2, (.int .i64 x1.2.2.1), (.bool x1.2.2.2)]), pt g2 38 ([(.bool false), (.int .i64 0), (.slice none 0 0), (.slice none 0 0)])]) hS (impl_GetObj.spec k _ _ (cut x1.2.1 x1.2.2.1 (w64 (x1.2.2.1 + x1.1))) v5 h5 _ hx3)) rfl) ?_
          intro v w hR
          obtain ⟨s5, A4, hg3, hS, hR⟩ := hR
          obtain ⟨v8, v9, hv3, rfl⟩ := hR; obtain rfl := hv3.symm
          have hS : St e s5 w [Ow (Kd.int .i64) 3 v8 x11.1.Ints, Ow (Kd.int .i64) 3 v9 x11.1.Refs, pt g5 36 ([(.int .i64 0), (.slice none 0 0), (.slice none 0 0)]), pt g1 99 ([v2, (.int .i64 x1.2.2.1), (.bool x1.2.2.2)]), pt g2 38 ([(.bool false), (.int .i64 0), (.slice none 0 0), (.slice none 0 0)])] := hS
          refine ⟨⟨knw rfl rfl rfl (p_add (c := w64 (x1.2.2.1 + x1.1)) rfl rfl rfl), ⟨knw rfl rfl rfl (p_move rfl), ⟨knw rfl rfl rfl (p_ldb_one (i := 3) hS rfl rfl ia_3 rfl), ⟨knw rfl rfl rfl (p_fldb (o' := 1) rfl fi_99_1 rfl), ⟨knw rfl rfl rfl (p_nilck rfl), ⟨knw rfl rfl rfl (p_move rfl), ⟨knw rfl rfl rfl (p_ldb_one (i := 3) hS rfl rfl ia_3 rfl), ⟨knw rfl rfl rfl (p_fldb (o' := 1) rfl fi_99_1 rfl), ⟨knw rfl rfl rfl (p_nilck rfl), ⟨knw rfl rfl rfl (p_move rfl), ⟨knw rfl rfl rfl (p_ldb_one (i := 3) hS rfl rfl ia_24 rfl), ⟨knw rfl rfl rfl (p_fldb (o' := 0) rfl fi_99_0 rfl), ⟨knw rfl rfl rfl (p_nilck rfl), ⟨knw rfl rfl rfl (p_move rfl), trivial⟩⟩⟩⟩⟩⟩⟩⟩⟩⟩⟩⟩⟩⟩, ?_⟩
          refine pk1 rfl (by decide) rfl (by kernel_rfl) rfl (p_move rfl) ?_
          refine pk1 rfl (by decide) rfl (by kernel_rfl) rfl (p_extract rfl rfl) ?_
          refine pk1 rfl (by decide) rfl (by kernel_rfl) rfl (p_extract rfl rfl) ?_
          refine pkE0 [18] rfl (by kernel_rfl) (by kernel_rfl) (e_stb (i := 2) (l := []) (m := [(.int .i64 0), (.slice none 0 0), (.slice none 0 0)]) (r := []) (m' := [(.int .i64 x11.1.Kind), v8, v9]) (cs' := [(.int .i64 x11.1.Kind), v8, v9]) hS rfl rfl rfl ti_36 rfl rfl rfl rfl rfl (one_cons rfl (one_cons (hS.one_ow (i := 0) rfl) (one_cons (hS.one_ow (i := 1) rfl) one_nil))) rfl) ?_
          intro v w hR
          have hS : St e s5 w [pt g5 36 ([(.int .i64 x11.1.Kind), v8, v9]), Ow (Kd.int .i64) 3 v8 x11.1.Ints, Ow (Kd.int .i64) 3 v9 x11.1.Refs, pt g1 99 ([v2, (.int .i64 x1.2.2.1), (.bool x1.2.2.2)]), pt g2 38 ([(.bool false), (.int .i64 0), (.slice none 0 0), (.slice none 0 0)])] := hR
          refine ⟨⟨knw rfl rfl rfl (p_extract rfl rfl), trivial⟩, ?_⟩
          refine pkE [] rfl (by decide) (by kernel_rfl) (by kernel_rfl) (puEf (p_assign rfl)) ?_
          rintro v w' ⟨hv, rfl⟩
          obtain rfl := hv.symm
          refine ⟨trivial, ?_⟩
          refine pkF (fun a hF => ?_)
          refine xn ?_
          obtain rfl := hsm H
          replace hS := hS.sel (is := [3, 3, 0, 0, 0]) (A' := [pt g1 99 ([v2, (.int .i64 x1.2.2.1), (.bool x1.2.2.2)]), pt g2 38 ([(.bool false), (.int .i64 0), (.slice none 0 0), (.slice none 0 0)]), pt g5 36 ([(.int .i64 x11.1.Kind), v8, v9]), Ow (Kd.int .i64) 3 v8 x11.1.Ints, Ow (Kd.int .i64) 3 v9 x11.1.Refs]) rfl
          exact ⟨x11.1.Kind, x11.1.Ints, x11.1.Refs, x11.2, s5, g5, v8, v9, hS, hF.cut ⟨rfl, rfl, rfl, rfl, rfl, trivial⟩, hg3, HK1⟩
      · clear H HK1 hS hF
        rintro a w ⟨x2, x3, x4, x5, s3, g3, v3, v4, hS, hF, hg4, H⟩
        unfold impl_reader_slot.c1 at H
        refine sq ?_
        refine sq ?_
        refine rg ?_
        refine stp hF (p_move rfl) (by decide) (fun a hF => ?_)
        refine stp hF (p_not rfl) (by decide) (fun a hF => ?_)
        refine nilN ?_
        refine xn ?_
        refine cnd hF rfl (fun hc4 => ?_) (fun hc4 => ?_)
        · replace H := hbt hc4 H
          refine sq ?_
          refine rg ?_
          refine stp hF (p_move rfl) (by decide) (fun a hF => ?_)
          refine stp hF (p_nilck rfl) (by decide) (fun a hF => ?_)
          refine stp hF (p_fldb (o' := 2) rfl fi_99_2 rfl) (by decide) (fun a hF => ?_)
          refine ste0 hF (e_stb (i := 0) (l := [v2, (.int .i64 x1.2.2.1)]) (m := [(.bool x1.2.2.2)]) (r := []) (m' := [(.bool true)]) (cs' := [v2, (.int .i64 x1.2.2.1), (.bool true)]) hS rfl rfl rfl ti_4 rfl rfl rfl rfl rfl (one_cons rfl one_nil) rfl) (fun v w a hR hF => ?_)
          have hS : St e s3 w [pt g1 99 ([v2, (.int .i64 x1.2.2.1), (.bool true)]), pt g2 38 ([(.bool false), (.int .i64 0), (.slice none 0 0), (.slice none 0 0)]), pt g3 36 ([(.int .i64 x2), v3, v4]), Ow (Kd.int .i64) 3 v3 x3, Ow (Kd.int .i64) 3 v4 x4] := hR
          refine nilN ?_
          refine xn ?_
          refine sq ?_
          refine rg ?_
          refine stp hF (p_build (ps := []) (vs := []) (v := (.agg #[(.bool false), (.int .i64 0), (.slice none 0 0), (.slice none 0 0)])) rfl (by intro w; kernel_rfl)) (by decide) (fun a hF => ?_)
          refine ste0 hF (e_stb (i := 1) (l := []) (m := [(.bool false), (.int .i64 0), (.slice none 0 0), (.slice none 0 0)]) (r := []) (m' := [(.bool false), (.int .i64 0), (.slice none 0 0), (.slice none 0 0)]) (cs' := [(.bool false), (.int .i64 0), (.slice none 0 0), (.slice none 0 0)]) hS rfl rfl rfl ti_38 rfl rfl rfl rfl rfl (one_cons rfl (one_cons rfl (one_cons rfl (one_cons rfl one_nil)))) rfl) (fun v w a hR hF => ?_)
          have hS : St e s3 w [pt g2 38 ([(.bool false), (.int .i64 0), (.slice none 0 0), (.slice none 0 0)]), pt g1 99 ([v2, (.int .i64 x1.2.2.1), (.bool true)]), pt g3 36 ([(.int .i64 x2), v3, v4]), Ow (Kd.int .i64) 3 v3 x3, Ow (Kd.int .i64) 3 v4 x4] := hR
          refine nilN ?_
          refine xn ?_
          refine rt ?_
          refine xr ?_
          obtain rfl := hsm H
          have h6 : RvOk Try.prog _ w (.cell 2 38) _ := rvC (i := 0) hS rfl (show lk [(2, (.pointer (some ⟨g2, 0, none⟩)))] 2 = _ from rfl) ia_38 ti_38 rfl
          replace hS := hS.ownNil (Kd.int .i64) 3 none
          replace hS := hS.ownNil (Kd.int .i64) 3 none
          replace hS := hS.sel (is := [3, 1, 0]) (A' := [pt g1 99 ([v2, (.int .i64 x1.2.2.1), (.bool true)]), Ow (Kd.int .i64) 3 (.slice none 0 0) ([] : List Int), Ow (Kd.int .i64) 3 (.slice none 0 0) ([] : List Int)]) rfl
          exact retc1 hF rfl h6 hS ⟨v2, (.slice none 0 0), (.slice none 0 0), rfl, rfl, (h2.mono hg4)⟩
        · replace H := hbf hc4 H
          refine skN ?_
          refine xn ?_
          refine sq ?_
          refine rg ?_
          refine stp hF (p_move rfl) (by decide) (fun a hF => ?_)
          refine stp hF (p_nilck rfl) (by decide) (fun a hF => ?_)
          refine stp hF (p_fldb (o' := 1) rfl fi_99_1 rfl) (by decide) (fun a hF => ?_)
          refine stp hF (p_ldb_one (i := 0) hS rfl rfl ia_3 rfl) (by decide) (fun a hF => ?_)
          refine stp hF (p_move rfl) (by decide) (fun a hF => ?_)
          refine stp hF (p_add (c := w64 (x1.2.2.1 + x1.1)) rfl rfl rfl) (by decide) (fun a hF => ?_)
          refine stp hF (p_nilck rfl) (by decide) (fun a hF => ?_)
          refine stp hF (p_fldb (o' := 1) rfl fi_99_1 rfl) (by decide) (fun a hF => ?_)
          refine ste0 hF (e_stb (i := 0) (l := [v2]) (m := [(.int .i64 x1.2.2.1)]) (r := [(.bool x1.2.2.2)]) (m' := [(.int .i64 (w64 (x1.2.2.1 + x1.1)))]) (cs' := [v2, (.int .i64 (w64 (x1.2.2.1 + x1.1))), (.bool x1.2.2.2)]) hS rfl rfl rfl ti_3 rfl rfl rfl rfl rfl (one_cons rfl one_nil) rfl) (fun v w a hR hF => ?_)
          have hS : St e s3 w [pt g1 99 ([v2, (.int .i64 (w64 (x1.2.2.1 + x1.1))), (.bool x1.2.2.2)]), pt g2 38 ([(.bool false), (.int .i64 0), (.slice none 0 0), (.slice none 0 0)]), pt g3 36 ([(.int .i64 x2), v3, v4]), Ow (Kd.int .i64) 3 v3 x3, Ow (Kd.int .i64) 3 v4 x4] := hR
          refine nilN ?_
          refine xn ?_
          refine sq ?_
          refine rg ?_
          refine stp hF (p_ldb_agg (i := 2) (l := []) (m := [(.int .i64 x2), v3, v4]) (r := []) hS rfl rfl ia_36 ti_36 rfl rfl rfl) (by decide) (fun a hF => ?_)
          refine stp hF (p_build (ps := [(0, (.const (.bool true))), (1, (.tmp 71))]) (vs := [(0, (.bool true)), (1, (.agg #[(.int .i64 x2), v3, v4]))]) (v := (.agg #[(.bool true), (.int .i64 x2), v3, v4])) rfl (by intro w; obtain ⟨_, _, _, e1⟩ := hS.el (i := 3) rfl; rw [e1]; obtain ⟨_, _, _, e2⟩ := hS.el (i := 4) rfl; rw [e2]; kernel_rfl)) (by decide) (fun a hF => ?_)
          refine ste0 hF (e_stb (i := 1) (l := []) (m := [(.bool false), (.int .i64 0), (.slice none 0 0), (.slice none 0 0)]) (r := []) (m' := [(.bool true), (.int .i64 x2), v3, v4]) (cs' := [(.bool true), (.int .i64 x2), v3, v4]) hS rfl rfl rfl ti_38 rfl rfl rfl rfl rfl (one_cons rfl (one_cons rfl (one_cons (hS.one_ow (i := 3) rfl) (one_cons (hS.one_ow (i := 4) rfl) one_nil)))) rfl) (fun v w a hR hF => ?_)
          have hS : St e s3 w [pt g2 38 ([(.bool true), (.int .i64 x2), v3, v4]), pt g1 99 ([v2, (.int .i64 (w64 (x1.2.2.1 + x1.1))), (.bool x1.2.2.2)]), pt g3 36 ([(.int .i64 x2), v3, v4]), Ow (Kd.int .i64) 3 v3 x3, Ow (Kd.int .i64) 3 v4 x4] := hR
          refine nilN ?_
          refine xn ?_
          refine rt ?_
          obtain rfl := hsm H
          have h7 : RvOk Try.prog _ w (.cell 2 38) _ := rvC (i := 0) hS rfl (show lk [(2, (.pointer (some ⟨g2, 0, none⟩)))] 2 = _ from rfl) ia_38 ti_38 rfl
          replace hS := hS.sel (is := [1, 2, 2]) (A' := [pt g1 99 ([v2, (.int .i64 (w64 (x1.2.2.1 + x1.1))), (.bool x1.2.2.2)]), Ow (Kd.int .i64) 3 v3 x3, Ow (Kd.int .i64) 3 v4 x4]) rfl
          exact retc1 hF rfl h7 hS ⟨v2, v3, v4, rfl, rfl, (h2.mono hg4)⟩

def spec_l3DrawPage.c1 (k : Nat) (x1 : Int × (List Int) × Int × Int) (x2 : (List TSlot)) (x3 : (List Int)) (x4 : Int) (x5 : Int) : Option (TPage × (List Int) × Int × Int) :=
  (some ((⟨x1.1, x2⟩ : TPage), x3, x4, x5))
def spec_l3DrawPage.l1 : Nat → (List TSlot) → (List Int) → Int → Int → Int → Option ((List TSlot) × (List Int) × Int × Int)
  | 0, _, _, _, _, _ => none
  | k + 1, x6, x7, x8, x9, x10 => (if (decide (x10 < 4)) = true then ((spec_l3DrawSlot.f k x7 x8 x9).bind fun x11 => (if 0 ≤ x10 ∧ x10 < 4 then ((spec_l3DrawPage.l1 k) (wr x6 x10 (⟨x11.1.Has, (⟨x11.1.O.Kind, x11.1.O.Ints, x11.1.O.Refs⟩ : TObj)⟩ : TSlot)) x11.2.1 x11.2.2.1 x11.2.2.2 (w64 (x10 + 1))) else none)) else (some (x6, x7, x8, x9)))
def spec_l3DrawPage.f (k : Nat) (x12 : (List Int)) (x13 : Int) (x14 : Int) : Option (TPage × (List Int) × Int × Int) :=
  ((spec_l1Below.f k x12 x13 x14 30).bind fun x1 => (((spec_l3DrawPage.l1 k zv_47 x1.2.1 x1.2.2.1 x1.2.2.2 0) : Option ((List TSlot) × (List Int) × Int × Int)).bind fun x15 => spec_l3DrawPage.c1 k x1 x15.1 x15.2.1 x15.2.2.1 x15.2.2.2))
set_option maxRecDepth 100000 in
set_option maxHeartbeats 4000000 in
theorem spec_l3DrawPage.spec (k : Nat) (s0 : HF) (w : World) (x12 : (List Int)) (x13 : Int) (x14 : Int) (v1 : Value) (g1 : Nat) (h1 : Sl (Kd.int .u8) s0 v1 x12) (r : TPage × (List Int) × Int × Int) (H : spec_l3DrawPage.f k x12 x13 x14 = some r) :
    Law Try.prog 144 #[(.pointer (some ⟨g1, 0, none⟩))] s0 w [pt g1 139 ([v1, (.int .i64 x13), (.int .i64 x14)])] (fun v s1 A1 => ∃ (u0 : Value) (u1 : List Value), v = (.agg ([(.int .i64 r.1.Lsn)] ++ u1 : List Value).toArray) ∧ A1 = [pt g1 139 ([u0, (.int .i64 r.2.2.1), (.int .i64 r.2.2.2)])] ∧ Sl (Kd.int .u8) s1 u0 r.2.1 ∧ ((Kd.arr 4 kTSlot)).K s1 r.1.Slots u1) := by
  unfold spec_l3DrawPage.f at H
  refine Law.intro Try.func144 rfl [(0, (.pointer (some ⟨g1, 0, none⟩)))] (Nat.le_of_ble_eq_true rfl) (enter_lk ⟨rfl, trivial⟩) (fun e a hS hF => ?_)
  have hF : Fr 18 a [(0, (.pointer (some ⟨g1, 0, none⟩)))] := hF
  refine sq ?_
  refine rg ?_
  refine ste hF (e_alloc (cs := [(.int .i64 0)] ++ za_47) hS ti_49 rfl) (by decide) (fun v w a hR hF => ?_)
  obtain ⟨g2, rfl, hS⟩ := hR
  refine nilN ?_
  refine xn ?_
  refine sq ?_
  refine rg ?_
  refine stp hF (p_move rfl) (by decide) (fun a hF => ?_)
  replace hS := hS.sel (is := [1, 0]) (A' := [pt g1 139 ([v1, (.int .i64 x13), (.int .i64 x14)]), pt g2 49 ([(.int .i64 0)] ++ za_47)]) rfl
  obtain ⟨x1, hx1, H⟩ := hb H
  refine ste hF (e_callA (fst := []) (vs := [(.pointer (some ⟨g1, 0, none⟩)), (.int .i64 30)]) (cap := []) rfl rfl go_145 (St.call (A := [pt g1 139 ([v1, (.int .i64 x13), (.int .i64 x14)])]) (B := [pt g2 49 ([(.int .i64 0)] ++ za_47)]) hS (spec_l1Below.spec k _ _ x12 x13 x14 30 v1 g1 h1 _ hx1)) rfl) (by decide) (fun v w a hR hF => ?_)
  obtain ⟨s2, A2, hg1, hS, hR⟩ := hR
  obtain ⟨v2, hv1, rfl, h2⟩ := hR; obtain rfl := hv1.symm
  have hS : St e s2 w [pt g1 139 ([v2, (.int .i64 x1.2.2.1), (.int .i64 x1.2.2.2)]), pt g2 49 ([(.int .i64 0)] ++ za_47)] := hS
  refine stp hF (p_build (ps := [(0, (.tmp 6))]) (vs := [(0, (.int .i64 x1.1))]) (v := (.agg ([(.int .i64 x1.1)] ++ za_47 : List Value).toArray)) rfl (by intro w; kernel_rfl)) (by decide) (fun a hF => ?_)
  refine ste hF (e_alloc (cs := [(.int .i64 0)] ++ za_47) hS ti_49 rfl) (by decide) (fun v w a hR hF => ?_)
  obtain ⟨g3, rfl, hS⟩ := hR
  refine ste0 hF (e_stb (i := 0) (l := []) (m := [(.int .i64 0)] ++ za_47) (r := []) (m' := [(.int .i64 x1.1)] ++ za_47) (cs' := [(.int .i64 x1.1)] ++ za_47) hS rfl rfl rfl ti_49 (by simp) (by simp [zl_47]) (by simp [zl_47]) rfl (by simp [zl_47]) (one_app (one_cons rfl one_nil) (Kd.one _ ((Kd.arr 4 kTSlot).mono hg1 (zk_47 s0)))) (by simp)) (fun v w a hR hF => ?_)
  have hS : St e s2 w [pt g3 49 ([(.int .i64 x1.1)] ++ za_47), pt g1 139 ([v2, (.int .i64 x1.2.2.1), (.int .i64 x1.2.2.2)]), pt g2 49 ([(.int .i64 0)] ++ za_47)] := hR
  refine nilN ?_
  refine xn ?_
  obtain ⟨x15, H, HK1⟩ := hb H
  refine sqj (fun a w => ∃ (x2 : (List TSlot)) (x3 : (List Int)) (x4 : Int) (x5 : Int) (s3 : HF) (c2 : List Value) (v3 : Value) , St e s3 w [pt g3 49 ([(.int .i64 x1.1)] ++ c2), pt g1 139 ([v3, (.int .i64 x4), (.int .i64 x5)]), pt g2 49 ([(.int .i64 0)] ++ za_47)] ∧ Fr 18 a [(2, (.pointer (some ⟨g2, 0, none⟩))), (3, (.pointer (some ⟨g3, 0, none⟩)))] ∧ Sub s2 s3 ∧ ((Kd.arr 4 kTSlot)).K s3 x2 c2 ∧ Sl (Kd.int .u8) s3 v3 x3 ∧ spec_l3DrawPage.c1 k x1 x2 x3 x4 x5 = some r) ?_ ?_
  · skip
    refine sq ?_
    refine rg ?_
    refine stp hF (p_assign rfl) (by decide) (fun a hF => ?_)
    refine nilN ?_
    refine xn ?_
    refine blk ?_
    refine loop_ind (fun k1 a w => ∃ (x6 : (List TSlot)) (x7 : (List Int)) (x8 : Int) (x9 : Int) (x10 : Int) (s4 : HF) (c3 : List Value) (v4 : Value) , St e s4 w [pt g3 49 ([(.int .i64 x1.1)] ++ c3), pt g1 139 ([v4, (.int .i64 x8), (.int .i64 x9)]), pt g2 49 ([(.int .i64 0)] ++ za_47)] ∧ Fr 18 a [(0, (.pointer (some ⟨g1, 0, none⟩))), (2, (.pointer (some ⟨g2, 0, none⟩))), (3, (.pointer (some ⟨g3, 0, none⟩))), (4, (.int .i64 x10))] ∧ Sub s2 s4 ∧ ((Kd.arr 4 kTSlot)).K s4 x6 c3 ∧ Sl (Kd.int .u8) s4 v4 x7 ∧ spec_l3DrawPage.l1 k1 x6 x7 x8 x9 x10 = some x15) k ?_ ?_ ?_
    · skip
      exact ⟨zv_47, x1.2.1, x1.2.2.1, x1.2.2.2, 0, s2, za_47, v2, hS, hF.cut ⟨rfl, rfl, rfl, rfl, trivial⟩, (Sub.refl _), ((Kd.arr 4 kTSlot).mono hg1 (zk_47 s0)), h2, H⟩
    · clear H hS hF
      rintro a w ⟨x6, x7, x8, x9, x10, s4, c3, v4, hS, hF, hg2, h3, h4, H⟩
      exact absurd (show none = some _ from H) (by simp)
    · clear H hS hF
      rintro k1 a w ⟨x6, x7, x8, x9, x10, s4, c3, v4, hS, hF, hg2, h3, h4, H⟩
      rw [spec_l3DrawPage.l1.eq_2] at H
      refine sq ?_
      refine sq ?_
      refine rg ?_
      refine stp hF (p_move rfl) (by decide) (fun a hF => ?_)
      refine stp hF (p_lss rfl rfl) (by decide) (fun a hF => ?_)
      refine nilN ?_
      refine xn ?_
      refine cnd hF rfl (fun hc1 => ?_) (fun hc1 => ?_)
      · replace H := hbt hc1 H
        refine skN ?_
        refine xn ?_
        refine sq ?_
        refine blk ?_
        refine rg ?_
        refine stp hF (p_move rfl) (by decide) (fun a hF => ?_)
        refine stp hF (p_move rfl) (by decide) (fun a hF => ?_)
        replace hS := hS.sel (is := [1, 0, 0]) (A' := [pt g1 139 ([v4, (.int .i64 x8), (.int .i64 x9)]), pt g3 49 ([(.int .i64 x1.1)] ++ c3), pt g2 49 ([(.int .i64 0)] ++ za_47)]) rfl
        obtain ⟨x11, hx2, H⟩ := hb H
        refine ste hF (e_callA (fst := []) (vs := [(.pointer (some ⟨g1, 0, none⟩))]) (cap := []) rfl rfl go_90 (St.call (A := [pt g1 139 ([v4, (.int .i64 x8), (.int .i64 x9)])]) (B := [pt g3 49 ([(.int .i64 x1.1)] ++ c3), pt g2 49 ([(.int .i64 0)] ++ za_47)]) hS (spec_l3DrawSlot.spec k1 _ _ x7 x8 x9 v4 g1 h4 _ hx2)) rfl) (by decide) (fun v w a hR hF => ?_)
        obtain ⟨s5, A3, hg3, hS, hR⟩ := hR
        obtain ⟨v5, v6, v7, hv2, rfl, h5⟩ := hR; obtain rfl := hv2.symm
        have hS : St e s5 w [pt g1 139 ([v5, (.int .i64 x11.2.2.1), (.int .i64 x11.2.2.2)]), Ow (Kd.int .i64) 3 v6 x11.1.O.Ints, Ow (Kd.int .i64) 3 v7 x11.1.O.Refs, pt g3 49 ([(.int .i64 x1.1)] ++ c3), pt g2 49 ([(.int .i64 0)] ++ za_47)] := hS
        refine stp hF (p_fldb (o' := 1) rfl fi_49_1 rfl) (by decide) (fun a hF => ?_)
        obtain ⟨hq1, H⟩ := hck H
        refine stp hF (p_idxb rfl rfl un_47 ti_38 hq1.1 hq1.2) (by decide) (fun a hF => ?_)
        obtain ⟨s6, hg4, h6, hS⟩ := hS.freeze (i := 1) (kd := (Kd.int .i64)) (et := 3) (v := v6) (xs := x11.1.O.Ints) (B := [pt g1 139 ([v5, (.int .i64 x11.2.2.1), (.int .i64 x11.2.2.2)]), Ow (Kd.int .i64) 3 v7 x11.1.O.Refs, pt g3 49 ([(.int .i64 x1.1)] ++ c3), pt g2 49 ([(.int .i64 0)] ++ za_47)]) rfl
        obtain ⟨s7, hg5, h7, hS⟩ := hS.freeze (i := 1) (kd := (Kd.int .i64)) (et := 3) (v := v7) (xs := x11.1.O.Refs) (B := [pt g1 139 ([v5, (.int .i64 x11.2.2.1), (.int .i64 x11.2.2.2)]), pt g3 49 ([(.int .i64 x1.1)] ++ c3), pt g2 49 ([(.int .i64 0)] ++ za_47)]) rfl
        refine ste0 hF (e_stba (n := 1) (l := [(.int .i64 x1.1)]) (cs := c3) (r := []) (base := 1) (y0 := (⟨x11.1.Has, (⟨x11.1.O.Kind, x11.1.O.Ints, x11.1.O.Refs⟩ : TObj)⟩ : TSlot)) hS rfl (by simp) ((Kd.arr 4 kTSlot).mono hg5 ((Kd.arr 4 kTSlot).mono hg4 ((Kd.arr 4 kTSlot).mono hg3 h3))) (Lens.idx 4 kTSlot x10 hq1.1 hq1.2) rfl rfl rfl rfl ti_38 rfl (kTSlot_mk (x := (⟨x11.1.Has, (⟨x11.1.O.Kind, x11.1.O.Ints, x11.1.O.Refs⟩ : TObj)⟩ : TSlot)) (h6.mono hg5) h7)) (fun v w a hR hF => ?_)
        obtain ⟨c4, h8, hS⟩ := hR
        replace h8 : ((Kd.arr 4 kTSlot)).K s7 (wr x6 x10 (⟨x11.1.Has, (⟨x11.1.O.Kind, x11.1.O.Ints, x11.1.O.Refs⟩ : TObj)⟩ : TSlot)) c4 := h8
        replace hS : St e s7 w [pt g3 49 ([(.int .i64 x1.1)] ++ c4), pt g1 139 ([v5, (.int .i64 x11.2.2.1), (.int .i64 x11.2.2.2)]), pt g2 49 ([(.int .i64 0)] ++ za_47)] := (by simpa using hS)
        refine nilN ?_
        refine bn (xn ?_)
        refine rg ?_
        refine stp hF (p_move rfl) (by decide) (fun a hF => ?_)
        refine stp hF (p_add (c := w64 (x10 + 1)) rfl rfl rfl) (by decide) (fun a hF => ?_)
        refine stp hF (p_assign rfl) (by decide) (fun a hF => ?_)
        refine nilN ?_
        refine xn ?_
        exact ⟨(wr x6 x10 (⟨x11.1.Has, (⟨x11.1.O.Kind, x11.1.O.Ints, x11.1.O.Refs⟩ : TObj)⟩ : TSlot)), x11.2.1, x11.2.2.1, x11.2.2.2, (w64 (x10 + 1)), s7, c4, v5, hS, hF.cut ⟨rfl, rfl, rfl, rfl, trivial⟩, (((hg2.trans hg3).trans hg4).trans hg5), h8, ((h5.mono hg4).mono hg5), H⟩
      · replace H := hbf hc1 H
        refine exi ?_
        refine xe (xe (hit (xn ?_)))
        obtain rfl := hsm H
        exact ⟨x6, x7, x8, x9, s4, c3, v4, hS, hF.cut ⟨rfl, rfl, trivial⟩, hg2, h3, h4, HK1⟩
  · clear H HK1 hS hF
    rintro a w ⟨x2, x3, x4, x5, s3, c2, v3, hS, hF, hg6, h9, h10, H⟩
    unfold spec_l3DrawPage.c1 at H
    refine sq ?_
    refine rg ?_
    refine stp hF (p_ldb_agg (i := 0) (l := []) (m := [(.int .i64 x1.1)] ++ c2) (r := []) hS rfl rfl ia_49 ti_49 (by simp) (by simp [(show c2.length = 16 from Kd.len _ h9)]) (by simp [(show c2.length = 16 from Kd.len _ h9)])) (by decide) (fun a hF => ?_)
    refine ste0 hF (e_stb (i := 2) (l := []) (m := [(.int .i64 0)] ++ za_47) (r := []) (m' := [(.int .i64 x1.1)] ++ c2) (cs' := [(.int .i64 x1.1)] ++ c2) hS rfl rfl rfl ti_49 (by simp) (by simp [zl_47, (show c2.length = 16 from Kd.len _ h9)]) (by simp [zl_47, (show c2.length = 16 from Kd.len _ h9)]) rfl (by simp [zl_47, (show c2.length = 16 from Kd.len _ h9)]) (one_app (one_cons rfl one_nil) (Kd.one _ h9)) (by simp)) (fun v w a hR hF => ?_)
    have hS : St e s3 w [pt g2 49 ([(.int .i64 x1.1)] ++ c2), pt g3 49 ([(.int .i64 x1.1)] ++ c2), pt g1 139 ([v3, (.int .i64 x4), (.int .i64 x5)])] := hR
    refine nilN ?_
    refine xn ?_
    refine rt ?_
    obtain rfl := hsm H
    have h11 : RvOk Try.prog _ w (.cell 2 49) _ := rvC (i := 0) hS rfl (show lk [(2, (.pointer (some ⟨g2, 0, none⟩)))] 2 = _ from rfl) ia_49 ti_49 (by simp [(show c2.length = 16 from Kd.len _ h9)])
    replace hS := hS.sel (is := [2]) (A' := [pt g1 139 ([v3, (.int .i64 x4), (.int .i64 x5)])]) rfl
    exact retc1 hF rfl h11 hS ⟨v3, c2, rfl, rfl, h10, h9⟩

def spec_l2Copy.c1 (k : Nat) (x1 : Int) (x2 : (List Int)) (x3 : (List Int)) : Option TObj :=
  (some (⟨x1, x2, x3⟩ : TObj))
def spec_l2Copy.f (k : Nat) (x4 : TObj) : Option TObj :=
  (((if ([] : List Int).length + x4.Ints.length ≤ 17592186044416 then (if ([] : List Int).length + x4.Refs.length ≤ 17592186044416 then (some (x4.Kind, (([] : List Int) ++ x4.Ints), (([] : List Int) ++ x4.Refs))) else none) else none) : Option (Int × (List Int) × (List Int))).bind fun x5 => spec_l2Copy.c1 k x5.1 x5.2.1 x5.2.2)
set_option maxRecDepth 100000 in
set_option maxHeartbeats 4000000 in
theorem spec_l2Copy.spec (k : Nat) (s0 : HF) (w : World) (x4 : TObj) (v1 : Value) (v2 : Value) (h1 : Sl (Kd.int .i64) s0 v1 x4.Ints) (h2 : Sl (Kd.int .i64) s0 v2 x4.Refs) (r : TObj) (H : spec_l2Copy.f k x4 = some r) :
    Law Try.prog 151 #[(.agg #[(.int .i64 x4.Kind), v1, v2])] s0 w [] (fun v s1 A1 => ∃ (u0 : Value) (u1 : Value), v = (.agg #[(.int .i64 r.Kind), u0, u1]) ∧ A1 = [Ow (Kd.int .i64) 3 u0 r.Ints, Ow (Kd.int .i64) 3 u1 r.Refs]) := by
  unfold spec_l2Copy.f at H
  refine Law.intro Try.func151 rfl [(0, (.agg #[(.int .i64 x4.Kind), v1, v2]))] (Nat.le_of_ble_eq_true rfl) (enter_lk ⟨rfl, trivial⟩) (fun e a hS hF => ?_)
  have hF : Fr 14 a [(0, (.agg #[(.int .i64 x4.Kind), v1, v2]))] := hF
  refine sq ?_
  refine rg ?_
  refine ste hF (e_box (cs := [(.int .i64 x4.Kind), v1, v2]) hS rfl rfl) (by decide) (fun v w a hR hF => ?_)
  obtain ⟨g1, rfl, hS⟩ := hR
  refine ste hF (e_alloc (cs := [(.int .i64 0), (.slice none 0 0), (.slice none 0 0)]) hS ti_36 rfl) (by decide) (fun v w a hR hF => ?_)
  obtain ⟨g2, rfl, hS⟩ := hR
  refine nilN ?_
  refine xn ?_
  obtain ⟨x5, H, HK1⟩ := hb H
  refine sqj (fun a w => ∃ (x1 : Int) (x2 : (List Int)) (x3 : (List Int)) (v3 : Value) (v4 : Value) , St e s0 w [pt g2 36 ([(.int .i64 x1), v3, v4]), Ow (Kd.int .i64) 3 v3 x2, Ow (Kd.int .i64) 3 v4 x3, pt g1 36 ([(.int .i64 x4.Kind), v1, v2])] ∧ Fr 14 a [(2, (.pointer (some ⟨g2, 0, none⟩)))] ∧ spec_l2Copy.c1 k x1 x2 x3 = some r) ?_ ?_
  · skip
    replace hS : St e s0 w.drew [pt g2 36 ([(.int .i64 0), (.slice none 0 0), (.slice none 0 0)]), pt g1 36 ([(.int .i64 x4.Kind), v1, v2])] := hS.drewN 1
    refine drw [0, 1, 2, 3, 4, 5, 6, 7, 8, 9, 10, 11] mixed (by kernel_rfl) (by decide) (hF.cut (L' := [(0, (.agg #[(.int .i64 x4.Kind), v1, v2])), (1, (.pointer (some ⟨g1, 0, none⟩))), (2, (.pointer (some ⟨g2, 0, none⟩)))]) ⟨rfl, rfl, rfl, trivial⟩) ?_
    clear hF
    generalize w.drew = w at hS ⊢
    refine pk1 rfl (by decide) rfl (by kernel_rfl) rfl (p_fldb (o' := 0) rfl fi_36_0 rfl) ?_
    refine pk1 rfl (by decide) rfl (by kernel_rfl) rfl (p_ldb_one (i := 1) hS rfl rfl ia_3 rfl) ?_
    refine pkPerm [3, 2, 4, 5, 6, 7, 8, 9, 10, 11] (by kernel_rfl) ?_
    refine pk1 rfl (by decide) rfl (by kernel_rfl) rfl (p_fldb (o' := 1) rfl fi_36_1 rfl) ?_
    refine pkPerm [4, 2, 5, 6, 7, 8, 9, 10, 11] (by kernel_rfl) ?_
    refine pk1 rfl (by decide) rfl (by kernel_rfl) rfl (p_ldb_one (i := 1) hS rfl rfl ia_34 rfl) ?_
    refine pkPerm [7, 2, 5, 6, 8, 9, 10, 11] (by kernel_rfl) ?_
    refine pk1 rfl (by decide) rfl (by kernel_rfl) rfl (p_fldb (o' := 2) rfl fi_36_2 rfl) ?_
    refine pkPerm [8, 2, 5, 6, 9, 10, 11] (by kernel_rfl) ?_
    refine pk1 rfl (by decide) rfl (by kernel_rfl) rfl (p_ldb_one (i := 1) hS rfl rfl ia_34 rfl) ?_
    refine pkAlt [2, 6] (by kernel_rfl) rfl ⟨?_, ?_, trivial⟩
    · skip
      refine altE [8, 7, 4, 3, 1, 0] [5, 6, 9, 10, 11] rfl rfl rfl (by decide) (by kernel_rfl) (e_bslice (kd := (Kd.int .i64)) (et := 3) (ps := []) (vs := []) (cs := []) (xs := ([] : List Int)) hS rfl (by intro w; kernel_rfl) rfl (by decide) (Nat.le_of_ble_eq_true rfl) (by exact (Rows.nil _ _ _ _))) ?_
      intro v5 w hR
      have hS : St e s0 w [Ow (Kd.int .i64) 3 v5 ([] : List Int), pt g2 36 ([(.int .i64 0), (.slice none 0 0), (.slice none 0 0)]), pt g1 36 ([(.int .i64 x4.Kind), v1, v2])] := hR
      refine ⟨⟨knw rfl rfl rfl (p_ldb_one (i := 2) hS rfl rfl ia_34 rfl), ⟨knw rfl rfl rfl (p_fldb (o' := 2) rfl fi_36_2 rfl), ⟨knw rfl rfl rfl (p_ldb_one (i := 2) hS rfl rfl ia_34 rfl), ⟨knw rfl rfl rfl (p_fldb (o' := 1) rfl fi_36_1 rfl), ⟨knw rfl rfl rfl (p_ldb_one (i := 2) hS rfl rfl ia_3 rfl), ⟨knw rfl rfl rfl (p_fldb (o' := 0) rfl fi_36_0 rfl), trivial⟩⟩⟩⟩⟩⟩, ?_⟩
      refine pkAlt [5, 6] (by kernel_rfl) rfl ⟨?_, ?_, trivial⟩
      · skip
        obtain ⟨hq1, H⟩ := hck H
        refine altE [8, 7, 3, 1, 0] [6, 9, 10, 11] rfl rfl rfl (by decide) (by kernel_rfl) (e_append (n := 0) hS rfl rfl rfl (h1.src hS) un_34 ti_3 rfl (by decide) (by decide) (Nat.le_trans (Nat.mul_le_mul_right 8 hq1) (by decide))) ?_
        intro v6 w hR
        have hS : St e s0 w [Ow (Kd.int .i64) 3 v6 (([] : List Int) ++ x4.Ints), pt g2 36 ([(.int .i64 0), (.slice none 0 0), (.slice none 0 0)]), pt g1 36 ([(.int .i64 x4.Kind), v1, v2])] := hR
        refine ⟨⟨knw rfl rfl rfl (p_ldb_one (i := 2) hS rfl rfl ia_34 rfl), ⟨knw rfl rfl rfl (p_fldb (o' := 2) rfl fi_36_2 rfl), ⟨knw rfl rfl rfl (p_fldb (o' := 1) rfl fi_36_1 rfl), ⟨knw rfl rfl rfl (p_ldb_one (i := 2) hS rfl rfl ia_3 rfl), ⟨knw rfl rfl rfl (p_fldb (o' := 0) rfl fi_36_0 rfl), trivial⟩⟩⟩⟩⟩, ?_⟩
        refine pkE [8, 7, 3, 1, 0] rfl (by decide) (by kernel_rfl) (by kernel_rfl) (e_bslice (kd := (Kd.int .i64)) (et := 3) (ps := []) (vs := []) (cs := []) (xs := ([] : List Int)) hS rfl (by intro w; kernel_rfl) rfl (by decide) (Nat.le_of_ble_eq_true rfl) (by exact (Rows.nil _ _ _ _))) ?_
        intro v7 w hR
        have hS : St e s0 w [Ow (Kd.int .i64) 3 v7 ([] : List Int), Ow (Kd.int .i64) 3 v6 (([] : List Int) ++ x4.Ints), pt g2 36 ([(.int .i64 0), (.slice none 0 0), (.slice none 0 0)]), pt g1 36 ([(.int .i64 x4.Kind), v1, v2])] := hR
        refine ⟨⟨knw rfl rfl rfl (p_ldb_one (i := 3) hS rfl rfl ia_34 rfl), ⟨knw rfl rfl rfl (p_fldb (o' := 2) rfl fi_36_2 rfl), ⟨knw rfl rfl rfl (p_fldb (o' := 1) rfl fi_36_1 rfl), ⟨knw rfl rfl rfl (p_ldb_one (i := 3) hS rfl rfl ia_3 rfl), ⟨knw rfl rfl rfl (p_fldb (o' := 0) rfl fi_36_0 rfl), trivial⟩⟩⟩⟩⟩, ?_⟩
        obtain ⟨hq2, H⟩ := hck H
        refine pkE [7, 3, 1, 0] rfl (by decide) (by kernel_rfl) (by kernel_rfl) (e_append (n := 0) hS rfl rfl rfl (h2.src hS) un_34 ti_3 rfl (by decide) (by decide) (Nat.le_trans (Nat.mul_le_mul_right 8 hq2) (by decide))) ?_
        intro v8 w hR
        have hS : St e s0 w [Ow (Kd.int .i64) 3 v8 (([] : List Int) ++ x4.Refs), Ow (Kd.int .i64) 3 v6 (([] : List Int) ++ x4.Ints), pt g2 36 ([(.int .i64 0), (.slice none 0 0), (.slice none 0 0)]), pt g1 36 ([(.int .i64 x4.Kind), v1, v2])] := hR
        refine ⟨⟨knw rfl rfl rfl (p_fldb (o' := 2) rfl fi_36_2 rfl), ⟨knw rfl rfl rfl (p_fldb (o' := 1) rfl fi_36_1 rfl), ⟨knw rfl rfl rfl (p_ldb_one (i := 3) hS rfl rfl ia_3 rfl), ⟨knw rfl rfl rfl (p_fldb (o' := 0) rfl fi_36_0 rfl), trivial⟩⟩⟩⟩, ?_⟩
        refine pk1 rfl (by decide) rfl (by kernel_rfl) rfl (p_build (ps := [(0, (.tmp 4)), (1, (.tmp 8)), (2, (.tmp 12))]) (vs := [(0, (.int .i64 x4.Kind)), (1, v6), (2, v8)]) (v := (.agg #[(.int .i64 x4.Kind), v6, v8])) rfl (by intro w; obtain ⟨_, _, _, e1⟩ := hS.el (i := 1) rfl; rw [e1]; obtain ⟨_, _, _, e2⟩ := hS.el (i := 0) rfl; rw [e2]; kernel_rfl)) ?_
        refine pkE0 [] rfl (by kernel_rfl) (by kernel_rfl) (e_stb (i := 2) (l := []) (m := [(.int .i64 0), (.slice none 0 0), (.slice none 0 0)]) (r := []) (m' := [(.int .i64 x4.Kind), v6, v8]) (cs' := [(.int .i64 x4.Kind), v6, v8]) hS rfl rfl rfl ti_36 rfl rfl rfl rfl rfl (one_cons rfl (one_cons (hS.one_ow (i := 1) rfl) (one_cons (hS.one_ow (i := 0) rfl) one_nil))) rfl) ?_
        intro v w hR
        have hS : St e s0 w [pt g2 36 ([(.int .i64 x4.Kind), v6, v8]), Ow (Kd.int .i64) 3 v8 (([] : List Int) ++ x4.Refs), Ow (Kd.int .i64) 3 v6 (([] : List Int) ++ x4.Ints), pt g1 36 ([(.int .i64 x4.Kind), v1, v2])] := hR
        refine ⟨trivial, ?_⟩
        refine pkF (fun a hF => ?_)
        refine xn ?_
        obtain rfl := hsm H
        replace hS := hS.sel (is := [0, 1, 0, 0]) (A' := [pt g2 36 ([(.int .i64 x4.Kind), v6, v8]), Ow (Kd.int .i64) 3 v6 (([] : List Int) ++ x4.Ints), Ow (Kd.int .i64) 3 v8 (([] : List Int) ++ x4.Refs), pt g1 36 ([(.int .i64 x4.Kind), v1, v2])]) rfl
        exact ⟨x4.Kind, (([] : List Int) ++ x4.Ints), (([] : List Int) ++ x4.Refs), v6, v8, hS, hF.cut ⟨rfl, trivial⟩, HK1⟩
      · skip
        refine altE [8, 7, 4, 3, 1, 0] [5, 9, 10, 11] rfl rfl rfl (by decide) (by kernel_rfl) (e_bslice (kd := (Kd.int .i64)) (et := 3) (ps := []) (vs := []) (cs := []) (xs := ([] : List Int)) hS rfl (by intro w; kernel_rfl) rfl (by decide) (Nat.le_of_ble_eq_true rfl) (by exact (Rows.nil _ _ _ _))) ?_
        intro v9 w hR
        have hS : St e s0 w [Ow (Kd.int .i64) 3 v9 ([] : List Int), Ow (Kd.int .i64) 3 v5 ([] : List Int), pt g2 36 ([(.int .i64 0), (.slice none 0 0), (.slice none 0 0)]), pt g1 36 ([(.int .i64 x4.Kind), v1, v2])] := hR
        refine ⟨⟨knw rfl rfl rfl (p_ldb_one (i := 3) hS rfl rfl ia_34 rfl), ⟨knw rfl rfl rfl (p_fldb (o' := 2) rfl fi_36_2 rfl), ⟨knw rfl rfl rfl (p_ldb_one (i := 3) hS rfl rfl ia_34 rfl), ⟨knw rfl rfl rfl (p_fldb (o' := 1) rfl fi_36_1 rfl), ⟨knw rfl rfl rfl (p_ldb_one (i := 3) hS rfl rfl ia_3 rfl), ⟨knw rfl rfl rfl (p_fldb (o' := 0) rfl fi_36_0 rfl), trivial⟩⟩⟩⟩⟩⟩, ?_⟩
        obtain ⟨hq3, H⟩ := hck H
        refine pkE [8, 7, 3, 1, 0] rfl (by decide) (by kernel_rfl) (by kernel_rfl) (e_append (n := 1) hS rfl rfl rfl (h1.src hS) un_34 ti_3 rfl (by decide) (by decide) (Nat.le_trans (Nat.mul_le_mul_right 8 hq3) (by decide))) ?_
        intro v10 w hR
        have hS : St e s0 w [Ow (Kd.int .i64) 3 v10 (([] : List Int) ++ x4.Ints), Ow (Kd.int .i64) 3 v9 ([] : List Int), pt g2 36 ([(.int .i64 0), (.slice none 0 0), (.slice none 0 0)]), pt g1 36 ([(.int .i64 x4.Kind), v1, v2])] := hR
        refine ⟨⟨knw rfl rfl rfl (p_ldb_one (i := 3) hS rfl rfl ia_34 rfl), ⟨knw rfl rfl rfl (p_fldb (o' := 2) rfl fi_36_2 rfl), ⟨knw rfl rfl rfl (p_fldb (o' := 1) rfl fi_36_1 rfl), ⟨knw rfl rfl rfl (p_ldb_one (i := 3) hS rfl rfl ia_3 rfl), ⟨knw rfl rfl rfl (p_fldb (o' := 0) rfl fi_36_0 rfl), trivial⟩⟩⟩⟩⟩, ?_⟩
        obtain ⟨hq4, H⟩ := hck H
        refine pkE [7, 3, 1, 0] rfl (by decide) (by kernel_rfl) (by kernel_rfl) (e_append (n := 1) hS rfl rfl rfl (h2.src hS) un_34 ti_3 rfl (by decide) (by decide) (Nat.le_trans (Nat.mul_le_mul_right 8 hq4) (by decide))) ?_
        intro v11 w hR
        have hS : St e s0 w [Ow (Kd.int .i64) 3 v11 (([] : List Int) ++ x4.Refs), Ow (Kd.int .i64) 3 v10 (([] : List Int) ++ x4.Ints), pt g2 36 ([(.int .i64 0), (.slice none 0 0), (.slice none 0 0)]), pt g1 36 ([(.int .i64 x4.Kind), v1, v2])] := hR
        refine ⟨⟨knw rfl rfl rfl (p_fldb (o' := 2) rfl fi_36_2 rfl), ⟨knw rfl rfl rfl (p_fldb (o' := 1) rfl fi_36_1 rfl), ⟨knw rfl rfl rfl (p_ldb_one (i := 3) hS rfl rfl ia_3 rfl), ⟨knw rfl rfl rfl (p_fldb (o' := 0) rfl fi_36_0 rfl), trivial⟩⟩⟩⟩, ?_⟩
        refine pk1 rfl (by decide) rfl (by kernel_rfl) rfl (p_build (ps := [(0, (.tmp 4)), (1, (.tmp 8)), (2, (.tmp 12))]) (vs := [(0, (.int .i64 x4.Kind)), (1, v10), (2, v11)]) (v := (.agg #[(.int .i64 x4.Kind), v10, v11])) rfl (by intro w; obtain ⟨_, _, _, e3⟩ := hS.el (i := 1) rfl; rw [e3]; obtain ⟨_, _, _, e4⟩ := hS.el (i := 0) rfl; rw [e4]; kernel_rfl)) ?_
        refine pkE0 [] rfl (by kernel_rfl) (by kernel_rfl) (e_stb (i := 2) (l := []) (m := [(.int .i64 0), (.slice none 0 0), (.slice none 0 0)]) (r := []) (m' := [(.int .i64 x4.Kind), v10, v11]) (cs' := [(.int .i64 x4.Kind), v10, v11]) hS rfl rfl rfl ti_36 rfl rfl rfl rfl rfl (one_cons rfl (one_cons (hS.one_ow (i := 1) rfl) (one_cons (hS.one_ow (i := 0) rfl) one_nil))) rfl) ?_
        intro v w hR
        have hS : St e s0 w [pt g2 36 ([(.int .i64 x4.Kind), v10, v11]), Ow (Kd.int .i64) 3 v11 (([] : List Int) ++ x4.Refs), Ow (Kd.int .i64) 3 v10 (([] : List Int) ++ x4.Ints), pt g1 36 ([(.int .i64 x4.Kind), v1, v2])] := hR
        refine ⟨trivial, ?_⟩
        refine pkF (fun a hF => ?_)
        refine xn ?_
        obtain rfl := hsm H
        replace hS := hS.sel (is := [0, 1, 0, 0]) (A' := [pt g2 36 ([(.int .i64 x4.Kind), v10, v11]), Ow (Kd.int .i64) 3 v10 (([] : List Int) ++ x4.Ints), Ow (Kd.int .i64) 3 v11 (([] : List Int) ++ x4.Refs), pt g1 36 ([(.int .i64 x4.Kind), v1, v2])]) rfl
        exact ⟨x4.Kind, (([] : List Int) ++ x4.Ints), (([] : List Int) ++ x4.Refs), v10, v11, hS, hF.cut ⟨rfl, trivial⟩, HK1⟩
    · skip
      refine altE [8, 7, 4, 3, 1, 0] [2, 5, 9, 10, 11] rfl rfl rfl (by decide) (by kernel_rfl) (e_bslice (kd := (Kd.int .i64)) (et := 3) (ps := []) (vs := []) (cs := []) (xs := ([] : List Int)) hS rfl (by intro w; kernel_rfl) rfl (by decide) (Nat.le_of_ble_eq_true rfl) (by exact (Rows.nil _ _ _ _))) ?_
      intro v12 w hR
      have hS : St e s0 w [Ow (Kd.int .i64) 3 v12 ([] : List Int), pt g2 36 ([(.int .i64 0), (.slice none 0 0), (.slice none 0 0)]), pt g1 36 ([(.int .i64 x4.Kind), v1, v2])] := hR
      refine ⟨⟨knw rfl rfl rfl (p_ldb_one (i := 2) hS rfl rfl ia_34 rfl), ⟨knw rfl rfl rfl (p_fldb (o' := 2) rfl fi_36_2 rfl), ⟨knw rfl rfl rfl (p_ldb_one (i := 2) hS rfl rfl ia_34 rfl), ⟨knw rfl rfl rfl (p_fldb (o' := 1) rfl fi_36_1 rfl), ⟨knw rfl rfl rfl (p_ldb_one (i := 2) hS rfl rfl ia_3 rfl), ⟨knw rfl rfl rfl (p_fldb (o' := 0) rfl fi_36_0 rfl), trivial⟩⟩⟩⟩⟩⟩, ?_⟩
      refine pkE [8, 7, 4, 3, 1, 0] rfl (by decide) (by kernel_rfl) (by kernel_rfl) (e_bslice (kd := (Kd.int .i64)) (et := 3) (ps := []) (vs := []) (cs := []) (xs := ([] : List Int)) hS rfl (by intro w; kernel_rfl) rfl (by decide) (Nat.le_of_ble_eq_true rfl) (by exact (Rows.nil _ _ _ _))) ?_
      intro v13 w hR
      have hS : St e s0 w [Ow (Kd.int .i64) 3 v13 ([] : List Int), Ow (Kd.int .i64) 3 v12 ([] : List Int), pt g2 36 ([(.int .i64 0), (.slice none 0 0), (.slice none 0 0)]), pt g1 36 ([(.int .i64 x4.Kind), v1, v2])] := hR
      refine ⟨⟨knw rfl rfl rfl (p_ldb_one (i := 3) hS rfl rfl ia_34 rfl), ⟨knw rfl rfl rfl (p_fldb (o' := 2) rfl fi_36_2 rfl), ⟨knw rfl rfl rfl (p_ldb_one (i := 3) hS rfl rfl ia_34 rfl), ⟨knw rfl rfl rfl (p_fldb (o' := 1) rfl fi_36_1 rfl), ⟨knw rfl rfl rfl (p_ldb_one (i := 3) hS rfl rfl ia_3 rfl), ⟨knw rfl rfl rfl (p_fldb (o' := 0) rfl fi_36_0 rfl), trivial⟩⟩⟩⟩⟩⟩, ?_⟩
      obtain ⟨hq5, H⟩ := hck H
      refine pkE [8, 7, 3, 1, 0] rfl (by decide) (by kernel_rfl) (by kernel_rfl) (e_append (n := 0) hS rfl rfl rfl (h1.src hS) un_34 ti_3 rfl (by decide) (by decide) (Nat.le_trans (Nat.mul_le_mul_right 8 hq5) (by decide))) ?_
      intro v14 w hR
      have hS : St e s0 w [Ow (Kd.int .i64) 3 v14 (([] : List Int) ++ x4.Ints), Ow (Kd.int .i64) 3 v12 ([] : List Int), pt g2 36 ([(.int .i64 0), (.slice none 0 0), (.slice none 0 0)]), pt g1 36 ([(.int .i64 x4.Kind), v1, v2])] := hR
      refine ⟨⟨knw rfl rfl rfl (p_ldb_one (i := 3) hS rfl rfl ia_34 rfl), ⟨knw rfl rfl rfl (p_fldb (o' := 2) rfl fi_36_2 rfl), ⟨knw rfl rfl rfl (p_fldb (o' := 1) rfl fi_36_1 rfl), ⟨knw rfl rfl rfl (p_ldb_one (i := 3) hS rfl rfl ia_3 rfl), ⟨knw rfl rfl rfl (p_fldb (o' := 0) rfl fi_36_0 rfl), trivial⟩⟩⟩⟩⟩, ?_⟩
      obtain ⟨hq6, H⟩ := hck H
      refine pkE [7, 3, 1, 0] rfl (by decide) (by kernel_rfl) (by kernel_rfl) (e_append (n := 1) hS rfl rfl rfl (h2.src hS) un_34 ti_3 rfl (by decide) (by decide) (Nat.le_trans (Nat.mul_le_mul_right 8 hq6) (by decide))) ?_
      intro v15 w hR
      have hS : St e s0 w [Ow (Kd.int .i64) 3 v15 (([] : List Int) ++ x4.Refs), Ow (Kd.int .i64) 3 v14 (([] : List Int) ++ x4.Ints), pt g2 36 ([(.int .i64 0), (.slice none 0 0), (.slice none 0 0)]), pt g1 36 ([(.int .i64 x4.Kind), v1, v2])] := hR
      refine ⟨⟨knw rfl rfl rfl (p_fldb (o' := 2) rfl fi_36_2 rfl), ⟨knw rfl rfl rfl (p_fldb (o' := 1) rfl fi_36_1 rfl), ⟨knw rfl rfl rfl (p_ldb_one (i := 3) hS rfl rfl ia_3 rfl), ⟨knw rfl rfl rfl (p_fldb (o' := 0) rfl fi_36_0 rfl), trivial⟩⟩⟩⟩, ?_⟩
      refine pk1 rfl (by decide) rfl (by kernel_rfl) rfl (p_build (ps := [(0, (.tmp 4)), (1, (.tmp 8)), (2, (.tmp 12))]) (vs := [(0, (.int .i64 x4.Kind)), (1, v14), (2, v15)]) (v := (.agg #[(.int .i64 x4.Kind), v14, v15])) rfl (by intro w; obtain ⟨_, _, _, e5⟩ := hS.el (i := 1) rfl; rw [e5]; obtain ⟨_, _, _, e6⟩ := hS.el (i := 0) rfl; rw [e6]; kernel_rfl)) ?_
      refine pkE0 [] rfl (by kernel_rfl) (by kernel_rfl) (e_stb (i := 2) (l := []) (m := [(.int .i64 0), (.slice none 0 0), (.slice none 0 0)]) (r := []) (m' := [(.int .i64 x4.Kind), v14, v15]) (cs' := [(.int .i64 x4.Kind), v14, v15]) hS rfl rfl rfl ti_36 rfl rfl rfl rfl rfl (one_cons rfl (one_cons (hS.one_ow (i := 1) rfl) (one_cons (hS.one_ow (i := 0) rfl) one_nil))) rfl) ?_
      intro v w hR
      have hS : St e s0 w [pt g2 36 ([(.int .i64 x4.Kind), v14, v15]), Ow (Kd.int .i64) 3 v15 (([] : List Int) ++ x4.Refs), Ow (Kd.int .i64) 3 v14 (([] : List Int) ++ x4.Ints), pt g1 36 ([(.int .i64 x4.Kind), v1, v2])] := hR
      refine ⟨trivial, ?_⟩
      refine pkF (fun a hF => ?_)
      refine xn ?_
      obtain rfl := hsm H
      replace hS := hS.sel (is := [0, 1, 0, 0]) (A' := [pt g2 36 ([(.int .i64 x4.Kind), v14, v15]), Ow (Kd.int .i64) 3 v14 (([] : List Int) ++ x4.Ints), Ow (Kd.int .i64) 3 v15 (([] : List Int) ++ x4.Refs), pt g1 36 ([(.int .i64 x4.Kind), v1, v2])]) rfl
      exact ⟨x4.Kind, (([] : List Int) ++ x4.Ints), (([] : List Int) ++ x4.Refs), v14, v15, hS, hF.cut ⟨rfl, trivial⟩, HK1⟩
  · clear H HK1 hS hF
    rintro a w ⟨x1, x2, x3, v3, v4, hS, hF, H⟩
    unfold spec_l2Copy.c1 at H
    refine rt ?_
    obtain rfl := hsm H
    have h3 : RvOk Try.prog _ w (.cell 2 36) _ := rvC (i := 0) hS rfl (show lk [(2, (.pointer (some ⟨g2, 0, none⟩)))] 2 = _ from rfl) ia_36 ti_36 rfl
    replace hS := hS.sel (is := [1, 1]) (A' := [Ow (Kd.int .i64) 3 v3 x2, Ow (Kd.int .i64) 3 v4 x3]) rfl
    exact retc1 hF rfl h3 hS ⟨v3, v4, rfl, rfl⟩

def spec_l2Bend.c1 (k : Nat) (x1 : Int) (x2 : (List Int)) (x3 : (List Int)) (x4 : (List Int)) (x5 : Int) (x6 : Int) : Option (TObj × (List Int) × Int × Int) :=
  (some ((⟨x1, x2, x3⟩ : TObj), x4, x5, x6))
def spec_l2Bend.f (k : Nat) (x7 : (List Int)) (x8 : Int) (x9 : Int) (x10 : TObj) : Option (TObj × (List Int) × Int × Int) :=
  ((spec_l2Copy.f k x10).bind fun x11 => ((((spec_l1Below.f k x7 x8 x9 5).bind fun x12 => (if (decide (x12.1 = 0)) = true then ((spec_l1Int.f k x12.2.1 x12.2.2.1 x12.2.2.2 ([0, 99, 100, (-1)] : List Int)).bind fun x13 => (some (x13.1, x11.Ints, x11.Refs, x13.2.1, x13.2.2.1, x13.2.2.2))) else (if (decide (x12.1 = 1)) = true then ((spec_l1Int.f k x12.2.1 x12.2.2.1 x12.2.2.2 ([1000001, (-1000001), 5] : List Int)).bind fun x14 => (if x11.Ints.length + 1 ≤ 17592186044416 then (some (x11.Kind, (x11.Ints ++ ([x14.1] : List Int)), x11.Refs, x14.2.1, x14.2.2.1, x14.2.2.2)) else none)) else (if (decide (x12.1 = 2)) = true then ((spec_l1Int.f k x12.2.1 x12.2.2.1 x12.2.2.2 ([32, (-1), 5] : List Int)).bind fun x15 => (if x11.Refs.length + 1 ≤ 17592186044416 then (some (x11.Kind, x11.Ints, (x11.Refs ++ ([x15.1] : List Int)), x15.2.1, x15.2.2.1, x15.2.2.2)) else none)) else (if (decide (x12.1 = 3)) = true then ((spec_l1Below.f k x12.2.1 x12.2.2.1 x12.2.2.2 2).bind fun x16 => (if 0 ≤ (w64 (5 + x16.1)) ∧ (w64 (5 + x16.1)) * 8 ≤ 140737488355328 then (some (x11.Kind, (List.replicate (w64 (5 + x16.1)).toNat 0), x11.Refs, x16.2.1, x16.2.2.1, x16.2.2.2)) else none)) else (some (x11.Kind, x11.Ints, x11.Refs, x12.2.1, x12.2.2.1, x12.2.2.2))))))) : Option (Int × (List Int) × (List Int) × (List Int) × Int × Int)).bind fun x17 => spec_l2Bend.c1 k x17.1 x17.2.1 x17.2.2.1 x17.2.2.2.1 x17.2.2.2.2.1 x17.2.2.2.2.2))
set_option maxRecDepth 100000 in
set_option maxHeartbeats 4000000 in
theorem spec_l2Bend.spec (k : Nat) (s0 : HF) (w : World) (x7 : (List Int)) (x8 : Int) (x9 : Int) (x10 : TObj) (v1 : Value) (g1 : Nat) (v2 : Value) (v3 : Value) (h1 : Sl (Kd.int .u8) s0 v1 x7) (h2 : Sl (Kd.int .i64) s0 v2 x10.Ints) (h3 : Sl (Kd.int .i64) s0 v3 x10.Refs) (r : TObj × (List Int) × Int × Int) (H : spec_l2Bend.f k x7 x8 x9 x10 = some r) :
    Law Try.prog 146 #[(.pointer (some ⟨g1, 0, none⟩)), (.agg #[(.int .i64 x10.Kind), v2, v3])] s0 w [pt g1 139 ([v1, (.int .i64 x8), (.int .i64 x9)])] (fun v s1 A1 => ∃ (u0 : Value) (u1 : Value) (u2 : Value), v = (.agg #[(.int .i64 r.1.Kind), u1, u2]) ∧ A1 = [pt g1 139 ([u0, (.int .i64 r.2.2.1), (.int .i64 r.2.2.2)]), Ow (Kd.int .i64) 3 u1 r.1.Ints, Ow (Kd.int .i64) 3 u2 r.1.Refs] ∧ Sl (Kd.int .u8) s1 u0 r.2.1) := by
  unfold spec_l2Bend.f at H
  refine Law.intro Try.func146 rfl [(0, (.pointer (some ⟨g1, 0, none⟩))), (1, (.agg #[(.int .i64 x10.Kind), v2, v3]))] (Nat.le_of_ble_eq_true rfl) (enter_lk ⟨rfl, rfl, trivial⟩) (fun e a hS hF => ?_)
  have hF : Fr 43 a [(0, (.pointer (some ⟨g1, 0, none⟩))), (1, (.agg #[(.int .i64 x10.Kind), v2, v3]))] := hF
  refine sq ?_
  refine rg ?_
  refine ste hF (e_box (cs := [(.int .i64 x10.Kind), v2, v3]) hS rfl rfl) (by decide) (fun v w a hR hF => ?_)
  obtain ⟨g2, rfl, hS⟩ := hR
  refine ste hF (e_alloc (cs := [(.int .i64 0), (.slice none 0 0), (.slice none 0 0)]) hS ti_36 rfl) (by decide) (fun v w a hR hF => ?_)
  obtain ⟨g3, rfl, hS⟩ := hR
  refine nilN ?_
  refine xn ?_
  refine sq ?_
  refine rg ?_
  refine stp hF (p_ldb_agg (i := 1) (l := []) (m := [(.int .i64 x10.Kind), v2, v3]) (r := []) hS rfl rfl ia_36 ti_36 rfl rfl rfl) (by decide) (fun a hF => ?_)
  obtain ⟨x11, hx1, H⟩ := hb H
  refine ste hF (e_callA (fst := []) (vs := [(.agg #[(.int .i64 x10.Kind), v2, v3])]) (cap := []) rfl rfl go_151 (St.call (A := []) (B := [pt g3 36 ([(.int .i64 0), (.slice none 0 0), (.slice none 0 0)]), pt g2 36 ([(.int .i64 x10.Kind), v2, v3]), pt g1 139 ([v1, (.int .i64 x8), (.int .i64 x9)])]) hS (spec_l2Copy.spec k _ _ x10 v2 v3 h2 h3 _ hx1)) rfl) (by decide) (fun v w a hR hF => ?_)
  obtain ⟨s2, A2, hg1, hS, hR⟩ := hR
  obtain ⟨v4, v5, hv1, rfl⟩ := hR; obtain rfl := hv1.symm
  have hS : St e s2 w [Ow (Kd.int .i64) 3 v4 x11.Ints, Ow (Kd.int .i64) 3 v5 x11.Refs, pt g3 36 ([(.int .i64 0), (.slice none 0 0), (.slice none 0 0)]), pt g2 36 ([(.int .i64 x10.Kind), v2, v3]), pt g1 139 ([v1, (.int .i64 x8), (.int .i64 x9)])] := hS
  refine ste0 hF (e_stb (i := 3) (l := []) (m := [(.int .i64 x10.Kind), v2, v3]) (r := []) (m' := [(.int .i64 x11.Kind), v4, v5]) (cs' := [(.int .i64 x11.Kind), v4, v5]) hS rfl rfl rfl ti_36 rfl rfl rfl rfl rfl (one_cons rfl (one_cons (hS.one_ow (i := 0) rfl) (one_cons (hS.one_ow (i := 1) rfl) one_nil))) rfl) (fun v w a hR hF => ?_)
  have hS : St e s2 w [pt g2 36 ([(.int .i64 x11.Kind), v4, v5]), Ow (Kd.int .i64) 3 v4 x11.Ints, Ow (Kd.int .i64) 3 v5 x11.Refs, pt g3 36 ([(.int .i64 0), (.slice none 0 0), (.slice none 0 0)]), pt g1 139 ([v1, (.int .i64 x8), (.int .i64 x9)])] := hR
  refine nilN ?_
  refine xn ?_
  obtain ⟨x17, H, HK1⟩ := hb H
  refine sqj (fun a w => ∃ (x1 : Int) (x2 : (List Int)) (x3 : (List Int)) (x4 : (List Int)) (x5 : Int) (x6 : Int) (s3 : HF) (v6 : Value) (v7 : Value) (v8 : Value) , St e s3 w [pt g2 36 ([(.int .i64 x1), v6, v7]), Ow (Kd.int .i64) 3 v6 x2, Ow (Kd.int .i64) 3 v7 x3, pt g3 36 ([(.int .i64 0), (.slice none 0 0), (.slice none 0 0)]), pt g1 139 ([v8, (.int .i64 x5), (.int .i64 x6)])] ∧ Fr 43 a [(3, (.pointer (some ⟨g2, 0, none⟩))), (4, (.pointer (some ⟨g3, 0, none⟩)))] ∧ Sub s2 s3 ∧ Sl (Kd.int .u8) s3 v8 x4 ∧ spec_l2Bend.c1 k x1 x2 x3 x4 x5 x6 = some r) ?_ ?_
  · skip
    refine sq ?_
    refine rg ?_
    refine stp hF (p_move rfl) (by decide) (fun a hF => ?_)
    replace hS := hS.sel (is := [4, 0, 0, 0, 0]) (A' := [pt g1 139 ([v1, (.int .i64 x8), (.int .i64 x9)]), pt g2 36 ([(.int .i64 x11.Kind), v4, v5]), Ow (Kd.int .i64) 3 v4 x11.Ints, Ow (Kd.int .i64) 3 v5 x11.Refs, pt g3 36 ([(.int .i64 0), (.slice none 0 0), (.slice none 0 0)])]) rfl
    obtain ⟨x12, hx2, H⟩ := hb H
    refine ste hF (e_callA (fst := []) (vs := [(.pointer (some ⟨g1, 0, none⟩)), (.int .i64 5)]) (cap := []) rfl rfl go_145 (St.call (A := [pt g1 139 ([v1, (.int .i64 x8), (.int .i64 x9)])]) (B := [pt g2 36 ([(.int .i64 x11.Kind), v4, v5]), Ow (Kd.int .i64) 3 v4 x11.Ints, Ow (Kd.int .i64) 3 v5 x11.Refs, pt g3 36 ([(.int .i64 0), (.slice none 0 0), (.slice none 0 0)])]) hS (spec_l1Below.spec k _ _ x7 x8 x9 5 v1 g1 (h1.mono hg1) _ hx2)) rfl) (by decide) (fun v w a hR hF => ?_)
    obtain ⟨s4, A3, hg2, hS, hR⟩ := hR
    obtain ⟨v9, hv2, rfl, h4⟩ := hR; obtain rfl := hv2.symm
    have hS : St e s4 w [pt g1 139 ([v9, (.int .i64 x12.2.2.1), (.int .i64 x12.2.2.2)]), pt g2 36 ([(.int .i64 x11.Kind), v4, v5]), Ow (Kd.int .i64) 3 v4 x11.Ints, Ow (Kd.int .i64) 3 v5 x11.Refs, pt g3 36 ([(.int .i64 0), (.slice none 0 0), (.slice none 0 0)])] := hS
    refine nilN ?_
    refine xn ?_
    refine blk ?_
    refine sq ?_
    refine rg ?_
    refine stp hF (p_eql rfl rfl) (by decide) (fun a hF => ?_)
    refine stp hF (p_assign rfl) (by decide) (fun a hF => ?_)
    refine nilN ?_
    refine xn ?_
    refine cnd hF rfl (fun hc1 => ?_) (fun hc1 => ?_)
    · replace H := hbt hc1 H
      refine rg ?_
      refine stp hF (p_move rfl) (by decide) (fun a hF => ?_)
      refine ste hF (e_bslice (kd := (Kd.int .i64)) (et := 3) (ps := [(0, (.const (.int .i64 0))), (1, (.const (.int .i64 99))), (2, (.const (.int .i64 100))), (3, (.const (.int .i64 (-1))))]) (vs := [(0, (.int .i64 0)), (1, (.int .i64 99)), (2, (.int .i64 100)), (3, (.int .i64 (-1)))]) (cs := [(.int .i64 0), (.int .i64 99), (.int .i64 100), (.int .i64 (-1))]) (xs := ([0, 99, 100, (-1)] : List Int)) hS rfl (by intro w; kernel_rfl) rfl (by decide) (Nat.le_of_ble_eq_true rfl) (by exact (rows_cons (kd := (Kd.int .i64)) (x := 0) (c := [(.int .i64 0)]) (cs := [(.int .i64 99), (.int .i64 100), (.int .i64 (-1))]) rfl (rows_cons (kd := (Kd.int .i64)) (x := 99) (c := [(.int .i64 99)]) (cs := [(.int .i64 100), (.int .i64 (-1))]) rfl (rows_cons (kd := (Kd.int .i64)) (x := 100) (c := [(.int .i64 100)]) (cs := [(.int .i64 (-1))]) rfl (rows_cons (kd := (Kd.int .i64)) (x := (-1)) (c := [(.int .i64 (-1))]) (cs := []) rfl (Rows.nil _ _ _ _))))))) (by decide) (fun v10 w a hR hF => ?_)
      have hS : St e s4 w [Ow (Kd.int .i64) 3 v10 ([0, 99, 100, (-1)] : List Int), pt g1 139 ([v9, (.int .i64 x12.2.2.1), (.int .i64 x12.2.2.2)]), pt g2 36 ([(.int .i64 x11.Kind), v4, v5]), Ow (Kd.int .i64) 3 v4 x11.Ints, Ow (Kd.int .i64) 3 v5 x11.Refs, pt g3 36 ([(.int .i64 0), (.slice none 0 0), (.slice none 0 0)])] := hR
      obtain ⟨s5, hg3, h5, hS⟩ := hS.freeze (i := 0) (kd := (Kd.int .i64)) (et := 3) (v := v10) (xs := ([0, 99, 100, (-1)] : List Int)) (B := [pt g1 139 ([v9, (.int .i64 x12.2.2.1), (.int .i64 x12.2.2.2)]), pt g2 36 ([(.int .i64 x11.Kind), v4, v5]), Ow (Kd.int .i64) 3 v4 x11.Ints, Ow (Kd.int .i64) 3 v5 x11.Refs, pt g3 36 ([(.int .i64 0), (.slice none 0 0), (.slice none 0 0)])]) rfl
      obtain ⟨x13, hx3, H⟩ := hb H
      refine ste hF (e_callA (fst := []) (vs := [(.pointer (some ⟨g1, 0, none⟩)), v10]) (cap := []) rfl rfl go_92 (St.call (A := [pt g1 139 ([v9, (.int .i64 x12.2.2.1), (.int .i64 x12.2.2.2)])]) (B := [pt g2 36 ([(.int .i64 x11.Kind), v4, v5]), Ow (Kd.int .i64) 3 v4 x11.Ints, Ow (Kd.int .i64) 3 v5 x11.Refs, pt g3 36 ([(.int .i64 0), (.slice none 0 0), (.slice none 0 0)])]) hS (spec_l1Int.spec k _ _ x12.2.1 x12.2.2.1 x12.2.2.2 ([0, 99, 100, (-1)] : List Int) v9 g1 v10 (h4.mono hg3) h5 _ hx3)) rfl) (by decide) (fun v w a hR hF => ?_)
      obtain ⟨s6, A4, hg4, hS, hR⟩ := hR
      obtain ⟨v11, hv3, rfl, h6⟩ := hR; obtain rfl := hv3.symm
      have hS : St e s6 w [pt g1 139 ([v11, (.int .i64 x13.2.2.1), (.int .i64 x13.2.2.2)]), pt g2 36 ([(.int .i64 x11.Kind), v4, v5]), Ow (Kd.int .i64) 3 v4 x11.Ints, Ow (Kd.int .i64) 3 v5 x11.Refs, pt g3 36 ([(.int .i64 0), (.slice none 0 0), (.slice none 0 0)])] := hS
      refine stp hF (p_fldb (o' := 0) rfl fi_36_0 rfl) (by decide) (fun a hF => ?_)
      refine ste0 hF (e_stb (i := 1) (l := []) (m := [(.int .i64 x11.Kind)]) (r := [v4, v5]) (m' := [(.int .i64 x13.1)]) (cs' := [(.int .i64 x13.1), v4, v5]) hS rfl rfl rfl ti_3 rfl rfl rfl rfl rfl (one_cons rfl one_nil) rfl) (fun v w a hR hF => ?_)
      have hS : St e s6 w [pt g2 36 ([(.int .i64 x13.1), v4, v5]), pt g1 139 ([v11, (.int .i64 x13.2.2.1), (.int .i64 x13.2.2.2)]), Ow (Kd.int .i64) 3 v4 x11.Ints, Ow (Kd.int .i64) 3 v5 x11.Refs, pt g3 36 ([(.int .i64 0), (.slice none 0 0), (.slice none 0 0)])] := hR
      refine nilN ?_
      refine bn (xn ?_)
      obtain rfl := hsm H
      replace hS := hS.sel (is := [0, 1, 1, 1, 0]) (A' := [pt g2 36 ([(.int .i64 x13.1), v4, v5]), Ow (Kd.int .i64) 3 v4 x11.Ints, Ow (Kd.int .i64) 3 v5 x11.Refs, pt g3 36 ([(.int .i64 0), (.slice none 0 0), (.slice none 0 0)]), pt g1 139 ([v11, (.int .i64 x13.2.2.1), (.int .i64 x13.2.2.2)])]) rfl
      exact ⟨x13.1, x11.Ints, x11.Refs, x13.2.1, x13.2.2.1, x13.2.2.2, s6, v4, v5, v11, hS, hF.cut ⟨rfl, rfl, trivial⟩, ((hg2.trans hg3).trans hg4), h6, HK1⟩
    · replace H := hbf hc1 H
      refine sq ?_
      refine rg ?_
      refine stp hF (p_eql rfl rfl) (by decide) (fun a hF => ?_)
      refine stp hF (p_assign rfl) (by decide) (fun a hF => ?_)
      refine nilN ?_
      refine xn ?_
      refine cnd hF rfl (fun hc2 => ?_) (fun hc2 => ?_)
      · replace H := hbt hc2 H
        replace hS : St e s4 w.drew [pt g1 139 ([v9, (.int .i64 x12.2.2.1), (.int .i64 x12.2.2.2)]), pt g2 36 ([(.int .i64 x11.Kind), v4, v5]), Ow (Kd.int .i64) 3 v4 x11.Ints, Ow (Kd.int .i64) 3 v5 x11.Refs, pt g3 36 ([(.int .i64 0), (.slice none 0 0), (.slice none 0 0)])] := hS.drewN 1
        refine drw [0, 1, 2, 3, 4, 5, 6, 7, 8] mixed (by kernel_rfl) (by decide) (hF.cut (L' := [(0, (.pointer (some ⟨g1, 0, none⟩))), (1, (.agg #[(.int .i64 x10.Kind), v2, v3])), (3, (.pointer (some ⟨g2, 0, none⟩))), (4, (.pointer (some ⟨g3, 0, none⟩))), (5, (.agg #[(.int .i64 x10.Kind), v2, v3])), (6, (.agg #[(.int .i64 x11.Kind), v4, v5])), (7, (.pointer (some ⟨g1, 0, none⟩))), (8, (.int .i64 x12.1)), (9, (.bool (decide (x12.1 = 0)))), (10, (.bool (decide (x12.1 = 0)))), (15, (.bool (decide (x12.1 = 1)))), (16, (.bool (decide (x12.1 = 1))))]) ⟨rfl, rfl, rfl, rfl, rfl, rfl, rfl, rfl, rfl, rfl, rfl, rfl, trivial⟩) ?_
        clear hF
        generalize w.drew = w at hS ⊢
        refine pk1 rfl (by decide) rfl (by kernel_rfl) rfl (p_fldb (o' := 1) rfl fi_36_1 rfl) ?_
        refine pk1 rfl (by decide) rfl (by kernel_rfl) rfl (p_ldb_one (i := 1) hS rfl rfl ia_34 rfl) ?_
        refine pk1 rfl (by decide) rfl (by kernel_rfl) rfl (p_move rfl) ?_
        refine pkE [2, 1, 0] rfl (by decide) (by kernel_rfl) (by kernel_rfl) (e_bslice (kd := (Kd.int .i64)) (et := 3) (ps := [(0, (.const (.int .i64 1000001))), (1, (.const (.int .i64 (-1000001)))), (2, (.const (.int .i64 5)))]) (vs := [(0, (.int .i64 1000001)), (1, (.int .i64 (-1000001))), (2, (.int .i64 5))]) (cs := [(.int .i64 1000001), (.int .i64 (-1000001)), (.int .i64 5)]) (xs := ([1000001, (-1000001), 5] : List Int)) hS rfl (by intro w; kernel_rfl) rfl (by decide) (Nat.le_of_ble_eq_true rfl) (by exact (rows_cons (kd := (Kd.int .i64)) (x := 1000001) (c := [(.int .i64 1000001)]) (cs := [(.int .i64 (-1000001)), (.int .i64 5)]) rfl (rows_cons (kd := (Kd.int .i64)) (x := (-1000001)) (c := [(.int .i64 (-1000001))]) (cs := [(.int .i64 5)]) rfl (rows_cons (kd := (Kd.int .i64)) (x := 5) (c := [(.int .i64 5)]) (cs := []) rfl (Rows.nil _ _ _ _)))))) ?_
        intro v12 w hR
        have hS : St e s4 w [Ow (Kd.int .i64) 3 v12 ([1000001, (-1000001), 5] : List Int), pt g1 139 ([v9, (.int .i64 x12.2.2.1), (.int .i64 x12.2.2.2)]), pt g2 36 ([(.int .i64 x11.Kind), v4, v5]), Ow (Kd.int .i64) 3 v4 x11.Ints, Ow (Kd.int .i64) 3 v5 x11.Refs, pt g3 36 ([(.int .i64 0), (.slice none 0 0), (.slice none 0 0)])] := hR
        refine ⟨⟨knw rfl rfl rfl (p_move rfl), ⟨knw rfl rfl rfl (p_ldb_one (i := 2) hS rfl rfl ia_34 rfl), ⟨knw rfl rfl rfl (p_fldb (o' := 1) rfl fi_36_1 rfl), trivial⟩⟩⟩, ?_⟩
        obtain ⟨s7, hg5, h7, hS⟩ := hS.freeze (i := 0) (kd := (Kd.int .i64)) (et := 3) (v := v12) (xs := ([1000001, (-1000001), 5] : List Int)) (B := [pt g1 139 ([v9, (.int .i64 x12.2.2.1), (.int .i64 x12.2.2.2)]), pt g2 36 ([(.int .i64 x11.Kind), v4, v5]), Ow (Kd.int .i64) 3 v4 x11.Ints, Ow (Kd.int .i64) 3 v5 x11.Refs, pt g3 36 ([(.int .i64 0), (.slice none 0 0), (.slice none 0 0)])]) rfl
        obtain ⟨x14, hx4, H⟩ := hb H
        refine pkE [1, 0] rfl (by decide) (by kernel_rfl) (by kernel_rfl) (e_callA (fst := []) (vs := [(.pointer (some ⟨g1, 0, none⟩)), v12]) (cap := []) rfl rfl go_92 (St.call (A := [pt g1 139 ([v9, (.int .i64 x12.2.2.1), (.int .i64 x12.2.2.2)])]) (B := [pt g2 36 ([(.int .i64 x11.Kind), v4, v5]), Ow (Kd.int .i64) 3 v4 x11.Ints, Ow (Kd.int .i64) 3 v5 x11.Refs, pt g3 36 ([(.int .i64 0), (.slice none 0 0), (.slice none 0 0)])]) hS (spec_l1Int.spec k _ _ x12.2.1 x12.2.2.1 x12.2.2.2 ([1000001, (-1000001), 5] : List Int) v9 g1 v12 (h4.mono hg5) h7 _ hx4)) rfl) ?_
        intro v w hR
        obtain ⟨s8, A5, hg6, hS, hR⟩ := hR
        obtain ⟨v13, hv4, rfl, h8⟩ := hR; obtain rfl := hv4.symm
        have hS : St e s8 w [pt g1 139 ([v13, (.int .i64 x14.2.2.1), (.int .i64 x14.2.2.2)]), pt g2 36 ([(.int .i64 x11.Kind), v4, v5]), Ow (Kd.int .i64) 3 v4 x11.Ints, Ow (Kd.int .i64) 3 v5 x11.Refs, pt g3 36 ([(.int .i64 0), (.slice none 0 0), (.slice none 0 0)])] := hS
        refine ⟨⟨knw rfl rfl rfl (p_ldb_one (i := 1) hS rfl rfl ia_34 rfl), ⟨knw rfl rfl rfl (p_fldb (o' := 1) rfl fi_36_1 rfl), trivial⟩⟩, ?_⟩
        refine pkE [1, 0] rfl (by decide) (by kernel_rfl) (by kernel_rfl) (e_bslice (kd := (Kd.int .i64)) (et := 3) (ps := [(0, (.tmp 21))]) (vs := [(0, (.int .i64 x14.1))]) (cs := [(.int .i64 x14.1)]) (xs := ([x14.1] : List Int)) hS rfl (by intro w; kernel_rfl) rfl (by decide) (Nat.le_of_ble_eq_true rfl) (by exact (rows_cons (kd := (Kd.int .i64)) (x := x14.1) (c := [(.int .i64 x14.1)]) (cs := []) rfl (Rows.nil _ _ _ _)))) ?_
        intro v14 w hR
        have hS : St e s8 w [Ow (Kd.int .i64) 3 v14 ([x14.1] : List Int), pt g1 139 ([v13, (.int .i64 x14.2.2.1), (.int .i64 x14.2.2.2)]), pt g2 36 ([(.int .i64 x11.Kind), v4, v5]), Ow (Kd.int .i64) 3 v4 x11.Ints, Ow (Kd.int .i64) 3 v5 x11.Refs, pt g3 36 ([(.int .i64 0), (.slice none 0 0), (.slice none 0 0)])] := hR
        refine ⟨⟨knw rfl rfl rfl (p_ldb_one (i := 2) hS rfl rfl ia_34 rfl), ⟨knw rfl rfl rfl (p_fldb (o' := 1) rfl fi_36_1 rfl), trivial⟩⟩, ?_⟩
        obtain ⟨hq1, H⟩ := hck H
        refine pkE [0] rfl (by decide) (by kernel_rfl) (by kernel_rfl) (e_append (n := 3) hS rfl rfl rfl (hS.src (n := 0) rfl) un_34 ti_3 rfl (by decide) (by decide) (Nat.le_trans (Nat.mul_le_mul_right 8 hq1) (by decide))) ?_
        intro v15 w hR
        have hS : St e s8 w [Ow (Kd.int .i64) 3 v15 (x11.Ints ++ ([x14.1] : List Int)), Ow (Kd.int .i64) 3 v14 ([x14.1] : List Int), pt g1 139 ([v13, (.int .i64 x14.2.2.1), (.int .i64 x14.2.2.2)]), pt g2 36 ([(.int .i64 x11.Kind), v4, v5]), Ow (Kd.int .i64) 3 v5 x11.Refs, pt g3 36 ([(.int .i64 0), (.slice none 0 0), (.slice none 0 0)])] := hR
        replace hS := hS.sel (is := [0, 1, 1, 1, 1]) (A' := [Ow (Kd.int .i64) 3 v15 (x11.Ints ++ ([x14.1] : List Int)), pt g1 139 ([v13, (.int .i64 x14.2.2.1), (.int .i64 x14.2.2.2)]), pt g2 36 ([(.int .i64 x11.Kind), v4, v5]), Ow (Kd.int .i64) 3 v5 x11.Refs, pt g3 36 ([(.int .i64 0), (.slice none 0 0), (.slice none 0 0)])]) rfl
        refine ⟨⟨knw rfl rfl rfl (p_fldb (o' := 1) rfl fi_36_1 rfl), trivial⟩, ?_⟩
        refine pk1 rfl (by decide) rfl (by kernel_rfl) rfl (p_fldb (o' := 1) rfl fi_36_1 rfl) ?_
        refine pkE0 [] rfl (by kernel_rfl) (by kernel_rfl) (e_stb (i := 2) (l := [(.int .i64 x11.Kind)]) (m := [v4]) (r := [v5]) (m' := [v15]) (cs' := [(.int .i64 x11.Kind), v15, v5]) hS rfl rfl rfl ti_34 rfl rfl rfl (cells_one (hS.one_ow (i := 0) rfl)) rfl (one_cons (hS.one_ow (i := 0) rfl) one_nil) rfl) ?_
        intro v w hR
        have hS : St e s8 w [pt g2 36 ([(.int .i64 x11.Kind), v15, v5]), Ow (Kd.int .i64) 3 v15 (x11.Ints ++ ([x14.1] : List Int)), pt g1 139 ([v13, (.int .i64 x14.2.2.1), (.int .i64 x14.2.2.2)]), Ow (Kd.int .i64) 3 v5 x11.Refs, pt g3 36 ([(.int .i64 0), (.slice none 0 0), (.slice none 0 0)])] := hR
        refine ⟨trivial, ?_⟩
        refine pkF (fun a hF => ?_)
        refine bn (xn ?_)
        obtain rfl := hsm H
        replace hS := hS.sel (is := [0, 0, 1, 1, 0]) (A' := [pt g2 36 ([(.int .i64 x11.Kind), v15, v5]), Ow (Kd.int .i64) 3 v15 (x11.Ints ++ ([x14.1] : List Int)), Ow (Kd.int .i64) 3 v5 x11.Refs, pt g3 36 ([(.int .i64 0), (.slice none 0 0), (.slice none 0 0)]), pt g1 139 ([v13, (.int .i64 x14.2.2.1), (.int .i64 x14.2.2.2)])]) rfl
        exact ⟨x11.Kind, (x11.Ints ++ ([x14.1] : List Int)), x11.Refs, x14.2.1, x14.2.2.1, x14.2.2.2, s8, v15, v5, v13, hS, hF.cut ⟨rfl, rfl, trivial⟩, ((hg2.trans hg5).trans hg6), h8, HK1⟩
      · replace H := hbf hc2 H
        refine sq ?_
        refine rg ?_
        refine stp hF (p_eql rfl rfl) (by decide) (fun a hF => ?_)
        refine stp hF (p_assign rfl) (by decide) (fun a hF => ?_)
        refine nilN ?_
        refine xn ?_
        refine cnd hF rfl (fun hc3 => ?_) (fun hc3 => ?_)
        · replace H := hbt hc3 H
          replace hS : St e s4 w.drew [pt g1 139 ([v9, (.int .i64 x12.2.2.1), (.int .i64 x12.2.2.2)]), pt g2 36 ([(.int .i64 x11.Kind), v4, v5]), Ow (Kd.int .i64) 3 v4 x11.Ints, Ow (Kd.int .i64) 3 v5 x11.Refs, pt g3 36 ([(.int .i64 0), (.slice none 0 0), (.slice none 0 0)])] := hS.drewN 1
          refine drw [0, 1, 2, 3, 4, 5, 6, 7, 8] mixed (by kernel_rfl) (by decide) (hF.cut (L' := [(0, (.pointer (some ⟨g1, 0, none⟩))), (1, (.agg #[(.int .i64 x10.Kind), v2, v3])), (3, (.pointer (some ⟨g2, 0, none⟩))), (4, (.pointer (some ⟨g3, 0, none⟩))), (5, (.agg #[(.int .i64 x10.Kind), v2, v3])), (6, (.agg #[(.int .i64 x11.Kind), v4, v5])), (7, (.pointer (some ⟨g1, 0, none⟩))), (8, (.int .i64 x12.1)), (9, (.bool (decide (x12.1 = 0)))), (10, (.bool (decide (x12.1 = 0)))), (15, (.bool (decide (x12.1 = 1)))), (16, (.bool (decide (x12.1 = 1)))), (25, (.bool (decide (x12.1 = 2)))), (26, (.bool (decide (x12.1 = 2))))]) ⟨rfl, rfl, rfl, rfl, rfl, rfl, rfl, rfl, rfl, rfl, rfl, rfl, rfl, rfl, trivial⟩) ?_
          clear hF
          generalize w.drew = w at hS ⊢
          refine pk1 rfl (by decide) rfl (by kernel_rfl) rfl (p_fldb (o' := 2) rfl fi_36_2 rfl) ?_
          refine pk1 rfl (by decide) rfl (by kernel_rfl) rfl (p_ldb_one (i := 1) hS rfl rfl ia_34 rfl) ?_
          refine pk1 rfl (by decide) rfl (by kernel_rfl) rfl (p_move rfl) ?_
          refine pkE [2, 1, 0] rfl (by decide) (by kernel_rfl) (by kernel_rfl) (e_bslice (kd := (Kd.int .i64)) (et := 3) (ps := [(0, (.const (.int .i64 32))), (1, (.const (.int .i64 (-1)))), (2, (.const (.int .i64 5)))]) (vs := [(0, (.int .i64 32)), (1, (.int .i64 (-1))), (2, (.int .i64 5))]) (cs := [(.int .i64 32), (.int .i64 (-1)), (.int .i64 5)]) (xs := ([32, (-1), 5] : List Int)) hS rfl (by intro w; kernel_rfl) rfl (by decide) (Nat.le_of_ble_eq_true rfl) (by exact (rows_cons (kd := (Kd.int .i64)) (x := 32) (c := [(.int .i64 32)]) (cs := [(.int .i64 (-1)), (.int .i64 5)]) rfl (rows_cons (kd := (Kd.int .i64)) (x := (-1)) (c := [(.int .i64 (-1))]) (cs := [(.int .i64 5)]) rfl (rows_cons (kd := (Kd.int .i64)) (x := 5) (c := [(.int .i64 5)]) (cs := []) rfl (Rows.nil _ _ _ _)))))) ?_
          intro v16 w hR
          have hS : St e s4 w [Ow (Kd.int .i64) 3 v16 ([32, (-1), 5] : List Int), pt g1 139 ([v9, (.int .i64 x12.2.2.1), (.int .i64 x12.2.2.2)]), pt g2 36 ([(.int .i64 x11.Kind), v4, v5]), Ow (Kd.int .i64) 3 v4 x11.Ints, Ow (Kd.int .i64) 3 v5 x11.Refs, pt g3 36 ([(.int .i64 0), (.slice none 0 0), (.slice none 0 0)])] := hR
          refine ⟨⟨knw rfl rfl rfl (p_move rfl), ⟨knw rfl rfl rfl (p_ldb_one (i := 2) hS rfl rfl ia_34 rfl), ⟨knw rfl rfl rfl (p_fldb (o' := 2) rfl fi_36_2 rfl), trivial⟩⟩⟩, ?_⟩
          obtain ⟨s9, hg7, h9, hS⟩ := hS.freeze (i := 0) (kd := (Kd.int .i64)) (et := 3) (v := v16) (xs := ([32, (-1), 5] : List Int)) (B := [pt g1 139 ([v9, (.int .i64 x12.2.2.1), (.int .i64 x12.2.2.2)]), pt g2 36 ([(.int .i64 x11.Kind), v4, v5]), Ow (Kd.int .i64) 3 v4 x11.Ints, Ow (Kd.int .i64) 3 v5 x11.Refs, pt g3 36 ([(.int .i64 0), (.slice none 0 0), (.slice none 0 0)])]) rfl
          obtain ⟨x15, hx5, H⟩ := hb H
          refine pkE [1, 0] rfl (by decide) (by kernel_rfl) (by kernel_rfl) (e_callA (fst := []) (vs := [(.pointer (some ⟨g1, 0, none⟩)), v16]) (cap := []) rfl rfl go_92 (St.call (A := [pt g1 139 ([v9, (.int .i64 x12.2.2.1), (.int .i64 x12.2.2.2)])]) (B := [pt g2 36 ([(.int .i64 x11.Kind), v4, v5]), Ow (Kd.int .i64) 3 v4 x11.Ints, Ow (Kd.int .i64) 3 v5 x11.Refs, pt g3 36 ([(.int .i64 0), (.slice none 0 0), (.slice none 0 0)])]) hS (spec_l1Int.spec k _ _ x12.2.1 x12.2.2.1 x12.2.2.2 ([32, (-1), 5] : List Int) v9 g1 v16 (h4.mono hg7) h9 _ hx5)) rfl) ?_
          intro v w hR
          obtain ⟨s10, A6, hg8, hS, hR⟩ := hR
          obtain ⟨v17, hv5, rfl, h10⟩ := hR; obtain rfl := hv5.symm
          have hS : St e s10 w [pt g1 139 ([v17, (.int .i64 x15.2.2.1), (.int .i64 x15.2.2.2)]), pt g2 36 ([(.int .i64 x11.Kind), v4, v5]), Ow (Kd.int .i64) 3 v4 x11.Ints, Ow (Kd.int .i64) 3 v5 x11.Refs, pt g3 36 ([(.int .i64 0), (.slice none 0 0), (.slice none 0 0)])] := hS
          refine ⟨⟨knw rfl rfl rfl (p_ldb_one (i := 1) hS rfl rfl ia_34 rfl), ⟨knw rfl rfl rfl (p_fldb (o' := 2) rfl fi_36_2 rfl), trivial⟩⟩, ?_⟩
          refine pkE [1, 0] rfl (by decide) (by kernel_rfl) (by kernel_rfl) (e_bslice (kd := (Kd.int .i64)) (et := 3) (ps := [(0, (.tmp 31))]) (vs := [(0, (.int .i64 x15.1))]) (cs := [(.int .i64 x15.1)]) (xs := ([x15.1] : List Int)) hS rfl (by intro w; kernel_rfl) rfl (by decide) (Nat.le_of_ble_eq_true rfl) (by exact (rows_cons (kd := (Kd.int .i64)) (x := x15.1) (c := [(.int .i64 x15.1)]) (cs := []) rfl (Rows.nil _ _ _ _)))) ?_
          intro v18 w hR
          have hS : St e s10 w [Ow (Kd.int .i64) 3 v18 ([x15.1] : List Int), pt g1 139 ([v17, (.int .i64 x15.2.2.1), (.int .i64 x15.2.2.2)]), pt g2 36 ([(.int .i64 x11.Kind), v4, v5]), Ow (Kd.int .i64) 3 v4 x11.Ints, Ow (Kd.int .i64) 3 v5 x11.Refs, pt g3 36 ([(.int .i64 0), (.slice none 0 0), (.slice none 0 0)])] := hR
          refine ⟨⟨knw rfl rfl rfl (p_ldb_one (i := 2) hS rfl rfl ia_34 rfl), ⟨knw rfl rfl rfl (p_fldb (o' := 2) rfl fi_36_2 rfl), trivial⟩⟩, ?_⟩
          obtain ⟨hq2, H⟩ := hck H
          refine pkE [0] rfl (by decide) (by kernel_rfl) (by kernel_rfl) (e_append (n := 4) hS rfl rfl rfl (hS.src (n := 0) rfl) un_34 ti_3 rfl (by decide) (by decide) (Nat.le_trans (Nat.mul_le_mul_right 8 hq2) (by decide))) ?_
          intro v19 w hR
          have hS : St e s10 w [Ow (Kd.int .i64) 3 v19 (x11.Refs ++ ([x15.1] : List Int)), Ow (Kd.int .i64) 3 v18 ([x15.1] : List Int), pt g1 139 ([v17, (.int .i64 x15.2.2.1), (.int .i64 x15.2.2.2)]), pt g2 36 ([(.int .i64 x11.Kind), v4, v5]), Ow (Kd.int .i64) 3 v4 x11.Ints, pt g3 36 ([(.int .i64 0), (.slice none 0 0), (.slice none 0 0)])] := hR
          replace hS := hS.sel (is := [0, 1, 1, 1, 1]) (A' := [Ow (Kd.int .i64) 3 v19 (x11.Refs ++ ([x15.1] : List Int)), pt g1 139 ([v17, (.int .i64 x15.2.2.1), (.int .i64 x15.2.2.2)]), pt g2 36 ([(.int .i64 x11.Kind), v4, v5]), Ow (Kd.int .i64) 3 v4 x11.Ints, pt g3 36 ([(.int .i64 0), (.slice none 0 0), (.slice none 0 0)])]) rfl
          refine ⟨⟨knw rfl rfl rfl (p_fldb (o' := 2) rfl fi_36_2 rfl), trivial⟩, ?_⟩
          refine pk1 rfl (by decide) rfl (by kernel_rfl) rfl (p_fldb (o' := 2) rfl fi_36_2 rfl) ?_
          refine pkE0 [] rfl (by kernel_rfl) (by kernel_rfl) (e_stb (i := 2) (l := [(.int .i64 x11.Kind), v4]) (m := [v5]) (r := []) (m' := [v19]) (cs' := [(.int .i64 x11.Kind), v4, v19]) hS rfl rfl rfl ti_34 rfl rfl rfl (cells_one (hS.one_ow (i := 0) rfl)) rfl (one_cons (hS.one_ow (i := 0) rfl) one_nil) rfl) ?_
          intro v w hR
          have hS : St e s10 w [pt g2 36 ([(.int .i64 x11.Kind), v4, v19]), Ow (Kd.int .i64) 3 v19 (x11.Refs ++ ([x15.1] : List Int)), pt g1 139 ([v17, (.int .i64 x15.2.2.1), (.int .i64 x15.2.2.2)]), Ow (Kd.int .i64) 3 v4 x11.Ints, pt g3 36 ([(.int .i64 0), (.slice none 0 0), (.slice none 0 0)])] := hR
          refine ⟨trivial, ?_⟩
          refine pkF (fun a hF => ?_)
          refine bn (xn ?_)
          obtain rfl := hsm H
          replace hS := hS.sel (is := [0, 2, 0, 1, 0]) (A' := [pt g2 36 ([(.int .i64 x11.Kind), v4, v19]), Ow (Kd.int .i64) 3 v4 x11.Ints, Ow (Kd.int .i64) 3 v19 (x11.Refs ++ ([x15.1] : List Int)), pt g3 36 ([(.int .i64 0), (.slice none 0 0), (.slice none 0 0)]), pt g1 139 ([v17, (.int .i64 x15.2.2.1), (.int .i64 x15.2.2.2)])]) rfl
          exact ⟨x11.Kind, x11.Ints, (x11.Refs ++ ([x15.1] : List Int)), x15.2.1, x15.2.2.1, x15.2.2.2, s10, v4, v19, v17, hS, hF.cut ⟨rfl, rfl, trivial⟩, ((hg2.trans hg7).trans hg8), h10, HK1⟩
        · replace H := hbf hc3 H
          refine sq ?_
          refine rg ?_
          refine stp hF (p_eql rfl rfl) (by decide) (fun a hF => ?_)
          refine stp hF (p_assign rfl) (by decide) (fun a hF => ?_)
          refine nilN ?_
          refine xn ?_
          refine cnd hF rfl (fun hc4 => ?_) (fun hc4 => ?_)
          · replace H := hbt hc4 H
            refine rg ?_
            refine stp hF (p_move rfl) (by decide) (fun a hF => ?_)
            obtain ⟨x16, hx6, H⟩ := hb H
            refine ste hF (e_callA (fst := []) (vs := [(.pointer (some ⟨g1, 0, none⟩)), (.int .i64 2)]) (cap := []) rfl rfl go_145 (St.call (A := [pt g1 139 ([v9, (.int .i64 x12.2.2.1), (.int .i64 x12.2.2.2)])]) (B := [pt g2 36 ([(.int .i64 x11.Kind), v4, v5]), Ow (Kd.int .i64) 3 v4 x11.Ints, Ow (Kd.int .i64) 3 v5 x11.Refs, pt g3 36 ([(.int .i64 0), (.slice none 0 0), (.slice none 0 0)])]) hS (spec_l1Below.spec k _ _ x12.2.1 x12.2.2.1 x12.2.2.2 2 v9 g1 h4 _ hx6)) rfl) (by decide) (fun v w a hR hF => ?_)
            obtain ⟨s11, A7, hg9, hS, hR⟩ := hR
            obtain ⟨v20, hv6, rfl, h11⟩ := hR; obtain rfl := hv6.symm
            have hS : St e s11 w [pt g1 139 ([v20, (.int .i64 x16.2.2.1), (.int .i64 x16.2.2.2)]), pt g2 36 ([(.int .i64 x11.Kind), v4, v5]), Ow (Kd.int .i64) 3 v4 x11.Ints, Ow (Kd.int .i64) 3 v5 x11.Refs, pt g3 36 ([(.int .i64 0), (.slice none 0 0), (.slice none 0 0)])] := hS
            refine stp hF (p_add (c := w64 (5 + x16.1)) rfl rfl rfl) (by decide) (fun a hF => ?_)
            obtain ⟨hq3, H⟩ := hck H
            refine ste hF (e_make (kd := (Kd.int .i64)) (x0 := 0) (c := [(.int .i64 0)]) hS rfl rfl un_34 ti_3 rfl rfl hq3.1 (by decide) hq3.2) (by decide) (fun v21 w a hR hF => ?_)
            have hS : St e s11 w [Ow (Kd.int .i64) 3 v21 (List.replicate (w64 (5 + x16.1)).toNat 0), pt g1 139 ([v20, (.int .i64 x16.2.2.1), (.int .i64 x16.2.2.2)]), pt g2 36 ([(.int .i64 x11.Kind), v4, v5]), Ow (Kd.int .i64) 3 v4 x11.Ints, Ow (Kd.int .i64) 3 v5 x11.Refs, pt g3 36 ([(.int .i64 0), (.slice none 0 0), (.slice none 0 0)])] := hR
            refine stp hF (p_fldb (o' := 1) rfl fi_36_1 rfl) (by decide) (fun a hF => ?_)
            refine ste0 hF (e_stb (i := 2) (l := [(.int .i64 x11.Kind)]) (m := [v4]) (r := [v5]) (m' := [v21]) (cs' := [(.int .i64 x11.Kind), v21, v5]) hS rfl rfl rfl ti_34 rfl rfl rfl (cells_one (hS.one_ow (i := 0) rfl)) rfl (one_cons (hS.one_ow (i := 0) rfl) one_nil) rfl) (fun v w a hR hF => ?_)
            have hS : St e s11 w [pt g2 36 ([(.int .i64 x11.Kind), v21, v5]), Ow (Kd.int .i64) 3 v21 (List.replicate (w64 (5 + x16.1)).toNat 0), pt g1 139 ([v20, (.int .i64 x16.2.2.1), (.int .i64 x16.2.2.2)]), Ow (Kd.int .i64) 3 v4 x11.Ints, Ow (Kd.int .i64) 3 v5 x11.Refs, pt g3 36 ([(.int .i64 0), (.slice none 0 0), (.slice none 0 0)])] := hR
            refine nilN ?_
            refine bn (xn ?_)
            obtain rfl := hsm H
            replace hS := hS.sel (is := [0, 0, 2, 2, 0]) (A' := [pt g2 36 ([(.int .i64 x11.Kind), v21, v5]), Ow (Kd.int .i64) 3 v21 (List.replicate (w64 (5 + x16.1)).toNat 0), Ow (Kd.int .i64) 3 v5 x11.Refs, pt g3 36 ([(.int .i64 0), (.slice none 0 0), (.slice none 0 0)]), pt g1 139 ([v20, (.int .i64 x16.2.2.1), (.int .i64 x16.2.2.2)])]) rfl
            exact ⟨x11.Kind, (List.replicate (w64 (5 + x16.1)).toNat 0), x11.Refs, x16.2.1, x16.2.2.1, x16.2.2.2, s11, v21, v5, v20, hS, hF.cut ⟨rfl, rfl, trivial⟩, (hg2.trans hg9), h11, HK1⟩
          · replace H := hbf hc4 H
            refine skN ?_
            refine bn (xn ?_)
            obtain rfl := hsm H
            replace hS := hS.sel (is := [1, 1, 1, 1, 0]) (A' := [pt g2 36 ([(.int .i64 x11.Kind), v4, v5]), Ow (Kd.int .i64) 3 v4 x11.Ints, Ow (Kd.int .i64) 3 v5 x11.Refs, pt g3 36 ([(.int .i64 0), (.slice none 0 0), (.slice none 0 0)]), pt g1 139 ([v9, (.int .i64 x12.2.2.1), (.int .i64 x12.2.2.2)])]) rfl
            exact ⟨x11.Kind, x11.Ints, x11.Refs, x12.2.1, x12.2.2.1, x12.2.2.2, s4, v4, v5, v9, hS, hF.cut ⟨rfl, rfl, trivial⟩, hg2, h4, HK1⟩
  · clear H HK1 hS hF
    rintro a w ⟨x1, x2, x3, x4, x5, x6, s3, v6, v7, v8, hS, hF, hg10, h12, H⟩
    unfold spec_l2Bend.c1 at H
    refine sq ?_
    refine rg ?_
    refine stp hF (p_ldb_agg (i := 0) (l := []) (m := [(.int .i64 x1), v6, v7]) (r := []) hS rfl rfl ia_36 ti_36 rfl rfl rfl) (by decide) (fun a hF => ?_)
    refine ste0 hF (e_stb (i := 3) (l := []) (m := [(.int .i64 0), (.slice none 0 0), (.slice none 0 0)]) (r := []) (m' := [(.int .i64 x1), v6, v7]) (cs' := [(.int .i64 x1), v6, v7]) hS rfl rfl rfl ti_36 rfl rfl rfl rfl rfl (one_cons rfl (one_cons (hS.one_ow (i := 1) rfl) (one_cons (hS.one_ow (i := 2) rfl) one_nil))) rfl) (fun v w a hR hF => ?_)
    have hS : St e s3 w [pt g3 36 ([(.int .i64 x1), v6, v7]), pt g2 36 ([(.int .i64 x1), v6, v7]), Ow (Kd.int .i64) 3 v6 x2, Ow (Kd.int .i64) 3 v7 x3, pt g1 139 ([v8, (.int .i64 x5), (.int .i64 x6)])] := hR
    refine nilN ?_
    refine xn ?_
    refine rt ?_
    obtain rfl := hsm H
    have h13 : RvOk Try.prog _ w (.cell 4 36) _ := rvC (i := 0) hS rfl (show lk [(4, (.pointer (some ⟨g3, 0, none⟩)))] 4 = _ from rfl) ia_36 ti_36 rfl
    replace hS := hS.sel (is := [4, 2, 2]) (A' := [pt g1 139 ([v8, (.int .i64 x5), (.int .i64 x6)]), Ow (Kd.int .i64) 3 v6 x2, Ow (Kd.int .i64) 3 v7 x3]) rfl
    exact retc1 hF rfl h13 hS ⟨v8, v6, v7, rfl, rfl, h12⟩

def spec_l3PageAny.c1 (k : Nat) (x1 : (List Int)) (x2 : Int) (x3 : Int) (x4 : Int) (x5 : (List TSlot)) : Option (TPage × (List Int) × Int × Int) :=
  (some ((⟨x4, x5⟩ : TPage), x1, x2, x3))
def spec_l3PageAny.f (k : Nat) (x6 : (List Int)) (x7 : Int) (x8 : Int) : Option (TPage × (List Int) × Int × Int) :=
  ((spec_l3DrawPage.f k x6 x7 x8).bind fun x9 => ((spec_l1Below.f k x9.2.1 x9.2.2.1 x9.2.2.2 4).bind fun x10 => ((((spec_l1Below.f k x10.2.1 x10.2.2.1 x10.2.2.2 12).bind fun x11 => (if (decide (x11.1 = 0)) = true then ((spec_l1Int.f k x11.2.1 x11.2.2.1 x11.2.2.2 ([(-1), 1000000, 1000001] : List Int)).bind fun x12 => (some (x12.2.1, x12.2.2.1, x12.2.2.2, x12.1, x9.1.Slots))) else (if (decide (x11.1 = 1)) = true then (if 0 ≤ x10.1 ∧ x10.1 < 4 then (if 0 ≤ x10.1 ∧ x10.1 < 4 then (some (x11.2.1, x11.2.2.1, x11.2.2.2, x9.1.Lsn, (wr x9.1.Slots x10.1 ({ (rd x9.1.Slots x10.1) with Has := (!((rd x9.1.Slots x10.1).Has)) })))) else none) else none) else (if (decide (x11.1 = 2)) = true then (if 0 ≤ x10.1 ∧ x10.1 < 4 then ((spec_l2Bend.f k x11.2.1 x11.2.2.1 x11.2.2.2 ((rd x9.1.Slots x10.1).O)).bind fun x13 => (if 0 ≤ x10.1 ∧ x10.1 < 4 then (some (x13.2.1, x13.2.2.1, x13.2.2.2, x9.1.Lsn, (wr x9.1.Slots x10.1 ({ (rd x9.1.Slots x10.1) with O := (⟨x13.1.Kind, x13.1.Ints, x13.1.Refs⟩ : TObj) })))) else none)) else none) else (some (x11.2.1, x11.2.2.1, x11.2.2.2, x9.1.Lsn, x9.1.Slots)))))) : Option ((List Int) × Int × Int × Int × (List TSlot))).bind fun x14 => spec_l3PageAny.c1 k x14.1 x14.2.1 x14.2.2.1 x14.2.2.2.1 x14.2.2.2.2)))
set_option maxRecDepth 100000 in
set_option maxHeartbeats 4000000 in
theorem spec_l3PageAny.spec (k : Nat) (s0 : HF) (w : World) (x6 : (List Int)) (x7 : Int) (x8 : Int) (v1 : Value) (g1 : Nat) (h1 : Sl (Kd.int .u8) s0 v1 x6) (r : TPage × (List Int) × Int × Int) (H : spec_l3PageAny.f k x6 x7 x8 = some r) :
    Law Try.prog 89 #[(.pointer (some ⟨g1, 0, none⟩))] s0 w [pt g1 139 ([v1, (.int .i64 x7), (.int .i64 x8)])] (fun v s1 A1 => ∃ (u0 : Value) (u1 : List Value), v = (.agg ([(.int .i64 r.1.Lsn)] ++ u1 : List Value).toArray) ∧ A1 = [pt g1 139 ([u0, (.int .i64 r.2.2.1), (.int .i64 r.2.2.2)])] ∧ Sl (Kd.int .u8) s1 u0 r.2.1 ∧ ((Kd.arr 4 kTSlot)).K s1 r.1.Slots u1) := by
  unfold spec_l3PageAny.f at H
  refine Law.intro Try.func89 rfl [(0, (.pointer (some ⟨g1, 0, none⟩)))] (Nat.le_of_ble_eq_true rfl) (enter_lk ⟨rfl, trivial⟩) (fun e a hS hF => ?_)
  have hF : Fr 43 a [(0, (.pointer (some ⟨g1, 0, none⟩)))] := hF
  refine sq ?_
  refine rg ?_
  refine ste hF (e_alloc (cs := [(.int .i64 0)] ++ za_47) hS ti_49 rfl) (by decide) (fun v w a hR hF => ?_)
  obtain ⟨g2, rfl, hS⟩ := hR
  refine nilN ?_
  refine xn ?_
  refine sq ?_
  refine rg ?_
  refine stp hF (p_move rfl) (by decide) (fun a hF => ?_)
  replace hS := hS.sel (is := [1, 0]) (A' := [pt g1 139 ([v1, (.int .i64 x7), (.int .i64 x8)]), pt g2 49 ([(.int .i64 0)] ++ za_47)]) rfl
  obtain ⟨x9, hx1, H⟩ := hb H
  refine ste hF (e_callA (fst := []) (vs := [(.pointer (some ⟨g1, 0, none⟩))]) (cap := []) rfl rfl go_144 (St.call (A := [pt g1 139 ([v1, (.int .i64 x7), (.int .i64 x8)])]) (B := [pt g2 49 ([(.int .i64 0)] ++ za_47)]) hS (spec_l3DrawPage.spec k _ _ x6 x7 x8 v1 g1 h1 _ hx1)) rfl) (by decide) (fun v w a hR hF => ?_)
  obtain ⟨s2, A2, hg1, hS, hR⟩ := hR
  obtain ⟨v2, c2, hv1, rfl, h2, h3⟩ := hR; obtain rfl := hv1.symm
  have hS : St e s2 w [pt g1 139 ([v2, (.int .i64 x9.2.2.1), (.int .i64 x9.2.2.2)]), pt g2 49 ([(.int .i64 0)] ++ za_47)] := hS
  refine ste hF (e_alloc (cs := [(.int .i64 0)] ++ za_47) hS ti_49 rfl) (by decide) (fun v w a hR hF => ?_)
  obtain ⟨g3, rfl, hS⟩ := hR
  refine ste0 hF (e_stb (i := 0) (l := []) (m := [(.int .i64 0)] ++ za_47) (r := []) (m' := [(.int .i64 x9.1.Lsn)] ++ c2) (cs' := [(.int .i64 x9.1.Lsn)] ++ c2) hS rfl rfl rfl ti_49 (by simp) (by simp [zl_47, (show c2.length = 16 from Kd.len _ h3)]) (by simp [zl_47, (show c2.length = 16 from Kd.len _ h3)]) rfl (by simp [zl_47, (show c2.length = 16 from Kd.len _ h3)]) (one_app (one_cons rfl one_nil) (Kd.one _ h3)) (by simp)) (fun v w a hR hF => ?_)
  have hS : St e s2 w [pt g3 49 ([(.int .i64 x9.1.Lsn)] ++ c2), pt g1 139 ([v2, (.int .i64 x9.2.2.1), (.int .i64 x9.2.2.2)]), pt g2 49 ([(.int .i64 0)] ++ za_47)] := hR
  refine nilN ?_
  refine xn ?_
  refine sq ?_
  refine rg ?_
  refine stp hF (p_move rfl) (by decide) (fun a hF => ?_)
  replace hS := hS.sel (is := [1, 0, 0]) (A' := [pt g1 139 ([v2, (.int .i64 x9.2.2.1), (.int .i64 x9.2.2.2)]), pt g3 49 ([(.int .i64 x9.1.Lsn)] ++ c2), pt g2 49 ([(.int .i64 0)] ++ za_47)]) rfl
  obtain ⟨x10, hx2, H⟩ := hb H
  refine ste hF (e_callA (fst := []) (vs := [(.pointer (some ⟨g1, 0, none⟩)), (.int .i64 4)]) (cap := []) rfl rfl go_145 (St.call (A := [pt g1 139 ([v2, (.int .i64 x9.2.2.1), (.int .i64 x9.2.2.2)])]) (B := [pt g3 49 ([(.int .i64 x9.1.Lsn)] ++ c2), pt g2 49 ([(.int .i64 0)] ++ za_47)]) hS (spec_l1Below.spec k _ _ x9.2.1 x9.2.2.1 x9.2.2.2 4 v2 g1 h2 _ hx2)) rfl) (by decide) (fun v w a hR hF => ?_)
  obtain ⟨s3, A3, hg2, hS, hR⟩ := hR
  obtain ⟨v3, hv2, rfl, h4⟩ := hR; obtain rfl := hv2.symm
  have hS : St e s3 w [pt g1 139 ([v3, (.int .i64 x10.2.2.1), (.int .i64 x10.2.2.2)]), pt g3 49 ([(.int .i64 x9.1.Lsn)] ++ c2), pt g2 49 ([(.int .i64 0)] ++ za_47)] := hS
  refine stp hF (p_assign rfl) (by decide) (fun a hF => ?_)
  refine nilN ?_
  refine xn ?_
  obtain ⟨x14, H, HK1⟩ := hb H
  refine sqj (fun a w => ∃ (x1 : (List Int)) (x2 : Int) (x3 : Int) (x4 : Int) (x5 : (List TSlot)) (s4 : HF) (v4 : Value) (c3 : List Value) , St e s4 w [pt g1 139 ([v4, (.int .i64 x2), (.int .i64 x3)]), pt g3 49 ([(.int .i64 x4)] ++ c3), pt g2 49 ([(.int .i64 0)] ++ za_47)] ∧ Fr 43 a [(2, (.pointer (some ⟨g2, 0, none⟩))), (3, (.pointer (some ⟨g3, 0, none⟩)))] ∧ Sub s3 s4 ∧ Sl (Kd.int .u8) s4 v4 x1 ∧ ((Kd.arr 4 kTSlot)).K s4 x5 c3 ∧ spec_l3PageAny.c1 k x1 x2 x3 x4 x5 = some r) ?_ ?_
  · skip
    refine sq ?_
    refine rg ?_
    refine stp hF (p_move rfl) (by decide) (fun a hF => ?_)
    obtain ⟨x11, hx3, H⟩ := hb H
    refine ste hF (e_callA (fst := []) (vs := [(.pointer (some ⟨g1, 0, none⟩)), (.int .i64 12)]) (cap := []) rfl rfl go_145 (St.call (A := [pt g1 139 ([v3, (.int .i64 x10.2.2.1), (.int .i64 x10.2.2.2)])]) (B := [pt g3 49 ([(.int .i64 x9.1.Lsn)] ++ c2), pt g2 49 ([(.int .i64 0)] ++ za_47)]) hS (spec_l1Below.spec k _ _ x10.2.1 x10.2.2.1 x10.2.2.2 12 v3 g1 h4 _ hx3)) rfl) (by decide) (fun v w a hR hF => ?_)
    obtain ⟨s5, A4, hg3, hS, hR⟩ := hR
    obtain ⟨v5, hv3, rfl, h5⟩ := hR; obtain rfl := hv3.symm
    have hS : St e s5 w [pt g1 139 ([v5, (.int .i64 x11.2.2.1), (.int .i64 x11.2.2.2)]), pt g3 49 ([(.int .i64 x9.1.Lsn)] ++ c2), pt g2 49 ([(.int .i64 0)] ++ za_47)] := hS
    refine nilN ?_
    refine xn ?_
    refine blk ?_
    refine sq ?_
    refine rg ?_
    refine stp hF (p_eql rfl rfl) (by decide) (fun a hF => ?_)
    refine stp hF (p_assign rfl) (by decide) (fun a hF => ?_)
    refine nilN ?_
    refine xn ?_
    refine cnd hF rfl (fun hc1 => ?_) (fun hc1 => ?_)
    · replace H := hbt hc1 H
      refine rg ?_
      refine stp hF (p_move rfl) (by decide) (fun a hF => ?_)
      refine ste hF (e_bslice (kd := (Kd.int .i64)) (et := 3) (ps := [(0, (.const (.int .i64 (-1)))), (1, (.const (.int .i64 1000000))), (2, (.const (.int .i64 1000001)))]) (vs := [(0, (.int .i64 (-1))), (1, (.int .i64 1000000)), (2, (.int .i64 1000001))]) (cs := [(.int .i64 (-1)), (.int .i64 1000000), (.int .i64 1000001)]) (xs := ([(-1), 1000000, 1000001] : List Int)) hS rfl (by intro w; kernel_rfl) rfl (by decide) (Nat.le_of_ble_eq_true rfl) (by exact (rows_cons (kd := (Kd.int .i64)) (x := (-1)) (c := [(.int .i64 (-1))]) (cs := [(.int .i64 1000000), (.int .i64 1000001)]) rfl (rows_cons (kd := (Kd.int .i64)) (x := 1000000) (c := [(.int .i64 1000000)]) (cs := [(.int .i64 1000001)]) rfl (rows_cons (kd := (Kd.int .i64)) (x := 1000001) (c := [(.int .i64 1000001)]) (cs := []) rfl (Rows.nil _ _ _ _)))))) (by decide) (fun v6 w a hR hF => ?_)
      have hS : St e s5 w [Ow (Kd.int .i64) 3 v6 ([(-1), 1000000, 1000001] : List Int), pt g1 139 ([v5, (.int .i64 x11.2.2.1), (.int .i64 x11.2.2.2)]), pt g3 49 ([(.int .i64 x9.1.Lsn)] ++ c2), pt g2 49 ([(.int .i64 0)] ++ za_47)] := hR
      obtain ⟨s6, hg4, h6, hS⟩ := hS.freeze (i := 0) (kd := (Kd.int .i64)) (et := 3) (v := v6) (xs := ([(-1), 1000000, 1000001] : List Int)) (B := [pt g1 139 ([v5, (.int .i64 x11.2.2.1), (.int .i64 x11.2.2.2)]), pt g3 49 ([(.int .i64 x9.1.Lsn)] ++ c2), pt g2 49 ([(.int .i64 0)] ++ za_47)]) rfl
      obtain ⟨x12, hx4, H⟩ := hb H
      refine ste hF (e_callA (fst := []) (vs := [(.pointer (some ⟨g1, 0, none⟩)), v6]) (cap := []) rfl rfl go_92 (St.call (A := [pt g1 139 ([v5, (.int .i64 x11.2.2.1), (.int .i64 x11.2.2.2)])]) (B := [pt g3 49 ([(.int .i64 x9.1.Lsn)] ++ c2), pt g2 49 ([(.int .i64 0)] ++ za_47)]) hS (spec_l1Int.spec k _ _ x11.2.1 x11.2.2.1 x11.2.2.2 ([(-1), 1000000, 1000001] : List Int) v5 g1 v6 (h5.mono hg4) h6 _ hx4)) rfl) (by decide) (fun v w a hR hF => ?_)
      obtain ⟨s7, A5, hg5, hS, hR⟩ := hR
      obtain ⟨v7, hv4, rfl, h7⟩ := hR; obtain rfl := hv4.symm
      have hS : St e s7 w [pt g1 139 ([v7, (.int .i64 x12.2.2.1), (.int .i64 x12.2.2.2)]), pt g3 49 ([(.int .i64 x9.1.Lsn)] ++ c2), pt g2 49 ([(.int .i64 0)] ++ za_47)] := hS
      refine stp hF (p_fldb (o' := 0) rfl fi_49_0 rfl) (by decide) (fun a hF => ?_)
      refine ste0 hF (e_stb (i := 1) (l := []) (m := [(.int .i64 x9.1.Lsn)]) (r := c2) (m' := [(.int .i64 x12.1)]) (cs' := [(.int .i64 x12.1)] ++ c2) hS rfl rfl rfl ti_3 (by simp) (by simp) (by simp) rfl (by simp) (one_cons rfl one_nil) (by simp)) (fun v w a hR hF => ?_)
      have hS : St e s7 w [pt g3 49 ([(.int .i64 x12.1)] ++ c2), pt g1 139 ([v7, (.int .i64 x12.2.2.1), (.int .i64 x12.2.2.2)]), pt g2 49 ([(.int .i64 0)] ++ za_47)] := hR
      refine nilN ?_
      refine bn (xn ?_)
      obtain rfl := hsm H
      replace hS := hS.sel (is := [1, 0, 0]) (A' := [pt g1 139 ([v7, (.int .i64 x12.2.2.1), (.int .i64 x12.2.2.2)]), pt g3 49 ([(.int .i64 x12.1)] ++ c2), pt g2 49 ([(.int .i64 0)] ++ za_47)]) rfl
      exact ⟨x12.2.1, x12.2.2.1, x12.2.2.2, x12.1, x9.1.Slots, s7, v7, c2, hS, hF.cut ⟨rfl, rfl, trivial⟩, ((hg3.trans hg4).trans hg5), h7, ((Kd.arr 4 kTSlot).mono hg5 ((Kd.arr 4 kTSlot).mono hg4 ((Kd.arr 4 kTSlot).mono hg3 ((Kd.arr 4 kTSlot).mono hg2 h3)))), HK1⟩
    · replace H := hbf hc1 H
      refine sq ?_
      refine rg ?_
      refine stp hF (p_eql rfl rfl) (by decide) (fun a hF => ?_)
      refine stp hF (p_assign rfl) (by decide) (fun a hF => ?_)
      refine nilN ?_
      refine xn ?_
      refine cnd hF rfl (fun hc2 => ?_) (fun hc2 => ?_)
      · replace H := hbt hc2 H
        refine rg ?_
        refine stp hF (p_move rfl) (by decide) (fun a hF => ?_)
        refine stp hF (p_move rfl) (by decide) (fun a hF => ?_)
        refine stp hF (p_fldb (o' := 1) rfl fi_49_1 rfl) (by decide) (fun a hF => ?_)
        obtain ⟨hq1, H⟩ := hck H
        refine stp hF (p_idxb rfl rfl un_47 ti_38 hq1.1 hq1.2) (by decide) (fun a hF => ?_)
        refine stp hF (p_fldb (o' := ((1 + x10.1.toNat * 4) + 0)) rfl fi_38_0 rfl) (by decide) (fun a hF => ?_)
        obtain ⟨u1, h8, p1⟩ := p_ldba_one (P := Try.prog) (T := 49) (b := g3) (all := [(.int .i64 x9.1.Lsn)] ++ c2) (l := [(.int .i64 x9.1.Lsn)]) (cs := c2) (r := []) (base := 1) (by simp) ((Kd.arr 4 kTSlot).mono hg3 ((Kd.arr 4 kTSlot).mono hg2 h3)) ((Lens.idx 4 kTSlot x10.1 hq1.1 hq1.2).comp kTSlot_Has) rfl ((Nat.add_assoc _ _ _).symm.trans (congrArg (· + 0) rfl)) ia_4 rfl
        obtain rfl : u1 = .bool ((rd x9.1.Slots x10.1).Has) := by injection h8
        refine stp hF (p1 (n := 1) hS rfl rfl) (by decide) (fun a hF => ?_)
        refine stp hF (p_not rfl) (by decide) (fun a hF => ?_)
        refine stp hF (p_fldb (o' := 1) rfl fi_49_1 rfl) (by decide) (fun a hF => ?_)
        obtain ⟨hq2, H⟩ := hck H
        refine stp hF (p_idxb rfl rfl un_47 ti_38 hq2.1 hq2.2) (by decide) (fun a hF => ?_)
        refine stp hF (p_fldb (o' := ((1 + x10.1.toNat * 4) + 0)) rfl fi_38_0 rfl) (by decide) (fun a hF => ?_)
        refine ste0 hF (e_stba (n := 1) (l := [(.int .i64 x9.1.Lsn)]) (cs := c2) (r := []) (base := 1) (y0 := (!((rd x9.1.Slots x10.1).Has))) hS rfl (by simp) ((Kd.arr 4 kTSlot).mono hg3 ((Kd.arr 4 kTSlot).mono hg2 h3)) ((Lens.idx 4 kTSlot x10.1 hq2.1 hq2.2).comp kTSlot_Has) rfl ((Nat.add_assoc _ _ _).symm.trans (congrArg (· + 0) rfl)) rfl rfl ti_4 rfl rfl) (fun v w a hR hF => ?_)
        obtain ⟨c4, h9, hS⟩ := hR
        replace h9 : ((Kd.arr 4 kTSlot)).K s5 (wr x9.1.Slots x10.1 ({ (rd x9.1.Slots x10.1) with Has := (!((rd x9.1.Slots x10.1).Has)) })) c4 := h9
        replace hS : St e s5 w [pt g3 49 ([(.int .i64 x9.1.Lsn)] ++ c4), pt g1 139 ([v5, (.int .i64 x11.2.2.1), (.int .i64 x11.2.2.2)]), pt g2 49 ([(.int .i64 0)] ++ za_47)] := (by simpa using hS)
        refine nilN ?_
        refine bn (xn ?_)
        obtain rfl := hsm H
        replace hS := hS.sel (is := [1, 0, 0]) (A' := [pt g1 139 ([v5, (.int .i64 x11.2.2.1), (.int .i64 x11.2.2.2)]), pt g3 49 ([(.int .i64 x9.1.Lsn)] ++ c4), pt g2 49 ([(.int .i64 0)] ++ za_47)]) rfl
        exact ⟨x11.2.1, x11.2.2.1, x11.2.2.2, x9.1.Lsn, (wr x9.1.Slots x10.1 ({ (rd x9.1.Slots x10.1) with Has := (!((rd x9.1.Slots x10.1).Has)) })), s5, v5, c4, hS, hF.cut ⟨rfl, rfl, trivial⟩, hg3, h5, h9, HK1⟩
      · replace H := hbf hc2 H
        refine sq ?_
        refine rg ?_
        refine stp hF (p_eql rfl rfl) (by decide) (fun a hF => ?_)
        refine stp hF (p_assign rfl) (by decide) (fun a hF => ?_)
        refine nilN ?_
        refine xn ?_
        refine cnd hF rfl (fun hc3 => ?_) (fun hc3 => ?_)
        · replace H := hbt hc3 H
          refine rg ?_
          refine stp hF (p_move rfl) (by decide) (fun a hF => ?_)
          refine stp hF (p_move rfl) (by decide) (fun a hF => ?_)
          refine stp hF (p_move rfl) (by decide) (fun a hF => ?_)
          refine stp hF (p_fldb (o' := 1) rfl fi_49_1 rfl) (by decide) (fun a hF => ?_)
          obtain ⟨hq3, H⟩ := hck H
          refine stp hF (p_idxb rfl rfl un_47 ti_38 hq3.1 hq3.2) (by decide) (fun a hF => ?_)
          refine stp hF (p_fldb (o' := ((1 + x10.1.toNat * 4) + 1)) rfl fi_38_1 rfl) (by decide) (fun a hF => ?_)
          obtain ⟨c5, h10, p2⟩ := p_ldba_agg (P := Try.prog) (T := 49) (b := g3) (all := [(.int .i64 x9.1.Lsn)] ++ c2) (l := [(.int .i64 x9.1.Lsn)]) (cs := c2) (r := []) (base := 1) (by simp) ((Kd.arr 4 kTSlot).mono hg3 ((Kd.arr 4 kTSlot).mono hg2 h3)) ((Lens.idx 4 kTSlot x10.1 hq3.1 hq3.2).comp kTSlot_O) rfl ((Nat.add_assoc _ _ _).symm.trans (congrArg (· + 1) rfl)) ia_36 ti_36
          obtain ⟨v8, v9, rfl, h11, h12⟩ := kTObj_open h10
          refine stp hF (p2 (n := 1) hS rfl rfl) (by decide) (fun a hF => ?_)
          obtain ⟨x13, hx5, H⟩ := hb H
          refine ste hF (e_callA (fst := []) (vs := [(.pointer (some ⟨g1, 0, none⟩)), (.agg #[(.int .i64 (((rd x9.1.Slots x10.1).O).Kind)), v8, v9])]) (cap := []) rfl rfl go_146 (St.call (A := [pt g1 139 ([v5, (.int .i64 x11.2.2.1), (.int .i64 x11.2.2.2)])]) (B := [pt g3 49 ([(.int .i64 x9.1.Lsn)] ++ c2), pt g2 49 ([(.int .i64 0)] ++ za_47)]) hS (spec_l2Bend.spec k _ _ x11.2.1 x11.2.2.1 x11.2.2.2 ((rd x9.1.Slots x10.1).O) v5 g1 v8 v9 h5 h11 h12 _ hx5)) rfl) (by decide) (fun v w a hR hF => ?_)
          obtain ⟨s8, A6, hg6, hS, hR⟩ := hR
          obtain ⟨v10, v11, v12, hv5, rfl, h13⟩ := hR; obtain rfl := hv5.symm
          have hS : St e s8 w [pt g1 139 ([v10, (.int .i64 x13.2.2.1), (.int .i64 x13.2.2.2)]), Ow (Kd.int .i64) 3 v11 x13.1.Ints, Ow (Kd.int .i64) 3 v12 x13.1.Refs, pt g3 49 ([(.int .i64 x9.1.Lsn)] ++ c2), pt g2 49 ([(.int .i64 0)] ++ za_47)] := hS
          refine stp hF (p_fldb (o' := 1) rfl fi_49_1 rfl) (by decide) (fun a hF => ?_)
          obtain ⟨hq4, H⟩ := hck H
          refine stp hF (p_idxb rfl rfl un_47 ti_38 hq4.1 hq4.2) (by decide) (fun a hF => ?_)
          refine stp hF (p_fldb (o' := ((1 + x10.1.toNat * 4) + 1)) rfl fi_38_1 rfl) (by decide) (fun a hF => ?_)
          obtain ⟨s9, hg7, h14, hS⟩ := hS.freeze (i := 1) (kd := (Kd.int .i64)) (et := 3) (v := v11) (xs := x13.1.Ints) (B := [pt g1 139 ([v10, (.int .i64 x13.2.2.1), (.int .i64 x13.2.2.2)]), Ow (Kd.int .i64) 3 v12 x13.1.Refs, pt g3 49 ([(.int .i64 x9.1.Lsn)] ++ c2), pt g2 49 ([(.int .i64 0)] ++ za_47)]) rfl
          obtain ⟨s10, hg8, h15, hS⟩ := hS.freeze (i := 1) (kd := (Kd.int .i64)) (et := 3) (v := v12) (xs := x13.1.Refs) (B := [pt g1 139 ([v10, (.int .i64 x13.2.2.1), (.int .i64 x13.2.2.2)]), pt g3 49 ([(.int .i64 x9.1.Lsn)] ++ c2), pt g2 49 ([(.int .i64 0)] ++ za_47)]) rfl
          refine ste0 hF (e_stba (n := 1) (l := [(.int .i64 x9.1.Lsn)]) (cs := c2) (r := []) (base := 1) (y0 := (⟨x13.1.Kind, x13.1.Ints, x13.1.Refs⟩ : TObj)) hS rfl (by simp) ((Kd.arr 4 kTSlot).mono hg8 ((Kd.arr 4 kTSlot).mono hg7 ((Kd.arr 4 kTSlot).mono hg6 ((Kd.arr 4 kTSlot).mono hg3 ((Kd.arr 4 kTSlot).mono hg2 h3))))) ((Lens.idx 4 kTSlot x10.1 hq4.1 hq4.2).comp kTSlot_O) rfl ((Nat.add_assoc _ _ _).symm.trans (congrArg (· + 1) rfl)) rfl rfl ti_36 rfl (kTObj_mk (x := (⟨x13.1.Kind, x13.1.Ints, x13.1.Refs⟩ : TObj)) (h14.mono hg8) h15)) (fun v w a hR hF => ?_)
          obtain ⟨c6, h16, hS⟩ := hR
          replace h16 : ((Kd.arr 4 kTSlot)).K s10 (wr x9.1.Slots x10.1 ({ (rd x9.1.Slots x10.1) with O := (⟨x13.1.Kind, x13.1.Ints, x13.1.Refs⟩ : TObj) })) c6 := h16
          replace hS : St e s10 w [pt g3 49 ([(.int .i64 x9.1.Lsn)] ++ c6), pt g1 139 ([v10, (.int .i64 x13.2.2.1), (.int .i64 x13.2.2.2)]), pt g2 49 ([(.int .i64 0)] ++ za_47)] := (by simpa using hS)
          refine nilN ?_
          refine bn (xn ?_)
          obtain rfl := hsm H
          replace hS := hS.sel (is := [1, 0, 0]) (A' := [pt g1 139 ([v10, (.int .i64 x13.2.2.1), (.int .i64 x13.2.2.2)]), pt g3 49 ([(.int .i64 x9.1.Lsn)] ++ c6), pt g2 49 ([(.int .i64 0)] ++ za_47)]) rfl
          exact ⟨x13.2.1, x13.2.2.1, x13.2.2.2, x9.1.Lsn, (wr x9.1.Slots x10.1 ({ (rd x9.1.Slots x10.1) with O := (⟨x13.1.Kind, x13.1.Ints, x13.1.Refs⟩ : TObj) })), s10, v10, c6, hS, hF.cut ⟨rfl, rfl, trivial⟩, (((hg3.trans hg6).trans hg7).trans hg8), ((h13.mono hg7).mono hg8), h16, HK1⟩
        · replace H := hbf hc3 H
          refine skN ?_
          refine bn (xn ?_)
          obtain rfl := hsm H
          exact ⟨x11.2.1, x11.2.2.1, x11.2.2.2, x9.1.Lsn, x9.1.Slots, s5, v5, c2, hS, hF.cut ⟨rfl, rfl, trivial⟩, hg3, h5, ((Kd.arr 4 kTSlot).mono hg3 ((Kd.arr 4 kTSlot).mono hg2 h3)), HK1⟩
  · clear H HK1 hS hF
    rintro a w ⟨x1, x2, x3, x4, x5, s4, v4, c3, hS, hF, hg9, h17, h18, H⟩
    unfold spec_l3PageAny.c1 at H
    refine sq ?_
    refine rg ?_
    refine stp hF (p_ldb_agg (i := 1) (l := []) (m := [(.int .i64 x4)] ++ c3) (r := []) hS rfl rfl ia_49 ti_49 (by simp) (by simp [(show c3.length = 16 from Kd.len _ h18)]) (by simp [(show c3.length = 16 from Kd.len _ h18)])) (by decide) (fun a hF => ?_)
    refine ste0 hF (e_stb (i := 2) (l := []) (m := [(.int .i64 0)] ++ za_47) (r := []) (m' := [(.int .i64 x4)] ++ c3) (cs' := [(.int .i64 x4)] ++ c3) hS rfl rfl rfl ti_49 (by simp) (by simp [zl_47, (show c3.length = 16 from Kd.len _ h18)]) (by simp [zl_47, (show c3.length = 16 from Kd.len _ h18)]) rfl (by simp [zl_47, (show c3.length = 16 from Kd.len _ h18)]) (one_app (one_cons rfl one_nil) (Kd.one _ h18)) (by simp)) (fun v w a hR hF => ?_)
    have hS : St e s4 w [pt g2 49 ([(.int .i64 x4)] ++ c3), pt g1 139 ([v4, (.int .i64 x2), (.int .i64 x3)]), pt g3 49 ([(.int .i64 x4)] ++ c3)] := hR
    refine nilN ?_
    refine xn ?_
    refine rt ?_
    obtain rfl := hsm H
    have h19 : RvOk Try.prog _ w (.cell 2 49) _ := rvC (i := 0) hS rfl (show lk [(2, (.pointer (some ⟨g2, 0, none⟩)))] 2 = _ from rfl) ia_49 ti_49 (by simp [(show c3.length = 16 from Kd.len _ h18)])
    replace hS := hS.sel (is := [1]) (A' := [pt g1 139 ([v4, (.int .i64 x2), (.int .i64 x3)])]) rfl
    exact retc1 hF rfl h19 hS ⟨v4, c3, rfl, rfl, h17, h18⟩

def spec_DrawSetSlot.c1 (k : Nat) (x1 : (List Int)) (x2 : Int) (x3 : Int) (x4 : Bool) (x5 : Int) (x6 : (List Int)) (x7 : (List Int)) (x8 : Int) (x9 : (List TSlot)) (x10 : Int) (x11 : Int) : Option (TPage × Int × TSlot × Int) :=
  (some ((⟨x8, x9⟩ : TPage), x10, (⟨x4, (⟨x5, x6, x7⟩ : TObj)⟩ : TSlot), x11))
def spec_DrawSetSlot.c2 (k : Nat) (x12 : TSlot × (List Int) × Int × Int) (x13 : TPage × (List Int) × Int × Int) (x14 : Bool) (x15 : (List Int)) (x16 : Int) (x17 : Int) : Option (TPage × Int × TSlot × Int) :=
  ((((spec_l1Int.f k x15 x16 x17 ([0, 1, 2, 3, 3, (-1), 4] : List Int)).bind fun x18 => ((spec_l1Int.f k x18.2.1 x18.2.2.1 x18.2.2.2 ([30, 31, 0, 1000000, 1000001, 40] : List Int)).bind fun x19 => (some (x19.2.1, x19.2.2.1, x19.2.2.2, x14, x12.1.O.Kind, x12.1.O.Ints, x12.1.O.Refs, x13.1.Lsn, x13.1.Slots, x18.1, x19.1)))) : Option ((List Int) × Int × Int × Bool × Int × (List Int) × (List Int) × Int × (List TSlot) × Int × Int)).bind fun x20 => spec_DrawSetSlot.c1 k x20.1 x20.2.1 x20.2.2.1 x20.2.2.2.1 x20.2.2.2.2.1 x20.2.2.2.2.2.1 x20.2.2.2.2.2.2.1 x20.2.2.2.2.2.2.2.1 x20.2.2.2.2.2.2.2.2.1 x20.2.2.2.2.2.2.2.2.2.1 x20.2.2.2.2.2.2.2.2.2.2)
def spec_DrawSetSlot.f (k : Nat) (x21 : (List Int)) : Option (TPage × Int × TSlot × Int) :=
  ((spec_l1New.f k x21).bind fun x22 => ((spec_l3PageAny.f k x22.b x22.i x22.h_).bind fun x13 => ((spec_l3DrawSlot.f k x13.2.1 x13.2.2.1 x13.2.2.2).bind fun x12 => ((((spec_l1Once.f k x12.2.1 x12.2.2.1 x12.2.2.2 10).bind fun x23 => (if x23.1 = true then (some ((!x12.1.Has), x23.2.1, x23.2.2.1, x23.2.2.2)) else (some (x12.1.Has, x23.2.1, x23.2.2.1, x23.2.2.2)))) : Option (Bool × (List Int) × Int × Int)).bind fun x24 => spec_DrawSetSlot.c2 k x12 x13 x24.1 x24.2.1 x24.2.2.1 x24.2.2.2))))
set_option maxRecDepth 100000 in
set_option maxHeartbeats 4000000 in
theorem spec_DrawSetSlot.spec (k : Nat) (s0 : HF) (w : World) (x21 : (List Int)) (v1 : Value) (h1 : Sl (Kd.int .u8) s0 v1 x21) (r : TPage × Int × TSlot × Int) (H : spec_DrawSetSlot.f k x21 = some r) :
    Law Try.prog 27 #[v1] s0 w [] (fun v s1 A1 => ∃ (u0 : List Value) (u1 : Value) (u2 : Value), v = (.tuple #[(.agg ([(.int .i64 r.1.Lsn)] ++ u0 : List Value).toArray), (.int .i64 r.2.1), (.agg #[(.bool r.2.2.1.Has), (.int .i64 r.2.2.1.O.Kind), u1, u2]), (.int .i64 r.2.2.2)]) ∧ A1 = [Ow (Kd.int .i64) 3 u1 r.2.2.1.O.Ints, Ow (Kd.int .i64) 3 u2 r.2.2.1.O.Refs] ∧ ((Kd.arr 4 kTSlot)).K s1 r.1.Slots u0) := by
  unfold spec_DrawSetSlot.f at H
  refine Law.intro Try.func27 rfl [(0, v1)] (Nat.le_of_ble_eq_true rfl) (enter_lk ⟨rfl, trivial⟩) (fun e a hS hF => ?_)
  have hF : Fr 29 a [(0, v1)] := hF
  refine sq ?_
  refine rg ?_
  refine ste hF (e_alloc (cs := [(.int .i64 0)] ++ za_47) hS ti_49 rfl) (by decide) (fun v w a hR hF => ?_)
  obtain ⟨g1, rfl, hS⟩ := hR
  refine stp hF (p_assign rfl) (by decide) (fun a hF => ?_)
  refine ste hF (e_alloc (cs := [(.bool false), (.int .i64 0), (.slice none 0 0), (.slice none 0 0)]) hS ti_38 rfl) (by decide) (fun v w a hR hF => ?_)
  obtain ⟨g2, rfl, hS⟩ := hR
  refine stp hF (p_assign rfl) (by decide) (fun a hF => ?_)
  refine nilN ?_
  refine xn ?_
  refine sq ?_
  refine rg ?_
  refine stp hF (p_move rfl) (by decide) (fun a hF => ?_)
  obtain ⟨x22, hx1, H⟩ := hb H
  refine ste hF (e_callA (fst := []) (vs := [v1]) (cap := []) rfl rfl go_73 (St.call (A := []) (B := [pt g2 38 ([(.bool false), (.int .i64 0), (.slice none 0 0), (.slice none 0 0)]), pt g1 49 ([(.int .i64 0)] ++ za_47)]) hS (spec_l1New.spec k _ _ x21 v1 h1 _ hx1)) rfl) (by decide) (fun v w a hR hF => ?_)
  obtain ⟨s2, A2, hg1, hS, hR⟩ := hR
  obtain ⟨g3, v2, hv1, rfl, h2⟩ := hR; obtain rfl := hv1.symm
  have hS : St e s2 w [pt g3 139 ([v2, (.int .i64 x22.i), (.int .i64 x22.h_)]), pt g2 38 ([(.bool false), (.int .i64 0), (.slice none 0 0), (.slice none 0 0)]), pt g1 49 ([(.int .i64 0)] ++ za_47)] := hS
  refine stp hF (p_assign rfl) (by decide) (fun a hF => ?_)
  refine nilN ?_
  refine xn ?_
  refine sq ?_
  refine rg ?_
  refine stp hF (p_move rfl) (by decide) (fun a hF => ?_)
  obtain ⟨x13, hx2, H⟩ := hb H
  refine ste hF (e_callA (fst := []) (vs := [(.pointer (some ⟨g3, 0, none⟩))]) (cap := []) rfl rfl go_89 (St.call (A := [pt g3 139 ([v2, (.int .i64 x22.i), (.int .i64 x22.h_)])]) (B := [pt g2 38 ([(.bool false), (.int .i64 0), (.slice none 0 0), (.slice none 0 0)]), pt g1 49 ([(.int .i64 0)] ++ za_47)]) hS (spec_l3PageAny.spec k _ _ x22.b x22.i x22.h_ v2 g3 h2 _ hx2)) rfl) (by decide) (fun v w a hR hF => ?_)
  obtain ⟨s3, A3, hg2, hS, hR⟩ := hR
  obtain ⟨v3, c3, hv2, rfl, h3, h4⟩ := hR; obtain rfl := hv2.symm
  have hS : St e s3 w [pt g3 139 ([v3, (.int .i64 x13.2.2.1), (.int .i64 x13.2.2.2)]), pt g2 38 ([(.bool false), (.int .i64 0), (.slice none 0 0), (.slice none 0 0)]), pt g1 49 ([(.int .i64 0)] ++ za_47)] := hS
  refine ste hF (e_alloc (cs := [(.int .i64 0)] ++ za_47) hS ti_49 rfl) (by decide) (fun v w a hR hF => ?_)
  obtain ⟨g4, rfl, hS⟩ := hR
  refine ste0 hF (e_stb (i := 0) (l := []) (m := [(.int .i64 0)] ++ za_47) (r := []) (m' := [(.int .i64 x13.1.Lsn)] ++ c3) (cs' := [(.int .i64 x13.1.Lsn)] ++ c3) hS rfl rfl rfl ti_49 (by simp) (by simp [zl_47, (show c3.length = 16 from Kd.len _ h4)]) (by simp [zl_47, (show c3.length = 16 from Kd.len _ h4)]) rfl (by simp [zl_47, (show c3.length = 16 from Kd.len _ h4)]) (one_app (one_cons rfl one_nil) (Kd.one _ h4)) (by simp)) (fun v w a hR hF => ?_)
  have hS : St e s3 w [pt g4 49 ([(.int .i64 x13.1.Lsn)] ++ c3), pt g3 139 ([v3, (.int .i64 x13.2.2.1), (.int .i64 x13.2.2.2)]), pt g2 38 ([(.bool false), (.int .i64 0), (.slice none 0 0), (.slice none 0 0)]), pt g1 49 ([(.int .i64 0)] ++ za_47)] := hR
  refine nilN ?_
  refine xn ?_
  refine sq ?_
  refine rg ?_
  refine stp hF (p_move rfl) (by decide) (fun a hF => ?_)
  replace hS := hS.sel (is := [1, 0, 0, 0]) (A' := [pt g3 139 ([v3, (.int .i64 x13.2.2.1), (.int .i64 x13.2.2.2)]), pt g4 49 ([(.int .i64 x13.1.Lsn)] ++ c3), pt g2 38 ([(.bool false), (.int .i64 0), (.slice none 0 0), (.slice none 0 0)]), pt g1 49 ([(.int .i64 0)] ++ za_47)]) rfl
  obtain ⟨x12, hx3, H⟩ := hb H
  refine ste hF (e_callA (fst := []) (vs := [(.pointer (some ⟨g3, 0, none⟩))]) (cap := []) rfl rfl go_90 (St.call (A := [pt g3 139 ([v3, (.int .i64 x13.2.2.1), (.int .i64 x13.2.2.2)])]) (B := [pt g4 49 ([(.int .i64 x13.1.Lsn)] ++ c3), pt g2 38 ([(.bool false), (.int .i64 0), (.slice none 0 0), (.slice none 0 0)]), pt g1 49 ([(.int .i64 0)] ++ za_47)]) hS (spec_l3DrawSlot.spec k _ _ x13.2.1 x13.2.2.1 x13.2.2.2 v3 g3 h3 _ hx3)) rfl) (by decide) (fun v w a hR hF => ?_)
  obtain ⟨s4, A4, hg3, hS, hR⟩ := hR
  obtain ⟨v4, v5, v6, hv3, rfl, h5⟩ := hR; obtain rfl := hv3.symm
  have hS : St e s4 w [pt g3 139 ([v4, (.int .i64 x12.2.2.1), (.int .i64 x12.2.2.2)]), Ow (Kd.int .i64) 3 v5 x12.1.O.Ints, Ow (Kd.int .i64) 3 v6 x12.1.O.Refs, pt g4 49 ([(.int .i64 x13.1.Lsn)] ++ c3), pt g2 38 ([(.bool false), (.int .i64 0), (.slice none 0 0), (.slice none 0 0)]), pt g1 49 ([(.int .i64 0)] ++ za_47)] := hS
  refine ste hF (e_alloc (cs := [(.bool false), (.int .i64 0), (.slice none 0 0), (.slice none 0 0)]) hS ti_38 rfl) (by decide) (fun v w a hR hF => ?_)
  obtain ⟨g5, rfl, hS⟩ := hR
  refine ste0 hF (e_stb (i := 0) (l := []) (m := [(.bool false), (.int .i64 0), (.slice none 0 0), (.slice none 0 0)]) (r := []) (m' := [(.bool x12.1.Has), (.int .i64 x12.1.O.Kind), v5, v6]) (cs' := [(.bool x12.1.Has), (.int .i64 x12.1.O.Kind), v5, v6]) hS rfl rfl rfl ti_38 rfl rfl rfl rfl rfl (one_cons rfl (one_cons rfl (one_cons (hS.one_ow (i := 2) rfl) (one_cons (hS.one_ow (i := 3) rfl) one_nil)))) rfl) (fun v w a hR hF => ?_)
  have hS : St e s4 w [pt g5 38 ([(.bool x12.1.Has), (.int .i64 x12.1.O.Kind), v5, v6]), pt g3 139 ([v4, (.int .i64 x12.2.2.1), (.int .i64 x12.2.2.2)]), Ow (Kd.int .i64) 3 v5 x12.1.O.Ints, Ow (Kd.int .i64) 3 v6 x12.1.O.Refs, pt g4 49 ([(.int .i64 x13.1.Lsn)] ++ c3), pt g2 38 ([(.bool false), (.int .i64 0), (.slice none 0 0), (.slice none 0 0)]), pt g1 49 ([(.int .i64 0)] ++ za_47)] := hR
  refine nilN ?_
  refine xn ?_
  obtain ⟨x24, H, HK1⟩ := hb H
  refine sqj (fun a w => ∃ (x14 : Bool) (x15 : (List Int)) (x16 : Int) (x17 : Int) (s5 : HF) (v7 : Value) , St e s5 w [pt g5 38 ([(.bool x14), (.int .i64 x12.1.O.Kind), v5, v6]), pt g3 139 ([v7, (.int .i64 x16), (.int .i64 x17)]), Ow (Kd.int .i64) 3 v5 x12.1.O.Ints, Ow (Kd.int .i64) 3 v6 x12.1.O.Refs, pt g4 49 ([(.int .i64 x13.1.Lsn)] ++ c3), pt g2 38 ([(.bool false), (.int .i64 0), (.slice none 0 0), (.slice none 0 0)]), pt g1 49 ([(.int .i64 0)] ++ za_47)] ∧ Fr 29 a [(2, (.pointer (some ⟨g1, 0, none⟩))), (4, (.pointer (some ⟨g2, 0, none⟩))), (6, (.pointer (some ⟨g3, 0, none⟩))), (7, (.pointer (some ⟨g4, 0, none⟩))), (8, (.pointer (some ⟨g5, 0, none⟩)))] ∧ Sub s4 s5 ∧ Sl (Kd.int .u8) s5 v7 x15 ∧ spec_DrawSetSlot.c2 k x12 x13 x14 x15 x16 x17 = some r) ?_ ?_
  · skip
    refine sq ?_
    refine rg ?_
    refine stp hF (p_move rfl) (by decide) (fun a hF => ?_)
    replace hS := hS.sel (is := [1, 0, 0, 0, 0, 0, 0]) (A' := [pt g3 139 ([v4, (.int .i64 x12.2.2.1), (.int .i64 x12.2.2.2)]), pt g5 38 ([(.bool x12.1.Has), (.int .i64 x12.1.O.Kind), v5, v6]), Ow (Kd.int .i64) 3 v5 x12.1.O.Ints, Ow (Kd.int .i64) 3 v6 x12.1.O.Refs, pt g4 49 ([(.int .i64 x13.1.Lsn)] ++ c3), pt g2 38 ([(.bool false), (.int .i64 0), (.slice none 0 0), (.slice none 0 0)]), pt g1 49 ([(.int .i64 0)] ++ za_47)]) rfl
    obtain ⟨x23, hx4, H⟩ := hb H
    refine ste hF (e_callA (fst := []) (vs := [(.pointer (some ⟨g3, 0, none⟩)), (.int .i64 10)]) (cap := []) rfl rfl go_91 (St.call (A := [pt g3 139 ([v4, (.int .i64 x12.2.2.1), (.int .i64 x12.2.2.2)])]) (B := [pt g5 38 ([(.bool x12.1.Has), (.int .i64 x12.1.O.Kind), v5, v6]), Ow (Kd.int .i64) 3 v5 x12.1.O.Ints, Ow (Kd.int .i64) 3 v6 x12.1.O.Refs, pt g4 49 ([(.int .i64 x13.1.Lsn)] ++ c3), pt g2 38 ([(.bool false), (.int .i64 0), (.slice none 0 0), (.slice none 0 0)]), pt g1 49 ([(.int .i64 0)] ++ za_47)]) hS (spec_l1Once.spec k _ _ x12.2.1 x12.2.2.1 x12.2.2.2 10 v4 g3 h5 _ hx4)) rfl) (by decide) (fun v w a hR hF => ?_)
    obtain ⟨s6, A5, hg4, hS, hR⟩ := hR
    obtain ⟨v8, hv4, rfl, h6⟩ := hR; obtain rfl := hv4.symm
    have hS : St e s6 w [pt g3 139 ([v8, (.int .i64 x23.2.2.1), (.int .i64 x23.2.2.2)]), pt g5 38 ([(.bool x12.1.Has), (.int .i64 x12.1.O.Kind), v5, v6]), Ow (Kd.int .i64) 3 v5 x12.1.O.Ints, Ow (Kd.int .i64) 3 v6 x12.1.O.Refs, pt g4 49 ([(.int .i64 x13.1.Lsn)] ++ c3), pt g2 38 ([(.bool false), (.int .i64 0), (.slice none 0 0), (.slice none 0 0)]), pt g1 49 ([(.int .i64 0)] ++ za_47)] := hS
    refine nilN ?_
    refine xn ?_
    refine cnd hF rfl (fun hc1 => ?_) (fun hc1 => ?_)
    · replace H := hbt hc1 H
      refine rg ?_
      refine stp hF (p_fldb (o' := 0) rfl fi_38_0 rfl) (by decide) (fun a hF => ?_)
      refine stp hF (p_ldb_one (i := 1) hS rfl rfl ia_4 rfl) (by decide) (fun a hF => ?_)
      refine stp hF (p_not rfl) (by decide) (fun a hF => ?_)
      refine stp hF (p_fldb (o' := 0) rfl fi_38_0 rfl) (by decide) (fun a hF => ?_)
      refine ste0 hF (e_stb (i := 1) (l := []) (m := [(.bool x12.1.Has)]) (r := [(.int .i64 x12.1.O.Kind), v5, v6]) (m' := [(.bool (!x12.1.Has))]) (cs' := [(.bool (!x12.1.Has)), (.int .i64 x12.1.O.Kind), v5, v6]) hS rfl rfl rfl ti_4 rfl rfl rfl rfl rfl (one_cons rfl one_nil) rfl) (fun v w a hR hF => ?_)
      have hS : St e s6 w [pt g5 38 ([(.bool (!x12.1.Has)), (.int .i64 x12.1.O.Kind), v5, v6]), pt g3 139 ([v8, (.int .i64 x23.2.2.1), (.int .i64 x23.2.2.2)]), Ow (Kd.int .i64) 3 v5 x12.1.O.Ints, Ow (Kd.int .i64) 3 v6 x12.1.O.Refs, pt g4 49 ([(.int .i64 x13.1.Lsn)] ++ c3), pt g2 38 ([(.bool false), (.int .i64 0), (.slice none 0 0), (.slice none 0 0)]), pt g1 49 ([(.int .i64 0)] ++ za_47)] := hR
      refine nilN ?_
      refine xn ?_
      obtain rfl := hsm H
      exact ⟨(!x12.1.Has), x23.2.1, x23.2.2.1, x23.2.2.2, s6, v8, hS, hF.cut ⟨rfl, rfl, rfl, rfl, rfl, trivial⟩, hg4, h6, HK1⟩
    · replace H := hbf hc1 H
      refine skN ?_
      refine xn ?_
      obtain rfl := hsm H
      replace hS := hS.sel (is := [1, 0, 0, 0, 0, 0, 0]) (A' := [pt g5 38 ([(.bool x12.1.Has), (.int .i64 x12.1.O.Kind), v5, v6]), pt g3 139 ([v8, (.int .i64 x23.2.2.1), (.int .i64 x23.2.2.2)]), Ow (Kd.int .i64) 3 v5 x12.1.O.Ints, Ow (Kd.int .i64) 3 v6 x12.1.O.Refs, pt g4 49 ([(.int .i64 x13.1.Lsn)] ++ c3), pt g2 38 ([(.bool false), (.int .i64 0), (.slice none 0 0), (.slice none 0 0)]), pt g1 49 ([(.int .i64 0)] ++ za_47)]) rfl
      exact ⟨x12.1.Has, x23.2.1, x23.2.2.1, x23.2.2.2, s6, v8, hS, hF.cut ⟨rfl, rfl, rfl, rfl, rfl, trivial⟩, hg4, h6, HK1⟩
  · clear H HK1 hS hF
    rintro a w ⟨x14, x15, x16, x17, s5, v7, hS, hF, hg5, h7, H⟩
    unfold spec_DrawSetSlot.c2 at H
    obtain ⟨x20, H, HK2⟩ := hb H
    refine sqj (fun a w => ∃ (x1 : (List Int)) (x2 : Int) (x3 : Int) (x4 : Bool) (x5 : Int) (x6 : (List Int)) (x7 : (List Int)) (x8 : Int) (x9 : (List TSlot)) (x10 : Int) (x11 : Int) (s7 : HF) (v9 : Value) (v10 : Value) (v11 : Value) (c4 : List Value) , St e s7 w [pt g5 38 ([(.bool x14), (.int .i64 x12.1.O.Kind), v5, v6]), pt g3 139 ([v9, (.int .i64 x2), (.int .i64 x3)]), pt g4 49 ([(.int .i64 x13.1.Lsn)] ++ c3), pt g2 38 ([(.bool x4), (.int .i64 x5), v10, v11]), Ow (Kd.int .i64) 3 v10 x6, Ow (Kd.int .i64) 3 v11 x7, pt g1 49 ([(.int .i64 x8)] ++ c4)] ∧ Fr 29 a [(2, (.pointer (some ⟨g1, 0, none⟩))), (3, (.int .i64 x10)), (4, (.pointer (some ⟨g2, 0, none⟩))), (5, (.int .i64 x11))] ∧ Sub s5 s7 ∧ Sl (Kd.int .u8) s7 v9 x1 ∧ ((Kd.arr 4 kTSlot)).K s7 x9 c4 ∧ spec_DrawSetSlot.c1 k x1 x2 x3 x4 x5 x6 x7 x8 x9 x10 x11 = some r) ?_ ?_
    · skip
      replace hS : St e s5 w.drew [pt g5 38 ([(.bool x14), (.int .i64 x12.1.O.Kind), v5, v6]), pt g3 139 ([v7, (.int .i64 x16), (.int .i64 x17)]), Ow (Kd.int .i64) 3 v5 x12.1.O.Ints, Ow (Kd.int .i64) 3 v6 x12.1.O.Refs, pt g4 49 ([(.int .i64 x13.1.Lsn)] ++ c3), pt g2 38 ([(.bool false), (.int .i64 0), (.slice none 0 0), (.slice none 0 0)]), pt g1 49 ([(.int .i64 0)] ++ za_47)] := hS.drewN 1
      refine drw [0, 1, 2, 3, 4, 5, 6, 7, 8, 9, 10, 11] mixed (by kernel_rfl) (by decide) (hF.cut (L' := [(2, (.pointer (some ⟨g1, 0, none⟩))), (4, (.pointer (some ⟨g2, 0, none⟩))), (6, (.pointer (some ⟨g3, 0, none⟩))), (7, (.pointer (some ⟨g4, 0, none⟩))), (8, (.pointer (some ⟨g5, 0, none⟩)))]) ⟨rfl, rfl, rfl, rfl, rfl, trivial⟩) ?_
      clear hF
      generalize w.drew = w at hS ⊢
      refine pk1 rfl (by decide) rfl (by kernel_rfl) rfl (p_ldb_agg (i := 4) (l := []) (m := [(.int .i64 x13.1.Lsn)] ++ c3) (r := []) hS rfl rfl ia_49 ti_49 (by simp) (by simp [(show c3.length = 16 from Kd.len _ ((Kd.arr 4 kTSlot).mono hg5 ((Kd.arr 4 kTSlot).mono hg3 h4)))]) (by simp [(show c3.length = 16 from Kd.len _ ((Kd.arr 4 kTSlot).mono hg5 ((Kd.arr 4 kTSlot).mono hg3 h4)))])) ?_
      refine pk1 rfl (by decide) rfl (by kernel_rfl) rfl (p_move rfl) ?_
      refine pkPerm [4, 2, 3, 5, 6, 7, 8, 9, 10, 11] (by kernel_rfl) ?_
      refine pk1 rfl (by decide) rfl (by kernel_rfl) rfl (p_ldb_agg (i := 0) (l := []) (m := [(.bool x14), (.int .i64 x12.1.O.Kind), v5, v6]) (r := []) hS rfl rfl ia_38 ti_38 rfl rfl rfl) ?_
      refine pkPerm [5, 2, 3, 6, 7, 8, 9, 10, 11] (by kernel_rfl) ?_
      refine pk1 rfl (by decide) rfl (by kernel_rfl) rfl (p_move rfl) ?_
      refine pkAlt [2, 6] (by kernel_rfl) rfl ⟨?_, ?_, trivial⟩
      · skip
        refine altE [5, 4, 1, 0] [3, 6, 7, 8, 9, 10, 11] rfl rfl rfl (by decide) (by kernel_rfl) (e_bslice (kd := (Kd.int .i64)) (et := 3) (ps := [(0, (.const (.int .i64 0))), (1, (.const (.int .i64 1))), (2, (.const (.int .i64 2))), (3, (.const (.int .i64 3))), (4, (.const (.int .i64 3))), (5, (.const (.int .i64 (-1)))), (6, (.const (.int .i64 4)))]) (vs := [(0, (.int .i64 0)), (1, (.int .i64 1)), (2, (.int .i64 2)), (3, (.int .i64 3)), (4, (.int .i64 3)), (5, (.int .i64 (-1))), (6, (.int .i64 4))]) (cs := [(.int .i64 0), (.int .i64 1), (.int .i64 2), (.int .i64 3), (.int .i64 3), (.int .i64 (-1)), (.int .i64 4)]) (xs := ([0, 1, 2, 3, 3, (-1), 4] : List Int)) hS rfl (by intro w; kernel_rfl) rfl (by decide) (Nat.le_of_ble_eq_true rfl) (by exact (rows_cons (kd := (Kd.int .i64)) (x := 0) (c := [(.int .i64 0)]) (cs := [(.int .i64 1), (.int .i64 2), (.int .i64 3), (.int .i64 3), (.int .i64 (-1)), (.int .i64 4)]) rfl (rows_cons (kd := (Kd.int .i64)) (x := 1) (c := [(.int .i64 1)]) (cs := [(.int .i64 2), (.int .i64 3), (.int .i64 3), (.int .i64 (-1)), (.int .i64 4)]) rfl (rows_cons (kd := (Kd.int .i64)) (x := 2) (c := [(.int .i64 2)]) (cs := [(.int .i64 3), (.int .i64 3), (.int .i64 (-1)), (.int .i64 4)]) rfl (rows_cons (kd := (Kd.int .i64)) (x := 3) (c := [(.int .i64 3)]) (cs := [(.int .i64 3), (.int .i64 (-1)), (.int .i64 4)]) rfl (rows_cons (kd := (Kd.int .i64)) (x := 3) (c := [(.int .i64 3)]) (cs := [(.int .i64 (-1)), (.int .i64 4)]) rfl (rows_cons (kd := (Kd.int .i64)) (x := (-1)) (c := [(.int .i64 (-1))]) (cs := [(.int .i64 4)]) rfl (rows_cons (kd := (Kd.int .i64)) (x := 4) (c := [(.int .i64 4)]) (cs := []) rfl (Rows.nil _ _ _ _)))))))))) ?_
        intro v12 w hR
        have hS : St e s5 w [Ow (Kd.int .i64) 3 v12 ([0, 1, 2, 3, 3, (-1), 4] : List Int), pt g5 38 ([(.bool x14), (.int .i64 x12.1.O.Kind), v5, v6]), pt g3 139 ([v7, (.int .i64 x16), (.int .i64 x17)]), Ow (Kd.int .i64) 3 v5 x12.1.O.Ints, Ow (Kd.int .i64) 3 v6 x12.1.O.Refs, pt g4 49 ([(.int .i64 x13.1.Lsn)] ++ c3), pt g2 38 ([(.bool false), (.int .i64 0), (.slice none 0 0), (.slice none 0 0)]), pt g1 49 ([(.int .i64 0)] ++ za_47)] := hR
        refine ⟨⟨knw rfl rfl rfl (p_move rfl), ⟨knw rfl rfl rfl (p_ldb_agg (i := 1) (l := []) (m := [(.bool x14), (.int .i64 x12.1.O.Kind), v5, v6]) (r := []) hS rfl rfl ia_38 ti_38 rfl rfl rfl), ⟨knw rfl rfl rfl (p_move rfl), ⟨knw rfl rfl rfl (p_ldb_agg (i := 5) (l := []) (m := [(.int .i64 x13.1.Lsn)] ++ c3) (r := []) hS rfl rfl ia_49 ti_49 (by simp) (by simp [(show c3.length = 16 from Kd.len _ ((Kd.arr 4 kTSlot).mono hg5 ((Kd.arr 4 kTSlot).mono hg3 h4)))]) (by simp [(show c3.length = 16 from Kd.len _ ((Kd.arr 4 kTSlot).mono hg5 ((Kd.arr 4 kTSlot).mono hg3 h4)))])), trivial⟩⟩⟩⟩, ?_⟩
        refine pkAlt [3, 6] (by kernel_rfl) rfl ⟨?_, ?_, trivial⟩
        · skip
          obtain ⟨s8, hg6, h8, hS⟩ := hS.freeze (i := 0) (kd := (Kd.int .i64)) (et := 3) (v := v12) (xs := ([0, 1, 2, 3, 3, (-1), 4] : List Int)) (B := [pt g5 38 ([(.bool x14), (.int .i64 x12.1.O.Kind), v5, v6]), pt g3 139 ([v7, (.int .i64 x16), (.int .i64 x17)]), Ow (Kd.int .i64) 3 v5 x12.1.O.Ints, Ow (Kd.int .i64) 3 v6 x12.1.O.Refs, pt g4 49 ([(.int .i64 x13.1.Lsn)] ++ c3), pt g2 38 ([(.bool false), (.int .i64 0), (.slice none 0 0), (.slice none 0 0)]), pt g1 49 ([(.int .i64 0)] ++ za_47)]) rfl
          replace hS := hS.sel (is := [1, 0, 0, 0, 0, 0, 0]) (A' := [pt g3 139 ([v7, (.int .i64 x16), (.int .i64 x17)]), pt g5 38 ([(.bool x14), (.int .i64 x12.1.O.Kind), v5, v6]), Ow (Kd.int .i64) 3 v5 x12.1.O.Ints, Ow (Kd.int .i64) 3 v6 x12.1.O.Refs, pt g4 49 ([(.int .i64 x13.1.Lsn)] ++ c3), pt g2 38 ([(.bool false), (.int .i64 0), (.slice none 0 0), (.slice none 0 0)]), pt g1 49 ([(.int .i64 0)] ++ za_47)]) rfl
          obtain ⟨x18, hx5, H⟩ := hb H
          refine altE [5, 4, 0] [6, 7, 8, 9, 10, 11] rfl rfl rfl (by decide) (by kernel_rfl) (e_callA (fst := []) (vs := [(.pointer (some ⟨g3, 0, none⟩)), v12]) (cap := []) rfl rfl go_92 (St.call (A := [pt g3 139 ([v7, (.int .i64 x16), (.int .i64 x17)])]) (B := [pt g5 38 ([(.bool x14), (.int .i64 x12.1.O.Kind), v5, v6]), Ow (Kd.int .i64) 3 v5 x12.1.O.Ints, Ow (Kd.int .i64) 3 v6 x12.1.O.Refs, pt g4 49 ([(.int .i64 x13.1.Lsn)] ++ c3), pt g2 38 ([(.bool false), (.int .i64 0), (.slice none 0 0), (.slice none 0 0)]), pt g1 49 ([(.int .i64 0)] ++ za_47)]) hS (spec_l1Int.spec k _ _ x15 x16 x17 ([0, 1, 2, 3, 3, (-1), 4] : List Int) v7 g3 v12 (h7.mono hg6) h8 _ hx5)) rfl) ?_
          intro v w hR
          obtain ⟨s9, A6, hg7, hS, hR⟩ := hR
          obtain ⟨v13, hv5, rfl, h9⟩ := hR; obtain rfl := hv5.symm
          have hS : St e s9 w [pt g3 139 ([v13, (.int .i64 x18.2.2.1), (.int .i64 x18.2.2.2)]), pt g5 38 ([(.bool x14), (.int .i64 x12.1.O.Kind), v5, v6]), Ow (Kd.int .i64) 3 v5 x12.1.O.Ints, Ow (Kd.int .i64) 3 v6 x12.1.O.Refs, pt g4 49 ([(.int .i64 x13.1.Lsn)] ++ c3), pt g2 38 ([(.bool false), (.int .i64 0), (.slice none 0 0), (.slice none 0 0)]), pt g1 49 ([(.int .i64 0)] ++ za_47)] := hS
          refine ⟨⟨knw rfl rfl rfl (p_move rfl), ⟨knw rfl rfl rfl (p_ldb_agg (i := 1) (l := []) (m := [(.bool x14), (.int .i64 x12.1.O.Kind), v5, v6]) (r := []) hS rfl rfl ia_38 ti_38 rfl rfl rfl), ⟨knw rfl rfl rfl (p_ldb_agg (i := 4) (l := []) (m := [(.int .i64 x13.1.Lsn)] ++ c3) (r := []) hS rfl rfl ia_49 ti_49 (by simp) (by simp [(show c3.length = 16 from Kd.len _ ((Kd.arr 4 kTSlot).mono hg7 ((Kd.arr 4 kTSlot).mono hg6 ((Kd.arr 4 kTSlot).mono hg5 ((Kd.arr 4 kTSlot).mono hg3 h4)))))]) (by simp [(show c3.length = 16 from Kd.len _ ((Kd.arr 4 kTSlot).mono hg7 ((Kd.arr 4 kTSlot).mono hg6 ((Kd.arr 4 kTSlot).mono hg5 ((Kd.arr 4 kTSlot).mono hg3 h4)))))])), trivial⟩⟩⟩, ?_⟩
          refine pkE [5, 4, 0] rfl (by decide) (by kernel_rfl) (by kernel_rfl) (e_bslice (kd := (Kd.int .i64)) (et := 3) (ps := [(0, (.const (.int .i64 30))), (1, (.const (.int .i64 31))), (2, (.const (.int .i64 0))), (3, (.const (.int .i64 1000000))), (4, (.const (.int .i64 1000001))), (5, (.const (.int .i64 40)))]) (vs := [(0, (.int .i64 30)), (1, (.int .i64 31)), (2, (.int .i64 0)), (3, (.int .i64 1000000)), (4, (.int .i64 1000001)), (5, (.int .i64 40))]) (cs := [(.int .i64 30), (.int .i64 31), (.int .i64 0), (.int .i64 1000000), (.int .i64 1000001), (.int .i64 40)]) (xs := ([30, 31, 0, 1000000, 1000001, 40] : List Int)) hS rfl (by intro w; kernel_rfl) rfl (by decide) (Nat.le_of_ble_eq_true rfl) (by exact (rows_cons (kd := (Kd.int .i64)) (x := 30) (c := [(.int .i64 30)]) (cs := [(.int .i64 31), (.int .i64 0), (.int .i64 1000000), (.int .i64 1000001), (.int .i64 40)]) rfl (rows_cons (kd := (Kd.int .i64)) (x := 31) (c := [(.int .i64 31)]) (cs := [(.int .i64 0), (.int .i64 1000000), (.int .i64 1000001), (.int .i64 40)]) rfl (rows_cons (kd := (Kd.int .i64)) (x := 0) (c := [(.int .i64 0)]) (cs := [(.int .i64 1000000), (.int .i64 1000001), (.int .i64 40)]) rfl (rows_cons (kd := (Kd.int .i64)) (x := 1000000) (c := [(.int .i64 1000000)]) (cs := [(.int .i64 1000001), (.int .i64 40)]) rfl (rows_cons (kd := (Kd.int .i64)) (x := 1000001) (c := [(.int .i64 1000001)]) (cs := [(.int .i64 40)]) rfl (rows_cons (kd := (Kd.int .i64)) (x := 40) (c := [(.int .i64 40)]) (cs := []) rfl (Rows.nil _ _ _ _))))))))) ?_
          intro v14 w hR
          have hS : St e s9 w [Ow (Kd.int .i64) 3 v14 ([30, 31, 0, 1000000, 1000001, 40] : List Int), pt g3 139 ([v13, (.int .i64 x18.2.2.1), (.int .i64 x18.2.2.2)]), pt g5 38 ([(.bool x14), (.int .i64 x12.1.O.Kind), v5, v6]), Ow (Kd.int .i64) 3 v5 x12.1.O.Ints, Ow (Kd.int .i64) 3 v6 x12.1.O.Refs, pt g4 49 ([(.int .i64 x13.1.Lsn)] ++ c3), pt g2 38 ([(.bool false), (.int .i64 0), (.slice none 0 0), (.slice none 0 0)]), pt g1 49 ([(.int .i64 0)] ++ za_47)] := hR
          refine ⟨⟨knw rfl rfl rfl (p_move rfl), ⟨knw rfl rfl rfl (p_ldb_agg (i := 2) (l := []) (m := [(.bool x14), (.int .i64 x12.1.O.Kind), v5, v6]) (r := []) hS rfl rfl ia_38 ti_38 rfl rfl rfl), ⟨knw rfl rfl rfl (p_ldb_agg (i := 5) (l := []) (m := [(.int .i64 x13.1.Lsn)] ++ c3) (r := []) hS rfl rfl ia_49 ti_49 (by simp) (by simp [(show c3.length = 16 from Kd.len _ ((Kd.arr 4 kTSlot).mono hg7 ((Kd.arr 4 kTSlot).mono hg6 ((Kd.arr 4 kTSlot).mono hg5 ((Kd.arr 4 kTSlot).mono hg3 h4)))))]) (by simp [(show c3.length = 16 from Kd.len _ ((Kd.arr 4 kTSlot).mono hg7 ((Kd.arr 4 kTSlot).mono hg6 ((Kd.arr 4 kTSlot).mono hg5 ((Kd.arr 4 kTSlot).mono hg3 h4)))))])), trivial⟩⟩⟩, ?_⟩
          obtain ⟨s10, hg8, h10, hS⟩ := hS.freeze (i := 0) (kd := (Kd.int .i64)) (et := 3) (v := v14) (xs := ([30, 31, 0, 1000000, 1000001, 40] : List Int)) (B := [pt g3 139 ([v13, (.int .i64 x18.2.2.1), (.int .i64 x18.2.2.2)]), pt g5 38 ([(.bool x14), (.int .i64 x12.1.O.Kind), v5, v6]), Ow (Kd.int .i64) 3 v5 x12.1.O.Ints, Ow (Kd.int .i64) 3 v6 x12.1.O.Refs, pt g4 49 ([(.int .i64 x13.1.Lsn)] ++ c3), pt g2 38 ([(.bool false), (.int .i64 0), (.slice none 0 0), (.slice none 0 0)]), pt g1 49 ([(.int .i64 0)] ++ za_47)]) rfl
          obtain ⟨x19, hx6, H⟩ := hb H
          refine pkE [4, 0] rfl (by decide) (by kernel_rfl) (by kernel_rfl) (e_callA (fst := []) (vs := [(.pointer (some ⟨g3, 0, none⟩)), v14]) (cap := []) rfl rfl go_92 (St.call (A := [pt g3 139 ([v13, (.int .i64 x18.2.2.1), (.int .i64 x18.2.2.2)])]) (B := [pt g5 38 ([(.bool x14), (.int .i64 x12.1.O.Kind), v5, v6]), Ow (Kd.int .i64) 3 v5 x12.1.O.Ints, Ow (Kd.int .i64) 3 v6 x12.1.O.Refs, pt g4 49 ([(.int .i64 x13.1.Lsn)] ++ c3), pt g2 38 ([(.bool false), (.int .i64 0), (.slice none 0 0), (.slice none 0 0)]), pt g1 49 ([(.int .i64 0)] ++ za_47)]) hS (spec_l1Int.spec k _ _ x18.2.1 x18.2.2.1 x18.2.2.2 ([30, 31, 0, 1000000, 1000001, 40] : List Int) v13 g3 v14 (h9.mono hg8) h10 _ hx6)) rfl) ?_
          intro v w hR
          obtain ⟨s11, A7, hg9, hS, hR⟩ := hR
          obtain ⟨v15, hv6, rfl, h11⟩ := hR; obtain rfl := hv6.symm
          have hS : St e s11 w [pt g3 139 ([v15, (.int .i64 x19.2.2.1), (.int .i64 x19.2.2.2)]), pt g5 38 ([(.bool x14), (.int .i64 x12.1.O.Kind), v5, v6]), Ow (Kd.int .i64) 3 v5 x12.1.O.Ints, Ow (Kd.int .i64) 3 v6 x12.1.O.Refs, pt g4 49 ([(.int .i64 x13.1.Lsn)] ++ c3), pt g2 38 ([(.bool false), (.int .i64 0), (.slice none 0 0), (.slice none 0 0)]), pt g1 49 ([(.int .i64 0)] ++ za_47)] := hS
          refine ⟨⟨knw rfl rfl rfl (p_ldb_agg (i := 1) (l := []) (m := [(.bool x14), (.int .i64 x12.1.O.Kind), v5, v6]) (r := []) hS rfl rfl ia_38 ti_38 rfl rfl rfl), ⟨knw rfl rfl rfl (p_ldb_agg (i := 4) (l := []) (m := [(.int .i64 x13.1.Lsn)] ++ c3) (r := []) hS rfl rfl ia_49 ti_49 (by simp) (by simp [(show c3.length = 16 from Kd.len _ ((Kd.arr 4 kTSlot).mono hg9 ((Kd.arr 4 kTSlot).mono hg8 ((Kd.arr 4 kTSlot).mono hg7 ((Kd.arr 4 kTSlot).mono hg6 ((Kd.arr 4 kTSlot).mono hg5 ((Kd.arr 4 kTSlot).mono hg3 h4)))))))]) (by simp [(show c3.length = 16 from Kd.len _ ((Kd.arr 4 kTSlot).mono hg9 ((Kd.arr 4 kTSlot).mono hg8 ((Kd.arr 4 kTSlot).mono hg7 ((Kd.arr 4 kTSlot).mono hg6 ((Kd.arr 4 kTSlot).mono hg5 ((Kd.arr 4 kTSlot).mono hg3 h4)))))))])), trivial⟩⟩, ?_⟩
          refine pkE0 [4] rfl (by kernel_rfl) (by kernel_rfl) (e_stb (i := 6) (l := []) (m := [(.int .i64 0)] ++ za_47) (r := []) (m' := [(.int .i64 x13.1.Lsn)] ++ c3) (cs' := [(.int .i64 x13.1.Lsn)] ++ c3) hS rfl rfl rfl ti_49 (by simp) (by simp [zl_47, (show c3.length = 16 from Kd.len _ ((Kd.arr 4 kTSlot).mono hg9 ((Kd.arr 4 kTSlot).mono hg8 ((Kd.arr 4 kTSlot).mono hg7 ((Kd.arr 4 kTSlot).mono hg6 ((Kd.arr 4 kTSlot).mono hg5 ((Kd.arr 4 kTSlot).mono hg3 h4)))))))]) (by simp [zl_47, (show c3.length = 16 from Kd.len _ ((Kd.arr 4 kTSlot).mono hg9 ((Kd.arr 4 kTSlot).mono hg8 ((Kd.arr 4 kTSlot).mono hg7 ((Kd.arr 4 kTSlot).mono hg6 ((Kd.arr 4 kTSlot).mono hg5 ((Kd.arr 4 kTSlot).mono hg3 h4)))))))]) rfl (by simp [zl_47, (show c3.length = 16 from Kd.len _ ((Kd.arr 4 kTSlot).mono hg9 ((Kd.arr 4 kTSlot).mono hg8 ((Kd.arr 4 kTSlot).mono hg7 ((Kd.arr 4 kTSlot).mono hg6 ((Kd.arr 4 kTSlot).mono hg5 ((Kd.arr 4 kTSlot).mono hg3 h4)))))))]) (one_app (one_cons rfl one_nil) (Kd.one _ ((Kd.arr 4 kTSlot).mono hg9 ((Kd.arr 4 kTSlot).mono hg8 ((Kd.arr 4 kTSlot).mono hg7 ((Kd.arr 4 kTSlot).mono hg6 ((Kd.arr 4 kTSlot).mono hg5 ((Kd.arr 4 kTSlot).mono hg3 h4)))))))) (by simp)) ?_
          intro v w hR
          have hS : St e s11 w [pt g1 49 ([(.int .i64 x13.1.Lsn)] ++ c3), pt g3 139 ([v15, (.int .i64 x19.2.2.1), (.int .i64 x19.2.2.2)]), pt g5 38 ([(.bool x14), (.int .i64 x12.1.O.Kind), v5, v6]), Ow (Kd.int .i64) 3 v5 x12.1.O.Ints, Ow (Kd.int .i64) 3 v6 x12.1.O.Refs, pt g4 49 ([(.int .i64 x13.1.Lsn)] ++ c3), pt g2 38 ([(.bool false), (.int .i64 0), (.slice none 0 0), (.slice none 0 0)])] := hR
          refine ⟨⟨knw rfl rfl rfl (p_ldb_agg (i := 2) (l := []) (m := [(.bool x14), (.int .i64 x12.1.O.Kind), v5, v6]) (r := []) hS rfl rfl ia_38 ti_38 rfl rfl rfl), trivial⟩, ?_⟩
          refine pkE [4] rfl (by decide) (by kernel_rfl) (by kernel_rfl) (puEf (p_assign rfl)) ?_
          rintro v w' ⟨hv, rfl⟩
          obtain rfl := hv.symm
          refine ⟨⟨knw rfl rfl rfl (p_ldb_agg (i := 2) (l := []) (m := [(.bool x14), (.int .i64 x12.1.O.Kind), v5, v6]) (r := []) hS rfl rfl ia_38 ti_38 rfl rfl rfl), trivial⟩, ?_⟩
          refine pkE0 [] rfl (by kernel_rfl) (by kernel_rfl) (e_stb (i := 6) (l := []) (m := [(.bool false), (.int .i64 0), (.slice none 0 0), (.slice none 0 0)]) (r := []) (m' := [(.bool x14), (.int .i64 x12.1.O.Kind), v5, v6]) (cs' := [(.bool x14), (.int .i64 x12.1.O.Kind), v5, v6]) hS rfl rfl rfl ti_38 rfl rfl rfl rfl rfl (one_cons rfl (one_cons rfl (one_cons (hS.one_ow (i := 3) rfl) (one_cons (hS.one_ow (i := 4) rfl) one_nil)))) rfl) ?_
          intro v w hR
          have hS : St e s11 w [pt g2 38 ([(.bool x14), (.int .i64 x12.1.O.Kind), v5, v6]), pt g1 49 ([(.int .i64 x13.1.Lsn)] ++ c3), pt g3 139 ([v15, (.int .i64 x19.2.2.1), (.int .i64 x19.2.2.2)]), pt g5 38 ([(.bool x14), (.int .i64 x12.1.O.Kind), v5, v6]), Ow (Kd.int .i64) 3 v5 x12.1.O.Ints, Ow (Kd.int .i64) 3 v6 x12.1.O.Refs, pt g4 49 ([(.int .i64 x13.1.Lsn)] ++ c3)] := hR
          refine ⟨trivial, ?_⟩
          refine pkE [] rfl (by decide) (by kernel_rfl) (by kernel_rfl) (puEf (p_assign rfl)) ?_
          rintro v w' ⟨hv, rfl⟩
          obtain rfl := hv.symm
          refine ⟨trivial, ?_⟩
          refine pkF (fun a hF => ?_)
          refine xn ?_
          obtain rfl := hsm H
          replace hS := hS.sel (is := [3, 2, 4, 0, 1, 1, 0]) (A' := [pt g5 38 ([(.bool x14), (.int .i64 x12.1.O.Kind), v5, v6]), pt g3 139 ([v15, (.int .i64 x19.2.2.1), (.int .i64 x19.2.2.2)]), pt g4 49 ([(.int .i64 x13.1.Lsn)] ++ c3), pt g2 38 ([(.bool x14), (.int .i64 x12.1.O.Kind), v5, v6]), Ow (Kd.int .i64) 3 v5 x12.1.O.Ints, Ow (Kd.int .i64) 3 v6 x12.1.O.Refs, pt g1 49 ([(.int .i64 x13.1.Lsn)] ++ c3)]) rfl
          exact ⟨x19.2.1, x19.2.2.1, x19.2.2.2, x14, x12.1.O.Kind, x12.1.O.Ints, x12.1.O.Refs, x13.1.Lsn, x13.1.Slots, x18.1, x19.1, s11, v15, v5, v6, c3, hS, hF.cut ⟨rfl, rfl, rfl, rfl, trivial⟩, (((hg6.trans hg7).trans hg8).trans hg9), h11, ((Kd.arr 4 kTSlot).mono hg9 ((Kd.arr 4 kTSlot).mono hg8 ((Kd.arr 4 kTSlot).mono hg7 ((Kd.arr 4 kTSlot).mono hg6 ((Kd.arr 4 kTSlot).mono hg5 ((Kd.arr 4 kTSlot).mono hg3 h4)))))), HK2⟩
        · skip
          refine altE [5, 4, 1, 0] [3, 7, 8, 9, 10, 11] rfl rfl rfl (by decide) (by kernel_rfl) (e_bslice (kd := (Kd.int .i64)) (et := 3) (ps := [(0, (.const (.int .i64 30))), (1, (.const (.int .i64 31))), (2, (.const (.int .i64 0))), (3, (.const (.int .i64 1000000))), (4, (.const (.int .i64 1000001))), (5, (.const (.int .i64 40)))]) (vs := [(0, (.int .i64 30)), (1, (.int .i64 31)), (2, (.int .i64 0)), (3, (.int .i64 1000000)), (4, (.int .i64 1000001)), (5, (.int .i64 40))]) (cs := [(.int .i64 30), (.int .i64 31), (.int .i64 0), (.int .i64 1000000), (.int .i64 1000001), (.int .i64 40)]) (xs := ([30, 31, 0, 1000000, 1000001, 40] : List Int)) hS rfl (by intro w; kernel_rfl) rfl (by decide) (Nat.le_of_ble_eq_true rfl) (by exact (rows_cons (kd := (Kd.int .i64)) (x := 30) (c := [(.int .i64 30)]) (cs := [(.int .i64 31), (.int .i64 0), (.int .i64 1000000), (.int .i64 1000001), (.int .i64 40)]) rfl (rows_cons (kd := (Kd.int .i64)) (x := 31) (c := [(.int .i64 31)]) (cs := [(.int .i64 0), (.int .i64 1000000), (.int .i64 1000001), (.int .i64 40)]) rfl (rows_cons (kd := (Kd.int .i64)) (x := 0) (c := [(.int .i64 0)]) (cs := [(.int .i64 1000000), (.int .i64 1000001), (.int .i64 40)]) rfl (rows_cons (kd := (Kd.int .i64)) (x := 1000000) (c := [(.int .i64 1000000)]) (cs := [(.int .i64 1000001), (.int .i64 40)]) rfl (rows_cons (kd := (Kd.int .i64)) (x := 1000001) (c := [(.int .i64 1000001)]) (cs := [(.int .i64 40)]) rfl (rows_cons (kd := (Kd.int .i64)) (x := 40) (c := [(.int .i64 40)]) (cs := []) rfl (Rows.nil _ _ _ _))))))))) ?_
          intro v16 w hR
          have hS : St e s5 w [Ow (Kd.int .i64) 3 v16 ([30, 31, 0, 1000000, 1000001, 40] : List Int), Ow (Kd.int .i64) 3 v12 ([0, 1, 2, 3, 3, (-1), 4] : List Int), pt g5 38 ([(.bool x14), (.int .i64 x12.1.O.Kind), v5, v6]), pt g3 139 ([v7, (.int .i64 x16), (.int .i64 x17)]), Ow (Kd.int .i64) 3 v5 x12.1.O.Ints, Ow (Kd.int .i64) 3 v6 x12.1.O.Refs, pt g4 49 ([(.int .i64 x13.1.Lsn)] ++ c3), pt g2 38 ([(.bool false), (.int .i64 0), (.slice none 0 0), (.slice none 0 0)]), pt g1 49 ([(.int .i64 0)] ++ za_47)] := hR
          refine ⟨⟨knw rfl rfl rfl (p_move rfl), ⟨knw rfl rfl rfl (p_ldb_agg (i := 2) (l := []) (m := [(.bool x14), (.int .i64 x12.1.O.Kind), v5, v6]) (r := []) hS rfl rfl ia_38 ti_38 rfl rfl rfl), ⟨knw rfl rfl rfl (p_move rfl), ⟨knw rfl rfl rfl (p_ldb_agg (i := 6) (l := []) (m := [(.int .i64 x13.1.Lsn)] ++ c3) (r := []) hS rfl rfl ia_49 ti_49 (by simp) (by simp [(show c3.length = 16 from Kd.len _ ((Kd.arr 4 kTSlot).mono hg5 ((Kd.arr 4 kTSlot).mono hg3 h4)))]) (by simp [(show c3.length = 16 from Kd.len _ ((Kd.arr 4 kTSlot).mono hg5 ((Kd.arr 4 kTSlot).mono hg3 h4)))])), trivial⟩⟩⟩⟩, ?_⟩
          obtain ⟨s12, hg10, h12, hS⟩ := hS.freeze (i := 1) (kd := (Kd.int .i64)) (et := 3) (v := v12) (xs := ([0, 1, 2, 3, 3, (-1), 4] : List Int)) (B := [Ow (Kd.int .i64) 3 v16 ([30, 31, 0, 1000000, 1000001, 40] : List Int), pt g5 38 ([(.bool x14), (.int .i64 x12.1.O.Kind), v5, v6]), pt g3 139 ([v7, (.int .i64 x16), (.int .i64 x17)]), Ow (Kd.int .i64) 3 v5 x12.1.O.Ints, Ow (Kd.int .i64) 3 v6 x12.1.O.Refs, pt g4 49 ([(.int .i64 x13.1.Lsn)] ++ c3), pt g2 38 ([(.bool false), (.int .i64 0), (.slice none 0 0), (.slice none 0 0)]), pt g1 49 ([(.int .i64 0)] ++ za_47)]) rfl
          replace hS := hS.sel (is := [2, 0, 0, 0, 0, 0, 0, 0]) (A' := [pt g3 139 ([v7, (.int .i64 x16), (.int .i64 x17)]), Ow (Kd.int .i64) 3 v16 ([30, 31, 0, 1000000, 1000001, 40] : List Int), pt g5 38 ([(.bool x14), (.int .i64 x12.1.O.Kind), v5, v6]), Ow (Kd.int .i64) 3 v5 x12.1.O.Ints, Ow (Kd.int .i64) 3 v6 x12.1.O.Refs, pt g4 49 ([(.int .i64 x13.1.Lsn)] ++ c3), pt g2 38 ([(.bool false), (.int .i64 0), (.slice none 0 0), (.slice none 0 0)]), pt g1 49 ([(.int .i64 0)] ++ za_47)]) rfl
          obtain ⟨x25, hx7, H⟩ := hb H
          refine pkE [5, 4, 0] rfl (by decide) (by kernel_rfl) (by kernel_rfl) (e_callA (fst := []) (vs := [(.pointer (some ⟨g3, 0, none⟩)), v12]) (cap := []) rfl rfl go_92 (St.call (A := [pt g3 139 ([v7, (.int .i64 x16), (.int .i64 x17)])]) (B := [Ow (Kd.int .i64) 3 v16 ([30, 31, 0, 1000000, 1000001, 40] : List Int), pt g5 38 ([(.bool x14), (.int .i64 x12.1.O.Kind), v5, v6]), Ow (Kd.int .i64) 3 v5 x12.1.O.Ints, Ow (Kd.int .i64) 3 v6 x12.1.O.Refs, pt g4 49 ([(.int .i64 x13.1.Lsn)] ++ c3), pt g2 38 ([(.bool false), (.int .i64 0), (.slice none 0 0), (.slice none 0 0)]), pt g1 49 ([(.int .i64 0)] ++ za_47)]) hS (spec_l1Int.spec k _ _ x15 x16 x17 ([0, 1, 2, 3, 3, (-1), 4] : List Int) v7 g3 v12 (h7.mono hg10) h12 _ hx7)) rfl) ?_
          intro v w hR
          obtain ⟨s13, A8, hg11, hS, hR⟩ := hR
          obtain ⟨v17, hv7, rfl, h13⟩ := hR; obtain rfl := hv7.symm
          have hS : St e s13 w [pt g3 139 ([v17, (.int .i64 x25.2.2.1), (.int .i64 x25.2.2.2)]), Ow (Kd.int .i64) 3 v16 ([30, 31, 0, 1000000, 1000001, 40] : List Int), pt g5 38 ([(.bool x14), (.int .i64 x12.1.O.Kind), v5, v6]), Ow (Kd.int .i64) 3 v5 x12.1.O.Ints, Ow (Kd.int .i64) 3 v6 x12.1.O.Refs, pt g4 49 ([(.int .i64 x13.1.Lsn)] ++ c3), pt g2 38 ([(.bool false), (.int .i64 0), (.slice none 0 0), (.slice none 0 0)]), pt g1 49 ([(.int .i64 0)] ++ za_47)] := hS
          refine ⟨⟨knw rfl rfl rfl (p_move rfl), ⟨knw rfl rfl rfl (p_ldb_agg (i := 2) (l := []) (m := [(.bool x14), (.int .i64 x12.1.O.Kind), v5, v6]) (r := []) hS rfl rfl ia_38 ti_38 rfl rfl rfl), ⟨knw rfl rfl rfl (p_ldb_agg (i := 5) (l := []) (m := [(.int .i64 x13.1.Lsn)] ++ c3) (r := []) hS rfl rfl ia_49 ti_49 (by simp) (by simp [(show c3.length = 16 from Kd.len _ ((Kd.arr 4 kTSlot).mono hg11 ((Kd.arr 4 kTSlot).mono hg10 ((Kd.arr 4 kTSlot).mono hg5 ((Kd.arr 4 kTSlot).mono hg3 h4)))))]) (by simp [(show c3.length = 16 from Kd.len _ ((Kd.arr 4 kTSlot).mono hg11 ((Kd.arr 4 kTSlot).mono hg10 ((Kd.arr 4 kTSlot).mono hg5 ((Kd.arr 4 kTSlot).mono hg3 h4)))))])), trivial⟩⟩⟩, ?_⟩
          obtain ⟨s14, hg12, h14, hS⟩ := hS.freeze (i := 1) (kd := (Kd.int .i64)) (et := 3) (v := v16) (xs := ([30, 31, 0, 1000000, 1000001, 40] : List Int)) (B := [pt g3 139 ([v17, (.int .i64 x25.2.2.1), (.int .i64 x25.2.2.2)]), pt g5 38 ([(.bool x14), (.int .i64 x12.1.O.Kind), v5, v6]), Ow (Kd.int .i64) 3 v5 x12.1.O.Ints, Ow (Kd.int .i64) 3 v6 x12.1.O.Refs, pt g4 49 ([(.int .i64 x13.1.Lsn)] ++ c3), pt g2 38 ([(.bool false), (.int .i64 0), (.slice none 0 0), (.slice none 0 0)]), pt g1 49 ([(.int .i64 0)] ++ za_47)]) rfl
          obtain ⟨x26, hx8, H⟩ := hb H
          refine pkE [4, 0] rfl (by decide) (by kernel_rfl) (by kernel_rfl) (e_callA (fst := []) (vs := [(.pointer (some ⟨g3, 0, none⟩)), v16]) (cap := []) rfl rfl go_92 (St.call (A := [pt g3 139 ([v17, (.int .i64 x25.2.2.1), (.int .i64 x25.2.2.2)])]) (B := [pt g5 38 ([(.bool x14), (.int .i64 x12.1.O.Kind), v5, v6]), Ow (Kd.int .i64) 3 v5 x12.1.O.Ints, Ow (Kd.int .i64) 3 v6 x12.1.O.Refs, pt g4 49 ([(.int .i64 x13.1.Lsn)] ++ c3), pt g2 38 ([(.bool false), (.int .i64 0), (.slice none 0 0), (.slice none 0 0)]), pt g1 49 ([(.int .i64 0)] ++ za_47)]) hS (spec_l1Int.spec k _ _ x25.2.1 x25.2.2.1 x25.2.2.2 ([30, 31, 0, 1000000, 1000001, 40] : List Int) v17 g3 v16 (h13.mono hg12) h14 _ hx8)) rfl) ?_
          intro v w hR
          obtain ⟨s15, A9, hg13, hS, hR⟩ := hR
          obtain ⟨v18, hv8, rfl, h15⟩ := hR; obtain rfl := hv8.symm
          have hS : St e s15 w [pt g3 139 ([v18, (.int .i64 x26.2.2.1), (.int .i64 x26.2.2.2)]), pt g5 38 ([(.bool x14), (.int .i64 x12.1.O.Kind), v5, v6]), Ow (Kd.int .i64) 3 v5 x12.1.O.Ints, Ow (Kd.int .i64) 3 v6 x12.1.O.Refs, pt g4 49 ([(.int .i64 x13.1.Lsn)] ++ c3), pt g2 38 ([(.bool false), (.int .i64 0), (.slice none 0 0), (.slice none 0 0)]), pt g1 49 ([(.int .i64 0)] ++ za_47)] := hS
          refine ⟨⟨knw rfl rfl rfl (p_ldb_agg (i := 1) (l := []) (m := [(.bool x14), (.int .i64 x12.1.O.Kind), v5, v6]) (r := []) hS rfl rfl ia_38 ti_38 rfl rfl rfl), ⟨knw rfl rfl rfl (p_ldb_agg (i := 4) (l := []) (m := [(.int .i64 x13.1.Lsn)] ++ c3) (r := []) hS rfl rfl ia_49 ti_49 (by simp) (by simp [(show c3.length = 16 from Kd.len _ ((Kd.arr 4 kTSlot).mono hg13 ((Kd.arr 4 kTSlot).mono hg12 ((Kd.arr 4 kTSlot).mono hg11 ((Kd.arr 4 kTSlot).mono hg10 ((Kd.arr 4 kTSlot).mono hg5 ((Kd.arr 4 kTSlot).mono hg3 h4)))))))]) (by simp [(show c3.length = 16 from Kd.len _ ((Kd.arr 4 kTSlot).mono hg13 ((Kd.arr 4 kTSlot).mono hg12 ((Kd.arr 4 kTSlot).mono hg11 ((Kd.arr 4 kTSlot).mono hg10 ((Kd.arr 4 kTSlot).mono hg5 ((Kd.arr 4 kTSlot).mono hg3 h4)))))))])), trivial⟩⟩, ?_⟩
          refine pkE0 [4] rfl (by kernel_rfl) (by kernel_rfl) (e_stb (i := 6) (l := []) (m := [(.int .i64 0)] ++ za_47) (r := []) (m' := [(.int .i64 x13.1.Lsn)] ++ c3) (cs' := [(.int .i64 x13.1.Lsn)] ++ c3) hS rfl rfl rfl ti_49 (by simp) (by simp [zl_47, (show c3.length = 16 from Kd.len _ ((Kd.arr 4 kTSlot).mono hg13 ((Kd.arr 4 kTSlot).mono hg12 ((Kd.arr 4 kTSlot).mono hg11 ((Kd.arr 4 kTSlot).mono hg10 ((Kd.arr 4 kTSlot).mono hg5 ((Kd.arr 4 kTSlot).mono hg3 h4)))))))]) (by simp [zl_47, (show c3.length = 16 from Kd.len _ ((Kd.arr 4 kTSlot).mono hg13 ((Kd.arr 4 kTSlot).mono hg12 ((Kd.arr 4 kTSlot).mono hg11 ((Kd.arr 4 kTSlot).mono hg10 ((Kd.arr 4 kTSlot).mono hg5 ((Kd.arr 4 kTSlot).mono hg3 h4)))))))]) rfl (by simp [zl_47, (show c3.length = 16 from Kd.len _ ((Kd.arr 4 kTSlot).mono hg13 ((Kd.arr 4 kTSlot).mono hg12 ((Kd.arr 4 kTSlot).mono hg11 ((Kd.arr 4 kTSlot).mono hg10 ((Kd.arr 4 kTSlot).mono hg5 ((Kd.arr 4 kTSlot).mono hg3 h4)))))))]) (one_app (one_cons rfl one_nil) (Kd.one _ ((Kd.arr 4 kTSlot).mono hg13 ((Kd.arr 4 kTSlot).mono hg12 ((Kd.arr 4 kTSlot).mono hg11 ((Kd.arr 4 kTSlot).mono hg10 ((Kd.arr 4 kTSlot).mono hg5 ((Kd.arr 4 kTSlot).mono hg3 h4)))))))) (by simp)) ?_
          intro v w hR
          have hS : St e s15 w [pt g1 49 ([(.int .i64 x13.1.Lsn)] ++ c3), pt g3 139 ([v18, (.int .i64 x26.2.2.1), (.int .i64 x26.2.2.2)]), pt g5 38 ([(.bool x14), (.int .i64 x12.1.O.Kind), v5, v6]), Ow (Kd.int .i64) 3 v5 x12.1.O.Ints, Ow (Kd.int .i64) 3 v6 x12.1.O.Refs, pt g4 49 ([(.int .i64 x13.1.Lsn)] ++ c3), pt g2 38 ([(.bool false), (.int .i64 0), (.slice none 0 0), (.slice none 0 0)])] := hR
          refine ⟨⟨knw rfl rfl rfl (p_ldb_agg (i := 2) (l := []) (m := [(.bool x14), (.int .i64 x12.1.O.Kind), v5, v6]) (r := []) hS rfl rfl ia_38 ti_38 rfl rfl rfl), trivial⟩, ?_⟩
          refine pkE [4] rfl (by decide) (by kernel_rfl) (by kernel_rfl) (puEf (p_assign rfl)) ?_
          rintro v w' ⟨hv, rfl⟩
          obtain rfl := hv.symm
          refine ⟨⟨knw rfl rfl rfl (p_ldb_agg (i := 2) (l := []) (m := [(.bool x14), (.int .i64 x12.1.O.Kind), v5, v6]) (r := []) hS rfl rfl ia_38 ti_38 rfl rfl rfl), trivial⟩, ?_⟩
          refine pkE0 [] rfl (by kernel_rfl) (by kernel_rfl) (e_stb (i := 6) (l := []) (m := [(.bool false), (.int .i64 0), (.slice none 0 0), (.slice none 0 0)]) (r := []) (m' := [(.bool x14), (.int .i64 x12.1.O.Kind), v5, v6]) (cs' := [(.bool x14), (.int .i64 x12.1.O.Kind), v5, v6]) hS rfl rfl rfl ti_38 rfl rfl rfl rfl rfl (one_cons rfl (one_cons rfl (one_cons (hS.one_ow (i := 3) rfl) (one_cons (hS.one_ow (i := 4) rfl) one_nil)))) rfl) ?_
          intro v w hR
          have hS : St e s15 w [pt g2 38 ([(.bool x14), (.int .i64 x12.1.O.Kind), v5, v6]), pt g1 49 ([(.int .i64 x13.1.Lsn)] ++ c3), pt g3 139 ([v18, (.int .i64 x26.2.2.1), (.int .i64 x26.2.2.2)]), pt g5 38 ([(.bool x14), (.int .i64 x12.1.O.Kind), v5, v6]), Ow (Kd.int .i64) 3 v5 x12.1.O.Ints, Ow (Kd.int .i64) 3 v6 x12.1.O.Refs, pt g4 49 ([(.int .i64 x13.1.Lsn)] ++ c3)] := hR
          refine ⟨trivial, ?_⟩
          refine pkE [] rfl (by decide) (by kernel_rfl) (by kernel_rfl) (puEf (p_assign rfl)) ?_
          rintro v w' ⟨hv, rfl⟩
          obtain rfl := hv.symm
          refine ⟨trivial, ?_⟩
          refine pkF (fun a hF => ?_)
          refine xn ?_
          obtain rfl := hsm H
          replace hS := hS.sel (is := [3, 2, 4, 0, 1, 1, 0]) (A' := [pt g5 38 ([(.bool x14), (.int .i64 x12.1.O.Kind), v5, v6]), pt g3 139 ([v18, (.int .i64 x26.2.2.1), (.int .i64 x26.2.2.2)]), pt g4 49 ([(.int .i64 x13.1.Lsn)] ++ c3), pt g2 38 ([(.bool x14), (.int .i64 x12.1.O.Kind), v5, v6]), Ow (Kd.int .i64) 3 v5 x12.1.O.Ints, Ow (Kd.int .i64) 3 v6 x12.1.O.Refs, pt g1 49 ([(.int .i64 x13.1.Lsn)] ++ c3)]) rfl
          exact ⟨x26.2.1, x26.2.2.1, x26.2.2.2, x14, x12.1.O.Kind, x12.1.O.Ints, x12.1.O.Refs, x13.1.Lsn, x13.1.Slots, x25.1, x26.1, s15, v18, v5, v6, c3, hS, hF.cut ⟨rfl, rfl, rfl, rfl, trivial⟩, (((hg10.trans hg11).trans hg12).trans hg13), h15, ((Kd.arr 4 kTSlot).mono hg13 ((Kd.arr 4 kTSlot).mono hg12 ((Kd.arr 4 kTSlot).mono hg11 ((Kd.arr 4 kTSlot).mono hg10 ((Kd.arr 4 kTSlot).mono hg5 ((Kd.arr 4 kTSlot).mono hg3 h4)))))), HK2⟩
      · skip
        refine altE [5, 4, 1, 0] [2, 3, 7, 8, 9, 10, 11] rfl rfl rfl (by decide) (by kernel_rfl) (e_bslice (kd := (Kd.int .i64)) (et := 3) (ps := [(0, (.const (.int .i64 30))), (1, (.const (.int .i64 31))), (2, (.const (.int .i64 0))), (3, (.const (.int .i64 1000000))), (4, (.const (.int .i64 1000001))), (5, (.const (.int .i64 40)))]) (vs := [(0, (.int .i64 30)), (1, (.int .i64 31)), (2, (.int .i64 0)), (3, (.int .i64 1000000)), (4, (.int .i64 1000001)), (5, (.int .i64 40))]) (cs := [(.int .i64 30), (.int .i64 31), (.int .i64 0), (.int .i64 1000000), (.int .i64 1000001), (.int .i64 40)]) (xs := ([30, 31, 0, 1000000, 1000001, 40] : List Int)) hS rfl (by intro w; kernel_rfl) rfl (by decide) (Nat.le_of_ble_eq_true rfl) (by exact (rows_cons (kd := (Kd.int .i64)) (x := 30) (c := [(.int .i64 30)]) (cs := [(.int .i64 31), (.int .i64 0), (.int .i64 1000000), (.int .i64 1000001), (.int .i64 40)]) rfl (rows_cons (kd := (Kd.int .i64)) (x := 31) (c := [(.int .i64 31)]) (cs := [(.int .i64 0), (.int .i64 1000000), (.int .i64 1000001), (.int .i64 40)]) rfl (rows_cons (kd := (Kd.int .i64)) (x := 0) (c := [(.int .i64 0)]) (cs := [(.int .i64 1000000), (.int .i64 1000001), (.int .i64 40)]) rfl (rows_cons (kd := (Kd.int .i64)) (x := 1000000) (c := [(.int .i64 1000000)]) (cs := [(.int .i64 1000001), (.int .i64 40)]) rfl (rows_cons (kd := (Kd.int .i64)) (x := 1000001) (c := [(.int .i64 1000001)]) (cs := [(.int .i64 40)]) rfl (rows_cons (kd := (Kd.int .i64)) (x := 40) (c := [(.int .i64 40)]) (cs := []) rfl (Rows.nil _ _ _ _))))))))) ?_
        intro v19 w hR
        have hS : St e s5 w [Ow (Kd.int .i64) 3 v19 ([30, 31, 0, 1000000, 1000001, 40] : List Int), pt g5 38 ([(.bool x14), (.int .i64 x12.1.O.Kind), v5, v6]), pt g3 139 ([v7, (.int .i64 x16), (.int .i64 x17)]), Ow (Kd.int .i64) 3 v5 x12.1.O.Ints, Ow (Kd.int .i64) 3 v6 x12.1.O.Refs, pt g4 49 ([(.int .i64 x13.1.Lsn)] ++ c3), pt g2 38 ([(.bool false), (.int .i64 0), (.slice none 0 0), (.slice none 0 0)]), pt g1 49 ([(.int .i64 0)] ++ za_47)] := hR
        refine ⟨⟨knw rfl rfl rfl (p_move rfl), ⟨knw rfl rfl rfl (p_ldb_agg (i := 1) (l := []) (m := [(.bool x14), (.int .i64 x12.1.O.Kind), v5, v6]) (r := []) hS rfl rfl ia_38 ti_38 rfl rfl rfl), ⟨knw rfl rfl rfl (p_move rfl), ⟨knw rfl rfl rfl (p_ldb_agg (i := 5) (l := []) (m := [(.int .i64 x13.1.Lsn)] ++ c3) (r := []) hS rfl rfl ia_49 ti_49 (by simp) (by simp [(show c3.length = 16 from Kd.len _ ((Kd.arr 4 kTSlot).mono hg5 ((Kd.arr 4 kTSlot).mono hg3 h4)))]) (by simp [(show c3.length = 16 from Kd.len _ ((Kd.arr 4 kTSlot).mono hg5 ((Kd.arr 4 kTSlot).mono hg3 h4)))])), trivial⟩⟩⟩⟩, ?_⟩
        refine pkE [5, 4, 1, 0] rfl (by decide) (by kernel_rfl) (by kernel_rfl) (e_bslice (kd := (Kd.int .i64)) (et := 3) (ps := [(0, (.const (.int .i64 0))), (1, (.const (.int .i64 1))), (2, (.const (.int .i64 2))), (3, (.const (.int .i64 3))), (4, (.const (.int .i64 3))), (5, (.const (.int .i64 (-1)))), (6, (.const (.int .i64 4)))]) (vs := [(0, (.int .i64 0)), (1, (.int .i64 1)), (2, (.int .i64 2)), (3, (.int .i64 3)), (4, (.int .i64 3)), (5, (.int .i64 (-1))), (6, (.int .i64 4))]) (cs := [(.int .i64 0), (.int .i64 1), (.int .i64 2), (.int .i64 3), (.int .i64 3), (.int .i64 (-1)), (.int .i64 4)]) (xs := ([0, 1, 2, 3, 3, (-1), 4] : List Int)) hS rfl (by intro w; kernel_rfl) rfl (by decide) (Nat.le_of_ble_eq_true rfl) (by exact (rows_cons (kd := (Kd.int .i64)) (x := 0) (c := [(.int .i64 0)]) (cs := [(.int .i64 1), (.int .i64 2), (.int .i64 3), (.int .i64 3), (.int .i64 (-1)), (.int .i64 4)]) rfl (rows_cons (kd := (Kd.int .i64)) (x := 1) (c := [(.int .i64 1)]) (cs := [(.int .i64 2), (.int .i64 3), (.int .i64 3), (.int .i64 (-1)), (.int .i64 4)]) rfl (rows_cons (kd := (Kd.int .i64)) (x := 2) (c := [(.int .i64 2)]) (cs := [(.int .i64 3), (.int .i64 3), (.int .i64 (-1)), (.int .i64 4)]) rfl (rows_cons (kd := (Kd.int .i64)) (x := 3) (c := [(.int .i64 3)]) (cs := [(.int .i64 3), (.int .i64 (-1)), (.int .i64 4)]) rfl (rows_cons (kd := (Kd.int .i64)) (x := 3) (c := [(.int .i64 3)]) (cs := [(.int .i64 (-1)), (.int .i64 4)]) rfl (rows_cons (kd := (Kd.int .i64)) (x := (-1)) (c := [(.int .i64 (-1))]) (cs := [(.int .i64 4)]) rfl (rows_cons (kd := (Kd.int .i64)) (x := 4) (c := [(.int .i64 4)]) (cs := []) rfl (Rows.nil _ _ _ _)))))))))) ?_
        intro v20 w hR
        have hS : St e s5 w [Ow (Kd.int .i64) 3 v20 ([0, 1, 2, 3, 3, (-1), 4] : List Int), Ow (Kd.int .i64) 3 v19 ([30, 31, 0, 1000000, 1000001, 40] : List Int), pt g5 38 ([(.bool x14), (.int .i64 x12.1.O.Kind), v5, v6]), pt g3 139 ([v7, (.int .i64 x16), (.int .i64 x17)]), Ow (Kd.int .i64) 3 v5 x12.1.O.Ints, Ow (Kd.int .i64) 3 v6 x12.1.O.Refs, pt g4 49 ([(.int .i64 x13.1.Lsn)] ++ c3), pt g2 38 ([(.bool false), (.int .i64 0), (.slice none 0 0), (.slice none 0 0)]), pt g1 49 ([(.int .i64 0)] ++ za_47)] := hR
        refine ⟨⟨knw rfl rfl rfl (p_move rfl), ⟨knw rfl rfl rfl (p_ldb_agg (i := 2) (l := []) (m := [(.bool x14), (.int .i64 x12.1.O.Kind), v5, v6]) (r := []) hS rfl rfl ia_38 ti_38 rfl rfl rfl), ⟨knw rfl rfl rfl (p_move rfl), ⟨knw rfl rfl rfl (p_ldb_agg (i := 6) (l := []) (m := [(.int .i64 x13.1.Lsn)] ++ c3) (r := []) hS rfl rfl ia_49 ti_49 (by simp) (by simp [(show c3.length = 16 from Kd.len _ ((Kd.arr 4 kTSlot).mono hg5 ((Kd.arr 4 kTSlot).mono hg3 h4)))]) (by simp [(show c3.length = 16 from Kd.len _ ((Kd.arr 4 kTSlot).mono hg5 ((Kd.arr 4 kTSlot).mono hg3 h4)))])), trivial⟩⟩⟩⟩, ?_⟩
        obtain ⟨s16, hg14, h16, hS⟩ := hS.freeze (i := 0) (kd := (Kd.int .i64)) (et := 3) (v := v20) (xs := ([0, 1, 2, 3, 3, (-1), 4] : List Int)) (B := [Ow (Kd.int .i64) 3 v19 ([30, 31, 0, 1000000, 1000001, 40] : List Int), pt g5 38 ([(.bool x14), (.int .i64 x12.1.O.Kind), v5, v6]), pt g3 139 ([v7, (.int .i64 x16), (.int .i64 x17)]), Ow (Kd.int .i64) 3 v5 x12.1.O.Ints, Ow (Kd.int .i64) 3 v6 x12.1.O.Refs, pt g4 49 ([(.int .i64 x13.1.Lsn)] ++ c3), pt g2 38 ([(.bool false), (.int .i64 0), (.slice none 0 0), (.slice none 0 0)]), pt g1 49 ([(.int .i64 0)] ++ za_47)]) rfl
        replace hS := hS.sel (is := [2, 0, 0, 0, 0, 0, 0, 0]) (A' := [pt g3 139 ([v7, (.int .i64 x16), (.int .i64 x17)]), Ow (Kd.int .i64) 3 v19 ([30, 31, 0, 1000000, 1000001, 40] : List Int), pt g5 38 ([(.bool x14), (.int .i64 x12.1.O.Kind), v5, v6]), Ow (Kd.int .i64) 3 v5 x12.1.O.Ints, Ow (Kd.int .i64) 3 v6 x12.1.O.Refs, pt g4 49 ([(.int .i64 x13.1.Lsn)] ++ c3), pt g2 38 ([(.bool false), (.int .i64 0), (.slice none 0 0), (.slice none 0 0)]), pt g1 49 ([(.int .i64 0)] ++ za_47)]) rfl
        obtain ⟨x27, hx9, H⟩ := hb H
        refine pkE [5, 4, 0] rfl (by decide) (by kernel_rfl) (by kernel_rfl) (e_callA (fst := []) (vs := [(.pointer (some ⟨g3, 0, none⟩)), v20]) (cap := []) rfl rfl go_92 (St.call (A := [pt g3 139 ([v7, (.int .i64 x16), (.int .i64 x17)])]) (B := [Ow (Kd.int .i64) 3 v19 ([30, 31, 0, 1000000, 1000001, 40] : List Int), pt g5 38 ([(.bool x14), (.int .i64 x12.1.O.Kind), v5, v6]), Ow (Kd.int .i64) 3 v5 x12.1.O.Ints, Ow (Kd.int .i64) 3 v6 x12.1.O.Refs, pt g4 49 ([(.int .i64 x13.1.Lsn)] ++ c3), pt g2 38 ([(.bool false), (.int .i64 0), (.slice none 0 0), (.slice none 0 0)]), pt g1 49 ([(.int .i64 0)] ++ za_47)]) hS (spec_l1Int.spec k _ _ x15 x16 x17 ([0, 1, 2, 3, 3, (-1), 4] : List Int) v7 g3 v20 (h7.mono hg14) h16 _ hx9)) rfl) ?_
        intro v w hR
        obtain ⟨s17, A10, hg15, hS, hR⟩ := hR
        obtain ⟨v21, hv9, rfl, h17⟩ := hR; obtain rfl := hv9.symm
        have hS : St e s17 w [pt g3 139 ([v21, (.int .i64 x27.2.2.1), (.int .i64 x27.2.2.2)]), Ow (Kd.int .i64) 3 v19 ([30, 31, 0, 1000000, 1000001, 40] : List Int), pt g5 38 ([(.bool x14), (.int .i64 x12.1.O.Kind), v5, v6]), Ow (Kd.int .i64) 3 v5 x12.1.O.Ints, Ow (Kd.int .i64) 3 v6 x12.1.O.Refs, pt g4 49 ([(.int .i64 x13.1.Lsn)] ++ c3), pt g2 38 ([(.bool false), (.int .i64 0), (.slice none 0 0), (.slice none 0 0)]), pt g1 49 ([(.int .i64 0)] ++ za_47)] := hS
        refine ⟨⟨knw rfl rfl rfl (p_move rfl), ⟨knw rfl rfl rfl (p_ldb_agg (i := 2) (l := []) (m := [(.bool x14), (.int .i64 x12.1.O.Kind), v5, v6]) (r := []) hS rfl rfl ia_38 ti_38 rfl rfl rfl), ⟨knw rfl rfl rfl (p_ldb_agg (i := 5) (l := []) (m := [(.int .i64 x13.1.Lsn)] ++ c3) (r := []) hS rfl rfl ia_49 ti_49 (by simp) (by simp [(show c3.length = 16 from Kd.len _ ((Kd.arr 4 kTSlot).mono hg15 ((Kd.arr 4 kTSlot).mono hg14 ((Kd.arr 4 kTSlot).mono hg5 ((Kd.arr 4 kTSlot).mono hg3 h4)))))]) (by simp [(show c3.length = 16 from Kd.len _ ((Kd.arr 4 kTSlot).mono hg15 ((Kd.arr 4 kTSlot).mono hg14 ((Kd.arr 4 kTSlot).mono hg5 ((Kd.arr 4 kTSlot).mono hg3 h4)))))])), trivial⟩⟩⟩, ?_⟩
        obtain ⟨s18, hg16, h18, hS⟩ := hS.freeze (i := 1) (kd := (Kd.int .i64)) (et := 3) (v := v19) (xs := ([30, 31, 0, 1000000, 1000001, 40] : List Int)) (B := [pt g3 139 ([v21, (.int .i64 x27.2.2.1), (.int .i64 x27.2.2.2)]), pt g5 38 ([(.bool x14), (.int .i64 x12.1.O.Kind), v5, v6]), Ow (Kd.int .i64) 3 v5 x12.1.O.Ints, Ow (Kd.int .i64) 3 v6 x12.1.O.Refs, pt g4 49 ([(.int .i64 x13.1.Lsn)] ++ c3), pt g2 38 ([(.bool false), (.int .i64 0), (.slice none 0 0), (.slice none 0 0)]), pt g1 49 ([(.int .i64 0)] ++ za_47)]) rfl
        obtain ⟨x28, hx10, H⟩ := hb H
        refine pkE [4, 0] rfl (by decide) (by kernel_rfl) (by kernel_rfl) (e_callA (fst := []) (vs := [(.pointer (some ⟨g3, 0, none⟩)), v19]) (cap := []) rfl rfl go_92 (St.call (A := [pt g3 139 ([v21, (.int .i64 x27.2.2.1), (.int .i64 x27.2.2.2)])]) (B := [pt g5 38 ([(.bool x14), (.int .i64 x12.1.O.Kind), v5, v6]), Ow (Kd.int .i64) 3 v5 x12.1.O.Ints, Ow (Kd.int .i64) 3 v6 x12.1.O.Refs, pt g4 49 ([(.int .i64 x13.1.Lsn)] ++ c3), pt g2 38 ([(.bool false), (.int .i64 0), (.slice none 0 0), (.slice none 0 0)]), pt g1 49 ([(.int .i64 0)] ++ za_47)]) hS (spec_l1Int.spec k _ _ x27.2.1 x27.2.2.1 x27.2.2.2 ([30, 31, 0, 1000000, 1000001, 40] : List Int) v21 g3 v19 (h17.mono hg16) h18 _ hx10)) rfl) ?_
        intro v w hR
        obtain ⟨s19, A11, hg17, hS, hR⟩ := hR
        obtain ⟨v22, hv10, rfl, h19⟩ := hR; obtain rfl := hv10.symm
        have hS : St e s19 w [pt g3 139 ([v22, (.int .i64 x28.2.2.1), (.int .i64 x28.2.2.2)]), pt g5 38 ([(.bool x14), (.int .i64 x12.1.O.Kind), v5, v6]), Ow (Kd.int .i64) 3 v5 x12.1.O.Ints, Ow (Kd.int .i64) 3 v6 x12.1.O.Refs, pt g4 49 ([(.int .i64 x13.1.Lsn)] ++ c3), pt g2 38 ([(.bool false), (.int .i64 0), (.slice none 0 0), (.slice none 0 0)]), pt g1 49 ([(.int .i64 0)] ++ za_47)] := hS
        refine ⟨⟨knw rfl rfl rfl (p_ldb_agg (i := 1) (l := []) (m := [(.bool x14), (.int .i64 x12.1.O.Kind), v5, v6]) (r := []) hS rfl rfl ia_38 ti_38 rfl rfl rfl), ⟨knw rfl rfl rfl (p_ldb_agg (i := 4) (l := []) (m := [(.int .i64 x13.1.Lsn)] ++ c3) (r := []) hS rfl rfl ia_49 ti_49 (by simp) (by simp [(show c3.length = 16 from Kd.len _ ((Kd.arr 4 kTSlot).mono hg17 ((Kd.arr 4 kTSlot).mono hg16 ((Kd.arr 4 kTSlot).mono hg15 ((Kd.arr 4 kTSlot).mono hg14 ((Kd.arr 4 kTSlot).mono hg5 ((Kd.arr 4 kTSlot).mono hg3 h4)))))))]) (by simp [(show c3.length = 16 from Kd.len _ ((Kd.arr 4 kTSlot).mono hg17 ((Kd.arr 4 kTSlot).mono hg16 ((Kd.arr 4 kTSlot).mono hg15 ((Kd.arr 4 kTSlot).mono hg14 ((Kd.arr 4 kTSlot).mono hg5 ((Kd.arr 4 kTSlot).mono hg3 h4)))))))])), trivial⟩⟩, ?_⟩
        refine pkE0 [4] rfl (by kernel_rfl) (by kernel_rfl) (e_stb (i := 6) (l := []) (m := [(.int .i64 0)] ++ za_47) (r := []) (m' := [(.int .i64 x13.1.Lsn)] ++ c3) (cs' := [(.int .i64 x13.1.Lsn)] ++ c3) hS rfl rfl rfl ti_49 (by simp) (by simp [zl_47, (show c3.length = 16 from Kd.len _ ((Kd.arr 4 kTSlot).mono hg17 ((Kd.arr 4 kTSlot).mono hg16 ((Kd.arr 4 kTSlot).mono hg15 ((Kd.arr 4 kTSlot).mono hg14 ((Kd.arr 4 kTSlot).mono hg5 ((Kd.arr 4 kTSlot).mono hg3 h4)))))))]) (by simp [zl_47, (show c3.length = 16 from Kd.len _ ((Kd.arr 4 kTSlot).mono hg17 ((Kd.arr 4 kTSlot).mono hg16 ((Kd.arr 4 kTSlot).mono hg15 ((Kd.arr 4 kTSlot).mono hg14 ((Kd.arr 4 kTSlot).mono hg5 ((Kd.arr 4 kTSlot).mono hg3 h4)))))))]) rfl (by simp [zl_47, (show c3.length = 16 from Kd.len _ ((Kd.arr 4 kTSlot).mono hg17 ((Kd.arr 4 kTSlot).mono hg16 ((Kd.arr 4 kTSlot).mono hg15 ((Kd.arr 4 kTSlot).mono hg14 ((Kd.arr 4 kTSlot).mono hg5 ((Kd.arr 4 kTSlot).mono hg3 h4)))))))]) (one_app (one_cons rfl one_nil) (Kd.one _ ((Kd.arr 4 kTSlot).mono hg17 ((Kd.arr 4 kTSlot).mono hg16 ((Kd.arr 4 kTSlot).mono hg15 ((Kd.arr 4 kTSlot).mono hg14 ((Kd.arr 4 kTSlot).mono hg5 ((Kd.arr 4 kTSlot).mono hg3 h4)))))))) (by simp)) ?_
        intro v w hR
        have hS : St e s19 w [pt g1 49 ([(.int .i64 x13.1.Lsn)] ++ c3), pt g3 139 ([v22, (.int .i64 x28.2.2.1), (.int .i64 x28.2.2.2)]), pt g5 38 ([(.bool x14), (.int .i64 x12.1.O.Kind), v5, v6]), Ow (Kd.int .i64) 3 v5 x12.1.O.Ints, Ow (Kd.int .i64) 3 v6 x12.1.O.Refs, pt g4 49 ([(.int .i64 x13.1.Lsn)] ++ c3), pt g2 38 ([(.bool false), (.int .i64 0), (.slice none 0 0), (.slice none 0 0)])] := hR
        refine ⟨⟨knw rfl rfl rfl (p_ldb_agg (i := 2) (l := []) (m := [(.bool x14), (.int .i64 x12.1.O.Kind), v5, v6]) (r := []) hS rfl rfl ia_38 ti_38 rfl rfl rfl), trivial⟩, ?_⟩
        refine pkE [4] rfl (by decide) (by kernel_rfl) (by kernel_rfl) (puEf (p_assign rfl)) ?_
        rintro v w' ⟨hv, rfl⟩
        obtain rfl := hv.symm
        refine ⟨⟨knw rfl rfl rfl (p_ldb_agg (i := 2) (l := []) (m := [(.bool x14), (.int .i64 x12.1.O.Kind), v5, v6]) (r := []) hS rfl rfl ia_38 ti_38 rfl rfl rfl), trivial⟩, ?_⟩
        refine pkE0 [] rfl (by kernel_rfl) (by kernel_rfl) (e_stb (i := 6) (l := []) (m := [(.bool false), (.int .i64 0), (.slice none 0 0), (.slice none 0 0)]) (r := []) (m' := [(.bool x14), (.int .i64 x12.1.O.Kind), v5, v6]) (cs' := [(.bool x14), (.int .i64 x12.1.O.Kind), v5, v6]) hS rfl rfl rfl ti_38 rfl rfl rfl rfl rfl (one_cons rfl (one_cons rfl (one_cons (hS.one_ow (i := 3) rfl) (one_cons (hS.one_ow (i := 4) rfl) one_nil)))) rfl) ?_
        intro v w hR
        have hS : St e s19 w [pt g2 38 ([(.bool x14), (.int .i64 x12.1.O.Kind), v5, v6]), pt g1 49 ([(.int .i64 x13.1.Lsn)] ++ c3), pt g3 139 ([v22, (.int .i64 x28.2.2.1), (.int .i64 x28.2.2.2)]), pt g5 38 ([(.bool x14), (.int .i64 x12.1.O.Kind), v5, v6]), Ow (Kd.int .i64) 3 v5 x12.1.O.Ints, Ow (Kd.int .i64) 3 v6 x12.1.O.Refs, pt g4 49 ([(.int .i64 x13.1.Lsn)] ++ c3)] := hR
        refine ⟨trivial, ?_⟩
        refine pkE [] rfl (by decide) (by kernel_rfl) (by kernel_rfl) (puEf (p_assign rfl)) ?_
        rintro v w' ⟨hv, rfl⟩
        obtain rfl := hv.symm
        refine ⟨trivial, ?_⟩
        refine pkF (fun a hF => ?_)
        refine xn ?_
        obtain rfl := hsm H
        replace hS := hS.sel (is := [3, 2, 4, 0, 1, 1, 0]) (A' := [pt g5 38 ([(.bool x14), (.int .i64 x12.1.O.Kind), v5, v6]), pt g3 139 ([v22, (.int .i64 x28.2.2.1), (.int .i64 x28.2.2.2)]), pt g4 49 ([(.int .i64 x13.1.Lsn)] ++ c3), pt g2 38 ([(.bool x14), (.int .i64 x12.1.O.Kind), v5, v6]), Ow (Kd.int .i64) 3 v5 x12.1.O.Ints, Ow (Kd.int .i64) 3 v6 x12.1.O.Refs, pt g1 49 ([(.int .i64 x13.1.Lsn)] ++ c3)]) rfl
        exact ⟨x28.2.1, x28.2.2.1, x28.2.2.2, x14, x12.1.O.Kind, x12.1.O.Ints, x12.1.O.Refs, x13.1.Lsn, x13.1.Slots, x27.1, x28.1, s19, v22, v5, v6, c3, hS, hF.cut ⟨rfl, rfl, rfl, rfl, trivial⟩, (((hg14.trans hg15).trans hg16).trans hg17), h19, ((Kd.arr 4 kTSlot).mono hg17 ((Kd.arr 4 kTSlot).mono hg16 ((Kd.arr 4 kTSlot).mono hg15 ((Kd.arr 4 kTSlot).mono hg14 ((Kd.arr 4 kTSlot).mono hg5 ((Kd.arr 4 kTSlot).mono hg3 h4)))))), HK2⟩
    · clear H HK2 hS hF
      rintro a w ⟨x1, x2, x3, x4, x5, x6, x7, x8, x9, x10, x11, s7, v9, v10, v11, c4, hS, hF, hg18, h20, h21, H⟩
      unfold spec_DrawSetSlot.c1 at H
      refine rt ?_
      obtain rfl := hsm H
      have h22 : RvOk Try.prog _ w (.cell 2 49) _ := rvC (i := 6) hS rfl (show lk [(2, (.pointer (some ⟨g1, 0, none⟩))), (3, (.int .i64 x10)), (4, (.pointer (some ⟨g2, 0, none⟩))), (5, (.int .i64 x11))] 2 = _ from rfl) ia_49 ti_49 (by simp [(show c4.length = 16 from Kd.len _ h21)])
      have h23 : RvOk Try.prog _ w (.cell 4 38) _ := rvC (i := 3) hS rfl (show lk [(2, (.pointer (some ⟨g1, 0, none⟩))), (3, (.int .i64 x10)), (4, (.pointer (some ⟨g2, 0, none⟩))), (5, (.int .i64 x11))] 4 = _ from rfl) ia_38 ti_38 rfl
      replace hS := hS.sel (is := [4, 4]) (A' := [Ow (Kd.int .i64) 3 v10 x6, Ow (Kd.int .i64) 3 v11 x7]) rfl
      exact retc4 hF rfl h22 (rvT rfl) h23 (rvT rfl) hS ⟨c4, v10, v11, rfl, rfl, h21⟩

def impl_PageOk_1.f (k : Nat) (x1 : TSlot) : Option Bool :=
  ((impl_slotOk.f k x1).bind fun x2 => (some (!x2)))
set_option maxRecDepth 100000 in
set_option maxHeartbeats 4000000 in
theorem impl_PageOk_1.spec (k : Nat) (s0 : HF) (w : World) (x1 : TSlot) (v1 : Value) (v2 : Value) (h1 : Sl (Kd.int .i64) s0 v1 x1.O.Ints) (h2 : Sl (Kd.int .i64) s0 v2 x1.O.Refs) (r : Bool) (H : impl_PageOk_1.f k x1 = some r) :
    Law Try.prog 96 #[(.agg #[(.bool x1.Has), (.int .i64 x1.O.Kind), v1, v2])] s0 w [] (fun v s1 A1 => v = (.bool r) ∧ A1 = []) := by
  unfold impl_PageOk_1.f at H
  refine Law.intro Try.func96 rfl [(0, (.agg #[(.bool x1.Has), (.int .i64 x1.O.Kind), v1, v2]))] (Nat.le_of_ble_eq_true rfl) (enter_lk ⟨rfl, trivial⟩) (fun e a hS hF => ?_)
  have hF : Fr 6 a [(0, (.agg #[(.bool x1.Has), (.int .i64 x1.O.Kind), v1, v2]))] := hF
  refine sq ?_
  refine rg ?_
  refine ste hF (e_box (cs := [(.bool x1.Has), (.int .i64 x1.O.Kind), v1, v2]) hS rfl rfl) (by decide) (fun v w a hR hF => ?_)
  obtain ⟨g1, rfl, hS⟩ := hR
  refine stp hF (p_assign rfl) (by decide) (fun a hF => ?_)
  refine nilN ?_
  refine xn ?_
  refine sq ?_
  refine rg ?_
  refine stp hF (p_ldb_agg (i := 0) (l := []) (m := [(.bool x1.Has), (.int .i64 x1.O.Kind), v1, v2]) (r := []) hS rfl rfl ia_38 ti_38 rfl rfl rfl) (by decide) (fun a hF => ?_)
  obtain ⟨x2, hx1, H⟩ := hb H
  refine ste hF (e_callA (fst := []) (vs := [(.agg #[(.bool x1.Has), (.int .i64 x1.O.Kind), v1, v2])]) (cap := []) rfl rfl go_84 (St.call (A := []) (B := [pt g1 38 ([(.bool x1.Has), (.int .i64 x1.O.Kind), v1, v2])]) hS (impl_slotOk.spec k _ _ x1 v1 v2 h1 h2 _ hx1)) rfl) (by decide) (fun v w a hR hF => ?_)
  obtain ⟨s2, A2, hg1, hS, hR⟩ := hR
  obtain ⟨hv1, rfl⟩ := hR; obtain rfl := hv1.symm
  have hS : St e s2 w [pt g1 38 ([(.bool x1.Has), (.int .i64 x1.O.Kind), v1, v2])] := hS
  refine stp hF (p_not rfl) (by decide) (fun a hF => ?_)
  refine stp hF (p_assign rfl) (by decide) (fun a hF => ?_)
  refine nilN ?_
  refine xn ?_
  refine rt ?_
  obtain rfl := hsm H
  replace hS := hS.sel (is := []) (A' := []) rfl
  exact ret1 hF rfl rfl hS ⟨rfl, rfl⟩

def impl_Slot_101_196.c1 (k : Nat) : Option Int :=
  (some (-1))
def impl_Slot_101_196.l1 (x1 : (List TSlot)) : Nat → Int → Option (Ex Int Unit)
  | 0, _ => none
  | k + 1, x2 => (if (decide (x2 < (x1.length : Int))) = true then (if 0 ≤ x2 ∧ x2 < (x1.length : Int) then ((impl_PageOk_1.f k (rd x1 x2)).bind fun x3 => (if x3 = true then (some (Ex.ret x2)) else ((impl_Slot_101_196.l1 x1 k) (w64 (x2 + 1))))) else none) else (some (Ex.go ())))
def impl_Slot_101_196.f (k : Nat) (x1 : (List TSlot)) : Option Int :=
  (((impl_Slot_101_196.l1 x1 k 0) : Option (Ex Int Unit)).bind fun x4 => Ex.on x4 (fun r => some r) (fun y => impl_Slot_101_196.c1 k))
set_option maxRecDepth 100000 in
set_option maxHeartbeats 4000000 in
theorem impl_Slot_101_196.spec (k : Nat) (s0 : HF) (w : World) (x1 : (List TSlot)) (v1 : Value) (h1 : Sl kTSlot s0 v1 x1) (r : Int) (H : impl_Slot_101_196.f k x1 = some r) :
    Law Try.prog 101 #[v1, (.func (.func 96) #[] #[])] s0 w [] (fun v s1 A1 => v = (.int .i64 r) ∧ A1 = []) := by
  unfold impl_Slot_101_196.f at H
  refine Law.intro Try.func101 rfl [(0, v1), (1, (.func (.func 96) #[] #[]))] (Nat.le_of_ble_eq_true rfl) (enter_lk ⟨rfl, rfl, trivial⟩) (fun e a hS hF => ?_)
  have hF : Fr 19 a [(0, v1), (1, (.func (.func 96) #[] #[]))] := hF
  refine sq ?_
  refine rg ?_
  refine stp hF (p_assign rfl) (by decide) (fun a hF => ?_)
  refine nilN ?_
  refine xn ?_
  obtain ⟨x4, H, HK1⟩ := hb H
  refine sqj (fun a w => ∃ (s2 : HF) , St e s2 w [] ∧ Fr 19 a [] ∧ Sub s0 s2 ∧ impl_Slot_101_196.c1 k = some r) ?_ ?_
  · skip
    refine sq ?_
    refine rg ?_
    refine stp hF (p_move rfl) (by decide) (fun a hF => ?_)
    refine stp hF (p_lenr un_26 rfl h1) (by decide) (fun a hF => ?_)
    refine stp hF (p_move rfl) (by decide) (fun a hF => ?_)
    refine nilN ?_
    refine xn ?_
    refine blk ?_
    refine loop_ind (fun k1 a w => ∃ (x2 : Int) (s3 : HF) , St e s3 w [] ∧ Fr 19 a [(0, v1), (1, (.func (.func 96) #[] #[])), (7, (.int .i64 (x1.length : Int))), (8, (.int .i64 x2))] ∧ Sub s0 s3 ∧ impl_Slot_101_196.l1 x1 k1 x2 = some x4) k ?_ ?_ ?_
    · skip
      exact ⟨0, s0, hS, hF.cut ⟨rfl, rfl, rfl, rfl, trivial⟩, (Sub.refl _), H⟩
    · clear H hS hF
      rintro a w ⟨x2, s3, hS, hF, hg1, H⟩
      exact absurd (show none = some _ from H) (by simp)
    · clear H hS hF
      rintro k1 a w ⟨x2, s3, hS, hF, hg1, H⟩
      rw [impl_Slot_101_196.l1.eq_2] at H
      refine sq ?_
      refine rg ?_
      refine stp hF (p_lss rfl rfl) (by decide) (fun a hF => ?_)
      refine nilN ?_
      refine xn ?_
      refine sq ?_
      refine cnd hF rfl (fun hc1 => ?_) (fun hc1 => ?_)
      · replace H := hbt hc1 H
        refine skN ?_
        refine xn ?_
        refine sq ?_
        refine blk ?_
        refine sq ?_
        refine rg ?_
        refine stp hF (p_move rfl) (by decide) (fun a hF => ?_)
        refine stp hF (p_assign rfl) (by decide) (fun a hF => ?_)
        refine nilN ?_
        refine xn ?_
        refine sq ?_
        refine rg ?_
        refine stp hF (p_move rfl) (by decide) (fun a hF => ?_)
        refine stp hF (p_move rfl) (by decide) (fun a hF => ?_)
        refine stp hF (p_move rfl) (by decide) (fun a hF => ?_)
        obtain ⟨hq1, H⟩ := hck H
        obtain ⟨ad1, h2, p1⟩ := p_idxr (P := Try.prog) (i := x2) (h1.mono hg1) un_26 ti_38 hq1.1 hq1.2
        refine stp hF (p1 rfl rfl) (by decide) (fun a hF => ?_)
        obtain ⟨c2, h3, p2⟩ := p_ldr_agg (P := Try.prog) h2 ia_38 ti_38
        obtain ⟨v2, v3, rfl, h4, h5⟩ := kTSlot_open h3
        refine stp hF (p2 rfl hS.ro) (by decide) (fun a hF => ?_)
        obtain ⟨x3, hx1, H⟩ := hb H
        refine ste hF (e_callA (fst := []) (vs := [(.agg #[(.bool ((rd x1 x2).Has)), (.int .i64 (((rd x1 x2).O).Kind)), v2, v3])]) (cap := []) rfl rfl go_96 (St.call (A := []) (B := []) hS (impl_PageOk_1.spec k1 _ _ (rd x1 x2) v2 v3 h4 h5 _ hx1)) rfl) (by decide) (fun v w a hR hF => ?_)
        obtain ⟨s4, A2, hg2, hS, hR⟩ := hR
        obtain ⟨hv1, rfl⟩ := hR; obtain rfl := hv1.symm
        have hS : St e s4 w [] := hS
        refine nilN ?_
        refine xn ?_
        refine cnd hF rfl (fun hc2 => ?_) (fun hc2 => ?_)
        · replace H := hbt hc2 H
          refine sq ?_
          refine rg ?_
          refine stp hF (p_move rfl) (by decide) (fun a hF => ?_)
          refine stp hF (p_assign rfl) (by decide) (fun a hF => ?_)
          refine nilN ?_
          refine xn ?_
          refine rt ?_
          refine br (xr (xr (br (xr ?_))))
          obtain rfl := hsm H
          have H := hon1 HK1
          obtain rfl := hsm H
          exact ret1 hF rfl rfl hS ⟨rfl, rfl⟩
        · replace H := hbf hc2 H
          refine skN ?_
          refine bn (xn ?_)
          refine rg ?_
          refine stp hF (p_add (c := w64 (x2 + 1)) rfl rfl rfl) (by decide) (fun a hF => ?_)
          refine stp hF (p_move rfl) (by decide) (fun a hF => ?_)
          refine nilN ?_
          refine xn ?_
          exact ⟨(w64 (x2 + 1)), s4, hS, hF.cut ⟨rfl, rfl, rfl, rfl, trivial⟩, (hg1.trans hg2), H⟩
      · replace H := hbf hc1 H
        refine exi ?_
        refine xe (xe (hit (xn ?_)))
        obtain rfl := hsm H
        exact ⟨s3, hS, hF.cut trivial, hg1, HK1⟩
  · clear H HK1 hS hF
    rintro a w ⟨s2, hS, hF, hg3, H⟩
    unfold impl_Slot_101_196.c1 at H
    refine sq ?_
    refine rg ?_
    refine stp hF (p_assign rfl) (by decide) (fun a hF => ?_)
    refine nilN ?_
    refine xn ?_
    refine rt ?_
    obtain rfl := hsm H
    exact ret1 hF rfl rfl hS ⟨rfl, rfl⟩

def impl_Slot_95_196.f (k : Nat) (x1 : (List TSlot)) : Option Bool :=
  ((impl_Slot_101_196.f k x1).bind fun x2 => (some (decide (0 ≤ x2))))
set_option maxRecDepth 100000 in
set_option maxHeartbeats 4000000 in
theorem impl_Slot_95_196.spec (k : Nat) (s0 : HF) (w : World) (x1 : (List TSlot)) (v1 : Value) (h1 : Sl kTSlot s0 v1 x1) (r : Bool) (H : impl_Slot_95_196.f k x1 = some r) :
    Law Try.prog 95 #[v1, (.func (.func 96) #[] #[])] s0 w [] (fun v s1 A1 => v = (.bool r) ∧ A1 = []) := by
  unfold impl_Slot_95_196.f at H
  refine Law.intro Try.func95 rfl [(0, v1), (1, (.func (.func 96) #[] #[]))] (Nat.le_of_ble_eq_true rfl) (enter_lk ⟨rfl, rfl, trivial⟩) (fun e a hS hF => ?_)
  have hF : Fr 9 a [(0, v1), (1, (.func (.func 96) #[] #[]))] := hF
  refine sq ?_
  refine rg ?_
  refine stp hF (p_assign rfl) (by decide) (fun a hF => ?_)
  refine nilN ?_
  refine xn ?_
  refine sq ?_
  refine rg ?_
  refine stp hF (p_move rfl) (by decide) (fun a hF => ?_)
  refine stp hF (p_move rfl) (by decide) (fun a hF => ?_)
  obtain ⟨x2, hx1, H⟩ := hb H
  refine ste hF (e_callA (fst := []) (vs := [v1, (.func (.func 96) #[] #[])]) (cap := []) rfl rfl go_101 (St.call (A := []) (B := []) hS (impl_Slot_101_196.spec k _ _ x1 v1 h1 _ hx1)) rfl) (by decide) (fun v w a hR hF => ?_)
  obtain ⟨s2, A2, hg1, hS, hR⟩ := hR
  obtain ⟨hv1, rfl⟩ := hR; obtain rfl := hv1.symm
  have hS : St e s2 w [] := hS
  refine stp hF (p_geq rfl rfl) (by decide) (fun a hF => ?_)
  refine stp hF (p_assign rfl) (by decide) (fun a hF => ?_)
  refine nilN ?_
  refine xn ?_
  refine rt ?_
  obtain rfl := hsm H
  exact ret1 hF rfl rfl hS ⟨rfl, rfl⟩

def impl_PageOk.c1 (k : Nat) (x1 : Bool) : Option Bool :=
  (some x1)
def impl_PageOk.f (k : Nat) (x2 : TPage) : Option Bool :=
  ((impl_in.f k x2.Lsn 0 1000000).bind fun x3 => ((if x3 = true then ((impl_Slot_95_196.f k x2.Slots).bind fun x4 => (some (!x4))) else (some false) : Option Bool).bind fun x5 => impl_PageOk.c1 k x5))
set_option maxRecDepth 100000 in
set_option maxHeartbeats 4000000 in
theorem impl_PageOk.spec (k : Nat) (s0 : HF) (w : World) (x2 : TPage) (c2 : List Value) (h1 : ((Kd.arr 4 kTSlot)).K s0 x2.Slots c2) (r : Bool) (H : impl_PageOk.f k x2 = some r) :
    Law Try.prog 31 #[(.agg ([(.int .i64 x2.Lsn)] ++ c2 : List Value).toArray)] s0 w [] (fun v s1 A1 => v = (.bool r) ∧ A1 = []) := by
  unfold impl_PageOk.f at H
  refine Law.intro Try.func31 rfl [(0, (.agg ([(.int .i64 x2.Lsn)] ++ c2 : List Value).toArray))] (Nat.le_of_ble_eq_true rfl) (enter_lk ⟨rfl, trivial⟩) (fun e a hS hF => ?_)
  have hF : Fr 12 a [(0, (.agg ([(.int .i64 x2.Lsn)] ++ c2 : List Value).toArray))] := hF
  refine sq ?_
  refine rg ?_
  refine ste hF (e_box (cs := [(.int .i64 x2.Lsn)] ++ c2) hS rfl rfl) (by decide) (fun v w a hR hF => ?_)
  obtain ⟨g1, rfl, hS⟩ := hR
  refine stp hF (p_assign rfl) (by decide) (fun a hF => ?_)
  refine nilN ?_
  refine xn ?_
  refine sq ?_
  refine rg ?_
  refine stp hF (p_fldb (o' := 0) rfl fi_49_0 rfl) (by decide) (fun a hF => ?_)
  refine stp hF (p_ldb_one (i := 0) hS rfl rfl ia_3 rfl) (by decide) (fun a hF => ?_)
  obtain ⟨x3, hx1, H⟩ := hb H
  refine ste hF (e_callA (fst := []) (vs := [(.int .i64 x2.Lsn), (.int .i64 0), (.int .i64 1000000)]) (cap := []) rfl rfl go_79 (St.call (A := []) (B := [pt g1 49 ([(.int .i64 x2.Lsn)] ++ c2)]) hS (impl_in.spec k _ _ x2.Lsn 0 1000000 _ hx1)) rfl) (by decide) (fun v w a hR hF => ?_)
  obtain ⟨s2, A2, hg1, hS, hR⟩ := hR
  obtain ⟨hv1, rfl⟩ := hR; obtain rfl := hv1.symm
  have hS : St e s2 w [pt g1 49 ([(.int .i64 x2.Lsn)] ++ c2)] := hS
  refine stp hF (p_move rfl) (by decide) (fun a hF => ?_)
  obtain ⟨x5, H, HK1⟩ := hb H
  refine cutj 5 (fun a w => ∃ (x1 : Bool) (s3 : HF) , St e s3 w [] ∧ Fr 12 a [(11, (.bool x1))] ∧ Sub s2 s3 ∧ impl_PageOk.c1 k x1 = some r) rfl rfl ?_ ?_
  · rcases Bool.eq_false_or_eq_true (x3) with hc1 | hc1
    · replace H := hbt hc1 H
      refine gonE (j := 3) hF rfl rfl hc1 ?_
      refine stp hF (p_fldb (o' := 1) rfl fi_49_1 rfl) (by decide) (fun a hF => ?_)
      obtain ⟨s4, hg2, h2, hS⟩ := hS.freezeB (i := 0) (g := g1) (T := 49) (cs := [(.int .i64 x2.Lsn)] ++ c2) (B := []) rfl
      have h3 : Pr kTPage s4 ⟨g1, 0, none⟩ x2 := Pr.box h2 (by exact (kTPage_mk (x := x2) ((Kd.arr 4 kTSlot).mono hg2 ((Kd.arr 4 kTSlot).mono hg1 h1))))
      have h4 : Pr (Kd.arr 4 kTSlot) s4 (⟨g1, 1, none⟩ : Addr) x2.Slots := h3.lens kTPage_Slots
      have h5 : Pr (Kd.int .i64) s4 (⟨g1, 0, none⟩ : Addr) x2.Lsn := h3.lens kTPage_Lsn
      have h6 : Sl kTSlot s4 (.slice (some (⟨g1, 1, none⟩ : Addr)) 4 4) x2.Slots := Pr.arr_sl h4
      refine gonE (j := 3) hF rfl rfl hc1 ?_
      refine stp hF (p_slarr un_47 ti_38 (by decide) rfl) (by decide) (fun a hF => ?_)
      obtain ⟨x4, hx2, H⟩ := hb H
      refine gonE (j := 3) hF rfl rfl hc1 ?_
      refine ste hF (e_callA (fst := []) (vs := [(.slice (some (⟨g1, 1, none⟩ : Addr)) 4 4), (.func (.func 96) #[] #[])]) (cap := []) rfl rfl go_95 (St.call (A := []) (B := []) hS (impl_Slot_95_196.spec k _ _ x2.Slots (.slice (some (⟨g1, 1, none⟩ : Addr)) 4 4) h6 _ hx2)) rfl) (by decide) (fun v w a hR hF => ?_)
      obtain ⟨s5, A3, hg3, hS, hR⟩ := hR
      obtain ⟨hv2, rfl⟩ := hR; obtain rfl := hv2.symm
      have hS : St e s5 w [] := hS
      refine gonE (j := 3) hF rfl rfl hc1 ?_
      refine stp hF (p_not rfl) (by decide) (fun a hF => ?_)
      refine stp hF (p_pickT rfl hc1 rfl) (by decide) (fun a hF => ?_)
      refine nilN ?_
      refine xn ?_
      obtain rfl := hsm H
      exact ⟨(!x4), s5, hS, hF.cut ⟨rfl, trivial⟩, (hg2.trans hg3), HK1⟩
    · replace H := hbf hc1 H
      refine gofD (j := 3) hF rfl rfl (by rw [hc1]; decide) (by decide) (fun a hF => ?_)
      refine gofD (j := 3) hF rfl rfl (by rw [hc1]; decide) (by decide) (fun a hF => ?_)
      refine gofD (j := 3) hF rfl rfl (by rw [hc1]; decide) (by decide) (fun a hF => ?_)
      refine gofD (j := 3) hF rfl rfl (by rw [hc1]; decide) (by decide) (fun a hF => ?_)
      refine stp hF (p_pickF rfl hc1 rfl) (by decide) (fun a hF => ?_)
      refine nilN ?_
      refine xn ?_
      obtain rfl := hsm H
      replace hS := hS.sel (is := []) (A' := []) rfl
      exact ⟨false, s2, hS, hF.cut ⟨rfl, trivial⟩, (Sub.refl _), HK1⟩
  · clear H HK1 hS hF
    rintro a w ⟨x1, s3, hS, hF, hg4, H⟩
    unfold impl_PageOk.c1 at H
    refine stp hF (p_assign rfl) (by decide) (fun a hF => ?_)
    refine nilN ?_
    refine xn ?_
    refine rt ?_
    obtain rfl := hsm H
    exact ret1 hF rfl rfl hS ⟨rfl, rfl⟩

def impl_Crc.c1 (k : Nat) (x1 : Int) : Option Int :=
  (some (w64 (bxor .u32 x1 4294967295)))
def impl_Crc.c2 (k : Nat) (rec_l1 : Int → Int → Option Int) (x2 : Int) (x3 : Int) : Option Int :=
  (rec_l1 x3 (w64 (x2 + 1)))
def impl_Crc.c3 (k : Nat) (rec_l2 : Int → Int → Option Int) (x4 : Int) (x5 : Int) : Option Int :=
  (rec_l2 x5 (w64 (x4 + 1)))
def impl_Crc.l2 : Nat → Int → Int → Option Int
  | 0, _, _ => none
  | k + 1, x6, x4 => (if (decide (x4 < 8)) = true then (((if (decide ((band .u32 x6 1) = 1)) = true then (some (bxor .u32 (bshr .u32 x6 1) 3988292384)) else (some (bshr .u32 x6 1))) : Option Int).bind fun x7 => impl_Crc.c3 k (impl_Crc.l2 k) x4 x7) else (some x6))
def impl_Crc.l1 (x8 : (List Int)) : Nat → Int → Int → Option Int
  | 0, _, _ => none
  | k + 1, x9, x2 => (if (decide (x2 < (x8.length : Int))) = true then (((if 0 ≤ x2 ∧ x2 < (x8.length : Int) then (impl_Crc.l2 k (bxor .u32 x9 (w32 (rd x8 x2))) 0) else none) : Option Int).bind fun x10 => impl_Crc.c2 k (impl_Crc.l1 x8 k) x2 x10) else (some x9))
def impl_Crc.f (k : Nat) (x8 : (List Int)) : Option Int :=
  (((impl_Crc.l1 x8 k 4294967295 0) : Option Int).bind fun x11 => impl_Crc.c1 k x11)
set_option maxRecDepth 100000 in
set_option maxHeartbeats 4000000 in
theorem impl_Crc.spec (k : Nat) (s0 : HF) (w : World) (x8 : (List Int)) (v1 : Value) (h1 : Sl (Kd.int .u8) s0 v1 x8) (r : Int) (H : impl_Crc.f k x8 = some r) :
    Law Try.prog 166 #[v1] s0 w [] (fun v s1 A1 => v = (.int .i64 r) ∧ A1 = []) := by
  unfold impl_Crc.f at H
  refine Law.intro Try.func166 rfl [(0, v1)] (Nat.le_of_ble_eq_true rfl) (enter_lk ⟨rfl, trivial⟩) (fun e a hS hF => ?_)
  have hF : Fr 32 a [(0, v1)] := hF
  refine sq ?_
  refine rg ?_
  refine stp hF (p_assign rfl) (by decide) (fun a hF => ?_)
  refine nilN ?_
  refine xn ?_
  refine sq ?_
  refine rg ?_
  refine stp hF (p_assign rfl) (by decide) (fun a hF => ?_)
  refine nilN ?_
  refine xn ?_
  obtain ⟨x11, H, HK1⟩ := hb H
  refine sqj (fun a w => ∃ (x1 : Int) , St e s0 w [] ∧ Fr 32 a [(3, (.int .u32 x1))] ∧ impl_Crc.c1 k x1 = some r) ?_ ?_
  · skip
    refine sq ?_
    refine rg ?_
    refine stp hF (p_move rfl) (by decide) (fun a hF => ?_)
    refine stp hF (p_lenr un_24 rfl h1) (by decide) (fun a hF => ?_)
    refine stp hF (p_move rfl) (by decide) (fun a hF => ?_)
    refine nilN ?_
    refine xn ?_
    refine blk ?_
    refine loop_ind (fun k1 a w => ∃ (x9 : Int) (x2 : Int) , St e s0 w [] ∧ Fr 32 a [(3, (.int .u32 x9)), (7, v1), (8, (.int .i64 (x8.length : Int))), (9, (.int .i64 x2))] ∧ impl_Crc.l1 x8 k1 x9 x2 = some x11) k ?_ ?_ ?_
    · skip
      exact ⟨4294967295, 0, hS, hF.cut ⟨rfl, rfl, rfl, rfl, trivial⟩, H⟩
    · clear H hS hF
      rintro a w ⟨x9, x2, hS, hF, H⟩
      exact absurd (show none = some _ from H) (by simp)
    · clear H hS hF
      rintro k1 a w ⟨x9, x2, hS, hF, H⟩
      rw [impl_Crc.l1.eq_2] at H
      refine sq ?_
      refine rg ?_
      refine stp hF (p_lss rfl rfl) (by decide) (fun a hF => ?_)
      refine nilN ?_
      refine xn ?_
      refine sq ?_
      refine cnd hF rfl (fun hc1 => ?_) (fun hc1 => ?_)
      · replace H := hbt hc1 H
        refine skN ?_
        refine xn ?_
        obtain ⟨x10, H, HK2⟩ := hb H
        refine sqj (fun a w => ∃ (x3 : Int) , St e s0 w [] ∧ Fr 32 a [(3, (.int .u32 x3)), (7, v1), (8, (.int .i64 (x8.length : Int))), (9, (.int .i64 x2))] ∧ impl_Crc.c2 k1 (impl_Crc.l1 x8 k1) x2 x3 = some x11) ?_ ?_
        · skip
          refine blk ?_
          refine sq ?_
          refine rg ?_
          obtain ⟨hq1, H⟩ := hck H
          obtain ⟨ad1, h2, p1⟩ := p_idxr (P := Try.prog) (i := x2) h1 un_24 ti_5 hq1.1 hq1.2
          refine stp hF (p1 rfl rfl) (by decide) (fun a hF => ?_)
          refine stp hF (p_ldr_int rfl hS h2 ia_5) (by decide) (fun a hF => ?_)
          refine stp hF (p_assign rfl) (by decide) (fun a hF => ?_)
          refine nilN ?_
          refine xn ?_
          refine sq ?_
          refine rg ?_
          refine stp hF (p_move rfl) (by decide) (fun a hF => ?_)
          refine stp hF (p_move rfl) (by decide) (fun a hF => ?_)
          refine stp hF (p_cvint (c := w32 (rd x8 x2)) un_5 un_171 rfl rfl) (by decide) (fun a hF => ?_)
          refine stp hF (p_xor (c := bxor .u32 x9 (w32 (rd x8 x2))) rfl rfl rfl) (by decide) (fun a hF => ?_)
          refine stp hF (p_assign rfl) (by decide) (fun a hF => ?_)
          refine nilN ?_
          refine xn ?_
          refine sq ?_
          refine rg ?_
          refine stp hF (p_move rfl) (by decide) (fun a hF => ?_)
          refine nilN ?_
          refine xn ?_
          refine blk ?_
          refine loop_ind (fun k2 a w => ∃ (x6 : Int) (x4 : Int) , St e s0 w [] ∧ Fr 32 a [(3, (.int .u32 x6)), (7, v1), (8, (.int .i64 (x8.length : Int))), (9, (.int .i64 x2)), (17, (.int .i64 x4))] ∧ impl_Crc.l2 k2 x6 x4 = some x10) k1 ?_ ?_ ?_
          · skip
            exact ⟨(bxor .u32 x9 (w32 (rd x8 x2))), 0, hS, hF.cut ⟨rfl, rfl, rfl, rfl, rfl, trivial⟩, H⟩
          · clear H hS hF
            rintro a w ⟨x6, x4, hS, hF, H⟩
            exact absurd (show none = some _ from H) (by simp)
          · clear H hS hF
            rintro k2 a w ⟨x6, x4, hS, hF, H⟩
            rw [impl_Crc.l2.eq_2] at H
            refine sq ?_
            refine rg ?_
            refine stp hF (p_lss rfl rfl) (by decide) (fun a hF => ?_)
            refine nilN ?_
            refine xn ?_
            refine sq ?_
            refine cnd hF rfl (fun hc2 => ?_) (fun hc2 => ?_)
            · replace H := hbt hc2 H
              refine skN ?_
              refine xn ?_
              obtain ⟨x7, H, HK3⟩ := hb H
              refine sqj (fun a w => ∃ (x5 : Int) , St e s0 w [] ∧ Fr 32 a [(3, (.int .u32 x5)), (7, v1), (8, (.int .i64 (x8.length : Int))), (9, (.int .i64 x2)), (17, (.int .i64 x4))] ∧ impl_Crc.c3 k2 (impl_Crc.l2 k2) x4 x5 = some x10) ?_ ?_
              · skip
                refine blk ?_
                refine sq ?_
                refine rg ?_
                refine stp hF (p_move rfl) (by decide) (fun a hF => ?_)
                refine stp hF (p_and (c := band .u32 x6 1) rfl rfl rfl) (by decide) (fun a hF => ?_)
                refine stp hF (p_eql rfl rfl) (by decide) (fun a hF => ?_)
                refine stp hF (p_assign rfl) (by decide) (fun a hF => ?_)
                refine nilN ?_
                refine xn ?_
                refine sq ?_
                refine rg ?_
                refine stp hF (p_move rfl) (by decide) (fun a hF => ?_)
                refine stp hF (p_shr (c := bshr .u32 x6 1) rfl rfl (by decide) rfl) (by decide) (fun a hF => ?_)
                refine stp hF (p_assign rfl) (by decide) (fun a hF => ?_)
                refine nilN ?_
                refine xn ?_
                refine sq ?_
                refine rg ?_
                refine stp hF (p_move rfl) (by decide) (fun a hF => ?_)
                refine nilN ?_
                refine xn ?_
                refine cnd hF rfl (fun hc3 => ?_) (fun hc3 => ?_)
                · replace H := hbt hc3 H
                  refine rg ?_
                  refine stp hF (p_move rfl) (by decide) (fun a hF => ?_)
                  refine stp hF (p_xor (c := bxor .u32 (bshr .u32 x6 1) 3988292384) rfl rfl rfl) (by decide) (fun a hF => ?_)
                  refine stp hF (p_assign rfl) (by decide) (fun a hF => ?_)
                  refine nilN ?_
                  refine bn (xn ?_)
                  obtain rfl := hsm H
                  exact ⟨(bxor .u32 (bshr .u32 x6 1) 3988292384), hS, hF.cut ⟨rfl, rfl, rfl, rfl, rfl, trivial⟩, HK3⟩
                · replace H := hbf hc3 H
                  refine skN ?_
                  refine bn (xn ?_)
                  obtain rfl := hsm H
                  exact ⟨(bshr .u32 x6 1), hS, hF.cut ⟨rfl, rfl, rfl, rfl, rfl, trivial⟩, HK3⟩
              · clear H HK3 hS hF
                rintro a w ⟨x5, hS, hF, H⟩
                unfold impl_Crc.c3 at H
                refine rg ?_
                refine stp hF (p_add (c := w64 (x4 + 1)) rfl rfl rfl) (by decide) (fun a hF => ?_)
                refine stp hF (p_move rfl) (by decide) (fun a hF => ?_)
                refine nilN ?_
                refine xn ?_
                exact ⟨x5, (w64 (x4 + 1)), hS, hF.cut ⟨rfl, rfl, rfl, rfl, rfl, trivial⟩, H⟩
            · replace H := hbf hc2 H
              refine exi ?_
              refine xe (xe (hit (bn (xn ?_))))
              obtain rfl := hsm H
              exact ⟨x6, hS, hF.cut ⟨rfl, rfl, rfl, rfl, trivial⟩, HK2⟩
        · clear H HK2 hS hF
          rintro a w ⟨x3, hS, hF, H⟩
          unfold impl_Crc.c2 at H
          refine rg ?_
          refine stp hF (p_add (c := w64 (x2 + 1)) rfl rfl rfl) (by decide) (fun a hF => ?_)
          refine stp hF (p_move rfl) (by decide) (fun a hF => ?_)
          refine nilN ?_
          refine xn ?_
          exact ⟨x3, (w64 (x2 + 1)), hS, hF.cut ⟨rfl, rfl, rfl, rfl, trivial⟩, H⟩
      · replace H := hbf hc1 H
        refine exi ?_
        refine xe (xe (hit (xn ?_)))
        obtain rfl := hsm H
        exact ⟨x9, hS, hF.cut ⟨rfl, trivial⟩, HK1⟩
  · clear H HK1 hS hF
    rintro a w ⟨x1, hS, hF, H⟩
    unfold impl_Crc.c1 at H
    refine sq ?_
    refine rg ?_
    refine stp hF (p_move rfl) (by decide) (fun a hF => ?_)
    refine stp hF (p_xor (c := bxor .u32 x1 4294967295) rfl rfl rfl) (by decide) (fun a hF => ?_)
    refine stp hF (p_cvint (c := w64 (bxor .u32 x1 4294967295)) un_171 un_3 rfl rfl) (by decide) (fun a hF => ?_)
    refine stp hF (p_assign rfl) (by decide) (fun a hF => ?_)
    refine nilN ?_
    refine xn ?_
    refine rt ?_
    obtain rfl := hsm H
    exact ret1 hF rfl rfl hS ⟨rfl, rfl⟩

def impl_sumBytes.f (k : Nat) (x1 : (List Int)) : Option (List Int) :=
  ((impl_Crc.f k x1).bind fun x2 => (some ([w8 (x2), w8 (bshr .i64 x2 8), w8 (bshr .i64 x2 16), w8 (bshr .i64 x2 24)] : List Int)))
set_option maxRecDepth 100000 in
set_option maxHeartbeats 4000000 in
theorem impl_sumBytes.spec (k : Nat) (s0 : HF) (w : World) (x1 : (List Int)) (v1 : Value) (h1 : Sl (Kd.int .u8) s0 v1 x1) (r : (List Int)) (H : impl_sumBytes.f k x1 = some r) :
    Law Try.prog 135 #[v1] s0 w [] (fun v s1 A1 => ∃ (u0 : Value), v = u0 ∧ A1 = [Ow (Kd.int .u8) 5 u0 r]) := by
  unfold impl_sumBytes.f at H
  refine Law.intro Try.func135 rfl [(0, v1)] (Nat.le_of_ble_eq_true rfl) (enter_lk ⟨rfl, trivial⟩) (fun e a hS hF => ?_)
  have hF : Fr 18 a [(0, v1)] := hF
  refine sq ?_
  refine rg ?_
  refine stp hF (p_assign rfl) (by decide) (fun a hF => ?_)
  refine nilN ?_
  refine xn ?_
  refine sq ?_
  refine rg ?_
  refine stp hF (p_move rfl) (by decide) (fun a hF => ?_)
  obtain ⟨x2, hx1, H⟩ := hb H
  refine ste hF (e_callA (fst := []) (vs := [v1]) (cap := []) rfl rfl go_166 (St.call (A := []) (B := []) hS (impl_Crc.spec k _ _ x1 v1 h1 _ hx1)) rfl) (by decide) (fun v w a hR hF => ?_)
  obtain ⟨s2, A2, hg1, hS, hR⟩ := hR
  obtain ⟨hv1, rfl⟩ := hR; obtain rfl := hv1.symm
  have hS : St e s2 w [] := hS
  refine stp hF (p_assign rfl) (by decide) (fun a hF => ?_)
  refine nilN ?_
  refine xn ?_
  refine sq ?_
  refine rg ?_
  refine stp hF (p_move rfl) (by decide) (fun a hF => ?_)
  refine stp hF (p_cvint (c := w8 (x2)) un_3 un_5 rfl rfl) (by decide) (fun a hF => ?_)
  refine stp hF (p_move rfl) (by decide) (fun a hF => ?_)
  refine stp hF (p_shr (c := bshr .i64 x2 8) rfl rfl (by decide) rfl) (by decide) (fun a hF => ?_)
  refine stp hF (p_cvint (c := w8 (bshr .i64 x2 8)) un_3 un_5 rfl rfl) (by decide) (fun a hF => ?_)
  refine stp hF (p_move rfl) (by decide) (fun a hF => ?_)
  refine stp hF (p_shr (c := bshr .i64 x2 16) rfl rfl (by decide) rfl) (by decide) (fun a hF => ?_)
  refine stp hF (p_cvint (c := w8 (bshr .i64 x2 16)) un_3 un_5 rfl rfl) (by decide) (fun a hF => ?_)
  refine stp hF (p_move rfl) (by decide) (fun a hF => ?_)
  refine stp hF (p_shr (c := bshr .i64 x2 24) rfl rfl (by decide) rfl) (by decide) (fun a hF => ?_)
  refine stp hF (p_cvint (c := w8 (bshr .i64 x2 24)) un_3 un_5 rfl rfl) (by decide) (fun a hF => ?_)
  refine ste hF (e_bslice (kd := (Kd.int .u8)) (et := 5) (ps := [(0, (.tmp 7)), (1, (.tmp 10)), (2, (.tmp 13)), (3, (.tmp 16))]) (vs := [(0, (.int .u8 (w8 (x2)))), (1, (.int .u8 (w8 (bshr .i64 x2 8)))), (2, (.int .u8 (w8 (bshr .i64 x2 16)))), (3, (.int .u8 (w8 (bshr .i64 x2 24))))]) (cs := [(.int .u8 (w8 (x2))), (.int .u8 (w8 (bshr .i64 x2 8))), (.int .u8 (w8 (bshr .i64 x2 16))), (.int .u8 (w8 (bshr .i64 x2 24)))]) (xs := ([w8 (x2), w8 (bshr .i64 x2 8), w8 (bshr .i64 x2 16), w8 (bshr .i64 x2 24)] : List Int)) hS rfl (by intro w; kernel_rfl) rfl (by decide) (Nat.le_of_ble_eq_true rfl) (by exact (rows_cons (kd := (Kd.int .u8)) (x := w8 (x2)) (c := [(.int .u8 (w8 (x2)))]) (cs := [(.int .u8 (w8 (bshr .i64 x2 8))), (.int .u8 (w8 (bshr .i64 x2 16))), (.int .u8 (w8 (bshr .i64 x2 24)))]) rfl (rows_cons (kd := (Kd.int .u8)) (x := w8 (bshr .i64 x2 8)) (c := [(.int .u8 (w8 (bshr .i64 x2 8)))]) (cs := [(.int .u8 (w8 (bshr .i64 x2 16))), (.int .u8 (w8 (bshr .i64 x2 24)))]) rfl (rows_cons (kd := (Kd.int .u8)) (x := w8 (bshr .i64 x2 16)) (c := [(.int .u8 (w8 (bshr .i64 x2 16)))]) (cs := [(.int .u8 (w8 (bshr .i64 x2 24)))]) rfl (rows_cons (kd := (Kd.int .u8)) (x := w8 (bshr .i64 x2 24)) (c := [(.int .u8 (w8 (bshr .i64 x2 24)))]) (cs := []) rfl (Rows.nil _ _ _ _))))))) (by decide) (fun v2 w a hR hF => ?_)
  have hS : St e s2 w [Ow (Kd.int .u8) 5 v2 ([w8 (x2), w8 (bshr .i64 x2 8), w8 (bshr .i64 x2 16), w8 (bshr .i64 x2 24)] : List Int)] := hR
  refine stp hF (p_assign rfl) (by decide) (fun a hF => ?_)
  refine nilN ?_
  refine xn ?_
  refine rt ?_
  obtain rfl := hsm H
  exact ret1 hF rfl rfl hS ⟨v2, rfl, rfl⟩

def slices_Grow.f (k : Nat) (x : Int) : Option (List Int) := if 0 ≤ x ∧ x * 1 ≤ 140737488355328 then some [] else none
set_option maxRecDepth 100000 in
theorem slices_Grow.spec (k : Nat) (s0 : HF) (w : World) (x : Int) (r : (List Int)) (H : slices_Grow.f k x = some r) :
    Law Try.prog 165 #[.slice none 0 0, .int .i64 x] s0 w [] (fun v s1 A1 => ∃ (u0 : Value), v = u0 ∧ A1 = [Ow (Kd.int .u8) 5 u0 r]) := by
  unfold slices_Grow.f at H
  obtain ⟨hq, H⟩ := hck H
  obtain rfl := hsm H
  have hw : w64 x = x := by
    obtain ⟨h0, h1⟩ := hq
    simp only [w64]
    exact IntWalk.i64_in x (by omega)
  refine Law.intro Try.func165 rfl [(0, .slice none 0 0), (1, .int .i64 x)] (Nat.le_of_ble_eq_true rfl) (enter_lk ⟨rfl, rfl, trivial⟩) (fun e a hS hF => ?_)
  have hF : Fr 27 a [(0, .slice none 0 0), (1, .int .i64 x)] := hF
  refine sq ?_
  refine rg ?_
  refine stp hF (p_assign rfl) (by decide) (fun a hF => ?_)
  refine nilN ?_
  refine xn ?_
  refine sq ?_
  refine sq ?_
  refine rg ?_
  refine stp hF (p_move rfl) (by decide) (fun a hF => ?_)
  refine stp hF (p_lss rfl rfl) (by decide) (fun a hF => ?_)
  refine nilN ?_
  refine xn ?_
  refine cnd hF rfl (fun hc => absurd hc (by simp; exact hq.1)) (fun hc => ?_)
  refine skN ?_
  refine xn ?_
  refine sq ?_
  refine sq ?_
  refine rg ?_
  refine stp hF (p_move rfl) (by decide) (fun a hF => ?_)
  refine stp hF (p_move rfl) (by decide) (fun a hF => ?_)
  refine stp hF (p_cap un_24 rfl) (by decide) (fun a hF => ?_)
  refine stp hF (p_move rfl) (by decide) (fun a hF => ?_)
  refine stp hF (p_len un_24 rfl) (by decide) (fun a hF => ?_)
  refine stp hF (p_sub (c := 0) rfl rfl (by decide)) (by decide) (fun a hF => ?_)
  refine stp hF (p_sub (c := x) rfl rfl (by rw [Int.sub_zero]; exact hw)) (by decide) (fun a hF => ?_)
  refine stp hF (p_assign rfl) (by decide) (fun a hF => ?_)
  refine nilN ?_
  refine xn ?_
  refine sq ?_
  refine rg ?_
  refine stp hF (p_move rfl) (by decide) (fun a hF => ?_)
  refine stp hF (p_gtr rfl rfl) (by decide) (fun a hF => ?_)
  refine nilN ?_
  refine xn ?_
  refine cnd hF rfl (fun hc => ?_) (fun hc => ?_)
  · refine rg ?_
    refine stp hF (p_move rfl) (by decide) (fun a hF => ?_)
    refine stp hF (p_move rfl) (by decide) (fun a hF => ?_)
    refine stp hF (p_cap un_24 rfl) (by decide) (fun a hF => ?_)
    refine stp hF (show Pu _ _ _ _ (.slice none 0 0) from run_cut (i := 0) (j := 0) (cap := 0) un_24 ti_5 rfl rfl rfl (by decide) (by decide) (by decide)) (by decide) (fun a hF => ?_)
    refine stp hF (p_move rfl) (by decide) (fun a hF => ?_)
    refine ste hF (e_appz (kd := (Kd.int .u8)) (x0 := 0) (c := [(.int .u8 0)]) hS rfl rfl un_24 un_3 ti_5 rfl rfl (by simpa using hc) (by decide) (by decide) hq.2) (by decide) (fun v1 w a hR hF => ?_)
    have hS : St e s0 w [Ow (Kd.int .u8) 5 v1 (List.replicate x.toNat 0)] := hR
    refine stp hF (p_move rfl) (by decide) (fun a hF => ?_)
    refine stp hF (p_len un_24 rfl) (by decide) (fun a hF => ?_)
    obtain ⟨v2, hS, p1⟩ := p_slo (n := 0) (i := 0) (j := 0) hS rfl un_24 ti_5 (by decide) (by decide) (by omega)
    refine stp hF (p1 rfl rfl rfl) (by decide) (fun a hF => ?_)
    refine stp hF (p_assign rfl) (by decide) (fun a hF => ?_)
    refine nilN ?_
    refine xn ?_
    refine sq ?_
    refine rg ?_
    refine stp hF (p_move rfl) (by decide) (fun a hF => ?_)
    refine stp hF (p_assign rfl) (by decide) (fun a hF => ?_)
    refine nilN ?_
    refine xn ?_
    refine rt ?_
    have hS : St e s0 w [Ow (Kd.int .u8) 5 v2 ([] : (List Int))] := by simpa [cut] using hS
    exact ret1 hF rfl rfl hS ⟨_, rfl, rfl⟩
  · refine skN ?_
    refine xn ?_
    refine sq ?_
    refine rg ?_
    refine stp hF (p_move rfl) (by decide) (fun a hF => ?_)
    refine stp hF (p_assign rfl) (by decide) (fun a hF => ?_)
    refine nilN ?_
    refine xn ?_
    refine rt ?_
    replace hS := hS.ownNil (Kd.int .u8) 5 none
    exact ret1 hF rfl rfl hS ⟨_, rfl, rfl⟩

def slices_Concat.c1 (k : Nat) (x1 : (List Int)) : Option (List Int) :=
  (some x1)
def slices_Concat.l1 (x2 : (List (List Int))) : Nat → (List Int) → Int → Option (List Int)
  | 0, _, _ => none
  | k + 1, x3, x4 => (if (decide (x4 < (x2.length : Int))) = true then (if 0 ≤ x4 ∧ x4 < (x2.length : Int) then (if x3.length + (rd x2 x4).length ≤ 140737488355328 then ((slices_Concat.l1 x2 k) (x3 ++ (rd x2 x4)) (w64 (x4 + 1))) else none) else none) else (some x3))
def slices_Concat.c2 (k : Nat) (x2 : (List (List Int))) (x5 : Int) : Option (List Int) :=
  ((slices_Grow.f k x5).bind fun x6 => (((slices_Concat.l1 x2 k x6 0) : Option (List Int)).bind fun x7 => slices_Concat.c1 k x7))
def slices_Concat.c3 (k : Nat) (rec_l2 : Int → Int → Option Int) (x8 : Int) (x9 : Int) : Option Int :=
  (rec_l2 x9 (w64 (x8 + 1)))
def slices_Concat.l2 (x2 : (List (List Int))) : Nat → Int → Int → Option Int
  | 0, _, _ => none
  | k + 1, x10, x8 => (if (decide (x8 < (x2.length : Int))) = true then (((if 0 ≤ x8 ∧ x8 < (x2.length : Int) then (if (decide ((w64 (x10 + ((rd x2 x8).length : Int))) < 0)) = true then none else (some (w64 (x10 + ((rd x2 x8).length : Int))))) else none) : Option Int).bind fun x11 => slices_Concat.c3 k (slices_Concat.l2 x2 k) x8 x11) else (some x10))
def slices_Concat.f (k : Nat) (x2 : (List (List Int))) : Option (List Int) :=
  (((slices_Concat.l2 x2 k 0 0) : Option Int).bind fun x12 => slices_Concat.c2 k x2 x12)
set_option maxRecDepth 100000 in
set_option maxHeartbeats 4000000 in
theorem slices_Concat.spec (k : Nat) (s0 : HF) (w : World) (x2 : (List (List Int))) (v1 : Value) (h1 : Sl (Kd.slice (Kd.int .u8)) s0 v1 x2) (r : (List Int)) (H : slices_Concat.f k x2 = some r) :
    Law Try.prog 134 #[v1] s0 w [] (fun v s1 A1 => ∃ (u0 : Value), v = u0 ∧ A1 = [Ow (Kd.int .u8) 5 u0 r]) := by
  unfold slices_Concat.f at H
  refine Law.intro Try.func134 rfl [(0, v1)] (Nat.le_of_ble_eq_true rfl) (enter_lk ⟨rfl, trivial⟩) (fun e a hS hF => ?_)
  have hF : Fr 36 a [(0, v1)] := hF
  refine sq ?_
  refine rg ?_
  refine stp hF (p_assign rfl) (by decide) (fun a hF => ?_)
  refine nilN ?_
  refine xn ?_
  refine sq ?_
  refine rg ?_
  refine stp hF (p_assign rfl) (by decide) (fun a hF => ?_)
  refine nilN ?_
  refine xn ?_
  obtain ⟨x12, H, HK1⟩ := hb H
  refine sqj (fun a w => ∃ (x5 : Int) , St e s0 w [] ∧ Fr 36 a [(0, v1), (3, (.int .i64 x5))] ∧ slices_Concat.c2 k x2 x5 = some r) ?_ ?_
  · skip
    refine sq ?_
    refine rg ?_
    refine stp hF (p_move rfl) (by decide) (fun a hF => ?_)
    refine stp hF (p_lenr un_157 rfl h1) (by decide) (fun a hF => ?_)
    refine stp hF (p_move rfl) (by decide) (fun a hF => ?_)
    refine nilN ?_
    refine xn ?_
    refine blk ?_
    refine loop_ind (fun k1 a w => ∃ (x10 : Int) (x8 : Int) , St e s0 w [] ∧ Fr 36 a [(0, v1), (3, (.int .i64 x10)), (9, v1), (10, (.int .i64 (x2.length : Int))), (11, (.int .i64 x8))] ∧ slices_Concat.l2 x2 k1 x10 x8 = some x12) k ?_ ?_ ?_
    · skip
      exact ⟨0, 0, hS, hF.cut ⟨rfl, rfl, rfl, rfl, rfl, trivial⟩, H⟩
    · clear H hS hF
      rintro a w ⟨x10, x8, hS, hF, H⟩
      exact absurd (show none = some _ from H) (by simp)
    · clear H hS hF
      rintro k1 a w ⟨x10, x8, hS, hF, H⟩
      rw [slices_Concat.l2.eq_2] at H
      refine sq ?_
      refine rg ?_
      refine stp hF (p_lss rfl rfl) (by decide) (fun a hF => ?_)
      refine nilN ?_
      refine xn ?_
      refine sq ?_
      refine cnd hF rfl (fun hc1 => ?_) (fun hc1 => ?_)
      · replace H := hbt hc1 H
        refine skN ?_
        refine xn ?_
        obtain ⟨x11, H, HK2⟩ := hb H
        refine sqj (fun a w => ∃ (x9 : Int) , St e s0 w [] ∧ Fr 36 a [(0, v1), (3, (.int .i64 x9)), (9, v1), (10, (.int .i64 (x2.length : Int))), (11, (.int .i64 x8))] ∧ slices_Concat.c3 k1 (slices_Concat.l2 x2 k1) x8 x9 = some x12) ?_ ?_
        · skip
          refine blk ?_
          refine sq ?_
          refine rg ?_
          obtain ⟨hq1, H⟩ := hck H
          obtain ⟨ad1, h2, p1⟩ := p_idxr (P := Try.prog) (i := x8) h1 un_157 ti_24 hq1.1 hq1.2
          refine stp hF (p1 rfl rfl) (by decide) (fun a hF => ?_)
          obtain ⟨v2, h3, p2⟩ := p_ldr_slice (P := Try.prog) h2 ia_24
          refine stp hF (p2 rfl hS.ro) (by decide) (fun a hF => ?_)
          refine stp hF (p_assign rfl) (by decide) (fun a hF => ?_)
          refine nilN ?_
          refine xn ?_
          refine sq ?_
          refine rg ?_
          refine stp hF (p_move rfl) (by decide) (fun a hF => ?_)
          refine stp hF (p_move rfl) (by decide) (fun a hF => ?_)
          refine stp hF (p_lenr un_24 rfl h3) (by decide) (fun a hF => ?_)
          refine stp hF (p_add (c := w64 (x10 + ((rd x2 x8).length : Int))) rfl rfl rfl) (by decide) (fun a hF => ?_)
          refine stp hF (p_assign rfl) (by decide) (fun a hF => ?_)
          refine nilN ?_
          refine xn ?_
          refine sq ?_
          refine rg ?_
          refine stp hF (p_move rfl) (by decide) (fun a hF => ?_)
          refine stp hF (p_lss rfl rfl) (by decide) (fun a hF => ?_)
          refine nilN ?_
          refine xn ?_
          refine cnd hF rfl (fun hc2 => ?_) (fun hc2 => ?_)
          · replace H := hbt hc2 H
            refine rg ?_
            exact absurd H (by simp)
          · replace H := hbf hc2 H
            refine skN ?_
            refine bn (xn ?_)
            obtain rfl := hsm H
            exact ⟨(w64 (x10 + ((rd x2 x8).length : Int))), hS, hF.cut ⟨rfl, rfl, rfl, rfl, rfl, trivial⟩, HK2⟩
        · clear H HK2 hS hF
          rintro a w ⟨x9, hS, hF, H⟩
          unfold slices_Concat.c3 at H
          refine rg ?_
          refine stp hF (p_add (c := w64 (x8 + 1)) rfl rfl rfl) (by decide) (fun a hF => ?_)
          refine stp hF (p_move rfl) (by decide) (fun a hF => ?_)
          refine nilN ?_
          refine xn ?_
          exact ⟨x9, (w64 (x8 + 1)), hS, hF.cut ⟨rfl, rfl, rfl, rfl, rfl, trivial⟩, H⟩
      · replace H := hbf hc1 H
        refine exi ?_
        refine xe (xe (hit (xn ?_)))
        obtain rfl := hsm H
        exact ⟨x10, hS, hF.cut ⟨rfl, rfl, trivial⟩, HK1⟩
  · clear H HK1 hS hF
    rintro a w ⟨x5, hS, hF, H⟩
    unfold slices_Concat.c2 at H
    refine sq ?_
    refine rg ?_
    refine stp hF (p_move rfl) (by decide) (fun a hF => ?_)
    obtain ⟨x6, hx1, H⟩ := hb H
    refine ste hF (e_callA (fst := []) (vs := [(.slice none 0 0), (.int .i64 x5)]) (cap := []) rfl rfl go_165 (St.call (A := []) (B := []) hS (slices_Grow.spec k _ _ x5 _ hx1)) rfl) (by decide) (fun v w a hR hF => ?_)
    obtain ⟨s2, A2, hg1, hS, hR⟩ := hR
    obtain ⟨v3, hv1, rfl⟩ := hR; obtain rfl := hv1.symm
    have hS : St e s2 w [Ow (Kd.int .u8) 5 v3 x6] := hS
    refine stp hF (p_assign rfl) (by decide) (fun a hF => ?_)
    refine nilN ?_
    refine xn ?_
    obtain ⟨x7, H, HK3⟩ := hb H
    refine sqj (fun a w => ∃ (x1 : (List Int)) (v4 : Value) , St e s2 w [Ow (Kd.int .u8) 5 v4 x1] ∧ Fr 36 a [(6, v4)] ∧ slices_Concat.c1 k x1 = some r) ?_ ?_
    · skip
      refine sq ?_
      refine rg ?_
      refine stp hF (p_move rfl) (by decide) (fun a hF => ?_)
      refine stp hF (p_lenr un_157 rfl (h1.mono hg1)) (by decide) (fun a hF => ?_)
      refine stp hF (p_move rfl) (by decide) (fun a hF => ?_)
      refine nilN ?_
      refine xn ?_
      refine blk ?_
      refine loop_ind (fun k2 a w => ∃ (x3 : (List Int)) (x4 : Int) (v5 : Value) , St e s2 w [Ow (Kd.int .u8) 5 v5 x3] ∧ Fr 36 a [(6, v5), (25, v1), (26, (.int .i64 (x2.length : Int))), (27, (.int .i64 x4))] ∧ slices_Concat.l1 x2 k2 x3 x4 = some x7) k ?_ ?_ ?_
      · skip
        exact ⟨x6, 0, v3, hS, hF.cut ⟨rfl, rfl, rfl, rfl, trivial⟩, H⟩
      · clear H hS hF
        rintro a w ⟨x3, x4, v5, hS, hF, H⟩
        exact absurd (show none = some _ from H) (by simp)
      · clear H hS hF
        rintro k2 a w ⟨x3, x4, v5, hS, hF, H⟩
        rw [slices_Concat.l1.eq_2] at H
        refine sq ?_
        refine rg ?_
        refine stp hF (p_lss rfl rfl) (by decide) (fun a hF => ?_)
        refine nilN ?_
        refine xn ?_
        refine sq ?_
        refine cnd hF rfl (fun hc3 => ?_) (fun hc3 => ?_)
        · replace H := hbt hc3 H
          refine skN ?_
          refine xn ?_
          refine sq ?_
          refine blk ?_
          refine sq ?_
          refine rg ?_
          obtain ⟨hq2, H⟩ := hck H
          obtain ⟨ad2, h4, p3⟩ := p_idxr (P := Try.prog) (i := x4) (h1.mono hg1) un_157 ti_24 hq2.1 hq2.2
          refine stp hF (p3 rfl rfl) (by decide) (fun a hF => ?_)
          obtain ⟨v6, h5, p4⟩ := p_ldr_slice (P := Try.prog) h4 ia_24
          refine stp hF (p4 rfl hS.ro) (by decide) (fun a hF => ?_)
          refine stp hF (p_assign rfl) (by decide) (fun a hF => ?_)
          refine nilN ?_
          refine xn ?_
          refine rg ?_
          refine stp hF (p_move rfl) (by decide) (fun a hF => ?_)
          refine stp hF (p_move rfl) (by decide) (fun a hF => ?_)
          obtain ⟨hq3, H⟩ := hck H
          refine ste hF (e_append (n := 0) hS rfl rfl rfl (h5.src hS) un_24 ti_5 rfl (by decide) (by decide) (Nat.le_trans (Nat.mul_le_mul_right 1 hq3) (by decide))) (by decide) (fun v7 w a hR hF => ?_)
          have hS : St e s2 w [Ow (Kd.int .u8) 5 v7 (x3 ++ (rd x2 x4))] := hR
          refine stp hF (p_assign rfl) (by decide) (fun a hF => ?_)
          refine nilN ?_
          refine bn (xn ?_)
          refine rg ?_
          refine stp hF (p_add (c := w64 (x4 + 1)) rfl rfl rfl) (by decide) (fun a hF => ?_)
          refine stp hF (p_move rfl) (by decide) (fun a hF => ?_)
          refine nilN ?_
          refine xn ?_
          exact ⟨(x3 ++ (rd x2 x4)), (w64 (x4 + 1)), v7, hS, hF.cut ⟨rfl, rfl, rfl, rfl, trivial⟩, H⟩
        · replace H := hbf hc3 H
          refine exi ?_
          refine xe (xe (hit (xn ?_)))
          obtain rfl := hsm H
          exact ⟨x3, v5, hS, hF.cut ⟨rfl, trivial⟩, HK3⟩
    · clear H HK3 hS hF
      rintro a w ⟨x1, v4, hS, hF, H⟩
      unfold slices_Concat.c1 at H
      refine sq ?_
      refine rg ?_
      refine stp hF (p_move rfl) (by decide) (fun a hF => ?_)
      refine stp hF (p_assign rfl) (by decide) (fun a hF => ?_)
      refine nilN ?_
      refine xn ?_
      refine rt ?_
      obtain rfl := hsm H
      exact ret1 hF rfl rfl hS ⟨v4, rfl, rfl⟩

def impl_Frame.f (k : Nat) (x1 : (List Int)) : Option (List Int) :=
  ((impl_putInt.f k ([] : List Int) (x1.length : Int)).bind fun x2 => ((impl_sumBytes.f k x1).bind fun x3 => ((slices_Concat.f k ([x2, x1, x3] : List (List Int))).bind fun x4 => (some x4))))
set_option maxRecDepth 100000 in
set_option maxHeartbeats 4000000 in
theorem impl_Frame.spec (k : Nat) (s0 : HF) (w : World) (x1 : (List Int)) (v1 : Value) (h1 : Sl (Kd.int .u8) s0 v1 x1) (r : (List Int)) (H : impl_Frame.f k x1 = some r) :
    Law Try.prog 70 #[v1] s0 w [] (fun v s1 A1 => ∃ (u0 : Value), v = u0 ∧ A1 = [Ow (Kd.int .u8) 5 u0 r]) := by
  unfold impl_Frame.f at H
  refine Law.intro Try.func70 rfl [(0, v1)] (Nat.le_of_ble_eq_true rfl) (enter_lk ⟨rfl, trivial⟩) (fun e a hS hF => ?_)
  have hF : Fr 11 a [(0, v1)] := hF
  refine sq ?_
  refine rg ?_
  refine stp hF (p_assign rfl) (by decide) (fun a hF => ?_)
  refine nilN ?_
  refine xn ?_
  refine sq ?_
  refine rg ?_
  refine stp hF (p_move rfl) (by decide) (fun a hF => ?_)
  refine stp hF (p_lenr un_24 rfl h1) (by decide) (fun a hF => ?_)
  replace hS := hS.ownNil (Kd.int .u8) 5 none
  obtain ⟨x2, hx1, H⟩ := hb H
  refine ste hF (e_callA (fst := []) (vs := [(.slice none 0 0), (.int .i64 (x1.length : Int))]) (cap := []) rfl rfl go_68 (St.call (A := [Ow (Kd.int .u8) 5 (.slice none 0 0) ([] : List Int)]) (B := []) hS (impl_putInt.spec k _ _ ([] : List Int) (x1.length : Int) (.slice none 0 0) _ hx1)) rfl) (by decide) (fun v w a hR hF => ?_)
  obtain ⟨s2, A2, hg1, hS, hR⟩ := hR
  obtain ⟨v2, hv1, rfl⟩ := hR; obtain rfl := hv1.symm
  have hS : St e s2 w [Ow (Kd.int .u8) 5 v2 x2] := hS
  refine stp hF (p_move rfl) (by decide) (fun a hF => ?_)
  refine stp hF (p_move rfl) (by decide) (fun a hF => ?_)
  obtain ⟨x3, hx2, H⟩ := hb H
  refine ste hF (e_callA (fst := []) (vs := [v1]) (cap := []) rfl rfl go_135 (St.call (A := []) (B := [Ow (Kd.int .u8) 5 v2 x2]) hS (impl_sumBytes.spec k _ _ x1 v1 (h1.mono hg1) _ hx2)) rfl) (by decide) (fun v w a hR hF => ?_)
  obtain ⟨s3, A3, hg2, hS, hR⟩ := hR
  obtain ⟨v3, hv2, rfl⟩ := hR; obtain rfl := hv2.symm
  have hS : St e s3 w [Ow (Kd.int .u8) 5 v3 x3, Ow (Kd.int .u8) 5 v2 x2] := hS
  obtain ⟨s4, hg3, h2, hS⟩ := hS.freeze (i := 1) (kd := (Kd.int .u8)) (et := 5) (v := v2) (xs := x2) (B := [Ow (Kd.int .u8) 5 v3 x3]) rfl
  obtain ⟨s5, hg4, h3, hS⟩ := hS.freeze (i := 0) (kd := (Kd.int .u8)) (et := 5) (v := v3) (xs := x3) (B := []) rfl
  refine ste hF (e_bslice (kd := (Kd.slice (Kd.int .u8))) (et := 24) (ps := [(0, (.tmp 5)), (1, (.tmp 6)), (2, (.tmp 8))]) (vs := [(0, v2), (1, v1), (2, v3)]) (cs := [v2, v1, v3]) (xs := ([x2, x1, x3] : List (List Int))) hS rfl (by intro w; obtain ⟨_, _, _, e1⟩ := Sl.el (h2.mono hg4); rw [e1]; obtain ⟨_, _, _, e2⟩ := Sl.el ((((h1.mono hg1).mono hg2).mono hg3).mono hg4); rw [e2]; obtain ⟨_, _, _, e3⟩ := Sl.el h3; rw [e3]; kernel_rfl) rfl (by decide) (Nat.le_of_ble_eq_true rfl) (by exact (rows_cons (kd := (Kd.slice (Kd.int .u8))) (x := x2) (c := [v2]) (cs := [v1, v3]) ⟨_, rfl, (h2.mono hg4)⟩ (rows_cons (kd := (Kd.slice (Kd.int .u8))) (x := x1) (c := [v1]) (cs := [v3]) ⟨_, rfl, ((((h1.mono hg1).mono hg2).mono hg3).mono hg4)⟩ (rows_cons (kd := (Kd.slice (Kd.int .u8))) (x := x3) (c := [v3]) (cs := []) ⟨_, rfl, h3⟩ (Rows.nil _ _ _ _)))))) (by decide) (fun v4 w a hR hF => ?_)
  have hS : St e s5 w [Ow (Kd.slice (Kd.int .u8)) 24 v4 ([x2, x1, x3] : List (List Int))] := hR
  obtain ⟨s6, hg5, hl1, hcall1⟩ := St.lend (P := Try.prog) (Bs := [Ow (Kd.slice (Kd.int .u8)) 24 v4 ([x2, x1, x3] : List (List Int))]) (A := []) (B := []) hS
  obtain ⟨h4, hl1⟩ := hl1.ow hg5
  obtain ⟨x4, hx3, H⟩ := hb H
  refine ste hF (e_callA (fst := []) (vs := [v4]) (cap := []) rfl rfl go_134 (hcall1 (slices_Concat.spec k _ _ ([x2, x1, x3] : List (List Int)) v4 h4 _ hx3) (by rintro v s1 A1 ⟨_, rfl, rfl⟩; exact ⟨Ow_flat flat_int _ _ _, trivial⟩)) rfl) (by decide) (fun v w a hR hF => ?_)
  obtain ⟨s7, s8, A4, hg6, hS, hR⟩ := hR
  obtain ⟨v5, hv3, rfl⟩ := hR; obtain rfl := hv3.symm
  have hS : St e s7 w [Ow (Kd.slice (Kd.int .u8)) 24 v4 ([x2, x1, x3] : List (List Int)), Ow (Kd.int .u8) 5 v5 x4] := hS
  refine stp hF (p_assign rfl) (by decide) (fun a hF => ?_)
  refine nilN ?_
  refine xn ?_
  refine rt ?_
  obtain rfl := hsm H
  replace hS := hS.sel (is := [1]) (A' := [Ow (Kd.int .u8) 5 v5 x4]) rfl
  exact ret1 hF rfl rfl hS ⟨v5, rfl, rfl⟩

def impl_PutPage.c1 (k : Nat) (x1 : (List Int)) : Option (List Int) :=
  ((impl_Frame.f k x1).bind fun x2 => (some x2))
def impl_PutPage.l1 (x3 : TPage) : Nat → (List Int) → Int → Option (List Int)
  | 0, _, _ => none
  | k + 1, x4, x5 => (if (decide (x5 < 4)) = true then (if 0 ≤ x5 ∧ x5 < 4 then ((impl_putSlot.f k x4 (⟨(rd x3.Slots x5).Has, (⟨((rd x3.Slots x5).O).Kind, ((rd x3.Slots x5).O).Ints, ((rd x3.Slots x5).O).Refs⟩ : TObj)⟩ : TSlot)).bind fun x6 => ((impl_PutPage.l1 x3 k) x6 (w64 (x5 + 1)))) else none) else (some x4))
def impl_PutPage.f (k : Nat) (x3 : TPage) : Option (List Int) :=
  ((impl_PageOk.f k x3).bind fun x7 => (if (!x7) = true then (some ([] : List Int)) else ((impl_putInt.f k ([] : List Int) x3.Lsn).bind fun x8 => (((impl_PutPage.l1 x3 k x8 0) : Option (List Int)).bind fun x9 => impl_PutPage.c1 k x9))))
set_option maxRecDepth 100000 in
set_option maxHeartbeats 4000000 in
theorem impl_PutPage.spec (k : Nat) (s0 : HF) (w : World) (x3 : TPage) (c2 : List Value) (h1 : ((Kd.arr 4 kTSlot)).K s0 x3.Slots c2) (r : (List Int)) (H : impl_PutPage.f k x3 = some r) :
    Law Try.prog 28 #[(.agg ([(.int .i64 x3.Lsn)] ++ c2 : List Value).toArray)] s0 w [] (fun v s1 A1 => ∃ (u0 : Value), v = u0 ∧ A1 = [Ow (Kd.int .u8) 5 u0 r]) := by
  unfold impl_PutPage.f at H
  refine Law.intro Try.func28 rfl [(0, (.agg ([(.int .i64 x3.Lsn)] ++ c2 : List Value).toArray))] (Nat.le_of_ble_eq_true rfl) (enter_lk ⟨rfl, trivial⟩) (fun e a hS hF => ?_)
  have hF : Fr 23 a [(0, (.agg ([(.int .i64 x3.Lsn)] ++ c2 : List Value).toArray))] := hF
  refine sq ?_
  refine rg ?_
  refine ste hF (e_box (cs := [(.int .i64 x3.Lsn)] ++ c2) hS rfl rfl) (by decide) (fun v w a hR hF => ?_)
  obtain ⟨g1, rfl, hS⟩ := hR
  refine stp hF (p_assign rfl) (by decide) (fun a hF => ?_)
  refine nilN ?_
  refine xn ?_
  refine sq ?_
  refine sq ?_
  refine rg ?_
  refine stp hF (p_ldb_agg (i := 0) (l := []) (m := [(.int .i64 x3.Lsn)] ++ c2) (r := []) hS rfl rfl ia_49 ti_49 (by simp) (by simp [(show c2.length = 16 from Kd.len _ h1)]) (by simp [(show c2.length = 16 from Kd.len _ h1)])) (by decide) (fun a hF => ?_)
  obtain ⟨x7, hx1, H⟩ := hb H
  refine ste hF (e_callA (fst := []) (vs := [(.agg ([(.int .i64 x3.Lsn)] ++ c2 : List Value).toArray)]) (cap := []) rfl rfl go_31 (St.call (A := []) (B := [pt g1 49 ([(.int .i64 x3.Lsn)] ++ c2)]) hS (impl_PageOk.spec k _ _ x3 c2 h1 _ hx1)) rfl) (by decide) (fun v w a hR hF => ?_)
  obtain ⟨s2, A2, hg1, hS, hR⟩ := hR
  obtain ⟨hv1, rfl⟩ := hR; obtain rfl := hv1.symm
  have hS : St e s2 w [pt g1 49 ([(.int .i64 x3.Lsn)] ++ c2)] := hS
  refine stp hF (p_not rfl) (by decide) (fun a hF => ?_)
  refine nilN ?_
  refine xn ?_
  refine cnd hF rfl (fun hc1 => ?_) (fun hc1 => ?_)
  · replace H := hbt hc1 H
    refine sq ?_
    refine rg ?_
    refine stp hF (p_assign rfl) (by decide) (fun a hF => ?_)
    refine nilN ?_
    refine xn ?_
    refine rt ?_
    refine xr ?_
    obtain rfl := hsm H
    replace hS := hS.ownNil (Kd.int .u8) 5 none
    replace hS := hS.sel (is := [0]) (A' := [Ow (Kd.int .u8) 5 (.slice none 0 0) ([] : List Int)]) rfl
    exact ret1 hF rfl rfl hS ⟨(.slice none 0 0), rfl, rfl⟩
  · replace H := hbf hc1 H
    refine skN ?_
    refine xn ?_
    refine sq ?_
    refine rg ?_
    refine stp hF (p_fldb (o' := 0) rfl fi_49_0 rfl) (by decide) (fun a hF => ?_)
    refine stp hF (p_ldb_one (i := 0) hS rfl rfl ia_3 rfl) (by decide) (fun a hF => ?_)
    replace hS := hS.ownNil (Kd.int .u8) 5 none
    obtain ⟨x8, hx2, H⟩ := hb H
    refine ste hF (e_callA (fst := []) (vs := [(.slice none 0 0), (.int .i64 x3.Lsn)]) (cap := []) rfl rfl go_68 (St.call (A := [Ow (Kd.int .u8) 5 (.slice none 0 0) ([] : List Int)]) (B := [pt g1 49 ([(.int .i64 x3.Lsn)] ++ c2)]) hS (impl_putInt.spec k _ _ ([] : List Int) x3.Lsn (.slice none 0 0) _ hx2)) rfl) (by decide) (fun v w a hR hF => ?_)
    obtain ⟨s3, A3, hg2, hS, hR⟩ := hR
    obtain ⟨v1, hv2, rfl⟩ := hR; obtain rfl := hv2.symm
    have hS : St e s3 w [Ow (Kd.int .u8) 5 v1 x8, pt g1 49 ([(.int .i64 x3.Lsn)] ++ c2)] := hS
    refine stp hF (p_assign rfl) (by decide) (fun a hF => ?_)
    refine nilN ?_
    refine xn ?_
    obtain ⟨x9, H, HK1⟩ := hb H
    refine sqj (fun a w => ∃ (x1 : (List Int)) (s4 : HF) (v2 : Value) , St e s4 w [pt g1 49 ([(.int .i64 x3.Lsn)] ++ c2), Ow (Kd.int .u8) 5 v2 x1] ∧ Fr 23 a [(3, v2)] ∧ Sub s3 s4 ∧ impl_PutPage.c1 k x1 = some r) ?_ ?_
    · skip
      refine sq ?_
      refine rg ?_
      refine stp hF (p_fldb (o' := 1) rfl fi_49_1 rfl) (by decide) (fun a hF => ?_)
      refine stp hF (p_ldb_agg (i := 1) (l := [(.int .i64 x3.Lsn)]) (m := c2) (r := []) hS rfl rfl ia_47 ti_47 (by simp) (by simp [(show c2.length = 16 from Kd.len _ ((Kd.arr 4 kTSlot).mono hg2 ((Kd.arr 4 kTSlot).mono hg1 h1)))]) (by simp [(show c2.length = 16 from Kd.len _ ((Kd.arr 4 kTSlot).mono hg2 ((Kd.arr 4 kTSlot).mono hg1 h1)))])) (by decide) (fun a hF => ?_)
      refine stp hF (p_move rfl) (by decide) (fun a hF => ?_)
      refine nilN ?_
      refine xn ?_
      refine blk ?_
      refine loop_ind (fun k1 a w => ∃ (x4 : (List Int)) (x5 : Int) (s5 : HF) (v3 : Value) , St e s5 w [pt g1 49 ([(.int .i64 x3.Lsn)] ++ c2), Ow (Kd.int .u8) 5 v3 x4] ∧ Fr 23 a [(3, v3), (13, (.agg c2.toArray)), (14, (.int .i64 x5))] ∧ Sub s3 s5 ∧ impl_PutPage.l1 x3 k1 x4 x5 = some x9) k ?_ ?_ ?_
      · skip
        replace hS := hS.sel (is := [1, 0]) (A' := [pt g1 49 ([(.int .i64 x3.Lsn)] ++ c2), Ow (Kd.int .u8) 5 v1 x8]) rfl
        exact ⟨x8, 0, s3, v1, hS, hF.cut ⟨rfl, rfl, rfl, trivial⟩, (Sub.refl _), H⟩
      · clear H hS hF
        rintro a w ⟨x4, x5, s5, v3, hS, hF, hg3, H⟩
        exact absurd (show none = some _ from H) (by simp)
      · clear H hS hF
        rintro k1 a w ⟨x4, x5, s5, v3, hS, hF, hg3, H⟩
        rw [impl_PutPage.l1.eq_2] at H
        refine sq ?_
        refine rg ?_
        refine stp hF (p_lss rfl rfl) (by decide) (fun a hF => ?_)
        refine nilN ?_
        refine xn ?_
        refine sq ?_
        refine cnd hF rfl (fun hc2 => ?_) (fun hc2 => ?_)
        · replace H := hbt hc2 H
          refine skN ?_
          refine xn ?_
          refine sq ?_
          refine blk ?_
          refine sq ?_
          refine rg ?_
          obtain ⟨hq1, H⟩ := hck H
          obtain ⟨c3, h2, p1⟩ := p_idxv_agg (P := Try.prog) (i := x5) ((Kd.arr 4 kTSlot).mono hg3 ((Kd.arr 4 kTSlot).mono hg2 ((Kd.arr 4 kTSlot).mono hg1 h1))) un_47 ti_38 ia_38 hq1.1 hq1.2
          obtain ⟨v4, v5, rfl, h3, h4⟩ := kTSlot_open h2
          refine stp hF (p1 rfl rfl) (by decide) (fun a hF => ?_)
          refine ste hF (e_alloc (cs := [(.bool false), (.int .i64 0), (.slice none 0 0), (.slice none 0 0)]) hS ti_38 rfl) (by decide) (fun v w a hR hF => ?_)
          obtain ⟨g2, rfl, hS⟩ := hR
          refine ste0 hF (e_stb (i := 0) (l := []) (m := [(.bool false), (.int .i64 0), (.slice none 0 0), (.slice none 0 0)]) (r := []) (m' := [(.bool ((rd x3.Slots x5).Has)), (.int .i64 (((rd x3.Slots x5).O).Kind)), v4, v5]) (cs' := [(.bool ((rd x3.Slots x5).Has)), (.int .i64 (((rd x3.Slots x5).O).Kind)), v4, v5]) hS rfl rfl rfl ti_38 rfl rfl rfl rfl rfl (one_cons rfl (one_cons rfl (one_cons (one_sl h3) (one_cons (one_sl h4) one_nil)))) rfl) (fun v w a hR hF => ?_)
          have hS : St e s5 w [pt g2 38 ([(.bool ((rd x3.Slots x5).Has)), (.int .i64 (((rd x3.Slots x5).O).Kind)), v4, v5]), pt g1 49 ([(.int .i64 x3.Lsn)] ++ c2), Ow (Kd.int .u8) 5 v3 x4] := hR
          refine nilN ?_
          refine xn ?_
          refine rg ?_
          refine stp hF (p_move rfl) (by decide) (fun a hF => ?_)
          refine stp hF (p_ldb_agg (i := 0) (l := []) (m := [(.bool ((rd x3.Slots x5).Has)), (.int .i64 (((rd x3.Slots x5).O).Kind)), v4, v5]) (r := []) hS rfl rfl ia_38 ti_38 rfl rfl rfl) (by decide) (fun a hF => ?_)
          replace hS := hS.sel (is := [2, 0, 0]) (A' := [Ow (Kd.int .u8) 5 v3 x4, pt g2 38 ([(.bool ((rd x3.Slots x5).Has)), (.int .i64 (((rd x3.Slots x5).O).Kind)), v4, v5]), pt g1 49 ([(.int .i64 x3.Lsn)] ++ c2)]) rfl
          obtain ⟨x6, hx3, H⟩ := hb H
          refine ste hF (e_callA (fst := []) (vs := [v3, (.agg #[(.bool ((rd x3.Slots x5).Has)), (.int .i64 (((rd x3.Slots x5).O).Kind)), v4, v5])]) (cap := []) rfl rfl go_69 (St.call (A := [Ow (Kd.int .u8) 5 v3 x4]) (B := [pt g2 38 ([(.bool ((rd x3.Slots x5).Has)), (.int .i64 (((rd x3.Slots x5).O).Kind)), v4, v5]), pt g1 49 ([(.int .i64 x3.Lsn)] ++ c2)]) hS (impl_putSlot.spec k1 _ _ x4 (⟨(rd x3.Slots x5).Has, (⟨((rd x3.Slots x5).O).Kind, ((rd x3.Slots x5).O).Ints, ((rd x3.Slots x5).O).Refs⟩ : TObj)⟩ : TSlot) v3 v4 v5 h3 h4 _ hx3)) rfl) (by decide) (fun v w a hR hF => ?_)
          obtain ⟨s6, A4, hg4, hS, hR⟩ := hR
          obtain ⟨v6, hv3, rfl⟩ := hR; obtain rfl := hv3.symm
          have hS : St e s6 w [Ow (Kd.int .u8) 5 v6 x6, pt g2 38 ([(.bool ((rd x3.Slots x5).Has)), (.int .i64 (((rd x3.Slots x5).O).Kind)), v4, v5]), pt g1 49 ([(.int .i64 x3.Lsn)] ++ c2)] := hS
          refine stp hF (p_assign rfl) (by decide) (fun a hF => ?_)
          refine nilN ?_
          refine bn (xn ?_)
          refine rg ?_
          refine stp hF (p_add (c := w64 (x5 + 1)) rfl rfl rfl) (by decide) (fun a hF => ?_)
          refine stp hF (p_move rfl) (by decide) (fun a hF => ?_)
          refine nilN ?_
          refine xn ?_
          replace hS := hS.sel (is := [2, 0]) (A' := [pt g1 49 ([(.int .i64 x3.Lsn)] ++ c2), Ow (Kd.int .u8) 5 v6 x6]) rfl
          exact ⟨x6, (w64 (x5 + 1)), s6, v6, hS, hF.cut ⟨rfl, rfl, rfl, trivial⟩, (hg3.trans hg4), H⟩
        · replace H := hbf hc2 H
          refine exi ?_
          refine xe (xe (hit (xn ?_)))
          obtain rfl := hsm H
          exact ⟨x4, s5, v3, hS, hF.cut ⟨rfl, trivial⟩, hg3, HK1⟩
    · clear H HK1 hS hF
      rintro a w ⟨x1, s4, v2, hS, hF, hg5, H⟩
      unfold impl_PutPage.c1 at H
      refine sq ?_
      refine rg ?_
      refine stp hF (p_move rfl) (by decide) (fun a hF => ?_)
      replace hS := hS.sel (is := [1, 0]) (A' := [Ow (Kd.int .u8) 5 v2 x1, pt g1 49 ([(.int .i64 x3.Lsn)] ++ c2)]) rfl
      obtain ⟨s7, hg6, hl1, hcall1⟩ := St.lend (P := Try.prog) (Bs := [Ow (Kd.int .u8) 5 v2 x1]) (A := []) (B := [pt g1 49 ([(.int .i64 x3.Lsn)] ++ c2)]) hS
      obtain ⟨h5, hl1⟩ := hl1.ow hg6
      obtain ⟨x2, hx4, H⟩ := hb H
      refine ste hF (e_callA (fst := []) (vs := [v2]) (cap := []) rfl rfl go_70 (hcall1 (impl_Frame.spec k _ _ x1 v2 h5 _ hx4) (by rintro v s1 A1 ⟨_, rfl, rfl⟩; exact ⟨Ow_flat flat_int _ _ _, trivial⟩)) rfl) (by decide) (fun v w a hR hF => ?_)
      obtain ⟨s8, s9, A5, hg7, hS, hR⟩ := hR
      obtain ⟨v7, hv4, rfl⟩ := hR; obtain rfl := hv4.symm
      have hS : St e s8 w [Ow (Kd.int .u8) 5 v2 x1, Ow (Kd.int .u8) 5 v7 x2, pt g1 49 ([(.int .i64 x3.Lsn)] ++ c2)] := hS
      refine stp hF (p_assign rfl) (by decide) (fun a hF => ?_)
      refine nilN ?_
      refine xn ?_
      refine rt ?_
      obtain rfl := hsm H
      replace hS := hS.sel (is := [1]) (A' := [Ow (Kd.int .u8) 5 v7 x2]) rfl
      exact ret1 hF rfl rfl hS ⟨v7, rfl, rfl⟩

def spec_PageOk.c1 (k : Nat) (x1 : TPage) : Option Bool :=
  ((spec_l1In.f k x1.Lsn 0 1000000).bind fun x2 => (some x2))
def spec_PageOk.l1 (x1 : TPage) : Nat → Int → Option (Ex Bool Unit)
  | 0, _ => none
  | k + 1, x3 => (if (decide (x3 < 4)) = true then (if 0 ≤ x3 ∧ x3 < 4 then ((spec_l3Slot.f k (rd x1.Slots x3)).bind fun x4 => (if (!x4) = true then (some (Ex.ret false)) else ((spec_PageOk.l1 x1 k) (w64 (x3 + 1))))) else none) else (some (Ex.go ())))
def spec_PageOk.f (k : Nat) (x1 : TPage) : Option Bool :=
  (((spec_PageOk.l1 x1 k 0) : Option (Ex Bool Unit)).bind fun x5 => Ex.on x5 (fun r => some r) (fun y => spec_PageOk.c1 k x1))
set_option maxRecDepth 100000 in
set_option maxHeartbeats 4000000 in
theorem spec_PageOk.spec (k : Nat) (s0 : HF) (w : World) (x1 : TPage) (c2 : List Value) (h1 : ((Kd.arr 4 kTSlot)).K s0 x1.Slots c2) (r : Bool) (H : spec_PageOk.f k x1 = some r) :
    Law Try.prog 29 #[(.agg ([(.int .i64 x1.Lsn)] ++ c2 : List Value).toArray)] s0 w [] (fun v s1 A1 => v = (.bool r) ∧ A1 = []) := by
  unfold spec_PageOk.f at H
  refine Law.intro Try.func29 rfl [(0, (.agg ([(.int .i64 x1.Lsn)] ++ c2 : List Value).toArray))] (Nat.le_of_ble_eq_true rfl) (enter_lk ⟨rfl, trivial⟩) (fun e a hS hF => ?_)
  have hF : Fr 17 a [(0, (.agg ([(.int .i64 x1.Lsn)] ++ c2 : List Value).toArray))] := hF
  refine sq ?_
  refine rg ?_
  refine ste hF (e_box (cs := [(.int .i64 x1.Lsn)] ++ c2) hS rfl rfl) (by decide) (fun v w a hR hF => ?_)
  obtain ⟨g1, rfl, hS⟩ := hR
  refine stp hF (p_assign rfl) (by decide) (fun a hF => ?_)
  refine nilN ?_
  refine xn ?_
  obtain ⟨x5, H, HK1⟩ := hb H
  refine sqj (fun a w => ∃ (s2 : HF) , St e s2 w [pt g1 49 ([(.int .i64 x1.Lsn)] ++ c2)] ∧ Fr 17 a [(1, (.pointer (some ⟨g1, 0, none⟩)))] ∧ Sub s0 s2 ∧ spec_PageOk.c1 k x1 = some r) ?_ ?_
  · skip
    refine sq ?_
    refine rg ?_
    refine stp hF (p_assign rfl) (by decide) (fun a hF => ?_)
    refine nilN ?_
    refine xn ?_
    refine blk ?_
    refine loop_ind (fun k1 a w => ∃ (x3 : Int) (s3 : HF) , St e s3 w [pt g1 49 ([(.int .i64 x1.Lsn)] ++ c2)] ∧ Fr 17 a [(1, (.pointer (some ⟨g1, 0, none⟩))), (3, (.int .i64 x3))] ∧ Sub s0 s3 ∧ spec_PageOk.l1 x1 k1 x3 = some x5) k ?_ ?_ ?_
    · skip
      exact ⟨0, s0, hS, hF.cut ⟨rfl, rfl, trivial⟩, (Sub.refl _), H⟩
    · clear H hS hF
      rintro a w ⟨x3, s3, hS, hF, hg1, H⟩
      exact absurd (show none = some _ from H) (by simp)
    · clear H hS hF
      rintro k1 a w ⟨x3, s3, hS, hF, hg1, H⟩
      rw [spec_PageOk.l1.eq_2] at H
      refine sq ?_
      refine sq ?_
      refine rg ?_
      refine stp hF (p_move rfl) (by decide) (fun a hF => ?_)
      refine stp hF (p_lss rfl rfl) (by decide) (fun a hF => ?_)
      refine nilN ?_
      refine xn ?_
      refine cnd hF rfl (fun hc1 => ?_) (fun hc1 => ?_)
      · replace H := hbt hc1 H
        refine skN ?_
        refine xn ?_
        refine sq ?_
        refine blk ?_
        refine sq ?_
        refine rg ?_
        refine stp hF (p_move rfl) (by decide) (fun a hF => ?_)
        refine stp hF (p_fldb (o' := 1) rfl fi_49_1 rfl) (by decide) (fun a hF => ?_)
        obtain ⟨hq1, H⟩ := hck H
        refine stp hF (p_idxb rfl rfl un_47 ti_38 hq1.1 hq1.2) (by decide) (fun a hF => ?_)
        obtain ⟨c3, h2, p1⟩ := p_ldba_agg (P := Try.prog) (T := 49) (b := g1) (all := [(.int .i64 x1.Lsn)] ++ c2) (l := [(.int .i64 x1.Lsn)]) (cs := c2) (r := []) (base := 1) (by simp) ((Kd.arr 4 kTSlot).mono hg1 h1) (Lens.idx 4 kTSlot x3 hq1.1 hq1.2) rfl rfl ia_38 ti_38
        obtain ⟨v1, v2, rfl, h3, h4⟩ := kTSlot_open h2
        refine stp hF (p1 (n := 0) hS rfl rfl) (by decide) (fun a hF => ?_)
        obtain ⟨x4, hx1, H⟩ := hb H
        refine ste hF (e_callA (fst := []) (vs := [(.agg #[(.bool ((rd x1.Slots x3).Has)), (.int .i64 (((rd x1.Slots x3).O).Kind)), v1, v2])]) (cap := []) rfl rfl go_76 (St.call (A := []) (B := [pt g1 49 ([(.int .i64 x1.Lsn)] ++ c2)]) hS (spec_l3Slot.spec k1 _ _ (rd x1.Slots x3) v1 v2 h3 h4 _ hx1)) rfl) (by decide) (fun v w a hR hF => ?_)
        obtain ⟨s4, A2, hg2, hS, hR⟩ := hR
        obtain ⟨hv1, rfl⟩ := hR; obtain rfl := hv1.symm
        have hS : St e s4 w [pt g1 49 ([(.int .i64 x1.Lsn)] ++ c2)] := hS
        refine stp hF (p_not rfl) (by decide) (fun a hF => ?_)
        refine nilN ?_
        refine xn ?_
        refine cnd hF rfl (fun hc2 => ?_) (fun hc2 => ?_)
        · replace H := hbt hc2 H
          refine sq ?_
          refine rg ?_
          refine stp hF (p_assign rfl) (by decide) (fun a hF => ?_)
          refine nilN ?_
          refine xn ?_
          refine rt ?_
          refine br (xr (xr (br (xr ?_))))
          obtain rfl := hsm H
          have H := hon1 HK1
          obtain rfl := hsm H
          replace hS := hS.sel (is := []) (A' := []) rfl
          exact ret1 hF rfl rfl hS ⟨rfl, rfl⟩
        · replace H := hbf hc2 H
          refine skN ?_
          refine bn (xn ?_)
          refine rg ?_
          refine stp hF (p_move rfl) (by decide) (fun a hF => ?_)
          refine stp hF (p_add (c := w64 (x3 + 1)) rfl rfl rfl) (by decide) (fun a hF => ?_)
          refine stp hF (p_assign rfl) (by decide) (fun a hF => ?_)
          refine nilN ?_
          refine xn ?_
          exact ⟨(w64 (x3 + 1)), s4, hS, hF.cut ⟨rfl, rfl, trivial⟩, (hg1.trans hg2), H⟩
      · replace H := hbf hc1 H
        refine exi ?_
        refine xe (xe (hit (xn ?_)))
        obtain rfl := hsm H
        exact ⟨s3, hS, hF.cut ⟨rfl, trivial⟩, hg1, HK1⟩
  · clear H HK1 hS hF
    rintro a w ⟨s2, hS, hF, hg3, H⟩
    unfold spec_PageOk.c1 at H
    refine sq ?_
    refine rg ?_
    refine stp hF (p_fldb (o' := 0) rfl fi_49_0 rfl) (by decide) (fun a hF => ?_)
    refine stp hF (p_ldb_one (i := 0) hS rfl rfl ia_3 rfl) (by decide) (fun a hF => ?_)
    obtain ⟨x2, hx2, H⟩ := hb H
    refine ste hF (e_callA (fst := []) (vs := [(.int .i64 x1.Lsn), (.int .i64 0), (.int .i64 1000000)]) (cap := []) rfl rfl go_75 (St.call (A := []) (B := [pt g1 49 ([(.int .i64 x1.Lsn)] ++ c2)]) hS (spec_l1In.spec k _ _ x1.Lsn 0 1000000 _ hx2)) rfl) (by decide) (fun v w a hR hF => ?_)
    obtain ⟨s5, A3, hg4, hS, hR⟩ := hR
    obtain ⟨hv2, rfl⟩ := hR; obtain rfl := hv2.symm
    have hS : St e s5 w [pt g1 49 ([(.int .i64 x1.Lsn)] ++ c2)] := hS
    refine stp hF (p_assign rfl) (by decide) (fun a hF => ?_)
    refine nilN ?_
    refine xn ?_
    refine rt ?_
    obtain rfl := hsm H
    replace hS := hS.sel (is := []) (A' := []) rfl
    exact ret1 hF rfl rfl hS ⟨rfl, rfl⟩

def slices_Clone_173.f (k : Nat) (x : (List Int)) : Option (List Int) := if (([] : (List Int))).length + x.length ≤ 17592186044416 then some x else none
set_option maxRecDepth 100000 in
theorem slices_Clone_173.spec (k : Nat) (s0 : HF) (w : World) (x : (List Int)) (v : Value) (h : Sl (Kd.int .i64) s0 v x) (r : (List Int)) (H : slices_Clone_173.f k x = some r) :
    Law Try.prog 173 #[v] s0 w [] (fun v s1 A1 => ∃ (u0 : Value), v = u0 ∧ A1 = [Ow (Kd.int .i64) 3 u0 r]) := by
  unfold slices_Clone_173.f at H
  obtain ⟨hq, H⟩ := hck H
  obtain rfl := hsm H
  refine Law.intro Try.func173 rfl [(0, v)] (Nat.le_of_ble_eq_true rfl) (enter_lk ⟨rfl, trivial⟩) (fun e a hS hF => ?_)
  have hF : Fr 8 a [(0, v)] := hF
  refine sq ?_
  refine rg ?_
  refine stp hF (p_assign rfl) (by decide) (fun a hF => ?_)
  refine nilN ?_
  refine xn ?_
  refine sq ?_
  rcases Sl.cases h with ⟨c, rfl, rfl⟩ | ⟨A, c, hv⟩
  · refine sq ?_
    refine rg ?_
    refine stp hF (p_move rfl) (by decide) (fun a hF => ?_)
    refine stp hF (p_eqnil un_34 rfl rfl) (by decide) (fun a hF => ?_)
    refine nilN ?_
    refine xn ?_
    refine cnd hF rfl (fun hc => ?_) (fun hc => absurd hc (by decide))
    refine sq ?_
    refine rg ?_
    refine stp hF (p_assign rfl) (by decide) (fun a hF => ?_)
    refine nilN ?_
    refine xn ?_
    refine rt ?_
    refine xr ?_
    replace hS := hS.ownNil (Kd.int .i64) 3 none
    exact ret1 hF rfl rfl hS ⟨_, rfl, rfl⟩
  · subst hv
    refine sq ?_
    refine rg ?_
    refine stp hF (p_move rfl) (by decide) (fun a hF => ?_)
    refine stp hF (p_eqnil un_34 rfl rfl) (by decide) (fun a hF => ?_)
    refine nilN ?_
    refine xn ?_
    refine cnd hF rfl (fun hc => absurd hc (by simp)) (fun hc => ?_)
    refine skN ?_
    refine xn ?_
    refine sq ?_
    refine rg ?_
    refine ste hF (e_bslice (kd := (Kd.int .i64)) (et := 3) (ps := []) (vs := []) (cs := []) (xs := ([] : (List Int))) hS rfl (fun w => by kernel_rfl) rfl (by decide) (Nat.le_of_ble_eq_true rfl) (Rows.nil _ _ _ _)) (by decide) (fun v9 w a hR hF => ?_)
    have hS : St e s0 w [Ow (Kd.int .i64) 3 v9 ([] : (List Int))] := hR
    refine stp hF (p_move rfl) (by decide) (fun a hF => ?_)
    refine ste hF (e_append (n := 0) hS rfl rfl rfl (h.src hS) un_34 ti_3 rfl (by decide) (by decide) (Nat.le_trans (Nat.mul_le_mul_right 8 hq) (by decide))) (by decide) (fun v10 w a hR hF => ?_)
    have hS : St e s0 w [Ow (Kd.int .i64) 3 v10 x] := hR
    refine stp hF (p_assign rfl) (by decide) (fun a hF => ?_)
    refine nilN ?_
    refine xn ?_
    refine rt ?_
    exact ret1 hF rfl rfl hS ⟨_, rfl, rfl⟩

def impl_cloneObj.f (k : Nat) (x1 : TObj) : Option TObj :=
  ((slices_Clone_173.f k x1.Ints).bind fun x2 => ((slices_Clone_173.f k x1.Refs).bind fun x3 => (some (⟨x1.Kind, x2, x3⟩ : TObj))))
set_option maxRecDepth 100000 in
set_option maxHeartbeats 4000000 in
theorem impl_cloneObj.spec (k : Nat) (s0 : HF) (w : World) (x1 : TObj) (v1 : Value) (v2 : Value) (h1 : Sl (Kd.int .i64) s0 v1 x1.Ints) (h2 : Sl (Kd.int .i64) s0 v2 x1.Refs) (r : TObj) (H : impl_cloneObj.f k x1 = some r) :
    Law Try.prog 148 #[(.agg #[(.int .i64 x1.Kind), v1, v2])] s0 w [] (fun v s1 A1 => ∃ (u0 : Value) (u1 : Value), v = (.agg #[(.int .i64 r.Kind), u0, u1]) ∧ A1 = [Ow (Kd.int .i64) 3 u0 r.Ints, Ow (Kd.int .i64) 3 u1 r.Refs]) := by
  unfold impl_cloneObj.f at H
  refine Law.intro Try.func148 rfl [(0, (.agg #[(.int .i64 x1.Kind), v1, v2]))] (Nat.le_of_ble_eq_true rfl) (enter_lk ⟨rfl, trivial⟩) (fun e a hS hF => ?_)
  have hF : Fr 12 a [(0, (.agg #[(.int .i64 x1.Kind), v1, v2]))] := hF
  refine sq ?_
  refine rg ?_
  refine ste hF (e_box (cs := [(.int .i64 x1.Kind), v1, v2]) hS rfl rfl) (by decide) (fun v w a hR hF => ?_)
  obtain ⟨g1, rfl, hS⟩ := hR
  refine ste hF (e_alloc (cs := [(.int .i64 0), (.slice none 0 0), (.slice none 0 0)]) hS ti_36 rfl) (by decide) (fun v w a hR hF => ?_)
  obtain ⟨g2, rfl, hS⟩ := hR
  refine nilN ?_
  refine xn ?_
  refine sq ?_
  replace hS : St e s0 w.drew [pt g2 36 ([(.int .i64 0), (.slice none 0 0), (.slice none 0 0)]), pt g1 36 ([(.int .i64 x1.Kind), v1, v2])] := hS.drewN 1
  refine drw [0, 1, 2, 3, 4, 5, 6, 7, 8, 9] mixed (by kernel_rfl) (by decide) (hF.cut (L' := [(0, (.agg #[(.int .i64 x1.Kind), v1, v2])), (1, (.pointer (some ⟨g1, 0, none⟩))), (2, (.pointer (some ⟨g2, 0, none⟩)))]) ⟨rfl, rfl, rfl, trivial⟩) ?_
  clear hF
  generalize w.drew = w at hS ⊢
  refine pk1 rfl (by decide) rfl (by kernel_rfl) rfl (p_fldb (o' := 1) rfl fi_36_1 rfl) ?_
  refine pk1 rfl (by decide) rfl (by kernel_rfl) rfl (p_ldb_one (i := 1) hS rfl rfl ia_34 rfl) ?_
  refine pkPerm [3, 2, 4, 5, 6, 7, 8, 9] (by kernel_rfl) ?_
  refine pk1 rfl (by decide) rfl (by kernel_rfl) rfl (p_fldb (o' := 2) rfl fi_36_2 rfl) ?_
  refine pkPerm [4, 2, 5, 6, 7, 8, 9] (by kernel_rfl) ?_
  refine pk1 rfl (by decide) rfl (by kernel_rfl) rfl (p_ldb_one (i := 1) hS rfl rfl ia_34 rfl) ?_
  obtain ⟨x2, hx1, H⟩ := hb H
  refine pkE [4, 3, 0] rfl (by decide) (by kernel_rfl) (by kernel_rfl) (e_callA (fst := []) (vs := [v1]) (cap := []) rfl rfl go_173 (St.call (A := []) (B := [pt g2 36 ([(.int .i64 0), (.slice none 0 0), (.slice none 0 0)]), pt g1 36 ([(.int .i64 x1.Kind), v1, v2])]) hS (slices_Clone_173.spec k _ _ x1.Ints v1 h1 _ hx1)) rfl) ?_
  intro v w hR
  obtain ⟨s2, A2, hg1, hS, hR⟩ := hR
  obtain ⟨v3, hv1, rfl⟩ := hR; obtain rfl := hv1.symm
  have hS : St e s2 w [Ow (Kd.int .i64) 3 v3 x2, pt g2 36 ([(.int .i64 0), (.slice none 0 0), (.slice none 0 0)]), pt g1 36 ([(.int .i64 x1.Kind), v1, v2])] := hS
  refine ⟨⟨knw rfl rfl rfl (p_ldb_one (i := 2) hS rfl rfl ia_34 rfl), ⟨knw rfl rfl rfl (p_fldb (o' := 2) rfl fi_36_2 rfl), ⟨knw rfl rfl rfl (p_fldb (o' := 1) rfl fi_36_1 rfl), trivial⟩⟩⟩, ?_⟩
  refine pkPerm [6, 5, 7, 8, 9] (by kernel_rfl) ?_
  refine pk1 rfl (by decide) rfl (by kernel_rfl) rfl (p_fldb (o' := 1) rfl fi_36_1 rfl) ?_
  obtain ⟨x3, hx2, H⟩ := hb H
  refine pkE [6, 3, 0] rfl (by decide) (by kernel_rfl) (by kernel_rfl) (e_callA (fst := []) (vs := [v2]) (cap := []) rfl rfl go_173 (St.call (A := []) (B := [Ow (Kd.int .i64) 3 v3 x2, pt g2 36 ([(.int .i64 0), (.slice none 0 0), (.slice none 0 0)]), pt g1 36 ([(.int .i64 x1.Kind), v1, v2])]) hS (slices_Clone_173.spec k _ _ x1.Refs v2 (h2.mono hg1) _ hx2)) rfl) ?_
  intro v w hR
  obtain ⟨s3, A3, hg2, hS, hR⟩ := hR
  obtain ⟨v4, hv2, rfl⟩ := hR; obtain rfl := hv2.symm
  have hS : St e s3 w [Ow (Kd.int .i64) 3 v4 x3, Ow (Kd.int .i64) 3 v3 x2, pt g2 36 ([(.int .i64 0), (.slice none 0 0), (.slice none 0 0)]), pt g1 36 ([(.int .i64 x1.Kind), v1, v2])] := hS
  refine ⟨⟨knw rfl rfl rfl (p_fldb (o' := 1) rfl fi_36_1 rfl), ⟨knw rfl rfl rfl (p_fldb (o' := 2) rfl fi_36_2 rfl), ⟨knw rfl rfl rfl (p_fldb (o' := 1) rfl fi_36_1 rfl), trivial⟩⟩⟩, ?_⟩
  refine pkE0 [] rfl (by kernel_rfl) (by kernel_rfl) (e_stb (i := 3) (l := [(.int .i64 x1.Kind)]) (m := [v1]) (r := [v2]) (m' := [v3]) (cs' := [(.int .i64 x1.Kind), v3, v2]) hS rfl rfl rfl ti_34 rfl rfl rfl (cells_one (hS.one_ow (i := 1) rfl)) rfl (one_cons (hS.one_ow (i := 1) rfl) one_nil) rfl) ?_
  intro v w hR
  have hS : St e s3 w [pt g1 36 ([(.int .i64 x1.Kind), v3, v2]), Ow (Kd.int .i64) 3 v4 x3, Ow (Kd.int .i64) 3 v3 x2, pt g2 36 ([(.int .i64 0), (.slice none 0 0), (.slice none 0 0)])] := hR
  refine ⟨trivial, ?_⟩
  refine pk1 rfl (by decide) rfl (by kernel_rfl) rfl (p_fldb (o' := 2) rfl fi_36_2 rfl) ?_
  refine pkE0 [] rfl (by kernel_rfl) (by kernel_rfl) (e_stb (i := 0) (l := [(.int .i64 x1.Kind), v3]) (m := [v2]) (r := []) (m' := [v4]) (cs' := [(.int .i64 x1.Kind), v3, v4]) hS rfl rfl rfl ti_34 rfl rfl rfl (cells_one (hS.one_ow (i := 1) rfl)) rfl (one_cons (hS.one_ow (i := 1) rfl) one_nil) rfl) ?_
  intro v w hR
  have hS : St e s3 w [pt g1 36 ([(.int .i64 x1.Kind), v3, v4]), Ow (Kd.int .i64) 3 v4 x3, Ow (Kd.int .i64) 3 v3 x2, pt g2 36 ([(.int .i64 0), (.slice none 0 0), (.slice none 0 0)])] := hR
  refine ⟨trivial, ?_⟩
  refine pkF (fun a hF => ?_)
  refine xn ?_
  refine sq ?_
  refine rg ?_
  refine stp hF (p_ldb_agg (i := 0) (l := []) (m := [(.int .i64 x1.Kind), v3, v4]) (r := []) hS rfl rfl ia_36 ti_36 rfl rfl rfl) (by decide) (fun a hF => ?_)
  refine ste0 hF (e_stb (i := 3) (l := []) (m := [(.int .i64 0), (.slice none 0 0), (.slice none 0 0)]) (r := []) (m' := [(.int .i64 x1.Kind), v3, v4]) (cs' := [(.int .i64 x1.Kind), v3, v4]) hS rfl rfl rfl ti_36 rfl rfl rfl rfl rfl (one_cons rfl (one_cons (hS.one_ow (i := 2) rfl) (one_cons (hS.one_ow (i := 1) rfl) one_nil))) rfl) (fun v w a hR hF => ?_)
  have hS : St e s3 w [pt g2 36 ([(.int .i64 x1.Kind), v3, v4]), pt g1 36 ([(.int .i64 x1.Kind), v3, v4]), Ow (Kd.int .i64) 3 v4 x3, Ow (Kd.int .i64) 3 v3 x2] := hR
  refine nilN ?_
  refine xn ?_
  refine rt ?_
  obtain rfl := hsm H
  have h3 : RvOk Try.prog _ w (.cell 2 36) _ := rvC (i := 0) hS rfl (show lk [(2, (.pointer (some ⟨g2, 0, none⟩)))] 2 = _ from rfl) ia_36 ti_36 rfl
  replace hS := hS.sel (is := [3, 2]) (A' := [Ow (Kd.int .i64) 3 v3 x2, Ow (Kd.int .i64) 3 v4 x3]) rfl
  exact retc1 hF rfl h3 hS ⟨v3, v4, rfl, rfl⟩

def impl_cloneSlot.f (k : Nat) (x1 : TSlot) : Option TSlot :=
  ((impl_cloneObj.f k x1.O).bind fun x2 => (some (⟨x1.Has, (⟨x2.Kind, x2.Ints, x2.Refs⟩ : TObj)⟩ : TSlot)))
set_option maxRecDepth 100000 in
set_option maxHeartbeats 4000000 in
theorem impl_cloneSlot.spec (k : Nat) (s0 : HF) (w : World) (x1 : TSlot) (v1 : Value) (v2 : Value) (h1 : Sl (Kd.int .i64) s0 v1 x1.O.Ints) (h2 : Sl (Kd.int .i64) s0 v2 x1.O.Refs) (r : TSlot) (H : impl_cloneSlot.f k x1 = some r) :
    Law Try.prog 94 #[(.agg #[(.bool x1.Has), (.int .i64 x1.O.Kind), v1, v2])] s0 w [] (fun v s1 A1 => ∃ (u0 : Value) (u1 : Value), v = (.agg #[(.bool r.Has), (.int .i64 r.O.Kind), u0, u1]) ∧ A1 = [Ow (Kd.int .i64) 3 u0 r.O.Ints, Ow (Kd.int .i64) 3 u1 r.O.Refs]) := by
  unfold impl_cloneSlot.f at H
  refine Law.intro Try.func94 rfl [(0, (.agg #[(.bool x1.Has), (.int .i64 x1.O.Kind), v1, v2]))] (Nat.le_of_ble_eq_true rfl) (enter_lk ⟨rfl, trivial⟩) (fun e a hS hF => ?_)
  have hF : Fr 9 a [(0, (.agg #[(.bool x1.Has), (.int .i64 x1.O.Kind), v1, v2]))] := hF
  refine sq ?_
  refine rg ?_
  refine ste hF (e_box (cs := [(.bool x1.Has), (.int .i64 x1.O.Kind), v1, v2]) hS rfl rfl) (by decide) (fun v w a hR hF => ?_)
  obtain ⟨g1, rfl, hS⟩ := hR
  refine ste hF (e_alloc (cs := [(.bool false), (.int .i64 0), (.slice none 0 0), (.slice none 0 0)]) hS ti_38 rfl) (by decide) (fun v w a hR hF => ?_)
  obtain ⟨g2, rfl, hS⟩ := hR
  refine nilN ?_
  refine xn ?_
  refine sq ?_
  replace hS : St e s0 w.drew [pt g2 38 ([(.bool false), (.int .i64 0), (.slice none 0 0), (.slice none 0 0)]), pt g1 38 ([(.bool x1.Has), (.int .i64 x1.O.Kind), v1, v2])] := hS.drewN 1
  refine drw [0, 1, 2, 3, 4, 5, 6] mixed (by kernel_rfl) (by decide) (hF.cut (L' := [(0, (.agg #[(.bool x1.Has), (.int .i64 x1.O.Kind), v1, v2])), (1, (.pointer (some ⟨g1, 0, none⟩))), (2, (.pointer (some ⟨g2, 0, none⟩)))]) ⟨rfl, rfl, rfl, trivial⟩) ?_
  clear hF
  generalize w.drew = w at hS ⊢
  refine pk1 rfl (by decide) rfl (by kernel_rfl) rfl (p_fldb (o' := 0) rfl fi_38_0 rfl) ?_
  refine pk1 rfl (by decide) rfl (by kernel_rfl) rfl (p_ldb_one (i := 1) hS rfl rfl ia_4 rfl) ?_
  refine pk1 rfl (by decide) rfl (by kernel_rfl) rfl (p_fldb (o' := 1) rfl fi_38_1 rfl) ?_
  refine pk1 rfl (by decide) rfl (by kernel_rfl) rfl (p_ldb_agg (i := 1) (l := [(.bool x1.Has)]) (m := [(.int .i64 x1.O.Kind), v1, v2]) (r := []) hS rfl rfl ia_36 ti_36 rfl rfl rfl) ?_
  obtain ⟨x2, hx1, H⟩ := hb H
  refine pkE [2, 1, 0] rfl (by decide) (by kernel_rfl) (by kernel_rfl) (e_callA (fst := []) (vs := [(.agg #[(.int .i64 x1.O.Kind), v1, v2])]) (cap := []) rfl rfl go_148 (St.call (A := []) (B := [pt g2 38 ([(.bool false), (.int .i64 0), (.slice none 0 0), (.slice none 0 0)]), pt g1 38 ([(.bool x1.Has), (.int .i64 x1.O.Kind), v1, v2])]) hS (impl_cloneObj.spec k _ _ x1.O v1 v2 h1 h2 _ hx1)) rfl) ?_
  intro v w hR
  obtain ⟨s2, A2, hg1, hS, hR⟩ := hR
  obtain ⟨v3, v4, hv1, rfl⟩ := hR; obtain rfl := hv1.symm
  have hS : St e s2 w [Ow (Kd.int .i64) 3 v3 x2.Ints, Ow (Kd.int .i64) 3 v4 x2.Refs, pt g2 38 ([(.bool false), (.int .i64 0), (.slice none 0 0), (.slice none 0 0)]), pt g1 38 ([(.bool x1.Has), (.int .i64 x1.O.Kind), v1, v2])] := hS
  refine ⟨⟨knw rfl rfl rfl (p_fldb (o' := 1) rfl fi_38_1 rfl), ⟨knw rfl rfl rfl (p_ldb_one (i := 3) hS rfl rfl ia_4 rfl), ⟨knw rfl rfl rfl (p_fldb (o' := 0) rfl fi_38_0 rfl), trivial⟩⟩⟩, ?_⟩
  refine pk1 rfl (by decide) rfl (by kernel_rfl) rfl (p_build (ps := [(0, (.tmp 4)), (1, (.tmp 7))]) (vs := [(0, (.bool x1.Has)), (1, (.agg #[(.int .i64 x2.Kind), v3, v4]))]) (v := (.agg #[(.bool x1.Has), (.int .i64 x2.Kind), v3, v4])) rfl (by intro w; obtain ⟨_, _, _, e1⟩ := hS.el (i := 0) rfl; rw [e1]; obtain ⟨_, _, _, e2⟩ := hS.el (i := 1) rfl; rw [e2]; kernel_rfl)) ?_
  refine pkE0 [] rfl (by kernel_rfl) (by kernel_rfl) (e_stb (i := 2) (l := []) (m := [(.bool false), (.int .i64 0), (.slice none 0 0), (.slice none 0 0)]) (r := []) (m' := [(.bool x1.Has), (.int .i64 x2.Kind), v3, v4]) (cs' := [(.bool x1.Has), (.int .i64 x2.Kind), v3, v4]) hS rfl rfl rfl ti_38 rfl rfl rfl rfl rfl (one_cons rfl (one_cons rfl (one_cons (hS.one_ow (i := 0) rfl) (one_cons (hS.one_ow (i := 1) rfl) one_nil)))) rfl) ?_
  intro v w hR
  have hS : St e s2 w [pt g2 38 ([(.bool x1.Has), (.int .i64 x2.Kind), v3, v4]), Ow (Kd.int .i64) 3 v3 x2.Ints, Ow (Kd.int .i64) 3 v4 x2.Refs, pt g1 38 ([(.bool x1.Has), (.int .i64 x1.O.Kind), v1, v2])] := hR
  refine ⟨trivial, ?_⟩
  refine pkF (fun a hF => ?_)
  refine xn ?_
  refine rt ?_
  obtain rfl := hsm H
  have h3 : RvOk Try.prog _ w (.cell 2 38) _ := rvC (i := 0) hS rfl (show lk [(2, (.pointer (some ⟨g2, 0, none⟩)))] 2 = _ from rfl) ia_38 ti_38 rfl
  replace hS := hS.sel (is := [1, 1]) (A' := [Ow (Kd.int .i64) 3 v3 x2.Ints, Ow (Kd.int .i64) 3 v4 x2.Refs]) rfl
  exact retc1 hF rfl h3 hS ⟨v3, v4, rfl, rfl⟩
end Go.Proofs.Ytocknibhajihmaa
