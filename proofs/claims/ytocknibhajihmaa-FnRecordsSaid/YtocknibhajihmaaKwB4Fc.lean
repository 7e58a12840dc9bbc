/- Functions of this place as plain functions, and that the machine comes to what they say. Conditions: none. -/
import Derived.Test.YtocknibhajihmaaKwB4Fb
set_option linter.unusedVariables false
set_option linter.unusedSimpArgs false
namespace Go.Proofs.Ytocknibhajihmaa
open Go.Kw

def spec_l3Slot.f (k : Nat) (x1 : TSlot) : Option Bool :=
  (if x1.Has = true then ((spec_ObjOk.f k x1.O).bind fun x2 => (some x2)) else (some (((decide (x1.O.Kind = 0)) && (decide ((x1.O.Ints.length : Int) = 0))) && (decide ((x1.O.Refs.length : Int) = 0)))))
set_option maxRecDepth 100000 in
set_option maxHeartbeats 4000000 in
theorem spec_l3Slot.spec (k : Nat) (s0 : HF) (w : World) (x1 : TSlot) (v1 : Value) (v2 : Value) (h1 : Sl (Kd.int .i64) s0 v1 x1.O.Ints) (h2 : Sl (Kd.int .i64) s0 v2 x1.O.Refs) (r : Bool) (H : spec_l3Slot.f k x1 = some r) :
    Law Try.prog 76 #[(.agg #[(.bool x1.Has), (.int .i64 x1.O.Kind), v1, v2])] s0 w [] (fun v s1 A1 => v = (.bool r) ∧ A1 = []) := by
  unfold spec_l3Slot.f at H
  refine Law.intro Try.func76 rfl [(0, (.agg #[(.bool x1.Has), (.int .i64 x1.O.Kind), v1, v2]))] (Nat.le_of_ble_eq_true rfl) (enter_lk ⟨rfl, trivial⟩) (fun e a hS hF => ?_)
  have hF : Fr 26 a [(0, (.agg #[(.bool x1.Has), (.int .i64 x1.O.Kind), v1, v2]))] := hF
  refine sq ?_
  refine rg ?_
  refine ste hF (e_box (cs := [(.bool x1.Has), (.int .i64 x1.O.Kind), v1, v2]) hS rfl rfl) (by decide) (fun v w a hR hF => ?_)
  obtain ⟨g1, rfl, hS⟩ := hR
  refine stp hF (p_assign rfl) (by decide) (fun a hF => ?_)
  refine nilN ?_
  refine xn ?_
  refine sq ?_
  refine sq ?_
  refine rg ?_
  refine stp hF (p_fldb (o' := 0) rfl fi_38_0 rfl) (by decide) (fun a hF => ?_)
  refine stp hF (p_ldb_one (i := 0) hS rfl rfl ia_4 rfl) (by decide) (fun a hF => ?_)
  refine nilN ?_
  refine xn ?_
  refine cnd hF rfl (fun hc1 => ?_) (fun hc1 => ?_)
  · replace H := hbt hc1 H
    refine sq ?_
    refine rg ?_
    refine stp hF (p_fldb (o' := 1) rfl fi_38_1 rfl) (by decide) (fun a hF => ?_)
    refine stp hF (p_ldb_agg (i := 0) (l := [(.bool x1.Has)]) (m := [(.int .i64 x1.O.Kind), v1, v2]) (r := []) hS rfl rfl ia_36 ti_36 rfl rfl rfl) (by decide) (fun a hF => ?_)
    obtain ⟨x2, hx1, H⟩ := hb H
    refine ste hF (e_callA (fst := []) (vs := [(.agg #[(.int .i64 x1.O.Kind), v1, v2])]) (cap := []) rfl rfl go_127 (St.call (A := []) (B := [pt g1 38 ([(.bool x1.Has), (.int .i64 x1.O.Kind), v1, v2])]) hS (spec_ObjOk.spec k _ _ x1.O v1 v2 h1 h2 _ hx1)) rfl) (by decide) (fun v w a hR hF => ?_)
    obtain ⟨s2, A2, hg1, hS, hR⟩ := hR
    obtain ⟨hv1, rfl⟩ := hR; obtain rfl := hv1.symm
    have hS : St e s2 w [pt g1 38 ([(.bool x1.Has), (.int .i64 x1.O.Kind), v1, v2])] := hS
    refine stp hF (p_assign rfl) (by decide) (fun a hF => ?_)
    refine nilN ?_
    refine xn ?_
    refine rt ?_
    refine xr ?_
    obtain rfl := hsm H
    replace hS := hS.sel (is := []) (A' := []) rfl
    exact ret1 hF rfl rfl hS ⟨rfl, rfl⟩
  · replace H := hbf hc1 H
    refine skN ?_
    refine xn ?_
    refine sq ?_
    refine rg ?_
    refine stp hF (p_fldb (o' := 1) rfl fi_38_1 rfl) (by decide) (fun a hF => ?_)
    refine stp hF (p_fldb (o' := 1) rfl fi_36_0 rfl) (by decide) (fun a hF => ?_)
    refine stp hF (p_ldb_one (i := 0) hS rfl rfl ia_3 rfl) (by decide) (fun a hF => ?_)
    refine stp hF (p_eql rfl rfl) (by decide) (fun a hF => ?_)
    refine stp hF (p_move rfl) (by decide) (fun a hF => ?_)
    refine cutj 6 (fun a w => St e s0 w [pt g1 38 ([(.bool x1.Has), (.int .i64 x1.O.Kind), v1, v2])] ∧ Fr 26 a [(1, (.pointer (some ⟨g1, 0, none⟩))), (18, (.bool ((decide (x1.O.Kind = 0)) && (decide ((x1.O.Ints.length : Int) = 0)))))]) rfl rfl ?_ ?_
    · rcases Bool.eq_false_or_eq_true (decide (x1.O.Kind = 0)) with hc2 | hc2
      · skip
        refine gonE (j := 4) hF rfl rfl hc2 ?_
        refine stp hF (p_fldb (o' := 1) rfl fi_38_1 rfl) (by decide) (fun a hF => ?_)
        refine gonE (j := 4) hF rfl rfl hc2 ?_
        refine stp hF (p_fldb (o' := 2) rfl fi_36_1 rfl) (by decide) (fun a hF => ?_)
        refine gonE (j := 4) hF rfl rfl hc2 ?_
        refine stp hF (p_ldb_one (i := 0) hS rfl rfl ia_34 rfl) (by decide) (fun a hF => ?_)
        refine gonE (j := 4) hF rfl rfl hc2 ?_
        refine stp hF (p_lenr un_34 rfl h1) (by decide) (fun a hF => ?_)
        refine gonE (j := 4) hF rfl rfl hc2 ?_
        refine stp hF (p_eql rfl rfl) (by decide) (fun a hF => ?_)
        refine stp hF (p_andT rfl hc2 rfl) (by decide) (fun a hF => ?_)
        refine nilN ?_
        refine xn ?_
        exact ⟨hS, hF.cut ⟨rfl, rfl, trivial⟩⟩
      · skip
        refine gofD (j := 4) hF rfl rfl (by rw [hc2]; decide) (by decide) (fun a hF => ?_)
        refine gofD (j := 4) hF rfl rfl (by rw [hc2]; decide) (by decide) (fun a hF => ?_)
        refine gofD (j := 4) hF rfl rfl (by rw [hc2]; decide) (by decide) (fun a hF => ?_)
        refine gofD (j := 4) hF rfl rfl (by rw [hc2]; decide) (by decide) (fun a hF => ?_)
        refine gofD (j := 4) hF rfl rfl (by rw [hc2]; decide) (by decide) (fun a hF => ?_)
        refine stp hF (p_andF (decide ((x1.O.Ints.length : Int) = 0)) rfl hc2 rfl) (by decide) (fun a hF => ?_)
        refine nilN ?_
        refine xn ?_
        exact ⟨hS, hF.cut ⟨rfl, rfl, trivial⟩⟩
    clear hS hF
    rintro a w ⟨hS, hF⟩
    refine stp hF (p_move rfl) (by decide) (fun a hF => ?_)
    refine cutj 6 (fun a w => St e s0 w [pt g1 38 ([(.bool x1.Has), (.int .i64 x1.O.Kind), v1, v2])] ∧ Fr 26 a [(25, (.bool (((decide (x1.O.Kind = 0)) && (decide ((x1.O.Ints.length : Int) = 0))) && (decide ((x1.O.Refs.length : Int) = 0)))))]) rfl rfl ?_ ?_
    · rcases Bool.eq_false_or_eq_true (((decide (x1.O.Kind = 0)) && (decide ((x1.O.Ints.length : Int) = 0)))) with hc3 | hc3
      · skip
        refine gonE (j := 11) hF rfl rfl hc3 ?_
        refine stp hF (p_fldb (o' := 1) rfl fi_38_1 rfl) (by decide) (fun a hF => ?_)
        refine gonE (j := 11) hF rfl rfl hc3 ?_
        refine stp hF (p_fldb (o' := 3) rfl fi_36_2 rfl) (by decide) (fun a hF => ?_)
        refine gonE (j := 11) hF rfl rfl hc3 ?_
        refine stp hF (p_ldb_one (i := 0) hS rfl rfl ia_34 rfl) (by decide) (fun a hF => ?_)
        refine gonE (j := 11) hF rfl rfl hc3 ?_
        refine stp hF (p_lenr un_34 rfl h2) (by decide) (fun a hF => ?_)
        refine gonE (j := 11) hF rfl rfl hc3 ?_
        refine stp hF (p_eql rfl rfl) (by decide) (fun a hF => ?_)
        refine stp hF (p_andT rfl hc3 rfl) (by decide) (fun a hF => ?_)
        refine nilN ?_
        refine xn ?_
        exact ⟨hS, hF.cut ⟨rfl, trivial⟩⟩
      · skip
        refine gofD (j := 11) hF rfl rfl (by rw [hc3]; decide) (by decide) (fun a hF => ?_)
        refine gofD (j := 11) hF rfl rfl (by rw [hc3]; decide) (by decide) (fun a hF => ?_)
        refine gofD (j := 11) hF rfl rfl (by rw [hc3]; decide) (by decide) (fun a hF => ?_)
        refine gofD (j := 11) hF rfl rfl (by rw [hc3]; decide) (by decide) (fun a hF => ?_)
        refine gofD (j := 11) hF rfl rfl (by rw [hc3]; decide) (by decide) (fun a hF => ?_)
        refine stp hF (p_andF (decide ((x1.O.Refs.length : Int) = 0)) rfl hc3 rfl) (by decide) (fun a hF => ?_)
        refine nilN ?_
        refine xn ?_
        exact ⟨hS, hF.cut ⟨rfl, trivial⟩⟩
    clear hS hF
    rintro a w ⟨hS, hF⟩
    refine stp hF (p_assign rfl) (by decide) (fun a hF => ?_)
    refine nilN ?_
    refine xn ?_
    refine rt ?_
    obtain rfl := hsm H
    replace hS := hS.sel (is := []) (A' := []) rfl
    exact ret1 hF rfl rfl hS ⟨rfl, rfl⟩

def spec_l2SameInts.c1 (k : Nat) : Option Bool :=
  (some true)
def spec_l2SameInts.l1 (x1 : (List Int)) (x2 : (List Int)) : Nat → Int → Option (Ex Bool Unit)
  | 0, _ => none
  | k + 1, x3 => (if (decide (x3 < (x1.length : Int))) = true then (if 0 ≤ x3 ∧ x3 < (x1.length : Int) then (if 0 ≤ x3 ∧ x3 < (x2.length : Int) then (if (decide ((rd x1 x3) ≠ (rd x2 x3))) = true then (some (Ex.ret false)) else ((spec_l2SameInts.l1 x1 x2 k) (w64 (x3 + 1)))) else none) else none) else (some (Ex.go ())))
def spec_l2SameInts.f (k : Nat) (x1 : (List Int)) (x2 : (List Int)) : Option Bool :=
  (if (decide ((x1.length : Int) ≠ (x2.length : Int))) = true then (some false) else (((spec_l2SameInts.l1 x1 x2 k 0) : Option (Ex Bool Unit)).bind fun x4 => Ex.on x4 (fun r => some r) (fun y => spec_l2SameInts.c1 k)))
set_option maxRecDepth 100000 in
set_option maxHeartbeats 4000000 in
theorem spec_l2SameInts.spec (k : Nat) (s0 : HF) (w : World) (x1 : (List Int)) (x2 : (List Int)) (v1 : Value) (v2 : Value) (h1 : Sl (Kd.int .i64) s0 v1 x1) (h2 : Sl (Kd.int .i64) s0 v2 x2) (r : Bool) (H : spec_l2SameInts.f k x1 x2 = some r) :
    Law Try.prog 152 #[v1, v2] s0 w [] (fun v s1 A1 => v = (.bool r) ∧ A1 = []) := by
  unfold spec_l2SameInts.f at H
  refine Law.intro Try.func152 rfl [(0, v1), (1, v2)] (Nat.le_of_ble_eq_true rfl) (enter_lk ⟨rfl, rfl, trivial⟩) (fun e a hS hF => ?_)
  have hF : Fr 26 a [(0, v1), (1, v2)] := hF
  refine sq ?_
  refine rg ?_
  refine stp hF (p_assign rfl) (by decide) (fun a hF => ?_)
  refine nilN ?_
  refine xn ?_
  refine sq ?_
  refine sq ?_
  refine rg ?_
  refine stp hF (p_move rfl) (by decide) (fun a hF => ?_)
  refine stp hF (p_lenr un_34 rfl h1) (by decide) (fun a hF => ?_)
  refine stp hF (p_move rfl) (by decide) (fun a hF => ?_)
  refine stp hF (p_lenr un_34 rfl h2) (by decide) (fun a hF => ?_)
  refine stp hF (p_neq rfl rfl) (by decide) (fun a hF => ?_)
  refine nilN ?_
  refine xn ?_
  refine cnd hF rfl (fun hc1 => ?_) (fun hc1 => ?_)
  · replace H := hbt hc1 H
    refine sq ?_
    refine rg ?_
    refine stp hF (p_assign rfl) (by decide) (fun a hF => ?_)
    refine nilN ?_
    refine xn ?_
    refine rt ?_
    refine xr ?_
    obtain rfl := hsm H
    exact ret1 hF rfl rfl hS ⟨rfl, rfl⟩
  · replace H := hbf hc1 H
    refine skN ?_
    refine xn ?_
    obtain ⟨x4, H, HK1⟩ := hb H
    refine sqj (fun a w => St e s0 w [] ∧ Fr 26 a [] ∧ spec_l2SameInts.c1 k = some r) ?_ ?_
    · skip
      refine sq ?_
      refine rg ?_
      refine stp hF (p_assign rfl) (by decide) (fun a hF => ?_)
      refine nilN ?_
      refine xn ?_
      refine blk ?_
      refine loop_ind (fun k1 a w => ∃ (x3 : Int) , St e s0 w [] ∧ Fr 26 a [(0, v1), (1, v2), (5, (.int .i64 x3))] ∧ spec_l2SameInts.l1 x1 x2 k1 x3 = some x4) k ?_ ?_ ?_
      · skip
        exact ⟨0, hS, hF.cut ⟨rfl, rfl, rfl, trivial⟩, H⟩
      · clear H hS hF
        rintro a w ⟨x3, hS, hF, H⟩
        exact absurd (show none = some _ from H) (by simp)
      · clear H hS hF
        rintro k1 a w ⟨x3, hS, hF, H⟩
        rw [spec_l2SameInts.l1.eq_2] at H
        refine sq ?_
        refine sq ?_
        refine rg ?_
        refine stp hF (p_move rfl) (by decide) (fun a hF => ?_)
        refine stp hF (p_move rfl) (by decide) (fun a hF => ?_)
        refine stp hF (p_lenr un_34 rfl h1) (by decide) (fun a hF => ?_)
        refine stp hF (p_lss rfl rfl) (by decide) (fun a hF => ?_)
        refine nilN ?_
        refine xn ?_
        refine cnd hF rfl (fun hc2 => ?_) (fun hc2 => ?_)
        · replace H := hbt hc2 H
          refine skN ?_
          refine xn ?_
          refine sq ?_
          refine blk ?_
          refine sq ?_
          replace hS : St e s0 w.drew [] := hS.drewN 1
          refine drw [0, 1, 2, 3, 4, 5, 6, 7, 8] mixed (by kernel_rfl) (by decide) (hF.cut (L' := [(0, v1), (1, v2), (5, (.int .i64 x3)), (11, (.int .i64 x3)), (12, v1), (13, (.int .i64 (x1.length : Int))), (14, (.bool (decide (x3 < (x1.length : Int)))))]) ⟨rfl, rfl, rfl, rfl, rfl, rfl, rfl, trivial⟩) ?_
          clear hF
          generalize w.drew = w at hS ⊢
          refine pk1 rfl (by decide) rfl (by kernel_rfl) rfl (p_move rfl) ?_
          refine pk1 rfl (by decide) rfl (by kernel_rfl) rfl (p_move rfl) ?_
          obtain ⟨hq1, H⟩ := hck H
          obtain ⟨ad1, h3, p1⟩ := p_idxr (P := Try.prog) (i := x3) h1 un_34 ti_3 hq1.1 hq1.2
          refine pk1 rfl (by decide) rfl (by kernel_rfl) rfl (p1 rfl rfl) ?_
          refine pk1 rfl (by decide) rfl (by kernel_rfl) rfl (p_ldr_int rfl hS h3 ia_3) ?_
          refine pk1 rfl (by decide) rfl (by kernel_rfl) rfl (p_move rfl) ?_
          refine pk1 rfl (by decide) rfl (by kernel_rfl) rfl (p_move rfl) ?_
          obtain ⟨hq2, H⟩ := hck H
          obtain ⟨ad2, h4, p2⟩ := p_idxr (P := Try.prog) (i := x3) h2 un_34 ti_3 hq2.1 hq2.2
          refine pk1 rfl (by decide) rfl (by kernel_rfl) rfl (p2 rfl rfl) ?_
          refine pk1 rfl (by decide) rfl (by kernel_rfl) rfl (p_ldr_int rfl hS h4 ia_3) ?_
          refine pk1 rfl (by decide) rfl (by kernel_rfl) rfl (p_neq rfl rfl) ?_
          refine pkF (fun a hF => ?_)
          refine xn ?_
          refine cnd hF rfl (fun hc3 => ?_) (fun hc3 => ?_)
          · replace H := hbt hc3 H
            refine sq ?_
            refine rg ?_
            refine stp hF (p_assign rfl) (by decide) (fun a hF => ?_)
            refine nilN ?_
            refine xn ?_
            refine rt ?_
            refine br (xr (xr (br (xr ?_))))
            obtain rfl := hsm H
            have H := hon1 HK1
            obtain rfl := hsm H
            exact ret1 hF rfl rfl hS ⟨rfl, rfl⟩
          · replace H := hbf hc3 H
            refine skN ?_
            refine bn (xn ?_)
            refine rg ?_
            refine stp hF (p_move rfl) (by decide) (fun a hF => ?_)
            refine stp hF (p_add (c := w64 (x3 + 1)) rfl rfl rfl) (by decide) (fun a hF => ?_)
            refine stp hF (p_assign rfl) (by decide) (fun a hF => ?_)
            refine nilN ?_
            refine xn ?_
            exact ⟨(w64 (x3 + 1)), hS, hF.cut ⟨rfl, rfl, rfl, trivial⟩, H⟩
        · replace H := hbf hc2 H
          refine exi ?_
          refine xe (xe (hit (xn ?_)))
          obtain rfl := hsm H
          exact ⟨hS, hF.cut trivial, HK1⟩
    · clear H HK1 hS hF
      rintro a w ⟨hS, hF, H⟩
      unfold spec_l2SameInts.c1 at H
      refine sq ?_
      refine rg ?_
      refine stp hF (p_assign rfl) (by decide) (fun a hF => ?_)
      refine nilN ?_
      refine xn ?_
      refine rt ?_
      obtain rfl := hsm H
      exact ret1 hF rfl rfl hS ⟨rfl, rfl⟩

def spec_SameObj.c1 (k : Nat) (x1 : Bool) : Option Bool :=
  (some x1)
def spec_SameObj.c2 (k : Nat) (x2 : TObj) (x3 : TObj) (x4 : Bool) : Option Bool :=
  ((if x4 = true then ((spec_l2SameInts.f k x2.Refs x3.Refs).bind fun x5 => (some x5)) else (some false) : Option Bool).bind fun x6 => spec_SameObj.c1 k x6)
def spec_SameObj.f (k : Nat) (x2 : TObj) (x3 : TObj) : Option Bool :=
  ((if (decide (x2.Kind = x3.Kind)) = true then ((spec_l2SameInts.f k x2.Ints x3.Ints).bind fun x7 => (some x7)) else (some false) : Option Bool).bind fun x8 => spec_SameObj.c2 k x2 x3 x8)
set_option maxRecDepth 100000 in
set_option maxHeartbeats 4000000 in
theorem spec_SameObj.spec (k : Nat) (s0 : HF) (w : World) (x2 : TObj) (x3 : TObj) (v1 : Value) (v2 : Value) (v3 : Value) (v4 : Value) (h1 : Sl (Kd.int .i64) s0 v1 x2.Ints) (h2 : Sl (Kd.int .i64) s0 v2 x2.Refs) (h3 : Sl (Kd.int .i64) s0 v3 x3.Ints) (h4 : Sl (Kd.int .i64) s0 v4 x3.Refs) (r : Bool) (H : spec_SameObj.f k x2 x3 = some r) :
    Law Try.prog 100 #[(.agg #[(.int .i64 x2.Kind), v1, v2]), (.agg #[(.int .i64 x3.Kind), v3, v4])] s0 w [] (fun v s1 A1 => v = (.bool r) ∧ A1 = []) := by
  unfold spec_SameObj.f at H
  refine Law.intro Try.func100 rfl [(0, (.agg #[(.int .i64 x2.Kind), v1, v2])), (1, (.agg #[(.int .i64 x3.Kind), v3, v4]))] (Nat.le_of_ble_eq_true rfl) (enter_lk ⟨rfl, rfl, trivial⟩) (fun e a hS hF => ?_)
  have hF : Fr 24 a [(0, (.agg #[(.int .i64 x2.Kind), v1, v2])), (1, (.agg #[(.int .i64 x3.Kind), v3, v4]))] := hF
  refine sq ?_
  refine rg ?_
  refine ste hF (e_box (cs := [(.int .i64 x2.Kind), v1, v2]) hS rfl rfl) (by decide) (fun v w a hR hF => ?_)
  obtain ⟨g1, rfl, hS⟩ := hR
  refine ste hF (e_box (cs := [(.int .i64 x3.Kind), v3, v4]) hS rfl rfl) (by decide) (fun v w a hR hF => ?_)
  obtain ⟨g2, rfl, hS⟩ := hR
  refine stp hF (p_assign rfl) (by decide) (fun a hF => ?_)
  refine nilN ?_
  refine xn ?_
  refine sq ?_
  refine rg ?_
  refine stp hF (p_fldb (o' := 0) rfl fi_36_0 rfl) (by decide) (fun a hF => ?_)
  refine stp hF (p_ldb_one (i := 1) hS rfl rfl ia_3 rfl) (by decide) (fun a hF => ?_)
  refine stp hF (p_fldb (o' := 0) rfl fi_36_0 rfl) (by decide) (fun a hF => ?_)
  refine stp hF (p_ldb_one (i := 0) hS rfl rfl ia_3 rfl) (by decide) (fun a hF => ?_)
  refine stp hF (p_eql rfl rfl) (by decide) (fun a hF => ?_)
  refine stp hF (p_move rfl) (by decide) (fun a hF => ?_)
  obtain ⟨x8, H, HK1⟩ := hb H
  refine cutj 6 (fun a w => ∃ (x4 : Bool) (s2 : HF) , St e s2 w [pt g2 36 ([(.int .i64 x3.Kind), v3, v4]), pt g1 36 ([(.int .i64 x2.Kind), v1, v2])] ∧ Fr 24 a [(2, (.pointer (some ⟨g1, 0, none⟩))), (3, (.pointer (some ⟨g2, 0, none⟩))), (16, (.bool x4))] ∧ Sub s0 s2 ∧ spec_SameObj.c2 k x2 x3 x4 = some r) rfl rfl ?_ ?_
  · rcases Bool.eq_false_or_eq_true (decide (x2.Kind = x3.Kind)) with hc1 | hc1
    · replace H := hbt hc1 H
      refine gonE (j := 5) hF rfl rfl hc1 ?_
      refine stp hF (p_fldb (o' := 1) rfl fi_36_1 rfl) (by decide) (fun a hF => ?_)
      refine gonE (j := 5) hF rfl rfl hc1 ?_
      refine stp hF (p_ldb_one (i := 1) hS rfl rfl ia_34 rfl) (by decide) (fun a hF => ?_)
      refine gonE (j := 5) hF rfl rfl hc1 ?_
      refine stp hF (p_fldb (o' := 1) rfl fi_36_1 rfl) (by decide) (fun a hF => ?_)
      refine gonE (j := 5) hF rfl rfl hc1 ?_
      refine stp hF (p_ldb_one (i := 0) hS rfl rfl ia_34 rfl) (by decide) (fun a hF => ?_)
      obtain ⟨x7, hx1, H⟩ := hb H
      refine gonE (j := 5) hF rfl rfl hc1 ?_
      refine ste hF (e_callA (fst := []) (vs := [v1, v3]) (cap := []) rfl rfl go_152 (St.call (A := []) (B := [pt g2 36 ([(.int .i64 x3.Kind), v3, v4]), pt g1 36 ([(.int .i64 x2.Kind), v1, v2])]) hS (spec_l2SameInts.spec k _ _ x2.Ints x3.Ints v1 v3 h1 h3 _ hx1)) rfl) (by decide) (fun v w a hR hF => ?_)
      obtain ⟨s3, A2, hg1, hS, hR⟩ := hR
      obtain ⟨hv1, rfl⟩ := hR; obtain rfl := hv1.symm
      have hS : St e s3 w [pt g2 36 ([(.int .i64 x3.Kind), v3, v4]), pt g1 36 ([(.int .i64 x2.Kind), v1, v2])] := hS
      refine stp hF (p_pickT rfl hc1 rfl) (by decide) (fun a hF => ?_)
      refine nilN ?_
      refine xn ?_
      obtain rfl := hsm H
      exact ⟨x7, s3, hS, hF.cut ⟨rfl, rfl, rfl, trivial⟩, hg1, HK1⟩
    · replace H := hbf hc1 H
      refine gofD (j := 5) hF rfl rfl (by rw [hc1]; decide) (by decide) (fun a hF => ?_)
      refine gofD (j := 5) hF rfl rfl (by rw [hc1]; decide) (by decide) (fun a hF => ?_)
      refine gofD (j := 5) hF rfl rfl (by rw [hc1]; decide) (by decide) (fun a hF => ?_)
      refine gofD (j := 5) hF rfl rfl (by rw [hc1]; decide) (by decide) (fun a hF => ?_)
      refine gofD (j := 5) hF rfl rfl (by rw [hc1]; decide) (by decide) (fun a hF => ?_)
      refine stp hF (p_pickF rfl hc1 rfl) (by decide) (fun a hF => ?_)
      refine nilN ?_
      refine xn ?_
      obtain rfl := hsm H
      exact ⟨false, s0, hS, hF.cut ⟨rfl, rfl, rfl, trivial⟩, (Sub.refl _), HK1⟩
  · clear H HK1 hS hF
    rintro a w ⟨x4, s2, hS, hF, hg2, H⟩
    unfold spec_SameObj.c2 at H
    refine stp hF (p_move rfl) (by decide) (fun a hF => ?_)
    obtain ⟨x6, H, HK2⟩ := hb H
    refine cutj 6 (fun a w => ∃ (x1 : Bool) (s4 : HF) , St e s4 w [pt g2 36 ([(.int .i64 x3.Kind), v3, v4]), pt g1 36 ([(.int .i64 x2.Kind), v1, v2])] ∧ Fr 24 a [(23, (.bool x1))] ∧ Sub s2 s4 ∧ spec_SameObj.c1 k x1 = some r) rfl rfl ?_ ?_
    · rcases Bool.eq_false_or_eq_true (x4) with hc2 | hc2
      · replace H := hbt hc2 H
        refine gonE (j := 12) hF rfl rfl hc2 ?_
        refine stp hF (p_fldb (o' := 2) rfl fi_36_2 rfl) (by decide) (fun a hF => ?_)
        refine gonE (j := 12) hF rfl rfl hc2 ?_
        refine stp hF (p_ldb_one (i := 1) hS rfl rfl ia_34 rfl) (by decide) (fun a hF => ?_)
        refine gonE (j := 12) hF rfl rfl hc2 ?_
        refine stp hF (p_fldb (o' := 2) rfl fi_36_2 rfl) (by decide) (fun a hF => ?_)
        refine gonE (j := 12) hF rfl rfl hc2 ?_
        refine stp hF (p_ldb_one (i := 0) hS rfl rfl ia_34 rfl) (by decide) (fun a hF => ?_)
        obtain ⟨x5, hx2, H⟩ := hb H
        refine gonE (j := 12) hF rfl rfl hc2 ?_
        refine ste hF (e_callA (fst := []) (vs := [v2, v4]) (cap := []) rfl rfl go_152 (St.call (A := []) (B := [pt g2 36 ([(.int .i64 x3.Kind), v3, v4]), pt g1 36 ([(.int .i64 x2.Kind), v1, v2])]) hS (spec_l2SameInts.spec k _ _ x2.Refs x3.Refs v2 v4 (h2.mono hg2) (h4.mono hg2) _ hx2)) rfl) (by decide) (fun v w a hR hF => ?_)
        obtain ⟨s5, A3, hg3, hS, hR⟩ := hR
        obtain ⟨hv2, rfl⟩ := hR; obtain rfl := hv2.symm
        have hS : St e s5 w [pt g2 36 ([(.int .i64 x3.Kind), v3, v4]), pt g1 36 ([(.int .i64 x2.Kind), v1, v2])] := hS
        refine stp hF (p_pickT rfl hc2 rfl) (by decide) (fun a hF => ?_)
        refine nilN ?_
        refine xn ?_
        obtain rfl := hsm H
        exact ⟨x5, s5, hS, hF.cut ⟨rfl, trivial⟩, hg3, HK2⟩
      · replace H := hbf hc2 H
        refine gofD (j := 12) hF rfl rfl (by rw [hc2]; decide) (by decide) (fun a hF => ?_)
        refine gofD (j := 12) hF rfl rfl (by rw [hc2]; decide) (by decide) (fun a hF => ?_)
        refine gofD (j := 12) hF rfl rfl (by rw [hc2]; decide) (by decide) (fun a hF => ?_)
        refine gofD (j := 12) hF rfl rfl (by rw [hc2]; decide) (by decide) (fun a hF => ?_)
        refine gofD (j := 12) hF rfl rfl (by rw [hc2]; decide) (by decide) (fun a hF => ?_)
        refine stp hF (p_pickF rfl hc2 rfl) (by decide) (fun a hF => ?_)
        refine nilN ?_
        refine xn ?_
        obtain rfl := hsm H
        exact ⟨false, s2, hS, hF.cut ⟨rfl, trivial⟩, (Sub.refl _), HK2⟩
    · clear H HK2 hS hF
      rintro a w ⟨x1, s4, hS, hF, hg4, H⟩
      unfold spec_SameObj.c1 at H
      refine stp hF (p_assign rfl) (by decide) (fun a hF => ?_)
      refine nilN ?_
      refine xn ?_
      refine rt ?_
      obtain rfl := hsm H
      replace hS := hS.sel (is := []) (A' := []) rfl
      exact ret1 hF rfl rfl hS ⟨rfl, rfl⟩

def spec_l3SameSlot.c1 (k : Nat) (x1 : Bool) : Option Bool :=
  (some x1)
def spec_l3SameSlot.f (k : Nat) (x2 : TSlot) (x3 : TSlot) : Option Bool :=
  ((if (x2.Has == x3.Has) = true then ((spec_SameObj.f k x2.O x3.O).bind fun x4 => (some x4)) else (some false) : Option Bool).bind fun x5 => spec_l3SameSlot.c1 k x5)
set_option maxRecDepth 100000 in
set_option maxHeartbeats 4000000 in
theorem spec_l3SameSlot.spec (k : Nat) (s0 : HF) (w : World) (x2 : TSlot) (x3 : TSlot) (v1 : Value) (v2 : Value) (v3 : Value) (v4 : Value) (h1 : Sl (Kd.int .i64) s0 v1 x2.O.Ints) (h2 : Sl (Kd.int .i64) s0 v2 x2.O.Refs) (h3 : Sl (Kd.int .i64) s0 v3 x3.O.Ints) (h4 : Sl (Kd.int .i64) s0 v4 x3.O.Refs) (r : Bool) (H : spec_l3SameSlot.f k x2 x3 = some r) :
    Law Try.prog 139 #[(.agg #[(.bool x2.Has), (.int .i64 x2.O.Kind), v1, v2]), (.agg #[(.bool x3.Has), (.int .i64 x3.O.Kind), v3, v4])] s0 w [] (fun v s1 A1 => v = (.bool r) ∧ A1 = []) := by
  unfold spec_l3SameSlot.f at H
  refine Law.intro Try.func139 rfl [(0, (.agg #[(.bool x2.Has), (.int .i64 x2.O.Kind), v1, v2])), (1, (.agg #[(.bool x3.Has), (.int .i64 x3.O.Kind), v3, v4]))] (Nat.le_of_ble_eq_true rfl) (enter_lk ⟨rfl, rfl, trivial⟩) (fun e a hS hF => ?_)
  have hF : Fr 17 a [(0, (.agg #[(.bool x2.Has), (.int .i64 x2.O.Kind), v1, v2])), (1, (.agg #[(.bool x3.Has), (.int .i64 x3.O.Kind), v3, v4]))] := hF
  refine sq ?_
  refine rg ?_
  refine ste hF (e_box (cs := [(.bool x2.Has), (.int .i64 x2.O.Kind), v1, v2]) hS rfl rfl) (by decide) (fun v w a hR hF => ?_)
  obtain ⟨g1, rfl, hS⟩ := hR
  refine ste hF (e_box (cs := [(.bool x3.Has), (.int .i64 x3.O.Kind), v3, v4]) hS rfl rfl) (by decide) (fun v w a hR hF => ?_)
  obtain ⟨g2, rfl, hS⟩ := hR
  refine stp hF (p_assign rfl) (by decide) (fun a hF => ?_)
  refine nilN ?_
  refine xn ?_
  refine sq ?_
  refine rg ?_
  refine stp hF (p_fldb (o' := 0) rfl fi_38_0 rfl) (by decide) (fun a hF => ?_)
  refine stp hF (p_ldb_one (i := 1) hS rfl rfl ia_4 rfl) (by decide) (fun a hF => ?_)
  refine stp hF (p_fldb (o' := 0) rfl fi_38_0 rfl) (by decide) (fun a hF => ?_)
  refine stp hF (p_ldb_one (i := 0) hS rfl rfl ia_4 rfl) (by decide) (fun a hF => ?_)
  refine stp hF (p_eqb un_4 rfl rfl) (by decide) (fun a hF => ?_)
  refine stp hF (p_move rfl) (by decide) (fun a hF => ?_)
  obtain ⟨x5, H, HK1⟩ := hb H
  refine cutj 6 (fun a w => ∃ (x1 : Bool) (s2 : HF) , St e s2 w [pt g2 38 ([(.bool x3.Has), (.int .i64 x3.O.Kind), v3, v4]), pt g1 38 ([(.bool x2.Has), (.int .i64 x2.O.Kind), v1, v2])] ∧ Fr 17 a [(16, (.bool x1))] ∧ Sub s0 s2 ∧ spec_l3SameSlot.c1 k x1 = some r) rfl rfl ?_ ?_
  · rcases Bool.eq_false_or_eq_true ((x2.Has == x3.Has)) with hc1 | hc1
    · replace H := hbt hc1 H
      refine gonE (j := 5) hF rfl rfl hc1 ?_
      refine stp hF (p_fldb (o' := 1) rfl fi_38_1 rfl) (by decide) (fun a hF => ?_)
      refine gonE (j := 5) hF rfl rfl hc1 ?_
      refine stp hF (p_ldb_agg (i := 1) (l := [(.bool x2.Has)]) (m := [(.int .i64 x2.O.Kind), v1, v2]) (r := []) hS rfl rfl ia_36 ti_36 rfl rfl rfl) (by decide) (fun a hF => ?_)
      refine gonE (j := 5) hF rfl rfl hc1 ?_
      refine stp hF (p_fldb (o' := 1) rfl fi_38_1 rfl) (by decide) (fun a hF => ?_)
      refine gonE (j := 5) hF rfl rfl hc1 ?_
      refine stp hF (p_ldb_agg (i := 0) (l := [(.bool x3.Has)]) (m := [(.int .i64 x3.O.Kind), v3, v4]) (r := []) hS rfl rfl ia_36 ti_36 rfl rfl rfl) (by decide) (fun a hF => ?_)
      obtain ⟨x4, hx1, H⟩ := hb H
      refine gonE (j := 5) hF rfl rfl hc1 ?_
      refine ste hF (e_callA (fst := []) (vs := [(.agg #[(.int .i64 x2.O.Kind), v1, v2]), (.agg #[(.int .i64 x3.O.Kind), v3, v4])]) (cap := []) rfl rfl go_100 (St.call (A := []) (B := [pt g2 38 ([(.bool x3.Has), (.int .i64 x3.O.Kind), v3, v4]), pt g1 38 ([(.bool x2.Has), (.int .i64 x2.O.Kind), v1, v2])]) hS (spec_SameObj.spec k _ _ x2.O x3.O v1 v2 v3 v4 h1 h2 h3 h4 _ hx1)) rfl) (by decide) (fun v w a hR hF => ?_)
      obtain ⟨s3, A2, hg1, hS, hR⟩ := hR
      obtain ⟨hv1, rfl⟩ := hR; obtain rfl := hv1.symm
      have hS : St e s3 w [pt g2 38 ([(.bool x3.Has), (.int .i64 x3.O.Kind), v3, v4]), pt g1 38 ([(.bool x2.Has), (.int .i64 x2.O.Kind), v1, v2])] := hS
      refine stp hF (p_pickT rfl hc1 rfl) (by decide) (fun a hF => ?_)
      refine nilN ?_
      refine xn ?_
      obtain rfl := hsm H
      exact ⟨x4, s3, hS, hF.cut ⟨rfl, trivial⟩, hg1, HK1⟩
    · replace H := hbf hc1 H
      refine gofD (j := 5) hF rfl rfl (by rw [hc1]; decide) (by decide) (fun a hF => ?_)
      refine gofD (j := 5) hF rfl rfl (by rw [hc1]; decide) (by decide) (fun a hF => ?_)
      refine gofD (j := 5) hF rfl rfl (by rw [hc1]; decide) (by decide) (fun a hF => ?_)
      refine gofD (j := 5) hF rfl rfl (by rw [hc1]; decide) (by decide) (fun a hF => ?_)
      refine gofD (j := 5) hF rfl rfl (by rw [hc1]; decide) (by decide) (fun a hF => ?_)
      refine stp hF (p_pickF rfl hc1 rfl) (by decide) (fun a hF => ?_)
      refine nilN ?_
      refine xn ?_
      obtain rfl := hsm H
      exact ⟨false, s0, hS, hF.cut ⟨rfl, trivial⟩, (Sub.refl _), HK1⟩
  · clear H HK1 hS hF
    rintro a w ⟨x1, s2, hS, hF, hg2, H⟩
    unfold spec_l3SameSlot.c1 at H
    refine stp hF (p_assign rfl) (by decide) (fun a hF => ?_)
    refine nilN ?_
    refine xn ?_
    refine rt ?_
    obtain rfl := hsm H
    replace hS := hS.sel (is := []) (A' := []) rfl
    exact ret1 hF rfl rfl hS ⟨rfl, rfl⟩

def spec_l4Zero.c1 (k : Nat) (x1 : Bool) (x2 : TRec) (x3 : Bool) (x4 : Bool) : Option Bool :=
  (some ((x4 && (x1 || (decide (x2.Next = 0)))) && (x3 || (decide ((x2.Txs.length : Int) = 0)))))
def spec_l4Zero.c2 (k : Nat) (x5 : Bool) : Option Bool :=
  (some x5)
def spec_l4Zero.c3 (k : Nat) (x6 : Bool) (x2 : TRec) (x1 : Bool) (x3 : Bool) (x7 : Bool) : Option Bool :=
  ((if x7 = true then ((if x6 = true then (some true) else ((spec_l3SameSlot.f k x2.Before (⟨false, (⟨0, ([] : List Int), ([] : List Int)⟩ : TObj)⟩ : TSlot)).bind fun x8 => (some x8)) : Option Bool).bind fun x9 => spec_l4Zero.c2 k x9) else (some false) : Option Bool).bind fun x10 => spec_l4Zero.c1 k x1 x2 x3 x10)
def spec_l4Zero.c4 (k : Nat) (x11 : Bool) : Option Bool :=
  (some x11)
def spec_l4Zero.c5 (k : Nat) (x12 : Bool) : Option Bool :=
  (some x12)
def spec_l4Zero.f (k : Nat) (x2 : TRec) (x13 : Bool) (x14 : Bool) (x6 : Bool) (x1 : Bool) (x3 : Bool) : Option Bool :=
  ((if (x13 || ((decide (x2.Tx = 0)) && (decide (x2.Prev = 0)))) = true then ((if x14 = true then (some true) else ((if (decide (x2.Oid = 0)) = true then ((spec_l3SameSlot.f k x2.After (⟨false, (⟨0, ([] : List Int), ([] : List Int)⟩ : TObj)⟩ : TSlot)).bind fun x15 => (some x15)) else (some false) : Option Bool).bind fun x16 => spec_l4Zero.c5 k x16) : Option Bool).bind fun x17 => spec_l4Zero.c4 k x17) else (some false) : Option Bool).bind fun x18 => spec_l4Zero.c3 k x6 x2 x1 x3 x18)
set_option maxRecDepth 100000 in
set_option maxHeartbeats 4000000 in
theorem spec_l4Zero.spec (k : Nat) (s0 : HF) (w : World) (x2 : TRec) (x13 : Bool) (x14 : Bool) (x6 : Bool) (x1 : Bool) (x3 : Bool) (v1 : Value) (v2 : Value) (v3 : Value) (v4 : Value) (v5 : Value) (h1 : Sl (Kd.int .i64) s0 v1 x2.Before.O.Ints) (h2 : Sl (Kd.int .i64) s0 v2 x2.Before.O.Refs) (h3 : Sl (Kd.int .i64) s0 v3 x2.After.O.Ints) (h4 : Sl (Kd.int .i64) s0 v4 x2.After.O.Refs) (h5 : Sl kTLive s0 v5 x2.Txs) (r : Bool) (H : spec_l4Zero.f k x2 x13 x14 x6 x1 x3 = some r) :
    Law Try.prog 77 #[(.agg #[(.int .i64 x2.Lsn), (.int .i64 x2.Tx), (.int .i64 x2.Prev), (.int .i64 x2.Kind), (.int .i64 x2.Oid), (.bool x2.Before.Has), (.int .i64 x2.Before.O.Kind), v1, v2, (.bool x2.After.Has), (.int .i64 x2.After.O.Kind), v3, v4, (.int .i64 x2.Next), v5]), (.bool x13), (.bool x14), (.bool x6), (.bool x1), (.bool x3)] s0 w [] (fun v s1 A1 => v = (.bool r) ∧ A1 = []) := by
  unfold spec_l4Zero.f at H
  refine Law.intro Try.func77 rfl [(0, (.agg #[(.int .i64 x2.Lsn), (.int .i64 x2.Tx), (.int .i64 x2.Prev), (.int .i64 x2.Kind), (.int .i64 x2.Oid), (.bool x2.Before.Has), (.int .i64 x2.Before.O.Kind), v1, v2, (.bool x2.After.Has), (.int .i64 x2.After.O.Kind), v3, v4, (.int .i64 x2.Next), v5])), (1, (.bool x13)), (2, (.bool x14)), (3, (.bool x6)), (4, (.bool x1)), (5, (.bool x3))] (Nat.le_of_ble_eq_true rfl) (enter_lk ⟨rfl, rfl, rfl, rfl, rfl, rfl, trivial⟩) (fun e a hS hF => ?_)
  have hF : Fr 66 a [(0, (.agg #[(.int .i64 x2.Lsn), (.int .i64 x2.Tx), (.int .i64 x2.Prev), (.int .i64 x2.Kind), (.int .i64 x2.Oid), (.bool x2.Before.Has), (.int .i64 x2.Before.O.Kind), v1, v2, (.bool x2.After.Has), (.int .i64 x2.After.O.Kind), v3, v4, (.int .i64 x2.Next), v5])), (1, (.bool x13)), (2, (.bool x14)), (3, (.bool x6)), (4, (.bool x1)), (5, (.bool x3))] := hF
  refine sq ?_
  refine rg ?_
  refine ste hF (e_box (cs := [(.int .i64 x2.Lsn), (.int .i64 x2.Tx), (.int .i64 x2.Prev), (.int .i64 x2.Kind), (.int .i64 x2.Oid), (.bool x2.Before.Has), (.int .i64 x2.Before.O.Kind), v1, v2, (.bool x2.After.Has), (.int .i64 x2.After.O.Kind), v3, v4, (.int .i64 x2.Next), v5]) hS rfl rfl) (by decide) (fun v w a hR hF => ?_)
  obtain ⟨g1, rfl, hS⟩ := hR
  refine stp hF (p_assign rfl) (by decide) (fun a hF => ?_)
  refine nilN ?_
  refine xn ?_
  refine sq ?_
  refine rg ?_
  refine stp hF (p_build (ps := []) (vs := []) (v := (.agg #[(.bool false), (.int .i64 0), (.slice none 0 0), (.slice none 0 0)])) rfl (by intro w; kernel_rfl)) (by decide) (fun a hF => ?_)
  refine ste hF (e_alloc (cs := [(.bool false), (.int .i64 0), (.slice none 0 0), (.slice none 0 0)]) hS ti_38 rfl) (by decide) (fun v w a hR hF => ?_)
  obtain ⟨g2, rfl, hS⟩ := hR
  refine ste0 hF (e_stb (i := 0) (l := []) (m := [(.bool false), (.int .i64 0), (.slice none 0 0), (.slice none 0 0)]) (r := []) (m' := [(.bool false), (.int .i64 0), (.slice none 0 0), (.slice none 0 0)]) (cs' := [(.bool false), (.int .i64 0), (.slice none 0 0), (.slice none 0 0)]) hS rfl rfl rfl ti_38 rfl rfl rfl rfl rfl (one_cons rfl (one_cons rfl (one_cons rfl (one_cons rfl one_nil)))) rfl) (fun v w a hR hF => ?_)
  have hS : St e s0 w [pt g2 38 ([(.bool false), (.int .i64 0), (.slice none 0 0), (.slice none 0 0)]), pt g1 41 ([(.int .i64 x2.Lsn), (.int .i64 x2.Tx), (.int .i64 x2.Prev), (.int .i64 x2.Kind), (.int .i64 x2.Oid), (.bool x2.Before.Has), (.int .i64 x2.Before.O.Kind), v1, v2, (.bool x2.After.Has), (.int .i64 x2.After.O.Kind), v3, v4, (.int .i64 x2.Next), v5])] := hR
  refine nilN ?_
  refine xn ?_
  refine sq ?_
  refine rg ?_
  refine stp hF (p_move rfl) (by decide) (fun a hF => ?_)
  refine stp hF (p_move rfl) (by decide) (fun a hF => ?_)
  refine cutj 9 (fun a w => St e s0 w [pt g2 38 ([(.bool false), (.int .i64 0), (.slice none 0 0), (.slice none 0 0)]), pt g1 41 ([(.int .i64 x2.Lsn), (.int .i64 x2.Tx), (.int .i64 x2.Prev), (.int .i64 x2.Kind), (.int .i64 x2.Oid), (.bool x2.Before.Has), (.int .i64 x2.Before.O.Kind), v1, v2, (.bool x2.After.Has), (.int .i64 x2.After.O.Kind), v3, v4, (.int .i64 x2.Next), v5])] ∧ Fr 66 a [(2, (.bool x14)), (3, (.bool x6)), (4, (.bool x1)), (5, (.bool x3)), (6, (.pointer (some ⟨g1, 0, none⟩))), (13, (.pointer (some ⟨g2, 0, none⟩))), (25, (.bool (x13 || ((decide (x2.Tx = 0)) && (decide (x2.Prev = 0))))))]) rfl rfl ?_ ?_
  · rcases Bool.eq_false_or_eq_true (x13) with hc1 | hc1
    · skip
      refine gofD (j := 1) hF rfl rfl (by rw [hc1]; decide) (by decide) (fun a hF => ?_)
      refine gofD (j := 1) hF rfl rfl (by rw [hc1]; decide) (by decide) (fun a hF => ?_)
      refine gofD (j := 1) hF rfl rfl (by rw [hc1]; decide) (by decide) (fun a hF => ?_)
      refine gofD (j := 1) hF rfl rfl (by rw [hc1]; decide) (by decide) (fun a hF => ?_)
      refine gofU (j := 5) hF rfl rfl (by decide) (fun a hF => ?_)
      refine gofU (j := 5) hF rfl rfl (by decide) (fun a hF => ?_)
      refine gofU (j := 5) hF rfl rfl (by decide) (fun a hF => ?_)
      refine gofD (j := 1) hF rfl rfl (by rw [hc1]; decide) (by decide) (fun a hF => ?_)
      refine stp hF (p_orT ((decide (x2.Tx = 0)) && (decide (x2.Prev = 0))) rfl hc1 rfl) (by decide) (fun a hF => ?_)
      refine nilN ?_
      refine xn ?_
      exact ⟨hS, hF.cut ⟨rfl, rfl, rfl, rfl, rfl, rfl, rfl, trivial⟩⟩
    · skip
      refine gonE (j := 1) hF rfl rfl hc1 ?_
      refine stp hF (p_fldb (o' := 1) rfl fi_41_1 rfl) (by decide) (fun a hF => ?_)
      refine gonE (j := 1) hF rfl rfl hc1 ?_
      refine stp hF (p_ldb_one (i := 1) hS rfl rfl ia_3 rfl) (by decide) (fun a hF => ?_)
      refine gonE (j := 1) hF rfl rfl hc1 ?_
      refine stp hF (p_eql rfl rfl) (by decide) (fun a hF => ?_)
      refine gonE (j := 1) hF rfl rfl hc1 ?_
      refine stp hF (p_move rfl) (by decide) (fun a hF => ?_)
      refine cutj 4 (fun a w => St e s0 w [pt g2 38 ([(.bool false), (.int .i64 0), (.slice none 0 0), (.slice none 0 0)]), pt g1 41 ([(.int .i64 x2.Lsn), (.int .i64 x2.Tx), (.int .i64 x2.Prev), (.int .i64 x2.Kind), (.int .i64 x2.Oid), (.bool x2.Before.Has), (.int .i64 x2.Before.O.Kind), v1, v2, (.bool x2.After.Has), (.int .i64 x2.After.O.Kind), v3, v4, (.int .i64 x2.Next), v5])] ∧ Fr 66 a [(2, (.bool x14)), (3, (.bool x6)), (4, (.bool x1)), (5, (.bool x3)), (6, (.pointer (some ⟨g1, 0, none⟩))), (13, (.pointer (some ⟨g2, 0, none⟩))), (16, (.bool x13)), (24, (.bool ((decide (x2.Tx = 0)) && (decide (x2.Prev = 0)))))]) rfl rfl ?_ ?_
      · rcases Bool.eq_false_or_eq_true (decide (x2.Tx = 0)) with hc2 | hc2
        · skip
          refine gonE (j := 5) hF rfl rfl hc2 ?_
          refine stp hF (p_fldb (o' := 2) rfl fi_41_2 rfl) (by decide) (fun a hF => ?_)
          refine gonE (j := 5) hF rfl rfl hc2 ?_
          refine stp hF (p_ldb_one (i := 1) hS rfl rfl ia_3 rfl) (by decide) (fun a hF => ?_)
          refine gonE (j := 5) hF rfl rfl hc2 ?_
          refine stp hF (p_eql rfl rfl) (by decide) (fun a hF => ?_)
          refine gonE (j := 1) hF rfl rfl hc1 ?_
          refine stp hF (p_andT rfl hc2 rfl) (by decide) (fun a hF => ?_)
          refine nilN ?_
          refine xn ?_
          exact ⟨hS, hF.cut ⟨rfl, rfl, rfl, rfl, rfl, rfl, rfl, rfl, trivial⟩⟩
        · skip
          refine gofD (j := 5) hF rfl rfl (by rw [hc2]; decide) (by decide) (fun a hF => ?_)
          refine gofD (j := 5) hF rfl rfl (by rw [hc2]; decide) (by decide) (fun a hF => ?_)
          refine gofD (j := 5) hF rfl rfl (by rw [hc2]; decide) (by decide) (fun a hF => ?_)
          refine gonE (j := 1) hF rfl rfl hc1 ?_
          refine stp hF (p_andF (decide (x2.Prev = 0)) rfl hc2 rfl) (by decide) (fun a hF => ?_)
          refine nilN ?_
          refine xn ?_
          exact ⟨hS, hF.cut ⟨rfl, rfl, rfl, rfl, rfl, rfl, rfl, rfl, trivial⟩⟩
      clear hS hF
      rintro a w ⟨hS, hF⟩
      refine stp hF (p_orF rfl hc1 rfl) (by decide) (fun a hF => ?_)
      refine nilN ?_
      refine xn ?_
      exact ⟨hS, hF.cut ⟨rfl, rfl, rfl, rfl, rfl, rfl, rfl, trivial⟩⟩
  clear hS hF
  rintro a w ⟨hS, hF⟩
  refine stp hF (p_move rfl) (by decide) (fun a hF => ?_)
  obtain ⟨x18, H, HK1⟩ := hb H
  refine cutj 13 (fun a w => ∃ (x7 : Bool) (s2 : HF) , St e s2 w [pt g2 38 ([(.bool false), (.int .i64 0), (.slice none 0 0), (.slice none 0 0)]), pt g1 41 ([(.int .i64 x2.Lsn), (.int .i64 x2.Tx), (.int .i64 x2.Prev), (.int .i64 x2.Kind), (.int .i64 x2.Oid), (.bool x2.Before.Has), (.int .i64 x2.Before.O.Kind), v1, v2, (.bool x2.After.Has), (.int .i64 x2.After.O.Kind), v3, v4, (.int .i64 x2.Next), v5])] ∧ Fr 66 a [(3, (.bool x6)), (4, (.bool x1)), (5, (.bool x3)), (6, (.pointer (some ⟨g1, 0, none⟩))), (13, (.pointer (some ⟨g2, 0, none⟩))), (39, (.bool x7))] ∧ Sub s0 s2 ∧ spec_l4Zero.c3 k x6 x2 x1 x3 x7 = some r) rfl rfl ?_ ?_
  · rcases Bool.eq_false_or_eq_true ((x13 || ((decide (x2.Tx = 0)) && (decide (x2.Prev = 0))))) with hc3 | hc3
    · replace H := hbt hc3 H
      refine gonE (j := 11) hF rfl rfl hc3 ?_
      refine stp hF (p_move rfl) (by decide) (fun a hF => ?_)
      refine gonE (j := 11) hF rfl rfl hc3 ?_
      refine stp hF (p_move rfl) (by decide) (fun a hF => ?_)
      obtain ⟨x17, H, HK2⟩ := hb H
      refine cutj 10 (fun a w => ∃ (x11 : Bool) (s3 : HF) , St e s3 w [pt g2 38 ([(.bool false), (.int .i64 0), (.slice none 0 0), (.slice none 0 0)]), pt g1 41 ([(.int .i64 x2.Lsn), (.int .i64 x2.Tx), (.int .i64 x2.Prev), (.int .i64 x2.Kind), (.int .i64 x2.Oid), (.bool x2.Before.Has), (.int .i64 x2.Before.O.Kind), v1, v2, (.bool x2.After.Has), (.int .i64 x2.After.O.Kind), v3, v4, (.int .i64 x2.Next), v5])] ∧ Fr 66 a [(3, (.bool x6)), (4, (.bool x1)), (5, (.bool x3)), (6, (.pointer (some ⟨g1, 0, none⟩))), (13, (.pointer (some ⟨g2, 0, none⟩))), (26, (.bool (x13 || ((decide (x2.Tx = 0)) && (decide (x2.Prev = 0)))))), (38, (.bool x11))] ∧ Sub s0 s3 ∧ spec_l4Zero.c4 k x11 = some x18) rfl rfl ?_ ?_
      · rcases Bool.eq_false_or_eq_true (x14) with hc4 | hc4
        · replace H := hbt hc4 H
          refine gofD (j := 13) hF rfl rfl (by rw [hc4]; decide) (by decide) (fun a hF => ?_)
          refine gofD (j := 13) hF rfl rfl (by rw [hc4]; decide) (by decide) (fun a hF => ?_)
          refine gofD (j := 13) hF rfl rfl (by rw [hc4]; decide) (by decide) (fun a hF => ?_)
          refine gofD (j := 13) hF rfl rfl (by rw [hc4]; decide) (by decide) (fun a hF => ?_)
          refine gofU (j := 17) hF rfl rfl (by decide) (fun a hF => ?_)
          refine gofU (j := 17) hF rfl rfl (by decide) (fun a hF => ?_)
          refine gofU (j := 17) hF rfl rfl (by decide) (fun a hF => ?_)
          refine gofU (j := 17) hF rfl rfl (by decide) (fun a hF => ?_)
          refine gofD (j := 13) hF rfl rfl (by rw [hc4]; decide) (by decide) (fun a hF => ?_)
          refine gonE (j := 11) hF rfl rfl hc3 ?_
          refine stp hF (p_pickT rfl hc4 rfl) (by decide) (fun a hF => ?_)
          refine nilN ?_
          refine xn ?_
          obtain rfl := hsm H
          exact ⟨true, s0, hS, hF.cut ⟨rfl, rfl, rfl, rfl, rfl, rfl, rfl, trivial⟩, (Sub.refl _), HK2⟩
        · replace H := hbf hc4 H
          refine gonE (j := 13) hF rfl rfl hc4 ?_
          refine stp hF (p_fldb (o' := 4) rfl fi_41_4 rfl) (by decide) (fun a hF => ?_)
          refine gonE (j := 13) hF rfl rfl hc4 ?_
          refine stp hF (p_ldb_one (i := 1) hS rfl rfl ia_3 rfl) (by decide) (fun a hF => ?_)
          refine gonE (j := 13) hF rfl rfl hc4 ?_
          refine stp hF (p_eql rfl rfl) (by decide) (fun a hF => ?_)
          refine gonE (j := 13) hF rfl rfl hc4 ?_
          refine stp hF (p_move rfl) (by decide) (fun a hF => ?_)
          obtain ⟨x16, H, HK3⟩ := hb H
          refine cutj 5 (fun a w => ∃ (x12 : Bool) (s4 : HF) , St e s4 w [pt g2 38 ([(.bool false), (.int .i64 0), (.slice none 0 0), (.slice none 0 0)]), pt g1 41 ([(.int .i64 x2.Lsn), (.int .i64 x2.Tx), (.int .i64 x2.Prev), (.int .i64 x2.Kind), (.int .i64 x2.Oid), (.bool x2.Before.Has), (.int .i64 x2.Before.O.Kind), v1, v2, (.bool x2.After.Has), (.int .i64 x2.After.O.Kind), v3, v4, (.int .i64 x2.Next), v5])] ∧ Fr 66 a [(3, (.bool x6)), (4, (.bool x1)), (5, (.bool x3)), (6, (.pointer (some ⟨g1, 0, none⟩))), (13, (.pointer (some ⟨g2, 0, none⟩))), (26, (.bool (x13 || ((decide (x2.Tx = 0)) && (decide (x2.Prev = 0)))))), (28, (.bool x14)), (37, (.bool x12))] ∧ Sub s0 s4 ∧ spec_l4Zero.c5 k x12 = some x17) rfl rfl ?_ ?_
          · rcases Bool.eq_false_or_eq_true (decide (x2.Oid = 0)) with hc5 | hc5
            · replace H := hbt hc5 H
              refine gonE (j := 17) hF rfl rfl hc5 ?_
              refine stp hF (p_fldb (o' := 9) rfl fi_41_6 rfl) (by decide) (fun a hF => ?_)
              refine gonE (j := 17) hF rfl rfl hc5 ?_
              refine stp hF (p_ldb_agg (i := 1) (l := [(.int .i64 x2.Lsn), (.int .i64 x2.Tx), (.int .i64 x2.Prev), (.int .i64 x2.Kind), (.int .i64 x2.Oid), (.bool x2.Before.Has), (.int .i64 x2.Before.O.Kind), v1, v2]) (m := [(.bool x2.After.Has), (.int .i64 x2.After.O.Kind), v3, v4]) (r := [(.int .i64 x2.Next), v5]) hS rfl rfl ia_38 ti_38 rfl rfl rfl) (by decide) (fun a hF => ?_)
              refine gonE (j := 17) hF rfl rfl hc5 ?_
              refine stp hF (p_ldb_agg (i := 0) (l := []) (m := [(.bool false), (.int .i64 0), (.slice none 0 0), (.slice none 0 0)]) (r := []) hS rfl rfl ia_38 ti_38 rfl rfl rfl) (by decide) (fun a hF => ?_)
              obtain ⟨x15, hx1, H⟩ := hb H
              refine gonE (j := 17) hF rfl rfl hc5 ?_
              refine ste hF (e_callA (fst := []) (vs := [(.agg #[(.bool x2.After.Has), (.int .i64 x2.After.O.Kind), v3, v4]), (.agg #[(.bool false), (.int .i64 0), (.slice none 0 0), (.slice none 0 0)])]) (cap := []) rfl rfl go_139 (St.call (A := []) (B := [pt g2 38 ([(.bool false), (.int .i64 0), (.slice none 0 0), (.slice none 0 0)]), pt g1 41 ([(.int .i64 x2.Lsn), (.int .i64 x2.Tx), (.int .i64 x2.Prev), (.int .i64 x2.Kind), (.int .i64 x2.Oid), (.bool x2.Before.Has), (.int .i64 x2.Before.O.Kind), v1, v2, (.bool x2.After.Has), (.int .i64 x2.After.O.Kind), v3, v4, (.int .i64 x2.Next), v5])]) hS (spec_l3SameSlot.spec k _ _ x2.After (⟨false, (⟨0, ([] : List Int), ([] : List Int)⟩ : TObj)⟩ : TSlot) v3 v4 (.slice none 0 0) (.slice none 0 0) h3 h4 (Sl.nil _ _ _ _) (Sl.nil _ _ _ _) _ hx1)) rfl) (by decide) (fun v w a hR hF => ?_)
              obtain ⟨s5, A2, hg1, hS, hR⟩ := hR
              obtain ⟨hv1, rfl⟩ := hR; obtain rfl := hv1.symm
              have hS : St e s5 w [pt g2 38 ([(.bool false), (.int .i64 0), (.slice none 0 0), (.slice none 0 0)]), pt g1 41 ([(.int .i64 x2.Lsn), (.int .i64 x2.Tx), (.int .i64 x2.Prev), (.int .i64 x2.Kind), (.int .i64 x2.Oid), (.bool x2.Before.Has), (.int .i64 x2.Before.O.Kind), v1, v2, (.bool x2.After.Has), (.int .i64 x2.After.O.Kind), v3, v4, (.int .i64 x2.Next), v5])] := hS
              refine gonE (j := 13) hF rfl rfl hc4 ?_
              refine stp hF (p_pickT rfl hc5 rfl) (by decide) (fun a hF => ?_)
              refine nilN ?_
              refine xn ?_
              obtain rfl := hsm H
              exact ⟨x15, s5, hS, hF.cut ⟨rfl, rfl, rfl, rfl, rfl, rfl, rfl, rfl, trivial⟩, hg1, HK3⟩
            · replace H := hbf hc5 H
              refine gofD (j := 17) hF rfl rfl (by rw [hc5]; decide) (by decide) (fun a hF => ?_)
              refine gofD (j := 17) hF rfl rfl (by rw [hc5]; decide) (by decide) (fun a hF => ?_)
              refine gofD (j := 17) hF rfl rfl (by rw [hc5]; decide) (by decide) (fun a hF => ?_)
              refine gofD (j := 17) hF rfl rfl (by rw [hc5]; decide) (by decide) (fun a hF => ?_)
              refine gonE (j := 13) hF rfl rfl hc4 ?_
              refine stp hF (p_pickF rfl hc5 rfl) (by decide) (fun a hF => ?_)
              refine nilN ?_
              refine xn ?_
              obtain rfl := hsm H
              exact ⟨false, s0, hS, hF.cut ⟨rfl, rfl, rfl, rfl, rfl, rfl, rfl, rfl, trivial⟩, (Sub.refl _), HK3⟩
          · clear H HK3 hS hF
            rintro a w ⟨x12, s4, hS, hF, hg2, H⟩
            unfold spec_l4Zero.c5 at H
            refine gonE (j := 11) hF rfl rfl hc3 ?_
            refine stp hF (p_pickF rfl hc4 rfl) (by decide) (fun a hF => ?_)
            refine nilN ?_
            refine xn ?_
            obtain rfl := hsm H
            exact ⟨x12, s4, hS, hF.cut ⟨rfl, rfl, rfl, rfl, rfl, rfl, rfl, trivial⟩, hg2, HK2⟩
      · clear H HK2 hS hF
        rintro a w ⟨x11, s3, hS, hF, hg3, H⟩
        unfold spec_l4Zero.c4 at H
        refine stp hF (p_pickT rfl hc3 rfl) (by decide) (fun a hF => ?_)
        refine nilN ?_
        refine xn ?_
        obtain rfl := hsm H
        exact ⟨x11, s3, hS, hF.cut ⟨rfl, rfl, rfl, rfl, rfl, rfl, trivial⟩, hg3, HK1⟩
    · replace H := hbf hc3 H
      refine gofD (j := 11) hF rfl rfl (by rw [hc3]; decide) (by decide) (fun a hF => ?_)
      refine gofD (j := 11) hF rfl rfl (by rw [hc3]; decide) (by decide) (fun a hF => ?_)
      refine gofU (j := 13) hF rfl rfl (by decide) (fun a hF => ?_)
      refine gofU (j := 13) hF rfl rfl (by decide) (fun a hF => ?_)
      refine gofU (j := 13) hF rfl rfl (by decide) (fun a hF => ?_)
      refine gofU (j := 13) hF rfl rfl (by decide) (fun a hF => ?_)
      refine gofU (j := 17) hF rfl rfl (by decide) (fun a hF => ?_)
      refine gofU (j := 17) hF rfl rfl (by decide) (fun a hF => ?_)
      refine gofU (j := 17) hF rfl rfl (by decide) (fun a hF => ?_)
      refine gofU (j := 17) hF rfl rfl (by decide) (fun a hF => ?_)
      refine gofU (j := 13) hF rfl rfl (by decide) (fun a hF => ?_)
      refine gofD (j := 11) hF rfl rfl (by rw [hc3]; decide) (by decide) (fun a hF => ?_)
      refine stp hF (p_pickF rfl hc3 rfl) (by decide) (fun a hF => ?_)
      refine nilN ?_
      refine xn ?_
      obtain rfl := hsm H
      exact ⟨false, s0, hS, hF.cut ⟨rfl, rfl, rfl, rfl, rfl, rfl, trivial⟩, (Sub.refl _), HK1⟩
  · clear H HK1 hS hF
    rintro a w ⟨x7, s2, hS, hF, hg4, H⟩
    unfold spec_l4Zero.c3 at H
    refine stp hF (p_move rfl) (by decide) (fun a hF => ?_)
    obtain ⟨x10, H, HK4⟩ := hb H
    refine cutj 8 (fun a w => ∃ (x4 : Bool) (s6 : HF) , St e s6 w [pt g2 38 ([(.bool false), (.int .i64 0), (.slice none 0 0), (.slice none 0 0)]), pt g1 41 ([(.int .i64 x2.Lsn), (.int .i64 x2.Tx), (.int .i64 x2.Prev), (.int .i64 x2.Kind), (.int .i64 x2.Oid), (.bool x2.Before.Has), (.int .i64 x2.Before.O.Kind), v1, v2, (.bool x2.After.Has), (.int .i64 x2.After.O.Kind), v3, v4, (.int .i64 x2.Next), v5])] ∧ Fr 66 a [(4, (.bool x1)), (5, (.bool x3)), (6, (.pointer (some ⟨g1, 0, none⟩))), (48, (.bool x4))] ∧ Sub s2 s6 ∧ spec_l4Zero.c1 k x1 x2 x3 x4 = some r) rfl rfl ?_ ?_
    · rcases Bool.eq_false_or_eq_true (x7) with hc6 | hc6
      · replace H := hbt hc6 H
        refine gonE (j := 25) hF rfl rfl hc6 ?_
        refine stp hF (p_move rfl) (by decide) (fun a hF => ?_)
        refine gonE (j := 25) hF rfl rfl hc6 ?_
        refine stp hF (p_move rfl) (by decide) (fun a hF => ?_)
        obtain ⟨x9, H, HK5⟩ := hb H
        refine cutj 5 (fun a w => ∃ (x5 : Bool) (s7 : HF) , St e s7 w [pt g2 38 ([(.bool false), (.int .i64 0), (.slice none 0 0), (.slice none 0 0)]), pt g1 41 ([(.int .i64 x2.Lsn), (.int .i64 x2.Tx), (.int .i64 x2.Prev), (.int .i64 x2.Kind), (.int .i64 x2.Oid), (.bool x2.Before.Has), (.int .i64 x2.Before.O.Kind), v1, v2, (.bool x2.After.Has), (.int .i64 x2.After.O.Kind), v3, v4, (.int .i64 x2.Next), v5])] ∧ Fr 66 a [(4, (.bool x1)), (5, (.bool x3)), (6, (.pointer (some ⟨g1, 0, none⟩))), (40, (.bool x7)), (47, (.bool x5))] ∧ Sub s2 s7 ∧ spec_l4Zero.c2 k x5 = some x10) rfl rfl ?_ ?_
        · rcases Bool.eq_false_or_eq_true (x6) with hc7 | hc7
          · replace H := hbt hc7 H
            refine gofD (j := 27) hF rfl rfl (by rw [hc7]; decide) (by decide) (fun a hF => ?_)
            refine gofD (j := 27) hF rfl rfl (by rw [hc7]; decide) (by decide) (fun a hF => ?_)
            refine gofD (j := 27) hF rfl rfl (by rw [hc7]; decide) (by decide) (fun a hF => ?_)
            refine gofD (j := 27) hF rfl rfl (by rw [hc7]; decide) (by decide) (fun a hF => ?_)
            refine gonE (j := 25) hF rfl rfl hc6 ?_
            refine stp hF (p_pickT rfl hc7 rfl) (by decide) (fun a hF => ?_)
            refine nilN ?_
            refine xn ?_
            obtain rfl := hsm H
            exact ⟨true, s2, hS, hF.cut ⟨rfl, rfl, rfl, rfl, rfl, trivial⟩, (Sub.refl _), HK5⟩
          · replace H := hbf hc7 H
            refine gonE (j := 27) hF rfl rfl hc7 ?_
            refine stp hF (p_fldb (o' := 5) rfl fi_41_5 rfl) (by decide) (fun a hF => ?_)
            refine gonE (j := 27) hF rfl rfl hc7 ?_
            refine stp hF (p_ldb_agg (i := 1) (l := [(.int .i64 x2.Lsn), (.int .i64 x2.Tx), (.int .i64 x2.Prev), (.int .i64 x2.Kind), (.int .i64 x2.Oid)]) (m := [(.bool x2.Before.Has), (.int .i64 x2.Before.O.Kind), v1, v2]) (r := [(.bool x2.After.Has), (.int .i64 x2.After.O.Kind), v3, v4, (.int .i64 x2.Next), v5]) hS rfl rfl ia_38 ti_38 rfl rfl rfl) (by decide) (fun a hF => ?_)
            refine gonE (j := 27) hF rfl rfl hc7 ?_
            refine stp hF (p_ldb_agg (i := 0) (l := []) (m := [(.bool false), (.int .i64 0), (.slice none 0 0), (.slice none 0 0)]) (r := []) hS rfl rfl ia_38 ti_38 rfl rfl rfl) (by decide) (fun a hF => ?_)
            obtain ⟨x8, hx2, H⟩ := hb H
            refine gonE (j := 27) hF rfl rfl hc7 ?_
            refine ste hF (e_callA (fst := []) (vs := [(.agg #[(.bool x2.Before.Has), (.int .i64 x2.Before.O.Kind), v1, v2]), (.agg #[(.bool false), (.int .i64 0), (.slice none 0 0), (.slice none 0 0)])]) (cap := []) rfl rfl go_139 (St.call (A := []) (B := [pt g2 38 ([(.bool false), (.int .i64 0), (.slice none 0 0), (.slice none 0 0)]), pt g1 41 ([(.int .i64 x2.Lsn), (.int .i64 x2.Tx), (.int .i64 x2.Prev), (.int .i64 x2.Kind), (.int .i64 x2.Oid), (.bool x2.Before.Has), (.int .i64 x2.Before.O.Kind), v1, v2, (.bool x2.After.Has), (.int .i64 x2.After.O.Kind), v3, v4, (.int .i64 x2.Next), v5])]) hS (spec_l3SameSlot.spec k _ _ x2.Before (⟨false, (⟨0, ([] : List Int), ([] : List Int)⟩ : TObj)⟩ : TSlot) v1 v2 (.slice none 0 0) (.slice none 0 0) (h1.mono hg4) (h2.mono hg4) (Sl.nil _ _ _ _) (Sl.nil _ _ _ _) _ hx2)) rfl) (by decide) (fun v w a hR hF => ?_)
            obtain ⟨s8, A3, hg5, hS, hR⟩ := hR
            obtain ⟨hv2, rfl⟩ := hR; obtain rfl := hv2.symm
            have hS : St e s8 w [pt g2 38 ([(.bool false), (.int .i64 0), (.slice none 0 0), (.slice none 0 0)]), pt g1 41 ([(.int .i64 x2.Lsn), (.int .i64 x2.Tx), (.int .i64 x2.Prev), (.int .i64 x2.Kind), (.int .i64 x2.Oid), (.bool x2.Before.Has), (.int .i64 x2.Before.O.Kind), v1, v2, (.bool x2.After.Has), (.int .i64 x2.After.O.Kind), v3, v4, (.int .i64 x2.Next), v5])] := hS
            refine gonE (j := 25) hF rfl rfl hc6 ?_
            refine stp hF (p_pickF rfl hc7 rfl) (by decide) (fun a hF => ?_)
            refine nilN ?_
            refine xn ?_
            obtain rfl := hsm H
            exact ⟨x8, s8, hS, hF.cut ⟨rfl, rfl, rfl, rfl, rfl, trivial⟩, hg5, HK5⟩
        · clear H HK5 hS hF
          rintro a w ⟨x5, s7, hS, hF, hg6, H⟩
          unfold spec_l4Zero.c2 at H
          refine stp hF (p_pickT rfl hc6 rfl) (by decide) (fun a hF => ?_)
          refine nilN ?_
          refine xn ?_
          obtain rfl := hsm H
          exact ⟨x5, s7, hS, hF.cut ⟨rfl, rfl, rfl, rfl, trivial⟩, hg6, HK4⟩
      · replace H := hbf hc6 H
        refine gofD (j := 25) hF rfl rfl (by rw [hc6]; decide) (by decide) (fun a hF => ?_)
        refine gofD (j := 25) hF rfl rfl (by rw [hc6]; decide) (by decide) (fun a hF => ?_)
        refine gofU (j := 27) hF rfl rfl (by decide) (fun a hF => ?_)
        refine gofU (j := 27) hF rfl rfl (by decide) (fun a hF => ?_)
        refine gofU (j := 27) hF rfl rfl (by decide) (fun a hF => ?_)
        refine gofU (j := 27) hF rfl rfl (by decide) (fun a hF => ?_)
        refine gofD (j := 25) hF rfl rfl (by rw [hc6]; decide) (by decide) (fun a hF => ?_)
        refine stp hF (p_pickF rfl hc6 rfl) (by decide) (fun a hF => ?_)
        refine nilN ?_
        refine xn ?_
        obtain rfl := hsm H
        exact ⟨false, s2, hS, hF.cut ⟨rfl, rfl, rfl, rfl, trivial⟩, (Sub.refl _), HK4⟩
    · clear H HK4 hS hF
      rintro a w ⟨x4, s6, hS, hF, hg7, H⟩
      unfold spec_l4Zero.c1 at H
      refine stp hF (p_move rfl) (by decide) (fun a hF => ?_)
      refine cutj 7 (fun a w => St e s6 w [pt g2 38 ([(.bool false), (.int .i64 0), (.slice none 0 0), (.slice none 0 0)]), pt g1 41 ([(.int .i64 x2.Lsn), (.int .i64 x2.Tx), (.int .i64 x2.Prev), (.int .i64 x2.Kind), (.int .i64 x2.Oid), (.bool x2.Before.Has), (.int .i64 x2.Before.O.Kind), v1, v2, (.bool x2.After.Has), (.int .i64 x2.After.O.Kind), v3, v4, (.int .i64 x2.Next), v5])] ∧ Fr 66 a [(5, (.bool x3)), (6, (.pointer (some ⟨g1, 0, none⟩))), (56, (.bool (x4 && (x1 || (decide (x2.Next = 0))))))]) rfl rfl ?_ ?_
      · rcases Bool.eq_false_or_eq_true (x4) with hc8 | hc8
        · skip
          refine gonE (j := 34) hF rfl rfl hc8 ?_
          refine stp hF (p_move rfl) (by decide) (fun a hF => ?_)
          refine gonE (j := 34) hF rfl rfl hc8 ?_
          refine stp hF (p_move rfl) (by decide) (fun a hF => ?_)
          refine cutj 4 (fun a w => St e s6 w [pt g2 38 ([(.bool false), (.int .i64 0), (.slice none 0 0), (.slice none 0 0)]), pt g1 41 ([(.int .i64 x2.Lsn), (.int .i64 x2.Tx), (.int .i64 x2.Prev), (.int .i64 x2.Kind), (.int .i64 x2.Oid), (.bool x2.Before.Has), (.int .i64 x2.Before.O.Kind), v1, v2, (.bool x2.After.Has), (.int .i64 x2.After.O.Kind), v3, v4, (.int .i64 x2.Next), v5])] ∧ Fr 66 a [(5, (.bool x3)), (6, (.pointer (some ⟨g1, 0, none⟩))), (49, (.bool x4)), (55, (.bool (x1 || (decide (x2.Next = 0)))))]) rfl rfl ?_ ?_
          · rcases Bool.eq_false_or_eq_true (x1) with hc9 | hc9
            · skip
              refine gofD (j := 36) hF rfl rfl (by rw [hc9]; decide) (by decide) (fun a hF => ?_)
              refine gofD (j := 36) hF rfl rfl (by rw [hc9]; decide) (by decide) (fun a hF => ?_)
              refine gofD (j := 36) hF rfl rfl (by rw [hc9]; decide) (by decide) (fun a hF => ?_)
              refine gonE (j := 34) hF rfl rfl hc8 ?_
              refine stp hF (p_orT (decide (x2.Next = 0)) rfl hc9 rfl) (by decide) (fun a hF => ?_)
              refine nilN ?_
              refine xn ?_
              exact ⟨hS, hF.cut ⟨rfl, rfl, rfl, rfl, trivial⟩⟩
            · skip
              refine gonE (j := 36) hF rfl rfl hc9 ?_
              refine stp hF (p_fldb (o' := 13) rfl fi_41_7 rfl) (by decide) (fun a hF => ?_)
              refine gonE (j := 36) hF rfl rfl hc9 ?_
              refine stp hF (p_ldb_one (i := 1) hS rfl rfl ia_3 rfl) (by decide) (fun a hF => ?_)
              refine gonE (j := 36) hF rfl rfl hc9 ?_
              refine stp hF (p_eql rfl rfl) (by decide) (fun a hF => ?_)
              refine gonE (j := 34) hF rfl rfl hc8 ?_
              refine stp hF (p_orF rfl hc9 rfl) (by decide) (fun a hF => ?_)
              refine nilN ?_
              refine xn ?_
              exact ⟨hS, hF.cut ⟨rfl, rfl, rfl, rfl, trivial⟩⟩
          clear hS hF
          rintro a w ⟨hS, hF⟩
          refine stp hF (p_andT rfl hc8 rfl) (by decide) (fun a hF => ?_)
          refine nilN ?_
          refine xn ?_
          exact ⟨hS, hF.cut ⟨rfl, rfl, rfl, trivial⟩⟩
        · skip
          refine gofD (j := 34) hF rfl rfl (by rw [hc8]; decide) (by decide) (fun a hF => ?_)
          refine gofD (j := 34) hF rfl rfl (by rw [hc8]; decide) (by decide) (fun a hF => ?_)
          refine gofU (j := 36) hF rfl rfl (by decide) (fun a hF => ?_)
          refine gofU (j := 36) hF rfl rfl (by decide) (fun a hF => ?_)
          refine gofU (j := 36) hF rfl rfl (by decide) (fun a hF => ?_)
          refine gofD (j := 34) hF rfl rfl (by rw [hc8]; decide) (by decide) (fun a hF => ?_)
          refine stp hF (p_andF (x1 || (decide (x2.Next = 0))) rfl hc8 rfl) (by decide) (fun a hF => ?_)
          refine nilN ?_
          refine xn ?_
          exact ⟨hS, hF.cut ⟨rfl, rfl, rfl, trivial⟩⟩
      clear hS hF
      rintro a w ⟨hS, hF⟩
      refine stp hF (p_move rfl) (by decide) (fun a hF => ?_)
      refine cutj 8 (fun a w => St e s6 w [pt g2 38 ([(.bool false), (.int .i64 0), (.slice none 0 0), (.slice none 0 0)]), pt g1 41 ([(.int .i64 x2.Lsn), (.int .i64 x2.Tx), (.int .i64 x2.Prev), (.int .i64 x2.Kind), (.int .i64 x2.Oid), (.bool x2.Before.Has), (.int .i64 x2.Before.O.Kind), v1, v2, (.bool x2.After.Has), (.int .i64 x2.After.O.Kind), v3, v4, (.int .i64 x2.Next), v5])] ∧ Fr 66 a [(65, (.bool ((x4 && (x1 || (decide (x2.Next = 0)))) && (x3 || (decide ((x2.Txs.length : Int) = 0))))))]) rfl rfl ?_ ?_
      · rcases Bool.eq_false_or_eq_true ((x4 && (x1 || (decide (x2.Next = 0))))) with hc10 | hc10
        · skip
          refine gonE (j := 42) hF rfl rfl hc10 ?_
          refine stp hF (p_move rfl) (by decide) (fun a hF => ?_)
          refine gonE (j := 42) hF rfl rfl hc10 ?_
          refine stp hF (p_move rfl) (by decide) (fun a hF => ?_)
          refine cutj 5 (fun a w => St e s6 w [pt g2 38 ([(.bool false), (.int .i64 0), (.slice none 0 0), (.slice none 0 0)]), pt g1 41 ([(.int .i64 x2.Lsn), (.int .i64 x2.Tx), (.int .i64 x2.Prev), (.int .i64 x2.Kind), (.int .i64 x2.Oid), (.bool x2.Before.Has), (.int .i64 x2.Before.O.Kind), v1, v2, (.bool x2.After.Has), (.int .i64 x2.After.O.Kind), v3, v4, (.int .i64 x2.Next), v5])] ∧ Fr 66 a [(57, (.bool (x4 && (x1 || (decide (x2.Next = 0)))))), (64, (.bool (x3 || (decide ((x2.Txs.length : Int) = 0)))))]) rfl rfl ?_ ?_
          · rcases Bool.eq_false_or_eq_true (x3) with hc11 | hc11
            · skip
              refine gofD (j := 44) hF rfl rfl (by rw [hc11]; decide) (by decide) (fun a hF => ?_)
              refine gofD (j := 44) hF rfl rfl (by rw [hc11]; decide) (by decide) (fun a hF => ?_)
              refine gofD (j := 44) hF rfl rfl (by rw [hc11]; decide) (by decide) (fun a hF => ?_)
              refine gofD (j := 44) hF rfl rfl (by rw [hc11]; decide) (by decide) (fun a hF => ?_)
              refine gonE (j := 42) hF rfl rfl hc10 ?_
              refine stp hF (p_orT (decide ((x2.Txs.length : Int) = 0)) rfl hc11 rfl) (by decide) (fun a hF => ?_)
              refine nilN ?_
              refine xn ?_
              exact ⟨hS, hF.cut ⟨rfl, rfl, trivial⟩⟩
            · skip
              refine gonE (j := 44) hF rfl rfl hc11 ?_
              refine stp hF (p_fldb (o' := 14) rfl fi_41_8 rfl) (by decide) (fun a hF => ?_)
              refine gonE (j := 44) hF rfl rfl hc11 ?_
              refine stp hF (p_ldb_one (i := 1) hS rfl rfl ia_39 rfl) (by decide) (fun a hF => ?_)
              refine gonE (j := 44) hF rfl rfl hc11 ?_
              refine stp hF (p_lenr un_39 rfl ((h5.mono hg4).mono hg7)) (by decide) (fun a hF => ?_)
              refine gonE (j := 44) hF rfl rfl hc11 ?_
              refine stp hF (p_eql rfl rfl) (by decide) (fun a hF => ?_)
              refine gonE (j := 42) hF rfl rfl hc10 ?_
              refine stp hF (p_orF rfl hc11 rfl) (by decide) (fun a hF => ?_)
              refine nilN ?_
              refine xn ?_
              exact ⟨hS, hF.cut ⟨rfl, rfl, trivial⟩⟩
          clear hS hF
          rintro a w ⟨hS, hF⟩
          refine stp hF (p_andT rfl hc10 rfl) (by decide) (fun a hF => ?_)
          refine nilN ?_
          refine xn ?_
          exact ⟨hS, hF.cut ⟨rfl, trivial⟩⟩
        · skip
          refine gofD (j := 42) hF rfl rfl (by rw [hc10]; decide) (by decide) (fun a hF => ?_)
          refine gofD (j := 42) hF rfl rfl (by rw [hc10]; decide) (by decide) (fun a hF => ?_)
          refine gofU (j := 44) hF rfl rfl (by decide) (fun a hF => ?_)
          refine gofU (j := 44) hF rfl rfl (by decide) (fun a hF => ?_)
          refine gofU (j := 44) hF rfl rfl (by decide) (fun a hF => ?_)
          refine gofU (j := 44) hF rfl rfl (by decide) (fun a hF => ?_)
          refine gofD (j := 42) hF rfl rfl (by rw [hc10]; decide) (by decide) (fun a hF => ?_)
          refine stp hF (p_andF (x3 || (decide ((x2.Txs.length : Int) = 0))) rfl hc10 rfl) (by decide) (fun a hF => ?_)
          refine nilN ?_
          refine xn ?_
          exact ⟨hS, hF.cut ⟨rfl, trivial⟩⟩
      clear hS hF
      rintro a w ⟨hS, hF⟩
      refine stp hF (p_assign rfl) (by decide) (fun a hF => ?_)
      refine nilN ?_
      refine xn ?_
      refine rt ?_
      obtain rfl := hsm H
      replace hS := hS.sel (is := []) (A' := []) rfl
      exact ret1 hF rfl rfl hS ⟨rfl, rfl⟩

def spec_l4Lives.c1 (k : Nat) (x1 : TRec) : Option Bool :=
  (some (decide ((x1.Txs.length : Int) ≤ 20)))
def spec_l4Lives.c2 (k : Nat) (rec_l1 : Int → Option (Ex Bool Unit)) (x2 : Int) (x3 : Bool) : Option (Ex Bool Unit) :=
  (if x3 = true then (some (Ex.ret false)) else (rec_l1 (w64 (x2 + 1))))
def spec_l4Lives.l1 (x1 : TRec) : Nat → Int → Option (Ex Bool Unit)
  | 0, _ => none
  | k + 1, x2 => (if (decide (x2 < (x1.Txs.length : Int))) = true then (((if 0 ≤ x2 ∧ x2 < (x1.Txs.length : Int) then ((spec_l1In.f k ((rd x1.Txs x2).Tx) 1 1000).bind fun x4 => (if (!x4) = true then (some true) else (if 0 ≤ x2 ∧ x2 < (x1.Txs.length : Int) then ((spec_l1In.f k ((rd x1.Txs x2).Last) 1 (w64 (x1.Lsn - 1))).bind fun x5 => (if (!x5) = true then (some true) else (if (decide (0 < x2)) = true then (if 0 ≤ (w64 (x2 - 1)) ∧ (w64 (x2 - 1)) < (x1.Txs.length : Int) then (if 0 ≤ x2 ∧ x2 < (x1.Txs.length : Int) then (some (decide (((rd x1.Txs x2).Tx) ≤ ((rd x1.Txs (w64 (x2 - 1))).Tx)))) else none) else none) else (some false)))) else none))) else none) : Option Bool).bind fun x6 => spec_l4Lives.c2 k (spec_l4Lives.l1 x1 k) x2 x6) else (some (Ex.go ())))
def spec_l4Lives.f (k : Nat) (x1 : TRec) : Option Bool :=
  (((spec_l4Lives.l1 x1 k 0) : Option (Ex Bool Unit)).bind fun x7 => Ex.on x7 (fun r => some r) (fun y => spec_l4Lives.c1 k x1))
set_option maxRecDepth 100000 in
set_option maxHeartbeats 4000000 in
theorem spec_l4Lives.spec (k : Nat) (s0 : HF) (w : World) (x1 : TRec) (v1 : Value) (v2 : Value) (v3 : Value) (v4 : Value) (v5 : Value) (h1 : Sl (Kd.int .i64) s0 v1 x1.Before.O.Ints) (h2 : Sl (Kd.int .i64) s0 v2 x1.Before.O.Refs) (h3 : Sl (Kd.int .i64) s0 v3 x1.After.O.Ints) (h4 : Sl (Kd.int .i64) s0 v4 x1.After.O.Refs) (h5 : Sl kTLive s0 v5 x1.Txs) (r : Bool) (H : spec_l4Lives.f k x1 = some r) :
    Law Try.prog 78 #[(.agg #[(.int .i64 x1.Lsn), (.int .i64 x1.Tx), (.int .i64 x1.Prev), (.int .i64 x1.Kind), (.int .i64 x1.Oid), (.bool x1.Before.Has), (.int .i64 x1.Before.O.Kind), v1, v2, (.bool x1.After.Has), (.int .i64 x1.After.O.Kind), v3, v4, (.int .i64 x1.Next), v5])] s0 w [] (fun v s1 A1 => v = (.bool r) ∧ A1 = []) := by
  unfold spec_l4Lives.f at H
  refine Law.intro Try.func78 rfl [(0, (.agg #[(.int .i64 x1.Lsn), (.int .i64 x1.Tx), (.int .i64 x1.Prev), (.int .i64 x1.Kind), (.int .i64 x1.Oid), (.bool x1.Before.Has), (.int .i64 x1.Before.O.Kind), v1, v2, (.bool x1.After.Has), (.int .i64 x1.After.O.Kind), v3, v4, (.int .i64 x1.Next), v5]))] (Nat.le_of_ble_eq_true rfl) (enter_lk ⟨rfl, trivial⟩) (fun e a hS hF => ?_)
  have hF : Fr 56 a [(0, (.agg #[(.int .i64 x1.Lsn), (.int .i64 x1.Tx), (.int .i64 x1.Prev), (.int .i64 x1.Kind), (.int .i64 x1.Oid), (.bool x1.Before.Has), (.int .i64 x1.Before.O.Kind), v1, v2, (.bool x1.After.Has), (.int .i64 x1.After.O.Kind), v3, v4, (.int .i64 x1.Next), v5]))] := hF
  refine sq ?_
  refine rg ?_
  refine ste hF (e_box (cs := [(.int .i64 x1.Lsn), (.int .i64 x1.Tx), (.int .i64 x1.Prev), (.int .i64 x1.Kind), (.int .i64 x1.Oid), (.bool x1.Before.Has), (.int .i64 x1.Before.O.Kind), v1, v2, (.bool x1.After.Has), (.int .i64 x1.After.O.Kind), v3, v4, (.int .i64 x1.Next), v5]) hS rfl rfl) (by decide) (fun v w a hR hF => ?_)
  obtain ⟨g1, rfl, hS⟩ := hR
  refine stp hF (p_assign rfl) (by decide) (fun a hF => ?_)
  refine nilN ?_
  refine xn ?_
  obtain ⟨x7, H, HK1⟩ := hb H
  refine sqj (fun a w => ∃ (s2 : HF) , St e s2 w [pt g1 41 ([(.int .i64 x1.Lsn), (.int .i64 x1.Tx), (.int .i64 x1.Prev), (.int .i64 x1.Kind), (.int .i64 x1.Oid), (.bool x1.Before.Has), (.int .i64 x1.Before.O.Kind), v1, v2, (.bool x1.After.Has), (.int .i64 x1.After.O.Kind), v3, v4, (.int .i64 x1.Next), v5])] ∧ Fr 56 a [(1, (.pointer (some ⟨g1, 0, none⟩)))] ∧ Sub s0 s2 ∧ spec_l4Lives.c1 k x1 = some r) ?_ ?_
  · skip
    refine sq ?_
    refine rg ?_
    refine stp hF (p_assign rfl) (by decide) (fun a hF => ?_)
    refine nilN ?_
    refine xn ?_
    refine blk ?_
    refine loop_ind (fun k1 a w => ∃ (x2 : Int) (s3 : HF) , St e s3 w [pt g1 41 ([(.int .i64 x1.Lsn), (.int .i64 x1.Tx), (.int .i64 x1.Prev), (.int .i64 x1.Kind), (.int .i64 x1.Oid), (.bool x1.Before.Has), (.int .i64 x1.Before.O.Kind), v1, v2, (.bool x1.After.Has), (.int .i64 x1.After.O.Kind), v3, v4, (.int .i64 x1.Next), v5])] ∧ Fr 56 a [(1, (.pointer (some ⟨g1, 0, none⟩))), (3, (.int .i64 x2))] ∧ Sub s0 s3 ∧ spec_l4Lives.l1 x1 k1 x2 = some x7) k ?_ ?_ ?_
    · skip
      exact ⟨0, s0, hS, hF.cut ⟨rfl, rfl, trivial⟩, (Sub.refl _), H⟩
    · clear H hS hF
      rintro a w ⟨x2, s3, hS, hF, hg1, H⟩
      exact absurd (show none = some _ from H) (by simp)
    · clear H hS hF
      rintro k1 a w ⟨x2, s3, hS, hF, hg1, H⟩
      rw [spec_l4Lives.l1.eq_2] at H
      refine sq ?_
      refine sq ?_
      refine rg ?_
      refine stp hF (p_move rfl) (by decide) (fun a hF => ?_)
      refine stp hF (p_fldb (o' := 14) rfl fi_41_8 rfl) (by decide) (fun a hF => ?_)
      refine stp hF (p_ldb_one (i := 0) hS rfl rfl ia_39 rfl) (by decide) (fun a hF => ?_)
      refine stp hF (p_lenr un_39 rfl (h5.mono hg1)) (by decide) (fun a hF => ?_)
      refine stp hF (p_lss rfl rfl) (by decide) (fun a hF => ?_)
      refine nilN ?_
      refine xn ?_
      refine cnd hF rfl (fun hc1 => ?_) (fun hc1 => ?_)
      · replace H := hbt hc1 H
        refine skN ?_
        refine xn ?_
        refine sq ?_
        refine blk ?_
        obtain ⟨x6, H, HK2⟩ := hb H
        refine sqj (fun a w => ∃ (x3 : Bool) (s4 : HF) , St e s4 w [pt g1 41 ([(.int .i64 x1.Lsn), (.int .i64 x1.Tx), (.int .i64 x1.Prev), (.int .i64 x1.Kind), (.int .i64 x1.Oid), (.bool x1.Before.Has), (.int .i64 x1.Before.O.Kind), v1, v2, (.bool x1.After.Has), (.int .i64 x1.After.O.Kind), v3, v4, (.int .i64 x1.Next), v5])] ∧ Fr 56 a [(1, (.pointer (some ⟨g1, 0, none⟩))), (3, (.int .i64 x2)), (51, (.bool x3))] ∧ Sub s3 s4 ∧ spec_l4Lives.c2 k1 (spec_l4Lives.l1 x1 k1) x2 x3 = some x7) ?_ ?_
        · skip
          replace hS : St e s3 w.drew [pt g1 41 ([(.int .i64 x1.Lsn), (.int .i64 x1.Tx), (.int .i64 x1.Prev), (.int .i64 x1.Kind), (.int .i64 x1.Oid), (.bool x1.Before.Has), (.int .i64 x1.Before.O.Kind), v1, v2, (.bool x1.After.Has), (.int .i64 x1.After.O.Kind), v3, v4, (.int .i64 x1.Next), v5])] := hS.drewN 1
          refine drw [0, 1, 2, 3, 4, 5, 6, 7, 8, 9, 10, 11, 12, 13, 14, 15, 16, 17, 18, 19, 20, 21, 22, 23, 24, 25, 26, 27, 28, 29, 30, 31, 32, 33, 34, 35, 36, 37, 38, 39, 40] mixed (by kernel_rfl) (by decide) (hF.cut (L' := [(1, (.pointer (some ⟨g1, 0, none⟩))), (3, (.int .i64 x2)), (4, (.int .i64 x2)), (5, (.pointer (some ⟨g1, 14, none⟩))), (6, v5), (7, (.int .i64 (x1.Txs.length : Int))), (8, (.bool (decide (x2 < (x1.Txs.length : Int)))))]) ⟨rfl, rfl, rfl, rfl, rfl, rfl, rfl, trivial⟩) ?_
          clear hF
          generalize w.drew = w at hS ⊢
          refine pk1 rfl (by decide) rfl (by kernel_rfl) rfl (p_fldb (o' := 14) rfl fi_41_8 rfl) ?_
          refine pk1 rfl (by decide) rfl (by kernel_rfl) rfl (p_ldb_one (i := 0) hS rfl rfl ia_39 rfl) ?_
          refine pk1 rfl (by decide) rfl (by kernel_rfl) rfl (p_move rfl) ?_
          obtain ⟨hq1, H⟩ := hck H
          obtain ⟨ad1, h6, p1⟩ := p_idxr (P := Try.prog) (i := x2) (h5.mono hg1) un_39 ti_91 hq1.1 hq1.2
          refine pk1 rfl (by decide) rfl (by kernel_rfl) rfl (p1 rfl rfl) ?_
          have h7 : Pr (Kd.int .i64) s3 (ad1.add 0) ((rd x1.Txs x2).Tx) := h6.lens kTLive_Tx
          refine pk1 rfl (by decide) rfl (by kernel_rfl) rfl (p_fld rfl fi_91_0) ?_
          refine pk1 rfl (by decide) rfl (by kernel_rfl) rfl (p_ldr_int rfl hS h7 ia_3) ?_
          obtain ⟨x4, hx1, H⟩ := hb H
          refine pkE [4, 3, 2, 1, 0] rfl (by decide) (by kernel_rfl) (by kernel_rfl) (e_callA (fst := []) (vs := [(.int .i64 ((rd x1.Txs x2).Tx)), (.int .i64 1), (.int .i64 1000)]) (cap := []) rfl rfl go_75 (St.call (A := []) (B := [pt g1 41 ([(.int .i64 x1.Lsn), (.int .i64 x1.Tx), (.int .i64 x1.Prev), (.int .i64 x1.Kind), (.int .i64 x1.Oid), (.bool x1.Before.Has), (.int .i64 x1.Before.O.Kind), v1, v2, (.bool x1.After.Has), (.int .i64 x1.After.O.Kind), v3, v4, (.int .i64 x1.Next), v5])]) hS (spec_l1In.spec k1 _ _ ((rd x1.Txs x2).Tx) 1 1000 _ hx1)) rfl) ?_
          intro v w hR
          obtain ⟨s5, A2, hg2, hS, hR⟩ := hR
          obtain ⟨hv1, rfl⟩ := hR; obtain rfl := hv1.symm
          have hS : St e s5 w [pt g1 41 ([(.int .i64 x1.Lsn), (.int .i64 x1.Tx), (.int .i64 x1.Prev), (.int .i64 x1.Kind), (.int .i64 x1.Oid), (.bool x1.Before.Has), (.int .i64 x1.Before.O.Kind), v1, v2, (.bool x1.After.Has), (.int .i64 x1.After.O.Kind), v3, v4, (.int .i64 x1.Next), v5])] := hS
          refine ⟨⟨knw rfl rfl rfl (p_fld rfl fi_91_0), ⟨knw rfl rfl rfl (p1 rfl rfl), ⟨knw rfl rfl rfl (p_move rfl), ⟨knw rfl rfl rfl (p_ldb_one (i := 0) hS rfl rfl ia_39 rfl), ⟨knw rfl rfl rfl (p_fldb (o' := 14) rfl fi_41_8 rfl), trivial⟩⟩⟩⟩⟩, ?_⟩
          refine pk1 rfl (by decide) rfl (by kernel_rfl) rfl (p_not rfl) ?_
          refine pk1 rfl (by decide) rfl (by kernel_rfl) rfl (p_move rfl) ?_
          rcases Bool.eq_false_or_eq_true ((!x4)) with hc2 | hc2
          · replace H := hbt hc2 H
            refine pkOff (j := 8) rfl (by decide) rfl (by kernel_rfl) rfl rfl rfl (by rw [hc2]; decide) ?_
            refine pkOff (j := 8) rfl (by decide) rfl (by kernel_rfl) rfl rfl rfl (by rw [hc2]; decide) ?_
            refine pkOff (j := 8) rfl (by decide) rfl (by kernel_rfl) rfl rfl rfl (by rw [hc2]; decide) ?_
            refine pkOff (j := 8) rfl (by decide) rfl (by kernel_rfl) rfl rfl rfl (by rw [hc2]; decide) ?_
            refine pkOff (j := 8) rfl (by decide) rfl (by kernel_rfl) rfl rfl rfl (by rw [hc2]; decide) ?_
            refine pkOff (j := 8) rfl (by decide) rfl (by kernel_rfl) rfl rfl rfl (by rw [hc2]; decide) ?_
            refine pkOff (j := 8) rfl (by decide) rfl (by kernel_rfl) rfl rfl rfl (by rw [hc2]; decide) ?_
            refine pkOff (j := 8) rfl (by decide) rfl (by kernel_rfl) rfl rfl rfl (by rw [hc2]; decide) ?_
            refine pkOff (j := 8) rfl (by decide) rfl (by kernel_rfl) rfl rfl rfl (by rw [hc2]; decide) ?_
            refine pkOff (j := 8) rfl (by decide) rfl (by kernel_rfl) rfl rfl rfl (by rw [hc2]; decide) ?_
            refine pkOff (j := 8) rfl (by decide) rfl (by kernel_rfl) rfl rfl rfl (by rw [hc2]; decide) ?_
            refine pk1 rfl (by decide) rfl (by kernel_rfl) rfl (p_pickT rfl hc2 rfl) ?_
            refine pk1 rfl (by decide) rfl (by kernel_rfl) rfl (p_move rfl) ?_
            have hc3 : true = true := rfl
            refine pkOff (j := 21) rfl (by decide) rfl (by kernel_rfl) rfl rfl rfl (by rw [hc3]; decide) ?_
            refine pkOff (j := 21) rfl (by decide) rfl (by kernel_rfl) rfl rfl rfl (by rw [hc3]; decide) ?_
            refine pkOff (j := 21) rfl (by decide) rfl (by kernel_rfl) rfl rfl rfl (by rw [hc3]; decide) ?_
            refine pkOffU (j := 24) rfl (by decide) rfl (by kernel_rfl) rfl rfl rfl ?_
            refine pkOffU (j := 24) rfl (by decide) rfl (by kernel_rfl) rfl rfl rfl ?_
            refine pkOffU (j := 24) rfl (by decide) rfl (by kernel_rfl) rfl rfl rfl ?_
            refine pkOffU (j := 24) rfl (by decide) rfl (by kernel_rfl) rfl rfl rfl ?_
            refine pkOffU (j := 24) rfl (by decide) rfl (by kernel_rfl) rfl rfl rfl ?_
            refine pkOffU (j := 24) rfl (by decide) rfl (by kernel_rfl) rfl rfl rfl ?_
            refine pkOffU (j := 24) rfl (by decide) rfl (by kernel_rfl) rfl rfl rfl ?_
            refine pkOffU (j := 24) rfl (by decide) rfl (by kernel_rfl) rfl rfl rfl ?_
            refine pkOffU (j := 24) rfl (by decide) rfl (by kernel_rfl) rfl rfl rfl ?_
            refine pkOffU (j := 24) rfl (by decide) rfl (by kernel_rfl) rfl rfl rfl ?_
            refine pkOffU (j := 24) rfl (by decide) rfl (by kernel_rfl) rfl rfl rfl ?_
            refine pkOffU (j := 24) rfl (by decide) rfl (by kernel_rfl) rfl rfl rfl ?_
            refine pkOffU (j := 24) rfl (by decide) rfl (by kernel_rfl) rfl rfl rfl ?_
            refine pkOffU (j := 24) rfl (by decide) rfl (by kernel_rfl) rfl rfl rfl ?_
            refine pkOff (j := 21) rfl (by decide) rfl (by kernel_rfl) rfl rfl rfl (by rw [hc3]; decide) ?_
            refine pk1 rfl (by decide) rfl (by kernel_rfl) rfl (p_pickT rfl hc3 rfl) ?_
            refine pkF (fun a hF => ?_)
            refine xn ?_
            obtain rfl := hsm H
            exact ⟨true, s5, hS, hF.cut ⟨rfl, rfl, rfl, trivial⟩, hg2, HK2⟩
          · replace H := hbf hc2 H
            refine pkOn (j := 8) rfl (by decide) rfl (by kernel_rfl) rfl rfl rfl hc2 (p_fldb (o' := 14) rfl fi_41_8 rfl) ?_
            refine pkOn (j := 8) rfl (by decide) rfl (by kernel_rfl) rfl rfl rfl hc2 (p_ldb_one (i := 0) hS rfl rfl ia_39 rfl) ?_
            refine pkOn (j := 8) rfl (by decide) rfl (by kernel_rfl) rfl rfl rfl hc2 (p_move rfl) ?_
            obtain ⟨hq2, H⟩ := hck H
            obtain ⟨ad2, h8, p2⟩ := p_idxr (P := Try.prog) (i := x2) ((h5.mono hg1).mono hg2) un_39 ti_91 hq2.1 hq2.2
            refine pkOn (j := 8) rfl (by decide) rfl (by kernel_rfl) rfl rfl rfl hc2 (p2 rfl rfl) ?_
            have h9 : Pr (Kd.int .i64) s5 (ad2.add 1) ((rd x1.Txs x2).Last) := h8.lens kTLive_Last
            refine pkOn (j := 8) rfl (by decide) rfl (by kernel_rfl) rfl rfl rfl hc2 (p_fld rfl fi_91_1) ?_
            refine pkOn (j := 8) rfl (by decide) rfl (by kernel_rfl) rfl rfl rfl hc2 (p_ldr_int rfl hS h9 ia_3) ?_
            refine pkOn (j := 8) rfl (by decide) rfl (by kernel_rfl) rfl rfl rfl hc2 (p_fldb (o' := 0) rfl fi_41_0 rfl) ?_
            refine pkOn (j := 8) rfl (by decide) rfl (by kernel_rfl) rfl rfl rfl hc2 (p_ldb_one (i := 0) hS rfl rfl ia_3 rfl) ?_
            refine pkOn (j := 8) rfl (by decide) rfl (by kernel_rfl) rfl rfl rfl hc2 (p_sub (c := w64 (x1.Lsn - 1)) rfl rfl rfl) ?_
            obtain ⟨x5, hx2, H⟩ := hb H
            refine pkEOn (j := 8) [16, 15, 13, 12, 11, 10, 9, 7, 4, 3, 2, 1, 0] rfl rfl rfl hc2 (by decide) (by kernel_rfl) (by kernel_rfl) (e_callA (fst := []) (vs := [(.int .i64 ((rd x1.Txs x2).Last)), (.int .i64 1), (.int .i64 (w64 (x1.Lsn - 1)))]) (cap := []) rfl rfl go_75 (St.call (A := []) (B := [pt g1 41 ([(.int .i64 x1.Lsn), (.int .i64 x1.Tx), (.int .i64 x1.Prev), (.int .i64 x1.Kind), (.int .i64 x1.Oid), (.bool x1.Before.Has), (.int .i64 x1.Before.O.Kind), v1, v2, (.bool x1.After.Has), (.int .i64 x1.After.O.Kind), v3, v4, (.int .i64 x1.Next), v5])]) hS (spec_l1In.spec k1 _ _ ((rd x1.Txs x2).Last) 1 (w64 (x1.Lsn - 1)) _ hx2)) rfl) ?_
            intro v w hR
            obtain ⟨s6, A3, hg3, hS, hR⟩ := hR
            obtain ⟨hv2, rfl⟩ := hR; obtain rfl := hv2.symm
            have hS : St e s6 w [pt g1 41 ([(.int .i64 x1.Lsn), (.int .i64 x1.Tx), (.int .i64 x1.Prev), (.int .i64 x1.Kind), (.int .i64 x1.Oid), (.bool x1.Before.Has), (.int .i64 x1.Before.O.Kind), v1, v2, (.bool x1.After.Has), (.int .i64 x1.After.O.Kind), v3, v4, (.int .i64 x1.Next), v5])] := hS
            refine ⟨⟨knwOn (j := 8) rfl rfl rfl rfl rfl hc2 (p_ldb_one (i := 0) hS rfl rfl ia_3 rfl), ⟨knwOn (j := 8) rfl rfl rfl rfl rfl hc2 (p_fldb (o' := 0) rfl fi_41_0 rfl), ⟨knwOn (j := 8) rfl rfl rfl rfl rfl hc2 (p_fld rfl fi_91_1), ⟨knwOn (j := 8) rfl rfl rfl rfl rfl hc2 (p2 rfl rfl), ⟨knwOn (j := 8) rfl rfl rfl rfl rfl hc2 (p_move rfl), ⟨knwOn (j := 8) rfl rfl rfl rfl rfl hc2 (p_ldb_one (i := 0) hS rfl rfl ia_39 rfl), ⟨knwOn (j := 8) rfl rfl rfl rfl rfl hc2 (p_fldb (o' := 14) rfl fi_41_8 rfl), ⟨knw rfl rfl rfl (p_not rfl), ⟨knw rfl rfl rfl (p_fld rfl fi_91_0), ⟨knw rfl rfl rfl (p1 rfl rfl), ⟨knw rfl rfl rfl (p_move rfl), ⟨knw rfl rfl rfl (p_ldb_one (i := 0) hS rfl rfl ia_39 rfl), ⟨knw rfl rfl rfl (p_fldb (o' := 14) rfl fi_41_8 rfl), trivial⟩⟩⟩⟩⟩⟩⟩⟩⟩⟩⟩⟩⟩, ?_⟩
            refine pkOn (j := 8) rfl (by decide) rfl (by kernel_rfl) rfl rfl rfl hc2 (p_not rfl) ?_
            refine pk1 rfl (by decide) rfl (by kernel_rfl) rfl (p_pickF rfl hc2 rfl) ?_
            refine pk1 rfl (by decide) rfl (by kernel_rfl) rfl (p_move rfl) ?_
            rcases Bool.eq_false_or_eq_true ((!x5)) with hc4 | hc4
            · replace H := hbt hc4 H
              refine pkOff (j := 21) rfl (by decide) rfl (by kernel_rfl) rfl rfl rfl (by rw [hc4]; decide) ?_
              refine pkOff (j := 21) rfl (by decide) rfl (by kernel_rfl) rfl rfl rfl (by rw [hc4]; decide) ?_
              refine pkOff (j := 21) rfl (by decide) rfl (by kernel_rfl) rfl rfl rfl (by rw [hc4]; decide) ?_
              refine pkOffU (j := 24) rfl (by decide) rfl (by kernel_rfl) rfl rfl rfl ?_
              refine pkOffU (j := 24) rfl (by decide) rfl (by kernel_rfl) rfl rfl rfl ?_
              refine pkOffU (j := 24) rfl (by decide) rfl (by kernel_rfl) rfl rfl rfl ?_
              refine pkOffU (j := 24) rfl (by decide) rfl (by kernel_rfl) rfl rfl rfl ?_
              refine pkOffU (j := 24) rfl (by decide) rfl (by kernel_rfl) rfl rfl rfl ?_
              refine pkOffU (j := 24) rfl (by decide) rfl (by kernel_rfl) rfl rfl rfl ?_
              refine pkOffU (j := 24) rfl (by decide) rfl (by kernel_rfl) rfl rfl rfl ?_
              refine pkOffU (j := 24) rfl (by decide) rfl (by kernel_rfl) rfl rfl rfl ?_
              refine pkOffU (j := 24) rfl (by decide) rfl (by kernel_rfl) rfl rfl rfl ?_
              refine pkOffU (j := 24) rfl (by decide) rfl (by kernel_rfl) rfl rfl rfl ?_
              refine pkOffU (j := 24) rfl (by decide) rfl (by kernel_rfl) rfl rfl rfl ?_
              refine pkOffU (j := 24) rfl (by decide) rfl (by kernel_rfl) rfl rfl rfl ?_
              refine pkOffU (j := 24) rfl (by decide) rfl (by kernel_rfl) rfl rfl rfl ?_
              refine pkOffU (j := 24) rfl (by decide) rfl (by kernel_rfl) rfl rfl rfl ?_
              refine pkOff (j := 21) rfl (by decide) rfl (by kernel_rfl) rfl rfl rfl (by rw [hc4]; decide) ?_
              refine pk1 rfl (by decide) rfl (by kernel_rfl) rfl (p_pickT rfl hc4 rfl) ?_
              refine pkF (fun a hF => ?_)
              refine xn ?_
              obtain rfl := hsm H
              exact ⟨true, s6, hS, hF.cut ⟨rfl, rfl, rfl, trivial⟩, (hg2.trans hg3), HK2⟩
            · replace H := hbf hc4 H
              refine pkOn (j := 21) rfl (by decide) rfl (by kernel_rfl) rfl rfl rfl hc4 (p_move rfl) ?_
              refine pkOn (j := 21) rfl (by decide) rfl (by kernel_rfl) rfl rfl rfl hc4 (p_gtr rfl rfl) ?_
              refine pkOn (j := 21) rfl (by decide) rfl (by kernel_rfl) rfl rfl rfl hc4 (p_move rfl) ?_
              rcases Bool.eq_false_or_eq_true (decide (0 < x2)) with hc5 | hc5
              · replace H := hbt hc5 H
                refine pkOn (j := 24) rfl (by decide) rfl (by kernel_rfl) rfl rfl rfl hc5 (p_fldb (o' := 14) rfl fi_41_8 rfl) ?_
                refine pkOn (j := 24) rfl (by decide) rfl (by kernel_rfl) rfl rfl rfl hc5 (p_ldb_one (i := 0) hS rfl rfl ia_39 rfl) ?_
                refine pkOn (j := 24) rfl (by decide) rfl (by kernel_rfl) rfl rfl rfl hc5 (p_move rfl) ?_
                refine pkOn (j := 24) rfl (by decide) rfl (by kernel_rfl) rfl rfl rfl hc5 (p_sub (c := w64 (x2 - 1)) rfl rfl rfl) ?_
                obtain ⟨hq3, H⟩ := hck H
                obtain ⟨ad3, h10, p3⟩ := p_idxr (P := Try.prog) (i := (w64 (x2 - 1))) (((h5.mono hg1).mono hg2).mono hg3) un_39 ti_91 hq3.1 hq3.2
                refine pkOn (j := 24) rfl (by decide) rfl (by kernel_rfl) rfl rfl rfl hc5 (p3 rfl rfl) ?_
                have h11 : Pr (Kd.int .i64) s6 (ad3.add 0) ((rd x1.Txs (w64 (x2 - 1))).Tx) := h10.lens kTLive_Tx
                refine pkOn (j := 24) rfl (by decide) rfl (by kernel_rfl) rfl rfl rfl hc5 (p_fld rfl fi_91_0) ?_
                refine pkOn (j := 24) rfl (by decide) rfl (by kernel_rfl) rfl rfl rfl hc5 (p_ldr_int rfl hS h11 ia_3) ?_
                refine pkOn (j := 24) rfl (by decide) rfl (by kernel_rfl) rfl rfl rfl hc5 (p_fldb (o' := 14) rfl fi_41_8 rfl) ?_
                refine pkOn (j := 24) rfl (by decide) rfl (by kernel_rfl) rfl rfl rfl hc5 (p_ldb_one (i := 0) hS rfl rfl ia_39 rfl) ?_
                refine pkOn (j := 24) rfl (by decide) rfl (by kernel_rfl) rfl rfl rfl hc5 (p_move rfl) ?_
                obtain ⟨hq4, H⟩ := hck H
                obtain ⟨ad4, h12, p4⟩ := p_idxr (P := Try.prog) (i := x2) (((h5.mono hg1).mono hg2).mono hg3) un_39 ti_91 hq4.1 hq4.2
                refine pkOn (j := 24) rfl (by decide) rfl (by kernel_rfl) rfl rfl rfl hc5 (p4 rfl rfl) ?_
                have h13 : Pr (Kd.int .i64) s6 (ad4.add 0) ((rd x1.Txs x2).Tx) := h12.lens kTLive_Tx
                refine pkOn (j := 24) rfl (by decide) rfl (by kernel_rfl) rfl rfl rfl hc5 (p_fld rfl fi_91_0) ?_
                refine pkOn (j := 24) rfl (by decide) rfl (by kernel_rfl) rfl rfl rfl hc5 (p_ldr_int rfl hS h13 ia_3) ?_
                refine pkOn (j := 24) rfl (by decide) rfl (by kernel_rfl) rfl rfl rfl hc5 (p_geq rfl rfl) ?_
                refine pkOn (j := 21) rfl (by decide) rfl (by kernel_rfl) rfl rfl rfl hc4 (p_pickT rfl hc5 rfl) ?_
                refine pk1 rfl (by decide) rfl (by kernel_rfl) rfl (p_pickF rfl hc4 rfl) ?_
                refine pkF (fun a hF => ?_)
                refine xn ?_
                obtain rfl := hsm H
                exact ⟨(decide (((rd x1.Txs x2).Tx) ≤ ((rd x1.Txs (w64 (x2 - 1))).Tx))), s6, hS, hF.cut ⟨rfl, rfl, rfl, trivial⟩, (hg2.trans hg3), HK2⟩
              · replace H := hbf hc5 H
                refine pkOff (j := 24) rfl (by decide) rfl (by kernel_rfl) rfl rfl rfl (by rw [hc5]; decide) ?_
                refine pkOff (j := 24) rfl (by decide) rfl (by kernel_rfl) rfl rfl rfl (by rw [hc5]; decide) ?_
                refine pkOff (j := 24) rfl (by decide) rfl (by kernel_rfl) rfl rfl rfl (by rw [hc5]; decide) ?_
                refine pkOff (j := 24) rfl (by decide) rfl (by kernel_rfl) rfl rfl rfl (by rw [hc5]; decide) ?_
                refine pkOff (j := 24) rfl (by decide) rfl (by kernel_rfl) rfl rfl rfl (by rw [hc5]; decide) ?_
                refine pkOff (j := 24) rfl (by decide) rfl (by kernel_rfl) rfl rfl rfl (by rw [hc5]; decide) ?_
                refine pkOff (j := 24) rfl (by decide) rfl (by kernel_rfl) rfl rfl rfl (by rw [hc5]; decide) ?_
                refine pkOff (j := 24) rfl (by decide) rfl (by kernel_rfl) rfl rfl rfl (by rw [hc5]; decide) ?_
                refine pkOff (j := 24) rfl (by decide) rfl (by kernel_rfl) rfl rfl rfl (by rw [hc5]; decide) ?_
                refine pkOff (j := 24) rfl (by decide) rfl (by kernel_rfl) rfl rfl rfl (by rw [hc5]; decide) ?_
                refine pkOff (j := 24) rfl (by decide) rfl (by kernel_rfl) rfl rfl rfl (by rw [hc5]; decide) ?_
                refine pkOff (j := 24) rfl (by decide) rfl (by kernel_rfl) rfl rfl rfl (by rw [hc5]; decide) ?_
                refine pkOff (j := 24) rfl (by decide) rfl (by kernel_rfl) rfl rfl rfl (by rw [hc5]; decide) ?_
                refine pkOff (j := 24) rfl (by decide) rfl (by kernel_rfl) rfl rfl rfl (by rw [hc5]; decide) ?_
                refine pkOn (j := 21) rfl (by decide) rfl (by kernel_rfl) rfl rfl rfl hc4 (p_pickF rfl hc5 rfl) ?_
                refine pk1 rfl (by decide) rfl (by kernel_rfl) rfl (p_pickF rfl hc4 rfl) ?_
                refine pkF (fun a hF => ?_)
                refine xn ?_
                obtain rfl := hsm H
                exact ⟨false, s6, hS, hF.cut ⟨rfl, rfl, rfl, trivial⟩, (hg2.trans hg3), HK2⟩
        · clear H HK2 hS hF
          rintro a w ⟨x3, s4, hS, hF, hg4, H⟩
          unfold spec_l4Lives.c2 at H
          refine cnd hF rfl (fun hc6 => ?_) (fun hc6 => ?_)
          · replace H := hbt hc6 H
            refine sq ?_
            refine rg ?_
            refine stp hF (p_assign rfl) (by decide) (fun a hF => ?_)
            refine nilN ?_
            refine xn ?_
            refine rt ?_
            refine br (xr (xr (br (xr ?_))))
            obtain rfl := hsm H
            have H := hon1 HK1
            obtain rfl := hsm H
            replace hS := hS.sel (is := []) (A' := []) rfl
            exact ret1 hF rfl rfl hS ⟨rfl, rfl⟩
          · replace H := hbf hc6 H
            refine skN ?_
            refine bn (xn ?_)
            refine rg ?_
            refine stp hF (p_move rfl) (by decide) (fun a hF => ?_)
            refine stp hF (p_add (c := w64 (x2 + 1)) rfl rfl rfl) (by decide) (fun a hF => ?_)
            refine stp hF (p_assign rfl) (by decide) (fun a hF => ?_)
            refine nilN ?_
            refine xn ?_
            exact ⟨(w64 (x2 + 1)), s4, hS, hF.cut ⟨rfl, rfl, trivial⟩, (hg1.trans hg4), H⟩
      · replace H := hbf hc1 H
        refine exi ?_
        refine xe (xe (hit (xn ?_)))
        obtain rfl := hsm H
        exact ⟨s3, hS, hF.cut ⟨rfl, trivial⟩, hg1, HK1⟩
  · clear H HK1 hS hF
    rintro a w ⟨s2, hS, hF, hg5, H⟩
    unfold spec_l4Lives.c1 at H
    refine sq ?_
    refine rg ?_
    refine stp hF (p_fldb (o' := 14) rfl fi_41_8 rfl) (by decide) (fun a hF => ?_)
    refine stp hF (p_ldb_one (i := 0) hS rfl rfl ia_39 rfl) (by decide) (fun a hF => ?_)
    refine stp hF (p_lenr un_39 rfl (h5.mono hg5)) (by decide) (fun a hF => ?_)
    refine stp hF (p_leq rfl rfl) (by decide) (fun a hF => ?_)
    refine stp hF (p_assign rfl) (by decide) (fun a hF => ?_)
    refine nilN ?_
    refine xn ?_
    refine rt ?_
    obtain rfl := hsm H
    replace hS := hS.sel (is := []) (A' := []) rfl
    exact ret1 hF rfl rfl hS ⟨rfl, rfl⟩

def spec_RecOk.c1 (k : Nat) (x1 : Bool) : Option Bool :=
  (some x1)
def spec_RecOk.c2 (k : Nat) (x2 : Bool) : Option Bool :=
  (some x2)
def spec_RecOk.c3 (k : Nat) (x3 : Bool) : Option Bool :=
  (some x3)
def spec_RecOk.c4 (k : Nat) (x4 : TRec) (x5 : Bool) : Option Bool :=
  ((if x5 = true then ((spec_l1In.f k x4.Next 0 (w64 (x4.Lsn - 1))).bind fun x6 => (some x6)) else (some false) : Option Bool).bind fun x7 => spec_RecOk.c3 k x7)
def spec_RecOk.c5 (k : Nat) (x4 : TRec) (x8 : Bool) : Option Bool :=
  (if x8 = true then ((spec_l4Zero.f k x4 true false false false false).bind fun x9 => (some x9)) else (some false))
def spec_RecOk.c6 (k : Nat) (x4 : TRec) (x10 : Bool) : Option Bool :=
  (if x10 = true then (some false) else (if (decide (x4.Kind = 1)) = true then ((spec_l4Zero.f k x4 true true true false false).bind fun x11 => ((if x11 = true then ((spec_l1In.f k x4.Oid 1 31).bind fun x12 => (some x12)) else (some false) : Option Bool).bind fun x13 => spec_RecOk.c2 k x13)) else (if (decide (x4.Kind = 4)) = true then ((spec_l4Zero.f k x4 true true false true false).bind fun x14 => ((if x14 = true then ((spec_l1In.f k x4.Oid 1 31).bind fun x15 => (some x15)) else (some false) : Option Bool).bind fun x16 => spec_RecOk.c4 k x4 x16)) else (((if (decide (x4.Kind = 2)) = true then (some (decide (x4.Kind = 2))) else (if (decide (x4.Kind = 3)) = true then (some (decide (x4.Kind = 3))) else (some (decide (x4.Kind = 5))))) : Option Bool).bind fun x17 => spec_RecOk.c5 k x4 x17))))
def spec_RecOk.c7 (k : Nat) (x4 : TRec) (x18 : Bool) : Option Bool :=
  (if x18 = true then (some false) else (if (decide (x4.Kind = 6)) = true then ((spec_l4Zero.f k x4 false false false false true).bind fun x19 => ((if x19 = true then ((spec_l4Lives.f k x4).bind fun x20 => (some x20)) else (some false) : Option Bool).bind fun x21 => spec_RecOk.c1 k x21)) else ((spec_l1In.f k x4.Tx 1 1000).bind fun x22 => ((if (!x22) = true then (some true) else ((spec_l1In.f k x4.Prev 0 (w64 (x4.Lsn - 1))).bind fun x23 => (some (!x23))) : Option Bool).bind fun x24 => spec_RecOk.c6 k x4 x24))))
def spec_RecOk.c8 (k : Nat) (x4 : TRec) (x25 : Bool) : Option Bool :=
  ((if x25 = true then (some true) else ((spec_l3Slot.f k x4.After).bind fun x26 => (some (!x26))) : Option Bool).bind fun x27 => spec_RecOk.c7 k x4 x27)
def spec_RecOk.f (k : Nat) (x4 : TRec) : Option Bool :=
  ((spec_l1In.f k x4.Lsn 1 1000000).bind fun x28 => ((if (!x28) = true then (some true) else ((spec_l3Slot.f k x4.Before).bind fun x29 => (some (!x29))) : Option Bool).bind fun x30 => spec_RecOk.c8 k x4 x30))
set_option maxRecDepth 100000 in
set_option maxHeartbeats 4000000 in
theorem spec_RecOk.spec (k : Nat) (s0 : HF) (w : World) (x4 : TRec) (v1 : Value) (v2 : Value) (v3 : Value) (v4 : Value) (v5 : Value) (h1 : Sl (Kd.int .i64) s0 v1 x4.Before.O.Ints) (h2 : Sl (Kd.int .i64) s0 v2 x4.Before.O.Refs) (h3 : Sl (Kd.int .i64) s0 v3 x4.After.O.Ints) (h4 : Sl (Kd.int .i64) s0 v4 x4.After.O.Refs) (h5 : Sl kTLive s0 v5 x4.Txs) (r : Bool) (H : spec_RecOk.f k x4 = some r) :
    Law Try.prog 23 #[(.agg #[(.int .i64 x4.Lsn), (.int .i64 x4.Tx), (.int .i64 x4.Prev), (.int .i64 x4.Kind), (.int .i64 x4.Oid), (.bool x4.Before.Has), (.int .i64 x4.Before.O.Kind), v1, v2, (.bool x4.After.Has), (.int .i64 x4.After.O.Kind), v3, v4, (.int .i64 x4.Next), v5])] s0 w [] (fun v s1 A1 => v = (.bool r) ∧ A1 = []) := by
  unfold spec_RecOk.f at H
  refine Law.intro Try.func23 rfl [(0, (.agg #[(.int .i64 x4.Lsn), (.int .i64 x4.Tx), (.int .i64 x4.Prev), (.int .i64 x4.Kind), (.int .i64 x4.Oid), (.bool x4.Before.Has), (.int .i64 x4.Before.O.Kind), v1, v2, (.bool x4.After.Has), (.int .i64 x4.After.O.Kind), v3, v4, (.int .i64 x4.Next), v5]))] (Nat.le_of_ble_eq_true rfl) (enter_lk ⟨rfl, trivial⟩) (fun e a hS hF => ?_)
  have hF : Fr 75 a [(0, (.agg #[(.int .i64 x4.Lsn), (.int .i64 x4.Tx), (.int .i64 x4.Prev), (.int .i64 x4.Kind), (.int .i64 x4.Oid), (.bool x4.Before.Has), (.int .i64 x4.Before.O.Kind), v1, v2, (.bool x4.After.Has), (.int .i64 x4.After.O.Kind), v3, v4, (.int .i64 x4.Next), v5]))] := hF
  refine sq ?_
  refine rg ?_
  refine ste hF (e_box (cs := [(.int .i64 x4.Lsn), (.int .i64 x4.Tx), (.int .i64 x4.Prev), (.int .i64 x4.Kind), (.int .i64 x4.Oid), (.bool x4.Before.Has), (.int .i64 x4.Before.O.Kind), v1, v2, (.bool x4.After.Has), (.int .i64 x4.After.O.Kind), v3, v4, (.int .i64 x4.Next), v5]) hS rfl rfl) (by decide) (fun v w a hR hF => ?_)
  obtain ⟨g1, rfl, hS⟩ := hR
  refine stp hF (p_assign rfl) (by decide) (fun a hF => ?_)
  refine nilN ?_
  refine xn ?_
  refine sq ?_
  refine sq ?_
  refine rg ?_
  refine stp hF (p_fldb (o' := 0) rfl fi_41_0 rfl) (by decide) (fun a hF => ?_)
  refine stp hF (p_ldb_one (i := 0) hS rfl rfl ia_3 rfl) (by decide) (fun a hF => ?_)
  obtain ⟨x28, hx1, H⟩ := hb H
  refine ste hF (e_callA (fst := []) (vs := [(.int .i64 x4.Lsn), (.int .i64 1), (.int .i64 1000000)]) (cap := []) rfl rfl go_75 (St.call (A := []) (B := [pt g1 41 ([(.int .i64 x4.Lsn), (.int .i64 x4.Tx), (.int .i64 x4.Prev), (.int .i64 x4.Kind), (.int .i64 x4.Oid), (.bool x4.Before.Has), (.int .i64 x4.Before.O.Kind), v1, v2, (.bool x4.After.Has), (.int .i64 x4.After.O.Kind), v3, v4, (.int .i64 x4.Next), v5])]) hS (spec_l1In.spec k _ _ x4.Lsn 1 1000000 _ hx1)) rfl) (by decide) (fun v w a hR hF => ?_)
  obtain ⟨s2, A2, hg1, hS, hR⟩ := hR
  obtain ⟨hv1, rfl⟩ := hR; obtain rfl := hv1.symm
  have hS : St e s2 w [pt g1 41 ([(.int .i64 x4.Lsn), (.int .i64 x4.Tx), (.int .i64 x4.Prev), (.int .i64 x4.Kind), (.int .i64 x4.Oid), (.bool x4.Before.Has), (.int .i64 x4.Before.O.Kind), v1, v2, (.bool x4.After.Has), (.int .i64 x4.After.O.Kind), v3, v4, (.int .i64 x4.Next), v5])] := hS
  refine stp hF (p_not rfl) (by decide) (fun a hF => ?_)
  refine stp hF (p_move rfl) (by decide) (fun a hF => ?_)
  obtain ⟨x30, H, HK1⟩ := hb H
  refine cutj 5 (fun a w => ∃ (x25 : Bool) (s3 : HF) , St e s3 w [pt g1 41 ([(.int .i64 x4.Lsn), (.int .i64 x4.Tx), (.int .i64 x4.Prev), (.int .i64 x4.Kind), (.int .i64 x4.Oid), (.bool x4.Before.Has), (.int .i64 x4.Before.O.Kind), v1, v2, (.bool x4.After.Has), (.int .i64 x4.After.O.Kind), v3, v4, (.int .i64 x4.Next), v5])] ∧ Fr 75 a [(1, (.pointer (some ⟨g1, 0, none⟩))), (12, (.bool x25))] ∧ Sub s2 s3 ∧ spec_RecOk.c8 k x4 x25 = some r) rfl rfl ?_ ?_
  · rcases Bool.eq_false_or_eq_true ((!x28)) with hc1 | hc1
    · replace H := hbt hc1 H
      refine gofD (j := 4) hF rfl rfl (by rw [hc1]; decide) (by decide) (fun a hF => ?_)
      refine gofD (j := 4) hF rfl rfl (by rw [hc1]; decide) (by decide) (fun a hF => ?_)
      refine gofD (j := 4) hF rfl rfl (by rw [hc1]; decide) (by decide) (fun a hF => ?_)
      refine gofD (j := 4) hF rfl rfl (by rw [hc1]; decide) (by decide) (fun a hF => ?_)
      refine stp hF (p_pickT rfl hc1 rfl) (by decide) (fun a hF => ?_)
      refine nilN ?_
      refine xn ?_
      obtain rfl := hsm H
      exact ⟨true, s2, hS, hF.cut ⟨rfl, rfl, trivial⟩, (Sub.refl _), HK1⟩
    · replace H := hbf hc1 H
      refine gonE (j := 4) hF rfl rfl hc1 ?_
      refine stp hF (p_fldb (o' := 5) rfl fi_41_5 rfl) (by decide) (fun a hF => ?_)
      refine gonE (j := 4) hF rfl rfl hc1 ?_
      refine stp hF (p_ldb_agg (i := 0) (l := [(.int .i64 x4.Lsn), (.int .i64 x4.Tx), (.int .i64 x4.Prev), (.int .i64 x4.Kind), (.int .i64 x4.Oid)]) (m := [(.bool x4.Before.Has), (.int .i64 x4.Before.O.Kind), v1, v2]) (r := [(.bool x4.After.Has), (.int .i64 x4.After.O.Kind), v3, v4, (.int .i64 x4.Next), v5]) hS rfl rfl ia_38 ti_38 rfl rfl rfl) (by decide) (fun a hF => ?_)
      obtain ⟨x29, hx2, H⟩ := hb H
      refine gonE (j := 4) hF rfl rfl hc1 ?_
      refine ste hF (e_callA (fst := []) (vs := [(.agg #[(.bool x4.Before.Has), (.int .i64 x4.Before.O.Kind), v1, v2])]) (cap := []) rfl rfl go_76 (St.call (A := []) (B := [pt g1 41 ([(.int .i64 x4.Lsn), (.int .i64 x4.Tx), (.int .i64 x4.Prev), (.int .i64 x4.Kind), (.int .i64 x4.Oid), (.bool x4.Before.Has), (.int .i64 x4.Before.O.Kind), v1, v2, (.bool x4.After.Has), (.int .i64 x4.After.O.Kind), v3, v4, (.int .i64 x4.Next), v5])]) hS (spec_l3Slot.spec k _ _ x4.Before v1 v2 (h1.mono hg1) (h2.mono hg1) _ hx2)) rfl) (by decide) (fun v w a hR hF => ?_)
      obtain ⟨s4, A3, hg2, hS, hR⟩ := hR
      obtain ⟨hv2, rfl⟩ := hR; obtain rfl := hv2.symm
      have hS : St e s4 w [pt g1 41 ([(.int .i64 x4.Lsn), (.int .i64 x4.Tx), (.int .i64 x4.Prev), (.int .i64 x4.Kind), (.int .i64 x4.Oid), (.bool x4.Before.Has), (.int .i64 x4.Before.O.Kind), v1, v2, (.bool x4.After.Has), (.int .i64 x4.After.O.Kind), v3, v4, (.int .i64 x4.Next), v5])] := hS
      refine gonE (j := 4) hF rfl rfl hc1 ?_
      refine stp hF (p_not rfl) (by decide) (fun a hF => ?_)
      refine stp hF (p_pickF rfl hc1 rfl) (by decide) (fun a hF => ?_)
      refine nilN ?_
      refine xn ?_
      obtain rfl := hsm H
      exact ⟨(!x29), s4, hS, hF.cut ⟨rfl, rfl, trivial⟩, hg2, HK1⟩
  · clear H HK1 hS hF
    rintro a w ⟨x25, s3, hS, hF, hg3, H⟩
    unfold spec_RecOk.c8 at H
    refine stp hF (p_move rfl) (by decide) (fun a hF => ?_)
    obtain ⟨x27, H, HK2⟩ := hb H
    refine cutj 5 (fun a w => ∃ (x18 : Bool) (s5 : HF) , St e s5 w [pt g1 41 ([(.int .i64 x4.Lsn), (.int .i64 x4.Tx), (.int .i64 x4.Prev), (.int .i64 x4.Kind), (.int .i64 x4.Oid), (.bool x4.Before.Has), (.int .i64 x4.Before.O.Kind), v1, v2, (.bool x4.After.Has), (.int .i64 x4.After.O.Kind), v3, v4, (.int .i64 x4.Next), v5])] ∧ Fr 75 a [(1, (.pointer (some ⟨g1, 0, none⟩))), (18, (.bool x18))] ∧ Sub s3 s5 ∧ spec_RecOk.c7 k x4 x18 = some r) rfl rfl ?_ ?_
    · rcases Bool.eq_false_or_eq_true (x25) with hc2 | hc2
      · replace H := hbt hc2 H
        refine gofD (j := 10) hF rfl rfl (by rw [hc2]; decide) (by decide) (fun a hF => ?_)
        refine gofD (j := 10) hF rfl rfl (by rw [hc2]; decide) (by decide) (fun a hF => ?_)
        refine gofD (j := 10) hF rfl rfl (by rw [hc2]; decide) (by decide) (fun a hF => ?_)
        refine gofD (j := 10) hF rfl rfl (by rw [hc2]; decide) (by decide) (fun a hF => ?_)
        refine stp hF (p_pickT rfl hc2 rfl) (by decide) (fun a hF => ?_)
        refine nilN ?_
        refine xn ?_
        obtain rfl := hsm H
        exact ⟨true, s3, hS, hF.cut ⟨rfl, rfl, trivial⟩, (Sub.refl _), HK2⟩
      · replace H := hbf hc2 H
        refine gonE (j := 10) hF rfl rfl hc2 ?_
        refine stp hF (p_fldb (o' := 9) rfl fi_41_6 rfl) (by decide) (fun a hF => ?_)
        refine gonE (j := 10) hF rfl rfl hc2 ?_
        refine stp hF (p_ldb_agg (i := 0) (l := [(.int .i64 x4.Lsn), (.int .i64 x4.Tx), (.int .i64 x4.Prev), (.int .i64 x4.Kind), (.int .i64 x4.Oid), (.bool x4.Before.Has), (.int .i64 x4.Before.O.Kind), v1, v2]) (m := [(.bool x4.After.Has), (.int .i64 x4.After.O.Kind), v3, v4]) (r := [(.int .i64 x4.Next), v5]) hS rfl rfl ia_38 ti_38 rfl rfl rfl) (by decide) (fun a hF => ?_)
        obtain ⟨x26, hx3, H⟩ := hb H
        refine gonE (j := 10) hF rfl rfl hc2 ?_
        refine ste hF (e_callA (fst := []) (vs := [(.agg #[(.bool x4.After.Has), (.int .i64 x4.After.O.Kind), v3, v4])]) (cap := []) rfl rfl go_76 (St.call (A := []) (B := [pt g1 41 ([(.int .i64 x4.Lsn), (.int .i64 x4.Tx), (.int .i64 x4.Prev), (.int .i64 x4.Kind), (.int .i64 x4.Oid), (.bool x4.Before.Has), (.int .i64 x4.Before.O.Kind), v1, v2, (.bool x4.After.Has), (.int .i64 x4.After.O.Kind), v3, v4, (.int .i64 x4.Next), v5])]) hS (spec_l3Slot.spec k _ _ x4.After v3 v4 ((h3.mono hg1).mono hg3) ((h4.mono hg1).mono hg3) _ hx3)) rfl) (by decide) (fun v w a hR hF => ?_)
        obtain ⟨s6, A4, hg4, hS, hR⟩ := hR
        obtain ⟨hv3, rfl⟩ := hR; obtain rfl := hv3.symm
        have hS : St e s6 w [pt g1 41 ([(.int .i64 x4.Lsn), (.int .i64 x4.Tx), (.int .i64 x4.Prev), (.int .i64 x4.Kind), (.int .i64 x4.Oid), (.bool x4.Before.Has), (.int .i64 x4.Before.O.Kind), v1, v2, (.bool x4.After.Has), (.int .i64 x4.After.O.Kind), v3, v4, (.int .i64 x4.Next), v5])] := hS
        refine gonE (j := 10) hF rfl rfl hc2 ?_
        refine stp hF (p_not rfl) (by decide) (fun a hF => ?_)
        refine stp hF (p_pickF rfl hc2 rfl) (by decide) (fun a hF => ?_)
        refine nilN ?_
        refine xn ?_
        obtain rfl := hsm H
        exact ⟨(!x26), s6, hS, hF.cut ⟨rfl, rfl, trivial⟩, hg4, HK2⟩
    · clear H HK2 hS hF
      rintro a w ⟨x18, s5, hS, hF, hg5, H⟩
      unfold spec_RecOk.c7 at H
      refine nilN ?_
      refine xn ?_
      refine cnd hF rfl (fun hc3 => ?_) (fun hc3 => ?_)
      · replace H := hbt hc3 H
        refine sq ?_
        refine rg ?_
        refine stp hF (p_assign rfl) (by decide) (fun a hF => ?_)
        refine nilN ?_
        refine xn ?_
        refine rt ?_
        refine xr ?_
        obtain rfl := hsm H
        replace hS := hS.sel (is := []) (A' := []) rfl
        exact ret1 hF rfl rfl hS ⟨rfl, rfl⟩
      · replace H := hbf hc3 H
        refine skN ?_
        refine xn ?_
        refine sq ?_
        refine sq ?_
        refine rg ?_
        refine stp hF (p_fldb (o' := 3) rfl fi_41_3 rfl) (by decide) (fun a hF => ?_)
        refine stp hF (p_ldb_one (i := 0) hS rfl rfl ia_3 rfl) (by decide) (fun a hF => ?_)
        refine stp hF (p_eql rfl rfl) (by decide) (fun a hF => ?_)
        refine nilN ?_
        refine xn ?_
        refine cnd hF rfl (fun hc4 => ?_) (fun hc4 => ?_)
        · replace H := hbt hc4 H
          refine sq ?_
          refine rg ?_
          refine stp hF (p_ldb_agg (i := 0) (l := []) (m := [(.int .i64 x4.Lsn), (.int .i64 x4.Tx), (.int .i64 x4.Prev), (.int .i64 x4.Kind), (.int .i64 x4.Oid), (.bool x4.Before.Has), (.int .i64 x4.Before.O.Kind), v1, v2, (.bool x4.After.Has), (.int .i64 x4.After.O.Kind), v3, v4, (.int .i64 x4.Next), v5]) (r := []) hS rfl rfl ia_41 ti_41 rfl rfl rfl) (by decide) (fun a hF => ?_)
          obtain ⟨x19, hx4, H⟩ := hb H
          refine ste hF (e_callA (fst := []) (vs := [(.agg #[(.int .i64 x4.Lsn), (.int .i64 x4.Tx), (.int .i64 x4.Prev), (.int .i64 x4.Kind), (.int .i64 x4.Oid), (.bool x4.Before.Has), (.int .i64 x4.Before.O.Kind), v1, v2, (.bool x4.After.Has), (.int .i64 x4.After.O.Kind), v3, v4, (.int .i64 x4.Next), v5]), (.bool false), (.bool false), (.bool false), (.bool false), (.bool true)]) (cap := []) rfl rfl go_77 (St.call (A := []) (B := [pt g1 41 ([(.int .i64 x4.Lsn), (.int .i64 x4.Tx), (.int .i64 x4.Prev), (.int .i64 x4.Kind), (.int .i64 x4.Oid), (.bool x4.Before.Has), (.int .i64 x4.Before.O.Kind), v1, v2, (.bool x4.After.Has), (.int .i64 x4.After.O.Kind), v3, v4, (.int .i64 x4.Next), v5])]) hS (spec_l4Zero.spec k _ _ x4 false false false false true v1 v2 v3 v4 v5 (((h1.mono hg1).mono hg3).mono hg5) (((h2.mono hg1).mono hg3).mono hg5) (((h3.mono hg1).mono hg3).mono hg5) (((h4.mono hg1).mono hg3).mono hg5) (((h5.mono hg1).mono hg3).mono hg5) _ hx4)) rfl) (by decide) (fun v w a hR hF => ?_)
          obtain ⟨s7, A5, hg6, hS, hR⟩ := hR
          obtain ⟨hv4, rfl⟩ := hR; obtain rfl := hv4.symm
          have hS : St e s7 w [pt g1 41 ([(.int .i64 x4.Lsn), (.int .i64 x4.Tx), (.int .i64 x4.Prev), (.int .i64 x4.Kind), (.int .i64 x4.Oid), (.bool x4.Before.Has), (.int .i64 x4.Before.O.Kind), v1, v2, (.bool x4.After.Has), (.int .i64 x4.After.O.Kind), v3, v4, (.int .i64 x4.Next), v5])] := hS
          refine stp hF (p_move rfl) (by decide) (fun a hF => ?_)
          obtain ⟨x21, H, HK3⟩ := hb H
          refine cutj 3 (fun a w => ∃ (x1 : Bool) (s8 : HF) , St e s8 w [pt g1 41 ([(.int .i64 x4.Lsn), (.int .i64 x4.Tx), (.int .i64 x4.Prev), (.int .i64 x4.Kind), (.int .i64 x4.Oid), (.bool x4.Before.Has), (.int .i64 x4.Before.O.Kind), v1, v2, (.bool x4.After.Has), (.int .i64 x4.After.O.Kind), v3, v4, (.int .i64 x4.Next), v5])] ∧ Fr 75 a [(27, (.bool x1))] ∧ Sub s7 s8 ∧ spec_RecOk.c1 k x1 = some r) rfl rfl ?_ ?_
          · rcases Bool.eq_false_or_eq_true (x19) with hc5 | hc5
            · replace H := hbt hc5 H
              refine gonE (j := 2) hF rfl rfl hc5 ?_
              refine stp hF (p_ldb_agg (i := 0) (l := []) (m := [(.int .i64 x4.Lsn), (.int .i64 x4.Tx), (.int .i64 x4.Prev), (.int .i64 x4.Kind), (.int .i64 x4.Oid), (.bool x4.Before.Has), (.int .i64 x4.Before.O.Kind), v1, v2, (.bool x4.After.Has), (.int .i64 x4.After.O.Kind), v3, v4, (.int .i64 x4.Next), v5]) (r := []) hS rfl rfl ia_41 ti_41 rfl rfl rfl) (by decide) (fun a hF => ?_)
              obtain ⟨x20, hx5, H⟩ := hb H
              refine gonE (j := 2) hF rfl rfl hc5 ?_
              refine ste hF (e_callA (fst := []) (vs := [(.agg #[(.int .i64 x4.Lsn), (.int .i64 x4.Tx), (.int .i64 x4.Prev), (.int .i64 x4.Kind), (.int .i64 x4.Oid), (.bool x4.Before.Has), (.int .i64 x4.Before.O.Kind), v1, v2, (.bool x4.After.Has), (.int .i64 x4.After.O.Kind), v3, v4, (.int .i64 x4.Next), v5])]) (cap := []) rfl rfl go_78 (St.call (A := []) (B := [pt g1 41 ([(.int .i64 x4.Lsn), (.int .i64 x4.Tx), (.int .i64 x4.Prev), (.int .i64 x4.Kind), (.int .i64 x4.Oid), (.bool x4.Before.Has), (.int .i64 x4.Before.O.Kind), v1, v2, (.bool x4.After.Has), (.int .i64 x4.After.O.Kind), v3, v4, (.int .i64 x4.Next), v5])]) hS (spec_l4Lives.spec k _ _ x4 v1 v2 v3 v4 v5 ((((h1.mono hg1).mono hg3).mono hg5).mono hg6) ((((h2.mono hg1).mono hg3).mono hg5).mono hg6) ((((h3.mono hg1).mono hg3).mono hg5).mono hg6) ((((h4.mono hg1).mono hg3).mono hg5).mono hg6) ((((h5.mono hg1).mono hg3).mono hg5).mono hg6) _ hx5)) rfl) (by decide) (fun v w a hR hF => ?_)
              obtain ⟨s9, A6, hg7, hS, hR⟩ := hR
              obtain ⟨hv5, rfl⟩ := hR; obtain rfl := hv5.symm
              have hS : St e s9 w [pt g1 41 ([(.int .i64 x4.Lsn), (.int .i64 x4.Tx), (.int .i64 x4.Prev), (.int .i64 x4.Kind), (.int .i64 x4.Oid), (.bool x4.Before.Has), (.int .i64 x4.Before.O.Kind), v1, v2, (.bool x4.After.Has), (.int .i64 x4.After.O.Kind), v3, v4, (.int .i64 x4.Next), v5])] := hS
              refine stp hF (p_pickT rfl hc5 rfl) (by decide) (fun a hF => ?_)
              refine nilN ?_
              refine xn ?_
              obtain rfl := hsm H
              exact ⟨x20, s9, hS, hF.cut ⟨rfl, trivial⟩, hg7, HK3⟩
            · replace H := hbf hc5 H
              refine gofD (j := 2) hF rfl rfl (by rw [hc5]; decide) (by decide) (fun a hF => ?_)
              refine gofD (j := 2) hF rfl rfl (by rw [hc5]; decide) (by decide) (fun a hF => ?_)
              refine stp hF (p_pickF rfl hc5 rfl) (by decide) (fun a hF => ?_)
              refine nilN ?_
              refine xn ?_
              obtain rfl := hsm H
              exact ⟨false, s7, hS, hF.cut ⟨rfl, trivial⟩, (Sub.refl _), HK3⟩
          · clear H HK3 hS hF
            rintro a w ⟨x1, s8, hS, hF, hg8, H⟩
            unfold spec_RecOk.c1 at H
            refine stp hF (p_assign rfl) (by decide) (fun a hF => ?_)
            refine nilN ?_
            refine xn ?_
            refine rt ?_
            refine xr ?_
            obtain rfl := hsm H
            replace hS := hS.sel (is := []) (A' := []) rfl
            exact ret1 hF rfl rfl hS ⟨rfl, rfl⟩
        · replace H := hbf hc4 H
          refine skN ?_
          refine xn ?_
          refine sq ?_
          refine sq ?_
          refine rg ?_
          refine stp hF (p_fldb (o' := 1) rfl fi_41_1 rfl) (by decide) (fun a hF => ?_)
          refine stp hF (p_ldb_one (i := 0) hS rfl rfl ia_3 rfl) (by decide) (fun a hF => ?_)
          obtain ⟨x22, hx6, H⟩ := hb H
          refine ste hF (e_callA (fst := []) (vs := [(.int .i64 x4.Tx), (.int .i64 1), (.int .i64 1000)]) (cap := []) rfl rfl go_75 (St.call (A := []) (B := [pt g1 41 ([(.int .i64 x4.Lsn), (.int .i64 x4.Tx), (.int .i64 x4.Prev), (.int .i64 x4.Kind), (.int .i64 x4.Oid), (.bool x4.Before.Has), (.int .i64 x4.Before.O.Kind), v1, v2, (.bool x4.After.Has), (.int .i64 x4.After.O.Kind), v3, v4, (.int .i64 x4.Next), v5])]) hS (spec_l1In.spec k _ _ x4.Tx 1 1000 _ hx6)) rfl) (by decide) (fun v w a hR hF => ?_)
          obtain ⟨s10, A7, hg9, hS, hR⟩ := hR
          obtain ⟨hv6, rfl⟩ := hR; obtain rfl := hv6.symm
          have hS : St e s10 w [pt g1 41 ([(.int .i64 x4.Lsn), (.int .i64 x4.Tx), (.int .i64 x4.Prev), (.int .i64 x4.Kind), (.int .i64 x4.Oid), (.bool x4.Before.Has), (.int .i64 x4.Before.O.Kind), v1, v2, (.bool x4.After.Has), (.int .i64 x4.After.O.Kind), v3, v4, (.int .i64 x4.Next), v5])] := hS
          refine stp hF (p_not rfl) (by decide) (fun a hF => ?_)
          refine stp hF (p_move rfl) (by decide) (fun a hF => ?_)
          obtain ⟨x24, H, HK4⟩ := hb H
          refine cutj 8 (fun a w => ∃ (x10 : Bool) (s11 : HF) , St e s11 w [pt g1 41 ([(.int .i64 x4.Lsn), (.int .i64 x4.Tx), (.int .i64 x4.Prev), (.int .i64 x4.Kind), (.int .i64 x4.Oid), (.bool x4.Before.Has), (.int .i64 x4.Before.O.Kind), v1, v2, (.bool x4.After.Has), (.int .i64 x4.After.O.Kind), v3, v4, (.int .i64 x4.Next), v5])] ∧ Fr 75 a [(1, (.pointer (some ⟨g1, 0, none⟩))), (40, (.bool x10))] ∧ Sub s10 s11 ∧ spec_RecOk.c6 k x4 x10 = some r) rfl rfl ?_ ?_
          · rcases Bool.eq_false_or_eq_true ((!x22)) with hc6 | hc6
            · replace H := hbt hc6 H
              refine gofD (j := 4) hF rfl rfl (by rw [hc6]; decide) (by decide) (fun a hF => ?_)
              refine gofD (j := 4) hF rfl rfl (by rw [hc6]; decide) (by decide) (fun a hF => ?_)
              refine gofD (j := 4) hF rfl rfl (by rw [hc6]; decide) (by decide) (fun a hF => ?_)
              refine gofD (j := 4) hF rfl rfl (by rw [hc6]; decide) (by decide) (fun a hF => ?_)
              refine gofD (j := 4) hF rfl rfl (by rw [hc6]; decide) (by decide) (fun a hF => ?_)
              refine gofD (j := 4) hF rfl rfl (by rw [hc6]; decide) (by decide) (fun a hF => ?_)
              refine gofD (j := 4) hF rfl rfl (by rw [hc6]; decide) (by decide) (fun a hF => ?_)
              refine stp hF (p_pickT rfl hc6 rfl) (by decide) (fun a hF => ?_)
              refine nilN ?_
              refine xn ?_
              obtain rfl := hsm H
              exact ⟨true, s10, hS, hF.cut ⟨rfl, rfl, trivial⟩, (Sub.refl _), HK4⟩
            · replace H := hbf hc6 H
              refine gonE (j := 4) hF rfl rfl hc6 ?_
              refine stp hF (p_fldb (o' := 2) rfl fi_41_2 rfl) (by decide) (fun a hF => ?_)
              refine gonE (j := 4) hF rfl rfl hc6 ?_
              refine stp hF (p_ldb_one (i := 0) hS rfl rfl ia_3 rfl) (by decide) (fun a hF => ?_)
              refine gonE (j := 4) hF rfl rfl hc6 ?_
              refine stp hF (p_fldb (o' := 0) rfl fi_41_0 rfl) (by decide) (fun a hF => ?_)
              refine gonE (j := 4) hF rfl rfl hc6 ?_
              refine stp hF (p_ldb_one (i := 0) hS rfl rfl ia_3 rfl) (by decide) (fun a hF => ?_)
              refine gonE (j := 4) hF rfl rfl hc6 ?_
              refine stp hF (p_sub (c := w64 (x4.Lsn - 1)) rfl rfl rfl) (by decide) (fun a hF => ?_)
              obtain ⟨x23, hx7, H⟩ := hb H
              refine gonE (j := 4) hF rfl rfl hc6 ?_
              refine ste hF (e_callA (fst := []) (vs := [(.int .i64 x4.Prev), (.int .i64 0), (.int .i64 (w64 (x4.Lsn - 1)))]) (cap := []) rfl rfl go_75 (St.call (A := []) (B := [pt g1 41 ([(.int .i64 x4.Lsn), (.int .i64 x4.Tx), (.int .i64 x4.Prev), (.int .i64 x4.Kind), (.int .i64 x4.Oid), (.bool x4.Before.Has), (.int .i64 x4.Before.O.Kind), v1, v2, (.bool x4.After.Has), (.int .i64 x4.After.O.Kind), v3, v4, (.int .i64 x4.Next), v5])]) hS (spec_l1In.spec k _ _ x4.Prev 0 (w64 (x4.Lsn - 1)) _ hx7)) rfl) (by decide) (fun v w a hR hF => ?_)
              obtain ⟨s12, A8, hg10, hS, hR⟩ := hR
              obtain ⟨hv7, rfl⟩ := hR; obtain rfl := hv7.symm
              have hS : St e s12 w [pt g1 41 ([(.int .i64 x4.Lsn), (.int .i64 x4.Tx), (.int .i64 x4.Prev), (.int .i64 x4.Kind), (.int .i64 x4.Oid), (.bool x4.Before.Has), (.int .i64 x4.Before.O.Kind), v1, v2, (.bool x4.After.Has), (.int .i64 x4.After.O.Kind), v3, v4, (.int .i64 x4.Next), v5])] := hS
              refine gonE (j := 4) hF rfl rfl hc6 ?_
              refine stp hF (p_not rfl) (by decide) (fun a hF => ?_)
              refine stp hF (p_pickF rfl hc6 rfl) (by decide) (fun a hF => ?_)
              refine nilN ?_
              refine xn ?_
              obtain rfl := hsm H
              exact ⟨(!x23), s12, hS, hF.cut ⟨rfl, rfl, trivial⟩, hg10, HK4⟩
          · clear H HK4 hS hF
            rintro a w ⟨x10, s11, hS, hF, hg11, H⟩
            unfold spec_RecOk.c6 at H
            refine nilN ?_
            refine xn ?_
            refine cnd hF rfl (fun hc7 => ?_) (fun hc7 => ?_)
            · replace H := hbt hc7 H
              refine sq ?_
              refine rg ?_
              refine stp hF (p_assign rfl) (by decide) (fun a hF => ?_)
              refine nilN ?_
              refine xn ?_
              refine rt ?_
              refine xr ?_
              obtain rfl := hsm H
              replace hS := hS.sel (is := []) (A' := []) rfl
              exact ret1 hF rfl rfl hS ⟨rfl, rfl⟩
            · replace H := hbf hc7 H
              refine skN ?_
              refine xn ?_
              refine sq ?_
              refine sq ?_
              refine rg ?_
              refine stp hF (p_fldb (o' := 3) rfl fi_41_3 rfl) (by decide) (fun a hF => ?_)
              refine stp hF (p_ldb_one (i := 0) hS rfl rfl ia_3 rfl) (by decide) (fun a hF => ?_)
              refine nilN ?_
              refine xn ?_
              refine blk ?_
              refine sq ?_
              refine rg ?_
              refine stp hF (p_eql rfl rfl) (by decide) (fun a hF => ?_)
              refine stp hF (p_assign rfl) (by decide) (fun a hF => ?_)
              refine nilN ?_
              refine xn ?_
              refine cnd hF rfl (fun hc8 => ?_) (fun hc8 => ?_)
              · replace H := hbt hc8 H
                refine sq ?_
                refine rg ?_
                refine stp hF (p_ldb_agg (i := 0) (l := []) (m := [(.int .i64 x4.Lsn), (.int .i64 x4.Tx), (.int .i64 x4.Prev), (.int .i64 x4.Kind), (.int .i64 x4.Oid), (.bool x4.Before.Has), (.int .i64 x4.Before.O.Kind), v1, v2, (.bool x4.After.Has), (.int .i64 x4.After.O.Kind), v3, v4, (.int .i64 x4.Next), v5]) (r := []) hS rfl rfl ia_41 ti_41 rfl rfl rfl) (by decide) (fun a hF => ?_)
                obtain ⟨x11, hx8, H⟩ := hb H
                refine ste hF (e_callA (fst := []) (vs := [(.agg #[(.int .i64 x4.Lsn), (.int .i64 x4.Tx), (.int .i64 x4.Prev), (.int .i64 x4.Kind), (.int .i64 x4.Oid), (.bool x4.Before.Has), (.int .i64 x4.Before.O.Kind), v1, v2, (.bool x4.After.Has), (.int .i64 x4.After.O.Kind), v3, v4, (.int .i64 x4.Next), v5]), (.bool true), (.bool true), (.bool true), (.bool false), (.bool false)]) (cap := []) rfl rfl go_77 (St.call (A := []) (B := [pt g1 41 ([(.int .i64 x4.Lsn), (.int .i64 x4.Tx), (.int .i64 x4.Prev), (.int .i64 x4.Kind), (.int .i64 x4.Oid), (.bool x4.Before.Has), (.int .i64 x4.Before.O.Kind), v1, v2, (.bool x4.After.Has), (.int .i64 x4.After.O.Kind), v3, v4, (.int .i64 x4.Next), v5])]) hS (spec_l4Zero.spec k _ _ x4 true true true false false v1 v2 v3 v4 v5 (((((h1.mono hg1).mono hg3).mono hg5).mono hg9).mono hg11) (((((h2.mono hg1).mono hg3).mono hg5).mono hg9).mono hg11) (((((h3.mono hg1).mono hg3).mono hg5).mono hg9).mono hg11) (((((h4.mono hg1).mono hg3).mono hg5).mono hg9).mono hg11) (((((h5.mono hg1).mono hg3).mono hg5).mono hg9).mono hg11) _ hx8)) rfl) (by decide) (fun v w a hR hF => ?_)
                obtain ⟨s13, A9, hg12, hS, hR⟩ := hR
                obtain ⟨hv8, rfl⟩ := hR; obtain rfl := hv8.symm
                have hS : St e s13 w [pt g1 41 ([(.int .i64 x4.Lsn), (.int .i64 x4.Tx), (.int .i64 x4.Prev), (.int .i64 x4.Kind), (.int .i64 x4.Oid), (.bool x4.Before.Has), (.int .i64 x4.Before.O.Kind), v1, v2, (.bool x4.After.Has), (.int .i64 x4.After.O.Kind), v3, v4, (.int .i64 x4.Next), v5])] := hS
                refine stp hF (p_move rfl) (by decide) (fun a hF => ?_)
                obtain ⟨x13, H, HK5⟩ := hb H
                refine cutj 4 (fun a w => ∃ (x2 : Bool) (s14 : HF) , St e s14 w [pt g1 41 ([(.int .i64 x4.Lsn), (.int .i64 x4.Tx), (.int .i64 x4.Prev), (.int .i64 x4.Kind), (.int .i64 x4.Oid), (.bool x4.Before.Has), (.int .i64 x4.Before.O.Kind), v1, v2, (.bool x4.After.Has), (.int .i64 x4.After.O.Kind), v3, v4, (.int .i64 x4.Next), v5])] ∧ Fr 75 a [(51, (.bool x2))] ∧ Sub s13 s14 ∧ spec_RecOk.c2 k x2 = some r) rfl rfl ?_ ?_
                · rcases Bool.eq_false_or_eq_true (x11) with hc9 | hc9
                  · replace H := hbt hc9 H
                    refine gonE (j := 2) hF rfl rfl hc9 ?_
                    refine stp hF (p_fldb (o' := 4) rfl fi_41_4 rfl) (by decide) (fun a hF => ?_)
                    refine gonE (j := 2) hF rfl rfl hc9 ?_
                    refine stp hF (p_ldb_one (i := 0) hS rfl rfl ia_3 rfl) (by decide) (fun a hF => ?_)
                    obtain ⟨x12, hx9, H⟩ := hb H
                    refine gonE (j := 2) hF rfl rfl hc9 ?_
                    refine ste hF (e_callA (fst := []) (vs := [(.int .i64 x4.Oid), (.int .i64 1), (.int .i64 31)]) (cap := []) rfl rfl go_75 (St.call (A := []) (B := [pt g1 41 ([(.int .i64 x4.Lsn), (.int .i64 x4.Tx), (.int .i64 x4.Prev), (.int .i64 x4.Kind), (.int .i64 x4.Oid), (.bool x4.Before.Has), (.int .i64 x4.Before.O.Kind), v1, v2, (.bool x4.After.Has), (.int .i64 x4.After.O.Kind), v3, v4, (.int .i64 x4.Next), v5])]) hS (spec_l1In.spec k _ _ x4.Oid 1 31 _ hx9)) rfl) (by decide) (fun v w a hR hF => ?_)
                    obtain ⟨s15, A10, hg13, hS, hR⟩ := hR
                    obtain ⟨hv9, rfl⟩ := hR; obtain rfl := hv9.symm
                    have hS : St e s15 w [pt g1 41 ([(.int .i64 x4.Lsn), (.int .i64 x4.Tx), (.int .i64 x4.Prev), (.int .i64 x4.Kind), (.int .i64 x4.Oid), (.bool x4.Before.Has), (.int .i64 x4.Before.O.Kind), v1, v2, (.bool x4.After.Has), (.int .i64 x4.After.O.Kind), v3, v4, (.int .i64 x4.Next), v5])] := hS
                    refine stp hF (p_pickT rfl hc9 rfl) (by decide) (fun a hF => ?_)
                    refine nilN ?_
                    refine xn ?_
                    obtain rfl := hsm H
                    exact ⟨x12, s15, hS, hF.cut ⟨rfl, trivial⟩, hg13, HK5⟩
                  · replace H := hbf hc9 H
                    refine gofD (j := 2) hF rfl rfl (by rw [hc9]; decide) (by decide) (fun a hF => ?_)
                    refine gofD (j := 2) hF rfl rfl (by rw [hc9]; decide) (by decide) (fun a hF => ?_)
                    refine gofD (j := 2) hF rfl rfl (by rw [hc9]; decide) (by decide) (fun a hF => ?_)
                    refine stp hF (p_pickF rfl hc9 rfl) (by decide) (fun a hF => ?_)
                    refine nilN ?_
                    refine xn ?_
                    obtain rfl := hsm H
                    exact ⟨false, s13, hS, hF.cut ⟨rfl, trivial⟩, (Sub.refl _), HK5⟩
                · clear H HK5 hS hF
                  rintro a w ⟨x2, s14, hS, hF, hg14, H⟩
                  unfold spec_RecOk.c2 at H
                  refine stp hF (p_assign rfl) (by decide) (fun a hF => ?_)
                  refine nilN ?_
                  refine xn ?_
                  refine rt ?_
                  refine br (xr ?_)
                  obtain rfl := hsm H
                  replace hS := hS.sel (is := []) (A' := []) rfl
                  exact ret1 hF rfl rfl hS ⟨rfl, rfl⟩
              · replace H := hbf hc8 H
                refine sq ?_
                refine rg ?_
                refine stp hF (p_eql rfl rfl) (by decide) (fun a hF => ?_)
                refine stp hF (p_assign rfl) (by decide) (fun a hF => ?_)
                refine nilN ?_
                refine xn ?_
                refine cnd hF rfl (fun hc10 => ?_) (fun hc10 => ?_)
                · replace H := hbt hc10 H
                  refine sq ?_
                  refine rg ?_
                  refine stp hF (p_ldb_agg (i := 0) (l := []) (m := [(.int .i64 x4.Lsn), (.int .i64 x4.Tx), (.int .i64 x4.Prev), (.int .i64 x4.Kind), (.int .i64 x4.Oid), (.bool x4.Before.Has), (.int .i64 x4.Before.O.Kind), v1, v2, (.bool x4.After.Has), (.int .i64 x4.After.O.Kind), v3, v4, (.int .i64 x4.Next), v5]) (r := []) hS rfl rfl ia_41 ti_41 rfl rfl rfl) (by decide) (fun a hF => ?_)
                  obtain ⟨x14, hx10, H⟩ := hb H
                  refine ste hF (e_callA (fst := []) (vs := [(.agg #[(.int .i64 x4.Lsn), (.int .i64 x4.Tx), (.int .i64 x4.Prev), (.int .i64 x4.Kind), (.int .i64 x4.Oid), (.bool x4.Before.Has), (.int .i64 x4.Before.O.Kind), v1, v2, (.bool x4.After.Has), (.int .i64 x4.After.O.Kind), v3, v4, (.int .i64 x4.Next), v5]), (.bool true), (.bool true), (.bool false), (.bool true), (.bool false)]) (cap := []) rfl rfl go_77 (St.call (A := []) (B := [pt g1 41 ([(.int .i64 x4.Lsn), (.int .i64 x4.Tx), (.int .i64 x4.Prev), (.int .i64 x4.Kind), (.int .i64 x4.Oid), (.bool x4.Before.Has), (.int .i64 x4.Before.O.Kind), v1, v2, (.bool x4.After.Has), (.int .i64 x4.After.O.Kind), v3, v4, (.int .i64 x4.Next), v5])]) hS (spec_l4Zero.spec k _ _ x4 true true false true false v1 v2 v3 v4 v5 (((((h1.mono hg1).mono hg3).mono hg5).mono hg9).mono hg11) (((((h2.mono hg1).mono hg3).mono hg5).mono hg9).mono hg11) (((((h3.mono hg1).mono hg3).mono hg5).mono hg9).mono hg11) (((((h4.mono hg1).mono hg3).mono hg5).mono hg9).mono hg11) (((((h5.mono hg1).mono hg3).mono hg5).mono hg9).mono hg11) _ hx10)) rfl) (by decide) (fun v w a hR hF => ?_)
                  obtain ⟨s16, A11, hg15, hS, hR⟩ := hR
                  obtain ⟨hv10, rfl⟩ := hR; obtain rfl := hv10.symm
                  have hS : St e s16 w [pt g1 41 ([(.int .i64 x4.Lsn), (.int .i64 x4.Tx), (.int .i64 x4.Prev), (.int .i64 x4.Kind), (.int .i64 x4.Oid), (.bool x4.Before.Has), (.int .i64 x4.Before.O.Kind), v1, v2, (.bool x4.After.Has), (.int .i64 x4.After.O.Kind), v3, v4, (.int .i64 x4.Next), v5])] := hS
                  refine stp hF (p_move rfl) (by decide) (fun a hF => ?_)
                  obtain ⟨x16, H, HK6⟩ := hb H
                  refine cutj 4 (fun a w => ∃ (x5 : Bool) (s17 : HF) , St e s17 w [pt g1 41 ([(.int .i64 x4.Lsn), (.int .i64 x4.Tx), (.int .i64 x4.Prev), (.int .i64 x4.Kind), (.int .i64 x4.Oid), (.bool x4.Before.Has), (.int .i64 x4.Before.O.Kind), v1, v2, (.bool x4.After.Has), (.int .i64 x4.After.O.Kind), v3, v4, (.int .i64 x4.Next), v5])] ∧ Fr 75 a [(1, (.pointer (some ⟨g1, 0, none⟩))), (60, (.bool x5))] ∧ Sub s16 s17 ∧ spec_RecOk.c4 k x4 x5 = some r) rfl rfl ?_ ?_
                  · rcases Bool.eq_false_or_eq_true (x14) with hc11 | hc11
                    · replace H := hbt hc11 H
                      refine gonE (j := 2) hF rfl rfl hc11 ?_
                      refine stp hF (p_fldb (o' := 4) rfl fi_41_4 rfl) (by decide) (fun a hF => ?_)
                      refine gonE (j := 2) hF rfl rfl hc11 ?_
                      refine stp hF (p_ldb_one (i := 0) hS rfl rfl ia_3 rfl) (by decide) (fun a hF => ?_)
                      obtain ⟨x15, hx11, H⟩ := hb H
                      refine gonE (j := 2) hF rfl rfl hc11 ?_
                      refine ste hF (e_callA (fst := []) (vs := [(.int .i64 x4.Oid), (.int .i64 1), (.int .i64 31)]) (cap := []) rfl rfl go_75 (St.call (A := []) (B := [pt g1 41 ([(.int .i64 x4.Lsn), (.int .i64 x4.Tx), (.int .i64 x4.Prev), (.int .i64 x4.Kind), (.int .i64 x4.Oid), (.bool x4.Before.Has), (.int .i64 x4.Before.O.Kind), v1, v2, (.bool x4.After.Has), (.int .i64 x4.After.O.Kind), v3, v4, (.int .i64 x4.Next), v5])]) hS (spec_l1In.spec k _ _ x4.Oid 1 31 _ hx11)) rfl) (by decide) (fun v w a hR hF => ?_)
                      obtain ⟨s18, A12, hg16, hS, hR⟩ := hR
                      obtain ⟨hv11, rfl⟩ := hR; obtain rfl := hv11.symm
                      have hS : St e s18 w [pt g1 41 ([(.int .i64 x4.Lsn), (.int .i64 x4.Tx), (.int .i64 x4.Prev), (.int .i64 x4.Kind), (.int .i64 x4.Oid), (.bool x4.Before.Has), (.int .i64 x4.Before.O.Kind), v1, v2, (.bool x4.After.Has), (.int .i64 x4.After.O.Kind), v3, v4, (.int .i64 x4.Next), v5])] := hS
                      refine stp hF (p_pickT rfl hc11 rfl) (by decide) (fun a hF => ?_)
                      refine nilN ?_
                      refine xn ?_
                      obtain rfl := hsm H
                      exact ⟨x15, s18, hS, hF.cut ⟨rfl, rfl, trivial⟩, hg16, HK6⟩
                    · replace H := hbf hc11 H
                      refine gofD (j := 2) hF rfl rfl (by rw [hc11]; decide) (by decide) (fun a hF => ?_)
                      refine gofD (j := 2) hF rfl rfl (by rw [hc11]; decide) (by decide) (fun a hF => ?_)
                      refine gofD (j := 2) hF rfl rfl (by rw [hc11]; decide) (by decide) (fun a hF => ?_)
                      refine stp hF (p_pickF rfl hc11 rfl) (by decide) (fun a hF => ?_)
                      refine nilN ?_
                      refine xn ?_
                      obtain rfl := hsm H
                      exact ⟨false, s16, hS, hF.cut ⟨rfl, rfl, trivial⟩, (Sub.refl _), HK6⟩
                  · clear H HK6 hS hF
                    rintro a w ⟨x5, s17, hS, hF, hg17, H⟩
                    unfold spec_RecOk.c4 at H
                    refine stp hF (p_move rfl) (by decide) (fun a hF => ?_)
                    obtain ⟨x7, H, HK7⟩ := hb H
                    refine cutj 7 (fun a w => ∃ (x3 : Bool) (s19 : HF) , St e s19 w [pt g1 41 ([(.int .i64 x4.Lsn), (.int .i64 x4.Tx), (.int .i64 x4.Prev), (.int .i64 x4.Kind), (.int .i64 x4.Oid), (.bool x4.Before.Has), (.int .i64 x4.Before.O.Kind), v1, v2, (.bool x4.After.Has), (.int .i64 x4.After.O.Kind), v3, v4, (.int .i64 x4.Next), v5])] ∧ Fr 75 a [(68, (.bool x3))] ∧ Sub s17 s19 ∧ spec_RecOk.c3 k x3 = some r) rfl rfl ?_ ?_
                    · rcases Bool.eq_false_or_eq_true (x5) with hc12 | hc12
                      · replace H := hbt hc12 H
                        refine gonE (j := 7) hF rfl rfl hc12 ?_
                        refine stp hF (p_fldb (o' := 13) rfl fi_41_7 rfl) (by decide) (fun a hF => ?_)
                        refine gonE (j := 7) hF rfl rfl hc12 ?_
                        refine stp hF (p_ldb_one (i := 0) hS rfl rfl ia_3 rfl) (by decide) (fun a hF => ?_)
                        refine gonE (j := 7) hF rfl rfl hc12 ?_
                        refine stp hF (p_fldb (o' := 0) rfl fi_41_0 rfl) (by decide) (fun a hF => ?_)
                        refine gonE (j := 7) hF rfl rfl hc12 ?_
                        refine stp hF (p_ldb_one (i := 0) hS rfl rfl ia_3 rfl) (by decide) (fun a hF => ?_)
                        refine gonE (j := 7) hF rfl rfl hc12 ?_
                        refine stp hF (p_sub (c := w64 (x4.Lsn - 1)) rfl rfl rfl) (by decide) (fun a hF => ?_)
                        obtain ⟨x6, hx12, H⟩ := hb H
                        refine gonE (j := 7) hF rfl rfl hc12 ?_
                        refine ste hF (e_callA (fst := []) (vs := [(.int .i64 x4.Next), (.int .i64 0), (.int .i64 (w64 (x4.Lsn - 1)))]) (cap := []) rfl rfl go_75 (St.call (A := []) (B := [pt g1 41 ([(.int .i64 x4.Lsn), (.int .i64 x4.Tx), (.int .i64 x4.Prev), (.int .i64 x4.Kind), (.int .i64 x4.Oid), (.bool x4.Before.Has), (.int .i64 x4.Before.O.Kind), v1, v2, (.bool x4.After.Has), (.int .i64 x4.After.O.Kind), v3, v4, (.int .i64 x4.Next), v5])]) hS (spec_l1In.spec k _ _ x4.Next 0 (w64 (x4.Lsn - 1)) _ hx12)) rfl) (by decide) (fun v w a hR hF => ?_)
                        obtain ⟨s20, A13, hg18, hS, hR⟩ := hR
                        obtain ⟨hv12, rfl⟩ := hR; obtain rfl := hv12.symm
                        have hS : St e s20 w [pt g1 41 ([(.int .i64 x4.Lsn), (.int .i64 x4.Tx), (.int .i64 x4.Prev), (.int .i64 x4.Kind), (.int .i64 x4.Oid), (.bool x4.Before.Has), (.int .i64 x4.Before.O.Kind), v1, v2, (.bool x4.After.Has), (.int .i64 x4.After.O.Kind), v3, v4, (.int .i64 x4.Next), v5])] := hS
                        refine stp hF (p_pickT rfl hc12 rfl) (by decide) (fun a hF => ?_)
                        refine nilN ?_
                        refine xn ?_
                        obtain rfl := hsm H
                        exact ⟨x6, s20, hS, hF.cut ⟨rfl, trivial⟩, hg18, HK7⟩
                      · replace H := hbf hc12 H
                        refine gofD (j := 7) hF rfl rfl (by rw [hc12]; decide) (by decide) (fun a hF => ?_)
                        refine gofD (j := 7) hF rfl rfl (by rw [hc12]; decide) (by decide) (fun a hF => ?_)
                        refine gofD (j := 7) hF rfl rfl (by rw [hc12]; decide) (by decide) (fun a hF => ?_)
                        refine gofD (j := 7) hF rfl rfl (by rw [hc12]; decide) (by decide) (fun a hF => ?_)
                        refine gofD (j := 7) hF rfl rfl (by rw [hc12]; decide) (by decide) (fun a hF => ?_)
                        refine gofD (j := 7) hF rfl rfl (by rw [hc12]; decide) (by decide) (fun a hF => ?_)
                        refine stp hF (p_pickF rfl hc12 rfl) (by decide) (fun a hF => ?_)
                        refine nilN ?_
                        refine xn ?_
                        obtain rfl := hsm H
                        exact ⟨false, s17, hS, hF.cut ⟨rfl, trivial⟩, (Sub.refl _), HK7⟩
                    · clear H HK7 hS hF
                      rintro a w ⟨x3, s19, hS, hF, hg19, H⟩
                      unfold spec_RecOk.c3 at H
                      refine stp hF (p_assign rfl) (by decide) (fun a hF => ?_)
                      refine nilN ?_
                      refine xn ?_
                      refine rt ?_
                      refine br (xr ?_)
                      obtain rfl := hsm H
                      replace hS := hS.sel (is := []) (A' := []) rfl
                      exact ret1 hF rfl rfl hS ⟨rfl, rfl⟩
                · replace H := hbf hc10 H
                  obtain ⟨x17, H, HK8⟩ := hb H
                  refine sqj (fun a w => ∃ (x8 : Bool) , St e s11 w [pt g1 41 ([(.int .i64 x4.Lsn), (.int .i64 x4.Tx), (.int .i64 x4.Prev), (.int .i64 x4.Kind), (.int .i64 x4.Oid), (.bool x4.Before.Has), (.int .i64 x4.Before.O.Kind), v1, v2, (.bool x4.After.Has), (.int .i64 x4.After.O.Kind), v3, v4, (.int .i64 x4.Next), v5])] ∧ Fr 75 a [(1, (.pointer (some ⟨g1, 0, none⟩))), (69, (.bool x8))] ∧ spec_RecOk.c5 k x4 x8 = some r) ?_ ?_
                  · skip
                    refine sq ?_
                    refine rg ?_
                    refine stp hF (p_eql rfl rfl) (by decide) (fun a hF => ?_)
                    refine stp hF (p_assign rfl) (by decide) (fun a hF => ?_)
                    refine nilN ?_
                    refine xn ?_
                    refine cnd hF rfl (fun hc13 => ?_) (fun hc13 => ?_)
                    · replace H := hbt hc13 H
                      refine skN ?_
                      refine xn ?_
                      obtain rfl := hsm H
                      exact ⟨(decide (x4.Kind = 2)), hS, hF.cut ⟨rfl, rfl, trivial⟩, HK8⟩
                    · replace H := hbf hc13 H
                      refine sq ?_
                      refine rg ?_
                      refine stp hF (p_eql rfl rfl) (by decide) (fun a hF => ?_)
                      refine stp hF (p_assign rfl) (by decide) (fun a hF => ?_)
                      refine nilN ?_
                      refine xn ?_
                      refine cnd hF rfl (fun hc14 => ?_) (fun hc14 => ?_)
                      · replace H := hbt hc14 H
                        refine skN ?_
                        refine xn ?_
                        obtain rfl := hsm H
                        exact ⟨(decide (x4.Kind = 3)), hS, hF.cut ⟨rfl, rfl, trivial⟩, HK8⟩
                      · replace H := hbf hc14 H
                        refine rg ?_
                        refine stp hF (p_eql rfl rfl) (by decide) (fun a hF => ?_)
                        refine stp hF (p_assign rfl) (by decide) (fun a hF => ?_)
                        refine nilN ?_
                        refine xn ?_
                        obtain rfl := hsm H
                        exact ⟨(decide (x4.Kind = 5)), hS, hF.cut ⟨rfl, rfl, trivial⟩, HK8⟩
                  · clear H HK8 hS hF
                    rintro a w ⟨x8, hS, hF, H⟩
                    unfold spec_RecOk.c5 at H
                    refine cnd hF rfl (fun hc15 => ?_) (fun hc15 => ?_)
                    · replace H := hbt hc15 H
                      refine sq ?_
                      refine rg ?_
                      refine stp hF (p_ldb_agg (i := 0) (l := []) (m := [(.int .i64 x4.Lsn), (.int .i64 x4.Tx), (.int .i64 x4.Prev), (.int .i64 x4.Kind), (.int .i64 x4.Oid), (.bool x4.Before.Has), (.int .i64 x4.Before.O.Kind), v1, v2, (.bool x4.After.Has), (.int .i64 x4.After.O.Kind), v3, v4, (.int .i64 x4.Next), v5]) (r := []) hS rfl rfl ia_41 ti_41 rfl rfl rfl) (by decide) (fun a hF => ?_)
                      obtain ⟨x9, hx13, H⟩ := hb H
                      refine ste hF (e_callA (fst := []) (vs := [(.agg #[(.int .i64 x4.Lsn), (.int .i64 x4.Tx), (.int .i64 x4.Prev), (.int .i64 x4.Kind), (.int .i64 x4.Oid), (.bool x4.Before.Has), (.int .i64 x4.Before.O.Kind), v1, v2, (.bool x4.After.Has), (.int .i64 x4.After.O.Kind), v3, v4, (.int .i64 x4.Next), v5]), (.bool true), (.bool false), (.bool false), (.bool false), (.bool false)]) (cap := []) rfl rfl go_77 (St.call (A := []) (B := [pt g1 41 ([(.int .i64 x4.Lsn), (.int .i64 x4.Tx), (.int .i64 x4.Prev), (.int .i64 x4.Kind), (.int .i64 x4.Oid), (.bool x4.Before.Has), (.int .i64 x4.Before.O.Kind), v1, v2, (.bool x4.After.Has), (.int .i64 x4.After.O.Kind), v3, v4, (.int .i64 x4.Next), v5])]) hS (spec_l4Zero.spec k _ _ x4 true false false false false v1 v2 v3 v4 v5 (((((h1.mono hg1).mono hg3).mono hg5).mono hg9).mono hg11) (((((h2.mono hg1).mono hg3).mono hg5).mono hg9).mono hg11) (((((h3.mono hg1).mono hg3).mono hg5).mono hg9).mono hg11) (((((h4.mono hg1).mono hg3).mono hg5).mono hg9).mono hg11) (((((h5.mono hg1).mono hg3).mono hg5).mono hg9).mono hg11) _ hx13)) rfl) (by decide) (fun v w a hR hF => ?_)
                      obtain ⟨s21, A14, hg20, hS, hR⟩ := hR
                      obtain ⟨hv13, rfl⟩ := hR; obtain rfl := hv13.symm
                      have hS : St e s21 w [pt g1 41 ([(.int .i64 x4.Lsn), (.int .i64 x4.Tx), (.int .i64 x4.Prev), (.int .i64 x4.Kind), (.int .i64 x4.Oid), (.bool x4.Before.Has), (.int .i64 x4.Before.O.Kind), v1, v2, (.bool x4.After.Has), (.int .i64 x4.After.O.Kind), v3, v4, (.int .i64 x4.Next), v5])] := hS
                      refine stp hF (p_assign rfl) (by decide) (fun a hF => ?_)
                      refine nilN ?_
                      refine xn ?_
                      refine rt ?_
                      refine br (xr ?_)
                      obtain rfl := hsm H
                      replace hS := hS.sel (is := []) (A' := []) rfl
                      exact ret1 hF rfl rfl hS ⟨rfl, rfl⟩
                    · replace H := hbf hc15 H
                      refine skN ?_
                      refine bn (xn ?_)
                      refine sq ?_
                      refine rg ?_
                      refine stp hF (p_assign rfl) (by decide) (fun a hF => ?_)
                      refine nilN ?_
                      refine xn ?_
                      refine rt ?_
                      obtain rfl := hsm H
                      replace hS := hS.sel (is := []) (A' := []) rfl
                      exact ret1 hF rfl rfl hS ⟨rfl, rfl⟩

def impl_groups.c1 (k : Nat) : Option (Int × Int × Bool × Bool) :=
  (some (0, 0, false, true))
def impl_groups.c2 (k : Nat) (rec_l1 : Int → Bool → Int → Option (Ex (Int × Int × Bool × Bool) Unit)) (x1 : (List Int)) (x2 : Int) (x3 : Int) (x4 : Int) (x5 : Bool) : Option (Ex (Int × Int × Bool × Bool) Unit) :=
  (if (decide (127 < (w64 (rd x1 (w64 (x2 + x3)))))) = true then (rec_l1 x4 x5 (w64 (x3 + 1))) else (some (Ex.ret (x4, w64 ((w64 (x2 + x3)) + 1), (x5 && ((decide ((w64 (rd x1 (w64 (x2 + x3)))) ≠ 0)) || (decide (x3 = 0)))), false))))
def impl_groups.l1 (x2 : Int) (x1 : (List Int)) : Nat → Int → Bool → Int → Option (Ex (Int × Int × Bool × Bool) Unit)
  | 0, _, _, _ => none
  | k + 1, x6, x7, x3 => (if (decide ((w64 (x2 + x3)) < (x1.length : Int))) = true then (if 0 ≤ (w64 (x2 + x3)) ∧ (w64 (x2 + x3)) < (x1.length : Int) then (((if (decide (x3 < 6)) = true then (if 0 ≤ (w64 (7 * x3)) then (some (bor .i64 x6 (bshl .i64 (band .i64 (w64 (rd x1 (w64 (x2 + x3)))) 127) (w64 (7 * x3))), x7)) else none) else (if (decide ((band .i64 (w64 (rd x1 (w64 (x2 + x3)))) 127) ≠ 0)) = true then (some (x6, false)) else (some (x6, x7)))) : Option (Int × Bool)).bind fun x8 => impl_groups.c2 k (impl_groups.l1 x2 x1 k) x1 x2 x3 x8.1 x8.2) else none) else (some (Ex.go ())))
def impl_groups.f (k : Nat) (x1 : (List Int)) (x2 : Int) : Option (Int × Int × Bool × Bool) :=
  (((impl_groups.l1 x2 x1 k 0 true 0) : Option (Ex (Int × Int × Bool × Bool) Unit)).bind fun x9 => Ex.on x9 (fun r => some r) (fun y => impl_groups.c1 k))
set_option maxRecDepth 100000 in
set_option maxHeartbeats 4000000 in
theorem impl_groups.spec (k : Nat) (s0 : HF) (w : World) (x1 : (List Int)) (x2 : Int) (v1 : Value) (h1 : Sl (Kd.int .u8) s0 v1 x1) (r : Int × Int × Bool × Bool) (H : impl_groups.f k x1 x2 = some r) :
    Law Try.prog 149 #[v1, (.int .i64 x2)] s0 w [] (fun v s1 A1 => v = (.tuple #[(.int .i64 r.1), (.int .i64 r.2.1), (.bool r.2.2.1), (.bool r.2.2.2)]) ∧ A1 = []) := by
  unfold impl_groups.f at H
  refine Law.intro Try.func149 rfl [(0, v1), (1, (.int .i64 x2))] (Nat.le_of_ble_eq_true rfl) (enter_lk ⟨rfl, rfl, trivial⟩) (fun e a hS hF => ?_)
  have hF : Fr 57 a [(0, v1), (1, (.int .i64 x2))] := hF
  refine sq ?_
  refine rg ?_
  refine stp hF (p_assign rfl) (by decide) (fun a hF => ?_)
  refine stp hF (p_assign rfl) (by decide) (fun a hF => ?_)
  refine stp hF (p_assign rfl) (by decide) (fun a hF => ?_)
  refine stp hF (p_assign rfl) (by decide) (fun a hF => ?_)
  refine nilN ?_
  refine xn ?_
  refine sq ?_
  refine rg ?_
  refine stp hF (p_assign rfl) (by decide) (fun a hF => ?_)
  refine nilN ?_
  refine xn ?_
  refine sq ?_
  refine rg ?_
  refine stp hF (p_assign rfl) (by decide) (fun a hF => ?_)
  refine nilN ?_
  refine xn ?_
  obtain ⟨x9, H, HK1⟩ := hb H
  refine sqj (fun a w => St e s0 w [] ∧ Fr 57 a [] ∧ impl_groups.c1 k = some r) ?_ ?_
  · skip
    refine sq ?_
    refine rg ?_
    refine stp hF (p_assign rfl) (by decide) (fun a hF => ?_)
    refine nilN ?_
    refine xn ?_
    refine blk ?_
    refine loop_ind (fun k1 a w => ∃ (x6 : Int) (x7 : Bool) (x3 : Int) , St e s0 w [] ∧ Fr 57 a [(0, v1), (1, (.int .i64 x2)), (8, (.int .i64 x6)), (9, (.bool x7)), (10, (.int .i64 x3))] ∧ impl_groups.l1 x2 x1 k1 x6 x7 x3 = some x9) k ?_ ?_ ?_
    · skip
      exact ⟨0, true, 0, hS, hF.cut ⟨rfl, rfl, rfl, rfl, rfl, trivial⟩, H⟩
    · clear H hS hF
      rintro a w ⟨x6, x7, x3, hS, hF, H⟩
      exact absurd (show none = some _ from H) (by simp)
    · clear H hS hF
      rintro k1 a w ⟨x6, x7, x3, hS, hF, H⟩
      rw [impl_groups.l1.eq_2] at H
      refine sq ?_
      refine sq ?_
      refine rg ?_
      refine stp hF (p_move rfl) (by decide) (fun a hF => ?_)
      refine stp hF (p_move rfl) (by decide) (fun a hF => ?_)
      refine stp hF (p_add (c := w64 (x2 + x3)) rfl rfl rfl) (by decide) (fun a hF => ?_)
      refine stp hF (p_move rfl) (by decide) (fun a hF => ?_)
      refine stp hF (p_lenr un_24 rfl h1) (by decide) (fun a hF => ?_)
      refine stp hF (p_lss rfl rfl) (by decide) (fun a hF => ?_)
      refine nilN ?_
      refine xn ?_
      refine cnd hF rfl (fun hc1 => ?_) (fun hc1 => ?_)
      · replace H := hbt hc1 H
        refine skN ?_
        refine xn ?_
        refine sq ?_
        refine blk ?_
        refine sq ?_
        refine rg ?_
        refine stp hF (p_move rfl) (by decide) (fun a hF => ?_)
        refine stp hF (p_move rfl) (by decide) (fun a hF => ?_)
        refine stp hF (p_move rfl) (by decide) (fun a hF => ?_)
        refine stp hF (p_add (c := w64 (x2 + x3)) rfl rfl rfl) (by decide) (fun a hF => ?_)
        obtain ⟨hq1, H⟩ := hck H
        obtain ⟨ad1, h2, p1⟩ := p_idxr (P := Try.prog) (i := (w64 (x2 + x3))) h1 un_24 ti_5 hq1.1 hq1.2
        refine stp hF (p1 rfl rfl) (by decide) (fun a hF => ?_)
        refine stp hF (p_ldr_int rfl hS h2 ia_5) (by decide) (fun a hF => ?_)
        refine stp hF (p_cvint (c := w64 (rd x1 (w64 (x2 + x3)))) un_5 un_3 rfl rfl) (by decide) (fun a hF => ?_)
        refine stp hF (p_assign rfl) (by decide) (fun a hF => ?_)
        refine nilN ?_
        refine xn ?_
        obtain ⟨x8, H, HK2⟩ := hb H
        refine sqj (fun a w => ∃ (x4 : Int) (x5 : Bool) , St e s0 w [] ∧ Fr 57 a [(0, v1), (1, (.int .i64 x2)), (8, (.int .i64 x4)), (9, (.bool x5)), (10, (.int .i64 x3)), (11, (.int .i64 (w64 (rd x1 (w64 (x2 + x3))))))] ∧ impl_groups.c2 k1 (impl_groups.l1 x2 x1 k1) x1 x2 x3 x4 x5 = some x9) ?_ ?_
        · skip
          refine blk ?_
          refine sq ?_
          refine rg ?_
          refine stp hF (p_move rfl) (by decide) (fun a hF => ?_)
          refine stp hF (p_lss rfl rfl) (by decide) (fun a hF => ?_)
          refine stp hF (p_assign rfl) (by decide) (fun a hF => ?_)
          refine nilN ?_
          refine xn ?_
          refine cnd hF rfl (fun hc2 => ?_) (fun hc2 => ?_)
          · replace H := hbt hc2 H
            refine rg ?_
            refine stp hF (p_move rfl) (by decide) (fun a hF => ?_)
            refine stp hF (p_move rfl) (by decide) (fun a hF => ?_)
            refine stp hF (p_and (c := band .i64 (w64 (rd x1 (w64 (x2 + x3)))) 127) rfl rfl rfl) (by decide) (fun a hF => ?_)
            refine stp hF (p_move rfl) (by decide) (fun a hF => ?_)
            refine stp hF (p_mul (c := w64 (7 * x3)) rfl rfl rfl) (by decide) (fun a hF => ?_)
            obtain ⟨hq2, H⟩ := hck H
            refine stp hF (p_shl (c := bshl .i64 (band .i64 (w64 (rd x1 (w64 (x2 + x3)))) 127) (w64 (7 * x3))) rfl rfl (Int.not_lt.mpr hq2) rfl) (by decide) (fun a hF => ?_)
            refine stp hF (p_or (c := bor .i64 x6 (bshl .i64 (band .i64 (w64 (rd x1 (w64 (x2 + x3)))) 127) (w64 (7 * x3)))) rfl rfl rfl) (by decide) (fun a hF => ?_)
            refine stp hF (p_assign rfl) (by decide) (fun a hF => ?_)
            refine nilN ?_
            refine bn (xn ?_)
            obtain rfl := hsm H
            exact ⟨(bor .i64 x6 (bshl .i64 (band .i64 (w64 (rd x1 (w64 (x2 + x3)))) 127) (w64 (7 * x3)))), x7, hS, hF.cut ⟨rfl, rfl, rfl, rfl, rfl, rfl, trivial⟩, HK2⟩
          · replace H := hbf hc2 H
            refine sq ?_
            refine rg ?_
            refine stp hF (p_move rfl) (by decide) (fun a hF => ?_)
            refine stp hF (p_and (c := band .i64 (w64 (rd x1 (w64 (x2 + x3)))) 127) rfl rfl rfl) (by decide) (fun a hF => ?_)
            refine stp hF (p_neq rfl rfl) (by decide) (fun a hF => ?_)
            refine stp hF (p_assign rfl) (by decide) (fun a hF => ?_)
            refine nilN ?_
            refine xn ?_
            refine cnd hF rfl (fun hc3 => ?_) (fun hc3 => ?_)
            · replace H := hbt hc3 H
              refine rg ?_
              refine stp hF (p_assign rfl) (by decide) (fun a hF => ?_)
              refine nilN ?_
              refine bn (xn ?_)
              obtain rfl := hsm H
              exact ⟨x6, false, hS, hF.cut ⟨rfl, rfl, rfl, rfl, rfl, rfl, trivial⟩, HK2⟩
            · replace H := hbf hc3 H
              refine skN ?_
              refine bn (xn ?_)
              obtain rfl := hsm H
              exact ⟨x6, x7, hS, hF.cut ⟨rfl, rfl, rfl, rfl, rfl, rfl, trivial⟩, HK2⟩
        · clear H HK2 hS hF
          rintro a w ⟨x4, x5, hS, hF, H⟩
          unfold impl_groups.c2 at H
          refine sq ?_
          refine sq ?_
          refine rg ?_
          refine stp hF (p_move rfl) (by decide) (fun a hF => ?_)
          refine stp hF (p_gtr rfl rfl) (by decide) (fun a hF => ?_)
          refine nilN ?_
          refine xn ?_
          refine cnd hF rfl (fun hc4 => ?_) (fun hc4 => ?_)
          · replace H := hbt hc4 H
            refine exi ?_
            refine xe (hit (xn ?_))
            refine rg ?_
            refine stp hF (p_move rfl) (by decide) (fun a hF => ?_)
            refine stp hF (p_add (c := w64 (x3 + 1)) rfl rfl rfl) (by decide) (fun a hF => ?_)
            refine stp hF (p_assign rfl) (by decide) (fun a hF => ?_)
            refine nilN ?_
            refine xn ?_
            exact ⟨x4, x5, (w64 (x3 + 1)), hS, hF.cut ⟨rfl, rfl, rfl, rfl, rfl, trivial⟩, H⟩
          · replace H := hbf hc4 H
            refine skN ?_
            refine xn ?_
            refine sq ?_
            refine rg ?_
            refine stp hF (p_move rfl) (by decide) (fun a hF => ?_)
            refine stp hF (p_move rfl) (by decide) (fun a hF => ?_)
            refine stp hF (p_move rfl) (by decide) (fun a hF => ?_)
            refine stp hF (p_add (c := w64 (x2 + x3)) rfl rfl rfl) (by decide) (fun a hF => ?_)
            refine stp hF (p_add (c := w64 ((w64 (x2 + x3)) + 1)) rfl rfl rfl) (by decide) (fun a hF => ?_)
            refine stp hF (p_move rfl) (by decide) (fun a hF => ?_)
            refine stp hF (p_move rfl) (by decide) (fun a hF => ?_)
            refine cutj 7 (fun a w => St e s0 w [] ∧ Fr 57 a [(43, (.int .i64 x4)), (47, (.int .i64 (w64 ((w64 (x2 + x3)) + 1)))), (56, (.bool (x5 && ((decide ((w64 (rd x1 (w64 (x2 + x3)))) ≠ 0)) || (decide (x3 = 0))))))]) rfl rfl ?_ ?_
            · rcases Bool.eq_false_or_eq_true (x5) with hc5 | hc5
              · skip
                refine gonE (j := 6) hF rfl rfl hc5 ?_
                refine stp hF (p_move rfl) (by decide) (fun a hF => ?_)
                refine gonE (j := 6) hF rfl rfl hc5 ?_
                refine stp hF (p_neq rfl rfl) (by decide) (fun a hF => ?_)
                refine gonE (j := 6) hF rfl rfl hc5 ?_
                refine stp hF (p_move rfl) (by decide) (fun a hF => ?_)
                refine cutj 3 (fun a w => St e s0 w [] ∧ Fr 57 a [(43, (.int .i64 x4)), (47, (.int .i64 (w64 ((w64 (x2 + x3)) + 1)))), (49, (.bool x5)), (55, (.bool ((decide ((w64 (rd x1 (w64 (x2 + x3)))) ≠ 0)) || (decide (x3 = 0)))))]) rfl rfl ?_ ?_
                · rcases Bool.eq_false_or_eq_true (decide ((w64 (rd x1 (w64 (x2 + x3)))) ≠ 0)) with hc6 | hc6
                  · skip
                    refine gofD (j := 9) hF rfl rfl (by rw [hc6]; decide) (by decide) (fun a hF => ?_)
                    refine gofD (j := 9) hF rfl rfl (by rw [hc6]; decide) (by decide) (fun a hF => ?_)
                    refine gonE (j := 6) hF rfl rfl hc5 ?_
                    refine stp hF (p_orT (decide (x3 = 0)) rfl hc6 rfl) (by decide) (fun a hF => ?_)
                    refine nilN ?_
                    refine xn ?_
                    exact ⟨hS, hF.cut ⟨rfl, rfl, rfl, rfl, trivial⟩⟩
                  · skip
                    refine gonE (j := 9) hF rfl rfl hc6 ?_
                    refine stp hF (p_move rfl) (by decide) (fun a hF => ?_)
                    refine gonE (j := 9) hF rfl rfl hc6 ?_
                    refine stp hF (p_eql rfl rfl) (by decide) (fun a hF => ?_)
                    refine gonE (j := 6) hF rfl rfl hc5 ?_
                    refine stp hF (p_orF rfl hc6 rfl) (by decide) (fun a hF => ?_)
                    refine nilN ?_
                    refine xn ?_
                    exact ⟨hS, hF.cut ⟨rfl, rfl, rfl, rfl, trivial⟩⟩
                clear hS hF
                rintro a w ⟨hS, hF⟩
                refine stp hF (p_andT rfl hc5 rfl) (by decide) (fun a hF => ?_)
                refine nilN ?_
                refine xn ?_
                exact ⟨hS, hF.cut ⟨rfl, rfl, rfl, trivial⟩⟩
              · skip
                refine gofD (j := 6) hF rfl rfl (by rw [hc5]; decide) (by decide) (fun a hF => ?_)
                refine gofD (j := 6) hF rfl rfl (by rw [hc5]; decide) (by decide) (fun a hF => ?_)
                refine gofD (j := 6) hF rfl rfl (by rw [hc5]; decide) (by decide) (fun a hF => ?_)
                refine gofU (j := 9) hF rfl rfl (by decide) (fun a hF => ?_)
                refine gofU (j := 9) hF rfl rfl (by decide) (fun a hF => ?_)
                refine gofD (j := 6) hF rfl rfl (by rw [hc5]; decide) (by decide) (fun a hF => ?_)
                refine stp hF (p_andF ((decide ((w64 (rd x1 (w64 (x2 + x3)))) ≠ 0)) || (decide (x3 = 0))) rfl hc5 rfl) (by decide) (fun a hF => ?_)
                refine nilN ?_
                refine xn ?_
                exact ⟨hS, hF.cut ⟨rfl, rfl, rfl, trivial⟩⟩
            clear hS hF
            rintro a w ⟨hS, hF⟩
            refine stp hF (p_assign rfl) (by decide) (fun a hF => ?_)
            refine stp hF (p_assign rfl) (by decide) (fun a hF => ?_)
            refine stp hF (p_assign rfl) (by decide) (fun a hF => ?_)
            refine stp hF (p_assign rfl) (by decide) (fun a hF => ?_)
            refine nilN ?_
            refine xn ?_
            refine rt ?_
            refine br (xr (xr (br (xr ?_))))
            obtain rfl := hsm H
            have H := hon1 HK1
            obtain rfl := hsm H
            exact ret4 hF rfl rfl rfl rfl rfl hS ⟨rfl, rfl⟩
      · replace H := hbf hc1 H
        refine exi ?_
        refine xe (xe (hit (xn ?_)))
        obtain rfl := hsm H
        exact ⟨hS, hF.cut trivial, HK1⟩
  · clear H HK1 hS hF
    rintro a w ⟨hS, hF, H⟩
    unfold impl_groups.c1 at H
    refine sq ?_
    refine rg ?_
    refine stp hF (p_assign rfl) (by decide) (fun a hF => ?_)
    refine stp hF (p_assign rfl) (by decide) (fun a hF => ?_)
    refine stp hF (p_assign rfl) (by decide) (fun a hF => ?_)
    refine stp hF (p_assign rfl) (by decide) (fun a hF => ?_)
    refine nilN ?_
    refine xn ?_
    refine rt ?_
    obtain rfl := hsm H
    exact ret4 hF rfl rfl rfl rfl rfl hS ⟨rfl, rfl⟩

def impl_GetInt.c1 (k : Nat) (x1 : Int) (x2 : Int × Int × Bool × Bool) (x3 : Bool) : Option (Int × Int × Bool) :=
  (if x3 = true then (some (0, 0, false)) else (some (x1, x2.2.1, true)))
def impl_GetInt.c2 (k : Nat) (x2 : Int × Int × Bool × Bool) (x1 : Int) : Option (Int × Int × Bool) :=
  ((if (!x2.2.2.1) = true then (some true) else ((impl_in.f k x1 (-1000000000000) 1000000000000).bind fun x4 => (some (!x4))) : Option Bool).bind fun x5 => impl_GetInt.c1 k x1 x2 x5)
def impl_GetInt.f (k : Nat) (x6 : (List Int)) (x7 : Int) : Option (Int × Int × Bool) :=
  ((impl_in.f k x7 0 (x6.length : Int)).bind fun x8 => (if (!x8) = true then (some (0, 0, false)) else ((impl_groups.f k x6 x7).bind fun x2 => (((if (decide ((x2.1.tmod 2) = 1)) = true then (some (w64 ((w64 (0 - (w64 (x2.1 + 1)))).tdiv 2))) else (some (w64 (x2.1.tdiv 2)))) : Option Int).bind fun x9 => impl_GetInt.c2 k x2 x9))))
set_option maxRecDepth 100000 in
set_option maxHeartbeats 4000000 in
theorem impl_GetInt.spec (k : Nat) (s0 : HF) (w : World) (x6 : (List Int)) (x7 : Int) (v1 : Value) (h1 : Sl (Kd.int .u8) s0 v1 x6) (r : Int × Int × Bool) (H : impl_GetInt.f k x6 x7 = some r) :
    Law Try.prog 142 #[v1, (.int .i64 x7)] s0 w [] (fun v s1 A1 => v = (.tuple #[(.int .i64 r.1), (.int .i64 r.2.1), (.bool r.2.2)]) ∧ A1 = []) := by
  unfold impl_GetInt.f at H
  refine Law.intro Try.func142 rfl [(0, v1), (1, (.int .i64 x7))] (Nat.le_of_ble_eq_true rfl) (enter_lk ⟨rfl, rfl, trivial⟩) (fun e a hS hF => ?_)
  have hF : Fr 43 a [(0, v1), (1, (.int .i64 x7))] := hF
  refine sq ?_
  refine rg ?_
  refine stp hF (p_assign rfl) (by decide) (fun a hF => ?_)
  refine stp hF (p_assign rfl) (by decide) (fun a hF => ?_)
  refine stp hF (p_assign rfl) (by decide) (fun a hF => ?_)
  refine nilN ?_
  refine xn ?_
  refine sq ?_
  refine sq ?_
  refine rg ?_
  refine stp hF (p_move rfl) (by decide) (fun a hF => ?_)
  refine stp hF (p_move rfl) (by decide) (fun a hF => ?_)
  refine stp hF (p_lenr un_24 rfl h1) (by decide) (fun a hF => ?_)
  obtain ⟨x8, hx1, H⟩ := hb H
  refine ste hF (e_callA (fst := []) (vs := [(.int .i64 x7), (.int .i64 0), (.int .i64 (x6.length : Int))]) (cap := []) rfl rfl go_79 (St.call (A := []) (B := []) hS (impl_in.spec k _ _ x7 0 (x6.length : Int) _ hx1)) rfl) (by decide) (fun v w a hR hF => ?_)
  obtain ⟨s2, A2, hg1, hS, hR⟩ := hR
  obtain ⟨hv1, rfl⟩ := hR; obtain rfl := hv1.symm
  have hS : St e s2 w [] := hS
  refine stp hF (p_not rfl) (by decide) (fun a hF => ?_)
  refine nilN ?_
  refine xn ?_
  refine cnd hF rfl (fun hc1 => ?_) (fun hc1 => ?_)
  · replace H := hbt hc1 H
    refine sq ?_
    refine rg ?_
    refine stp hF (p_assign rfl) (by decide) (fun a hF => ?_)
    refine stp hF (p_assign rfl) (by decide) (fun a hF => ?_)
    refine stp hF (p_assign rfl) (by decide) (fun a hF => ?_)
    refine nilN ?_
    refine xn ?_
    refine rt ?_
    refine xr ?_
    obtain rfl := hsm H
    exact ret3 hF rfl rfl rfl rfl hS ⟨rfl, rfl⟩
  · replace H := hbf hc1 H
    refine skN ?_
    refine xn ?_
    refine sq ?_
    refine rg ?_
    refine stp hF (p_move rfl) (by decide) (fun a hF => ?_)
    refine stp hF (p_move rfl) (by decide) (fun a hF => ?_)
    obtain ⟨x2, hx2, H⟩ := hb H
    refine ste hF (e_callA (fst := []) (vs := [v1, (.int .i64 x7)]) (cap := []) rfl rfl go_149 (St.call (A := []) (B := []) hS (impl_groups.spec k _ _ x6 x7 v1 (h1.mono hg1) _ hx2)) rfl) (by decide) (fun v w a hR hF => ?_)
    obtain ⟨s3, A3, hg2, hS, hR⟩ := hR
    obtain ⟨hv2, rfl⟩ := hR; obtain rfl := hv2.symm
    have hS : St e s3 w [] := hS
    refine stp hF (p_move rfl) (by decide) (fun a hF => ?_)
    refine stp hF (p_extract rfl rfl) (by decide) (fun a hF => ?_)
    refine stp hF (p_extract rfl rfl) (by decide) (fun a hF => ?_)
    refine stp hF (p_extract rfl rfl) (by decide) (fun a hF => ?_)
    refine stp hF (p_extract rfl rfl) (by decide) (fun a hF => ?_)
    refine stp hF (p_assign rfl) (by decide) (fun a hF => ?_)
    refine stp hF (p_assign rfl) (by decide) (fun a hF => ?_)
    refine stp hF (p_assign rfl) (by decide) (fun a hF => ?_)
    refine stp hF (p_assign rfl) (by decide) (fun a hF => ?_)
    refine nilN ?_
    refine xn ?_
    refine sq ?_
    refine rg ?_
    refine stp hF (p_move rfl) (by decide) (fun a hF => ?_)
    refine stp hF (p_quo (c := w64 (x2.1.tdiv 2)) rfl rfl (by decide) rfl) (by decide) (fun a hF => ?_)
    refine stp hF (p_assign rfl) (by decide) (fun a hF => ?_)
    refine nilN ?_
    refine xn ?_
    obtain ⟨x9, H, HK1⟩ := hb H
    refine sqj (fun a w => ∃ (x1 : Int) , St e s3 w [] ∧ Fr 43 a [(8, (.int .i64 x2.2.1)), (9, (.bool x2.2.2.1)), (11, (.int .i64 x1))] ∧ impl_GetInt.c2 k x2 x1 = some r) ?_ ?_
    · skip
      refine sq ?_
      refine rg ?_
      refine stp hF (p_move rfl) (by decide) (fun a hF => ?_)
      refine stp hF (p_rem (c := x2.1.tmod 2) rfl rfl (by decide) rfl) (by decide) (fun a hF => ?_)
      refine stp hF (p_eql rfl rfl) (by decide) (fun a hF => ?_)
      refine nilN ?_
      refine xn ?_
      refine cnd hF rfl (fun hc2 => ?_) (fun hc2 => ?_)
      · replace H := hbt hc2 H
        refine rg ?_
        refine stp hF (p_move rfl) (by decide) (fun a hF => ?_)
        refine stp hF (p_add (c := w64 (x2.1 + 1)) rfl rfl rfl) (by decide) (fun a hF => ?_)
        refine stp hF (p_neg (c := w64 (0 - (w64 (x2.1 + 1)))) rfl rfl) (by decide) (fun a hF => ?_)
        refine stp hF (p_quo (c := w64 ((w64 (0 - (w64 (x2.1 + 1)))).tdiv 2)) rfl rfl (by decide) rfl) (by decide) (fun a hF => ?_)
        refine stp hF (p_assign rfl) (by decide) (fun a hF => ?_)
        refine nilN ?_
        refine xn ?_
        obtain rfl := hsm H
        exact ⟨(w64 ((w64 (0 - (w64 (x2.1 + 1)))).tdiv 2)), hS, hF.cut ⟨rfl, rfl, rfl, trivial⟩, HK1⟩
      · replace H := hbf hc2 H
        refine skN ?_
        refine xn ?_
        obtain rfl := hsm H
        exact ⟨(w64 (x2.1.tdiv 2)), hS, hF.cut ⟨rfl, rfl, rfl, trivial⟩, HK1⟩
    · clear H HK1 hS hF
      rintro a w ⟨x1, hS, hF, H⟩
      unfold impl_GetInt.c2 at H
      refine sq ?_
      refine sq ?_
      refine rg ?_
      refine stp hF (p_move rfl) (by decide) (fun a hF => ?_)
      refine stp hF (p_not rfl) (by decide) (fun a hF => ?_)
      refine stp hF (p_move rfl) (by decide) (fun a hF => ?_)
      obtain ⟨x5, H, HK2⟩ := hb H
      refine cutj 4 (fun a w => ∃ (x3 : Bool) (s4 : HF) , St e s4 w [] ∧ Fr 43 a [(8, (.int .i64 x2.2.1)), (11, (.int .i64 x1)), (40, (.bool x3))] ∧ Sub s3 s4 ∧ impl_GetInt.c1 k x1 x2 x3 = some r) rfl rfl ?_ ?_
      · rcases Bool.eq_false_or_eq_true ((!x2.2.2.1)) with hc3 | hc3
        · replace H := hbt hc3 H
          refine gofD (j := 2) hF rfl rfl (by rw [hc3]; decide) (by decide) (fun a hF => ?_)
          refine gofD (j := 2) hF rfl rfl (by rw [hc3]; decide) (by decide) (fun a hF => ?_)
          refine gofD (j := 2) hF rfl rfl (by rw [hc3]; decide) (by decide) (fun a hF => ?_)
          refine stp hF (p_pickT rfl hc3 rfl) (by decide) (fun a hF => ?_)
          refine nilN ?_
          refine xn ?_
          obtain rfl := hsm H
          exact ⟨true, s3, hS, hF.cut ⟨rfl, rfl, rfl, trivial⟩, (Sub.refl _), HK2⟩
        · replace H := hbf hc3 H
          refine gonE (j := 2) hF rfl rfl hc3 ?_
          refine stp hF (p_move rfl) (by decide) (fun a hF => ?_)
          obtain ⟨x4, hx3, H⟩ := hb H
          refine gonE (j := 2) hF rfl rfl hc3 ?_
          refine ste hF (e_callA (fst := []) (vs := [(.int .i64 x1), (.int .i64 (-1000000000000)), (.int .i64 1000000000000)]) (cap := []) rfl rfl go_79 (St.call (A := []) (B := []) hS (impl_in.spec k _ _ x1 (-1000000000000) 1000000000000 _ hx3)) rfl) (by decide) (fun v w a hR hF => ?_)
          obtain ⟨s5, A4, hg3, hS, hR⟩ := hR
          obtain ⟨hv3, rfl⟩ := hR; obtain rfl := hv3.symm
          have hS : St e s5 w [] := hS
          refine gonE (j := 2) hF rfl rfl hc3 ?_
          refine stp hF (p_not rfl) (by decide) (fun a hF => ?_)
          refine stp hF (p_pickF rfl hc3 rfl) (by decide) (fun a hF => ?_)
          refine nilN ?_
          refine xn ?_
          obtain rfl := hsm H
          exact ⟨(!x4), s5, hS, hF.cut ⟨rfl, rfl, rfl, trivial⟩, hg3, HK2⟩
      · clear H HK2 hS hF
        rintro a w ⟨x3, s4, hS, hF, hg4, H⟩
        unfold impl_GetInt.c1 at H
        refine nilN ?_
        refine xn ?_
        refine cnd hF rfl (fun hc4 => ?_) (fun hc4 => ?_)
        · replace H := hbt hc4 H
          refine sq ?_
          refine rg ?_
          refine stp hF (p_assign rfl) (by decide) (fun a hF => ?_)
          refine stp hF (p_assign rfl) (by decide) (fun a hF => ?_)
          refine stp hF (p_assign rfl) (by decide) (fun a hF => ?_)
          refine nilN ?_
          refine xn ?_
          refine rt ?_
          refine xr ?_
          obtain rfl := hsm H
          exact ret3 hF rfl rfl rfl rfl hS ⟨rfl, rfl⟩
        · replace H := hbf hc4 H
          refine skN ?_
          refine xn ?_
          refine sq ?_
          refine rg ?_
          refine stp hF (p_move rfl) (by decide) (fun a hF => ?_)
          refine stp hF (p_move rfl) (by decide) (fun a hF => ?_)
          refine stp hF (p_assign rfl) (by decide) (fun a hF => ?_)
          refine stp hF (p_assign rfl) (by decide) (fun a hF => ?_)
          refine stp hF (p_assign rfl) (by decide) (fun a hF => ?_)
          refine nilN ?_
          refine xn ?_
          refine rt ?_
          obtain rfl := hsm H
          exact ret3 hF rfl rfl rfl rfl hS ⟨rfl, rfl⟩

def impl_reader_one.f (k : Nat) (x1 : (List Int)) (x2 : Int) (x3 : Bool) : Option (Int × (List Int) × Int × Bool) :=
  ((impl_GetInt.f k x1 x2).bind fun x4 => (if (x3 || (!x4.2.2)) = true then (some (0, x1, x2, true)) else (some (x4.1, x1, x4.2.1, x3))))
set_option maxRecDepth 100000 in
set_option maxHeartbeats 4000000 in
theorem impl_reader_one.spec (k : Nat) (s0 : HF) (w : World) (x1 : (List Int)) (x2 : Int) (x3 : Bool) (v1 : Value) (g1 : Nat) (h1 : Sl (Kd.int .u8) s0 v1 x1) (r : Int × (List Int) × Int × Bool) (H : impl_reader_one.f k x1 x2 x3 = some r) :
    Law Try.prog 85 #[(.pointer (some ⟨g1, 0, none⟩))] s0 w [pt g1 99 ([v1, (.int .i64 x2), (.bool x3)])] (fun v s1 A1 => ∃ (u0 : Value), v = (.int .i64 r.1) ∧ A1 = [pt g1 99 ([u0, (.int .i64 r.2.2.1), (.bool r.2.2.2)])] ∧ Sl (Kd.int .u8) s1 u0 r.2.1) := by
  unfold impl_reader_one.f at H
  refine Law.intro Try.func85 rfl [(0, (.pointer (some ⟨g1, 0, none⟩)))] (Nat.le_of_ble_eq_true rfl) (enter_lk ⟨rfl, trivial⟩) (fun e a hS hF => ?_)
  have hF : Fr 35 a [(0, (.pointer (some ⟨g1, 0, none⟩)))] := hF
  refine sq ?_
  refine rg ?_
  refine stp hF (p_assign rfl) (by decide) (fun a hF => ?_)
  refine nilN ?_
  refine xn ?_
  refine sq ?_
  replace hS : St e s0 w.drew [pt g1 99 ([v1, (.int .i64 x2), (.bool x3)])] := hS.drewN 1
  refine drw [0, 1, 2, 3, 4, 5, 6, 7, 8, 9, 10, 11, 12, 13, 14, 15] mixed (by kernel_rfl) (by decide) (hF.cut (L' := [(0, (.pointer (some ⟨g1, 0, none⟩))), (2, (.int .i64 0))]) ⟨rfl, rfl, trivial⟩) ?_
  clear hF
  generalize w.drew = w at hS ⊢
  refine pk1 rfl (by decide) rfl (by kernel_rfl) rfl (p_move rfl) ?_
  refine pk1 rfl (by decide) rfl (by kernel_rfl) rfl (p_nilck rfl) ?_
  refine pk1 rfl (by decide) rfl (by kernel_rfl) rfl (p_fldb (o' := 0) rfl fi_99_0 rfl) ?_
  refine pk1 rfl (by decide) rfl (by kernel_rfl) rfl (p_ldb_one (i := 0) hS rfl rfl ia_24 rfl) ?_
  refine pk1 rfl (by decide) rfl (by kernel_rfl) rfl (p_move rfl) ?_
  refine pk1 rfl (by decide) rfl (by kernel_rfl) rfl (p_nilck rfl) ?_
  refine pk1 rfl (by decide) rfl (by kernel_rfl) rfl (p_fldb (o' := 1) rfl fi_99_1 rfl) ?_
  refine pk1 rfl (by decide) rfl (by kernel_rfl) rfl (p_ldb_one (i := 0) hS rfl rfl ia_3 rfl) ?_
  obtain ⟨x4, hx1, H⟩ := hb H
  refine pkE [6, 5, 4, 2, 1, 0] rfl (by decide) (by kernel_rfl) (by kernel_rfl) (e_callA (fst := []) (vs := [v1, (.int .i64 x2)]) (cap := []) rfl rfl go_142 (St.call (A := []) (B := [pt g1 99 ([v1, (.int .i64 x2), (.bool x3)])]) hS (impl_GetInt.spec k _ _ x1 x2 v1 h1 _ hx1)) rfl) ?_
  intro v w hR
  obtain ⟨s2, A2, hg1, hS, hR⟩ := hR
  obtain ⟨hv1, rfl⟩ := hR; obtain rfl := hv1.symm
  have hS : St e s2 w [pt g1 99 ([v1, (.int .i64 x2), (.bool x3)])] := hS
  refine ⟨⟨knw rfl rfl rfl (p_fldb (o' := 1) rfl fi_99_1 rfl), ⟨knw rfl rfl rfl (p_nilck rfl), ⟨knw rfl rfl rfl (p_move rfl), ⟨knw rfl rfl rfl (p_fldb (o' := 0) rfl fi_99_0 rfl), ⟨knw rfl rfl rfl (p_nilck rfl), ⟨knw rfl rfl rfl (p_move rfl), trivial⟩⟩⟩⟩⟩⟩, ?_⟩
  refine pk1 rfl (by decide) rfl (by kernel_rfl) rfl (p_move rfl) ?_
  refine pk1 rfl (by decide) rfl (by kernel_rfl) rfl (p_extract rfl rfl) ?_
  refine pk1 rfl (by decide) rfl (by kernel_rfl) rfl (p_extract rfl rfl) ?_
  refine pk1 rfl (by decide) rfl (by kernel_rfl) rfl (p_extract rfl rfl) ?_
  refine pkE [12, 11] rfl (by decide) (by kernel_rfl) (by kernel_rfl) (puEf (p_assign rfl)) ?_
  rintro v w' ⟨hv, rfl⟩
  obtain rfl := hv.symm
  refine ⟨⟨knw rfl rfl rfl (p_extract rfl rfl), ⟨knw rfl rfl rfl (p_extract rfl rfl), trivial⟩⟩, ?_⟩
  refine pkE [12] rfl (by decide) (by kernel_rfl) (by kernel_rfl) (puEf (p_assign rfl)) ?_
  rintro v w' ⟨hv, rfl⟩
  obtain rfl := hv.symm
  refine ⟨⟨knw rfl rfl rfl (p_extract rfl rfl), trivial⟩, ?_⟩
  refine pkE [] rfl (by decide) (by kernel_rfl) (by kernel_rfl) (puEf (p_assign rfl)) ?_
  rintro v w' ⟨hv, rfl⟩
  obtain rfl := hv.symm
  refine ⟨trivial, ?_⟩
  refine pkF (fun a hF => ?_)
  refine xn ?_
  refine sq ?_
  refine sq ?_
  refine rg ?_
  refine stp hF (p_move rfl) (by decide) (fun a hF => ?_)
  refine stp hF (p_nilck rfl) (by decide) (fun a hF => ?_)
  refine stp hF (p_fldb (o' := 2) rfl fi_99_2 rfl) (by decide) (fun a hF => ?_)
  refine stp hF (p_ldb_one (i := 0) hS rfl rfl ia_4 rfl) (by decide) (fun a hF => ?_)
  refine stp hF (p_move rfl) (by decide) (fun a hF => ?_)
  refine cutj 3 (fun a w => St e s2 w [pt g1 99 ([v1, (.int .i64 x2), (.bool x3)])] ∧ Fr 35 a [(0, (.pointer (some ⟨g1, 0, none⟩))), (3, (.int .i64 x4.1)), (4, (.int .i64 x4.2.1)), (26, (.bool (x3 || (!x4.2.2))))]) rfl rfl ?_ ?_
  · rcases Bool.eq_false_or_eq_true (x3) with hc1 | hc1
    · skip
      refine gofD (j := 4) hF rfl rfl (by rw [hc1]; decide) (by decide) (fun a hF => ?_)
      refine gofD (j := 4) hF rfl rfl (by rw [hc1]; decide) (by decide) (fun a hF => ?_)
      refine stp hF (p_orT (!x4.2.2) rfl hc1 rfl) (by decide) (fun a hF => ?_)
      refine nilN ?_
      refine xn ?_
      exact ⟨hS, hF.cut ⟨rfl, rfl, rfl, rfl, trivial⟩⟩
    · skip
      refine gonE (j := 4) hF rfl rfl hc1 ?_
      refine stp hF (p_move rfl) (by decide) (fun a hF => ?_)
      refine gonE (j := 4) hF rfl rfl hc1 ?_
      refine stp hF (p_not rfl) (by decide) (fun a hF => ?_)
      refine stp hF (p_orF rfl hc1 rfl) (by decide) (fun a hF => ?_)
      refine nilN ?_
      refine xn ?_
      exact ⟨hS, hF.cut ⟨rfl, rfl, rfl, rfl, trivial⟩⟩
  clear hS hF
  rintro a w ⟨hS, hF⟩
  refine nilN ?_
  refine xn ?_
  refine cnd hF rfl (fun hc2 => ?_) (fun hc2 => ?_)
  · replace H := hbt hc2 H
    refine sq ?_
    refine rg ?_
    refine stp hF (p_move rfl) (by decide) (fun a hF => ?_)
    refine stp hF (p_nilck rfl) (by decide) (fun a hF => ?_)
    refine stp hF (p_fldb (o' := 2) rfl fi_99_2 rfl) (by decide) (fun a hF => ?_)
    refine ste0 hF (e_stb (i := 0) (l := [v1, (.int .i64 x2)]) (m := [(.bool x3)]) (r := []) (m' := [(.bool true)]) (cs' := [v1, (.int .i64 x2), (.bool true)]) hS rfl rfl rfl ti_4 rfl rfl rfl rfl rfl (one_cons rfl one_nil) rfl) (fun v w a hR hF => ?_)
    have hS : St e s2 w [pt g1 99 ([v1, (.int .i64 x2), (.bool true)])] := hR
    refine nilN ?_
    refine xn ?_
    refine sq ?_
    refine rg ?_
    refine stp hF (p_assign rfl) (by decide) (fun a hF => ?_)
    refine nilN ?_
    refine xn ?_
    refine rt ?_
    refine xr ?_
    obtain rfl := hsm H
    exact ret1 hF rfl rfl hS ⟨v1, rfl, rfl, (h1.mono hg1)⟩
  · replace H := hbf hc2 H
    refine skN ?_
    refine xn ?_
    refine sq ?_
    refine rg ?_
    refine stp hF (p_move rfl) (by decide) (fun a hF => ?_)
    refine stp hF (p_move rfl) (by decide) (fun a hF => ?_)
    refine stp hF (p_nilck rfl) (by decide) (fun a hF => ?_)
    refine stp hF (p_fldb (o' := 1) rfl fi_99_1 rfl) (by decide) (fun a hF => ?_)
    refine ste0 hF (e_stb (i := 0) (l := [v1]) (m := [(.int .i64 x2)]) (r := [(.bool x3)]) (m' := [(.int .i64 x4.2.1)]) (cs' := [v1, (.int .i64 x4.2.1), (.bool x3)]) hS rfl rfl rfl ti_3 rfl rfl rfl rfl rfl (one_cons rfl one_nil) rfl) (fun v w a hR hF => ?_)
    have hS : St e s2 w [pt g1 99 ([v1, (.int .i64 x4.2.1), (.bool x3)])] := hR
    refine nilN ?_
    refine xn ?_
    refine sq ?_
    refine rg ?_
    refine stp hF (p_move rfl) (by decide) (fun a hF => ?_)
    refine stp hF (p_assign rfl) (by decide) (fun a hF => ?_)
    refine nilN ?_
    refine xn ?_
    refine rt ?_
    obtain rfl := hsm H
    exact ret1 hF rfl rfl hS ⟨v1, rfl, rfl, (h1.mono hg1)⟩

def impl_reader_many.f (k : Nat) (x1 : (List Int)) (x2 : Int) (x3 : Bool) (x4 : Int) : Option (Int × (List Int) × Int × Bool) :=
  ((impl_reader_one.f k x1 x2 x3).bind fun x5 => ((impl_in.f k x5.1 0 x4).bind fun x6 => (if (!x6) = true then (some (0, x5.2.1, x5.2.2.1, true)) else (some (x5.1, x5.2.1, x5.2.2.1, x5.2.2.2)))))
set_option maxRecDepth 100000 in
set_option maxHeartbeats 4000000 in
theorem impl_reader_many.spec (k : Nat) (s0 : HF) (w : World) (x1 : (List Int)) (x2 : Int) (x3 : Bool) (x4 : Int) (v1 : Value) (g1 : Nat) (h1 : Sl (Kd.int .u8) s0 v1 x1) (r : Int × (List Int) × Int × Bool) (H : impl_reader_many.f k x1 x2 x3 x4 = some r) :
    Law Try.prog 87 #[(.pointer (some ⟨g1, 0, none⟩)), (.int .i64 x4)] s0 w [pt g1 99 ([v1, (.int .i64 x2), (.bool x3)])] (fun v s1 A1 => ∃ (u0 : Value), v = (.int .i64 r.1) ∧ A1 = [pt g1 99 ([u0, (.int .i64 r.2.2.1), (.bool r.2.2.2)])] ∧ Sl (Kd.int .u8) s1 u0 r.2.1) := by
  unfold impl_reader_many.f at H
  refine Law.intro Try.func87 rfl [(0, (.pointer (some ⟨g1, 0, none⟩))), (1, (.int .i64 x4))] (Nat.le_of_ble_eq_true rfl) (enter_lk ⟨rfl, rfl, trivial⟩) (fun e a hS hF => ?_)
  have hF : Fr 16 a [(0, (.pointer (some ⟨g1, 0, none⟩))), (1, (.int .i64 x4))] := hF
  refine sq ?_
  refine rg ?_
  refine stp hF (p_assign rfl) (by decide) (fun a hF => ?_)
  refine nilN ?_
  refine xn ?_
  refine sq ?_
  refine rg ?_
  refine stp hF (p_move rfl) (by decide) (fun a hF => ?_)
  obtain ⟨x5, hx1, H⟩ := hb H
  refine ste hF (e_callA (fst := []) (vs := [(.pointer (some ⟨g1, 0, none⟩))]) (cap := []) rfl rfl go_85 (St.call (A := [pt g1 99 ([v1, (.int .i64 x2), (.bool x3)])]) (B := []) hS (impl_reader_one.spec k _ _ x1 x2 x3 v1 g1 h1 _ hx1)) rfl) (by decide) (fun v w a hR hF => ?_)
  obtain ⟨s2, A2, hg1, hS, hR⟩ := hR
  obtain ⟨v2, hv1, rfl, h2⟩ := hR; obtain rfl := hv1.symm
  have hS : St e s2 w [pt g1 99 ([v2, (.int .i64 x5.2.2.1), (.bool x5.2.2.2)])] := hS
  refine stp hF (p_assign rfl) (by decide) (fun a hF => ?_)
  refine nilN ?_
  refine xn ?_
  refine sq ?_
  refine sq ?_
  refine rg ?_
  refine stp hF (p_move rfl) (by decide) (fun a hF => ?_)
  refine stp hF (p_move rfl) (by decide) (fun a hF => ?_)
  obtain ⟨x6, hx2, H⟩ := hb H
  refine ste hF (e_callA (fst := []) (vs := [(.int .i64 x5.1), (.int .i64 0), (.int .i64 x4)]) (cap := []) rfl rfl go_79 (St.call (A := []) (B := [pt g1 99 ([v2, (.int .i64 x5.2.2.1), (.bool x5.2.2.2)])]) hS (impl_in.spec k _ _ x5.1 0 x4 _ hx2)) rfl) (by decide) (fun v w a hR hF => ?_)
  obtain ⟨s3, A3, hg2, hS, hR⟩ := hR
  obtain ⟨hv2, rfl⟩ := hR; obtain rfl := hv2.symm
  have hS : St e s3 w [pt g1 99 ([v2, (.int .i64 x5.2.2.1), (.bool x5.2.2.2)])] := hS
  refine stp hF (p_not rfl) (by decide) (fun a hF => ?_)
  refine nilN ?_
  refine xn ?_
  refine cnd hF rfl (fun hc1 => ?_) (fun hc1 => ?_)
  · replace H := hbt hc1 H
    refine sq ?_
    refine rg ?_
    refine stp hF (p_move rfl) (by decide) (fun a hF => ?_)
    refine stp hF (p_nilck rfl) (by decide) (fun a hF => ?_)
    refine stp hF (p_fldb (o' := 2) rfl fi_99_2 rfl) (by decide) (fun a hF => ?_)
    refine ste0 hF (e_stb (i := 0) (l := [v2, (.int .i64 x5.2.2.1)]) (m := [(.bool x5.2.2.2)]) (r := []) (m' := [(.bool true)]) (cs' := [v2, (.int .i64 x5.2.2.1), (.bool true)]) hS rfl rfl rfl ti_4 rfl rfl rfl rfl rfl (one_cons rfl one_nil) rfl) (fun v w a hR hF => ?_)
    have hS : St e s3 w [pt g1 99 ([v2, (.int .i64 x5.2.2.1), (.bool true)])] := hR
    refine nilN ?_
    refine xn ?_
    refine sq ?_
    refine rg ?_
    refine stp hF (p_assign rfl) (by decide) (fun a hF => ?_)
    refine nilN ?_
    refine xn ?_
    refine rt ?_
    refine xr ?_
    obtain rfl := hsm H
    exact ret1 hF rfl rfl hS ⟨v2, rfl, rfl, (h2.mono hg2)⟩
  · replace H := hbf hc1 H
    refine skN ?_
    refine xn ?_
    refine sq ?_
    refine rg ?_
    refine stp hF (p_move rfl) (by decide) (fun a hF => ?_)
    refine stp hF (p_assign rfl) (by decide) (fun a hF => ?_)
    refine nilN ?_
    refine xn ?_
    refine rt ?_
    obtain rfl := hsm H
    exact ret1 hF rfl rfl hS ⟨v2, rfl, rfl, (h2.mono hg2)⟩

def impl_reader_ints.c1 (k : Nat) (x1 : (List Int)) (x2 : Int) (x3 : Bool) (x4 : (List Int)) : Option ((List Int) × (List Int) × Int × Bool) :=
  (some (x4, x1, x2, x3))
def impl_reader_ints.l1 (x5 : Int × (List Int) × Int × Bool) : Nat → (List Int) → Int → Bool → (List Int) → Int → Option ((List Int) × Int × Bool × (List Int))
  | 0, _, _, _, _, _ => none
  | k + 1, x6, x7, x8, x9, x10 => (if (decide (x10 < x5.1)) = true then ((impl_reader_one.f k x6 x7 x8).bind fun x11 => (if x9.length + 1 ≤ 17592186044416 then ((impl_reader_ints.l1 x5 k) x11.2.1 x11.2.2.1 x11.2.2.2 (x9 ++ ([x11.1] : List Int)) (w64 (x10 + 1))) else none)) else (some (x6, x7, x8, x9)))
def impl_reader_ints.f (k : Nat) (x12 : (List Int)) (x13 : Int) (x14 : Bool) (x15 : Int) : Option ((List Int) × (List Int) × Int × Bool) :=
  ((((impl_reader_many.f k x12 x13 x14 x15).bind fun x5 => (impl_reader_ints.l1 x5 k x5.2.1 x5.2.2.1 x5.2.2.2 ([] : List Int) 0)) : Option ((List Int) × Int × Bool × (List Int))).bind fun x16 => impl_reader_ints.c1 k x16.1 x16.2.1 x16.2.2.1 x16.2.2.2)
set_option maxRecDepth 100000 in
set_option maxHeartbeats 4000000 in
theorem impl_reader_ints.spec (k : Nat) (s0 : HF) (w : World) (x12 : (List Int)) (x13 : Int) (x14 : Bool) (x15 : Int) (v1 : Value) (g1 : Nat) (h1 : Sl (Kd.int .u8) s0 v1 x12) (r : (List Int) × (List Int) × Int × Bool) (H : impl_reader_ints.f k x12 x13 x14 x15 = some r) :
    Law Try.prog 171 #[(.pointer (some ⟨g1, 0, none⟩)), (.int .i64 x15)] s0 w [pt g1 99 ([v1, (.int .i64 x13), (.bool x14)])] (fun v s1 A1 => ∃ (u0 : Value) (u1 : Value), v = u1 ∧ A1 = [pt g1 99 ([u0, (.int .i64 r.2.2.1), (.bool r.2.2.2)]), Ow (Kd.int .i64) 3 u1 r.1] ∧ Sl (Kd.int .u8) s1 u0 r.2.1) := by
  unfold impl_reader_ints.f at H
  refine Law.intro Try.func171 rfl [(0, (.pointer (some ⟨g1, 0, none⟩))), (1, (.int .i64 x15))] (Nat.le_of_ble_eq_true rfl) (enter_lk ⟨rfl, rfl, trivial⟩) (fun e a hS hF => ?_)
  have hF : Fr 18 a [(0, (.pointer (some ⟨g1, 0, none⟩))), (1, (.int .i64 x15))] := hF
  refine sq ?_
  refine rg ?_
  refine stp hF (p_assign rfl) (by decide) (fun a hF => ?_)
  refine nilN ?_
  refine xn ?_
  refine sq ?_
  refine rg ?_
  refine stp hF (p_assign rfl) (by decide) (fun a hF => ?_)
  refine nilN ?_
  refine xn ?_
  obtain ⟨x16, H, HK1⟩ := hb H
  refine sqj (fun a w => ∃ (x1 : (List Int)) (x2 : Int) (x3 : Bool) (x4 : (List Int)) (s2 : HF) (v2 : Value) (v3 : Value) , St e s2 w [pt g1 99 ([v2, (.int .i64 x2), (.bool x3)]), Ow (Kd.int .i64) 3 v3 x4] ∧ Fr 18 a [(5, v3)] ∧ Sub s0 s2 ∧ Sl (Kd.int .u8) s2 v2 x1 ∧ impl_reader_ints.c1 k x1 x2 x3 x4 = some r) ?_ ?_
  · skip
    refine sq ?_
    refine rg ?_
    refine stp hF (p_move rfl) (by decide) (fun a hF => ?_)
    refine stp hF (p_move rfl) (by decide) (fun a hF => ?_)
    obtain ⟨x5, hx1, H⟩ := hb H
    refine ste hF (e_callA (fst := []) (vs := [(.pointer (some ⟨g1, 0, none⟩)), (.int .i64 x15)]) (cap := []) rfl rfl go_87 (St.call (A := [pt g1 99 ([v1, (.int .i64 x13), (.bool x14)])]) (B := []) hS (impl_reader_many.spec k _ _ x12 x13 x14 x15 v1 g1 h1 _ hx1)) rfl) (by decide) (fun v w a hR hF => ?_)
    obtain ⟨s3, A2, hg1, hS, hR⟩ := hR
    obtain ⟨v4, hv1, rfl, h2⟩ := hR; obtain rfl := hv1.symm
    have hS : St e s3 w [pt g1 99 ([v4, (.int .i64 x5.2.2.1), (.bool x5.2.2.2)])] := hS
    refine stp hF (p_move rfl) (by decide) (fun a hF => ?_)
    refine nilN ?_
    refine xn ?_
    refine blk ?_
    refine loop_ind (fun k1 a w => ∃ (x6 : (List Int)) (x7 : Int) (x8 : Bool) (x9 : (List Int)) (x10 : Int) (s4 : HF) (v5 : Value) (v6 : Value) , St e s4 w [pt g1 99 ([v5, (.int .i64 x7), (.bool x8)]), Ow (Kd.int .i64) 3 v6 x9] ∧ Fr 18 a [(0, (.pointer (some ⟨g1, 0, none⟩))), (5, v6), (8, (.int .i64 x5.1)), (9, (.int .i64 x10))] ∧ Sub s3 s4 ∧ Sl (Kd.int .u8) s4 v5 x6 ∧ impl_reader_ints.l1 x5 k1 x6 x7 x8 x9 x10 = some x16) k ?_ ?_ ?_
    · skip
      replace hS := hS.ownNil (Kd.int .i64) 3 none
      replace hS := hS.sel (is := [1, 0]) (A' := [pt g1 99 ([v4, (.int .i64 x5.2.2.1), (.bool x5.2.2.2)]), Ow (Kd.int .i64) 3 (.slice none 0 0) ([] : List Int)]) rfl
      exact ⟨x5.2.1, x5.2.2.1, x5.2.2.2, ([] : List Int), 0, s3, v4, (.slice none 0 0), hS, hF.cut ⟨rfl, rfl, rfl, rfl, trivial⟩, (Sub.refl _), h2, H⟩
    · clear H hS hF
      rintro a w ⟨x6, x7, x8, x9, x10, s4, v5, v6, hS, hF, hg2, h3, H⟩
      exact absurd (show none = some _ from H) (by simp)
    · clear H hS hF
      rintro k1 a w ⟨x6, x7, x8, x9, x10, s4, v5, v6, hS, hF, hg2, h3, H⟩
      rw [impl_reader_ints.l1.eq_2] at H
      refine sq ?_
      refine rg ?_
      refine stp hF (p_lss rfl rfl) (by decide) (fun a hF => ?_)
      refine nilN ?_
      refine xn ?_
      refine sq ?_
      refine cnd hF rfl (fun hc1 => ?_) (fun hc1 => ?_)
      · replace H := hbt hc1 H
        refine skN ?_
        refine xn ?_
        refine sq ?_
        refine blk ?_
        refine rg ?_
        refine stp hF (p_move rfl) (by decide) (fun a hF => ?_)
        refine stp hF (p_move rfl) (by decide) (fun a hF => ?_)
        obtain ⟨x11, hx2, H⟩ := hb H
        refine ste hF (e_callA (fst := []) (vs := [(.pointer (some ⟨g1, 0, none⟩))]) (cap := []) rfl rfl go_85 (St.call (A := [pt g1 99 ([v5, (.int .i64 x7), (.bool x8)])]) (B := [Ow (Kd.int .i64) 3 v6 x9]) hS (impl_reader_one.spec k1 _ _ x6 x7 x8 v5 g1 h3 _ hx2)) rfl) (by decide) (fun v w a hR hF => ?_)
        obtain ⟨s5, A3, hg3, hS, hR⟩ := hR
        obtain ⟨v7, hv2, rfl, h4⟩ := hR; obtain rfl := hv2.symm
        have hS : St e s5 w [pt g1 99 ([v7, (.int .i64 x11.2.2.1), (.bool x11.2.2.2)]), Ow (Kd.int .i64) 3 v6 x9] := hS
        refine ste hF (e_bslice (kd := (Kd.int .i64)) (et := 3) (ps := [(0, (.tmp 13))]) (vs := [(0, (.int .i64 x11.1))]) (cs := [(.int .i64 x11.1)]) (xs := ([x11.1] : List Int)) hS rfl (by intro w; kernel_rfl) rfl (by decide) (Nat.le_of_ble_eq_true rfl) (by exact (rows_cons (kd := (Kd.int .i64)) (x := x11.1) (c := [(.int .i64 x11.1)]) (cs := []) rfl (Rows.nil _ _ _ _)))) (by decide) (fun v8 w a hR hF => ?_)
        have hS : St e s5 w [Ow (Kd.int .i64) 3 v8 ([x11.1] : List Int), pt g1 99 ([v7, (.int .i64 x11.2.2.1), (.bool x11.2.2.2)]), Ow (Kd.int .i64) 3 v6 x9] := hR
        obtain ⟨hq1, H⟩ := hck H
        refine ste hF (e_append (n := 2) hS rfl rfl rfl (hS.src (n := 0) rfl) un_34 ti_3 rfl (by decide) (by decide) (Nat.le_trans (Nat.mul_le_mul_right 8 hq1) (by decide))) (by decide) (fun v9 w a hR hF => ?_)
        have hS : St e s5 w [Ow (Kd.int .i64) 3 v9 (x9 ++ ([x11.1] : List Int)), Ow (Kd.int .i64) 3 v8 ([x11.1] : List Int), pt g1 99 ([v7, (.int .i64 x11.2.2.1), (.bool x11.2.2.2)])] := hR
        replace hS := hS.sel (is := [0, 1]) (A' := [Ow (Kd.int .i64) 3 v9 (x9 ++ ([x11.1] : List Int)), pt g1 99 ([v7, (.int .i64 x11.2.2.1), (.bool x11.2.2.2)])]) rfl
        refine stp hF (p_assign rfl) (by decide) (fun a hF => ?_)
        refine nilN ?_
        refine bn (xn ?_)
        refine rg ?_
        refine stp hF (p_add (c := w64 (x10 + 1)) rfl rfl rfl) (by decide) (fun a hF => ?_)
        refine stp hF (p_move rfl) (by decide) (fun a hF => ?_)
        refine nilN ?_
        refine xn ?_
        replace hS := hS.sel (is := [1, 0]) (A' := [pt g1 99 ([v7, (.int .i64 x11.2.2.1), (.bool x11.2.2.2)]), Ow (Kd.int .i64) 3 v9 (x9 ++ ([x11.1] : List Int))]) rfl
        exact ⟨x11.2.1, x11.2.2.1, x11.2.2.2, (x9 ++ ([x11.1] : List Int)), (w64 (x10 + 1)), s5, v7, v9, hS, hF.cut ⟨rfl, rfl, rfl, rfl, trivial⟩, (hg2.trans hg3), h4, H⟩
      · replace H := hbf hc1 H
        refine exi ?_
        refine xe (xe (hit (xn ?_)))
        obtain rfl := hsm H
        exact ⟨x6, x7, x8, x9, s4, v5, v6, hS, hF.cut ⟨rfl, trivial⟩, (hg1.trans hg2), h3, HK1⟩
  · clear H HK1 hS hF
    rintro a w ⟨x1, x2, x3, x4, s2, v2, v3, hS, hF, hg4, h5, H⟩
    unfold impl_reader_ints.c1 at H
    refine sq ?_
    refine rg ?_
    refine stp hF (p_move rfl) (by decide) (fun a hF => ?_)
    refine stp hF (p_assign rfl) (by decide) (fun a hF => ?_)
    refine nilN ?_
    refine xn ?_
    refine rt ?_
    obtain rfl := hsm H
    exact ret1 hF rfl rfl hS ⟨v2, v3, rfl, rfl, h5⟩

def impl_reader_done.c1 (k : Nat) (x1 : (List Int)) (x2 : Int) (x3 : Bool) (x4 : Bool) : Option (Bool × (List Int) × Int × Bool) :=
  (some (x4, x1, x2, x3))
def impl_reader_done.f (k : Nat) (x1 : (List Int)) (x2 : Int) (x3 : Bool) : Option (Bool × (List Int) × Int × Bool) :=
  (((if (!x3) = true then (some (decide (x2 = (x1.length : Int)))) else (some false)) : Option Bool).bind fun x5 => impl_reader_done.c1 k x1 x2 x3 x5)
set_option maxRecDepth 100000 in
set_option maxHeartbeats 4000000 in
theorem impl_reader_done.spec (k : Nat) (s0 : HF) (w : World) (x1 : (List Int)) (x2 : Int) (x3 : Bool) (v1 : Value) (g1 : Nat) (h1 : Sl (Kd.int .u8) s0 v1 x1) (r : Bool × (List Int) × Int × Bool) (H : impl_reader_done.f k x1 x2 x3 = some r) :
    Law Try.prog 88 #[(.pointer (some ⟨g1, 0, none⟩))] s0 w [pt g1 99 ([v1, (.int .i64 x2), (.bool x3)])] (fun v s1 A1 => ∃ (u0 : Value), v = (.bool r.1) ∧ A1 = [pt g1 99 ([u0, (.int .i64 r.2.2.1), (.bool r.2.2.2)])] ∧ Sl (Kd.int .u8) s1 u0 r.2.1) := by
  unfold impl_reader_done.f at H
  refine Law.intro Try.func88 rfl [(0, (.pointer (some ⟨g1, 0, none⟩)))] (Nat.le_of_ble_eq_true rfl) (enter_lk ⟨rfl, trivial⟩) (fun e a hS hF => ?_)
  have hF : Fr 20 a [(0, (.pointer (some ⟨g1, 0, none⟩)))] := hF
  refine sq ?_
  refine rg ?_
  refine stp hF (p_assign rfl) (by decide) (fun a hF => ?_)
  refine nilN ?_
  refine xn ?_
  obtain ⟨x5, H, HK1⟩ := hb H
  refine sqj (fun a w => ∃ (x4 : Bool) , St e s0 w [pt g1 99 ([v1, (.int .i64 x2), (.bool x3)])] ∧ Fr 20 a [(2, (.bool x4))] ∧ impl_reader_done.c1 k x1 x2 x3 x4 = some r) ?_ ?_
  · skip
    replace hS : St e s0 w.drew [pt g1 99 ([v1, (.int .i64 x2), (.bool x3)])] := hS.drewN 1
    refine drw [0, 1, 2, 3, 4, 5, 6, 7, 8, 9, 10, 11, 12, 13, 14, 15, 16, 17] mixed (by kernel_rfl) (by decide) (hF.cut (L' := [(0, (.pointer (some ⟨g1, 0, none⟩))), (2, (.bool false))]) ⟨rfl, rfl, trivial⟩) ?_
    clear hF
    generalize w.drew = w at hS ⊢
    refine pk1 rfl (by decide) rfl (by kernel_rfl) rfl (p_move rfl) ?_
    refine pk1 rfl (by decide) rfl (by kernel_rfl) rfl (p_nilck rfl) ?_
    refine pk1 rfl (by decide) rfl (by kernel_rfl) rfl (p_fldb (o' := 2) rfl fi_99_2 rfl) ?_
    refine pk1 rfl (by decide) rfl (by kernel_rfl) rfl (p_ldb_one (i := 0) hS rfl rfl ia_4 rfl) ?_
    refine pk1 rfl (by decide) rfl (by kernel_rfl) rfl (p_not rfl) ?_
    refine pk1 rfl (by decide) rfl (by kernel_rfl) rfl (p_move rfl) ?_
    rcases Bool.eq_false_or_eq_true ((!x3)) with hc1 | hc1
    · replace H := hbt hc1 H
      refine pkOn (j := 5) rfl (by decide) rfl (by kernel_rfl) rfl rfl rfl hc1 (p_move rfl) ?_
      refine pkOn (j := 5) rfl (by decide) rfl (by kernel_rfl) rfl rfl rfl hc1 (p_nilck rfl) ?_
      refine pkOn (j := 5) rfl (by decide) rfl (by kernel_rfl) rfl rfl rfl hc1 (p_fldb (o' := 1) rfl fi_99_1 rfl) ?_
      refine pkOn (j := 5) rfl (by decide) rfl (by kernel_rfl) rfl rfl rfl hc1 (p_ldb_one (i := 0) hS rfl rfl ia_3 rfl) ?_
      refine pkOn (j := 5) rfl (by decide) rfl (by kernel_rfl) rfl rfl rfl hc1 (p_move rfl) ?_
      refine pkOn (j := 5) rfl (by decide) rfl (by kernel_rfl) rfl rfl rfl hc1 (p_nilck rfl) ?_
      refine pkOn (j := 5) rfl (by decide) rfl (by kernel_rfl) rfl rfl rfl hc1 (p_fldb (o' := 0) rfl fi_99_0 rfl) ?_
      refine pkOn (j := 5) rfl (by decide) rfl (by kernel_rfl) rfl rfl rfl hc1 (p_ldb_one (i := 0) hS rfl rfl ia_24 rfl) ?_
      refine pkOn (j := 5) rfl (by decide) rfl (by kernel_rfl) rfl rfl rfl hc1 (p_lenr un_24 rfl h1) ?_
      refine pkOn (j := 5) rfl (by decide) rfl (by kernel_rfl) rfl rfl rfl hc1 (p_eql rfl rfl) ?_
      refine pk1 rfl (by decide) rfl (by kernel_rfl) rfl (p_pickT rfl hc1 rfl) ?_
      refine pkE [] rfl (by decide) (by kernel_rfl) (by kernel_rfl) (puEf (p_assign rfl)) ?_
      rintro v w' ⟨hv, rfl⟩
      obtain rfl := hv.symm
      refine ⟨trivial, ?_⟩
      refine pkF (fun a hF => ?_)
      refine xn ?_
      obtain rfl := hsm H
      exact ⟨(decide (x2 = (x1.length : Int))), hS, hF.cut ⟨rfl, trivial⟩, HK1⟩
    · replace H := hbf hc1 H
      refine pkOff (j := 5) rfl (by decide) rfl (by kernel_rfl) rfl rfl rfl (by rw [hc1]; decide) ?_
      refine pkOff (j := 5) rfl (by decide) rfl (by kernel_rfl) rfl rfl rfl (by rw [hc1]; decide) ?_
      refine pkOff (j := 5) rfl (by decide) rfl (by kernel_rfl) rfl rfl rfl (by rw [hc1]; decide) ?_
      refine pkOff (j := 5) rfl (by decide) rfl (by kernel_rfl) rfl rfl rfl (by rw [hc1]; decide) ?_
      refine pkOff (j := 5) rfl (by decide) rfl (by kernel_rfl) rfl rfl rfl (by rw [hc1]; decide) ?_
      refine pkOff (j := 5) rfl (by decide) rfl (by kernel_rfl) rfl rfl rfl (by rw [hc1]; decide) ?_
      refine pkOff (j := 5) rfl (by decide) rfl (by kernel_rfl) rfl rfl rfl (by rw [hc1]; decide) ?_
      refine pkOff (j := 5) rfl (by decide) rfl (by kernel_rfl) rfl rfl rfl (by rw [hc1]; decide) ?_
      refine pkOff (j := 5) rfl (by decide) rfl (by kernel_rfl) rfl rfl rfl (by rw [hc1]; decide) ?_
      refine pkOff (j := 5) rfl (by decide) rfl (by kernel_rfl) rfl rfl rfl (by rw [hc1]; decide) ?_
      refine pk1 rfl (by decide) rfl (by kernel_rfl) rfl (p_pickF rfl hc1 rfl) ?_
      refine pkE [] rfl (by decide) (by kernel_rfl) (by kernel_rfl) (puEf (p_assign rfl)) ?_
      rintro v w' ⟨hv, rfl⟩
      obtain rfl := hv.symm
      refine ⟨trivial, ?_⟩
      refine pkF (fun a hF => ?_)
      refine xn ?_
      obtain rfl := hsm H
      exact ⟨false, hS, hF.cut ⟨rfl, trivial⟩, HK1⟩
  · clear H HK1 hS hF
    rintro a w ⟨x4, hS, hF, H⟩
    unfold impl_reader_done.c1 at H
    refine rt ?_
    obtain rfl := hsm H
    exact ret1 hF rfl rfl hS ⟨v1, rfl, rfl, h1⟩

def impl_GetObj.c1 (k : Nat) (x1 : Int × (List Int) × Int × Bool) (x2 : (List Int) × (List Int) × Int × Bool) (x3 : (List Int) × (List Int) × Int × Bool) (x4 : Bool) : Option (TObj × Bool) :=
  (if x4 = true then (some ((⟨0, ([] : List Int), ([] : List Int)⟩ : TObj), false)) else (some ((⟨x1.1, x2.1, x3.1⟩ : TObj), true)))
def impl_GetObj.f (k : Nat) (x5 : (List Int)) : Option (TObj × Bool) :=
  ((impl_reader_one.f k x5 0 false).bind fun x1 => ((impl_reader_ints.f k x1.2.1 x1.2.2.1 x1.2.2.2 5).bind fun x2 => ((impl_reader_ints.f k x2.2.1 x2.2.2.1 x2.2.2.2 5).bind fun x3 => ((impl_reader_done.f k x3.2.1 x3.2.2.1 x3.2.2.2).bind fun x6 => ((if (!x6.1) = true then (some true) else ((impl_ObjOk.f k (⟨x1.1, x2.1, x3.1⟩ : TObj)).bind fun x7 => (some (!x7))) : Option Bool).bind fun x8 => impl_GetObj.c1 k x1 x2 x3 x8)))))
set_option maxRecDepth 100000 in
set_option maxHeartbeats 4000000 in
theorem impl_GetObj.spec (k : Nat) (s0 : HF) (w : World) (x5 : (List Int)) (v1 : Value) (h1 : Sl (Kd.int .u8) s0 v1 x5) (r : TObj × Bool) (H : impl_GetObj.f k x5 = some r) :
    Law Try.prog 143 #[v1] s0 w [] (fun v s1 A1 => ∃ (u0 : Value) (u1 : Value), v = (.tuple #[(.agg #[(.int .i64 r.1.Kind), u0, u1]), (.bool r.2)]) ∧ A1 = [Ow (Kd.int .i64) 3 u0 r.1.Ints, Ow (Kd.int .i64) 3 u1 r.1.Refs]) := by
  unfold impl_GetObj.f at H
  refine Law.intro Try.func143 rfl [(0, v1)] (Nat.le_of_ble_eq_true rfl) (enter_lk ⟨rfl, trivial⟩) (fun e a hS hF => ?_)
  have hF : Fr 28 a [(0, v1)] := hF
  refine sq ?_
  refine rg ?_
  refine ste hF (e_alloc (cs := [(.int .i64 0), (.slice none 0 0), (.slice none 0 0)]) hS ti_36 rfl) (by decide) (fun v w a hR hF => ?_)
  obtain ⟨g1, rfl, hS⟩ := hR
  refine stp hF (p_assign rfl) (by decide) (fun a hF => ?_)
  refine nilN ?_
  refine xn ?_
  refine sq ?_
  refine rg ?_
  refine stp hF (p_move rfl) (by decide) (fun a hF => ?_)
  refine stp hF (p_build (ps := [(0, (.tmp 6))]) (vs := [(0, v1)]) (v := (.agg #[v1, (.int .i64 0), (.bool false)])) rfl (by intro w; obtain ⟨_, _, _, e1⟩ := Sl.el h1; rw [e1]; kernel_rfl)) (by decide) (fun a hF => ?_)
  refine ste hF (e_box (cs := [v1, (.int .i64 0), (.bool false)]) hS rfl rfl) (by decide) (fun v w a hR hF => ?_)
  obtain ⟨g2, rfl, hS⟩ := hR
  refine stp hF (p_assign rfl) (by decide) (fun a hF => ?_)
  refine nilN ?_
  refine xn ?_
  refine sq ?_
  refine rg ?_
  refine stp hF (p_move rfl) (by decide) (fun a hF => ?_)
  obtain ⟨x1, hx1, H⟩ := hb H
  refine ste hF (e_callA (fst := []) (vs := [(.pointer (some ⟨g2, 0, none⟩))]) (cap := []) rfl rfl go_85 (St.call (A := [pt g2 99 ([v1, (.int .i64 0), (.bool false)])]) (B := [pt g1 36 ([(.int .i64 0), (.slice none 0 0), (.slice none 0 0)])]) hS (impl_reader_one.spec k _ _ x5 0 false v1 g2 h1 _ hx1)) rfl) (by decide) (fun v w a hR hF => ?_)
  obtain ⟨s2, A2, hg1, hS, hR⟩ := hR
  obtain ⟨v2, hv1, rfl, h2⟩ := hR; obtain rfl := hv1.symm
  have hS : St e s2 w [pt g2 99 ([v2, (.int .i64 x1.2.2.1), (.bool x1.2.2.2)]), pt g1 36 ([(.int .i64 0), (.slice none 0 0), (.slice none 0 0)])] := hS
  refine stp hF (p_build (ps := [(0, (.tmp 10))]) (vs := [(0, (.int .i64 x1.1))]) (v := (.agg #[(.int .i64 x1.1), (.slice none 0 0), (.slice none 0 0)])) rfl (by intro w; kernel_rfl)) (by decide) (fun a hF => ?_)
  refine ste hF (e_alloc (cs := [(.int .i64 0), (.slice none 0 0), (.slice none 0 0)]) hS ti_36 rfl) (by decide) (fun v w a hR hF => ?_)
  obtain ⟨g3, rfl, hS⟩ := hR
  refine ste0 hF (e_stb (i := 0) (l := []) (m := [(.int .i64 0), (.slice none 0 0), (.slice none 0 0)]) (r := []) (m' := [(.int .i64 x1.1), (.slice none 0 0), (.slice none 0 0)]) (cs' := [(.int .i64 x1.1), (.slice none 0 0), (.slice none 0 0)]) hS rfl rfl rfl ti_36 rfl rfl rfl rfl rfl (one_cons rfl (one_cons rfl (one_cons rfl one_nil))) rfl) (fun v w a hR hF => ?_)
  have hS : St e s2 w [pt g3 36 ([(.int .i64 x1.1), (.slice none 0 0), (.slice none 0 0)]), pt g2 99 ([v2, (.int .i64 x1.2.2.1), (.bool x1.2.2.2)]), pt g1 36 ([(.int .i64 0), (.slice none 0 0), (.slice none 0 0)])] := hR
  refine nilN ?_
  refine xn ?_
  refine sq ?_
  refine rg ?_
  refine stp hF (p_move rfl) (by decide) (fun a hF => ?_)
  replace hS := hS.sel (is := [1, 0, 0]) (A' := [pt g2 99 ([v2, (.int .i64 x1.2.2.1), (.bool x1.2.2.2)]), pt g3 36 ([(.int .i64 x1.1), (.slice none 0 0), (.slice none 0 0)]), pt g1 36 ([(.int .i64 0), (.slice none 0 0), (.slice none 0 0)])]) rfl
  obtain ⟨x2, hx2, H⟩ := hb H
  refine ste hF (e_callA (fst := []) (vs := [(.pointer (some ⟨g2, 0, none⟩)), (.int .i64 5)]) (cap := []) rfl rfl go_171 (St.call (A := [pt g2 99 ([v2, (.int .i64 x1.2.2.1), (.bool x1.2.2.2)])]) (B := [pt g3 36 ([(.int .i64 x1.1), (.slice none 0 0), (.slice none 0 0)]), pt g1 36 ([(.int .i64 0), (.slice none 0 0), (.slice none 0 0)])]) hS (impl_reader_ints.spec k _ _ x1.2.1 x1.2.2.1 x1.2.2.2 5 v2 g2 h2 _ hx2)) rfl) (by decide) (fun v w a hR hF => ?_)
  obtain ⟨s3, A3, hg2, hS, hR⟩ := hR
  obtain ⟨v3, v4, hv2, rfl, h3⟩ := hR; obtain rfl := hv2.symm
  have hS : St e s3 w [pt g2 99 ([v3, (.int .i64 x2.2.2.1), (.bool x2.2.2.2)]), Ow (Kd.int .i64) 3 v4 x2.1, pt g3 36 ([(.int .i64 x1.1), (.slice none 0 0), (.slice none 0 0)]), pt g1 36 ([(.int .i64 0), (.slice none 0 0), (.slice none 0 0)])] := hS
  refine stp hF (p_fldb (o' := 1) rfl fi_36_1 rfl) (by decide) (fun a hF => ?_)
  refine ste0 hF (e_stb (i := 2) (l := [(.int .i64 x1.1)]) (m := [(.slice none 0 0)]) (r := [(.slice none 0 0)]) (m' := [v4]) (cs' := [(.int .i64 x1.1), v4, (.slice none 0 0)]) hS rfl rfl rfl ti_34 rfl rfl rfl (cells_one (hS.one_ow (i := 1) rfl)) rfl (one_cons (hS.one_ow (i := 1) rfl) one_nil) rfl) (fun v w a hR hF => ?_)
  have hS : St e s3 w [pt g3 36 ([(.int .i64 x1.1), v4, (.slice none 0 0)]), pt g2 99 ([v3, (.int .i64 x2.2.2.1), (.bool x2.2.2.2)]), Ow (Kd.int .i64) 3 v4 x2.1, pt g1 36 ([(.int .i64 0), (.slice none 0 0), (.slice none 0 0)])] := hR
  refine nilN ?_
  refine xn ?_
  refine sq ?_
  refine rg ?_
  refine stp hF (p_move rfl) (by decide) (fun a hF => ?_)
  replace hS := hS.sel (is := [1, 0, 0, 0]) (A' := [pt g2 99 ([v3, (.int .i64 x2.2.2.1), (.bool x2.2.2.2)]), pt g3 36 ([(.int .i64 x1.1), v4, (.slice none 0 0)]), Ow (Kd.int .i64) 3 v4 x2.1, pt g1 36 ([(.int .i64 0), (.slice none 0 0), (.slice none 0 0)])]) rfl
  obtain ⟨x3, hx3, H⟩ := hb H
  refine ste hF (e_callA (fst := []) (vs := [(.pointer (some ⟨g2, 0, none⟩)), (.int .i64 5)]) (cap := []) rfl rfl go_171 (St.call (A := [pt g2 99 ([v3, (.int .i64 x2.2.2.1), (.bool x2.2.2.2)])]) (B := [pt g3 36 ([(.int .i64 x1.1), v4, (.slice none 0 0)]), Ow (Kd.int .i64) 3 v4 x2.1, pt g1 36 ([(.int .i64 0), (.slice none 0 0), (.slice none 0 0)])]) hS (impl_reader_ints.spec k _ _ x2.2.1 x2.2.2.1 x2.2.2.2 5 v3 g2 h3 _ hx3)) rfl) (by decide) (fun v w a hR hF => ?_)
  obtain ⟨s4, A4, hg3, hS, hR⟩ := hR
  obtain ⟨v5, v6, hv3, rfl, h4⟩ := hR; obtain rfl := hv3.symm
  have hS : St e s4 w [pt g2 99 ([v5, (.int .i64 x3.2.2.1), (.bool x3.2.2.2)]), Ow (Kd.int .i64) 3 v6 x3.1, pt g3 36 ([(.int .i64 x1.1), v4, (.slice none 0 0)]), Ow (Kd.int .i64) 3 v4 x2.1, pt g1 36 ([(.int .i64 0), (.slice none 0 0), (.slice none 0 0)])] := hS
  refine stp hF (p_fldb (o' := 2) rfl fi_36_2 rfl) (by decide) (fun a hF => ?_)
  refine ste0 hF (e_stb (i := 2) (l := [(.int .i64 x1.1), v4]) (m := [(.slice none 0 0)]) (r := []) (m' := [v6]) (cs' := [(.int .i64 x1.1), v4, v6]) hS rfl rfl rfl ti_34 rfl rfl rfl (cells_one (hS.one_ow (i := 1) rfl)) rfl (one_cons (hS.one_ow (i := 1) rfl) one_nil) rfl) (fun v w a hR hF => ?_)
  have hS : St e s4 w [pt g3 36 ([(.int .i64 x1.1), v4, v6]), pt g2 99 ([v5, (.int .i64 x3.2.2.1), (.bool x3.2.2.2)]), Ow (Kd.int .i64) 3 v6 x3.1, Ow (Kd.int .i64) 3 v4 x2.1, pt g1 36 ([(.int .i64 0), (.slice none 0 0), (.slice none 0 0)])] := hR
  refine nilN ?_
  refine xn ?_
  refine sq ?_
  refine sq ?_
  refine rg ?_
  refine stp hF (p_move rfl) (by decide) (fun a hF => ?_)
  replace hS := hS.sel (is := [1, 0, 0, 0, 0]) (A' := [pt g2 99 ([v5, (.int .i64 x3.2.2.1), (.bool x3.2.2.2)]), pt g3 36 ([(.int .i64 x1.1), v4, v6]), Ow (Kd.int .i64) 3 v6 x3.1, Ow (Kd.int .i64) 3 v4 x2.1, pt g1 36 ([(.int .i64 0), (.slice none 0 0), (.slice none 0 0)])]) rfl
  obtain ⟨x6, hx4, H⟩ := hb H
  refine ste hF (e_callA (fst := []) (vs := [(.pointer (some ⟨g2, 0, none⟩))]) (cap := []) rfl rfl go_88 (St.call (A := [pt g2 99 ([v5, (.int .i64 x3.2.2.1), (.bool x3.2.2.2)])]) (B := [pt g3 36 ([(.int .i64 x1.1), v4, v6]), Ow (Kd.int .i64) 3 v6 x3.1, Ow (Kd.int .i64) 3 v4 x2.1, pt g1 36 ([(.int .i64 0), (.slice none 0 0), (.slice none 0 0)])]) hS (impl_reader_done.spec k _ _ x3.2.1 x3.2.2.1 x3.2.2.2 v5 g2 h4 _ hx4)) rfl) (by decide) (fun v w a hR hF => ?_)
  obtain ⟨s5, A5, hg4, hS, hR⟩ := hR
  obtain ⟨v7, hv4, rfl, h5⟩ := hR; obtain rfl := hv4.symm
  have hS : St e s5 w [pt g2 99 ([v7, (.int .i64 x6.2.2.1), (.bool x6.2.2.2)]), pt g3 36 ([(.int .i64 x1.1), v4, v6]), Ow (Kd.int .i64) 3 v6 x3.1, Ow (Kd.int .i64) 3 v4 x2.1, pt g1 36 ([(.int .i64 0), (.slice none 0 0), (.slice none 0 0)])] := hS
  refine stp hF (p_not rfl) (by decide) (fun a hF => ?_)
  refine stp hF (p_move rfl) (by decide) (fun a hF => ?_)
  obtain ⟨x8, H, HK1⟩ := hb H
  refine cutj 4 (fun a w => ∃ (x4 : Bool) (s6 : HF) , St e s6 w [pt g2 99 ([v7, (.int .i64 x6.2.2.1), (.bool x6.2.2.2)]), pt g3 36 ([(.int .i64 x1.1), v4, v6]), Ow (Kd.int .i64) 3 v6 x3.1, Ow (Kd.int .i64) 3 v4 x2.1, pt g1 36 ([(.int .i64 0), (.slice none 0 0), (.slice none 0 0)])] ∧ Fr 28 a [(2, (.pointer (some ⟨g1, 0, none⟩))), (5, (.pointer (some ⟨g3, 0, none⟩))), (25, (.bool x4))] ∧ Sub s5 s6 ∧ impl_GetObj.c1 k x1 x2 x3 x4 = some r) rfl rfl ?_ ?_
  · rcases Bool.eq_false_or_eq_true ((!x6.1)) with hc1 | hc1
    · replace H := hbt hc1 H
      refine gofD (j := 3) hF rfl rfl (by rw [hc1]; decide) (by decide) (fun a hF => ?_)
      refine gofD (j := 3) hF rfl rfl (by rw [hc1]; decide) (by decide) (fun a hF => ?_)
      refine gofD (j := 3) hF rfl rfl (by rw [hc1]; decide) (by decide) (fun a hF => ?_)
      refine stp hF (p_pickT rfl hc1 rfl) (by decide) (fun a hF => ?_)
      refine nilN ?_
      refine xn ?_
      obtain rfl := hsm H
      exact ⟨true, s5, hS, hF.cut ⟨rfl, rfl, rfl, trivial⟩, (Sub.refl _), HK1⟩
    · replace H := hbf hc1 H
      refine gonE (j := 3) hF rfl rfl hc1 ?_
      refine stp hF (p_ldb_agg (i := 1) (l := []) (m := [(.int .i64 x1.1), v4, v6]) (r := []) hS rfl rfl ia_36 ti_36 rfl rfl rfl) (by decide) (fun a hF => ?_)
      replace hS := hS.sel (is := [3, 2, 0, 0, 0]) (A' := [Ow (Kd.int .i64) 3 v4 x2.1, Ow (Kd.int .i64) 3 v6 x3.1, pt g2 99 ([v7, (.int .i64 x6.2.2.1), (.bool x6.2.2.2)]), pt g3 36 ([(.int .i64 x1.1), v4, v6]), pt g1 36 ([(.int .i64 0), (.slice none 0 0), (.slice none 0 0)])]) rfl
      obtain ⟨s7, hg5, hl1, hcall1⟩ := St.lend (P := Try.prog) (Bs := [Ow (Kd.int .i64) 3 v4 x2.1, Ow (Kd.int .i64) 3 v6 x3.1]) (A := []) (B := [pt g2 99 ([v7, (.int .i64 x6.2.2.1), (.bool x6.2.2.2)]), pt g3 36 ([(.int .i64 x1.1), v4, v6]), pt g1 36 ([(.int .i64 0), (.slice none 0 0), (.slice none 0 0)])]) hS
      obtain ⟨h6, hl1⟩ := hl1.ow hg5
      obtain ⟨h7, hl1⟩ := hl1.ow hg5
      obtain ⟨x7, hx5, H⟩ := hb H
      refine gonE (j := 3) hF rfl rfl hc1 ?_
      refine ste hF (e_callA (fst := []) (vs := [(.agg #[(.int .i64 x1.1), v4, v6])]) (cap := []) rfl rfl go_141 (hcall1 (impl_ObjOk.spec k _ _ (⟨x1.1, x2.1, x3.1⟩ : TObj) v4 v6 h6 h7 _ hx5) (by rintro v s1 A1 ⟨rfl, rfl⟩; exact trivial)) rfl) (by decide) (fun v w a hR hF => ?_)
      obtain ⟨s8, s9, A6, hg6, hS, hR⟩ := hR
      obtain ⟨hv5, rfl⟩ := hR; obtain rfl := hv5.symm
      have hS : St e s8 w [Ow (Kd.int .i64) 3 v4 x2.1, Ow (Kd.int .i64) 3 v6 x3.1, pt g2 99 ([v7, (.int .i64 x6.2.2.1), (.bool x6.2.2.2)]), pt g3 36 ([(.int .i64 x1.1), v4, v6]), pt g1 36 ([(.int .i64 0), (.slice none 0 0), (.slice none 0 0)])] := hS
      refine gonE (j := 3) hF rfl rfl hc1 ?_
      refine stp hF (p_not rfl) (by decide) (fun a hF => ?_)
      refine stp hF (p_pickF rfl hc1 rfl) (by decide) (fun a hF => ?_)
      refine nilN ?_
      refine xn ?_
      obtain rfl := hsm H
      replace hS := hS.sel (is := [2, 2, 1, 0, 0]) (A' := [pt g2 99 ([v7, (.int .i64 x6.2.2.1), (.bool x6.2.2.2)]), pt g3 36 ([(.int .i64 x1.1), v4, v6]), Ow (Kd.int .i64) 3 v6 x3.1, Ow (Kd.int .i64) 3 v4 x2.1, pt g1 36 ([(.int .i64 0), (.slice none 0 0), (.slice none 0 0)])]) rfl
      exact ⟨(!x7), s8, hS, hF.cut ⟨rfl, rfl, rfl, trivial⟩, hg6, HK1⟩
  · clear H HK1 hS hF
    rintro a w ⟨x4, s6, hS, hF, hg7, H⟩
    unfold impl_GetObj.c1 at H
    refine nilN ?_
    refine xn ?_
    refine cnd hF rfl (fun hc2 => ?_) (fun hc2 => ?_)
    · replace H := hbt hc2 H
      refine sq ?_
      refine rg ?_
      refine stp hF (p_build (ps := []) (vs := []) (v := (.agg #[(.int .i64 0), (.slice none 0 0), (.slice none 0 0)])) rfl (by intro w; kernel_rfl)) (by decide) (fun a hF => ?_)
      refine ste0 hF (e_stb (i := 4) (l := []) (m := [(.int .i64 0), (.slice none 0 0), (.slice none 0 0)]) (r := []) (m' := [(.int .i64 0), (.slice none 0 0), (.slice none 0 0)]) (cs' := [(.int .i64 0), (.slice none 0 0), (.slice none 0 0)]) hS rfl rfl rfl ti_36 rfl rfl rfl rfl rfl (one_cons rfl (one_cons rfl (one_cons rfl one_nil))) rfl) (fun v w a hR hF => ?_)
      have hS : St e s6 w [pt g1 36 ([(.int .i64 0), (.slice none 0 0), (.slice none 0 0)]), pt g2 99 ([v7, (.int .i64 x6.2.2.1), (.bool x6.2.2.2)]), pt g3 36 ([(.int .i64 x1.1), v4, v6]), Ow (Kd.int .i64) 3 v6 x3.1, Ow (Kd.int .i64) 3 v4 x2.1] := hR
      refine stp hF (p_assign rfl) (by decide) (fun a hF => ?_)
      refine nilN ?_
      refine xn ?_
      refine rt ?_
      refine xr ?_
      obtain rfl := hsm H
      have h8 : RvOk Try.prog _ w (.cell 2 36) _ := rvC (i := 0) hS rfl (show lk [(2, (.pointer (some ⟨g1, 0, none⟩))), (3, (.bool false))] 2 = _ from rfl) ia_36 ti_36 rfl
      replace hS := hS.ownNil (Kd.int .i64) 3 none
      replace hS := hS.ownNil (Kd.int .i64) 3 none
      replace hS := hS.sel (is := [1, 0]) (A' := [Ow (Kd.int .i64) 3 (.slice none 0 0) ([] : List Int), Ow (Kd.int .i64) 3 (.slice none 0 0) ([] : List Int)]) rfl
      exact retc2 hF rfl h8 (rvT rfl) hS ⟨(.slice none 0 0), (.slice none 0 0), rfl, rfl⟩
    · replace H := hbf hc2 H
      refine skN ?_
      refine xn ?_
      refine sq ?_
      refine rg ?_
      refine stp hF (p_ldb_agg (i := 1) (l := []) (m := [(.int .i64 x1.1), v4, v6]) (r := []) hS rfl rfl ia_36 ti_36 rfl rfl rfl) (by decide) (fun a hF => ?_)
      refine ste0 hF (e_stb (i := 4) (l := []) (m := [(.int .i64 0), (.slice none 0 0), (.slice none 0 0)]) (r := []) (m' := [(.int .i64 x1.1), v4, v6]) (cs' := [(.int .i64 x1.1), v4, v6]) hS rfl rfl rfl ti_36 rfl rfl rfl rfl rfl (one_cons rfl (one_cons (hS.one_ow (i := 3) rfl) (one_cons (hS.one_ow (i := 2) rfl) one_nil))) rfl) (fun v w a hR hF => ?_)
      have hS : St e s6 w [pt g1 36 ([(.int .i64 x1.1), v4, v6]), pt g2 99 ([v7, (.int .i64 x6.2.2.1), (.bool x6.2.2.2)]), pt g3 36 ([(.int .i64 x1.1), v4, v6]), Ow (Kd.int .i64) 3 v6 x3.1, Ow (Kd.int .i64) 3 v4 x2.1] := hR
      refine stp hF (p_assign rfl) (by decide) (fun a hF => ?_)
      refine nilN ?_
      refine xn ?_
      refine rt ?_
      obtain rfl := hsm H
      have h9 : RvOk Try.prog _ w (.cell 2 36) _ := rvC (i := 0) hS rfl (show lk [(2, (.pointer (some ⟨g1, 0, none⟩))), (3, (.bool true))] 2 = _ from rfl) ia_36 ti_36 rfl
      replace hS := hS.sel (is := [4, 3]) (A' := [Ow (Kd.int .i64) 3 v4 x2.1, Ow (Kd.int .i64) 3 v6 x3.1]) rfl
      exact retc2 hF rfl h9 (rvT rfl) hS ⟨v4, v6, rfl, rfl⟩

def impl_reader_slot.c1 (k : Nat) (x1 : Int × (List Int) × Int × Bool) (x2 : Int) (x3 : (List Int)) (x4 : (List Int)) (x5 : Bool) : Option (TSlot × (List Int) × Int × Bool) :=
  (if (!x5) = true then (some ((⟨false, (⟨0, ([] : List Int), ([] : List Int)⟩ : TObj)⟩ : TSlot), x1.2.1, x1.2.2.1, true)) else (some ((⟨true, (⟨x2, x3, x4⟩ : TObj)⟩ : TSlot), x1.2.1, w64 (x1.2.2.1 + x1.1), x1.2.2.2)))
def impl_reader_slot.f (k : Nat) (x6 : (List Int)) (x7 : Int) (x8 : Bool) : Option (TSlot × (List Int) × Int × Bool) :=
  ((impl_reader_many.f k x6 x7 x8 (x6.length : Int)).bind fun x1 => (if (x1.2.2.2 || (decide (x1.1 = 0))) = true then (some ((⟨false, (⟨0, ([] : List Int), ([] : List Int)⟩ : TObj)⟩ : TSlot), x1.2.1, x1.2.2.1, x1.2.2.2)) else (if (decide ((w64 ((x1.2.1.length : Int) - x1.2.2.1)) < x1.1)) = true then (some ((⟨false, (⟨0, ([] : List Int), ([] : List Int)⟩ : TObj)⟩ : TSlot), x1.2.1, x1.2.2.1, true)) else (((if 0 ≤ x1.2.2.1 ∧ x1.2.2.1 ≤ (w64 (x1.2.2.1 + x1.1)) ∧ (w64 (x1.2.2.1 + x1.1)) ≤ (x1.2.1.length : Int) then ((impl_GetObj.f k (cut x1.2.1 x1.2.2.1 (w64 (x1.2.2.1 + x1.1)))).bind fun x9 => (some (x9.1.Kind, x9.1.Ints, x9.1.Refs, x9.2))) else none) : Option (Int × (List Int) × (List Int) × Bool)).bind fun x10 => impl_reader_slot.c1 k x1 x10.1 x10.2.1 x10.2.2.1 x10.2.2.2))))
set_option maxRecDepth 100000 in
set_option maxHeartbeats 4000000 in
theorem impl_reader_slot.spec (k : Nat) (s0 : HF) (w : World) (x6 : (List Int)) (x7 : Int) (x8 : Bool) (v1 : Value) (g1 : Nat) (h1 : Sl (Kd.int .u8) s0 v1 x6) (r : TSlot × (List Int) × Int × Bool) (H : impl_reader_slot.f k x6 x7 x8 = some r) :
    Law Try.prog 86 #[(.pointer (some ⟨g1, 0, none⟩))] s0 w [pt g1 99 ([v1, (.int .i64 x7), (.bool x8)])] (fun v s1 A1 => ∃ (u0 : Value) (u1 : Value) (u2 : Value), v = (.agg #[(.bool r.1.Has), (.int .i64 r.1.O.Kind), u1, u2]) ∧ A1 = [pt g1 99 ([u0, (.int .i64 r.2.2.1), (.bool r.2.2.2)]), Ow (Kd.int .i64) 3 u1 r.1.O.Ints, Ow (Kd.int .i64) 3 u2 r.1.O.Refs] ∧ Sl (Kd.int .u8) s1 u0 r.2.1) := by
  unfold impl_reader_slot.f at H
  refine Law.intro Try.func86 rfl [(0, (.pointer (some ⟨g1, 0, none⟩)))] (Nat.le_of_ble_eq_true rfl) (enter_lk ⟨rfl, trivial⟩) (fun e a hS hF => ?_)
  have hF : Fr 73 a [(0, (.pointer (some ⟨g1, 0, none⟩)))] := hF
  refine sq ?_
  refine rg ?_
  refine ste hF (e_alloc (cs := [(.bool false), (.int .i64 0), (.slice none 0 0), (.slice none 0 0)]) hS ti_38 rfl) (by decide) (fun v w a hR hF => ?_)
  obtain ⟨g2, rfl, hS⟩ := hR
  refine nilN ?_
  refine xn ?_
  refine sq ?_
  refine rg ?_
  refine stp hF (p_move rfl) (by decide) (fun a hF => ?_)
  refine stp hF (p_move rfl) (by decide) (fun a hF => ?_)
  refine stp hF (p_nilck rfl) (by decide) (fun a hF => ?_)
  refine stp hF (p_fldb (o' := 0) rfl fi_99_0 rfl) (by decide) (fun a hF => ?_)
  refine stp hF (p_ldb_one (i := 1) hS rfl rfl ia_24 rfl) (by decide) (fun a hF => ?_)
  refine stp hF (p_lenr un_24 rfl h1) (by decide) (fun a hF => ?_)
  replace hS := hS.sel (is := [1, 0]) (A' := [pt g1 99 ([v1, (.int .i64 x7), (.bool x8)]), pt g2 38 ([(.bool false), (.int .i64 0), (.slice none 0 0), (.slice none 0 0)])]) rfl
  obtain ⟨x1, hx1, H⟩ := hb H
  refine ste hF (e_callA (fst := []) (vs := [(.pointer (some ⟨g1, 0, none⟩)), (.int .i64 (x6.length : Int))]) (cap := []) rfl rfl go_87 (St.call (A := [pt g1 99 ([v1, (.int .i64 x7), (.bool x8)])]) (B := [pt g2 38 ([(.bool false), (.int .i64 0), (.slice none 0 0), (.slice none 0 0)])]) hS (impl_reader_many.spec k _ _ x6 x7 x8 (x6.length : Int) v1 g1 h1 _ hx1)) rfl) (by decide) (fun v w a hR hF => ?_)
  obtain ⟨s2, A2, hg1, hS, hR⟩ := hR
  obtain ⟨v2, hv1, rfl, h2⟩ := hR; obtain rfl := hv1.symm
  have hS : St e s2 w [pt g1 99 ([v2, (.int .i64 x1.2.2.1), (.bool x1.2.2.2)]), pt g2 38 ([(.bool false), (.int .i64 0), (.slice none 0 0), (.slice none 0 0)])] := hS
  refine stp hF (p_assign rfl) (by decide) (fun a hF => ?_)
  refine nilN ?_
  refine xn ?_
  refine sq ?_
  refine sq ?_
  refine rg ?_
  refine stp hF (p_move rfl) (by decide) (fun a hF => ?_)
  refine stp hF (p_nilck rfl) (by decide) (fun a hF => ?_)
  refine stp hF (p_fldb (o' := 2) rfl fi_99_2 rfl) (by decide) (fun a hF => ?_)
  refine stp hF (p_ldb_one (i := 0) hS rfl rfl ia_4 rfl) (by decide) (fun a hF => ?_)
  refine stp hF (p_move rfl) (by decide) (fun a hF => ?_)
  refine cutj 3 (fun a w => St e s2 w [pt g1 99 ([v2, (.int .i64 x1.2.2.1), (.bool x1.2.2.2)]), pt g2 38 ([(.bool false), (.int .i64 0), (.slice none 0 0), (.slice none 0 0)])] ∧ Fr 73 a [(0, (.pointer (some ⟨g1, 0, none⟩))), (2, (.pointer (some ⟨g2, 0, none⟩))), (3, (.int .i64 x1.1)), (20, (.bool (x1.2.2.2 || (decide (x1.1 = 0)))))]) rfl rfl ?_ ?_
  · rcases Bool.eq_false_or_eq_true (x1.2.2.2) with hc1 | hc1
    · skip
      refine gofD (j := 4) hF rfl rfl (by rw [hc1]; decide) (by decide) (fun a hF => ?_)
      refine gofD (j := 4) hF rfl rfl (by rw [hc1]; decide) (by decide) (fun a hF => ?_)
      refine stp hF (p_orT (decide (x1.1 = 0)) rfl hc1 rfl) (by decide) (fun a hF => ?_)
      refine nilN ?_
      refine xn ?_
      exact ⟨hS, hF.cut ⟨rfl, rfl, rfl, rfl, trivial⟩⟩
    · skip
      refine gonE (j := 4) hF rfl rfl hc1 ?_
      refine stp hF (p_move rfl) (by decide) (fun a hF => ?_)
      refine gonE (j := 4) hF rfl rfl hc1 ?_
      refine stp hF (p_eql rfl rfl) (by decide) (fun a hF => ?_)
      refine stp hF (p_orF rfl hc1 rfl) (by decide) (fun a hF => ?_)
      refine nilN ?_
      refine xn ?_
      exact ⟨hS, hF.cut ⟨rfl, rfl, rfl, rfl, trivial⟩⟩
  clear hS hF
  rintro a w ⟨hS, hF⟩
  refine nilN ?_
  refine xn ?_
  refine cnd hF rfl (fun hc2 => ?_) (fun hc2 => ?_)
  · replace H := hbt hc2 H
    refine sq ?_
    refine rg ?_
    refine stp hF (p_build (ps := []) (vs := []) (v := (.agg #[(.bool false), (.int .i64 0), (.slice none 0 0), (.slice none 0 0)])) rfl (by intro w; kernel_rfl)) (by decide) (fun a hF => ?_)
    refine ste0 hF (e_stb (i := 1) (l := []) (m := [(.bool false), (.int .i64 0), (.slice none 0 0), (.slice none 0 0)]) (r := []) (m' := [(.bool false), (.int .i64 0), (.slice none 0 0), (.slice none 0 0)]) (cs' := [(.bool false), (.int .i64 0), (.slice none 0 0), (.slice none 0 0)]) hS rfl rfl rfl ti_38 rfl rfl rfl rfl rfl (one_cons rfl (one_cons rfl (one_cons rfl (one_cons rfl one_nil)))) rfl) (fun v w a hR hF => ?_)
    have hS : St e s2 w [pt g2 38 ([(.bool false), (.int .i64 0), (.slice none 0 0), (.slice none 0 0)]), pt g1 99 ([v2, (.int .i64 x1.2.2.1), (.bool x1.2.2.2)])] := hR
    refine nilN ?_
    refine xn ?_
    refine rt ?_
    refine xr ?_
    obtain rfl := hsm H
    have h3 : RvOk Try.prog _ w (.cell 2 38) _ := rvC (i := 0) hS rfl (show lk [(2, (.pointer (some ⟨g2, 0, none⟩)))] 2 = _ from rfl) ia_38 ti_38 rfl
    replace hS := hS.ownNil (Kd.int .i64) 3 none
    replace hS := hS.ownNil (Kd.int .i64) 3 none
    replace hS := hS.sel (is := [3, 1, 0]) (A' := [pt g1 99 ([v2, (.int .i64 x1.2.2.1), (.bool x1.2.2.2)]), Ow (Kd.int .i64) 3 (.slice none 0 0) ([] : List Int), Ow (Kd.int .i64) 3 (.slice none 0 0) ([] : List Int)]) rfl
    exact retc1 hF rfl h3 hS ⟨v2, (.slice none 0 0), (.slice none 0 0), rfl, rfl, h2⟩
  · replace H := hbf hc2 H
    refine skN ?_
    refine xn ?_
    refine sq ?_
    refine sq ?_
    replace hS : St e s2 w.drew [pt g1 99 ([v2, (.int .i64 x1.2.2.1), (.bool x1.2.2.2)]), pt g2 38 ([(.bool false), (.int .i64 0), (.slice none 0 0), (.slice none 0 0)])] := hS.drewN 1
    refine drw [0, 1, 2, 3, 4, 5, 6, 7, 8, 9, 10, 11] mixed (by kernel_rfl) (by decide) (hF.cut (L' := [(0, (.pointer (some ⟨g1, 0, none⟩))), (2, (.pointer (some ⟨g2, 0, none⟩))), (3, (.int .i64 x1.1)), (20, (.bool (x1.2.2.2 || (decide (x1.1 = 0)))))]) ⟨rfl, rfl, rfl, rfl, trivial⟩) ?_
    clear hF
    generalize w.drew = w at hS ⊢
    refine pk1 rfl (by decide) rfl (by kernel_rfl) rfl (p_move rfl) ?_
    refine pk1 rfl (by decide) rfl (by kernel_rfl) rfl (p_move rfl) ?_
    refine pk1 rfl (by decide) rfl (by kernel_rfl) rfl (p_nilck rfl) ?_
    refine pk1 rfl (by decide) rfl (by kernel_rfl) rfl (p_fldb (o' := 0) rfl fi_99_0 rfl) ?_
    refine pk1 rfl (by decide) rfl (by kernel_rfl) rfl (p_ldb_one (i := 0) hS rfl rfl ia_24 rfl) ?_
    refine pk1 rfl (by decide) rfl (by kernel_rfl) rfl (p_lenr un_24 rfl h2) ?_
    refine pk1 rfl (by decide) rfl (by kernel_rfl) rfl (p_move rfl) ?_
    refine pk1 rfl (by decide) rfl (by kernel_rfl) rfl (p_nilck rfl) ?_
    refine pk1 rfl (by decide) rfl (by kernel_rfl) rfl (p_fldb (o' := 1) rfl fi_99_1 rfl) ?_
    refine pk1 rfl (by decide) rfl (by kernel_rfl) rfl (p_ldb_one (i := 0) hS rfl rfl ia_3 rfl) ?_
    refine pk1 rfl (by decide) rfl (by kernel_rfl) rfl (p_sub (c := w64 ((x1.2.1.length : Int) - x1.2.2.1)) rfl rfl rfl) ?_
    refine pk1 rfl (by decide) rfl (by kernel_rfl) rfl (p_gtr rfl rfl) ?_
    refine pkF (fun a hF => ?_)
    refine xn ?_
    refine cnd hF rfl (fun hc3 => ?_) (fun hc3 => ?_)
    · replace H := hbt hc3 H
      refine sq ?_
      refine rg ?_
      refine stp hF (p_move rfl) (by decide) (fun a hF => ?_)
      refine stp hF (p_nilck rfl) (by decide) (fun a hF => ?_)
      refine stp hF (p_fldb (o' := 2) rfl fi_99_2 rfl) (by decide) (fun a hF => ?_)
      refine ste0 hF (e_stb (i := 0) (l := [v2, (.int .i64 x1.2.2.1)]) (m := [(.bool x1.2.2.2)]) (r := []) (m' := [(.bool true)]) (cs' := [v2, (.int .i64 x1.2.2.1), (.bool true)]) hS rfl rfl rfl ti_4 rfl rfl rfl rfl rfl (one_cons rfl one_nil) rfl) (fun v w a hR hF => ?_)
      have hS : St e s2 w [pt g1 99 ([v2, (.int .i64 x1.2.2.1), (.bool true)]), pt g2 38 ([(.bool false), (.int .i64 0), (.slice none 0 0), (.slice none 0 0)])] := hR
      refine nilN ?_
      refine xn ?_
      refine sq ?_
      refine rg ?_
      refine stp hF (p_build (ps := []) (vs := []) (v := (.agg #[(.bool false), (.int .i64 0), (.slice none 0 0), (.slice none 0 0)])) rfl (by intro w; kernel_rfl)) (by decide) (fun a hF => ?_)
      refine ste0 hF (e_stb (i := 1) (l := []) (m := [(.bool false), (.int .i64 0), (.slice none 0 0), (.slice none 0 0)]) (r := []) (m' := [(.bool false), (.int .i64 0), (.slice none 0 0), (.slice none 0 0)]) (cs' := [(.bool false), (.int .i64 0), (.slice none 0 0), (.slice none 0 0)]) hS rfl rfl rfl ti_38 rfl rfl rfl rfl rfl (one_cons rfl (one_cons rfl (one_cons rfl (one_cons rfl one_nil)))) rfl) (fun v w a hR hF => ?_)
      have hS : St e s2 w [pt g2 38 ([(.bool false), (.int .i64 0), (.slice none 0 0), (.slice none 0 0)]), pt g1 99 ([v2, (.int .i64 x1.2.2.1), (.bool true)])] := hR
      refine nilN ?_
      refine xn ?_
      refine rt ?_
      refine xr ?_
      obtain rfl := hsm H
      have h4 : RvOk Try.prog _ w (.cell 2 38) _ := rvC (i := 0) hS rfl (show lk [(2, (.pointer (some ⟨g2, 0, none⟩)))] 2 = _ from rfl) ia_38 ti_38 rfl
      replace hS := hS.ownNil (Kd.int .i64) 3 none
      replace hS := hS.ownNil (Kd.int .i64) 3 none
      replace hS := hS.sel (is := [3, 1, 0]) (A' := [pt g1 99 ([v2, (.int .i64 x1.2.2.1), (.bool true)]), Ow (Kd.int .i64) 3 (.slice none 0 0) ([] : List Int), Ow (Kd.int .i64) 3 (.slice none 0 0) ([] : List Int)]) rfl
      exact retc1 hF rfl h4 hS ⟨v2, (.slice none 0 0), (.slice none 0 0), rfl, rfl, h2⟩
    · replace H := hbf hc3 H
      refine skN ?_
      refine xn ?_
      obtain ⟨x10, H, HK1⟩ := hb H
      refine sqj (fun a w => ∃ (x2 : Int) (x3 : (List Int)) (x4 : (List Int)) (x5 : Bool) (s3 : HF) (g3 : Nat) (v3 : Value) (v4 : Value) , St e s3 w [pt g1 99 ([v2, (.int .i64 x1.2.2.1), (.bool x1.2.2.2)]), pt g2 38 ([(.bool false), (.int .i64 0), (.slice none 0 0), (.slice none 0 0)]), pt g3 36 ([(.int .i64 x2), v3, v4]), Ow (Kd.int .i64) 3 v3 x3, Ow (Kd.int .i64) 3 v4 x4] ∧ Fr 73 a [(0, (.pointer (some ⟨g1, 0, none⟩))), (2, (.pointer (some ⟨g2, 0, none⟩))), (3, (.int .i64 x1.1)), (4, (.pointer (some ⟨g3, 0, none⟩))), (5, (.bool x5))] ∧ Sub s2 s3 ∧ impl_reader_slot.c1 k x1 x2 x3 x4 x5 = some r) ?_ ?_
      · skip
        replace hS : St e s2 w.drew [pt g1 99 ([v2, (.int .i64 x1.2.2.1), (.bool x1.2.2.2)]), pt g2 38 ([(.bool false), (.int .i64 0), (.slice none 0 0), (.slice none 0 0)])] := hS.drewN 1
        refine drw [0, 1, 2, 3, 4, 5, 6, 7, 8, 9, 10, 11, 12, 13, 14, 15, 16, 17, 18, 19, 20, 21] mixed (by kernel_rfl) (by decide) (hF.cut (L' := [(0, (.pointer (some ⟨g1, 0, none⟩))), (2, (.pointer (some ⟨g2, 0, none⟩))), (3, (.int .i64 x1.1)), (20, (.bool (x1.2.2.2 || (decide (x1.1 = 0))))), (22, (.int .i64 x1.1)), (23, (.pointer (some ⟨g1, 0, none⟩))), (24, (.pointer (some ⟨g1, 0, none⟩))), (25, (.pointer (some ⟨g1, 0, none⟩))), (26, v2), (27, (.int .i64 (x1.2.1.length : Int))), (28, (.pointer (some ⟨g1, 0, none⟩))), (29, (.pointer (some ⟨g1, 0, none⟩))), (30, (.pointer (some ⟨g1, 1, none⟩))), (31, (.int .i64 x1.2.2.1)), (32, (.int .i64 (w64 ((x1.2.1.length : Int) - x1.2.2.1)))), (33, (.bool (decide ((w64 ((x1.2.1.length : Int) - x1.2.2.1)) < x1.1))))]) ⟨rfl, rfl, rfl, rfl, rfl, rfl, rfl, rfl, rfl, rfl, rfl, rfl, rfl, rfl, rfl, rfl, trivial⟩) ?_
        clear hF
        generalize w.drew = w at hS ⊢
        refine pk1 rfl (by decide) rfl (by kernel_rfl) rfl (p_move rfl) ?_
        refine pk1 rfl (by decide) rfl (by kernel_rfl) rfl (p_nilck rfl) ?_
        refine pk1 rfl (by decide) rfl (by kernel_rfl) rfl (p_fldb (o' := 0) rfl fi_99_0 rfl) ?_
        refine pk1 rfl (by decide) rfl (by kernel_rfl) rfl (p_ldb_one (i := 0) hS rfl rfl ia_24 rfl) ?_
        refine pk1 rfl (by decide) rfl (by kernel_rfl) rfl (p_move rfl) ?_
        refine pk1 rfl (by decide) rfl (by kernel_rfl) rfl (p_nilck rfl) ?_
        refine pk1 rfl (by decide) rfl (by kernel_rfl) rfl (p_fldb (o' := 1) rfl fi_99_1 rfl) ?_
        refine pk1 rfl (by decide) rfl (by kernel_rfl) rfl (p_ldb_one (i := 0) hS rfl rfl ia_3 rfl) ?_
        refine pk1 rfl (by decide) rfl (by kernel_rfl) rfl (p_move rfl) ?_
        refine pk1 rfl (by decide) rfl (by kernel_rfl) rfl (p_nilck rfl) ?_
        refine pk1 rfl (by decide) rfl (by kernel_rfl) rfl (p_fldb (o' := 1) rfl fi_99_1 rfl) ?_
        refine pk1 rfl (by decide) rfl (by kernel_rfl) rfl (p_ldb_one (i := 0) hS rfl rfl ia_3 rfl) ?_
        refine pk1 rfl (by decide) rfl (by kernel_rfl) rfl (p_move rfl) ?_
        refine pk1 rfl (by decide) rfl (by kernel_rfl) rfl (p_add (c := w64 (x1.2.2.1 + x1.1)) rfl rfl rfl) ?_
        obtain ⟨hq1, H⟩ := hck H
        obtain ⟨v5, h5, p1⟩ := p_slr (i := x1.2.2.1) (j := (w64 (x1.2.2.1 + x1.1))) un_24 ti_5 h2 hq1.1 hq1.2.1 hq1.2.2
        refine pk1 rfl (by decide) rfl (by kernel_rfl) rfl (p1 rfl rfl rfl) ?_
        refine pkAlt [15, 19] (by kernel_rfl) rfl ⟨?_, ?_, trivial⟩
        · skip
          obtain ⟨x9, hx2, H⟩ := hb H
          refine altE [13, 12, 11, 10, 9, 8, 7, 6, 5, 4, 3, 2, 1, 0] [16, 17, 18, 19, 20, 21] rfl rfl rfl (by decide) (by kernel_rfl) (e_callA (fst := []) (vs := [v5]) (cap := []) rfl rfl go_143 (St.call (A := []) (B := [pt g1 99 ([v2, (.int .i64 x1.2.2.1), (.bool x1.2.2.2)]), pt g2 38 ([(.bool false), (.int .i64 0), (.slice none 0 0), (.slice none 0 0)])]) hS (impl_GetObj.spec k _ _ (cut x1.2.1 x1.2.2.1 (w64 (x1.2.2.1 + x1.1))) v5 h5 _ hx2)) rfl) ?_
          intro v w hR
          obtain ⟨s4, A3, hg2, hS, hR⟩ := hR
          obtain ⟨v6, v7, hv2, rfl⟩ := hR; obtain rfl := hv2.symm
          have hS : St e s4 w [Ow (Kd.int .i64) 3 v6 x9.1.Ints, Ow (Kd.int .i64) 3 v7 x9.1.Refs, pt g1 99 ([v2, (.int .i64 x1.2.2.1), (.bool x1.2.2.2)]), pt g2 38 ([(.bool false), (.int .i64 0), (.slice none 0 0), (.slice none 0 0)])] := hS
          refine ⟨⟨knw rfl rfl rfl (p_add (c := w64 (x1.2.2.1 + x1.1)) rfl rfl rfl), ⟨knw rfl rfl rfl (p_move rfl), ⟨knw rfl rfl rfl (p_ldb_one (i := 2) hS rfl rfl ia_3 rfl), ⟨knw rfl rfl rfl (p_fldb (o' := 1) rfl fi_99_1 rfl), ⟨knw rfl rfl rfl (p_nilck rfl), ⟨knw rfl rfl rfl (p_move rfl), ⟨knw rfl rfl rfl (p_ldb_one (i := 2) hS rfl rfl ia_3 rfl), ⟨knw rfl rfl rfl (p_fldb (o' := 1) rfl fi_99_1 rfl), ⟨knw rfl rfl rfl (p_nilck rfl), ⟨knw rfl rfl rfl (p_move rfl), ⟨knw rfl rfl rfl (p_ldb_one (i := 2) hS rfl rfl ia_24 rfl), ⟨knw rfl rfl rfl (p_fldb (o' := 0) rfl fi_99_0 rfl), ⟨knw rfl rfl rfl (p_nilck rfl), ⟨knw rfl rfl rfl (p_move rfl), trivial⟩⟩⟩⟩⟩⟩⟩⟩⟩⟩⟩⟩⟩⟩, ?_⟩
          refine pk1 rfl (by decide) rfl (by kernel_rfl) rfl (p_move rfl) ?_
          refine pk1 rfl (by decide) rfl (by kernel_rfl) rfl (p_extract rfl rfl) ?_
          refine pk1 rfl (by decide) rfl (by kernel_rfl) rfl (p_extract rfl rfl) ?_
          refine pkE [18, 17, 16, 13, 12, 11, 10, 9, 8, 7, 6, 5, 4, 3, 2, 1, 0] rfl (by decide) (by kernel_rfl) (by kernel_rfl) (e_alloc (cs := [(.int .i64 0), (.slice none 0 0), (.slice none 0 0)]) hS ti_36 rfl) ?_
          intro v w hR
          obtain ⟨g4, rfl, hS⟩ := hR
          refine ⟨⟨knw rfl rfl rfl (p_extract rfl rfl), ⟨knw rfl rfl rfl (p_extract rfl rfl), ⟨knw rfl rfl rfl (p_move rfl), ⟨knw rfl rfl rfl (p_add (c := w64 (x1.2.2.1 + x1.1)) rfl rfl rfl), ⟨knw rfl rfl rfl (p_move rfl), ⟨knw rfl rfl rfl (p_ldb_one (i := 3) hS rfl rfl ia_3 rfl), ⟨knw rfl rfl rfl (p_fldb (o' := 1) rfl fi_99_1 rfl), ⟨knw rfl rfl rfl (p_nilck rfl), ⟨knw rfl rfl rfl (p_move rfl), ⟨knw rfl rfl rfl (p_ldb_one (i := 3) hS rfl rfl ia_3 rfl), ⟨knw rfl rfl rfl (p_fldb (o' := 1) rfl fi_99_1 rfl), ⟨knw rfl rfl rfl (p_nilck rfl), ⟨knw rfl rfl rfl (p_move rfl), ⟨knw rfl rfl rfl (p_ldb_one (i := 3) hS rfl rfl ia_24 rfl), ⟨knw rfl rfl rfl (p_fldb (o' := 0) rfl fi_99_0 rfl), ⟨knw rfl rfl rfl (p_nilck rfl), ⟨knw rfl rfl rfl (p_move rfl), trivial⟩⟩⟩⟩⟩⟩⟩⟩⟩⟩⟩⟩⟩⟩⟩⟩⟩, ?_⟩
          refine pkE0 [18] rfl (by kernel_rfl) (by kernel_rfl) (e_stb (i := 0) (l := []) (m := [(.int .i64 0), (.slice none 0 0), (.slice none 0 0)]) (r := []) (m' := [(.int .i64 x9.1.Kind), v6, v7]) (cs' := [(.int .i64 x9.1.Kind), v6, v7]) hS rfl rfl rfl ti_36 rfl rfl rfl rfl rfl (one_cons rfl (one_cons (hS.one_ow (i := 1) rfl) (one_cons (hS.one_ow (i := 2) rfl) one_nil))) rfl) ?_
          intro v w hR
          have hS : St e s4 w [pt g4 36 ([(.int .i64 x9.1.Kind), v6, v7]), Ow (Kd.int .i64) 3 v6 x9.1.Ints, Ow (Kd.int .i64) 3 v7 x9.1.Refs, pt g1 99 ([v2, (.int .i64 x1.2.2.1), (.bool x1.2.2.2)]), pt g2 38 ([(.bool false), (.int .i64 0), (.slice none 0 0), (.slice none 0 0)])] := hR
          refine ⟨⟨knw rfl rfl rfl (p_extract rfl rfl), trivial⟩, ?_⟩
          refine pkE [] rfl (by decide) (by kernel_rfl) (by kernel_rfl) (puEf (p_assign rfl)) ?_
          rintro v w' ⟨hv, rfl⟩
          obtain rfl := hv.symm
          refine ⟨trivial, ?_⟩
          refine pkF (fun a hF => ?_)
          refine xn ?_
          obtain rfl := hsm H
          replace hS := hS.sel (is := [3, 3, 0, 0, 0]) (A' := [pt g1 99 ([v2, (.int .i64 x1.2.2.1), (.bool x1.2.2.2)]), pt g2 38 ([(.bool false), (.int .i64 0), (.slice none 0 0), (.slice none 0 0)]), pt g4 36 ([(.int .i64 x9.1.Kind), v6, v7]), Ow (Kd.int .i64) 3 v6 x9.1.Ints, Ow (Kd.int .i64) 3 v7 x9.1.Refs]) rfl
          exact ⟨x9.1.Kind, x9.1.Ints, x9.1.Refs, x9.2, s4, g4, v6, v7, hS, hF.cut ⟨rfl, rfl, rfl, rfl, rfl, trivial⟩, hg2, HK1⟩
        · skip
          refine altE [14, 13, 12, 11, 10, 9, 8, 7, 6, 5, 4, 3, 2, 1, 0] [15, 16, 17, 18, 20, 21] rfl rfl rfl (by decide) (by kernel_rfl) (e_alloc (cs := [(.int .i64 0), (.slice none 0 0), (.slice none 0 0)]) hS ti_36 rfl) ?_
          intro v w hR
          obtain ⟨g5, rfl, hS⟩ := hR
          refine ⟨⟨knw rfl rfl rfl (p1 rfl rfl rfl), ⟨knw rfl rfl rfl (p_add (c := w64 (x1.2.2.1 + x1.1)) rfl rfl rfl), ⟨knw rfl rfl rfl (p_move rfl), ⟨knw rfl rfl rfl (p_ldb_one (i := 1) hS rfl rfl ia_3 rfl), ⟨knw rfl rfl rfl (p_fldb (o' := 1) rfl fi_99_1 rfl), ⟨knw rfl rfl rfl (p_nilck rfl), ⟨knw rfl rfl rfl (p_move rfl), ⟨knw rfl rfl rfl (p_ldb_one (i := 1) hS rfl rfl ia_3 rfl), ⟨knw rfl rfl rfl (p_fldb (o' := 1) rfl fi_99_1 rfl), ⟨knw rfl rfl rfl (p_nilck rfl), ⟨knw rfl rfl rfl (p_move rfl), ⟨knw rfl rfl rfl (p_ldb_one (i := 1) hS rfl rfl ia_24 rfl), ⟨knw rfl rfl rfl (p_fldb (o' := 0) rfl fi_99_0 rfl), ⟨knw rfl rfl rfl (p_nilck rfl), ⟨knw rfl rfl rfl (p_move rfl), trivial⟩⟩⟩⟩⟩⟩⟩⟩⟩⟩⟩⟩⟩⟩⟩, ?_⟩
          obtain ⟨x11, hx3, H⟩ := hb H
          refine pkE [13, 12, 11, 10, 9, 8, 7, 6, 5, 4, 3, 2, 1, 0] rfl (by decide) (by kernel_rfl) (by kernel_rfl) (e_callA (fst := []) (vs := [v5]) (cap := []) rfl rfl go_143 (St.call (A := []) (B := [pt g5 36 ([(.int .i64 0), (.slice none 0 0), (.slice none 0 0)]), pt g1 99 ([v2, (.int .i64 x1.2.2.1), (.bool x1.2.2.2)]), pt g2 38 ([(.bool false), (.int .i64 0), (.slice none 0 0), (.slice none 0 0)])]) hS (impl_GetObj.spec k _ _ (cut x1.2.1 x1.2.2.1 (w64 (x1.2.2.1 + x1.1))) v5 h5 _ hx3)) rfl) ?_
          intro v w hR
          obtain ⟨s5, A4, hg3, hS, hR⟩ := hR
          obtain ⟨v8, v9, hv3, rfl⟩ := hR; obtain rfl := hv3.symm
          have hS : St e s5 w [Ow (Kd.int .i64) 3 v8 x11.1.Ints, Ow (Kd.int .i64) 3 v9 x11.1.Refs, pt g5 36 ([(.int .i64 0), (.slice none 0 0), (.slice none 0 0)]), pt g1 99 ([v2, (.int .i64 x1.2.2.1), (.bool x1.2.2.2)]), pt g2 38 ([(.bool false), (.int .i64 0), (.slice none 0 0), (.slice none 0 0)])] := hS
          refine ⟨⟨knw rfl rfl rfl (p_add (c := w64 (x1.2.2.1 + x1.1)) rfl rfl rfl), ⟨knw rfl rfl rfl (p_move rfl), ⟨knw rfl rfl rfl (p_ldb_one (i := 3) hS rfl rfl ia_3 rfl), ⟨knw rfl rfl rfl (p_fldb (o' := 1) rfl fi_99_1 rfl), ⟨knw rfl rfl rfl (p_nilck rfl), ⟨knw rfl rfl rfl (p_move rfl), ⟨knw rfl rfl rfl (p_ldb_one (i := 3) hS rfl rfl ia_3 rfl), ⟨knw rfl rfl rfl (p_fldb (o' := 1) rfl fi_99_1 rfl), ⟨knw rfl rfl rfl (p_nilck rfl), ⟨knw rfl rfl rfl (p_move rfl), ⟨knw rfl rfl rfl (p_ldb_one (i := 3) hS rfl rfl ia_24 rfl), ⟨knw rfl rfl rfl (p_fldb (o' := 0) rfl fi_99_0 rfl), ⟨knw rfl rfl rfl (p_nilck rfl), ⟨knw rfl rfl rfl (p_move rfl), trivial⟩⟩⟩⟩⟩⟩⟩⟩⟩⟩⟩⟩⟩⟩, ?_⟩
          refine pk1 rfl (by decide) rfl (by kernel_rfl) rfl (p_move rfl) ?_
          refine pk1 rfl (by decide) rfl (by kernel_rfl) rfl (p_extract rfl rfl) ?_
          refine pk1 rfl (by decide) rfl (by kernel_rfl) rfl (p_extract rfl rfl) ?_
          refine pkE0 [18] rfl (by kernel_rfl) (by kernel_rfl) (e_stb (i := 2) (l := []) (m := [(.int .i64 0), (.slice none 0 0), (.slice none 0 0)]) (r := []) (m' := [(.int .i64 x11.1.Kind), v8, v9]) (cs' := [(.int .i64 x11.1.Kind), v8, v9]) hS rfl rfl rfl ti_36 rfl rfl rfl rfl rfl (one_cons rfl (one_cons (hS.one_ow (i := 0) rfl) (one_cons (hS.one_ow (i := 1) rfl) one_nil))) rfl) ?_
          intro v w hR
          have hS : St e s5 w [pt g5 36 ([(.int .i64 x11.1.Kind), v8, v9]), Ow (Kd.int .i64) 3 v8 x11.1.Ints, Ow (Kd.int .i64) 3 v9 x11.1.Refs, pt g1 99 ([v2, (.int .i64 x1.2.2.1), (.bool x1.2.2.2)]), pt g2 38 ([(.bool false), (.int .i64 0), (.slice none 0 0), (.slice none 0 0)])] := hR
          refine ⟨⟨knw rfl rfl rfl (p_extract rfl rfl), trivial⟩, ?_⟩
          refine pkE [] rfl (by decide) (by kernel_rfl) (by kernel_rfl) (puEf (p_assign rfl)) ?_
          rintro v w' ⟨hv, rfl⟩
          obtain rfl := hv.symm
          refine ⟨trivial, ?_⟩
          refine pkF (fun a hF => ?_)
          refine xn ?_
          obtain rfl := hsm H
          replace hS := hS.sel (is := [3, 3, 0, 0, 0]) (A' := [pt g1 99 ([v2, (.int .i64 x1.2.2.1), (.bool x1.2.2.2)]), pt g2 38 ([(.bool false), (.int .i64 0), (.slice none 0 0), (.slice none 0 0)]), pt g5 36 ([(.int .i64 x11.1.Kind), v8, v9]), Ow (Kd.int .i64) 3 v8 x11.1.Ints, Ow (Kd.int .i64) 3 v9 x11.1.Refs]) rfl
          exact ⟨x11.1.Kind, x11.1.Ints, x11.1.Refs, x11.2, s5, g5, v8, v9, hS, hF.cut ⟨rfl, rfl, rfl, rfl, rfl, trivial⟩, hg3, HK1⟩
      · clear H HK1 hS hF
        rintro a w ⟨x2, x3, x4, x5, s3, g3, v3, v4, hS, hF, hg4, H⟩
        unfold impl_reader_slot.c1 at H
        refine sq ?_
        refine sq ?_
        refine rg ?_
        refine stp hF (p_move rfl) (by decide) (fun a hF => ?_)
        refine stp hF (p_not rfl) (by decide) (fun a hF => ?_)
        refine nilN ?_
        refine xn ?_
        refine cnd hF rfl (fun hc4 => ?_) (fun hc4 => ?_)
        · replace H := hbt hc4 H
          refine sq ?_
          refine rg ?_
          refine stp hF (p_move rfl) (by decide) (fun a hF => ?_)
          refine stp hF (p_nilck rfl) (by decide) (fun a hF => ?_)
          refine stp hF (p_fldb (o' := 2) rfl fi_99_2 rfl) (by decide) (fun a hF => ?_)
          refine ste0 hF (e_stb (i := 0) (l := [v2, (.int .i64 x1.2.2.1)]) (m := [(.bool x1.2.2.2)]) (r := []) (m' := [(.bool true)]) (cs' := [v2, (.int .i64 x1.2.2.1), (.bool true)]) hS rfl rfl rfl ti_4 rfl rfl rfl rfl rfl (one_cons rfl one_nil) rfl) (fun v w a hR hF => ?_)
          have hS : St e s3 w [pt g1 99 ([v2, (.int .i64 x1.2.2.1), (.bool true)]), pt g2 38 ([(.bool false), (.int .i64 0), (.slice none 0 0), (.slice none 0 0)]), pt g3 36 ([(.int .i64 x2), v3, v4]), Ow (Kd.int .i64) 3 v3 x3, Ow (Kd.int .i64) 3 v4 x4] := hR
          refine nilN ?_
          refine xn ?_
          refine sq ?_
          refine rg ?_
          refine stp hF (p_build (ps := []) (vs := []) (v := (.agg #[(.bool false), (.int .i64 0), (.slice none 0 0), (.slice none 0 0)])) rfl (by intro w; kernel_rfl)) (by decide) (fun a hF => ?_)
          refine ste0 hF (e_stb (i := 1) (l := []) (m := [(.bool false), (.int .i64 0), (.slice none 0 0), (.slice none 0 0)]) (r := []) (m' := [(.bool false), (.int .i64 0), (.slice none 0 0), (.slice none 0 0)]) (cs' := [(.bool false), (.int .i64 0), (.slice none 0 0), (.slice none 0 0)]) hS rfl rfl rfl ti_38 rfl rfl rfl rfl rfl (one_cons rfl (one_cons rfl (one_cons rfl (one_cons rfl one_nil)))) rfl) (fun v w a hR hF => ?_)
          have hS : St e s3 w [pt g2 38 ([(.bool false), (.int .i64 0), (.slice none 0 0), (.slice none 0 0)]), pt g1 99 ([v2, (.int .i64 x1.2.2.1), (.bool true)]), pt g3 36 ([(.int .i64 x2), v3, v4]), Ow (Kd.int .i64) 3 v3 x3, Ow (Kd.int .i64) 3 v4 x4] := hR
          refine nilN ?_
          refine xn ?_
          refine rt ?_
          refine xr ?_
          obtain rfl := hsm H
          have h6 : RvOk Try.prog _ w (.cell 2 38) _ := rvC (i := 0) hS rfl (show lk [(2, (.pointer (some ⟨g2, 0, none⟩)))] 2 = _ from rfl) ia_38 ti_38 rfl
          replace hS := hS.ownNil (Kd.int .i64) 3 none
          replace hS := hS.ownNil (Kd.int .i64) 3 none
          replace hS := hS.sel (is := [3, 1, 0]) (A' := [pt g1 99 ([v2, (.int .i64 x1.2.2.1), (.bool true)]), Ow (Kd.int .i64) 3 (.slice none 0 0) ([] : List Int), Ow (Kd.int .i64) 3 (.slice none 0 0) ([] : List Int)]) rfl
          exact retc1 hF rfl h6 hS ⟨v2, (.slice none 0 0), (.slice none 0 0), rfl, rfl, (h2.mono hg4)⟩
        · replace H := hbf hc4 H
          refine skN ?_
          refine xn ?_
          refine sq ?_
          refine rg ?_
          refine stp hF (p_move rfl) (by decide) (fun a hF => ?_)
          refine stp hF (p_nilck rfl) (by decide) (fun a hF => ?_)
          refine stp hF (p_fldb (o' := 1) rfl fi_99_1 rfl) (by decide) (fun a hF => ?_)
          refine stp hF (p_ldb_one (i := 0) hS rfl rfl ia_3 rfl) (by decide) (fun a hF => ?_)
          refine stp hF (p_move rfl) (by decide) (fun a hF => ?_)
          refine stp hF (p_add (c := w64 (x1.2.2.1 + x1.1)) rfl rfl rfl) (by decide) (fun a hF => ?_)
          refine stp hF (p_nilck rfl) (by decide) (fun a hF => ?_)
          refine stp hF (p_fldb (o' := 1) rfl fi_99_1 rfl) (by decide) (fun a hF => ?_)
          refine ste0 hF (e_stb (i := 0) (l := [v2]) (m := [(.int .i64 x1.2.2.1)]) (r := [(.bool x1.2.2.2)]) (m' := [(.int .i64 (w64 (x1.2.2.1 + x1.1)))]) (cs' := [v2, (.int .i64 (w64 (x1.2.2.1 + x1.1))), (.bool x1.2.2.2)]) hS rfl rfl rfl ti_3 rfl rfl rfl rfl rfl (one_cons rfl one_nil) rfl) (fun v w a hR hF => ?_)
          have hS : St e s3 w [pt g1 99 ([v2, (.int .i64 (w64 (x1.2.2.1 + x1.1))), (.bool x1.2.2.2)]), pt g2 38 ([(.bool false), (.int .i64 0), (.slice none 0 0), (.slice none 0 0)]), pt g3 36 ([(.int .i64 x2), v3, v4]), Ow (Kd.int .i64) 3 v3 x3, Ow (Kd.int .i64) 3 v4 x4] := hR
          refine nilN ?_
          refine xn ?_
          refine sq ?_
          refine rg ?_
          refine stp hF (p_ldb_agg (i := 2) (l := []) (m := [(.int .i64 x2), v3, v4]) (r := []) hS rfl rfl ia_36 ti_36 rfl rfl rfl) (by decide) (fun a hF => ?_)
          refine stp hF (p_build (ps := [(0, (.const (.bool true))), (1, (.tmp 71))]) (vs := [(0, (.bool true)), (1, (.agg #[(.int .i64 x2), v3, v4]))]) (v := (.agg #[(.bool true), (.int .i64 x2), v3, v4])) rfl (by intro w; obtain ⟨_, _, _, e1⟩ := hS.el (i := 3) rfl; rw [e1]; obtain ⟨_, _, _, e2⟩ := hS.el (i := 4) rfl; rw [e2]; kernel_rfl)) (by decide) (fun a hF => ?_)
          refine ste0 hF (e_stb (i := 1) (l := []) (m := [(.bool false), (.int .i64 0), (.slice none 0 0), (.slice none 0 0)]) (r := []) (m' := [(.bool true), (.int .i64 x2), v3, v4]) (cs' := [(.bool true), (.int .i64 x2), v3, v4]) hS rfl rfl rfl ti_38 rfl rfl rfl rfl rfl (one_cons rfl (one_cons rfl (one_cons (hS.one_ow (i := 3) rfl) (one_cons (hS.one_ow (i := 4) rfl) one_nil)))) rfl) (fun v w a hR hF => ?_)
          have hS : St e s3 w [pt g2 38 ([(.bool true), (.int .i64 x2), v3, v4]), pt g1 99 ([v2, (.int .i64 (w64 (x1.2.2.1 + x1.1))), (.bool x1.2.2.2)]), pt g3 36 ([(.int .i64 x2), v3, v4]), Ow (Kd.int .i64) 3 v3 x3, Ow (Kd.int .i64) 3 v4 x4] := hR
          refine nilN ?_
          refine xn ?_
          refine rt ?_
          obtain rfl := hsm H
          have h7 : RvOk Try.prog _ w (.cell 2 38) _ := rvC (i := 0) hS rfl (show lk [(2, (.pointer (some ⟨g2, 0, none⟩)))] 2 = _ from rfl) ia_38 ti_38 rfl
          replace hS := hS.sel (is := [1, 2, 2]) (A' := [pt g1 99 ([v2, (.int .i64 (w64 (x1.2.2.1 + x1.1))), (.bool x1.2.2.2)]), Ow (Kd.int .i64) 3 v3 x3, Ow (Kd.int .i64) 3 v4 x4]) rfl
          exact retc1 hF rfl h7 hS ⟨v2, v3, v4, rfl, rfl, (h2.mono hg4)⟩
end Go.Proofs.Ytocknibhajihmaa
