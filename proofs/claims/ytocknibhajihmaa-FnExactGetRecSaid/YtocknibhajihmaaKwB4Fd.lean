/- Functions of this place as plain functions, and that the machine comes to what they say. Conditions: none. -/
import Derived.Test.YtocknibhajihmaaKwB4Fc
set_option linter.unusedVariables false
set_option linter.unusedSimpArgs false
namespace Go.Proofs.Ytocknibhajihmaa
open Go.Kw

def spec_PutRec.c1 (k : Nat) (x1 : (List Int)) : Option (List Int) :=
  (some x1)
def spec_PutRec.c2 (k : Nat) (rec_l1 : (List Int) → Int → Option (List Int)) (x2 : Int) (x3 : TRec) (x4 : (List Int)) (x5 : Int) : Option (List Int) :=
  (if 0 ≤ x2 ∧ x2 < (x3.Txs.length : Int) then (if 0 ≤ x2 ∧ x2 < (x3.Txs.length : Int) then ((spec_PutInt.f k x4 ((rd x3.Txs x2).Tx)).bind fun x6 => ((spec_PutInt.f k x6 ((rd x3.Txs x2).Last)).bind fun x7 => ((spec_PutInt.f k x7 x5).bind fun x8 => (rec_l1 x8 (w64 (x2 + 1)))))) else none) else none)
def spec_PutRec.l1 (x3 : TRec) : Nat → (List Int) → Int → Option (List Int)
  | 0, _, _ => none
  | k + 1, x4, x2 => (if (decide (x2 < (x3.Txs.length : Int))) = true then (((if 0 ≤ x2 ∧ x2 < (x3.Txs.length : Int) then (if ((rd x3.Txs x2).Aborts) = true then (some 1) else (some 0)) else none) : Option Int).bind fun x9 => spec_PutRec.c2 k (spec_PutRec.l1 x3 k) x2 x3 x4 x9) else (some x4))
def spec_PutRec.c3 (k : Nat) (x3 : TRec) (x10 : (List Int)) : Option (List Int) :=
  ((spec_l3PutSlot.f k x10 x3.Before).bind fun x11 => ((spec_l3PutSlot.f k x11 x3.After).bind fun x12 => ((spec_PutInt.f k x12 (x3.Txs.length : Int)).bind fun x13 => (((spec_PutRec.l1 x3 k x13 0) : Option (List Int)).bind fun x14 => spec_PutRec.c1 k x14))))
def spec_PutRec.l2 (x3 : TRec) : Nat → (List Int) → Int → Option (List Int)
  | 0, _, _ => none
  | k + 1, x15, x16 => (if (decide (x16 < 6)) = true then (if 0 ≤ x16 ∧ x16 < (([x3.Lsn, x3.Tx, x3.Prev, x3.Kind, x3.Oid, x3.Next] : List Int).length : Int) then ((spec_PutInt.f k x15 (rd ([x3.Lsn, x3.Tx, x3.Prev, x3.Kind, x3.Oid, x3.Next] : List Int) x16)).bind fun x17 => ((spec_PutRec.l2 x3 k) x17 (w64 (x16 + 1)))) else none) else (some x15))
def spec_PutRec.f (k : Nat) (x3 : TRec) : Option (List Int) :=
  ((spec_RecOk.f k x3).bind fun x18 => (if (!x18) = true then (some ([] : List Int)) else (((spec_PutRec.l2 x3 k ([] : List Int) 0) : Option (List Int)).bind fun x19 => spec_PutRec.c3 k x3 x19)))
set_option maxRecDepth 100000 in
set_option maxHeartbeats 4000000 in
theorem spec_PutRec.spec (k : Nat) (s0 : HF) (w : World) (x3 : TRec) (v1 : Value) (v2 : Value) (v3 : Value) (v4 : Value) (v5 : Value) (h1 : Sl (Kd.int .i64) s0 v1 x3.Before.O.Ints) (h2 : Sl (Kd.int .i64) s0 v2 x3.Before.O.Refs) (h3 : Sl (Kd.int .i64) s0 v3 x3.After.O.Ints) (h4 : Sl (Kd.int .i64) s0 v4 x3.After.O.Refs) (h5 : Sl kTLive s0 v5 x3.Txs) (r : (List Int)) (H : spec_PutRec.f k x3 = some r) :
    Law Try.prog 59 #[(.agg #[(.int .i64 x3.Lsn), (.int .i64 x3.Tx), (.int .i64 x3.Prev), (.int .i64 x3.Kind), (.int .i64 x3.Oid), (.bool x3.Before.Has), (.int .i64 x3.Before.O.Kind), v1, v2, (.bool x3.After.Has), (.int .i64 x3.After.O.Kind), v3, v4, (.int .i64 x3.Next), v5])] s0 w [] (fun v s1 A1 => ∃ (u0 : Value), v = u0 ∧ A1 = [Ow (Kd.int .u8) 5 u0 r]) := by
  unfold spec_PutRec.f at H
  refine Law.intro Try.func59 rfl [(0, (.agg #[(.int .i64 x3.Lsn), (.int .i64 x3.Tx), (.int .i64 x3.Prev), (.int .i64 x3.Kind), (.int .i64 x3.Oid), (.bool x3.Before.Has), (.int .i64 x3.Before.O.Kind), v1, v2, (.bool x3.After.Has), (.int .i64 x3.After.O.Kind), v3, v4, (.int .i64 x3.Next), v5]))] (Nat.le_of_ble_eq_true rfl) (enter_lk ⟨rfl, trivial⟩) (fun e a hS hF => ?_)
  have hF : Fr 78 a [(0, (.agg #[(.int .i64 x3.Lsn), (.int .i64 x3.Tx), (.int .i64 x3.Prev), (.int .i64 x3.Kind), (.int .i64 x3.Oid), (.bool x3.Before.Has), (.int .i64 x3.Before.O.Kind), v1, v2, (.bool x3.After.Has), (.int .i64 x3.After.O.Kind), v3, v4, (.int .i64 x3.Next), v5]))] := hF
  refine sq ?_
  refine rg ?_
  refine ste hF (e_box (cs := [(.int .i64 x3.Lsn), (.int .i64 x3.Tx), (.int .i64 x3.Prev), (.int .i64 x3.Kind), (.int .i64 x3.Oid), (.bool x3.Before.Has), (.int .i64 x3.Before.O.Kind), v1, v2, (.bool x3.After.Has), (.int .i64 x3.After.O.Kind), v3, v4, (.int .i64 x3.Next), v5]) hS rfl rfl) (by decide) (fun v w a hR hF => ?_)
  obtain ⟨g1, rfl, hS⟩ := hR
  refine stp hF (p_assign rfl) (by decide) (fun a hF => ?_)
  refine nilN ?_
  refine xn ?_
  refine sq ?_
  refine sq ?_
  refine rg ?_
  refine stp hF (p_ldb_agg (i := 0) (l := []) (m := [(.int .i64 x3.Lsn), (.int .i64 x3.Tx), (.int .i64 x3.Prev), (.int .i64 x3.Kind), (.int .i64 x3.Oid), (.bool x3.Before.Has), (.int .i64 x3.Before.O.Kind), v1, v2, (.bool x3.After.Has), (.int .i64 x3.After.O.Kind), v3, v4, (.int .i64 x3.Next), v5]) (r := []) hS rfl rfl ia_41 ti_41 rfl rfl rfl) (by decide) (fun a hF => ?_)
  obtain ⟨x18, hx1, H⟩ := hb H
  refine ste hF (e_callA (fst := []) (vs := [(.agg #[(.int .i64 x3.Lsn), (.int .i64 x3.Tx), (.int .i64 x3.Prev), (.int .i64 x3.Kind), (.int .i64 x3.Oid), (.bool x3.Before.Has), (.int .i64 x3.Before.O.Kind), v1, v2, (.bool x3.After.Has), (.int .i64 x3.After.O.Kind), v3, v4, (.int .i64 x3.Next), v5])]) (cap := []) rfl rfl go_23 (St.call (A := []) (B := [pt g1 41 ([(.int .i64 x3.Lsn), (.int .i64 x3.Tx), (.int .i64 x3.Prev), (.int .i64 x3.Kind), (.int .i64 x3.Oid), (.bool x3.Before.Has), (.int .i64 x3.Before.O.Kind), v1, v2, (.bool x3.After.Has), (.int .i64 x3.After.O.Kind), v3, v4, (.int .i64 x3.Next), v5])]) hS (spec_RecOk.spec k _ _ x3 v1 v2 v3 v4 v5 h1 h2 h3 h4 h5 _ hx1)) rfl) (by decide) (fun v w a hR hF => ?_)
  obtain ⟨s2, A2, hg1, hS, hR⟩ := hR
  obtain ⟨hv1, rfl⟩ := hR; obtain rfl := hv1.symm
  have hS : St e s2 w [pt g1 41 ([(.int .i64 x3.Lsn), (.int .i64 x3.Tx), (.int .i64 x3.Prev), (.int .i64 x3.Kind), (.int .i64 x3.Oid), (.bool x3.Before.Has), (.int .i64 x3.Before.O.Kind), v1, v2, (.bool x3.After.Has), (.int .i64 x3.After.O.Kind), v3, v4, (.int .i64 x3.Next), v5])] := hS
  refine stp hF (p_not rfl) (by decide) (fun a hF => ?_)
  refine nilN ?_
  refine xn ?_
  refine cnd hF rfl (fun hc1 => ?_) (fun hc1 => ?_)
  · replace H := hbt hc1 H
    refine sq ?_
    refine rg ?_
    refine ste hF (e_bslice (kd := (Kd.int .u8)) (et := 5) (ps := []) (vs := []) (cs := []) (xs := ([] : List Int)) hS rfl (by intro w; kernel_rfl) rfl (by decide) (Nat.le_of_ble_eq_true rfl) (by exact (Rows.nil _ _ _ _))) (by decide) (fun v6 w a hR hF => ?_)
    have hS : St e s2 w [Ow (Kd.int .u8) 5 v6 ([] : List Int), pt g1 41 ([(.int .i64 x3.Lsn), (.int .i64 x3.Tx), (.int .i64 x3.Prev), (.int .i64 x3.Kind), (.int .i64 x3.Oid), (.bool x3.Before.Has), (.int .i64 x3.Before.O.Kind), v1, v2, (.bool x3.After.Has), (.int .i64 x3.After.O.Kind), v3, v4, (.int .i64 x3.Next), v5])] := hR
    refine stp hF (p_assign rfl) (by decide) (fun a hF => ?_)
    refine nilN ?_
    refine xn ?_
    refine rt ?_
    refine xr ?_
    obtain rfl := hsm H
    replace hS := hS.sel (is := [0]) (A' := [Ow (Kd.int .u8) 5 v6 ([] : List Int)]) rfl
    exact ret1 hF rfl rfl hS ⟨v6, rfl, rfl⟩
  · replace H := hbf hc1 H
    refine skN ?_
    refine xn ?_
    refine sq ?_
    refine rg ?_
    refine ste hF (e_bslice (kd := (Kd.int .u8)) (et := 5) (ps := []) (vs := []) (cs := []) (xs := ([] : List Int)) hS rfl (by intro w; kernel_rfl) rfl (by decide) (Nat.le_of_ble_eq_true rfl) (by exact (Rows.nil _ _ _ _))) (by decide) (fun v7 w a hR hF => ?_)
    have hS : St e s2 w [Ow (Kd.int .u8) 5 v7 ([] : List Int), pt g1 41 ([(.int .i64 x3.Lsn), (.int .i64 x3.Tx), (.int .i64 x3.Prev), (.int .i64 x3.Kind), (.int .i64 x3.Oid), (.bool x3.Before.Has), (.int .i64 x3.Before.O.Kind), v1, v2, (.bool x3.After.Has), (.int .i64 x3.After.O.Kind), v3, v4, (.int .i64 x3.Next), v5])] := hR
    refine stp hF (p_assign rfl) (by decide) (fun a hF => ?_)
    refine nilN ?_
    refine xn ?_
    refine sq ?_
    refine rg ?_
    refine stp hF (p_fldb (o' := 0) rfl fi_41_0 rfl) (by decide) (fun a hF => ?_)
    refine stp hF (p_ldb_one (i := 1) hS rfl rfl ia_3 rfl) (by decide) (fun a hF => ?_)
    refine stp hF (p_fldb (o' := 1) rfl fi_41_1 rfl) (by decide) (fun a hF => ?_)
    refine stp hF (p_ldb_one (i := 1) hS rfl rfl ia_3 rfl) (by decide) (fun a hF => ?_)
    refine stp hF (p_fldb (o' := 2) rfl fi_41_2 rfl) (by decide) (fun a hF => ?_)
    refine stp hF (p_ldb_one (i := 1) hS rfl rfl ia_3 rfl) (by decide) (fun a hF => ?_)
    refine stp hF (p_fldb (o' := 3) rfl fi_41_3 rfl) (by decide) (fun a hF => ?_)
    refine stp hF (p_ldb_one (i := 1) hS rfl rfl ia_3 rfl) (by decide) (fun a hF => ?_)
    refine stp hF (p_fldb (o' := 4) rfl fi_41_4 rfl) (by decide) (fun a hF => ?_)
    refine stp hF (p_ldb_one (i := 1) hS rfl rfl ia_3 rfl) (by decide) (fun a hF => ?_)
    refine stp hF (p_fldb (o' := 13) rfl fi_41_7 rfl) (by decide) (fun a hF => ?_)
    refine stp hF (p_ldb_one (i := 1) hS rfl rfl ia_3 rfl) (by decide) (fun a hF => ?_)
    refine ste hF (e_bslice (kd := (Kd.int .i64)) (et := 3) (ps := [(0, (.tmp 14)), (1, (.tmp 16)), (2, (.tmp 18)), (3, (.tmp 20)), (4, (.tmp 22)), (5, (.tmp 24))]) (vs := [(0, (.int .i64 x3.Lsn)), (1, (.int .i64 x3.Tx)), (2, (.int .i64 x3.Prev)), (3, (.int .i64 x3.Kind)), (4, (.int .i64 x3.Oid)), (5, (.int .i64 x3.Next))]) (cs := [(.int .i64 x3.Lsn), (.int .i64 x3.Tx), (.int .i64 x3.Prev), (.int .i64 x3.Kind), (.int .i64 x3.Oid), (.int .i64 x3.Next)]) (xs := ([x3.Lsn, x3.Tx, x3.Prev, x3.Kind, x3.Oid, x3.Next] : List Int)) hS rfl (by intro w; kernel_rfl) rfl (by decide) (Nat.le_of_ble_eq_true rfl) (by exact (rows_cons (kd := (Kd.int .i64)) (x := x3.Lsn) (c := [(.int .i64 x3.Lsn)]) (cs := [(.int .i64 x3.Tx), (.int .i64 x3.Prev), (.int .i64 x3.Kind), (.int .i64 x3.Oid), (.int .i64 x3.Next)]) rfl (rows_cons (kd := (Kd.int .i64)) (x := x3.Tx) (c := [(.int .i64 x3.Tx)]) (cs := [(.int .i64 x3.Prev), (.int .i64 x3.Kind), (.int .i64 x3.Oid), (.int .i64 x3.Next)]) rfl (rows_cons (kd := (Kd.int .i64)) (x := x3.Prev) (c := [(.int .i64 x3.Prev)]) (cs := [(.int .i64 x3.Kind), (.int .i64 x3.Oid), (.int .i64 x3.Next)]) rfl (rows_cons (kd := (Kd.int .i64)) (x := x3.Kind) (c := [(.int .i64 x3.Kind)]) (cs := [(.int .i64 x3.Oid), (.int .i64 x3.Next)]) rfl (rows_cons (kd := (Kd.int .i64)) (x := x3.Oid) (c := [(.int .i64 x3.Oid)]) (cs := [(.int .i64 x3.Next)]) rfl (rows_cons (kd := (Kd.int .i64)) (x := x3.Next) (c := [(.int .i64 x3.Next)]) (cs := []) rfl (Rows.nil _ _ _ _))))))))) (by decide) (fun v8 w a hR hF => ?_)
    have hS : St e s2 w [Ow (Kd.int .i64) 3 v8 ([x3.Lsn, x3.Tx, x3.Prev, x3.Kind, x3.Oid, x3.Next] : List Int), Ow (Kd.int .u8) 5 v7 ([] : List Int), pt g1 41 ([(.int .i64 x3.Lsn), (.int .i64 x3.Tx), (.int .i64 x3.Prev), (.int .i64 x3.Kind), (.int .i64 x3.Oid), (.bool x3.Before.Has), (.int .i64 x3.Before.O.Kind), v1, v2, (.bool x3.After.Has), (.int .i64 x3.After.O.Kind), v3, v4, (.int .i64 x3.Next), v5])] := hR
    refine stp hF (p_assign rfl) (by decide) (fun a hF => ?_)
    refine nilN ?_
    refine xn ?_
    obtain ⟨x19, H, HK1⟩ := hb H
    refine sqj (fun a w => ∃ (x10 : (List Int)) (s3 : HF) (v9 : Value) , St e s3 w [Ow (Kd.int .i64) 3 v8 ([x3.Lsn, x3.Tx, x3.Prev, x3.Kind, x3.Oid, x3.Next] : List Int), pt g1 41 ([(.int .i64 x3.Lsn), (.int .i64 x3.Tx), (.int .i64 x3.Prev), (.int .i64 x3.Kind), (.int .i64 x3.Oid), (.bool x3.Before.Has), (.int .i64 x3.Before.O.Kind), v1, v2, (.bool x3.After.Has), (.int .i64 x3.After.O.Kind), v3, v4, (.int .i64 x3.Next), v5]), Ow (Kd.int .u8) 5 v9 x10] ∧ Fr 78 a [(1, (.pointer (some ⟨g1, 0, none⟩))), (3, v9)] ∧ Sub s2 s3 ∧ spec_PutRec.c3 k x3 x10 = some r) ?_ ?_
    · skip
      refine sq ?_
      refine rg ?_
      refine stp hF (p_assign rfl) (by decide) (fun a hF => ?_)
      refine nilN ?_
      refine xn ?_
      refine blk ?_
      refine loop_ind (fun k1 a w => ∃ (x15 : (List Int)) (x16 : Int) (s4 : HF) (v10 : Value) , St e s4 w [Ow (Kd.int .i64) 3 v8 ([x3.Lsn, x3.Tx, x3.Prev, x3.Kind, x3.Oid, x3.Next] : List Int), pt g1 41 ([(.int .i64 x3.Lsn), (.int .i64 x3.Tx), (.int .i64 x3.Prev), (.int .i64 x3.Kind), (.int .i64 x3.Oid), (.bool x3.Before.Has), (.int .i64 x3.Before.O.Kind), v1, v2, (.bool x3.After.Has), (.int .i64 x3.After.O.Kind), v3, v4, (.int .i64 x3.Next), v5]), Ow (Kd.int .u8) 5 v10 x15] ∧ Fr 78 a [(1, (.pointer (some ⟨g1, 0, none⟩))), (3, v10), (4, v8), (5, (.int .i64 x16))] ∧ Sub s2 s4 ∧ spec_PutRec.l2 x3 k1 x15 x16 = some x19) k ?_ ?_ ?_
      · skip
        replace hS := hS.sel (is := [0, 1, 0]) (A' := [Ow (Kd.int .i64) 3 v8 ([x3.Lsn, x3.Tx, x3.Prev, x3.Kind, x3.Oid, x3.Next] : List Int), pt g1 41 ([(.int .i64 x3.Lsn), (.int .i64 x3.Tx), (.int .i64 x3.Prev), (.int .i64 x3.Kind), (.int .i64 x3.Oid), (.bool x3.Before.Has), (.int .i64 x3.Before.O.Kind), v1, v2, (.bool x3.After.Has), (.int .i64 x3.After.O.Kind), v3, v4, (.int .i64 x3.Next), v5]), Ow (Kd.int .u8) 5 v7 ([] : List Int)]) rfl
        exact ⟨([] : List Int), 0, s2, v7, hS, hF.cut ⟨rfl, rfl, rfl, rfl, trivial⟩, (Sub.refl _), H⟩
      · clear H hS hF
        rintro a w ⟨x15, x16, s4, v10, hS, hF, hg2, H⟩
        exact absurd (show none = some _ from H) (by simp)
      · clear H hS hF
        rintro k1 a w ⟨x15, x16, s4, v10, hS, hF, hg2, H⟩
        rw [spec_PutRec.l2.eq_2] at H
        refine sq ?_
        refine sq ?_
        refine rg ?_
        refine stp hF (p_move rfl) (by decide) (fun a hF => ?_)
        refine stp hF (p_lss rfl rfl) (by decide) (fun a hF => ?_)
        refine nilN ?_
        refine xn ?_
        refine cnd hF rfl (fun hc2 => ?_) (fun hc2 => ?_)
        · replace H := hbt hc2 H
          refine skN ?_
          refine xn ?_
          refine sq ?_
          refine blk ?_
          refine rg ?_
          refine stp hF (p_move rfl) (by decide) (fun a hF => ?_)
          refine stp hF (p_move rfl) (by decide) (fun a hF => ?_)
          refine stp hF (p_move rfl) (by decide) (fun a hF => ?_)
          obtain ⟨hq1, H⟩ := hck H
          obtain ⟨b1, o1, q1, hv2, p1⟩ := p_idxo (n := 0) (i := x16) hS rfl un_34 ti_3 hq1.1 hq1.2
          refine stp hF (p1 rfl rfl) (by decide) (fun a hF => ?_)
          obtain ⟨u1, h6, p2⟩ := p_ldo_one (P := Try.prog) (n := 0) hS rfl hv2 (Lens.id _) hq1.1 hq1.2 rfl ia_3 rfl
          obtain rfl : u1 = .int .i64 (rd ([x3.Lsn, x3.Tx, x3.Prev, x3.Kind, x3.Oid, x3.Next] : List Int) x16) := by injection h6
          refine stp hF (p2 rfl) (by decide) (fun a hF => ?_)
          replace hS := hS.sel (is := [2, 0, 0]) (A' := [Ow (Kd.int .u8) 5 v10 x15, Ow (Kd.int .i64) 3 v8 ([x3.Lsn, x3.Tx, x3.Prev, x3.Kind, x3.Oid, x3.Next] : List Int), pt g1 41 ([(.int .i64 x3.Lsn), (.int .i64 x3.Tx), (.int .i64 x3.Prev), (.int .i64 x3.Kind), (.int .i64 x3.Oid), (.bool x3.Before.Has), (.int .i64 x3.Before.O.Kind), v1, v2, (.bool x3.After.Has), (.int .i64 x3.After.O.Kind), v3, v4, (.int .i64 x3.Next), v5])]) rfl
          obtain ⟨s5, hg3, hl1, hcall1⟩ := St.lend (P := Try.prog) (Bs := [Ow (Kd.int .u8) 5 v10 x15]) (A := []) (B := [Ow (Kd.int .i64) 3 v8 ([x3.Lsn, x3.Tx, x3.Prev, x3.Kind, x3.Oid, x3.Next] : List Int), pt g1 41 ([(.int .i64 x3.Lsn), (.int .i64 x3.Tx), (.int .i64 x3.Prev), (.int .i64 x3.Kind), (.int .i64 x3.Oid), (.bool x3.Before.Has), (.int .i64 x3.Before.O.Kind), v1, v2, (.bool x3.After.Has), (.int .i64 x3.After.O.Kind), v3, v4, (.int .i64 x3.Next), v5])]) hS
          obtain ⟨h7, hl1⟩ := hl1.ow hg3
          obtain ⟨x17, hx2, H⟩ := hb H
          refine ste hF (e_callA (fst := []) (vs := [v10, (.int .i64 (rd ([x3.Lsn, x3.Tx, x3.Prev, x3.Kind, x3.Oid, x3.Next] : List Int) x16))]) (cap := []) rfl rfl go_63 (hcall1 (spec_PutInt.spec k1 _ _ x15 (rd ([x3.Lsn, x3.Tx, x3.Prev, x3.Kind, x3.Oid, x3.Next] : List Int) x16) v10 h7 _ hx2) (by rintro v s1 A1 ⟨_, rfl, rfl⟩; exact ⟨Ow_flat flat_int _ _ _, trivial⟩)) rfl) (by decide) (fun v w a hR hF => ?_)
          obtain ⟨s6, s7, A3, hg4, hS, hR⟩ := hR
          obtain ⟨v11, hv3, rfl⟩ := hR; obtain rfl := hv3.symm
          have hS : St e s6 w [Ow (Kd.int .u8) 5 v10 x15, Ow (Kd.int .u8) 5 v11 x17, Ow (Kd.int .i64) 3 v8 ([x3.Lsn, x3.Tx, x3.Prev, x3.Kind, x3.Oid, x3.Next] : List Int), pt g1 41 ([(.int .i64 x3.Lsn), (.int .i64 x3.Tx), (.int .i64 x3.Prev), (.int .i64 x3.Kind), (.int .i64 x3.Oid), (.bool x3.Before.Has), (.int .i64 x3.Before.O.Kind), v1, v2, (.bool x3.After.Has), (.int .i64 x3.After.O.Kind), v3, v4, (.int .i64 x3.Next), v5])] := hS
          refine stp hF (p_assign rfl) (by decide) (fun a hF => ?_)
          refine nilN ?_
          refine bn (xn ?_)
          refine rg ?_
          refine stp hF (p_move rfl) (by decide) (fun a hF => ?_)
          refine stp hF (p_add (c := w64 (x16 + 1)) rfl rfl rfl) (by decide) (fun a hF => ?_)
          refine stp hF (p_assign rfl) (by decide) (fun a hF => ?_)
          refine nilN ?_
          refine xn ?_
          replace hS := hS.sel (is := [2, 2, 1]) (A' := [Ow (Kd.int .i64) 3 v8 ([x3.Lsn, x3.Tx, x3.Prev, x3.Kind, x3.Oid, x3.Next] : List Int), pt g1 41 ([(.int .i64 x3.Lsn), (.int .i64 x3.Tx), (.int .i64 x3.Prev), (.int .i64 x3.Kind), (.int .i64 x3.Oid), (.bool x3.Before.Has), (.int .i64 x3.Before.O.Kind), v1, v2, (.bool x3.After.Has), (.int .i64 x3.After.O.Kind), v3, v4, (.int .i64 x3.Next), v5]), Ow (Kd.int .u8) 5 v11 x17]) rfl
          exact ⟨x17, (w64 (x16 + 1)), s6, v11, hS, hF.cut ⟨rfl, rfl, rfl, rfl, trivial⟩, (hg2.trans hg4), H⟩
        · replace H := hbf hc2 H
          refine exi ?_
          refine xe (xe (hit (xn ?_)))
          obtain rfl := hsm H
          exact ⟨x15, s4, v10, hS, hF.cut ⟨rfl, rfl, trivial⟩, hg2, HK1⟩
    · clear H HK1 hS hF
      rintro a w ⟨x10, s3, v9, hS, hF, hg5, H⟩
      unfold spec_PutRec.c3 at H
      refine sq ?_
      replace hS : St e s3 w.drew [Ow (Kd.int .i64) 3 v8 ([x3.Lsn, x3.Tx, x3.Prev, x3.Kind, x3.Oid, x3.Next] : List Int), pt g1 41 ([(.int .i64 x3.Lsn), (.int .i64 x3.Tx), (.int .i64 x3.Prev), (.int .i64 x3.Kind), (.int .i64 x3.Oid), (.bool x3.Before.Has), (.int .i64 x3.Before.O.Kind), v1, v2, (.bool x3.After.Has), (.int .i64 x3.After.O.Kind), v3, v4, (.int .i64 x3.Next), v5]), Ow (Kd.int .u8) 5 v9 x10] := hS.drewN 1
      refine drw [0, 1, 2, 3, 4, 5, 6, 7, 8, 9, 10, 11] mixed (by kernel_rfl) (by decide) (hF.cut (L' := [(1, (.pointer (some ⟨g1, 0, none⟩))), (3, v9)]) ⟨rfl, rfl, trivial⟩) ?_
      clear hF
      generalize w.drew = w at hS ⊢
      refine pk1 rfl (by decide) rfl (by kernel_rfl) rfl (p_move rfl) ?_
      refine pk1 rfl (by decide) rfl (by kernel_rfl) rfl (p_fldb (o' := 5) rfl fi_41_5 rfl) ?_
      refine pk1 rfl (by decide) rfl (by kernel_rfl) rfl (p_ldb_agg (i := 1) (l := [(.int .i64 x3.Lsn), (.int .i64 x3.Tx), (.int .i64 x3.Prev), (.int .i64 x3.Kind), (.int .i64 x3.Oid)]) (m := [(.bool x3.Before.Has), (.int .i64 x3.Before.O.Kind), v1, v2]) (r := [(.bool x3.After.Has), (.int .i64 x3.After.O.Kind), v3, v4, (.int .i64 x3.Next), v5]) hS rfl rfl ia_38 ti_38 rfl rfl rfl) ?_
      refine pkPerm [4, 3, 5, 6, 7, 8, 9, 10, 11] (by kernel_rfl) ?_
      refine pk1 rfl (by decide) rfl (by kernel_rfl) rfl (p_fldb (o' := 9) rfl fi_41_6 rfl) ?_
      refine pkPerm [5, 3, 6, 7, 8, 9, 10, 11] (by kernel_rfl) ?_
      refine pk1 rfl (by decide) rfl (by kernel_rfl) rfl (p_ldb_agg (i := 1) (l := [(.int .i64 x3.Lsn), (.int .i64 x3.Tx), (.int .i64 x3.Prev), (.int .i64 x3.Kind), (.int .i64 x3.Oid), (.bool x3.Before.Has), (.int .i64 x3.Before.O.Kind), v1, v2]) (m := [(.bool x3.After.Has), (.int .i64 x3.After.O.Kind), v3, v4]) (r := [(.int .i64 x3.Next), v5]) hS rfl rfl ia_38 ti_38 rfl rfl rfl) ?_
      refine pkPerm [7, 3, 6, 8, 9, 10, 11] (by kernel_rfl) ?_
      refine pk1 rfl (by decide) rfl (by kernel_rfl) rfl (p_fldb (o' := 14) rfl fi_41_8 rfl) ?_
      refine pkPerm [8, 3, 6, 9, 10, 11] (by kernel_rfl) ?_
      refine pk1 rfl (by decide) rfl (by kernel_rfl) rfl (p_ldb_one (i := 1) hS rfl rfl ia_39 rfl) ?_
      refine pkPerm [9, 3, 6, 10, 11] (by kernel_rfl) ?_
      refine pk1 rfl (by decide) rfl (by kernel_rfl) rfl (p_lenr un_39 rfl ((h5.mono hg1).mono hg5)) ?_
      replace hS := hS.sel (is := [2, 0, 0]) (A' := [Ow (Kd.int .u8) 5 v9 x10, Ow (Kd.int .i64) 3 v8 ([x3.Lsn, x3.Tx, x3.Prev, x3.Kind, x3.Oid, x3.Next] : List Int), pt g1 41 ([(.int .i64 x3.Lsn), (.int .i64 x3.Tx), (.int .i64 x3.Prev), (.int .i64 x3.Kind), (.int .i64 x3.Oid), (.bool x3.Before.Has), (.int .i64 x3.Before.O.Kind), v1, v2, (.bool x3.After.Has), (.int .i64 x3.After.O.Kind), v3, v4, (.int .i64 x3.Next), v5])]) rfl
      obtain ⟨s8, hg6, hl2, hcall2⟩ := St.lend (P := Try.prog) (Bs := [Ow (Kd.int .u8) 5 v9 x10]) (A := []) (B := [Ow (Kd.int .i64) 3 v8 ([x3.Lsn, x3.Tx, x3.Prev, x3.Kind, x3.Oid, x3.Next] : List Int), pt g1 41 ([(.int .i64 x3.Lsn), (.int .i64 x3.Tx), (.int .i64 x3.Prev), (.int .i64 x3.Kind), (.int .i64 x3.Oid), (.bool x3.Before.Has), (.int .i64 x3.Before.O.Kind), v1, v2, (.bool x3.After.Has), (.int .i64 x3.After.O.Kind), v3, v4, (.int .i64 x3.Next), v5])]) hS
      obtain ⟨h8, hl2⟩ := hl2.ow hg6
      obtain ⟨x11, hx3, H⟩ := hb H
      refine pkE [9, 8, 7, 5, 4, 1] rfl (by decide) (by kernel_rfl) (by kernel_rfl) (e_callA (fst := []) (vs := [v9, (.agg #[(.bool x3.Before.Has), (.int .i64 x3.Before.O.Kind), v1, v2])]) (cap := []) rfl rfl go_125 (hcall2 (spec_l3PutSlot.spec k _ _ x10 x3.Before v9 v1 v2 h8 (((h1.mono hg1).mono hg5).mono hg6) (((h2.mono hg1).mono hg5).mono hg6) _ hx3) (by rintro v s1 A1 ⟨_, rfl, rfl⟩; exact ⟨Ow_flat flat_int _ _ _, trivial⟩)) rfl) ?_
      intro v w hR
      obtain ⟨s9, s10, A4, hg7, hS, hR⟩ := hR
      obtain ⟨v12, hv4, rfl⟩ := hR; obtain rfl := hv4.symm
      have hS : St e s9 w [Ow (Kd.int .u8) 5 v9 x10, Ow (Kd.int .u8) 5 v12 x11, Ow (Kd.int .i64) 3 v8 ([x3.Lsn, x3.Tx, x3.Prev, x3.Kind, x3.Oid, x3.Next] : List Int), pt g1 41 ([(.int .i64 x3.Lsn), (.int .i64 x3.Tx), (.int .i64 x3.Prev), (.int .i64 x3.Kind), (.int .i64 x3.Oid), (.bool x3.Before.Has), (.int .i64 x3.Before.O.Kind), v1, v2, (.bool x3.After.Has), (.int .i64 x3.After.O.Kind), v3, v4, (.int .i64 x3.Next), v5])] := hS
      refine ⟨⟨knw rfl rfl rfl (p_lenr un_39 rfl ((h5.mono hg1).mono hg5)), ⟨knw rfl rfl rfl (p_ldb_one (i := 3) hS rfl rfl ia_39 rfl), ⟨knw rfl rfl rfl (p_fldb (o' := 14) rfl fi_41_8 rfl), ⟨knw rfl rfl rfl (p_ldb_agg (i := 3) (l := [(.int .i64 x3.Lsn), (.int .i64 x3.Tx), (.int .i64 x3.Prev), (.int .i64 x3.Kind), (.int .i64 x3.Oid), (.bool x3.Before.Has), (.int .i64 x3.Before.O.Kind), v1, v2]) (m := [(.bool x3.After.Has), (.int .i64 x3.After.O.Kind), v3, v4]) (r := [(.int .i64 x3.Next), v5]) hS rfl rfl ia_38 ti_38 rfl rfl rfl), ⟨knw rfl rfl rfl (p_fldb (o' := 9) rfl fi_41_6 rfl), ⟨knw rfl rfl rfl (p_fldb (o' := 5) rfl fi_41_5 rfl), trivial⟩⟩⟩⟩⟩⟩, ?_⟩
      replace hS := hS.sel (is := [1, 0, 0, 0]) (A' := [Ow (Kd.int .u8) 5 v12 x11, Ow (Kd.int .u8) 5 v9 x10, Ow (Kd.int .i64) 3 v8 ([x3.Lsn, x3.Tx, x3.Prev, x3.Kind, x3.Oid, x3.Next] : List Int), pt g1 41 ([(.int .i64 x3.Lsn), (.int .i64 x3.Tx), (.int .i64 x3.Prev), (.int .i64 x3.Kind), (.int .i64 x3.Oid), (.bool x3.Before.Has), (.int .i64 x3.Before.O.Kind), v1, v2, (.bool x3.After.Has), (.int .i64 x3.After.O.Kind), v3, v4, (.int .i64 x3.Next), v5])]) rfl
      obtain ⟨s11, hg8, hl3, hcall3⟩ := St.lend (P := Try.prog) (Bs := [Ow (Kd.int .u8) 5 v12 x11]) (A := []) (B := [Ow (Kd.int .u8) 5 v9 x10, Ow (Kd.int .i64) 3 v8 ([x3.Lsn, x3.Tx, x3.Prev, x3.Kind, x3.Oid, x3.Next] : List Int), pt g1 41 ([(.int .i64 x3.Lsn), (.int .i64 x3.Tx), (.int .i64 x3.Prev), (.int .i64 x3.Kind), (.int .i64 x3.Oid), (.bool x3.Before.Has), (.int .i64 x3.Before.O.Kind), v1, v2, (.bool x3.After.Has), (.int .i64 x3.After.O.Kind), v3, v4, (.int .i64 x3.Next), v5])]) hS
      obtain ⟨h9, hl3⟩ := hl3.ow hg8
      obtain ⟨x12, hx4, H⟩ := hb H
      refine pkE [9, 8, 7, 4, 1] rfl (by decide) (by kernel_rfl) (by kernel_rfl) (e_callA (fst := []) (vs := [v12, (.agg #[(.bool x3.After.Has), (.int .i64 x3.After.O.Kind), v3, v4])]) (cap := []) rfl rfl go_125 (hcall3 (spec_l3PutSlot.spec k _ _ x11 x3.After v12 v3 v4 h9 ((((h3.mono hg1).mono hg5).mono hg7).mono hg8) ((((h4.mono hg1).mono hg5).mono hg7).mono hg8) _ hx4) (by rintro v s1 A1 ⟨_, rfl, rfl⟩; exact ⟨Ow_flat flat_int _ _ _, trivial⟩)) rfl) ?_
      intro v w hR
      obtain ⟨s12, s13, A5, hg9, hS, hR⟩ := hR
      obtain ⟨v13, hv5, rfl⟩ := hR; obtain rfl := hv5.symm
      have hS : St e s12 w [Ow (Kd.int .u8) 5 v12 x11, Ow (Kd.int .u8) 5 v13 x12, Ow (Kd.int .u8) 5 v9 x10, Ow (Kd.int .i64) 3 v8 ([x3.Lsn, x3.Tx, x3.Prev, x3.Kind, x3.Oid, x3.Next] : List Int), pt g1 41 ([(.int .i64 x3.Lsn), (.int .i64 x3.Tx), (.int .i64 x3.Prev), (.int .i64 x3.Kind), (.int .i64 x3.Oid), (.bool x3.Before.Has), (.int .i64 x3.Before.O.Kind), v1, v2, (.bool x3.After.Has), (.int .i64 x3.After.O.Kind), v3, v4, (.int .i64 x3.Next), v5])] := hS
      refine ⟨⟨knw rfl rfl rfl (p_lenr un_39 rfl ((h5.mono hg1).mono hg5)), ⟨knw rfl rfl rfl (p_ldb_one (i := 4) hS rfl rfl ia_39 rfl), ⟨knw rfl rfl rfl (p_fldb (o' := 14) rfl fi_41_8 rfl), ⟨knw rfl rfl rfl (p_fldb (o' := 9) rfl fi_41_6 rfl), ⟨knw rfl rfl rfl (p_fldb (o' := 5) rfl fi_41_5 rfl), trivial⟩⟩⟩⟩⟩, ?_⟩
      replace hS := hS.sel (is := [1, 0, 0, 0, 0]) (A' := [Ow (Kd.int .u8) 5 v13 x12, Ow (Kd.int .u8) 5 v12 x11, Ow (Kd.int .u8) 5 v9 x10, Ow (Kd.int .i64) 3 v8 ([x3.Lsn, x3.Tx, x3.Prev, x3.Kind, x3.Oid, x3.Next] : List Int), pt g1 41 ([(.int .i64 x3.Lsn), (.int .i64 x3.Tx), (.int .i64 x3.Prev), (.int .i64 x3.Kind), (.int .i64 x3.Oid), (.bool x3.Before.Has), (.int .i64 x3.Before.O.Kind), v1, v2, (.bool x3.After.Has), (.int .i64 x3.After.O.Kind), v3, v4, (.int .i64 x3.Next), v5])]) rfl
      obtain ⟨s14, hg10, hl4, hcall4⟩ := St.lend (P := Try.prog) (Bs := [Ow (Kd.int .u8) 5 v13 x12]) (A := []) (B := [Ow (Kd.int .u8) 5 v12 x11, Ow (Kd.int .u8) 5 v9 x10, Ow (Kd.int .i64) 3 v8 ([x3.Lsn, x3.Tx, x3.Prev, x3.Kind, x3.Oid, x3.Next] : List Int), pt g1 41 ([(.int .i64 x3.Lsn), (.int .i64 x3.Tx), (.int .i64 x3.Prev), (.int .i64 x3.Kind), (.int .i64 x3.Oid), (.bool x3.Before.Has), (.int .i64 x3.Before.O.Kind), v1, v2, (.bool x3.After.Has), (.int .i64 x3.After.O.Kind), v3, v4, (.int .i64 x3.Next), v5])]) hS
      obtain ⟨h10, hl4⟩ := hl4.ow hg10
      obtain ⟨x13, hx5, H⟩ := hb H
      refine pkE [8, 7, 4, 1] rfl (by decide) (by kernel_rfl) (by kernel_rfl) (e_callA (fst := []) (vs := [v13, (.int .i64 (x3.Txs.length : Int))]) (cap := []) rfl rfl go_63 (hcall4 (spec_PutInt.spec k _ _ x12 (x3.Txs.length : Int) v13 h10 _ hx5) (by rintro v s1 A1 ⟨_, rfl, rfl⟩; exact ⟨Ow_flat flat_int _ _ _, trivial⟩)) rfl) ?_
      intro v w hR
      obtain ⟨s15, s16, A6, hg11, hS, hR⟩ := hR
      obtain ⟨v14, hv6, rfl⟩ := hR; obtain rfl := hv6.symm
      have hS : St e s15 w [Ow (Kd.int .u8) 5 v13 x12, Ow (Kd.int .u8) 5 v14 x13, Ow (Kd.int .u8) 5 v12 x11, Ow (Kd.int .u8) 5 v9 x10, Ow (Kd.int .i64) 3 v8 ([x3.Lsn, x3.Tx, x3.Prev, x3.Kind, x3.Oid, x3.Next] : List Int), pt g1 41 ([(.int .i64 x3.Lsn), (.int .i64 x3.Tx), (.int .i64 x3.Prev), (.int .i64 x3.Kind), (.int .i64 x3.Oid), (.bool x3.Before.Has), (.int .i64 x3.Before.O.Kind), v1, v2, (.bool x3.After.Has), (.int .i64 x3.After.O.Kind), v3, v4, (.int .i64 x3.Next), v5])] := hS
      refine ⟨⟨knw rfl rfl rfl (p_ldb_one (i := 5) hS rfl rfl ia_39 rfl), ⟨knw rfl rfl rfl (p_fldb (o' := 14) rfl fi_41_8 rfl), ⟨knw rfl rfl rfl (p_fldb (o' := 9) rfl fi_41_6 rfl), ⟨knw rfl rfl rfl (p_fldb (o' := 5) rfl fi_41_5 rfl), trivial⟩⟩⟩⟩, ?_⟩
      refine pkE [] rfl (by decide) (by kernel_rfl) (by kernel_rfl) (puEf (p_assign rfl)) ?_
      rintro v w' ⟨hv, rfl⟩
      obtain rfl := hv.symm
      refine ⟨trivial, ?_⟩
      refine pkF (fun a hF => ?_)
      refine xn ?_
      obtain ⟨x14, H, HK2⟩ := hb H
      refine sqj (fun a w => ∃ (x1 : (List Int)) (s17 : HF) (v15 : Value) , St e s17 w [Ow (Kd.int .u8) 5 v13 x12, Ow (Kd.int .u8) 5 v12 x11, Ow (Kd.int .u8) 5 v9 x10, Ow (Kd.int .i64) 3 v8 ([x3.Lsn, x3.Tx, x3.Prev, x3.Kind, x3.Oid, x3.Next] : List Int), pt g1 41 ([(.int .i64 x3.Lsn), (.int .i64 x3.Tx), (.int .i64 x3.Prev), (.int .i64 x3.Kind), (.int .i64 x3.Oid), (.bool x3.Before.Has), (.int .i64 x3.Before.O.Kind), v1, v2, (.bool x3.After.Has), (.int .i64 x3.After.O.Kind), v3, v4, (.int .i64 x3.Next), v5]), Ow (Kd.int .u8) 5 v15 x1] ∧ Fr 78 a [(3, v15)] ∧ Sub s15 s17 ∧ spec_PutRec.c1 k x1 = some r) ?_ ?_
      · skip
        refine sq ?_
        refine rg ?_
        refine stp hF (p_assign rfl) (by decide) (fun a hF => ?_)
        refine nilN ?_
        refine xn ?_
        refine blk ?_
        refine loop_ind (fun k2 a w => ∃ (x4 : (List Int)) (x2 : Int) (s18 : HF) (v16 : Value) , St e s18 w [Ow (Kd.int .u8) 5 v13 x12, Ow (Kd.int .u8) 5 v12 x11, Ow (Kd.int .u8) 5 v9 x10, Ow (Kd.int .i64) 3 v8 ([x3.Lsn, x3.Tx, x3.Prev, x3.Kind, x3.Oid, x3.Next] : List Int), pt g1 41 ([(.int .i64 x3.Lsn), (.int .i64 x3.Tx), (.int .i64 x3.Prev), (.int .i64 x3.Kind), (.int .i64 x3.Oid), (.bool x3.Before.Has), (.int .i64 x3.Before.O.Kind), v1, v2, (.bool x3.After.Has), (.int .i64 x3.After.O.Kind), v3, v4, (.int .i64 x3.Next), v5]), Ow (Kd.int .u8) 5 v16 x4] ∧ Fr 78 a [(1, (.pointer (some ⟨g1, 0, none⟩))), (3, v16), (6, (.int .i64 x2))] ∧ Sub s15 s18 ∧ spec_PutRec.l1 x3 k2 x4 x2 = some x14) k ?_ ?_ ?_
        · skip
          replace hS := hS.sel (is := [0, 1, 1, 1, 1, 0]) (A' := [Ow (Kd.int .u8) 5 v13 x12, Ow (Kd.int .u8) 5 v12 x11, Ow (Kd.int .u8) 5 v9 x10, Ow (Kd.int .i64) 3 v8 ([x3.Lsn, x3.Tx, x3.Prev, x3.Kind, x3.Oid, x3.Next] : List Int), pt g1 41 ([(.int .i64 x3.Lsn), (.int .i64 x3.Tx), (.int .i64 x3.Prev), (.int .i64 x3.Kind), (.int .i64 x3.Oid), (.bool x3.Before.Has), (.int .i64 x3.Before.O.Kind), v1, v2, (.bool x3.After.Has), (.int .i64 x3.After.O.Kind), v3, v4, (.int .i64 x3.Next), v5]), Ow (Kd.int .u8) 5 v14 x13]) rfl
          exact ⟨x13, 0, s15, v14, hS, hF.cut ⟨rfl, rfl, rfl, trivial⟩, (Sub.refl _), H⟩
        · clear H hS hF
          rintro a w ⟨x4, x2, s18, v16, hS, hF, hg12, H⟩
          exact absurd (show none = some _ from H) (by simp)
        · clear H hS hF
          rintro k2 a w ⟨x4, x2, s18, v16, hS, hF, hg12, H⟩
          rw [spec_PutRec.l1.eq_2] at H
          refine sq ?_
          refine sq ?_
          refine rg ?_
          refine stp hF (p_move rfl) (by decide) (fun a hF => ?_)
          refine stp hF (p_fldb (o' := 14) rfl fi_41_8 rfl) (by decide) (fun a hF => ?_)
          refine stp hF (p_ldb_one (i := 4) hS rfl rfl ia_39 rfl) (by decide) (fun a hF => ?_)
          refine stp hF (p_lenr un_39 rfl ((((((h5.mono hg1).mono hg5).mono hg7).mono hg9).mono hg11).mono hg12)) (by decide) (fun a hF => ?_)
          refine stp hF (p_lss rfl rfl) (by decide) (fun a hF => ?_)
          refine nilN ?_
          refine xn ?_
          refine cnd hF rfl (fun hc3 => ?_) (fun hc3 => ?_)
          · replace H := hbt hc3 H
            refine skN ?_
            refine xn ?_
            refine sq ?_
            refine blk ?_
            refine sq ?_
            refine rg ?_
            refine stp hF (p_assign rfl) (by decide) (fun a hF => ?_)
            refine nilN ?_
            refine xn ?_
            obtain ⟨x9, H, HK3⟩ := hb H
            refine sqj (fun a w => ∃ (x5 : Int) , St e s18 w [Ow (Kd.int .u8) 5 v13 x12, Ow (Kd.int .u8) 5 v12 x11, Ow (Kd.int .u8) 5 v9 x10, Ow (Kd.int .i64) 3 v8 ([x3.Lsn, x3.Tx, x3.Prev, x3.Kind, x3.Oid, x3.Next] : List Int), pt g1 41 ([(.int .i64 x3.Lsn), (.int .i64 x3.Tx), (.int .i64 x3.Prev), (.int .i64 x3.Kind), (.int .i64 x3.Oid), (.bool x3.Before.Has), (.int .i64 x3.Before.O.Kind), v1, v2, (.bool x3.After.Has), (.int .i64 x3.After.O.Kind), v3, v4, (.int .i64 x3.Next), v5]), Ow (Kd.int .u8) 5 v16 x4] ∧ Fr 78 a [(1, (.pointer (some ⟨g1, 0, none⟩))), (3, v16), (6, (.int .i64 x2)), (7, (.int .i64 x5))] ∧ spec_PutRec.c2 k2 (spec_PutRec.l1 x3 k2) x2 x3 x4 x5 = some x14) ?_ ?_
            · skip
              refine sq ?_
              refine rg ?_
              refine stp hF (p_fldb (o' := 14) rfl fi_41_8 rfl) (by decide) (fun a hF => ?_)
              refine stp hF (p_ldb_one (i := 4) hS rfl rfl ia_39 rfl) (by decide) (fun a hF => ?_)
              refine stp hF (p_move rfl) (by decide) (fun a hF => ?_)
              obtain ⟨hq2, H⟩ := hck H
              obtain ⟨ad1, h11, p3⟩ := p_idxr (P := Try.prog) (i := x2) ((((((h5.mono hg1).mono hg5).mono hg7).mono hg9).mono hg11).mono hg12) un_39 ti_91 hq2.1 hq2.2
              refine stp hF (p3 rfl rfl) (by decide) (fun a hF => ?_)
              have h12 : Pr Kd.bool s18 (ad1.add 2) ((rd x3.Txs x2).Aborts) := h11.lens kTLive_Aborts
              refine stp hF (p_fld rfl fi_91_2) (by decide) (fun a hF => ?_)
              refine stp hF (p_ldr_bool rfl hS h12 ia_4) (by decide) (fun a hF => ?_)
              refine nilN ?_
              refine xn ?_
              refine cnd hF rfl (fun hc4 => ?_) (fun hc4 => ?_)
              · replace H := hbt hc4 H
                refine rg ?_
                refine stp hF (p_assign rfl) (by decide) (fun a hF => ?_)
                refine nilN ?_
                refine xn ?_
                obtain rfl := hsm H
                exact ⟨1, hS, hF.cut ⟨rfl, rfl, rfl, rfl, trivial⟩, HK3⟩
              · replace H := hbf hc4 H
                refine skN ?_
                refine xn ?_
                obtain rfl := hsm H
                exact ⟨0, hS, hF.cut ⟨rfl, rfl, rfl, rfl, trivial⟩, HK3⟩
            · clear H HK3 hS hF
              rintro a w ⟨x5, hS, hF, H⟩
              unfold spec_PutRec.c2 at H
              replace hS : St e s18 w.drew [Ow (Kd.int .u8) 5 v13 x12, Ow (Kd.int .u8) 5 v12 x11, Ow (Kd.int .u8) 5 v9 x10, Ow (Kd.int .i64) 3 v8 ([x3.Lsn, x3.Tx, x3.Prev, x3.Kind, x3.Oid, x3.Next] : List Int), pt g1 41 ([(.int .i64 x3.Lsn), (.int .i64 x3.Tx), (.int .i64 x3.Prev), (.int .i64 x3.Kind), (.int .i64 x3.Oid), (.bool x3.Before.Has), (.int .i64 x3.Before.O.Kind), v1, v2, (.bool x3.After.Has), (.int .i64 x3.After.O.Kind), v3, v4, (.int .i64 x3.Next), v5]), Ow (Kd.int .u8) 5 v16 x4] := hS.drewN 1
              refine drw [0, 1, 2, 3, 4, 5, 6, 7, 8, 9, 10, 11, 12, 13, 14, 15, 16, 17] mixed (by kernel_rfl) (by decide) (hF.cut (L' := [(1, (.pointer (some ⟨g1, 0, none⟩))), (3, v16), (6, (.int .i64 x2)), (7, (.int .i64 x5))]) ⟨rfl, rfl, rfl, rfl, trivial⟩) ?_
              clear hF
              generalize w.drew = w at hS ⊢
              refine pk1 rfl (by decide) rfl (by kernel_rfl) rfl (p_move rfl) ?_
              refine pk1 rfl (by decide) rfl (by kernel_rfl) rfl (p_fldb (o' := 14) rfl fi_41_8 rfl) ?_
              refine pk1 rfl (by decide) rfl (by kernel_rfl) rfl (p_ldb_one (i := 4) hS rfl rfl ia_39 rfl) ?_
              refine pk1 rfl (by decide) rfl (by kernel_rfl) rfl (p_move rfl) ?_
              obtain ⟨hq3, H⟩ := hck H
              obtain ⟨ad2, h13, p4⟩ := p_idxr (P := Try.prog) (i := x2) ((((((h5.mono hg1).mono hg5).mono hg7).mono hg9).mono hg11).mono hg12) un_39 ti_91 hq3.1 hq3.2
              refine pk1 rfl (by decide) rfl (by kernel_rfl) rfl (p4 rfl rfl) ?_
              have h14 : Pr (Kd.int .i64) s18 (ad2.add 0) ((rd x3.Txs x2).Tx) := h13.lens kTLive_Tx
              refine pk1 rfl (by decide) rfl (by kernel_rfl) rfl (p_fld rfl fi_91_0) ?_
              refine pk1 rfl (by decide) rfl (by kernel_rfl) rfl (p_ldr_int rfl hS h14 ia_3) ?_
              refine pkPerm [8, 7, 9, 10, 11, 12, 13, 14, 15, 16, 17] (by kernel_rfl) ?_
              refine pk1 rfl (by decide) rfl (by kernel_rfl) rfl (p_fldb (o' := 14) rfl fi_41_8 rfl) ?_
              refine pkPerm [9, 7, 10, 11, 12, 13, 14, 15, 16, 17] (by kernel_rfl) ?_
              refine pk1 rfl (by decide) rfl (by kernel_rfl) rfl (p_ldb_one (i := 4) hS rfl rfl ia_39 rfl) ?_
              refine pkPerm [10, 7, 11, 12, 13, 14, 15, 16, 17] (by kernel_rfl) ?_
              refine pk1 rfl (by decide) rfl (by kernel_rfl) rfl (p_move rfl) ?_
              refine pkPerm [11, 7, 12, 13, 14, 15, 16, 17] (by kernel_rfl) ?_
              obtain ⟨hq4, H⟩ := hck H
              obtain ⟨ad3, h15, p5⟩ := p_idxr (P := Try.prog) (i := x2) ((((((h5.mono hg1).mono hg5).mono hg7).mono hg9).mono hg11).mono hg12) un_39 ti_91 hq4.1 hq4.2
              refine pk1 rfl (by decide) rfl (by kernel_rfl) rfl (p5 rfl rfl) ?_
              refine pkPerm [12, 7, 13, 14, 15, 16, 17] (by kernel_rfl) ?_
              have h16 : Pr (Kd.int .i64) s18 (ad3.add 1) ((rd x3.Txs x2).Last) := h15.lens kTLive_Last
              refine pk1 rfl (by decide) rfl (by kernel_rfl) rfl (p_fld rfl fi_91_1) ?_
              refine pkPerm [13, 7, 14, 15, 16, 17] (by kernel_rfl) ?_
              refine pk1 rfl (by decide) rfl (by kernel_rfl) rfl (p_ldr_int rfl hS h16 ia_3) ?_
              refine pkPerm [15, 7, 14, 16, 17] (by kernel_rfl) ?_
              refine pk1 rfl (by decide) rfl (by kernel_rfl) rfl (p_move rfl) ?_
              replace hS := hS.sel (is := [5, 0, 0, 0, 0, 0]) (A' := [Ow (Kd.int .u8) 5 v16 x4, Ow (Kd.int .u8) 5 v13 x12, Ow (Kd.int .u8) 5 v12 x11, Ow (Kd.int .u8) 5 v9 x10, Ow (Kd.int .i64) 3 v8 ([x3.Lsn, x3.Tx, x3.Prev, x3.Kind, x3.Oid, x3.Next] : List Int), pt g1 41 ([(.int .i64 x3.Lsn), (.int .i64 x3.Tx), (.int .i64 x3.Prev), (.int .i64 x3.Kind), (.int .i64 x3.Oid), (.bool x3.Before.Has), (.int .i64 x3.Before.O.Kind), v1, v2, (.bool x3.After.Has), (.int .i64 x3.After.O.Kind), v3, v4, (.int .i64 x3.Next), v5])]) rfl
              obtain ⟨s19, hg13, hl5, hcall5⟩ := St.lend (P := Try.prog) (Bs := [Ow (Kd.int .u8) 5 v16 x4]) (A := []) (B := [Ow (Kd.int .u8) 5 v13 x12, Ow (Kd.int .u8) 5 v12 x11, Ow (Kd.int .u8) 5 v9 x10, Ow (Kd.int .i64) 3 v8 ([x3.Lsn, x3.Tx, x3.Prev, x3.Kind, x3.Oid, x3.Next] : List Int), pt g1 41 ([(.int .i64 x3.Lsn), (.int .i64 x3.Tx), (.int .i64 x3.Prev), (.int .i64 x3.Kind), (.int .i64 x3.Oid), (.bool x3.Before.Has), (.int .i64 x3.Before.O.Kind), v1, v2, (.bool x3.After.Has), (.int .i64 x3.After.O.Kind), v3, v4, (.int .i64 x3.Next), v5])]) hS
              obtain ⟨h17, hl5⟩ := hl5.ow hg13
              obtain ⟨x6, hx6, H⟩ := hb H
              refine pkE [15, 13, 12, 11, 10, 9, 8, 5, 4, 3, 2, 1] rfl (by decide) (by kernel_rfl) (by kernel_rfl) (e_callA (fst := []) (vs := [v16, (.int .i64 ((rd x3.Txs x2).Tx))]) (cap := []) rfl rfl go_63 (hcall5 (spec_PutInt.spec k2 _ _ x4 ((rd x3.Txs x2).Tx) v16 h17 _ hx6) (by rintro v s1 A1 ⟨_, rfl, rfl⟩; exact ⟨Ow_flat flat_int _ _ _, trivial⟩)) rfl) ?_
              intro v w hR
              obtain ⟨s20, s21, A7, hg14, hS, hR⟩ := hR
              obtain ⟨v17, hv7, rfl⟩ := hR; obtain rfl := hv7.symm
              have hS : St e s20 w [Ow (Kd.int .u8) 5 v16 x4, Ow (Kd.int .u8) 5 v17 x6, Ow (Kd.int .u8) 5 v13 x12, Ow (Kd.int .u8) 5 v12 x11, Ow (Kd.int .u8) 5 v9 x10, Ow (Kd.int .i64) 3 v8 ([x3.Lsn, x3.Tx, x3.Prev, x3.Kind, x3.Oid, x3.Next] : List Int), pt g1 41 ([(.int .i64 x3.Lsn), (.int .i64 x3.Tx), (.int .i64 x3.Prev), (.int .i64 x3.Kind), (.int .i64 x3.Oid), (.bool x3.Before.Has), (.int .i64 x3.Before.O.Kind), v1, v2, (.bool x3.After.Has), (.int .i64 x3.After.O.Kind), v3, v4, (.int .i64 x3.Next), v5])] := hS
              refine ⟨⟨knw rfl rfl rfl (p_move rfl), ⟨knw rfl rfl rfl (p_ldr_int rfl hS (h16.mono hg14) ia_3), ⟨knw rfl rfl rfl (p_fld rfl fi_91_1), ⟨knw rfl rfl rfl (p5 rfl rfl), ⟨knw rfl rfl rfl (p_move rfl), ⟨knw rfl rfl rfl (p_ldb_one (i := 6) hS rfl rfl ia_39 rfl), ⟨knw rfl rfl rfl (p_fldb (o' := 14) rfl fi_41_8 rfl), ⟨knw rfl rfl rfl (p_fld rfl fi_91_0), ⟨knw rfl rfl rfl (p4 rfl rfl), ⟨knw rfl rfl rfl (p_move rfl), ⟨knw rfl rfl rfl (p_ldb_one (i := 6) hS rfl rfl ia_39 rfl), ⟨knw rfl rfl rfl (p_fldb (o' := 14) rfl fi_41_8 rfl), trivial⟩⟩⟩⟩⟩⟩⟩⟩⟩⟩⟩⟩, ?_⟩
              replace hS := hS.sel (is := [1, 0, 0, 0, 0, 0, 0]) (A' := [Ow (Kd.int .u8) 5 v17 x6, Ow (Kd.int .u8) 5 v16 x4, Ow (Kd.int .u8) 5 v13 x12, Ow (Kd.int .u8) 5 v12 x11, Ow (Kd.int .u8) 5 v9 x10, Ow (Kd.int .i64) 3 v8 ([x3.Lsn, x3.Tx, x3.Prev, x3.Kind, x3.Oid, x3.Next] : List Int), pt g1 41 ([(.int .i64 x3.Lsn), (.int .i64 x3.Tx), (.int .i64 x3.Prev), (.int .i64 x3.Kind), (.int .i64 x3.Oid), (.bool x3.Before.Has), (.int .i64 x3.Before.O.Kind), v1, v2, (.bool x3.After.Has), (.int .i64 x3.After.O.Kind), v3, v4, (.int .i64 x3.Next), v5])]) rfl
              obtain ⟨s22, hg15, hl6, hcall6⟩ := St.lend (P := Try.prog) (Bs := [Ow (Kd.int .u8) 5 v17 x6]) (A := []) (B := [Ow (Kd.int .u8) 5 v16 x4, Ow (Kd.int .u8) 5 v13 x12, Ow (Kd.int .u8) 5 v12 x11, Ow (Kd.int .u8) 5 v9 x10, Ow (Kd.int .i64) 3 v8 ([x3.Lsn, x3.Tx, x3.Prev, x3.Kind, x3.Oid, x3.Next] : List Int), pt g1 41 ([(.int .i64 x3.Lsn), (.int .i64 x3.Tx), (.int .i64 x3.Prev), (.int .i64 x3.Kind), (.int .i64 x3.Oid), (.bool x3.Before.Has), (.int .i64 x3.Before.O.Kind), v1, v2, (.bool x3.After.Has), (.int .i64 x3.After.O.Kind), v3, v4, (.int .i64 x3.Next), v5])]) hS
              obtain ⟨h18, hl6⟩ := hl6.ow hg15
              obtain ⟨x7, hx7, H⟩ := hb H
              refine pkE [15, 12, 11, 10, 9, 8, 5, 4, 3, 2, 1] rfl (by decide) (by kernel_rfl) (by kernel_rfl) (e_callA (fst := []) (vs := [v17, (.int .i64 ((rd x3.Txs x2).Last))]) (cap := []) rfl rfl go_63 (hcall6 (spec_PutInt.spec k2 _ _ x6 ((rd x3.Txs x2).Last) v17 h18 _ hx7) (by rintro v s1 A1 ⟨_, rfl, rfl⟩; exact ⟨Ow_flat flat_int _ _ _, trivial⟩)) rfl) ?_
              intro v w hR
              obtain ⟨s23, s24, A8, hg16, hS, hR⟩ := hR
              obtain ⟨v18, hv8, rfl⟩ := hR; obtain rfl := hv8.symm
              have hS : St e s23 w [Ow (Kd.int .u8) 5 v17 x6, Ow (Kd.int .u8) 5 v18 x7, Ow (Kd.int .u8) 5 v16 x4, Ow (Kd.int .u8) 5 v13 x12, Ow (Kd.int .u8) 5 v12 x11, Ow (Kd.int .u8) 5 v9 x10, Ow (Kd.int .i64) 3 v8 ([x3.Lsn, x3.Tx, x3.Prev, x3.Kind, x3.Oid, x3.Next] : List Int), pt g1 41 ([(.int .i64 x3.Lsn), (.int .i64 x3.Tx), (.int .i64 x3.Prev), (.int .i64 x3.Kind), (.int .i64 x3.Oid), (.bool x3.Before.Has), (.int .i64 x3.Before.O.Kind), v1, v2, (.bool x3.After.Has), (.int .i64 x3.After.O.Kind), v3, v4, (.int .i64 x3.Next), v5])] := hS
              refine ⟨⟨knw rfl rfl rfl (p_move rfl), ⟨knw rfl rfl rfl (p_fld rfl fi_91_1), ⟨knw rfl rfl rfl (p5 rfl rfl), ⟨knw rfl rfl rfl (p_move rfl), ⟨knw rfl rfl rfl (p_ldb_one (i := 7) hS rfl rfl ia_39 rfl), ⟨knw rfl rfl rfl (p_fldb (o' := 14) rfl fi_41_8 rfl), ⟨knw rfl rfl rfl (p_fld rfl fi_91_0), ⟨knw rfl rfl rfl (p4 rfl rfl), ⟨knw rfl rfl rfl (p_move rfl), ⟨knw rfl rfl rfl (p_ldb_one (i := 7) hS rfl rfl ia_39 rfl), ⟨knw rfl rfl rfl (p_fldb (o' := 14) rfl fi_41_8 rfl), trivial⟩⟩⟩⟩⟩⟩⟩⟩⟩⟩⟩, ?_⟩
              replace hS := hS.sel (is := [1, 0, 0, 0, 0, 0, 0, 0]) (A' := [Ow (Kd.int .u8) 5 v18 x7, Ow (Kd.int .u8) 5 v17 x6, Ow (Kd.int .u8) 5 v16 x4, Ow (Kd.int .u8) 5 v13 x12, Ow (Kd.int .u8) 5 v12 x11, Ow (Kd.int .u8) 5 v9 x10, Ow (Kd.int .i64) 3 v8 ([x3.Lsn, x3.Tx, x3.Prev, x3.Kind, x3.Oid, x3.Next] : List Int), pt g1 41 ([(.int .i64 x3.Lsn), (.int .i64 x3.Tx), (.int .i64 x3.Prev), (.int .i64 x3.Kind), (.int .i64 x3.Oid), (.bool x3.Before.Has), (.int .i64 x3.Before.O.Kind), v1, v2, (.bool x3.After.Has), (.int .i64 x3.After.O.Kind), v3, v4, (.int .i64 x3.Next), v5])]) rfl
              obtain ⟨s25, hg17, hl7, hcall7⟩ := St.lend (P := Try.prog) (Bs := [Ow (Kd.int .u8) 5 v18 x7]) (A := []) (B := [Ow (Kd.int .u8) 5 v17 x6, Ow (Kd.int .u8) 5 v16 x4, Ow (Kd.int .u8) 5 v13 x12, Ow (Kd.int .u8) 5 v12 x11, Ow (Kd.int .u8) 5 v9 x10, Ow (Kd.int .i64) 3 v8 ([x3.Lsn, x3.Tx, x3.Prev, x3.Kind, x3.Oid, x3.Next] : List Int), pt g1 41 ([(.int .i64 x3.Lsn), (.int .i64 x3.Tx), (.int .i64 x3.Prev), (.int .i64 x3.Kind), (.int .i64 x3.Oid), (.bool x3.Before.Has), (.int .i64 x3.Before.O.Kind), v1, v2, (.bool x3.After.Has), (.int .i64 x3.After.O.Kind), v3, v4, (.int .i64 x3.Next), v5])]) hS
              obtain ⟨h19, hl7⟩ := hl7.ow hg17
              obtain ⟨x8, hx8, H⟩ := hb H
              refine pkE [12, 11, 10, 9, 8, 5, 4, 3, 2, 1] rfl (by decide) (by kernel_rfl) (by kernel_rfl) (e_callA (fst := []) (vs := [v18, (.int .i64 x5)]) (cap := []) rfl rfl go_63 (hcall7 (spec_PutInt.spec k2 _ _ x7 x5 v18 h19 _ hx8) (by rintro v s1 A1 ⟨_, rfl, rfl⟩; exact ⟨Ow_flat flat_int _ _ _, trivial⟩)) rfl) ?_
              intro v w hR
              obtain ⟨s26, s27, A9, hg18, hS, hR⟩ := hR
              obtain ⟨v19, hv9, rfl⟩ := hR; obtain rfl := hv9.symm
              have hS : St e s26 w [Ow (Kd.int .u8) 5 v18 x7, Ow (Kd.int .u8) 5 v19 x8, Ow (Kd.int .u8) 5 v17 x6, Ow (Kd.int .u8) 5 v16 x4, Ow (Kd.int .u8) 5 v13 x12, Ow (Kd.int .u8) 5 v12 x11, Ow (Kd.int .u8) 5 v9 x10, Ow (Kd.int .i64) 3 v8 ([x3.Lsn, x3.Tx, x3.Prev, x3.Kind, x3.Oid, x3.Next] : List Int), pt g1 41 ([(.int .i64 x3.Lsn), (.int .i64 x3.Tx), (.int .i64 x3.Prev), (.int .i64 x3.Kind), (.int .i64 x3.Oid), (.bool x3.Before.Has), (.int .i64 x3.Before.O.Kind), v1, v2, (.bool x3.After.Has), (.int .i64 x3.After.O.Kind), v3, v4, (.int .i64 x3.Next), v5])] := hS
              refine ⟨⟨knw rfl rfl rfl (p_fld rfl fi_91_1), ⟨knw rfl rfl rfl (p5 rfl rfl), ⟨knw rfl rfl rfl (p_move rfl), ⟨knw rfl rfl rfl (p_ldb_one (i := 8) hS rfl rfl ia_39 rfl), ⟨knw rfl rfl rfl (p_fldb (o' := 14) rfl fi_41_8 rfl), ⟨knw rfl rfl rfl (p_fld rfl fi_91_0), ⟨knw rfl rfl rfl (p4 rfl rfl), ⟨knw rfl rfl rfl (p_move rfl), ⟨knw rfl rfl rfl (p_ldb_one (i := 8) hS rfl rfl ia_39 rfl), ⟨knw rfl rfl rfl (p_fldb (o' := 14) rfl fi_41_8 rfl), trivial⟩⟩⟩⟩⟩⟩⟩⟩⟩⟩, ?_⟩
              refine pkE [] rfl (by decide) (by kernel_rfl) (by kernel_rfl) (puEf (p_assign rfl)) ?_
              rintro v w' ⟨hv, rfl⟩
              obtain rfl := hv.symm
              refine ⟨trivial, ?_⟩
              refine pkF (fun a hF => ?_)
              refine bn (xn ?_)
              refine rg ?_
              refine stp hF (p_move rfl) (by decide) (fun a hF => ?_)
              refine stp hF (p_add (c := w64 (x2 + 1)) rfl rfl rfl) (by decide) (fun a hF => ?_)
              refine stp hF (p_assign rfl) (by decide) (fun a hF => ?_)
              refine nilN ?_
              refine xn ?_
              replace hS := hS.sel (is := [4, 4, 4, 4, 4, 1]) (A' := [Ow (Kd.int .u8) 5 v13 x12, Ow (Kd.int .u8) 5 v12 x11, Ow (Kd.int .u8) 5 v9 x10, Ow (Kd.int .i64) 3 v8 ([x3.Lsn, x3.Tx, x3.Prev, x3.Kind, x3.Oid, x3.Next] : List Int), pt g1 41 ([(.int .i64 x3.Lsn), (.int .i64 x3.Tx), (.int .i64 x3.Prev), (.int .i64 x3.Kind), (.int .i64 x3.Oid), (.bool x3.Before.Has), (.int .i64 x3.Before.O.Kind), v1, v2, (.bool x3.After.Has), (.int .i64 x3.After.O.Kind), v3, v4, (.int .i64 x3.Next), v5]), Ow (Kd.int .u8) 5 v19 x8]) rfl
              exact ⟨x8, (w64 (x2 + 1)), s26, v19, hS, hF.cut ⟨rfl, rfl, rfl, trivial⟩, (((hg12.trans hg14).trans hg16).trans hg18), H⟩
          · replace H := hbf hc3 H
            refine exi ?_
            refine xe (xe (hit (xn ?_)))
            obtain rfl := hsm H
            exact ⟨x4, s18, v16, hS, hF.cut ⟨rfl, trivial⟩, hg12, HK2⟩
      · clear H HK2 hS hF
        rintro a w ⟨x1, s17, v15, hS, hF, hg19, H⟩
        unfold spec_PutRec.c1 at H
        refine sq ?_
        refine rg ?_
        refine stp hF (p_move rfl) (by decide) (fun a hF => ?_)
        refine stp hF (p_assign rfl) (by decide) (fun a hF => ?_)
        refine nilN ?_
        refine xn ?_
        refine rt ?_
        obtain rfl := hsm H
        replace hS := hS.sel (is := [5]) (A' := [Ow (Kd.int .u8) 5 v15 x1]) rfl
        exact ret1 hF rfl rfl hS ⟨v15, rfl, rfl⟩

def spec_GetRec.c1 (k : Nat) (x1 : Int × (List Int) × Int × Bool) (x2 : Int × (List Int) × Int × Bool) (x3 : Int × (List Int) × Int × Bool) (x4 : Int × (List Int) × Int × Bool) (x5 : Int × (List Int) × Int × Bool) (x6 : TSlot × (List Int) × Int × Bool) (x7 : TSlot × (List Int) × Int × Bool) (x8 : Int × (List Int) × Int × Bool) (x9 : (List TLive)) (x10 : Bool) : Option (TRec × Bool) :=
  (if x10 = true then (some ((⟨0, 0, 0, 0, 0, (⟨false, (⟨0, ([] : List Int), ([] : List Int)⟩ : TObj)⟩ : TSlot), (⟨false, (⟨0, ([] : List Int), ([] : List Int)⟩ : TObj)⟩ : TSlot), 0, ([] : List TLive)⟩ : TRec), false)) else (some ((⟨x1.1, x2.1, x3.1, x4.1, x5.1, (⟨x6.1.Has, (⟨x6.1.O.Kind, x6.1.O.Ints, x6.1.O.Refs⟩ : TObj)⟩ : TSlot), (⟨x7.1.Has, (⟨x7.1.O.Kind, x7.1.O.Ints, x7.1.O.Refs⟩ : TObj)⟩ : TSlot), x8.1, x9⟩ : TRec), true)))
def spec_GetRec.c2 (k : Nat) (x1 : Int × (List Int) × Int × Bool) (x2 : Int × (List Int) × Int × Bool) (x3 : Int × (List Int) × Int × Bool) (x4 : Int × (List Int) × Int × Bool) (x5 : Int × (List Int) × Int × Bool) (x6 : TSlot × (List Int) × Int × Bool) (x7 : TSlot × (List Int) × Int × Bool) (x8 : Int × (List Int) × Int × Bool) (x9 : (List TLive)) (x11 : (List Int)) (x12 : Bool) : Option (TRec × Bool) :=
  ((if x12 = true then (some true) else ((spec_PutRec.f k (⟨x1.1, x2.1, x3.1, x4.1, x5.1, (⟨x6.1.Has, (⟨x6.1.O.Kind, x6.1.O.Ints, x6.1.O.Refs⟩ : TObj)⟩ : TSlot), (⟨x7.1.Has, (⟨x7.1.O.Kind, x7.1.O.Ints, x7.1.O.Refs⟩ : TObj)⟩ : TSlot), x8.1, x9⟩ : TRec)).bind fun x13 => ((spec_l2Same.f k x13 x11).bind fun x14 => (some (!x14)))) : Option Bool).bind fun x15 => spec_GetRec.c1 k x1 x2 x3 x4 x5 x6 x7 x8 x9 x15)
def spec_GetRec.c3 (k : Nat) (x1 : Int × (List Int) × Int × Bool) (x2 : Int × (List Int) × Int × Bool) (x3 : Int × (List Int) × Int × Bool) (x4 : Int × (List Int) × Int × Bool) (x5 : Int × (List Int) × Int × Bool) (x6 : TSlot × (List Int) × Int × Bool) (x7 : TSlot × (List Int) × Int × Bool) (x8 : Int × (List Int) × Int × Bool) (x11 : (List Int)) (x16 : (List Int)) (x17 : Int) (x18 : Bool) (x9 : (List TLive)) : Option (TRec × Bool) :=
  ((if x18 = true then (some true) else ((spec_RecOk.f k (⟨x1.1, x2.1, x3.1, x4.1, x5.1, (⟨x6.1.Has, (⟨x6.1.O.Kind, x6.1.O.Ints, x6.1.O.Refs⟩ : TObj)⟩ : TSlot), (⟨x7.1.Has, (⟨x7.1.O.Kind, x7.1.O.Ints, x7.1.O.Refs⟩ : TObj)⟩ : TSlot), x8.1, x9⟩ : TRec)).bind fun x19 => (some (!x19))) : Option Bool).bind fun x20 => spec_GetRec.c2 k x1 x2 x3 x4 x5 x6 x7 x8 x9 x11 x20)
def spec_GetRec.l1 (x21 : Int × (List Int) × Int × Bool) : Nat → (List Int) → Int → Bool → (List TLive) → Int → Option ((List Int) × Int × Bool × (List TLive))
  | 0, _, _, _, _, _ => none
  | k + 1, x22, x23, x24, x25, x26 => (if (((decide (x26 < x21.1)) && (decide (x26 < 30))) && (!x24)) = true then ((spec_l2Next.f k x22 x23 x24).bind fun x27 => ((spec_l2Next.f k x27.2.1 x27.2.2.1 x27.2.2.2).bind fun x28 => ((spec_l2Next.f k x28.2.1 x28.2.2.1 x28.2.2.2).bind fun x29 => (if x25.length + 1 ≤ 5864062014805 then ((spec_GetRec.l1 x21 k) x29.2.1 x29.2.2.1 x29.2.2.2 (x25 ++ ([(⟨x27.1, x28.1, decide (x29.1 = 1)⟩ : TLive)] : List TLive)) (w64 (x26 + 1))) else none)))) else (some (x22, x23, x24, x25)))
def spec_GetRec.f (k : Nat) (x11 : (List Int)) : Option (TRec × Bool) :=
  ((spec_l2Next.f k x11 0 false).bind fun x1 => ((spec_l2Next.f k x1.2.1 x1.2.2.1 x1.2.2.2).bind fun x2 => ((spec_l2Next.f k x2.2.1 x2.2.2.1 x2.2.2.2).bind fun x3 => ((spec_l2Next.f k x3.2.1 x3.2.2.1 x3.2.2.2).bind fun x4 => ((spec_l2Next.f k x4.2.1 x4.2.2.1 x4.2.2.2).bind fun x5 => ((spec_l2Next.f k x5.2.1 x5.2.2.1 x5.2.2.2).bind fun x8 => ((spec_l3NextSlot.f k x8.2.1 x8.2.2.1 x8.2.2.2).bind fun x6 => ((spec_l3NextSlot.f k x6.2.1 x6.2.2.1 x6.2.2.2).bind fun x7 => ((spec_l2Next.f k x7.2.1 x7.2.2.1 x7.2.2.2).bind fun x21 => (((spec_GetRec.l1 x21 k x21.2.1 x21.2.2.1 x21.2.2.2 ([] : List TLive) 0) : Option ((List Int) × Int × Bool × (List TLive))).bind fun x30 => spec_GetRec.c3 k x1 x2 x3 x4 x5 x6 x7 x8 x11 x30.1 x30.2.1 x30.2.2.1 x30.2.2.2))))))))))
set_option maxRecDepth 100000 in
set_option maxHeartbeats 4000000 in
theorem spec_GetRec.spec (k : Nat) (s0 : HF) (w : World) (x11 : (List Int)) (v1 : Value) (h1 : Sl (Kd.int .u8) s0 v1 x11) (r : TRec × Bool) (H : spec_GetRec.f k x11 = some r) :
    Law Try.prog 42 #[v1] s0 w [] (fun v s1 A1 => ∃ (u0 : Value) (u1 : Value) (u2 : Value) (u3 : Value) (u4 : Value), v = (.tuple #[(.agg #[(.int .i64 r.1.Lsn), (.int .i64 r.1.Tx), (.int .i64 r.1.Prev), (.int .i64 r.1.Kind), (.int .i64 r.1.Oid), (.bool r.1.Before.Has), (.int .i64 r.1.Before.O.Kind), u0, u1, (.bool r.1.After.Has), (.int .i64 r.1.After.O.Kind), u2, u3, (.int .i64 r.1.Next), u4]), (.bool r.2)]) ∧ A1 = [Ow (Kd.int .i64) 3 u0 r.1.Before.O.Ints, Ow (Kd.int .i64) 3 u1 r.1.Before.O.Refs, Ow (Kd.int .i64) 3 u2 r.1.After.O.Ints, Ow (Kd.int .i64) 3 u3 r.1.After.O.Refs, Ow kTLive 91 u4 r.1.Txs]) := by
  unfold spec_GetRec.f at H
  refine Law.intro Try.func42 rfl [(0, v1)] (Nat.le_of_ble_eq_true rfl) (enter_lk ⟨rfl, trivial⟩) (fun e a hS hF => ?_)
  have hF : Fr 90 a [(0, v1)] := hF
  refine sq ?_
  refine rg ?_
  refine ste hF (e_alloc (cs := [(.int .i64 0), (.int .i64 0), (.int .i64 0), (.int .i64 0), (.int .i64 0), (.bool false), (.int .i64 0), (.slice none 0 0), (.slice none 0 0), (.bool false), (.int .i64 0), (.slice none 0 0), (.slice none 0 0), (.int .i64 0), (.slice none 0 0)]) hS ti_41 rfl) (by decide) (fun v w a hR hF => ?_)
  obtain ⟨g1, rfl, hS⟩ := hR
  refine stp hF (p_assign rfl) (by decide) (fun a hF => ?_)
  refine nilN ?_
  refine xn ?_
  refine sq ?_
  refine rg ?_
  refine stp hF (p_move rfl) (by decide) (fun a hF => ?_)
  refine stp hF (p_build (ps := [(0, (.tmp 9))]) (vs := [(0, v1)]) (v := (.agg #[v1, (.int .i64 0), (.bool false)])) rfl (by intro w; obtain ⟨_, _, _, e1⟩ := Sl.el h1; rw [e1]; kernel_rfl)) (by decide) (fun a hF => ?_)
  refine ste hF (e_box (cs := [v1, (.int .i64 0), (.bool false)]) hS rfl rfl) (by decide) (fun v w a hR hF => ?_)
  obtain ⟨g2, rfl, hS⟩ := hR
  refine stp hF (p_assign rfl) (by decide) (fun a hF => ?_)
  refine nilN ?_
  refine xn ?_
  refine sq ?_
  refine rg ?_
  refine stp hF (p_build (ps := []) (vs := []) (v := (.agg #[(.int .i64 0), (.int .i64 0), (.int .i64 0), (.int .i64 0), (.int .i64 0), (.bool false), (.int .i64 0), (.slice none 0 0), (.slice none 0 0), (.bool false), (.int .i64 0), (.slice none 0 0), (.slice none 0 0), (.int .i64 0), (.slice none 0 0)])) rfl (by intro w; kernel_rfl)) (by decide) (fun a hF => ?_)
  refine ste hF (e_alloc (cs := [(.int .i64 0), (.int .i64 0), (.int .i64 0), (.int .i64 0), (.int .i64 0), (.bool false), (.int .i64 0), (.slice none 0 0), (.slice none 0 0), (.bool false), (.int .i64 0), (.slice none 0 0), (.slice none 0 0), (.int .i64 0), (.slice none 0 0)]) hS ti_41 rfl) (by decide) (fun v w a hR hF => ?_)
  obtain ⟨g3, rfl, hS⟩ := hR
  refine ste0 hF (e_stb (i := 0) (l := []) (m := [(.int .i64 0), (.int .i64 0), (.int .i64 0), (.int .i64 0), (.int .i64 0), (.bool false), (.int .i64 0), (.slice none 0 0), (.slice none 0 0), (.bool false), (.int .i64 0), (.slice none 0 0), (.slice none 0 0), (.int .i64 0), (.slice none 0 0)]) (r := []) (m' := [(.int .i64 0), (.int .i64 0), (.int .i64 0), (.int .i64 0), (.int .i64 0), (.bool false), (.int .i64 0), (.slice none 0 0), (.slice none 0 0), (.bool false), (.int .i64 0), (.slice none 0 0), (.slice none 0 0), (.int .i64 0), (.slice none 0 0)]) (cs' := [(.int .i64 0), (.int .i64 0), (.int .i64 0), (.int .i64 0), (.int .i64 0), (.bool false), (.int .i64 0), (.slice none 0 0), (.slice none 0 0), (.bool false), (.int .i64 0), (.slice none 0 0), (.slice none 0 0), (.int .i64 0), (.slice none 0 0)]) hS rfl rfl rfl ti_41 rfl rfl rfl rfl rfl (one_cons rfl (one_cons rfl (one_cons rfl (one_cons rfl (one_cons rfl (one_cons rfl (one_cons rfl (one_cons rfl (one_cons rfl (one_cons rfl (one_cons rfl (one_cons rfl (one_cons rfl (one_cons rfl (one_cons rfl one_nil))))))))))))))) rfl) (fun v w a hR hF => ?_)
  have hS : St e s0 w [pt g3 41 ([(.int .i64 0), (.int .i64 0), (.int .i64 0), (.int .i64 0), (.int .i64 0), (.bool false), (.int .i64 0), (.slice none 0 0), (.slice none 0 0), (.bool false), (.int .i64 0), (.slice none 0 0), (.slice none 0 0), (.int .i64 0), (.slice none 0 0)]), pt g2 117 ([v1, (.int .i64 0), (.bool false)]), pt g1 41 ([(.int .i64 0), (.int .i64 0), (.int .i64 0), (.int .i64 0), (.int .i64 0), (.bool false), (.int .i64 0), (.slice none 0 0), (.slice none 0 0), (.bool false), (.int .i64 0), (.slice none 0 0), (.slice none 0 0), (.int .i64 0), (.slice none 0 0)])] := hR
  refine nilN ?_
  refine xn ?_
  refine sq ?_
  refine rg ?_
  refine stp hF (p_move rfl) (by decide) (fun a hF => ?_)
  replace hS := hS.sel (is := [1, 0, 0]) (A' := [pt g2 117 ([v1, (.int .i64 0), (.bool false)]), pt g3 41 ([(.int .i64 0), (.int .i64 0), (.int .i64 0), (.int .i64 0), (.int .i64 0), (.bool false), (.int .i64 0), (.slice none 0 0), (.slice none 0 0), (.bool false), (.int .i64 0), (.slice none 0 0), (.slice none 0 0), (.int .i64 0), (.slice none 0 0)]), pt g1 41 ([(.int .i64 0), (.int .i64 0), (.int .i64 0), (.int .i64 0), (.int .i64 0), (.bool false), (.int .i64 0), (.slice none 0 0), (.slice none 0 0), (.bool false), (.int .i64 0), (.slice none 0 0), (.slice none 0 0), (.int .i64 0), (.slice none 0 0)])]) rfl
  obtain ⟨x1, hx1, H⟩ := hb H
  refine ste hF (e_callA (fst := []) (vs := [(.pointer (some ⟨g2, 0, none⟩))]) (cap := []) rfl rfl go_104 (St.call (A := [pt g2 117 ([v1, (.int .i64 0), (.bool false)])]) (B := [pt g3 41 ([(.int .i64 0), (.int .i64 0), (.int .i64 0), (.int .i64 0), (.int .i64 0), (.bool false), (.int .i64 0), (.slice none 0 0), (.slice none 0 0), (.bool false), (.int .i64 0), (.slice none 0 0), (.slice none 0 0), (.int .i64 0), (.slice none 0 0)]), pt g1 41 ([(.int .i64 0), (.int .i64 0), (.int .i64 0), (.int .i64 0), (.int .i64 0), (.bool false), (.int .i64 0), (.slice none 0 0), (.slice none 0 0), (.bool false), (.int .i64 0), (.slice none 0 0), (.slice none 0 0), (.int .i64 0), (.slice none 0 0)])]) hS (spec_l2Next.spec k _ _ x11 0 false v1 g2 h1 _ hx1)) rfl) (by decide) (fun v w a hR hF => ?_)
  obtain ⟨s2, A2, hg1, hS, hR⟩ := hR
  obtain ⟨v2, hv1, rfl, h2⟩ := hR; obtain rfl := hv1.symm
  have hS : St e s2 w [pt g2 117 ([v2, (.int .i64 x1.2.2.1), (.bool x1.2.2.2)]), pt g3 41 ([(.int .i64 0), (.int .i64 0), (.int .i64 0), (.int .i64 0), (.int .i64 0), (.bool false), (.int .i64 0), (.slice none 0 0), (.slice none 0 0), (.bool false), (.int .i64 0), (.slice none 0 0), (.slice none 0 0), (.int .i64 0), (.slice none 0 0)]), pt g1 41 ([(.int .i64 0), (.int .i64 0), (.int .i64 0), (.int .i64 0), (.int .i64 0), (.bool false), (.int .i64 0), (.slice none 0 0), (.slice none 0 0), (.bool false), (.int .i64 0), (.slice none 0 0), (.slice none 0 0), (.int .i64 0), (.slice none 0 0)])] := hS
  refine stp hF (p_fldb (o' := 0) rfl fi_41_0 rfl) (by decide) (fun a hF => ?_)
  refine ste0 hF (e_stb (i := 1) (l := []) (m := [(.int .i64 0)]) (r := [(.int .i64 0), (.int .i64 0), (.int .i64 0), (.int .i64 0), (.bool false), (.int .i64 0), (.slice none 0 0), (.slice none 0 0), (.bool false), (.int .i64 0), (.slice none 0 0), (.slice none 0 0), (.int .i64 0), (.slice none 0 0)]) (m' := [(.int .i64 x1.1)]) (cs' := [(.int .i64 x1.1), (.int .i64 0), (.int .i64 0), (.int .i64 0), (.int .i64 0), (.bool false), (.int .i64 0), (.slice none 0 0), (.slice none 0 0), (.bool false), (.int .i64 0), (.slice none 0 0), (.slice none 0 0), (.int .i64 0), (.slice none 0 0)]) hS rfl rfl rfl ti_3 rfl rfl rfl rfl rfl (one_cons rfl one_nil) rfl) (fun v w a hR hF => ?_)
  have hS : St e s2 w [pt g3 41 ([(.int .i64 x1.1), (.int .i64 0), (.int .i64 0), (.int .i64 0), (.int .i64 0), (.bool false), (.int .i64 0), (.slice none 0 0), (.slice none 0 0), (.bool false), (.int .i64 0), (.slice none 0 0), (.slice none 0 0), (.int .i64 0), (.slice none 0 0)]), pt g2 117 ([v2, (.int .i64 x1.2.2.1), (.bool x1.2.2.2)]), pt g1 41 ([(.int .i64 0), (.int .i64 0), (.int .i64 0), (.int .i64 0), (.int .i64 0), (.bool false), (.int .i64 0), (.slice none 0 0), (.slice none 0 0), (.bool false), (.int .i64 0), (.slice none 0 0), (.slice none 0 0), (.int .i64 0), (.slice none 0 0)])] := hR
  refine nilN ?_
  refine xn ?_
  refine sq ?_
  refine rg ?_
  refine stp hF (p_move rfl) (by decide) (fun a hF => ?_)
  replace hS := hS.sel (is := [1, 0, 0]) (A' := [pt g2 117 ([v2, (.int .i64 x1.2.2.1), (.bool x1.2.2.2)]), pt g3 41 ([(.int .i64 x1.1), (.int .i64 0), (.int .i64 0), (.int .i64 0), (.int .i64 0), (.bool false), (.int .i64 0), (.slice none 0 0), (.slice none 0 0), (.bool false), (.int .i64 0), (.slice none 0 0), (.slice none 0 0), (.int .i64 0), (.slice none 0 0)]), pt g1 41 ([(.int .i64 0), (.int .i64 0), (.int .i64 0), (.int .i64 0), (.int .i64 0), (.bool false), (.int .i64 0), (.slice none 0 0), (.slice none 0 0), (.bool false), (.int .i64 0), (.slice none 0 0), (.slice none 0 0), (.int .i64 0), (.slice none 0 0)])]) rfl
  obtain ⟨x2, hx2, H⟩ := hb H
  refine ste hF (e_callA (fst := []) (vs := [(.pointer (some ⟨g2, 0, none⟩))]) (cap := []) rfl rfl go_104 (St.call (A := [pt g2 117 ([v2, (.int .i64 x1.2.2.1), (.bool x1.2.2.2)])]) (B := [pt g3 41 ([(.int .i64 x1.1), (.int .i64 0), (.int .i64 0), (.int .i64 0), (.int .i64 0), (.bool false), (.int .i64 0), (.slice none 0 0), (.slice none 0 0), (.bool false), (.int .i64 0), (.slice none 0 0), (.slice none 0 0), (.int .i64 0), (.slice none 0 0)]), pt g1 41 ([(.int .i64 0), (.int .i64 0), (.int .i64 0), (.int .i64 0), (.int .i64 0), (.bool false), (.int .i64 0), (.slice none 0 0), (.slice none 0 0), (.bool false), (.int .i64 0), (.slice none 0 0), (.slice none 0 0), (.int .i64 0), (.slice none 0 0)])]) hS (spec_l2Next.spec k _ _ x1.2.1 x1.2.2.1 x1.2.2.2 v2 g2 h2 _ hx2)) rfl) (by decide) (fun v w a hR hF => ?_)
  obtain ⟨s3, A3, hg2, hS, hR⟩ := hR
  obtain ⟨v3, hv2, rfl, h3⟩ := hR; obtain rfl := hv2.symm
  have hS : St e s3 w [pt g2 117 ([v3, (.int .i64 x2.2.2.1), (.bool x2.2.2.2)]), pt g3 41 ([(.int .i64 x1.1), (.int .i64 0), (.int .i64 0), (.int .i64 0), (.int .i64 0), (.bool false), (.int .i64 0), (.slice none 0 0), (.slice none 0 0), (.bool false), (.int .i64 0), (.slice none 0 0), (.slice none 0 0), (.int .i64 0), (.slice none 0 0)]), pt g1 41 ([(.int .i64 0), (.int .i64 0), (.int .i64 0), (.int .i64 0), (.int .i64 0), (.bool false), (.int .i64 0), (.slice none 0 0), (.slice none 0 0), (.bool false), (.int .i64 0), (.slice none 0 0), (.slice none 0 0), (.int .i64 0), (.slice none 0 0)])] := hS
  refine stp hF (p_fldb (o' := 1) rfl fi_41_1 rfl) (by decide) (fun a hF => ?_)
  refine ste0 hF (e_stb (i := 1) (l := [(.int .i64 x1.1)]) (m := [(.int .i64 0)]) (r := [(.int .i64 0), (.int .i64 0), (.int .i64 0), (.bool false), (.int .i64 0), (.slice none 0 0), (.slice none 0 0), (.bool false), (.int .i64 0), (.slice none 0 0), (.slice none 0 0), (.int .i64 0), (.slice none 0 0)]) (m' := [(.int .i64 x2.1)]) (cs' := [(.int .i64 x1.1), (.int .i64 x2.1), (.int .i64 0), (.int .i64 0), (.int .i64 0), (.bool false), (.int .i64 0), (.slice none 0 0), (.slice none 0 0), (.bool false), (.int .i64 0), (.slice none 0 0), (.slice none 0 0), (.int .i64 0), (.slice none 0 0)]) hS rfl rfl rfl ti_3 rfl rfl rfl rfl rfl (one_cons rfl one_nil) rfl) (fun v w a hR hF => ?_)
  have hS : St e s3 w [pt g3 41 ([(.int .i64 x1.1), (.int .i64 x2.1), (.int .i64 0), (.int .i64 0), (.int .i64 0), (.bool false), (.int .i64 0), (.slice none 0 0), (.slice none 0 0), (.bool false), (.int .i64 0), (.slice none 0 0), (.slice none 0 0), (.int .i64 0), (.slice none 0 0)]), pt g2 117 ([v3, (.int .i64 x2.2.2.1), (.bool x2.2.2.2)]), pt g1 41 ([(.int .i64 0), (.int .i64 0), (.int .i64 0), (.int .i64 0), (.int .i64 0), (.bool false), (.int .i64 0), (.slice none 0 0), (.slice none 0 0), (.bool false), (.int .i64 0), (.slice none 0 0), (.slice none 0 0), (.int .i64 0), (.slice none 0 0)])] := hR
  refine nilN ?_
  refine xn ?_
  refine sq ?_
  refine rg ?_
  refine stp hF (p_move rfl) (by decide) (fun a hF => ?_)
  replace hS := hS.sel (is := [1, 0, 0]) (A' := [pt g2 117 ([v3, (.int .i64 x2.2.2.1), (.bool x2.2.2.2)]), pt g3 41 ([(.int .i64 x1.1), (.int .i64 x2.1), (.int .i64 0), (.int .i64 0), (.int .i64 0), (.bool false), (.int .i64 0), (.slice none 0 0), (.slice none 0 0), (.bool false), (.int .i64 0), (.slice none 0 0), (.slice none 0 0), (.int .i64 0), (.slice none 0 0)]), pt g1 41 ([(.int .i64 0), (.int .i64 0), (.int .i64 0), (.int .i64 0), (.int .i64 0), (.bool false), (.int .i64 0), (.slice none 0 0), (.slice none 0 0), (.bool false), (.int .i64 0), (.slice none 0 0), (.slice none 0 0), (.int .i64 0), (.slice none 0 0)])]) rfl
  obtain ⟨x3, hx3, H⟩ := hb H
  refine ste hF (e_callA (fst := []) (vs := [(.pointer (some ⟨g2, 0, none⟩))]) (cap := []) rfl rfl go_104 (St.call (A := [pt g2 117 ([v3, (.int .i64 x2.2.2.1), (.bool x2.2.2.2)])]) (B := [pt g3 41 ([(.int .i64 x1.1), (.int .i64 x2.1), (.int .i64 0), (.int .i64 0), (.int .i64 0), (.bool false), (.int .i64 0), (.slice none 0 0), (.slice none 0 0), (.bool false), (.int .i64 0), (.slice none 0 0), (.slice none 0 0), (.int .i64 0), (.slice none 0 0)]), pt g1 41 ([(.int .i64 0), (.int .i64 0), (.int .i64 0), (.int .i64 0), (.int .i64 0), (.bool false), (.int .i64 0), (.slice none 0 0), (.slice none 0 0), (.bool false), (.int .i64 0), (.slice none 0 0), (.slice none 0 0), (.int .i64 0), (.slice none 0 0)])]) hS (spec_l2Next.spec k _ _ x2.2.1 x2.2.2.1 x2.2.2.2 v3 g2 h3 _ hx3)) rfl) (by decide) (fun v w a hR hF => ?_)
  obtain ⟨s4, A4, hg3, hS, hR⟩ := hR
  obtain ⟨v4, hv3, rfl, h4⟩ := hR; obtain rfl := hv3.symm
  have hS : St e s4 w [pt g2 117 ([v4, (.int .i64 x3.2.2.1), (.bool x3.2.2.2)]), pt g3 41 ([(.int .i64 x1.1), (.int .i64 x2.1), (.int .i64 0), (.int .i64 0), (.int .i64 0), (.bool false), (.int .i64 0), (.slice none 0 0), (.slice none 0 0), (.bool false), (.int .i64 0), (.slice none 0 0), (.slice none 0 0), (.int .i64 0), (.slice none 0 0)]), pt g1 41 ([(.int .i64 0), (.int .i64 0), (.int .i64 0), (.int .i64 0), (.int .i64 0), (.bool false), (.int .i64 0), (.slice none 0 0), (.slice none 0 0), (.bool false), (.int .i64 0), (.slice none 0 0), (.slice none 0 0), (.int .i64 0), (.slice none 0 0)])] := hS
  refine stp hF (p_fldb (o' := 2) rfl fi_41_2 rfl) (by decide) (fun a hF => ?_)
  refine ste0 hF (e_stb (i := 1) (l := [(.int .i64 x1.1), (.int .i64 x2.1)]) (m := [(.int .i64 0)]) (r := [(.int .i64 0), (.int .i64 0), (.bool false), (.int .i64 0), (.slice none 0 0), (.slice none 0 0), (.bool false), (.int .i64 0), (.slice none 0 0), (.slice none 0 0), (.int .i64 0), (.slice none 0 0)]) (m' := [(.int .i64 x3.1)]) (cs' := [(.int .i64 x1.1), (.int .i64 x2.1), (.int .i64 x3.1), (.int .i64 0), (.int .i64 0), (.bool false), (.int .i64 0), (.slice none 0 0), (.slice none 0 0), (.bool false), (.int .i64 0), (.slice none 0 0), (.slice none 0 0), (.int .i64 0), (.slice none 0 0)]) hS rfl rfl rfl ti_3 rfl rfl rfl rfl rfl (one_cons rfl one_nil) rfl) (fun v w a hR hF => ?_)
  have hS : St e s4 w [pt g3 41 ([(.int .i64 x1.1), (.int .i64 x2.1), (.int .i64 x3.1), (.int .i64 0), (.int .i64 0), (.bool false), (.int .i64 0), (.slice none 0 0), (.slice none 0 0), (.bool false), (.int .i64 0), (.slice none 0 0), (.slice none 0 0), (.int .i64 0), (.slice none 0 0)]), pt g2 117 ([v4, (.int .i64 x3.2.2.1), (.bool x3.2.2.2)]), pt g1 41 ([(.int .i64 0), (.int .i64 0), (.int .i64 0), (.int .i64 0), (.int .i64 0), (.bool false), (.int .i64 0), (.slice none 0 0), (.slice none 0 0), (.bool false), (.int .i64 0), (.slice none 0 0), (.slice none 0 0), (.int .i64 0), (.slice none 0 0)])] := hR
  refine nilN ?_
  refine xn ?_
  refine sq ?_
  refine rg ?_
  refine stp hF (p_move rfl) (by decide) (fun a hF => ?_)
  replace hS := hS.sel (is := [1, 0, 0]) (A' := [pt g2 117 ([v4, (.int .i64 x3.2.2.1), (.bool x3.2.2.2)]), pt g3 41 ([(.int .i64 x1.1), (.int .i64 x2.1), (.int .i64 x3.1), (.int .i64 0), (.int .i64 0), (.bool false), (.int .i64 0), (.slice none 0 0), (.slice none 0 0), (.bool false), (.int .i64 0), (.slice none 0 0), (.slice none 0 0), (.int .i64 0), (.slice none 0 0)]), pt g1 41 ([(.int .i64 0), (.int .i64 0), (.int .i64 0), (.int .i64 0), (.int .i64 0), (.bool false), (.int .i64 0), (.slice none 0 0), (.slice none 0 0), (.bool false), (.int .i64 0), (.slice none 0 0), (.slice none 0 0), (.int .i64 0), (.slice none 0 0)])]) rfl
  obtain ⟨x4, hx4, H⟩ := hb H
  refine ste hF (e_callA (fst := []) (vs := [(.pointer (some ⟨g2, 0, none⟩))]) (cap := []) rfl rfl go_104 (St.call (A := [pt g2 117 ([v4, (.int .i64 x3.2.2.1), (.bool x3.2.2.2)])]) (B := [pt g3 41 ([(.int .i64 x1.1), (.int .i64 x2.1), (.int .i64 x3.1), (.int .i64 0), (.int .i64 0), (.bool false), (.int .i64 0), (.slice none 0 0), (.slice none 0 0), (.bool false), (.int .i64 0), (.slice none 0 0), (.slice none 0 0), (.int .i64 0), (.slice none 0 0)]), pt g1 41 ([(.int .i64 0), (.int .i64 0), (.int .i64 0), (.int .i64 0), (.int .i64 0), (.bool false), (.int .i64 0), (.slice none 0 0), (.slice none 0 0), (.bool false), (.int .i64 0), (.slice none 0 0), (.slice none 0 0), (.int .i64 0), (.slice none 0 0)])]) hS (spec_l2Next.spec k _ _ x3.2.1 x3.2.2.1 x3.2.2.2 v4 g2 h4 _ hx4)) rfl) (by decide) (fun v w a hR hF => ?_)
  obtain ⟨s5, A5, hg4, hS, hR⟩ := hR
  obtain ⟨v5, hv4, rfl, h5⟩ := hR; obtain rfl := hv4.symm
  have hS : St e s5 w [pt g2 117 ([v5, (.int .i64 x4.2.2.1), (.bool x4.2.2.2)]), pt g3 41 ([(.int .i64 x1.1), (.int .i64 x2.1), (.int .i64 x3.1), (.int .i64 0), (.int .i64 0), (.bool false), (.int .i64 0), (.slice none 0 0), (.slice none 0 0), (.bool false), (.int .i64 0), (.slice none 0 0), (.slice none 0 0), (.int .i64 0), (.slice none 0 0)]), pt g1 41 ([(.int .i64 0), (.int .i64 0), (.int .i64 0), (.int .i64 0), (.int .i64 0), (.bool false), (.int .i64 0), (.slice none 0 0), (.slice none 0 0), (.bool false), (.int .i64 0), (.slice none 0 0), (.slice none 0 0), (.int .i64 0), (.slice none 0 0)])] := hS
  refine stp hF (p_fldb (o' := 3) rfl fi_41_3 rfl) (by decide) (fun a hF => ?_)
  refine ste0 hF (e_stb (i := 1) (l := [(.int .i64 x1.1), (.int .i64 x2.1), (.int .i64 x3.1)]) (m := [(.int .i64 0)]) (r := [(.int .i64 0), (.bool false), (.int .i64 0), (.slice none 0 0), (.slice none 0 0), (.bool false), (.int .i64 0), (.slice none 0 0), (.slice none 0 0), (.int .i64 0), (.slice none 0 0)]) (m' := [(.int .i64 x4.1)]) (cs' := [(.int .i64 x1.1), (.int .i64 x2.1), (.int .i64 x3.1), (.int .i64 x4.1), (.int .i64 0), (.bool false), (.int .i64 0), (.slice none 0 0), (.slice none 0 0), (.bool false), (.int .i64 0), (.slice none 0 0), (.slice none 0 0), (.int .i64 0), (.slice none 0 0)]) hS rfl rfl rfl ti_3 rfl rfl rfl rfl rfl (one_cons rfl one_nil) rfl) (fun v w a hR hF => ?_)
  have hS : St e s5 w [pt g3 41 ([(.int .i64 x1.1), (.int .i64 x2.1), (.int .i64 x3.1), (.int .i64 x4.1), (.int .i64 0), (.bool false), (.int .i64 0), (.slice none 0 0), (.slice none 0 0), (.bool false), (.int .i64 0), (.slice none 0 0), (.slice none 0 0), (.int .i64 0), (.slice none 0 0)]), pt g2 117 ([v5, (.int .i64 x4.2.2.1), (.bool x4.2.2.2)]), pt g1 41 ([(.int .i64 0), (.int .i64 0), (.int .i64 0), (.int .i64 0), (.int .i64 0), (.bool false), (.int .i64 0), (.slice none 0 0), (.slice none 0 0), (.bool false), (.int .i64 0), (.slice none 0 0), (.slice none 0 0), (.int .i64 0), (.slice none 0 0)])] := hR
  refine nilN ?_
  refine xn ?_
  refine sq ?_
  refine rg ?_
  refine stp hF (p_move rfl) (by decide) (fun a hF => ?_)
  replace hS := hS.sel (is := [1, 0, 0]) (A' := [pt g2 117 ([v5, (.int .i64 x4.2.2.1), (.bool x4.2.2.2)]), pt g3 41 ([(.int .i64 x1.1), (.int .i64 x2.1), (.int .i64 x3.1), (.int .i64 x4.1), (.int .i64 0), (.bool false), (.int .i64 0), (.slice none 0 0), (.slice none 0 0), (.bool false), (.int .i64 0), (.slice none 0 0), (.slice none 0 0), (.int .i64 0), (.slice none 0 0)]), pt g1 41 ([(.int .i64 0), (.int .i64 0), (.int .i64 0), (.int .i64 0), (.int .i64 0), (.bool false), (.int .i64 0), (.slice none 0 0), (.slice none 0 0), (.bool false), (.int .i64 0), (.slice none 0 0), (.slice none 0 0), (.int .i64 0), (.slice none 0 0)])]) rfl
  obtain ⟨x5, hx5, H⟩ := hb H
  refine ste hF (e_callA (fst := []) (vs := [(.pointer (some ⟨g2, 0, none⟩))]) (cap := []) rfl rfl go_104 (St.call (A := [pt g2 117 ([v5, (.int .i64 x4.2.2.1), (.bool x4.2.2.2)])]) (B := [pt g3 41 ([(.int .i64 x1.1), (.int .i64 x2.1), (.int .i64 x3.1), (.int .i64 x4.1), (.int .i64 0), (.bool false), (.int .i64 0), (.slice none 0 0), (.slice none 0 0), (.bool false), (.int .i64 0), (.slice none 0 0), (.slice none 0 0), (.int .i64 0), (.slice none 0 0)]), pt g1 41 ([(.int .i64 0), (.int .i64 0), (.int .i64 0), (.int .i64 0), (.int .i64 0), (.bool false), (.int .i64 0), (.slice none 0 0), (.slice none 0 0), (.bool false), (.int .i64 0), (.slice none 0 0), (.slice none 0 0), (.int .i64 0), (.slice none 0 0)])]) hS (spec_l2Next.spec k _ _ x4.2.1 x4.2.2.1 x4.2.2.2 v5 g2 h5 _ hx5)) rfl) (by decide) (fun v w a hR hF => ?_)
  obtain ⟨s6, A6, hg5, hS, hR⟩ := hR
  obtain ⟨v6, hv5, rfl, h6⟩ := hR; obtain rfl := hv5.symm
  have hS : St e s6 w [pt g2 117 ([v6, (.int .i64 x5.2.2.1), (.bool x5.2.2.2)]), pt g3 41 ([(.int .i64 x1.1), (.int .i64 x2.1), (.int .i64 x3.1), (.int .i64 x4.1), (.int .i64 0), (.bool false), (.int .i64 0), (.slice none 0 0), (.slice none 0 0), (.bool false), (.int .i64 0), (.slice none 0 0), (.slice none 0 0), (.int .i64 0), (.slice none 0 0)]), pt g1 41 ([(.int .i64 0), (.int .i64 0), (.int .i64 0), (.int .i64 0), (.int .i64 0), (.bool false), (.int .i64 0), (.slice none 0 0), (.slice none 0 0), (.bool false), (.int .i64 0), (.slice none 0 0), (.slice none 0 0), (.int .i64 0), (.slice none 0 0)])] := hS
  refine stp hF (p_fldb (o' := 4) rfl fi_41_4 rfl) (by decide) (fun a hF => ?_)
  refine ste0 hF (e_stb (i := 1) (l := [(.int .i64 x1.1), (.int .i64 x2.1), (.int .i64 x3.1), (.int .i64 x4.1)]) (m := [(.int .i64 0)]) (r := [(.bool false), (.int .i64 0), (.slice none 0 0), (.slice none 0 0), (.bool false), (.int .i64 0), (.slice none 0 0), (.slice none 0 0), (.int .i64 0), (.slice none 0 0)]) (m' := [(.int .i64 x5.1)]) (cs' := [(.int .i64 x1.1), (.int .i64 x2.1), (.int .i64 x3.1), (.int .i64 x4.1), (.int .i64 x5.1), (.bool false), (.int .i64 0), (.slice none 0 0), (.slice none 0 0), (.bool false), (.int .i64 0), (.slice none 0 0), (.slice none 0 0), (.int .i64 0), (.slice none 0 0)]) hS rfl rfl rfl ti_3 rfl rfl rfl rfl rfl (one_cons rfl one_nil) rfl) (fun v w a hR hF => ?_)
  have hS : St e s6 w [pt g3 41 ([(.int .i64 x1.1), (.int .i64 x2.1), (.int .i64 x3.1), (.int .i64 x4.1), (.int .i64 x5.1), (.bool false), (.int .i64 0), (.slice none 0 0), (.slice none 0 0), (.bool false), (.int .i64 0), (.slice none 0 0), (.slice none 0 0), (.int .i64 0), (.slice none 0 0)]), pt g2 117 ([v6, (.int .i64 x5.2.2.1), (.bool x5.2.2.2)]), pt g1 41 ([(.int .i64 0), (.int .i64 0), (.int .i64 0), (.int .i64 0), (.int .i64 0), (.bool false), (.int .i64 0), (.slice none 0 0), (.slice none 0 0), (.bool false), (.int .i64 0), (.slice none 0 0), (.slice none 0 0), (.int .i64 0), (.slice none 0 0)])] := hR
  refine nilN ?_
  refine xn ?_
  refine sq ?_
  refine rg ?_
  refine stp hF (p_move rfl) (by decide) (fun a hF => ?_)
  replace hS := hS.sel (is := [1, 0, 0]) (A' := [pt g2 117 ([v6, (.int .i64 x5.2.2.1), (.bool x5.2.2.2)]), pt g3 41 ([(.int .i64 x1.1), (.int .i64 x2.1), (.int .i64 x3.1), (.int .i64 x4.1), (.int .i64 x5.1), (.bool false), (.int .i64 0), (.slice none 0 0), (.slice none 0 0), (.bool false), (.int .i64 0), (.slice none 0 0), (.slice none 0 0), (.int .i64 0), (.slice none 0 0)]), pt g1 41 ([(.int .i64 0), (.int .i64 0), (.int .i64 0), (.int .i64 0), (.int .i64 0), (.bool false), (.int .i64 0), (.slice none 0 0), (.slice none 0 0), (.bool false), (.int .i64 0), (.slice none 0 0), (.slice none 0 0), (.int .i64 0), (.slice none 0 0)])]) rfl
  obtain ⟨x8, hx6, H⟩ := hb H
  refine ste hF (e_callA (fst := []) (vs := [(.pointer (some ⟨g2, 0, none⟩))]) (cap := []) rfl rfl go_104 (St.call (A := [pt g2 117 ([v6, (.int .i64 x5.2.2.1), (.bool x5.2.2.2)])]) (B := [pt g3 41 ([(.int .i64 x1.1), (.int .i64 x2.1), (.int .i64 x3.1), (.int .i64 x4.1), (.int .i64 x5.1), (.bool false), (.int .i64 0), (.slice none 0 0), (.slice none 0 0), (.bool false), (.int .i64 0), (.slice none 0 0), (.slice none 0 0), (.int .i64 0), (.slice none 0 0)]), pt g1 41 ([(.int .i64 0), (.int .i64 0), (.int .i64 0), (.int .i64 0), (.int .i64 0), (.bool false), (.int .i64 0), (.slice none 0 0), (.slice none 0 0), (.bool false), (.int .i64 0), (.slice none 0 0), (.slice none 0 0), (.int .i64 0), (.slice none 0 0)])]) hS (spec_l2Next.spec k _ _ x5.2.1 x5.2.2.1 x5.2.2.2 v6 g2 h6 _ hx6)) rfl) (by decide) (fun v w a hR hF => ?_)
  obtain ⟨s7, A7, hg6, hS, hR⟩ := hR
  obtain ⟨v7, hv6, rfl, h7⟩ := hR; obtain rfl := hv6.symm
  have hS : St e s7 w [pt g2 117 ([v7, (.int .i64 x8.2.2.1), (.bool x8.2.2.2)]), pt g3 41 ([(.int .i64 x1.1), (.int .i64 x2.1), (.int .i64 x3.1), (.int .i64 x4.1), (.int .i64 x5.1), (.bool false), (.int .i64 0), (.slice none 0 0), (.slice none 0 0), (.bool false), (.int .i64 0), (.slice none 0 0), (.slice none 0 0), (.int .i64 0), (.slice none 0 0)]), pt g1 41 ([(.int .i64 0), (.int .i64 0), (.int .i64 0), (.int .i64 0), (.int .i64 0), (.bool false), (.int .i64 0), (.slice none 0 0), (.slice none 0 0), (.bool false), (.int .i64 0), (.slice none 0 0), (.slice none 0 0), (.int .i64 0), (.slice none 0 0)])] := hS
  refine stp hF (p_fldb (o' := 13) rfl fi_41_7 rfl) (by decide) (fun a hF => ?_)
  refine ste0 hF (e_stb (i := 1) (l := [(.int .i64 x1.1), (.int .i64 x2.1), (.int .i64 x3.1), (.int .i64 x4.1), (.int .i64 x5.1), (.bool false), (.int .i64 0), (.slice none 0 0), (.slice none 0 0), (.bool false), (.int .i64 0), (.slice none 0 0), (.slice none 0 0)]) (m := [(.int .i64 0)]) (r := [(.slice none 0 0)]) (m' := [(.int .i64 x8.1)]) (cs' := [(.int .i64 x1.1), (.int .i64 x2.1), (.int .i64 x3.1), (.int .i64 x4.1), (.int .i64 x5.1), (.bool false), (.int .i64 0), (.slice none 0 0), (.slice none 0 0), (.bool false), (.int .i64 0), (.slice none 0 0), (.slice none 0 0), (.int .i64 x8.1), (.slice none 0 0)]) hS rfl rfl rfl ti_3 rfl rfl rfl rfl rfl (one_cons rfl one_nil) rfl) (fun v w a hR hF => ?_)
  have hS : St e s7 w [pt g3 41 ([(.int .i64 x1.1), (.int .i64 x2.1), (.int .i64 x3.1), (.int .i64 x4.1), (.int .i64 x5.1), (.bool false), (.int .i64 0), (.slice none 0 0), (.slice none 0 0), (.bool false), (.int .i64 0), (.slice none 0 0), (.slice none 0 0), (.int .i64 x8.1), (.slice none 0 0)]), pt g2 117 ([v7, (.int .i64 x8.2.2.1), (.bool x8.2.2.2)]), pt g1 41 ([(.int .i64 0), (.int .i64 0), (.int .i64 0), (.int .i64 0), (.int .i64 0), (.bool false), (.int .i64 0), (.slice none 0 0), (.slice none 0 0), (.bool false), (.int .i64 0), (.slice none 0 0), (.slice none 0 0), (.int .i64 0), (.slice none 0 0)])] := hR
  refine nilN ?_
  refine xn ?_
  refine sq ?_
  refine rg ?_
  refine stp hF (p_move rfl) (by decide) (fun a hF => ?_)
  replace hS := hS.sel (is := [1, 0, 0]) (A' := [pt g2 117 ([v7, (.int .i64 x8.2.2.1), (.bool x8.2.2.2)]), pt g3 41 ([(.int .i64 x1.1), (.int .i64 x2.1), (.int .i64 x3.1), (.int .i64 x4.1), (.int .i64 x5.1), (.bool false), (.int .i64 0), (.slice none 0 0), (.slice none 0 0), (.bool false), (.int .i64 0), (.slice none 0 0), (.slice none 0 0), (.int .i64 x8.1), (.slice none 0 0)]), pt g1 41 ([(.int .i64 0), (.int .i64 0), (.int .i64 0), (.int .i64 0), (.int .i64 0), (.bool false), (.int .i64 0), (.slice none 0 0), (.slice none 0 0), (.bool false), (.int .i64 0), (.slice none 0 0), (.slice none 0 0), (.int .i64 0), (.slice none 0 0)])]) rfl
  obtain ⟨x6, hx7, H⟩ := hb H
  refine ste hF (e_callA (fst := []) (vs := [(.pointer (some ⟨g2, 0, none⟩))]) (cap := []) rfl rfl go_105 (St.call (A := [pt g2 117 ([v7, (.int .i64 x8.2.2.1), (.bool x8.2.2.2)])]) (B := [pt g3 41 ([(.int .i64 x1.1), (.int .i64 x2.1), (.int .i64 x3.1), (.int .i64 x4.1), (.int .i64 x5.1), (.bool false), (.int .i64 0), (.slice none 0 0), (.slice none 0 0), (.bool false), (.int .i64 0), (.slice none 0 0), (.slice none 0 0), (.int .i64 x8.1), (.slice none 0 0)]), pt g1 41 ([(.int .i64 0), (.int .i64 0), (.int .i64 0), (.int .i64 0), (.int .i64 0), (.bool false), (.int .i64 0), (.slice none 0 0), (.slice none 0 0), (.bool false), (.int .i64 0), (.slice none 0 0), (.slice none 0 0), (.int .i64 0), (.slice none 0 0)])]) hS (spec_l3NextSlot.spec k _ _ x8.2.1 x8.2.2.1 x8.2.2.2 v7 g2 h7 _ hx7)) rfl) (by decide) (fun v w a hR hF => ?_)
  obtain ⟨s8, A8, hg7, hS, hR⟩ := hR
  obtain ⟨v8, v9, v10, hv7, rfl, h8⟩ := hR; obtain rfl := hv7.symm
  have hS : St e s8 w [pt g2 117 ([v8, (.int .i64 x6.2.2.1), (.bool x6.2.2.2)]), Ow (Kd.int .i64) 3 v9 x6.1.O.Ints, Ow (Kd.int .i64) 3 v10 x6.1.O.Refs, pt g3 41 ([(.int .i64 x1.1), (.int .i64 x2.1), (.int .i64 x3.1), (.int .i64 x4.1), (.int .i64 x5.1), (.bool false), (.int .i64 0), (.slice none 0 0), (.slice none 0 0), (.bool false), (.int .i64 0), (.slice none 0 0), (.slice none 0 0), (.int .i64 x8.1), (.slice none 0 0)]), pt g1 41 ([(.int .i64 0), (.int .i64 0), (.int .i64 0), (.int .i64 0), (.int .i64 0), (.bool false), (.int .i64 0), (.slice none 0 0), (.slice none 0 0), (.bool false), (.int .i64 0), (.slice none 0 0), (.slice none 0 0), (.int .i64 0), (.slice none 0 0)])] := hS
  refine stp hF (p_fldb (o' := 5) rfl fi_41_5 rfl) (by decide) (fun a hF => ?_)
  refine ste0 hF (e_stb (i := 3) (l := [(.int .i64 x1.1), (.int .i64 x2.1), (.int .i64 x3.1), (.int .i64 x4.1), (.int .i64 x5.1)]) (m := [(.bool false), (.int .i64 0), (.slice none 0 0), (.slice none 0 0)]) (r := [(.bool false), (.int .i64 0), (.slice none 0 0), (.slice none 0 0), (.int .i64 x8.1), (.slice none 0 0)]) (m' := [(.bool x6.1.Has), (.int .i64 x6.1.O.Kind), v9, v10]) (cs' := [(.int .i64 x1.1), (.int .i64 x2.1), (.int .i64 x3.1), (.int .i64 x4.1), (.int .i64 x5.1), (.bool x6.1.Has), (.int .i64 x6.1.O.Kind), v9, v10, (.bool false), (.int .i64 0), (.slice none 0 0), (.slice none 0 0), (.int .i64 x8.1), (.slice none 0 0)]) hS rfl rfl rfl ti_38 rfl rfl rfl rfl rfl (one_cons rfl (one_cons rfl (one_cons (hS.one_ow (i := 1) rfl) (one_cons (hS.one_ow (i := 2) rfl) one_nil)))) rfl) (fun v w a hR hF => ?_)
  have hS : St e s8 w [pt g3 41 ([(.int .i64 x1.1), (.int .i64 x2.1), (.int .i64 x3.1), (.int .i64 x4.1), (.int .i64 x5.1), (.bool x6.1.Has), (.int .i64 x6.1.O.Kind), v9, v10, (.bool false), (.int .i64 0), (.slice none 0 0), (.slice none 0 0), (.int .i64 x8.1), (.slice none 0 0)]), pt g2 117 ([v8, (.int .i64 x6.2.2.1), (.bool x6.2.2.2)]), Ow (Kd.int .i64) 3 v9 x6.1.O.Ints, Ow (Kd.int .i64) 3 v10 x6.1.O.Refs, pt g1 41 ([(.int .i64 0), (.int .i64 0), (.int .i64 0), (.int .i64 0), (.int .i64 0), (.bool false), (.int .i64 0), (.slice none 0 0), (.slice none 0 0), (.bool false), (.int .i64 0), (.slice none 0 0), (.slice none 0 0), (.int .i64 0), (.slice none 0 0)])] := hR
  refine nilN ?_
  refine xn ?_
  refine sq ?_
  refine rg ?_
  refine stp hF (p_move rfl) (by decide) (fun a hF => ?_)
  replace hS := hS.sel (is := [1, 0, 0, 0, 0]) (A' := [pt g2 117 ([v8, (.int .i64 x6.2.2.1), (.bool x6.2.2.2)]), pt g3 41 ([(.int .i64 x1.1), (.int .i64 x2.1), (.int .i64 x3.1), (.int .i64 x4.1), (.int .i64 x5.1), (.bool x6.1.Has), (.int .i64 x6.1.O.Kind), v9, v10, (.bool false), (.int .i64 0), (.slice none 0 0), (.slice none 0 0), (.int .i64 x8.1), (.slice none 0 0)]), Ow (Kd.int .i64) 3 v9 x6.1.O.Ints, Ow (Kd.int .i64) 3 v10 x6.1.O.Refs, pt g1 41 ([(.int .i64 0), (.int .i64 0), (.int .i64 0), (.int .i64 0), (.int .i64 0), (.bool false), (.int .i64 0), (.slice none 0 0), (.slice none 0 0), (.bool false), (.int .i64 0), (.slice none 0 0), (.slice none 0 0), (.int .i64 0), (.slice none 0 0)])]) rfl
  obtain ⟨x7, hx8, H⟩ := hb H
  refine ste hF (e_callA (fst := []) (vs := [(.pointer (some ⟨g2, 0, none⟩))]) (cap := []) rfl rfl go_105 (St.call (A := [pt g2 117 ([v8, (.int .i64 x6.2.2.1), (.bool x6.2.2.2)])]) (B := [pt g3 41 ([(.int .i64 x1.1), (.int .i64 x2.1), (.int .i64 x3.1), (.int .i64 x4.1), (.int .i64 x5.1), (.bool x6.1.Has), (.int .i64 x6.1.O.Kind), v9, v10, (.bool false), (.int .i64 0), (.slice none 0 0), (.slice none 0 0), (.int .i64 x8.1), (.slice none 0 0)]), Ow (Kd.int .i64) 3 v9 x6.1.O.Ints, Ow (Kd.int .i64) 3 v10 x6.1.O.Refs, pt g1 41 ([(.int .i64 0), (.int .i64 0), (.int .i64 0), (.int .i64 0), (.int .i64 0), (.bool false), (.int .i64 0), (.slice none 0 0), (.slice none 0 0), (.bool false), (.int .i64 0), (.slice none 0 0), (.slice none 0 0), (.int .i64 0), (.slice none 0 0)])]) hS (spec_l3NextSlot.spec k _ _ x6.2.1 x6.2.2.1 x6.2.2.2 v8 g2 h8 _ hx8)) rfl) (by decide) (fun v w a hR hF => ?_)
  obtain ⟨s9, A9, hg8, hS, hR⟩ := hR
  obtain ⟨v11, v12, v13, hv8, rfl, h9⟩ := hR; obtain rfl := hv8.symm
  have hS : St e s9 w [pt g2 117 ([v11, (.int .i64 x7.2.2.1), (.bool x7.2.2.2)]), Ow (Kd.int .i64) 3 v12 x7.1.O.Ints, Ow (Kd.int .i64) 3 v13 x7.1.O.Refs, pt g3 41 ([(.int .i64 x1.1), (.int .i64 x2.1), (.int .i64 x3.1), (.int .i64 x4.1), (.int .i64 x5.1), (.bool x6.1.Has), (.int .i64 x6.1.O.Kind), v9, v10, (.bool false), (.int .i64 0), (.slice none 0 0), (.slice none 0 0), (.int .i64 x8.1), (.slice none 0 0)]), Ow (Kd.int .i64) 3 v9 x6.1.O.Ints, Ow (Kd.int .i64) 3 v10 x6.1.O.Refs, pt g1 41 ([(.int .i64 0), (.int .i64 0), (.int .i64 0), (.int .i64 0), (.int .i64 0), (.bool false), (.int .i64 0), (.slice none 0 0), (.slice none 0 0), (.bool false), (.int .i64 0), (.slice none 0 0), (.slice none 0 0), (.int .i64 0), (.slice none 0 0)])] := hS
  refine stp hF (p_fldb (o' := 9) rfl fi_41_6 rfl) (by decide) (fun a hF => ?_)
  refine ste0 hF (e_stb (i := 3) (l := [(.int .i64 x1.1), (.int .i64 x2.1), (.int .i64 x3.1), (.int .i64 x4.1), (.int .i64 x5.1), (.bool x6.1.Has), (.int .i64 x6.1.O.Kind), v9, v10]) (m := [(.bool false), (.int .i64 0), (.slice none 0 0), (.slice none 0 0)]) (r := [(.int .i64 x8.1), (.slice none 0 0)]) (m' := [(.bool x7.1.Has), (.int .i64 x7.1.O.Kind), v12, v13]) (cs' := [(.int .i64 x1.1), (.int .i64 x2.1), (.int .i64 x3.1), (.int .i64 x4.1), (.int .i64 x5.1), (.bool x6.1.Has), (.int .i64 x6.1.O.Kind), v9, v10, (.bool x7.1.Has), (.int .i64 x7.1.O.Kind), v12, v13, (.int .i64 x8.1), (.slice none 0 0)]) hS rfl rfl rfl ti_38 rfl rfl rfl rfl rfl (one_cons rfl (one_cons rfl (one_cons (hS.one_ow (i := 1) rfl) (one_cons (hS.one_ow (i := 2) rfl) one_nil)))) rfl) (fun v w a hR hF => ?_)
  have hS : St e s9 w [pt g3 41 ([(.int .i64 x1.1), (.int .i64 x2.1), (.int .i64 x3.1), (.int .i64 x4.1), (.int .i64 x5.1), (.bool x6.1.Has), (.int .i64 x6.1.O.Kind), v9, v10, (.bool x7.1.Has), (.int .i64 x7.1.O.Kind), v12, v13, (.int .i64 x8.1), (.slice none 0 0)]), pt g2 117 ([v11, (.int .i64 x7.2.2.1), (.bool x7.2.2.2)]), Ow (Kd.int .i64) 3 v12 x7.1.O.Ints, Ow (Kd.int .i64) 3 v13 x7.1.O.Refs, Ow (Kd.int .i64) 3 v9 x6.1.O.Ints, Ow (Kd.int .i64) 3 v10 x6.1.O.Refs, pt g1 41 ([(.int .i64 0), (.int .i64 0), (.int .i64 0), (.int .i64 0), (.int .i64 0), (.bool false), (.int .i64 0), (.slice none 0 0), (.slice none 0 0), (.bool false), (.int .i64 0), (.slice none 0 0), (.slice none 0 0), (.int .i64 0), (.slice none 0 0)])] := hR
  refine nilN ?_
  refine xn ?_
  refine sq ?_
  refine rg ?_
  refine stp hF (p_move rfl) (by decide) (fun a hF => ?_)
  replace hS := hS.sel (is := [1, 0, 0, 0, 0, 0, 0]) (A' := [pt g2 117 ([v11, (.int .i64 x7.2.2.1), (.bool x7.2.2.2)]), pt g3 41 ([(.int .i64 x1.1), (.int .i64 x2.1), (.int .i64 x3.1), (.int .i64 x4.1), (.int .i64 x5.1), (.bool x6.1.Has), (.int .i64 x6.1.O.Kind), v9, v10, (.bool x7.1.Has), (.int .i64 x7.1.O.Kind), v12, v13, (.int .i64 x8.1), (.slice none 0 0)]), Ow (Kd.int .i64) 3 v12 x7.1.O.Ints, Ow (Kd.int .i64) 3 v13 x7.1.O.Refs, Ow (Kd.int .i64) 3 v9 x6.1.O.Ints, Ow (Kd.int .i64) 3 v10 x6.1.O.Refs, pt g1 41 ([(.int .i64 0), (.int .i64 0), (.int .i64 0), (.int .i64 0), (.int .i64 0), (.bool false), (.int .i64 0), (.slice none 0 0), (.slice none 0 0), (.bool false), (.int .i64 0), (.slice none 0 0), (.slice none 0 0), (.int .i64 0), (.slice none 0 0)])]) rfl
  obtain ⟨x21, hx9, H⟩ := hb H
  refine ste hF (e_callA (fst := []) (vs := [(.pointer (some ⟨g2, 0, none⟩))]) (cap := []) rfl rfl go_104 (St.call (A := [pt g2 117 ([v11, (.int .i64 x7.2.2.1), (.bool x7.2.2.2)])]) (B := [pt g3 41 ([(.int .i64 x1.1), (.int .i64 x2.1), (.int .i64 x3.1), (.int .i64 x4.1), (.int .i64 x5.1), (.bool x6.1.Has), (.int .i64 x6.1.O.Kind), v9, v10, (.bool x7.1.Has), (.int .i64 x7.1.O.Kind), v12, v13, (.int .i64 x8.1), (.slice none 0 0)]), Ow (Kd.int .i64) 3 v12 x7.1.O.Ints, Ow (Kd.int .i64) 3 v13 x7.1.O.Refs, Ow (Kd.int .i64) 3 v9 x6.1.O.Ints, Ow (Kd.int .i64) 3 v10 x6.1.O.Refs, pt g1 41 ([(.int .i64 0), (.int .i64 0), (.int .i64 0), (.int .i64 0), (.int .i64 0), (.bool false), (.int .i64 0), (.slice none 0 0), (.slice none 0 0), (.bool false), (.int .i64 0), (.slice none 0 0), (.slice none 0 0), (.int .i64 0), (.slice none 0 0)])]) hS (spec_l2Next.spec k _ _ x7.2.1 x7.2.2.1 x7.2.2.2 v11 g2 h9 _ hx9)) rfl) (by decide) (fun v w a hR hF => ?_)
  obtain ⟨s10, A10, hg9, hS, hR⟩ := hR
  obtain ⟨v14, hv9, rfl, h10⟩ := hR; obtain rfl := hv9.symm
  have hS : St e s10 w [pt g2 117 ([v14, (.int .i64 x21.2.2.1), (.bool x21.2.2.2)]), pt g3 41 ([(.int .i64 x1.1), (.int .i64 x2.1), (.int .i64 x3.1), (.int .i64 x4.1), (.int .i64 x5.1), (.bool x6.1.Has), (.int .i64 x6.1.O.Kind), v9, v10, (.bool x7.1.Has), (.int .i64 x7.1.O.Kind), v12, v13, (.int .i64 x8.1), (.slice none 0 0)]), Ow (Kd.int .i64) 3 v12 x7.1.O.Ints, Ow (Kd.int .i64) 3 v13 x7.1.O.Refs, Ow (Kd.int .i64) 3 v9 x6.1.O.Ints, Ow (Kd.int .i64) 3 v10 x6.1.O.Refs, pt g1 41 ([(.int .i64 0), (.int .i64 0), (.int .i64 0), (.int .i64 0), (.int .i64 0), (.bool false), (.int .i64 0), (.slice none 0 0), (.slice none 0 0), (.bool false), (.int .i64 0), (.slice none 0 0), (.slice none 0 0), (.int .i64 0), (.slice none 0 0)])] := hS
  refine stp hF (p_assign rfl) (by decide) (fun a hF => ?_)
  refine nilN ?_
  refine xn ?_
  obtain ⟨x30, H, HK1⟩ := hb H
  refine sqj (fun a w => ∃ (x16 : (List Int)) (x17 : Int) (x18 : Bool) (x9 : (List TLive)) (s11 : HF) (v15 : Value) (v16 : Value) , St e s11 w [pt g2 117 ([v15, (.int .i64 x17), (.bool x18)]), pt g3 41 ([(.int .i64 x1.1), (.int .i64 x2.1), (.int .i64 x3.1), (.int .i64 x4.1), (.int .i64 x5.1), (.bool x6.1.Has), (.int .i64 x6.1.O.Kind), v9, v10, (.bool x7.1.Has), (.int .i64 x7.1.O.Kind), v12, v13, (.int .i64 x8.1), v16]), Ow kTLive 91 v16 x9, Ow (Kd.int .i64) 3 v12 x7.1.O.Ints, Ow (Kd.int .i64) 3 v13 x7.1.O.Refs, Ow (Kd.int .i64) 3 v9 x6.1.O.Ints, Ow (Kd.int .i64) 3 v10 x6.1.O.Refs, pt g1 41 ([(.int .i64 0), (.int .i64 0), (.int .i64 0), (.int .i64 0), (.int .i64 0), (.bool false), (.int .i64 0), (.slice none 0 0), (.slice none 0 0), (.bool false), (.int .i64 0), (.slice none 0 0), (.slice none 0 0), (.int .i64 0), (.slice none 0 0)])] ∧ Fr 90 a [(0, v1), (2, (.pointer (some ⟨g1, 0, none⟩))), (4, (.pointer (some ⟨g2, 0, none⟩))), (5, (.pointer (some ⟨g3, 0, none⟩)))] ∧ Sub s10 s11 ∧ Sl (Kd.int .u8) s11 v15 x16 ∧ spec_GetRec.c3 k x1 x2 x3 x4 x5 x6 x7 x8 x11 x16 x17 x18 x9 = some r) ?_ ?_
  · skip
    refine sq ?_
    refine rg ?_
    refine stp hF (p_assign rfl) (by decide) (fun a hF => ?_)
    refine nilN ?_
    refine xn ?_
    refine blk ?_
    refine loop_ind (fun k1 a w => ∃ (x22 : (List Int)) (x23 : Int) (x24 : Bool) (x25 : (List TLive)) (x26 : Int) (s12 : HF) (v17 : Value) (v18 : Value) , St e s12 w [pt g2 117 ([v17, (.int .i64 x23), (.bool x24)]), pt g3 41 ([(.int .i64 x1.1), (.int .i64 x2.1), (.int .i64 x3.1), (.int .i64 x4.1), (.int .i64 x5.1), (.bool x6.1.Has), (.int .i64 x6.1.O.Kind), v9, v10, (.bool x7.1.Has), (.int .i64 x7.1.O.Kind), v12, v13, (.int .i64 x8.1), v18]), Ow kTLive 91 v18 x25, Ow (Kd.int .i64) 3 v12 x7.1.O.Ints, Ow (Kd.int .i64) 3 v13 x7.1.O.Refs, Ow (Kd.int .i64) 3 v9 x6.1.O.Ints, Ow (Kd.int .i64) 3 v10 x6.1.O.Refs, pt g1 41 ([(.int .i64 0), (.int .i64 0), (.int .i64 0), (.int .i64 0), (.int .i64 0), (.bool false), (.int .i64 0), (.slice none 0 0), (.slice none 0 0), (.bool false), (.int .i64 0), (.slice none 0 0), (.slice none 0 0), (.int .i64 0), (.slice none 0 0)])] ∧ Fr 90 a [(0, v1), (2, (.pointer (some ⟨g1, 0, none⟩))), (4, (.pointer (some ⟨g2, 0, none⟩))), (5, (.pointer (some ⟨g3, 0, none⟩))), (6, (.int .i64 x21.1)), (7, (.int .i64 x26))] ∧ Sub s10 s12 ∧ Sl (Kd.int .u8) s12 v17 x22 ∧ spec_GetRec.l1 x21 k1 x22 x23 x24 x25 x26 = some x30) k ?_ ?_ ?_
    · skip
      replace hS := hS.ownNil kTLive 91 none
      replace hS := hS.sel (is := [1, 1, 0, 0, 0, 0, 0, 0]) (A' := [pt g2 117 ([v14, (.int .i64 x21.2.2.1), (.bool x21.2.2.2)]), pt g3 41 ([(.int .i64 x1.1), (.int .i64 x2.1), (.int .i64 x3.1), (.int .i64 x4.1), (.int .i64 x5.1), (.bool x6.1.Has), (.int .i64 x6.1.O.Kind), v9, v10, (.bool x7.1.Has), (.int .i64 x7.1.O.Kind), v12, v13, (.int .i64 x8.1), (.slice none 0 0)]), Ow kTLive 91 (.slice none 0 0) ([] : List TLive), Ow (Kd.int .i64) 3 v12 x7.1.O.Ints, Ow (Kd.int .i64) 3 v13 x7.1.O.Refs, Ow (Kd.int .i64) 3 v9 x6.1.O.Ints, Ow (Kd.int .i64) 3 v10 x6.1.O.Refs, pt g1 41 ([(.int .i64 0), (.int .i64 0), (.int .i64 0), (.int .i64 0), (.int .i64 0), (.bool false), (.int .i64 0), (.slice none 0 0), (.slice none 0 0), (.bool false), (.int .i64 0), (.slice none 0 0), (.slice none 0 0), (.int .i64 0), (.slice none 0 0)])]) rfl
      exact ⟨x21.2.1, x21.2.2.1, x21.2.2.2, ([] : List TLive), 0, s10, v14, (.slice none 0 0), hS, hF.cut ⟨rfl, rfl, rfl, rfl, rfl, rfl, trivial⟩, (Sub.refl _), h10, H⟩
    · clear H hS hF
      rintro a w ⟨x22, x23, x24, x25, x26, s12, v17, v18, hS, hF, hg10, h11, H⟩
      exact absurd (show none = some _ from H) (by simp)
    · clear H hS hF
      rintro k1 a w ⟨x22, x23, x24, x25, x26, s12, v17, v18, hS, hF, hg10, h11, H⟩
      rw [spec_GetRec.l1.eq_2] at H
      refine sq ?_
      refine sq ?_
      refine rg ?_
      refine stp hF (p_move rfl) (by decide) (fun a hF => ?_)
      refine stp hF (p_move rfl) (by decide) (fun a hF => ?_)
      refine stp hF (p_lss rfl rfl) (by decide) (fun a hF => ?_)
      refine stp hF (p_move rfl) (by decide) (fun a hF => ?_)
      refine cutj 3 (fun a w => St e s12 w [pt g2 117 ([v17, (.int .i64 x23), (.bool x24)]), pt g3 41 ([(.int .i64 x1.1), (.int .i64 x2.1), (.int .i64 x3.1), (.int .i64 x4.1), (.int .i64 x5.1), (.bool x6.1.Has), (.int .i64 x6.1.O.Kind), v9, v10, (.bool x7.1.Has), (.int .i64 x7.1.O.Kind), v12, v13, (.int .i64 x8.1), v18]), Ow kTLive 91 v18 x25, Ow (Kd.int .i64) 3 v12 x7.1.O.Ints, Ow (Kd.int .i64) 3 v13 x7.1.O.Refs, Ow (Kd.int .i64) 3 v9 x6.1.O.Ints, Ow (Kd.int .i64) 3 v10 x6.1.O.Refs, pt g1 41 ([(.int .i64 0), (.int .i64 0), (.int .i64 0), (.int .i64 0), (.int .i64 0), (.bool false), (.int .i64 0), (.slice none 0 0), (.slice none 0 0), (.bool false), (.int .i64 0), (.slice none 0 0), (.slice none 0 0), (.int .i64 0), (.slice none 0 0)])] ∧ Fr 90 a [(0, v1), (2, (.pointer (some ⟨g1, 0, none⟩))), (4, (.pointer (some ⟨g2, 0, none⟩))), (5, (.pointer (some ⟨g3, 0, none⟩))), (6, (.int .i64 x21.1)), (7, (.int .i64 x26)), (45, (.bool ((decide (x26 < x21.1)) && (decide (x26 < 30)))))]) rfl rfl ?_ ?_
      · rcases Bool.eq_false_or_eq_true (decide (x26 < x21.1)) with hc1 | hc1
        · skip
          refine gonE (j := 3) hF rfl rfl hc1 ?_
          refine stp hF (p_move rfl) (by decide) (fun a hF => ?_)
          refine gonE (j := 3) hF rfl rfl hc1 ?_
          refine stp hF (p_lss rfl rfl) (by decide) (fun a hF => ?_)
          refine stp hF (p_andT rfl hc1 rfl) (by decide) (fun a hF => ?_)
          refine nilN ?_
          refine xn ?_
          exact ⟨hS, hF.cut ⟨rfl, rfl, rfl, rfl, rfl, rfl, rfl, trivial⟩⟩
        · skip
          refine gofD (j := 3) hF rfl rfl (by rw [hc1]; decide) (by decide) (fun a hF => ?_)
          refine gofD (j := 3) hF rfl rfl (by rw [hc1]; decide) (by decide) (fun a hF => ?_)
          refine stp hF (p_andF (decide (x26 < 30)) rfl hc1 rfl) (by decide) (fun a hF => ?_)
          refine nilN ?_
          refine xn ?_
          exact ⟨hS, hF.cut ⟨rfl, rfl, rfl, rfl, rfl, rfl, rfl, trivial⟩⟩
      clear hS hF
      rintro a w ⟨hS, hF⟩
      refine stp hF (p_move rfl) (by decide) (fun a hF => ?_)
      refine cutj 6 (fun a w => St e s12 w [pt g2 117 ([v17, (.int .i64 x23), (.bool x24)]), pt g3 41 ([(.int .i64 x1.1), (.int .i64 x2.1), (.int .i64 x3.1), (.int .i64 x4.1), (.int .i64 x5.1), (.bool x6.1.Has), (.int .i64 x6.1.O.Kind), v9, v10, (.bool x7.1.Has), (.int .i64 x7.1.O.Kind), v12, v13, (.int .i64 x8.1), v18]), Ow kTLive 91 v18 x25, Ow (Kd.int .i64) 3 v12 x7.1.O.Ints, Ow (Kd.int .i64) 3 v13 x7.1.O.Refs, Ow (Kd.int .i64) 3 v9 x6.1.O.Ints, Ow (Kd.int .i64) 3 v10 x6.1.O.Refs, pt g1 41 ([(.int .i64 0), (.int .i64 0), (.int .i64 0), (.int .i64 0), (.int .i64 0), (.bool false), (.int .i64 0), (.slice none 0 0), (.slice none 0 0), (.bool false), (.int .i64 0), (.slice none 0 0), (.slice none 0 0), (.int .i64 0), (.slice none 0 0)])] ∧ Fr 90 a [(0, v1), (2, (.pointer (some ⟨g1, 0, none⟩))), (4, (.pointer (some ⟨g2, 0, none⟩))), (5, (.pointer (some ⟨g3, 0, none⟩))), (6, (.int .i64 x21.1)), (7, (.int .i64 x26)), (52, (.bool (((decide (x26 < x21.1)) && (decide (x26 < 30))) && (!x24))))]) rfl rfl ?_ ?_
      · rcases Bool.eq_false_or_eq_true (((decide (x26 < x21.1)) && (decide (x26 < 30)))) with hc2 | hc2
        · skip
          refine gonE (j := 7) hF rfl rfl hc2 ?_
          refine stp hF (p_move rfl) (by decide) (fun a hF => ?_)
          refine gonE (j := 7) hF rfl rfl hc2 ?_
          refine stp hF (p_nilck rfl) (by decide) (fun a hF => ?_)
          refine gonE (j := 7) hF rfl rfl hc2 ?_
          refine stp hF (p_fldb (o' := 2) rfl fi_117_2 rfl) (by decide) (fun a hF => ?_)
          refine gonE (j := 7) hF rfl rfl hc2 ?_
          refine stp hF (p_ldb_one (i := 0) hS rfl rfl ia_4 rfl) (by decide) (fun a hF => ?_)
          refine gonE (j := 7) hF rfl rfl hc2 ?_
          refine stp hF (p_not rfl) (by decide) (fun a hF => ?_)
          refine stp hF (p_andT rfl hc2 rfl) (by decide) (fun a hF => ?_)
          refine nilN ?_
          refine xn ?_
          exact ⟨hS, hF.cut ⟨rfl, rfl, rfl, rfl, rfl, rfl, rfl, trivial⟩⟩
        · skip
          refine gofD (j := 7) hF rfl rfl (by rw [hc2]; decide) (by decide) (fun a hF => ?_)
          refine gofD (j := 7) hF rfl rfl (by rw [hc2]; decide) (by decide) (fun a hF => ?_)
          refine gofD (j := 7) hF rfl rfl (by rw [hc2]; decide) (by decide) (fun a hF => ?_)
          refine gofD (j := 7) hF rfl rfl (by rw [hc2]; decide) (by decide) (fun a hF => ?_)
          refine gofD (j := 7) hF rfl rfl (by rw [hc2]; decide) (by decide) (fun a hF => ?_)
          refine stp hF (p_andF (!x24) rfl hc2 rfl) (by decide) (fun a hF => ?_)
          refine nilN ?_
          refine xn ?_
          exact ⟨hS, hF.cut ⟨rfl, rfl, rfl, rfl, rfl, rfl, rfl, trivial⟩⟩
      clear hS hF
      rintro a w ⟨hS, hF⟩
      refine nilN ?_
      refine xn ?_
      refine cnd hF rfl (fun hc3 => ?_) (fun hc3 => ?_)
      · replace H := hbt hc3 H
        refine skN ?_
        refine xn ?_
        refine sq ?_
        refine blk ?_
        refine sq ?_
        refine rg ?_
        refine stp hF (p_build (ps := []) (vs := []) (v := (.agg #[(.int .i64 0), (.int .i64 0), (.bool false)])) rfl (by intro w; kernel_rfl)) (by decide) (fun a hF => ?_)
        refine ste hF (e_alloc (cs := [(.int .i64 0), (.int .i64 0), (.bool false)]) hS ti_91 rfl) (by decide) (fun v w a hR hF => ?_)
        obtain ⟨g4, rfl, hS⟩ := hR
        refine ste0 hF (e_stb (i := 0) (l := []) (m := [(.int .i64 0), (.int .i64 0), (.bool false)]) (r := []) (m' := [(.int .i64 0), (.int .i64 0), (.bool false)]) (cs' := [(.int .i64 0), (.int .i64 0), (.bool false)]) hS rfl rfl rfl ti_91 rfl rfl rfl rfl rfl (one_cons rfl (one_cons rfl (one_cons rfl one_nil))) rfl) (fun v w a hR hF => ?_)
        have hS : St e s12 w [pt g4 91 ([(.int .i64 0), (.int .i64 0), (.bool false)]), pt g2 117 ([v17, (.int .i64 x23), (.bool x24)]), pt g3 41 ([(.int .i64 x1.1), (.int .i64 x2.1), (.int .i64 x3.1), (.int .i64 x4.1), (.int .i64 x5.1), (.bool x6.1.Has), (.int .i64 x6.1.O.Kind), v9, v10, (.bool x7.1.Has), (.int .i64 x7.1.O.Kind), v12, v13, (.int .i64 x8.1), v18]), Ow kTLive 91 v18 x25, Ow (Kd.int .i64) 3 v12 x7.1.O.Ints, Ow (Kd.int .i64) 3 v13 x7.1.O.Refs, Ow (Kd.int .i64) 3 v9 x6.1.O.Ints, Ow (Kd.int .i64) 3 v10 x6.1.O.Refs, pt g1 41 ([(.int .i64 0), (.int .i64 0), (.int .i64 0), (.int .i64 0), (.int .i64 0), (.bool false), (.int .i64 0), (.slice none 0 0), (.slice none 0 0), (.bool false), (.int .i64 0), (.slice none 0 0), (.slice none 0 0), (.int .i64 0), (.slice none 0 0)])] := hR
        refine nilN ?_
        refine xn ?_
        refine sq ?_
        refine rg ?_
        refine stp hF (p_move rfl) (by decide) (fun a hF => ?_)
        replace hS := hS.sel (is := [1, 0, 0, 0, 0, 0, 0, 0, 0]) (A' := [pt g2 117 ([v17, (.int .i64 x23), (.bool x24)]), pt g4 91 ([(.int .i64 0), (.int .i64 0), (.bool false)]), pt g3 41 ([(.int .i64 x1.1), (.int .i64 x2.1), (.int .i64 x3.1), (.int .i64 x4.1), (.int .i64 x5.1), (.bool x6.1.Has), (.int .i64 x6.1.O.Kind), v9, v10, (.bool x7.1.Has), (.int .i64 x7.1.O.Kind), v12, v13, (.int .i64 x8.1), v18]), Ow kTLive 91 v18 x25, Ow (Kd.int .i64) 3 v12 x7.1.O.Ints, Ow (Kd.int .i64) 3 v13 x7.1.O.Refs, Ow (Kd.int .i64) 3 v9 x6.1.O.Ints, Ow (Kd.int .i64) 3 v10 x6.1.O.Refs, pt g1 41 ([(.int .i64 0), (.int .i64 0), (.int .i64 0), (.int .i64 0), (.int .i64 0), (.bool false), (.int .i64 0), (.slice none 0 0), (.slice none 0 0), (.bool false), (.int .i64 0), (.slice none 0 0), (.slice none 0 0), (.int .i64 0), (.slice none 0 0)])]) rfl
        obtain ⟨x27, hx10, H⟩ := hb H
        refine ste hF (e_callA (fst := []) (vs := [(.pointer (some ⟨g2, 0, none⟩))]) (cap := []) rfl rfl go_104 (St.call (A := [pt g2 117 ([v17, (.int .i64 x23), (.bool x24)])]) (B := [pt g4 91 ([(.int .i64 0), (.int .i64 0), (.bool false)]), pt g3 41 ([(.int .i64 x1.1), (.int .i64 x2.1), (.int .i64 x3.1), (.int .i64 x4.1), (.int .i64 x5.1), (.bool x6.1.Has), (.int .i64 x6.1.O.Kind), v9, v10, (.bool x7.1.Has), (.int .i64 x7.1.O.Kind), v12, v13, (.int .i64 x8.1), v18]), Ow kTLive 91 v18 x25, Ow (Kd.int .i64) 3 v12 x7.1.O.Ints, Ow (Kd.int .i64) 3 v13 x7.1.O.Refs, Ow (Kd.int .i64) 3 v9 x6.1.O.Ints, Ow (Kd.int .i64) 3 v10 x6.1.O.Refs, pt g1 41 ([(.int .i64 0), (.int .i64 0), (.int .i64 0), (.int .i64 0), (.int .i64 0), (.bool false), (.int .i64 0), (.slice none 0 0), (.slice none 0 0), (.bool false), (.int .i64 0), (.slice none 0 0), (.slice none 0 0), (.int .i64 0), (.slice none 0 0)])]) hS (spec_l2Next.spec k1 _ _ x22 x23 x24 v17 g2 h11 _ hx10)) rfl) (by decide) (fun v w a hR hF => ?_)
        obtain ⟨s13, A11, hg11, hS, hR⟩ := hR
        obtain ⟨v19, hv10, rfl, h12⟩ := hR; obtain rfl := hv10.symm
        have hS : St e s13 w [pt g2 117 ([v19, (.int .i64 x27.2.2.1), (.bool x27.2.2.2)]), pt g4 91 ([(.int .i64 0), (.int .i64 0), (.bool false)]), pt g3 41 ([(.int .i64 x1.1), (.int .i64 x2.1), (.int .i64 x3.1), (.int .i64 x4.1), (.int .i64 x5.1), (.bool x6.1.Has), (.int .i64 x6.1.O.Kind), v9, v10, (.bool x7.1.Has), (.int .i64 x7.1.O.Kind), v12, v13, (.int .i64 x8.1), v18]), Ow kTLive 91 v18 x25, Ow (Kd.int .i64) 3 v12 x7.1.O.Ints, Ow (Kd.int .i64) 3 v13 x7.1.O.Refs, Ow (Kd.int .i64) 3 v9 x6.1.O.Ints, Ow (Kd.int .i64) 3 v10 x6.1.O.Refs, pt g1 41 ([(.int .i64 0), (.int .i64 0), (.int .i64 0), (.int .i64 0), (.int .i64 0), (.bool false), (.int .i64 0), (.slice none 0 0), (.slice none 0 0), (.bool false), (.int .i64 0), (.slice none 0 0), (.slice none 0 0), (.int .i64 0), (.slice none 0 0)])] := hS
        refine stp hF (p_fldb (o' := 0) rfl fi_91_0 rfl) (by decide) (fun a hF => ?_)
        refine ste0 hF (e_stb (i := 1) (l := []) (m := [(.int .i64 0)]) (r := [(.int .i64 0), (.bool false)]) (m' := [(.int .i64 x27.1)]) (cs' := [(.int .i64 x27.1), (.int .i64 0), (.bool false)]) hS rfl rfl rfl ti_3 rfl rfl rfl rfl rfl (one_cons rfl one_nil) rfl) (fun v w a hR hF => ?_)
        have hS : St e s13 w [pt g4 91 ([(.int .i64 x27.1), (.int .i64 0), (.bool false)]), pt g2 117 ([v19, (.int .i64 x27.2.2.1), (.bool x27.2.2.2)]), pt g3 41 ([(.int .i64 x1.1), (.int .i64 x2.1), (.int .i64 x3.1), (.int .i64 x4.1), (.int .i64 x5.1), (.bool x6.1.Has), (.int .i64 x6.1.O.Kind), v9, v10, (.bool x7.1.Has), (.int .i64 x7.1.O.Kind), v12, v13, (.int .i64 x8.1), v18]), Ow kTLive 91 v18 x25, Ow (Kd.int .i64) 3 v12 x7.1.O.Ints, Ow (Kd.int .i64) 3 v13 x7.1.O.Refs, Ow (Kd.int .i64) 3 v9 x6.1.O.Ints, Ow (Kd.int .i64) 3 v10 x6.1.O.Refs, pt g1 41 ([(.int .i64 0), (.int .i64 0), (.int .i64 0), (.int .i64 0), (.int .i64 0), (.bool false), (.int .i64 0), (.slice none 0 0), (.slice none 0 0), (.bool false), (.int .i64 0), (.slice none 0 0), (.slice none 0 0), (.int .i64 0), (.slice none 0 0)])] := hR
        refine nilN ?_
        refine xn ?_
        refine sq ?_
        refine rg ?_
        refine stp hF (p_move rfl) (by decide) (fun a hF => ?_)
        replace hS := hS.sel (is := [1, 0, 0, 0, 0, 0, 0, 0, 0]) (A' := [pt g2 117 ([v19, (.int .i64 x27.2.2.1), (.bool x27.2.2.2)]), pt g4 91 ([(.int .i64 x27.1), (.int .i64 0), (.bool false)]), pt g3 41 ([(.int .i64 x1.1), (.int .i64 x2.1), (.int .i64 x3.1), (.int .i64 x4.1), (.int .i64 x5.1), (.bool x6.1.Has), (.int .i64 x6.1.O.Kind), v9, v10, (.bool x7.1.Has), (.int .i64 x7.1.O.Kind), v12, v13, (.int .i64 x8.1), v18]), Ow kTLive 91 v18 x25, Ow (Kd.int .i64) 3 v12 x7.1.O.Ints, Ow (Kd.int .i64) 3 v13 x7.1.O.Refs, Ow (Kd.int .i64) 3 v9 x6.1.O.Ints, Ow (Kd.int .i64) 3 v10 x6.1.O.Refs, pt g1 41 ([(.int .i64 0), (.int .i64 0), (.int .i64 0), (.int .i64 0), (.int .i64 0), (.bool false), (.int .i64 0), (.slice none 0 0), (.slice none 0 0), (.bool false), (.int .i64 0), (.slice none 0 0), (.slice none 0 0), (.int .i64 0), (.slice none 0 0)])]) rfl
        obtain ⟨x28, hx11, H⟩ := hb H
        refine ste hF (e_callA (fst := []) (vs := [(.pointer (some ⟨g2, 0, none⟩))]) (cap := []) rfl rfl go_104 (St.call (A := [pt g2 117 ([v19, (.int .i64 x27.2.2.1), (.bool x27.2.2.2)])]) (B := [pt g4 91 ([(.int .i64 x27.1), (.int .i64 0), (.bool false)]), pt g3 41 ([(.int .i64 x1.1), (.int .i64 x2.1), (.int .i64 x3.1), (.int .i64 x4.1), (.int .i64 x5.1), (.bool x6.1.Has), (.int .i64 x6.1.O.Kind), v9, v10, (.bool x7.1.Has), (.int .i64 x7.1.O.Kind), v12, v13, (.int .i64 x8.1), v18]), Ow kTLive 91 v18 x25, Ow (Kd.int .i64) 3 v12 x7.1.O.Ints, Ow (Kd.int .i64) 3 v13 x7.1.O.Refs, Ow (Kd.int .i64) 3 v9 x6.1.O.Ints, Ow (Kd.int .i64) 3 v10 x6.1.O.Refs, pt g1 41 ([(.int .i64 0), (.int .i64 0), (.int .i64 0), (.int .i64 0), (.int .i64 0), (.bool false), (.int .i64 0), (.slice none 0 0), (.slice none 0 0), (.bool false), (.int .i64 0), (.slice none 0 0), (.slice none 0 0), (.int .i64 0), (.slice none 0 0)])]) hS (spec_l2Next.spec k1 _ _ x27.2.1 x27.2.2.1 x27.2.2.2 v19 g2 h12 _ hx11)) rfl) (by decide) (fun v w a hR hF => ?_)
        obtain ⟨s14, A12, hg12, hS, hR⟩ := hR
        obtain ⟨v20, hv11, rfl, h13⟩ := hR; obtain rfl := hv11.symm
        have hS : St e s14 w [pt g2 117 ([v20, (.int .i64 x28.2.2.1), (.bool x28.2.2.2)]), pt g4 91 ([(.int .i64 x27.1), (.int .i64 0), (.bool false)]), pt g3 41 ([(.int .i64 x1.1), (.int .i64 x2.1), (.int .i64 x3.1), (.int .i64 x4.1), (.int .i64 x5.1), (.bool x6.1.Has), (.int .i64 x6.1.O.Kind), v9, v10, (.bool x7.1.Has), (.int .i64 x7.1.O.Kind), v12, v13, (.int .i64 x8.1), v18]), Ow kTLive 91 v18 x25, Ow (Kd.int .i64) 3 v12 x7.1.O.Ints, Ow (Kd.int .i64) 3 v13 x7.1.O.Refs, Ow (Kd.int .i64) 3 v9 x6.1.O.Ints, Ow (Kd.int .i64) 3 v10 x6.1.O.Refs, pt g1 41 ([(.int .i64 0), (.int .i64 0), (.int .i64 0), (.int .i64 0), (.int .i64 0), (.bool false), (.int .i64 0), (.slice none 0 0), (.slice none 0 0), (.bool false), (.int .i64 0), (.slice none 0 0), (.slice none 0 0), (.int .i64 0), (.slice none 0 0)])] := hS
        refine stp hF (p_fldb (o' := 1) rfl fi_91_1 rfl) (by decide) (fun a hF => ?_)
        refine ste0 hF (e_stb (i := 1) (l := [(.int .i64 x27.1)]) (m := [(.int .i64 0)]) (r := [(.bool false)]) (m' := [(.int .i64 x28.1)]) (cs' := [(.int .i64 x27.1), (.int .i64 x28.1), (.bool false)]) hS rfl rfl rfl ti_3 rfl rfl rfl rfl rfl (one_cons rfl one_nil) rfl) (fun v w a hR hF => ?_)
        have hS : St e s14 w [pt g4 91 ([(.int .i64 x27.1), (.int .i64 x28.1), (.bool false)]), pt g2 117 ([v20, (.int .i64 x28.2.2.1), (.bool x28.2.2.2)]), pt g3 41 ([(.int .i64 x1.1), (.int .i64 x2.1), (.int .i64 x3.1), (.int .i64 x4.1), (.int .i64 x5.1), (.bool x6.1.Has), (.int .i64 x6.1.O.Kind), v9, v10, (.bool x7.1.Has), (.int .i64 x7.1.O.Kind), v12, v13, (.int .i64 x8.1), v18]), Ow kTLive 91 v18 x25, Ow (Kd.int .i64) 3 v12 x7.1.O.Ints, Ow (Kd.int .i64) 3 v13 x7.1.O.Refs, Ow (Kd.int .i64) 3 v9 x6.1.O.Ints, Ow (Kd.int .i64) 3 v10 x6.1.O.Refs, pt g1 41 ([(.int .i64 0), (.int .i64 0), (.int .i64 0), (.int .i64 0), (.int .i64 0), (.bool false), (.int .i64 0), (.slice none 0 0), (.slice none 0 0), (.bool false), (.int .i64 0), (.slice none 0 0), (.slice none 0 0), (.int .i64 0), (.slice none 0 0)])] := hR
        refine nilN ?_
        refine xn ?_
        refine sq ?_
        refine rg ?_
        refine stp hF (p_move rfl) (by decide) (fun a hF => ?_)
        replace hS := hS.sel (is := [1, 0, 0, 0, 0, 0, 0, 0, 0]) (A' := [pt g2 117 ([v20, (.int .i64 x28.2.2.1), (.bool x28.2.2.2)]), pt g4 91 ([(.int .i64 x27.1), (.int .i64 x28.1), (.bool false)]), pt g3 41 ([(.int .i64 x1.1), (.int .i64 x2.1), (.int .i64 x3.1), (.int .i64 x4.1), (.int .i64 x5.1), (.bool x6.1.Has), (.int .i64 x6.1.O.Kind), v9, v10, (.bool x7.1.Has), (.int .i64 x7.1.O.Kind), v12, v13, (.int .i64 x8.1), v18]), Ow kTLive 91 v18 x25, Ow (Kd.int .i64) 3 v12 x7.1.O.Ints, Ow (Kd.int .i64) 3 v13 x7.1.O.Refs, Ow (Kd.int .i64) 3 v9 x6.1.O.Ints, Ow (Kd.int .i64) 3 v10 x6.1.O.Refs, pt g1 41 ([(.int .i64 0), (.int .i64 0), (.int .i64 0), (.int .i64 0), (.int .i64 0), (.bool false), (.int .i64 0), (.slice none 0 0), (.slice none 0 0), (.bool false), (.int .i64 0), (.slice none 0 0), (.slice none 0 0), (.int .i64 0), (.slice none 0 0)])]) rfl
        obtain ⟨x29, hx12, H⟩ := hb H
        refine ste hF (e_callA (fst := []) (vs := [(.pointer (some ⟨g2, 0, none⟩))]) (cap := []) rfl rfl go_104 (St.call (A := [pt g2 117 ([v20, (.int .i64 x28.2.2.1), (.bool x28.2.2.2)])]) (B := [pt g4 91 ([(.int .i64 x27.1), (.int .i64 x28.1), (.bool false)]), pt g3 41 ([(.int .i64 x1.1), (.int .i64 x2.1), (.int .i64 x3.1), (.int .i64 x4.1), (.int .i64 x5.1), (.bool x6.1.Has), (.int .i64 x6.1.O.Kind), v9, v10, (.bool x7.1.Has), (.int .i64 x7.1.O.Kind), v12, v13, (.int .i64 x8.1), v18]), Ow kTLive 91 v18 x25, Ow (Kd.int .i64) 3 v12 x7.1.O.Ints, Ow (Kd.int .i64) 3 v13 x7.1.O.Refs, Ow (Kd.int .i64) 3 v9 x6.1.O.Ints, Ow (Kd.int .i64) 3 v10 x6.1.O.Refs, pt g1 41 ([(.int .i64 0), (.int .i64 0), (.int .i64 0), (.int .i64 0), (.int .i64 0), (.bool false), (.int .i64 0), (.slice none 0 0), (.slice none 0 0), (.bool false), (.int .i64 0), (.slice none 0 0), (.slice none 0 0), (.int .i64 0), (.slice none 0 0)])]) hS (spec_l2Next.spec k1 _ _ x28.2.1 x28.2.2.1 x28.2.2.2 v20 g2 h13 _ hx12)) rfl) (by decide) (fun v w a hR hF => ?_)
        obtain ⟨s15, A13, hg13, hS, hR⟩ := hR
        obtain ⟨v21, hv12, rfl, h14⟩ := hR; obtain rfl := hv12.symm
        have hS : St e s15 w [pt g2 117 ([v21, (.int .i64 x29.2.2.1), (.bool x29.2.2.2)]), pt g4 91 ([(.int .i64 x27.1), (.int .i64 x28.1), (.bool false)]), pt g3 41 ([(.int .i64 x1.1), (.int .i64 x2.1), (.int .i64 x3.1), (.int .i64 x4.1), (.int .i64 x5.1), (.bool x6.1.Has), (.int .i64 x6.1.O.Kind), v9, v10, (.bool x7.1.Has), (.int .i64 x7.1.O.Kind), v12, v13, (.int .i64 x8.1), v18]), Ow kTLive 91 v18 x25, Ow (Kd.int .i64) 3 v12 x7.1.O.Ints, Ow (Kd.int .i64) 3 v13 x7.1.O.Refs, Ow (Kd.int .i64) 3 v9 x6.1.O.Ints, Ow (Kd.int .i64) 3 v10 x6.1.O.Refs, pt g1 41 ([(.int .i64 0), (.int .i64 0), (.int .i64 0), (.int .i64 0), (.int .i64 0), (.bool false), (.int .i64 0), (.slice none 0 0), (.slice none 0 0), (.bool false), (.int .i64 0), (.slice none 0 0), (.slice none 0 0), (.int .i64 0), (.slice none 0 0)])] := hS
        refine stp hF (p_eql rfl rfl) (by decide) (fun a hF => ?_)
        refine stp hF (p_fldb (o' := 2) rfl fi_91_2 rfl) (by decide) (fun a hF => ?_)
        refine ste0 hF (e_stb (i := 1) (l := [(.int .i64 x27.1), (.int .i64 x28.1)]) (m := [(.bool false)]) (r := []) (m' := [(.bool (decide (x29.1 = 1)))]) (cs' := [(.int .i64 x27.1), (.int .i64 x28.1), (.bool (decide (x29.1 = 1)))]) hS rfl rfl rfl ti_4 rfl rfl rfl rfl rfl (one_cons rfl one_nil) rfl) (fun v w a hR hF => ?_)
        have hS : St e s15 w [pt g4 91 ([(.int .i64 x27.1), (.int .i64 x28.1), (.bool (decide (x29.1 = 1)))]), pt g2 117 ([v21, (.int .i64 x29.2.2.1), (.bool x29.2.2.2)]), pt g3 41 ([(.int .i64 x1.1), (.int .i64 x2.1), (.int .i64 x3.1), (.int .i64 x4.1), (.int .i64 x5.1), (.bool x6.1.Has), (.int .i64 x6.1.O.Kind), v9, v10, (.bool x7.1.Has), (.int .i64 x7.1.O.Kind), v12, v13, (.int .i64 x8.1), v18]), Ow kTLive 91 v18 x25, Ow (Kd.int .i64) 3 v12 x7.1.O.Ints, Ow (Kd.int .i64) 3 v13 x7.1.O.Refs, Ow (Kd.int .i64) 3 v9 x6.1.O.Ints, Ow (Kd.int .i64) 3 v10 x6.1.O.Refs, pt g1 41 ([(.int .i64 0), (.int .i64 0), (.int .i64 0), (.int .i64 0), (.int .i64 0), (.bool false), (.int .i64 0), (.slice none 0 0), (.slice none 0 0), (.bool false), (.int .i64 0), (.slice none 0 0), (.slice none 0 0), (.int .i64 0), (.slice none 0 0)])] := hR
        refine nilN ?_
        refine xn ?_
        refine rg ?_
        refine stp hF (p_fldb (o' := 14) rfl fi_41_8 rfl) (by decide) (fun a hF => ?_)
        refine stp hF (p_ldb_one (i := 2) hS rfl rfl ia_39 rfl) (by decide) (fun a hF => ?_)
        refine stp hF (p_ldb_agg (i := 0) (l := []) (m := [(.int .i64 x27.1), (.int .i64 x28.1), (.bool (decide (x29.1 = 1)))]) (r := []) hS rfl rfl ia_91 ti_91 rfl rfl rfl) (by decide) (fun a hF => ?_)
        refine ste hF (e_bslice (kd := kTLive) (et := 91) (ps := [(0, (.tmp 68))]) (vs := [(0, (.agg #[(.int .i64 x27.1), (.int .i64 x28.1), (.bool (decide (x29.1 = 1)))]))]) (cs := [(.int .i64 x27.1), (.int .i64 x28.1), (.bool (decide (x29.1 = 1)))]) (xs := ([(⟨x27.1, x28.1, decide (x29.1 = 1)⟩ : TLive)] : List TLive)) hS rfl (by intro w; kernel_rfl) rfl (by decide) (Nat.le_of_ble_eq_true rfl) (by exact (rows_cons (kd := kTLive) (x := (⟨x27.1, x28.1, decide (x29.1 = 1)⟩ : TLive)) (c := [(.int .i64 x27.1), (.int .i64 x28.1), (.bool (decide (x29.1 = 1)))]) (cs := []) (kTLive_mk (x := (⟨x27.1, x28.1, decide (x29.1 = 1)⟩ : TLive)) ) (Rows.nil _ _ _ _)))) (by decide) (fun v22 w a hR hF => ?_)
        have hS : St e s15 w [Ow kTLive 91 v22 ([(⟨x27.1, x28.1, decide (x29.1 = 1)⟩ : TLive)] : List TLive), pt g4 91 ([(.int .i64 x27.1), (.int .i64 x28.1), (.bool (decide (x29.1 = 1)))]), pt g2 117 ([v21, (.int .i64 x29.2.2.1), (.bool x29.2.2.2)]), pt g3 41 ([(.int .i64 x1.1), (.int .i64 x2.1), (.int .i64 x3.1), (.int .i64 x4.1), (.int .i64 x5.1), (.bool x6.1.Has), (.int .i64 x6.1.O.Kind), v9, v10, (.bool x7.1.Has), (.int .i64 x7.1.O.Kind), v12, v13, (.int .i64 x8.1), v18]), Ow kTLive 91 v18 x25, Ow (Kd.int .i64) 3 v12 x7.1.O.Ints, Ow (Kd.int .i64) 3 v13 x7.1.O.Refs, Ow (Kd.int .i64) 3 v9 x6.1.O.Ints, Ow (Kd.int .i64) 3 v10 x6.1.O.Refs, pt g1 41 ([(.int .i64 0), (.int .i64 0), (.int .i64 0), (.int .i64 0), (.int .i64 0), (.bool false), (.int .i64 0), (.slice none 0 0), (.slice none 0 0), (.bool false), (.int .i64 0), (.slice none 0 0), (.slice none 0 0), (.int .i64 0), (.slice none 0 0)])] := hR
        obtain ⟨hq1, H⟩ := hck H
        refine ste hF (e_append (n := 4) hS rfl rfl rfl (hS.src (n := 0) rfl) un_39 ti_91 rfl (by decide) (by decide) (Nat.le_trans (Nat.mul_le_mul_right 24 hq1) (by decide))) (by decide) (fun v23 w a hR hF => ?_)
        have hS : St e s15 w [Ow kTLive 91 v23 (x25 ++ ([(⟨x27.1, x28.1, decide (x29.1 = 1)⟩ : TLive)] : List TLive)), Ow kTLive 91 v22 ([(⟨x27.1, x28.1, decide (x29.1 = 1)⟩ : TLive)] : List TLive), pt g4 91 ([(.int .i64 x27.1), (.int .i64 x28.1), (.bool (decide (x29.1 = 1)))]), pt g2 117 ([v21, (.int .i64 x29.2.2.1), (.bool x29.2.2.2)]), pt g3 41 ([(.int .i64 x1.1), (.int .i64 x2.1), (.int .i64 x3.1), (.int .i64 x4.1), (.int .i64 x5.1), (.bool x6.1.Has), (.int .i64 x6.1.O.Kind), v9, v10, (.bool x7.1.Has), (.int .i64 x7.1.O.Kind), v12, v13, (.int .i64 x8.1), v18]), Ow (Kd.int .i64) 3 v12 x7.1.O.Ints, Ow (Kd.int .i64) 3 v13 x7.1.O.Refs, Ow (Kd.int .i64) 3 v9 x6.1.O.Ints, Ow (Kd.int .i64) 3 v10 x6.1.O.Refs, pt g1 41 ([(.int .i64 0), (.int .i64 0), (.int .i64 0), (.int .i64 0), (.int .i64 0), (.bool false), (.int .i64 0), (.slice none 0 0), (.slice none 0 0), (.bool false), (.int .i64 0), (.slice none 0 0), (.slice none 0 0), (.int .i64 0), (.slice none 0 0)])] := hR
        replace hS := hS.sel (is := [0, 1, 1, 1, 1, 1, 1, 1, 1]) (A' := [Ow kTLive 91 v23 (x25 ++ ([(⟨x27.1, x28.1, decide (x29.1 = 1)⟩ : TLive)] : List TLive)), pt g4 91 ([(.int .i64 x27.1), (.int .i64 x28.1), (.bool (decide (x29.1 = 1)))]), pt g2 117 ([v21, (.int .i64 x29.2.2.1), (.bool x29.2.2.2)]), pt g3 41 ([(.int .i64 x1.1), (.int .i64 x2.1), (.int .i64 x3.1), (.int .i64 x4.1), (.int .i64 x5.1), (.bool x6.1.Has), (.int .i64 x6.1.O.Kind), v9, v10, (.bool x7.1.Has), (.int .i64 x7.1.O.Kind), v12, v13, (.int .i64 x8.1), v18]), Ow (Kd.int .i64) 3 v12 x7.1.O.Ints, Ow (Kd.int .i64) 3 v13 x7.1.O.Refs, Ow (Kd.int .i64) 3 v9 x6.1.O.Ints, Ow (Kd.int .i64) 3 v10 x6.1.O.Refs, pt g1 41 ([(.int .i64 0), (.int .i64 0), (.int .i64 0), (.int .i64 0), (.int .i64 0), (.bool false), (.int .i64 0), (.slice none 0 0), (.slice none 0 0), (.bool false), (.int .i64 0), (.slice none 0 0), (.slice none 0 0), (.int .i64 0), (.slice none 0 0)])]) rfl
        refine stp hF (p_fldb (o' := 14) rfl fi_41_8 rfl) (by decide) (fun a hF => ?_)
        refine ste0 hF (e_stb (i := 3) (l := [(.int .i64 x1.1), (.int .i64 x2.1), (.int .i64 x3.1), (.int .i64 x4.1), (.int .i64 x5.1), (.bool x6.1.Has), (.int .i64 x6.1.O.Kind), v9, v10, (.bool x7.1.Has), (.int .i64 x7.1.O.Kind), v12, v13, (.int .i64 x8.1)]) (m := [v18]) (r := []) (m' := [v23]) (cs' := [(.int .i64 x1.1), (.int .i64 x2.1), (.int .i64 x3.1), (.int .i64 x4.1), (.int .i64 x5.1), (.bool x6.1.Has), (.int .i64 x6.1.O.Kind), v9, v10, (.bool x7.1.Has), (.int .i64 x7.1.O.Kind), v12, v13, (.int .i64 x8.1), v23]) hS rfl rfl rfl ti_39 rfl rfl rfl (cells_one (hS.one_ow (i := 0) rfl)) rfl (one_cons (hS.one_ow (i := 0) rfl) one_nil) rfl) (fun v w a hR hF => ?_)
        have hS : St e s15 w [pt g3 41 ([(.int .i64 x1.1), (.int .i64 x2.1), (.int .i64 x3.1), (.int .i64 x4.1), (.int .i64 x5.1), (.bool x6.1.Has), (.int .i64 x6.1.O.Kind), v9, v10, (.bool x7.1.Has), (.int .i64 x7.1.O.Kind), v12, v13, (.int .i64 x8.1), v23]), Ow kTLive 91 v23 (x25 ++ ([(⟨x27.1, x28.1, decide (x29.1 = 1)⟩ : TLive)] : List TLive)), pt g4 91 ([(.int .i64 x27.1), (.int .i64 x28.1), (.bool (decide (x29.1 = 1)))]), pt g2 117 ([v21, (.int .i64 x29.2.2.1), (.bool x29.2.2.2)]), Ow (Kd.int .i64) 3 v12 x7.1.O.Ints, Ow (Kd.int .i64) 3 v13 x7.1.O.Refs, Ow (Kd.int .i64) 3 v9 x6.1.O.Ints, Ow (Kd.int .i64) 3 v10 x6.1.O.Refs, pt g1 41 ([(.int .i64 0), (.int .i64 0), (.int .i64 0), (.int .i64 0), (.int .i64 0), (.bool false), (.int .i64 0), (.slice none 0 0), (.slice none 0 0), (.bool false), (.int .i64 0), (.slice none 0 0), (.slice none 0 0), (.int .i64 0), (.slice none 0 0)])] := hR
        refine nilN ?_
        refine bn (xn ?_)
        refine rg ?_
        refine stp hF (p_move rfl) (by decide) (fun a hF => ?_)
        refine stp hF (p_add (c := w64 (x26 + 1)) rfl rfl rfl) (by decide) (fun a hF => ?_)
        refine stp hF (p_assign rfl) (by decide) (fun a hF => ?_)
        refine nilN ?_
        refine xn ?_
        replace hS := hS.sel (is := [3, 0, 0, 1, 1, 1, 1, 1]) (A' := [pt g2 117 ([v21, (.int .i64 x29.2.2.1), (.bool x29.2.2.2)]), pt g3 41 ([(.int .i64 x1.1), (.int .i64 x2.1), (.int .i64 x3.1), (.int .i64 x4.1), (.int .i64 x5.1), (.bool x6.1.Has), (.int .i64 x6.1.O.Kind), v9, v10, (.bool x7.1.Has), (.int .i64 x7.1.O.Kind), v12, v13, (.int .i64 x8.1), v23]), Ow kTLive 91 v23 (x25 ++ ([(⟨x27.1, x28.1, decide (x29.1 = 1)⟩ : TLive)] : List TLive)), Ow (Kd.int .i64) 3 v12 x7.1.O.Ints, Ow (Kd.int .i64) 3 v13 x7.1.O.Refs, Ow (Kd.int .i64) 3 v9 x6.1.O.Ints, Ow (Kd.int .i64) 3 v10 x6.1.O.Refs, pt g1 41 ([(.int .i64 0), (.int .i64 0), (.int .i64 0), (.int .i64 0), (.int .i64 0), (.bool false), (.int .i64 0), (.slice none 0 0), (.slice none 0 0), (.bool false), (.int .i64 0), (.slice none 0 0), (.slice none 0 0), (.int .i64 0), (.slice none 0 0)])]) rfl
        exact ⟨x29.2.1, x29.2.2.1, x29.2.2.2, (x25 ++ ([(⟨x27.1, x28.1, decide (x29.1 = 1)⟩ : TLive)] : List TLive)), (w64 (x26 + 1)), s15, v21, v23, hS, hF.cut ⟨rfl, rfl, rfl, rfl, rfl, rfl, trivial⟩, (((hg10.trans hg11).trans hg12).trans hg13), h14, H⟩
      · replace H := hbf hc3 H
        refine exi ?_
        refine xe (xe (hit (xn ?_)))
        obtain rfl := hsm H
        exact ⟨x22, x23, x24, x25, s12, v17, v18, hS, hF.cut ⟨rfl, rfl, rfl, rfl, trivial⟩, hg10, h11, HK1⟩
  · clear H HK1 hS hF
    rintro a w ⟨x16, x17, x18, x9, s11, v15, v16, hS, hF, hg14, h15, H⟩
    unfold spec_GetRec.c3 at H
    refine sq ?_
    refine sq ?_
    refine rg ?_
    refine stp hF (p_move rfl) (by decide) (fun a hF => ?_)
    refine stp hF (p_nilck rfl) (by decide) (fun a hF => ?_)
    refine stp hF (p_fldb (o' := 2) rfl fi_117_2 rfl) (by decide) (fun a hF => ?_)
    refine stp hF (p_ldb_one (i := 0) hS rfl rfl ia_4 rfl) (by decide) (fun a hF => ?_)
    refine stp hF (p_move rfl) (by decide) (fun a hF => ?_)
    obtain ⟨x20, H, HK2⟩ := hb H
    refine cutj 4 (fun a w => ∃ (x12 : Bool) (s16 : HF) , St e s16 w [pt g2 117 ([v15, (.int .i64 x17), (.bool x18)]), pt g3 41 ([(.int .i64 x1.1), (.int .i64 x2.1), (.int .i64 x3.1), (.int .i64 x4.1), (.int .i64 x5.1), (.bool x6.1.Has), (.int .i64 x6.1.O.Kind), v9, v10, (.bool x7.1.Has), (.int .i64 x7.1.O.Kind), v12, v13, (.int .i64 x8.1), v16]), Ow kTLive 91 v16 x9, Ow (Kd.int .i64) 3 v12 x7.1.O.Ints, Ow (Kd.int .i64) 3 v13 x7.1.O.Refs, Ow (Kd.int .i64) 3 v9 x6.1.O.Ints, Ow (Kd.int .i64) 3 v10 x6.1.O.Refs, pt g1 41 ([(.int .i64 0), (.int .i64 0), (.int .i64 0), (.int .i64 0), (.int .i64 0), (.bool false), (.int .i64 0), (.slice none 0 0), (.slice none 0 0), (.bool false), (.int .i64 0), (.slice none 0 0), (.slice none 0 0), (.int .i64 0), (.slice none 0 0)])] ∧ Fr 90 a [(0, v1), (2, (.pointer (some ⟨g1, 0, none⟩))), (5, (.pointer (some ⟨g3, 0, none⟩))), (80, (.bool x12))] ∧ Sub s11 s16 ∧ spec_GetRec.c2 k x1 x2 x3 x4 x5 x6 x7 x8 x9 x11 x12 = some r) rfl rfl ?_ ?_
    · rcases Bool.eq_false_or_eq_true (x18) with hc4 | hc4
      · replace H := hbt hc4 H
        refine gofD (j := 4) hF rfl rfl (by rw [hc4]; decide) (by decide) (fun a hF => ?_)
        refine gofD (j := 4) hF rfl rfl (by rw [hc4]; decide) (by decide) (fun a hF => ?_)
        refine gofD (j := 4) hF rfl rfl (by rw [hc4]; decide) (by decide) (fun a hF => ?_)
        refine stp hF (p_pickT rfl hc4 rfl) (by decide) (fun a hF => ?_)
        refine nilN ?_
        refine xn ?_
        obtain rfl := hsm H
        exact ⟨true, s11, hS, hF.cut ⟨rfl, rfl, rfl, rfl, trivial⟩, (Sub.refl _), HK2⟩
      · replace H := hbf hc4 H
        refine gonE (j := 4) hF rfl rfl hc4 ?_
        refine stp hF (p_ldb_agg (i := 1) (l := []) (m := [(.int .i64 x1.1), (.int .i64 x2.1), (.int .i64 x3.1), (.int .i64 x4.1), (.int .i64 x5.1), (.bool x6.1.Has), (.int .i64 x6.1.O.Kind), v9, v10, (.bool x7.1.Has), (.int .i64 x7.1.O.Kind), v12, v13, (.int .i64 x8.1), v16]) (r := []) hS rfl rfl ia_41 ti_41 rfl rfl rfl) (by decide) (fun a hF => ?_)
        replace hS := hS.sel (is := [5, 5, 3, 3, 2, 0, 0, 0]) (A' := [Ow (Kd.int .i64) 3 v9 x6.1.O.Ints, Ow (Kd.int .i64) 3 v10 x6.1.O.Refs, Ow (Kd.int .i64) 3 v12 x7.1.O.Ints, Ow (Kd.int .i64) 3 v13 x7.1.O.Refs, Ow kTLive 91 v16 x9, pt g2 117 ([v15, (.int .i64 x17), (.bool x18)]), pt g3 41 ([(.int .i64 x1.1), (.int .i64 x2.1), (.int .i64 x3.1), (.int .i64 x4.1), (.int .i64 x5.1), (.bool x6.1.Has), (.int .i64 x6.1.O.Kind), v9, v10, (.bool x7.1.Has), (.int .i64 x7.1.O.Kind), v12, v13, (.int .i64 x8.1), v16]), pt g1 41 ([(.int .i64 0), (.int .i64 0), (.int .i64 0), (.int .i64 0), (.int .i64 0), (.bool false), (.int .i64 0), (.slice none 0 0), (.slice none 0 0), (.bool false), (.int .i64 0), (.slice none 0 0), (.slice none 0 0), (.int .i64 0), (.slice none 0 0)])]) rfl
        obtain ⟨s17, hg15, hl1, hcall1⟩ := St.lend (P := Try.prog) (Bs := [Ow (Kd.int .i64) 3 v9 x6.1.O.Ints, Ow (Kd.int .i64) 3 v10 x6.1.O.Refs, Ow (Kd.int .i64) 3 v12 x7.1.O.Ints, Ow (Kd.int .i64) 3 v13 x7.1.O.Refs, Ow kTLive 91 v16 x9]) (A := []) (B := [pt g2 117 ([v15, (.int .i64 x17), (.bool x18)]), pt g3 41 ([(.int .i64 x1.1), (.int .i64 x2.1), (.int .i64 x3.1), (.int .i64 x4.1), (.int .i64 x5.1), (.bool x6.1.Has), (.int .i64 x6.1.O.Kind), v9, v10, (.bool x7.1.Has), (.int .i64 x7.1.O.Kind), v12, v13, (.int .i64 x8.1), v16]), pt g1 41 ([(.int .i64 0), (.int .i64 0), (.int .i64 0), (.int .i64 0), (.int .i64 0), (.bool false), (.int .i64 0), (.slice none 0 0), (.slice none 0 0), (.bool false), (.int .i64 0), (.slice none 0 0), (.slice none 0 0), (.int .i64 0), (.slice none 0 0)])]) hS
        obtain ⟨h16, hl1⟩ := hl1.ow hg15
        obtain ⟨h17, hl1⟩ := hl1.ow hg15
        obtain ⟨h18, hl1⟩ := hl1.ow hg15
        obtain ⟨h19, hl1⟩ := hl1.ow hg15
        obtain ⟨h20, hl1⟩ := hl1.ow hg15
        obtain ⟨x19, hx13, H⟩ := hb H
        refine gonE (j := 4) hF rfl rfl hc4 ?_
        refine ste hF (e_callA (fst := []) (vs := [(.agg #[(.int .i64 x1.1), (.int .i64 x2.1), (.int .i64 x3.1), (.int .i64 x4.1), (.int .i64 x5.1), (.bool x6.1.Has), (.int .i64 x6.1.O.Kind), v9, v10, (.bool x7.1.Has), (.int .i64 x7.1.O.Kind), v12, v13, (.int .i64 x8.1), v16])]) (cap := []) rfl rfl go_23 (hcall1 (spec_RecOk.spec k _ _ (⟨x1.1, x2.1, x3.1, x4.1, x5.1, (⟨x6.1.Has, (⟨x6.1.O.Kind, x6.1.O.Ints, x6.1.O.Refs⟩ : TObj)⟩ : TSlot), (⟨x7.1.Has, (⟨x7.1.O.Kind, x7.1.O.Ints, x7.1.O.Refs⟩ : TObj)⟩ : TSlot), x8.1, x9⟩ : TRec) v9 v10 v12 v13 v16 h16 h17 h18 h19 h20 _ hx13) (by rintro v s1 A1 ⟨rfl, rfl⟩; exact trivial)) rfl) (by decide) (fun v w a hR hF => ?_)
        obtain ⟨s18, s19, A14, hg16, hS, hR⟩ := hR
        obtain ⟨hv13, rfl⟩ := hR; obtain rfl := hv13.symm
        have hS : St e s18 w [Ow (Kd.int .i64) 3 v9 x6.1.O.Ints, Ow (Kd.int .i64) 3 v10 x6.1.O.Refs, Ow (Kd.int .i64) 3 v12 x7.1.O.Ints, Ow (Kd.int .i64) 3 v13 x7.1.O.Refs, Ow kTLive 91 v16 x9, pt g2 117 ([v15, (.int .i64 x17), (.bool x18)]), pt g3 41 ([(.int .i64 x1.1), (.int .i64 x2.1), (.int .i64 x3.1), (.int .i64 x4.1), (.int .i64 x5.1), (.bool x6.1.Has), (.int .i64 x6.1.O.Kind), v9, v10, (.bool x7.1.Has), (.int .i64 x7.1.O.Kind), v12, v13, (.int .i64 x8.1), v16]), pt g1 41 ([(.int .i64 0), (.int .i64 0), (.int .i64 0), (.int .i64 0), (.int .i64 0), (.bool false), (.int .i64 0), (.slice none 0 0), (.slice none 0 0), (.bool false), (.int .i64 0), (.slice none 0 0), (.slice none 0 0), (.int .i64 0), (.slice none 0 0)])] := hS
        refine gonE (j := 4) hF rfl rfl hc4 ?_
        refine stp hF (p_not rfl) (by decide) (fun a hF => ?_)
        refine stp hF (p_pickF rfl hc4 rfl) (by decide) (fun a hF => ?_)
        refine nilN ?_
        refine xn ?_
        obtain rfl := hsm H
        replace hS := hS.sel (is := [5, 5, 4, 2, 2, 0, 0, 0]) (A' := [pt g2 117 ([v15, (.int .i64 x17), (.bool x18)]), pt g3 41 ([(.int .i64 x1.1), (.int .i64 x2.1), (.int .i64 x3.1), (.int .i64 x4.1), (.int .i64 x5.1), (.bool x6.1.Has), (.int .i64 x6.1.O.Kind), v9, v10, (.bool x7.1.Has), (.int .i64 x7.1.O.Kind), v12, v13, (.int .i64 x8.1), v16]), Ow kTLive 91 v16 x9, Ow (Kd.int .i64) 3 v12 x7.1.O.Ints, Ow (Kd.int .i64) 3 v13 x7.1.O.Refs, Ow (Kd.int .i64) 3 v9 x6.1.O.Ints, Ow (Kd.int .i64) 3 v10 x6.1.O.Refs, pt g1 41 ([(.int .i64 0), (.int .i64 0), (.int .i64 0), (.int .i64 0), (.int .i64 0), (.bool false), (.int .i64 0), (.slice none 0 0), (.slice none 0 0), (.bool false), (.int .i64 0), (.slice none 0 0), (.slice none 0 0), (.int .i64 0), (.slice none 0 0)])]) rfl
        exact ⟨(!x19), s18, hS, hF.cut ⟨rfl, rfl, rfl, rfl, trivial⟩, hg16, HK2⟩
    · clear H HK2 hS hF
      rintro a w ⟨x12, s16, hS, hF, hg17, H⟩
      unfold spec_GetRec.c2 at H
      refine stp hF (p_move rfl) (by decide) (fun a hF => ?_)
      obtain ⟨x15, H, HK3⟩ := hb H
      refine cutj 6 (fun a w => ∃ (x10 : Bool) (s20 : HF) , St e s20 w [pt g2 117 ([v15, (.int .i64 x17), (.bool x18)]), pt g3 41 ([(.int .i64 x1.1), (.int .i64 x2.1), (.int .i64 x3.1), (.int .i64 x4.1), (.int .i64 x5.1), (.bool x6.1.Has), (.int .i64 x6.1.O.Kind), v9, v10, (.bool x7.1.Has), (.int .i64 x7.1.O.Kind), v12, v13, (.int .i64 x8.1), v16]), Ow kTLive 91 v16 x9, Ow (Kd.int .i64) 3 v12 x7.1.O.Ints, Ow (Kd.int .i64) 3 v13 x7.1.O.Refs, Ow (Kd.int .i64) 3 v9 x6.1.O.Ints, Ow (Kd.int .i64) 3 v10 x6.1.O.Refs, pt g1 41 ([(.int .i64 0), (.int .i64 0), (.int .i64 0), (.int .i64 0), (.int .i64 0), (.bool false), (.int .i64 0), (.slice none 0 0), (.slice none 0 0), (.bool false), (.int .i64 0), (.slice none 0 0), (.slice none 0 0), (.int .i64 0), (.slice none 0 0)])] ∧ Fr 90 a [(2, (.pointer (some ⟨g1, 0, none⟩))), (5, (.pointer (some ⟨g3, 0, none⟩))), (87, (.bool x10))] ∧ Sub s16 s20 ∧ spec_GetRec.c1 k x1 x2 x3 x4 x5 x6 x7 x8 x9 x10 = some r) rfl rfl ?_ ?_
      · rcases Bool.eq_false_or_eq_true (x12) with hc5 | hc5
        · replace H := hbt hc5 H
          refine gofD (j := 9) hF rfl rfl (by rw [hc5]; decide) (by decide) (fun a hF => ?_)
          refine gofD (j := 9) hF rfl rfl (by rw [hc5]; decide) (by decide) (fun a hF => ?_)
          refine gofD (j := 9) hF rfl rfl (by rw [hc5]; decide) (by decide) (fun a hF => ?_)
          refine gofD (j := 9) hF rfl rfl (by rw [hc5]; decide) (by decide) (fun a hF => ?_)
          refine gofD (j := 9) hF rfl rfl (by rw [hc5]; decide) (by decide) (fun a hF => ?_)
          refine stp hF (p_pickT rfl hc5 rfl) (by decide) (fun a hF => ?_)
          refine nilN ?_
          refine xn ?_
          obtain rfl := hsm H
          exact ⟨true, s16, hS, hF.cut ⟨rfl, rfl, rfl, trivial⟩, (Sub.refl _), HK3⟩
        · replace H := hbf hc5 H
          refine gonE (j := 9) hF rfl rfl hc5 ?_
          refine stp hF (p_ldb_agg (i := 1) (l := []) (m := [(.int .i64 x1.1), (.int .i64 x2.1), (.int .i64 x3.1), (.int .i64 x4.1), (.int .i64 x5.1), (.bool x6.1.Has), (.int .i64 x6.1.O.Kind), v9, v10, (.bool x7.1.Has), (.int .i64 x7.1.O.Kind), v12, v13, (.int .i64 x8.1), v16]) (r := []) hS rfl rfl ia_41 ti_41 rfl rfl rfl) (by decide) (fun a hF => ?_)
          replace hS := hS.sel (is := [5, 5, 3, 3, 2, 0, 0, 0]) (A' := [Ow (Kd.int .i64) 3 v9 x6.1.O.Ints, Ow (Kd.int .i64) 3 v10 x6.1.O.Refs, Ow (Kd.int .i64) 3 v12 x7.1.O.Ints, Ow (Kd.int .i64) 3 v13 x7.1.O.Refs, Ow kTLive 91 v16 x9, pt g2 117 ([v15, (.int .i64 x17), (.bool x18)]), pt g3 41 ([(.int .i64 x1.1), (.int .i64 x2.1), (.int .i64 x3.1), (.int .i64 x4.1), (.int .i64 x5.1), (.bool x6.1.Has), (.int .i64 x6.1.O.Kind), v9, v10, (.bool x7.1.Has), (.int .i64 x7.1.O.Kind), v12, v13, (.int .i64 x8.1), v16]), pt g1 41 ([(.int .i64 0), (.int .i64 0), (.int .i64 0), (.int .i64 0), (.int .i64 0), (.bool false), (.int .i64 0), (.slice none 0 0), (.slice none 0 0), (.bool false), (.int .i64 0), (.slice none 0 0), (.slice none 0 0), (.int .i64 0), (.slice none 0 0)])]) rfl
          obtain ⟨s21, hg18, hl2, hcall2⟩ := St.lend (P := Try.prog) (Bs := [Ow (Kd.int .i64) 3 v9 x6.1.O.Ints, Ow (Kd.int .i64) 3 v10 x6.1.O.Refs, Ow (Kd.int .i64) 3 v12 x7.1.O.Ints, Ow (Kd.int .i64) 3 v13 x7.1.O.Refs, Ow kTLive 91 v16 x9]) (A := []) (B := [pt g2 117 ([v15, (.int .i64 x17), (.bool x18)]), pt g3 41 ([(.int .i64 x1.1), (.int .i64 x2.1), (.int .i64 x3.1), (.int .i64 x4.1), (.int .i64 x5.1), (.bool x6.1.Has), (.int .i64 x6.1.O.Kind), v9, v10, (.bool x7.1.Has), (.int .i64 x7.1.O.Kind), v12, v13, (.int .i64 x8.1), v16]), pt g1 41 ([(.int .i64 0), (.int .i64 0), (.int .i64 0), (.int .i64 0), (.int .i64 0), (.bool false), (.int .i64 0), (.slice none 0 0), (.slice none 0 0), (.bool false), (.int .i64 0), (.slice none 0 0), (.slice none 0 0), (.int .i64 0), (.slice none 0 0)])]) hS
          obtain ⟨h21, hl2⟩ := hl2.ow hg18
          obtain ⟨h22, hl2⟩ := hl2.ow hg18
          obtain ⟨h23, hl2⟩ := hl2.ow hg18
          obtain ⟨h24, hl2⟩ := hl2.ow hg18
          obtain ⟨h25, hl2⟩ := hl2.ow hg18
          obtain ⟨x13, hx14, H⟩ := hb H
          refine gonE (j := 9) hF rfl rfl hc5 ?_
          refine ste hF (e_callA (fst := []) (vs := [(.agg #[(.int .i64 x1.1), (.int .i64 x2.1), (.int .i64 x3.1), (.int .i64 x4.1), (.int .i64 x5.1), (.bool x6.1.Has), (.int .i64 x6.1.O.Kind), v9, v10, (.bool x7.1.Has), (.int .i64 x7.1.O.Kind), v12, v13, (.int .i64 x8.1), v16])]) (cap := []) rfl rfl go_59 (hcall2 (spec_PutRec.spec k _ _ (⟨x1.1, x2.1, x3.1, x4.1, x5.1, (⟨x6.1.Has, (⟨x6.1.O.Kind, x6.1.O.Ints, x6.1.O.Refs⟩ : TObj)⟩ : TSlot), (⟨x7.1.Has, (⟨x7.1.O.Kind, x7.1.O.Ints, x7.1.O.Refs⟩ : TObj)⟩ : TSlot), x8.1, x9⟩ : TRec) v9 v10 v12 v13 v16 h21 h22 h23 h24 h25 _ hx14) (by rintro v s1 A1 ⟨_, rfl, rfl⟩; exact ⟨Ow_flat flat_int _ _ _, trivial⟩)) rfl) (by decide) (fun v w a hR hF => ?_)
          obtain ⟨s22, s23, A15, hg19, hS, hR⟩ := hR
          obtain ⟨v24, hv14, rfl⟩ := hR; obtain rfl := hv14.symm
          have hS : St e s22 w [Ow (Kd.int .i64) 3 v9 x6.1.O.Ints, Ow (Kd.int .i64) 3 v10 x6.1.O.Refs, Ow (Kd.int .i64) 3 v12 x7.1.O.Ints, Ow (Kd.int .i64) 3 v13 x7.1.O.Refs, Ow kTLive 91 v16 x9, Ow (Kd.int .u8) 5 v24 x13, pt g2 117 ([v15, (.int .i64 x17), (.bool x18)]), pt g3 41 ([(.int .i64 x1.1), (.int .i64 x2.1), (.int .i64 x3.1), (.int .i64 x4.1), (.int .i64 x5.1), (.bool x6.1.Has), (.int .i64 x6.1.O.Kind), v9, v10, (.bool x7.1.Has), (.int .i64 x7.1.O.Kind), v12, v13, (.int .i64 x8.1), v16]), pt g1 41 ([(.int .i64 0), (.int .i64 0), (.int .i64 0), (.int .i64 0), (.int .i64 0), (.bool false), (.int .i64 0), (.slice none 0 0), (.slice none 0 0), (.bool false), (.int .i64 0), (.slice none 0 0), (.slice none 0 0), (.int .i64 0), (.slice none 0 0)])] := hS
          refine gonE (j := 9) hF rfl rfl hc5 ?_
          refine stp hF (p_move rfl) (by decide) (fun a hF => ?_)
          replace hS := hS.sel (is := [5, 0, 0, 0, 0, 0, 0, 0, 0]) (A' := [Ow (Kd.int .u8) 5 v24 x13, Ow (Kd.int .i64) 3 v9 x6.1.O.Ints, Ow (Kd.int .i64) 3 v10 x6.1.O.Refs, Ow (Kd.int .i64) 3 v12 x7.1.O.Ints, Ow (Kd.int .i64) 3 v13 x7.1.O.Refs, Ow kTLive 91 v16 x9, pt g2 117 ([v15, (.int .i64 x17), (.bool x18)]), pt g3 41 ([(.int .i64 x1.1), (.int .i64 x2.1), (.int .i64 x3.1), (.int .i64 x4.1), (.int .i64 x5.1), (.bool x6.1.Has), (.int .i64 x6.1.O.Kind), v9, v10, (.bool x7.1.Has), (.int .i64 x7.1.O.Kind), v12, v13, (.int .i64 x8.1), v16]), pt g1 41 ([(.int .i64 0), (.int .i64 0), (.int .i64 0), (.int .i64 0), (.int .i64 0), (.bool false), (.int .i64 0), (.slice none 0 0), (.slice none 0 0), (.bool false), (.int .i64 0), (.slice none 0 0), (.slice none 0 0), (.int .i64 0), (.slice none 0 0)])]) rfl
          obtain ⟨s24, hg20, hl3, hcall3⟩ := St.lend (P := Try.prog) (Bs := [Ow (Kd.int .u8) 5 v24 x13]) (A := []) (B := [Ow (Kd.int .i64) 3 v9 x6.1.O.Ints, Ow (Kd.int .i64) 3 v10 x6.1.O.Refs, Ow (Kd.int .i64) 3 v12 x7.1.O.Ints, Ow (Kd.int .i64) 3 v13 x7.1.O.Refs, Ow kTLive 91 v16 x9, pt g2 117 ([v15, (.int .i64 x17), (.bool x18)]), pt g3 41 ([(.int .i64 x1.1), (.int .i64 x2.1), (.int .i64 x3.1), (.int .i64 x4.1), (.int .i64 x5.1), (.bool x6.1.Has), (.int .i64 x6.1.O.Kind), v9, v10, (.bool x7.1.Has), (.int .i64 x7.1.O.Kind), v12, v13, (.int .i64 x8.1), v16]), pt g1 41 ([(.int .i64 0), (.int .i64 0), (.int .i64 0), (.int .i64 0), (.int .i64 0), (.bool false), (.int .i64 0), (.slice none 0 0), (.slice none 0 0), (.bool false), (.int .i64 0), (.slice none 0 0), (.slice none 0 0), (.int .i64 0), (.slice none 0 0)])]) hS
          obtain ⟨h26, hl3⟩ := hl3.ow hg20
          obtain ⟨x14, hx15, H⟩ := hb H
          refine gonE (j := 9) hF rfl rfl hc5 ?_
          refine ste hF (e_callA (fst := []) (vs := [v24, v1]) (cap := []) rfl rfl go_106 (hcall3 (spec_l2Same.spec k _ _ x13 x11 v24 v1 h26 (((((((((((((h1.mono hg1).mono hg2).mono hg3).mono hg4).mono hg5).mono hg6).mono hg7).mono hg8).mono hg9).mono hg14).mono hg17).mono hg19).mono hg20) _ hx15) (by rintro v s1 A1 ⟨rfl, rfl⟩; exact trivial)) rfl) (by decide) (fun v w a hR hF => ?_)
          obtain ⟨s25, s26, A16, hg21, hS, hR⟩ := hR
          obtain ⟨hv15, rfl⟩ := hR; obtain rfl := hv15.symm
          have hS : St e s25 w [Ow (Kd.int .u8) 5 v24 x13, Ow (Kd.int .i64) 3 v9 x6.1.O.Ints, Ow (Kd.int .i64) 3 v10 x6.1.O.Refs, Ow (Kd.int .i64) 3 v12 x7.1.O.Ints, Ow (Kd.int .i64) 3 v13 x7.1.O.Refs, Ow kTLive 91 v16 x9, pt g2 117 ([v15, (.int .i64 x17), (.bool x18)]), pt g3 41 ([(.int .i64 x1.1), (.int .i64 x2.1), (.int .i64 x3.1), (.int .i64 x4.1), (.int .i64 x5.1), (.bool x6.1.Has), (.int .i64 x6.1.O.Kind), v9, v10, (.bool x7.1.Has), (.int .i64 x7.1.O.Kind), v12, v13, (.int .i64 x8.1), v16]), pt g1 41 ([(.int .i64 0), (.int .i64 0), (.int .i64 0), (.int .i64 0), (.int .i64 0), (.bool false), (.int .i64 0), (.slice none 0 0), (.slice none 0 0), (.bool false), (.int .i64 0), (.slice none 0 0), (.slice none 0 0), (.int .i64 0), (.slice none 0 0)])] := hS
          refine gonE (j := 9) hF rfl rfl hc5 ?_
          refine stp hF (p_not rfl) (by decide) (fun a hF => ?_)
          refine stp hF (p_pickF rfl hc5 rfl) (by decide) (fun a hF => ?_)
          refine nilN ?_
          refine xn ?_
          obtain rfl := hsm H
          replace hS := hS.sel (is := [6, 6, 5, 3, 3, 1, 1, 1]) (A' := [pt g2 117 ([v15, (.int .i64 x17), (.bool x18)]), pt g3 41 ([(.int .i64 x1.1), (.int .i64 x2.1), (.int .i64 x3.1), (.int .i64 x4.1), (.int .i64 x5.1), (.bool x6.1.Has), (.int .i64 x6.1.O.Kind), v9, v10, (.bool x7.1.Has), (.int .i64 x7.1.O.Kind), v12, v13, (.int .i64 x8.1), v16]), Ow kTLive 91 v16 x9, Ow (Kd.int .i64) 3 v12 x7.1.O.Ints, Ow (Kd.int .i64) 3 v13 x7.1.O.Refs, Ow (Kd.int .i64) 3 v9 x6.1.O.Ints, Ow (Kd.int .i64) 3 v10 x6.1.O.Refs, pt g1 41 ([(.int .i64 0), (.int .i64 0), (.int .i64 0), (.int .i64 0), (.int .i64 0), (.bool false), (.int .i64 0), (.slice none 0 0), (.slice none 0 0), (.bool false), (.int .i64 0), (.slice none 0 0), (.slice none 0 0), (.int .i64 0), (.slice none 0 0)])]) rfl
          exact ⟨(!x14), s25, hS, hF.cut ⟨rfl, rfl, rfl, trivial⟩, (hg19.trans hg21), HK3⟩
      · clear H HK3 hS hF
        rintro a w ⟨x10, s20, hS, hF, hg22, H⟩
        unfold spec_GetRec.c1 at H
        refine nilN ?_
        refine xn ?_
        refine cnd hF rfl (fun hc6 => ?_) (fun hc6 => ?_)
        · replace H := hbt hc6 H
          refine sq ?_
          refine rg ?_
          refine stp hF (p_build (ps := []) (vs := []) (v := (.agg #[(.int .i64 0), (.int .i64 0), (.int .i64 0), (.int .i64 0), (.int .i64 0), (.bool false), (.int .i64 0), (.slice none 0 0), (.slice none 0 0), (.bool false), (.int .i64 0), (.slice none 0 0), (.slice none 0 0), (.int .i64 0), (.slice none 0 0)])) rfl (by intro w; kernel_rfl)) (by decide) (fun a hF => ?_)
          refine ste0 hF (e_stb (i := 7) (l := []) (m := [(.int .i64 0), (.int .i64 0), (.int .i64 0), (.int .i64 0), (.int .i64 0), (.bool false), (.int .i64 0), (.slice none 0 0), (.slice none 0 0), (.bool false), (.int .i64 0), (.slice none 0 0), (.slice none 0 0), (.int .i64 0), (.slice none 0 0)]) (r := []) (m' := [(.int .i64 0), (.int .i64 0), (.int .i64 0), (.int .i64 0), (.int .i64 0), (.bool false), (.int .i64 0), (.slice none 0 0), (.slice none 0 0), (.bool false), (.int .i64 0), (.slice none 0 0), (.slice none 0 0), (.int .i64 0), (.slice none 0 0)]) (cs' := [(.int .i64 0), (.int .i64 0), (.int .i64 0), (.int .i64 0), (.int .i64 0), (.bool false), (.int .i64 0), (.slice none 0 0), (.slice none 0 0), (.bool false), (.int .i64 0), (.slice none 0 0), (.slice none 0 0), (.int .i64 0), (.slice none 0 0)]) hS rfl rfl rfl ti_41 rfl rfl rfl rfl rfl (one_cons rfl (one_cons rfl (one_cons rfl (one_cons rfl (one_cons rfl (one_cons rfl (one_cons rfl (one_cons rfl (one_cons rfl (one_cons rfl (one_cons rfl (one_cons rfl (one_cons rfl (one_cons rfl (one_cons rfl one_nil))))))))))))))) rfl) (fun v w a hR hF => ?_)
          have hS : St e s20 w [pt g1 41 ([(.int .i64 0), (.int .i64 0), (.int .i64 0), (.int .i64 0), (.int .i64 0), (.bool false), (.int .i64 0), (.slice none 0 0), (.slice none 0 0), (.bool false), (.int .i64 0), (.slice none 0 0), (.slice none 0 0), (.int .i64 0), (.slice none 0 0)]), pt g2 117 ([v15, (.int .i64 x17), (.bool x18)]), pt g3 41 ([(.int .i64 x1.1), (.int .i64 x2.1), (.int .i64 x3.1), (.int .i64 x4.1), (.int .i64 x5.1), (.bool x6.1.Has), (.int .i64 x6.1.O.Kind), v9, v10, (.bool x7.1.Has), (.int .i64 x7.1.O.Kind), v12, v13, (.int .i64 x8.1), v16]), Ow kTLive 91 v16 x9, Ow (Kd.int .i64) 3 v12 x7.1.O.Ints, Ow (Kd.int .i64) 3 v13 x7.1.O.Refs, Ow (Kd.int .i64) 3 v9 x6.1.O.Ints, Ow (Kd.int .i64) 3 v10 x6.1.O.Refs] := hR
          refine stp hF (p_assign rfl) (by decide) (fun a hF => ?_)
          refine nilN ?_
          refine xn ?_
          refine rt ?_
          refine xr ?_
          obtain rfl := hsm H
          have h27 : RvOk Try.prog _ w (.cell 2 41) _ := rvC (i := 0) hS rfl (show lk [(2, (.pointer (some ⟨g1, 0, none⟩))), (3, (.bool false))] 2 = _ from rfl) ia_41 ti_41 rfl
          replace hS := hS.ownNil (Kd.int .i64) 3 none
          replace hS := hS.ownNil (Kd.int .i64) 3 none
          replace hS := hS.ownNil (Kd.int .i64) 3 none
          replace hS := hS.ownNil (Kd.int .i64) 3 none
          replace hS := hS.ownNil kTLive 91 none
          replace hS := hS.sel (is := [4, 3, 2, 1, 0]) (A' := [Ow (Kd.int .i64) 3 (.slice none 0 0) ([] : List Int), Ow (Kd.int .i64) 3 (.slice none 0 0) ([] : List Int), Ow (Kd.int .i64) 3 (.slice none 0 0) ([] : List Int), Ow (Kd.int .i64) 3 (.slice none 0 0) ([] : List Int), Ow kTLive 91 (.slice none 0 0) ([] : List TLive)]) rfl
          exact retc2 hF rfl h27 (rvT rfl) hS ⟨(.slice none 0 0), (.slice none 0 0), (.slice none 0 0), (.slice none 0 0), (.slice none 0 0), rfl, rfl⟩
        · replace H := hbf hc6 H
          refine skN ?_
          refine xn ?_
          refine sq ?_
          refine rg ?_
          refine stp hF (p_ldb_agg (i := 1) (l := []) (m := [(.int .i64 x1.1), (.int .i64 x2.1), (.int .i64 x3.1), (.int .i64 x4.1), (.int .i64 x5.1), (.bool x6.1.Has), (.int .i64 x6.1.O.Kind), v9, v10, (.bool x7.1.Has), (.int .i64 x7.1.O.Kind), v12, v13, (.int .i64 x8.1), v16]) (r := []) hS rfl rfl ia_41 ti_41 rfl rfl rfl) (by decide) (fun a hF => ?_)
          refine ste0 hF (e_stb (i := 7) (l := []) (m := [(.int .i64 0), (.int .i64 0), (.int .i64 0), (.int .i64 0), (.int .i64 0), (.bool false), (.int .i64 0), (.slice none 0 0), (.slice none 0 0), (.bool false), (.int .i64 0), (.slice none 0 0), (.slice none 0 0), (.int .i64 0), (.slice none 0 0)]) (r := []) (m' := [(.int .i64 x1.1), (.int .i64 x2.1), (.int .i64 x3.1), (.int .i64 x4.1), (.int .i64 x5.1), (.bool x6.1.Has), (.int .i64 x6.1.O.Kind), v9, v10, (.bool x7.1.Has), (.int .i64 x7.1.O.Kind), v12, v13, (.int .i64 x8.1), v16]) (cs' := [(.int .i64 x1.1), (.int .i64 x2.1), (.int .i64 x3.1), (.int .i64 x4.1), (.int .i64 x5.1), (.bool x6.1.Has), (.int .i64 x6.1.O.Kind), v9, v10, (.bool x7.1.Has), (.int .i64 x7.1.O.Kind), v12, v13, (.int .i64 x8.1), v16]) hS rfl rfl rfl ti_41 rfl rfl rfl rfl rfl (one_cons rfl (one_cons rfl (one_cons rfl (one_cons rfl (one_cons rfl (one_cons rfl (one_cons rfl (one_cons (hS.one_ow (i := 5) rfl) (one_cons (hS.one_ow (i := 6) rfl) (one_cons rfl (one_cons rfl (one_cons (hS.one_ow (i := 3) rfl) (one_cons (hS.one_ow (i := 4) rfl) (one_cons rfl (one_cons (hS.one_ow (i := 2) rfl) one_nil))))))))))))))) rfl) (fun v w a hR hF => ?_)
          have hS : St e s20 w [pt g1 41 ([(.int .i64 x1.1), (.int .i64 x2.1), (.int .i64 x3.1), (.int .i64 x4.1), (.int .i64 x5.1), (.bool x6.1.Has), (.int .i64 x6.1.O.Kind), v9, v10, (.bool x7.1.Has), (.int .i64 x7.1.O.Kind), v12, v13, (.int .i64 x8.1), v16]), pt g2 117 ([v15, (.int .i64 x17), (.bool x18)]), pt g3 41 ([(.int .i64 x1.1), (.int .i64 x2.1), (.int .i64 x3.1), (.int .i64 x4.1), (.int .i64 x5.1), (.bool x6.1.Has), (.int .i64 x6.1.O.Kind), v9, v10, (.bool x7.1.Has), (.int .i64 x7.1.O.Kind), v12, v13, (.int .i64 x8.1), v16]), Ow kTLive 91 v16 x9, Ow (Kd.int .i64) 3 v12 x7.1.O.Ints, Ow (Kd.int .i64) 3 v13 x7.1.O.Refs, Ow (Kd.int .i64) 3 v9 x6.1.O.Ints, Ow (Kd.int .i64) 3 v10 x6.1.O.Refs] := hR
          refine stp hF (p_assign rfl) (by decide) (fun a hF => ?_)
          refine nilN ?_
          refine xn ?_
          refine rt ?_
          obtain rfl := hsm H
          have h28 : RvOk Try.prog _ w (.cell 2 41) _ := rvC (i := 0) hS rfl (show lk [(2, (.pointer (some ⟨g1, 0, none⟩))), (3, (.bool true))] 2 = _ from rfl) ia_41 ti_41 rfl
          replace hS := hS.sel (is := [6, 6, 4, 4, 3]) (A' := [Ow (Kd.int .i64) 3 v9 x6.1.O.Ints, Ow (Kd.int .i64) 3 v10 x6.1.O.Refs, Ow (Kd.int .i64) 3 v12 x7.1.O.Ints, Ow (Kd.int .i64) 3 v13 x7.1.O.Refs, Ow kTLive 91 v16 x9]) rfl
          exact retc2 hF rfl h28 (rvT rfl) hS ⟨v9, v10, v12, v13, v16, rfl, rfl⟩

def laws_eqIntS.c1 (k : Nat) : Option Bool :=
  (some true)
def laws_eqIntS.l1 (x1 : (List Int)) (x2 : (List Int)) : Nat → Int → Option (Ex Bool Unit)
  | 0, _ => none
  | k + 1, x3 => (if (decide (x3 < (x1.length : Int))) = true then (if 0 ≤ x3 ∧ x3 < (x1.length : Int) then (if 0 ≤ x3 ∧ x3 < (x2.length : Int) then (if (decide ((rd x1 x3) ≠ (rd x2 x3))) = true then (some (Ex.ret false)) else ((laws_eqIntS.l1 x1 x2 k) (w64 (x3 + 1)))) else none) else none) else (some (Ex.go ())))
def laws_eqIntS.f (k : Nat) (x1 : (List Int)) (x2 : (List Int)) : Option Bool :=
  (if (decide ((x1.length : Int) ≠ (x2.length : Int))) = true then (some false) else (((laws_eqIntS.l1 x1 x2 k 0) : Option (Ex Bool Unit)).bind fun x4 => Ex.on x4 (fun r => some r) (fun y => laws_eqIntS.c1 k)))
set_option maxRecDepth 100000 in
set_option maxHeartbeats 4000000 in
theorem laws_eqIntS.spec (k : Nat) (s0 : HF) (w : World) (x1 : (List Int)) (x2 : (List Int)) (v1 : Value) (v2 : Value) (h1 : Sl (Kd.int .i64) s0 v1 x1) (h2 : Sl (Kd.int .i64) s0 v2 x2) (r : Bool) (H : laws_eqIntS.f k x1 x2 = some r) :
    Law Try.prog 167 #[v1, v2] s0 w [] (fun v s1 A1 => v = (.bool r) ∧ A1 = []) := by
  unfold laws_eqIntS.f at H
  refine Law.intro Try.func167 rfl [(0, v1), (1, v2)] (Nat.le_of_ble_eq_true rfl) (enter_lk ⟨rfl, rfl, trivial⟩) (fun e a hS hF => ?_)
  have hF : Fr 26 a [(0, v1), (1, v2)] := hF
  refine sq ?_
  refine rg ?_
  refine stp hF (p_assign rfl) (by decide) (fun a hF => ?_)
  refine nilN ?_
  refine xn ?_
  refine sq ?_
  refine sq ?_
  refine rg ?_
  refine stp hF (p_move rfl) (by decide) (fun a hF => ?_)
  refine stp hF (p_lenr un_34 rfl h1) (by decide) (fun a hF => ?_)
  refine stp hF (p_move rfl) (by decide) (fun a hF => ?_)
  refine stp hF (p_lenr un_34 rfl h2) (by decide) (fun a hF => ?_)
  refine stp hF (p_neq rfl rfl) (by decide) (fun a hF => ?_)
  refine nilN ?_
  refine xn ?_
  refine cnd hF rfl (fun hc1 => ?_) (fun hc1 => ?_)
  · replace H := hbt hc1 H
    refine sq ?_
    refine rg ?_
    refine stp hF (p_assign rfl) (by decide) (fun a hF => ?_)
    refine nilN ?_
    refine xn ?_
    refine rt ?_
    refine xr ?_
    obtain rfl := hsm H
    exact ret1 hF rfl rfl hS ⟨rfl, rfl⟩
  · replace H := hbf hc1 H
    refine skN ?_
    refine xn ?_
    obtain ⟨x4, H, HK1⟩ := hb H
    refine sqj (fun a w => St e s0 w [] ∧ Fr 26 a [] ∧ laws_eqIntS.c1 k = some r) ?_ ?_
    · skip
      refine sq ?_
      refine rg ?_
      refine stp hF (p_assign rfl) (by decide) (fun a hF => ?_)
      refine nilN ?_
      refine xn ?_
      refine blk ?_
      refine loop_ind (fun k1 a w => ∃ (x3 : Int) , St e s0 w [] ∧ Fr 26 a [(0, v1), (1, v2), (5, (.int .i64 x3))] ∧ laws_eqIntS.l1 x1 x2 k1 x3 = some x4) k ?_ ?_ ?_
      · skip
        exact ⟨0, hS, hF.cut ⟨rfl, rfl, rfl, trivial⟩, H⟩
      · clear H hS hF
        rintro a w ⟨x3, hS, hF, H⟩
        exact absurd (show none = some _ from H) (by simp)
      · clear H hS hF
        rintro k1 a w ⟨x3, hS, hF, H⟩
        rw [laws_eqIntS.l1.eq_2] at H
        refine sq ?_
        refine sq ?_
        refine rg ?_
        refine stp hF (p_move rfl) (by decide) (fun a hF => ?_)
        refine stp hF (p_move rfl) (by decide) (fun a hF => ?_)
        refine stp hF (p_lenr un_34 rfl h1) (by decide) (fun a hF => ?_)
        refine stp hF (p_lss rfl rfl) (by decide) (fun a hF => ?_)
        refine nilN ?_
        refine xn ?_
        refine cnd hF rfl (fun hc2 => ?_) (fun hc2 => ?_)
        · replace H := hbt hc2 H
          refine skN ?_
          refine xn ?_
          refine sq ?_
          refine blk ?_
          refine sq ?_
          replace hS : St e s0 w.drew [] := hS.drewN 1
          refine drw [0, 1, 2, 3, 4, 5, 6, 7, 8] mixed (by kernel_rfl) (by decide) (hF.cut (L' := [(0, v1), (1, v2), (5, (.int .i64 x3)), (11, (.int .i64 x3)), (12, v1), (13, (.int .i64 (x1.length : Int))), (14, (.bool (decide (x3 < (x1.length : Int)))))]) ⟨rfl, rfl, rfl, rfl, rfl, rfl, rfl, trivial⟩) ?_
          clear hF
          generalize w.drew = w at hS ⊢
          refine pk1 rfl (by decide) rfl (by kernel_rfl) rfl (p_move rfl) ?_
          refine pk1 rfl (by decide) rfl (by kernel_rfl) rfl (p_move rfl) ?_
          obtain ⟨hq1, H⟩ := hck H
          obtain ⟨ad1, h3, p1⟩ := p_idxr (P := Try.prog) (i := x3) h1 un_34 ti_3 hq1.1 hq1.2
          refine pk1 rfl (by decide) rfl (by kernel_rfl) rfl (p1 rfl rfl) ?_
          refine pk1 rfl (by decide) rfl (by kernel_rfl) rfl (p_ldr_int rfl hS h3 ia_3) ?_
          refine pk1 rfl (by decide) rfl (by kernel_rfl) rfl (p_move rfl) ?_
          refine pk1 rfl (by decide) rfl (by kernel_rfl) rfl (p_move rfl) ?_
          obtain ⟨hq2, H⟩ := hck H
          obtain ⟨ad2, h4, p2⟩ := p_idxr (P := Try.prog) (i := x3) h2 un_34 ti_3 hq2.1 hq2.2
          refine pk1 rfl (by decide) rfl (by kernel_rfl) rfl (p2 rfl rfl) ?_
          refine pk1 rfl (by decide) rfl (by kernel_rfl) rfl (p_ldr_int rfl hS h4 ia_3) ?_
          refine pk1 rfl (by decide) rfl (by kernel_rfl) rfl (p_neq rfl rfl) ?_
          refine pkF (fun a hF => ?_)
          refine xn ?_
          refine cnd hF rfl (fun hc3 => ?_) (fun hc3 => ?_)
          · replace H := hbt hc3 H
            refine sq ?_
            refine rg ?_
            refine stp hF (p_assign rfl) (by decide) (fun a hF => ?_)
            refine nilN ?_
            refine xn ?_
            refine rt ?_
            refine br (xr (xr (br (xr ?_))))
            obtain rfl := hsm H
            have H := hon1 HK1
            obtain rfl := hsm H
            exact ret1 hF rfl rfl hS ⟨rfl, rfl⟩
          · replace H := hbf hc3 H
            refine skN ?_
            refine bn (xn ?_)
            refine rg ?_
            refine stp hF (p_move rfl) (by decide) (fun a hF => ?_)
            refine stp hF (p_add (c := w64 (x3 + 1)) rfl rfl rfl) (by decide) (fun a hF => ?_)
            refine stp hF (p_assign rfl) (by decide) (fun a hF => ?_)
            refine nilN ?_
            refine xn ?_
            exact ⟨(w64 (x3 + 1)), hS, hF.cut ⟨rfl, rfl, rfl, trivial⟩, H⟩
        · replace H := hbf hc2 H
          refine exi ?_
          refine xe (xe (hit (xn ?_)))
          obtain rfl := hsm H
          exact ⟨hS, hF.cut trivial, HK1⟩
    · clear H HK1 hS hF
      rintro a w ⟨hS, hF, H⟩
      unfold laws_eqIntS.c1 at H
      refine sq ?_
      refine rg ?_
      refine stp hF (p_assign rfl) (by decide) (fun a hF => ?_)
      refine nilN ?_
      refine xn ?_
      refine rt ?_
      obtain rfl := hsm H
      exact ret1 hF rfl rfl hS ⟨rfl, rfl⟩

def laws_eqObj.f (k : Nat) (x1 : TObj) (x2 : TObj) : Option Bool :=
  (if (decide (x1.Kind ≠ x2.Kind)) = true then (some false) else ((laws_eqIntS.f k x1.Ints x2.Ints).bind fun x3 => (if (!x3) = true then (some false) else ((laws_eqIntS.f k x1.Refs x2.Refs).bind fun x4 => (if (!x4) = true then (some false) else (some true))))))
set_option maxRecDepth 100000 in
set_option maxHeartbeats 4000000 in
theorem laws_eqObj.spec (k : Nat) (s0 : HF) (w : World) (x1 : TObj) (x2 : TObj) (v1 : Value) (v2 : Value) (v3 : Value) (v4 : Value) (h1 : Sl (Kd.int .i64) s0 v1 x1.Ints) (h2 : Sl (Kd.int .i64) s0 v2 x1.Refs) (h3 : Sl (Kd.int .i64) s0 v3 x2.Ints) (h4 : Sl (Kd.int .i64) s0 v4 x2.Refs) (r : Bool) (H : laws_eqObj.f k x1 x2 = some r) :
    Law Try.prog 136 #[(.agg #[(.int .i64 x1.Kind), v1, v2]), (.agg #[(.int .i64 x2.Kind), v3, v4])] s0 w [] (fun v s1 A1 => v = (.bool r) ∧ A1 = []) := by
  unfold laws_eqObj.f at H
  refine Law.intro Try.func136 rfl [(0, (.agg #[(.int .i64 x1.Kind), v1, v2])), (1, (.agg #[(.int .i64 x2.Kind), v3, v4]))] (Nat.le_of_ble_eq_true rfl) (enter_lk ⟨rfl, rfl, trivial⟩) (fun e a hS hF => ?_)
  have hF : Fr 22 a [(0, (.agg #[(.int .i64 x1.Kind), v1, v2])), (1, (.agg #[(.int .i64 x2.Kind), v3, v4]))] := hF
  refine sq ?_
  refine rg ?_
  refine ste hF (e_box (cs := [(.int .i64 x1.Kind), v1, v2]) hS rfl rfl) (by decide) (fun v w a hR hF => ?_)
  obtain ⟨g1, rfl, hS⟩ := hR
  refine ste hF (e_box (cs := [(.int .i64 x2.Kind), v3, v4]) hS rfl rfl) (by decide) (fun v w a hR hF => ?_)
  obtain ⟨g2, rfl, hS⟩ := hR
  refine stp hF (p_assign rfl) (by decide) (fun a hF => ?_)
  refine nilN ?_
  refine xn ?_
  refine sq ?_
  refine sq ?_
  refine rg ?_
  refine stp hF (p_fldb (o' := 0) rfl fi_36_0 rfl) (by decide) (fun a hF => ?_)
  refine stp hF (p_ldb_one (i := 1) hS rfl rfl ia_3 rfl) (by decide) (fun a hF => ?_)
  refine stp hF (p_fldb (o' := 0) rfl fi_36_0 rfl) (by decide) (fun a hF => ?_)
  refine stp hF (p_ldb_one (i := 0) hS rfl rfl ia_3 rfl) (by decide) (fun a hF => ?_)
  refine stp hF (p_neq rfl rfl) (by decide) (fun a hF => ?_)
  refine nilN ?_
  refine xn ?_
  refine cnd hF rfl (fun hc1 => ?_) (fun hc1 => ?_)
  · replace H := hbt hc1 H
    refine sq ?_
    refine rg ?_
    refine stp hF (p_assign rfl) (by decide) (fun a hF => ?_)
    refine nilN ?_
    refine xn ?_
    refine rt ?_
    refine xr ?_
    obtain rfl := hsm H
    replace hS := hS.sel (is := []) (A' := []) rfl
    exact ret1 hF rfl rfl hS ⟨rfl, rfl⟩
  · replace H := hbf hc1 H
    refine skN ?_
    refine xn ?_
    refine sq ?_
    refine sq ?_
    refine rg ?_
    refine stp hF (p_fldb (o' := 1) rfl fi_36_1 rfl) (by decide) (fun a hF => ?_)
    refine stp hF (p_ldb_one (i := 1) hS rfl rfl ia_34 rfl) (by decide) (fun a hF => ?_)
    refine stp hF (p_fldb (o' := 1) rfl fi_36_1 rfl) (by decide) (fun a hF => ?_)
    refine stp hF (p_ldb_one (i := 0) hS rfl rfl ia_34 rfl) (by decide) (fun a hF => ?_)
    obtain ⟨x3, hx1, H⟩ := hb H
    refine ste hF (e_callA (fst := []) (vs := [v1, v3]) (cap := []) rfl rfl go_167 (St.call (A := []) (B := [pt g2 36 ([(.int .i64 x2.Kind), v3, v4]), pt g1 36 ([(.int .i64 x1.Kind), v1, v2])]) hS (laws_eqIntS.spec k _ _ x1.Ints x2.Ints v1 v3 h1 h3 _ hx1)) rfl) (by decide) (fun v w a hR hF => ?_)
    obtain ⟨s2, A2, hg1, hS, hR⟩ := hR
    obtain ⟨hv1, rfl⟩ := hR; obtain rfl := hv1.symm
    have hS : St e s2 w [pt g2 36 ([(.int .i64 x2.Kind), v3, v4]), pt g1 36 ([(.int .i64 x1.Kind), v1, v2])] := hS
    refine stp hF (p_not rfl) (by decide) (fun a hF => ?_)
    refine nilN ?_
    refine xn ?_
    refine cnd hF rfl (fun hc2 => ?_) (fun hc2 => ?_)
    · replace H := hbt hc2 H
      refine sq ?_
      refine rg ?_
      refine stp hF (p_assign rfl) (by decide) (fun a hF => ?_)
      refine nilN ?_
      refine xn ?_
      refine rt ?_
      refine xr ?_
      obtain rfl := hsm H
      replace hS := hS.sel (is := []) (A' := []) rfl
      exact ret1 hF rfl rfl hS ⟨rfl, rfl⟩
    · replace H := hbf hc2 H
      refine skN ?_
      refine xn ?_
      refine sq ?_
      refine sq ?_
      refine rg ?_
      refine stp hF (p_fldb (o' := 2) rfl fi_36_2 rfl) (by decide) (fun a hF => ?_)
      refine stp hF (p_ldb_one (i := 1) hS rfl rfl ia_34 rfl) (by decide) (fun a hF => ?_)
      refine stp hF (p_fldb (o' := 2) rfl fi_36_2 rfl) (by decide) (fun a hF => ?_)
      refine stp hF (p_ldb_one (i := 0) hS rfl rfl ia_34 rfl) (by decide) (fun a hF => ?_)
      obtain ⟨x4, hx2, H⟩ := hb H
      refine ste hF (e_callA (fst := []) (vs := [v2, v4]) (cap := []) rfl rfl go_167 (St.call (A := []) (B := [pt g2 36 ([(.int .i64 x2.Kind), v3, v4]), pt g1 36 ([(.int .i64 x1.Kind), v1, v2])]) hS (laws_eqIntS.spec k _ _ x1.Refs x2.Refs v2 v4 (h2.mono hg1) (h4.mono hg1) _ hx2)) rfl) (by decide) (fun v w a hR hF => ?_)
      obtain ⟨s3, A3, hg2, hS, hR⟩ := hR
      obtain ⟨hv2, rfl⟩ := hR; obtain rfl := hv2.symm
      have hS : St e s3 w [pt g2 36 ([(.int .i64 x2.Kind), v3, v4]), pt g1 36 ([(.int .i64 x1.Kind), v1, v2])] := hS
      refine stp hF (p_not rfl) (by decide) (fun a hF => ?_)
      refine nilN ?_
      refine xn ?_
      refine cnd hF rfl (fun hc3 => ?_) (fun hc3 => ?_)
      · replace H := hbt hc3 H
        refine sq ?_
        refine rg ?_
        refine stp hF (p_assign rfl) (by decide) (fun a hF => ?_)
        refine nilN ?_
        refine xn ?_
        refine rt ?_
        refine xr ?_
        obtain rfl := hsm H
        replace hS := hS.sel (is := []) (A' := []) rfl
        exact ret1 hF rfl rfl hS ⟨rfl, rfl⟩
      · replace H := hbf hc3 H
        refine skN ?_
        refine xn ?_
        refine sq ?_
        refine rg ?_
        refine stp hF (p_assign rfl) (by decide) (fun a hF => ?_)
        refine nilN ?_
        refine xn ?_
        refine rt ?_
        obtain rfl := hsm H
        replace hS := hS.sel (is := []) (A' := []) rfl
        exact ret1 hF rfl rfl hS ⟨rfl, rfl⟩

def laws_eqSlot.f (k : Nat) (x1 : TSlot) (x2 : TSlot) : Option Bool :=
  (if (x1.Has != x2.Has) = true then (some false) else ((laws_eqObj.f k x1.O x2.O).bind fun x3 => (if (!x3) = true then (some false) else (some true))))
set_option maxRecDepth 100000 in
set_option maxHeartbeats 4000000 in
theorem laws_eqSlot.spec (k : Nat) (s0 : HF) (w : World) (x1 : TSlot) (x2 : TSlot) (v1 : Value) (v2 : Value) (v3 : Value) (v4 : Value) (h1 : Sl (Kd.int .i64) s0 v1 x1.O.Ints) (h2 : Sl (Kd.int .i64) s0 v2 x1.O.Refs) (h3 : Sl (Kd.int .i64) s0 v3 x2.O.Ints) (h4 : Sl (Kd.int .i64) s0 v4 x2.O.Refs) (r : Bool) (H : laws_eqSlot.f k x1 x2 = some r) :
    Law Try.prog 71 #[(.agg #[(.bool x1.Has), (.int .i64 x1.O.Kind), v1, v2]), (.agg #[(.bool x2.Has), (.int .i64 x2.O.Kind), v3, v4])] s0 w [] (fun v s1 A1 => v = (.bool r) ∧ A1 = []) := by
  unfold laws_eqSlot.f at H
  refine Law.intro Try.func71 rfl [(0, (.agg #[(.bool x1.Has), (.int .i64 x1.O.Kind), v1, v2])), (1, (.agg #[(.bool x2.Has), (.int .i64 x2.O.Kind), v3, v4]))] (Nat.le_of_ble_eq_true rfl) (enter_lk ⟨rfl, rfl, trivial⟩) (fun e a hS hF => ?_)
  have hF : Fr 16 a [(0, (.agg #[(.bool x1.Has), (.int .i64 x1.O.Kind), v1, v2])), (1, (.agg #[(.bool x2.Has), (.int .i64 x2.O.Kind), v3, v4]))] := hF
  refine sq ?_
  refine rg ?_
  refine ste hF (e_box (cs := [(.bool x1.Has), (.int .i64 x1.O.Kind), v1, v2]) hS rfl rfl) (by decide) (fun v w a hR hF => ?_)
  obtain ⟨g1, rfl, hS⟩ := hR
  refine ste hF (e_box (cs := [(.bool x2.Has), (.int .i64 x2.O.Kind), v3, v4]) hS rfl rfl) (by decide) (fun v w a hR hF => ?_)
  obtain ⟨g2, rfl, hS⟩ := hR
  refine stp hF (p_assign rfl) (by decide) (fun a hF => ?_)
  refine nilN ?_
  refine xn ?_
  refine sq ?_
  refine sq ?_
  refine rg ?_
  refine stp hF (p_fldb (o' := 0) rfl fi_38_0 rfl) (by decide) (fun a hF => ?_)
  refine stp hF (p_ldb_one (i := 1) hS rfl rfl ia_4 rfl) (by decide) (fun a hF => ?_)
  refine stp hF (p_fldb (o' := 0) rfl fi_38_0 rfl) (by decide) (fun a hF => ?_)
  refine stp hF (p_ldb_one (i := 0) hS rfl rfl ia_4 rfl) (by decide) (fun a hF => ?_)
  refine stp hF (p_neb un_4 rfl rfl) (by decide) (fun a hF => ?_)
  refine nilN ?_
  refine xn ?_
  refine cnd hF rfl (fun hc1 => ?_) (fun hc1 => ?_)
  · replace H := hbt hc1 H
    refine sq ?_
    refine rg ?_
    refine stp hF (p_assign rfl) (by decide) (fun a hF => ?_)
    refine nilN ?_
    refine xn ?_
    refine rt ?_
    refine xr ?_
    obtain rfl := hsm H
    replace hS := hS.sel (is := []) (A' := []) rfl
    exact ret1 hF rfl rfl hS ⟨rfl, rfl⟩
  · replace H := hbf hc1 H
    refine skN ?_
    refine xn ?_
    refine sq ?_
    refine sq ?_
    refine rg ?_
    refine stp hF (p_fldb (o' := 1) rfl fi_38_1 rfl) (by decide) (fun a hF => ?_)
    refine stp hF (p_ldb_agg (i := 1) (l := [(.bool x1.Has)]) (m := [(.int .i64 x1.O.Kind), v1, v2]) (r := []) hS rfl rfl ia_36 ti_36 rfl rfl rfl) (by decide) (fun a hF => ?_)
    refine stp hF (p_fldb (o' := 1) rfl fi_38_1 rfl) (by decide) (fun a hF => ?_)
    refine stp hF (p_ldb_agg (i := 0) (l := [(.bool x2.Has)]) (m := [(.int .i64 x2.O.Kind), v3, v4]) (r := []) hS rfl rfl ia_36 ti_36 rfl rfl rfl) (by decide) (fun a hF => ?_)
    obtain ⟨x3, hx1, H⟩ := hb H
    refine ste hF (e_callA (fst := []) (vs := [(.agg #[(.int .i64 x1.O.Kind), v1, v2]), (.agg #[(.int .i64 x2.O.Kind), v3, v4])]) (cap := []) rfl rfl go_136 (St.call (A := []) (B := [pt g2 38 ([(.bool x2.Has), (.int .i64 x2.O.Kind), v3, v4]), pt g1 38 ([(.bool x1.Has), (.int .i64 x1.O.Kind), v1, v2])]) hS (laws_eqObj.spec k _ _ x1.O x2.O v1 v2 v3 v4 h1 h2 h3 h4 _ hx1)) rfl) (by decide) (fun v w a hR hF => ?_)
    obtain ⟨s2, A2, hg1, hS, hR⟩ := hR
    obtain ⟨hv1, rfl⟩ := hR; obtain rfl := hv1.symm
    have hS : St e s2 w [pt g2 38 ([(.bool x2.Has), (.int .i64 x2.O.Kind), v3, v4]), pt g1 38 ([(.bool x1.Has), (.int .i64 x1.O.Kind), v1, v2])] := hS
    refine stp hF (p_not rfl) (by decide) (fun a hF => ?_)
    refine nilN ?_
    refine xn ?_
    refine cnd hF rfl (fun hc2 => ?_) (fun hc2 => ?_)
    · replace H := hbt hc2 H
      refine sq ?_
      refine rg ?_
      refine stp hF (p_assign rfl) (by decide) (fun a hF => ?_)
      refine nilN ?_
      refine xn ?_
      refine rt ?_
      refine xr ?_
      obtain rfl := hsm H
      replace hS := hS.sel (is := []) (A' := []) rfl
      exact ret1 hF rfl rfl hS ⟨rfl, rfl⟩
    · replace H := hbf hc2 H
      refine skN ?_
      refine xn ?_
      refine sq ?_
      refine rg ?_
      refine stp hF (p_assign rfl) (by decide) (fun a hF => ?_)
      refine nilN ?_
      refine xn ?_
      refine rt ?_
      obtain rfl := hsm H
      replace hS := hS.sel (is := []) (A' := []) rfl
      exact ret1 hF rfl rfl hS ⟨rfl, rfl⟩

def laws_eqLive.f (k : Nat) (x1 : TLive) (x2 : TLive) : Option Bool :=
  (if (decide (x1.Tx ≠ x2.Tx)) = true then (some false) else (if (decide (x1.Last ≠ x2.Last)) = true then (some false) else (if (x1.Aborts != x2.Aborts) = true then (some false) else (some true))))
set_option maxRecDepth 100000 in
set_option maxHeartbeats 4000000 in
theorem laws_eqLive.spec (k : Nat) (s0 : HF) (w : World) (x1 : TLive) (x2 : TLive) (r : Bool) (H : laws_eqLive.f k x1 x2 = some r) :
    Law Try.prog 156 #[(.agg #[(.int .i64 x1.Tx), (.int .i64 x1.Last), (.bool x1.Aborts)]), (.agg #[(.int .i64 x2.Tx), (.int .i64 x2.Last), (.bool x2.Aborts)])] s0 w [] (fun v s1 A1 => v = (.bool r) ∧ A1 = []) := by
  unfold laws_eqLive.f at H
  refine Law.intro Try.func156 rfl [(0, (.agg #[(.int .i64 x1.Tx), (.int .i64 x1.Last), (.bool x1.Aborts)])), (1, (.agg #[(.int .i64 x2.Tx), (.int .i64 x2.Last), (.bool x2.Aborts)]))] (Nat.le_of_ble_eq_true rfl) (enter_lk ⟨rfl, rfl, trivial⟩) (fun e a hS hF => ?_)
  have hF : Fr 20 a [(0, (.agg #[(.int .i64 x1.Tx), (.int .i64 x1.Last), (.bool x1.Aborts)])), (1, (.agg #[(.int .i64 x2.Tx), (.int .i64 x2.Last), (.bool x2.Aborts)]))] := hF
  refine sq ?_
  refine rg ?_
  refine ste hF (e_box (cs := [(.int .i64 x1.Tx), (.int .i64 x1.Last), (.bool x1.Aborts)]) hS rfl rfl) (by decide) (fun v w a hR hF => ?_)
  obtain ⟨g1, rfl, hS⟩ := hR
  refine ste hF (e_box (cs := [(.int .i64 x2.Tx), (.int .i64 x2.Last), (.bool x2.Aborts)]) hS rfl rfl) (by decide) (fun v w a hR hF => ?_)
  obtain ⟨g2, rfl, hS⟩ := hR
  refine stp hF (p_assign rfl) (by decide) (fun a hF => ?_)
  refine nilN ?_
  refine xn ?_
  refine sq ?_
  refine sq ?_
  refine rg ?_
  refine stp hF (p_fldb (o' := 0) rfl fi_91_0 rfl) (by decide) (fun a hF => ?_)
  refine stp hF (p_ldb_one (i := 1) hS rfl rfl ia_3 rfl) (by decide) (fun a hF => ?_)
  refine stp hF (p_fldb (o' := 0) rfl fi_91_0 rfl) (by decide) (fun a hF => ?_)
  refine stp hF (p_ldb_one (i := 0) hS rfl rfl ia_3 rfl) (by decide) (fun a hF => ?_)
  refine stp hF (p_neq rfl rfl) (by decide) (fun a hF => ?_)
  refine nilN ?_
  refine xn ?_
  refine cnd hF rfl (fun hc1 => ?_) (fun hc1 => ?_)
  · replace H := hbt hc1 H
    refine sq ?_
    refine rg ?_
    refine stp hF (p_assign rfl) (by decide) (fun a hF => ?_)
    refine nilN ?_
    refine xn ?_
    refine rt ?_
    refine xr ?_
    obtain rfl := hsm H
    replace hS := hS.sel (is := []) (A' := []) rfl
    exact ret1 hF rfl rfl hS ⟨rfl, rfl⟩
  · replace H := hbf hc1 H
    refine skN ?_
    refine xn ?_
    refine sq ?_
    refine sq ?_
    refine rg ?_
    refine stp hF (p_fldb (o' := 1) rfl fi_91_1 rfl) (by decide) (fun a hF => ?_)
    refine stp hF (p_ldb_one (i := 1) hS rfl rfl ia_3 rfl) (by decide) (fun a hF => ?_)
    refine stp hF (p_fldb (o' := 1) rfl fi_91_1 rfl) (by decide) (fun a hF => ?_)
    refine stp hF (p_ldb_one (i := 0) hS rfl rfl ia_3 rfl) (by decide) (fun a hF => ?_)
    refine stp hF (p_neq rfl rfl) (by decide) (fun a hF => ?_)
    refine nilN ?_
    refine xn ?_
    refine cnd hF rfl (fun hc2 => ?_) (fun hc2 => ?_)
    · replace H := hbt hc2 H
      refine sq ?_
      refine rg ?_
      refine stp hF (p_assign rfl) (by decide) (fun a hF => ?_)
      refine nilN ?_
      refine xn ?_
      refine rt ?_
      refine xr ?_
      obtain rfl := hsm H
      replace hS := hS.sel (is := []) (A' := []) rfl
      exact ret1 hF rfl rfl hS ⟨rfl, rfl⟩
    · replace H := hbf hc2 H
      refine skN ?_
      refine xn ?_
      refine sq ?_
      refine sq ?_
      refine rg ?_
      refine stp hF (p_fldb (o' := 2) rfl fi_91_2 rfl) (by decide) (fun a hF => ?_)
      refine stp hF (p_ldb_one (i := 1) hS rfl rfl ia_4 rfl) (by decide) (fun a hF => ?_)
      refine stp hF (p_fldb (o' := 2) rfl fi_91_2 rfl) (by decide) (fun a hF => ?_)
      refine stp hF (p_ldb_one (i := 0) hS rfl rfl ia_4 rfl) (by decide) (fun a hF => ?_)
      refine stp hF (p_neb un_4 rfl rfl) (by decide) (fun a hF => ?_)
      refine nilN ?_
      refine xn ?_
      refine cnd hF rfl (fun hc3 => ?_) (fun hc3 => ?_)
      · replace H := hbt hc3 H
        refine sq ?_
        refine rg ?_
        refine stp hF (p_assign rfl) (by decide) (fun a hF => ?_)
        refine nilN ?_
        refine xn ?_
        refine rt ?_
        refine xr ?_
        obtain rfl := hsm H
        replace hS := hS.sel (is := []) (A' := []) rfl
        exact ret1 hF rfl rfl hS ⟨rfl, rfl⟩
      · replace H := hbf hc3 H
        refine skN ?_
        refine xn ?_
        refine sq ?_
        refine rg ?_
        refine stp hF (p_assign rfl) (by decide) (fun a hF => ?_)
        refine nilN ?_
        refine xn ?_
        refine rt ?_
        obtain rfl := hsm H
        replace hS := hS.sel (is := []) (A' := []) rfl
        exact ret1 hF rfl rfl hS ⟨rfl, rfl⟩

def laws_eqLiveS.c1 (k : Nat) : Option Bool :=
  (some true)
def laws_eqLiveS.l1 (x1 : (List TLive)) (x2 : (List TLive)) : Nat → Int → Option (Ex Bool Unit)
  | 0, _ => none
  | k + 1, x3 => (if (decide (x3 < (x1.length : Int))) = true then (if 0 ≤ x3 ∧ x3 < (x1.length : Int) then (if 0 ≤ x3 ∧ x3 < (x2.length : Int) then ((laws_eqLive.f k (rd x1 x3) (rd x2 x3)).bind fun x4 => (if (!x4) = true then (some (Ex.ret false)) else ((laws_eqLiveS.l1 x1 x2 k) (w64 (x3 + 1))))) else none) else none) else (some (Ex.go ())))
def laws_eqLiveS.f (k : Nat) (x1 : (List TLive)) (x2 : (List TLive)) : Option Bool :=
  (if (decide ((x1.length : Int) ≠ (x2.length : Int))) = true then (some false) else (((laws_eqLiveS.l1 x1 x2 k 0) : Option (Ex Bool Unit)).bind fun x5 => Ex.on x5 (fun r => some r) (fun y => laws_eqLiveS.c1 k)))
set_option maxRecDepth 100000 in
set_option maxHeartbeats 4000000 in
theorem laws_eqLiveS.spec (k : Nat) (s0 : HF) (w : World) (x1 : (List TLive)) (x2 : (List TLive)) (v1 : Value) (v2 : Value) (h1 : Sl kTLive s0 v1 x1) (h2 : Sl kTLive s0 v2 x2) (r : Bool) (H : laws_eqLiveS.f k x1 x2 = some r) :
    Law Try.prog 111 #[v1, v2] s0 w [] (fun v s1 A1 => v = (.bool r) ∧ A1 = []) := by
  unfold laws_eqLiveS.f at H
  refine Law.intro Try.func111 rfl [(0, v1), (1, v2)] (Nat.le_of_ble_eq_true rfl) (enter_lk ⟨rfl, rfl, trivial⟩) (fun e a hS hF => ?_)
  have hF : Fr 27 a [(0, v1), (1, v2)] := hF
  refine sq ?_
  refine rg ?_
  refine stp hF (p_assign rfl) (by decide) (fun a hF => ?_)
  refine nilN ?_
  refine xn ?_
  refine sq ?_
  refine sq ?_
  refine rg ?_
  refine stp hF (p_move rfl) (by decide) (fun a hF => ?_)
  refine stp hF (p_lenr un_39 rfl h1) (by decide) (fun a hF => ?_)
  refine stp hF (p_move rfl) (by decide) (fun a hF => ?_)
  refine stp hF (p_lenr un_39 rfl h2) (by decide) (fun a hF => ?_)
  refine stp hF (p_neq rfl rfl) (by decide) (fun a hF => ?_)
  refine nilN ?_
  refine xn ?_
  refine cnd hF rfl (fun hc1 => ?_) (fun hc1 => ?_)
  · replace H := hbt hc1 H
    refine sq ?_
    refine rg ?_
    refine stp hF (p_assign rfl) (by decide) (fun a hF => ?_)
    refine nilN ?_
    refine xn ?_
    refine rt ?_
    refine xr ?_
    obtain rfl := hsm H
    exact ret1 hF rfl rfl hS ⟨rfl, rfl⟩
  · replace H := hbf hc1 H
    refine skN ?_
    refine xn ?_
    obtain ⟨x5, H, HK1⟩ := hb H
    refine sqj (fun a w => ∃ (s2 : HF) , St e s2 w [] ∧ Fr 27 a [] ∧ Sub s0 s2 ∧ laws_eqLiveS.c1 k = some r) ?_ ?_
    · skip
      refine sq ?_
      refine rg ?_
      refine stp hF (p_assign rfl) (by decide) (fun a hF => ?_)
      refine nilN ?_
      refine xn ?_
      refine blk ?_
      refine loop_ind (fun k1 a w => ∃ (x3 : Int) (s3 : HF) , St e s3 w [] ∧ Fr 27 a [(0, v1), (1, v2), (5, (.int .i64 x3))] ∧ Sub s0 s3 ∧ laws_eqLiveS.l1 x1 x2 k1 x3 = some x5) k ?_ ?_ ?_
      · skip
        exact ⟨0, s0, hS, hF.cut ⟨rfl, rfl, rfl, trivial⟩, (Sub.refl _), H⟩
      · clear H hS hF
        rintro a w ⟨x3, s3, hS, hF, hg1, H⟩
        exact absurd (show none = some _ from H) (by simp)
      · clear H hS hF
        rintro k1 a w ⟨x3, s3, hS, hF, hg1, H⟩
        rw [laws_eqLiveS.l1.eq_2] at H
        refine sq ?_
        refine sq ?_
        refine rg ?_
        refine stp hF (p_move rfl) (by decide) (fun a hF => ?_)
        refine stp hF (p_move rfl) (by decide) (fun a hF => ?_)
        refine stp hF (p_lenr un_39 rfl (h1.mono hg1)) (by decide) (fun a hF => ?_)
        refine stp hF (p_lss rfl rfl) (by decide) (fun a hF => ?_)
        refine nilN ?_
        refine xn ?_
        refine cnd hF rfl (fun hc2 => ?_) (fun hc2 => ?_)
        · replace H := hbt hc2 H
          refine skN ?_
          refine xn ?_
          refine sq ?_
          refine blk ?_
          refine sq ?_
          replace hS : St e s3 w.drew [] := hS.drewN 1
          refine drw [0, 1, 2, 3, 4, 5, 6, 7, 8, 9] mixed (by kernel_rfl) (by decide) (hF.cut (L' := [(0, v1), (1, v2), (5, (.int .i64 x3)), (11, (.int .i64 x3)), (12, v1), (13, (.int .i64 (x1.length : Int))), (14, (.bool (decide (x3 < (x1.length : Int)))))]) ⟨rfl, rfl, rfl, rfl, rfl, rfl, rfl, trivial⟩) ?_
          clear hF
          generalize w.drew = w at hS ⊢
          refine pk1 rfl (by decide) rfl (by kernel_rfl) rfl (p_move rfl) ?_
          refine pk1 rfl (by decide) rfl (by kernel_rfl) rfl (p_move rfl) ?_
          obtain ⟨hq1, H⟩ := hck H
          obtain ⟨ad1, h3, p1⟩ := p_idxr (P := Try.prog) (i := x3) (h1.mono hg1) un_39 ti_91 hq1.1 hq1.2
          refine pk1 rfl (by decide) rfl (by kernel_rfl) rfl (p1 rfl rfl) ?_
          obtain ⟨c2, h4, p2⟩ := p_ldr_agg (P := Try.prog) h3 ia_91 ti_91
          obtain rfl := kTLive_open h4
          refine pk1 rfl (by decide) rfl (by kernel_rfl) rfl (p2 rfl hS.ro) ?_
          refine pk1 rfl (by decide) rfl (by kernel_rfl) rfl (p_move rfl) ?_
          refine pk1 rfl (by decide) rfl (by kernel_rfl) rfl (p_move rfl) ?_
          obtain ⟨hq2, H⟩ := hck H
          obtain ⟨ad2, h5, p3⟩ := p_idxr (P := Try.prog) (i := x3) (h2.mono hg1) un_39 ti_91 hq2.1 hq2.2
          refine pk1 rfl (by decide) rfl (by kernel_rfl) rfl (p3 rfl rfl) ?_
          obtain ⟨c3, h6, p4⟩ := p_ldr_agg (P := Try.prog) h5 ia_91 ti_91
          obtain rfl := kTLive_open h6
          refine pk1 rfl (by decide) rfl (by kernel_rfl) rfl (p4 rfl hS.ro) ?_
          obtain ⟨x4, hx1, H⟩ := hb H
          refine pkE [6, 5, 4, 2, 1, 0] rfl (by decide) (by kernel_rfl) (by kernel_rfl) (e_callA (fst := []) (vs := [(.agg #[(.int .i64 ((rd x1 x3).Tx)), (.int .i64 ((rd x1 x3).Last)), (.bool ((rd x1 x3).Aborts))]), (.agg #[(.int .i64 ((rd x2 x3).Tx)), (.int .i64 ((rd x2 x3).Last)), (.bool ((rd x2 x3).Aborts))])]) (cap := []) rfl rfl go_156 (St.call (A := []) (B := []) hS (laws_eqLive.spec k1 _ _ (rd x1 x3) (rd x2 x3) _ hx1)) rfl) ?_
          intro v w hR
          obtain ⟨s4, A2, hg2, hS, hR⟩ := hR
          obtain ⟨hv1, rfl⟩ := hR; obtain rfl := hv1.symm
          have hS : St e s4 w [] := hS
          refine ⟨⟨knw rfl rfl rfl (p3 rfl rfl), ⟨knw rfl rfl rfl (p_move rfl), ⟨knw rfl rfl rfl (p_move rfl), ⟨knw rfl rfl rfl (p1 rfl rfl), ⟨knw rfl rfl rfl (p_move rfl), ⟨knw rfl rfl rfl (p_move rfl), trivial⟩⟩⟩⟩⟩⟩, ?_⟩
          refine pk1 rfl (by decide) rfl (by kernel_rfl) rfl (p_not rfl) ?_
          refine pkF (fun a hF => ?_)
          refine xn ?_
          refine cnd hF rfl (fun hc3 => ?_) (fun hc3 => ?_)
          · replace H := hbt hc3 H
            refine sq ?_
            refine rg ?_
            refine stp hF (p_assign rfl) (by decide) (fun a hF => ?_)
            refine nilN ?_
            refine xn ?_
            refine rt ?_
            refine br (xr (xr (br (xr ?_))))
            obtain rfl := hsm H
            have H := hon1 HK1
            obtain rfl := hsm H
            exact ret1 hF rfl rfl hS ⟨rfl, rfl⟩
          · replace H := hbf hc3 H
            refine skN ?_
            refine bn (xn ?_)
            refine rg ?_
            refine stp hF (p_move rfl) (by decide) (fun a hF => ?_)
            refine stp hF (p_add (c := w64 (x3 + 1)) rfl rfl rfl) (by decide) (fun a hF => ?_)
            refine stp hF (p_assign rfl) (by decide) (fun a hF => ?_)
            refine nilN ?_
            refine xn ?_
            exact ⟨(w64 (x3 + 1)), s4, hS, hF.cut ⟨rfl, rfl, rfl, trivial⟩, (hg1.trans hg2), H⟩
        · replace H := hbf hc2 H
          refine exi ?_
          refine xe (xe (hit (xn ?_)))
          obtain rfl := hsm H
          exact ⟨s3, hS, hF.cut trivial, hg1, HK1⟩
    · clear H HK1 hS hF
      rintro a w ⟨s2, hS, hF, hg3, H⟩
      unfold laws_eqLiveS.c1 at H
      refine sq ?_
      refine rg ?_
      refine stp hF (p_assign rfl) (by decide) (fun a hF => ?_)
      refine nilN ?_
      refine xn ?_
      refine rt ?_
      obtain rfl := hsm H
      exact ret1 hF rfl rfl hS ⟨rfl, rfl⟩

def laws_eqRec.f (k : Nat) (x1 : TRec) (x2 : TRec) : Option Bool :=
  (if (decide (x1.Lsn ≠ x2.Lsn)) = true then (some false) else (if (decide (x1.Tx ≠ x2.Tx)) = true then (some false) else (if (decide (x1.Prev ≠ x2.Prev)) = true then (some false) else (if (decide (x1.Kind ≠ x2.Kind)) = true then (some false) else (if (decide (x1.Oid ≠ x2.Oid)) = true then (some false) else ((laws_eqSlot.f k x1.Before x2.Before).bind fun x3 => (if (!x3) = true then (some false) else ((laws_eqSlot.f k x1.After x2.After).bind fun x4 => (if (!x4) = true then (some false) else (if (decide (x1.Next ≠ x2.Next)) = true then (some false) else ((laws_eqLiveS.f k x1.Txs x2.Txs).bind fun x5 => (if (!x5) = true then (some false) else (some true)))))))))))))
set_option maxRecDepth 100000 in
set_option maxHeartbeats 4000000 in
theorem laws_eqRec.spec (k : Nat) (s0 : HF) (w : World) (x1 : TRec) (x2 : TRec) (v1 : Value) (v2 : Value) (v3 : Value) (v4 : Value) (v5 : Value) (v6 : Value) (v7 : Value) (v8 : Value) (v9 : Value) (v10 : Value) (h1 : Sl (Kd.int .i64) s0 v1 x1.Before.O.Ints) (h2 : Sl (Kd.int .i64) s0 v2 x1.Before.O.Refs) (h3 : Sl (Kd.int .i64) s0 v3 x1.After.O.Ints) (h4 : Sl (Kd.int .i64) s0 v4 x1.After.O.Refs) (h5 : Sl kTLive s0 v5 x1.Txs) (h6 : Sl (Kd.int .i64) s0 v6 x2.Before.O.Ints) (h7 : Sl (Kd.int .i64) s0 v7 x2.Before.O.Refs) (h8 : Sl (Kd.int .i64) s0 v8 x2.After.O.Ints) (h9 : Sl (Kd.int .i64) s0 v9 x2.After.O.Refs) (h10 : Sl kTLive s0 v10 x2.Txs) (r : Bool) (H : laws_eqRec.f k x1 x2 = some r) :
    Law Try.prog 43 #[(.agg #[(.int .i64 x1.Lsn), (.int .i64 x1.Tx), (.int .i64 x1.Prev), (.int .i64 x1.Kind), (.int .i64 x1.Oid), (.bool x1.Before.Has), (.int .i64 x1.Before.O.Kind), v1, v2, (.bool x1.After.Has), (.int .i64 x1.After.O.Kind), v3, v4, (.int .i64 x1.Next), v5]), (.agg #[(.int .i64 x2.Lsn), (.int .i64 x2.Tx), (.int .i64 x2.Prev), (.int .i64 x2.Kind), (.int .i64 x2.Oid), (.bool x2.Before.Has), (.int .i64 x2.Before.O.Kind), v6, v7, (.bool x2.After.Has), (.int .i64 x2.After.O.Kind), v8, v9, (.int .i64 x2.Next), v10])] s0 w [] (fun v s1 A1 => v = (.bool r) ∧ A1 = []) := by
  unfold laws_eqRec.f at H
  refine Law.intro Try.func43 rfl [(0, (.agg #[(.int .i64 x1.Lsn), (.int .i64 x1.Tx), (.int .i64 x1.Prev), (.int .i64 x1.Kind), (.int .i64 x1.Oid), (.bool x1.Before.Has), (.int .i64 x1.Before.O.Kind), v1, v2, (.bool x1.After.Has), (.int .i64 x1.After.O.Kind), v3, v4, (.int .i64 x1.Next), v5])), (1, (.agg #[(.int .i64 x2.Lsn), (.int .i64 x2.Tx), (.int .i64 x2.Prev), (.int .i64 x2.Kind), (.int .i64 x2.Oid), (.bool x2.Before.Has), (.int .i64 x2.Before.O.Kind), v6, v7, (.bool x2.After.Has), (.int .i64 x2.After.O.Kind), v8, v9, (.int .i64 x2.Next), v10]))] (Nat.le_of_ble_eq_true rfl) (enter_lk ⟨rfl, rfl, trivial⟩) (fun e a hS hF => ?_)
  have hF : Fr 53 a [(0, (.agg #[(.int .i64 x1.Lsn), (.int .i64 x1.Tx), (.int .i64 x1.Prev), (.int .i64 x1.Kind), (.int .i64 x1.Oid), (.bool x1.Before.Has), (.int .i64 x1.Before.O.Kind), v1, v2, (.bool x1.After.Has), (.int .i64 x1.After.O.Kind), v3, v4, (.int .i64 x1.Next), v5])), (1, (.agg #[(.int .i64 x2.Lsn), (.int .i64 x2.Tx), (.int .i64 x2.Prev), (.int .i64 x2.Kind), (.int .i64 x2.Oid), (.bool x2.Before.Has), (.int .i64 x2.Before.O.Kind), v6, v7, (.bool x2.After.Has), (.int .i64 x2.After.O.Kind), v8, v9, (.int .i64 x2.Next), v10]))] := hF
  refine sq ?_
  refine rg ?_
  refine ste hF (e_box (cs := [(.int .i64 x1.Lsn), (.int .i64 x1.Tx), (.int .i64 x1.Prev), (.int .i64 x1.Kind), (.int .i64 x1.Oid), (.bool x1.Before.Has), (.int .i64 x1.Before.O.Kind), v1, v2, (.bool x1.After.Has), (.int .i64 x1.After.O.Kind), v3, v4, (.int .i64 x1.Next), v5]) hS rfl rfl) (by decide) (fun v w a hR hF => ?_)
  obtain ⟨g1, rfl, hS⟩ := hR
  refine ste hF (e_box (cs := [(.int .i64 x2.Lsn), (.int .i64 x2.Tx), (.int .i64 x2.Prev), (.int .i64 x2.Kind), (.int .i64 x2.Oid), (.bool x2.Before.Has), (.int .i64 x2.Before.O.Kind), v6, v7, (.bool x2.After.Has), (.int .i64 x2.After.O.Kind), v8, v9, (.int .i64 x2.Next), v10]) hS rfl rfl) (by decide) (fun v w a hR hF => ?_)
  obtain ⟨g2, rfl, hS⟩ := hR
  refine stp hF (p_assign rfl) (by decide) (fun a hF => ?_)
  refine nilN ?_
  refine xn ?_
  refine sq ?_
  refine sq ?_
  refine rg ?_
  refine stp hF (p_fldb (o' := 0) rfl fi_41_0 rfl) (by decide) (fun a hF => ?_)
  refine stp hF (p_ldb_one (i := 1) hS rfl rfl ia_3 rfl) (by decide) (fun a hF => ?_)
  refine stp hF (p_fldb (o' := 0) rfl fi_41_0 rfl) (by decide) (fun a hF => ?_)
  refine stp hF (p_ldb_one (i := 0) hS rfl rfl ia_3 rfl) (by decide) (fun a hF => ?_)
  refine stp hF (p_neq rfl rfl) (by decide) (fun a hF => ?_)
  refine nilN ?_
  refine xn ?_
  refine cnd hF rfl (fun hc1 => ?_) (fun hc1 => ?_)
  · replace H := hbt hc1 H
    refine sq ?_
    refine rg ?_
    refine stp hF (p_assign rfl) (by decide) (fun a hF => ?_)
    refine nilN ?_
    refine xn ?_
    refine rt ?_
    refine xr ?_
    obtain rfl := hsm H
    replace hS := hS.sel (is := []) (A' := []) rfl
    exact ret1 hF rfl rfl hS ⟨rfl, rfl⟩
  · replace H := hbf hc1 H
    refine skN ?_
    refine xn ?_
    refine sq ?_
    refine sq ?_
    refine rg ?_
    refine stp hF (p_fldb (o' := 1) rfl fi_41_1 rfl) (by decide) (fun a hF => ?_)
    refine stp hF (p_ldb_one (i := 1) hS rfl rfl ia_3 rfl) (by decide) (fun a hF => ?_)
    refine stp hF (p_fldb (o' := 1) rfl fi_41_1 rfl) (by decide) (fun a hF => ?_)
    refine stp hF (p_ldb_one (i := 0) hS rfl rfl ia_3 rfl) (by decide) (fun a hF => ?_)
    refine stp hF (p_neq rfl rfl) (by decide) (fun a hF => ?_)
    refine nilN ?_
    refine xn ?_
    refine cnd hF rfl (fun hc2 => ?_) (fun hc2 => ?_)
    · replace H := hbt hc2 H
      refine sq ?_
      refine rg ?_
      refine stp hF (p_assign rfl) (by decide) (fun a hF => ?_)
      refine nilN ?_
      refine xn ?_
      refine rt ?_
      refine xr ?_
      obtain rfl := hsm H
      replace hS := hS.sel (is := []) (A' := []) rfl
      exact ret1 hF rfl rfl hS ⟨rfl, rfl⟩
    · replace H := hbf hc2 H
      refine skN ?_
      refine xn ?_
      refine sq ?_
      refine sq ?_
      refine rg ?_
      refine stp hF (p_fldb (o' := 2) rfl fi_41_2 rfl) (by decide) (fun a hF => ?_)
      refine stp hF (p_ldb_one (i := 1) hS rfl rfl ia_3 rfl) (by decide) (fun a hF => ?_)
      refine stp hF (p_fldb (o' := 2) rfl fi_41_2 rfl) (by decide) (fun a hF => ?_)
      refine stp hF (p_ldb_one (i := 0) hS rfl rfl ia_3 rfl) (by decide) (fun a hF => ?_)
      refine stp hF (p_neq rfl rfl) (by decide) (fun a hF => ?_)
      refine nilN ?_
      refine xn ?_
      refine cnd hF rfl (fun hc3 => ?_) (fun hc3 => ?_)
      · replace H := hbt hc3 H
        refine sq ?_
        refine rg ?_
        refine stp hF (p_assign rfl) (by decide) (fun a hF => ?_)
        refine nilN ?_
        refine xn ?_
        refine rt ?_
        refine xr ?_
        obtain rfl := hsm H
        replace hS := hS.sel (is := []) (A' := []) rfl
        exact ret1 hF rfl rfl hS ⟨rfl, rfl⟩
      · replace H := hbf hc3 H
        refine skN ?_
        refine xn ?_
        refine sq ?_
        refine sq ?_
        refine rg ?_
        refine stp hF (p_fldb (o' := 3) rfl fi_41_3 rfl) (by decide) (fun a hF => ?_)
        refine stp hF (p_ldb_one (i := 1) hS rfl rfl ia_3 rfl) (by decide) (fun a hF => ?_)
        refine stp hF (p_fldb (o' := 3) rfl fi_41_3 rfl) (by decide) (fun a hF => ?_)
        refine stp hF (p_ldb_one (i := 0) hS rfl rfl ia_3 rfl) (by decide) (fun a hF => ?_)
        refine stp hF (p_neq rfl rfl) (by decide) (fun a hF => ?_)
        refine nilN ?_
        refine xn ?_
        refine cnd hF rfl (fun hc4 => ?_) (fun hc4 => ?_)
        · replace H := hbt hc4 H
          refine sq ?_
          refine rg ?_
          refine stp hF (p_assign rfl) (by decide) (fun a hF => ?_)
          refine nilN ?_
          refine xn ?_
          refine rt ?_
          refine xr ?_
          obtain rfl := hsm H
          replace hS := hS.sel (is := []) (A' := []) rfl
          exact ret1 hF rfl rfl hS ⟨rfl, rfl⟩
        · replace H := hbf hc4 H
          refine skN ?_
          refine xn ?_
          refine sq ?_
          refine sq ?_
          refine rg ?_
          refine stp hF (p_fldb (o' := 4) rfl fi_41_4 rfl) (by decide) (fun a hF => ?_)
          refine stp hF (p_ldb_one (i := 1) hS rfl rfl ia_3 rfl) (by decide) (fun a hF => ?_)
          refine stp hF (p_fldb (o' := 4) rfl fi_41_4 rfl) (by decide) (fun a hF => ?_)
          refine stp hF (p_ldb_one (i := 0) hS rfl rfl ia_3 rfl) (by decide) (fun a hF => ?_)
          refine stp hF (p_neq rfl rfl) (by decide) (fun a hF => ?_)
          refine nilN ?_
          refine xn ?_
          refine cnd hF rfl (fun hc5 => ?_) (fun hc5 => ?_)
          · replace H := hbt hc5 H
            refine sq ?_
            refine rg ?_
            refine stp hF (p_assign rfl) (by decide) (fun a hF => ?_)
            refine nilN ?_
            refine xn ?_
            refine rt ?_
            refine xr ?_
            obtain rfl := hsm H
            replace hS := hS.sel (is := []) (A' := []) rfl
            exact ret1 hF rfl rfl hS ⟨rfl, rfl⟩
          · replace H := hbf hc5 H
            refine skN ?_
            refine xn ?_
            refine sq ?_
            refine sq ?_
            refine rg ?_
            refine stp hF (p_fldb (o' := 5) rfl fi_41_5 rfl) (by decide) (fun a hF => ?_)
            refine stp hF (p_ldb_agg (i := 1) (l := [(.int .i64 x1.Lsn), (.int .i64 x1.Tx), (.int .i64 x1.Prev), (.int .i64 x1.Kind), (.int .i64 x1.Oid)]) (m := [(.bool x1.Before.Has), (.int .i64 x1.Before.O.Kind), v1, v2]) (r := [(.bool x1.After.Has), (.int .i64 x1.After.O.Kind), v3, v4, (.int .i64 x1.Next), v5]) hS rfl rfl ia_38 ti_38 rfl rfl rfl) (by decide) (fun a hF => ?_)
            refine stp hF (p_fldb (o' := 5) rfl fi_41_5 rfl) (by decide) (fun a hF => ?_)
            refine stp hF (p_ldb_agg (i := 0) (l := [(.int .i64 x2.Lsn), (.int .i64 x2.Tx), (.int .i64 x2.Prev), (.int .i64 x2.Kind), (.int .i64 x2.Oid)]) (m := [(.bool x2.Before.Has), (.int .i64 x2.Before.O.Kind), v6, v7]) (r := [(.bool x2.After.Has), (.int .i64 x2.After.O.Kind), v8, v9, (.int .i64 x2.Next), v10]) hS rfl rfl ia_38 ti_38 rfl rfl rfl) (by decide) (fun a hF => ?_)
            obtain ⟨x3, hx1, H⟩ := hb H
            refine ste hF (e_callA (fst := []) (vs := [(.agg #[(.bool x1.Before.Has), (.int .i64 x1.Before.O.Kind), v1, v2]), (.agg #[(.bool x2.Before.Has), (.int .i64 x2.Before.O.Kind), v6, v7])]) (cap := []) rfl rfl go_71 (St.call (A := []) (B := [pt g2 41 ([(.int .i64 x2.Lsn), (.int .i64 x2.Tx), (.int .i64 x2.Prev), (.int .i64 x2.Kind), (.int .i64 x2.Oid), (.bool x2.Before.Has), (.int .i64 x2.Before.O.Kind), v6, v7, (.bool x2.After.Has), (.int .i64 x2.After.O.Kind), v8, v9, (.int .i64 x2.Next), v10]), pt g1 41 ([(.int .i64 x1.Lsn), (.int .i64 x1.Tx), (.int .i64 x1.Prev), (.int .i64 x1.Kind), (.int .i64 x1.Oid), (.bool x1.Before.Has), (.int .i64 x1.Before.O.Kind), v1, v2, (.bool x1.After.Has), (.int .i64 x1.After.O.Kind), v3, v4, (.int .i64 x1.Next), v5])]) hS (laws_eqSlot.spec k _ _ x1.Before x2.Before v1 v2 v6 v7 h1 h2 h6 h7 _ hx1)) rfl) (by decide) (fun v w a hR hF => ?_)
            obtain ⟨s2, A2, hg1, hS, hR⟩ := hR
            obtain ⟨hv1, rfl⟩ := hR; obtain rfl := hv1.symm
            have hS : St e s2 w [pt g2 41 ([(.int .i64 x2.Lsn), (.int .i64 x2.Tx), (.int .i64 x2.Prev), (.int .i64 x2.Kind), (.int .i64 x2.Oid), (.bool x2.Before.Has), (.int .i64 x2.Before.O.Kind), v6, v7, (.bool x2.After.Has), (.int .i64 x2.After.O.Kind), v8, v9, (.int .i64 x2.Next), v10]), pt g1 41 ([(.int .i64 x1.Lsn), (.int .i64 x1.Tx), (.int .i64 x1.Prev), (.int .i64 x1.Kind), (.int .i64 x1.Oid), (.bool x1.Before.Has), (.int .i64 x1.Before.O.Kind), v1, v2, (.bool x1.After.Has), (.int .i64 x1.After.O.Kind), v3, v4, (.int .i64 x1.Next), v5])] := hS
            refine stp hF (p_not rfl) (by decide) (fun a hF => ?_)
            refine nilN ?_
            refine xn ?_
            refine cnd hF rfl (fun hc6 => ?_) (fun hc6 => ?_)
            · replace H := hbt hc6 H
              refine sq ?_
              refine rg ?_
              refine stp hF (p_assign rfl) (by decide) (fun a hF => ?_)
              refine nilN ?_
              refine xn ?_
              refine rt ?_
              refine xr ?_
              obtain rfl := hsm H
              replace hS := hS.sel (is := []) (A' := []) rfl
              exact ret1 hF rfl rfl hS ⟨rfl, rfl⟩
            · replace H := hbf hc6 H
              refine skN ?_
              refine xn ?_
              refine sq ?_
              refine sq ?_
              refine rg ?_
              refine stp hF (p_fldb (o' := 9) rfl fi_41_6 rfl) (by decide) (fun a hF => ?_)
              refine stp hF (p_ldb_agg (i := 1) (l := [(.int .i64 x1.Lsn), (.int .i64 x1.Tx), (.int .i64 x1.Prev), (.int .i64 x1.Kind), (.int .i64 x1.Oid), (.bool x1.Before.Has), (.int .i64 x1.Before.O.Kind), v1, v2]) (m := [(.bool x1.After.Has), (.int .i64 x1.After.O.Kind), v3, v4]) (r := [(.int .i64 x1.Next), v5]) hS rfl rfl ia_38 ti_38 rfl rfl rfl) (by decide) (fun a hF => ?_)
              refine stp hF (p_fldb (o' := 9) rfl fi_41_6 rfl) (by decide) (fun a hF => ?_)
              refine stp hF (p_ldb_agg (i := 0) (l := [(.int .i64 x2.Lsn), (.int .i64 x2.Tx), (.int .i64 x2.Prev), (.int .i64 x2.Kind), (.int .i64 x2.Oid), (.bool x2.Before.Has), (.int .i64 x2.Before.O.Kind), v6, v7]) (m := [(.bool x2.After.Has), (.int .i64 x2.After.O.Kind), v8, v9]) (r := [(.int .i64 x2.Next), v10]) hS rfl rfl ia_38 ti_38 rfl rfl rfl) (by decide) (fun a hF => ?_)
              obtain ⟨x4, hx2, H⟩ := hb H
              refine ste hF (e_callA (fst := []) (vs := [(.agg #[(.bool x1.After.Has), (.int .i64 x1.After.O.Kind), v3, v4]), (.agg #[(.bool x2.After.Has), (.int .i64 x2.After.O.Kind), v8, v9])]) (cap := []) rfl rfl go_71 (St.call (A := []) (B := [pt g2 41 ([(.int .i64 x2.Lsn), (.int .i64 x2.Tx), (.int .i64 x2.Prev), (.int .i64 x2.Kind), (.int .i64 x2.Oid), (.bool x2.Before.Has), (.int .i64 x2.Before.O.Kind), v6, v7, (.bool x2.After.Has), (.int .i64 x2.After.O.Kind), v8, v9, (.int .i64 x2.Next), v10]), pt g1 41 ([(.int .i64 x1.Lsn), (.int .i64 x1.Tx), (.int .i64 x1.Prev), (.int .i64 x1.Kind), (.int .i64 x1.Oid), (.bool x1.Before.Has), (.int .i64 x1.Before.O.Kind), v1, v2, (.bool x1.After.Has), (.int .i64 x1.After.O.Kind), v3, v4, (.int .i64 x1.Next), v5])]) hS (laws_eqSlot.spec k _ _ x1.After x2.After v3 v4 v8 v9 (h3.mono hg1) (h4.mono hg1) (h8.mono hg1) (h9.mono hg1) _ hx2)) rfl) (by decide) (fun v w a hR hF => ?_)
              obtain ⟨s3, A3, hg2, hS, hR⟩ := hR
              obtain ⟨hv2, rfl⟩ := hR; obtain rfl := hv2.symm
              have hS : St e s3 w [pt g2 41 ([(.int .i64 x2.Lsn), (.int .i64 x2.Tx), (.int .i64 x2.Prev), (.int .i64 x2.Kind), (.int .i64 x2.Oid), (.bool x2.Before.Has), (.int .i64 x2.Before.O.Kind), v6, v7, (.bool x2.After.Has), (.int .i64 x2.After.O.Kind), v8, v9, (.int .i64 x2.Next), v10]), pt g1 41 ([(.int .i64 x1.Lsn), (.int .i64 x1.Tx), (.int .i64 x1.Prev), (.int .i64 x1.Kind), (.int .i64 x1.Oid), (.bool x1.Before.Has), (.int .i64 x1.Before.O.Kind), v1, v2, (.bool x1.After.Has), (.int .i64 x1.After.O.Kind), v3, v4, (.int .i64 x1.Next), v5])] := hS
              refine stp hF (p_not rfl) (by decide) (fun a hF => ?_)
              refine nilN ?_
              refine xn ?_
              refine cnd hF rfl (fun hc7 => ?_) (fun hc7 => ?_)
              · replace H := hbt hc7 H
                refine sq ?_
                refine rg ?_
                refine stp hF (p_assign rfl) (by decide) (fun a hF => ?_)
                refine nilN ?_
                refine xn ?_
                refine rt ?_
                refine xr ?_
                obtain rfl := hsm H
                replace hS := hS.sel (is := []) (A' := []) rfl
                exact ret1 hF rfl rfl hS ⟨rfl, rfl⟩
              · replace H := hbf hc7 H
                refine skN ?_
                refine xn ?_
                refine sq ?_
                refine sq ?_
                refine rg ?_
                refine stp hF (p_fldb (o' := 13) rfl fi_41_7 rfl) (by decide) (fun a hF => ?_)
                refine stp hF (p_ldb_one (i := 1) hS rfl rfl ia_3 rfl) (by decide) (fun a hF => ?_)
                refine stp hF (p_fldb (o' := 13) rfl fi_41_7 rfl) (by decide) (fun a hF => ?_)
                refine stp hF (p_ldb_one (i := 0) hS rfl rfl ia_3 rfl) (by decide) (fun a hF => ?_)
                refine stp hF (p_neq rfl rfl) (by decide) (fun a hF => ?_)
                refine nilN ?_
                refine xn ?_
                refine cnd hF rfl (fun hc8 => ?_) (fun hc8 => ?_)
                · replace H := hbt hc8 H
                  refine sq ?_
                  refine rg ?_
                  refine stp hF (p_assign rfl) (by decide) (fun a hF => ?_)
                  refine nilN ?_
                  refine xn ?_
                  refine rt ?_
                  refine xr ?_
                  obtain rfl := hsm H
                  replace hS := hS.sel (is := []) (A' := []) rfl
                  exact ret1 hF rfl rfl hS ⟨rfl, rfl⟩
                · replace H := hbf hc8 H
                  refine skN ?_
                  refine xn ?_
                  refine sq ?_
                  refine sq ?_
                  refine rg ?_
                  refine stp hF (p_fldb (o' := 14) rfl fi_41_8 rfl) (by decide) (fun a hF => ?_)
                  refine stp hF (p_ldb_one (i := 1) hS rfl rfl ia_39 rfl) (by decide) (fun a hF => ?_)
                  refine stp hF (p_fldb (o' := 14) rfl fi_41_8 rfl) (by decide) (fun a hF => ?_)
                  refine stp hF (p_ldb_one (i := 0) hS rfl rfl ia_39 rfl) (by decide) (fun a hF => ?_)
                  obtain ⟨x5, hx3, H⟩ := hb H
                  refine ste hF (e_callA (fst := []) (vs := [v5, v10]) (cap := []) rfl rfl go_111 (St.call (A := []) (B := [pt g2 41 ([(.int .i64 x2.Lsn), (.int .i64 x2.Tx), (.int .i64 x2.Prev), (.int .i64 x2.Kind), (.int .i64 x2.Oid), (.bool x2.Before.Has), (.int .i64 x2.Before.O.Kind), v6, v7, (.bool x2.After.Has), (.int .i64 x2.After.O.Kind), v8, v9, (.int .i64 x2.Next), v10]), pt g1 41 ([(.int .i64 x1.Lsn), (.int .i64 x1.Tx), (.int .i64 x1.Prev), (.int .i64 x1.Kind), (.int .i64 x1.Oid), (.bool x1.Before.Has), (.int .i64 x1.Before.O.Kind), v1, v2, (.bool x1.After.Has), (.int .i64 x1.After.O.Kind), v3, v4, (.int .i64 x1.Next), v5])]) hS (laws_eqLiveS.spec k _ _ x1.Txs x2.Txs v5 v10 ((h5.mono hg1).mono hg2) ((h10.mono hg1).mono hg2) _ hx3)) rfl) (by decide) (fun v w a hR hF => ?_)
                  obtain ⟨s4, A4, hg3, hS, hR⟩ := hR
                  obtain ⟨hv3, rfl⟩ := hR; obtain rfl := hv3.symm
                  have hS : St e s4 w [pt g2 41 ([(.int .i64 x2.Lsn), (.int .i64 x2.Tx), (.int .i64 x2.Prev), (.int .i64 x2.Kind), (.int .i64 x2.Oid), (.bool x2.Before.Has), (.int .i64 x2.Before.O.Kind), v6, v7, (.bool x2.After.Has), (.int .i64 x2.After.O.Kind), v8, v9, (.int .i64 x2.Next), v10]), pt g1 41 ([(.int .i64 x1.Lsn), (.int .i64 x1.Tx), (.int .i64 x1.Prev), (.int .i64 x1.Kind), (.int .i64 x1.Oid), (.bool x1.Before.Has), (.int .i64 x1.Before.O.Kind), v1, v2, (.bool x1.After.Has), (.int .i64 x1.After.O.Kind), v3, v4, (.int .i64 x1.Next), v5])] := hS
                  refine stp hF (p_not rfl) (by decide) (fun a hF => ?_)
                  refine nilN ?_
                  refine xn ?_
                  refine cnd hF rfl (fun hc9 => ?_) (fun hc9 => ?_)
                  · replace H := hbt hc9 H
                    refine sq ?_
                    refine rg ?_
                    refine stp hF (p_assign rfl) (by decide) (fun a hF => ?_)
                    refine nilN ?_
                    refine xn ?_
                    refine rt ?_
                    refine xr ?_
                    obtain rfl := hsm H
                    replace hS := hS.sel (is := []) (A' := []) rfl
                    exact ret1 hF rfl rfl hS ⟨rfl, rfl⟩
                  · replace H := hbf hc9 H
                    refine skN ?_
                    refine xn ?_
                    refine sq ?_
                    refine rg ?_
                    refine stp hF (p_assign rfl) (by decide) (fun a hF => ?_)
                    refine nilN ?_
                    refine xn ?_
                    refine rt ?_
                    obtain rfl := hsm H
                    replace hS := hS.sel (is := []) (A' := []) rfl
                    exact ret1 hF rfl rfl hS ⟨rfl, rfl⟩

def laws_eqByteS.c1 (k : Nat) : Option Bool :=
  (some true)
def laws_eqByteS.l1 (x1 : (List Int)) (x2 : (List Int)) : Nat → Int → Option (Ex Bool Unit)
  | 0, _ => none
  | k + 1, x3 => (if (decide (x3 < (x1.length : Int))) = true then (if 0 ≤ x3 ∧ x3 < (x1.length : Int) then (if 0 ≤ x3 ∧ x3 < (x2.length : Int) then (if (decide ((rd x1 x3) ≠ (rd x2 x3))) = true then (some (Ex.ret false)) else ((laws_eqByteS.l1 x1 x2 k) (w64 (x3 + 1)))) else none) else none) else (some (Ex.go ())))
def laws_eqByteS.f (k : Nat) (x1 : (List Int)) (x2 : (List Int)) : Option Bool :=
  (if (decide ((x1.length : Int) ≠ (x2.length : Int))) = true then (some false) else (((laws_eqByteS.l1 x1 x2 k 0) : Option (Ex Bool Unit)).bind fun x4 => Ex.on x4 (fun r => some r) (fun y => laws_eqByteS.c1 k)))
set_option maxRecDepth 100000 in
set_option maxHeartbeats 4000000 in
theorem laws_eqByteS.spec (k : Nat) (s0 : HF) (w : World) (x1 : (List Int)) (x2 : (List Int)) (v1 : Value) (v2 : Value) (h1 : Sl (Kd.int .u8) s0 v1 x1) (h2 : Sl (Kd.int .u8) s0 v2 x2) (r : Bool) (H : laws_eqByteS.f k x1 x2 = some r) :
    Law Try.prog 15 #[v1, v2] s0 w [] (fun v s1 A1 => v = (.bool r) ∧ A1 = []) := by
  unfold laws_eqByteS.f at H
  refine Law.intro Try.func15 rfl [(0, v1), (1, v2)] (Nat.le_of_ble_eq_true rfl) (enter_lk ⟨rfl, rfl, trivial⟩) (fun e a hS hF => ?_)
  have hF : Fr 26 a [(0, v1), (1, v2)] := hF
  refine sq ?_
  refine rg ?_
  refine stp hF (p_assign rfl) (by decide) (fun a hF => ?_)
  refine nilN ?_
  refine xn ?_
  refine sq ?_
  refine sq ?_
  refine rg ?_
  refine stp hF (p_move rfl) (by decide) (fun a hF => ?_)
  refine stp hF (p_lenr un_24 rfl h1) (by decide) (fun a hF => ?_)
  refine stp hF (p_move rfl) (by decide) (fun a hF => ?_)
  refine stp hF (p_lenr un_24 rfl h2) (by decide) (fun a hF => ?_)
  refine stp hF (p_neq rfl rfl) (by decide) (fun a hF => ?_)
  refine nilN ?_
  refine xn ?_
  refine cnd hF rfl (fun hc1 => ?_) (fun hc1 => ?_)
  · replace H := hbt hc1 H
    refine sq ?_
    refine rg ?_
    refine stp hF (p_assign rfl) (by decide) (fun a hF => ?_)
    refine nilN ?_
    refine xn ?_
    refine rt ?_
    refine xr ?_
    obtain rfl := hsm H
    exact ret1 hF rfl rfl hS ⟨rfl, rfl⟩
  · replace H := hbf hc1 H
    refine skN ?_
    refine xn ?_
    obtain ⟨x4, H, HK1⟩ := hb H
    refine sqj (fun a w => St e s0 w [] ∧ Fr 26 a [] ∧ laws_eqByteS.c1 k = some r) ?_ ?_
    · skip
      refine sq ?_
      refine rg ?_
      refine stp hF (p_assign rfl) (by decide) (fun a hF => ?_)
      refine nilN ?_
      refine xn ?_
      refine blk ?_
      refine loop_ind (fun k1 a w => ∃ (x3 : Int) , St e s0 w [] ∧ Fr 26 a [(0, v1), (1, v2), (5, (.int .i64 x3))] ∧ laws_eqByteS.l1 x1 x2 k1 x3 = some x4) k ?_ ?_ ?_
      · skip
        exact ⟨0, hS, hF.cut ⟨rfl, rfl, rfl, trivial⟩, H⟩
      · clear H hS hF
        rintro a w ⟨x3, hS, hF, H⟩
        exact absurd (show none = some _ from H) (by simp)
      · clear H hS hF
        rintro k1 a w ⟨x3, hS, hF, H⟩
        rw [laws_eqByteS.l1.eq_2] at H
        refine sq ?_
        refine sq ?_
        refine rg ?_
        refine stp hF (p_move rfl) (by decide) (fun a hF => ?_)
        refine stp hF (p_move rfl) (by decide) (fun a hF => ?_)
        refine stp hF (p_lenr un_24 rfl h1) (by decide) (fun a hF => ?_)
        refine stp hF (p_lss rfl rfl) (by decide) (fun a hF => ?_)
        refine nilN ?_
        refine xn ?_
        refine cnd hF rfl (fun hc2 => ?_) (fun hc2 => ?_)
        · replace H := hbt hc2 H
          refine skN ?_
          refine xn ?_
          refine sq ?_
          refine blk ?_
          refine sq ?_
          replace hS : St e s0 w.drew [] := hS.drewN 1
          refine drw [0, 1, 2, 3, 4, 5, 6, 7, 8] mixed (by kernel_rfl) (by decide) (hF.cut (L' := [(0, v1), (1, v2), (5, (.int .i64 x3)), (11, (.int .i64 x3)), (12, v1), (13, (.int .i64 (x1.length : Int))), (14, (.bool (decide (x3 < (x1.length : Int)))))]) ⟨rfl, rfl, rfl, rfl, rfl, rfl, rfl, trivial⟩) ?_
          clear hF
          generalize w.drew = w at hS ⊢
          refine pk1 rfl (by decide) rfl (by kernel_rfl) rfl (p_move rfl) ?_
          refine pk1 rfl (by decide) rfl (by kernel_rfl) rfl (p_move rfl) ?_
          obtain ⟨hq1, H⟩ := hck H
          obtain ⟨ad1, h3, p1⟩ := p_idxr (P := Try.prog) (i := x3) h1 un_24 ti_5 hq1.1 hq1.2
          refine pk1 rfl (by decide) rfl (by kernel_rfl) rfl (p1 rfl rfl) ?_
          refine pk1 rfl (by decide) rfl (by kernel_rfl) rfl (p_ldr_int rfl hS h3 ia_5) ?_
          refine pk1 rfl (by decide) rfl (by kernel_rfl) rfl (p_move rfl) ?_
          refine pk1 rfl (by decide) rfl (by kernel_rfl) rfl (p_move rfl) ?_
          obtain ⟨hq2, H⟩ := hck H
          obtain ⟨ad2, h4, p2⟩ := p_idxr (P := Try.prog) (i := x3) h2 un_24 ti_5 hq2.1 hq2.2
          refine pk1 rfl (by decide) rfl (by kernel_rfl) rfl (p2 rfl rfl) ?_
          refine pk1 rfl (by decide) rfl (by kernel_rfl) rfl (p_ldr_int rfl hS h4 ia_5) ?_
          refine pk1 rfl (by decide) rfl (by kernel_rfl) rfl (p_neq rfl rfl) ?_
          refine pkF (fun a hF => ?_)
          refine xn ?_
          refine cnd hF rfl (fun hc3 => ?_) (fun hc3 => ?_)
          · replace H := hbt hc3 H
            refine sq ?_
            refine rg ?_
            refine stp hF (p_assign rfl) (by decide) (fun a hF => ?_)
            refine nilN ?_
            refine xn ?_
            refine rt ?_
            refine br (xr (xr (br (xr ?_))))
            obtain rfl := hsm H
            have H := hon1 HK1
            obtain rfl := hsm H
            exact ret1 hF rfl rfl hS ⟨rfl, rfl⟩
          · replace H := hbf hc3 H
            refine skN ?_
            refine bn (xn ?_)
            refine rg ?_
            refine stp hF (p_move rfl) (by decide) (fun a hF => ?_)
            refine stp hF (p_add (c := w64 (x3 + 1)) rfl rfl rfl) (by decide) (fun a hF => ?_)
            refine stp hF (p_assign rfl) (by decide) (fun a hF => ?_)
            refine nilN ?_
            refine xn ?_
            exact ⟨(w64 (x3 + 1)), hS, hF.cut ⟨rfl, rfl, rfl, trivial⟩, H⟩
        · replace H := hbf hc2 H
          refine exi ?_
          refine xe (xe (hit (xn ?_)))
          obtain rfl := hsm H
          exact ⟨hS, hF.cut trivial, HK1⟩
    · clear H HK1 hS hF
      rintro a w ⟨hS, hF, H⟩
      unfold laws_eqByteS.c1 at H
      refine sq ?_
      refine rg ?_
      refine stp hF (p_assign rfl) (by decide) (fun a hF => ?_)
      refine nilN ?_
      refine xn ?_
      refine rt ?_
      obtain rfl := hsm H
      exact ret1 hF rfl rfl hS ⟨rfl, rfl⟩

def laws_markByteS.c1 (k : Nat) (x1 : (List Int)) (x2 : Int) : Option (Int × (List Int)) :=
  (some (x2, x1))
def laws_markByteS.l1 : Nat → (List Int) → Int → Int → Option ((List Int) × Int)
  | 0, _, _, _ => none
  | k + 1, x3, x4, x5 => (if (decide (x5 < (x3.length : Int))) = true then (if 0 ≤ x5 ∧ x5 < (x3.length : Int) then ((laws_markByteS.l1 k) (wr x3 x5 (w8 (x4))) (w64 (x4 + 1)) (w64 (x5 + 1))) else none) else (some (x3, x4)))
def laws_markByteS.f (k : Nat) (x6 : (List Int)) (x7 : Int) : Option (Int × (List Int)) :=
  (((laws_markByteS.l1 k x6 x7 0) : Option ((List Int) × Int)).bind fun x8 => laws_markByteS.c1 k x8.1 x8.2)
set_option maxRecDepth 100000 in
set_option maxHeartbeats 4000000 in
theorem laws_markByteS.spec (k : Nat) (s0 : HF) (w : World) (x6 : (List Int)) (x7 : Int) (v1 : Value) (r : Int × (List Int)) (H : laws_markByteS.f k x6 x7 = some r) :
    Law Try.prog 18 #[v1, (.int .i64 x7)] s0 w [Ow (Kd.int .u8) 5 v1 x6] (fun v s1 A1 => v = (.int .i64 r.1) ∧ A1 = [Ow (Kd.int .u8) 5 v1 r.2]) := by
  unfold laws_markByteS.f at H
  refine Law.intro Try.func18 rfl [(0, v1), (1, (.int .i64 x7))] (Nat.le_of_ble_eq_true rfl) (enter_lk ⟨rfl, rfl, trivial⟩) (fun e a hS hF => ?_)
  have hF : Fr 20 a [(0, v1), (1, (.int .i64 x7))] := hF
  refine sq ?_
  refine rg ?_
  refine stp hF (p_assign rfl) (by decide) (fun a hF => ?_)
  refine nilN ?_
  refine xn ?_
  obtain ⟨x8, H, HK1⟩ := hb H
  refine sqj (fun a w => ∃ (x1 : (List Int)) (x2 : Int) , St e s0 w [Ow (Kd.int .u8) 5 v1 x1] ∧ Fr 20 a [(1, (.int .i64 x2))] ∧ laws_markByteS.c1 k x1 x2 = some r) ?_ ?_
  · skip
    refine sq ?_
    refine rg ?_
    refine stp hF (p_assign rfl) (by decide) (fun a hF => ?_)
    refine nilN ?_
    refine xn ?_
    refine blk ?_
    refine loop_ind (fun k1 a w => ∃ (x3 : (List Int)) (x4 : Int) (x5 : Int) , St e s0 w [Ow (Kd.int .u8) 5 v1 x3] ∧ Fr 20 a [(0, v1), (1, (.int .i64 x4)), (5, (.int .i64 x5))] ∧ laws_markByteS.l1 k1 x3 x4 x5 = some x8) k ?_ ?_ ?_
    · skip
      exact ⟨x6, x7, 0, hS, hF.cut ⟨rfl, rfl, rfl, trivial⟩, H⟩
    · clear H hS hF
      rintro a w ⟨x3, x4, x5, hS, hF, H⟩
      exact absurd (show none = some _ from H) (by simp)
    · clear H hS hF
      rintro k1 a w ⟨x3, x4, x5, hS, hF, H⟩
      rw [laws_markByteS.l1.eq_2] at H
      refine sq ?_
      refine sq ?_
      refine rg ?_
      refine stp hF (p_move rfl) (by decide) (fun a hF => ?_)
      refine stp hF (p_move rfl) (by decide) (fun a hF => ?_)
      refine stp hF (p_leno (i := 0) hS rfl un_24 rfl) (by decide) (fun a hF => ?_)
      refine stp hF (p_lss rfl rfl) (by decide) (fun a hF => ?_)
      refine nilN ?_
      refine xn ?_
      refine cnd hF rfl (fun hc1 => ?_) (fun hc1 => ?_)
      · replace H := hbt hc1 H
        refine skN ?_
        refine xn ?_
        refine sq ?_
        refine blk ?_
        refine sq ?_
        refine rg ?_
        refine stp hF (p_move rfl) (by decide) (fun a hF => ?_)
        refine stp hF (p_move rfl) (by decide) (fun a hF => ?_)
        refine stp hF (p_move rfl) (by decide) (fun a hF => ?_)
        refine stp hF (p_cvint (c := w8 (x4)) un_3 un_5 rfl rfl) (by decide) (fun a hF => ?_)
        obtain ⟨hq1, H⟩ := hck H
        obtain ⟨b1, o1, q1, hv1, p1⟩ := p_idxo (n := 0) (i := x5) hS rfl un_24 ti_5 hq1.1 hq1.2
        refine stp hF (p1 rfl rfl) (by decide) (fun a hF => ?_)
        refine ste0 hF (e_sto (n := 0) (c := w8 (x4)) hS rfl hv1 (Lens.id _) hq1.1 hq1.2 rfl rfl rfl ti_5 rfl rfl) (fun v w a hR hF => ?_)
        have hS : St e s0 w [Ow (Kd.int .u8) 5 v1 (wr x3 x5 (w8 (x4)))] := hR
        refine nilN ?_
        refine xn ?_
        refine rg ?_
        refine stp hF (p_move rfl) (by decide) (fun a hF => ?_)
        refine stp hF (p_add (c := w64 (x4 + 1)) rfl rfl rfl) (by decide) (fun a hF => ?_)
        refine stp hF (p_assign rfl) (by decide) (fun a hF => ?_)
        refine nilN ?_
        refine bn (xn ?_)
        refine rg ?_
        refine stp hF (p_move rfl) (by decide) (fun a hF => ?_)
        refine stp hF (p_add (c := w64 (x5 + 1)) rfl rfl rfl) (by decide) (fun a hF => ?_)
        refine stp hF (p_assign rfl) (by decide) (fun a hF => ?_)
        refine nilN ?_
        refine xn ?_
        exact ⟨(wr x3 x5 (w8 (x4))), (w64 (x4 + 1)), (w64 (x5 + 1)), hS, hF.cut ⟨rfl, rfl, rfl, trivial⟩, H⟩
      · replace H := hbf hc1 H
        refine exi ?_
        refine xe (xe (hit (xn ?_)))
        obtain rfl := hsm H
        exact ⟨x3, x4, hS, hF.cut ⟨rfl, trivial⟩, HK1⟩
  · clear H HK1 hS hF
    rintro a w ⟨x1, x2, hS, hF, H⟩
    unfold laws_markByteS.c1 at H
    refine sq ?_
    refine rg ?_
    refine stp hF (p_move rfl) (by decide) (fun a hF => ?_)
    refine stp hF (p_assign rfl) (by decide) (fun a hF => ?_)
    refine nilN ?_
    refine xn ?_
    refine rt ?_
    obtain rfl := hsm H
    exact ret1 hF rfl rfl hS ⟨rfl, rfl⟩

def laws_markIntS.c1 (k : Nat) (x1 : (List Int)) (x2 : Int) : Option (Int × (List Int)) :=
  (some (x2, x1))
def laws_markIntS.l1 : Nat → (List Int) → Int → Int → Option ((List Int) × Int)
  | 0, _, _, _ => none
  | k + 1, x3, x4, x5 => (if (decide (x5 < (x3.length : Int))) = true then (if 0 ≤ x5 ∧ x5 < (x3.length : Int) then ((laws_markIntS.l1 k) (wr x3 x5 x4) (w64 (x4 + 1)) (w64 (x5 + 1))) else none) else (some (x3, x4)))
def laws_markIntS.f (k : Nat) (x6 : (List Int)) (x7 : Int) : Option (Int × (List Int)) :=
  (((laws_markIntS.l1 k x6 x7 0) : Option ((List Int) × Int)).bind fun x8 => laws_markIntS.c1 k x8.1 x8.2)
set_option maxRecDepth 100000 in
set_option maxHeartbeats 4000000 in
theorem laws_markIntS.spec (k : Nat) (s0 : HF) (w : World) (x6 : (List Int)) (x7 : Int) (v1 : Value) (r : Int × (List Int)) (H : laws_markIntS.f k x6 x7 = some r) :
    Law Try.prog 72 #[v1, (.int .i64 x7)] s0 w [Ow (Kd.int .i64) 3 v1 x6] (fun v s1 A1 => v = (.int .i64 r.1) ∧ A1 = [Ow (Kd.int .i64) 3 v1 r.2]) := by
  unfold laws_markIntS.f at H
  refine Law.intro Try.func72 rfl [(0, v1), (1, (.int .i64 x7))] (Nat.le_of_ble_eq_true rfl) (enter_lk ⟨rfl, rfl, trivial⟩) (fun e a hS hF => ?_)
  have hF : Fr 19 a [(0, v1), (1, (.int .i64 x7))] := hF
  refine sq ?_
  refine rg ?_
  refine stp hF (p_assign rfl) (by decide) (fun a hF => ?_)
  refine nilN ?_
  refine xn ?_
  obtain ⟨x8, H, HK1⟩ := hb H
  refine sqj (fun a w => ∃ (x1 : (List Int)) (x2 : Int) , St e s0 w [Ow (Kd.int .i64) 3 v1 x1] ∧ Fr 19 a [(1, (.int .i64 x2))] ∧ laws_markIntS.c1 k x1 x2 = some r) ?_ ?_
  · skip
    refine sq ?_
    refine rg ?_
    refine stp hF (p_assign rfl) (by decide) (fun a hF => ?_)
    refine nilN ?_
    refine xn ?_
    refine blk ?_
    refine loop_ind (fun k1 a w => ∃ (x3 : (List Int)) (x4 : Int) (x5 : Int) , St e s0 w [Ow (Kd.int .i64) 3 v1 x3] ∧ Fr 19 a [(0, v1), (1, (.int .i64 x4)), (5, (.int .i64 x5))] ∧ laws_markIntS.l1 k1 x3 x4 x5 = some x8) k ?_ ?_ ?_
    · skip
      exact ⟨x6, x7, 0, hS, hF.cut ⟨rfl, rfl, rfl, trivial⟩, H⟩
    · clear H hS hF
      rintro a w ⟨x3, x4, x5, hS, hF, H⟩
      exact absurd (show none = some _ from H) (by simp)
    · clear H hS hF
      rintro k1 a w ⟨x3, x4, x5, hS, hF, H⟩
      rw [laws_markIntS.l1.eq_2] at H
      refine sq ?_
      refine sq ?_
      refine rg ?_
      refine stp hF (p_move rfl) (by decide) (fun a hF => ?_)
      refine stp hF (p_move rfl) (by decide) (fun a hF => ?_)
      refine stp hF (p_leno (i := 0) hS rfl un_34 rfl) (by decide) (fun a hF => ?_)
      refine stp hF (p_lss rfl rfl) (by decide) (fun a hF => ?_)
      refine nilN ?_
      refine xn ?_
      refine cnd hF rfl (fun hc1 => ?_) (fun hc1 => ?_)
      · replace H := hbt hc1 H
        refine skN ?_
        refine xn ?_
        refine sq ?_
        refine blk ?_
        refine sq ?_
        refine rg ?_
        refine stp hF (p_move rfl) (by decide) (fun a hF => ?_)
        refine stp hF (p_move rfl) (by decide) (fun a hF => ?_)
        refine stp hF (p_move rfl) (by decide) (fun a hF => ?_)
        obtain ⟨hq1, H⟩ := hck H
        obtain ⟨b1, o1, q1, hv1, p1⟩ := p_idxo (n := 0) (i := x5) hS rfl un_34 ti_3 hq1.1 hq1.2
        refine stp hF (p1 rfl rfl) (by decide) (fun a hF => ?_)
        refine ste0 hF (e_sto (n := 0) (c := x4) hS rfl hv1 (Lens.id _) hq1.1 hq1.2 rfl rfl rfl ti_3 rfl rfl) (fun v w a hR hF => ?_)
        have hS : St e s0 w [Ow (Kd.int .i64) 3 v1 (wr x3 x5 x4)] := hR
        refine nilN ?_
        refine xn ?_
        refine rg ?_
        refine stp hF (p_move rfl) (by decide) (fun a hF => ?_)
        refine stp hF (p_add (c := w64 (x4 + 1)) rfl rfl rfl) (by decide) (fun a hF => ?_)
        refine stp hF (p_assign rfl) (by decide) (fun a hF => ?_)
        refine nilN ?_
        refine bn (xn ?_)
        refine rg ?_
        refine stp hF (p_move rfl) (by decide) (fun a hF => ?_)
        refine stp hF (p_add (c := w64 (x5 + 1)) rfl rfl rfl) (by decide) (fun a hF => ?_)
        refine stp hF (p_assign rfl) (by decide) (fun a hF => ?_)
        refine nilN ?_
        refine xn ?_
        exact ⟨(wr x3 x5 x4), (w64 (x4 + 1)), (w64 (x5 + 1)), hS, hF.cut ⟨rfl, rfl, rfl, trivial⟩, H⟩
      · replace H := hbf hc1 H
        refine exi ?_
        refine xe (xe (hit (xn ?_)))
        obtain rfl := hsm H
        exact ⟨x3, x4, hS, hF.cut ⟨rfl, trivial⟩, HK1⟩
  · clear H HK1 hS hF
    rintro a w ⟨x1, x2, hS, hF, H⟩
    unfold laws_markIntS.c1 at H
    refine sq ?_
    refine rg ?_
    refine stp hF (p_move rfl) (by decide) (fun a hF => ?_)
    refine stp hF (p_assign rfl) (by decide) (fun a hF => ?_)
    refine nilN ?_
    refine xn ?_
    refine rt ?_
    obtain rfl := hsm H
    exact ret1 hF rfl rfl hS ⟨rfl, rfl⟩

def laws_markObj.f (k : Nat) (x1 : TObj) (x2 : Int) : Option (Int × (List Int) × (List Int)) :=
  ((laws_markIntS.f k x1.Ints x2).bind fun x3 => ((laws_markIntS.f k x1.Refs x3.1).bind fun x4 => (some (x4.1, x3.2, x4.2))))
set_option maxRecDepth 100000 in
set_option maxHeartbeats 4000000 in
theorem laws_markObj.spec (k : Nat) (s0 : HF) (w : World) (x1 : TObj) (x2 : Int) (v1 : Value) (v2 : Value) (r : Int × (List Int) × (List Int)) (H : laws_markObj.f k x1 x2 = some r) :
    Law Try.prog 157 #[(.agg #[(.int .i64 x1.Kind), v1, v2]), (.int .i64 x2)] s0 w [Ow (Kd.int .i64) 3 v1 x1.Ints, Ow (Kd.int .i64) 3 v2 x1.Refs] (fun v s1 A1 => v = (.int .i64 r.1) ∧ A1 = [Ow (Kd.int .i64) 3 v1 r.2.1, Ow (Kd.int .i64) 3 v2 r.2.2]) := by
  unfold laws_markObj.f at H
  refine Law.intro Try.func157 rfl [(0, (.agg #[(.int .i64 x1.Kind), v1, v2])), (1, (.int .i64 x2))] (Nat.le_of_ble_eq_true rfl) (enter_lk ⟨rfl, rfl, trivial⟩) (fun e a hS hF => ?_)
  have hF : Fr 14 a [(0, (.agg #[(.int .i64 x1.Kind), v1, v2])), (1, (.int .i64 x2))] := hF
  refine sq ?_
  refine rg ?_
  refine ste hF (e_box (cs := [(.int .i64 x1.Kind), v1, v2]) hS rfl rfl) (by decide) (fun v w a hR hF => ?_)
  obtain ⟨g1, rfl, hS⟩ := hR
  refine stp hF (p_assign rfl) (by decide) (fun a hF => ?_)
  refine nilN ?_
  refine xn ?_
  refine sq ?_
  refine rg ?_
  refine stp hF (p_fldb (o' := 1) rfl fi_36_1 rfl) (by decide) (fun a hF => ?_)
  refine stp hF (p_ldb_one (i := 0) hS rfl rfl ia_34 rfl) (by decide) (fun a hF => ?_)
  refine stp hF (p_move rfl) (by decide) (fun a hF => ?_)
  replace hS := hS.sel (is := [1, 0, 0]) (A' := [Ow (Kd.int .i64) 3 v1 x1.Ints, pt g1 36 ([(.int .i64 x1.Kind), v1, v2]), Ow (Kd.int .i64) 3 v2 x1.Refs]) rfl
  obtain ⟨x3, hx1, H⟩ := hb H
  refine ste hF (e_callA (fst := []) (vs := [v1, (.int .i64 x2)]) (cap := []) rfl rfl go_72 (St.call (A := [Ow (Kd.int .i64) 3 v1 x1.Ints]) (B := [pt g1 36 ([(.int .i64 x1.Kind), v1, v2]), Ow (Kd.int .i64) 3 v2 x1.Refs]) hS (laws_markIntS.spec k _ _ x1.Ints x2 v1 _ hx1)) rfl) (by decide) (fun v w a hR hF => ?_)
  obtain ⟨s2, A2, hg1, hS, hR⟩ := hR
  obtain ⟨hv1, rfl⟩ := hR; obtain rfl := hv1.symm
  have hS : St e s2 w [Ow (Kd.int .i64) 3 v1 x3.2, pt g1 36 ([(.int .i64 x1.Kind), v1, v2]), Ow (Kd.int .i64) 3 v2 x1.Refs] := hS
  refine stp hF (p_assign rfl) (by decide) (fun a hF => ?_)
  refine nilN ?_
  refine xn ?_
  refine sq ?_
  refine rg ?_
  refine stp hF (p_fldb (o' := 2) rfl fi_36_2 rfl) (by decide) (fun a hF => ?_)
  refine stp hF (p_ldb_one (i := 1) hS rfl rfl ia_34 rfl) (by decide) (fun a hF => ?_)
  refine stp hF (p_move rfl) (by decide) (fun a hF => ?_)
  replace hS := hS.sel (is := [2, 0, 0]) (A' := [Ow (Kd.int .i64) 3 v2 x1.Refs, Ow (Kd.int .i64) 3 v1 x3.2, pt g1 36 ([(.int .i64 x1.Kind), v1, v2])]) rfl
  obtain ⟨x4, hx2, H⟩ := hb H
  refine ste hF (e_callA (fst := []) (vs := [v2, (.int .i64 x3.1)]) (cap := []) rfl rfl go_72 (St.call (A := [Ow (Kd.int .i64) 3 v2 x1.Refs]) (B := [Ow (Kd.int .i64) 3 v1 x3.2, pt g1 36 ([(.int .i64 x1.Kind), v1, v2])]) hS (laws_markIntS.spec k _ _ x1.Refs x3.1 v2 _ hx2)) rfl) (by decide) (fun v w a hR hF => ?_)
  obtain ⟨s3, A3, hg2, hS, hR⟩ := hR
  obtain ⟨hv2, rfl⟩ := hR; obtain rfl := hv2.symm
  have hS : St e s3 w [Ow (Kd.int .i64) 3 v2 x4.2, Ow (Kd.int .i64) 3 v1 x3.2, pt g1 36 ([(.int .i64 x1.Kind), v1, v2])] := hS
  refine stp hF (p_assign rfl) (by decide) (fun a hF => ?_)
  refine nilN ?_
  refine xn ?_
  refine sq ?_
  refine rg ?_
  refine stp hF (p_move rfl) (by decide) (fun a hF => ?_)
  refine stp hF (p_assign rfl) (by decide) (fun a hF => ?_)
  refine nilN ?_
  refine xn ?_
  refine rt ?_
  obtain rfl := hsm H
  replace hS := hS.sel (is := [1, 0]) (A' := [Ow (Kd.int .i64) 3 v1 x3.2, Ow (Kd.int .i64) 3 v2 x4.2]) rfl
  exact ret1 hF rfl rfl hS ⟨rfl, rfl⟩

def laws_markSlot.f (k : Nat) (x1 : TSlot) (x2 : Int) : Option (Int × (List Int) × (List Int)) :=
  ((laws_markObj.f k x1.O x2).bind fun x3 => (some (x3.1, x3.2.1, x3.2.2)))
set_option maxRecDepth 100000 in
set_option maxHeartbeats 4000000 in
theorem laws_markSlot.spec (k : Nat) (s0 : HF) (w : World) (x1 : TSlot) (x2 : Int) (v1 : Value) (v2 : Value) (r : Int × (List Int) × (List Int)) (H : laws_markSlot.f k x1 x2 = some r) :
    Law Try.prog 112 #[(.agg #[(.bool x1.Has), (.int .i64 x1.O.Kind), v1, v2]), (.int .i64 x2)] s0 w [Ow (Kd.int .i64) 3 v1 x1.O.Ints, Ow (Kd.int .i64) 3 v2 x1.O.Refs] (fun v s1 A1 => v = (.int .i64 r.1) ∧ A1 = [Ow (Kd.int .i64) 3 v1 r.2.1, Ow (Kd.int .i64) 3 v2 r.2.2]) := by
  unfold laws_markSlot.f at H
  refine Law.intro Try.func112 rfl [(0, (.agg #[(.bool x1.Has), (.int .i64 x1.O.Kind), v1, v2])), (1, (.int .i64 x2))] (Nat.le_of_ble_eq_true rfl) (enter_lk ⟨rfl, rfl, trivial⟩) (fun e a hS hF => ?_)
  have hF : Fr 10 a [(0, (.agg #[(.bool x1.Has), (.int .i64 x1.O.Kind), v1, v2])), (1, (.int .i64 x2))] := hF
  refine sq ?_
  refine rg ?_
  refine ste hF (e_box (cs := [(.bool x1.Has), (.int .i64 x1.O.Kind), v1, v2]) hS rfl rfl) (by decide) (fun v w a hR hF => ?_)
  obtain ⟨g1, rfl, hS⟩ := hR
  refine stp hF (p_assign rfl) (by decide) (fun a hF => ?_)
  refine nilN ?_
  refine xn ?_
  refine sq ?_
  refine rg ?_
  refine stp hF (p_fldb (o' := 1) rfl fi_38_1 rfl) (by decide) (fun a hF => ?_)
  refine stp hF (p_ldb_agg (i := 0) (l := [(.bool x1.Has)]) (m := [(.int .i64 x1.O.Kind), v1, v2]) (r := []) hS rfl rfl ia_36 ti_36 rfl rfl rfl) (by decide) (fun a hF => ?_)
  refine stp hF (p_move rfl) (by decide) (fun a hF => ?_)
  replace hS := hS.sel (is := [1, 1, 0]) (A' := [Ow (Kd.int .i64) 3 v1 x1.O.Ints, Ow (Kd.int .i64) 3 v2 x1.O.Refs, pt g1 38 ([(.bool x1.Has), (.int .i64 x1.O.Kind), v1, v2])]) rfl
  obtain ⟨x3, hx1, H⟩ := hb H
  refine ste hF (e_callA (fst := []) (vs := [(.agg #[(.int .i64 x1.O.Kind), v1, v2]), (.int .i64 x2)]) (cap := []) rfl rfl go_157 (St.call (A := [Ow (Kd.int .i64) 3 v1 x1.O.Ints, Ow (Kd.int .i64) 3 v2 x1.O.Refs]) (B := [pt g1 38 ([(.bool x1.Has), (.int .i64 x1.O.Kind), v1, v2])]) hS (laws_markObj.spec k _ _ x1.O x2 v1 v2 _ hx1)) rfl) (by decide) (fun v w a hR hF => ?_)
  obtain ⟨s2, A2, hg1, hS, hR⟩ := hR
  obtain ⟨hv1, rfl⟩ := hR; obtain rfl := hv1.symm
  have hS : St e s2 w [Ow (Kd.int .i64) 3 v1 x3.2.1, Ow (Kd.int .i64) 3 v2 x3.2.2, pt g1 38 ([(.bool x1.Has), (.int .i64 x1.O.Kind), v1, v2])] := hS
  refine stp hF (p_assign rfl) (by decide) (fun a hF => ?_)
  refine nilN ?_
  refine xn ?_
  refine sq ?_
  refine rg ?_
  refine stp hF (p_move rfl) (by decide) (fun a hF => ?_)
  refine stp hF (p_assign rfl) (by decide) (fun a hF => ?_)
  refine nilN ?_
  refine xn ?_
  refine rt ?_
  obtain rfl := hsm H
  replace hS := hS.sel (is := [0, 0]) (A' := [Ow (Kd.int .i64) 3 v1 x3.2.1, Ow (Kd.int .i64) 3 v2 x3.2.2]) rfl
  exact ret1 hF rfl rfl hS ⟨rfl, rfl⟩

def laws_markLiveS.c1 (k : Nat) (x1 : (List TLive)) (x2 : Int) : Option (Int × (List TLive)) :=
  (some (x2, x1))
def laws_markLiveS.l1 : Nat → (List TLive) → Int → Int → Option ((List TLive) × Int)
  | 0, _, _, _ => none
  | k + 1, x3, x4, x5 => (if (decide (x5 < (x3.length : Int))) = true then (if 0 ≤ x5 ∧ x5 < (x3.length : Int) then (if 0 ≤ x5 ∧ x5 < ((wr x3 x5 ({ (rd x3 x5) with Tx := x4 })).length : Int) then (if 0 ≤ x5 ∧ x5 < ((wr (wr x3 x5 ({ (rd x3 x5) with Tx := x4 })) x5 ({ (rd (wr x3 x5 ({ (rd x3 x5) with Tx := x4 })) x5) with Last := w64 (x4 + 1) })).length : Int) then ((laws_markLiveS.l1 k) (wr (wr (wr x3 x5 ({ (rd x3 x5) with Tx := x4 })) x5 ({ (rd (wr x3 x5 ({ (rd x3 x5) with Tx := x4 })) x5) with Last := w64 (x4 + 1) })) x5 ({ (rd (wr (wr x3 x5 ({ (rd x3 x5) with Tx := x4 })) x5 ({ (rd (wr x3 x5 ({ (rd x3 x5) with Tx := x4 })) x5) with Last := w64 (x4 + 1) })) x5) with Aborts := decide (((w64 ((w64 (x4 + 1)) + 1)).tmod 3) = 0) })) (w64 ((w64 ((w64 (x4 + 1)) + 1)) + 1)) (w64 (x5 + 1))) else none) else none) else none) else (some (x3, x4)))
def laws_markLiveS.f (k : Nat) (x6 : (List TLive)) (x7 : Int) : Option (Int × (List TLive)) :=
  (((laws_markLiveS.l1 k x6 x7 0) : Option ((List TLive) × Int)).bind fun x8 => laws_markLiveS.c1 k x8.1 x8.2)
set_option maxRecDepth 100000 in
set_option maxHeartbeats 4000000 in
theorem laws_markLiveS.spec (k : Nat) (s0 : HF) (w : World) (x6 : (List TLive)) (x7 : Int) (v1 : Value) (r : Int × (List TLive)) (H : laws_markLiveS.f k x6 x7 = some r) :
    Law Try.prog 113 #[v1, (.int .i64 x7)] s0 w [Ow kTLive 91 v1 x6] (fun v s1 A1 => v = (.int .i64 r.1) ∧ A1 = [Ow kTLive 91 v1 r.2]) := by
  unfold laws_markLiveS.f at H
  refine Law.intro Try.func113 rfl [(0, v1), (1, (.int .i64 x7))] (Nat.le_of_ble_eq_true rfl) (enter_lk ⟨rfl, rfl, trivial⟩) (fun e a hS hF => ?_)
  have hF : Fr 36 a [(0, v1), (1, (.int .i64 x7))] := hF
  refine sq ?_
  refine rg ?_
  refine stp hF (p_assign rfl) (by decide) (fun a hF => ?_)
  refine nilN ?_
  refine xn ?_
  obtain ⟨x8, H, HK1⟩ := hb H
  refine sqj (fun a w => ∃ (x1 : (List TLive)) (x2 : Int) , St e s0 w [Ow kTLive 91 v1 x1] ∧ Fr 36 a [(1, (.int .i64 x2))] ∧ laws_markLiveS.c1 k x1 x2 = some r) ?_ ?_
  · skip
    refine sq ?_
    refine rg ?_
    refine stp hF (p_assign rfl) (by decide) (fun a hF => ?_)
    refine nilN ?_
    refine xn ?_
    refine blk ?_
    refine loop_ind (fun k1 a w => ∃ (x3 : (List TLive)) (x4 : Int) (x5 : Int) , St e s0 w [Ow kTLive 91 v1 x3] ∧ Fr 36 a [(0, v1), (1, (.int .i64 x4)), (5, (.int .i64 x5))] ∧ laws_markLiveS.l1 k1 x3 x4 x5 = some x8) k ?_ ?_ ?_
    · skip
      exact ⟨x6, x7, 0, hS, hF.cut ⟨rfl, rfl, rfl, trivial⟩, H⟩
    · clear H hS hF
      rintro a w ⟨x3, x4, x5, hS, hF, H⟩
      exact absurd (show none = some _ from H) (by simp)
    · clear H hS hF
      rintro k1 a w ⟨x3, x4, x5, hS, hF, H⟩
      rw [laws_markLiveS.l1.eq_2] at H
      refine sq ?_
      refine sq ?_
      refine rg ?_
      refine stp hF (p_move rfl) (by decide) (fun a hF => ?_)
      refine stp hF (p_move rfl) (by decide) (fun a hF => ?_)
      refine stp hF (p_leno (i := 0) hS rfl un_39 rfl) (by decide) (fun a hF => ?_)
      refine stp hF (p_lss rfl rfl) (by decide) (fun a hF => ?_)
      refine nilN ?_
      refine xn ?_
      refine cnd hF rfl (fun hc1 => ?_) (fun hc1 => ?_)
      · replace H := hbt hc1 H
        refine skN ?_
        refine xn ?_
        refine sq ?_
        refine blk ?_
        refine sq ?_
        refine rg ?_
        refine stp hF (p_move rfl) (by decide) (fun a hF => ?_)
        refine stp hF (p_move rfl) (by decide) (fun a hF => ?_)
        refine stp hF (p_move rfl) (by decide) (fun a hF => ?_)
        obtain ⟨hq1, H⟩ := hck H
        obtain ⟨b1, o1, q1, hv1, p1⟩ := p_idxo (n := 0) (i := x5) hS rfl un_39 ti_91 hq1.1 hq1.2
        refine stp hF (p1 rfl rfl) (by decide) (fun a hF => ?_)
        refine stp hF (p_fldb (o' := (o1 + x5.toNat * kTLive.sz)) rfl fi_91_0 rfl) (by decide) (fun a hF => ?_)
        refine ste0 hF (e_sto (n := 0) (c := x4) hS rfl hv1 kTLive_Tx hq1.1 hq1.2 rfl rfl rfl ti_3 rfl rfl) (fun v w a hR hF => ?_)
        have hS : St e s0 w [Ow kTLive 91 v1 (wr x3 x5 ({ (rd x3 x5) with Tx := x4 }))] := hR
        refine nilN ?_
        refine xn ?_
        refine sq ?_
        refine rg ?_
        refine stp hF (p_move rfl) (by decide) (fun a hF => ?_)
        refine stp hF (p_add (c := w64 (x4 + 1)) rfl rfl rfl) (by decide) (fun a hF => ?_)
        refine stp hF (p_assign rfl) (by decide) (fun a hF => ?_)
        refine nilN ?_
        refine xn ?_
        refine sq ?_
        refine rg ?_
        refine stp hF (p_move rfl) (by decide) (fun a hF => ?_)
        refine stp hF (p_move rfl) (by decide) (fun a hF => ?_)
        refine stp hF (p_move rfl) (by decide) (fun a hF => ?_)
        obtain ⟨hq2, H⟩ := hck H
        obtain ⟨b2, o2, q2, hv2, p2⟩ := p_idxo (n := 0) (i := x5) hS rfl un_39 ti_91 hq2.1 hq2.2
        refine stp hF (p2 rfl rfl) (by decide) (fun a hF => ?_)
        refine stp hF (p_fldb (o' := ((o2 + x5.toNat * kTLive.sz) + 1)) rfl fi_91_1 rfl) (by decide) (fun a hF => ?_)
        refine ste0 hF (e_sto (n := 0) (c := w64 (x4 + 1)) hS rfl hv2 kTLive_Last hq2.1 hq2.2 rfl rfl rfl ti_3 rfl rfl) (fun v w a hR hF => ?_)
        have hS : St e s0 w [Ow kTLive 91 v1 (wr (wr x3 x5 ({ (rd x3 x5) with Tx := x4 })) x5 ({ (rd (wr x3 x5 ({ (rd x3 x5) with Tx := x4 })) x5) with Last := w64 (x4 + 1) }))] := hR
        refine nilN ?_
        refine xn ?_
        refine sq ?_
        refine rg ?_
        refine stp hF (p_move rfl) (by decide) (fun a hF => ?_)
        refine stp hF (p_add (c := w64 ((w64 (x4 + 1)) + 1)) rfl rfl rfl) (by decide) (fun a hF => ?_)
        refine stp hF (p_assign rfl) (by decide) (fun a hF => ?_)
        refine nilN ?_
        refine xn ?_
        refine sq ?_
        refine rg ?_
        refine stp hF (p_move rfl) (by decide) (fun a hF => ?_)
        refine stp hF (p_move rfl) (by decide) (fun a hF => ?_)
        refine stp hF (p_move rfl) (by decide) (fun a hF => ?_)
        refine stp hF (p_rem (c := (w64 ((w64 (x4 + 1)) + 1)).tmod 3) rfl rfl (by decide) rfl) (by decide) (fun a hF => ?_)
        refine stp hF (p_eql rfl rfl) (by decide) (fun a hF => ?_)
        obtain ⟨hq3, H⟩ := hck H
        obtain ⟨b3, o3, q3, hv3, p3⟩ := p_idxo (n := 0) (i := x5) hS rfl un_39 ti_91 hq3.1 hq3.2
        refine stp hF (p3 rfl rfl) (by decide) (fun a hF => ?_)
        refine stp hF (p_fldb (o' := ((o3 + x5.toNat * kTLive.sz) + 2)) rfl fi_91_2 rfl) (by decide) (fun a hF => ?_)
        refine ste0 hF (e_sto (n := 0) (c := decide (((w64 ((w64 (x4 + 1)) + 1)).tmod 3) = 0)) hS rfl hv3 kTLive_Aborts hq3.1 hq3.2 rfl rfl rfl ti_4 rfl rfl) (fun v w a hR hF => ?_)
        have hS : St e s0 w [Ow kTLive 91 v1 (wr (wr (wr x3 x5 ({ (rd x3 x5) with Tx := x4 })) x5 ({ (rd (wr x3 x5 ({ (rd x3 x5) with Tx := x4 })) x5) with Last := w64 (x4 + 1) })) x5 ({ (rd (wr (wr x3 x5 ({ (rd x3 x5) with Tx := x4 })) x5 ({ (rd (wr x3 x5 ({ (rd x3 x5) with Tx := x4 })) x5) with Last := w64 (x4 + 1) })) x5) with Aborts := decide (((w64 ((w64 (x4 + 1)) + 1)).tmod 3) = 0) }))] := hR
        refine nilN ?_
        refine xn ?_
        refine rg ?_
        refine stp hF (p_move rfl) (by decide) (fun a hF => ?_)
        refine stp hF (p_add (c := w64 ((w64 ((w64 (x4 + 1)) + 1)) + 1)) rfl rfl rfl) (by decide) (fun a hF => ?_)
        refine stp hF (p_assign rfl) (by decide) (fun a hF => ?_)
        refine nilN ?_
        refine bn (xn ?_)
        refine rg ?_
        refine stp hF (p_move rfl) (by decide) (fun a hF => ?_)
        refine stp hF (p_add (c := w64 (x5 + 1)) rfl rfl rfl) (by decide) (fun a hF => ?_)
        refine stp hF (p_assign rfl) (by decide) (fun a hF => ?_)
        refine nilN ?_
        refine xn ?_
        exact ⟨(wr (wr (wr x3 x5 ({ (rd x3 x5) with Tx := x4 })) x5 ({ (rd (wr x3 x5 ({ (rd x3 x5) with Tx := x4 })) x5) with Last := w64 (x4 + 1) })) x5 ({ (rd (wr (wr x3 x5 ({ (rd x3 x5) with Tx := x4 })) x5 ({ (rd (wr x3 x5 ({ (rd x3 x5) with Tx := x4 })) x5) with Last := w64 (x4 + 1) })) x5) with Aborts := decide (((w64 ((w64 (x4 + 1)) + 1)).tmod 3) = 0) })), (w64 ((w64 ((w64 (x4 + 1)) + 1)) + 1)), (w64 (x5 + 1)), hS, hF.cut ⟨rfl, rfl, rfl, trivial⟩, H⟩
      · replace H := hbf hc1 H
        refine exi ?_
        refine xe (xe (hit (xn ?_)))
        obtain rfl := hsm H
        exact ⟨x3, x4, hS, hF.cut ⟨rfl, trivial⟩, HK1⟩
  · clear H HK1 hS hF
    rintro a w ⟨x1, x2, hS, hF, H⟩
    unfold laws_markLiveS.c1 at H
    refine sq ?_
    refine rg ?_
    refine stp hF (p_move rfl) (by decide) (fun a hF => ?_)
    refine stp hF (p_assign rfl) (by decide) (fun a hF => ?_)
    refine nilN ?_
    refine xn ?_
    refine rt ?_
    obtain rfl := hsm H
    exact ret1 hF rfl rfl hS ⟨rfl, rfl⟩

def laws_markRec.f (k : Nat) (x1 : TRec) (x2 : Int) : Option (Int × (List Int) × (List Int) × (List Int) × (List Int) × (List TLive)) :=
  ((laws_markSlot.f k x1.Before x2).bind fun x3 => ((laws_markSlot.f k x1.After x3.1).bind fun x4 => ((laws_markLiveS.f k x1.Txs x4.1).bind fun x5 => (some (x5.1, x3.2.1, x3.2.2, x4.2.1, x4.2.2, x5.2)))))
set_option maxRecDepth 100000 in
set_option maxHeartbeats 4000000 in
theorem laws_markRec.spec (k : Nat) (s0 : HF) (w : World) (x1 : TRec) (x2 : Int) (v1 : Value) (v2 : Value) (v3 : Value) (v4 : Value) (v5 : Value) (r : Int × (List Int) × (List Int) × (List Int) × (List Int) × (List TLive)) (H : laws_markRec.f k x1 x2 = some r) :
    Law Try.prog 44 #[(.agg #[(.int .i64 x1.Lsn), (.int .i64 x1.Tx), (.int .i64 x1.Prev), (.int .i64 x1.Kind), (.int .i64 x1.Oid), (.bool x1.Before.Has), (.int .i64 x1.Before.O.Kind), v1, v2, (.bool x1.After.Has), (.int .i64 x1.After.O.Kind), v3, v4, (.int .i64 x1.Next), v5]), (.int .i64 x2)] s0 w [Ow (Kd.int .i64) 3 v1 x1.Before.O.Ints, Ow (Kd.int .i64) 3 v2 x1.Before.O.Refs, Ow (Kd.int .i64) 3 v3 x1.After.O.Ints, Ow (Kd.int .i64) 3 v4 x1.After.O.Refs, Ow kTLive 91 v5 x1.Txs] (fun v s1 A1 => v = (.int .i64 r.1) ∧ A1 = [Ow (Kd.int .i64) 3 v1 r.2.1, Ow (Kd.int .i64) 3 v2 r.2.2.1, Ow (Kd.int .i64) 3 v3 r.2.2.2.1, Ow (Kd.int .i64) 3 v4 r.2.2.2.2.1, Ow kTLive 91 v5 r.2.2.2.2.2]) := by
  unfold laws_markRec.f at H
  refine Law.intro Try.func44 rfl [(0, (.agg #[(.int .i64 x1.Lsn), (.int .i64 x1.Tx), (.int .i64 x1.Prev), (.int .i64 x1.Kind), (.int .i64 x1.Oid), (.bool x1.Before.Has), (.int .i64 x1.Before.O.Kind), v1, v2, (.bool x1.After.Has), (.int .i64 x1.After.O.Kind), v3, v4, (.int .i64 x1.Next), v5])), (1, (.int .i64 x2))] (Nat.le_of_ble_eq_true rfl) (enter_lk ⟨rfl, rfl, trivial⟩) (fun e a hS hF => ?_)
  have hF : Fr 18 a [(0, (.agg #[(.int .i64 x1.Lsn), (.int .i64 x1.Tx), (.int .i64 x1.Prev), (.int .i64 x1.Kind), (.int .i64 x1.Oid), (.bool x1.Before.Has), (.int .i64 x1.Before.O.Kind), v1, v2, (.bool x1.After.Has), (.int .i64 x1.After.O.Kind), v3, v4, (.int .i64 x1.Next), v5])), (1, (.int .i64 x2))] := hF
  refine sq ?_
  refine rg ?_
  refine ste hF (e_box (cs := [(.int .i64 x1.Lsn), (.int .i64 x1.Tx), (.int .i64 x1.Prev), (.int .i64 x1.Kind), (.int .i64 x1.Oid), (.bool x1.Before.Has), (.int .i64 x1.Before.O.Kind), v1, v2, (.bool x1.After.Has), (.int .i64 x1.After.O.Kind), v3, v4, (.int .i64 x1.Next), v5]) hS rfl rfl) (by decide) (fun v w a hR hF => ?_)
  obtain ⟨g1, rfl, hS⟩ := hR
  refine stp hF (p_assign rfl) (by decide) (fun a hF => ?_)
  refine nilN ?_
  refine xn ?_
  refine sq ?_
  refine rg ?_
  refine stp hF (p_fldb (o' := 5) rfl fi_41_5 rfl) (by decide) (fun a hF => ?_)
  refine stp hF (p_ldb_agg (i := 0) (l := [(.int .i64 x1.Lsn), (.int .i64 x1.Tx), (.int .i64 x1.Prev), (.int .i64 x1.Kind), (.int .i64 x1.Oid)]) (m := [(.bool x1.Before.Has), (.int .i64 x1.Before.O.Kind), v1, v2]) (r := [(.bool x1.After.Has), (.int .i64 x1.After.O.Kind), v3, v4, (.int .i64 x1.Next), v5]) hS rfl rfl ia_38 ti_38 rfl rfl rfl) (by decide) (fun a hF => ?_)
  refine stp hF (p_move rfl) (by decide) (fun a hF => ?_)
  replace hS := hS.sel (is := [1, 1, 0, 0, 0, 0]) (A' := [Ow (Kd.int .i64) 3 v1 x1.Before.O.Ints, Ow (Kd.int .i64) 3 v2 x1.Before.O.Refs, pt g1 41 ([(.int .i64 x1.Lsn), (.int .i64 x1.Tx), (.int .i64 x1.Prev), (.int .i64 x1.Kind), (.int .i64 x1.Oid), (.bool x1.Before.Has), (.int .i64 x1.Before.O.Kind), v1, v2, (.bool x1.After.Has), (.int .i64 x1.After.O.Kind), v3, v4, (.int .i64 x1.Next), v5]), Ow (Kd.int .i64) 3 v3 x1.After.O.Ints, Ow (Kd.int .i64) 3 v4 x1.After.O.Refs, Ow kTLive 91 v5 x1.Txs]) rfl
  obtain ⟨x3, hx1, H⟩ := hb H
  refine ste hF (e_callA (fst := []) (vs := [(.agg #[(.bool x1.Before.Has), (.int .i64 x1.Before.O.Kind), v1, v2]), (.int .i64 x2)]) (cap := []) rfl rfl go_112 (St.call (A := [Ow (Kd.int .i64) 3 v1 x1.Before.O.Ints, Ow (Kd.int .i64) 3 v2 x1.Before.O.Refs]) (B := [pt g1 41 ([(.int .i64 x1.Lsn), (.int .i64 x1.Tx), (.int .i64 x1.Prev), (.int .i64 x1.Kind), (.int .i64 x1.Oid), (.bool x1.Before.Has), (.int .i64 x1.Before.O.Kind), v1, v2, (.bool x1.After.Has), (.int .i64 x1.After.O.Kind), v3, v4, (.int .i64 x1.Next), v5]), Ow (Kd.int .i64) 3 v3 x1.After.O.Ints, Ow (Kd.int .i64) 3 v4 x1.After.O.Refs, Ow kTLive 91 v5 x1.Txs]) hS (laws_markSlot.spec k _ _ x1.Before x2 v1 v2 _ hx1)) rfl) (by decide) (fun v w a hR hF => ?_)
  obtain ⟨s2, A2, hg1, hS, hR⟩ := hR
  obtain ⟨hv1, rfl⟩ := hR; obtain rfl := hv1.symm
  have hS : St e s2 w [Ow (Kd.int .i64) 3 v1 x3.2.1, Ow (Kd.int .i64) 3 v2 x3.2.2, pt g1 41 ([(.int .i64 x1.Lsn), (.int .i64 x1.Tx), (.int .i64 x1.Prev), (.int .i64 x1.Kind), (.int .i64 x1.Oid), (.bool x1.Before.Has), (.int .i64 x1.Before.O.Kind), v1, v2, (.bool x1.After.Has), (.int .i64 x1.After.O.Kind), v3, v4, (.int .i64 x1.Next), v5]), Ow (Kd.int .i64) 3 v3 x1.After.O.Ints, Ow (Kd.int .i64) 3 v4 x1.After.O.Refs, Ow kTLive 91 v5 x1.Txs] := hS
  refine stp hF (p_assign rfl) (by decide) (fun a hF => ?_)
  refine nilN ?_
  refine xn ?_
  refine sq ?_
  refine rg ?_
  refine stp hF (p_fldb (o' := 9) rfl fi_41_6 rfl) (by decide) (fun a hF => ?_)
  refine stp hF (p_ldb_agg (i := 2) (l := [(.int .i64 x1.Lsn), (.int .i64 x1.Tx), (.int .i64 x1.Prev), (.int .i64 x1.Kind), (.int .i64 x1.Oid), (.bool x1.Before.Has), (.int .i64 x1.Before.O.Kind), v1, v2]) (m := [(.bool x1.After.Has), (.int .i64 x1.After.O.Kind), v3, v4]) (r := [(.int .i64 x1.Next), v5]) hS rfl rfl ia_38 ti_38 rfl rfl rfl) (by decide) (fun a hF => ?_)
  refine stp hF (p_move rfl) (by decide) (fun a hF => ?_)
  replace hS := hS.sel (is := [3, 3, 0, 0, 0, 0]) (A' := [Ow (Kd.int .i64) 3 v3 x1.After.O.Ints, Ow (Kd.int .i64) 3 v4 x1.After.O.Refs, Ow (Kd.int .i64) 3 v1 x3.2.1, Ow (Kd.int .i64) 3 v2 x3.2.2, pt g1 41 ([(.int .i64 x1.Lsn), (.int .i64 x1.Tx), (.int .i64 x1.Prev), (.int .i64 x1.Kind), (.int .i64 x1.Oid), (.bool x1.Before.Has), (.int .i64 x1.Before.O.Kind), v1, v2, (.bool x1.After.Has), (.int .i64 x1.After.O.Kind), v3, v4, (.int .i64 x1.Next), v5]), Ow kTLive 91 v5 x1.Txs]) rfl
  obtain ⟨x4, hx2, H⟩ := hb H
  refine ste hF (e_callA (fst := []) (vs := [(.agg #[(.bool x1.After.Has), (.int .i64 x1.After.O.Kind), v3, v4]), (.int .i64 x3.1)]) (cap := []) rfl rfl go_112 (St.call (A := [Ow (Kd.int .i64) 3 v3 x1.After.O.Ints, Ow (Kd.int .i64) 3 v4 x1.After.O.Refs]) (B := [Ow (Kd.int .i64) 3 v1 x3.2.1, Ow (Kd.int .i64) 3 v2 x3.2.2, pt g1 41 ([(.int .i64 x1.Lsn), (.int .i64 x1.Tx), (.int .i64 x1.Prev), (.int .i64 x1.Kind), (.int .i64 x1.Oid), (.bool x1.Before.Has), (.int .i64 x1.Before.O.Kind), v1, v2, (.bool x1.After.Has), (.int .i64 x1.After.O.Kind), v3, v4, (.int .i64 x1.Next), v5]), Ow kTLive 91 v5 x1.Txs]) hS (laws_markSlot.spec k _ _ x1.After x3.1 v3 v4 _ hx2)) rfl) (by decide) (fun v w a hR hF => ?_)
  obtain ⟨s3, A3, hg2, hS, hR⟩ := hR
  obtain ⟨hv2, rfl⟩ := hR; obtain rfl := hv2.symm
  have hS : St e s3 w [Ow (Kd.int .i64) 3 v3 x4.2.1, Ow (Kd.int .i64) 3 v4 x4.2.2, Ow (Kd.int .i64) 3 v1 x3.2.1, Ow (Kd.int .i64) 3 v2 x3.2.2, pt g1 41 ([(.int .i64 x1.Lsn), (.int .i64 x1.Tx), (.int .i64 x1.Prev), (.int .i64 x1.Kind), (.int .i64 x1.Oid), (.bool x1.Before.Has), (.int .i64 x1.Before.O.Kind), v1, v2, (.bool x1.After.Has), (.int .i64 x1.After.O.Kind), v3, v4, (.int .i64 x1.Next), v5]), Ow kTLive 91 v5 x1.Txs] := hS
  refine stp hF (p_assign rfl) (by decide) (fun a hF => ?_)
  refine nilN ?_
  refine xn ?_
  refine sq ?_
  refine rg ?_
  refine stp hF (p_fldb (o' := 14) rfl fi_41_8 rfl) (by decide) (fun a hF => ?_)
  refine stp hF (p_ldb_one (i := 4) hS rfl rfl ia_39 rfl) (by decide) (fun a hF => ?_)
  refine stp hF (p_move rfl) (by decide) (fun a hF => ?_)
  replace hS := hS.sel (is := [5, 0, 0, 0, 0, 0]) (A' := [Ow kTLive 91 v5 x1.Txs, Ow (Kd.int .i64) 3 v3 x4.2.1, Ow (Kd.int .i64) 3 v4 x4.2.2, Ow (Kd.int .i64) 3 v1 x3.2.1, Ow (Kd.int .i64) 3 v2 x3.2.2, pt g1 41 ([(.int .i64 x1.Lsn), (.int .i64 x1.Tx), (.int .i64 x1.Prev), (.int .i64 x1.Kind), (.int .i64 x1.Oid), (.bool x1.Before.Has), (.int .i64 x1.Before.O.Kind), v1, v2, (.bool x1.After.Has), (.int .i64 x1.After.O.Kind), v3, v4, (.int .i64 x1.Next), v5])]) rfl
  obtain ⟨x5, hx3, H⟩ := hb H
  refine ste hF (e_callA (fst := []) (vs := [v5, (.int .i64 x4.1)]) (cap := []) rfl rfl go_113 (St.call (A := [Ow kTLive 91 v5 x1.Txs]) (B := [Ow (Kd.int .i64) 3 v3 x4.2.1, Ow (Kd.int .i64) 3 v4 x4.2.2, Ow (Kd.int .i64) 3 v1 x3.2.1, Ow (Kd.int .i64) 3 v2 x3.2.2, pt g1 41 ([(.int .i64 x1.Lsn), (.int .i64 x1.Tx), (.int .i64 x1.Prev), (.int .i64 x1.Kind), (.int .i64 x1.Oid), (.bool x1.Before.Has), (.int .i64 x1.Before.O.Kind), v1, v2, (.bool x1.After.Has), (.int .i64 x1.After.O.Kind), v3, v4, (.int .i64 x1.Next), v5])]) hS (laws_markLiveS.spec k _ _ x1.Txs x4.1 v5 _ hx3)) rfl) (by decide) (fun v w a hR hF => ?_)
  obtain ⟨s4, A4, hg3, hS, hR⟩ := hR
  obtain ⟨hv3, rfl⟩ := hR; obtain rfl := hv3.symm
  have hS : St e s4 w [Ow kTLive 91 v5 x5.2, Ow (Kd.int .i64) 3 v3 x4.2.1, Ow (Kd.int .i64) 3 v4 x4.2.2, Ow (Kd.int .i64) 3 v1 x3.2.1, Ow (Kd.int .i64) 3 v2 x3.2.2, pt g1 41 ([(.int .i64 x1.Lsn), (.int .i64 x1.Tx), (.int .i64 x1.Prev), (.int .i64 x1.Kind), (.int .i64 x1.Oid), (.bool x1.Before.Has), (.int .i64 x1.Before.O.Kind), v1, v2, (.bool x1.After.Has), (.int .i64 x1.After.O.Kind), v3, v4, (.int .i64 x1.Next), v5])] := hS
  refine stp hF (p_assign rfl) (by decide) (fun a hF => ?_)
  refine nilN ?_
  refine xn ?_
  refine sq ?_
  refine rg ?_
  refine stp hF (p_move rfl) (by decide) (fun a hF => ?_)
  refine stp hF (p_assign rfl) (by decide) (fun a hF => ?_)
  refine nilN ?_
  refine xn ?_
  refine rt ?_
  obtain rfl := hsm H
  replace hS := hS.sel (is := [3, 3, 1, 1, 0]) (A' := [Ow (Kd.int .i64) 3 v1 x3.2.1, Ow (Kd.int .i64) 3 v2 x3.2.2, Ow (Kd.int .i64) 3 v3 x4.2.1, Ow (Kd.int .i64) 3 v4 x4.2.2, Ow kTLive 91 v5 x5.2]) rfl
  exact ret1 hF rfl rfl hS ⟨rfl, rfl⟩

def laws_heldIntS.c1 (k : Nat) (x1 : Int) : Option Int :=
  (some x1)
def laws_heldIntS.l1 (x2 : (List Int)) : Nat → Int → Int → Option (Ex Int Int)
  | 0, _, _ => none
  | k + 1, x3, x4 => (if (decide (x4 < (x2.length : Int))) = true then (if 0 ≤ x4 ∧ x4 < (x2.length : Int) then (if (decide ((rd x2 x4) ≠ x3)) = true then (some (Ex.ret (-1))) else ((laws_heldIntS.l1 x2 k) (w64 (x3 + 1)) (w64 (x4 + 1)))) else none) else (some (Ex.go x3)))
def laws_heldIntS.f (k : Nat) (x2 : (List Int)) (x5 : Int) : Option Int :=
  (((laws_heldIntS.l1 x2 k x5 0) : Option (Ex Int Int)).bind fun x6 => Ex.on x6 (fun r => some r) (fun y => laws_heldIntS.c1 k y))
set_option maxRecDepth 100000 in
set_option maxHeartbeats 4000000 in
theorem laws_heldIntS.spec (k : Nat) (s0 : HF) (w : World) (x2 : (List Int)) (x5 : Int) (v1 : Value) (h1 : Sl (Kd.int .i64) s0 v1 x2) (r : Int) (H : laws_heldIntS.f k x2 x5 = some r) :
    Law Try.prog 119 #[v1, (.int .i64 x5)] s0 w [] (fun v s1 A1 => v = (.int .i64 r) ∧ A1 = []) := by
  unfold laws_heldIntS.f at H
  refine Law.intro Try.func119 rfl [(0, v1), (1, (.int .i64 x5))] (Nat.le_of_ble_eq_true rfl) (enter_lk ⟨rfl, rfl, trivial⟩) (fun e a hS hF => ?_)
  have hF : Fr 21 a [(0, v1), (1, (.int .i64 x5))] := hF
  refine sq ?_
  refine rg ?_
  refine stp hF (p_assign rfl) (by decide) (fun a hF => ?_)
  refine nilN ?_
  refine xn ?_
  obtain ⟨x6, H, HK1⟩ := hb H
  refine sqj (fun a w => ∃ (x1 : Int) , St e s0 w [] ∧ Fr 21 a [(1, (.int .i64 x1))] ∧ laws_heldIntS.c1 k x1 = some r) ?_ ?_
  · skip
    refine sq ?_
    refine rg ?_
    refine stp hF (p_assign rfl) (by decide) (fun a hF => ?_)
    refine nilN ?_
    refine xn ?_
    refine blk ?_
    refine loop_ind (fun k1 a w => ∃ (x3 : Int) (x4 : Int) , St e s0 w [] ∧ Fr 21 a [(0, v1), (1, (.int .i64 x3)), (5, (.int .i64 x4))] ∧ laws_heldIntS.l1 x2 k1 x3 x4 = some x6) k ?_ ?_ ?_
    · skip
      exact ⟨x5, 0, hS, hF.cut ⟨rfl, rfl, rfl, trivial⟩, H⟩
    · clear H hS hF
      rintro a w ⟨x3, x4, hS, hF, H⟩
      exact absurd (show none = some _ from H) (by simp)
    · clear H hS hF
      rintro k1 a w ⟨x3, x4, hS, hF, H⟩
      rw [laws_heldIntS.l1.eq_2] at H
      refine sq ?_
      refine sq ?_
      refine rg ?_
      refine stp hF (p_move rfl) (by decide) (fun a hF => ?_)
      refine stp hF (p_move rfl) (by decide) (fun a hF => ?_)
      refine stp hF (p_lenr un_34 rfl h1) (by decide) (fun a hF => ?_)
      refine stp hF (p_lss rfl rfl) (by decide) (fun a hF => ?_)
      refine nilN ?_
      refine xn ?_
      refine cnd hF rfl (fun hc1 => ?_) (fun hc1 => ?_)
      · replace H := hbt hc1 H
        refine skN ?_
        refine xn ?_
        refine sq ?_
        refine blk ?_
        refine sq ?_
        refine sq ?_
        refine rg ?_
        refine stp hF (p_move rfl) (by decide) (fun a hF => ?_)
        refine stp hF (p_move rfl) (by decide) (fun a hF => ?_)
        obtain ⟨hq1, H⟩ := hck H
        obtain ⟨ad1, h2, p1⟩ := p_idxr (P := Try.prog) (i := x4) h1 un_34 ti_3 hq1.1 hq1.2
        refine stp hF (p1 rfl rfl) (by decide) (fun a hF => ?_)
        refine stp hF (p_ldr_int rfl hS h2 ia_3) (by decide) (fun a hF => ?_)
        refine stp hF (p_move rfl) (by decide) (fun a hF => ?_)
        refine stp hF (p_neq rfl rfl) (by decide) (fun a hF => ?_)
        refine nilN ?_
        refine xn ?_
        refine cnd hF rfl (fun hc2 => ?_) (fun hc2 => ?_)
        · replace H := hbt hc2 H
          refine sq ?_
          refine rg ?_
          refine stp hF (p_assign rfl) (by decide) (fun a hF => ?_)
          refine nilN ?_
          refine xn ?_
          refine rt ?_
          refine xr (br (xr (xr (br (xr ?_)))))
          obtain rfl := hsm H
          have H := hon1 HK1
          obtain rfl := hsm H
          exact ret1 hF rfl rfl hS ⟨rfl, rfl⟩
        · replace H := hbf hc2 H
          refine skN ?_
          refine xn ?_
          refine rg ?_
          refine stp hF (p_move rfl) (by decide) (fun a hF => ?_)
          refine stp hF (p_add (c := w64 (x3 + 1)) rfl rfl rfl) (by decide) (fun a hF => ?_)
          refine stp hF (p_assign rfl) (by decide) (fun a hF => ?_)
          refine nilN ?_
          refine bn (xn ?_)
          refine rg ?_
          refine stp hF (p_move rfl) (by decide) (fun a hF => ?_)
          refine stp hF (p_add (c := w64 (x4 + 1)) rfl rfl rfl) (by decide) (fun a hF => ?_)
          refine stp hF (p_assign rfl) (by decide) (fun a hF => ?_)
          refine nilN ?_
          refine xn ?_
          exact ⟨(w64 (x3 + 1)), (w64 (x4 + 1)), hS, hF.cut ⟨rfl, rfl, rfl, trivial⟩, H⟩
      · replace H := hbf hc1 H
        refine exi ?_
        refine xe (xe (hit (xn ?_)))
        obtain rfl := hsm H
        exact ⟨x3, hS, hF.cut ⟨rfl, trivial⟩, HK1⟩
  · clear H HK1 hS hF
    rintro a w ⟨x1, hS, hF, H⟩
    unfold laws_heldIntS.c1 at H
    refine sq ?_
    refine rg ?_
    refine stp hF (p_move rfl) (by decide) (fun a hF => ?_)
    refine stp hF (p_assign rfl) (by decide) (fun a hF => ?_)
    refine nilN ?_
    refine xn ?_
    refine rt ?_
    obtain rfl := hsm H
    exact ret1 hF rfl rfl hS ⟨rfl, rfl⟩

def laws_heldObj.f (k : Nat) (x1 : TObj) (x2 : Int) : Option Int :=
  ((laws_heldIntS.f k x1.Ints x2).bind fun x3 => (if (decide (x3 < 0)) = true then (some (-1)) else ((laws_heldIntS.f k x1.Refs x3).bind fun x4 => (if (decide (x4 < 0)) = true then (some (-1)) else (some x4)))))
set_option maxRecDepth 100000 in
set_option maxHeartbeats 4000000 in
theorem laws_heldObj.spec (k : Nat) (s0 : HF) (w : World) (x1 : TObj) (x2 : Int) (v1 : Value) (v2 : Value) (h1 : Sl (Kd.int .i64) s0 v1 x1.Ints) (h2 : Sl (Kd.int .i64) s0 v2 x1.Refs) (r : Int) (H : laws_heldObj.f k x1 x2 = some r) :
    Law Try.prog 158 #[(.agg #[(.int .i64 x1.Kind), v1, v2]), (.int .i64 x2)] s0 w [] (fun v s1 A1 => v = (.int .i64 r) ∧ A1 = []) := by
  unfold laws_heldObj.f at H
  refine Law.intro Try.func158 rfl [(0, (.agg #[(.int .i64 x1.Kind), v1, v2])), (1, (.int .i64 x2))] (Nat.le_of_ble_eq_true rfl) (enter_lk ⟨rfl, rfl, trivial⟩) (fun e a hS hF => ?_)
  have hF : Fr 18 a [(0, (.agg #[(.int .i64 x1.Kind), v1, v2])), (1, (.int .i64 x2))] := hF
  refine sq ?_
  refine rg ?_
  refine ste hF (e_box (cs := [(.int .i64 x1.Kind), v1, v2]) hS rfl rfl) (by decide) (fun v w a hR hF => ?_)
  obtain ⟨g1, rfl, hS⟩ := hR
  refine stp hF (p_assign rfl) (by decide) (fun a hF => ?_)
  refine nilN ?_
  refine xn ?_
  refine sq ?_
  refine rg ?_
  refine stp hF (p_fldb (o' := 1) rfl fi_36_1 rfl) (by decide) (fun a hF => ?_)
  refine stp hF (p_ldb_one (i := 0) hS rfl rfl ia_34 rfl) (by decide) (fun a hF => ?_)
  refine stp hF (p_move rfl) (by decide) (fun a hF => ?_)
  obtain ⟨x3, hx1, H⟩ := hb H
  refine ste hF (e_callA (fst := []) (vs := [v1, (.int .i64 x2)]) (cap := []) rfl rfl go_119 (St.call (A := []) (B := [pt g1 36 ([(.int .i64 x1.Kind), v1, v2])]) hS (laws_heldIntS.spec k _ _ x1.Ints x2 v1 h1 _ hx1)) rfl) (by decide) (fun v w a hR hF => ?_)
  obtain ⟨s2, A2, hg1, hS, hR⟩ := hR
  obtain ⟨hv1, rfl⟩ := hR; obtain rfl := hv1.symm
  have hS : St e s2 w [pt g1 36 ([(.int .i64 x1.Kind), v1, v2])] := hS
  refine stp hF (p_assign rfl) (by decide) (fun a hF => ?_)
  refine nilN ?_
  refine xn ?_
  refine sq ?_
  refine sq ?_
  refine rg ?_
  refine stp hF (p_move rfl) (by decide) (fun a hF => ?_)
  refine stp hF (p_lss rfl rfl) (by decide) (fun a hF => ?_)
  refine nilN ?_
  refine xn ?_
  refine cnd hF rfl (fun hc1 => ?_) (fun hc1 => ?_)
  · replace H := hbt hc1 H
    refine sq ?_
    refine rg ?_
    refine stp hF (p_assign rfl) (by decide) (fun a hF => ?_)
    refine nilN ?_
    refine xn ?_
    refine rt ?_
    refine xr ?_
    obtain rfl := hsm H
    replace hS := hS.sel (is := []) (A' := []) rfl
    exact ret1 hF rfl rfl hS ⟨rfl, rfl⟩
  · replace H := hbf hc1 H
    refine skN ?_
    refine xn ?_
    refine sq ?_
    refine rg ?_
    refine stp hF (p_fldb (o' := 2) rfl fi_36_2 rfl) (by decide) (fun a hF => ?_)
    refine stp hF (p_ldb_one (i := 0) hS rfl rfl ia_34 rfl) (by decide) (fun a hF => ?_)
    refine stp hF (p_move rfl) (by decide) (fun a hF => ?_)
    obtain ⟨x4, hx2, H⟩ := hb H
    refine ste hF (e_callA (fst := []) (vs := [v2, (.int .i64 x3)]) (cap := []) rfl rfl go_119 (St.call (A := []) (B := [pt g1 36 ([(.int .i64 x1.Kind), v1, v2])]) hS (laws_heldIntS.spec k _ _ x1.Refs x3 v2 (h2.mono hg1) _ hx2)) rfl) (by decide) (fun v w a hR hF => ?_)
    obtain ⟨s3, A3, hg2, hS, hR⟩ := hR
    obtain ⟨hv2, rfl⟩ := hR; obtain rfl := hv2.symm
    have hS : St e s3 w [pt g1 36 ([(.int .i64 x1.Kind), v1, v2])] := hS
    refine stp hF (p_assign rfl) (by decide) (fun a hF => ?_)
    refine nilN ?_
    refine xn ?_
    refine sq ?_
    refine sq ?_
    refine rg ?_
    refine stp hF (p_move rfl) (by decide) (fun a hF => ?_)
    refine stp hF (p_lss rfl rfl) (by decide) (fun a hF => ?_)
    refine nilN ?_
    refine xn ?_
    refine cnd hF rfl (fun hc2 => ?_) (fun hc2 => ?_)
    · replace H := hbt hc2 H
      refine sq ?_
      refine rg ?_
      refine stp hF (p_assign rfl) (by decide) (fun a hF => ?_)
      refine nilN ?_
      refine xn ?_
      refine rt ?_
      refine xr ?_
      obtain rfl := hsm H
      replace hS := hS.sel (is := []) (A' := []) rfl
      exact ret1 hF rfl rfl hS ⟨rfl, rfl⟩
    · replace H := hbf hc2 H
      refine skN ?_
      refine xn ?_
      refine sq ?_
      refine rg ?_
      refine stp hF (p_move rfl) (by decide) (fun a hF => ?_)
      refine stp hF (p_assign rfl) (by decide) (fun a hF => ?_)
      refine nilN ?_
      refine xn ?_
      refine rt ?_
      obtain rfl := hsm H
      replace hS := hS.sel (is := []) (A' := []) rfl
      exact ret1 hF rfl rfl hS ⟨rfl, rfl⟩

def laws_heldSlot.f (k : Nat) (x1 : TSlot) (x2 : Int) : Option Int :=
  ((laws_heldObj.f k x1.O x2).bind fun x3 => (if (decide (x3 < 0)) = true then (some (-1)) else (some x3)))
set_option maxRecDepth 100000 in
set_option maxHeartbeats 4000000 in
theorem laws_heldSlot.spec (k : Nat) (s0 : HF) (w : World) (x1 : TSlot) (x2 : Int) (v1 : Value) (v2 : Value) (h1 : Sl (Kd.int .i64) s0 v1 x1.O.Ints) (h2 : Sl (Kd.int .i64) s0 v2 x1.O.Refs) (r : Int) (H : laws_heldSlot.f k x1 x2 = some r) :
    Law Try.prog 114 #[(.agg #[(.bool x1.Has), (.int .i64 x1.O.Kind), v1, v2]), (.int .i64 x2)] s0 w [] (fun v s1 A1 => v = (.int .i64 r) ∧ A1 = []) := by
  unfold laws_heldSlot.f at H
  refine Law.intro Try.func114 rfl [(0, (.agg #[(.bool x1.Has), (.int .i64 x1.O.Kind), v1, v2])), (1, (.int .i64 x2))] (Nat.le_of_ble_eq_true rfl) (enter_lk ⟨rfl, rfl, trivial⟩) (fun e a hS hF => ?_)
  have hF : Fr 12 a [(0, (.agg #[(.bool x1.Has), (.int .i64 x1.O.Kind), v1, v2])), (1, (.int .i64 x2))] := hF
  refine sq ?_
  refine rg ?_
  refine ste hF (e_box (cs := [(.bool x1.Has), (.int .i64 x1.O.Kind), v1, v2]) hS rfl rfl) (by decide) (fun v w a hR hF => ?_)
  obtain ⟨g1, rfl, hS⟩ := hR
  refine stp hF (p_assign rfl) (by decide) (fun a hF => ?_)
  refine nilN ?_
  refine xn ?_
  refine sq ?_
  refine rg ?_
  refine stp hF (p_fldb (o' := 1) rfl fi_38_1 rfl) (by decide) (fun a hF => ?_)
  refine stp hF (p_ldb_agg (i := 0) (l := [(.bool x1.Has)]) (m := [(.int .i64 x1.O.Kind), v1, v2]) (r := []) hS rfl rfl ia_36 ti_36 rfl rfl rfl) (by decide) (fun a hF => ?_)
  refine stp hF (p_move rfl) (by decide) (fun a hF => ?_)
  obtain ⟨x3, hx1, H⟩ := hb H
  refine ste hF (e_callA (fst := []) (vs := [(.agg #[(.int .i64 x1.O.Kind), v1, v2]), (.int .i64 x2)]) (cap := []) rfl rfl go_158 (St.call (A := []) (B := [pt g1 38 ([(.bool x1.Has), (.int .i64 x1.O.Kind), v1, v2])]) hS (laws_heldObj.spec k _ _ x1.O x2 v1 v2 h1 h2 _ hx1)) rfl) (by decide) (fun v w a hR hF => ?_)
  obtain ⟨s2, A2, hg1, hS, hR⟩ := hR
  obtain ⟨hv1, rfl⟩ := hR; obtain rfl := hv1.symm
  have hS : St e s2 w [pt g1 38 ([(.bool x1.Has), (.int .i64 x1.O.Kind), v1, v2])] := hS
  refine stp hF (p_assign rfl) (by decide) (fun a hF => ?_)
  refine nilN ?_
  refine xn ?_
  refine sq ?_
  refine sq ?_
  refine rg ?_
  refine stp hF (p_move rfl) (by decide) (fun a hF => ?_)
  refine stp hF (p_lss rfl rfl) (by decide) (fun a hF => ?_)
  refine nilN ?_
  refine xn ?_
  refine cnd hF rfl (fun hc1 => ?_) (fun hc1 => ?_)
  · replace H := hbt hc1 H
    refine sq ?_
    refine rg ?_
    refine stp hF (p_assign rfl) (by decide) (fun a hF => ?_)
    refine nilN ?_
    refine xn ?_
    refine rt ?_
    refine xr ?_
    obtain rfl := hsm H
    replace hS := hS.sel (is := []) (A' := []) rfl
    exact ret1 hF rfl rfl hS ⟨rfl, rfl⟩
  · replace H := hbf hc1 H
    refine skN ?_
    refine xn ?_
    refine sq ?_
    refine rg ?_
    refine stp hF (p_move rfl) (by decide) (fun a hF => ?_)
    refine stp hF (p_assign rfl) (by decide) (fun a hF => ?_)
    refine nilN ?_
    refine xn ?_
    refine rt ?_
    obtain rfl := hsm H
    replace hS := hS.sel (is := []) (A' := []) rfl
    exact ret1 hF rfl rfl hS ⟨rfl, rfl⟩
end Go.Proofs.Ytocknibhajihmaa
