/- Functions of this place as plain functions, and that the machine comes to what they say. Conditions: none. -/
import Derived.Test.YtocknibhajihmaaKwB4Fd
set_option linter.unusedVariables false
set_option linter.unusedSimpArgs false
namespace Go.Proofs.Ytocknibhajihmaa
open Go.Kw

def spec_PutRec.c1 (k : Nat) (x1 : (List Int)) : Option (List Int) :=
  (some x1)
def spec_PutRec.c2 (k : Nat) (rec_l1 : (List Int) → Int → Option (List Int)) (x2 : Int) (x3 : TRec) (x4 : (List Int)) (x5 : Int) : Option (List Int) :=
  (if 0 ≤ x2 ∧ x2 < (x3.Txs.length : Int) then (if 0 ≤ x2 ∧ x2 < (x3.Txs.length : Int) then ((spec_PutInt.f k x4 ((rd x3.Txs x2).Tx)).bind fun x6 => ((spec_PutInt.f k x6 ((rd x3.Txs x2).Last)).bind fun x7 => ((spec_PutInt.f k x7 x5).bind fun x8 => (rec_l1 x8 (w64 (x2 + 1)))))) else none) else none)
def spec_PutRec.l1 (x3 : TRec) : Nat → (List Int) → Int → Option (List Int)
  | 0, _, _ => none
  | k + 1, x4, x2 => (if (decide (x2 < (x3.Txs.length : Int))) = true then (((if 0 ≤ x2 ∧ x2 < (x3.Txs.length : Int) then (if ((rd x3.Txs x2).Aborts) = true then (some 1) else (some 0)) else none) : Option Int).bind fun x9 => spec_PutRec.c2 k (spec_PutRec.l1 x3 k) x2 x3 x4 x9) else (some x4))
def spec_PutRec.c3 (k : Nat) (x3 : TRec) (x10 : (List Int)) : Option (List Int) :=
  ((spec_l3PutSlot.f k x10 x3.Before).bind fun x11 => ((spec_l3PutSlot.f k x11 x3.After).bind fun x12 => ((spec_PutInt.f k x12 (x3.Txs.length : Int)).bind fun x13 => (((spec_PutRec.l1 x3 k x13 0) : Option (List Int)).bind fun x14 => spec_PutRec.c1 k x14))))
def spec_PutRec.l2 (x3 : TRec) : Nat → (List Int) → Int → Option (List Int)
  | 0, _, _ => none
  | k + 1, x15, x16 => (if (decide (x16 < 6)) = true then (if 0 ≤ x16 ∧ x16 < (([x3.Lsn, x3.Tx, x3.Prev, x3.Kind, x3.Oid, x3.Next] : List Int).length : Int) then ((spec_PutInt.f k x15 (rd ([x3.Lsn, x3.Tx, x3.Prev, x3.Kind, x3.Oid, x3.Next] : List Int) x16)).bind fun x17 => ((spec_PutRec.l2 x3 k) x17 (w64 (x16 + 1)))) else none) else (some x15))
def spec_PutRec.f (k : Nat) (x3 : TRec) : Option (List Int) :=
  ((spec_RecOk.f k x3).bind fun x18 => (if (!x18) = true then (some ([] : List Int)) else (((spec_PutRec.l2 x3 k ([] : List Int) 0) : Option (List Int)).bind fun x19 => spec_PutRec.c3 k x3 x19)))
set_option maxRecDepth 100000 in
set_option maxHeartbeats 4000000 in
theorem spec_PutRec.spec (k : Nat) (s0 : HF) (w : World) (x3 : TRec) (v1 : Value) (v2 : Value) (v3 : Value) (v4 : Value) (v5 : Value) (h1 : Sl (Kd.int .i64) s0 v1 x3.Before.O.Ints) (h2 : Sl (Kd.int .i64) s0 v2 x3.Before.O.Refs) (h3 : Sl (Kd.int .i64) s0 v3 x3.After.O.Ints) (h4 : Sl (Kd.int .i64) s0 v4 x3.After.O.Refs) (h5 : Sl kTLive s0 v5 x3.Txs) (r : (List Int)) (H : spec_PutRec.f k x3 = some r) :
    Law Try.prog 59 #[(.agg #[(.int .i64 x3.Lsn), (.int .i64 x3.Tx), (.int .i64 x3.Prev), (.int .i64 x3.Kind), (.int .i64 x3.Oid), (.bool x3.Before.Has), (.int .i64 x3.Before.O.Kind), v1, v2, (.bool x3.After.Has), (.int .i64 x3.After.O.Kind), v3, v4, (.int .i64 x3.Next), v5])] s0 w [] (fun v s1 A1 => ∃ (u0 : Value), v = u0 ∧ A1 = [Ow (Kd.int .u8) 5 u0 r]) := by
  unfold spec_PutRec.f at H
  refine Law.intro Try.func59 rfl [(0, (.agg #[(.int .i64 x3.Lsn), (.int .i64 x3.Tx), (.int .i64 x3.Prev), (.int .i64 x3.Kind), (.int .i64 x3.Oid), (.bool x3.Before.Has), (.int .i64 x3.Before.O.Kind), v1, v2, (.bool x3.After.Has), (.int .i64 x3.After.O.Kind), v3, v4, (.int .i64 x3.Next), v5]))] (Nat.le_of_ble_eq_true rfl) (enter_lk ⟨rfl, trivial⟩) (fun e a hS hF => ?_)
  have hF : Fr 78 a [(0, (.agg #[(.int .i64 x3.Lsn), (.int .i64 x3.Tx), (.int .i64 x3.Prev), (.int .i64 x3.Kind), (.int .i64 x3.Oid), (.bool x3.Before.Has), (.int .i64 x3.Before.O.Kind), v1, v2, (.bool x3.After.Has), (.int .i64 x3.After.O.Kind), v3, v4, (.int .i64 x3.Next), v5]))] := hF
  refine sq ?_
  refine rg ?_
  refine ste hF (e_box (cs := [(.int .i64 x3.Lsn), (.int .i64 x3.Tx), (.int .i64 x3.Prev), (.int .i64 x3.Kind), (.int .i64 x3.Oid), (.bool x3.Before.Has), (.int .i64 x3.Before.O.Kind), v1, v2, (.bool x3.After.Has), (.int .i64 x3.After.O.Kind), v3, v4, (.int .i64 x3.Next), v5]) hS rfl rfl) (by decide) (fun v w a hR hF => ?_)
  obtain ⟨g1, rfl, hS⟩ := hR
  refine stp hF (p_assign rfl) (by decide) (fun a hF => ?_)
  refine nilN ?_
  refine xn ?_
  refine sq ?_
  refine sq ?_
  refine rg ?_
  refine stp hF (p_ldb_agg (i := 0) (l := []) (m := [(.int .i64 x3.Lsn), (.int .i64 x3.Tx), (.int .i64 x3.Prev), (.int .i64 x3.Kind), (.int .i64 x3.Oid), (.bool x3.Before.Has), (.int .i64 x3.Before.O.Kind), v1, v2, (.bool x3.After.Has), (.int .i64 x3.After.O.Kind), v3, v4, (.int .i64 x3.Next), v5]) (r := []) hS rfl rfl ia_41 ti_41 rfl rfl rfl) (by decide) (fun a hF => ?_)
  obtain ⟨x18, hx1, H⟩ := hb H
  refine ste hF (e_callA (fst := []) (vs := [(.agg #[(.int .i64 x3.Lsn), (.int .i64 x3.Tx), (.int .i64 x3.Prev), (.int .i64 x3.Kind), (.int .i64 x3.Oid), (.bool x3.Before.Has), (.int .i64 x3.Before.O.Kind), v1, v2, (.bool x3.After.Has), (.int .i64 x3.After.O.Kind), v3, v4, (.int .i64 x3.Next), v5])]) (cap := []) rfl rfl go_23 (St.call (A := []) (B := [pt g1 41 ([(.int .i64 x3.Lsn), (.int .i64 x3.Tx), (.int .i64 x3.Prev), (.int .i64 x3.Kind), (.int .i64 x3.Oid), (.bool x3.Before.Has), (.int .i64 x3.Before.O.Kind), v1, v2, (.bool x3.After.Has), (.int .i64 x3.After.O.Kind), v3, v4, (.int .i64 x3.Next), v5])]) hS (spec_RecOk.spec k _ _ x3 v1 v2 v3 v4 v5 h1 h2 h3 h4 h5 _ hx1)) rfl) (by decide) (fun v w a hR hF => ?_)
  obtain ⟨s2, A2, hg1, hS, hR⟩ := hR
  obtain ⟨hv1, rfl⟩ := hR; obtain rfl := hv1.symm
  have hS : St e s2 w [pt g1 41 ([(.int .i64 x3.Lsn), (.int .i64 x3.Tx), (.int .i64 x3.Prev), (.int .i64 x3.Kind), (.int .i64 x3.Oid), (.bool x3.Before.Has), (.int .i64 x3.Before.O.Kind), v1, v2, (.bool x3.After.Has), (.int .i64 x3.After.O.Kind), v3, v4, (.int .i64 x3.Next), v5])] := hS
  refine stp hF (p_not rfl) (by decide) (fun a hF => ?_)
  refine nilN ?_
  refine xn ?_
  refine cnd hF rfl (fun hc1 => ?_) (fun hc1 => ?_)
  · replace H := hbt hc1 H
    refine sq ?_
    refine rg ?_
    refine ste hF (e_bslice (kd := (Kd.int .u8)) (et := 5) (ps := []) (vs := []) (cs := []) (xs := ([] : List Int)) hS rfl (by intro w; kernel_rfl) rfl (by decide) (Nat.le_of_ble_eq_true rfl) (by exact (Rows.nil _ _ _ _))) (by decide) (fun v6 w a hR hF => ?_)
    have hS : St e s2 w [Ow (Kd.int .u8) 5 v6 ([] : List Int), pt g1 41 ([(.int .i64 x3.Lsn), (.int .i64 x3.Tx), (.int .i64 x3.Prev), (.int .i64 x3.Kind), (.int .i64 x3.Oid), (.bool x3.Before.Has), (.int .i64 x3.Before.O.Kind), v1, v2, (.bool x3.After.Has), (.int .i64 x3.After.O.Kind), v3, v4, (.int .i64 x3.Next), v5])] := hR
    refine stp hF (p_assign rfl) (by decide) (fun a hF => ?_)
    refine nilN ?_
    refine xn ?_
    refine rt ?_
    refine xr ?_
    obtain rfl := hsm H
    replace hS := hS.sel (is := [0]) (A' := [Ow (Kd.int .u8) 5 v6 ([] : List Int)]) rfl
    exact ret1 hF rfl rfl hS ⟨v6, rfl, rfl⟩
  · replace H := hbf hc1 H
    refine skN ?_
    refine xn ?_
    refine sq ?_
    refine rg ?_
    refine ste hF (e_bslice (kd := (Kd.int .u8)) (et := 5) (ps := []) (vs := []) (cs := []) (xs := ([] : List Int)) hS rfl (by intro w; kernel_rfl) rfl (by decide) (Nat.le_of_ble_eq_true rfl) (by exact (Rows.nil _ _ _ _))) (by decide) (fun v7 w a hR hF => ?_)
    have hS : St e s2 w [Ow (Kd.int .u8) 5 v7 ([] : List Int), pt g1 41 ([(.int .i64 x3.Lsn), (.int .i64 x3.Tx), (.int .i64 x3.Prev), (.int .i64 x3.Kind), (.int .i64 x3.Oid), (.bool x3.Before.Has), (.int .i64 x3.Before.O.Kind), v1, v2, (.bool x3.After.Has), (.int .i64 x3.After.O.Kind), v3, v4, (.int .i64 x3.Next), v5])] := hR
    refine stp hF (p_assign rfl) (by decide) (fun a hF => ?_)
    refine nilN ?_
    refine xn ?_
    refine sq ?_
    refine rg ?_
    refine stp hF (p_fldb (o' := 0) rfl fi_41_0 rfl) (by decide) (fun a hF => ?_)
    refine stp hF (p_ldb_one (i := 1) hS rfl rfl ia_3 rfl) (by decide) (fun a hF => ?_)
    refine stp hF (p_fldb (o' := 1) rfl fi_41_1 rfl) (by decide) (fun a hF => ?_)
    refine stp hF (p_ldb_one (i := 1) hS rfl rfl ia_3 rfl) (by decide) (fun a hF => ?_)
    refine stp hF (p_fldb (o' := 2) rfl fi_41_2 rfl) (by decide) (fun a hF => ?_)
    refine stp hF (p_ldb_one (i := 1) hS rfl rfl ia_3 rfl) (by decide) (fun a hF => ?_)
    refine stp hF (p_fldb (o' := 3) rfl fi_41_3 rfl) (by decide) (fun a hF => ?_)
    refine stp hF (p_ldb_one (i := 1) hS rfl rfl ia_3 rfl) (by decide) (fun a hF => ?_)
    refine stp hF (p_fldb (o' := 4) rfl fi_41_4 rfl) (by decide) (fun a hF => ?_)
    refine stp hF (p_ldb_one (i := 1) hS rfl rfl ia_3 rfl) (by decide) (fun a hF => ?_)
    refine stp hF (p_fldb (o' := 13) rfl fi_41_7 rfl) (by decide) (fun a hF => ?_)
    refine stp hF (p_ldb_one (i := 1) hS rfl rfl ia_3 rfl) (by decide) (fun a hF => ?_)
    refine ste hF (e_bslice (kd := (Kd.int .i64)) (et := 3) (ps := [(0, (.tmp 14)), (1, (.tmp 16)), (2, (.tmp 18)), (3, (.tmp 20)), (4, (.tmp 22)), (5, (.tmp 24))]) (vs := [(0, (.int .i64 x3.Lsn)), (1, (.int .i64 x3.Tx)), (2, (.int .i64 x3.Prev)), (3, (.int .i64 x3.Kind)), (4, (.int .i64 x3.Oid)), (5, (.int .i64 x3.Next))]) (cs := [(.int .i64 x3.Lsn), (.int .i64 x3.Tx), (.int .i64 x3.Prev), (.int .i64 x3.Kind), (.int .i64 x3.Oid), (.int .i64 x3.Next)]) (xs := ([x3.Lsn, x3.Tx, x3.Prev, x3.Kind, x3.Oid, x3.Next] : List Int)) hS rfl (by intro w; kernel_rfl) rfl (by decide) (Nat.le_of_ble_eq_true rfl) (by exact (rows_cons (kd := (Kd.int .i64)) (x := x3.Lsn) (c := [(.int .i64 x3.Lsn)]) (cs := [(.int .i64 x3.Tx), (.int .i64 x3.Prev), (.int .i64 x3.Kind), (.int .i64 x3.Oid), (.int .i64 x3.Next)]) rfl (rows_cons (kd := (Kd.int .i64)) (x := x3.Tx) (c := [(.int .i64 x3.Tx)]) (cs := [(.int .i64 x3.Prev), (.int .i64 x3.Kind), (.int .i64 x3.Oid), (.int .i64 x3.Next)]) rfl (rows_cons (kd := (Kd.int .i64)) (x := x3.Prev) (c := [(.int .i64 x3.Prev)]) (cs := [(.int .i64 x3.Kind), (.int .i64 x3.Oid), (.int .i64 x3.Next)]) rfl (rows_cons (kd := (Kd.int .i64)) (x := x3.Kind) (c := [(.int .i64 x3.Kind)]) (cs := [(.int .i64 x3.Oid), (.int .i64 x3.Next)]) rfl (rows_cons (kd := (Kd.int .i64)) (x := x3.Oid) (c := [(.int .i64 x3.Oid)]) (cs := [(.int .i64 x3.Next)]) rfl (rows_cons (kd := (Kd.int .i64)) (x := x3.Next) (c := [(.int .i64 x3.Next)]) (cs := []) rfl (Rows.nil _ _ _ _))))))))) (by decide) (fun v8 w a hR hF => ?_)
    have hS : St e s2 w [Ow (Kd.int .i64) 3 v8 ([x3.Lsn, x3.Tx, x3.Prev, x3.Kind, x3.Oid, x3.Next] : List Int), Ow (Kd.int .u8) 5 v7 ([] : List Int), pt g1 41 ([(.int .i64 x3.Lsn), (.int .i64 x3.Tx), (.int .i64 x3.Prev), (.int .i64 x3.Kind), (.int .i64 x3.Oid), (.bool x3.Before.Has), (.int .i64 x3.Before.O.Kind), v1, v2, (.bool x3.After.Has), (.int .i64 x3.After.O.Kind), v3, v4, (.int .i64 x3.Next), v5])] := hR
    refine stp hF (p_assign rfl) (by decide) (fun a hF => ?_)
    refine nilN ?_
    refine xn ?_
    obtain ⟨x19, H, HK1⟩ := hb H
    refine sqj (fun a w => ∃ (x10 : (List Int)) (s3 : HF) (v9 : Value) , St e s3 w [Ow (Kd.int .i64) 3 v8 ([x3.Lsn, x3.Tx, x3.Prev, x3.Kind, x3.Oid, x3.Next] : List Int), pt g1 41 ([(.int .i64 x3.Lsn), (.int .i64 x3.Tx), (.int .i64 x3.Prev), (.int .i64 x3.Kind), (.int .i64 x3.Oid), (.bool x3.Before.Has), (.int .i64 x3.Before.O.Kind), v1, v2, (.bool x3.After.Has), (.int .i64 x3.After.O.Kind), v3, v4, (.int .i64 x3.Next), v5]), Ow (Kd.int .u8) 5 v9 x10] ∧ Fr 78 a [(1, (.pointer (some ⟨g1, 0, none⟩))), (3, v9)] ∧ Sub s2 s3 ∧ spec_PutRec.c3 k x3 x10 = some r) ?_ ?_
    · skip
      refine sq ?_
      refine rg ?_
      refine stp hF (p_assign rfl) (by decide) (fun a hF => ?_)
      refine nilN ?_
      refine xn ?_
      refine blk ?_
      refine loop_ind (fun k1 a w => ∃ (x15 : (List Int)) (x16 : Int) (s4 : HF) (v10 : Value) , St e s4 w [Ow (Kd.int .i64) 3 v8 ([x3.Lsn, x3.Tx, x3.Prev, x3.Kind, x3.Oid, x3.Next] : List Int), pt g1 41 ([(.int .i64 x3.Lsn), (.int .i64 x3.Tx), (.int .i64 x3.Prev), (.int .i64 x3.Kind), (.int .i64 x3.Oid), (.bool x3.Before.Has), (.int .i64 x3.Before.O.Kind), v1, v2, (.bool x3.After.Has), (.int .i64 x3.After.O.Kind), v3, v4, (.int .i64 x3.Next), v5]), Ow (Kd.int .u8) 5 v10 x15] ∧ Fr 78 a [(1, (.pointer (some ⟨g1, 0, none⟩))), (3, v10), (4, v8), (5, (.int .i64 x16))] ∧ Sub s2 s4 ∧ spec_PutRec.l2 x3 k1 x15 x16 = some x19) k ?_ ?_ ?_
      · skip
        replace hS := hS.sel (is := [0, 1, 0]) (A' := [Ow (Kd.int .i64) 3 v8 ([x3.Lsn, x3.Tx, x3.Prev, x3.Kind, x3.Oid, x3.Next] : List Int), pt g1 41 ([(.int .i64 x3.Lsn), (.int .i64 x3.Tx), (.int .i64 x3.Prev), (.int .i64 x3.Kind), (.int .i64 x3.Oid), (.bool x3.Before.Has), (.int .i64 x3.Before.O.Kind), v1, v2, (.bool x3.After.Has), (.int .i64 x3.After.O.Kind), v3, v4, (.int .i64 x3.Next), v5]), Ow (Kd.int .u8) 5 v7 ([] : List Int)]) rfl
        exact ⟨([] : List Int), 0, s2, v7, hS, hF.cut ⟨rfl, rfl, rfl, rfl, trivial⟩, (Sub.refl _), H⟩
      · clear H hS hF
        rintro a w ⟨x15, x16, s4, v10, hS, hF, hg2, H⟩
        exact absurd (show none = some _ from H) (by simp)
      · clear H hS hF
        rintro k1 a w ⟨x15, x16, s4, v10, hS, hF, hg2, H⟩
        rw [spec_PutRec.l2.eq_2] at H
        refine sq ?_
        refine sq ?_
        refine rg ?_
        refine stp hF (p_move rfl) (by decide) (fun a hF => ?_)
        refine stp hF (p_lss rfl rfl) (by decide) (fun a hF => ?_)
        refine nilN ?_
        refine xn ?_
        refine cnd hF rfl (fun hc2 => ?_) (fun hc2 => ?_)
        · replace H := hbt hc2 H
          refine skN ?_
          refine xn ?_
          refine sq ?_
          refine blk ?_
          refine rg ?_
          refine stp hF (p_move rfl) (by decide) (fun a hF => ?_)
          refine stp hF (p_move rfl) (by decide) (fun a hF => ?_)
          refine stp hF (p_move rfl) (by decide) (fun a hF => ?_)
          obtain ⟨hq1, H⟩ := hck H
          obtain ⟨b1, o1, q1, hv2, p1⟩ := p_idxo (n := 0) (i := x16) hS rfl un_34 ti_3 hq1.1 hq1.2
          refine stp hF (p1 rfl rfl) (by decide) (fun a hF => ?_)
          obtain ⟨u1, h6, p2⟩ := p_ldo_one (P := Try.prog) (n := 0) hS rfl hv2 (Lens.id _) hq1.1 hq1.2 rfl ia_3 rfl
          obtain rfl : u1 = .int .i64 (rd ([x3.Lsn, x3.Tx, x3.Prev, x3.Kind, x3.Oid, x3.Next] : List Int) x16) := by injection h6
          refine stp hF (p2 rfl) (by decide) (fun a hF => ?_)
          replace hS := hS.sel (is := [2, 0, 0]) (A' := [Ow (Kd.int .u8) 5 v10 x15, Ow (Kd.int .i64) 3 v8 ([x3.Lsn, x3.Tx, x3.Prev, x3.Kind, x3.Oid, x3.Next] : List Int), pt g1 41 ([(.int .i64 x3.Lsn), (.int .i64 x3.Tx), (.int .i64 x3.Prev), (.int .i64 x3.Kind), (.int .i64 x3.Oid), (.bool x3.Before.Has), (.int .i64 x3.Before.O.Kind), v1, v2, (.bool x3.After.Has), (.int .i64 x3.After.O.Kind), v3, v4, (.int .i64 x3.Next), v5])]) rfl
          obtain ⟨s5, hg3, hl1, hcall1⟩ := St.lend (P := Try.prog) (Bs := [Ow (Kd.int .u8) 5 v10 x15]) (A := []) (B := [Ow (Kd.int .i64) 3 v8 ([x3.Lsn, x3.Tx, x3.Prev, x3.Kind, x3.Oid, x3.Next] : List Int), pt g1 41 ([(.int .i64 x3.Lsn), (.int .i64 x3.Tx), (.int .i64 x3.Prev), (.int .i64 x3.Kind), (.int .i64 x3.Oid), (.bool x3.Before.Has), (.int .i64 x3.Before.O.Kind), v1, v2, (.bool x3.After.Has), (.int .i64 x3.After.O.Kind), v3, v4, (.int .i64 x3.Next), v5])]) hS
          obtain ⟨h7, hl1⟩ := hl1.ow hg3
          obtain ⟨x17, hx2, H⟩ := hb H
          refine ste hF (e_callA (fst := []) (vs := [v10, (.int .i64 (rd ([x3.Lsn, x3.Tx, x3.Prev, x3.Kind, x3.Oid, x3.Next] : List Int) x16))]) (cap := []) rfl rfl go_63 (hcall1 (spec_PutInt.spec k1 _ _ x15 (rd ([x3.Lsn, x3.Tx, x3.Prev, x3.Kind, x3.Oid, x3.Next] : List Int) x16) v10 h7 _ hx2) (by rintro v s1 A1 ⟨_, rfl, rfl⟩; exact ⟨Ow_flat flat_int _ _ _, trivial⟩)) rfl) (by decide) (fun v w a hR hF => ?_)
          obtain ⟨s6, s7, A3, hg4, hS, hR⟩ := hR
          obtain ⟨v11, hv3, rfl⟩ := hR; obtain rfl := hv3.symm
          have hS : St e s6 w [Ow (Kd.int .u8) 5 v10 x15, Ow (Kd.int .u8) 5 v11 x17, Ow (Kd.int .i64) 3 v8 ([x3.Lsn, x3.Tx, x3.Prev, x3.Kind, x3.Oid, x3.Next] : List Int), pt g1 41 ([(.int .i64 x3.Lsn), (.int .i64 x3.Tx), (.int .i64 x3.Prev), (.int .i64 x3.Kind), (.int .i64 x3.Oid), (.bool x3.Before.Has), (.int .i64 x3.Before.O.Kind), v1, v2, (.bool x3.After.Has), (.int .i64 x3.After.O.Kind), v3, v4, (.int .i64 x3.Next), v5])] := hS
          refine stp hF (p_assign rfl) (by decide) (fun a hF => ?_)
          refine nilN ?_
          refine bn (xn ?_)
          refine rg ?_
          refine stp hF (p_move rfl) (by decide) (fun a hF => ?_)
          refine stp hF (p_add (c := w64 (x16 + 1)) rfl rfl rfl) (by decide) (fun a hF => ?_)
          refine stp hF (p_assign rfl) (by decide) (fun a hF => ?_)
          refine nilN ?_
          refine xn ?_
          replace hS := hS.sel (is := [2, 2, 1]) (A' := [Ow (Kd.int .i64) 3 v8 ([x3.Lsn, x3.Tx, x3.Prev, x3.Kind, x3.Oid, x3.Next] : List Int), pt g1 41 ([(.int .i64 x3.Lsn), (.int .i64 x3.Tx), (.int .i64 x3.Prev), (.int .i64 x3.Kind), (.int .i64 x3.Oid), (.bool x3.Before.Has), (.int .i64 x3.Before.O.Kind), v1, v2, (.bool x3.After.Has), (.int .i64 x3.After.O.Kind), v3, v4, (.int .i64 x3.Next), v5]), Ow (Kd.int .u8) 5 v11 x17]) rfl
          exact ⟨x17, (w64 (x16 + 1)), s6, v11, hS, hF.cut ⟨rfl, rfl, rfl, rfl, trivial⟩, (hg2.trans hg4), H⟩
        · replace H := hbf hc2 H
          refine exi ?_
          refine xe (xe (hit (xn ?_)))
          obtain rfl := hsm H
          exact ⟨x15, s4, v10, hS, hF.cut ⟨rfl, rfl, trivial⟩, hg2, HK1⟩
    · clear H HK1 hS hF
      rintro a w ⟨x10, s3, v9, hS, hF, hg5, H⟩
      unfold spec_PutRec.c3 at H
      refine sq ?_
      replace hS : St e s3 w.drew [Ow (Kd.int .i64) 3 v8 ([x3.Lsn, x3.Tx, x3.Prev, x3.Kind, x3.Oid, x3.Next] : List Int), pt g1 41 ([(.int .i64 x3.Lsn), (.int .i64 x3.Tx), (.int .i64 x3.Prev), (.int .i64 x3.Kind), (.int .i64 x3.Oid), (.bool x3.Before.Has), (.int .i64 x3.Before.O.Kind), v1, v2, (.bool x3.After.Has), (.int .i64 x3.After.O.Kind), v3, v4, (.int .i64 x3.Next), v5]), Ow (Kd.int .u8) 5 v9 x10] := hS.drewN 1
      refine drw [0, 1, 2, 3, 4, 5, 6, 7, 8, 9, 10, 11] mixed (by kernel_rfl) (by decide) (hF.cut (L' := [(1, (.pointer (some ⟨g1, 0, none⟩))), (3, v9)]) ⟨rfl, rfl, trivial⟩) ?_
      clear hF
      generalize w.drew = w at hS ⊢
      refine pk1 rfl (by decide) rfl (by kernel_rfl) rfl (p_move rfl) ?_
      refine pk1 rfl (by decide) rfl (by kernel_rfl) rfl (p_fldb (o' := 5) rfl fi_41_5 rfl) ?_
      refine pk1 rfl (by decide) rfl (by kernel_rfl) rfl (p_ldb_agg (i := 1) (l := [(.int .i64 x3.Lsn), (.int .i64 x3.Tx), (.int .i64 x3.Prev), (.int .i64 x3.Kind), (.int .i64 x3.Oid)]) (m := [(.bool x3.Before.Has), (.int .i64 x3.Before.O.Kind), v1, v2]) (r := [(.bool x3.After.Has), (.int .i64 x3.After.O.Kind), v3, v4, (.int .i64 x3.Next), v5]) hS rfl rfl ia_38 ti_38 rfl rfl rfl) ?_
      refine pkPerm [4, 3, 5, 6, 7, 8, 9, 10, 11] (by kernel_rfl) ?_
      refine pk1 rfl (by decide) rfl (by kernel_rfl) rfl (p_fldb (o' := 9) rfl fi_41_6 rfl) ?_
      refine pkPerm [5, 3, 6, 7, 8, 9, 10, 11] (by kernel_rfl) ?_
      refine pk1 rfl (by decide) rfl (by kernel_rfl) rfl (p_ldb_agg (i := 1) (l := [(.int .i64 x3.Lsn), (.int .i64 x3.Tx), (.int .i64 x3.Prev), (.int .i64 x3.Kind), (.int .i64 x3.Oid), (.bool x3.Before.Has), (.int .i64 x3.Before.O.Kind), v1, v2]) (m := [(.bool x3.After.Has), (.int .i64 x3.After.O.Kind), v3, v4]) (r := [(.int .i64 x3.Next), v5]) hS rfl rfl ia_38 ti_38 rfl rfl rfl) ?_
      refine pkPerm [7, 3, 6, 8, 9, 10, 11] (by kernel_rfl) ?_
      refine pk1 rfl (by decide) rfl (by kernel_rfl) rfl (p_fldb (o' := 14) rfl fi_41_8 rfl) ?_
      refine pkPerm [8, 3, 6, 9, 10, 11] (by kernel_rfl) ?_
      refine pk1 rfl (by decide) rfl (by kernel_rfl) rfl (p_ldb_one (i := 1) hS rfl rfl ia_39 rfl) ?_
      refine pkPerm [9, 3, 6, 10, 11] (by kernel_rfl) ?_
      refine pk1 rfl (by decide) rfl (by kernel_rfl) rfl (p_lenr un_39 rfl ((h5.mono hg1).mono hg5)) ?_
      replace hS := hS.sel (is := [2, 0, 0]) (A' := [Ow (Kd.int .u8) 5 v9 x10, Ow (Kd.int .i64) 3 v8 ([x3.Lsn, x3.Tx, x3.Prev, x3.Kind, x3.Oid, x3.Next] : List Int), pt g1 41 ([(.int .i64 x3.Lsn), (.int .i64 x3.Tx), (.int .i64 x3.Prev), (.int .i64 x3.Kind), (.int .i64 x3.Oid), (.bool x3.Before.Has), (.int .i64 x3.Before.O.Kind), v1, v2, (.bool x3.After.Has), (.int .i64 x3.After.O.Kind), v3, v4, (.int .i64 x3.Next), v5])]) rfl
      obtain ⟨s8, hg6, hl2, hcall2⟩ := St.lend (P := Try.prog) (Bs := [Ow (Kd.int .u8) 5 v9 x10]) (A := []) (B := [Ow (Kd.int .i64) 3 v8 ([x3.Lsn, x3.Tx, x3.Prev, x3.Kind, x3.Oid, x3.Next] : List Int), pt g1 41 ([(.int .i64 x3.Lsn), (.int .i64 x3.Tx), (.int .i64 x3.Prev), (.int .i64 x3.Kind), (.int .i64 x3.Oid), (.bool x3.Before.Has), (.int .i64 x3.Before.O.Kind), v1, v2, (.bool x3.After.Has), (.int .i64 x3.After.O.Kind), v3, v4, (.int .i64 x3.Next), v5])]) hS
      obtain ⟨h8, hl2⟩ := hl2.ow hg6
      obtain ⟨x11, hx3, H⟩ := hb H
      refine pkE [9, 8, 7, 5, 4, 1] rfl (by decide) (by kernel_rfl) (by kernel_rfl) (e_callA (fst := []) (vs := [v9, (.agg #[(.bool x3.Before.Has), (.int .i64 x3.Before.O.Kind), v1, v2])]) (cap := []) rfl rfl go_125 (hcall2 (spec_l3PutSlot.spec k _ _ x10 x3.Before v9 v1 v2 h8 (((h1.mono hg1).mono hg5).mono hg6) (((h2.mono hg1).mono hg5).mono hg6) _ hx3) (by rintro v s1 A1 ⟨_, rfl, rfl⟩; exact ⟨Ow_flat flat_int _ _ _, trivial⟩)) rfl) ?_
      intro v w hR
      obtain ⟨s9, s10, A4, hg7, hS, hR⟩ := hR
      obtain ⟨v12, hv4, rfl⟩ := hR; obtain rfl := hv4.symm
      have hS : St e s9 w [Ow (Kd.int .u8) 5 v9 x10, Ow (Kd.int .u8) 5 v12 x11, Ow (Kd.int .i64) 3 v8 ([x3.Lsn, x3.Tx, x3.Prev, x3.Kind, x3.Oid, x3.Next] : List Int), pt g1 41 ([(.int .i64 x3.Lsn), (.int .i64 x3.Tx), (.int .i64 x3.Prev), (.int .i64 x3.Kind), (.int .i64 x3.Oid), (.bool x3.Before.Has), (.int .i64 x3.Before.O.Kind), v1, v2, (.bool x3.After.Has), (.int .i64 x3.After.O.Kind), v3, v4, (.int .i64 x3.Next), v5])] := hS
      refine ⟨⟨knw rfl rfl rfl (p_lenr un_39 rfl ((h5.mono hg1).mono hg5)), ⟨knw rfl rfl rfl (p_ldb_one (i := 3) hS rfl rfl ia_39 rfl), ⟨knw rfl rfl rfl (p_fldb (o' := 14) rfl fi_41_8 rfl), ⟨knw rfl rfl rfl (p_ldb_agg (i := 3) (l := [(.int .i64 x3.Lsn), (.int .i64 x3.Tx), (.int .i64 x3.Prev), (.int .i64 x3.Kind), (.int .i64 x3.Oid), (.bool x3.Before.Has), (.int .i64 x3.Before.O.Kind), v1, v2]) (m := [(.bool x3.After.Has), (.int .i64 x3.After.O.Kind), v3, v4]) (r := [(.int .i64 x3.Next), v5]) hS rfl rfl ia_38 ti_38 rfl rfl rfl), ⟨knw rfl rfl rfl (p_fldb (o' := 9) rfl fi_41_6 rfl), ⟨knw rfl rfl rfl (p_fldb (o' := 5) rfl fi_41_5 rfl), trivial⟩⟩⟩⟩⟩⟩, ?_⟩
      replace hS := hS.sel (is := [1, 0, 0, 0]) (A' := [Ow (Kd.int .u8) 5 v12 x11, Ow (Kd.int .u8) 5 v9 x10, Ow (Kd.int .i64) 3 v8 ([x3.Lsn, x3.Tx, x3.Prev, x3.Kind, x3.Oid, x3.Next] : List Int), pt g1 41 ([(.int .i64 x3.Lsn), (.int .i64 x3.Tx), (.int .i64 x3.Prev), (.int .i64 x3.Kind), (.int .i64 x3.Oid), (.bool x3.Before.Has), (.int .i64 x3.Before.O.Kind), v1, v2, (.bool x3.After.Has), (.int .i64 x3.After.O.Kind), v3, v4, (.int .i64 x3.Next), v5])]) rfl
      obtain ⟨s11, hg8, hl3, hcall3⟩ := St.lend (P := Try.prog) (Bs := [Ow (Kd.int .u8) 5 v12 x11]) (A := []) (B := [Ow (Kd.int .u8) 5 v9 x10, Ow (Kd.int .i64) 3 v8 ([x3.Lsn, x3.Tx, x3.Prev, x3.Kind, x3.Oid, x3.Next] : List Int), pt g1 41 ([(.int .i64 x3.Lsn), (.int .i64 x3.Tx), (.int .i64 x3.Prev), (.int .i64 x3.Kind), (.int .i64 x3.Oid), (.bool x3.Before.Has), (.int .i64 x3.Before.O.Kind), v1, v2, (.bool x3.After.Has), (.int .i64 x3.After.O.Kind), v3, v4, (.int .i64 x3.Next), v5])]) hS
      obtain ⟨h9, hl3⟩ := hl3.ow hg8
      obtain ⟨x12, hx4, H⟩ := hb H
      refine pkE [9, 8, 7, 4, 1] rfl (by decide) (by kernel_rfl) (by kernel_rfl) (e_callA (fst := []) (vs := [v12, (.agg #[(.bool x3.After.Has), (.int .i64 x3.After.O.Kind), v3, v4])]) (cap := []) rfl rfl go_125 (hcall3 (spec_l3PutSlot.spec k _ _ x11 x3.After v12 v3 v4 h9 ((((h3.mono hg1).mono hg5).mono hg7).mono hg8) ((((h4.mono hg1).mono hg5).mono hg7).mono hg8) _ hx4) (by rintro v s1 A1 ⟨_, rfl, rfl⟩; exact ⟨Ow_flat flat_int _ _ _, trivial⟩)) rfl) ?_
      intro v w hR
      obtain ⟨s12, s13, A5, hg9, hS, hR⟩ := hR
      obtain ⟨v13, hv5, rfl⟩ := hR; obtain rfl := hv5.symm
      have hS : St e s12 w [Ow (Kd.int .u8) 5 v12 x11, Ow (Kd.int .u8) 5 v13 x12, Ow (Kd.int .u8) 5 v9 x10, Ow (Kd.int .i64) 3 v8 ([x3.Lsn, x3.Tx, x3.Prev, x3.Kind, x3.Oid, x3.Next] : List Int), pt g1 41 ([(.int .i64 x3.Lsn), (.int .i64 x3.Tx), (.int .i64 x3.Prev), (.int .i64 x3.Kind), (.int .i64 x3.Oid), (.bool x3.Before.Has), (.int .i64 x3.Before.O.Kind), v1, v2, (.bool x3.After.Has), (.int .i64 x3.After.O.Kind), v3, v4, (.int .i64 x3.Next), v5])] := hS
      refine ⟨⟨knw rfl rfl rfl (p_lenr un_39 rfl ((h5.mono hg1).mono hg5)), ⟨knw rfl rfl rfl (p_ldb_one (i := 4) hS rfl rfl ia_39 rfl), ⟨knw rfl rfl rfl (p_fldb (o' := 14) rfl fi_41_8 rfl), ⟨knw rfl rfl rfl (p_fldb (o' := 9) rfl fi_41_6 rfl), ⟨knw rfl rfl rfl (p_fldb (o' := 5) rfl fi_41_5 rfl), trivial⟩⟩⟩⟩⟩, ?_⟩
      replace hS := hS.sel (is := [1, 0, 0, 0, 0]) (A' := [Ow (Kd.int .u8) 5 v13 x12, Ow (Kd.int .u8) 5 v12 x11, Ow (Kd.int .u8) 5 v9 x10, Ow (Kd.int .i64) 3 v8 ([x3.Lsn, x3.Tx, x3.Prev, x3.Kind, x3.Oid, x3.Next] : List Int), pt g1 41 ([(.int .i64 x3.Lsn), (.int .i64 x3.Tx), (.int .i64 x3.Prev), (.int .i64 x3.Kind), (.int .i64 x3.Oid), (.bool x3.Before.Has), (.int .i64 x3.Before.O.Kind), v1, v2, (.bool x3.After.Has), (.int .i64 x3.After.O.Kind), v3, v4, (.int .i64 x3.Next), v5])]) rfl
      obtain ⟨s14, hg10, hl4, hcall4⟩ := St.lend (P := Try.prog) (Bs := [Ow (Kd.int .u8) 5 v13 x12]) (A := []) (B := [Ow (Kd.int .u8) 5 v12 x11, Ow (Kd.int .u8) 5 v9 x10, Ow (Kd.int .i64) 3 v8 ([x3.Lsn, x3.Tx, x3.Prev, x3.Kind, x3.Oid, x3.Next] : List Int), pt g1 41 ([(.int .i64 x3.Lsn), (.int .i64 x3.Tx), (.int .i64 x3.Prev), (.int .i64 x3.Kind), (.int .i64 x3.Oid), (.bool x3.Before.Has), (.int .i64 x3.Before.O.Kind), v1, v2, (.bool x3.After.Has), (.int .i64 x3.After.O.Kind), v3, v4, (.int .i64 x3.Next), v5])]) hS
      obtain ⟨h10, hl4⟩ := hl4.ow hg10
      obtain ⟨x13, hx5, H⟩ := hb H
      refine pkE [8, 7, 4, 1] rfl (by decide) (by kernel_rfl) (by kernel_rfl) (e_callA (fst := []) (vs := [v13, (.int .i64 (x3.Txs.length : Int))]) (cap := []) rfl rfl go_63 (hcall4 (spec_PutInt.spec k _ _ x12 (x3.Txs.length : Int) v13 h10 _ hx5) (by rintro v s1 A1 ⟨_, rfl, rfl⟩; exact ⟨Ow_flat flat_int _ _ _, trivial⟩)) rfl) ?_
      intro v w hR
      obtain ⟨s15, s16, A6, hg11, hS, hR⟩ := hR
      obtain ⟨v14, hv6, rfl⟩ := hR; obtain rfl := hv6.symm
      have hS : St e s15 w [Ow (Kd.int .u8) 5 v13 x12, Ow (Kd.int .u8) 5 v14 x13, Ow (Kd.int .u8) 5 v12 x11, Ow (Kd.int .u8) 5 v9 x10, Ow (Kd.int .i64) 3 v8 ([x3.Lsn, x3.Tx, x3.Prev, x3.Kind, x3.Oid, x3.Next] : List Int), pt g1 41 ([(.int .i64 x3.Lsn), (.int .i64 x3.Tx), (.int .i64 x3.Prev), (.int .i64 x3.Kind), (.int .i64 x3.Oid), (.bool x3.Before.Has), (.int .i64 x3.Before.O.Kind), v1, v2, (.bool x3.After.Has), (.int .i64 x3.After.O.Kind), v3, v4, (.int .i64 x3.Next), v5])] := hS
      refine ⟨⟨knw rfl rfl rfl (p_ldb_one (i := 5) hS rfl rfl ia_39 rfl), ⟨knw rfl rfl rfl (p_fldb (o' := 14) rfl fi_41_8 rfl), ⟨knw rfl rfl rfl (p_fldb (o' := 9) rfl fi_41_6 rfl), ⟨knw rfl rfl rfl (p_fldb (o' := 5) rfl fi_41_5 rfl), trivial⟩⟩⟩⟩, ?_⟩
      refine pkE [] rfl (by decide) (by kernel_rfl) (by kernel_rfl) (puEf (p_assign rfl)) ?_
      rintro v w' ⟨hv, rfl⟩
      obtain rfl := hv.symm
      refine ⟨trivial, ?_⟩
      refine pkF (fun a hF => ?_)
      refine xn ?_
      obtain ⟨x14, H, HK2⟩ := hb H
      refine sqj (fun a w => ∃ (x1 : (List Int)) (s17 : HF) (v15 : Value) , St e s17 w [Ow (Kd.int .u8) 5 v13 x12, Ow (Kd.int .u8) 5 v12 x11, Ow (Kd.int .u8) 5 v9 x10, Ow (Kd.int .i64) 3 v8 ([x3.Lsn, x3.Tx, x3.Prev, x3.Kind, x3.Oid, x3.Next] : List Int), pt g1 41 ([(.int .i64 x3.Lsn), (.int .i64 x3.Tx), (.int .i64 x3.Prev), (.int .i64 x3.Kind), (.int .i64 x3.Oid), (.bool x3.Before.Has), (.int .i64 x3.Before.O.Kind), v1, v2, (.bool x3.After.Has), (.int .i64 x3.After.O.Kind), v3, v4, (.int .i64 x3.Next), v5]), Ow (Kd.int .u8) 5 v15 x1] ∧ Fr 78 a [(3, v15)] ∧ Sub s15 s17 ∧ spec_PutRec.c1 k x1 = some r) ?_ ?_
      · skip
        refine sq ?_
        refine rg ?_
        refine stp hF (p_assign rfl) (by decide) (fun a hF => ?_)
        refine nilN ?_
        refine xn ?_
        refine blk ?_
        refine loop_ind (fun k2 a w => ∃ (x4 : (List Int)) (x2 : Int) (s18 : HF) (v16 : Value) , St e s18 w [Ow (Kd.int .u8) 5 v13 x12, Ow (Kd.int .u8) 5 v12 x11, Ow (Kd.int .u8) 5 v9 x10, Ow (Kd.int .i64) 3 v8 ([x3.Lsn, x3.Tx, x3.Prev, x3.Kind, x3.Oid, x3.Next] : List Int), pt g1 41 ([(.int .i64 x3.Lsn), (.int .i64 x3.Tx), (.int .i64 x3.Prev), (.int .i64 x3.Kind), (.int .i64 x3.Oid), (.bool x3.Before.Has), (.int .i64 x3.Before.O.Kind), v1, v2, (.bool x3.After.Has), (.int .i64 x3.After.O.Kind), v3, v4, (.int .i64 x3.Next), v5]), Ow (Kd.int .u8) 5 v16 x4] ∧ Fr 78 a [(1, (.pointer (some ⟨g1, 0, none⟩))), (3, v16), (6, (.int .i64 x2))] ∧ Sub s15 s18 ∧ spec_PutRec.l1 x3 k2 x4 x2 = some x14) k ?_ ?_ ?_
        · skip
          replace hS := hS.sel (is := [0, 1, 1, 1, 1, 0]) (A' := [Ow (Kd.int .u8) 5 v13 x12, Ow (Kd.int .u8) 5 v12 x11, Ow (Kd.int .u8) 5 v9 x10, Ow (Kd.int .i64) 3 v8 ([x3.Lsn, x3.Tx, x3.Prev, x3.Kind, x3.Oid, x3.Next] : List Int), pt g1 41 ([(.int .i64 x3.Lsn), (.int .i64 x3.Tx), (.int .i64 x3.Prev), (.int .i64 x3.Kind), (.int .i64 x3.Oid), (.bool x3.Before.Has), (.int .i64 x3.Before.O.Kind), v1, v2, (.bool x3.After.Has), (.int .i64 x3.After.O.Kind), v3, v4, (.int .i64 x3.Next), v5]), Ow (Kd.int .u8) 5 v14 x13]) rfl
          exact ⟨x13, 0, s15, v14, hS, hF.cut ⟨rfl, rfl, rfl, trivial⟩, (Sub.refl _), H⟩
        · clear H hS hF
          rintro a w ⟨x4, x2, s18, v16, hS, hF, hg12, H⟩
          exact absurd (show none = some _ from H) (by simp)
        · clear H hS hF
          rintro k2 a w ⟨x4, x2, s18, v16, hS, hF, hg12, H⟩
          rw [spec_PutRec.l1.eq_2] at H
          refine sq ?_
          refine sq ?_
          refine rg ?_
          refine stp hF (p_move rfl) (by decide) (fun a hF => ?_)
          refine stp hF (p_fldb (o' := 14) rfl fi_41_8 rfl) (by decide) (fun a hF => ?_)
          refine stp hF (p_ldb_one (i := 4) hS rfl rfl ia_39 rfl) (by decide) (fun a hF => ?_)
          refine stp hF (p_lenr un_39 rfl ((((((h5.mono hg1).mono hg5).mono hg7).mono hg9).mono hg11).mono hg12)) (by decide) (fun a hF => ?_)
          refine stp hF (p_lss rfl rfl) (by decide) (fun a hF => ?_)
          refine nilN ?_
          refine xn ?_
          refine cnd hF rfl (fun hc3 => ?_) (fun hc3 => ?_)
          · replace H := hbt hc3 H
            refine skN ?_
            refine xn ?_
            refine sq ?_
            refine blk ?_
            refine sq ?_
            refine rg ?_
            refine stp hF (p_assign rfl) (by decide) (fun a hF => ?_)
            refine nilN ?_
            refine xn ?_
            obtain ⟨x9, H, HK3⟩ := hb H
            refine sqj (fun a w => ∃ (x5 : Int) , St e s18 w [Ow (Kd.int .u8) 5 v13 x12, Ow (Kd.int .u8) 5 v12 x11, Ow (Kd.int .u8) 5 v9 x10, Ow (Kd.int .i64) 3 v8 ([x3.Lsn, x3.Tx, x3.Prev, x3.Kind, x3.Oid, x3.Next] : List Int), pt g1 41 ([(.int .i64 x3.Lsn), (.int .i64 x3.Tx), (.int .i64 x3.Prev), (.int .i64 x3.Kind), (.int .i64 x3.Oid), (.bool x3.Before.Has), (.int .i64 x3.Before.O.Kind), v1, v2, (.bool x3.After.Has), (.int .i64 x3.After.O.Kind), v3, v4, (.int .i64 x3.Next), v5]), Ow (Kd.int .u8) 5 v16 x4] ∧ Fr 78 a [(1, (.pointer (some ⟨g1, 0, none⟩))), (3, v16), (6, (.int .i64 x2)), (7, (.int .i64 x5))] ∧ spec_PutRec.c2 k2 (spec_PutRec.l1 x3 k2) x2 x3 x4 x5 = some x14) ?_ ?_
            · skip
              refine sq ?_
              refine rg ?_
              refine stp hF (p_fldb (o' := 14) rfl fi_41_8 rfl) (by decide) (fun a hF => ?_)
              refine stp hF (p_ldb_one (i := 4) hS rfl rfl ia_39 rfl) (by decide) (fun a hF => ?_)
              refine stp hF (p_move rfl) (by decide) (fun a hF => ?_)
              obtain ⟨hq2, H⟩ := hck H
              obtain ⟨ad1, h11, p3⟩ := p_idxr (P := Try.prog) (i := x2) ((((((h5.mono hg1).mono hg5).mono hg7).mono hg9).mono hg11).mono hg12) un_39 ti_91 hq2.1 hq2.2
              refine stp hF (p3 rfl rfl) (by decide) (fun a hF => ?_)
              have h12 : Pr Kd.bool s18 (ad1.add 2) ((rd x3.Txs x2).Aborts) := h11.lens kTLive_Aborts
              refine stp hF (p_fld rfl fi_91_2) (by decide) (fun a hF => ?_)
              refine stp hF (p_ldr_bool rfl hS h12 ia_4) (by decide) (fun a hF => ?_)
              refine nilN ?_
              refine xn ?_
              refine cnd hF rfl (fun hc4 => ?_) (fun hc4 => ?_)
              · replace H := hbt hc4 H
                refine rg ?_
                refine stp hF (p_assign rfl) (by decide) (fun a hF => ?_)
                refine nilN ?_
                refine xn ?_
                obtain rfl := hsm H
                exact ⟨1, hS, hF.cut ⟨rfl, rfl, rfl, rfl, trivial⟩, HK3⟩
              · replace H := hbf hc4 H
                refine skN ?_
                refine xn ?_
                obtain rfl := hsm H
                exact ⟨0, hS, hF.cut ⟨rfl, rfl, rfl, rfl, trivial⟩, HK3⟩
            · clear H HK3 hS hF
              rintro a w ⟨x5, hS, hF, H⟩
              unfold spec_PutRec.c2 at H
              replace hS : St e s18 w.drew [Ow (Kd.int .u8) 5 v13 x12, Ow (Kd.int .u8) 5 v12 x11, Ow (Kd.int .u8) 5 v9 x10, Ow (Kd.int .i64) 3 v8 ([x3.Lsn, x3.Tx, x3.Prev, x3.Kind, x3.Oid, x3.Next] : List Int), pt g1 41 ([(.int .i64 x3.Lsn), (.int .i64 x3.Tx), (.int .i64 x3.Prev), (.int .i64 x3.Kind), (.int .i64 x3.Oid), (.bool x3.Before.Has), (.int .i64 x3.Before.O.Kind), v1, v2, (.bool x3.After.Has), (.int .i64 x3.After.O.Kind), v3, v4, (.int .i64 x3.Next), v5]), Ow (Kd.int .u8) 5 v16 x4] := hS.drewN 1
              refine drw [0, 1, 2, 3, 4, 5, 6, 7, 8, 9, 10, 11, 12, 13, 14, 15, 16, 17] mixed (by kernel_rfl) (by decide) (hF.cut (L' := [(1, (.pointer (some ⟨g1, 0, none⟩))), (3, v16), (6, (.int .i64 x2)), (7, (.int .i64 x5))]) ⟨rfl, rfl, rfl, rfl, trivial⟩) ?_
              clear hF
              generalize w.drew = w at hS ⊢
              refine pk1 rfl (by decide) rfl (by kernel_rfl) rfl (p_move rfl) ?_
              refine pk1 rfl (by decide) rfl (by kernel_rfl) rfl (p_fldb (o' := 14) rfl fi_41_8 rfl) ?_
              refine pk1 rfl (by decide) rfl (by kernel_rfl) rfl (p_ldb_one (i := 4) hS rfl rfl ia_39 rfl) ?_
              refine pk1 rfl (by decide) rfl (by kernel_rfl) rfl (p_move rfl) ?_
              obtain ⟨hq3, H⟩ := hck H
              obtain ⟨ad2, h13, p4⟩ := p_idxr (P := Try.prog) (i := x2) ((((((h5.mono hg1).mono hg5).mono hg7).mono hg9).mono hg11).mono hg12) un_39 ti_91 hq3.1 hq3.2
              refine pk1 rfl (by decide) rfl (by kernel_rfl) rfl (p4 rfl rfl) ?_
              have h14 : Pr (Kd.int .i64) s18 (ad2.add 0) ((rd x3.Txs x2).Tx) := h13.lens kTLive_Tx
              refine pk1 rfl (by decide) rfl (by kernel_rfl) rfl (p_fld rfl fi_91_0) ?_
              refine pk1 rfl (by decide) rfl (by kernel_rfl) rfl (p_ldr_int rfl hS h14 ia_3) ?_
              refine pkPerm [8, 7, 9, 10, 11, 12, 13, 14, 15, 16, 17] (by kernel_rfl) ?_
              refine pk1 rfl (by decide) rfl (by kernel_rfl) rfl (p_fldb (o' := 14) rfl fi_41_8 rfl) ?_
              refine pkPerm [9, 7, 10, 11, 12, 13, 14, 15, 16, 17] (by kernel_rfl) ?_
              refine pk1 rfl (by decide) rfl (by kernel_rfl) rfl (p_ldb_one (i := 4) hS rfl rfl ia_39 rfl) ?_
              refine pkPerm [10, 7, 11, 12, 13, 14, 15, 16, 17] (by kernel_rfl) ?_
              refine pk1 rfl (by decide) rfl (by kernel_rfl) rfl (p_move rfl) ?_
              refine pkPerm [11, 7, 12, 13, 14, 15, 16, 17] (by kernel_rfl) ?_
              obtain ⟨hq4, H⟩ := hck H
              obtain ⟨ad3, h15, p5⟩ := p_idxr (P := Try.prog) (i := x2) ((((((h5.mono hg1).mono hg5).mono hg7).mono hg9).mono hg11).mono hg12) un_39 ti_91 hq4.1 hq4.2
              refine pk1 rfl (by decide) rfl (by kernel_rfl) rfl (p5 rfl rfl) ?_
              refine pkPerm [12, 7, 13, 14, 15, 16, 17] (by kernel_rfl) ?_
              have h16 : Pr (Kd.int .i64) s18 (ad3.add 1) ((rd x3.Txs x2).Last) := h15.lens kTLive_Last
              refine pk1 rfl (by decide) rfl (by kernel_rfl) rfl (p_fld rfl fi_91_1) ?_
              refine pkPerm [13, 7, 14, 15, 16, 17] (by kernel_rfl) ?_
              refine pk1 rfl (by decide) rfl (by kernel_rfl) rfl (p_ldr_int rfl hS h16 ia_3) ?_
              refine pkPerm [15, 7, 14, 16, 17] (by kernel_rfl) ?_
              refine pk1 rfl (by decide) rfl (by kernel_rfl) rfl (p_move rfl) ?_
              replace hS := hS.sel (is := [5, 0, 0, 0, 0, 0]) (A' := [Ow (Kd.int .u8) 5 v16 x4, Ow (Kd.int .u8) 5 v13 x12, Ow (Kd.int .u8) 5 v12 x11, Ow (Kd.int .u8) 5 v9 x10, Ow (Kd.int .i64) 3 v8 ([x3.Lsn, x3.Tx, x3.Prev, x3.Kind, x3.Oid, x3.Next] : List Int), pt g1 41 ([(.int .i64 x3.Lsn), (.int .i64 x3.Tx), (.int .i64 x3.Prev), (.int .i64 x3.Kind), (.int .i64 x3.Oid), (.bool x3.Before.Has), (.int .i64 x3.Before.O.Kind), v1, v2, (.bool x3.After.Has), (.int .i64 x3.After.O.Kind), v3, v4, (.int .i64 x3.Next), v5])]) rfl
              obtain ⟨s19, hg13, hl5, hcall5⟩ := St.lend (P := Try.prog) (Bs := [Ow (Kd.int .u8) 5 v16 x4]) (A := []) (B := [Ow (Kd.int .u8) 5 v13 x12, Ow (Kd.int .u8) 5 v12 x11, Ow (Kd.int .u8) 5 v9 x10, Ow (Kd.int .i64) 3 v8 ([x3.Lsn, x3.Tx, x3.Prev, x3.Kind, x3.Oid, x3.Next] : List Int), pt g1 41 ([(.int .i64 x3.Lsn), (.int .i64 x3.Tx), (.int .i64 x3.Prev), (.int .i64 x3.Kind), (.int .i64 x3.Oid), (.bool x3.Before.Has), (.int .i64 x3.Before.O.Kind), v1, v2, (.bool x3.After.Has), (.int .i64 x3.After.O.Kind), v3, v4, (.int .i64 x3.Next), v5])]) hS
              obtain ⟨h17, hl5⟩ := hl5.ow hg13
              obtain ⟨x6, hx6, H⟩ := hb H
              refine pkE [15, 13, 12, 11, 10, 9, 8, 5, 4, 3, 2, 1] rfl (by decide) (by kernel_rfl) (by kernel_rfl) (e_callA (fst := []) (vs := [v16, (.int .i64 ((rd x3.Txs x2).Tx))]) (cap := []) rfl rfl go_63 (hcall5 (spec_PutInt.spec k2 _ _ x4 ((rd x3.Txs x2).Tx) v16 h17 _ hx6) (by rintro v s1 A1 ⟨_, rfl, rfl⟩; exact ⟨Ow_flat flat_int _ _ _, trivial⟩)) rfl) ?_
              intro v w hR
              obtain ⟨s20, s21, A7, hg14, hS, hR⟩ := hR
              obtain ⟨v17, hv7, rfl⟩ := hR; obtain rfl := hv7.symm
              have hS : St e s20 w [Ow (Kd.int .u8) 5 v16 x4, Ow (Kd.int .u8) 5 v17 x6, Ow (Kd.int .u8) 5 v13 x12, Ow (Kd.int .u8) 5 v12 x11, Ow (Kd.int .u8) 5 v9 x10, Ow (Kd.int .i64) 3 v8 ([x3.Lsn, x3.Tx, x3.Prev, x3.Kind, x3.Oid, x3.Next] : List Int), pt g1 41 ([(.int .i64 x3.Lsn), (.int .i64 x3.Tx), (.int .i64 x3.Prev), (.int .i64 x3.Kind), (.int .i64 x3.Oid), (.bool x3.Before.Has), (.int .i64 x3.Before.O.Kind), v1, v2, (.bool x3.After.Has), (.int .i64 x3.After.O.Kind), v3, v4, (.int .i64 x3.Next), v5])] := hS
              refine ⟨⟨knw rfl rfl rfl (p_move rfl), ⟨knw rfl rfl rfl (p_ldr_int rfl hS (h16.mono hg14) ia_3), ⟨knw rfl rfl rfl (p_fld rfl fi_91_1), ⟨knw rfl rfl rfl (p5 rfl rfl), ⟨knw rfl rfl rfl (p_move rfl), ⟨knw rfl rfl rfl (p_ldb_one (i := 6) hS rfl rfl ia_39 rfl), ⟨knw rfl rfl rfl (p_fldb (o' := 14) rfl fi_41_8 rfl), ⟨knw rfl rfl rfl (p_fld rfl fi_91_0), ⟨knw rfl rfl rfl (p4 rfl rfl), ⟨knw rfl rfl rfl (p_move rfl), ⟨knw rfl rfl rfl (p_ldb_one (i := 6) hS rfl rfl ia_39 rfl), ⟨knw rfl rfl rfl (p_fldb (o' := 14) rfl fi_41_8 rfl), trivial⟩⟩⟩⟩⟩⟩⟩⟩⟩⟩⟩⟩, ?_⟩
              replace hS := hS.sel (is := [1, 0, 0, 0, 0, 0, 0]) (A' := [Ow (Kd.int .u8) 5 v17 x6, Ow (Kd.int .u8) 5 v16 x4, Ow (Kd.int .u8) 5 v13 x12, Ow (Kd.int .u8) 5 v12 x11, Ow (Kd.int .u8) 5 v9 x10, Ow (Kd.int .i64) 3 v8 ([x3.Lsn, x3.Tx, x3.Prev, x3.Kind, x3.Oid, x3.Next] : List Int), pt g1 41 ([(.int .i64 x3.Lsn), (.int .i64 x3.Tx), (.int .i64 x3.Prev), (.int .i64 x3.Kind), (.int .i64 x3.Oid), (.bool x3.Before.Has), (.int .i64 x3.Before.O.Kind), v1, v2, (.bool x3.After.Has), (.int .i64 x3.After.O.Kind), v3, v4, (.int .i64 x3.Next), v5])]) rfl
              obtain ⟨s22, hg15, hl6, hcall6⟩ := St.lend (P := Try.prog) (Bs := [Ow (Kd.int .u8) 5 v17 x6]) (A := []) (B := [Ow (Kd.int .u8) 5 v16 x4, Ow (Kd.int .u8) 5 v13 x12, Ow (Kd.int .u8) 5 v12 x11, Ow (Kd.int .u8) 5 v9 x10, Ow (Kd.int .i64) 3 v8 ([x3.Lsn, x3.Tx, x3.Prev, x3.Kind, x3.Oid, x3.Next] : List Int), pt g1 41 ([(.int .i64 x3.Lsn), (.int .i64 x3.Tx), (.int .i64 x3.Prev), (.int .i64 x3.Kind), (.int .i64 x3.Oid), (.bool x3.Before.Has), (.int .i64 x3.Before.O.Kind), v1, v2, (.bool x3.After.Has), (.int .i64 x3.After.O.Kind), v3, v4, (.int .i64 x3.Next), v5])]) hS
              obtain ⟨h18, hl6⟩ := hl6.ow hg15
              obtain ⟨x7, hx7, H⟩ := hb H
              refine pkE [15, 12, 11, 10, 9, 8, 5, 4, 3, 2, 1] rfl (by decide) (by kernel_rfl) (by kernel_rfl) (e_callA (fst := []) (vs := [v17, (.int .i64 ((rd x3.Txs x2).Last))]) (cap := []) rfl rfl go_63 (hcall6 (spec_PutInt.spec k2 _ _ x6 ((rd x3.Txs x2).Last) v17 h18 _ hx7) (by rintro v s1 A1 ⟨_, rfl, rfl⟩; exact ⟨Ow_flat flat_int _ _ _, trivial⟩)) rfl) ?_
              intro v w hR
              obtain ⟨s23, s24, A8, hg16, hS, hR⟩ := hR
              obtain ⟨v18, hv8, rfl⟩ := hR; obtain rfl := hv8.symm
              have hS : St e s23 w [Ow (Kd.int .u8) 5 v17 x6, Ow (Kd.int .u8) 5 v18 x7, Ow (Kd.int .u8) 5 v16 x4, Ow (Kd.int .u8) 5 v13 x12, Ow (Kd.int .u8) 5 v12 x11, Ow (Kd.int .u8) 5 v9 x10, Ow (Kd.int .i64) 3 v8 ([x3.Lsn, x3.Tx, x3.Prev, x3.Kind, x3.Oid, x3.Next] : List Int), pt g1 41 ([(.int .i64 x3.Lsn), (.int .i64 x3.Tx), (.int .i64 x3.Prev), (.int .i64 x3.Kind), (.int .i64 x3.Oid), (.bool x3.Before.Has), (.int .i64 x3.Before.O.Kind), v1, v2, (.bool x3.After.Has), (.int .i64 x3.After.O.Kind), v3, v4, (.int .i64 x3.Next), v5])] := hS
              refine ⟨⟨knw rfl rfl rfl (p_move rfl), ⟨knw rfl rfl rfl (p_fld rfl fi_91_1), ⟨knw rfl rfl rfl (p5 rfl rfl), ⟨knw rfl rfl rfl (p_move rfl), ⟨knw rfl rfl rfl (p_ldb_one (i := 7) hS rfl rfl ia_39 rfl), ⟨knw rfl rfl rfl (p_fldb (o' := 14) rfl fi_41_8 rfl), ⟨knw rfl rfl rfl (p_fld rfl fi_91_0), ⟨knw rfl rfl rfl (p4 rfl rfl), ⟨knw rfl rfl rfl (p_move rfl), ⟨knw rfl rfl rfl (p_ldb_one (i := 7) hS rfl rfl ia_39 rfl), ⟨knw rfl rfl rfl (p_fldb (o' := 14) rfl fi_41_8 rfl), trivial⟩⟩⟩⟩⟩⟩⟩⟩⟩⟩⟩, ?_⟩
              replace hS := hS.sel (is := [1, 0, 0, 0, 0, 0, 0, 0]) (A' := [Ow (Kd.int .u8) 5 v18 x7, Ow (Kd.int .u8) 5 v17 x6, Ow (Kd.int .u8) 5 v16 x4, Ow (Kd.int .u8) 5 v13 x12, Ow (Kd.int .u8) 5 v12 x11, Ow (Kd.int .u8) 5 v9 x10, Ow (Kd.int .i64) 3 v8 ([x3.Lsn, x3.Tx, x3.Prev, x3.Kind, x3.Oid, x3.Next] : List Int), pt g1 41 ([(.int .i64 x3.Lsn), (.int .i64 x3.Tx), (.int .i64 x3.Prev), (.int .i64 x3.Kind), (.int .i64 x3.Oid), (.bool x3.Before.Has), (.int .i64 x3.Before.O.Kind), v1, v2, (.bool x3.After.Has), (.int .i64 x3.After.O.Kind), v3, v4, (.int .i64 x3.Next), v5])]) rfl
              obtain ⟨s25, hg17, hl7, hcall7⟩ := St.lend (P := Try.prog) (Bs := [Ow (Kd.int .u8) 5 v18 x7]) (A := []) (B := [Ow (Kd.int .u8) 5 v17 x6, Ow (Kd.int .u8) 5 v16 x4, Ow (Kd.int .u8) 5 v13 x12, Ow (Kd.int .u8) 5 v12 x11, Ow (Kd.int .u8) 5 v9 x10, Ow (Kd.int .i64) 3 v8 ([x3.Lsn, x3.Tx, x3.Prev, x3.Kind, x3.Oid, x3.Next] : List Int), pt g1 41 ([(.int .i64 x3.Lsn), (.int .i64 x3.Tx), (.int .i64 x3.Prev), (.int .i64 x3.Kind), (.int .i64 x3.Oid), (.bool x3.Before.Has), (.int .i64 x3.Before.O.Kind), v1, v2, (.bool x3.After.Has), (.int .i64 x3.After.O.Kind), v3, v4, (.int .i64 x3.Next), v5])]) hS
              obtain ⟨h19, hl7⟩ := hl7.ow hg17
              obtain ⟨x8, hx8, H⟩ := hb H
              refine pkE [12, 11, 10, 9, 8, 5, 4, 3, 2, 1] rfl (by decide) (by kernel_rfl) (by kernel_rfl) (e_callA (fst := []) (vs := [v18, (.int .i64 x5)]) (cap := []) rfl rfl go_63 (hcall7 (spec_PutInt.spec k2 _ _ x7 x5 v18 h19 _ hx8) (by rintro v s1 A1 ⟨_, rfl, rfl⟩; exact ⟨Ow_flat flat_int _ _ _, trivial⟩)) rfl) ?_
              intro v w hR
              obtain ⟨s26, s27, A9, hg18, hS, hR⟩ := hR
              obtain ⟨v19, hv9, rfl⟩ := hR; obtain rfl := hv9.symm
              have hS : St e s26 w [Ow (Kd.int .u8) 5 v18 x7, Ow (Kd.int .u8) 5 v19 x8, Ow (Kd.int .u8) 5 v17 x6, Ow (Kd.int .u8) 5 v16 x4, Ow (Kd.int .u8) 5 v13 x12, Ow (Kd.int .u8) 5 v12 x11, Ow (Kd.int .u8) 5 v9 x10, Ow (Kd.int .i64) 3 v8 ([x3.Lsn, x3.Tx, x3.Prev, x3.Kind, x3.Oid, x3.Next] : List Int), pt g1 41 ([(.int .i64 x3.Lsn), (.int .i64 x3.Tx), (.int .i64 x3.Prev), (.int .i64 x3.Kind), (.int .i64 x3.Oid), (.bool x3.Before.Has), (.int .i64 x3.Before.O.Kind), v1, v2, (.bool x3.After.Has), (.int .i64 x3.After.O.Kind), v3, v4, (.int .i64 x3.Next), v5])] := hS
              refine ⟨⟨knw rfl rfl rfl (p_fld rfl fi_91_1), ⟨knw rfl rfl rfl (p5 rfl rfl), ⟨knw rfl rfl rfl (p_move rfl), ⟨knw rfl rfl rfl (p_ldb_one (i := 8) hS rfl rfl ia_39 rfl), ⟨knw rfl rfl rfl (p_fldb (o' := 14) rfl fi_41_8 rfl), ⟨knw rfl rfl rfl (p_fld rfl fi_91_0), ⟨knw rfl rfl rfl (p4 rfl rfl), ⟨knw rfl rfl rfl (p_move rfl), ⟨knw rfl rfl rfl (p_ldb_one (i := 8) hS rfl rfl ia_39 rfl), ⟨knw rfl rfl rfl (p_fldb (o' := 14) rfl fi_41_8 rfl), trivial⟩⟩⟩⟩⟩⟩⟩⟩⟩⟩, ?_⟩
              refine pkE [] rfl (by decide) (by kernel_rfl) (by kernel_rfl) (puEf (p_assign rfl)) ?_
              rintro v w' ⟨hv, rfl⟩
              obtain rfl := hv.symm
              refine ⟨trivial, ?_⟩
              refine pkF (fun a hF => ?_)
              refine bn (xn ?_)
              refine rg ?_
              refine stp hF (p_move rfl) (by decide) (fun a hF => ?_)
              refine stp hF (p_add (c := w64 (x2 + 1)) rfl rfl rfl) (by decide) (fun a hF => ?_)
              refine stp hF (p_assign rfl) (by decide) (fun a hF => ?_)
              refine nilN ?_
              refine xn ?_
              replace hS := hS.sel (is := [4, 4, 4, 4, 4, 1]) (A' := [Ow (Kd.int .u8) 5 v13 x12, Ow (Kd.int .u8) 5 v12 x11, Ow (Kd.int .u8) 5 v9 x10, Ow (Kd.int .i64) 3 v8 ([x3.Lsn, x3.Tx, x3.Prev, x3.Kind, x3.Oid, x3.Next] : List Int), pt g1 41 ([(.int .i64 x3.Lsn), (.int .i64 x3.Tx), (.int .i64 x3.Prev), (.int .i64 x3.Kind), (.int .i64 x3.Oid), (.bool x3.Before.Has), (.int .i64 x3.Before.O.Kind), v1, v2, (.bool x3.After.Has), (.int .i64 x3.After.O.Kind), v3, v4, (.int .i64 x3.Next), v5]), Ow (Kd.int .u8) 5 v19 x8]) rfl
              exact ⟨x8, (w64 (x2 + 1)), s26, v19, hS, hF.cut ⟨rfl, rfl, rfl, trivial⟩, (((hg12.trans hg14).trans hg16).trans hg18), H⟩
          · replace H := hbf hc3 H
            refine exi ?_
            refine xe (xe (hit (xn ?_)))
            obtain rfl := hsm H
            exact ⟨x4, s18, v16, hS, hF.cut ⟨rfl, trivial⟩, hg12, HK2⟩
      · clear H HK2 hS hF
        rintro a w ⟨x1, s17, v15, hS, hF, hg19, H⟩
        unfold spec_PutRec.c1 at H
        refine sq ?_
        refine rg ?_
        refine stp hF (p_move rfl) (by decide) (fun a hF => ?_)
        refine stp hF (p_assign rfl) (by decide) (fun a hF => ?_)
        refine nilN ?_
        refine xn ?_
        refine rt ?_
        obtain rfl := hsm H
        replace hS := hS.sel (is := [5]) (A' := [Ow (Kd.int .u8) 5 v15 x1]) rfl
        exact ret1 hF rfl rfl hS ⟨v15, rfl, rfl⟩
end Go.Proofs.Ytocknibhajihmaa
