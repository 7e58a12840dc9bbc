/- Functions of this place as plain functions, and that the machine comes to what they say. Conditions: none. -/
import Derived.Test.YtocknibhajihmaaKwB4Fa
set_option linter.unusedVariables false
set_option linter.unusedSimpArgs false
namespace Go.Proofs.Ytocknibhajihmaa
open Go.Kw

def spec_l4DrawAny.c1 (k : Nat) (x1 : Int) (x2 : Int) (x3 : Int) (x4 : Int) (x5 : Int) (x6 : Bool) (x7 : Int) (x8 : (List Int)) (x9 : (List Int)) (x10 : Bool) (x11 : Int) (x12 : (List Int)) (x13 : (List Int)) (x14 : Int) (x15 : (List TLive)) (x16 : (List Int)) (x17 : Int) (x18 : Int) : Option (TRec × (List Int) × Int × Int) :=
  (some ((⟨x1, x2, x3, x4, x5, (⟨x6, (⟨x7, x8, x9⟩ : TObj)⟩ : TSlot), (⟨x10, (⟨x11, x12, x13⟩ : TObj)⟩ : TSlot), x14, x15⟩ : TRec), x16, x17, x18))
def spec_l4DrawAny.f (k : Nat) (x19 : (List Int)) (x20 : Int) (x21 : Int) : Option (TRec × (List Int) × Int × Int) :=
  ((spec_l4Draw.f k x19 x20 x21).bind fun x22 => ((((spec_l1Once.f k x22.2.1 x22.2.2.1 x22.2.2.2 5).bind fun x23 => (if x23.1 = true then ((spec_l4Bend.f k x23.2.1 x23.2.2.1 x23.2.2.2 x22.1).bind fun x24 => (some (x24.1.Lsn, x24.1.Tx, x24.1.Prev, x24.1.Kind, x24.1.Oid, x24.1.Before.Has, x24.1.Before.O.Kind, x24.1.Before.O.Ints, x24.1.Before.O.Refs, x24.1.After.Has, x24.1.After.O.Kind, x24.1.After.O.Ints, x24.1.After.O.Refs, x24.1.Next, x24.1.Txs, x24.2.1, x24.2.2.1, x24.2.2.2))) else (some (x22.1.Lsn, x22.1.Tx, x22.1.Prev, x22.1.Kind, x22.1.Oid, x22.1.Before.Has, x22.1.Before.O.Kind, x22.1.Before.O.Ints, x22.1.Before.O.Refs, x22.1.After.Has, x22.1.After.O.Kind, x22.1.After.O.Ints, x22.1.After.O.Refs, x22.1.Next, x22.1.Txs, x23.2.1, x23.2.2.1, x23.2.2.2)))) : Option (Int × Int × Int × Int × Int × Bool × Int × (List Int) × (List Int) × Bool × Int × (List Int) × (List Int) × Int × (List TLive) × (List Int) × Int × Int)).bind fun x25 => spec_l4DrawAny.c1 k x25.1 x25.2.1 x25.2.2.1 x25.2.2.2.1 x25.2.2.2.2.1 x25.2.2.2.2.2.1 x25.2.2.2.2.2.2.1 x25.2.2.2.2.2.2.2.1 x25.2.2.2.2.2.2.2.2.1 x25.2.2.2.2.2.2.2.2.2.1 x25.2.2.2.2.2.2.2.2.2.2.1 x25.2.2.2.2.2.2.2.2.2.2.2.1 x25.2.2.2.2.2.2.2.2.2.2.2.2.1 x25.2.2.2.2.2.2.2.2.2.2.2.2.2.1 x25.2.2.2.2.2.2.2.2.2.2.2.2.2.2.1 x25.2.2.2.2.2.2.2.2.2.2.2.2.2.2.2.1 x25.2.2.2.2.2.2.2.2.2.2.2.2.2.2.2.2.1 x25.2.2.2.2.2.2.2.2.2.2.2.2.2.2.2.2.2))
set_option maxRecDepth 100000 in
set_option maxHeartbeats 4000000 in
theorem spec_l4DrawAny.spec (k : Nat) (s0 : HF) (w : World) (x19 : (List Int)) (x20 : Int) (x21 : Int) (v1 : Value) (g1 : Nat) (h1 : Sl (Kd.int .u8) s0 v1 x19) (r : TRec × (List Int) × Int × Int) (H : spec_l4DrawAny.f k x19 x20 x21 = some r) :
    Law Try.prog 74 #[(.pointer (some ⟨g1, 0, none⟩))] s0 w [pt g1 139 ([v1, (.int .i64 x20), (.int .i64 x21)])] (fun v s1 A1 => ∃ (u0 : Value) (u1 : Value) (u2 : Value) (u3 : Value) (u4 : Value) (u5 : Value), v = (.agg #[(.int .i64 r.1.Lsn), (.int .i64 r.1.Tx), (.int .i64 r.1.Prev), (.int .i64 r.1.Kind), (.int .i64 r.1.Oid), (.bool r.1.Before.Has), (.int .i64 r.1.Before.O.Kind), u1, u2, (.bool r.1.After.Has), (.int .i64 r.1.After.O.Kind), u3, u4, (.int .i64 r.1.Next), u5]) ∧ A1 = [pt g1 139 ([u0, (.int .i64 r.2.2.1), (.int .i64 r.2.2.2)])] ∧ Sl (Kd.int .u8) s1 u0 r.2.1 ∧ Sl (Kd.int .i64) s1 u1 r.1.Before.O.Ints ∧ Sl (Kd.int .i64) s1 u2 r.1.Before.O.Refs ∧ Sl (Kd.int .i64) s1 u3 r.1.After.O.Ints ∧ Sl (Kd.int .i64) s1 u4 r.1.After.O.Refs ∧ Sl kTLive s1 u5 r.1.Txs) := by
  unfold spec_l4DrawAny.f at H
  refine Law.intro Try.func74 rfl [(0, (.pointer (some ⟨g1, 0, none⟩)))] (Nat.le_of_ble_eq_true rfl) (enter_lk ⟨rfl, trivial⟩) (fun e a hS hF => ?_)
  have hF : Fr 12 a [(0, (.pointer (some ⟨g1, 0, none⟩)))] := hF
  refine sq ?_
  refine rg ?_
  refine ste hF (e_alloc (cs := [(.int .i64 0), (.int .i64 0), (.int .i64 0), (.int .i64 0), (.int .i64 0), (.bool false), (.int .i64 0), (.slice none 0 0), (.slice none 0 0), (.bool false), (.int .i64 0), (.slice none 0 0), (.slice none 0 0), (.int .i64 0), (.slice none 0 0)]) hS ti_41 rfl) (by decide) (fun v w a hR hF => ?_)
  obtain ⟨g2, rfl, hS⟩ := hR
  refine nilN ?_
  refine xn ?_
  refine sq ?_
  refine rg ?_
  refine stp hF (p_move rfl) (by decide) (fun a hF => ?_)
  replace hS := hS.sel (is := [1, 0]) (A' := [pt g1 139 ([v1, (.int .i64 x20), (.int .i64 x21)]), pt g2 41 ([(.int .i64 0), (.int .i64 0), (.int .i64 0), (.int .i64 0), (.int .i64 0), (.bool false), (.int .i64 0), (.slice none 0 0), (.slice none 0 0), (.bool false), (.int .i64 0), (.slice none 0 0), (.slice none 0 0), (.int .i64 0), (.slice none 0 0)])]) rfl
  obtain ⟨x22, hx1, H⟩ := hb H
  refine ste hF (e_callA (fst := []) (vs := [(.pointer (some ⟨g1, 0, none⟩))]) (cap := []) rfl rfl go_137 (St.call (A := [pt g1 139 ([v1, (.int .i64 x20), (.int .i64 x21)])]) (B := [pt g2 41 ([(.int .i64 0), (.int .i64 0), (.int .i64 0), (.int .i64 0), (.int .i64 0), (.bool false), (.int .i64 0), (.slice none 0 0), (.slice none 0 0), (.bool false), (.int .i64 0), (.slice none 0 0), (.slice none 0 0), (.int .i64 0), (.slice none 0 0)])]) hS (spec_l4Draw.spec k _ _ x19 x20 x21 v1 g1 h1 _ hx1)) rfl) (by decide) (fun v w a hR hF => ?_)
  obtain ⟨s2, A2, hg1, hS, hR⟩ := hR
  obtain ⟨v2, v3, v4, v5, v6, v7, hv1, rfl, h2⟩ := hR; obtain rfl := hv1.symm
  have hS : St e s2 w [pt g1 139 ([v2, (.int .i64 x22.2.2.1), (.int .i64 x22.2.2.2)]), Ow (Kd.int .i64) 3 v3 x22.1.Before.O.Ints, Ow (Kd.int .i64) 3 v4 x22.1.Before.O.Refs, Ow (Kd.int .i64) 3 v5 x22.1.After.O.Ints, Ow (Kd.int .i64) 3 v6 x22.1.After.O.Refs, Ow kTLive 91 v7 x22.1.Txs, pt g2 41 ([(.int .i64 0), (.int .i64 0), (.int .i64 0), (.int .i64 0), (.int .i64 0), (.bool false), (.int .i64 0), (.slice none 0 0), (.slice none 0 0), (.bool false), (.int .i64 0), (.slice none 0 0), (.slice none 0 0), (.int .i64 0), (.slice none 0 0)])] := hS
  refine ste hF (e_alloc (cs := [(.int .i64 0), (.int .i64 0), (.int .i64 0), (.int .i64 0), (.int .i64 0), (.bool false), (.int .i64 0), (.slice none 0 0), (.slice none 0 0), (.bool false), (.int .i64 0), (.slice none 0 0), (.slice none 0 0), (.int .i64 0), (.slice none 0 0)]) hS ti_41 rfl) (by decide) (fun v w a hR hF => ?_)
  obtain ⟨g3, rfl, hS⟩ := hR
  refine ste0 hF (e_stb (i := 0) (l := []) (m := [(.int .i64 0), (.int .i64 0), (.int .i64 0), (.int .i64 0), (.int .i64 0), (.bool false), (.int .i64 0), (.slice none 0 0), (.slice none 0 0), (.bool false), (.int .i64 0), (.slice none 0 0), (.slice none 0 0), (.int .i64 0), (.slice none 0 0)]) (r := []) (m' := [(.int .i64 x22.1.Lsn), (.int .i64 x22.1.Tx), (.int .i64 x22.1.Prev), (.int .i64 x22.1.Kind), (.int .i64 x22.1.Oid), (.bool x22.1.Before.Has), (.int .i64 x22.1.Before.O.Kind), v3, v4, (.bool x22.1.After.Has), (.int .i64 x22.1.After.O.Kind), v5, v6, (.int .i64 x22.1.Next), v7]) (cs' := [(.int .i64 x22.1.Lsn), (.int .i64 x22.1.Tx), (.int .i64 x22.1.Prev), (.int .i64 x22.1.Kind), (.int .i64 x22.1.Oid), (.bool x22.1.Before.Has), (.int .i64 x22.1.Before.O.Kind), v3, v4, (.bool x22.1.After.Has), (.int .i64 x22.1.After.O.Kind), v5, v6, (.int .i64 x22.1.Next), v7]) hS rfl rfl rfl ti_41 rfl rfl rfl rfl rfl (one_cons rfl (one_cons rfl (one_cons rfl (one_cons rfl (one_cons rfl (one_cons rfl (one_cons rfl (one_cons (hS.one_ow (i := 2) rfl) (one_cons (hS.one_ow (i := 3) rfl) (one_cons rfl (one_cons rfl (one_cons (hS.one_ow (i := 4) rfl) (one_cons (hS.one_ow (i := 5) rfl) (one_cons rfl (one_cons (hS.one_ow (i := 6) rfl) one_nil))))))))))))))) rfl) (fun v w a hR hF => ?_)
  have hS : St e s2 w [pt g3 41 ([(.int .i64 x22.1.Lsn), (.int .i64 x22.1.Tx), (.int .i64 x22.1.Prev), (.int .i64 x22.1.Kind), (.int .i64 x22.1.Oid), (.bool x22.1.Before.Has), (.int .i64 x22.1.Before.O.Kind), v3, v4, (.bool x22.1.After.Has), (.int .i64 x22.1.After.O.Kind), v5, v6, (.int .i64 x22.1.Next), v7]), pt g1 139 ([v2, (.int .i64 x22.2.2.1), (.int .i64 x22.2.2.2)]), Ow (Kd.int .i64) 3 v3 x22.1.Before.O.Ints, Ow (Kd.int .i64) 3 v4 x22.1.Before.O.Refs, Ow (Kd.int .i64) 3 v5 x22.1.After.O.Ints, Ow (Kd.int .i64) 3 v6 x22.1.After.O.Refs, Ow kTLive 91 v7 x22.1.Txs, pt g2 41 ([(.int .i64 0), (.int .i64 0), (.int .i64 0), (.int .i64 0), (.int .i64 0), (.bool false), (.int .i64 0), (.slice none 0 0), (.slice none 0 0), (.bool false), (.int .i64 0), (.slice none 0 0), (.slice none 0 0), (.int .i64 0), (.slice none 0 0)])] := hR
  refine nilN ?_
  refine xn ?_
  obtain ⟨x25, H, HK1⟩ := hb H
  refine sqj (fun a w => ∃ (x1 : Int) (x2 : Int) (x3 : Int) (x4 : Int) (x5 : Int) (x6 : Bool) (x7 : Int) (x8 : (List Int)) (x9 : (List Int)) (x10 : Bool) (x11 : Int) (x12 : (List Int)) (x13 : (List Int)) (x14 : Int) (x15 : (List TLive)) (x16 : (List Int)) (x17 : Int) (x18 : Int) (s3 : HF) (v8 : Value) (v9 : Value) (v10 : Value) (v11 : Value) (v12 : Value) (v13 : Value) , St e s3 w [pt g3 41 ([(.int .i64 x1), (.int .i64 x2), (.int .i64 x3), (.int .i64 x4), (.int .i64 x5), (.bool x6), (.int .i64 x7), v8, v9, (.bool x10), (.int .i64 x11), v10, v11, (.int .i64 x14), v12]), pt g1 139 ([v13, (.int .i64 x17), (.int .i64 x18)]), pt g2 41 ([(.int .i64 0), (.int .i64 0), (.int .i64 0), (.int .i64 0), (.int .i64 0), (.bool false), (.int .i64 0), (.slice none 0 0), (.slice none 0 0), (.bool false), (.int .i64 0), (.slice none 0 0), (.slice none 0 0), (.int .i64 0), (.slice none 0 0)])] ∧ Fr 12 a [(2, (.pointer (some ⟨g2, 0, none⟩))), (3, (.pointer (some ⟨g3, 0, none⟩)))] ∧ Sub s2 s3 ∧ Sl (Kd.int .i64) s3 v8 x8 ∧ Sl (Kd.int .i64) s3 v9 x9 ∧ Sl (Kd.int .i64) s3 v10 x12 ∧ Sl (Kd.int .i64) s3 v11 x13 ∧ Sl kTLive s3 v12 x15 ∧ Sl (Kd.int .u8) s3 v13 x16 ∧ spec_l4DrawAny.c1 k x1 x2 x3 x4 x5 x6 x7 x8 x9 x10 x11 x12 x13 x14 x15 x16 x17 x18 = some r) ?_ ?_
  · skip
    refine sq ?_
    refine rg ?_
    refine stp hF (p_move rfl) (by decide) (fun a hF => ?_)
    replace hS := hS.sel (is := [1, 0, 0, 0, 0, 0, 0, 0]) (A' := [pt g1 139 ([v2, (.int .i64 x22.2.2.1), (.int .i64 x22.2.2.2)]), pt g3 41 ([(.int .i64 x22.1.Lsn), (.int .i64 x22.1.Tx), (.int .i64 x22.1.Prev), (.int .i64 x22.1.Kind), (.int .i64 x22.1.Oid), (.bool x22.1.Before.Has), (.int .i64 x22.1.Before.O.Kind), v3, v4, (.bool x22.1.After.Has), (.int .i64 x22.1.After.O.Kind), v5, v6, (.int .i64 x22.1.Next), v7]), Ow (Kd.int .i64) 3 v3 x22.1.Before.O.Ints, Ow (Kd.int .i64) 3 v4 x22.1.Before.O.Refs, Ow (Kd.int .i64) 3 v5 x22.1.After.O.Ints, Ow (Kd.int .i64) 3 v6 x22.1.After.O.Refs, Ow kTLive 91 v7 x22.1.Txs, pt g2 41 ([(.int .i64 0), (.int .i64 0), (.int .i64 0), (.int .i64 0), (.int .i64 0), (.bool false), (.int .i64 0), (.slice none 0 0), (.slice none 0 0), (.bool false), (.int .i64 0), (.slice none 0 0), (.slice none 0 0), (.int .i64 0), (.slice none 0 0)])]) rfl
    obtain ⟨x23, hx2, H⟩ := hb H
    refine ste hF (e_callA (fst := []) (vs := [(.pointer (some ⟨g1, 0, none⟩)), (.int .i64 5)]) (cap := []) rfl rfl go_91 (St.call (A := [pt g1 139 ([v2, (.int .i64 x22.2.2.1), (.int .i64 x22.2.2.2)])]) (B := [pt g3 41 ([(.int .i64 x22.1.Lsn), (.int .i64 x22.1.Tx), (.int .i64 x22.1.Prev), (.int .i64 x22.1.Kind), (.int .i64 x22.1.Oid), (.bool x22.1.Before.Has), (.int .i64 x22.1.Before.O.Kind), v3, v4, (.bool x22.1.After.Has), (.int .i64 x22.1.After.O.Kind), v5, v6, (.int .i64 x22.1.Next), v7]), Ow (Kd.int .i64) 3 v3 x22.1.Before.O.Ints, Ow (Kd.int .i64) 3 v4 x22.1.Before.O.Refs, Ow (Kd.int .i64) 3 v5 x22.1.After.O.Ints, Ow (Kd.int .i64) 3 v6 x22.1.After.O.Refs, Ow kTLive 91 v7 x22.1.Txs, pt g2 41 ([(.int .i64 0), (.int .i64 0), (.int .i64 0), (.int .i64 0), (.int .i64 0), (.bool false), (.int .i64 0), (.slice none 0 0), (.slice none 0 0), (.bool false), (.int .i64 0), (.slice none 0 0), (.slice none 0 0), (.int .i64 0), (.slice none 0 0)])]) hS (spec_l1Once.spec k _ _ x22.2.1 x22.2.2.1 x22.2.2.2 5 v2 g1 h2 _ hx2)) rfl) (by decide) (fun v w a hR hF => ?_)
    obtain ⟨s4, A3, hg2, hS, hR⟩ := hR
    obtain ⟨v14, hv2, rfl, h3⟩ := hR; obtain rfl := hv2.symm
    have hS : St e s4 w [pt g1 139 ([v14, (.int .i64 x23.2.2.1), (.int .i64 x23.2.2.2)]), pt g3 41 ([(.int .i64 x22.1.Lsn), (.int .i64 x22.1.Tx), (.int .i64 x22.1.Prev), (.int .i64 x22.1.Kind), (.int .i64 x22.1.Oid), (.bool x22.1.Before.Has), (.int .i64 x22.1.Before.O.Kind), v3, v4, (.bool x22.1.After.Has), (.int .i64 x22.1.After.O.Kind), v5, v6, (.int .i64 x22.1.Next), v7]), Ow (Kd.int .i64) 3 v3 x22.1.Before.O.Ints, Ow (Kd.int .i64) 3 v4 x22.1.Before.O.Refs, Ow (Kd.int .i64) 3 v5 x22.1.After.O.Ints, Ow (Kd.int .i64) 3 v6 x22.1.After.O.Refs, Ow kTLive 91 v7 x22.1.Txs, pt g2 41 ([(.int .i64 0), (.int .i64 0), (.int .i64 0), (.int .i64 0), (.int .i64 0), (.bool false), (.int .i64 0), (.slice none 0 0), (.slice none 0 0), (.bool false), (.int .i64 0), (.slice none 0 0), (.slice none 0 0), (.int .i64 0), (.slice none 0 0)])] := hS
    refine nilN ?_
    refine xn ?_
    refine cnd hF rfl (fun hc1 => ?_) (fun hc1 => ?_)
    · replace H := hbt hc1 H
      refine rg ?_
      refine stp hF (p_move rfl) (by decide) (fun a hF => ?_)
      refine stp hF (p_ldb_agg (i := 1) (l := []) (m := [(.int .i64 x22.1.Lsn), (.int .i64 x22.1.Tx), (.int .i64 x22.1.Prev), (.int .i64 x22.1.Kind), (.int .i64 x22.1.Oid), (.bool x22.1.Before.Has), (.int .i64 x22.1.Before.O.Kind), v3, v4, (.bool x22.1.After.Has), (.int .i64 x22.1.After.O.Kind), v5, v6, (.int .i64 x22.1.Next), v7]) (r := []) hS rfl rfl ia_41 ti_41 rfl rfl rfl) (by decide) (fun a hF => ?_)
      obtain ⟨s5, hg3, h4, hS⟩ := hS.freeze (i := 2) (kd := (Kd.int .i64)) (et := 3) (v := v3) (xs := x22.1.Before.O.Ints) (B := [pt g1 139 ([v14, (.int .i64 x23.2.2.1), (.int .i64 x23.2.2.2)]), pt g3 41 ([(.int .i64 x22.1.Lsn), (.int .i64 x22.1.Tx), (.int .i64 x22.1.Prev), (.int .i64 x22.1.Kind), (.int .i64 x22.1.Oid), (.bool x22.1.Before.Has), (.int .i64 x22.1.Before.O.Kind), v3, v4, (.bool x22.1.After.Has), (.int .i64 x22.1.After.O.Kind), v5, v6, (.int .i64 x22.1.Next), v7]), Ow (Kd.int .i64) 3 v4 x22.1.Before.O.Refs, Ow (Kd.int .i64) 3 v5 x22.1.After.O.Ints, Ow (Kd.int .i64) 3 v6 x22.1.After.O.Refs, Ow kTLive 91 v7 x22.1.Txs, pt g2 41 ([(.int .i64 0), (.int .i64 0), (.int .i64 0), (.int .i64 0), (.int .i64 0), (.bool false), (.int .i64 0), (.slice none 0 0), (.slice none 0 0), (.bool false), (.int .i64 0), (.slice none 0 0), (.slice none 0 0), (.int .i64 0), (.slice none 0 0)])]) rfl
      obtain ⟨s6, hg4, h5, hS⟩ := hS.freeze (i := 2) (kd := (Kd.int .i64)) (et := 3) (v := v4) (xs := x22.1.Before.O.Refs) (B := [pt g1 139 ([v14, (.int .i64 x23.2.2.1), (.int .i64 x23.2.2.2)]), pt g3 41 ([(.int .i64 x22.1.Lsn), (.int .i64 x22.1.Tx), (.int .i64 x22.1.Prev), (.int .i64 x22.1.Kind), (.int .i64 x22.1.Oid), (.bool x22.1.Before.Has), (.int .i64 x22.1.Before.O.Kind), v3, v4, (.bool x22.1.After.Has), (.int .i64 x22.1.After.O.Kind), v5, v6, (.int .i64 x22.1.Next), v7]), Ow (Kd.int .i64) 3 v5 x22.1.After.O.Ints, Ow (Kd.int .i64) 3 v6 x22.1.After.O.Refs, Ow kTLive 91 v7 x22.1.Txs, pt g2 41 ([(.int .i64 0), (.int .i64 0), (.int .i64 0), (.int .i64 0), (.int .i64 0), (.bool false), (.int .i64 0), (.slice none 0 0), (.slice none 0 0), (.bool false), (.int .i64 0), (.slice none 0 0), (.slice none 0 0), (.int .i64 0), (.slice none 0 0)])]) rfl
      obtain ⟨s7, hg5, h6, hS⟩ := hS.freeze (i := 2) (kd := (Kd.int .i64)) (et := 3) (v := v5) (xs := x22.1.After.O.Ints) (B := [pt g1 139 ([v14, (.int .i64 x23.2.2.1), (.int .i64 x23.2.2.2)]), pt g3 41 ([(.int .i64 x22.1.Lsn), (.int .i64 x22.1.Tx), (.int .i64 x22.1.Prev), (.int .i64 x22.1.Kind), (.int .i64 x22.1.Oid), (.bool x22.1.Before.Has), (.int .i64 x22.1.Before.O.Kind), v3, v4, (.bool x22.1.After.Has), (.int .i64 x22.1.After.O.Kind), v5, v6, (.int .i64 x22.1.Next), v7]), Ow (Kd.int .i64) 3 v6 x22.1.After.O.Refs, Ow kTLive 91 v7 x22.1.Txs, pt g2 41 ([(.int .i64 0), (.int .i64 0), (.int .i64 0), (.int .i64 0), (.int .i64 0), (.bool false), (.int .i64 0), (.slice none 0 0), (.slice none 0 0), (.bool false), (.int .i64 0), (.slice none 0 0), (.slice none 0 0), (.int .i64 0), (.slice none 0 0)])]) rfl
      obtain ⟨s8, hg6, h7, hS⟩ := hS.freeze (i := 2) (kd := (Kd.int .i64)) (et := 3) (v := v6) (xs := x22.1.After.O.Refs) (B := [pt g1 139 ([v14, (.int .i64 x23.2.2.1), (.int .i64 x23.2.2.2)]), pt g3 41 ([(.int .i64 x22.1.Lsn), (.int .i64 x22.1.Tx), (.int .i64 x22.1.Prev), (.int .i64 x22.1.Kind), (.int .i64 x22.1.Oid), (.bool x22.1.Before.Has), (.int .i64 x22.1.Before.O.Kind), v3, v4, (.bool x22.1.After.Has), (.int .i64 x22.1.After.O.Kind), v5, v6, (.int .i64 x22.1.Next), v7]), Ow kTLive 91 v7 x22.1.Txs, pt g2 41 ([(.int .i64 0), (.int .i64 0), (.int .i64 0), (.int .i64 0), (.int .i64 0), (.bool false), (.int .i64 0), (.slice none 0 0), (.slice none 0 0), (.bool false), (.int .i64 0), (.slice none 0 0), (.slice none 0 0), (.int .i64 0), (.slice none 0 0)])]) rfl
      obtain ⟨s9, hg7, h8, hS⟩ := hS.freeze (i := 2) (kd := kTLive) (et := 91) (v := v7) (xs := x22.1.Txs) (B := [pt g1 139 ([v14, (.int .i64 x23.2.2.1), (.int .i64 x23.2.2.2)]), pt g3 41 ([(.int .i64 x22.1.Lsn), (.int .i64 x22.1.Tx), (.int .i64 x22.1.Prev), (.int .i64 x22.1.Kind), (.int .i64 x22.1.Oid), (.bool x22.1.Before.Has), (.int .i64 x22.1.Before.O.Kind), v3, v4, (.bool x22.1.After.Has), (.int .i64 x22.1.After.O.Kind), v5, v6, (.int .i64 x22.1.Next), v7]), pt g2 41 ([(.int .i64 0), (.int .i64 0), (.int .i64 0), (.int .i64 0), (.int .i64 0), (.bool false), (.int .i64 0), (.slice none 0 0), (.slice none 0 0), (.bool false), (.int .i64 0), (.slice none 0 0), (.slice none 0 0), (.int .i64 0), (.slice none 0 0)])]) rfl
      obtain ⟨x24, hx3, H⟩ := hb H
      refine ste hF (e_callA (fst := []) (vs := [(.pointer (some ⟨g1, 0, none⟩)), (.agg #[(.int .i64 x22.1.Lsn), (.int .i64 x22.1.Tx), (.int .i64 x22.1.Prev), (.int .i64 x22.1.Kind), (.int .i64 x22.1.Oid), (.bool x22.1.Before.Has), (.int .i64 x22.1.Before.O.Kind), v3, v4, (.bool x22.1.After.Has), (.int .i64 x22.1.After.O.Kind), v5, v6, (.int .i64 x22.1.Next), v7])]) (cap := []) rfl rfl go_138 (St.call (A := [pt g1 139 ([v14, (.int .i64 x23.2.2.1), (.int .i64 x23.2.2.2)])]) (B := [pt g3 41 ([(.int .i64 x22.1.Lsn), (.int .i64 x22.1.Tx), (.int .i64 x22.1.Prev), (.int .i64 x22.1.Kind), (.int .i64 x22.1.Oid), (.bool x22.1.Before.Has), (.int .i64 x22.1.Before.O.Kind), v3, v4, (.bool x22.1.After.Has), (.int .i64 x22.1.After.O.Kind), v5, v6, (.int .i64 x22.1.Next), v7]), pt g2 41 ([(.int .i64 0), (.int .i64 0), (.int .i64 0), (.int .i64 0), (.int .i64 0), (.bool false), (.int .i64 0), (.slice none 0 0), (.slice none 0 0), (.bool false), (.int .i64 0), (.slice none 0 0), (.slice none 0 0), (.int .i64 0), (.slice none 0 0)])]) hS (spec_l4Bend.spec k _ _ x23.2.1 x23.2.2.1 x23.2.2.2 x22.1 v14 g1 v3 v4 v5 v6 v7 (((((h3.mono hg3).mono hg4).mono hg5).mono hg6).mono hg7) ((((h4.mono hg4).mono hg5).mono hg6).mono hg7) (((h5.mono hg5).mono hg6).mono hg7) ((h6.mono hg6).mono hg7) (h7.mono hg7) h8 _ hx3)) rfl) (by decide) (fun v w a hR hF => ?_)
      obtain ⟨s10, A4, hg8, hS, hR⟩ := hR
      obtain ⟨v15, v16, v17, v18, v19, v20, hv3, rfl, h9, h10, h11, h12, h13, h14⟩ := hR; obtain rfl := hv3.symm
      have hS : St e s10 w [pt g1 139 ([v15, (.int .i64 x24.2.2.1), (.int .i64 x24.2.2.2)]), pt g3 41 ([(.int .i64 x22.1.Lsn), (.int .i64 x22.1.Tx), (.int .i64 x22.1.Prev), (.int .i64 x22.1.Kind), (.int .i64 x22.1.Oid), (.bool x22.1.Before.Has), (.int .i64 x22.1.Before.O.Kind), v3, v4, (.bool x22.1.After.Has), (.int .i64 x22.1.After.O.Kind), v5, v6, (.int .i64 x22.1.Next), v7]), pt g2 41 ([(.int .i64 0), (.int .i64 0), (.int .i64 0), (.int .i64 0), (.int .i64 0), (.bool false), (.int .i64 0), (.slice none 0 0), (.slice none 0 0), (.bool false), (.int .i64 0), (.slice none 0 0), (.slice none 0 0), (.int .i64 0), (.slice none 0 0)])] := hS
      refine ste0 hF (e_stb (i := 1) (l := []) (m := [(.int .i64 x22.1.Lsn), (.int .i64 x22.1.Tx), (.int .i64 x22.1.Prev), (.int .i64 x22.1.Kind), (.int .i64 x22.1.Oid), (.bool x22.1.Before.Has), (.int .i64 x22.1.Before.O.Kind), v3, v4, (.bool x22.1.After.Has), (.int .i64 x22.1.After.O.Kind), v5, v6, (.int .i64 x22.1.Next), v7]) (r := []) (m' := [(.int .i64 x24.1.Lsn), (.int .i64 x24.1.Tx), (.int .i64 x24.1.Prev), (.int .i64 x24.1.Kind), (.int .i64 x24.1.Oid), (.bool x24.1.Before.Has), (.int .i64 x24.1.Before.O.Kind), v16, v17, (.bool x24.1.After.Has), (.int .i64 x24.1.After.O.Kind), v18, v19, (.int .i64 x24.1.Next), v20]) (cs' := [(.int .i64 x24.1.Lsn), (.int .i64 x24.1.Tx), (.int .i64 x24.1.Prev), (.int .i64 x24.1.Kind), (.int .i64 x24.1.Oid), (.bool x24.1.Before.Has), (.int .i64 x24.1.Before.O.Kind), v16, v17, (.bool x24.1.After.Has), (.int .i64 x24.1.After.O.Kind), v18, v19, (.int .i64 x24.1.Next), v20]) hS rfl rfl rfl ti_41 rfl rfl rfl rfl rfl (one_cons rfl (one_cons rfl (one_cons rfl (one_cons rfl (one_cons rfl (one_cons rfl (one_cons rfl (one_cons (one_sl h10) (one_cons (one_sl h11) (one_cons rfl (one_cons rfl (one_cons (one_sl h12) (one_cons (one_sl h13) (one_cons rfl (one_cons (one_sl h14) one_nil))))))))))))))) rfl) (fun v w a hR hF => ?_)
      have hS : St e s10 w [pt g3 41 ([(.int .i64 x24.1.Lsn), (.int .i64 x24.1.Tx), (.int .i64 x24.1.Prev), (.int .i64 x24.1.Kind), (.int .i64 x24.1.Oid), (.bool x24.1.Before.Has), (.int .i64 x24.1.Before.O.Kind), v16, v17, (.bool x24.1.After.Has), (.int .i64 x24.1.After.O.Kind), v18, v19, (.int .i64 x24.1.Next), v20]), pt g1 139 ([v15, (.int .i64 x24.2.2.1), (.int .i64 x24.2.2.2)]), pt g2 41 ([(.int .i64 0), (.int .i64 0), (.int .i64 0), (.int .i64 0), (.int .i64 0), (.bool false), (.int .i64 0), (.slice none 0 0), (.slice none 0 0), (.bool false), (.int .i64 0), (.slice none 0 0), (.slice none 0 0), (.int .i64 0), (.slice none 0 0)])] := hR
      refine nilN ?_
      refine xn ?_
      obtain rfl := hsm H
      exact ⟨x24.1.Lsn, x24.1.Tx, x24.1.Prev, x24.1.Kind, x24.1.Oid, x24.1.Before.Has, x24.1.Before.O.Kind, x24.1.Before.O.Ints, x24.1.Before.O.Refs, x24.1.After.Has, x24.1.After.O.Kind, x24.1.After.O.Ints, x24.1.After.O.Refs, x24.1.Next, x24.1.Txs, x24.2.1, x24.2.2.1, x24.2.2.2, s10, v16, v17, v18, v19, v20, v15, hS, hF.cut ⟨rfl, rfl, trivial⟩, ((((((hg2.trans hg3).trans hg4).trans hg5).trans hg6).trans hg7).trans hg8), h10, h11, h12, h13, h14, h9, HK1⟩
    · replace H := hbf hc1 H
      refine skN ?_
      refine xn ?_
      obtain rfl := hsm H
      obtain ⟨s11, hg9, h15, hS⟩ := hS.freeze (i := 2) (kd := (Kd.int .i64)) (et := 3) (v := v3) (xs := x22.1.Before.O.Ints) (B := [pt g1 139 ([v14, (.int .i64 x23.2.2.1), (.int .i64 x23.2.2.2)]), pt g3 41 ([(.int .i64 x22.1.Lsn), (.int .i64 x22.1.Tx), (.int .i64 x22.1.Prev), (.int .i64 x22.1.Kind), (.int .i64 x22.1.Oid), (.bool x22.1.Before.Has), (.int .i64 x22.1.Before.O.Kind), v3, v4, (.bool x22.1.After.Has), (.int .i64 x22.1.After.O.Kind), v5, v6, (.int .i64 x22.1.Next), v7]), Ow (Kd.int .i64) 3 v4 x22.1.Before.O.Refs, Ow (Kd.int .i64) 3 v5 x22.1.After.O.Ints, Ow (Kd.int .i64) 3 v6 x22.1.After.O.Refs, Ow kTLive 91 v7 x22.1.Txs, pt g2 41 ([(.int .i64 0), (.int .i64 0), (.int .i64 0), (.int .i64 0), (.int .i64 0), (.bool false), (.int .i64 0), (.slice none 0 0), (.slice none 0 0), (.bool false), (.int .i64 0), (.slice none 0 0), (.slice none 0 0), (.int .i64 0), (.slice none 0 0)])]) rfl
      obtain ⟨s12, hg10, h16, hS⟩ := hS.freeze (i := 2) (kd := (Kd.int .i64)) (et := 3) (v := v4) (xs := x22.1.Before.O.Refs) (B := [pt g1 139 ([v14, (.int .i64 x23.2.2.1), (.int .i64 x23.2.2.2)]), pt g3 41 ([(.int .i64 x22.1.Lsn), (.int .i64 x22.1.Tx), (.int .i64 x22.1.Prev), (.int .i64 x22.1.Kind), (.int .i64 x22.1.Oid), (.bool x22.1.Before.Has), (.int .i64 x22.1.Before.O.Kind), v3, v4, (.bool x22.1.After.Has), (.int .i64 x22.1.After.O.Kind), v5, v6, (.int .i64 x22.1.Next), v7]), Ow (Kd.int .i64) 3 v5 x22.1.After.O.Ints, Ow (Kd.int .i64) 3 v6 x22.1.After.O.Refs, Ow kTLive 91 v7 x22.1.Txs, pt g2 41 ([(.int .i64 0), (.int .i64 0), (.int .i64 0), (.int .i64 0), (.int .i64 0), (.bool false), (.int .i64 0), (.slice none 0 0), (.slice none 0 0), (.bool false), (.int .i64 0), (.slice none 0 0), (.slice none 0 0), (.int .i64 0), (.slice none 0 0)])]) rfl
      obtain ⟨s13, hg11, h17, hS⟩ := hS.freeze (i := 2) (kd := (Kd.int .i64)) (et := 3) (v := v5) (xs := x22.1.After.O.Ints) (B := [pt g1 139 ([v14, (.int .i64 x23.2.2.1), (.int .i64 x23.2.2.2)]), pt g3 41 ([(.int .i64 x22.1.Lsn), (.int .i64 x22.1.Tx), (.int .i64 x22.1.Prev), (.int .i64 x22.1.Kind), (.int .i64 x22.1.Oid), (.bool x22.1.Before.Has), (.int .i64 x22.1.Before.O.Kind), v3, v4, (.bool x22.1.After.Has), (.int .i64 x22.1.After.O.Kind), v5, v6, (.int .i64 x22.1.Next), v7]), Ow (Kd.int .i64) 3 v6 x22.1.After.O.Refs, Ow kTLive 91 v7 x22.1.Txs, pt g2 41 ([(.int .i64 0), (.int .i64 0), (.int .i64 0), (.int .i64 0), (.int .i64 0), (.bool false), (.int .i64 0), (.slice none 0 0), (.slice none 0 0), (.bool false), (.int .i64 0), (.slice none 0 0), (.slice none 0 0), (.int .i64 0), (.slice none 0 0)])]) rfl
      obtain ⟨s14, hg12, h18, hS⟩ := hS.freeze (i := 2) (kd := (Kd.int .i64)) (et := 3) (v := v6) (xs := x22.1.After.O.Refs) (B := [pt g1 139 ([v14, (.int .i64 x23.2.2.1), (.int .i64 x23.2.2.2)]), pt g3 41 ([(.int .i64 x22.1.Lsn), (.int .i64 x22.1.Tx), (.int .i64 x22.1.Prev), (.int .i64 x22.1.Kind), (.int .i64 x22.1.Oid), (.bool x22.1.Before.Has), (.int .i64 x22.1.Before.O.Kind), v3, v4, (.bool x22.1.After.Has), (.int .i64 x22.1.After.O.Kind), v5, v6, (.int .i64 x22.1.Next), v7]), Ow kTLive 91 v7 x22.1.Txs, pt g2 41 ([(.int .i64 0), (.int .i64 0), (.int .i64 0), (.int .i64 0), (.int .i64 0), (.bool false), (.int .i64 0), (.slice none 0 0), (.slice none 0 0), (.bool false), (.int .i64 0), (.slice none 0 0), (.slice none 0 0), (.int .i64 0), (.slice none 0 0)])]) rfl
      obtain ⟨s15, hg13, h19, hS⟩ := hS.freeze (i := 2) (kd := kTLive) (et := 91) (v := v7) (xs := x22.1.Txs) (B := [pt g1 139 ([v14, (.int .i64 x23.2.2.1), (.int .i64 x23.2.2.2)]), pt g3 41 ([(.int .i64 x22.1.Lsn), (.int .i64 x22.1.Tx), (.int .i64 x22.1.Prev), (.int .i64 x22.1.Kind), (.int .i64 x22.1.Oid), (.bool x22.1.Before.Has), (.int .i64 x22.1.Before.O.Kind), v3, v4, (.bool x22.1.After.Has), (.int .i64 x22.1.After.O.Kind), v5, v6, (.int .i64 x22.1.Next), v7]), pt g2 41 ([(.int .i64 0), (.int .i64 0), (.int .i64 0), (.int .i64 0), (.int .i64 0), (.bool false), (.int .i64 0), (.slice none 0 0), (.slice none 0 0), (.bool false), (.int .i64 0), (.slice none 0 0), (.slice none 0 0), (.int .i64 0), (.slice none 0 0)])]) rfl
      replace hS := hS.sel (is := [1, 0, 0]) (A' := [pt g3 41 ([(.int .i64 x22.1.Lsn), (.int .i64 x22.1.Tx), (.int .i64 x22.1.Prev), (.int .i64 x22.1.Kind), (.int .i64 x22.1.Oid), (.bool x22.1.Before.Has), (.int .i64 x22.1.Before.O.Kind), v3, v4, (.bool x22.1.After.Has), (.int .i64 x22.1.After.O.Kind), v5, v6, (.int .i64 x22.1.Next), v7]), pt g1 139 ([v14, (.int .i64 x23.2.2.1), (.int .i64 x23.2.2.2)]), pt g2 41 ([(.int .i64 0), (.int .i64 0), (.int .i64 0), (.int .i64 0), (.int .i64 0), (.bool false), (.int .i64 0), (.slice none 0 0), (.slice none 0 0), (.bool false), (.int .i64 0), (.slice none 0 0), (.slice none 0 0), (.int .i64 0), (.slice none 0 0)])]) rfl
      exact ⟨x22.1.Lsn, x22.1.Tx, x22.1.Prev, x22.1.Kind, x22.1.Oid, x22.1.Before.Has, x22.1.Before.O.Kind, x22.1.Before.O.Ints, x22.1.Before.O.Refs, x22.1.After.Has, x22.1.After.O.Kind, x22.1.After.O.Ints, x22.1.After.O.Refs, x22.1.Next, x22.1.Txs, x23.2.1, x23.2.2.1, x23.2.2.2, s15, v3, v4, v5, v6, v7, v14, hS, hF.cut ⟨rfl, rfl, trivial⟩, (((((hg2.trans hg9).trans hg10).trans hg11).trans hg12).trans hg13), ((((h15.mono hg10).mono hg11).mono hg12).mono hg13), (((h16.mono hg11).mono hg12).mono hg13), ((h17.mono hg12).mono hg13), (h18.mono hg13), h19, (((((h3.mono hg9).mono hg10).mono hg11).mono hg12).mono hg13), HK1⟩
  · clear H HK1 hS hF
    rintro a w ⟨x1, x2, x3, x4, x5, x6, x7, x8, x9, x10, x11, x12, x13, x14, x15, x16, x17, x18, s3, v8, v9, v10, v11, v12, v13, hS, hF, hg14, h20, h21, h22, h23, h24, h25, H⟩
    unfold spec_l4DrawAny.c1 at H
    refine sq ?_
    refine rg ?_
    refine stp hF (p_ldb_agg (i := 0) (l := []) (m := [(.int .i64 x1), (.int .i64 x2), (.int .i64 x3), (.int .i64 x4), (.int .i64 x5), (.bool x6), (.int .i64 x7), v8, v9, (.bool x10), (.int .i64 x11), v10, v11, (.int .i64 x14), v12]) (r := []) hS rfl rfl ia_41 ti_41 rfl rfl rfl) (by decide) (fun a hF => ?_)
    refine ste0 hF (e_stb (i := 2) (l := []) (m := [(.int .i64 0), (.int .i64 0), (.int .i64 0), (.int .i64 0), (.int .i64 0), (.bool false), (.int .i64 0), (.slice none 0 0), (.slice none 0 0), (.bool false), (.int .i64 0), (.slice none 0 0), (.slice none 0 0), (.int .i64 0), (.slice none 0 0)]) (r := []) (m' := [(.int .i64 x1), (.int .i64 x2), (.int .i64 x3), (.int .i64 x4), (.int .i64 x5), (.bool x6), (.int .i64 x7), v8, v9, (.bool x10), (.int .i64 x11), v10, v11, (.int .i64 x14), v12]) (cs' := [(.int .i64 x1), (.int .i64 x2), (.int .i64 x3), (.int .i64 x4), (.int .i64 x5), (.bool x6), (.int .i64 x7), v8, v9, (.bool x10), (.int .i64 x11), v10, v11, (.int .i64 x14), v12]) hS rfl rfl rfl ti_41 rfl rfl rfl rfl rfl (one_cons rfl (one_cons rfl (one_cons rfl (one_cons rfl (one_cons rfl (one_cons rfl (one_cons rfl (one_cons (one_sl h20) (one_cons (one_sl h21) (one_cons rfl (one_cons rfl (one_cons (one_sl h22) (one_cons (one_sl h23) (one_cons rfl (one_cons (one_sl h24) one_nil))))))))))))))) rfl) (fun v w a hR hF => ?_)
    have hS : St e s3 w [pt g2 41 ([(.int .i64 x1), (.int .i64 x2), (.int .i64 x3), (.int .i64 x4), (.int .i64 x5), (.bool x6), (.int .i64 x7), v8, v9, (.bool x10), (.int .i64 x11), v10, v11, (.int .i64 x14), v12]), pt g3 41 ([(.int .i64 x1), (.int .i64 x2), (.int .i64 x3), (.int .i64 x4), (.int .i64 x5), (.bool x6), (.int .i64 x7), v8, v9, (.bool x10), (.int .i64 x11), v10, v11, (.int .i64 x14), v12]), pt g1 139 ([v13, (.int .i64 x17), (.int .i64 x18)])] := hR
    refine nilN ?_
    refine xn ?_
    refine rt ?_
    obtain rfl := hsm H
    have h26 : RvOk Try.prog _ w (.cell 2 41) _ := rvC (i := 0) hS rfl (show lk [(2, (.pointer (some ⟨g2, 0, none⟩)))] 2 = _ from rfl) ia_41 ti_41 rfl
    replace hS := hS.sel (is := [2]) (A' := [pt g1 139 ([v13, (.int .i64 x17), (.int .i64 x18)])]) rfl
    exact retc1 hF rfl h26 hS ⟨v13, v8, v9, v10, v11, v12, rfl, rfl, h25, h20, h21, h22, h23, h24⟩

def spec_DrawPutRec.f (k : Nat) (x1 : (List Int)) : Option TRec :=
  ((spec_l1New.f k x1).bind fun x2 => ((spec_l4DrawAny.f k x2.b x2.i x2.h_).bind fun x3 => (some x3.1)))
set_option maxRecDepth 100000 in
set_option maxHeartbeats 4000000 in
theorem spec_DrawPutRec.spec (k : Nat) (s0 : HF) (w : World) (x1 : (List Int)) (v1 : Value) (h1 : Sl (Kd.int .u8) s0 v1 x1) (r : TRec) (H : spec_DrawPutRec.f k x1 = some r) :
    Law Try.prog 21 #[v1] s0 w [] (fun v s1 A1 => ∃ (u0 : Value) (u1 : Value) (u2 : Value) (u3 : Value) (u4 : Value), v = (.agg #[(.int .i64 r.Lsn), (.int .i64 r.Tx), (.int .i64 r.Prev), (.int .i64 r.Kind), (.int .i64 r.Oid), (.bool r.Before.Has), (.int .i64 r.Before.O.Kind), u0, u1, (.bool r.After.Has), (.int .i64 r.After.O.Kind), u2, u3, (.int .i64 r.Next), u4]) ∧ A1 = [] ∧ Sl (Kd.int .i64) s1 u0 r.Before.O.Ints ∧ Sl (Kd.int .i64) s1 u1 r.Before.O.Refs ∧ Sl (Kd.int .i64) s1 u2 r.After.O.Ints ∧ Sl (Kd.int .i64) s1 u3 r.After.O.Refs ∧ Sl kTLive s1 u4 r.Txs) := by
  unfold spec_DrawPutRec.f at H
  refine Law.intro Try.func21 rfl [(0, v1)] (Nat.le_of_ble_eq_true rfl) (enter_lk ⟨rfl, trivial⟩) (fun e a hS hF => ?_)
  have hF : Fr 8 a [(0, v1)] := hF
  refine sq ?_
  refine rg ?_
  refine ste hF (e_alloc (cs := [(.int .i64 0), (.int .i64 0), (.int .i64 0), (.int .i64 0), (.int .i64 0), (.bool false), (.int .i64 0), (.slice none 0 0), (.slice none 0 0), (.bool false), (.int .i64 0), (.slice none 0 0), (.slice none 0 0), (.int .i64 0), (.slice none 0 0)]) hS ti_41 rfl) (by decide) (fun v w a hR hF => ?_)
  obtain ⟨g1, rfl, hS⟩ := hR
  refine nilN ?_
  refine xn ?_
  refine sq ?_
  refine rg ?_
  refine stp hF (p_move rfl) (by decide) (fun a hF => ?_)
  obtain ⟨x2, hx1, H⟩ := hb H
  refine ste hF (e_callA (fst := []) (vs := [v1]) (cap := []) rfl rfl go_73 (St.call (A := []) (B := [pt g1 41 ([(.int .i64 0), (.int .i64 0), (.int .i64 0), (.int .i64 0), (.int .i64 0), (.bool false), (.int .i64 0), (.slice none 0 0), (.slice none 0 0), (.bool false), (.int .i64 0), (.slice none 0 0), (.slice none 0 0), (.int .i64 0), (.slice none 0 0)])]) hS (spec_l1New.spec k _ _ x1 v1 h1 _ hx1)) rfl) (by decide) (fun v w a hR hF => ?_)
  obtain ⟨s2, A2, hg1, hS, hR⟩ := hR
  obtain ⟨g2, v2, hv1, rfl, h2⟩ := hR; obtain rfl := hv1.symm
  have hS : St e s2 w [pt g2 139 ([v2, (.int .i64 x2.i), (.int .i64 x2.h_)]), pt g1 41 ([(.int .i64 0), (.int .i64 0), (.int .i64 0), (.int .i64 0), (.int .i64 0), (.bool false), (.int .i64 0), (.slice none 0 0), (.slice none 0 0), (.bool false), (.int .i64 0), (.slice none 0 0), (.slice none 0 0), (.int .i64 0), (.slice none 0 0)])] := hS
  refine stp hF (p_assign rfl) (by decide) (fun a hF => ?_)
  refine nilN ?_
  refine xn ?_
  refine sq ?_
  refine rg ?_
  refine stp hF (p_move rfl) (by decide) (fun a hF => ?_)
  obtain ⟨x3, hx2, H⟩ := hb H
  refine ste hF (e_callA (fst := []) (vs := [(.pointer (some ⟨g2, 0, none⟩))]) (cap := []) rfl rfl go_74 (St.call (A := [pt g2 139 ([v2, (.int .i64 x2.i), (.int .i64 x2.h_)])]) (B := [pt g1 41 ([(.int .i64 0), (.int .i64 0), (.int .i64 0), (.int .i64 0), (.int .i64 0), (.bool false), (.int .i64 0), (.slice none 0 0), (.slice none 0 0), (.bool false), (.int .i64 0), (.slice none 0 0), (.slice none 0 0), (.int .i64 0), (.slice none 0 0)])]) hS (spec_l4DrawAny.spec k _ _ x2.b x2.i x2.h_ v2 g2 h2 _ hx2)) rfl) (by decide) (fun v w a hR hF => ?_)
  obtain ⟨s3, A3, hg2, hS, hR⟩ := hR
  obtain ⟨v3, v4, v5, v6, v7, v8, hv2, rfl, h3, h4, h5, h6, h7, h8⟩ := hR; obtain rfl := hv2.symm
  have hS : St e s3 w [pt g2 139 ([v3, (.int .i64 x3.2.2.1), (.int .i64 x3.2.2.2)]), pt g1 41 ([(.int .i64 0), (.int .i64 0), (.int .i64 0), (.int .i64 0), (.int .i64 0), (.bool false), (.int .i64 0), (.slice none 0 0), (.slice none 0 0), (.bool false), (.int .i64 0), (.slice none 0 0), (.slice none 0 0), (.int .i64 0), (.slice none 0 0)])] := hS
  refine ste0 hF (e_stb (i := 1) (l := []) (m := [(.int .i64 0), (.int .i64 0), (.int .i64 0), (.int .i64 0), (.int .i64 0), (.bool false), (.int .i64 0), (.slice none 0 0), (.slice none 0 0), (.bool false), (.int .i64 0), (.slice none 0 0), (.slice none 0 0), (.int .i64 0), (.slice none 0 0)]) (r := []) (m' := [(.int .i64 x3.1.Lsn), (.int .i64 x3.1.Tx), (.int .i64 x3.1.Prev), (.int .i64 x3.1.Kind), (.int .i64 x3.1.Oid), (.bool x3.1.Before.Has), (.int .i64 x3.1.Before.O.Kind), v4, v5, (.bool x3.1.After.Has), (.int .i64 x3.1.After.O.Kind), v6, v7, (.int .i64 x3.1.Next), v8]) (cs' := [(.int .i64 x3.1.Lsn), (.int .i64 x3.1.Tx), (.int .i64 x3.1.Prev), (.int .i64 x3.1.Kind), (.int .i64 x3.1.Oid), (.bool x3.1.Before.Has), (.int .i64 x3.1.Before.O.Kind), v4, v5, (.bool x3.1.After.Has), (.int .i64 x3.1.After.O.Kind), v6, v7, (.int .i64 x3.1.Next), v8]) hS rfl rfl rfl ti_41 rfl rfl rfl rfl rfl (one_cons rfl (one_cons rfl (one_cons rfl (one_cons rfl (one_cons rfl (one_cons rfl (one_cons rfl (one_cons (one_sl h4) (one_cons (one_sl h5) (one_cons rfl (one_cons rfl (one_cons (one_sl h6) (one_cons (one_sl h7) (one_cons rfl (one_cons (one_sl h8) one_nil))))))))))))))) rfl) (fun v w a hR hF => ?_)
  have hS : St e s3 w [pt g1 41 ([(.int .i64 x3.1.Lsn), (.int .i64 x3.1.Tx), (.int .i64 x3.1.Prev), (.int .i64 x3.1.Kind), (.int .i64 x3.1.Oid), (.bool x3.1.Before.Has), (.int .i64 x3.1.Before.O.Kind), v4, v5, (.bool x3.1.After.Has), (.int .i64 x3.1.After.O.Kind), v6, v7, (.int .i64 x3.1.Next), v8]), pt g2 139 ([v3, (.int .i64 x3.2.2.1), (.int .i64 x3.2.2.2)])] := hR
  refine nilN ?_
  refine xn ?_
  refine rt ?_
  obtain rfl := hsm H
  have h9 : RvOk Try.prog _ w (.cell 2 41) _ := rvC (i := 0) hS rfl (show lk [(2, (.pointer (some ⟨g1, 0, none⟩)))] 2 = _ from rfl) ia_41 ti_41 rfl
  replace hS := hS.sel (is := []) (A' := []) rfl
  exact retc1 hF rfl h9 hS ⟨v4, v5, v6, v7, v8, rfl, rfl, h4, h5, h6, h7, h8⟩

def impl_in.f (k : Nat) (x1 : Int) (x2 : Int) (x3 : Int) : Option Bool :=
  (some ((decide (x2 ≤ x1)) && (decide (x1 ≤ x3))))
set_option maxRecDepth 100000 in
set_option maxHeartbeats 4000000 in
theorem impl_in.spec (k : Nat) (s0 : HF) (w : World) (x1 : Int) (x2 : Int) (x3 : Int) (r : Bool) (H : impl_in.f k x1 x2 x3 = some r) :
    Law Try.prog 79 #[(.int .i64 x1), (.int .i64 x2), (.int .i64 x3)] s0 w [] (fun v s1 A1 => v = (.bool r) ∧ A1 = []) := by
  unfold impl_in.f at H
  refine Law.intro Try.func79 rfl [(0, (.int .i64 x1)), (1, (.int .i64 x2)), (2, (.int .i64 x3))] (Nat.le_of_ble_eq_true rfl) (enter_lk ⟨rfl, rfl, rfl, trivial⟩) (fun e a hS hF => ?_)
  have hF : Fr 15 a [(0, (.int .i64 x1)), (1, (.int .i64 x2)), (2, (.int .i64 x3))] := hF
  refine sq ?_
  refine rg ?_
  refine stp hF (p_assign rfl) (by decide) (fun a hF => ?_)
  refine nilN ?_
  refine xn ?_
  refine sq ?_
  refine rg ?_
  refine stp hF (p_move rfl) (by decide) (fun a hF => ?_)
  refine stp hF (p_move rfl) (by decide) (fun a hF => ?_)
  refine stp hF (p_geq rfl rfl) (by decide) (fun a hF => ?_)
  refine stp hF (p_move rfl) (by decide) (fun a hF => ?_)
  refine cutj 4 (fun a w => St e s0 w [] ∧ Fr 15 a [(14, (.bool ((decide (x2 ≤ x1)) && (decide (x1 ≤ x3)))))]) rfl rfl ?_ ?_
  · rcases Bool.eq_false_or_eq_true (decide (x2 ≤ x1)) with hc1 | hc1
    · skip
      refine gonE (j := 3) hF rfl rfl hc1 ?_
      refine stp hF (p_move rfl) (by decide) (fun a hF => ?_)
      refine gonE (j := 3) hF rfl rfl hc1 ?_
      refine stp hF (p_move rfl) (by decide) (fun a hF => ?_)
      refine gonE (j := 3) hF rfl rfl hc1 ?_
      refine stp hF (p_leq rfl rfl) (by decide) (fun a hF => ?_)
      refine stp hF (p_andT rfl hc1 rfl) (by decide) (fun a hF => ?_)
      refine nilN ?_
      refine xn ?_
      exact ⟨hS, hF.cut ⟨rfl, trivial⟩⟩
    · skip
      refine gofD (j := 3) hF rfl rfl (by rw [hc1]; decide) (by decide) (fun a hF => ?_)
      refine gofD (j := 3) hF rfl rfl (by rw [hc1]; decide) (by decide) (fun a hF => ?_)
      refine gofD (j := 3) hF rfl rfl (by rw [hc1]; decide) (by decide) (fun a hF => ?_)
      refine stp hF (p_andF (decide (x1 ≤ x3)) rfl hc1 rfl) (by decide) (fun a hF => ?_)
      refine nilN ?_
      refine xn ?_
      exact ⟨hS, hF.cut ⟨rfl, trivial⟩⟩
  clear hS hF
  rintro a w ⟨hS, hF⟩
  refine stp hF (p_assign rfl) (by decide) (fun a hF => ?_)
  refine nilN ?_
  refine xn ?_
  refine rt ?_
  obtain rfl := hsm H
  exact ret1 hF rfl rfl hS ⟨rfl, rfl⟩

def impl_noObj.f (k : Nat) (x1 : TObj) : Option Bool :=
  (some (((decide (x1.Kind = 0)) && (decide ((x1.Ints.length : Int) = 0))) && (decide ((x1.Refs.length : Int) = 0))))
set_option maxRecDepth 100000 in
set_option maxHeartbeats 4000000 in
theorem impl_noObj.spec (k : Nat) (s0 : HF) (w : World) (x1 : TObj) (v1 : Value) (v2 : Value) (h1 : Sl (Kd.int .i64) s0 v1 x1.Ints) (h2 : Sl (Kd.int .i64) s0 v2 x1.Refs) (r : Bool) (H : impl_noObj.f k x1 = some r) :
    Law Try.prog 140 #[(.agg #[(.int .i64 x1.Kind), v1, v2])] s0 w [] (fun v s1 A1 => v = (.bool r) ∧ A1 = []) := by
  unfold impl_noObj.f at H
  refine Law.intro Try.func140 rfl [(0, (.agg #[(.int .i64 x1.Kind), v1, v2]))] (Nat.le_of_ble_eq_true rfl) (enter_lk ⟨rfl, trivial⟩) (fun e a hS hF => ?_)
  have hF : Fr 18 a [(0, (.agg #[(.int .i64 x1.Kind), v1, v2]))] := hF
  refine sq ?_
  refine rg ?_
  refine ste hF (e_box (cs := [(.int .i64 x1.Kind), v1, v2]) hS rfl rfl) (by decide) (fun v w a hR hF => ?_)
  obtain ⟨g1, rfl, hS⟩ := hR
  refine stp hF (p_assign rfl) (by decide) (fun a hF => ?_)
  refine nilN ?_
  refine xn ?_
  refine sq ?_
  refine rg ?_
  refine stp hF (p_fldb (o' := 0) rfl fi_36_0 rfl) (by decide) (fun a hF => ?_)
  refine stp hF (p_ldb_one (i := 0) hS rfl rfl ia_3 rfl) (by decide) (fun a hF => ?_)
  refine stp hF (p_eql rfl rfl) (by decide) (fun a hF => ?_)
  refine stp hF (p_move rfl) (by decide) (fun a hF => ?_)
  refine cutj 5 (fun a w => St e s0 w [pt g1 36 ([(.int .i64 x1.Kind), v1, v2])] ∧ Fr 18 a [(1, (.pointer (some ⟨g1, 0, none⟩))), (11, (.bool ((decide (x1.Kind = 0)) && (decide ((x1.Ints.length : Int) = 0)))))]) rfl rfl ?_ ?_
  · rcases Bool.eq_false_or_eq_true (decide (x1.Kind = 0)) with hc1 | hc1
    · skip
      refine gonE (j := 3) hF rfl rfl hc1 ?_
      refine stp hF (p_fldb (o' := 1) rfl fi_36_1 rfl) (by decide) (fun a hF => ?_)
      refine gonE (j := 3) hF rfl rfl hc1 ?_
      refine stp hF (p_ldb_one (i := 0) hS rfl rfl ia_34 rfl) (by decide) (fun a hF => ?_)
      refine gonE (j := 3) hF rfl rfl hc1 ?_
      refine stp hF (p_lenr un_34 rfl h1) (by decide) (fun a hF => ?_)
      refine gonE (j := 3) hF rfl rfl hc1 ?_
      refine stp hF (p_eql rfl rfl) (by decide) (fun a hF => ?_)
      refine stp hF (p_andT rfl hc1 rfl) (by decide) (fun a hF => ?_)
      refine nilN ?_
      refine xn ?_
      exact ⟨hS, hF.cut ⟨rfl, rfl, trivial⟩⟩
    · skip
      refine gofD (j := 3) hF rfl rfl (by rw [hc1]; decide) (by decide) (fun a hF => ?_)
      refine gofD (j := 3) hF rfl rfl (by rw [hc1]; decide) (by decide) (fun a hF => ?_)
      refine gofD (j := 3) hF rfl rfl (by rw [hc1]; decide) (by decide) (fun a hF => ?_)
      refine gofD (j := 3) hF rfl rfl (by rw [hc1]; decide) (by decide) (fun a hF => ?_)
      refine stp hF (p_andF (decide ((x1.Ints.length : Int) = 0)) rfl hc1 rfl) (by decide) (fun a hF => ?_)
      refine nilN ?_
      refine xn ?_
      exact ⟨hS, hF.cut ⟨rfl, rfl, trivial⟩⟩
  clear hS hF
  rintro a w ⟨hS, hF⟩
  refine stp hF (p_move rfl) (by decide) (fun a hF => ?_)
  refine cutj 5 (fun a w => St e s0 w [pt g1 36 ([(.int .i64 x1.Kind), v1, v2])] ∧ Fr 18 a [(17, (.bool (((decide (x1.Kind = 0)) && (decide ((x1.Ints.length : Int) = 0))) && (decide ((x1.Refs.length : Int) = 0)))))]) rfl rfl ?_ ?_
  · rcases Bool.eq_false_or_eq_true (((decide (x1.Kind = 0)) && (decide ((x1.Ints.length : Int) = 0)))) with hc2 | hc2
    · skip
      refine gonE (j := 9) hF rfl rfl hc2 ?_
      refine stp hF (p_fldb (o' := 2) rfl fi_36_2 rfl) (by decide) (fun a hF => ?_)
      refine gonE (j := 9) hF rfl rfl hc2 ?_
      refine stp hF (p_ldb_one (i := 0) hS rfl rfl ia_34 rfl) (by decide) (fun a hF => ?_)
      refine gonE (j := 9) hF rfl rfl hc2 ?_
      refine stp hF (p_lenr un_34 rfl h2) (by decide) (fun a hF => ?_)
      refine gonE (j := 9) hF rfl rfl hc2 ?_
      refine stp hF (p_eql rfl rfl) (by decide) (fun a hF => ?_)
      refine stp hF (p_andT rfl hc2 rfl) (by decide) (fun a hF => ?_)
      refine nilN ?_
      refine xn ?_
      exact ⟨hS, hF.cut ⟨rfl, trivial⟩⟩
    · skip
      refine gofD (j := 9) hF rfl rfl (by rw [hc2]; decide) (by decide) (fun a hF => ?_)
      refine gofD (j := 9) hF rfl rfl (by rw [hc2]; decide) (by decide) (fun a hF => ?_)
      refine gofD (j := 9) hF rfl rfl (by rw [hc2]; decide) (by decide) (fun a hF => ?_)
      refine gofD (j := 9) hF rfl rfl (by rw [hc2]; decide) (by decide) (fun a hF => ?_)
      refine stp hF (p_andF (decide ((x1.Refs.length : Int) = 0)) rfl hc2 rfl) (by decide) (fun a hF => ?_)
      refine nilN ?_
      refine xn ?_
      exact ⟨hS, hF.cut ⟨rfl, trivial⟩⟩
  clear hS hF
  rintro a w ⟨hS, hF⟩
  refine stp hF (p_assign rfl) (by decide) (fun a hF => ?_)
  refine nilN ?_
  refine xn ?_
  refine rt ?_
  obtain rfl := hsm H
  replace hS := hS.sel (is := []) (A' := []) rfl
  exact ret1 hF rfl rfl hS ⟨rfl, rfl⟩

def impl_noSlot.c1 (k : Nat) (x1 : Bool) : Option Bool :=
  (some x1)
def impl_noSlot.f (k : Nat) (x2 : TSlot) : Option Bool :=
  ((if (!x2.Has) = true then ((impl_noObj.f k x2.O).bind fun x3 => (some x3)) else (some false) : Option Bool).bind fun x4 => impl_noSlot.c1 k x4)
set_option maxRecDepth 100000 in
set_option maxHeartbeats 4000000 in
theorem impl_noSlot.spec (k : Nat) (s0 : HF) (w : World) (x2 : TSlot) (v1 : Value) (v2 : Value) (h1 : Sl (Kd.int .i64) s0 v1 x2.O.Ints) (h2 : Sl (Kd.int .i64) s0 v2 x2.O.Refs) (r : Bool) (H : impl_noSlot.f k x2 = some r) :
    Law Try.prog 80 #[(.agg #[(.bool x2.Has), (.int .i64 x2.O.Kind), v1, v2])] s0 w [] (fun v s1 A1 => v = (.bool r) ∧ A1 = []) := by
  unfold impl_noSlot.f at H
  refine Law.intro Try.func80 rfl [(0, (.agg #[(.bool x2.Has), (.int .i64 x2.O.Kind), v1, v2]))] (Nat.le_of_ble_eq_true rfl) (enter_lk ⟨rfl, trivial⟩) (fun e a hS hF => ?_)
  have hF : Fr 11 a [(0, (.agg #[(.bool x2.Has), (.int .i64 x2.O.Kind), v1, v2]))] := hF
  refine sq ?_
  refine rg ?_
  refine ste hF (e_box (cs := [(.bool x2.Has), (.int .i64 x2.O.Kind), v1, v2]) hS rfl rfl) (by decide) (fun v w a hR hF => ?_)
  obtain ⟨g1, rfl, hS⟩ := hR
  refine stp hF (p_assign rfl) (by decide) (fun a hF => ?_)
  refine nilN ?_
  refine xn ?_
  refine sq ?_
  refine rg ?_
  refine stp hF (p_fldb (o' := 0) rfl fi_38_0 rfl) (by decide) (fun a hF => ?_)
  refine stp hF (p_ldb_one (i := 0) hS rfl rfl ia_4 rfl) (by decide) (fun a hF => ?_)
  refine stp hF (p_not rfl) (by decide) (fun a hF => ?_)
  refine stp hF (p_move rfl) (by decide) (fun a hF => ?_)
  obtain ⟨x4, H, HK1⟩ := hb H
  refine cutj 4 (fun a w => ∃ (x1 : Bool) (s2 : HF) , St e s2 w [pt g1 38 ([(.bool x2.Has), (.int .i64 x2.O.Kind), v1, v2])] ∧ Fr 11 a [(10, (.bool x1))] ∧ Sub s0 s2 ∧ impl_noSlot.c1 k x1 = some r) rfl rfl ?_ ?_
  · rcases Bool.eq_false_or_eq_true ((!x2.Has)) with hc1 | hc1
    · replace H := hbt hc1 H
      refine gonE (j := 3) hF rfl rfl hc1 ?_
      refine stp hF (p_fldb (o' := 1) rfl fi_38_1 rfl) (by decide) (fun a hF => ?_)
      refine gonE (j := 3) hF rfl rfl hc1 ?_
      refine stp hF (p_ldb_agg (i := 0) (l := [(.bool x2.Has)]) (m := [(.int .i64 x2.O.Kind), v1, v2]) (r := []) hS rfl rfl ia_36 ti_36 rfl rfl rfl) (by decide) (fun a hF => ?_)
      obtain ⟨x3, hx1, H⟩ := hb H
      refine gonE (j := 3) hF rfl rfl hc1 ?_
      refine ste hF (e_callA (fst := []) (vs := [(.agg #[(.int .i64 x2.O.Kind), v1, v2])]) (cap := []) rfl rfl go_140 (St.call (A := []) (B := [pt g1 38 ([(.bool x2.Has), (.int .i64 x2.O.Kind), v1, v2])]) hS (impl_noObj.spec k _ _ x2.O v1 v2 h1 h2 _ hx1)) rfl) (by decide) (fun v w a hR hF => ?_)
      obtain ⟨s3, A2, hg1, hS, hR⟩ := hR
      obtain ⟨hv1, rfl⟩ := hR; obtain rfl := hv1.symm
      have hS : St e s3 w [pt g1 38 ([(.bool x2.Has), (.int .i64 x2.O.Kind), v1, v2])] := hS
      refine stp hF (p_pickT rfl hc1 rfl) (by decide) (fun a hF => ?_)
      refine nilN ?_
      refine xn ?_
      obtain rfl := hsm H
      exact ⟨x3, s3, hS, hF.cut ⟨rfl, trivial⟩, hg1, HK1⟩
    · replace H := hbf hc1 H
      refine gofD (j := 3) hF rfl rfl (by rw [hc1]; decide) (by decide) (fun a hF => ?_)
      refine gofD (j := 3) hF rfl rfl (by rw [hc1]; decide) (by decide) (fun a hF => ?_)
      refine gofD (j := 3) hF rfl rfl (by rw [hc1]; decide) (by decide) (fun a hF => ?_)
      refine stp hF (p_pickF rfl hc1 rfl) (by decide) (fun a hF => ?_)
      refine nilN ?_
      refine xn ?_
      obtain rfl := hsm H
      exact ⟨false, s0, hS, hF.cut ⟨rfl, trivial⟩, (Sub.refl _), HK1⟩
  · clear H HK1 hS hF
    rintro a w ⟨x1, s2, hS, hF, hg2, H⟩
    unfold impl_noSlot.c1 at H
    refine stp hF (p_assign rfl) (by decide) (fun a hF => ?_)
    refine nilN ?_
    refine xn ?_
    refine rt ?_
    obtain rfl := hsm H
    replace hS := hS.sel (is := []) (A' := []) rfl
    exact ret1 hF rfl rfl hS ⟨rfl, rfl⟩

def impl_isTx.f (k : Nat) (x1 : Int) : Option Bool :=
  ((impl_in.f k x1 1 1000).bind fun x2 => (some x2))
set_option maxRecDepth 100000 in
set_option maxHeartbeats 4000000 in
theorem impl_isTx.spec (k : Nat) (s0 : HF) (w : World) (x1 : Int) (r : Bool) (H : impl_isTx.f k x1 = some r) :
    Law Try.prog 82 #[(.int .i64 x1)] s0 w [] (fun v s1 A1 => v = (.bool r) ∧ A1 = []) := by
  unfold impl_isTx.f at H
  refine Law.intro Try.func82 rfl [(0, (.int .i64 x1))] (Nat.le_of_ble_eq_true rfl) (enter_lk ⟨rfl, trivial⟩) (fun e a hS hF => ?_)
  have hF : Fr 5 a [(0, (.int .i64 x1))] := hF
  refine sq ?_
  refine rg ?_
  refine stp hF (p_assign rfl) (by decide) (fun a hF => ?_)
  refine nilN ?_
  refine xn ?_
  refine sq ?_
  refine rg ?_
  refine stp hF (p_move rfl) (by decide) (fun a hF => ?_)
  obtain ⟨x2, hx1, H⟩ := hb H
  refine ste hF (e_callA (fst := []) (vs := [(.int .i64 x1), (.int .i64 1), (.int .i64 1000)]) (cap := []) rfl rfl go_79 (St.call (A := []) (B := []) hS (impl_in.spec k _ _ x1 1 1000 _ hx1)) rfl) (by decide) (fun v w a hR hF => ?_)
  obtain ⟨s2, A2, hg1, hS, hR⟩ := hR
  obtain ⟨hv1, rfl⟩ := hR; obtain rfl := hv1.symm
  have hS : St e s2 w [] := hS
  refine stp hF (p_assign rfl) (by decide) (fun a hF => ?_)
  refine nilN ?_
  refine xn ?_
  refine rt ?_
  obtain rfl := hsm H
  exact ret1 hF rfl rfl hS ⟨rfl, rfl⟩

def impl_livesOk.c1 (k : Nat) (x1 : (List TLive)) : Option Bool :=
  (some (decide ((x1.length : Int) ≤ 20)))
def impl_livesOk.c2 (k : Nat) (rec_l1 : Int → Option (Ex Bool Unit)) (x2 : Int) (x3 : Bool) : Option (Ex Bool Unit) :=
  (if x3 = true then (some (Ex.ret false)) else (rec_l1 (w64 (x2 + 1))))
def impl_livesOk.l1 (x1 : (List TLive)) (x4 : Int) : Nat → Int → Option (Ex Bool Unit)
  | 0, _ => none
  | k + 1, x2 => (if (decide (x2 < (x1.length : Int))) = true then (if 0 ≤ x2 ∧ x2 < (x1.length : Int) then ((((impl_isTx.f k ((rd x1 x2).Tx)).bind fun x5 => (if (!x5) = true then (some true) else ((impl_in.f k ((rd x1 x2).Last) 1 (w64 (x4 - 1))).bind fun x6 => (if (!x6) = true then (some true) else (if (decide (0 < x2)) = true then (if 0 ≤ (w64 (x2 - 1)) ∧ (w64 (x2 - 1)) < (x1.length : Int) then (some (decide (((rd x1 x2).Tx) ≤ ((rd x1 (w64 (x2 - 1))).Tx)))) else none) else (some false)))))) : Option Bool).bind fun x7 => impl_livesOk.c2 k (impl_livesOk.l1 x1 x4 k) x2 x7) else none) else (some (Ex.go ())))
def impl_livesOk.f (k : Nat) (x1 : (List TLive)) (x4 : Int) : Option Bool :=
  (((impl_livesOk.l1 x1 x4 k 0) : Option (Ex Bool Unit)).bind fun x8 => Ex.on x8 (fun r => some r) (fun y => impl_livesOk.c1 k x1))
set_option maxRecDepth 100000 in
set_option maxHeartbeats 4000000 in
theorem impl_livesOk.spec (k : Nat) (s0 : HF) (w : World) (x1 : (List TLive)) (x4 : Int) (v1 : Value) (h1 : Sl kTLive s0 v1 x1) (r : Bool) (H : impl_livesOk.f k x1 x4 = some r) :
    Law Try.prog 81 #[v1, (.int .i64 x4)] s0 w [] (fun v s1 A1 => v = (.bool r) ∧ A1 = []) := by
  unfold impl_livesOk.f at H
  refine Law.intro Try.func81 rfl [(0, v1), (1, (.int .i64 x4))] (Nat.le_of_ble_eq_true rfl) (enter_lk ⟨rfl, rfl, trivial⟩) (fun e a hS hF => ?_)
  have hF : Fr 45 a [(0, v1), (1, (.int .i64 x4))] := hF
  refine sq ?_
  refine rg ?_
  refine stp hF (p_assign rfl) (by decide) (fun a hF => ?_)
  refine nilN ?_
  refine xn ?_
  obtain ⟨x8, H, HK1⟩ := hb H
  refine sqj (fun a w => ∃ (s2 : HF) , St e s2 w [] ∧ Fr 45 a [(0, v1)] ∧ Sub s0 s2 ∧ impl_livesOk.c1 k x1 = some r) ?_ ?_
  · skip
    refine sq ?_
    refine rg ?_
    refine stp hF (p_move rfl) (by decide) (fun a hF => ?_)
    refine stp hF (p_lenr un_39 rfl h1) (by decide) (fun a hF => ?_)
    refine stp hF (p_move rfl) (by decide) (fun a hF => ?_)
    refine nilN ?_
    refine xn ?_
    refine blk ?_
    refine loop_ind (fun k1 a w => ∃ (x2 : Int) (s3 : HF) , St e s3 w [] ∧ Fr 45 a [(0, v1), (1, (.int .i64 x4)), (7, v1), (8, (.int .i64 (x1.length : Int))), (9, (.int .i64 x2))] ∧ Sub s0 s3 ∧ impl_livesOk.l1 x1 x4 k1 x2 = some x8) k ?_ ?_ ?_
    · skip
      exact ⟨0, s0, hS, hF.cut ⟨rfl, rfl, rfl, rfl, rfl, trivial⟩, (Sub.refl _), H⟩
    · clear H hS hF
      rintro a w ⟨x2, s3, hS, hF, hg1, H⟩
      exact absurd (show none = some _ from H) (by simp)
    · clear H hS hF
      rintro k1 a w ⟨x2, s3, hS, hF, hg1, H⟩
      rw [impl_livesOk.l1.eq_2] at H
      refine sq ?_
      refine rg ?_
      refine stp hF (p_lss rfl rfl) (by decide) (fun a hF => ?_)
      refine nilN ?_
      refine xn ?_
      refine sq ?_
      refine cnd hF rfl (fun hc1 => ?_) (fun hc1 => ?_)
      · replace H := hbt hc1 H
        refine skN ?_
        refine xn ?_
        refine sq ?_
        refine blk ?_
        refine sq ?_
        refine rg ?_
        refine stp hF (p_move rfl) (by decide) (fun a hF => ?_)
        obtain ⟨hq1, H⟩ := hck H
        obtain ⟨ad1, h2, p1⟩ := p_idxr (P := Try.prog) (i := x2) (h1.mono hg1) un_39 ti_91 hq1.1 hq1.2
        refine stp hF (p1 rfl rfl) (by decide) (fun a hF => ?_)
        obtain ⟨c3, h3, p2⟩ := p_ldr_agg (P := Try.prog) h2 ia_91 ti_91
        obtain rfl := kTLive_open h3
        refine stp hF (p2 rfl hS.ro) (by decide) (fun a hF => ?_)
        refine ste hF (e_alloc (cs := [(.int .i64 0), (.int .i64 0), (.bool false)]) hS ti_91 rfl) (by decide) (fun v w a hR hF => ?_)
        obtain ⟨g1, rfl, hS⟩ := hR
        refine stp hF (p_assign rfl) (by decide) (fun a hF => ?_)
        refine ste0 hF (e_stb (i := 0) (l := []) (m := [(.int .i64 0), (.int .i64 0), (.bool false)]) (r := []) (m' := [(.int .i64 ((rd x1 x2).Tx)), (.int .i64 ((rd x1 x2).Last)), (.bool ((rd x1 x2).Aborts))]) (cs' := [(.int .i64 ((rd x1 x2).Tx)), (.int .i64 ((rd x1 x2).Last)), (.bool ((rd x1 x2).Aborts))]) hS rfl rfl rfl ti_91 rfl rfl rfl rfl rfl (one_cons rfl (one_cons rfl (one_cons rfl one_nil))) rfl) (fun v w a hR hF => ?_)
        have hS : St e s3 w [pt g1 91 ([(.int .i64 ((rd x1 x2).Tx)), (.int .i64 ((rd x1 x2).Last)), (.bool ((rd x1 x2).Aborts))])] := hR
        refine nilN ?_
        refine xn ?_
        obtain ⟨x7, H, HK2⟩ := hb H
        refine sqj (fun a w => ∃ (x3 : Bool) (s4 : HF) , St e s4 w [pt g1 91 ([(.int .i64 ((rd x1 x2).Tx)), (.int .i64 ((rd x1 x2).Last)), (.bool ((rd x1 x2).Aborts))])] ∧ Fr 45 a [(0, v1), (1, (.int .i64 x4)), (7, v1), (8, (.int .i64 (x1.length : Int))), (9, (.int .i64 x2)), (40, (.bool x3))] ∧ Sub s3 s4 ∧ impl_livesOk.c2 k1 (impl_livesOk.l1 x1 x4 k1) x2 x3 = some x8) ?_ ?_
        · skip
          replace hS : St e s3 w.drew [pt g1 91 ([(.int .i64 ((rd x1 x2).Tx)), (.int .i64 ((rd x1 x2).Last)), (.bool ((rd x1 x2).Aborts))])] := hS.drewN 1
          refine drw [0, 1, 2, 3, 4, 5, 6, 7, 8, 9, 10, 11, 12, 13, 14, 15, 16, 17, 18, 19, 20, 21, 22, 23, 24, 25, 26] mixed (by kernel_rfl) (by decide) (hF.cut (L' := [(0, v1), (1, (.int .i64 x4)), (5, (.int .i64 x2)), (6, (.pointer (some ⟨g1, 0, none⟩))), (7, v1), (8, (.int .i64 (x1.length : Int))), (9, (.int .i64 x2)), (10, (.bool (decide (x2 < (x1.length : Int))))), (11, (.int .i64 x2)), (12, (.pointer (some ad1))), (13, (.agg #[(.int .i64 ((rd x1 x2).Tx)), (.int .i64 ((rd x1 x2).Last)), (.bool ((rd x1 x2).Aborts))]))]) ⟨rfl, rfl, rfl, rfl, rfl, rfl, rfl, rfl, rfl, rfl, rfl, trivial⟩) ?_
          clear hF
          generalize w.drew = w at hS ⊢
          refine pk1 rfl (by decide) rfl (by kernel_rfl) rfl (p_fldb (o' := 0) rfl fi_91_0 rfl) ?_
          refine pk1 rfl (by decide) rfl (by kernel_rfl) rfl (p_ldb_one (i := 0) hS rfl rfl ia_3 rfl) ?_
          obtain ⟨x5, hx1, H⟩ := hb H
          refine pkE [0] rfl (by decide) (by kernel_rfl) (by kernel_rfl) (e_callA (fst := []) (vs := [(.int .i64 ((rd x1 x2).Tx))]) (cap := []) rfl rfl go_82 (St.call (A := []) (B := [pt g1 91 ([(.int .i64 ((rd x1 x2).Tx)), (.int .i64 ((rd x1 x2).Last)), (.bool ((rd x1 x2).Aborts))])]) hS (impl_isTx.spec k1 _ _ ((rd x1 x2).Tx) _ hx1)) rfl) ?_
          intro v w hR
          obtain ⟨s5, A2, hg2, hS, hR⟩ := hR
          obtain ⟨hv1, rfl⟩ := hR; obtain rfl := hv1.symm
          have hS : St e s5 w [pt g1 91 ([(.int .i64 ((rd x1 x2).Tx)), (.int .i64 ((rd x1 x2).Last)), (.bool ((rd x1 x2).Aborts))])] := hS
          refine ⟨⟨knw rfl rfl rfl (p_fldb (o' := 0) rfl fi_91_0 rfl), trivial⟩, ?_⟩
          refine pk1 rfl (by decide) rfl (by kernel_rfl) rfl (p_not rfl) ?_
          refine pk1 rfl (by decide) rfl (by kernel_rfl) rfl (p_move rfl) ?_
          rcases Bool.eq_false_or_eq_true ((!x5)) with hc2 | hc2
          · replace H := hbt hc2 H
            refine pkOff (j := 4) rfl (by decide) rfl (by kernel_rfl) rfl rfl rfl (by rw [hc2]; decide) ?_
            refine pkOff (j := 4) rfl (by decide) rfl (by kernel_rfl) rfl rfl rfl (by rw [hc2]; decide) ?_
            refine pkOff (j := 4) rfl (by decide) rfl (by kernel_rfl) rfl rfl rfl (by rw [hc2]; decide) ?_
            refine pkOff (j := 4) rfl (by decide) rfl (by kernel_rfl) rfl rfl rfl (by rw [hc2]; decide) ?_
            refine pkOff (j := 4) rfl (by decide) rfl (by kernel_rfl) rfl rfl rfl (by rw [hc2]; decide) ?_
            refine pkOff (j := 4) rfl (by decide) rfl (by kernel_rfl) rfl rfl rfl (by rw [hc2]; decide) ?_
            refine pk1 rfl (by decide) rfl (by kernel_rfl) rfl (p_pickT rfl hc2 rfl) ?_
            refine pk1 rfl (by decide) rfl (by kernel_rfl) rfl (p_move rfl) ?_
            have hc3 : true = true := rfl
            refine pkOff (j := 12) rfl (by decide) rfl (by kernel_rfl) rfl rfl rfl (by rw [hc3]; decide) ?_
            refine pkOff (j := 12) rfl (by decide) rfl (by kernel_rfl) rfl rfl rfl (by rw [hc3]; decide) ?_
            refine pkOff (j := 12) rfl (by decide) rfl (by kernel_rfl) rfl rfl rfl (by rw [hc3]; decide) ?_
            refine pkOffU (j := 15) rfl (by decide) rfl (by kernel_rfl) rfl rfl rfl ?_
            refine pkOffU (j := 15) rfl (by decide) rfl (by kernel_rfl) rfl rfl rfl ?_
            refine pkOffU (j := 15) rfl (by decide) rfl (by kernel_rfl) rfl rfl rfl ?_
            refine pkOffU (j := 15) rfl (by decide) rfl (by kernel_rfl) rfl rfl rfl ?_
            refine pkOffU (j := 15) rfl (by decide) rfl (by kernel_rfl) rfl rfl rfl ?_
            refine pkOffU (j := 15) rfl (by decide) rfl (by kernel_rfl) rfl rfl rfl ?_
            refine pkOffU (j := 15) rfl (by decide) rfl (by kernel_rfl) rfl rfl rfl ?_
            refine pkOffU (j := 15) rfl (by decide) rfl (by kernel_rfl) rfl rfl rfl ?_
            refine pkOffU (j := 15) rfl (by decide) rfl (by kernel_rfl) rfl rfl rfl ?_
            refine pkOff (j := 12) rfl (by decide) rfl (by kernel_rfl) rfl rfl rfl (by rw [hc3]; decide) ?_
            refine pk1 rfl (by decide) rfl (by kernel_rfl) rfl (p_pickT rfl hc3 rfl) ?_
            refine pkF (fun a hF => ?_)
            refine xn ?_
            obtain rfl := hsm H
            exact ⟨true, s5, hS, hF.cut ⟨rfl, rfl, rfl, rfl, rfl, rfl, trivial⟩, hg2, HK2⟩
          · replace H := hbf hc2 H
            refine pkOn (j := 4) rfl (by decide) rfl (by kernel_rfl) rfl rfl rfl hc2 (p_fldb (o' := 1) rfl fi_91_1 rfl) ?_
            refine pkOn (j := 4) rfl (by decide) rfl (by kernel_rfl) rfl rfl rfl hc2 (p_ldb_one (i := 0) hS rfl rfl ia_3 rfl) ?_
            refine pkOn (j := 4) rfl (by decide) rfl (by kernel_rfl) rfl rfl rfl hc2 (p_move rfl) ?_
            refine pkOn (j := 4) rfl (by decide) rfl (by kernel_rfl) rfl rfl rfl hc2 (p_sub (c := w64 (x4 - 1)) rfl rfl rfl) ?_
            obtain ⟨x6, hx2, H⟩ := hb H
            refine pkEOn (j := 4) [7, 5, 3, 0] rfl rfl rfl hc2 (by decide) (by kernel_rfl) (by kernel_rfl) (e_callA (fst := []) (vs := [(.int .i64 ((rd x1 x2).Last)), (.int .i64 1), (.int .i64 (w64 (x4 - 1)))]) (cap := []) rfl rfl go_79 (St.call (A := []) (B := [pt g1 91 ([(.int .i64 ((rd x1 x2).Tx)), (.int .i64 ((rd x1 x2).Last)), (.bool ((rd x1 x2).Aborts))])]) hS (impl_in.spec k1 _ _ ((rd x1 x2).Last) 1 (w64 (x4 - 1)) _ hx2)) rfl) ?_
            intro v w hR
            obtain ⟨s6, A3, hg3, hS, hR⟩ := hR
            obtain ⟨hv2, rfl⟩ := hR; obtain rfl := hv2.symm
            have hS : St e s6 w [pt g1 91 ([(.int .i64 ((rd x1 x2).Tx)), (.int .i64 ((rd x1 x2).Last)), (.bool ((rd x1 x2).Aborts))])] := hS
            refine ⟨⟨knwOn (j := 4) rfl rfl rfl rfl rfl hc2 (p_move rfl), ⟨knwOn (j := 4) rfl rfl rfl rfl rfl hc2 (p_fldb (o' := 1) rfl fi_91_1 rfl), ⟨knw rfl rfl rfl (p_not rfl), ⟨knw rfl rfl rfl (p_fldb (o' := 0) rfl fi_91_0 rfl), trivial⟩⟩⟩⟩, ?_⟩
            refine pkOn (j := 4) rfl (by decide) rfl (by kernel_rfl) rfl rfl rfl hc2 (p_not rfl) ?_
            refine pk1 rfl (by decide) rfl (by kernel_rfl) rfl (p_pickF rfl hc2 rfl) ?_
            refine pk1 rfl (by decide) rfl (by kernel_rfl) rfl (p_move rfl) ?_
            rcases Bool.eq_false_or_eq_true ((!x6)) with hc4 | hc4
            · replace H := hbt hc4 H
              refine pkOff (j := 12) rfl (by decide) rfl (by kernel_rfl) rfl rfl rfl (by rw [hc4]; decide) ?_
              refine pkOff (j := 12) rfl (by decide) rfl (by kernel_rfl) rfl rfl rfl (by rw [hc4]; decide) ?_
              refine pkOff (j := 12) rfl (by decide) rfl (by kernel_rfl) rfl rfl rfl (by rw [hc4]; decide) ?_
              refine pkOffU (j := 15) rfl (by decide) rfl (by kernel_rfl) rfl rfl rfl ?_
              refine pkOffU (j := 15) rfl (by decide) rfl (by kernel_rfl) rfl rfl rfl ?_
              refine pkOffU (j := 15) rfl (by decide) rfl (by kernel_rfl) rfl rfl rfl ?_
              refine pkOffU (j := 15) rfl (by decide) rfl (by kernel_rfl) rfl rfl rfl ?_
              refine pkOffU (j := 15) rfl (by decide) rfl (by kernel_rfl) rfl rfl rfl ?_
              refine pkOffU (j := 15) rfl (by decide) rfl (by kernel_rfl) rfl rfl rfl ?_
              refine pkOffU (j := 15) rfl (by decide) rfl (by kernel_rfl) rfl rfl rfl ?_
              refine pkOffU (j := 15) rfl (by decide) rfl (by kernel_rfl) rfl rfl rfl ?_
              refine pkOffU (j := 15) rfl (by decide) rfl (by kernel_rfl) rfl rfl rfl ?_
              refine pkOff (j := 12) rfl (by decide) rfl (by kernel_rfl) rfl rfl rfl (by rw [hc4]; decide) ?_
              refine pk1 rfl (by decide) rfl (by kernel_rfl) rfl (p_pickT rfl hc4 rfl) ?_
              refine pkF (fun a hF => ?_)
              refine xn ?_
              obtain rfl := hsm H
              exact ⟨true, s6, hS, hF.cut ⟨rfl, rfl, rfl, rfl, rfl, rfl, trivial⟩, (hg2.trans hg3), HK2⟩
            · replace H := hbf hc4 H
              refine pkOn (j := 12) rfl (by decide) rfl (by kernel_rfl) rfl rfl rfl hc4 (p_move rfl) ?_
              refine pkOn (j := 12) rfl (by decide) rfl (by kernel_rfl) rfl rfl rfl hc4 (p_gtr rfl rfl) ?_
              refine pkOn (j := 12) rfl (by decide) rfl (by kernel_rfl) rfl rfl rfl hc4 (p_move rfl) ?_
              rcases Bool.eq_false_or_eq_true (decide (0 < x2)) with hc5 | hc5
              · replace H := hbt hc5 H
                refine pkOn (j := 15) rfl (by decide) rfl (by kernel_rfl) rfl rfl rfl hc5 (p_move rfl) ?_
                refine pkOn (j := 15) rfl (by decide) rfl (by kernel_rfl) rfl rfl rfl hc5 (p_move rfl) ?_
                refine pkOn (j := 15) rfl (by decide) rfl (by kernel_rfl) rfl rfl rfl hc5 (p_sub (c := w64 (x2 - 1)) rfl rfl rfl) ?_
                obtain ⟨hq2, H⟩ := hck H
                obtain ⟨ad2, h4, p3⟩ := p_idxr (P := Try.prog) (i := (w64 (x2 - 1))) (((h1.mono hg1).mono hg2).mono hg3) un_39 ti_91 hq2.1 hq2.2
                refine pkOn (j := 15) rfl (by decide) rfl (by kernel_rfl) rfl rfl rfl hc5 (p3 rfl rfl) ?_
                have h5 : Pr (Kd.int .i64) s6 (ad2.add 0) ((rd x1 (w64 (x2 - 1))).Tx) := h4.lens kTLive_Tx
                refine pkOn (j := 15) rfl (by decide) rfl (by kernel_rfl) rfl rfl rfl hc5 (p_fld rfl fi_91_0) ?_
                refine pkOn (j := 15) rfl (by decide) rfl (by kernel_rfl) rfl rfl rfl hc5 (p_ldr_int rfl hS h5 ia_3) ?_
                refine pkOn (j := 15) rfl (by decide) rfl (by kernel_rfl) rfl rfl rfl hc5 (p_fldb (o' := 0) rfl fi_91_0 rfl) ?_
                refine pkOn (j := 15) rfl (by decide) rfl (by kernel_rfl) rfl rfl rfl hc5 (p_ldb_one (i := 0) hS rfl rfl ia_3 rfl) ?_
                refine pkOn (j := 15) rfl (by decide) rfl (by kernel_rfl) rfl rfl rfl hc5 (p_geq rfl rfl) ?_
                refine pkOn (j := 12) rfl (by decide) rfl (by kernel_rfl) rfl rfl rfl hc4 (p_pickT rfl hc5 rfl) ?_
                refine pk1 rfl (by decide) rfl (by kernel_rfl) rfl (p_pickF rfl hc4 rfl) ?_
                refine pkF (fun a hF => ?_)
                refine xn ?_
                obtain rfl := hsm H
                exact ⟨(decide (((rd x1 x2).Tx) ≤ ((rd x1 (w64 (x2 - 1))).Tx))), s6, hS, hF.cut ⟨rfl, rfl, rfl, rfl, rfl, rfl, trivial⟩, (hg2.trans hg3), HK2⟩
              · replace H := hbf hc5 H
                refine pkOff (j := 15) rfl (by decide) rfl (by kernel_rfl) rfl rfl rfl (by rw [hc5]; decide) ?_
                refine pkOff (j := 15) rfl (by decide) rfl (by kernel_rfl) rfl rfl rfl (by rw [hc5]; decide) ?_
                refine pkOff (j := 15) rfl (by decide) rfl (by kernel_rfl) rfl rfl rfl (by rw [hc5]; decide) ?_
                refine pkOff (j := 15) rfl (by decide) rfl (by kernel_rfl) rfl rfl rfl (by rw [hc5]; decide) ?_
                refine pkOff (j := 15) rfl (by decide) rfl (by kernel_rfl) rfl rfl rfl (by rw [hc5]; decide) ?_
                refine pkOff (j := 15) rfl (by decide) rfl (by kernel_rfl) rfl rfl rfl (by rw [hc5]; decide) ?_
                refine pkOff (j := 15) rfl (by decide) rfl (by kernel_rfl) rfl rfl rfl (by rw [hc5]; decide) ?_
                refine pkOff (j := 15) rfl (by decide) rfl (by kernel_rfl) rfl rfl rfl (by rw [hc5]; decide) ?_
                refine pkOff (j := 15) rfl (by decide) rfl (by kernel_rfl) rfl rfl rfl (by rw [hc5]; decide) ?_
                refine pkOn (j := 12) rfl (by decide) rfl (by kernel_rfl) rfl rfl rfl hc4 (p_pickF rfl hc5 rfl) ?_
                refine pk1 rfl (by decide) rfl (by kernel_rfl) rfl (p_pickF rfl hc4 rfl) ?_
                refine pkF (fun a hF => ?_)
                refine xn ?_
                obtain rfl := hsm H
                exact ⟨false, s6, hS, hF.cut ⟨rfl, rfl, rfl, rfl, rfl, rfl, trivial⟩, (hg2.trans hg3), HK2⟩
        · clear H HK2 hS hF
          rintro a w ⟨x3, s4, hS, hF, hg4, H⟩
          unfold impl_livesOk.c2 at H
          refine cnd hF rfl (fun hc6 => ?_) (fun hc6 => ?_)
          · replace H := hbt hc6 H
            refine sq ?_
            refine rg ?_
            refine stp hF (p_assign rfl) (by decide) (fun a hF => ?_)
            refine nilN ?_
            refine xn ?_
            refine rt ?_
            refine br (xr (xr (br (xr ?_))))
            obtain rfl := hsm H
            have H := hon1 HK1
            obtain rfl := hsm H
            replace hS := hS.sel (is := []) (A' := []) rfl
            exact ret1 hF rfl rfl hS ⟨rfl, rfl⟩
          · replace H := hbf hc6 H
            refine skN ?_
            refine bn (xn ?_)
            refine rg ?_
            refine stp hF (p_add (c := w64 (x2 + 1)) rfl rfl rfl) (by decide) (fun a hF => ?_)
            refine stp hF (p_move rfl) (by decide) (fun a hF => ?_)
            refine nilN ?_
            refine xn ?_
            replace hS := hS.sel (is := []) (A' := []) rfl
            exact ⟨(w64 (x2 + 1)), s4, hS, hF.cut ⟨rfl, rfl, rfl, rfl, rfl, trivial⟩, (hg1.trans hg4), H⟩
      · replace H := hbf hc1 H
        refine exi ?_
        refine xe (xe (hit (xn ?_)))
        obtain rfl := hsm H
        exact ⟨s3, hS, hF.cut ⟨rfl, trivial⟩, hg1, HK1⟩
  · clear H HK1 hS hF
    rintro a w ⟨s2, hS, hF, hg5, H⟩
    unfold impl_livesOk.c1 at H
    refine sq ?_
    refine rg ?_
    refine stp hF (p_move rfl) (by decide) (fun a hF => ?_)
    refine stp hF (p_lenr un_39 rfl (h1.mono hg5)) (by decide) (fun a hF => ?_)
    refine stp hF (p_leq rfl rfl) (by decide) (fun a hF => ?_)
    refine stp hF (p_assign rfl) (by decide) (fun a hF => ?_)
    refine nilN ?_
    refine xn ?_
    refine rt ?_
    obtain rfl := hsm H
    exact ret1 hF rfl rfl hS ⟨rfl, rfl⟩

def impl_isOid.f (k : Nat) (x1 : Int) : Option Bool :=
  ((impl_in.f k x1 1 31).bind fun x2 => (some x2))
set_option maxRecDepth 100000 in
set_option maxHeartbeats 4000000 in
theorem impl_isOid.spec (k : Nat) (s0 : HF) (w : World) (x1 : Int) (r : Bool) (H : impl_isOid.f k x1 = some r) :
    Law Try.prog 83 #[(.int .i64 x1)] s0 w [] (fun v s1 A1 => v = (.bool r) ∧ A1 = []) := by
  unfold impl_isOid.f at H
  refine Law.intro Try.func83 rfl [(0, (.int .i64 x1))] (Nat.le_of_ble_eq_true rfl) (enter_lk ⟨rfl, trivial⟩) (fun e a hS hF => ?_)
  have hF : Fr 5 a [(0, (.int .i64 x1))] := hF
  refine sq ?_
  refine rg ?_
  refine stp hF (p_assign rfl) (by decide) (fun a hF => ?_)
  refine nilN ?_
  refine xn ?_
  refine sq ?_
  refine rg ?_
  refine stp hF (p_move rfl) (by decide) (fun a hF => ?_)
  obtain ⟨x2, hx1, H⟩ := hb H
  refine ste hF (e_callA (fst := []) (vs := [(.int .i64 x1), (.int .i64 1), (.int .i64 31)]) (cap := []) rfl rfl go_79 (St.call (A := []) (B := []) hS (impl_in.spec k _ _ x1 1 31 _ hx1)) rfl) (by decide) (fun v w a hR hF => ?_)
  obtain ⟨s2, A2, hg1, hS, hR⟩ := hR
  obtain ⟨hv1, rfl⟩ := hR; obtain rfl := hv1.symm
  have hS : St e s2 w [] := hS
  refine stp hF (p_assign rfl) (by decide) (fun a hF => ?_)
  refine nilN ?_
  refine xn ?_
  refine rt ?_
  obtain rfl := hsm H
  exact ret1 hF rfl rfl hS ⟨rfl, rfl⟩

def impl_ObjOk_1.f (k : Nat) (x1 : Int) : Option Bool :=
  ((impl_in.f k x1 (-1000000) 1000000).bind fun x2 => (some (!x2)))
set_option maxRecDepth 100000 in
set_option maxHeartbeats 4000000 in
theorem impl_ObjOk_1.spec (k : Nat) (s0 : HF) (w : World) (x1 : Int) (r : Bool) (H : impl_ObjOk_1.f k x1 = some r) :
    Law Try.prog 169 #[(.int .i64 x1)] s0 w [] (fun v s1 A1 => v = (.bool r) ∧ A1 = []) := by
  unfold impl_ObjOk_1.f at H
  refine Law.intro Try.func169 rfl [(0, (.int .i64 x1))] (Nat.le_of_ble_eq_true rfl) (enter_lk ⟨rfl, trivial⟩) (fun e a hS hF => ?_)
  have hF : Fr 6 a [(0, (.int .i64 x1))] := hF
  refine sq ?_
  refine rg ?_
  refine stp hF (p_assign rfl) (by decide) (fun a hF => ?_)
  refine nilN ?_
  refine xn ?_
  refine sq ?_
  refine rg ?_
  refine stp hF (p_move rfl) (by decide) (fun a hF => ?_)
  obtain ⟨x2, hx1, H⟩ := hb H
  refine ste hF (e_callA (fst := []) (vs := [(.int .i64 x1), (.int .i64 (-1000000)), (.int .i64 1000000)]) (cap := []) rfl rfl go_79 (St.call (A := []) (B := []) hS (impl_in.spec k _ _ x1 (-1000000) 1000000 _ hx1)) rfl) (by decide) (fun v w a hR hF => ?_)
  obtain ⟨s2, A2, hg1, hS, hR⟩ := hR
  obtain ⟨hv1, rfl⟩ := hR; obtain rfl := hv1.symm
  have hS : St e s2 w [] := hS
  refine stp hF (p_not rfl) (by decide) (fun a hF => ?_)
  refine stp hF (p_assign rfl) (by decide) (fun a hF => ?_)
  refine nilN ?_
  refine xn ?_
  refine rt ?_
  obtain rfl := hsm H
  exact ret1 hF rfl rfl hS ⟨rfl, rfl⟩

def slices_IndexFunc_1169.c1 (k : Nat) : Option Int :=
  (some (-1))
def slices_IndexFunc_1169.l1 (x1 : (List Int)) : Nat → Int → Option (Ex Int Unit)
  | 0, _ => none
  | k + 1, x2 => (if (decide (x2 < (x1.length : Int))) = true then (if 0 ≤ x2 ∧ x2 < (x1.length : Int) then ((impl_ObjOk_1.f k (rd x1 x2)).bind fun x3 => (if x3 = true then (some (Ex.ret x2)) else ((slices_IndexFunc_1169.l1 x1 k) (w64 (x2 + 1))))) else none) else (some (Ex.go ())))
def slices_IndexFunc_1169.f (k : Nat) (x1 : (List Int)) : Option Int :=
  (((slices_IndexFunc_1169.l1 x1 k 0) : Option (Ex Int Unit)).bind fun x4 => Ex.on x4 (fun r => some r) (fun y => slices_IndexFunc_1169.c1 k))
set_option maxRecDepth 100000 in
set_option maxHeartbeats 4000000 in
theorem slices_IndexFunc_1169.spec (k : Nat) (s0 : HF) (w : World) (x1 : (List Int)) (v1 : Value) (h1 : Sl (Kd.int .i64) s0 v1 x1) (r : Int) (H : slices_IndexFunc_1169.f k x1 = some r) :
    Law Try.prog 177 #[v1, (.func (.func 169) #[] #[])] s0 w [] (fun v s1 A1 => v = (.int .i64 r) ∧ A1 = []) := by
  unfold slices_IndexFunc_1169.f at H
  refine Law.intro Try.func177 rfl [(0, v1), (1, (.func (.func 169) #[] #[]))] (Nat.le_of_ble_eq_true rfl) (enter_lk ⟨rfl, rfl, trivial⟩) (fun e a hS hF => ?_)
  have hF : Fr 19 a [(0, v1), (1, (.func (.func 169) #[] #[]))] := hF
  refine sq ?_
  refine rg ?_
  refine stp hF (p_assign rfl) (by decide) (fun a hF => ?_)
  refine nilN ?_
  refine xn ?_
  obtain ⟨x4, H, HK1⟩ := hb H
  refine sqj (fun a w => ∃ (s2 : HF) , St e s2 w [] ∧ Fr 19 a [] ∧ Sub s0 s2 ∧ slices_IndexFunc_1169.c1 k = some r) ?_ ?_
  · skip
    refine sq ?_
    refine rg ?_
    refine stp hF (p_move rfl) (by decide) (fun a hF => ?_)
    refine stp hF (p_lenr un_34 rfl h1) (by decide) (fun a hF => ?_)
    refine stp hF (p_move rfl) (by decide) (fun a hF => ?_)
    refine nilN ?_
    refine xn ?_
    refine blk ?_
    refine loop_ind (fun k1 a w => ∃ (x2 : Int) (s3 : HF) , St e s3 w [] ∧ Fr 19 a [(0, v1), (1, (.func (.func 169) #[] #[])), (7, (.int .i64 (x1.length : Int))), (8, (.int .i64 x2))] ∧ Sub s0 s3 ∧ slices_IndexFunc_1169.l1 x1 k1 x2 = some x4) k ?_ ?_ ?_
    · skip
      exact ⟨0, s0, hS, hF.cut ⟨rfl, rfl, rfl, rfl, trivial⟩, (Sub.refl _), H⟩
    · clear H hS hF
      rintro a w ⟨x2, s3, hS, hF, hg1, H⟩
      exact absurd (show none = some _ from H) (by simp)
    · clear H hS hF
      rintro k1 a w ⟨x2, s3, hS, hF, hg1, H⟩
      rw [slices_IndexFunc_1169.l1.eq_2] at H
      refine sq ?_
      refine rg ?_
      refine stp hF (p_lss rfl rfl) (by decide) (fun a hF => ?_)
      refine nilN ?_
      refine xn ?_
      refine sq ?_
      refine cnd hF rfl (fun hc1 => ?_) (fun hc1 => ?_)
      · replace H := hbt hc1 H
        refine skN ?_
        refine xn ?_
        refine sq ?_
        refine blk ?_
        refine sq ?_
        refine rg ?_
        refine stp hF (p_move rfl) (by decide) (fun a hF => ?_)
        refine stp hF (p_assign rfl) (by decide) (fun a hF => ?_)
        refine nilN ?_
        refine xn ?_
        refine sq ?_
        refine rg ?_
        refine stp hF (p_move rfl) (by decide) (fun a hF => ?_)
        refine stp hF (p_move rfl) (by decide) (fun a hF => ?_)
        refine stp hF (p_move rfl) (by decide) (fun a hF => ?_)
        obtain ⟨hq1, H⟩ := hck H
        obtain ⟨ad1, h2, p1⟩ := p_idxr (P := Try.prog) (i := x2) (h1.mono hg1) un_34 ti_3 hq1.1 hq1.2
        refine stp hF (p1 rfl rfl) (by decide) (fun a hF => ?_)
        refine stp hF (p_ldr_int rfl hS h2 ia_3) (by decide) (fun a hF => ?_)
        obtain ⟨x3, hx1, H⟩ := hb H
        refine ste hF (e_callA (fst := []) (vs := [(.int .i64 (rd x1 x2))]) (cap := []) rfl rfl go_169 (St.call (A := []) (B := []) hS (impl_ObjOk_1.spec k1 _ _ (rd x1 x2) _ hx1)) rfl) (by decide) (fun v w a hR hF => ?_)
        obtain ⟨s4, A2, hg2, hS, hR⟩ := hR
        obtain ⟨hv1, rfl⟩ := hR; obtain rfl := hv1.symm
        have hS : St e s4 w [] := hS
        refine nilN ?_
        refine xn ?_
        refine cnd hF rfl (fun hc2 => ?_) (fun hc2 => ?_)
        · replace H := hbt hc2 H
          refine sq ?_
          refine rg ?_
          refine stp hF (p_move rfl) (by decide) (fun a hF => ?_)
          refine stp hF (p_assign rfl) (by decide) (fun a hF => ?_)
          refine nilN ?_
          refine xn ?_
          refine rt ?_
          refine br (xr (xr (br (xr ?_))))
          obtain rfl := hsm H
          have H := hon1 HK1
          obtain rfl := hsm H
          exact ret1 hF rfl rfl hS ⟨rfl, rfl⟩
        · replace H := hbf hc2 H
          refine skN ?_
          refine bn (xn ?_)
          refine rg ?_
          refine stp hF (p_add (c := w64 (x2 + 1)) rfl rfl rfl) (by decide) (fun a hF => ?_)
          refine stp hF (p_move rfl) (by decide) (fun a hF => ?_)
          refine nilN ?_
          refine xn ?_
          exact ⟨(w64 (x2 + 1)), s4, hS, hF.cut ⟨rfl, rfl, rfl, rfl, trivial⟩, (hg1.trans hg2), H⟩
      · replace H := hbf hc1 H
        refine exi ?_
        refine xe (xe (hit (xn ?_)))
        obtain rfl := hsm H
        exact ⟨s3, hS, hF.cut trivial, hg1, HK1⟩
  · clear H HK1 hS hF
    rintro a w ⟨s2, hS, hF, hg3, H⟩
    unfold slices_IndexFunc_1169.c1 at H
    refine sq ?_
    refine rg ?_
    refine stp hF (p_assign rfl) (by decide) (fun a hF => ?_)
    refine nilN ?_
    refine xn ?_
    refine rt ?_
    obtain rfl := hsm H
    exact ret1 hF rfl rfl hS ⟨rfl, rfl⟩

def slices_ContainsFunc_1169.f (k : Nat) (x1 : (List Int)) : Option Bool :=
  ((slices_IndexFunc_1169.f k x1).bind fun x2 => (some (decide (0 ≤ x2))))
set_option maxRecDepth 100000 in
set_option maxHeartbeats 4000000 in
theorem slices_ContainsFunc_1169.spec (k : Nat) (s0 : HF) (w : World) (x1 : (List Int)) (v1 : Value) (h1 : Sl (Kd.int .i64) s0 v1 x1) (r : Bool) (H : slices_ContainsFunc_1169.f k x1 = some r) :
    Law Try.prog 168 #[v1, (.func (.func 169) #[] #[])] s0 w [] (fun v s1 A1 => v = (.bool r) ∧ A1 = []) := by
  unfold slices_ContainsFunc_1169.f at H
  refine Law.intro Try.func168 rfl [(0, v1), (1, (.func (.func 169) #[] #[]))] (Nat.le_of_ble_eq_true rfl) (enter_lk ⟨rfl, rfl, trivial⟩) (fun e a hS hF => ?_)
  have hF : Fr 9 a [(0, v1), (1, (.func (.func 169) #[] #[]))] := hF
  refine sq ?_
  refine rg ?_
  refine stp hF (p_assign rfl) (by decide) (fun a hF => ?_)
  refine nilN ?_
  refine xn ?_
  refine sq ?_
  refine rg ?_
  refine stp hF (p_move rfl) (by decide) (fun a hF => ?_)
  refine stp hF (p_move rfl) (by decide) (fun a hF => ?_)
  obtain ⟨x2, hx1, H⟩ := hb H
  refine ste hF (e_callA (fst := []) (vs := [v1, (.func (.func 169) #[] #[])]) (cap := []) rfl rfl go_177 (St.call (A := []) (B := []) hS (slices_IndexFunc_1169.spec k _ _ x1 v1 h1 _ hx1)) rfl) (by decide) (fun v w a hR hF => ?_)
  obtain ⟨s2, A2, hg1, hS, hR⟩ := hR
  obtain ⟨hv1, rfl⟩ := hR; obtain rfl := hv1.symm
  have hS : St e s2 w [] := hS
  refine stp hF (p_geq rfl rfl) (by decide) (fun a hF => ?_)
  refine stp hF (p_assign rfl) (by decide) (fun a hF => ?_)
  refine nilN ?_
  refine xn ?_
  refine rt ?_
  obtain rfl := hsm H
  exact ret1 hF rfl rfl hS ⟨rfl, rfl⟩

def impl_ObjOk_2.f (k : Nat) (x1 : Int) : Option Bool :=
  ((impl_in.f k x1 0 31).bind fun x2 => (some (!x2)))
set_option maxRecDepth 100000 in
set_option maxHeartbeats 4000000 in
theorem impl_ObjOk_2.spec (k : Nat) (s0 : HF) (w : World) (x1 : Int) (r : Bool) (H : impl_ObjOk_2.f k x1 = some r) :
    Law Try.prog 170 #[(.int .i64 x1)] s0 w [] (fun v s1 A1 => v = (.bool r) ∧ A1 = []) := by
  unfold impl_ObjOk_2.f at H
  refine Law.intro Try.func170 rfl [(0, (.int .i64 x1))] (Nat.le_of_ble_eq_true rfl) (enter_lk ⟨rfl, trivial⟩) (fun e a hS hF => ?_)
  have hF : Fr 6 a [(0, (.int .i64 x1))] := hF
  refine sq ?_
  refine rg ?_
  refine stp hF (p_assign rfl) (by decide) (fun a hF => ?_)
  refine nilN ?_
  refine xn ?_
  refine sq ?_
  refine rg ?_
  refine stp hF (p_move rfl) (by decide) (fun a hF => ?_)
  obtain ⟨x2, hx1, H⟩ := hb H
  refine ste hF (e_callA (fst := []) (vs := [(.int .i64 x1), (.int .i64 0), (.int .i64 31)]) (cap := []) rfl rfl go_79 (St.call (A := []) (B := []) hS (impl_in.spec k _ _ x1 0 31 _ hx1)) rfl) (by decide) (fun v w a hR hF => ?_)
  obtain ⟨s2, A2, hg1, hS, hR⟩ := hR
  obtain ⟨hv1, rfl⟩ := hR; obtain rfl := hv1.symm
  have hS : St e s2 w [] := hS
  refine stp hF (p_not rfl) (by decide) (fun a hF => ?_)
  refine stp hF (p_assign rfl) (by decide) (fun a hF => ?_)
  refine nilN ?_
  refine xn ?_
  refine rt ?_
  obtain rfl := hsm H
  exact ret1 hF rfl rfl hS ⟨rfl, rfl⟩

def slices_IndexFunc_2170.c1 (k : Nat) : Option Int :=
  (some (-1))
def slices_IndexFunc_2170.l1 (x1 : (List Int)) : Nat → Int → Option (Ex Int Unit)
  | 0, _ => none
  | k + 1, x2 => (if (decide (x2 < (x1.length : Int))) = true then (if 0 ≤ x2 ∧ x2 < (x1.length : Int) then ((impl_ObjOk_2.f k (rd x1 x2)).bind fun x3 => (if x3 = true then (some (Ex.ret x2)) else ((slices_IndexFunc_2170.l1 x1 k) (w64 (x2 + 1))))) else none) else (some (Ex.go ())))
def slices_IndexFunc_2170.f (k : Nat) (x1 : (List Int)) : Option Int :=
  (((slices_IndexFunc_2170.l1 x1 k 0) : Option (Ex Int Unit)).bind fun x4 => Ex.on x4 (fun r => some r) (fun y => slices_IndexFunc_2170.c1 k))
set_option maxRecDepth 100000 in
set_option maxHeartbeats 4000000 in
theorem slices_IndexFunc_2170.spec (k : Nat) (s0 : HF) (w : World) (x1 : (List Int)) (v1 : Value) (h1 : Sl (Kd.int .i64) s0 v1 x1) (r : Int) (H : slices_IndexFunc_2170.f k x1 = some r) :
    Law Try.prog 177 #[v1, (.func (.func 170) #[] #[])] s0 w [] (fun v s1 A1 => v = (.int .i64 r) ∧ A1 = []) := by
  unfold slices_IndexFunc_2170.f at H
  refine Law.intro Try.func177 rfl [(0, v1), (1, (.func (.func 170) #[] #[]))] (Nat.le_of_ble_eq_true rfl) (enter_lk ⟨rfl, rfl, trivial⟩) (fun e a hS hF => ?_)
  have hF : Fr 19 a [(0, v1), (1, (.func (.func 170) #[] #[]))] := hF
  refine sq ?_
  refine rg ?_
  refine stp hF (p_assign rfl) (by decide) (fun a hF => ?_)
  refine nilN ?_
  refine xn ?_
  obtain ⟨x4, H, HK1⟩ := hb H
  refine sqj (fun a w => ∃ (s2 : HF) , St e s2 w [] ∧ Fr 19 a [] ∧ Sub s0 s2 ∧ slices_IndexFunc_2170.c1 k = some r) ?_ ?_
  · skip
    refine sq ?_
    refine rg ?_
    refine stp hF (p_move rfl) (by decide) (fun a hF => ?_)
    refine stp hF (p_lenr un_34 rfl h1) (by decide) (fun a hF => ?_)
    refine stp hF (p_move rfl) (by decide) (fun a hF => ?_)
    refine nilN ?_
    refine xn ?_
    refine blk ?_
    refine loop_ind (fun k1 a w => ∃ (x2 : Int) (s3 : HF) , St e s3 w [] ∧ Fr 19 a [(0, v1), (1, (.func (.func 170) #[] #[])), (7, (.int .i64 (x1.length : Int))), (8, (.int .i64 x2))] ∧ Sub s0 s3 ∧ slices_IndexFunc_2170.l1 x1 k1 x2 = some x4) k ?_ ?_ ?_
    · skip
      exact ⟨0, s0, hS, hF.cut ⟨rfl, rfl, rfl, rfl, trivial⟩, (Sub.refl _), H⟩
    · clear H hS hF
      rintro a w ⟨x2, s3, hS, hF, hg1, H⟩
      exact absurd (show none = some _ from H) (by simp)
    · clear H hS hF
      rintro k1 a w ⟨x2, s3, hS, hF, hg1, H⟩
      rw [slices_IndexFunc_2170.l1.eq_2] at H
      refine sq ?_
      refine rg ?_
      refine stp hF (p_lss rfl rfl) (by decide) (fun a hF => ?_)
      refine nilN ?_
      refine xn ?_
      refine sq ?_
      refine cnd hF rfl (fun hc1 => ?_) (fun hc1 => ?_)
      · replace H := hbt hc1 H
        refine skN ?_
        refine xn ?_
        refine sq ?_
        refine blk ?_
        refine sq ?_
        refine rg ?_
        refine stp hF (p_move rfl) (by decide) (fun a hF => ?_)
        refine stp hF (p_assign rfl) (by decide) (fun a hF => ?_)
        refine nilN ?_
        refine xn ?_
        refine sq ?_
        refine rg ?_
        refine stp hF (p_move rfl) (by decide) (fun a hF => ?_)
        refine stp hF (p_move rfl) (by decide) (fun a hF => ?_)
        refine stp hF (p_move rfl) (by decide) (fun a hF => ?_)
        obtain ⟨hq1, H⟩ := hck H
        obtain ⟨ad1, h2, p1⟩ := p_idxr (P := Try.prog) (i := x2) (h1.mono hg1) un_34 ti_3 hq1.1 hq1.2
        refine stp hF (p1 rfl rfl) (by decide) (fun a hF => ?_)
        refine stp hF (p_ldr_int rfl hS h2 ia_3) (by decide) (fun a hF => ?_)
        obtain ⟨x3, hx1, H⟩ := hb H
        refine ste hF (e_callA (fst := []) (vs := [(.int .i64 (rd x1 x2))]) (cap := []) rfl rfl go_170 (St.call (A := []) (B := []) hS (impl_ObjOk_2.spec k1 _ _ (rd x1 x2) _ hx1)) rfl) (by decide) (fun v w a hR hF => ?_)
        obtain ⟨s4, A2, hg2, hS, hR⟩ := hR
        obtain ⟨hv1, rfl⟩ := hR; obtain rfl := hv1.symm
        have hS : St e s4 w [] := hS
        refine nilN ?_
        refine xn ?_
        refine cnd hF rfl (fun hc2 => ?_) (fun hc2 => ?_)
        · replace H := hbt hc2 H
          refine sq ?_
          refine rg ?_
          refine stp hF (p_move rfl) (by decide) (fun a hF => ?_)
          refine stp hF (p_assign rfl) (by decide) (fun a hF => ?_)
          refine nilN ?_
          refine xn ?_
          refine rt ?_
          refine br (xr (xr (br (xr ?_))))
          obtain rfl := hsm H
          have H := hon1 HK1
          obtain rfl := hsm H
          exact ret1 hF rfl rfl hS ⟨rfl, rfl⟩
        · replace H := hbf hc2 H
          refine skN ?_
          refine bn (xn ?_)
          refine rg ?_
          refine stp hF (p_add (c := w64 (x2 + 1)) rfl rfl rfl) (by decide) (fun a hF => ?_)
          refine stp hF (p_move rfl) (by decide) (fun a hF => ?_)
          refine nilN ?_
          refine xn ?_
          exact ⟨(w64 (x2 + 1)), s4, hS, hF.cut ⟨rfl, rfl, rfl, rfl, trivial⟩, (hg1.trans hg2), H⟩
      · replace H := hbf hc1 H
        refine exi ?_
        refine xe (xe (hit (xn ?_)))
        obtain rfl := hsm H
        exact ⟨s3, hS, hF.cut trivial, hg1, HK1⟩
  · clear H HK1 hS hF
    rintro a w ⟨s2, hS, hF, hg3, H⟩
    unfold slices_IndexFunc_2170.c1 at H
    refine sq ?_
    refine rg ?_
    refine stp hF (p_assign rfl) (by decide) (fun a hF => ?_)
    refine nilN ?_
    refine xn ?_
    refine rt ?_
    obtain rfl := hsm H
    exact ret1 hF rfl rfl hS ⟨rfl, rfl⟩

def slices_ContainsFunc_2170.f (k : Nat) (x1 : (List Int)) : Option Bool :=
  ((slices_IndexFunc_2170.f k x1).bind fun x2 => (some (decide (0 ≤ x2))))
set_option maxRecDepth 100000 in
set_option maxHeartbeats 4000000 in
theorem slices_ContainsFunc_2170.spec (k : Nat) (s0 : HF) (w : World) (x1 : (List Int)) (v1 : Value) (h1 : Sl (Kd.int .i64) s0 v1 x1) (r : Bool) (H : slices_ContainsFunc_2170.f k x1 = some r) :
    Law Try.prog 168 #[v1, (.func (.func 170) #[] #[])] s0 w [] (fun v s1 A1 => v = (.bool r) ∧ A1 = []) := by
  unfold slices_ContainsFunc_2170.f at H
  refine Law.intro Try.func168 rfl [(0, v1), (1, (.func (.func 170) #[] #[]))] (Nat.le_of_ble_eq_true rfl) (enter_lk ⟨rfl, rfl, trivial⟩) (fun e a hS hF => ?_)
  have hF : Fr 9 a [(0, v1), (1, (.func (.func 170) #[] #[]))] := hF
  refine sq ?_
  refine rg ?_
  refine stp hF (p_assign rfl) (by decide) (fun a hF => ?_)
  refine nilN ?_
  refine xn ?_
  refine sq ?_
  refine rg ?_
  refine stp hF (p_move rfl) (by decide) (fun a hF => ?_)
  refine stp hF (p_move rfl) (by decide) (fun a hF => ?_)
  obtain ⟨x2, hx1, H⟩ := hb H
  refine ste hF (e_callA (fst := []) (vs := [v1, (.func (.func 170) #[] #[])]) (cap := []) rfl rfl go_177 (St.call (A := []) (B := []) hS (slices_IndexFunc_2170.spec k _ _ x1 v1 h1 _ hx1)) rfl) (by decide) (fun v w a hR hF => ?_)
  obtain ⟨s2, A2, hg1, hS, hR⟩ := hR
  obtain ⟨hv1, rfl⟩ := hR; obtain rfl := hv1.symm
  have hS : St e s2 w [] := hS
  refine stp hF (p_geq rfl rfl) (by decide) (fun a hF => ?_)
  refine stp hF (p_assign rfl) (by decide) (fun a hF => ?_)
  refine nilN ?_
  refine xn ?_
  refine rt ?_
  obtain rfl := hsm H
  exact ret1 hF rfl rfl hS ⟨rfl, rfl⟩

def impl_ObjOk.c1 (k : Nat) (x1 : Bool) : Option Bool :=
  (some x1)
def impl_ObjOk.f (k : Nat) (x2 : TObj) : Option Bool :=
  ((impl_in.f k x2.Kind 1 99).bind fun x3 => (if (((!x3) || (decide (5 < (x2.Ints.length : Int)))) || (decide (5 < (x2.Refs.length : Int)))) = true then (some false) else ((slices_ContainsFunc_1169.f k x2.Ints).bind fun x4 => ((if (!x4) = true then ((slices_ContainsFunc_2170.f k x2.Refs).bind fun x5 => (some (!x5))) else (some false) : Option Bool).bind fun x6 => impl_ObjOk.c1 k x6))))
set_option maxRecDepth 100000 in
set_option maxHeartbeats 4000000 in
theorem impl_ObjOk.spec (k : Nat) (s0 : HF) (w : World) (x2 : TObj) (v1 : Value) (v2 : Value) (h1 : Sl (Kd.int .i64) s0 v1 x2.Ints) (h2 : Sl (Kd.int .i64) s0 v2 x2.Refs) (r : Bool) (H : impl_ObjOk.f k x2 = some r) :
    Law Try.prog 141 #[(.agg #[(.int .i64 x2.Kind), v1, v2])] s0 w [] (fun v s1 A1 => v = (.bool r) ∧ A1 = []) := by
  unfold impl_ObjOk.f at H
  refine Law.intro Try.func141 rfl [(0, (.agg #[(.int .i64 x2.Kind), v1, v2]))] (Nat.le_of_ble_eq_true rfl) (enter_lk ⟨rfl, trivial⟩) (fun e a hS hF => ?_)
  have hF : Fr 29 a [(0, (.agg #[(.int .i64 x2.Kind), v1, v2]))] := hF
  refine sq ?_
  refine rg ?_
  refine ste hF (e_box (cs := [(.int .i64 x2.Kind), v1, v2]) hS rfl rfl) (by decide) (fun v w a hR hF => ?_)
  obtain ⟨g1, rfl, hS⟩ := hR
  refine stp hF (p_assign rfl) (by decide) (fun a hF => ?_)
  refine nilN ?_
  refine xn ?_
  refine sq ?_
  refine sq ?_
  refine rg ?_
  refine stp hF (p_fldb (o' := 0) rfl fi_36_0 rfl) (by decide) (fun a hF => ?_)
  refine stp hF (p_ldb_one (i := 0) hS rfl rfl ia_3 rfl) (by decide) (fun a hF => ?_)
  obtain ⟨x3, hx1, H⟩ := hb H
  refine ste hF (e_callA (fst := []) (vs := [(.int .i64 x2.Kind), (.int .i64 1), (.int .i64 99)]) (cap := []) rfl rfl go_79 (St.call (A := []) (B := [pt g1 36 ([(.int .i64 x2.Kind), v1, v2])]) hS (impl_in.spec k _ _ x2.Kind 1 99 _ hx1)) rfl) (by decide) (fun v w a hR hF => ?_)
  obtain ⟨s2, A2, hg1, hS, hR⟩ := hR
  obtain ⟨hv1, rfl⟩ := hR; obtain rfl := hv1.symm
  have hS : St e s2 w [pt g1 36 ([(.int .i64 x2.Kind), v1, v2])] := hS
  refine stp hF (p_not rfl) (by decide) (fun a hF => ?_)
  refine stp hF (p_move rfl) (by decide) (fun a hF => ?_)
  refine cutj 5 (fun a w => St e s2 w [pt g1 36 ([(.int .i64 x2.Kind), v1, v2])] ∧ Fr 29 a [(1, (.pointer (some ⟨g1, 0, none⟩))), (12, (.bool ((!x3) || (decide (5 < (x2.Ints.length : Int))))))]) rfl rfl ?_ ?_
  · rcases Bool.eq_false_or_eq_true ((!x3)) with hc1 | hc1
    · skip
      refine gofD (j := 4) hF rfl rfl (by rw [hc1]; decide) (by decide) (fun a hF => ?_)
      refine gofD (j := 4) hF rfl rfl (by rw [hc1]; decide) (by decide) (fun a hF => ?_)
      refine gofD (j := 4) hF rfl rfl (by rw [hc1]; decide) (by decide) (fun a hF => ?_)
      refine gofD (j := 4) hF rfl rfl (by rw [hc1]; decide) (by decide) (fun a hF => ?_)
      refine stp hF (p_orT (decide (5 < (x2.Ints.length : Int))) rfl hc1 rfl) (by decide) (fun a hF => ?_)
      refine nilN ?_
      refine xn ?_
      exact ⟨hS, hF.cut ⟨rfl, rfl, trivial⟩⟩
    · skip
      refine gonE (j := 4) hF rfl rfl hc1 ?_
      refine stp hF (p_fldb (o' := 1) rfl fi_36_1 rfl) (by decide) (fun a hF => ?_)
      refine gonE (j := 4) hF rfl rfl hc1 ?_
      refine stp hF (p_ldb_one (i := 0) hS rfl rfl ia_34 rfl) (by decide) (fun a hF => ?_)
      refine gonE (j := 4) hF rfl rfl hc1 ?_
      refine stp hF (p_lenr un_34 rfl (h1.mono hg1)) (by decide) (fun a hF => ?_)
      refine gonE (j := 4) hF rfl rfl hc1 ?_
      refine stp hF (p_gtr rfl rfl) (by decide) (fun a hF => ?_)
      refine stp hF (p_orF rfl hc1 rfl) (by decide) (fun a hF => ?_)
      refine nilN ?_
      refine xn ?_
      exact ⟨hS, hF.cut ⟨rfl, rfl, trivial⟩⟩
  clear hS hF
  rintro a w ⟨hS, hF⟩
  refine stp hF (p_move rfl) (by decide) (fun a hF => ?_)
  refine cutj 5 (fun a w => St e s2 w [pt g1 36 ([(.int .i64 x2.Kind), v1, v2])] ∧ Fr 29 a [(1, (.pointer (some ⟨g1, 0, none⟩))), (18, (.bool (((!x3) || (decide (5 < (x2.Ints.length : Int)))) || (decide (5 < (x2.Refs.length : Int))))))]) rfl rfl ?_ ?_
  · rcases Bool.eq_false_or_eq_true (((!x3) || (decide (5 < (x2.Ints.length : Int))))) with hc2 | hc2
    · skip
      refine gofD (j := 10) hF rfl rfl (by rw [hc2]; decide) (by decide) (fun a hF => ?_)
      refine gofD (j := 10) hF rfl rfl (by rw [hc2]; decide) (by decide) (fun a hF => ?_)
      refine gofD (j := 10) hF rfl rfl (by rw [hc2]; decide) (by decide) (fun a hF => ?_)
      refine gofD (j := 10) hF rfl rfl (by rw [hc2]; decide) (by decide) (fun a hF => ?_)
      refine stp hF (p_orT (decide (5 < (x2.Refs.length : Int))) rfl hc2 rfl) (by decide) (fun a hF => ?_)
      refine nilN ?_
      refine xn ?_
      exact ⟨hS, hF.cut ⟨rfl, rfl, trivial⟩⟩
    · skip
      refine gonE (j := 10) hF rfl rfl hc2 ?_
      refine stp hF (p_fldb (o' := 2) rfl fi_36_2 rfl) (by decide) (fun a hF => ?_)
      refine gonE (j := 10) hF rfl rfl hc2 ?_
      refine stp hF (p_ldb_one (i := 0) hS rfl rfl ia_34 rfl) (by decide) (fun a hF => ?_)
      refine gonE (j := 10) hF rfl rfl hc2 ?_
      refine stp hF (p_lenr un_34 rfl (h2.mono hg1)) (by decide) (fun a hF => ?_)
      refine gonE (j := 10) hF rfl rfl hc2 ?_
      refine stp hF (p_gtr rfl rfl) (by decide) (fun a hF => ?_)
      refine stp hF (p_orF rfl hc2 rfl) (by decide) (fun a hF => ?_)
      refine nilN ?_
      refine xn ?_
      exact ⟨hS, hF.cut ⟨rfl, rfl, trivial⟩⟩
  clear hS hF
  rintro a w ⟨hS, hF⟩
  refine nilN ?_
  refine xn ?_
  refine cnd hF rfl (fun hc3 => ?_) (fun hc3 => ?_)
  · replace H := hbt hc3 H
    refine sq ?_
    refine rg ?_
    refine stp hF (p_assign rfl) (by decide) (fun a hF => ?_)
    refine nilN ?_
    refine xn ?_
    refine rt ?_
    refine xr ?_
    obtain rfl := hsm H
    replace hS := hS.sel (is := []) (A' := []) rfl
    exact ret1 hF rfl rfl hS ⟨rfl, rfl⟩
  · replace H := hbf hc3 H
    refine skN ?_
    refine xn ?_
    refine sq ?_
    refine rg ?_
    refine stp hF (p_fldb (o' := 1) rfl fi_36_1 rfl) (by decide) (fun a hF => ?_)
    refine stp hF (p_ldb_one (i := 0) hS rfl rfl ia_34 rfl) (by decide) (fun a hF => ?_)
    obtain ⟨x4, hx2, H⟩ := hb H
    refine ste hF (e_callA (fst := []) (vs := [v1, (.func (.func 169) #[] #[])]) (cap := []) rfl rfl go_168 (St.call (A := []) (B := [pt g1 36 ([(.int .i64 x2.Kind), v1, v2])]) hS (slices_ContainsFunc_1169.spec k _ _ x2.Ints v1 (h1.mono hg1) _ hx2)) rfl) (by decide) (fun v w a hR hF => ?_)
    obtain ⟨s3, A3, hg2, hS, hR⟩ := hR
    obtain ⟨hv2, rfl⟩ := hR; obtain rfl := hv2.symm
    have hS : St e s3 w [pt g1 36 ([(.int .i64 x2.Kind), v1, v2])] := hS
    refine stp hF (p_not rfl) (by decide) (fun a hF => ?_)
    refine stp hF (p_move rfl) (by decide) (fun a hF => ?_)
    obtain ⟨x6, H, HK1⟩ := hb H
    refine cutj 5 (fun a w => ∃ (x1 : Bool) (s4 : HF) , St e s4 w [pt g1 36 ([(.int .i64 x2.Kind), v1, v2])] ∧ Fr 29 a [(28, (.bool x1))] ∧ Sub s3 s4 ∧ impl_ObjOk.c1 k x1 = some r) rfl rfl ?_ ?_
    · rcases Bool.eq_false_or_eq_true ((!x4)) with hc4 | hc4
      · replace H := hbt hc4 H
        refine gonE (j := 4) hF rfl rfl hc4 ?_
        refine stp hF (p_fldb (o' := 2) rfl fi_36_2 rfl) (by decide) (fun a hF => ?_)
        refine gonE (j := 4) hF rfl rfl hc4 ?_
        refine stp hF (p_ldb_one (i := 0) hS rfl rfl ia_34 rfl) (by decide) (fun a hF => ?_)
        obtain ⟨x5, hx3, H⟩ := hb H
        refine gonE (j := 4) hF rfl rfl hc4 ?_
        refine ste hF (e_callA (fst := []) (vs := [v2, (.func (.func 170) #[] #[])]) (cap := []) rfl rfl go_168 (St.call (A := []) (B := [pt g1 36 ([(.int .i64 x2.Kind), v1, v2])]) hS (slices_ContainsFunc_2170.spec k _ _ x2.Refs v2 ((h2.mono hg1).mono hg2) _ hx3)) rfl) (by decide) (fun v w a hR hF => ?_)
        obtain ⟨s5, A4, hg3, hS, hR⟩ := hR
        obtain ⟨hv3, rfl⟩ := hR; obtain rfl := hv3.symm
        have hS : St e s5 w [pt g1 36 ([(.int .i64 x2.Kind), v1, v2])] := hS
        refine gonE (j := 4) hF rfl rfl hc4 ?_
        refine stp hF (p_not rfl) (by decide) (fun a hF => ?_)
        refine stp hF (p_pickT rfl hc4 rfl) (by decide) (fun a hF => ?_)
        refine nilN ?_
        refine xn ?_
        obtain rfl := hsm H
        exact ⟨(!x5), s5, hS, hF.cut ⟨rfl, trivial⟩, hg3, HK1⟩
      · replace H := hbf hc4 H
        refine gofD (j := 4) hF rfl rfl (by rw [hc4]; decide) (by decide) (fun a hF => ?_)
        refine gofD (j := 4) hF rfl rfl (by rw [hc4]; decide) (by decide) (fun a hF => ?_)
        refine gofD (j := 4) hF rfl rfl (by rw [hc4]; decide) (by decide) (fun a hF => ?_)
        refine gofD (j := 4) hF rfl rfl (by rw [hc4]; decide) (by decide) (fun a hF => ?_)
        refine stp hF (p_pickF rfl hc4 rfl) (by decide) (fun a hF => ?_)
        refine nilN ?_
        refine xn ?_
        obtain rfl := hsm H
        exact ⟨false, s3, hS, hF.cut ⟨rfl, trivial⟩, (Sub.refl _), HK1⟩
    · clear H HK1 hS hF
      rintro a w ⟨x1, s4, hS, hF, hg4, H⟩
      unfold impl_ObjOk.c1 at H
      refine stp hF (p_assign rfl) (by decide) (fun a hF => ?_)
      refine nilN ?_
      refine xn ?_
      refine rt ?_
      obtain rfl := hsm H
      replace hS := hS.sel (is := []) (A' := []) rfl
      exact ret1 hF rfl rfl hS ⟨rfl, rfl⟩

def impl_slotOk.f (k : Nat) (x1 : TSlot) : Option Bool :=
  (if x1.Has = true then ((impl_ObjOk.f k x1.O).bind fun x2 => (some x2)) else ((impl_noObj.f k x1.O).bind fun x3 => (some x3)))
set_option maxRecDepth 100000 in
set_option maxHeartbeats 4000000 in
theorem impl_slotOk.spec (k : Nat) (s0 : HF) (w : World) (x1 : TSlot) (v1 : Value) (v2 : Value) (h1 : Sl (Kd.int .i64) s0 v1 x1.O.Ints) (h2 : Sl (Kd.int .i64) s0 v2 x1.O.Refs) (r : Bool) (H : impl_slotOk.f k x1 = some r) :
    Law Try.prog 84 #[(.agg #[(.bool x1.Has), (.int .i64 x1.O.Kind), v1, v2])] s0 w [] (fun v s1 A1 => v = (.bool r) ∧ A1 = []) := by
  unfold impl_slotOk.f at H
  refine Law.intro Try.func84 rfl [(0, (.agg #[(.bool x1.Has), (.int .i64 x1.O.Kind), v1, v2]))] (Nat.le_of_ble_eq_true rfl) (enter_lk ⟨rfl, trivial⟩) (fun e a hS hF => ?_)
  have hF : Fr 11 a [(0, (.agg #[(.bool x1.Has), (.int .i64 x1.O.Kind), v1, v2]))] := hF
  refine sq ?_
  refine rg ?_
  refine ste hF (e_box (cs := [(.bool x1.Has), (.int .i64 x1.O.Kind), v1, v2]) hS rfl rfl) (by decide) (fun v w a hR hF => ?_)
  obtain ⟨g1, rfl, hS⟩ := hR
  refine stp hF (p_assign rfl) (by decide) (fun a hF => ?_)
  refine nilN ?_
  refine xn ?_
  refine sq ?_
  refine sq ?_
  refine rg ?_
  refine stp hF (p_fldb (o' := 0) rfl fi_38_0 rfl) (by decide) (fun a hF => ?_)
  refine stp hF (p_ldb_one (i := 0) hS rfl rfl ia_4 rfl) (by decide) (fun a hF => ?_)
  refine nilN ?_
  refine xn ?_
  refine cnd hF rfl (fun hc1 => ?_) (fun hc1 => ?_)
  · replace H := hbt hc1 H
    refine sq ?_
    refine rg ?_
    refine stp hF (p_fldb (o' := 1) rfl fi_38_1 rfl) (by decide) (fun a hF => ?_)
    refine stp hF (p_ldb_agg (i := 0) (l := [(.bool x1.Has)]) (m := [(.int .i64 x1.O.Kind), v1, v2]) (r := []) hS rfl rfl ia_36 ti_36 rfl rfl rfl) (by decide) (fun a hF => ?_)
    obtain ⟨x2, hx1, H⟩ := hb H
    refine ste hF (e_callA (fst := []) (vs := [(.agg #[(.int .i64 x1.O.Kind), v1, v2])]) (cap := []) rfl rfl go_141 (St.call (A := []) (B := [pt g1 38 ([(.bool x1.Has), (.int .i64 x1.O.Kind), v1, v2])]) hS (impl_ObjOk.spec k _ _ x1.O v1 v2 h1 h2 _ hx1)) rfl) (by decide) (fun v w a hR hF => ?_)
    obtain ⟨s2, A2, hg1, hS, hR⟩ := hR
    obtain ⟨hv1, rfl⟩ := hR; obtain rfl := hv1.symm
    have hS : St e s2 w [pt g1 38 ([(.bool x1.Has), (.int .i64 x1.O.Kind), v1, v2])] := hS
    refine stp hF (p_assign rfl) (by decide) (fun a hF => ?_)
    refine nilN ?_
    refine xn ?_
    refine rt ?_
    refine xr ?_
    obtain rfl := hsm H
    replace hS := hS.sel (is := []) (A' := []) rfl
    exact ret1 hF rfl rfl hS ⟨rfl, rfl⟩
  · replace H := hbf hc1 H
    refine skN ?_
    refine xn ?_
    refine sq ?_
    refine rg ?_
    refine stp hF (p_fldb (o' := 1) rfl fi_38_1 rfl) (by decide) (fun a hF => ?_)
    refine stp hF (p_ldb_agg (i := 0) (l := [(.bool x1.Has)]) (m := [(.int .i64 x1.O.Kind), v1, v2]) (r := []) hS rfl rfl ia_36 ti_36 rfl rfl rfl) (by decide) (fun a hF => ?_)
    obtain ⟨x3, hx2, H⟩ := hb H
    refine ste hF (e_callA (fst := []) (vs := [(.agg #[(.int .i64 x1.O.Kind), v1, v2])]) (cap := []) rfl rfl go_140 (St.call (A := []) (B := [pt g1 38 ([(.bool x1.Has), (.int .i64 x1.O.Kind), v1, v2])]) hS (impl_noObj.spec k _ _ x1.O v1 v2 h1 h2 _ hx2)) rfl) (by decide) (fun v w a hR hF => ?_)
    obtain ⟨s3, A3, hg2, hS, hR⟩ := hR
    obtain ⟨hv2, rfl⟩ := hR; obtain rfl := hv2.symm
    have hS : St e s3 w [pt g1 38 ([(.bool x1.Has), (.int .i64 x1.O.Kind), v1, v2])] := hS
    refine stp hF (p_assign rfl) (by decide) (fun a hF => ?_)
    refine nilN ?_
    refine xn ?_
    refine rt ?_
    obtain rfl := hsm H
    replace hS := hS.sel (is := []) (A' := []) rfl
    exact ret1 hF rfl rfl hS ⟨rfl, rfl⟩

def impl_RecOk.c1 (k : Nat) (x1 : Bool) : Option Bool :=
  (some x1)
def impl_RecOk.c2 (k : Nat) (x2 : TRec) (x3 : Bool) : Option Bool :=
  (some (x3 && (decide (x2.Next = 0))))
def impl_RecOk.c3 (k : Nat) (x2 : TRec) (x4 : Bool) : Option Bool :=
  ((if x4 = true then ((impl_slotOk.f k x2.After).bind fun x5 => (some x5)) else (some false) : Option Bool).bind fun x6 => impl_RecOk.c2 k x2 x6)
def impl_RecOk.c4 (k : Nat) (x7 : Bool) : Option Bool :=
  (some x7)
def impl_RecOk.c5 (k : Nat) (x2 : TRec) (x8 : Bool) : Option Bool :=
  ((if x8 = true then ((impl_in.f k x2.Next 0 (w64 (x2.Lsn - 1))).bind fun x9 => (some x9)) else (some false) : Option Bool).bind fun x10 => impl_RecOk.c4 k x10)
def impl_RecOk.c6 (k : Nat) (x2 : TRec) (x11 : Bool) : Option Bool :=
  ((if x11 = true then ((impl_slotOk.f k x2.After).bind fun x12 => (some x12)) else (some false) : Option Bool).bind fun x13 => impl_RecOk.c5 k x2 x13)
def impl_RecOk.c7 (k : Nat) (x14 : Bool) (x2 : TRec) (x15 : Bool) : Option Bool :=
  (if x15 = true then (some (x14 && (decide (x2.Next = 0)))) else (some false))
def impl_RecOk.c8 (k : Nat) (x2 : TRec) (x14 : Bool) (x16 : Bool) : Option Bool :=
  (if (x16 || (decide (0 < (x2.Txs.length : Int)))) = true then (some false) else (if (decide (x2.Kind = 1)) = true then ((impl_isOid.f k x2.Oid).bind fun x17 => ((if x17 = true then ((impl_slotOk.f k x2.Before).bind fun x18 => (some x18)) else (some false) : Option Bool).bind fun x19 => impl_RecOk.c3 k x2 x19)) else (if (decide (x2.Kind = 4)) = true then ((impl_isOid.f k x2.Oid).bind fun x20 => ((if x20 = true then ((impl_noSlot.f k x2.Before).bind fun x21 => (some x21)) else (some false) : Option Bool).bind fun x22 => impl_RecOk.c6 k x2 x22)) else (((if (decide (x2.Kind = 2)) = true then (some (decide (x2.Kind = 2))) else (if (decide (x2.Kind = 3)) = true then (some (decide (x2.Kind = 3))) else (some (decide (x2.Kind = 5))))) : Option Bool).bind fun x23 => impl_RecOk.c7 k x14 x2 x23))))
def impl_RecOk.c9 (k : Nat) (x2 : TRec) (x14 : Bool) : Option Bool :=
  (if (decide (x2.Kind = 6)) = true then ((if ((((decide (x2.Tx = 0)) && (decide (x2.Prev = 0))) && x14) && (decide (x2.Next = 0))) = true then ((impl_livesOk.f k x2.Txs x2.Lsn).bind fun x24 => (some x24)) else (some false) : Option Bool).bind fun x25 => impl_RecOk.c1 k x25) else ((impl_isTx.f k x2.Tx).bind fun x26 => ((if (!x26) = true then (some true) else ((impl_in.f k x2.Prev 0 (w64 (x2.Lsn - 1))).bind fun x27 => (some (!x27))) : Option Bool).bind fun x28 => impl_RecOk.c8 k x2 x14 x28)))
def impl_RecOk.c10 (k : Nat) (x2 : TRec) (x29 : Bool) : Option Bool :=
  ((if x29 = true then ((impl_noSlot.f k x2.After).bind fun x30 => (some x30)) else (some false) : Option Bool).bind fun x31 => impl_RecOk.c9 k x2 x31)
def impl_RecOk.f (k : Nat) (x2 : TRec) : Option Bool :=
  ((impl_in.f k x2.Lsn 1 1000000).bind fun x32 => (if (!x32) = true then (some false) else ((if (decide (x2.Oid = 0)) = true then ((impl_noSlot.f k x2.Before).bind fun x33 => (some x33)) else (some false) : Option Bool).bind fun x34 => impl_RecOk.c10 k x2 x34)))
set_option maxRecDepth 100000 in
set_option maxHeartbeats 4000000 in
theorem impl_RecOk.spec (k : Nat) (s0 : HF) (w : World) (x2 : TRec) (v1 : Value) (v2 : Value) (v3 : Value) (v4 : Value) (v5 : Value) (h1 : Sl (Kd.int .i64) s0 v1 x2.Before.O.Ints) (h2 : Sl (Kd.int .i64) s0 v2 x2.Before.O.Refs) (h3 : Sl (Kd.int .i64) s0 v3 x2.After.O.Ints) (h4 : Sl (Kd.int .i64) s0 v4 x2.After.O.Refs) (h5 : Sl kTLive s0 v5 x2.Txs) (r : Bool) (H : impl_RecOk.f k x2 = some r) :
    Law Try.prog 24 #[(.agg #[(.int .i64 x2.Lsn), (.int .i64 x2.Tx), (.int .i64 x2.Prev), (.int .i64 x2.Kind), (.int .i64 x2.Oid), (.bool x2.Before.Has), (.int .i64 x2.Before.O.Kind), v1, v2, (.bool x2.After.Has), (.int .i64 x2.After.O.Kind), v3, v4, (.int .i64 x2.Next), v5])] s0 w [] (fun v s1 A1 => v = (.bool r) ∧ A1 = []) := by
  unfold impl_RecOk.f at H
  refine Law.intro Try.func24 rfl [(0, (.agg #[(.int .i64 x2.Lsn), (.int .i64 x2.Tx), (.int .i64 x2.Prev), (.int .i64 x2.Kind), (.int .i64 x2.Oid), (.bool x2.Before.Has), (.int .i64 x2.Before.O.Kind), v1, v2, (.bool x2.After.Has), (.int .i64 x2.After.O.Kind), v3, v4, (.int .i64 x2.Next), v5]))] (Nat.le_of_ble_eq_true rfl) (enter_lk ⟨rfl, trivial⟩) (fun e a hS hF => ?_)
  have hF : Fr 121 a [(0, (.agg #[(.int .i64 x2.Lsn), (.int .i64 x2.Tx), (.int .i64 x2.Prev), (.int .i64 x2.Kind), (.int .i64 x2.Oid), (.bool x2.Before.Has), (.int .i64 x2.Before.O.Kind), v1, v2, (.bool x2.After.Has), (.int .i64 x2.After.O.Kind), v3, v4, (.int .i64 x2.Next), v5]))] := hF
  refine sq ?_
  refine rg ?_
  refine ste hF (e_box (cs := [(.int .i64 x2.Lsn), (.int .i64 x2.Tx), (.int .i64 x2.Prev), (.int .i64 x2.Kind), (.int .i64 x2.Oid), (.bool x2.Before.Has), (.int .i64 x2.Before.O.Kind), v1, v2, (.bool x2.After.Has), (.int .i64 x2.After.O.Kind), v3, v4, (.int .i64 x2.Next), v5]) hS rfl rfl) (by decide) (fun v w a hR hF => ?_)
  obtain ⟨g1, rfl, hS⟩ := hR
  refine stp hF (p_assign rfl) (by decide) (fun a hF => ?_)
  refine nilN ?_
  refine xn ?_
  refine sq ?_
  refine sq ?_
  refine rg ?_
  refine stp hF (p_fldb (o' := 0) rfl fi_41_0 rfl) (by decide) (fun a hF => ?_)
  refine stp hF (p_ldb_one (i := 0) hS rfl rfl ia_3 rfl) (by decide) (fun a hF => ?_)
  obtain ⟨x32, hx1, H⟩ := hb H
  refine ste hF (e_callA (fst := []) (vs := [(.int .i64 x2.Lsn), (.int .i64 1), (.int .i64 1000000)]) (cap := []) rfl rfl go_79 (St.call (A := []) (B := [pt g1 41 ([(.int .i64 x2.Lsn), (.int .i64 x2.Tx), (.int .i64 x2.Prev), (.int .i64 x2.Kind), (.int .i64 x2.Oid), (.bool x2.Before.Has), (.int .i64 x2.Before.O.Kind), v1, v2, (.bool x2.After.Has), (.int .i64 x2.After.O.Kind), v3, v4, (.int .i64 x2.Next), v5])]) hS (impl_in.spec k _ _ x2.Lsn 1 1000000 _ hx1)) rfl) (by decide) (fun v w a hR hF => ?_)
  obtain ⟨s2, A2, hg1, hS, hR⟩ := hR
  obtain ⟨hv1, rfl⟩ := hR; obtain rfl := hv1.symm
  have hS : St e s2 w [pt g1 41 ([(.int .i64 x2.Lsn), (.int .i64 x2.Tx), (.int .i64 x2.Prev), (.int .i64 x2.Kind), (.int .i64 x2.Oid), (.bool x2.Before.Has), (.int .i64 x2.Before.O.Kind), v1, v2, (.bool x2.After.Has), (.int .i64 x2.After.O.Kind), v3, v4, (.int .i64 x2.Next), v5])] := hS
  refine stp hF (p_not rfl) (by decide) (fun a hF => ?_)
  refine nilN ?_
  refine xn ?_
  refine cnd hF rfl (fun hc1 => ?_) (fun hc1 => ?_)
  · replace H := hbt hc1 H
    refine sq ?_
    refine rg ?_
    refine stp hF (p_assign rfl) (by decide) (fun a hF => ?_)
    refine nilN ?_
    refine xn ?_
    refine rt ?_
    refine xr ?_
    obtain rfl := hsm H
    replace hS := hS.sel (is := []) (A' := []) rfl
    exact ret1 hF rfl rfl hS ⟨rfl, rfl⟩
  · replace H := hbf hc1 H
    refine skN ?_
    refine xn ?_
    refine sq ?_
    refine rg ?_
    refine stp hF (p_fldb (o' := 4) rfl fi_41_4 rfl) (by decide) (fun a hF => ?_)
    refine stp hF (p_ldb_one (i := 0) hS rfl rfl ia_3 rfl) (by decide) (fun a hF => ?_)
    refine stp hF (p_eql rfl rfl) (by decide) (fun a hF => ?_)
    refine stp hF (p_move rfl) (by decide) (fun a hF => ?_)
    obtain ⟨x34, H, HK1⟩ := hb H
    refine cutj 4 (fun a w => ∃ (x29 : Bool) (s3 : HF) , St e s3 w [pt g1 41 ([(.int .i64 x2.Lsn), (.int .i64 x2.Tx), (.int .i64 x2.Prev), (.int .i64 x2.Kind), (.int .i64 x2.Oid), (.bool x2.Before.Has), (.int .i64 x2.Before.O.Kind), v1, v2, (.bool x2.After.Has), (.int .i64 x2.After.O.Kind), v3, v4, (.int .i64 x2.Next), v5])] ∧ Fr 121 a [(1, (.pointer (some ⟨g1, 0, none⟩))), (15, (.bool x29))] ∧ Sub s2 s3 ∧ impl_RecOk.c10 k x2 x29 = some r) rfl rfl ?_ ?_
    · rcases Bool.eq_false_or_eq_true (decide (x2.Oid = 0)) with hc2 | hc2
      · replace H := hbt hc2 H
        refine gonE (j := 3) hF rfl rfl hc2 ?_
        refine stp hF (p_fldb (o' := 5) rfl fi_41_5 rfl) (by decide) (fun a hF => ?_)
        refine gonE (j := 3) hF rfl rfl hc2 ?_
        refine stp hF (p_ldb_agg (i := 0) (l := [(.int .i64 x2.Lsn), (.int .i64 x2.Tx), (.int .i64 x2.Prev), (.int .i64 x2.Kind), (.int .i64 x2.Oid)]) (m := [(.bool x2.Before.Has), (.int .i64 x2.Before.O.Kind), v1, v2]) (r := [(.bool x2.After.Has), (.int .i64 x2.After.O.Kind), v3, v4, (.int .i64 x2.Next), v5]) hS rfl rfl ia_38 ti_38 rfl rfl rfl) (by decide) (fun a hF => ?_)
        obtain ⟨x33, hx2, H⟩ := hb H
        refine gonE (j := 3) hF rfl rfl hc2 ?_
        refine ste hF (e_callA (fst := []) (vs := [(.agg #[(.bool x2.Before.Has), (.int .i64 x2.Before.O.Kind), v1, v2])]) (cap := []) rfl rfl go_80 (St.call (A := []) (B := [pt g1 41 ([(.int .i64 x2.Lsn), (.int .i64 x2.Tx), (.int .i64 x2.Prev), (.int .i64 x2.Kind), (.int .i64 x2.Oid), (.bool x2.Before.Has), (.int .i64 x2.Before.O.Kind), v1, v2, (.bool x2.After.Has), (.int .i64 x2.After.O.Kind), v3, v4, (.int .i64 x2.Next), v5])]) hS (impl_noSlot.spec k _ _ x2.Before v1 v2 (h1.mono hg1) (h2.mono hg1) _ hx2)) rfl) (by decide) (fun v w a hR hF => ?_)
        obtain ⟨s4, A3, hg2, hS, hR⟩ := hR
        obtain ⟨hv2, rfl⟩ := hR; obtain rfl := hv2.symm
        have hS : St e s4 w [pt g1 41 ([(.int .i64 x2.Lsn), (.int .i64 x2.Tx), (.int .i64 x2.Prev), (.int .i64 x2.Kind), (.int .i64 x2.Oid), (.bool x2.Before.Has), (.int .i64 x2.Before.O.Kind), v1, v2, (.bool x2.After.Has), (.int .i64 x2.After.O.Kind), v3, v4, (.int .i64 x2.Next), v5])] := hS
        refine stp hF (p_pickT rfl hc2 rfl) (by decide) (fun a hF => ?_)
        refine nilN ?_
        refine xn ?_
        obtain rfl := hsm H
        exact ⟨x33, s4, hS, hF.cut ⟨rfl, rfl, trivial⟩, hg2, HK1⟩
      · replace H := hbf hc2 H
        refine gofD (j := 3) hF rfl rfl (by rw [hc2]; decide) (by decide) (fun a hF => ?_)
        refine gofD (j := 3) hF rfl rfl (by rw [hc2]; decide) (by decide) (fun a hF => ?_)
        refine gofD (j := 3) hF rfl rfl (by rw [hc2]; decide) (by decide) (fun a hF => ?_)
        refine stp hF (p_pickF rfl hc2 rfl) (by decide) (fun a hF => ?_)
        refine nilN ?_
        refine xn ?_
        obtain rfl := hsm H
        exact ⟨false, s2, hS, hF.cut ⟨rfl, rfl, trivial⟩, (Sub.refl _), HK1⟩
    · clear H HK1 hS hF
      rintro a w ⟨x29, s3, hS, hF, hg3, H⟩
      unfold impl_RecOk.c10 at H
      refine stp hF (p_move rfl) (by decide) (fun a hF => ?_)
      obtain ⟨x31, H, HK2⟩ := hb H
      refine cutj 4 (fun a w => ∃ (x14 : Bool) (s5 : HF) , St e s5 w [pt g1 41 ([(.int .i64 x2.Lsn), (.int .i64 x2.Tx), (.int .i64 x2.Prev), (.int .i64 x2.Kind), (.int .i64 x2.Oid), (.bool x2.Before.Has), (.int .i64 x2.Before.O.Kind), v1, v2, (.bool x2.After.Has), (.int .i64 x2.After.O.Kind), v3, v4, (.int .i64 x2.Next), v5])] ∧ Fr 121 a [(1, (.pointer (some ⟨g1, 0, none⟩))), (20, (.bool x14))] ∧ Sub s3 s5 ∧ impl_RecOk.c9 k x2 x14 = some r) rfl rfl ?_ ?_
      · rcases Bool.eq_false_or_eq_true (x29) with hc3 | hc3
        · replace H := hbt hc3 H
          refine gonE (j := 8) hF rfl rfl hc3 ?_
          refine stp hF (p_fldb (o' := 9) rfl fi_41_6 rfl) (by decide) (fun a hF => ?_)
          refine gonE (j := 8) hF rfl rfl hc3 ?_
          refine stp hF (p_ldb_agg (i := 0) (l := [(.int .i64 x2.Lsn), (.int .i64 x2.Tx), (.int .i64 x2.Prev), (.int .i64 x2.Kind), (.int .i64 x2.Oid), (.bool x2.Before.Has), (.int .i64 x2.Before.O.Kind), v1, v2]) (m := [(.bool x2.After.Has), (.int .i64 x2.After.O.Kind), v3, v4]) (r := [(.int .i64 x2.Next), v5]) hS rfl rfl ia_38 ti_38 rfl rfl rfl) (by decide) (fun a hF => ?_)
          obtain ⟨x30, hx3, H⟩ := hb H
          refine gonE (j := 8) hF rfl rfl hc3 ?_
          refine ste hF (e_callA (fst := []) (vs := [(.agg #[(.bool x2.After.Has), (.int .i64 x2.After.O.Kind), v3, v4])]) (cap := []) rfl rfl go_80 (St.call (A := []) (B := [pt g1 41 ([(.int .i64 x2.Lsn), (.int .i64 x2.Tx), (.int .i64 x2.Prev), (.int .i64 x2.Kind), (.int .i64 x2.Oid), (.bool x2.Before.Has), (.int .i64 x2.Before.O.Kind), v1, v2, (.bool x2.After.Has), (.int .i64 x2.After.O.Kind), v3, v4, (.int .i64 x2.Next), v5])]) hS (impl_noSlot.spec k _ _ x2.After v3 v4 ((h3.mono hg1).mono hg3) ((h4.mono hg1).mono hg3) _ hx3)) rfl) (by decide) (fun v w a hR hF => ?_)
          obtain ⟨s6, A4, hg4, hS, hR⟩ := hR
          obtain ⟨hv3, rfl⟩ := hR; obtain rfl := hv3.symm
          have hS : St e s6 w [pt g1 41 ([(.int .i64 x2.Lsn), (.int .i64 x2.Tx), (.int .i64 x2.Prev), (.int .i64 x2.Kind), (.int .i64 x2.Oid), (.bool x2.Before.Has), (.int .i64 x2.Before.O.Kind), v1, v2, (.bool x2.After.Has), (.int .i64 x2.After.O.Kind), v3, v4, (.int .i64 x2.Next), v5])] := hS
          refine stp hF (p_pickT rfl hc3 rfl) (by decide) (fun a hF => ?_)
          refine nilN ?_
          refine xn ?_
          obtain rfl := hsm H
          exact ⟨x30, s6, hS, hF.cut ⟨rfl, rfl, trivial⟩, hg4, HK2⟩
        · replace H := hbf hc3 H
          refine gofD (j := 8) hF rfl rfl (by rw [hc3]; decide) (by decide) (fun a hF => ?_)
          refine gofD (j := 8) hF rfl rfl (by rw [hc3]; decide) (by decide) (fun a hF => ?_)
          refine gofD (j := 8) hF rfl rfl (by rw [hc3]; decide) (by decide) (fun a hF => ?_)
          refine stp hF (p_pickF rfl hc3 rfl) (by decide) (fun a hF => ?_)
          refine nilN ?_
          refine xn ?_
          obtain rfl := hsm H
          exact ⟨false, s3, hS, hF.cut ⟨rfl, rfl, trivial⟩, (Sub.refl _), HK2⟩
      · clear H HK2 hS hF
        rintro a w ⟨x14, s5, hS, hF, hg5, H⟩
        unfold impl_RecOk.c9 at H
        refine stp hF (p_assign rfl) (by decide) (fun a hF => ?_)
        refine nilN ?_
        refine xn ?_
        refine sq ?_
        refine sq ?_
        refine rg ?_
        refine stp hF (p_fldb (o' := 3) rfl fi_41_3 rfl) (by decide) (fun a hF => ?_)
        refine stp hF (p_ldb_one (i := 0) hS rfl rfl ia_3 rfl) (by decide) (fun a hF => ?_)
        refine stp hF (p_eql rfl rfl) (by decide) (fun a hF => ?_)
        refine nilN ?_
        refine xn ?_
        refine cnd hF rfl (fun hc4 => ?_) (fun hc4 => ?_)
        · replace H := hbt hc4 H
          refine sq ?_
          refine rg ?_
          refine stp hF (p_fldb (o' := 1) rfl fi_41_1 rfl) (by decide) (fun a hF => ?_)
          refine stp hF (p_ldb_one (i := 0) hS rfl rfl ia_3 rfl) (by decide) (fun a hF => ?_)
          refine stp hF (p_eql rfl rfl) (by decide) (fun a hF => ?_)
          refine stp hF (p_move rfl) (by decide) (fun a hF => ?_)
          refine cutj 4 (fun a w => St e s5 w [pt g1 41 ([(.int .i64 x2.Lsn), (.int .i64 x2.Tx), (.int .i64 x2.Prev), (.int .i64 x2.Kind), (.int .i64 x2.Oid), (.bool x2.Before.Has), (.int .i64 x2.Before.O.Kind), v1, v2, (.bool x2.After.Has), (.int .i64 x2.After.O.Kind), v3, v4, (.int .i64 x2.Next), v5])] ∧ Fr 121 a [(1, (.pointer (some ⟨g1, 0, none⟩))), (3, (.bool x14)), (31, (.bool ((decide (x2.Tx = 0)) && (decide (x2.Prev = 0)))))]) rfl rfl ?_ ?_
          · rcases Bool.eq_false_or_eq_true (decide (x2.Tx = 0)) with hc5 | hc5
            · skip
              refine gonE (j := 3) hF rfl rfl hc5 ?_
              refine stp hF (p_fldb (o' := 2) rfl fi_41_2 rfl) (by decide) (fun a hF => ?_)
              refine gonE (j := 3) hF rfl rfl hc5 ?_
              refine stp hF (p_ldb_one (i := 0) hS rfl rfl ia_3 rfl) (by decide) (fun a hF => ?_)
              refine gonE (j := 3) hF rfl rfl hc5 ?_
              refine stp hF (p_eql rfl rfl) (by decide) (fun a hF => ?_)
              refine stp hF (p_andT rfl hc5 rfl) (by decide) (fun a hF => ?_)
              refine nilN ?_
              refine xn ?_
              exact ⟨hS, hF.cut ⟨rfl, rfl, rfl, trivial⟩⟩
            · skip
              refine gofD (j := 3) hF rfl rfl (by rw [hc5]; decide) (by decide) (fun a hF => ?_)
              refine gofD (j := 3) hF rfl rfl (by rw [hc5]; decide) (by decide) (fun a hF => ?_)
              refine gofD (j := 3) hF rfl rfl (by rw [hc5]; decide) (by decide) (fun a hF => ?_)
              refine stp hF (p_andF (decide (x2.Prev = 0)) rfl hc5 rfl) (by decide) (fun a hF => ?_)
              refine nilN ?_
              refine xn ?_
              exact ⟨hS, hF.cut ⟨rfl, rfl, rfl, trivial⟩⟩
          clear hS hF
          rintro a w ⟨hS, hF⟩
          refine stp hF (p_move rfl) (by decide) (fun a hF => ?_)
          refine cutj 2 (fun a w => St e s5 w [pt g1 41 ([(.int .i64 x2.Lsn), (.int .i64 x2.Tx), (.int .i64 x2.Prev), (.int .i64 x2.Kind), (.int .i64 x2.Oid), (.bool x2.Before.Has), (.int .i64 x2.Before.O.Kind), v1, v2, (.bool x2.After.Has), (.int .i64 x2.After.O.Kind), v3, v4, (.int .i64 x2.Next), v5])] ∧ Fr 121 a [(1, (.pointer (some ⟨g1, 0, none⟩))), (34, (.bool (((decide (x2.Tx = 0)) && (decide (x2.Prev = 0))) && x14)))]) rfl rfl ?_ ?_
          · rcases Bool.eq_false_or_eq_true (((decide (x2.Tx = 0)) && (decide (x2.Prev = 0)))) with hc6 | hc6
            · skip
              refine gonE (j := 8) hF rfl rfl hc6 ?_
              refine stp hF (p_move rfl) (by decide) (fun a hF => ?_)
              refine stp hF (p_andT rfl hc6 rfl) (by decide) (fun a hF => ?_)
              refine nilN ?_
              refine xn ?_
              exact ⟨hS, hF.cut ⟨rfl, rfl, trivial⟩⟩
            · skip
              refine gofD (j := 8) hF rfl rfl (by rw [hc6]; decide) (by decide) (fun a hF => ?_)
              refine stp hF (p_andF x14 rfl hc6 rfl) (by decide) (fun a hF => ?_)
              refine nilN ?_
              refine xn ?_
              exact ⟨hS, hF.cut ⟨rfl, rfl, trivial⟩⟩
          clear hS hF
          rintro a w ⟨hS, hF⟩
          refine stp hF (p_move rfl) (by decide) (fun a hF => ?_)
          refine cutj 4 (fun a w => St e s5 w [pt g1 41 ([(.int .i64 x2.Lsn), (.int .i64 x2.Tx), (.int .i64 x2.Prev), (.int .i64 x2.Kind), (.int .i64 x2.Oid), (.bool x2.Before.Has), (.int .i64 x2.Before.O.Kind), v1, v2, (.bool x2.After.Has), (.int .i64 x2.After.O.Kind), v3, v4, (.int .i64 x2.Next), v5])] ∧ Fr 121 a [(1, (.pointer (some ⟨g1, 0, none⟩))), (39, (.bool ((((decide (x2.Tx = 0)) && (decide (x2.Prev = 0))) && x14) && (decide (x2.Next = 0)))))]) rfl rfl ?_ ?_
          · rcases Bool.eq_false_or_eq_true ((((decide (x2.Tx = 0)) && (decide (x2.Prev = 0))) && x14)) with hc7 | hc7
            · skip
              refine gonE (j := 11) hF rfl rfl hc7 ?_
              refine stp hF (p_fldb (o' := 13) rfl fi_41_7 rfl) (by decide) (fun a hF => ?_)
              refine gonE (j := 11) hF rfl rfl hc7 ?_
              refine stp hF (p_ldb_one (i := 0) hS rfl rfl ia_3 rfl) (by decide) (fun a hF => ?_)
              refine gonE (j := 11) hF rfl rfl hc7 ?_
              refine stp hF (p_eql rfl rfl) (by decide) (fun a hF => ?_)
              refine stp hF (p_andT rfl hc7 rfl) (by decide) (fun a hF => ?_)
              refine nilN ?_
              refine xn ?_
              exact ⟨hS, hF.cut ⟨rfl, rfl, trivial⟩⟩
            · skip
              refine gofD (j := 11) hF rfl rfl (by rw [hc7]; decide) (by decide) (fun a hF => ?_)
              refine gofD (j := 11) hF rfl rfl (by rw [hc7]; decide) (by decide) (fun a hF => ?_)
              refine gofD (j := 11) hF rfl rfl (by rw [hc7]; decide) (by decide) (fun a hF => ?_)
              refine stp hF (p_andF (decide (x2.Next = 0)) rfl hc7 rfl) (by decide) (fun a hF => ?_)
              refine nilN ?_
              refine xn ?_
              exact ⟨hS, hF.cut ⟨rfl, rfl, trivial⟩⟩
          clear hS hF
          rintro a w ⟨hS, hF⟩
          refine stp hF (p_move rfl) (by decide) (fun a hF => ?_)
          obtain ⟨x25, H, HK3⟩ := hb H
          refine cutj 6 (fun a w => ∃ (x1 : Bool) (s7 : HF) , St e s7 w [pt g1 41 ([(.int .i64 x2.Lsn), (.int .i64 x2.Tx), (.int .i64 x2.Prev), (.int .i64 x2.Kind), (.int .i64 x2.Oid), (.bool x2.Before.Has), (.int .i64 x2.Before.O.Kind), v1, v2, (.bool x2.After.Has), (.int .i64 x2.After.O.Kind), v3, v4, (.int .i64 x2.Next), v5])] ∧ Fr 121 a [(46, (.bool x1))] ∧ Sub s5 s7 ∧ impl_RecOk.c1 k x1 = some r) rfl rfl ?_ ?_
          · rcases Bool.eq_false_or_eq_true (((((decide (x2.Tx = 0)) && (decide (x2.Prev = 0))) && x14) && (decide (x2.Next = 0)))) with hc8 | hc8
            · replace H := hbt hc8 H
              refine gonE (j := 16) hF rfl rfl hc8 ?_
              refine stp hF (p_fldb (o' := 14) rfl fi_41_8 rfl) (by decide) (fun a hF => ?_)
              refine gonE (j := 16) hF rfl rfl hc8 ?_
              refine stp hF (p_ldb_one (i := 0) hS rfl rfl ia_39 rfl) (by decide) (fun a hF => ?_)
              refine gonE (j := 16) hF rfl rfl hc8 ?_
              refine stp hF (p_fldb (o' := 0) rfl fi_41_0 rfl) (by decide) (fun a hF => ?_)
              refine gonE (j := 16) hF rfl rfl hc8 ?_
              refine stp hF (p_ldb_one (i := 0) hS rfl rfl ia_3 rfl) (by decide) (fun a hF => ?_)
              obtain ⟨x24, hx4, H⟩ := hb H
              refine gonE (j := 16) hF rfl rfl hc8 ?_
              refine ste hF (e_callA (fst := []) (vs := [v5, (.int .i64 x2.Lsn)]) (cap := []) rfl rfl go_81 (St.call (A := []) (B := [pt g1 41 ([(.int .i64 x2.Lsn), (.int .i64 x2.Tx), (.int .i64 x2.Prev), (.int .i64 x2.Kind), (.int .i64 x2.Oid), (.bool x2.Before.Has), (.int .i64 x2.Before.O.Kind), v1, v2, (.bool x2.After.Has), (.int .i64 x2.After.O.Kind), v3, v4, (.int .i64 x2.Next), v5])]) hS (impl_livesOk.spec k _ _ x2.Txs x2.Lsn v5 (((h5.mono hg1).mono hg3).mono hg5) _ hx4)) rfl) (by decide) (fun v w a hR hF => ?_)
              obtain ⟨s8, A5, hg6, hS, hR⟩ := hR
              obtain ⟨hv4, rfl⟩ := hR; obtain rfl := hv4.symm
              have hS : St e s8 w [pt g1 41 ([(.int .i64 x2.Lsn), (.int .i64 x2.Tx), (.int .i64 x2.Prev), (.int .i64 x2.Kind), (.int .i64 x2.Oid), (.bool x2.Before.Has), (.int .i64 x2.Before.O.Kind), v1, v2, (.bool x2.After.Has), (.int .i64 x2.After.O.Kind), v3, v4, (.int .i64 x2.Next), v5])] := hS
              refine stp hF (p_pickT rfl hc8 rfl) (by decide) (fun a hF => ?_)
              refine nilN ?_
              refine xn ?_
              obtain rfl := hsm H
              exact ⟨x24, s8, hS, hF.cut ⟨rfl, trivial⟩, hg6, HK3⟩
            · replace H := hbf hc8 H
              refine gofD (j := 16) hF rfl rfl (by rw [hc8]; decide) (by decide) (fun a hF => ?_)
              refine gofD (j := 16) hF rfl rfl (by rw [hc8]; decide) (by decide) (fun a hF => ?_)
              refine gofD (j := 16) hF rfl rfl (by rw [hc8]; decide) (by decide) (fun a hF => ?_)
              refine gofD (j := 16) hF rfl rfl (by rw [hc8]; decide) (by decide) (fun a hF => ?_)
              refine gofD (j := 16) hF rfl rfl (by rw [hc8]; decide) (by decide) (fun a hF => ?_)
              refine stp hF (p_pickF rfl hc8 rfl) (by decide) (fun a hF => ?_)
              refine nilN ?_
              refine xn ?_
              obtain rfl := hsm H
              exact ⟨false, s5, hS, hF.cut ⟨rfl, trivial⟩, (Sub.refl _), HK3⟩
          · clear H HK3 hS hF
            rintro a w ⟨x1, s7, hS, hF, hg7, H⟩
            unfold impl_RecOk.c1 at H
            refine stp hF (p_assign rfl) (by decide) (fun a hF => ?_)
            refine nilN ?_
            refine xn ?_
            refine rt ?_
            refine xr ?_
            obtain rfl := hsm H
            replace hS := hS.sel (is := []) (A' := []) rfl
            exact ret1 hF rfl rfl hS ⟨rfl, rfl⟩
        · replace H := hbf hc4 H
          refine skN ?_
          refine xn ?_
          refine sq ?_
          refine sq ?_
          refine rg ?_
          refine stp hF (p_fldb (o' := 1) rfl fi_41_1 rfl) (by decide) (fun a hF => ?_)
          refine stp hF (p_ldb_one (i := 0) hS rfl rfl ia_3 rfl) (by decide) (fun a hF => ?_)
          obtain ⟨x26, hx5, H⟩ := hb H
          refine ste hF (e_callA (fst := []) (vs := [(.int .i64 x2.Tx)]) (cap := []) rfl rfl go_82 (St.call (A := []) (B := [pt g1 41 ([(.int .i64 x2.Lsn), (.int .i64 x2.Tx), (.int .i64 x2.Prev), (.int .i64 x2.Kind), (.int .i64 x2.Oid), (.bool x2.Before.Has), (.int .i64 x2.Before.O.Kind), v1, v2, (.bool x2.After.Has), (.int .i64 x2.After.O.Kind), v3, v4, (.int .i64 x2.Next), v5])]) hS (impl_isTx.spec k _ _ x2.Tx _ hx5)) rfl) (by decide) (fun v w a hR hF => ?_)
          obtain ⟨s9, A6, hg8, hS, hR⟩ := hR
          obtain ⟨hv5, rfl⟩ := hR; obtain rfl := hv5.symm
          have hS : St e s9 w [pt g1 41 ([(.int .i64 x2.Lsn), (.int .i64 x2.Tx), (.int .i64 x2.Prev), (.int .i64 x2.Kind), (.int .i64 x2.Oid), (.bool x2.Before.Has), (.int .i64 x2.Before.O.Kind), v1, v2, (.bool x2.After.Has), (.int .i64 x2.After.O.Kind), v3, v4, (.int .i64 x2.Next), v5])] := hS
          refine stp hF (p_not rfl) (by decide) (fun a hF => ?_)
          refine stp hF (p_move rfl) (by decide) (fun a hF => ?_)
          obtain ⟨x28, H, HK4⟩ := hb H
          refine cutj 8 (fun a w => ∃ (x16 : Bool) (s10 : HF) , St e s10 w [pt g1 41 ([(.int .i64 x2.Lsn), (.int .i64 x2.Tx), (.int .i64 x2.Prev), (.int .i64 x2.Kind), (.int .i64 x2.Oid), (.bool x2.Before.Has), (.int .i64 x2.Before.O.Kind), v1, v2, (.bool x2.After.Has), (.int .i64 x2.After.O.Kind), v3, v4, (.int .i64 x2.Next), v5])] ∧ Fr 121 a [(1, (.pointer (some ⟨g1, 0, none⟩))), (3, (.bool x14)), (59, (.bool x16))] ∧ Sub s9 s10 ∧ impl_RecOk.c8 k x2 x14 x16 = some r) rfl rfl ?_ ?_
          · rcases Bool.eq_false_or_eq_true ((!x26)) with hc9 | hc9
            · replace H := hbt hc9 H
              refine gofD (j := 4) hF rfl rfl (by rw [hc9]; decide) (by decide) (fun a hF => ?_)
              refine gofD (j := 4) hF rfl rfl (by rw [hc9]; decide) (by decide) (fun a hF => ?_)
              refine gofD (j := 4) hF rfl rfl (by rw [hc9]; decide) (by decide) (fun a hF => ?_)
              refine gofD (j := 4) hF rfl rfl (by rw [hc9]; decide) (by decide) (fun a hF => ?_)
              refine gofD (j := 4) hF rfl rfl (by rw [hc9]; decide) (by decide) (fun a hF => ?_)
              refine gofD (j := 4) hF rfl rfl (by rw [hc9]; decide) (by decide) (fun a hF => ?_)
              refine gofD (j := 4) hF rfl rfl (by rw [hc9]; decide) (by decide) (fun a hF => ?_)
              refine stp hF (p_pickT rfl hc9 rfl) (by decide) (fun a hF => ?_)
              refine nilN ?_
              refine xn ?_
              obtain rfl := hsm H
              exact ⟨true, s9, hS, hF.cut ⟨rfl, rfl, rfl, trivial⟩, (Sub.refl _), HK4⟩
            · replace H := hbf hc9 H
              refine gonE (j := 4) hF rfl rfl hc9 ?_
              refine stp hF (p_fldb (o' := 2) rfl fi_41_2 rfl) (by decide) (fun a hF => ?_)
              refine gonE (j := 4) hF rfl rfl hc9 ?_
              refine stp hF (p_ldb_one (i := 0) hS rfl rfl ia_3 rfl) (by decide) (fun a hF => ?_)
              refine gonE (j := 4) hF rfl rfl hc9 ?_
              refine stp hF (p_fldb (o' := 0) rfl fi_41_0 rfl) (by decide) (fun a hF => ?_)
              refine gonE (j := 4) hF rfl rfl hc9 ?_
              refine stp hF (p_ldb_one (i := 0) hS rfl rfl ia_3 rfl) (by decide) (fun a hF => ?_)
              refine gonE (j := 4) hF rfl rfl hc9 ?_
              refine stp hF (p_sub (c := w64 (x2.Lsn - 1)) rfl rfl rfl) (by decide) (fun a hF => ?_)
              obtain ⟨x27, hx6, H⟩ := hb H
              refine gonE (j := 4) hF rfl rfl hc9 ?_
              refine ste hF (e_callA (fst := []) (vs := [(.int .i64 x2.Prev), (.int .i64 0), (.int .i64 (w64 (x2.Lsn - 1)))]) (cap := []) rfl rfl go_79 (St.call (A := []) (B := [pt g1 41 ([(.int .i64 x2.Lsn), (.int .i64 x2.Tx), (.int .i64 x2.Prev), (.int .i64 x2.Kind), (.int .i64 x2.Oid), (.bool x2.Before.Has), (.int .i64 x2.Before.O.Kind), v1, v2, (.bool x2.After.Has), (.int .i64 x2.After.O.Kind), v3, v4, (.int .i64 x2.Next), v5])]) hS (impl_in.spec k _ _ x2.Prev 0 (w64 (x2.Lsn - 1)) _ hx6)) rfl) (by decide) (fun v w a hR hF => ?_)
              obtain ⟨s11, A7, hg9, hS, hR⟩ := hR
              obtain ⟨hv6, rfl⟩ := hR; obtain rfl := hv6.symm
              have hS : St e s11 w [pt g1 41 ([(.int .i64 x2.Lsn), (.int .i64 x2.Tx), (.int .i64 x2.Prev), (.int .i64 x2.Kind), (.int .i64 x2.Oid), (.bool x2.Before.Has), (.int .i64 x2.Before.O.Kind), v1, v2, (.bool x2.After.Has), (.int .i64 x2.After.O.Kind), v3, v4, (.int .i64 x2.Next), v5])] := hS
              refine gonE (j := 4) hF rfl rfl hc9 ?_
              refine stp hF (p_not rfl) (by decide) (fun a hF => ?_)
              refine stp hF (p_pickF rfl hc9 rfl) (by decide) (fun a hF => ?_)
              refine nilN ?_
              refine xn ?_
              obtain rfl := hsm H
              exact ⟨(!x27), s11, hS, hF.cut ⟨rfl, rfl, rfl, trivial⟩, hg9, HK4⟩
          · clear H HK4 hS hF
            rintro a w ⟨x16, s10, hS, hF, hg10, H⟩
            unfold impl_RecOk.c8 at H
            refine stp hF (p_move rfl) (by decide) (fun a hF => ?_)
            refine cutj 5 (fun a w => St e s10 w [pt g1 41 ([(.int .i64 x2.Lsn), (.int .i64 x2.Tx), (.int .i64 x2.Prev), (.int .i64 x2.Kind), (.int .i64 x2.Oid), (.bool x2.Before.Has), (.int .i64 x2.Before.O.Kind), v1, v2, (.bool x2.After.Has), (.int .i64 x2.After.O.Kind), v3, v4, (.int .i64 x2.Next), v5])] ∧ Fr 121 a [(1, (.pointer (some ⟨g1, 0, none⟩))), (3, (.bool x14)), (65, (.bool (x16 || (decide (0 < (x2.Txs.length : Int))))))]) rfl rfl ?_ ?_
            · rcases Bool.eq_false_or_eq_true (x16) with hc10 | hc10
              · skip
                refine gofD (j := 13) hF rfl rfl (by rw [hc10]; decide) (by decide) (fun a hF => ?_)
                refine gofD (j := 13) hF rfl rfl (by rw [hc10]; decide) (by decide) (fun a hF => ?_)
                refine gofD (j := 13) hF rfl rfl (by rw [hc10]; decide) (by decide) (fun a hF => ?_)
                refine gofD (j := 13) hF rfl rfl (by rw [hc10]; decide) (by decide) (fun a hF => ?_)
                refine stp hF (p_orT (decide (0 < (x2.Txs.length : Int))) rfl hc10 rfl) (by decide) (fun a hF => ?_)
                refine nilN ?_
                refine xn ?_
                exact ⟨hS, hF.cut ⟨rfl, rfl, rfl, trivial⟩⟩
              · skip
                refine gonE (j := 13) hF rfl rfl hc10 ?_
                refine stp hF (p_fldb (o' := 14) rfl fi_41_8 rfl) (by decide) (fun a hF => ?_)
                refine gonE (j := 13) hF rfl rfl hc10 ?_
                refine stp hF (p_ldb_one (i := 0) hS rfl rfl ia_39 rfl) (by decide) (fun a hF => ?_)
                refine gonE (j := 13) hF rfl rfl hc10 ?_
                refine stp hF (p_lenr un_39 rfl (((((h5.mono hg1).mono hg3).mono hg5).mono hg8).mono hg10)) (by decide) (fun a hF => ?_)
                refine gonE (j := 13) hF rfl rfl hc10 ?_
                refine stp hF (p_gtr rfl rfl) (by decide) (fun a hF => ?_)
                refine stp hF (p_orF rfl hc10 rfl) (by decide) (fun a hF => ?_)
                refine nilN ?_
                refine xn ?_
                exact ⟨hS, hF.cut ⟨rfl, rfl, rfl, trivial⟩⟩
            clear hS hF
            rintro a w ⟨hS, hF⟩
            refine nilN ?_
            refine xn ?_
            refine cnd hF rfl (fun hc11 => ?_) (fun hc11 => ?_)
            · replace H := hbt hc11 H
              refine sq ?_
              refine rg ?_
              refine stp hF (p_assign rfl) (by decide) (fun a hF => ?_)
              refine nilN ?_
              refine xn ?_
              refine rt ?_
              refine xr ?_
              obtain rfl := hsm H
              replace hS := hS.sel (is := []) (A' := []) rfl
              exact ret1 hF rfl rfl hS ⟨rfl, rfl⟩
            · replace H := hbf hc11 H
              refine skN ?_
              refine xn ?_
              refine sq ?_
              refine sq ?_
              refine rg ?_
              refine stp hF (p_fldb (o' := 3) rfl fi_41_3 rfl) (by decide) (fun a hF => ?_)
              refine stp hF (p_ldb_one (i := 0) hS rfl rfl ia_3 rfl) (by decide) (fun a hF => ?_)
              refine nilN ?_
              refine xn ?_
              refine blk ?_
              refine sq ?_
              refine rg ?_
              refine stp hF (p_eql rfl rfl) (by decide) (fun a hF => ?_)
              refine stp hF (p_assign rfl) (by decide) (fun a hF => ?_)
              refine nilN ?_
              refine xn ?_
              refine cnd hF rfl (fun hc12 => ?_) (fun hc12 => ?_)
              · replace H := hbt hc12 H
                refine sq ?_
                refine rg ?_
                refine stp hF (p_fldb (o' := 4) rfl fi_41_4 rfl) (by decide) (fun a hF => ?_)
                refine stp hF (p_ldb_one (i := 0) hS rfl rfl ia_3 rfl) (by decide) (fun a hF => ?_)
                obtain ⟨x17, hx7, H⟩ := hb H
                refine ste hF (e_callA (fst := []) (vs := [(.int .i64 x2.Oid)]) (cap := []) rfl rfl go_83 (St.call (A := []) (B := [pt g1 41 ([(.int .i64 x2.Lsn), (.int .i64 x2.Tx), (.int .i64 x2.Prev), (.int .i64 x2.Kind), (.int .i64 x2.Oid), (.bool x2.Before.Has), (.int .i64 x2.Before.O.Kind), v1, v2, (.bool x2.After.Has), (.int .i64 x2.After.O.Kind), v3, v4, (.int .i64 x2.Next), v5])]) hS (impl_isOid.spec k _ _ x2.Oid _ hx7)) rfl) (by decide) (fun v w a hR hF => ?_)
                obtain ⟨s12, A8, hg11, hS, hR⟩ := hR
                obtain ⟨hv7, rfl⟩ := hR; obtain rfl := hv7.symm
                have hS : St e s12 w [pt g1 41 ([(.int .i64 x2.Lsn), (.int .i64 x2.Tx), (.int .i64 x2.Prev), (.int .i64 x2.Kind), (.int .i64 x2.Oid), (.bool x2.Before.Has), (.int .i64 x2.Before.O.Kind), v1, v2, (.bool x2.After.Has), (.int .i64 x2.After.O.Kind), v3, v4, (.int .i64 x2.Next), v5])] := hS
                refine stp hF (p_move rfl) (by decide) (fun a hF => ?_)
                obtain ⟨x19, H, HK5⟩ := hb H
                refine cutj 4 (fun a w => ∃ (x4 : Bool) (s13 : HF) , St e s13 w [pt g1 41 ([(.int .i64 x2.Lsn), (.int .i64 x2.Tx), (.int .i64 x2.Prev), (.int .i64 x2.Kind), (.int .i64 x2.Oid), (.bool x2.Before.Has), (.int .i64 x2.Before.O.Kind), v1, v2, (.bool x2.After.Has), (.int .i64 x2.After.O.Kind), v3, v4, (.int .i64 x2.Next), v5])] ∧ Fr 121 a [(1, (.pointer (some ⟨g1, 0, none⟩))), (77, (.bool x4))] ∧ Sub s12 s13 ∧ impl_RecOk.c3 k x2 x4 = some r) rfl rfl ?_ ?_
                · rcases Bool.eq_false_or_eq_true (x17) with hc13 | hc13
                  · replace H := hbt hc13 H
                    refine gonE (j := 3) hF rfl rfl hc13 ?_
                    refine stp hF (p_fldb (o' := 5) rfl fi_41_5 rfl) (by decide) (fun a hF => ?_)
                    refine gonE (j := 3) hF rfl rfl hc13 ?_
                    refine stp hF (p_ldb_agg (i := 0) (l := [(.int .i64 x2.Lsn), (.int .i64 x2.Tx), (.int .i64 x2.Prev), (.int .i64 x2.Kind), (.int .i64 x2.Oid)]) (m := [(.bool x2.Before.Has), (.int .i64 x2.Before.O.Kind), v1, v2]) (r := [(.bool x2.After.Has), (.int .i64 x2.After.O.Kind), v3, v4, (.int .i64 x2.Next), v5]) hS rfl rfl ia_38 ti_38 rfl rfl rfl) (by decide) (fun a hF => ?_)
                    obtain ⟨x18, hx8, H⟩ := hb H
                    refine gonE (j := 3) hF rfl rfl hc13 ?_
                    refine ste hF (e_callA (fst := []) (vs := [(.agg #[(.bool x2.Before.Has), (.int .i64 x2.Before.O.Kind), v1, v2])]) (cap := []) rfl rfl go_84 (St.call (A := []) (B := [pt g1 41 ([(.int .i64 x2.Lsn), (.int .i64 x2.Tx), (.int .i64 x2.Prev), (.int .i64 x2.Kind), (.int .i64 x2.Oid), (.bool x2.Before.Has), (.int .i64 x2.Before.O.Kind), v1, v2, (.bool x2.After.Has), (.int .i64 x2.After.O.Kind), v3, v4, (.int .i64 x2.Next), v5])]) hS (impl_slotOk.spec k _ _ x2.Before v1 v2 ((((((h1.mono hg1).mono hg3).mono hg5).mono hg8).mono hg10).mono hg11) ((((((h2.mono hg1).mono hg3).mono hg5).mono hg8).mono hg10).mono hg11) _ hx8)) rfl) (by decide) (fun v w a hR hF => ?_)
                    obtain ⟨s14, A9, hg12, hS, hR⟩ := hR
                    obtain ⟨hv8, rfl⟩ := hR; obtain rfl := hv8.symm
                    have hS : St e s14 w [pt g1 41 ([(.int .i64 x2.Lsn), (.int .i64 x2.Tx), (.int .i64 x2.Prev), (.int .i64 x2.Kind), (.int .i64 x2.Oid), (.bool x2.Before.Has), (.int .i64 x2.Before.O.Kind), v1, v2, (.bool x2.After.Has), (.int .i64 x2.After.O.Kind), v3, v4, (.int .i64 x2.Next), v5])] := hS
                    refine stp hF (p_pickT rfl hc13 rfl) (by decide) (fun a hF => ?_)
                    refine nilN ?_
                    refine xn ?_
                    obtain rfl := hsm H
                    exact ⟨x18, s14, hS, hF.cut ⟨rfl, rfl, trivial⟩, hg12, HK5⟩
                  · replace H := hbf hc13 H
                    refine gofD (j := 3) hF rfl rfl (by rw [hc13]; decide) (by decide) (fun a hF => ?_)
                    refine gofD (j := 3) hF rfl rfl (by rw [hc13]; decide) (by decide) (fun a hF => ?_)
                    refine gofD (j := 3) hF rfl rfl (by rw [hc13]; decide) (by decide) (fun a hF => ?_)
                    refine stp hF (p_pickF rfl hc13 rfl) (by decide) (fun a hF => ?_)
                    refine nilN ?_
                    refine xn ?_
                    obtain rfl := hsm H
                    exact ⟨false, s12, hS, hF.cut ⟨rfl, rfl, trivial⟩, (Sub.refl _), HK5⟩
                · clear H HK5 hS hF
                  rintro a w ⟨x4, s13, hS, hF, hg13, H⟩
                  unfold impl_RecOk.c3 at H
                  refine stp hF (p_move rfl) (by decide) (fun a hF => ?_)
                  obtain ⟨x6, H, HK6⟩ := hb H
                  refine cutj 4 (fun a w => ∃ (x3 : Bool) (s15 : HF) , St e s15 w [pt g1 41 ([(.int .i64 x2.Lsn), (.int .i64 x2.Tx), (.int .i64 x2.Prev), (.int .i64 x2.Kind), (.int .i64 x2.Oid), (.bool x2.Before.Has), (.int .i64 x2.Before.O.Kind), v1, v2, (.bool x2.After.Has), (.int .i64 x2.After.O.Kind), v3, v4, (.int .i64 x2.Next), v5])] ∧ Fr 121 a [(1, (.pointer (some ⟨g1, 0, none⟩))), (82, (.bool x3))] ∧ Sub s13 s15 ∧ impl_RecOk.c2 k x2 x3 = some r) rfl rfl ?_ ?_
                  · rcases Bool.eq_false_or_eq_true (x4) with hc14 | hc14
                    · replace H := hbt hc14 H
                      refine gonE (j := 8) hF rfl rfl hc14 ?_
                      refine stp hF (p_fldb (o' := 9) rfl fi_41_6 rfl) (by decide) (fun a hF => ?_)
                      refine gonE (j := 8) hF rfl rfl hc14 ?_
                      refine stp hF (p_ldb_agg (i := 0) (l := [(.int .i64 x2.Lsn), (.int .i64 x2.Tx), (.int .i64 x2.Prev), (.int .i64 x2.Kind), (.int .i64 x2.Oid), (.bool x2.Before.Has), (.int .i64 x2.Before.O.Kind), v1, v2]) (m := [(.bool x2.After.Has), (.int .i64 x2.After.O.Kind), v3, v4]) (r := [(.int .i64 x2.Next), v5]) hS rfl rfl ia_38 ti_38 rfl rfl rfl) (by decide) (fun a hF => ?_)
                      obtain ⟨x5, hx9, H⟩ := hb H
                      refine gonE (j := 8) hF rfl rfl hc14 ?_
                      refine ste hF (e_callA (fst := []) (vs := [(.agg #[(.bool x2.After.Has), (.int .i64 x2.After.O.Kind), v3, v4])]) (cap := []) rfl rfl go_84 (St.call (A := []) (B := [pt g1 41 ([(.int .i64 x2.Lsn), (.int .i64 x2.Tx), (.int .i64 x2.Prev), (.int .i64 x2.Kind), (.int .i64 x2.Oid), (.bool x2.Before.Has), (.int .i64 x2.Before.O.Kind), v1, v2, (.bool x2.After.Has), (.int .i64 x2.After.O.Kind), v3, v4, (.int .i64 x2.Next), v5])]) hS (impl_slotOk.spec k _ _ x2.After v3 v4 (((((((h3.mono hg1).mono hg3).mono hg5).mono hg8).mono hg10).mono hg11).mono hg13) (((((((h4.mono hg1).mono hg3).mono hg5).mono hg8).mono hg10).mono hg11).mono hg13) _ hx9)) rfl) (by decide) (fun v w a hR hF => ?_)
                      obtain ⟨s16, A10, hg14, hS, hR⟩ := hR
                      obtain ⟨hv9, rfl⟩ := hR; obtain rfl := hv9.symm
                      have hS : St e s16 w [pt g1 41 ([(.int .i64 x2.Lsn), (.int .i64 x2.Tx), (.int .i64 x2.Prev), (.int .i64 x2.Kind), (.int .i64 x2.Oid), (.bool x2.Before.Has), (.int .i64 x2.Before.O.Kind), v1, v2, (.bool x2.After.Has), (.int .i64 x2.After.O.Kind), v3, v4, (.int .i64 x2.Next), v5])] := hS
                      refine stp hF (p_pickT rfl hc14 rfl) (by decide) (fun a hF => ?_)
                      refine nilN ?_
                      refine xn ?_
                      obtain rfl := hsm H
                      exact ⟨x5, s16, hS, hF.cut ⟨rfl, rfl, trivial⟩, hg14, HK6⟩
                    · replace H := hbf hc14 H
                      refine gofD (j := 8) hF rfl rfl (by rw [hc14]; decide) (by decide) (fun a hF => ?_)
                      refine gofD (j := 8) hF rfl rfl (by rw [hc14]; decide) (by decide) (fun a hF => ?_)
                      refine gofD (j := 8) hF rfl rfl (by rw [hc14]; decide) (by decide) (fun a hF => ?_)
                      refine stp hF (p_pickF rfl hc14 rfl) (by decide) (fun a hF => ?_)
                      refine nilN ?_
                      refine xn ?_
                      obtain rfl := hsm H
                      exact ⟨false, s13, hS, hF.cut ⟨rfl, rfl, trivial⟩, (Sub.refl _), HK6⟩
                  · clear H HK6 hS hF
                    rintro a w ⟨x3, s15, hS, hF, hg15, H⟩
                    unfold impl_RecOk.c2 at H
                    refine stp hF (p_move rfl) (by decide) (fun a hF => ?_)
                    refine cutj 4 (fun a w => St e s15 w [pt g1 41 ([(.int .i64 x2.Lsn), (.int .i64 x2.Tx), (.int .i64 x2.Prev), (.int .i64 x2.Kind), (.int .i64 x2.Oid), (.bool x2.Before.Has), (.int .i64 x2.Before.O.Kind), v1, v2, (.bool x2.After.Has), (.int .i64 x2.After.O.Kind), v3, v4, (.int .i64 x2.Next), v5])] ∧ Fr 121 a [(87, (.bool (x3 && (decide (x2.Next = 0)))))]) rfl rfl ?_ ?_
                    · rcases Bool.eq_false_or_eq_true (x3) with hc15 | hc15
                      · skip
                        refine gonE (j := 13) hF rfl rfl hc15 ?_
                        refine stp hF (p_fldb (o' := 13) rfl fi_41_7 rfl) (by decide) (fun a hF => ?_)
                        refine gonE (j := 13) hF rfl rfl hc15 ?_
                        refine stp hF (p_ldb_one (i := 0) hS rfl rfl ia_3 rfl) (by decide) (fun a hF => ?_)
                        refine gonE (j := 13) hF rfl rfl hc15 ?_
                        refine stp hF (p_eql rfl rfl) (by decide) (fun a hF => ?_)
                        refine stp hF (p_andT rfl hc15 rfl) (by decide) (fun a hF => ?_)
                        refine nilN ?_
                        refine xn ?_
                        exact ⟨hS, hF.cut ⟨rfl, trivial⟩⟩
                      · skip
                        refine gofD (j := 13) hF rfl rfl (by rw [hc15]; decide) (by decide) (fun a hF => ?_)
                        refine gofD (j := 13) hF rfl rfl (by rw [hc15]; decide) (by decide) (fun a hF => ?_)
                        refine gofD (j := 13) hF rfl rfl (by rw [hc15]; decide) (by decide) (fun a hF => ?_)
                        refine stp hF (p_andF (decide (x2.Next = 0)) rfl hc15 rfl) (by decide) (fun a hF => ?_)
                        refine nilN ?_
                        refine xn ?_
                        exact ⟨hS, hF.cut ⟨rfl, trivial⟩⟩
                    clear hS hF
                    rintro a w ⟨hS, hF⟩
                    refine stp hF (p_assign rfl) (by decide) (fun a hF => ?_)
                    refine nilN ?_
                    refine xn ?_
                    refine rt ?_
                    refine br (xr ?_)
                    obtain rfl := hsm H
                    replace hS := hS.sel (is := []) (A' := []) rfl
                    exact ret1 hF rfl rfl hS ⟨rfl, rfl⟩
              · replace H := hbf hc12 H
                refine sq ?_
                refine rg ?_
                refine stp hF (p_eql rfl rfl) (by decide) (fun a hF => ?_)
                refine stp hF (p_assign rfl) (by decide) (fun a hF => ?_)
                refine nilN ?_
                refine xn ?_
                refine cnd hF rfl (fun hc16 => ?_) (fun hc16 => ?_)
                · replace H := hbt hc16 H
                  refine sq ?_
                  refine rg ?_
                  refine stp hF (p_fldb (o' := 4) rfl fi_41_4 rfl) (by decide) (fun a hF => ?_)
                  refine stp hF (p_ldb_one (i := 0) hS rfl rfl ia_3 rfl) (by decide) (fun a hF => ?_)
                  obtain ⟨x20, hx10, H⟩ := hb H
                  refine ste hF (e_callA (fst := []) (vs := [(.int .i64 x2.Oid)]) (cap := []) rfl rfl go_83 (St.call (A := []) (B := [pt g1 41 ([(.int .i64 x2.Lsn), (.int .i64 x2.Tx), (.int .i64 x2.Prev), (.int .i64 x2.Kind), (.int .i64 x2.Oid), (.bool x2.Before.Has), (.int .i64 x2.Before.O.Kind), v1, v2, (.bool x2.After.Has), (.int .i64 x2.After.O.Kind), v3, v4, (.int .i64 x2.Next), v5])]) hS (impl_isOid.spec k _ _ x2.Oid _ hx10)) rfl) (by decide) (fun v w a hR hF => ?_)
                  obtain ⟨s17, A11, hg16, hS, hR⟩ := hR
                  obtain ⟨hv10, rfl⟩ := hR; obtain rfl := hv10.symm
                  have hS : St e s17 w [pt g1 41 ([(.int .i64 x2.Lsn), (.int .i64 x2.Tx), (.int .i64 x2.Prev), (.int .i64 x2.Kind), (.int .i64 x2.Oid), (.bool x2.Before.Has), (.int .i64 x2.Before.O.Kind), v1, v2, (.bool x2.After.Has), (.int .i64 x2.After.O.Kind), v3, v4, (.int .i64 x2.Next), v5])] := hS
                  refine stp hF (p_move rfl) (by decide) (fun a hF => ?_)
                  obtain ⟨x22, H, HK7⟩ := hb H
                  refine cutj 4 (fun a w => ∃ (x11 : Bool) (s18 : HF) , St e s18 w [pt g1 41 ([(.int .i64 x2.Lsn), (.int .i64 x2.Tx), (.int .i64 x2.Prev), (.int .i64 x2.Kind), (.int .i64 x2.Oid), (.bool x2.Before.Has), (.int .i64 x2.Before.O.Kind), v1, v2, (.bool x2.After.Has), (.int .i64 x2.After.O.Kind), v3, v4, (.int .i64 x2.Next), v5])] ∧ Fr 121 a [(1, (.pointer (some ⟨g1, 0, none⟩))), (97, (.bool x11))] ∧ Sub s17 s18 ∧ impl_RecOk.c6 k x2 x11 = some r) rfl rfl ?_ ?_
                  · rcases Bool.eq_false_or_eq_true (x20) with hc17 | hc17
                    · replace H := hbt hc17 H
                      refine gonE (j := 3) hF rfl rfl hc17 ?_
                      refine stp hF (p_fldb (o' := 5) rfl fi_41_5 rfl) (by decide) (fun a hF => ?_)
                      refine gonE (j := 3) hF rfl rfl hc17 ?_
                      refine stp hF (p_ldb_agg (i := 0) (l := [(.int .i64 x2.Lsn), (.int .i64 x2.Tx), (.int .i64 x2.Prev), (.int .i64 x2.Kind), (.int .i64 x2.Oid)]) (m := [(.bool x2.Before.Has), (.int .i64 x2.Before.O.Kind), v1, v2]) (r := [(.bool x2.After.Has), (.int .i64 x2.After.O.Kind), v3, v4, (.int .i64 x2.Next), v5]) hS rfl rfl ia_38 ti_38 rfl rfl rfl) (by decide) (fun a hF => ?_)
                      obtain ⟨x21, hx11, H⟩ := hb H
                      refine gonE (j := 3) hF rfl rfl hc17 ?_
                      refine ste hF (e_callA (fst := []) (vs := [(.agg #[(.bool x2.Before.Has), (.int .i64 x2.Before.O.Kind), v1, v2])]) (cap := []) rfl rfl go_80 (St.call (A := []) (B := [pt g1 41 ([(.int .i64 x2.Lsn), (.int .i64 x2.Tx), (.int .i64 x2.Prev), (.int .i64 x2.Kind), (.int .i64 x2.Oid), (.bool x2.Before.Has), (.int .i64 x2.Before.O.Kind), v1, v2, (.bool x2.After.Has), (.int .i64 x2.After.O.Kind), v3, v4, (.int .i64 x2.Next), v5])]) hS (impl_noSlot.spec k _ _ x2.Before v1 v2 ((((((h1.mono hg1).mono hg3).mono hg5).mono hg8).mono hg10).mono hg16) ((((((h2.mono hg1).mono hg3).mono hg5).mono hg8).mono hg10).mono hg16) _ hx11)) rfl) (by decide) (fun v w a hR hF => ?_)
                      obtain ⟨s19, A12, hg17, hS, hR⟩ := hR
                      obtain ⟨hv11, rfl⟩ := hR; obtain rfl := hv11.symm
                      have hS : St e s19 w [pt g1 41 ([(.int .i64 x2.Lsn), (.int .i64 x2.Tx), (.int .i64 x2.Prev), (.int .i64 x2.Kind), (.int .i64 x2.Oid), (.bool x2.Before.Has), (.int .i64 x2.Before.O.Kind), v1, v2, (.bool x2.After.Has), (.int .i64 x2.After.O.Kind), v3, v4, (.int .i64 x2.Next), v5])] := hS
                      refine stp hF (p_pickT rfl hc17 rfl) (by decide) (fun a hF => ?_)
                      refine nilN ?_
                      refine xn ?_
                      obtain rfl := hsm H
                      exact ⟨x21, s19, hS, hF.cut ⟨rfl, rfl, trivial⟩, hg17, HK7⟩
                    · replace H := hbf hc17 H
                      refine gofD (j := 3) hF rfl rfl (by rw [hc17]; decide) (by decide) (fun a hF => ?_)
                      refine gofD (j := 3) hF rfl rfl (by rw [hc17]; decide) (by decide) (fun a hF => ?_)
                      refine gofD (j := 3) hF rfl rfl (by rw [hc17]; decide) (by decide) (fun a hF => ?_)
                      refine stp hF (p_pickF rfl hc17 rfl) (by decide) (fun a hF => ?_)
                      refine nilN ?_
                      refine xn ?_
                      obtain rfl := hsm H
                      exact ⟨false, s17, hS, hF.cut ⟨rfl, rfl, trivial⟩, (Sub.refl _), HK7⟩
                  · clear H HK7 hS hF
                    rintro a w ⟨x11, s18, hS, hF, hg18, H⟩
                    unfold impl_RecOk.c6 at H
                    refine stp hF (p_move rfl) (by decide) (fun a hF => ?_)
                    obtain ⟨x13, H, HK8⟩ := hb H
                    refine cutj 4 (fun a w => ∃ (x8 : Bool) (s20 : HF) , St e s20 w [pt g1 41 ([(.int .i64 x2.Lsn), (.int .i64 x2.Tx), (.int .i64 x2.Prev), (.int .i64 x2.Kind), (.int .i64 x2.Oid), (.bool x2.Before.Has), (.int .i64 x2.Before.O.Kind), v1, v2, (.bool x2.After.Has), (.int .i64 x2.After.O.Kind), v3, v4, (.int .i64 x2.Next), v5])] ∧ Fr 121 a [(1, (.pointer (some ⟨g1, 0, none⟩))), (102, (.bool x8))] ∧ Sub s18 s20 ∧ impl_RecOk.c5 k x2 x8 = some r) rfl rfl ?_ ?_
                    · rcases Bool.eq_false_or_eq_true (x11) with hc18 | hc18
                      · replace H := hbt hc18 H
                        refine gonE (j := 8) hF rfl rfl hc18 ?_
                        refine stp hF (p_fldb (o' := 9) rfl fi_41_6 rfl) (by decide) (fun a hF => ?_)
                        refine gonE (j := 8) hF rfl rfl hc18 ?_
                        refine stp hF (p_ldb_agg (i := 0) (l := [(.int .i64 x2.Lsn), (.int .i64 x2.Tx), (.int .i64 x2.Prev), (.int .i64 x2.Kind), (.int .i64 x2.Oid), (.bool x2.Before.Has), (.int .i64 x2.Before.O.Kind), v1, v2]) (m := [(.bool x2.After.Has), (.int .i64 x2.After.O.Kind), v3, v4]) (r := [(.int .i64 x2.Next), v5]) hS rfl rfl ia_38 ti_38 rfl rfl rfl) (by decide) (fun a hF => ?_)
                        obtain ⟨x12, hx12, H⟩ := hb H
                        refine gonE (j := 8) hF rfl rfl hc18 ?_
                        refine ste hF (e_callA (fst := []) (vs := [(.agg #[(.bool x2.After.Has), (.int .i64 x2.After.O.Kind), v3, v4])]) (cap := []) rfl rfl go_84 (St.call (A := []) (B := [pt g1 41 ([(.int .i64 x2.Lsn), (.int .i64 x2.Tx), (.int .i64 x2.Prev), (.int .i64 x2.Kind), (.int .i64 x2.Oid), (.bool x2.Before.Has), (.int .i64 x2.Before.O.Kind), v1, v2, (.bool x2.After.Has), (.int .i64 x2.After.O.Kind), v3, v4, (.int .i64 x2.Next), v5])]) hS (impl_slotOk.spec k _ _ x2.After v3 v4 (((((((h3.mono hg1).mono hg3).mono hg5).mono hg8).mono hg10).mono hg16).mono hg18) (((((((h4.mono hg1).mono hg3).mono hg5).mono hg8).mono hg10).mono hg16).mono hg18) _ hx12)) rfl) (by decide) (fun v w a hR hF => ?_)
                        obtain ⟨s21, A13, hg19, hS, hR⟩ := hR
                        obtain ⟨hv12, rfl⟩ := hR; obtain rfl := hv12.symm
                        have hS : St e s21 w [pt g1 41 ([(.int .i64 x2.Lsn), (.int .i64 x2.Tx), (.int .i64 x2.Prev), (.int .i64 x2.Kind), (.int .i64 x2.Oid), (.bool x2.Before.Has), (.int .i64 x2.Before.O.Kind), v1, v2, (.bool x2.After.Has), (.int .i64 x2.After.O.Kind), v3, v4, (.int .i64 x2.Next), v5])] := hS
                        refine stp hF (p_pickT rfl hc18 rfl) (by decide) (fun a hF => ?_)
                        refine nilN ?_
                        refine xn ?_
                        obtain rfl := hsm H
                        exact ⟨x12, s21, hS, hF.cut ⟨rfl, rfl, trivial⟩, hg19, HK8⟩
                      · replace H := hbf hc18 H
                        refine gofD (j := 8) hF rfl rfl (by rw [hc18]; decide) (by decide) (fun a hF => ?_)
                        refine gofD (j := 8) hF rfl rfl (by rw [hc18]; decide) (by decide) (fun a hF => ?_)
                        refine gofD (j := 8) hF rfl rfl (by rw [hc18]; decide) (by decide) (fun a hF => ?_)
                        refine stp hF (p_pickF rfl hc18 rfl) (by decide) (fun a hF => ?_)
                        refine nilN ?_
                        refine xn ?_
                        obtain rfl := hsm H
                        exact ⟨false, s18, hS, hF.cut ⟨rfl, rfl, trivial⟩, (Sub.refl _), HK8⟩
                    · clear H HK8 hS hF
                      rintro a w ⟨x8, s20, hS, hF, hg20, H⟩
                      unfold impl_RecOk.c5 at H
                      refine stp hF (p_move rfl) (by decide) (fun a hF => ?_)
                      obtain ⟨x10, H, HK9⟩ := hb H
                      refine cutj 7 (fun a w => ∃ (x7 : Bool) (s22 : HF) , St e s22 w [pt g1 41 ([(.int .i64 x2.Lsn), (.int .i64 x2.Tx), (.int .i64 x2.Prev), (.int .i64 x2.Kind), (.int .i64 x2.Oid), (.bool x2.Before.Has), (.int .i64 x2.Before.O.Kind), v1, v2, (.bool x2.After.Has), (.int .i64 x2.After.O.Kind), v3, v4, (.int .i64 x2.Next), v5])] ∧ Fr 121 a [(110, (.bool x7))] ∧ Sub s20 s22 ∧ impl_RecOk.c4 k x7 = some r) rfl rfl ?_ ?_
                      · rcases Bool.eq_false_or_eq_true (x8) with hc19 | hc19
                        · replace H := hbt hc19 H
                          refine gonE (j := 13) hF rfl rfl hc19 ?_
                          refine stp hF (p_fldb (o' := 13) rfl fi_41_7 rfl) (by decide) (fun a hF => ?_)
                          refine gonE (j := 13) hF rfl rfl hc19 ?_
                          refine stp hF (p_ldb_one (i := 0) hS rfl rfl ia_3 rfl) (by decide) (fun a hF => ?_)
                          refine gonE (j := 13) hF rfl rfl hc19 ?_
                          refine stp hF (p_fldb (o' := 0) rfl fi_41_0 rfl) (by decide) (fun a hF => ?_)
                          refine gonE (j := 13) hF rfl rfl hc19 ?_
                          refine stp hF (p_ldb_one (i := 0) hS rfl rfl ia_3 rfl) (by decide) (fun a hF => ?_)
                          refine gonE (j := 13) hF rfl rfl hc19 ?_
                          refine stp hF (p_sub (c := w64 (x2.Lsn - 1)) rfl rfl rfl) (by decide) (fun a hF => ?_)
                          obtain ⟨x9, hx13, H⟩ := hb H
                          refine gonE (j := 13) hF rfl rfl hc19 ?_
                          refine ste hF (e_callA (fst := []) (vs := [(.int .i64 x2.Next), (.int .i64 0), (.int .i64 (w64 (x2.Lsn - 1)))]) (cap := []) rfl rfl go_79 (St.call (A := []) (B := [pt g1 41 ([(.int .i64 x2.Lsn), (.int .i64 x2.Tx), (.int .i64 x2.Prev), (.int .i64 x2.Kind), (.int .i64 x2.Oid), (.bool x2.Before.Has), (.int .i64 x2.Before.O.Kind), v1, v2, (.bool x2.After.Has), (.int .i64 x2.After.O.Kind), v3, v4, (.int .i64 x2.Next), v5])]) hS (impl_in.spec k _ _ x2.Next 0 (w64 (x2.Lsn - 1)) _ hx13)) rfl) (by decide) (fun v w a hR hF => ?_)
                          obtain ⟨s23, A14, hg21, hS, hR⟩ := hR
                          obtain ⟨hv13, rfl⟩ := hR; obtain rfl := hv13.symm
                          have hS : St e s23 w [pt g1 41 ([(.int .i64 x2.Lsn), (.int .i64 x2.Tx), (.int .i64 x2.Prev), (.int .i64 x2.Kind), (.int .i64 x2.Oid), (.bool x2.Before.Has), (.int .i64 x2.Before.O.Kind), v1, v2, (.bool x2.After.Has), (.int .i64 x2.After.O.Kind), v3, v4, (.int .i64 x2.Next), v5])] := hS
                          refine stp hF (p_pickT rfl hc19 rfl) (by decide) (fun a hF => ?_)
                          refine nilN ?_
                          refine xn ?_
                          obtain rfl := hsm H
                          exact ⟨x9, s23, hS, hF.cut ⟨rfl, trivial⟩, hg21, HK9⟩
                        · replace H := hbf hc19 H
                          refine gofD (j := 13) hF rfl rfl (by rw [hc19]; decide) (by decide) (fun a hF => ?_)
                          refine gofD (j := 13) hF rfl rfl (by rw [hc19]; decide) (by decide) (fun a hF => ?_)
                          refine gofD (j := 13) hF rfl rfl (by rw [hc19]; decide) (by decide) (fun a hF => ?_)
                          refine gofD (j := 13) hF rfl rfl (by rw [hc19]; decide) (by decide) (fun a hF => ?_)
                          refine gofD (j := 13) hF rfl rfl (by rw [hc19]; decide) (by decide) (fun a hF => ?_)
                          refine gofD (j := 13) hF rfl rfl (by rw [hc19]; decide) (by decide) (fun a hF => ?_)
                          refine stp hF (p_pickF rfl hc19 rfl) (by decide) (fun a hF => ?_)
                          refine nilN ?_
                          refine xn ?_
                          obtain rfl := hsm H
                          exact ⟨false, s20, hS, hF.cut ⟨rfl, trivial⟩, (Sub.refl _), HK9⟩
                      · clear H HK9 hS hF
                        rintro a w ⟨x7, s22, hS, hF, hg22, H⟩
                        unfold impl_RecOk.c4 at H
                        refine stp hF (p_assign rfl) (by decide) (fun a hF => ?_)
                        refine nilN ?_
                        refine xn ?_
                        refine rt ?_
                        refine br (xr ?_)
                        obtain rfl := hsm H
                        replace hS := hS.sel (is := []) (A' := []) rfl
                        exact ret1 hF rfl rfl hS ⟨rfl, rfl⟩
                · replace H := hbf hc16 H
                  obtain ⟨x23, H, HK10⟩ := hb H
                  refine sqj (fun a w => ∃ (x15 : Bool) , St e s10 w [pt g1 41 ([(.int .i64 x2.Lsn), (.int .i64 x2.Tx), (.int .i64 x2.Prev), (.int .i64 x2.Kind), (.int .i64 x2.Oid), (.bool x2.Before.Has), (.int .i64 x2.Before.O.Kind), v1, v2, (.bool x2.After.Has), (.int .i64 x2.After.O.Kind), v3, v4, (.int .i64 x2.Next), v5])] ∧ Fr 121 a [(1, (.pointer (some ⟨g1, 0, none⟩))), (3, (.bool x14)), (111, (.bool x15))] ∧ impl_RecOk.c7 k x14 x2 x15 = some r) ?_ ?_
                  · skip
                    refine sq ?_
                    refine rg ?_
                    refine stp hF (p_eql rfl rfl) (by decide) (fun a hF => ?_)
                    refine stp hF (p_assign rfl) (by decide) (fun a hF => ?_)
                    refine nilN ?_
                    refine xn ?_
                    refine cnd hF rfl (fun hc20 => ?_) (fun hc20 => ?_)
                    · replace H := hbt hc20 H
                      refine skN ?_
                      refine xn ?_
                      obtain rfl := hsm H
                      exact ⟨(decide (x2.Kind = 2)), hS, hF.cut ⟨rfl, rfl, rfl, trivial⟩, HK10⟩
                    · replace H := hbf hc20 H
                      refine sq ?_
                      refine rg ?_
                      refine stp hF (p_eql rfl rfl) (by decide) (fun a hF => ?_)
                      refine stp hF (p_assign rfl) (by decide) (fun a hF => ?_)
                      refine nilN ?_
                      refine xn ?_
                      refine cnd hF rfl (fun hc21 => ?_) (fun hc21 => ?_)
                      · replace H := hbt hc21 H
                        refine skN ?_
                        refine xn ?_
                        obtain rfl := hsm H
                        exact ⟨(decide (x2.Kind = 3)), hS, hF.cut ⟨rfl, rfl, rfl, trivial⟩, HK10⟩
                      · replace H := hbf hc21 H
                        refine rg ?_
                        refine stp hF (p_eql rfl rfl) (by decide) (fun a hF => ?_)
                        refine stp hF (p_assign rfl) (by decide) (fun a hF => ?_)
                        refine nilN ?_
                        refine xn ?_
                        obtain rfl := hsm H
                        exact ⟨(decide (x2.Kind = 5)), hS, hF.cut ⟨rfl, rfl, rfl, trivial⟩, HK10⟩
                  · clear H HK10 hS hF
                    rintro a w ⟨x15, hS, hF, H⟩
                    unfold impl_RecOk.c7 at H
                    refine cnd hF rfl (fun hc22 => ?_) (fun hc22 => ?_)
                    · replace H := hbt hc22 H
                      refine sq ?_
                      refine rg ?_
                      refine stp hF (p_move rfl) (by decide) (fun a hF => ?_)
                      refine stp hF (p_move rfl) (by decide) (fun a hF => ?_)
                      refine cutj 4 (fun a w => St e s10 w [pt g1 41 ([(.int .i64 x2.Lsn), (.int .i64 x2.Tx), (.int .i64 x2.Prev), (.int .i64 x2.Kind), (.int .i64 x2.Oid), (.bool x2.Before.Has), (.int .i64 x2.Before.O.Kind), v1, v2, (.bool x2.After.Has), (.int .i64 x2.After.O.Kind), v3, v4, (.int .i64 x2.Next), v5])] ∧ Fr 121 a [(120, (.bool (x14 && (decide (x2.Next = 0)))))]) rfl rfl ?_ ?_
                      · rcases Bool.eq_false_or_eq_true (x14) with hc23 | hc23
                        · skip
                          refine gonE (j := 1) hF rfl rfl hc23 ?_
                          refine stp hF (p_fldb (o' := 13) rfl fi_41_7 rfl) (by decide) (fun a hF => ?_)
                          refine gonE (j := 1) hF rfl rfl hc23 ?_
                          refine stp hF (p_ldb_one (i := 0) hS rfl rfl ia_3 rfl) (by decide) (fun a hF => ?_)
                          refine gonE (j := 1) hF rfl rfl hc23 ?_
                          refine stp hF (p_eql rfl rfl) (by decide) (fun a hF => ?_)
                          refine stp hF (p_andT rfl hc23 rfl) (by decide) (fun a hF => ?_)
                          refine nilN ?_
                          refine xn ?_
                          exact ⟨hS, hF.cut ⟨rfl, trivial⟩⟩
                        · skip
                          refine gofD (j := 1) hF rfl rfl (by rw [hc23]; decide) (by decide) (fun a hF => ?_)
                          refine gofD (j := 1) hF rfl rfl (by rw [hc23]; decide) (by decide) (fun a hF => ?_)
                          refine gofD (j := 1) hF rfl rfl (by rw [hc23]; decide) (by decide) (fun a hF => ?_)
                          refine stp hF (p_andF (decide (x2.Next = 0)) rfl hc23 rfl) (by decide) (fun a hF => ?_)
                          refine nilN ?_
                          refine xn ?_
                          exact ⟨hS, hF.cut ⟨rfl, trivial⟩⟩
                      clear hS hF
                      rintro a w ⟨hS, hF⟩
                      refine stp hF (p_assign rfl) (by decide) (fun a hF => ?_)
                      refine nilN ?_
                      refine xn ?_
                      refine rt ?_
                      refine br (xr ?_)
                      obtain rfl := hsm H
                      replace hS := hS.sel (is := []) (A' := []) rfl
                      exact ret1 hF rfl rfl hS ⟨rfl, rfl⟩
                    · replace H := hbf hc22 H
                      refine skN ?_
                      refine bn (xn ?_)
                      refine sq ?_
                      refine rg ?_
                      refine stp hF (p_assign rfl) (by decide) (fun a hF => ?_)
                      refine nilN ?_
                      refine xn ?_
                      refine rt ?_
                      obtain rfl := hsm H
                      replace hS := hS.sel (is := []) (A' := []) rfl
                      exact ret1 hF rfl rfl hS ⟨rfl, rfl⟩

def impl_putInt.c1 (k : Nat) (x1 : (List Int)) (x2 : Int) : Option (List Int) :=
  (if x1.length + 1 ≤ 140737488355328 then (some (x1 ++ ([w8 (x2)] : List Int))) else none)
def impl_putInt.l1 : Nat → (List Int) → Int → Option ((List Int) × Int)
  | 0, _, _ => none
  | k + 1, x3, x4 => (if (decide (127 < x4)) = true then (if x3.length + 1 ≤ 140737488355328 then ((impl_putInt.l1 k) (x3 ++ ([w8 (bor .i64 (band .i64 x4 127) 128)] : List Int)) (bshr .i64 x4 7)) else none) else (some (x3, x4)))
def impl_putInt.c2 (k : Nat) (x5 : (List Int)) (x6 : Int) : Option (List Int) :=
  (((impl_putInt.l1 k x5 x6) : Option ((List Int) × Int)).bind fun x7 => impl_putInt.c1 k x7.1 x7.2)
def impl_putInt.f (k : Nat) (x5 : (List Int)) (x8 : Int) : Option (List Int) :=
  (((if (decide ((imax (-1000000000000) (imin x8 1000000000000)) < 0)) = true then (some (w64 ((w64 ((-2) * (imax (-1000000000000) (imin x8 1000000000000)))) - 1))) else (some (w64 (2 * (imax (-1000000000000) (imin x8 1000000000000)))))) : Option Int).bind fun x9 => impl_putInt.c2 k x5 x9)
set_option maxRecDepth 100000 in
set_option maxHeartbeats 4000000 in
theorem impl_putInt.spec (k : Nat) (s0 : HF) (w : World) (x5 : (List Int)) (x8 : Int) (v1 : Value) (r : (List Int)) (H : impl_putInt.f k x5 x8 = some r) :
    Law Try.prog 68 #[v1, (.int .i64 x8)] s0 w [Ow (Kd.int .u8) 5 v1 x5] (fun v s1 A1 => ∃ (u0 : Value), v = u0 ∧ A1 = [Ow (Kd.int .u8) 5 u0 r]) := by
  unfold impl_putInt.f at H
  refine Law.intro Try.func68 rfl [(0, v1), (1, (.int .i64 x8))] (Nat.le_of_ble_eq_true rfl) (enter_lk ⟨rfl, rfl, trivial⟩) (fun e a hS hF => ?_)
  have hF : Fr 32 a [(0, v1), (1, (.int .i64 x8))] := hF
  refine sq ?_
  refine rg ?_
  refine stp hF (p_assign rfl) (by decide) (fun a hF => ?_)
  refine nilN ?_
  refine xn ?_
  refine sq ?_
  refine rg ?_
  refine stp hF (p_move rfl) (by decide) (fun a hF => ?_)
  refine stp hF (p_min rfl rfl) (by decide) (fun a hF => ?_)
  refine stp hF (p_max rfl rfl) (by decide) (fun a hF => ?_)
  refine stp hF (p_assign rfl) (by decide) (fun a hF => ?_)
  refine nilN ?_
  refine xn ?_
  refine sq ?_
  refine rg ?_
  refine stp hF (p_move rfl) (by decide) (fun a hF => ?_)
  refine stp hF (p_mul (c := w64 (2 * (imax (-1000000000000) (imin x8 1000000000000)))) rfl rfl rfl) (by decide) (fun a hF => ?_)
  refine stp hF (p_assign rfl) (by decide) (fun a hF => ?_)
  refine nilN ?_
  refine xn ?_
  obtain ⟨x9, H, HK1⟩ := hb H
  refine sqj (fun a w => ∃ (x6 : Int) , St e s0 w [Ow (Kd.int .u8) 5 v1 x5] ∧ Fr 32 a [(0, v1), (5, (.int .i64 x6))] ∧ impl_putInt.c2 k x5 x6 = some r) ?_ ?_
  · skip
    refine sq ?_
    refine rg ?_
    refine stp hF (p_move rfl) (by decide) (fun a hF => ?_)
    refine stp hF (p_lss rfl rfl) (by decide) (fun a hF => ?_)
    refine nilN ?_
    refine xn ?_
    refine cnd hF rfl (fun hc1 => ?_) (fun hc1 => ?_)
    · replace H := hbt hc1 H
      refine rg ?_
      refine stp hF (p_move rfl) (by decide) (fun a hF => ?_)
      refine stp hF (p_mul (c := w64 ((-2) * (imax (-1000000000000) (imin x8 1000000000000)))) rfl rfl rfl) (by decide) (fun a hF => ?_)
      refine stp hF (p_sub (c := w64 ((w64 ((-2) * (imax (-1000000000000) (imin x8 1000000000000)))) - 1)) rfl rfl rfl) (by decide) (fun a hF => ?_)
      refine stp hF (p_assign rfl) (by decide) (fun a hF => ?_)
      refine nilN ?_
      refine xn ?_
      obtain rfl := hsm H
      exact ⟨(w64 ((w64 ((-2) * (imax (-1000000000000) (imin x8 1000000000000)))) - 1)), hS, hF.cut ⟨rfl, rfl, trivial⟩, HK1⟩
    · replace H := hbf hc1 H
      refine skN ?_
      refine xn ?_
      obtain rfl := hsm H
      exact ⟨(w64 (2 * (imax (-1000000000000) (imin x8 1000000000000)))), hS, hF.cut ⟨rfl, rfl, trivial⟩, HK1⟩
  · clear H HK1 hS hF
    rintro a w ⟨x6, hS, hF, H⟩
    unfold impl_putInt.c2 at H
    obtain ⟨x7, H, HK2⟩ := hb H
    refine sqj (fun a w => ∃ (x1 : (List Int)) (x2 : Int) (v2 : Value) , St e s0 w [Ow (Kd.int .u8) 5 v2 x1] ∧ Fr 32 a [(0, v2), (5, (.int .i64 x2))] ∧ impl_putInt.c1 k x1 x2 = some r) ?_ ?_
    · skip
      refine blk ?_
      refine loop_ind (fun k1 a w => ∃ (x3 : (List Int)) (x4 : Int) (v3 : Value) , St e s0 w [Ow (Kd.int .u8) 5 v3 x3] ∧ Fr 32 a [(0, v3), (5, (.int .i64 x4))] ∧ impl_putInt.l1 k1 x3 x4 = some x7) k ?_ ?_ ?_
      · skip
        exact ⟨x5, x6, v1, hS, hF.cut ⟨rfl, rfl, trivial⟩, H⟩
      · clear H hS hF
        rintro a w ⟨x3, x4, v3, hS, hF, H⟩
        exact absurd (show none = some _ from H) (by simp)
      · clear H hS hF
        rintro k1 a w ⟨x3, x4, v3, hS, hF, H⟩
        rw [impl_putInt.l1.eq_2] at H
        refine sq ?_
        refine sq ?_
        refine rg ?_
        refine stp hF (p_move rfl) (by decide) (fun a hF => ?_)
        refine stp hF (p_gtr rfl rfl) (by decide) (fun a hF => ?_)
        refine nilN ?_
        refine xn ?_
        refine cnd hF rfl (fun hc2 => ?_) (fun hc2 => ?_)
        · replace H := hbt hc2 H
          refine skN ?_
          refine xn ?_
          refine blk ?_
          refine sq ?_
          refine rg ?_
          refine stp hF (p_move rfl) (by decide) (fun a hF => ?_)
          refine stp hF (p_move rfl) (by decide) (fun a hF => ?_)
          refine stp hF (p_and (c := band .i64 x4 127) rfl rfl rfl) (by decide) (fun a hF => ?_)
          refine stp hF (p_or (c := bor .i64 (band .i64 x4 127) 128) rfl rfl rfl) (by decide) (fun a hF => ?_)
          refine stp hF (p_cvint (c := w8 (bor .i64 (band .i64 x4 127) 128)) un_3 un_5 rfl rfl) (by decide) (fun a hF => ?_)
          refine ste hF (e_bslice (kd := (Kd.int .u8)) (et := 5) (ps := [(0, (.tmp 22))]) (vs := [(0, (.int .u8 (w8 (bor .i64 (band .i64 x4 127) 128))))]) (cs := [(.int .u8 (w8 (bor .i64 (band .i64 x4 127) 128)))]) (xs := ([w8 (bor .i64 (band .i64 x4 127) 128)] : List Int)) hS rfl (by intro w; kernel_rfl) rfl (by decide) (Nat.le_of_ble_eq_true rfl) (by exact (rows_cons (kd := (Kd.int .u8)) (x := w8 (bor .i64 (band .i64 x4 127) 128)) (c := [(.int .u8 (w8 (bor .i64 (band .i64 x4 127) 128)))]) (cs := []) rfl (Rows.nil _ _ _ _)))) (by decide) (fun v4 w a hR hF => ?_)
          have hS : St e s0 w [Ow (Kd.int .u8) 5 v4 ([w8 (bor .i64 (band .i64 x4 127) 128)] : List Int), Ow (Kd.int .u8) 5 v3 x3] := hR
          obtain ⟨hq1, H⟩ := hck H
          refine ste hF (e_append (n := 1) hS rfl rfl rfl (hS.src (n := 0) rfl) un_24 ti_5 rfl (by decide) (by decide) (Nat.le_trans (Nat.mul_le_mul_right 1 hq1) (by decide))) (by decide) (fun v5 w a hR hF => ?_)
          have hS : St e s0 w [Ow (Kd.int .u8) 5 v5 (x3 ++ ([w8 (bor .i64 (band .i64 x4 127) 128)] : List Int)), Ow (Kd.int .u8) 5 v4 ([w8 (bor .i64 (band .i64 x4 127) 128)] : List Int)] := hR
          replace hS := hS.sel (is := [0]) (A' := [Ow (Kd.int .u8) 5 v5 (x3 ++ ([w8 (bor .i64 (band .i64 x4 127) 128)] : List Int))]) rfl
          refine stp hF (p_assign rfl) (by decide) (fun a hF => ?_)
          refine nilN ?_
          refine xn ?_
          refine rg ?_
          refine stp hF (p_move rfl) (by decide) (fun a hF => ?_)
          refine stp hF (p_shr (c := bshr .i64 x4 7) rfl rfl (by decide) rfl) (by decide) (fun a hF => ?_)
          refine stp hF (p_assign rfl) (by decide) (fun a hF => ?_)
          refine nilN ?_
          refine bn (xn ?_)
          exact ⟨(x3 ++ ([w8 (bor .i64 (band .i64 x4 127) 128)] : List Int)), (bshr .i64 x4 7), v5, hS, hF.cut ⟨rfl, rfl, trivial⟩, H⟩
        · replace H := hbf hc2 H
          refine exi ?_
          refine xe (xe (hit (xn ?_)))
          obtain rfl := hsm H
          exact ⟨x3, x4, v3, hS, hF.cut ⟨rfl, rfl, trivial⟩, HK2⟩
    · clear H HK2 hS hF
      rintro a w ⟨x1, x2, v2, hS, hF, H⟩
      unfold impl_putInt.c1 at H
      refine sq ?_
      refine rg ?_
      refine stp hF (p_move rfl) (by decide) (fun a hF => ?_)
      refine stp hF (p_move rfl) (by decide) (fun a hF => ?_)
      refine stp hF (p_cvint (c := w8 (x2)) un_3 un_5 rfl rfl) (by decide) (fun a hF => ?_)
      refine ste hF (e_bslice (kd := (Kd.int .u8)) (et := 5) (ps := [(0, (.tmp 29))]) (vs := [(0, (.int .u8 (w8 (x2))))]) (cs := [(.int .u8 (w8 (x2)))]) (xs := ([w8 (x2)] : List Int)) hS rfl (by intro w; kernel_rfl) rfl (by decide) (Nat.le_of_ble_eq_true rfl) (by exact (rows_cons (kd := (Kd.int .u8)) (x := w8 (x2)) (c := [(.int .u8 (w8 (x2)))]) (cs := []) rfl (Rows.nil _ _ _ _)))) (by decide) (fun v6 w a hR hF => ?_)
      have hS : St e s0 w [Ow (Kd.int .u8) 5 v6 ([w8 (x2)] : List Int), Ow (Kd.int .u8) 5 v2 x1] := hR
      obtain ⟨hq2, H⟩ := hck H
      refine ste hF (e_append (n := 1) hS rfl rfl rfl (hS.src (n := 0) rfl) un_24 ti_5 rfl (by decide) (by decide) (Nat.le_trans (Nat.mul_le_mul_right 1 hq2) (by decide))) (by decide) (fun v7 w a hR hF => ?_)
      have hS : St e s0 w [Ow (Kd.int .u8) 5 v7 (x1 ++ ([w8 (x2)] : List Int)), Ow (Kd.int .u8) 5 v6 ([w8 (x2)] : List Int)] := hR
      replace hS := hS.sel (is := [0]) (A' := [Ow (Kd.int .u8) 5 v7 (x1 ++ ([w8 (x2)] : List Int))]) rfl
      refine stp hF (p_assign rfl) (by decide) (fun a hF => ?_)
      refine nilN ?_
      refine xn ?_
      refine rt ?_
      obtain rfl := hsm H
      exact ret1 hF rfl rfl hS ⟨v7, rfl, rfl⟩

def impl_putInts.c1 (k : Nat) (x1 : (List Int)) : Option (List Int) :=
  (some x1)
def impl_putInts.l1 (x2 : (List Int)) : Nat → (List Int) → Int → Option (List Int)
  | 0, _, _ => none
  | k + 1, x3, x4 => (if (decide (x4 < (x2.length : Int))) = true then (if 0 ≤ x4 ∧ x4 < (x2.length : Int) then ((impl_putInt.f k x3 (rd x2 x4)).bind fun x5 => ((impl_putInts.l1 x2 k) x5 (w64 (x4 + 1)))) else none) else (some x3))
def impl_putInts.f (k : Nat) (x6 : (List Int)) (x2 : (List Int)) : Option (List Int) :=
  ((impl_putInt.f k x6 (x2.length : Int)).bind fun x7 => (((impl_putInts.l1 x2 k x7 0) : Option (List Int)).bind fun x8 => impl_putInts.c1 k x8))
set_option maxRecDepth 100000 in
set_option maxHeartbeats 4000000 in
theorem impl_putInts.spec (k : Nat) (s0 : HF) (w : World) (x6 : (List Int)) (x2 : (List Int)) (v1 : Value) (v2 : Value) (h1 : Sl (Kd.int .i64) s0 v2 x2) (r : (List Int)) (H : impl_putInts.f k x6 x2 = some r) :
    Law Try.prog 164 #[v1, v2] s0 w [Ow (Kd.int .u8) 5 v1 x6] (fun v s1 A1 => ∃ (u0 : Value), v = u0 ∧ A1 = [Ow (Kd.int .u8) 5 u0 r]) := by
  unfold impl_putInts.f at H
  refine Law.intro Try.func164 rfl [(0, v1), (1, v2)] (Nat.le_of_ble_eq_true rfl) (enter_lk ⟨rfl, rfl, trivial⟩) (fun e a hS hF => ?_)
  have hF : Fr 22 a [(0, v1), (1, v2)] := hF
  refine sq ?_
  refine rg ?_
  refine stp hF (p_assign rfl) (by decide) (fun a hF => ?_)
  refine nilN ?_
  refine xn ?_
  refine sq ?_
  refine rg ?_
  refine stp hF (p_move rfl) (by decide) (fun a hF => ?_)
  refine stp hF (p_move rfl) (by decide) (fun a hF => ?_)
  refine stp hF (p_lenr un_34 rfl h1) (by decide) (fun a hF => ?_)
  obtain ⟨x7, hx1, H⟩ := hb H
  refine ste hF (e_callA (fst := []) (vs := [v1, (.int .i64 (x2.length : Int))]) (cap := []) rfl rfl go_68 (St.call (A := [Ow (Kd.int .u8) 5 v1 x6]) (B := []) hS (impl_putInt.spec k _ _ x6 (x2.length : Int) v1 _ hx1)) rfl) (by decide) (fun v w a hR hF => ?_)
  obtain ⟨s2, A2, hg1, hS, hR⟩ := hR
  obtain ⟨v3, hv1, rfl⟩ := hR; obtain rfl := hv1.symm
  have hS : St e s2 w [Ow (Kd.int .u8) 5 v3 x7] := hS
  refine stp hF (p_assign rfl) (by decide) (fun a hF => ?_)
  refine nilN ?_
  refine xn ?_
  obtain ⟨x8, H, HK1⟩ := hb H
  refine sqj (fun a w => ∃ (x1 : (List Int)) (s3 : HF) (v4 : Value) , St e s3 w [Ow (Kd.int .u8) 5 v4 x1] ∧ Fr 22 a [(0, v4)] ∧ Sub s2 s3 ∧ impl_putInts.c1 k x1 = some r) ?_ ?_
  · skip
    refine sq ?_
    refine rg ?_
    refine stp hF (p_move rfl) (by decide) (fun a hF => ?_)
    refine stp hF (p_lenr un_34 rfl (h1.mono hg1)) (by decide) (fun a hF => ?_)
    refine stp hF (p_move rfl) (by decide) (fun a hF => ?_)
    refine nilN ?_
    refine xn ?_
    refine blk ?_
    refine loop_ind (fun k1 a w => ∃ (x3 : (List Int)) (x4 : Int) (s4 : HF) (v5 : Value) , St e s4 w [Ow (Kd.int .u8) 5 v5 x3] ∧ Fr 22 a [(0, v5), (11, v2), (12, (.int .i64 (x2.length : Int))), (13, (.int .i64 x4))] ∧ Sub s2 s4 ∧ impl_putInts.l1 x2 k1 x3 x4 = some x8) k ?_ ?_ ?_
    · skip
      exact ⟨x7, 0, s2, v3, hS, hF.cut ⟨rfl, rfl, rfl, rfl, trivial⟩, (Sub.refl _), H⟩
    · clear H hS hF
      rintro a w ⟨x3, x4, s4, v5, hS, hF, hg2, H⟩
      exact absurd (show none = some _ from H) (by simp)
    · clear H hS hF
      rintro k1 a w ⟨x3, x4, s4, v5, hS, hF, hg2, H⟩
      rw [impl_putInts.l1.eq_2] at H
      refine sq ?_
      refine rg ?_
      refine stp hF (p_lss rfl rfl) (by decide) (fun a hF => ?_)
      refine nilN ?_
      refine xn ?_
      refine sq ?_
      refine cnd hF rfl (fun hc1 => ?_) (fun hc1 => ?_)
      · replace H := hbt hc1 H
        refine skN ?_
        refine xn ?_
        refine sq ?_
        refine blk ?_
        refine sq ?_
        refine rg ?_
        obtain ⟨hq1, H⟩ := hck H
        obtain ⟨ad1, h2, p1⟩ := p_idxr (P := Try.prog) (i := x4) ((h1.mono hg1).mono hg2) un_34 ti_3 hq1.1 hq1.2
        refine stp hF (p1 rfl rfl) (by decide) (fun a hF => ?_)
        refine stp hF (p_ldr_int rfl hS h2 ia_3) (by decide) (fun a hF => ?_)
        refine stp hF (p_assign rfl) (by decide) (fun a hF => ?_)
        refine nilN ?_
        refine xn ?_
        refine rg ?_
        refine stp hF (p_move rfl) (by decide) (fun a hF => ?_)
        refine stp hF (p_move rfl) (by decide) (fun a hF => ?_)
        obtain ⟨x5, hx2, H⟩ := hb H
        refine ste hF (e_callA (fst := []) (vs := [v5, (.int .i64 (rd x2 x4))]) (cap := []) rfl rfl go_68 (St.call (A := [Ow (Kd.int .u8) 5 v5 x3]) (B := []) hS (impl_putInt.spec k1 _ _ x3 (rd x2 x4) v5 _ hx2)) rfl) (by decide) (fun v w a hR hF => ?_)
        obtain ⟨s5, A3, hg3, hS, hR⟩ := hR
        obtain ⟨v6, hv2, rfl⟩ := hR; obtain rfl := hv2.symm
        have hS : St e s5 w [Ow (Kd.int .u8) 5 v6 x5] := hS
        refine stp hF (p_assign rfl) (by decide) (fun a hF => ?_)
        refine nilN ?_
        refine bn (xn ?_)
        refine rg ?_
        refine stp hF (p_add (c := w64 (x4 + 1)) rfl rfl rfl) (by decide) (fun a hF => ?_)
        refine stp hF (p_move rfl) (by decide) (fun a hF => ?_)
        refine nilN ?_
        refine xn ?_
        exact ⟨x5, (w64 (x4 + 1)), s5, v6, hS, hF.cut ⟨rfl, rfl, rfl, rfl, trivial⟩, (hg2.trans hg3), H⟩
      · replace H := hbf hc1 H
        refine exi ?_
        refine xe (xe (hit (xn ?_)))
        obtain rfl := hsm H
        exact ⟨x3, s4, v5, hS, hF.cut ⟨rfl, trivial⟩, hg2, HK1⟩
  · clear H HK1 hS hF
    rintro a w ⟨x1, s3, v4, hS, hF, hg4, H⟩
    unfold impl_putInts.c1 at H
    refine sq ?_
    refine rg ?_
    refine stp hF (p_move rfl) (by decide) (fun a hF => ?_)
    refine stp hF (p_assign rfl) (by decide) (fun a hF => ?_)
    refine nilN ?_
    refine xn ?_
    refine rt ?_
    obtain rfl := hsm H
    exact ret1 hF rfl rfl hS ⟨v4, rfl, rfl⟩

def impl_PutObj.f (k : Nat) (x1 : TObj) : Option (List Int) :=
  ((impl_ObjOk.f k x1).bind fun x2 => (if (!x2) = true then (some ([] : List Int)) else ((impl_putInt.f k ([] : List Int) x1.Kind).bind fun x3 => ((impl_putInts.f k x3 x1.Ints).bind fun x4 => ((impl_putInts.f k x4 x1.Refs).bind fun x5 => (some x5))))))
set_option maxRecDepth 100000 in
set_option maxHeartbeats 4000000 in
theorem impl_PutObj.spec (k : Nat) (s0 : HF) (w : World) (x1 : TObj) (v1 : Value) (v2 : Value) (h1 : Sl (Kd.int .i64) s0 v1 x1.Ints) (h2 : Sl (Kd.int .i64) s0 v2 x1.Refs) (r : (List Int)) (H : impl_PutObj.f k x1 = some r) :
    Law Try.prog 133 #[(.agg #[(.int .i64 x1.Kind), v1, v2])] s0 w [] (fun v s1 A1 => ∃ (u0 : Value), v = u0 ∧ A1 = [Ow (Kd.int .u8) 5 u0 r]) := by
  unfold impl_PutObj.f at H
  refine Law.intro Try.func133 rfl [(0, (.agg #[(.int .i64 x1.Kind), v1, v2]))] (Nat.le_of_ble_eq_true rfl) (enter_lk ⟨rfl, trivial⟩) (fun e a hS hF => ?_)
  have hF : Fr 15 a [(0, (.agg #[(.int .i64 x1.Kind), v1, v2]))] := hF
  refine sq ?_
  refine rg ?_
  refine ste hF (e_box (cs := [(.int .i64 x1.Kind), v1, v2]) hS rfl rfl) (by decide) (fun v w a hR hF => ?_)
  obtain ⟨g1, rfl, hS⟩ := hR
  refine stp hF (p_assign rfl) (by decide) (fun a hF => ?_)
  refine nilN ?_
  refine xn ?_
  refine sq ?_
  refine sq ?_
  refine rg ?_
  refine stp hF (p_ldb_agg (i := 0) (l := []) (m := [(.int .i64 x1.Kind), v1, v2]) (r := []) hS rfl rfl ia_36 ti_36 rfl rfl rfl) (by decide) (fun a hF => ?_)
  obtain ⟨x2, hx1, H⟩ := hb H
  refine ste hF (e_callA (fst := []) (vs := [(.agg #[(.int .i64 x1.Kind), v1, v2])]) (cap := []) rfl rfl go_141 (St.call (A := []) (B := [pt g1 36 ([(.int .i64 x1.Kind), v1, v2])]) hS (impl_ObjOk.spec k _ _ x1 v1 v2 h1 h2 _ hx1)) rfl) (by decide) (fun v w a hR hF => ?_)
  obtain ⟨s2, A2, hg1, hS, hR⟩ := hR
  obtain ⟨hv1, rfl⟩ := hR; obtain rfl := hv1.symm
  have hS : St e s2 w [pt g1 36 ([(.int .i64 x1.Kind), v1, v2])] := hS
  refine stp hF (p_not rfl) (by decide) (fun a hF => ?_)
  refine nilN ?_
  refine xn ?_
  refine cnd hF rfl (fun hc1 => ?_) (fun hc1 => ?_)
  · replace H := hbt hc1 H
    refine sq ?_
    refine rg ?_
    refine stp hF (p_assign rfl) (by decide) (fun a hF => ?_)
    refine nilN ?_
    refine xn ?_
    refine rt ?_
    refine xr ?_
    obtain rfl := hsm H
    replace hS := hS.ownNil (Kd.int .u8) 5 none
    replace hS := hS.sel (is := [0]) (A' := [Ow (Kd.int .u8) 5 (.slice none 0 0) ([] : List Int)]) rfl
    exact ret1 hF rfl rfl hS ⟨(.slice none 0 0), rfl, rfl⟩
  · replace H := hbf hc1 H
    refine skN ?_
    refine xn ?_
    refine sq ?_
    replace hS : St e s2 w.drew [pt g1 36 ([(.int .i64 x1.Kind), v1, v2])] := hS.drewN 1
    refine drw [0, 1, 2, 3, 4, 5, 6, 7, 8, 9] mixed (by kernel_rfl) (by decide) (hF.cut (L' := [(0, (.agg #[(.int .i64 x1.Kind), v1, v2])), (1, (.pointer (some ⟨g1, 0, none⟩))), (2, (.slice none 0 0)), (3, (.agg #[(.int .i64 x1.Kind), v1, v2])), (4, (.bool x2)), (5, (.bool (!x2)))]) ⟨rfl, rfl, rfl, rfl, rfl, rfl, trivial⟩) ?_
    clear hF
    generalize w.drew = w at hS ⊢
    refine pk1 rfl (by decide) rfl (by kernel_rfl) rfl (p_fldb (o' := 0) rfl fi_36_0 rfl) ?_
    refine pk1 rfl (by decide) rfl (by kernel_rfl) rfl (p_ldb_one (i := 0) hS rfl rfl ia_3 rfl) ?_
    refine pkPerm [3, 2, 4, 5, 6, 7, 8, 9] (by kernel_rfl) ?_
    refine pk1 rfl (by decide) rfl (by kernel_rfl) rfl (p_fldb (o' := 1) rfl fi_36_1 rfl) ?_
    refine pkPerm [4, 2, 5, 6, 7, 8, 9] (by kernel_rfl) ?_
    refine pk1 rfl (by decide) rfl (by kernel_rfl) rfl (p_ldb_one (i := 0) hS rfl rfl ia_34 rfl) ?_
    refine pkPerm [6, 2, 5, 7, 8, 9] (by kernel_rfl) ?_
    refine pk1 rfl (by decide) rfl (by kernel_rfl) rfl (p_fldb (o' := 2) rfl fi_36_2 rfl) ?_
    refine pkPerm [7, 2, 5, 8, 9] (by kernel_rfl) ?_
    refine pk1 rfl (by decide) rfl (by kernel_rfl) rfl (p_ldb_one (i := 0) hS rfl rfl ia_34 rfl) ?_
    replace hS := hS.ownNil (Kd.int .u8) 5 none
    obtain ⟨x3, hx2, H⟩ := hb H
    refine pkE [7, 6, 4, 3, 0] rfl (by decide) (by kernel_rfl) (by kernel_rfl) (e_callA (fst := []) (vs := [(.slice none 0 0), (.int .i64 x1.Kind)]) (cap := []) rfl rfl go_68 (St.call (A := [Ow (Kd.int .u8) 5 (.slice none 0 0) ([] : List Int)]) (B := [pt g1 36 ([(.int .i64 x1.Kind), v1, v2])]) hS (impl_putInt.spec k _ _ ([] : List Int) x1.Kind (.slice none 0 0) _ hx2)) rfl) ?_
    intro v w hR
    obtain ⟨s3, A3, hg2, hS, hR⟩ := hR
    obtain ⟨v3, hv2, rfl⟩ := hR; obtain rfl := hv2.symm
    have hS : St e s3 w [Ow (Kd.int .u8) 5 v3 x3, pt g1 36 ([(.int .i64 x1.Kind), v1, v2])] := hS
    refine ⟨⟨knw rfl rfl rfl (p_ldb_one (i := 1) hS rfl rfl ia_34 rfl), ⟨knw rfl rfl rfl (p_fldb (o' := 2) rfl fi_36_2 rfl), ⟨knw rfl rfl rfl (p_ldb_one (i := 1) hS rfl rfl ia_34 rfl), ⟨knw rfl rfl rfl (p_fldb (o' := 1) rfl fi_36_1 rfl), ⟨knw rfl rfl rfl (p_fldb (o' := 0) rfl fi_36_0 rfl), trivial⟩⟩⟩⟩⟩, ?_⟩
    obtain ⟨x4, hx3, H⟩ := hb H
    refine pkE [7, 6, 3, 0] rfl (by decide) (by kernel_rfl) (by kernel_rfl) (e_callA (fst := []) (vs := [v3, v1]) (cap := []) rfl rfl go_164 (St.call (A := [Ow (Kd.int .u8) 5 v3 x3]) (B := [pt g1 36 ([(.int .i64 x1.Kind), v1, v2])]) hS (impl_putInts.spec k _ _ x3 x1.Ints v3 v1 ((h1.mono hg1).mono hg2) _ hx3)) rfl) ?_
    intro v w hR
    obtain ⟨s4, A4, hg3, hS, hR⟩ := hR
    obtain ⟨v4, hv3, rfl⟩ := hR; obtain rfl := hv3.symm
    have hS : St e s4 w [Ow (Kd.int .u8) 5 v4 x4, pt g1 36 ([(.int .i64 x1.Kind), v1, v2])] := hS
    refine ⟨⟨knw rfl rfl rfl (p_ldb_one (i := 1) hS rfl rfl ia_34 rfl), ⟨knw rfl rfl rfl (p_fldb (o' := 2) rfl fi_36_2 rfl), ⟨knw rfl rfl rfl (p_fldb (o' := 1) rfl fi_36_1 rfl), ⟨knw rfl rfl rfl (p_fldb (o' := 0) rfl fi_36_0 rfl), trivial⟩⟩⟩⟩, ?_⟩
    obtain ⟨x5, hx4, H⟩ := hb H
    refine pkE [6, 3, 0] rfl (by decide) (by kernel_rfl) (by kernel_rfl) (e_callA (fst := []) (vs := [v4, v2]) (cap := []) rfl rfl go_164 (St.call (A := [Ow (Kd.int .u8) 5 v4 x4]) (B := [pt g1 36 ([(.int .i64 x1.Kind), v1, v2])]) hS (impl_putInts.spec k _ _ x4 x1.Refs v4 v2 (((h2.mono hg1).mono hg2).mono hg3) _ hx4)) rfl) ?_
    intro v w hR
    obtain ⟨s5, A5, hg4, hS, hR⟩ := hR
    obtain ⟨v5, hv4, rfl⟩ := hR; obtain rfl := hv4.symm
    have hS : St e s5 w [Ow (Kd.int .u8) 5 v5 x5, pt g1 36 ([(.int .i64 x1.Kind), v1, v2])] := hS
    refine ⟨⟨knw rfl rfl rfl (p_fldb (o' := 2) rfl fi_36_2 rfl), ⟨knw rfl rfl rfl (p_fldb (o' := 1) rfl fi_36_1 rfl), ⟨knw rfl rfl rfl (p_fldb (o' := 0) rfl fi_36_0 rfl), trivial⟩⟩⟩, ?_⟩
    refine pkE [] rfl (by decide) (by kernel_rfl) (by kernel_rfl) (puEf (p_assign rfl)) ?_
    rintro v w' ⟨hv, rfl⟩
    obtain rfl := hv.symm
    refine ⟨trivial, ?_⟩
    refine pkF (fun a hF => ?_)
    refine xn ?_
    refine rt ?_
    obtain rfl := hsm H
    replace hS := hS.sel (is := [0]) (A' := [Ow (Kd.int .u8) 5 v5 x5]) rfl
    exact ret1 hF rfl rfl hS ⟨v5, rfl, rfl⟩

def impl_putSlot.f (k : Nat) (x1 : (List Int)) (x2 : TSlot) : Option (List Int) :=
  (if (!x2.Has) = true then ((impl_putInt.f k x1 0).bind fun x3 => (some x3)) else ((impl_PutObj.f k x2.O).bind fun x4 => ((impl_putInt.f k x1 (x4.length : Int)).bind fun x5 => (if x5.length + x4.length ≤ 140737488355328 then (some (x5 ++ x4)) else none))))
set_option maxRecDepth 100000 in
set_option maxHeartbeats 4000000 in
theorem impl_putSlot.spec (k : Nat) (s0 : HF) (w : World) (x1 : (List Int)) (x2 : TSlot) (v1 : Value) (v2 : Value) (v3 : Value) (h1 : Sl (Kd.int .i64) s0 v2 x2.O.Ints) (h2 : Sl (Kd.int .i64) s0 v3 x2.O.Refs) (r : (List Int)) (H : impl_putSlot.f k x1 x2 = some r) :
    Law Try.prog 69 #[v1, (.agg #[(.bool x2.Has), (.int .i64 x2.O.Kind), v2, v3])] s0 w [Ow (Kd.int .u8) 5 v1 x1] (fun v s1 A1 => ∃ (u0 : Value), v = u0 ∧ A1 = [Ow (Kd.int .u8) 5 u0 r]) := by
  unfold impl_putSlot.f at H
  refine Law.intro Try.func69 rfl [(0, v1), (1, (.agg #[(.bool x2.Has), (.int .i64 x2.O.Kind), v2, v3]))] (Nat.le_of_ble_eq_true rfl) (enter_lk ⟨rfl, rfl, trivial⟩) (fun e a hS hF => ?_)
  have hF : Fr 20 a [(0, v1), (1, (.agg #[(.bool x2.Has), (.int .i64 x2.O.Kind), v2, v3]))] := hF
  refine sq ?_
  refine rg ?_
  refine ste hF (e_box (cs := [(.bool x2.Has), (.int .i64 x2.O.Kind), v2, v3]) hS rfl rfl) (by decide) (fun v w a hR hF => ?_)
  obtain ⟨g1, rfl, hS⟩ := hR
  refine stp hF (p_assign rfl) (by decide) (fun a hF => ?_)
  refine nilN ?_
  refine xn ?_
  refine sq ?_
  refine sq ?_
  refine rg ?_
  refine stp hF (p_fldb (o' := 0) rfl fi_38_0 rfl) (by decide) (fun a hF => ?_)
  refine stp hF (p_ldb_one (i := 0) hS rfl rfl ia_4 rfl) (by decide) (fun a hF => ?_)
  refine stp hF (p_not rfl) (by decide) (fun a hF => ?_)
  refine nilN ?_
  refine xn ?_
  refine cnd hF rfl (fun hc1 => ?_) (fun hc1 => ?_)
  · replace H := hbt hc1 H
    refine sq ?_
    refine rg ?_
    refine stp hF (p_move rfl) (by decide) (fun a hF => ?_)
    replace hS := hS.sel (is := [1, 0]) (A' := [Ow (Kd.int .u8) 5 v1 x1, pt g1 38 ([(.bool x2.Has), (.int .i64 x2.O.Kind), v2, v3])]) rfl
    obtain ⟨x3, hx1, H⟩ := hb H
    refine ste hF (e_callA (fst := []) (vs := [v1, (.int .i64 0)]) (cap := []) rfl rfl go_68 (St.call (A := [Ow (Kd.int .u8) 5 v1 x1]) (B := [pt g1 38 ([(.bool x2.Has), (.int .i64 x2.O.Kind), v2, v3])]) hS (impl_putInt.spec k _ _ x1 0 v1 _ hx1)) rfl) (by decide) (fun v w a hR hF => ?_)
    obtain ⟨s2, A2, hg1, hS, hR⟩ := hR
    obtain ⟨v4, hv1, rfl⟩ := hR; obtain rfl := hv1.symm
    have hS : St e s2 w [Ow (Kd.int .u8) 5 v4 x3, pt g1 38 ([(.bool x2.Has), (.int .i64 x2.O.Kind), v2, v3])] := hS
    refine stp hF (p_assign rfl) (by decide) (fun a hF => ?_)
    refine nilN ?_
    refine xn ?_
    refine rt ?_
    refine xr ?_
    obtain rfl := hsm H
    replace hS := hS.sel (is := [0]) (A' := [Ow (Kd.int .u8) 5 v4 x3]) rfl
    exact ret1 hF rfl rfl hS ⟨v4, rfl, rfl⟩
  · replace H := hbf hc1 H
    refine skN ?_
    refine xn ?_
    refine sq ?_
    refine rg ?_
    refine stp hF (p_fldb (o' := 1) rfl fi_38_1 rfl) (by decide) (fun a hF => ?_)
    refine stp hF (p_ldb_agg (i := 0) (l := [(.bool x2.Has)]) (m := [(.int .i64 x2.O.Kind), v2, v3]) (r := []) hS rfl rfl ia_36 ti_36 rfl rfl rfl) (by decide) (fun a hF => ?_)
    obtain ⟨x4, hx2, H⟩ := hb H
    refine ste hF (e_callA (fst := []) (vs := [(.agg #[(.int .i64 x2.O.Kind), v2, v3])]) (cap := []) rfl rfl go_133 (St.call (A := []) (B := [pt g1 38 ([(.bool x2.Has), (.int .i64 x2.O.Kind), v2, v3]), Ow (Kd.int .u8) 5 v1 x1]) hS (impl_PutObj.spec k _ _ x2.O v2 v3 h1 h2 _ hx2)) rfl) (by decide) (fun v w a hR hF => ?_)
    obtain ⟨s3, A3, hg2, hS, hR⟩ := hR
    obtain ⟨v5, hv2, rfl⟩ := hR; obtain rfl := hv2.symm
    have hS : St e s3 w [Ow (Kd.int .u8) 5 v5 x4, pt g1 38 ([(.bool x2.Has), (.int .i64 x2.O.Kind), v2, v3]), Ow (Kd.int .u8) 5 v1 x1] := hS
    refine stp hF (p_assign rfl) (by decide) (fun a hF => ?_)
    refine nilN ?_
    refine xn ?_
    refine sq ?_
    refine rg ?_
    refine stp hF (p_move rfl) (by decide) (fun a hF => ?_)
    refine stp hF (p_move rfl) (by decide) (fun a hF => ?_)
    refine stp hF (p_leno (i := 0) hS rfl un_24 rfl) (by decide) (fun a hF => ?_)
    replace hS := hS.sel (is := [2, 0, 0]) (A' := [Ow (Kd.int .u8) 5 v1 x1, Ow (Kd.int .u8) 5 v5 x4, pt g1 38 ([(.bool x2.Has), (.int .i64 x2.O.Kind), v2, v3])]) rfl
    obtain ⟨x5, hx3, H⟩ := hb H
    refine ste hF (e_callA (fst := []) (vs := [v1, (.int .i64 (x4.length : Int))]) (cap := []) rfl rfl go_68 (St.call (A := [Ow (Kd.int .u8) 5 v1 x1]) (B := [Ow (Kd.int .u8) 5 v5 x4, pt g1 38 ([(.bool x2.Has), (.int .i64 x2.O.Kind), v2, v3])]) hS (impl_putInt.spec k _ _ x1 (x4.length : Int) v1 _ hx3)) rfl) (by decide) (fun v w a hR hF => ?_)
    obtain ⟨s4, A4, hg3, hS, hR⟩ := hR
    obtain ⟨v6, hv3, rfl⟩ := hR; obtain rfl := hv3.symm
    have hS : St e s4 w [Ow (Kd.int .u8) 5 v6 x5, Ow (Kd.int .u8) 5 v5 x4, pt g1 38 ([(.bool x2.Has), (.int .i64 x2.O.Kind), v2, v3])] := hS
    refine stp hF (p_move rfl) (by decide) (fun a hF => ?_)
    obtain ⟨hq1, H⟩ := hck H
    refine ste hF (e_append (n := 0) hS rfl rfl rfl (hS.src (n := 1) rfl) un_24 ti_5 rfl (by decide) (by decide) (Nat.le_trans (Nat.mul_le_mul_right 1 hq1) (by decide))) (by decide) (fun v7 w a hR hF => ?_)
    have hS : St e s4 w [Ow (Kd.int .u8) 5 v7 (x5 ++ x4), Ow (Kd.int .u8) 5 v5 x4, pt g1 38 ([(.bool x2.Has), (.int .i64 x2.O.Kind), v2, v3])] := hR
    refine stp hF (p_assign rfl) (by decide) (fun a hF => ?_)
    refine nilN ?_
    refine xn ?_
    refine rt ?_
    obtain rfl := hsm H
    replace hS := hS.sel (is := [0]) (A' := [Ow (Kd.int .u8) 5 v7 (x5 ++ x4)]) rfl
    exact ret1 hF rfl rfl hS ⟨v7, rfl, rfl⟩

def impl_flag.f (k : Nat) (x1 : Bool) : Option Int :=
  (if x1 = true then (some 1) else (some 0))
set_option maxRecDepth 100000 in
set_option maxHeartbeats 4000000 in
theorem impl_flag.spec (k : Nat) (s0 : HF) (w : World) (x1 : Bool) (r : Int) (H : impl_flag.f k x1 = some r) :
    Law Try.prog 67 #[(.bool x1)] s0 w [] (fun v s1 A1 => v = (.int .i64 r) ∧ A1 = []) := by
  unfold impl_flag.f at H
  refine Law.intro Try.func67 rfl [(0, (.bool x1))] (Nat.le_of_ble_eq_true rfl) (enter_lk ⟨rfl, trivial⟩) (fun e a hS hF => ?_)
  have hF : Fr 4 a [(0, (.bool x1))] := hF
  refine sq ?_
  refine rg ?_
  refine stp hF (p_assign rfl) (by decide) (fun a hF => ?_)
  refine nilN ?_
  refine xn ?_
  refine sq ?_
  refine sq ?_
  refine rg ?_
  refine stp hF (p_move rfl) (by decide) (fun a hF => ?_)
  refine nilN ?_
  refine xn ?_
  refine cnd hF rfl (fun hc1 => ?_) (fun hc1 => ?_)
  · replace H := hbt hc1 H
    refine sq ?_
    refine rg ?_
    refine stp hF (p_assign rfl) (by decide) (fun a hF => ?_)
    refine nilN ?_
    refine xn ?_
    refine rt ?_
    refine xr ?_
    obtain rfl := hsm H
    exact ret1 hF rfl rfl hS ⟨rfl, rfl⟩
  · replace H := hbf hc1 H
    refine skN ?_
    refine xn ?_
    refine sq ?_
    refine rg ?_
    refine stp hF (p_assign rfl) (by decide) (fun a hF => ?_)
    refine nilN ?_
    refine xn ?_
    refine rt ?_
    obtain rfl := hsm H
    exact ret1 hF rfl rfl hS ⟨rfl, rfl⟩

def impl_PutRec.c1 (k : Nat) (x1 : (List Int)) : Option (List Int) :=
  (some x1)
def impl_PutRec.l1 (x2 : TRec) : Nat → (List Int) → Int → Option (List Int)
  | 0, _, _ => none
  | k + 1, x3, x4 => (if (decide (x4 < (x2.Txs.length : Int))) = true then (if 0 ≤ x4 ∧ x4 < (x2.Txs.length : Int) then ((impl_putInt.f k x3 ((rd x2.Txs x4).Tx)).bind fun x5 => ((impl_putInt.f k x5 ((rd x2.Txs x4).Last)).bind fun x6 => ((impl_flag.f k ((rd x2.Txs x4).Aborts)).bind fun x7 => ((impl_putInt.f k x6 x7).bind fun x8 => ((impl_PutRec.l1 x2 k) x8 (w64 (x4 + 1))))))) else none) else (some x3))
def impl_PutRec.c2 (k : Nat) (x2 : TRec) (x9 : (List Int)) : Option (List Int) :=
  ((impl_putSlot.f k x9 x2.Before).bind fun x10 => ((impl_putSlot.f k x10 x2.After).bind fun x11 => ((impl_putInt.f k x11 (x2.Txs.length : Int)).bind fun x12 => (((impl_PutRec.l1 x2 k x12 0) : Option (List Int)).bind fun x13 => impl_PutRec.c1 k x13))))
def impl_PutRec.l2 (x2 : TRec) : Nat → (List Int) → Int → Option (List Int)
  | 0, _, _ => none
  | k + 1, x14, x15 => (if (decide (x15 < (([x2.Lsn, x2.Tx, x2.Prev, x2.Kind, x2.Oid, x2.Next] : List Int).length : Int))) = true then (if 0 ≤ x15 ∧ x15 < (([x2.Lsn, x2.Tx, x2.Prev, x2.Kind, x2.Oid, x2.Next] : List Int).length : Int) then ((impl_putInt.f k x14 (rd ([x2.Lsn, x2.Tx, x2.Prev, x2.Kind, x2.Oid, x2.Next] : List Int) x15)).bind fun x16 => ((impl_PutRec.l2 x2 k) x16 (w64 (x15 + 1)))) else none) else (some x14))
def impl_PutRec.f (k : Nat) (x2 : TRec) : Option (List Int) :=
  ((impl_RecOk.f k x2).bind fun x17 => (if (!x17) = true then (some ([] : List Int)) else (((impl_PutRec.l2 x2 k ([] : List Int) 0) : Option (List Int)).bind fun x18 => impl_PutRec.c2 k x2 x18)))
set_option maxRecDepth 100000 in
set_option maxHeartbeats 4000000 in
theorem impl_PutRec.spec (k : Nat) (s0 : HF) (w : World) (x2 : TRec) (v1 : Value) (v2 : Value) (v3 : Value) (v4 : Value) (v5 : Value) (h1 : Sl (Kd.int .i64) s0 v1 x2.Before.O.Ints) (h2 : Sl (Kd.int .i64) s0 v2 x2.Before.O.Refs) (h3 : Sl (Kd.int .i64) s0 v3 x2.After.O.Ints) (h4 : Sl (Kd.int .i64) s0 v4 x2.After.O.Refs) (h5 : Sl kTLive s0 v5 x2.Txs) (r : (List Int)) (H : impl_PutRec.f k x2 = some r) :
    Law Try.prog 22 #[(.agg #[(.int .i64 x2.Lsn), (.int .i64 x2.Tx), (.int .i64 x2.Prev), (.int .i64 x2.Kind), (.int .i64 x2.Oid), (.bool x2.Before.Has), (.int .i64 x2.Before.O.Kind), v1, v2, (.bool x2.After.Has), (.int .i64 x2.After.O.Kind), v3, v4, (.int .i64 x2.Next), v5])] s0 w [] (fun v s1 A1 => ∃ (u0 : Value), v = u0 ∧ A1 = [Ow (Kd.int .u8) 5 u0 r]) := by
  unfold impl_PutRec.f at H
  refine Law.intro Try.func22 rfl [(0, (.agg #[(.int .i64 x2.Lsn), (.int .i64 x2.Tx), (.int .i64 x2.Prev), (.int .i64 x2.Kind), (.int .i64 x2.Oid), (.bool x2.Before.Has), (.int .i64 x2.Before.O.Kind), v1, v2, (.bool x2.After.Has), (.int .i64 x2.After.O.Kind), v3, v4, (.int .i64 x2.Next), v5]))] (Nat.le_of_ble_eq_true rfl) (enter_lk ⟨rfl, trivial⟩) (fun e a hS hF => ?_)
  have hF : Fr 65 a [(0, (.agg #[(.int .i64 x2.Lsn), (.int .i64 x2.Tx), (.int .i64 x2.Prev), (.int .i64 x2.Kind), (.int .i64 x2.Oid), (.bool x2.Before.Has), (.int .i64 x2.Before.O.Kind), v1, v2, (.bool x2.After.Has), (.int .i64 x2.After.O.Kind), v3, v4, (.int .i64 x2.Next), v5]))] := hF
  refine sq ?_
  refine rg ?_
  refine ste hF (e_box (cs := [(.int .i64 x2.Lsn), (.int .i64 x2.Tx), (.int .i64 x2.Prev), (.int .i64 x2.Kind), (.int .i64 x2.Oid), (.bool x2.Before.Has), (.int .i64 x2.Before.O.Kind), v1, v2, (.bool x2.After.Has), (.int .i64 x2.After.O.Kind), v3, v4, (.int .i64 x2.Next), v5]) hS rfl rfl) (by decide) (fun v w a hR hF => ?_)
  obtain ⟨g1, rfl, hS⟩ := hR
  refine stp hF (p_assign rfl) (by decide) (fun a hF => ?_)
  refine nilN ?_
  refine xn ?_
  refine sq ?_
  refine sq ?_
  refine rg ?_
  refine stp hF (p_ldb_agg (i := 0) (l := []) (m := [(.int .i64 x2.Lsn), (.int .i64 x2.Tx), (.int .i64 x2.Prev), (.int .i64 x2.Kind), (.int .i64 x2.Oid), (.bool x2.Before.Has), (.int .i64 x2.Before.O.Kind), v1, v2, (.bool x2.After.Has), (.int .i64 x2.After.O.Kind), v3, v4, (.int .i64 x2.Next), v5]) (r := []) hS rfl rfl ia_41 ti_41 rfl rfl rfl) (by decide) (fun a hF => ?_)
  obtain ⟨x17, hx1, H⟩ := hb H
  refine ste hF (e_callA (fst := []) (vs := [(.agg #[(.int .i64 x2.Lsn), (.int .i64 x2.Tx), (.int .i64 x2.Prev), (.int .i64 x2.Kind), (.int .i64 x2.Oid), (.bool x2.Before.Has), (.int .i64 x2.Before.O.Kind), v1, v2, (.bool x2.After.Has), (.int .i64 x2.After.O.Kind), v3, v4, (.int .i64 x2.Next), v5])]) (cap := []) rfl rfl go_24 (St.call (A := []) (B := [pt g1 41 ([(.int .i64 x2.Lsn), (.int .i64 x2.Tx), (.int .i64 x2.Prev), (.int .i64 x2.Kind), (.int .i64 x2.Oid), (.bool x2.Before.Has), (.int .i64 x2.Before.O.Kind), v1, v2, (.bool x2.After.Has), (.int .i64 x2.After.O.Kind), v3, v4, (.int .i64 x2.Next), v5])]) hS (impl_RecOk.spec k _ _ x2 v1 v2 v3 v4 v5 h1 h2 h3 h4 h5 _ hx1)) rfl) (by decide) (fun v w a hR hF => ?_)
  obtain ⟨s2, A2, hg1, hS, hR⟩ := hR
  obtain ⟨hv1, rfl⟩ := hR; obtain rfl := hv1.symm
  have hS : St e s2 w [pt g1 41 ([(.int .i64 x2.Lsn), (.int .i64 x2.Tx), (.int .i64 x2.Prev), (.int .i64 x2.Kind), (.int .i64 x2.Oid), (.bool x2.Before.Has), (.int .i64 x2.Before.O.Kind), v1, v2, (.bool x2.After.Has), (.int .i64 x2.After.O.Kind), v3, v4, (.int .i64 x2.Next), v5])] := hS
  refine stp hF (p_not rfl) (by decide) (fun a hF => ?_)
  refine nilN ?_
  refine xn ?_
  refine cnd hF rfl (fun hc1 => ?_) (fun hc1 => ?_)
  · replace H := hbt hc1 H
    refine sq ?_
    refine rg ?_
    refine stp hF (p_assign rfl) (by decide) (fun a hF => ?_)
    refine nilN ?_
    refine xn ?_
    refine rt ?_
    refine xr ?_
    obtain rfl := hsm H
    replace hS := hS.ownNil (Kd.int .u8) 5 none
    replace hS := hS.sel (is := [0]) (A' := [Ow (Kd.int .u8) 5 (.slice none 0 0) ([] : List Int)]) rfl
    exact ret1 hF rfl rfl hS ⟨(.slice none 0 0), rfl, rfl⟩
  · replace H := hbf hc1 H
    refine skN ?_
    refine xn ?_
    refine sq ?_
    refine rg ?_
    refine stp hF (p_assign rfl) (by decide) (fun a hF => ?_)
    refine nilN ?_
    refine xn ?_
    obtain ⟨x18, H, HK1⟩ := hb H
    refine sqj (fun a w => ∃ (x9 : (List Int)) (s3 : HF) (v6 : Value) , St e s3 w [pt g1 41 ([(.int .i64 x2.Lsn), (.int .i64 x2.Tx), (.int .i64 x2.Prev), (.int .i64 x2.Kind), (.int .i64 x2.Oid), (.bool x2.Before.Has), (.int .i64 x2.Before.O.Kind), v1, v2, (.bool x2.After.Has), (.int .i64 x2.After.O.Kind), v3, v4, (.int .i64 x2.Next), v5]), Ow (Kd.int .u8) 5 v6 x9] ∧ Fr 65 a [(1, (.pointer (some ⟨g1, 0, none⟩))), (3, v6)] ∧ Sub s2 s3 ∧ impl_PutRec.c2 k x2 x9 = some r) ?_ ?_
    · skip
      refine sq ?_
      refine rg ?_
      refine stp hF (p_fldb (o' := 0) rfl fi_41_0 rfl) (by decide) (fun a hF => ?_)
      refine stp hF (p_ldb_one (i := 0) hS rfl rfl ia_3 rfl) (by decide) (fun a hF => ?_)
      refine stp hF (p_fldb (o' := 1) rfl fi_41_1 rfl) (by decide) (fun a hF => ?_)
      refine stp hF (p_ldb_one (i := 0) hS rfl rfl ia_3 rfl) (by decide) (fun a hF => ?_)
      refine stp hF (p_fldb (o' := 2) rfl fi_41_2 rfl) (by decide) (fun a hF => ?_)
      refine stp hF (p_ldb_one (i := 0) hS rfl rfl ia_3 rfl) (by decide) (fun a hF => ?_)
      refine stp hF (p_fldb (o' := 3) rfl fi_41_3 rfl) (by decide) (fun a hF => ?_)
      refine stp hF (p_ldb_one (i := 0) hS rfl rfl ia_3 rfl) (by decide) (fun a hF => ?_)
      refine stp hF (p_fldb (o' := 4) rfl fi_41_4 rfl) (by decide) (fun a hF => ?_)
      refine stp hF (p_ldb_one (i := 0) hS rfl rfl ia_3 rfl) (by decide) (fun a hF => ?_)
      refine stp hF (p_fldb (o' := 13) rfl fi_41_7 rfl) (by decide) (fun a hF => ?_)
      refine stp hF (p_ldb_one (i := 0) hS rfl rfl ia_3 rfl) (by decide) (fun a hF => ?_)
      refine ste hF (e_bslice (kd := (Kd.int .i64)) (et := 3) (ps := [(0, (.tmp 12)), (1, (.tmp 14)), (2, (.tmp 16)), (3, (.tmp 18)), (4, (.tmp 20)), (5, (.tmp 22))]) (vs := [(0, (.int .i64 x2.Lsn)), (1, (.int .i64 x2.Tx)), (2, (.int .i64 x2.Prev)), (3, (.int .i64 x2.Kind)), (4, (.int .i64 x2.Oid)), (5, (.int .i64 x2.Next))]) (cs := [(.int .i64 x2.Lsn), (.int .i64 x2.Tx), (.int .i64 x2.Prev), (.int .i64 x2.Kind), (.int .i64 x2.Oid), (.int .i64 x2.Next)]) (xs := ([x2.Lsn, x2.Tx, x2.Prev, x2.Kind, x2.Oid, x2.Next] : List Int)) hS rfl (by intro w; kernel_rfl) rfl (by decide) (Nat.le_of_ble_eq_true rfl) (by exact (rows_cons (kd := (Kd.int .i64)) (x := x2.Lsn) (c := [(.int .i64 x2.Lsn)]) (cs := [(.int .i64 x2.Tx), (.int .i64 x2.Prev), (.int .i64 x2.Kind), (.int .i64 x2.Oid), (.int .i64 x2.Next)]) rfl (rows_cons (kd := (Kd.int .i64)) (x := x2.Tx) (c := [(.int .i64 x2.Tx)]) (cs := [(.int .i64 x2.Prev), (.int .i64 x2.Kind), (.int .i64 x2.Oid), (.int .i64 x2.Next)]) rfl (rows_cons (kd := (Kd.int .i64)) (x := x2.Prev) (c := [(.int .i64 x2.Prev)]) (cs := [(.int .i64 x2.Kind), (.int .i64 x2.Oid), (.int .i64 x2.Next)]) rfl (rows_cons (kd := (Kd.int .i64)) (x := x2.Kind) (c := [(.int .i64 x2.Kind)]) (cs := [(.int .i64 x2.Oid), (.int .i64 x2.Next)]) rfl (rows_cons (kd := (Kd.int .i64)) (x := x2.Oid) (c := [(.int .i64 x2.Oid)]) (cs := [(.int .i64 x2.Next)]) rfl (rows_cons (kd := (Kd.int .i64)) (x := x2.Next) (c := [(.int .i64 x2.Next)]) (cs := []) rfl (Rows.nil _ _ _ _))))))))) (by decide) (fun v7 w a hR hF => ?_)
      have hS : St e s2 w [Ow (Kd.int .i64) 3 v7 ([x2.Lsn, x2.Tx, x2.Prev, x2.Kind, x2.Oid, x2.Next] : List Int), pt g1 41 ([(.int .i64 x2.Lsn), (.int .i64 x2.Tx), (.int .i64 x2.Prev), (.int .i64 x2.Kind), (.int .i64 x2.Oid), (.bool x2.Before.Has), (.int .i64 x2.Before.O.Kind), v1, v2, (.bool x2.After.Has), (.int .i64 x2.After.O.Kind), v3, v4, (.int .i64 x2.Next), v5])] := hR
      refine stp hF (p_leno (i := 0) hS rfl un_34 rfl) (by decide) (fun a hF => ?_)
      refine stp hF (p_move rfl) (by decide) (fun a hF => ?_)
      refine nilN ?_
      refine xn ?_
      refine blk ?_
      refine loop_ind (fun k1 a w => ∃ (x14 : (List Int)) (x15 : Int) (s4 : HF) (v8 : Value) , St e s4 w [Ow (Kd.int .i64) 3 v7 ([x2.Lsn, x2.Tx, x2.Prev, x2.Kind, x2.Oid, x2.Next] : List Int), pt g1 41 ([(.int .i64 x2.Lsn), (.int .i64 x2.Tx), (.int .i64 x2.Prev), (.int .i64 x2.Kind), (.int .i64 x2.Oid), (.bool x2.Before.Has), (.int .i64 x2.Before.O.Kind), v1, v2, (.bool x2.After.Has), (.int .i64 x2.After.O.Kind), v3, v4, (.int .i64 x2.Next), v5]), Ow (Kd.int .u8) 5 v8 x14] ∧ Fr 65 a [(1, (.pointer (some ⟨g1, 0, none⟩))), (3, v8), (23, v7), (24, (.int .i64 (([x2.Lsn, x2.Tx, x2.Prev, x2.Kind, x2.Oid, x2.Next] : List Int).length : Int))), (25, (.int .i64 x15))] ∧ Sub s2 s4 ∧ impl_PutRec.l2 x2 k1 x14 x15 = some x18) k ?_ ?_ ?_
      · skip
        replace hS := hS.ownNil (Kd.int .u8) 5 none
        replace hS := hS.sel (is := [1, 1, 0]) (A' := [Ow (Kd.int .i64) 3 v7 ([x2.Lsn, x2.Tx, x2.Prev, x2.Kind, x2.Oid, x2.Next] : List Int), pt g1 41 ([(.int .i64 x2.Lsn), (.int .i64 x2.Tx), (.int .i64 x2.Prev), (.int .i64 x2.Kind), (.int .i64 x2.Oid), (.bool x2.Before.Has), (.int .i64 x2.Before.O.Kind), v1, v2, (.bool x2.After.Has), (.int .i64 x2.After.O.Kind), v3, v4, (.int .i64 x2.Next), v5]), Ow (Kd.int .u8) 5 (.slice none 0 0) ([] : List Int)]) rfl
        exact ⟨([] : List Int), 0, s2, (.slice none 0 0), hS, hF.cut ⟨rfl, rfl, rfl, rfl, rfl, trivial⟩, (Sub.refl _), H⟩
      · clear H hS hF
        rintro a w ⟨x14, x15, s4, v8, hS, hF, hg2, H⟩
        exact absurd (show none = some _ from H) (by simp)
      · clear H hS hF
        rintro k1 a w ⟨x14, x15, s4, v8, hS, hF, hg2, H⟩
        rw [impl_PutRec.l2.eq_2] at H
        refine sq ?_
        refine rg ?_
        refine stp hF (p_lss rfl rfl) (by decide) (fun a hF => ?_)
        refine nilN ?_
        refine xn ?_
        refine sq ?_
        refine cnd hF rfl (fun hc2 => ?_) (fun hc2 => ?_)
        · replace H := hbt hc2 H
          refine skN ?_
          refine xn ?_
          refine sq ?_
          refine blk ?_
          refine sq ?_
          refine rg ?_
          obtain ⟨hq1, H⟩ := hck H
          obtain ⟨b1, o1, q1, hv2, p1⟩ := p_idxo (n := 0) (i := x15) hS rfl un_34 ti_3 hq1.1 hq1.2
          refine stp hF (p1 rfl rfl) (by decide) (fun a hF => ?_)
          obtain ⟨u1, h6, p2⟩ := p_ldo_one (P := Try.prog) (n := 0) hS rfl hv2 (Lens.id _) hq1.1 hq1.2 rfl ia_3 rfl
          obtain rfl : u1 = .int .i64 (rd ([x2.Lsn, x2.Tx, x2.Prev, x2.Kind, x2.Oid, x2.Next] : List Int) x15) := by injection h6
          refine stp hF (p2 rfl) (by decide) (fun a hF => ?_)
          refine stp hF (p_assign rfl) (by decide) (fun a hF => ?_)
          refine nilN ?_
          refine xn ?_
          refine rg ?_
          refine stp hF (p_move rfl) (by decide) (fun a hF => ?_)
          refine stp hF (p_move rfl) (by decide) (fun a hF => ?_)
          replace hS := hS.sel (is := [2, 0, 0]) (A' := [Ow (Kd.int .u8) 5 v8 x14, Ow (Kd.int .i64) 3 v7 ([x2.Lsn, x2.Tx, x2.Prev, x2.Kind, x2.Oid, x2.Next] : List Int), pt g1 41 ([(.int .i64 x2.Lsn), (.int .i64 x2.Tx), (.int .i64 x2.Prev), (.int .i64 x2.Kind), (.int .i64 x2.Oid), (.bool x2.Before.Has), (.int .i64 x2.Before.O.Kind), v1, v2, (.bool x2.After.Has), (.int .i64 x2.After.O.Kind), v3, v4, (.int .i64 x2.Next), v5])]) rfl
          obtain ⟨x16, hx2, H⟩ := hb H
          refine ste hF (e_callA (fst := []) (vs := [v8, (.int .i64 (rd ([x2.Lsn, x2.Tx, x2.Prev, x2.Kind, x2.Oid, x2.Next] : List Int) x15))]) (cap := []) rfl rfl go_68 (St.call (A := [Ow (Kd.int .u8) 5 v8 x14]) (B := [Ow (Kd.int .i64) 3 v7 ([x2.Lsn, x2.Tx, x2.Prev, x2.Kind, x2.Oid, x2.Next] : List Int), pt g1 41 ([(.int .i64 x2.Lsn), (.int .i64 x2.Tx), (.int .i64 x2.Prev), (.int .i64 x2.Kind), (.int .i64 x2.Oid), (.bool x2.Before.Has), (.int .i64 x2.Before.O.Kind), v1, v2, (.bool x2.After.Has), (.int .i64 x2.After.O.Kind), v3, v4, (.int .i64 x2.Next), v5])]) hS (impl_putInt.spec k1 _ _ x14 (rd ([x2.Lsn, x2.Tx, x2.Prev, x2.Kind, x2.Oid, x2.Next] : List Int) x15) v8 _ hx2)) rfl) (by decide) (fun v w a hR hF => ?_)
          obtain ⟨s5, A3, hg3, hS, hR⟩ := hR
          obtain ⟨v9, hv3, rfl⟩ := hR; obtain rfl := hv3.symm
          have hS : St e s5 w [Ow (Kd.int .u8) 5 v9 x16, Ow (Kd.int .i64) 3 v7 ([x2.Lsn, x2.Tx, x2.Prev, x2.Kind, x2.Oid, x2.Next] : List Int), pt g1 41 ([(.int .i64 x2.Lsn), (.int .i64 x2.Tx), (.int .i64 x2.Prev), (.int .i64 x2.Kind), (.int .i64 x2.Oid), (.bool x2.Before.Has), (.int .i64 x2.Before.O.Kind), v1, v2, (.bool x2.After.Has), (.int .i64 x2.After.O.Kind), v3, v4, (.int .i64 x2.Next), v5])] := hS
          refine stp hF (p_assign rfl) (by decide) (fun a hF => ?_)
          refine nilN ?_
          refine bn (xn ?_)
          refine rg ?_
          refine stp hF (p_add (c := w64 (x15 + 1)) rfl rfl rfl) (by decide) (fun a hF => ?_)
          refine stp hF (p_move rfl) (by decide) (fun a hF => ?_)
          refine nilN ?_
          refine xn ?_
          replace hS := hS.sel (is := [1, 1, 0]) (A' := [Ow (Kd.int .i64) 3 v7 ([x2.Lsn, x2.Tx, x2.Prev, x2.Kind, x2.Oid, x2.Next] : List Int), pt g1 41 ([(.int .i64 x2.Lsn), (.int .i64 x2.Tx), (.int .i64 x2.Prev), (.int .i64 x2.Kind), (.int .i64 x2.Oid), (.bool x2.Before.Has), (.int .i64 x2.Before.O.Kind), v1, v2, (.bool x2.After.Has), (.int .i64 x2.After.O.Kind), v3, v4, (.int .i64 x2.Next), v5]), Ow (Kd.int .u8) 5 v9 x16]) rfl
          exact ⟨x16, (w64 (x15 + 1)), s5, v9, hS, hF.cut ⟨rfl, rfl, rfl, rfl, rfl, trivial⟩, (hg2.trans hg3), H⟩
        · replace H := hbf hc2 H
          refine exi ?_
          refine xe (xe (hit (xn ?_)))
          obtain rfl := hsm H
          replace hS := hS.sel (is := [1, 1]) (A' := [pt g1 41 ([(.int .i64 x2.Lsn), (.int .i64 x2.Tx), (.int .i64 x2.Prev), (.int .i64 x2.Kind), (.int .i64 x2.Oid), (.bool x2.Before.Has), (.int .i64 x2.Before.O.Kind), v1, v2, (.bool x2.After.Has), (.int .i64 x2.After.O.Kind), v3, v4, (.int .i64 x2.Next), v5]), Ow (Kd.int .u8) 5 v8 x14]) rfl
          exact ⟨x14, s4, v8, hS, hF.cut ⟨rfl, rfl, trivial⟩, hg2, HK1⟩
    · clear H HK1 hS hF
      rintro a w ⟨x9, s3, v6, hS, hF, hg4, H⟩
      unfold impl_PutRec.c2 at H
      refine sq ?_
      replace hS : St e s3 w.drew [pt g1 41 ([(.int .i64 x2.Lsn), (.int .i64 x2.Tx), (.int .i64 x2.Prev), (.int .i64 x2.Kind), (.int .i64 x2.Oid), (.bool x2.Before.Has), (.int .i64 x2.Before.O.Kind), v1, v2, (.bool x2.After.Has), (.int .i64 x2.After.O.Kind), v3, v4, (.int .i64 x2.Next), v5]), Ow (Kd.int .u8) 5 v6 x9] := hS.drewN 1
      refine drw [0, 1, 2, 3, 4, 5, 6, 7] mixed (by kernel_rfl) (by decide) (hF.cut (L' := [(1, (.pointer (some ⟨g1, 0, none⟩))), (3, v6)]) ⟨rfl, rfl, trivial⟩) ?_
      clear hF
      generalize w.drew = w at hS ⊢
      refine pk1 rfl (by decide) rfl (by kernel_rfl) rfl (p_move rfl) ?_
      refine pk1 rfl (by decide) rfl (by kernel_rfl) rfl (p_fldb (o' := 5) rfl fi_41_5 rfl) ?_
      refine pk1 rfl (by decide) rfl (by kernel_rfl) rfl (p_ldb_agg (i := 0) (l := [(.int .i64 x2.Lsn), (.int .i64 x2.Tx), (.int .i64 x2.Prev), (.int .i64 x2.Kind), (.int .i64 x2.Oid)]) (m := [(.bool x2.Before.Has), (.int .i64 x2.Before.O.Kind), v1, v2]) (r := [(.bool x2.After.Has), (.int .i64 x2.After.O.Kind), v3, v4, (.int .i64 x2.Next), v5]) hS rfl rfl ia_38 ti_38 rfl rfl rfl) ?_
      refine pkPerm [4, 3, 5, 6, 7] (by kernel_rfl) ?_
      refine pk1 rfl (by decide) rfl (by kernel_rfl) rfl (p_fldb (o' := 9) rfl fi_41_6 rfl) ?_
      refine pkPerm [5, 3, 6, 7] (by kernel_rfl) ?_
      refine pk1 rfl (by decide) rfl (by kernel_rfl) rfl (p_ldb_agg (i := 0) (l := [(.int .i64 x2.Lsn), (.int .i64 x2.Tx), (.int .i64 x2.Prev), (.int .i64 x2.Kind), (.int .i64 x2.Oid), (.bool x2.Before.Has), (.int .i64 x2.Before.O.Kind), v1, v2]) (m := [(.bool x2.After.Has), (.int .i64 x2.After.O.Kind), v3, v4]) (r := [(.int .i64 x2.Next), v5]) hS rfl rfl ia_38 ti_38 rfl rfl rfl) ?_
      replace hS := hS.sel (is := [1, 0]) (A' := [Ow (Kd.int .u8) 5 v6 x9, pt g1 41 ([(.int .i64 x2.Lsn), (.int .i64 x2.Tx), (.int .i64 x2.Prev), (.int .i64 x2.Kind), (.int .i64 x2.Oid), (.bool x2.Before.Has), (.int .i64 x2.Before.O.Kind), v1, v2, (.bool x2.After.Has), (.int .i64 x2.After.O.Kind), v3, v4, (.int .i64 x2.Next), v5])]) rfl
      obtain ⟨x10, hx3, H⟩ := hb H
      refine pkE [5, 4, 1] rfl (by decide) (by kernel_rfl) (by kernel_rfl) (e_callA (fst := []) (vs := [v6, (.agg #[(.bool x2.Before.Has), (.int .i64 x2.Before.O.Kind), v1, v2])]) (cap := []) rfl rfl go_69 (St.call (A := [Ow (Kd.int .u8) 5 v6 x9]) (B := [pt g1 41 ([(.int .i64 x2.Lsn), (.int .i64 x2.Tx), (.int .i64 x2.Prev), (.int .i64 x2.Kind), (.int .i64 x2.Oid), (.bool x2.Before.Has), (.int .i64 x2.Before.O.Kind), v1, v2, (.bool x2.After.Has), (.int .i64 x2.After.O.Kind), v3, v4, (.int .i64 x2.Next), v5])]) hS (impl_putSlot.spec k _ _ x9 x2.Before v6 v1 v2 ((h1.mono hg1).mono hg4) ((h2.mono hg1).mono hg4) _ hx3)) rfl) ?_
      intro v w hR
      obtain ⟨s6, A4, hg5, hS, hR⟩ := hR
      obtain ⟨v10, hv4, rfl⟩ := hR; obtain rfl := hv4.symm
      have hS : St e s6 w [Ow (Kd.int .u8) 5 v10 x10, pt g1 41 ([(.int .i64 x2.Lsn), (.int .i64 x2.Tx), (.int .i64 x2.Prev), (.int .i64 x2.Kind), (.int .i64 x2.Oid), (.bool x2.Before.Has), (.int .i64 x2.Before.O.Kind), v1, v2, (.bool x2.After.Has), (.int .i64 x2.After.O.Kind), v3, v4, (.int .i64 x2.Next), v5])] := hS
      refine ⟨⟨knw rfl rfl rfl (p_ldb_agg (i := 1) (l := [(.int .i64 x2.Lsn), (.int .i64 x2.Tx), (.int .i64 x2.Prev), (.int .i64 x2.Kind), (.int .i64 x2.Oid), (.bool x2.Before.Has), (.int .i64 x2.Before.O.Kind), v1, v2]) (m := [(.bool x2.After.Has), (.int .i64 x2.After.O.Kind), v3, v4]) (r := [(.int .i64 x2.Next), v5]) hS rfl rfl ia_38 ti_38 rfl rfl rfl), ⟨knw rfl rfl rfl (p_fldb (o' := 9) rfl fi_41_6 rfl), ⟨knw rfl rfl rfl (p_fldb (o' := 5) rfl fi_41_5 rfl), trivial⟩⟩⟩, ?_⟩
      obtain ⟨x11, hx4, H⟩ := hb H
      refine pkE [4, 1] rfl (by decide) (by kernel_rfl) (by kernel_rfl) (e_callA (fst := []) (vs := [v10, (.agg #[(.bool x2.After.Has), (.int .i64 x2.After.O.Kind), v3, v4])]) (cap := []) rfl rfl go_69 (St.call (A := [Ow (Kd.int .u8) 5 v10 x10]) (B := [pt g1 41 ([(.int .i64 x2.Lsn), (.int .i64 x2.Tx), (.int .i64 x2.Prev), (.int .i64 x2.Kind), (.int .i64 x2.Oid), (.bool x2.Before.Has), (.int .i64 x2.Before.O.Kind), v1, v2, (.bool x2.After.Has), (.int .i64 x2.After.O.Kind), v3, v4, (.int .i64 x2.Next), v5])]) hS (impl_putSlot.spec k _ _ x10 x2.After v10 v3 v4 (((h3.mono hg1).mono hg4).mono hg5) (((h4.mono hg1).mono hg4).mono hg5) _ hx4)) rfl) ?_
      intro v w hR
      obtain ⟨s7, A5, hg6, hS, hR⟩ := hR
      obtain ⟨v11, hv5, rfl⟩ := hR; obtain rfl := hv5.symm
      have hS : St e s7 w [Ow (Kd.int .u8) 5 v11 x11, pt g1 41 ([(.int .i64 x2.Lsn), (.int .i64 x2.Tx), (.int .i64 x2.Prev), (.int .i64 x2.Kind), (.int .i64 x2.Oid), (.bool x2.Before.Has), (.int .i64 x2.Before.O.Kind), v1, v2, (.bool x2.After.Has), (.int .i64 x2.After.O.Kind), v3, v4, (.int .i64 x2.Next), v5])] := hS
      refine ⟨⟨knw rfl rfl rfl (p_fldb (o' := 9) rfl fi_41_6 rfl), ⟨knw rfl rfl rfl (p_fldb (o' := 5) rfl fi_41_5 rfl), trivial⟩⟩, ?_⟩
      refine pkE [] rfl (by decide) (by kernel_rfl) (by kernel_rfl) (puEf (p_assign rfl)) ?_
      rintro v w' ⟨hv, rfl⟩
      obtain rfl := hv.symm
      refine ⟨trivial, ?_⟩
      refine pkF (fun a hF => ?_)
      refine xn ?_
      refine sq ?_
      refine rg ?_
      refine stp hF (p_move rfl) (by decide) (fun a hF => ?_)
      refine stp hF (p_fldb (o' := 14) rfl fi_41_8 rfl) (by decide) (fun a hF => ?_)
      refine stp hF (p_ldb_one (i := 1) hS rfl rfl ia_39 rfl) (by decide) (fun a hF => ?_)
      refine stp hF (p_lenr un_39 rfl ((((h5.mono hg1).mono hg4).mono hg5).mono hg6)) (by decide) (fun a hF => ?_)
      obtain ⟨x12, hx5, H⟩ := hb H
      refine ste hF (e_callA (fst := []) (vs := [v11, (.int .i64 (x2.Txs.length : Int))]) (cap := []) rfl rfl go_68 (St.call (A := [Ow (Kd.int .u8) 5 v11 x11]) (B := [pt g1 41 ([(.int .i64 x2.Lsn), (.int .i64 x2.Tx), (.int .i64 x2.Prev), (.int .i64 x2.Kind), (.int .i64 x2.Oid), (.bool x2.Before.Has), (.int .i64 x2.Before.O.Kind), v1, v2, (.bool x2.After.Has), (.int .i64 x2.After.O.Kind), v3, v4, (.int .i64 x2.Next), v5])]) hS (impl_putInt.spec k _ _ x11 (x2.Txs.length : Int) v11 _ hx5)) rfl) (by decide) (fun v w a hR hF => ?_)
      obtain ⟨s8, A6, hg7, hS, hR⟩ := hR
      obtain ⟨v12, hv6, rfl⟩ := hR; obtain rfl := hv6.symm
      have hS : St e s8 w [Ow (Kd.int .u8) 5 v12 x12, pt g1 41 ([(.int .i64 x2.Lsn), (.int .i64 x2.Tx), (.int .i64 x2.Prev), (.int .i64 x2.Kind), (.int .i64 x2.Oid), (.bool x2.Before.Has), (.int .i64 x2.Before.O.Kind), v1, v2, (.bool x2.After.Has), (.int .i64 x2.After.O.Kind), v3, v4, (.int .i64 x2.Next), v5])] := hS
      refine stp hF (p_assign rfl) (by decide) (fun a hF => ?_)
      refine nilN ?_
      refine xn ?_
      obtain ⟨x13, H, HK2⟩ := hb H
      refine sqj (fun a w => ∃ (x1 : (List Int)) (s9 : HF) (v13 : Value) , St e s9 w [pt g1 41 ([(.int .i64 x2.Lsn), (.int .i64 x2.Tx), (.int .i64 x2.Prev), (.int .i64 x2.Kind), (.int .i64 x2.Oid), (.bool x2.Before.Has), (.int .i64 x2.Before.O.Kind), v1, v2, (.bool x2.After.Has), (.int .i64 x2.After.O.Kind), v3, v4, (.int .i64 x2.Next), v5]), Ow (Kd.int .u8) 5 v13 x1] ∧ Fr 65 a [(3, v13)] ∧ Sub s8 s9 ∧ impl_PutRec.c1 k x1 = some r) ?_ ?_
      · skip
        refine sq ?_
        refine rg ?_
        refine stp hF (p_fldb (o' := 14) rfl fi_41_8 rfl) (by decide) (fun a hF => ?_)
        refine stp hF (p_ldb_one (i := 1) hS rfl rfl ia_39 rfl) (by decide) (fun a hF => ?_)
        refine stp hF (p_lenr un_39 rfl (((((h5.mono hg1).mono hg4).mono hg5).mono hg6).mono hg7)) (by decide) (fun a hF => ?_)
        refine stp hF (p_move rfl) (by decide) (fun a hF => ?_)
        refine nilN ?_
        refine xn ?_
        refine blk ?_
        refine loop_ind (fun k2 a w => ∃ (x3 : (List Int)) (x4 : Int) (s10 : HF) (v14 : Value) , St e s10 w [pt g1 41 ([(.int .i64 x2.Lsn), (.int .i64 x2.Tx), (.int .i64 x2.Prev), (.int .i64 x2.Kind), (.int .i64 x2.Oid), (.bool x2.Before.Has), (.int .i64 x2.Before.O.Kind), v1, v2, (.bool x2.After.Has), (.int .i64 x2.After.O.Kind), v3, v4, (.int .i64 x2.Next), v5]), Ow (Kd.int .u8) 5 v14 x3] ∧ Fr 65 a [(3, v14), (46, v5), (47, (.int .i64 (x2.Txs.length : Int))), (48, (.int .i64 x4))] ∧ Sub s8 s10 ∧ impl_PutRec.l1 x2 k2 x3 x4 = some x13) k ?_ ?_ ?_
        · skip
          replace hS := hS.sel (is := [1, 0]) (A' := [pt g1 41 ([(.int .i64 x2.Lsn), (.int .i64 x2.Tx), (.int .i64 x2.Prev), (.int .i64 x2.Kind), (.int .i64 x2.Oid), (.bool x2.Before.Has), (.int .i64 x2.Before.O.Kind), v1, v2, (.bool x2.After.Has), (.int .i64 x2.After.O.Kind), v3, v4, (.int .i64 x2.Next), v5]), Ow (Kd.int .u8) 5 v12 x12]) rfl
          exact ⟨x12, 0, s8, v12, hS, hF.cut ⟨rfl, rfl, rfl, rfl, trivial⟩, (Sub.refl _), H⟩
        · clear H hS hF
          rintro a w ⟨x3, x4, s10, v14, hS, hF, hg8, H⟩
          exact absurd (show none = some _ from H) (by simp)
        · clear H hS hF
          rintro k2 a w ⟨x3, x4, s10, v14, hS, hF, hg8, H⟩
          rw [impl_PutRec.l1.eq_2] at H
          refine sq ?_
          refine rg ?_
          refine stp hF (p_lss rfl rfl) (by decide) (fun a hF => ?_)
          refine nilN ?_
          refine xn ?_
          refine sq ?_
          refine cnd hF rfl (fun hc3 => ?_) (fun hc3 => ?_)
          · replace H := hbt hc3 H
            refine skN ?_
            refine xn ?_
            refine sq ?_
            refine blk ?_
            refine sq ?_
            refine rg ?_
            obtain ⟨hq2, H⟩ := hck H
            obtain ⟨ad1, h7, p3⟩ := p_idxr (P := Try.prog) (i := x4) ((((((h5.mono hg1).mono hg4).mono hg5).mono hg6).mono hg7).mono hg8) un_39 ti_91 hq2.1 hq2.2
            refine stp hF (p3 rfl rfl) (by decide) (fun a hF => ?_)
            obtain ⟨c3, h8, p4⟩ := p_ldr_agg (P := Try.prog) h7 ia_91 ti_91
            obtain rfl := kTLive_open h8
            refine stp hF (p4 rfl hS.ro) (by decide) (fun a hF => ?_)
            refine ste hF (e_alloc (cs := [(.int .i64 0), (.int .i64 0), (.bool false)]) hS ti_91 rfl) (by decide) (fun v w a hR hF => ?_)
            obtain ⟨g2, rfl, hS⟩ := hR
            refine ste0 hF (e_stb (i := 0) (l := []) (m := [(.int .i64 0), (.int .i64 0), (.bool false)]) (r := []) (m' := [(.int .i64 ((rd x2.Txs x4).Tx)), (.int .i64 ((rd x2.Txs x4).Last)), (.bool ((rd x2.Txs x4).Aborts))]) (cs' := [(.int .i64 ((rd x2.Txs x4).Tx)), (.int .i64 ((rd x2.Txs x4).Last)), (.bool ((rd x2.Txs x4).Aborts))]) hS rfl rfl rfl ti_91 rfl rfl rfl rfl rfl (one_cons rfl (one_cons rfl (one_cons rfl one_nil))) rfl) (fun v w a hR hF => ?_)
            have hS : St e s10 w [pt g2 91 ([(.int .i64 ((rd x2.Txs x4).Tx)), (.int .i64 ((rd x2.Txs x4).Last)), (.bool ((rd x2.Txs x4).Aborts))]), pt g1 41 ([(.int .i64 x2.Lsn), (.int .i64 x2.Tx), (.int .i64 x2.Prev), (.int .i64 x2.Kind), (.int .i64 x2.Oid), (.bool x2.Before.Has), (.int .i64 x2.Before.O.Kind), v1, v2, (.bool x2.After.Has), (.int .i64 x2.After.O.Kind), v3, v4, (.int .i64 x2.Next), v5]), Ow (Kd.int .u8) 5 v14 x3] := hR
            refine nilN ?_
            refine xn ?_
            replace hS : St e s10 w.drew [pt g2 91 ([(.int .i64 ((rd x2.Txs x4).Tx)), (.int .i64 ((rd x2.Txs x4).Last)), (.bool ((rd x2.Txs x4).Aborts))]), pt g1 41 ([(.int .i64 x2.Lsn), (.int .i64 x2.Tx), (.int .i64 x2.Prev), (.int .i64 x2.Kind), (.int .i64 x2.Oid), (.bool x2.Before.Has), (.int .i64 x2.Before.O.Kind), v1, v2, (.bool x2.After.Has), (.int .i64 x2.After.O.Kind), v3, v4, (.int .i64 x2.Next), v5]), Ow (Kd.int .u8) 5 v14 x3] := hS.drewN 1
            refine drw [0, 1, 2, 3, 4, 5, 6, 7, 8, 9, 10, 11] mixed (by kernel_rfl) (by decide) (hF.cut (L' := [(3, v14), (7, (.pointer (some ⟨g2, 0, none⟩))), (46, v5), (47, (.int .i64 (x2.Txs.length : Int))), (48, (.int .i64 x4)), (49, (.bool (decide (x4 < (x2.Txs.length : Int))))), (50, (.pointer (some ad1))), (51, (.agg #[(.int .i64 ((rd x2.Txs x4).Tx)), (.int .i64 ((rd x2.Txs x4).Last)), (.bool ((rd x2.Txs x4).Aborts))]))]) ⟨rfl, rfl, rfl, rfl, rfl, rfl, rfl, rfl, trivial⟩) ?_
            clear hF
            generalize w.drew = w at hS ⊢
            refine pk1 rfl (by decide) rfl (by kernel_rfl) rfl (p_move rfl) ?_
            refine pk1 rfl (by decide) rfl (by kernel_rfl) rfl (p_fldb (o' := 0) rfl fi_91_0 rfl) ?_
            refine pk1 rfl (by decide) rfl (by kernel_rfl) rfl (p_ldb_one (i := 0) hS rfl rfl ia_3 rfl) ?_
            refine pkPerm [4, 3, 5, 6, 7, 8, 9, 10, 11] (by kernel_rfl) ?_
            refine pk1 rfl (by decide) rfl (by kernel_rfl) rfl (p_fldb (o' := 1) rfl fi_91_1 rfl) ?_
            refine pkPerm [5, 3, 6, 7, 8, 9, 10, 11] (by kernel_rfl) ?_
            refine pk1 rfl (by decide) rfl (by kernel_rfl) rfl (p_ldb_one (i := 0) hS rfl rfl ia_3 rfl) ?_
            refine pkPerm [7, 3, 6, 8, 9, 10, 11] (by kernel_rfl) ?_
            refine pk1 rfl (by decide) rfl (by kernel_rfl) rfl (p_fldb (o' := 2) rfl fi_91_2 rfl) ?_
            refine pkPerm [8, 3, 6, 9, 10, 11] (by kernel_rfl) ?_
            refine pk1 rfl (by decide) rfl (by kernel_rfl) rfl (p_ldb_one (i := 0) hS rfl rfl ia_4 rfl) ?_
            replace hS := hS.sel (is := [2, 0, 0]) (A' := [Ow (Kd.int .u8) 5 v14 x3, pt g2 91 ([(.int .i64 ((rd x2.Txs x4).Tx)), (.int .i64 ((rd x2.Txs x4).Last)), (.bool ((rd x2.Txs x4).Aborts))]), pt g1 41 ([(.int .i64 x2.Lsn), (.int .i64 x2.Tx), (.int .i64 x2.Prev), (.int .i64 x2.Kind), (.int .i64 x2.Oid), (.bool x2.Before.Has), (.int .i64 x2.Before.O.Kind), v1, v2, (.bool x2.After.Has), (.int .i64 x2.After.O.Kind), v3, v4, (.int .i64 x2.Next), v5])]) rfl
            obtain ⟨x5, hx6, H⟩ := hb H
            refine pkE [8, 7, 5, 4, 1] rfl (by decide) (by kernel_rfl) (by kernel_rfl) (e_callA (fst := []) (vs := [v14, (.int .i64 ((rd x2.Txs x4).Tx))]) (cap := []) rfl rfl go_68 (St.call (A := [Ow (Kd.int .u8) 5 v14 x3]) (B := [pt g2 91 ([(.int .i64 ((rd x2.Txs x4).Tx)), (.int .i64 ((rd x2.Txs x4).Last)), (.bool ((rd x2.Txs x4).Aborts))]), pt g1 41 ([(.int .i64 x2.Lsn), (.int .i64 x2.Tx), (.int .i64 x2.Prev), (.int .i64 x2.Kind), (.int .i64 x2.Oid), (.bool x2.Before.Has), (.int .i64 x2.Before.O.Kind), v1, v2, (.bool x2.After.Has), (.int .i64 x2.After.O.Kind), v3, v4, (.int .i64 x2.Next), v5])]) hS (impl_putInt.spec k2 _ _ x3 ((rd x2.Txs x4).Tx) v14 _ hx6)) rfl) ?_
            intro v w hR
            obtain ⟨s11, A7, hg9, hS, hR⟩ := hR
            obtain ⟨v15, hv7, rfl⟩ := hR; obtain rfl := hv7.symm
            have hS : St e s11 w [Ow (Kd.int .u8) 5 v15 x5, pt g2 91 ([(.int .i64 ((rd x2.Txs x4).Tx)), (.int .i64 ((rd x2.Txs x4).Last)), (.bool ((rd x2.Txs x4).Aborts))]), pt g1 41 ([(.int .i64 x2.Lsn), (.int .i64 x2.Tx), (.int .i64 x2.Prev), (.int .i64 x2.Kind), (.int .i64 x2.Oid), (.bool x2.Before.Has), (.int .i64 x2.Before.O.Kind), v1, v2, (.bool x2.After.Has), (.int .i64 x2.After.O.Kind), v3, v4, (.int .i64 x2.Next), v5])] := hS
            refine ⟨⟨knw rfl rfl rfl (p_ldb_one (i := 1) hS rfl rfl ia_4 rfl), ⟨knw rfl rfl rfl (p_fldb (o' := 2) rfl fi_91_2 rfl), ⟨knw rfl rfl rfl (p_ldb_one (i := 1) hS rfl rfl ia_3 rfl), ⟨knw rfl rfl rfl (p_fldb (o' := 1) rfl fi_91_1 rfl), ⟨knw rfl rfl rfl (p_fldb (o' := 0) rfl fi_91_0 rfl), trivial⟩⟩⟩⟩⟩, ?_⟩
            obtain ⟨x6, hx7, H⟩ := hb H
            refine pkE [8, 7, 4, 1] rfl (by decide) (by kernel_rfl) (by kernel_rfl) (e_callA (fst := []) (vs := [v15, (.int .i64 ((rd x2.Txs x4).Last))]) (cap := []) rfl rfl go_68 (St.call (A := [Ow (Kd.int .u8) 5 v15 x5]) (B := [pt g2 91 ([(.int .i64 ((rd x2.Txs x4).Tx)), (.int .i64 ((rd x2.Txs x4).Last)), (.bool ((rd x2.Txs x4).Aborts))]), pt g1 41 ([(.int .i64 x2.Lsn), (.int .i64 x2.Tx), (.int .i64 x2.Prev), (.int .i64 x2.Kind), (.int .i64 x2.Oid), (.bool x2.Before.Has), (.int .i64 x2.Before.O.Kind), v1, v2, (.bool x2.After.Has), (.int .i64 x2.After.O.Kind), v3, v4, (.int .i64 x2.Next), v5])]) hS (impl_putInt.spec k2 _ _ x5 ((rd x2.Txs x4).Last) v15 _ hx7)) rfl) ?_
            intro v w hR
            obtain ⟨s12, A8, hg10, hS, hR⟩ := hR
            obtain ⟨v16, hv8, rfl⟩ := hR; obtain rfl := hv8.symm
            have hS : St e s12 w [Ow (Kd.int .u8) 5 v16 x6, pt g2 91 ([(.int .i64 ((rd x2.Txs x4).Tx)), (.int .i64 ((rd x2.Txs x4).Last)), (.bool ((rd x2.Txs x4).Aborts))]), pt g1 41 ([(.int .i64 x2.Lsn), (.int .i64 x2.Tx), (.int .i64 x2.Prev), (.int .i64 x2.Kind), (.int .i64 x2.Oid), (.bool x2.Before.Has), (.int .i64 x2.Before.O.Kind), v1, v2, (.bool x2.After.Has), (.int .i64 x2.After.O.Kind), v3, v4, (.int .i64 x2.Next), v5])] := hS
            refine ⟨⟨knw rfl rfl rfl (p_ldb_one (i := 1) hS rfl rfl ia_4 rfl), ⟨knw rfl rfl rfl (p_fldb (o' := 2) rfl fi_91_2 rfl), ⟨knw rfl rfl rfl (p_fldb (o' := 1) rfl fi_91_1 rfl), ⟨knw rfl rfl rfl (p_fldb (o' := 0) rfl fi_91_0 rfl), trivial⟩⟩⟩⟩, ?_⟩
            obtain ⟨x7, hx8, H⟩ := hb H
            refine pkE [7, 4, 1] rfl (by decide) (by kernel_rfl) (by kernel_rfl) (e_callA (fst := []) (vs := [(.bool ((rd x2.Txs x4).Aborts))]) (cap := []) rfl rfl go_67 (St.call (A := []) (B := [Ow (Kd.int .u8) 5 v16 x6, pt g2 91 ([(.int .i64 ((rd x2.Txs x4).Tx)), (.int .i64 ((rd x2.Txs x4).Last)), (.bool ((rd x2.Txs x4).Aborts))]), pt g1 41 ([(.int .i64 x2.Lsn), (.int .i64 x2.Tx), (.int .i64 x2.Prev), (.int .i64 x2.Kind), (.int .i64 x2.Oid), (.bool x2.Before.Has), (.int .i64 x2.Before.O.Kind), v1, v2, (.bool x2.After.Has), (.int .i64 x2.After.O.Kind), v3, v4, (.int .i64 x2.Next), v5])]) hS (impl_flag.spec k2 _ _ ((rd x2.Txs x4).Aborts) _ hx8)) rfl) ?_
            intro v w hR
            obtain ⟨s13, A9, hg11, hS, hR⟩ := hR
            obtain ⟨hv9, rfl⟩ := hR; obtain rfl := hv9.symm
            have hS : St e s13 w [Ow (Kd.int .u8) 5 v16 x6, pt g2 91 ([(.int .i64 ((rd x2.Txs x4).Tx)), (.int .i64 ((rd x2.Txs x4).Last)), (.bool ((rd x2.Txs x4).Aborts))]), pt g1 41 ([(.int .i64 x2.Lsn), (.int .i64 x2.Tx), (.int .i64 x2.Prev), (.int .i64 x2.Kind), (.int .i64 x2.Oid), (.bool x2.Before.Has), (.int .i64 x2.Before.O.Kind), v1, v2, (.bool x2.After.Has), (.int .i64 x2.After.O.Kind), v3, v4, (.int .i64 x2.Next), v5])] := hS
            refine ⟨⟨knw rfl rfl rfl (p_fldb (o' := 2) rfl fi_91_2 rfl), ⟨knw rfl rfl rfl (p_fldb (o' := 1) rfl fi_91_1 rfl), ⟨knw rfl rfl rfl (p_fldb (o' := 0) rfl fi_91_0 rfl), trivial⟩⟩⟩, ?_⟩
            obtain ⟨x8, hx9, H⟩ := hb H
            refine pkE [7, 4, 1] rfl (by decide) (by kernel_rfl) (by kernel_rfl) (e_callA (fst := []) (vs := [v16, (.int .i64 x7)]) (cap := []) rfl rfl go_68 (St.call (A := [Ow (Kd.int .u8) 5 v16 x6]) (B := [pt g2 91 ([(.int .i64 ((rd x2.Txs x4).Tx)), (.int .i64 ((rd x2.Txs x4).Last)), (.bool ((rd x2.Txs x4).Aborts))]), pt g1 41 ([(.int .i64 x2.Lsn), (.int .i64 x2.Tx), (.int .i64 x2.Prev), (.int .i64 x2.Kind), (.int .i64 x2.Oid), (.bool x2.Before.Has), (.int .i64 x2.Before.O.Kind), v1, v2, (.bool x2.After.Has), (.int .i64 x2.After.O.Kind), v3, v4, (.int .i64 x2.Next), v5])]) hS (impl_putInt.spec k2 _ _ x6 x7 v16 _ hx9)) rfl) ?_
            intro v w hR
            obtain ⟨s14, A10, hg12, hS, hR⟩ := hR
            obtain ⟨v17, hv10, rfl⟩ := hR; obtain rfl := hv10.symm
            have hS : St e s14 w [Ow (Kd.int .u8) 5 v17 x8, pt g2 91 ([(.int .i64 ((rd x2.Txs x4).Tx)), (.int .i64 ((rd x2.Txs x4).Last)), (.bool ((rd x2.Txs x4).Aborts))]), pt g1 41 ([(.int .i64 x2.Lsn), (.int .i64 x2.Tx), (.int .i64 x2.Prev), (.int .i64 x2.Kind), (.int .i64 x2.Oid), (.bool x2.Before.Has), (.int .i64 x2.Before.O.Kind), v1, v2, (.bool x2.After.Has), (.int .i64 x2.After.O.Kind), v3, v4, (.int .i64 x2.Next), v5])] := hS
            refine ⟨⟨knw rfl rfl rfl (p_fldb (o' := 2) rfl fi_91_2 rfl), ⟨knw rfl rfl rfl (p_fldb (o' := 1) rfl fi_91_1 rfl), ⟨knw rfl rfl rfl (p_fldb (o' := 0) rfl fi_91_0 rfl), trivial⟩⟩⟩, ?_⟩
            refine pkE [] rfl (by decide) (by kernel_rfl) (by kernel_rfl) (puEf (p_assign rfl)) ?_
            rintro v w' ⟨hv, rfl⟩
            obtain rfl := hv.symm
            refine ⟨trivial, ?_⟩
            refine pkF (fun a hF => ?_)
            refine bn (xn ?_)
            refine rg ?_
            refine stp hF (p_add (c := w64 (x4 + 1)) rfl rfl rfl) (by decide) (fun a hF => ?_)
            refine stp hF (p_move rfl) (by decide) (fun a hF => ?_)
            refine nilN ?_
            refine xn ?_
            replace hS := hS.sel (is := [2, 0]) (A' := [pt g1 41 ([(.int .i64 x2.Lsn), (.int .i64 x2.Tx), (.int .i64 x2.Prev), (.int .i64 x2.Kind), (.int .i64 x2.Oid), (.bool x2.Before.Has), (.int .i64 x2.Before.O.Kind), v1, v2, (.bool x2.After.Has), (.int .i64 x2.After.O.Kind), v3, v4, (.int .i64 x2.Next), v5]), Ow (Kd.int .u8) 5 v17 x8]) rfl
            exact ⟨x8, (w64 (x4 + 1)), s14, v17, hS, hF.cut ⟨rfl, rfl, rfl, rfl, trivial⟩, ((((hg8.trans hg9).trans hg10).trans hg11).trans hg12), H⟩
          · replace H := hbf hc3 H
            refine exi ?_
            refine xe (xe (hit (xn ?_)))
            obtain rfl := hsm H
            exact ⟨x3, s10, v14, hS, hF.cut ⟨rfl, trivial⟩, hg8, HK2⟩
      · clear H HK2 hS hF
        rintro a w ⟨x1, s9, v13, hS, hF, hg13, H⟩
        unfold impl_PutRec.c1 at H
        refine sq ?_
        refine rg ?_
        refine stp hF (p_move rfl) (by decide) (fun a hF => ?_)
        refine stp hF (p_assign rfl) (by decide) (fun a hF => ?_)
        refine nilN ?_
        refine xn ?_
        refine rt ?_
        obtain rfl := hsm H
        replace hS := hS.sel (is := [1]) (A' := [Ow (Kd.int .u8) 5 v13 x1]) rfl
        exact ret1 hF rfl rfl hS ⟨v13, rfl, rfl⟩

def spec_l1In.f (k : Nat) (x1 : Int) (x2 : Int) (x3 : Int) : Option Bool :=
  (some ((decide (x2 ≤ x1)) && (decide (x1 ≤ x3))))
set_option maxRecDepth 100000 in
set_option maxHeartbeats 4000000 in
theorem spec_l1In.spec (k : Nat) (s0 : HF) (w : World) (x1 : Int) (x2 : Int) (x3 : Int) (r : Bool) (H : spec_l1In.f k x1 x2 x3 = some r) :
    Law Try.prog 75 #[(.int .i64 x1), (.int .i64 x2), (.int .i64 x3)] s0 w [] (fun v s1 A1 => v = (.bool r) ∧ A1 = []) := by
  unfold spec_l1In.f at H
  refine Law.intro Try.func75 rfl [(0, (.int .i64 x1)), (1, (.int .i64 x2)), (2, (.int .i64 x3))] (Nat.le_of_ble_eq_true rfl) (enter_lk ⟨rfl, rfl, rfl, trivial⟩) (fun e a hS hF => ?_)
  have hF : Fr 15 a [(0, (.int .i64 x1)), (1, (.int .i64 x2)), (2, (.int .i64 x3))] := hF
  refine sq ?_
  refine rg ?_
  refine stp hF (p_assign rfl) (by decide) (fun a hF => ?_)
  refine nilN ?_
  refine xn ?_
  refine sq ?_
  refine rg ?_
  refine stp hF (p_move rfl) (by decide) (fun a hF => ?_)
  refine stp hF (p_move rfl) (by decide) (fun a hF => ?_)
  refine stp hF (p_geq rfl rfl) (by decide) (fun a hF => ?_)
  refine stp hF (p_move rfl) (by decide) (fun a hF => ?_)
  refine cutj 4 (fun a w => St e s0 w [] ∧ Fr 15 a [(14, (.bool ((decide (x2 ≤ x1)) && (decide (x1 ≤ x3)))))]) rfl rfl ?_ ?_
  · rcases Bool.eq_false_or_eq_true (decide (x2 ≤ x1)) with hc1 | hc1
    · skip
      refine gonE (j := 3) hF rfl rfl hc1 ?_
      refine stp hF (p_move rfl) (by decide) (fun a hF => ?_)
      refine gonE (j := 3) hF rfl rfl hc1 ?_
      refine stp hF (p_move rfl) (by decide) (fun a hF => ?_)
      refine gonE (j := 3) hF rfl rfl hc1 ?_
      refine stp hF (p_leq rfl rfl) (by decide) (fun a hF => ?_)
      refine stp hF (p_andT rfl hc1 rfl) (by decide) (fun a hF => ?_)
      refine nilN ?_
      refine xn ?_
      exact ⟨hS, hF.cut ⟨rfl, trivial⟩⟩
    · skip
      refine gofD (j := 3) hF rfl rfl (by rw [hc1]; decide) (by decide) (fun a hF => ?_)
      refine gofD (j := 3) hF rfl rfl (by rw [hc1]; decide) (by decide) (fun a hF => ?_)
      refine gofD (j := 3) hF rfl rfl (by rw [hc1]; decide) (by decide) (fun a hF => ?_)
      refine stp hF (p_andF (decide (x1 ≤ x3)) rfl hc1 rfl) (by decide) (fun a hF => ?_)
      refine nilN ?_
      refine xn ?_
      exact ⟨hS, hF.cut ⟨rfl, trivial⟩⟩
  clear hS hF
  rintro a w ⟨hS, hF⟩
  refine stp hF (p_assign rfl) (by decide) (fun a hF => ?_)
  refine nilN ?_
  refine xn ?_
  refine rt ?_
  obtain rfl := hsm H
  exact ret1 hF rfl rfl hS ⟨rfl, rfl⟩

def spec_ObjOk.c1 (k : Nat) : Option Bool :=
  (some true)
def spec_ObjOk.l1 (x1 : TObj) : Nat → Int → Option (Ex Bool Unit)
  | 0, _ => none
  | k + 1, x2 => (if (decide (x2 < (x1.Refs.length : Int))) = true then (if 0 ≤ x2 ∧ x2 < (x1.Refs.length : Int) then ((spec_l1In.f k (rd x1.Refs x2) 0 31).bind fun x3 => (if (!x3) = true then (some (Ex.ret false)) else ((spec_ObjOk.l1 x1 k) (w64 (x2 + 1))))) else none) else (some (Ex.go ())))
def spec_ObjOk.c2 (k : Nat) (x1 : TObj) : Option Bool :=
  (((spec_ObjOk.l1 x1 k 0) : Option (Ex Bool Unit)).bind fun x4 => Ex.on x4 (fun r => some r) (fun y => spec_ObjOk.c1 k))
def spec_ObjOk.l2 (x1 : TObj) : Nat → Int → Option (Ex Bool Unit)
  | 0, _ => none
  | k + 1, x5 => (if (decide (x5 < (x1.Ints.length : Int))) = true then (if 0 ≤ x5 ∧ x5 < (x1.Ints.length : Int) then ((spec_l1In.f k (rd x1.Ints x5) (-1000000) 1000000).bind fun x6 => (if (!x6) = true then (some (Ex.ret false)) else ((spec_ObjOk.l2 x1 k) (w64 (x5 + 1))))) else none) else (some (Ex.go ())))
def spec_ObjOk.f (k : Nat) (x1 : TObj) : Option Bool :=
  ((spec_l1In.f k x1.Kind 1 99).bind fun x7 => (if (((!x7) || (decide (5 < (x1.Ints.length : Int)))) || (decide (5 < (x1.Refs.length : Int)))) = true then (some false) else (((spec_ObjOk.l2 x1 k 0) : Option (Ex Bool Unit)).bind fun x8 => Ex.on x8 (fun r => some r) (fun y => spec_ObjOk.c2 k x1))))
set_option maxRecDepth 100000 in
set_option maxHeartbeats 4000000 in
theorem spec_ObjOk.spec (k : Nat) (s0 : HF) (w : World) (x1 : TObj) (v1 : Value) (v2 : Value) (h1 : Sl (Kd.int .i64) s0 v1 x1.Ints) (h2 : Sl (Kd.int .i64) s0 v2 x1.Refs) (r : Bool) (H : spec_ObjOk.f k x1 = some r) :
    Law Try.prog 127 #[(.agg #[(.int .i64 x1.Kind), v1, v2])] s0 w [] (fun v s1 A1 => v = (.bool r) ∧ A1 = []) := by
  unfold spec_ObjOk.f at H
  refine Law.intro Try.func127 rfl [(0, (.agg #[(.int .i64 x1.Kind), v1, v2]))] (Nat.le_of_ble_eq_true rfl) (enter_lk ⟨rfl, trivial⟩) (fun e a hS hF => ?_)
  have hF : Fr 49 a [(0, (.agg #[(.int .i64 x1.Kind), v1, v2]))] := hF
  refine sq ?_
  refine rg ?_
  refine ste hF (e_box (cs := [(.int .i64 x1.Kind), v1, v2]) hS rfl rfl) (by decide) (fun v w a hR hF => ?_)
  obtain ⟨g1, rfl, hS⟩ := hR
  refine stp hF (p_assign rfl) (by decide) (fun a hF => ?_)
  refine nilN ?_
  refine xn ?_
  refine sq ?_
  refine sq ?_
  refine rg ?_
  refine stp hF (p_fldb (o' := 0) rfl fi_36_0 rfl) (by decide) (fun a hF => ?_)
  refine stp hF (p_ldb_one (i := 0) hS rfl rfl ia_3 rfl) (by decide) (fun a hF => ?_)
  obtain ⟨x7, hx1, H⟩ := hb H
  refine ste hF (e_callA (fst := []) (vs := [(.int .i64 x1.Kind), (.int .i64 1), (.int .i64 99)]) (cap := []) rfl rfl go_75 (St.call (A := []) (B := [pt g1 36 ([(.int .i64 x1.Kind), v1, v2])]) hS (spec_l1In.spec k _ _ x1.Kind 1 99 _ hx1)) rfl) (by decide) (fun v w a hR hF => ?_)
  obtain ⟨s2, A2, hg1, hS, hR⟩ := hR
  obtain ⟨hv1, rfl⟩ := hR; obtain rfl := hv1.symm
  have hS : St e s2 w [pt g1 36 ([(.int .i64 x1.Kind), v1, v2])] := hS
  refine stp hF (p_not rfl) (by decide) (fun a hF => ?_)
  refine stp hF (p_move rfl) (by decide) (fun a hF => ?_)
  refine cutj 5 (fun a w => St e s2 w [pt g1 36 ([(.int .i64 x1.Kind), v1, v2])] ∧ Fr 49 a [(1, (.pointer (some ⟨g1, 0, none⟩))), (14, (.bool ((!x7) || (decide (5 < (x1.Ints.length : Int))))))]) rfl rfl ?_ ?_
  · rcases Bool.eq_false_or_eq_true ((!x7)) with hc1 | hc1
    · skip
      refine gofD (j := 4) hF rfl rfl (by rw [hc1]; decide) (by decide) (fun a hF => ?_)
      refine gofD (j := 4) hF rfl rfl (by rw [hc1]; decide) (by decide) (fun a hF => ?_)
      refine gofD (j := 4) hF rfl rfl (by rw [hc1]; decide) (by decide) (fun a hF => ?_)
      refine gofD (j := 4) hF rfl rfl (by rw [hc1]; decide) (by decide) (fun a hF => ?_)
      refine stp hF (p_orT (decide (5 < (x1.Ints.length : Int))) rfl hc1 rfl) (by decide) (fun a hF => ?_)
      refine nilN ?_
      refine xn ?_
      exact ⟨hS, hF.cut ⟨rfl, rfl, trivial⟩⟩
    · skip
      refine gonE (j := 4) hF rfl rfl hc1 ?_
      refine stp hF (p_fldb (o' := 1) rfl fi_36_1 rfl) (by decide) (fun a hF => ?_)
      refine gonE (j := 4) hF rfl rfl hc1 ?_
      refine stp hF (p_ldb_one (i := 0) hS rfl rfl ia_34 rfl) (by decide) (fun a hF => ?_)
      refine gonE (j := 4) hF rfl rfl hc1 ?_
      refine stp hF (p_lenr un_34 rfl (h1.mono hg1)) (by decide) (fun a hF => ?_)
      refine gonE (j := 4) hF rfl rfl hc1 ?_
      refine stp hF (p_gtr rfl rfl) (by decide) (fun a hF => ?_)
      refine stp hF (p_orF rfl hc1 rfl) (by decide) (fun a hF => ?_)
      refine nilN ?_
      refine xn ?_
      exact ⟨hS, hF.cut ⟨rfl, rfl, trivial⟩⟩
  clear hS hF
  rintro a w ⟨hS, hF⟩
  refine stp hF (p_move rfl) (by decide) (fun a hF => ?_)
  refine cutj 5 (fun a w => St e s2 w [pt g1 36 ([(.int .i64 x1.Kind), v1, v2])] ∧ Fr 49 a [(1, (.pointer (some ⟨g1, 0, none⟩))), (20, (.bool (((!x7) || (decide (5 < (x1.Ints.length : Int)))) || (decide (5 < (x1.Refs.length : Int))))))]) rfl rfl ?_ ?_
  · rcases Bool.eq_false_or_eq_true (((!x7) || (decide (5 < (x1.Ints.length : Int))))) with hc2 | hc2
    · skip
      refine gofD (j := 10) hF rfl rfl (by rw [hc2]; decide) (by decide) (fun a hF => ?_)
      refine gofD (j := 10) hF rfl rfl (by rw [hc2]; decide) (by decide) (fun a hF => ?_)
      refine gofD (j := 10) hF rfl rfl (by rw [hc2]; decide) (by decide) (fun a hF => ?_)
      refine gofD (j := 10) hF rfl rfl (by rw [hc2]; decide) (by decide) (fun a hF => ?_)
      refine stp hF (p_orT (decide (5 < (x1.Refs.length : Int))) rfl hc2 rfl) (by decide) (fun a hF => ?_)
      refine nilN ?_
      refine xn ?_
      exact ⟨hS, hF.cut ⟨rfl, rfl, trivial⟩⟩
    · skip
      refine gonE (j := 10) hF rfl rfl hc2 ?_
      refine stp hF (p_fldb (o' := 2) rfl fi_36_2 rfl) (by decide) (fun a hF => ?_)
      refine gonE (j := 10) hF rfl rfl hc2 ?_
      refine stp hF (p_ldb_one (i := 0) hS rfl rfl ia_34 rfl) (by decide) (fun a hF => ?_)
      refine gonE (j := 10) hF rfl rfl hc2 ?_
      refine stp hF (p_lenr un_34 rfl (h2.mono hg1)) (by decide) (fun a hF => ?_)
      refine gonE (j := 10) hF rfl rfl hc2 ?_
      refine stp hF (p_gtr rfl rfl) (by decide) (fun a hF => ?_)
      refine stp hF (p_orF rfl hc2 rfl) (by decide) (fun a hF => ?_)
      refine nilN ?_
      refine xn ?_
      exact ⟨hS, hF.cut ⟨rfl, rfl, trivial⟩⟩
  clear hS hF
  rintro a w ⟨hS, hF⟩
  refine nilN ?_
  refine xn ?_
  refine cnd hF rfl (fun hc3 => ?_) (fun hc3 => ?_)
  · replace H := hbt hc3 H
    refine sq ?_
    refine rg ?_
    refine stp hF (p_assign rfl) (by decide) (fun a hF => ?_)
    refine nilN ?_
    refine xn ?_
    refine rt ?_
    refine xr ?_
    obtain rfl := hsm H
    replace hS := hS.sel (is := []) (A' := []) rfl
    exact ret1 hF rfl rfl hS ⟨rfl, rfl⟩
  · replace H := hbf hc3 H
    refine skN ?_
    refine xn ?_
    obtain ⟨x8, H, HK1⟩ := hb H
    refine sqj (fun a w => ∃ (s3 : HF) , St e s3 w [pt g1 36 ([(.int .i64 x1.Kind), v1, v2])] ∧ Fr 49 a [(1, (.pointer (some ⟨g1, 0, none⟩)))] ∧ Sub s2 s3 ∧ spec_ObjOk.c2 k x1 = some r) ?_ ?_
    · skip
      refine sq ?_
      refine rg ?_
      refine stp hF (p_assign rfl) (by decide) (fun a hF => ?_)
      refine nilN ?_
      refine xn ?_
      refine blk ?_
      refine loop_ind (fun k1 a w => ∃ (x5 : Int) (s4 : HF) , St e s4 w [pt g1 36 ([(.int .i64 x1.Kind), v1, v2])] ∧ Fr 49 a [(1, (.pointer (some ⟨g1, 0, none⟩))), (3, (.int .i64 x5))] ∧ Sub s2 s4 ∧ spec_ObjOk.l2 x1 k1 x5 = some x8) k ?_ ?_ ?_
      · skip
        exact ⟨0, s2, hS, hF.cut ⟨rfl, rfl, trivial⟩, (Sub.refl _), H⟩
      · clear H hS hF
        rintro a w ⟨x5, s4, hS, hF, hg2, H⟩
        exact absurd (show none = some _ from H) (by simp)
      · clear H hS hF
        rintro k1 a w ⟨x5, s4, hS, hF, hg2, H⟩
        rw [spec_ObjOk.l2.eq_2] at H
        refine sq ?_
        refine sq ?_
        refine rg ?_
        refine stp hF (p_move rfl) (by decide) (fun a hF => ?_)
        refine stp hF (p_fldb (o' := 1) rfl fi_36_1 rfl) (by decide) (fun a hF => ?_)
        refine stp hF (p_ldb_one (i := 0) hS rfl rfl ia_34 rfl) (by decide) (fun a hF => ?_)
        refine stp hF (p_lenr un_34 rfl ((h1.mono hg1).mono hg2)) (by decide) (fun a hF => ?_)
        refine stp hF (p_lss rfl rfl) (by decide) (fun a hF => ?_)
        refine nilN ?_
        refine xn ?_
        refine cnd hF rfl (fun hc4 => ?_) (fun hc4 => ?_)
        · replace H := hbt hc4 H
          refine skN ?_
          refine xn ?_
          refine sq ?_
          refine blk ?_
          refine sq ?_
          refine rg ?_
          refine stp hF (p_fldb (o' := 1) rfl fi_36_1 rfl) (by decide) (fun a hF => ?_)
          refine stp hF (p_ldb_one (i := 0) hS rfl rfl ia_34 rfl) (by decide) (fun a hF => ?_)
          refine stp hF (p_move rfl) (by decide) (fun a hF => ?_)
          obtain ⟨hq1, H⟩ := hck H
          obtain ⟨ad1, h3, p1⟩ := p_idxr (P := Try.prog) (i := x5) ((h1.mono hg1).mono hg2) un_34 ti_3 hq1.1 hq1.2
          refine stp hF (p1 rfl rfl) (by decide) (fun a hF => ?_)
          refine stp hF (p_ldr_int rfl hS h3 ia_3) (by decide) (fun a hF => ?_)
          obtain ⟨x6, hx2, H⟩ := hb H
          refine ste hF (e_callA (fst := []) (vs := [(.int .i64 (rd x1.Ints x5)), (.int .i64 (-1000000)), (.int .i64 1000000)]) (cap := []) rfl rfl go_75 (St.call (A := []) (B := [pt g1 36 ([(.int .i64 x1.Kind), v1, v2])]) hS (spec_l1In.spec k1 _ _ (rd x1.Ints x5) (-1000000) 1000000 _ hx2)) rfl) (by decide) (fun v w a hR hF => ?_)
          obtain ⟨s5, A3, hg3, hS, hR⟩ := hR
          obtain ⟨hv2, rfl⟩ := hR; obtain rfl := hv2.symm
          have hS : St e s5 w [pt g1 36 ([(.int .i64 x1.Kind), v1, v2])] := hS
          refine stp hF (p_not rfl) (by decide) (fun a hF => ?_)
          refine nilN ?_
          refine xn ?_
          refine cnd hF rfl (fun hc5 => ?_) (fun hc5 => ?_)
          · replace H := hbt hc5 H
            refine sq ?_
            refine rg ?_
            refine stp hF (p_assign rfl) (by decide) (fun a hF => ?_)
            refine nilN ?_
            refine xn ?_
            refine rt ?_
            refine br (xr (xr (br (xr ?_))))
            obtain rfl := hsm H
            have H := hon1 HK1
            obtain rfl := hsm H
            replace hS := hS.sel (is := []) (A' := []) rfl
            exact ret1 hF rfl rfl hS ⟨rfl, rfl⟩
          · replace H := hbf hc5 H
            refine skN ?_
            refine bn (xn ?_)
            refine rg ?_
            refine stp hF (p_move rfl) (by decide) (fun a hF => ?_)
            refine stp hF (p_add (c := w64 (x5 + 1)) rfl rfl rfl) (by decide) (fun a hF => ?_)
            refine stp hF (p_assign rfl) (by decide) (fun a hF => ?_)
            refine nilN ?_
            refine xn ?_
            exact ⟨(w64 (x5 + 1)), s5, hS, hF.cut ⟨rfl, rfl, trivial⟩, (hg2.trans hg3), H⟩
        · replace H := hbf hc4 H
          refine exi ?_
          refine xe (xe (hit (xn ?_)))
          obtain rfl := hsm H
          exact ⟨s4, hS, hF.cut ⟨rfl, trivial⟩, hg2, HK1⟩
    · clear H HK1 hS hF
      rintro a w ⟨s3, hS, hF, hg4, H⟩
      unfold spec_ObjOk.c2 at H
      obtain ⟨x4, H, HK2⟩ := hb H
      refine sqj (fun a w => ∃ (s6 : HF) , St e s6 w [pt g1 36 ([(.int .i64 x1.Kind), v1, v2])] ∧ Fr 49 a [] ∧ Sub s3 s6 ∧ spec_ObjOk.c1 k = some r) ?_ ?_
      · skip
        refine sq ?_
        refine rg ?_
        refine stp hF (p_assign rfl) (by decide) (fun a hF => ?_)
        refine nilN ?_
        refine xn ?_
        refine blk ?_
        refine loop_ind (fun k2 a w => ∃ (x2 : Int) (s7 : HF) , St e s7 w [pt g1 36 ([(.int .i64 x1.Kind), v1, v2])] ∧ Fr 49 a [(1, (.pointer (some ⟨g1, 0, none⟩))), (4, (.int .i64 x2))] ∧ Sub s3 s7 ∧ spec_ObjOk.l1 x1 k2 x2 = some x4) k ?_ ?_ ?_
        · skip
          exact ⟨0, s3, hS, hF.cut ⟨rfl, rfl, trivial⟩, (Sub.refl _), H⟩
        · clear H hS hF
          rintro a w ⟨x2, s7, hS, hF, hg5, H⟩
          exact absurd (show none = some _ from H) (by simp)
        · clear H hS hF
          rintro k2 a w ⟨x2, s7, hS, hF, hg5, H⟩
          rw [spec_ObjOk.l1.eq_2] at H
          refine sq ?_
          refine sq ?_
          refine rg ?_
          refine stp hF (p_move rfl) (by decide) (fun a hF => ?_)
          refine stp hF (p_fldb (o' := 2) rfl fi_36_2 rfl) (by decide) (fun a hF => ?_)
          refine stp hF (p_ldb_one (i := 0) hS rfl rfl ia_34 rfl) (by decide) (fun a hF => ?_)
          refine stp hF (p_lenr un_34 rfl (((h2.mono hg1).mono hg4).mono hg5)) (by decide) (fun a hF => ?_)
          refine stp hF (p_lss rfl rfl) (by decide) (fun a hF => ?_)
          refine nilN ?_
          refine xn ?_
          refine cnd hF rfl (fun hc6 => ?_) (fun hc6 => ?_)
          · replace H := hbt hc6 H
            refine skN ?_
            refine xn ?_
            refine sq ?_
            refine blk ?_
            refine sq ?_
            refine rg ?_
            refine stp hF (p_fldb (o' := 2) rfl fi_36_2 rfl) (by decide) (fun a hF => ?_)
            refine stp hF (p_ldb_one (i := 0) hS rfl rfl ia_34 rfl) (by decide) (fun a hF => ?_)
            refine stp hF (p_move rfl) (by decide) (fun a hF => ?_)
            obtain ⟨hq2, H⟩ := hck H
            obtain ⟨ad2, h4, p2⟩ := p_idxr (P := Try.prog) (i := x2) (((h2.mono hg1).mono hg4).mono hg5) un_34 ti_3 hq2.1 hq2.2
            refine stp hF (p2 rfl rfl) (by decide) (fun a hF => ?_)
            refine stp hF (p_ldr_int rfl hS h4 ia_3) (by decide) (fun a hF => ?_)
            obtain ⟨x3, hx3, H⟩ := hb H
            refine ste hF (e_callA (fst := []) (vs := [(.int .i64 (rd x1.Refs x2)), (.int .i64 0), (.int .i64 31)]) (cap := []) rfl rfl go_75 (St.call (A := []) (B := [pt g1 36 ([(.int .i64 x1.Kind), v1, v2])]) hS (spec_l1In.spec k2 _ _ (rd x1.Refs x2) 0 31 _ hx3)) rfl) (by decide) (fun v w a hR hF => ?_)
            obtain ⟨s8, A4, hg6, hS, hR⟩ := hR
            obtain ⟨hv3, rfl⟩ := hR; obtain rfl := hv3.symm
            have hS : St e s8 w [pt g1 36 ([(.int .i64 x1.Kind), v1, v2])] := hS
            refine stp hF (p_not rfl) (by decide) (fun a hF => ?_)
            refine nilN ?_
            refine xn ?_
            refine cnd hF rfl (fun hc7 => ?_) (fun hc7 => ?_)
            · replace H := hbt hc7 H
              refine sq ?_
              refine rg ?_
              refine stp hF (p_assign rfl) (by decide) (fun a hF => ?_)
              refine nilN ?_
              refine xn ?_
              refine rt ?_
              refine br (xr (xr (br (xr ?_))))
              obtain rfl := hsm H
              have H := hon1 HK2
              obtain rfl := hsm H
              replace hS := hS.sel (is := []) (A' := []) rfl
              exact ret1 hF rfl rfl hS ⟨rfl, rfl⟩
            · replace H := hbf hc7 H
              refine skN ?_
              refine bn (xn ?_)
              refine rg ?_
              refine stp hF (p_move rfl) (by decide) (fun a hF => ?_)
              refine stp hF (p_add (c := w64 (x2 + 1)) rfl rfl rfl) (by decide) (fun a hF => ?_)
              refine stp hF (p_assign rfl) (by decide) (fun a hF => ?_)
              refine nilN ?_
              refine xn ?_
              exact ⟨(w64 (x2 + 1)), s8, hS, hF.cut ⟨rfl, rfl, trivial⟩, (hg5.trans hg6), H⟩
          · replace H := hbf hc6 H
            refine exi ?_
            refine xe (xe (hit (xn ?_)))
            obtain rfl := hsm H
            exact ⟨s7, hS, hF.cut trivial, hg5, HK2⟩
      · clear H HK2 hS hF
        rintro a w ⟨s6, hS, hF, hg7, H⟩
        unfold spec_ObjOk.c1 at H
        refine sq ?_
        refine rg ?_
        refine stp hF (p_assign rfl) (by decide) (fun a hF => ?_)
        refine nilN ?_
        refine xn ?_
        refine rt ?_
        obtain rfl := hsm H
        replace hS := hS.sel (is := []) (A' := []) rfl
        exact ret1 hF rfl rfl hS ⟨rfl, rfl⟩
end Go.Proofs.Ytocknibhajihmaa
