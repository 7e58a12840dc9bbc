/- Functions of this place as plain functions, and that the machine comes to what they say. Conditions: none. -/
import Derived.Test.YtocknibhajihmaaKwB4Fc
set_option linter.unusedVariables false
set_option linter.unusedSimpArgs false
namespace Go.Proofs.Ytocknibhajihmaa
open Go.Kw

def impl_GetRec.c1 (k : Nat) (x1 : Int × (List Int) × Int × Bool) (x2 : Int × (List Int) × Int × Bool) (x3 : Int × (List Int) × Int × Bool) (x4 : Int × (List Int) × Int × Bool) (x5 : Int × (List Int) × Int × Bool) (x6 : TSlot × (List Int) × Int × Bool) (x7 : TSlot × (List Int) × Int × Bool) (x8 : Int × (List Int) × Int × Bool) (x9 : (List TLive)) (x10 : Bool) : Option (TRec × Bool) :=
  (if x10 = true then (some ((⟨0, 0, 0, 0, 0, (⟨false, (⟨0, ([] : List Int), ([] : List Int)⟩ : TObj)⟩ : TSlot), (⟨false, (⟨0, ([] : List Int), ([] : List Int)⟩ : TObj)⟩ : TSlot), 0, ([] : List TLive)⟩ : TRec), false)) else (some ((⟨x1.1, x2.1, x3.1, x4.1, x5.1, (⟨x6.1.Has, (⟨x6.1.O.Kind, x6.1.O.Ints, x6.1.O.Refs⟩ : TObj)⟩ : TSlot), (⟨x7.1.Has, (⟨x7.1.O.Kind, x7.1.O.Ints, x7.1.O.Refs⟩ : TObj)⟩ : TSlot), x8.1, x9⟩ : TRec), true)))
def impl_GetRec.c2 (k : Nat) (x1 : Int × (List Int) × Int × Bool) (x2 : Int × (List Int) × Int × Bool) (x3 : Int × (List Int) × Int × Bool) (x4 : Int × (List Int) × Int × Bool) (x5 : Int × (List Int) × Int × Bool) (x6 : TSlot × (List Int) × Int × Bool) (x7 : TSlot × (List Int) × Int × Bool) (x8 : Int × (List Int) × Int × Bool) (x9 : (List TLive)) (x11 : (List Int)) (x12 : Int) (x13 : Bool) : Option (TRec × Bool) :=
  ((impl_reader_done.f k x11 x12 x13).bind fun x14 => ((if (!x14.1) = true then (some true) else ((impl_RecOk.f k (⟨x1.1, x2.1, x3.1, x4.1, x5.1, (⟨x6.1.Has, (⟨x6.1.O.Kind, x6.1.O.Ints, x6.1.O.Refs⟩ : TObj)⟩ : TSlot), (⟨x7.1.Has, (⟨x7.1.O.Kind, x7.1.O.Ints, x7.1.O.Refs⟩ : TObj)⟩ : TSlot), x8.1, x9⟩ : TRec)).bind fun x15 => (some (!x15))) : Option Bool).bind fun x16 => impl_GetRec.c1 k x1 x2 x3 x4 x5 x6 x7 x8 x9 x16))
def impl_GetRec.l1 (x17 : Int × (List Int) × Int × Bool) : Nat → (List Int) → Int → Bool → (List TLive) → Int → Option ((List TLive) × (List Int) × Int × Bool)
  | 0, _, _, _, _, _ => none
  | k + 1, x18, x19, x20, x21, x22 => (if (decide (x22 < x17.1)) = true then ((impl_reader_one.f k x18 x19 x20).bind fun x23 => ((impl_reader_one.f k x23.2.1 x23.2.2.1 x23.2.2.2).bind fun x24 => ((impl_reader_many.f k x24.2.1 x24.2.2.1 x24.2.2.2 1).bind fun x25 => (if x21.length + 1 ≤ 5864062014805 then ((impl_GetRec.l1 x17 k) x25.2.1 x25.2.2.1 x25.2.2.2 (x21 ++ ([(⟨x23.1, x24.1, decide (x25.1 = 1)⟩ : TLive)] : List TLive)) (w64 (x22 + 1))) else none)))) else (some (x21, x18, x19, x20)))
def impl_GetRec.f (k : Nat) (x26 : (List Int)) : Option (TRec × Bool) :=
  ((impl_reader_one.f k x26 0 false).bind fun x1 => ((impl_reader_one.f k x1.2.1 x1.2.2.1 x1.2.2.2).bind fun x2 => ((impl_reader_one.f k x2.2.1 x2.2.2.1 x2.2.2.2).bind fun x3 => ((impl_reader_one.f k x3.2.1 x3.2.2.1 x3.2.2.2).bind fun x4 => ((impl_reader_one.f k x4.2.1 x4.2.2.1 x4.2.2.2).bind fun x5 => ((impl_reader_one.f k x5.2.1 x5.2.2.1 x5.2.2.2).bind fun x8 => ((impl_reader_slot.f k x8.2.1 x8.2.2.1 x8.2.2.2).bind fun x6 => ((impl_reader_slot.f k x6.2.1 x6.2.2.1 x6.2.2.2).bind fun x7 => ((((impl_reader_many.f k x7.2.1 x7.2.2.1 x7.2.2.2 20).bind fun x17 => (impl_GetRec.l1 x17 k x17.2.1 x17.2.2.1 x17.2.2.2 ([] : List TLive) 0)) : Option ((List TLive) × (List Int) × Int × Bool)).bind fun x27 => impl_GetRec.c2 k x1 x2 x3 x4 x5 x6 x7 x8 x27.1 x27.2.1 x27.2.2.1 x27.2.2.2)))))))))
set_option maxRecDepth 100000 in
set_option maxHeartbeats 4000000 in
theorem impl_GetRec.spec (k : Nat) (s0 : HF) (w : World) (x26 : (List Int)) (v1 : Value) (h1 : Sl (Kd.int .u8) s0 v1 x26) (r : TRec × Bool) (H : impl_GetRec.f k x26 = some r) :
    Law Try.prog 25 #[v1] s0 w [] (fun v s1 A1 => ∃ (u0 : Value) (u1 : Value) (u2 : Value) (u3 : Value) (u4 : Value), v = (.tuple #[(.agg #[(.int .i64 r.1.Lsn), (.int .i64 r.1.Tx), (.int .i64 r.1.Prev), (.int .i64 r.1.Kind), (.int .i64 r.1.Oid), (.bool r.1.Before.Has), (.int .i64 r.1.Before.O.Kind), u0, u1, (.bool r.1.After.Has), (.int .i64 r.1.After.O.Kind), u2, u3, (.int .i64 r.1.Next), u4]), (.bool r.2)]) ∧ A1 = [Ow (Kd.int .i64) 3 u0 r.1.Before.O.Ints, Ow (Kd.int .i64) 3 u1 r.1.Before.O.Refs, Ow (Kd.int .i64) 3 u2 r.1.After.O.Ints, Ow (Kd.int .i64) 3 u3 r.1.After.O.Refs, Ow kTLive 91 u4 r.1.Txs]) := by
  unfold impl_GetRec.f at H
  refine Law.intro Try.func25 rfl [(0, v1)] (Nat.le_of_ble_eq_true rfl) (enter_lk ⟨rfl, trivial⟩) (fun e a hS hF => ?_)
  have hF : Fr 65 a [(0, v1)] := hF
  refine sq ?_
  refine rg ?_
  refine ste hF (e_alloc (cs := [(.int .i64 0), (.int .i64 0), (.int .i64 0), (.int .i64 0), (.int .i64 0), (.bool false), (.int .i64 0), (.slice none 0 0), (.slice none 0 0), (.bool false), (.int .i64 0), (.slice none 0 0), (.slice none 0 0), (.int .i64 0), (.slice none 0 0)]) hS ti_41 rfl) (by decide) (fun v w a hR hF => ?_)
  obtain ⟨g1, rfl, hS⟩ := hR
  refine stp hF (p_assign rfl) (by decide) (fun a hF => ?_)
  refine nilN ?_
  refine xn ?_
  refine sq ?_
  refine rg ?_
  refine stp hF (p_move rfl) (by decide) (fun a hF => ?_)
  refine stp hF (p_build (ps := [(0, (.tmp 7))]) (vs := [(0, v1)]) (v := (.agg #[v1, (.int .i64 0), (.bool false)])) rfl (by intro w; obtain ⟨_, _, _, e1⟩ := Sl.el h1; rw [e1]; kernel_rfl)) (by decide) (fun a hF => ?_)
  refine ste hF (e_box (cs := [v1, (.int .i64 0), (.bool false)]) hS rfl rfl) (by decide) (fun v w a hR hF => ?_)
  obtain ⟨g2, rfl, hS⟩ := hR
  refine stp hF (p_assign rfl) (by decide) (fun a hF => ?_)
  refine nilN ?_
  refine xn ?_
  refine sq ?_
  refine rg ?_
  refine stp hF (p_move rfl) (by decide) (fun a hF => ?_)
  obtain ⟨x1, hx1, H⟩ := hb H
  refine ste hF (e_callA (fst := []) (vs := [(.pointer (some ⟨g2, 0, none⟩))]) (cap := []) rfl rfl go_85 (St.call (A := [pt g2 99 ([v1, (.int .i64 0), (.bool false)])]) (B := [pt g1 41 ([(.int .i64 0), (.int .i64 0), (.int .i64 0), (.int .i64 0), (.int .i64 0), (.bool false), (.int .i64 0), (.slice none 0 0), (.slice none 0 0), (.bool false), (.int .i64 0), (.slice none 0 0), (.slice none 0 0), (.int .i64 0), (.slice none 0 0)])]) hS (impl_reader_one.spec k _ _ x26 0 false v1 g2 h1 _ hx1)) rfl) (by decide) (fun v w a hR hF => ?_)
  obtain ⟨s2, A2, hg1, hS, hR⟩ := hR
  obtain ⟨v2, hv1, rfl, h2⟩ := hR; obtain rfl := hv1.symm
  have hS : St e s2 w [pt g2 99 ([v2, (.int .i64 x1.2.2.1), (.bool x1.2.2.2)]), pt g1 41 ([(.int .i64 0), (.int .i64 0), (.int .i64 0), (.int .i64 0), (.int .i64 0), (.bool false), (.int .i64 0), (.slice none 0 0), (.slice none 0 0), (.bool false), (.int .i64 0), (.slice none 0 0), (.slice none 0 0), (.int .i64 0), (.slice none 0 0)])] := hS
  refine stp hF (p_build (ps := [(0, (.tmp 11))]) (vs := [(0, (.int .i64 x1.1))]) (v := (.agg #[(.int .i64 x1.1), (.int .i64 0), (.int .i64 0), (.int .i64 0), (.int .i64 0), (.bool false), (.int .i64 0), (.slice none 0 0), (.slice none 0 0), (.bool false), (.int .i64 0), (.slice none 0 0), (.slice none 0 0), (.int .i64 0), (.slice none 0 0)])) rfl (by intro w; kernel_rfl)) (by decide) (fun a hF => ?_)
  refine ste hF (e_alloc (cs := [(.int .i64 0), (.int .i64 0), (.int .i64 0), (.int .i64 0), (.int .i64 0), (.bool false), (.int .i64 0), (.slice none 0 0), (.slice none 0 0), (.bool false), (.int .i64 0), (.slice none 0 0), (.slice none 0 0), (.int .i64 0), (.slice none 0 0)]) hS ti_41 rfl) (by decide) (fun v w a hR hF => ?_)
  obtain ⟨g3, rfl, hS⟩ := hR
  refine ste0 hF (e_stb (i := 0) (l := []) (m := [(.int .i64 0), (.int .i64 0), (.int .i64 0), (.int .i64 0), (.int .i64 0), (.bool false), (.int .i64 0), (.slice none 0 0), (.slice none 0 0), (.bool false), (.int .i64 0), (.slice none 0 0), (.slice none 0 0), (.int .i64 0), (.slice none 0 0)]) (r := []) (m' := [(.int .i64 x1.1), (.int .i64 0), (.int .i64 0), (.int .i64 0), (.int .i64 0), (.bool false), (.int .i64 0), (.slice none 0 0), (.slice none 0 0), (.bool false), (.int .i64 0), (.slice none 0 0), (.slice none 0 0), (.int .i64 0), (.slice none 0 0)]) (cs' := [(.int .i64 x1.1), (.int .i64 0), (.int .i64 0), (.int .i64 0), (.int .i64 0), (.bool false), (.int .i64 0), (.slice none 0 0), (.slice none 0 0), (.bool false), (.int .i64 0), (.slice none 0 0), (.slice none 0 0), (.int .i64 0), (.slice none 0 0)]) hS rfl rfl rfl ti_41 rfl rfl rfl rfl rfl (one_cons rfl (one_cons rfl (one_cons rfl (one_cons rfl (one_cons rfl (one_cons rfl (one_cons rfl (one_cons rfl (one_cons rfl (one_cons rfl (one_cons rfl (one_cons rfl (one_cons rfl (one_cons rfl (one_cons rfl one_nil))))))))))))))) rfl) (fun v w a hR hF => ?_)
  have hS : St e s2 w [pt g3 41 ([(.int .i64 x1.1), (.int .i64 0), (.int .i64 0), (.int .i64 0), (.int .i64 0), (.bool false), (.int .i64 0), (.slice none 0 0), (.slice none 0 0), (.bool false), (.int .i64 0), (.slice none 0 0), (.slice none 0 0), (.int .i64 0), (.slice none 0 0)]), pt g2 99 ([v2, (.int .i64 x1.2.2.1), (.bool x1.2.2.2)]), pt g1 41 ([(.int .i64 0), (.int .i64 0), (.int .i64 0), (.int .i64 0), (.int .i64 0), (.bool false), (.int .i64 0), (.slice none 0 0), (.slice none 0 0), (.bool false), (.int .i64 0), (.slice none 0 0), (.slice none 0 0), (.int .i64 0), (.slice none 0 0)])] := hR
  refine nilN ?_
  refine xn ?_
  refine sq ?_
  refine rg ?_
  refine stp hF (p_move rfl) (by decide) (fun a hF => ?_)
  replace hS := hS.sel (is := [1, 0, 0]) (A' := [pt g2 99 ([v2, (.int .i64 x1.2.2.1), (.bool x1.2.2.2)]), pt g3 41 ([(.int .i64 x1.1), (.int .i64 0), (.int .i64 0), (.int .i64 0), (.int .i64 0), (.bool false), (.int .i64 0), (.slice none 0 0), (.slice none 0 0), (.bool false), (.int .i64 0), (.slice none 0 0), (.slice none 0 0), (.int .i64 0), (.slice none 0 0)]), pt g1 41 ([(.int .i64 0), (.int .i64 0), (.int .i64 0), (.int .i64 0), (.int .i64 0), (.bool false), (.int .i64 0), (.slice none 0 0), (.slice none 0 0), (.bool false), (.int .i64 0), (.slice none 0 0), (.slice none 0 0), (.int .i64 0), (.slice none 0 0)])]) rfl
  obtain ⟨x2, hx2, H⟩ := hb H
  refine ste hF (e_callA (fst := []) (vs := [(.pointer (some ⟨g2, 0, none⟩))]) (cap := []) rfl rfl go_85 (St.call (A := [pt g2 99 ([v2, (.int .i64 x1.2.2.1), (.bool x1.2.2.2)])]) (B := [pt g3 41 ([(.int .i64 x1.1), (.int .i64 0), (.int .i64 0), (.int .i64 0), (.int .i64 0), (.bool false), (.int .i64 0), (.slice none 0 0), (.slice none 0 0), (.bool false), (.int .i64 0), (.slice none 0 0), (.slice none 0 0), (.int .i64 0), (.slice none 0 0)]), pt g1 41 ([(.int .i64 0), (.int .i64 0), (.int .i64 0), (.int .i64 0), (.int .i64 0), (.bool false), (.int .i64 0), (.slice none 0 0), (.slice none 0 0), (.bool false), (.int .i64 0), (.slice none 0 0), (.slice none 0 0), (.int .i64 0), (.slice none 0 0)])]) hS (impl_reader_one.spec k _ _ x1.2.1 x1.2.2.1 x1.2.2.2 v2 g2 h2 _ hx2)) rfl) (by decide) (fun v w a hR hF => ?_)
  obtain ⟨s3, A3, hg2, hS, hR⟩ := hR
  obtain ⟨v3, hv2, rfl, h3⟩ := hR; obtain rfl := hv2.symm
  have hS : St e s3 w [pt g2 99 ([v3, (.int .i64 x2.2.2.1), (.bool x2.2.2.2)]), pt g3 41 ([(.int .i64 x1.1), (.int .i64 0), (.int .i64 0), (.int .i64 0), (.int .i64 0), (.bool false), (.int .i64 0), (.slice none 0 0), (.slice none 0 0), (.bool false), (.int .i64 0), (.slice none 0 0), (.slice none 0 0), (.int .i64 0), (.slice none 0 0)]), pt g1 41 ([(.int .i64 0), (.int .i64 0), (.int .i64 0), (.int .i64 0), (.int .i64 0), (.bool false), (.int .i64 0), (.slice none 0 0), (.slice none 0 0), (.bool false), (.int .i64 0), (.slice none 0 0), (.slice none 0 0), (.int .i64 0), (.slice none 0 0)])] := hS
  refine stp hF (p_fldb (o' := 1) rfl fi_41_1 rfl) (by decide) (fun a hF => ?_)
  refine ste0 hF (e_stb (i := 1) (l := [(.int .i64 x1.1)]) (m := [(.int .i64 0)]) (r := [(.int .i64 0), (.int .i64 0), (.int .i64 0), (.bool false), (.int .i64 0), (.slice none 0 0), (.slice none 0 0), (.bool false), (.int .i64 0), (.slice none 0 0), (.slice none 0 0), (.int .i64 0), (.slice none 0 0)]) (m' := [(.int .i64 x2.1)]) (cs' := [(.int .i64 x1.1), (.int .i64 x2.1), (.int .i64 0), (.int .i64 0), (.int .i64 0), (.bool false), (.int .i64 0), (.slice none 0 0), (.slice none 0 0), (.bool false), (.int .i64 0), (.slice none 0 0), (.slice none 0 0), (.int .i64 0), (.slice none 0 0)]) hS rfl rfl rfl ti_3 rfl rfl rfl rfl rfl (one_cons rfl one_nil) rfl) (fun v w a hR hF => ?_)
  have hS : St e s3 w [pt g3 41 ([(.int .i64 x1.1), (.int .i64 x2.1), (.int .i64 0), (.int .i64 0), (.int .i64 0), (.bool false), (.int .i64 0), (.slice none 0 0), (.slice none 0 0), (.bool false), (.int .i64 0), (.slice none 0 0), (.slice none 0 0), (.int .i64 0), (.slice none 0 0)]), pt g2 99 ([v3, (.int .i64 x2.2.2.1), (.bool x2.2.2.2)]), pt g1 41 ([(.int .i64 0), (.int .i64 0), (.int .i64 0), (.int .i64 0), (.int .i64 0), (.bool false), (.int .i64 0), (.slice none 0 0), (.slice none 0 0), (.bool false), (.int .i64 0), (.slice none 0 0), (.slice none 0 0), (.int .i64 0), (.slice none 0 0)])] := hR
  refine nilN ?_
  refine xn ?_
  refine sq ?_
  refine rg ?_
  refine stp hF (p_move rfl) (by decide) (fun a hF => ?_)
  replace hS := hS.sel (is := [1, 0, 0]) (A' := [pt g2 99 ([v3, (.int .i64 x2.2.2.1), (.bool x2.2.2.2)]), pt g3 41 ([(.int .i64 x1.1), (.int .i64 x2.1), (.int .i64 0), (.int .i64 0), (.int .i64 0), (.bool false), (.int .i64 0), (.slice none 0 0), (.slice none 0 0), (.bool false), (.int .i64 0), (.slice none 0 0), (.slice none 0 0), (.int .i64 0), (.slice none 0 0)]), pt g1 41 ([(.int .i64 0), (.int .i64 0), (.int .i64 0), (.int .i64 0), (.int .i64 0), (.bool false), (.int .i64 0), (.slice none 0 0), (.slice none 0 0), (.bool false), (.int .i64 0), (.slice none 0 0), (.slice none 0 0), (.int .i64 0), (.slice none 0 0)])]) rfl
  obtain ⟨x3, hx3, H⟩ := hb H
  refine ste hF (e_callA (fst := []) (vs := [(.pointer (some ⟨g2, 0, none⟩))]) (cap := []) rfl rfl go_85 (St.call (A := [pt g2 99 ([v3, (.int .i64 x2.2.2.1), (.bool x2.2.2.2)])]) (B := [pt g3 41 ([(.int .i64 x1.1), (.int .i64 x2.1), (.int .i64 0), (.int .i64 0), (.int .i64 0), (.bool false), (.int .i64 0), (.slice none 0 0), (.slice none 0 0), (.bool false), (.int .i64 0), (.slice none 0 0), (.slice none 0 0), (.int .i64 0), (.slice none 0 0)]), pt g1 41 ([(.int .i64 0), (.int .i64 0), (.int .i64 0), (.int .i64 0), (.int .i64 0), (.bool false), (.int .i64 0), (.slice none 0 0), (.slice none 0 0), (.bool false), (.int .i64 0), (.slice none 0 0), (.slice none 0 0), (.int .i64 0), (.slice none 0 0)])]) hS (impl_reader_one.spec k _ _ x2.2.1 x2.2.2.1 x2.2.2.2 v3 g2 h3 _ hx3)) rfl) (by decide) (fun v w a hR hF => ?_)
  obtain ⟨s4, A4, hg3, hS, hR⟩ := hR
  obtain ⟨v4, hv3, rfl, h4⟩ := hR; obtain rfl := hv3.symm
  have hS : St e s4 w [pt g2 99 ([v4, (.int .i64 x3.2.2.1), (.bool x3.2.2.2)]), pt g3 41 ([(.int .i64 x1.1), (.int .i64 x2.1), (.int .i64 0), (.int .i64 0), (.int .i64 0), (.bool false), (.int .i64 0), (.slice none 0 0), (.slice none 0 0), (.bool false), (.int .i64 0), (.slice none 0 0), (.slice none 0 0), (.int .i64 0), (.slice none 0 0)]), pt g1 41 ([(.int .i64 0), (.int .i64 0), (.int .i64 0), (.int .i64 0), (.int .i64 0), (.bool false), (.int .i64 0), (.slice none 0 0), (.slice none 0 0), (.bool false), (.int .i64 0), (.slice none 0 0), (.slice none 0 0), (.int .i64 0), (.slice none 0 0)])] := hS
  refine stp hF (p_fldb (o' := 2) rfl fi_41_2 rfl) (by decide) (fun a hF => ?_)
  refine ste0 hF (e_stb (i := 1) (l := [(.int .i64 x1.1), (.int .i64 x2.1)]) (m := [(.int .i64 0)]) (r := [(.int .i64 0), (.int .i64 0), (.bool false), (.int .i64 0), (.slice none 0 0), (.slice none 0 0), (.bool false), (.int .i64 0), (.slice none 0 0), (.slice none 0 0), (.int .i64 0), (.slice none 0 0)]) (m' := [(.int .i64 x3.1)]) (cs' := [(.int .i64 x1.1), (.int .i64 x2.1), (.int .i64 x3.1), (.int .i64 0), (.int .i64 0), (.bool false), (.int .i64 0), (.slice none 0 0), (.slice none 0 0), (.bool false), (.int .i64 0), (.slice none 0 0), (.slice none 0 0), (.int .i64 0), (.slice none 0 0)]) hS rfl rfl rfl ti_3 rfl rfl rfl rfl rfl (one_cons rfl one_nil) rfl) (fun v w a hR hF => ?_)
  have hS : St e s4 w [pt g3 41 ([(.int .i64 x1.1), (.int .i64 x2.1), (.int .i64 x3.1), (.int .i64 0), (.int .i64 0), (.bool false), (.int .i64 0), (.slice none 0 0), (.slice none 0 0), (.bool false), (.int .i64 0), (.slice none 0 0), (.slice none 0 0), (.int .i64 0), (.slice none 0 0)]), pt g2 99 ([v4, (.int .i64 x3.2.2.1), (.bool x3.2.2.2)]), pt g1 41 ([(.int .i64 0), (.int .i64 0), (.int .i64 0), (.int .i64 0), (.int .i64 0), (.bool false), (.int .i64 0), (.slice none 0 0), (.slice none 0 0), (.bool false), (.int .i64 0), (.slice none 0 0), (.slice none 0 0), (.int .i64 0), (.slice none 0 0)])] := hR
  refine nilN ?_
  refine xn ?_
  refine sq ?_
  refine rg ?_
  refine stp hF (p_move rfl) (by decide) (fun a hF => ?_)
  replace hS := hS.sel (is := [1, 0, 0]) (A' := [pt g2 99 ([v4, (.int .i64 x3.2.2.1), (.bool x3.2.2.2)]), pt g3 41 ([(.int .i64 x1.1), (.int .i64 x2.1), (.int .i64 x3.1), (.int .i64 0), (.int .i64 0), (.bool false), (.int .i64 0), (.slice none 0 0), (.slice none 0 0), (.bool false), (.int .i64 0), (.slice none 0 0), (.slice none 0 0), (.int .i64 0), (.slice none 0 0)]), pt g1 41 ([(.int .i64 0), (.int .i64 0), (.int .i64 0), (.int .i64 0), (.int .i64 0), (.bool false), (.int .i64 0), (.slice none 0 0), (.slice none 0 0), (.bool false), (.int .i64 0), (.slice none 0 0), (.slice none 0 0), (.int .i64 0), (.slice none 0 0)])]) rfl
  obtain ⟨x4, hx4, H⟩ := hb H
  refine ste hF (e_callA (fst := []) (vs := [(.pointer (some ⟨g2, 0, none⟩))]) (cap := []) rfl rfl go_85 (St.call (A := [pt g2 99 ([v4, (.int .i64 x3.2.2.1), (.bool x3.2.2.2)])]) (B := [pt g3 41 ([(.int .i64 x1.1), (.int .i64 x2.1), (.int .i64 x3.1), (.int .i64 0), (.int .i64 0), (.bool false), (.int .i64 0), (.slice none 0 0), (.slice none 0 0), (.bool false), (.int .i64 0), (.slice none 0 0), (.slice none 0 0), (.int .i64 0), (.slice none 0 0)]), pt g1 41 ([(.int .i64 0), (.int .i64 0), (.int .i64 0), (.int .i64 0), (.int .i64 0), (.bool false), (.int .i64 0), (.slice none 0 0), (.slice none 0 0), (.bool false), (.int .i64 0), (.slice none 0 0), (.slice none 0 0), (.int .i64 0), (.slice none 0 0)])]) hS (impl_reader_one.spec k _ _ x3.2.1 x3.2.2.1 x3.2.2.2 v4 g2 h4 _ hx4)) rfl) (by decide) (fun v w a hR hF => ?_)
  obtain ⟨s5, A5, hg4, hS, hR⟩ := hR
  obtain ⟨v5, hv4, rfl, h5⟩ := hR; obtain rfl := hv4.symm
  have hS : St e s5 w [pt g2 99 ([v5, (.int .i64 x4.2.2.1), (.bool x4.2.2.2)]), pt g3 41 ([(.int .i64 x1.1), (.int .i64 x2.1), (.int .i64 x3.1), (.int .i64 0), (.int .i64 0), (.bool false), (.int .i64 0), (.slice none 0 0), (.slice none 0 0), (.bool false), (.int .i64 0), (.slice none 0 0), (.slice none 0 0), (.int .i64 0), (.slice none 0 0)]), pt g1 41 ([(.int .i64 0), (.int .i64 0), (.int .i64 0), (.int .i64 0), (.int .i64 0), (.bool false), (.int .i64 0), (.slice none 0 0), (.slice none 0 0), (.bool false), (.int .i64 0), (.slice none 0 0), (.slice none 0 0), (.int .i64 0), (.slice none 0 0)])] := hS
  refine stp hF (p_fldb (o' := 3) rfl fi_41_3 rfl) (by decide) (fun a hF => ?_)
  refine ste0 hF (e_stb (i := 1) (l := [(.int .i64 x1.1), (.int .i64 x2.1), (.int .i64 x3.1)]) (m := [(.int .i64 0)]) (r := [(.int .i64 0), (.bool false), (.int .i64 0), (.slice none 0 0), (.slice none 0 0), (.bool false), (.int .i64 0), (.slice none 0 0), (.slice none 0 0), (.int .i64 0), (.slice none 0 0)]) (m' := [(.int .i64 x4.1)]) (cs' := [(.int .i64 x1.1), (.int .i64 x2.1), (.int .i64 x3.1), (.int .i64 x4.1), (.int .i64 0), (.bool false), (.int .i64 0), (.slice none 0 0), (.slice none 0 0), (.bool false), (.int .i64 0), (.slice none 0 0), (.slice none 0 0), (.int .i64 0), (.slice none 0 0)]) hS rfl rfl rfl ti_3 rfl rfl rfl rfl rfl (one_cons rfl one_nil) rfl) (fun v w a hR hF => ?_)
  have hS : St e s5 w [pt g3 41 ([(.int .i64 x1.1), (.int .i64 x2.1), (.int .i64 x3.1), (.int .i64 x4.1), (.int .i64 0), (.bool false), (.int .i64 0), (.slice none 0 0), (.slice none 0 0), (.bool false), (.int .i64 0), (.slice none 0 0), (.slice none 0 0), (.int .i64 0), (.slice none 0 0)]), pt g2 99 ([v5, (.int .i64 x4.2.2.1), (.bool x4.2.2.2)]), pt g1 41 ([(.int .i64 0), (.int .i64 0), (.int .i64 0), (.int .i64 0), (.int .i64 0), (.bool false), (.int .i64 0), (.slice none 0 0), (.slice none 0 0), (.bool false), (.int .i64 0), (.slice none 0 0), (.slice none 0 0), (.int .i64 0), (.slice none 0 0)])] := hR
  refine nilN ?_
  refine xn ?_
  refine sq ?_
  refine rg ?_
  refine stp hF (p_move rfl) (by decide) (fun a hF => ?_)
  replace hS := hS.sel (is := [1, 0, 0]) (A' := [pt g2 99 ([v5, (.int .i64 x4.2.2.1), (.bool x4.2.2.2)]), pt g3 41 ([(.int .i64 x1.1), (.int .i64 x2.1), (.int .i64 x3.1), (.int .i64 x4.1), (.int .i64 0), (.bool false), (.int .i64 0), (.slice none 0 0), (.slice none 0 0), (.bool false), (.int .i64 0), (.slice none 0 0), (.slice none 0 0), (.int .i64 0), (.slice none 0 0)]), pt g1 41 ([(.int .i64 0), (.int .i64 0), (.int .i64 0), (.int .i64 0), (.int .i64 0), (.bool false), (.int .i64 0), (.slice none 0 0), (.slice none 0 0), (.bool false), (.int .i64 0), (.slice none 0 0), (.slice none 0 0), (.int .i64 0), (.slice none 0 0)])]) rfl
  obtain ⟨x5, hx5, H⟩ := hb H
  refine ste hF (e_callA (fst := []) (vs := [(.pointer (some ⟨g2, 0, none⟩))]) (cap := []) rfl rfl go_85 (St.call (A := [pt g2 99 ([v5, (.int .i64 x4.2.2.1), (.bool x4.2.2.2)])]) (B := [pt g3 41 ([(.int .i64 x1.1), (.int .i64 x2.1), (.int .i64 x3.1), (.int .i64 x4.1), (.int .i64 0), (.bool false), (.int .i64 0), (.slice none 0 0), (.slice none 0 0), (.bool false), (.int .i64 0), (.slice none 0 0), (.slice none 0 0), (.int .i64 0), (.slice none 0 0)]), pt g1 41 ([(.int .i64 0), (.int .i64 0), (.int .i64 0), (.int .i64 0), (.int .i64 0), (.bool false), (.int .i64 0), (.slice none 0 0), (.slice none 0 0), (.bool false), (.int .i64 0), (.slice none 0 0), (.slice none 0 0), (.int .i64 0), (.slice none 0 0)])]) hS (impl_reader_one.spec k _ _ x4.2.1 x4.2.2.1 x4.2.2.2 v5 g2 h5 _ hx5)) rfl) (by decide) (fun v w a hR hF => ?_)
  obtain ⟨s6, A6, hg5, hS, hR⟩ := hR
  obtain ⟨v6, hv5, rfl, h6⟩ := hR; obtain rfl := hv5.symm
  have hS : St e s6 w [pt g2 99 ([v6, (.int .i64 x5.2.2.1), (.bool x5.2.2.2)]), pt g3 41 ([(.int .i64 x1.1), (.int .i64 x2.1), (.int .i64 x3.1), (.int .i64 x4.1), (.int .i64 0), (.bool false), (.int .i64 0), (.slice none 0 0), (.slice none 0 0), (.bool false), (.int .i64 0), (.slice none 0 0), (.slice none 0 0), (.int .i64 0), (.slice none 0 0)]), pt g1 41 ([(.int .i64 0), (.int .i64 0), (.int .i64 0), (.int .i64 0), (.int .i64 0), (.bool false), (.int .i64 0), (.slice none 0 0), (.slice none 0 0), (.bool false), (.int .i64 0), (.slice none 0 0), (.slice none 0 0), (.int .i64 0), (.slice none 0 0)])] := hS
  refine stp hF (p_fldb (o' := 4) rfl fi_41_4 rfl) (by decide) (fun a hF => ?_)
  refine ste0 hF (e_stb (i := 1) (l := [(.int .i64 x1.1), (.int .i64 x2.1), (.int .i64 x3.1), (.int .i64 x4.1)]) (m := [(.int .i64 0)]) (r := [(.bool false), (.int .i64 0), (.slice none 0 0), (.slice none 0 0), (.bool false), (.int .i64 0), (.slice none 0 0), (.slice none 0 0), (.int .i64 0), (.slice none 0 0)]) (m' := [(.int .i64 x5.1)]) (cs' := [(.int .i64 x1.1), (.int .i64 x2.1), (.int .i64 x3.1), (.int .i64 x4.1), (.int .i64 x5.1), (.bool false), (.int .i64 0), (.slice none 0 0), (.slice none 0 0), (.bool false), (.int .i64 0), (.slice none 0 0), (.slice none 0 0), (.int .i64 0), (.slice none 0 0)]) hS rfl rfl rfl ti_3 rfl rfl rfl rfl rfl (one_cons rfl one_nil) rfl) (fun v w a hR hF => ?_)
  have hS : St e s6 w [pt g3 41 ([(.int .i64 x1.1), (.int .i64 x2.1), (.int .i64 x3.1), (.int .i64 x4.1), (.int .i64 x5.1), (.bool false), (.int .i64 0), (.slice none 0 0), (.slice none 0 0), (.bool false), (.int .i64 0), (.slice none 0 0), (.slice none 0 0), (.int .i64 0), (.slice none 0 0)]), pt g2 99 ([v6, (.int .i64 x5.2.2.1), (.bool x5.2.2.2)]), pt g1 41 ([(.int .i64 0), (.int .i64 0), (.int .i64 0), (.int .i64 0), (.int .i64 0), (.bool false), (.int .i64 0), (.slice none 0 0), (.slice none 0 0), (.bool false), (.int .i64 0), (.slice none 0 0), (.slice none 0 0), (.int .i64 0), (.slice none 0 0)])] := hR
  refine nilN ?_
  refine xn ?_
  refine sq ?_
  refine rg ?_
  refine stp hF (p_move rfl) (by decide) (fun a hF => ?_)
  replace hS := hS.sel (is := [1, 0, 0]) (A' := [pt g2 99 ([v6, (.int .i64 x5.2.2.1), (.bool x5.2.2.2)]), pt g3 41 ([(.int .i64 x1.1), (.int .i64 x2.1), (.int .i64 x3.1), (.int .i64 x4.1), (.int .i64 x5.1), (.bool false), (.int .i64 0), (.slice none 0 0), (.slice none 0 0), (.bool false), (.int .i64 0), (.slice none 0 0), (.slice none 0 0), (.int .i64 0), (.slice none 0 0)]), pt g1 41 ([(.int .i64 0), (.int .i64 0), (.int .i64 0), (.int .i64 0), (.int .i64 0), (.bool false), (.int .i64 0), (.slice none 0 0), (.slice none 0 0), (.bool false), (.int .i64 0), (.slice none 0 0), (.slice none 0 0), (.int .i64 0), (.slice none 0 0)])]) rfl
  obtain ⟨x8, hx6, H⟩ := hb H
  refine ste hF (e_callA (fst := []) (vs := [(.pointer (some ⟨g2, 0, none⟩))]) (cap := []) rfl rfl go_85 (St.call (A := [pt g2 99 ([v6, (.int .i64 x5.2.2.1), (.bool x5.2.2.2)])]) (B := [pt g3 41 ([(.int .i64 x1.1), (.int .i64 x2.1), (.int .i64 x3.1), (.int .i64 x4.1), (.int .i64 x5.1), (.bool false), (.int .i64 0), (.slice none 0 0), (.slice none 0 0), (.bool false), (.int .i64 0), (.slice none 0 0), (.slice none 0 0), (.int .i64 0), (.slice none 0 0)]), pt g1 41 ([(.int .i64 0), (.int .i64 0), (.int .i64 0), (.int .i64 0), (.int .i64 0), (.bool false), (.int .i64 0), (.slice none 0 0), (.slice none 0 0), (.bool false), (.int .i64 0), (.slice none 0 0), (.slice none 0 0), (.int .i64 0), (.slice none 0 0)])]) hS (impl_reader_one.spec k _ _ x5.2.1 x5.2.2.1 x5.2.2.2 v6 g2 h6 _ hx6)) rfl) (by decide) (fun v w a hR hF => ?_)
  obtain ⟨s7, A7, hg6, hS, hR⟩ := hR
  obtain ⟨v7, hv6, rfl, h7⟩ := hR; obtain rfl := hv6.symm
  have hS : St e s7 w [pt g2 99 ([v7, (.int .i64 x8.2.2.1), (.bool x8.2.2.2)]), pt g3 41 ([(.int .i64 x1.1), (.int .i64 x2.1), (.int .i64 x3.1), (.int .i64 x4.1), (.int .i64 x5.1), (.bool false), (.int .i64 0), (.slice none 0 0), (.slice none 0 0), (.bool false), (.int .i64 0), (.slice none 0 0), (.slice none 0 0), (.int .i64 0), (.slice none 0 0)]), pt g1 41 ([(.int .i64 0), (.int .i64 0), (.int .i64 0), (.int .i64 0), (.int .i64 0), (.bool false), (.int .i64 0), (.slice none 0 0), (.slice none 0 0), (.bool false), (.int .i64 0), (.slice none 0 0), (.slice none 0 0), (.int .i64 0), (.slice none 0 0)])] := hS
  refine stp hF (p_fldb (o' := 13) rfl fi_41_7 rfl) (by decide) (fun a hF => ?_)
  refine ste0 hF (e_stb (i := 1) (l := [(.int .i64 x1.1), (.int .i64 x2.1), (.int .i64 x3.1), (.int .i64 x4.1), (.int .i64 x5.1), (.bool false), (.int .i64 0), (.slice none 0 0), (.slice none 0 0), (.bool false), (.int .i64 0), (.slice none 0 0), (.slice none 0 0)]) (m := [(.int .i64 0)]) (r := [(.slice none 0 0)]) (m' := [(.int .i64 x8.1)]) (cs' := [(.int .i64 x1.1), (.int .i64 x2.1), (.int .i64 x3.1), (.int .i64 x4.1), (.int .i64 x5.1), (.bool false), (.int .i64 0), (.slice none 0 0), (.slice none 0 0), (.bool false), (.int .i64 0), (.slice none 0 0), (.slice none 0 0), (.int .i64 x8.1), (.slice none 0 0)]) hS rfl rfl rfl ti_3 rfl rfl rfl rfl rfl (one_cons rfl one_nil) rfl) (fun v w a hR hF => ?_)
  have hS : St e s7 w [pt g3 41 ([(.int .i64 x1.1), (.int .i64 x2.1), (.int .i64 x3.1), (.int .i64 x4.1), (.int .i64 x5.1), (.bool false), (.int .i64 0), (.slice none 0 0), (.slice none 0 0), (.bool false), (.int .i64 0), (.slice none 0 0), (.slice none 0 0), (.int .i64 x8.1), (.slice none 0 0)]), pt g2 99 ([v7, (.int .i64 x8.2.2.1), (.bool x8.2.2.2)]), pt g1 41 ([(.int .i64 0), (.int .i64 0), (.int .i64 0), (.int .i64 0), (.int .i64 0), (.bool false), (.int .i64 0), (.slice none 0 0), (.slice none 0 0), (.bool false), (.int .i64 0), (.slice none 0 0), (.slice none 0 0), (.int .i64 0), (.slice none 0 0)])] := hR
  refine nilN ?_
  refine xn ?_
  refine sq ?_
  refine rg ?_
  refine stp hF (p_move rfl) (by decide) (fun a hF => ?_)
  replace hS := hS.sel (is := [1, 0, 0]) (A' := [pt g2 99 ([v7, (.int .i64 x8.2.2.1), (.bool x8.2.2.2)]), pt g3 41 ([(.int .i64 x1.1), (.int .i64 x2.1), (.int .i64 x3.1), (.int .i64 x4.1), (.int .i64 x5.1), (.bool false), (.int .i64 0), (.slice none 0 0), (.slice none 0 0), (.bool false), (.int .i64 0), (.slice none 0 0), (.slice none 0 0), (.int .i64 x8.1), (.slice none 0 0)]), pt g1 41 ([(.int .i64 0), (.int .i64 0), (.int .i64 0), (.int .i64 0), (.int .i64 0), (.bool false), (.int .i64 0), (.slice none 0 0), (.slice none 0 0), (.bool false), (.int .i64 0), (.slice none 0 0), (.slice none 0 0), (.int .i64 0), (.slice none 0 0)])]) rfl
  obtain ⟨x6, hx7, H⟩ := hb H
  refine ste hF (e_callA (fst := []) (vs := [(.pointer (some ⟨g2, 0, none⟩))]) (cap := []) rfl rfl go_86 (St.call (A := [pt g2 99 ([v7, (.int .i64 x8.2.2.1), (.bool x8.2.2.2)])]) (B := [pt g3 41 ([(.int .i64 x1.1), (.int .i64 x2.1), (.int .i64 x3.1), (.int .i64 x4.1), (.int .i64 x5.1), (.bool false), (.int .i64 0), (.slice none 0 0), (.slice none 0 0), (.bool false), (.int .i64 0), (.slice none 0 0), (.slice none 0 0), (.int .i64 x8.1), (.slice none 0 0)]), pt g1 41 ([(.int .i64 0), (.int .i64 0), (.int .i64 0), (.int .i64 0), (.int .i64 0), (.bool false), (.int .i64 0), (.slice none 0 0), (.slice none 0 0), (.bool false), (.int .i64 0), (.slice none 0 0), (.slice none 0 0), (.int .i64 0), (.slice none 0 0)])]) hS (impl_reader_slot.spec k _ _ x8.2.1 x8.2.2.1 x8.2.2.2 v7 g2 h7 _ hx7)) rfl) (by decide) (fun v w a hR hF => ?_)
  obtain ⟨s8, A8, hg7, hS, hR⟩ := hR
  obtain ⟨v8, v9, v10, hv7, rfl, h8⟩ := hR; obtain rfl := hv7.symm
  have hS : St e s8 w [pt g2 99 ([v8, (.int .i64 x6.2.2.1), (.bool x6.2.2.2)]), Ow (Kd.int .i64) 3 v9 x6.1.O.Ints, Ow (Kd.int .i64) 3 v10 x6.1.O.Refs, pt g3 41 ([(.int .i64 x1.1), (.int .i64 x2.1), (.int .i64 x3.1), (.int .i64 x4.1), (.int .i64 x5.1), (.bool false), (.int .i64 0), (.slice none 0 0), (.slice none 0 0), (.bool false), (.int .i64 0), (.slice none 0 0), (.slice none 0 0), (.int .i64 x8.1), (.slice none 0 0)]), pt g1 41 ([(.int .i64 0), (.int .i64 0), (.int .i64 0), (.int .i64 0), (.int .i64 0), (.bool false), (.int .i64 0), (.slice none 0 0), (.slice none 0 0), (.bool false), (.int .i64 0), (.slice none 0 0), (.slice none 0 0), (.int .i64 0), (.slice none 0 0)])] := hS
  refine stp hF (p_fldb (o' := 5) rfl fi_41_5 rfl) (by decide) (fun a hF => ?_)
  refine ste0 hF (e_stb (i := 3) (l := [(.int .i64 x1.1), (.int .i64 x2.1), (.int .i64 x3.1), (.int .i64 x4.1), (.int .i64 x5.1)]) (m := [(.bool false), (.int .i64 0), (.slice none 0 0), (.slice none 0 0)]) (r := [(.bool false), (.int .i64 0), (.slice none 0 0), (.slice none 0 0), (.int .i64 x8.1), (.slice none 0 0)]) (m' := [(.bool x6.1.Has), (.int .i64 x6.1.O.Kind), v9, v10]) (cs' := [(.int .i64 x1.1), (.int .i64 x2.1), (.int .i64 x3.1), (.int .i64 x4.1), (.int .i64 x5.1), (.bool x6.1.Has), (.int .i64 x6.1.O.Kind), v9, v10, (.bool false), (.int .i64 0), (.slice none 0 0), (.slice none 0 0), (.int .i64 x8.1), (.slice none 0 0)]) hS rfl rfl rfl ti_38 rfl rfl rfl rfl rfl (one_cons rfl (one_cons rfl (one_cons (hS.one_ow (i := 1) rfl) (one_cons (hS.one_ow (i := 2) rfl) one_nil)))) rfl) (fun v w a hR hF => ?_)
  have hS : St e s8 w [pt g3 41 ([(.int .i64 x1.1), (.int .i64 x2.1), (.int .i64 x3.1), (.int .i64 x4.1), (.int .i64 x5.1), (.bool x6.1.Has), (.int .i64 x6.1.O.Kind), v9, v10, (.bool false), (.int .i64 0), (.slice none 0 0), (.slice none 0 0), (.int .i64 x8.1), (.slice none 0 0)]), pt g2 99 ([v8, (.int .i64 x6.2.2.1), (.bool x6.2.2.2)]), Ow (Kd.int .i64) 3 v9 x6.1.O.Ints, Ow (Kd.int .i64) 3 v10 x6.1.O.Refs, pt g1 41 ([(.int .i64 0), (.int .i64 0), (.int .i64 0), (.int .i64 0), (.int .i64 0), (.bool false), (.int .i64 0), (.slice none 0 0), (.slice none 0 0), (.bool false), (.int .i64 0), (.slice none 0 0), (.slice none 0 0), (.int .i64 0), (.slice none 0 0)])] := hR
  refine nilN ?_
  refine xn ?_
  refine sq ?_
  refine rg ?_
  refine stp hF (p_move rfl) (by decide) (fun a hF => ?_)
  replace hS := hS.sel (is := [1, 0, 0, 0, 0]) (A' := [pt g2 99 ([v8, (.int .i64 x6.2.2.1), (.bool x6.2.2.2)]), pt g3 41 ([(.int .i64 x1.1), (.int .i64 x2.1), (.int .i64 x3.1), (.int .i64 x4.1), (.int .i64 x5.1), (.bool x6.1.Has), (.int .i64 x6.1.O.Kind), v9, v10, (.bool false), (.int .i64 0), (.slice none 0 0), (.slice none 0 0), (.int .i64 x8.1), (.slice none 0 0)]), Ow (Kd.int .i64) 3 v9 x6.1.O.Ints, Ow (Kd.int .i64) 3 v10 x6.1.O.Refs, pt g1 41 ([(.int .i64 0), (.int .i64 0), (.int .i64 0), (.int .i64 0), (.int .i64 0), (.bool false), (.int .i64 0), (.slice none 0 0), (.slice none 0 0), (.bool false), (.int .i64 0), (.slice none 0 0), (.slice none 0 0), (.int .i64 0), (.slice none 0 0)])]) rfl
  obtain ⟨x7, hx8, H⟩ := hb H
  refine ste hF (e_callA (fst := []) (vs := [(.pointer (some ⟨g2, 0, none⟩))]) (cap := []) rfl rfl go_86 (St.call (A := [pt g2 99 ([v8, (.int .i64 x6.2.2.1), (.bool x6.2.2.2)])]) (B := [pt g3 41 ([(.int .i64 x1.1), (.int .i64 x2.1), (.int .i64 x3.1), (.int .i64 x4.1), (.int .i64 x5.1), (.bool x6.1.Has), (.int .i64 x6.1.O.Kind), v9, v10, (.bool false), (.int .i64 0), (.slice none 0 0), (.slice none 0 0), (.int .i64 x8.1), (.slice none 0 0)]), Ow (Kd.int .i64) 3 v9 x6.1.O.Ints, Ow (Kd.int .i64) 3 v10 x6.1.O.Refs, pt g1 41 ([(.int .i64 0), (.int .i64 0), (.int .i64 0), (.int .i64 0), (.int .i64 0), (.bool false), (.int .i64 0), (.slice none 0 0), (.slice none 0 0), (.bool false), (.int .i64 0), (.slice none 0 0), (.slice none 0 0), (.int .i64 0), (.slice none 0 0)])]) hS (impl_reader_slot.spec k _ _ x6.2.1 x6.2.2.1 x6.2.2.2 v8 g2 h8 _ hx8)) rfl) (by decide) (fun v w a hR hF => ?_)
  obtain ⟨s9, A9, hg8, hS, hR⟩ := hR
  obtain ⟨v11, v12, v13, hv8, rfl, h9⟩ := hR; obtain rfl := hv8.symm
  have hS : St e s9 w [pt g2 99 ([v11, (.int .i64 x7.2.2.1), (.bool x7.2.2.2)]), Ow (Kd.int .i64) 3 v12 x7.1.O.Ints, Ow (Kd.int .i64) 3 v13 x7.1.O.Refs, pt g3 41 ([(.int .i64 x1.1), (.int .i64 x2.1), (.int .i64 x3.1), (.int .i64 x4.1), (.int .i64 x5.1), (.bool x6.1.Has), (.int .i64 x6.1.O.Kind), v9, v10, (.bool false), (.int .i64 0), (.slice none 0 0), (.slice none 0 0), (.int .i64 x8.1), (.slice none 0 0)]), Ow (Kd.int .i64) 3 v9 x6.1.O.Ints, Ow (Kd.int .i64) 3 v10 x6.1.O.Refs, pt g1 41 ([(.int .i64 0), (.int .i64 0), (.int .i64 0), (.int .i64 0), (.int .i64 0), (.bool false), (.int .i64 0), (.slice none 0 0), (.slice none 0 0), (.bool false), (.int .i64 0), (.slice none 0 0), (.slice none 0 0), (.int .i64 0), (.slice none 0 0)])] := hS
  refine stp hF (p_fldb (o' := 9) rfl fi_41_6 rfl) (by decide) (fun a hF => ?_)
  refine ste0 hF (e_stb (i := 3) (l := [(.int .i64 x1.1), (.int .i64 x2.1), (.int .i64 x3.1), (.int .i64 x4.1), (.int .i64 x5.1), (.bool x6.1.Has), (.int .i64 x6.1.O.Kind), v9, v10]) (m := [(.bool false), (.int .i64 0), (.slice none 0 0), (.slice none 0 0)]) (r := [(.int .i64 x8.1), (.slice none 0 0)]) (m' := [(.bool x7.1.Has), (.int .i64 x7.1.O.Kind), v12, v13]) (cs' := [(.int .i64 x1.1), (.int .i64 x2.1), (.int .i64 x3.1), (.int .i64 x4.1), (.int .i64 x5.1), (.bool x6.1.Has), (.int .i64 x6.1.O.Kind), v9, v10, (.bool x7.1.Has), (.int .i64 x7.1.O.Kind), v12, v13, (.int .i64 x8.1), (.slice none 0 0)]) hS rfl rfl rfl ti_38 rfl rfl rfl rfl rfl (one_cons rfl (one_cons rfl (one_cons (hS.one_ow (i := 1) rfl) (one_cons (hS.one_ow (i := 2) rfl) one_nil)))) rfl) (fun v w a hR hF => ?_)
  have hS : St e s9 w [pt g3 41 ([(.int .i64 x1.1), (.int .i64 x2.1), (.int .i64 x3.1), (.int .i64 x4.1), (.int .i64 x5.1), (.bool x6.1.Has), (.int .i64 x6.1.O.Kind), v9, v10, (.bool x7.1.Has), (.int .i64 x7.1.O.Kind), v12, v13, (.int .i64 x8.1), (.slice none 0 0)]), pt g2 99 ([v11, (.int .i64 x7.2.2.1), (.bool x7.2.2.2)]), Ow (Kd.int .i64) 3 v12 x7.1.O.Ints, Ow (Kd.int .i64) 3 v13 x7.1.O.Refs, Ow (Kd.int .i64) 3 v9 x6.1.O.Ints, Ow (Kd.int .i64) 3 v10 x6.1.O.Refs, pt g1 41 ([(.int .i64 0), (.int .i64 0), (.int .i64 0), (.int .i64 0), (.int .i64 0), (.bool false), (.int .i64 0), (.slice none 0 0), (.slice none 0 0), (.bool false), (.int .i64 0), (.slice none 0 0), (.slice none 0 0), (.int .i64 0), (.slice none 0 0)])] := hR
  refine nilN ?_
  refine xn ?_
  obtain ⟨x27, H, HK1⟩ := hb H
  refine sqj (fun a w => ∃ (x9 : (List TLive)) (x11 : (List Int)) (x12 : Int) (x13 : Bool) (s10 : HF) (v14 : Value) (v15 : Value) , St e s10 w [pt g3 41 ([(.int .i64 x1.1), (.int .i64 x2.1), (.int .i64 x3.1), (.int .i64 x4.1), (.int .i64 x5.1), (.bool x6.1.Has), (.int .i64 x6.1.O.Kind), v9, v10, (.bool x7.1.Has), (.int .i64 x7.1.O.Kind), v12, v13, (.int .i64 x8.1), v14]), Ow kTLive 91 v14 x9, pt g2 99 ([v15, (.int .i64 x12), (.bool x13)]), Ow (Kd.int .i64) 3 v12 x7.1.O.Ints, Ow (Kd.int .i64) 3 v13 x7.1.O.Refs, Ow (Kd.int .i64) 3 v9 x6.1.O.Ints, Ow (Kd.int .i64) 3 v10 x6.1.O.Refs, pt g1 41 ([(.int .i64 0), (.int .i64 0), (.int .i64 0), (.int .i64 0), (.int .i64 0), (.bool false), (.int .i64 0), (.slice none 0 0), (.slice none 0 0), (.bool false), (.int .i64 0), (.slice none 0 0), (.slice none 0 0), (.int .i64 0), (.slice none 0 0)])] ∧ Fr 65 a [(2, (.pointer (some ⟨g1, 0, none⟩))), (4, (.pointer (some ⟨g2, 0, none⟩))), (5, (.pointer (some ⟨g3, 0, none⟩)))] ∧ Sub s9 s10 ∧ Sl (Kd.int .u8) s10 v15 x11 ∧ impl_GetRec.c2 k x1 x2 x3 x4 x5 x6 x7 x8 x9 x11 x12 x13 = some r) ?_ ?_
  · skip
    refine sq ?_
    refine rg ?_
    refine stp hF (p_move rfl) (by decide) (fun a hF => ?_)
    replace hS := hS.sel (is := [1, 0, 0, 0, 0, 0, 0]) (A' := [pt g2 99 ([v11, (.int .i64 x7.2.2.1), (.bool x7.2.2.2)]), pt g3 41 ([(.int .i64 x1.1), (.int .i64 x2.1), (.int .i64 x3.1), (.int .i64 x4.1), (.int .i64 x5.1), (.bool x6.1.Has), (.int .i64 x6.1.O.Kind), v9, v10, (.bool x7.1.Has), (.int .i64 x7.1.O.Kind), v12, v13, (.int .i64 x8.1), (.slice none 0 0)]), Ow (Kd.int .i64) 3 v12 x7.1.O.Ints, Ow (Kd.int .i64) 3 v13 x7.1.O.Refs, Ow (Kd.int .i64) 3 v9 x6.1.O.Ints, Ow (Kd.int .i64) 3 v10 x6.1.O.Refs, pt g1 41 ([(.int .i64 0), (.int .i64 0), (.int .i64 0), (.int .i64 0), (.int .i64 0), (.bool false), (.int .i64 0), (.slice none 0 0), (.slice none 0 0), (.bool false), (.int .i64 0), (.slice none 0 0), (.slice none 0 0), (.int .i64 0), (.slice none 0 0)])]) rfl
    obtain ⟨x17, hx9, H⟩ := hb H
    refine ste hF (e_callA (fst := []) (vs := [(.pointer (some ⟨g2, 0, none⟩)), (.int .i64 20)]) (cap := []) rfl rfl go_87 (St.call (A := [pt g2 99 ([v11, (.int .i64 x7.2.2.1), (.bool x7.2.2.2)])]) (B := [pt g3 41 ([(.int .i64 x1.1), (.int .i64 x2.1), (.int .i64 x3.1), (.int .i64 x4.1), (.int .i64 x5.1), (.bool x6.1.Has), (.int .i64 x6.1.O.Kind), v9, v10, (.bool x7.1.Has), (.int .i64 x7.1.O.Kind), v12, v13, (.int .i64 x8.1), (.slice none 0 0)]), Ow (Kd.int .i64) 3 v12 x7.1.O.Ints, Ow (Kd.int .i64) 3 v13 x7.1.O.Refs, Ow (Kd.int .i64) 3 v9 x6.1.O.Ints, Ow (Kd.int .i64) 3 v10 x6.1.O.Refs, pt g1 41 ([(.int .i64 0), (.int .i64 0), (.int .i64 0), (.int .i64 0), (.int .i64 0), (.bool false), (.int .i64 0), (.slice none 0 0), (.slice none 0 0), (.bool false), (.int .i64 0), (.slice none 0 0), (.slice none 0 0), (.int .i64 0), (.slice none 0 0)])]) hS (impl_reader_many.spec k _ _ x7.2.1 x7.2.2.1 x7.2.2.2 20 v11 g2 h9 _ hx9)) rfl) (by decide) (fun v w a hR hF => ?_)
    obtain ⟨s11, A10, hg9, hS, hR⟩ := hR
    obtain ⟨v16, hv9, rfl, h10⟩ := hR; obtain rfl := hv9.symm
    have hS : St e s11 w [pt g2 99 ([v16, (.int .i64 x17.2.2.1), (.bool x17.2.2.2)]), pt g3 41 ([(.int .i64 x1.1), (.int .i64 x2.1), (.int .i64 x3.1), (.int .i64 x4.1), (.int .i64 x5.1), (.bool x6.1.Has), (.int .i64 x6.1.O.Kind), v9, v10, (.bool x7.1.Has), (.int .i64 x7.1.O.Kind), v12, v13, (.int .i64 x8.1), (.slice none 0 0)]), Ow (Kd.int .i64) 3 v12 x7.1.O.Ints, Ow (Kd.int .i64) 3 v13 x7.1.O.Refs, Ow (Kd.int .i64) 3 v9 x6.1.O.Ints, Ow (Kd.int .i64) 3 v10 x6.1.O.Refs, pt g1 41 ([(.int .i64 0), (.int .i64 0), (.int .i64 0), (.int .i64 0), (.int .i64 0), (.bool false), (.int .i64 0), (.slice none 0 0), (.slice none 0 0), (.bool false), (.int .i64 0), (.slice none 0 0), (.slice none 0 0), (.int .i64 0), (.slice none 0 0)])] := hS
    refine stp hF (p_move rfl) (by decide) (fun a hF => ?_)
    refine nilN ?_
    refine xn ?_
    refine blk ?_
    refine loop_ind (fun k1 a w => ∃ (x18 : (List Int)) (x19 : Int) (x20 : Bool) (x21 : (List TLive)) (x22 : Int) (s12 : HF) (v17 : Value) (v18 : Value) , St e s12 w [pt g2 99 ([v17, (.int .i64 x19), (.bool x20)]), pt g3 41 ([(.int .i64 x1.1), (.int .i64 x2.1), (.int .i64 x3.1), (.int .i64 x4.1), (.int .i64 x5.1), (.bool x6.1.Has), (.int .i64 x6.1.O.Kind), v9, v10, (.bool x7.1.Has), (.int .i64 x7.1.O.Kind), v12, v13, (.int .i64 x8.1), v18]), Ow kTLive 91 v18 x21, Ow (Kd.int .i64) 3 v12 x7.1.O.Ints, Ow (Kd.int .i64) 3 v13 x7.1.O.Refs, Ow (Kd.int .i64) 3 v9 x6.1.O.Ints, Ow (Kd.int .i64) 3 v10 x6.1.O.Refs, pt g1 41 ([(.int .i64 0), (.int .i64 0), (.int .i64 0), (.int .i64 0), (.int .i64 0), (.bool false), (.int .i64 0), (.slice none 0 0), (.slice none 0 0), (.bool false), (.int .i64 0), (.slice none 0 0), (.slice none 0 0), (.int .i64 0), (.slice none 0 0)])] ∧ Fr 65 a [(2, (.pointer (some ⟨g1, 0, none⟩))), (4, (.pointer (some ⟨g2, 0, none⟩))), (5, (.pointer (some ⟨g3, 0, none⟩))), (35, (.int .i64 x17.1)), (36, (.int .i64 x22))] ∧ Sub s11 s12 ∧ Sl (Kd.int .u8) s12 v17 x18 ∧ impl_GetRec.l1 x17 k1 x18 x19 x20 x21 x22 = some x27) k ?_ ?_ ?_
    · skip
      replace hS := hS.ownNil kTLive 91 none
      replace hS := hS.sel (is := [1, 1, 0, 0, 0, 0, 0, 0]) (A' := [pt g2 99 ([v16, (.int .i64 x17.2.2.1), (.bool x17.2.2.2)]), pt g3 41 ([(.int .i64 x1.1), (.int .i64 x2.1), (.int .i64 x3.1), (.int .i64 x4.1), (.int .i64 x5.1), (.bool x6.1.Has), (.int .i64 x6.1.O.Kind), v9, v10, (.bool x7.1.Has), (.int .i64 x7.1.O.Kind), v12, v13, (.int .i64 x8.1), (.slice none 0 0)]), Ow kTLive 91 (.slice none 0 0) ([] : List TLive), Ow (Kd.int .i64) 3 v12 x7.1.O.Ints, Ow (Kd.int .i64) 3 v13 x7.1.O.Refs, Ow (Kd.int .i64) 3 v9 x6.1.O.Ints, Ow (Kd.int .i64) 3 v10 x6.1.O.Refs, pt g1 41 ([(.int .i64 0), (.int .i64 0), (.int .i64 0), (.int .i64 0), (.int .i64 0), (.bool false), (.int .i64 0), (.slice none 0 0), (.slice none 0 0), (.bool false), (.int .i64 0), (.slice none 0 0), (.slice none 0 0), (.int .i64 0), (.slice none 0 0)])]) rfl
      exact ⟨x17.2.1, x17.2.2.1, x17.2.2.2, ([] : List TLive), 0, s11, v16, (.slice none 0 0), hS, hF.cut ⟨rfl, rfl, rfl, rfl, rfl, trivial⟩, (Sub.refl _), h10, H⟩
    · clear H hS hF
      rintro a w ⟨x18, x19, x20, x21, x22, s12, v17, v18, hS, hF, hg10, h11, H⟩
      exact absurd (show none = some _ from H) (by simp)
    · clear H hS hF
      rintro k1 a w ⟨x18, x19, x20, x21, x22, s12, v17, v18, hS, hF, hg10, h11, H⟩
      rw [impl_GetRec.l1.eq_2] at H
      refine sq ?_
      refine rg ?_
      refine stp hF (p_lss rfl rfl) (by decide) (fun a hF => ?_)
      refine nilN ?_
      refine xn ?_
      refine sq ?_
      refine cnd hF rfl (fun hc1 => ?_) (fun hc1 => ?_)
      · replace H := hbt hc1 H
        refine skN ?_
        refine xn ?_
        refine sq ?_
        refine blk ?_
        refine sq ?_
        refine rg ?_
        refine stp hF (p_move rfl) (by decide) (fun a hF => ?_)
        obtain ⟨x23, hx10, H⟩ := hb H
        refine ste hF (e_callA (fst := []) (vs := [(.pointer (some ⟨g2, 0, none⟩))]) (cap := []) rfl rfl go_85 (St.call (A := [pt g2 99 ([v17, (.int .i64 x19), (.bool x20)])]) (B := [pt g3 41 ([(.int .i64 x1.1), (.int .i64 x2.1), (.int .i64 x3.1), (.int .i64 x4.1), (.int .i64 x5.1), (.bool x6.1.Has), (.int .i64 x6.1.O.Kind), v9, v10, (.bool x7.1.Has), (.int .i64 x7.1.O.Kind), v12, v13, (.int .i64 x8.1), v18]), Ow kTLive 91 v18 x21, Ow (Kd.int .i64) 3 v12 x7.1.O.Ints, Ow (Kd.int .i64) 3 v13 x7.1.O.Refs, Ow (Kd.int .i64) 3 v9 x6.1.O.Ints, Ow (Kd.int .i64) 3 v10 x6.1.O.Refs, pt g1 41 ([(.int .i64 0), (.int .i64 0), (.int .i64 0), (.int .i64 0), (.int .i64 0), (.bool false), (.int .i64 0), (.slice none 0 0), (.slice none 0 0), (.bool false), (.int .i64 0), (.slice none 0 0), (.slice none 0 0), (.int .i64 0), (.slice none 0 0)])]) hS (impl_reader_one.spec k1 _ _ x18 x19 x20 v17 g2 h11 _ hx10)) rfl) (by decide) (fun v w a hR hF => ?_)
        obtain ⟨s13, A11, hg11, hS, hR⟩ := hR
        obtain ⟨v19, hv10, rfl, h12⟩ := hR; obtain rfl := hv10.symm
        have hS : St e s13 w [pt g2 99 ([v19, (.int .i64 x23.2.2.1), (.bool x23.2.2.2)]), pt g3 41 ([(.int .i64 x1.1), (.int .i64 x2.1), (.int .i64 x3.1), (.int .i64 x4.1), (.int .i64 x5.1), (.bool x6.1.Has), (.int .i64 x6.1.O.Kind), v9, v10, (.bool x7.1.Has), (.int .i64 x7.1.O.Kind), v12, v13, (.int .i64 x8.1), v18]), Ow kTLive 91 v18 x21, Ow (Kd.int .i64) 3 v12 x7.1.O.Ints, Ow (Kd.int .i64) 3 v13 x7.1.O.Refs, Ow (Kd.int .i64) 3 v9 x6.1.O.Ints, Ow (Kd.int .i64) 3 v10 x6.1.O.Refs, pt g1 41 ([(.int .i64 0), (.int .i64 0), (.int .i64 0), (.int .i64 0), (.int .i64 0), (.bool false), (.int .i64 0), (.slice none 0 0), (.slice none 0 0), (.bool false), (.int .i64 0), (.slice none 0 0), (.slice none 0 0), (.int .i64 0), (.slice none 0 0)])] := hS
        refine stp hF (p_build (ps := [(0, (.tmp 39))]) (vs := [(0, (.int .i64 x23.1))]) (v := (.agg #[(.int .i64 x23.1), (.int .i64 0), (.bool false)])) rfl (by intro w; kernel_rfl)) (by decide) (fun a hF => ?_)
        refine ste hF (e_alloc (cs := [(.int .i64 0), (.int .i64 0), (.bool false)]) hS ti_91 rfl) (by decide) (fun v w a hR hF => ?_)
        obtain ⟨g4, rfl, hS⟩ := hR
        refine ste0 hF (e_stb (i := 0) (l := []) (m := [(.int .i64 0), (.int .i64 0), (.bool false)]) (r := []) (m' := [(.int .i64 x23.1), (.int .i64 0), (.bool false)]) (cs' := [(.int .i64 x23.1), (.int .i64 0), (.bool false)]) hS rfl rfl rfl ti_91 rfl rfl rfl rfl rfl (one_cons rfl (one_cons rfl (one_cons rfl one_nil))) rfl) (fun v w a hR hF => ?_)
        have hS : St e s13 w [pt g4 91 ([(.int .i64 x23.1), (.int .i64 0), (.bool false)]), pt g2 99 ([v19, (.int .i64 x23.2.2.1), (.bool x23.2.2.2)]), pt g3 41 ([(.int .i64 x1.1), (.int .i64 x2.1), (.int .i64 x3.1), (.int .i64 x4.1), (.int .i64 x5.1), (.bool x6.1.Has), (.int .i64 x6.1.O.Kind), v9, v10, (.bool x7.1.Has), (.int .i64 x7.1.O.Kind), v12, v13, (.int .i64 x8.1), v18]), Ow kTLive 91 v18 x21, Ow (Kd.int .i64) 3 v12 x7.1.O.Ints, Ow (Kd.int .i64) 3 v13 x7.1.O.Refs, Ow (Kd.int .i64) 3 v9 x6.1.O.Ints, Ow (Kd.int .i64) 3 v10 x6.1.O.Refs, pt g1 41 ([(.int .i64 0), (.int .i64 0), (.int .i64 0), (.int .i64 0), (.int .i64 0), (.bool false), (.int .i64 0), (.slice none 0 0), (.slice none 0 0), (.bool false), (.int .i64 0), (.slice none 0 0), (.slice none 0 0), (.int .i64 0), (.slice none 0 0)])] := hR
        refine nilN ?_
        refine xn ?_
        refine sq ?_
        refine rg ?_
        refine stp hF (p_move rfl) (by decide) (fun a hF => ?_)
        replace hS := hS.sel (is := [1, 0, 0, 0, 0, 0, 0, 0, 0]) (A' := [pt g2 99 ([v19, (.int .i64 x23.2.2.1), (.bool x23.2.2.2)]), pt g4 91 ([(.int .i64 x23.1), (.int .i64 0), (.bool false)]), pt g3 41 ([(.int .i64 x1.1), (.int .i64 x2.1), (.int .i64 x3.1), (.int .i64 x4.1), (.int .i64 x5.1), (.bool x6.1.Has), (.int .i64 x6.1.O.Kind), v9, v10, (.bool x7.1.Has), (.int .i64 x7.1.O.Kind), v12, v13, (.int .i64 x8.1), v18]), Ow kTLive 91 v18 x21, Ow (Kd.int .i64) 3 v12 x7.1.O.Ints, Ow (Kd.int .i64) 3 v13 x7.1.O.Refs, Ow (Kd.int .i64) 3 v9 x6.1.O.Ints, Ow (Kd.int .i64) 3 v10 x6.1.O.Refs, pt g1 41 ([(.int .i64 0), (.int .i64 0), (.int .i64 0), (.int .i64 0), (.int .i64 0), (.bool false), (.int .i64 0), (.slice none 0 0), (.slice none 0 0), (.bool false), (.int .i64 0), (.slice none 0 0), (.slice none 0 0), (.int .i64 0), (.slice none 0 0)])]) rfl
        obtain ⟨x24, hx11, H⟩ := hb H
        refine ste hF (e_callA (fst := []) (vs := [(.pointer (some ⟨g2, 0, none⟩))]) (cap := []) rfl rfl go_85 (St.call (A := [pt g2 99 ([v19, (.int .i64 x23.2.2.1), (.bool x23.2.2.2)])]) (B := [pt g4 91 ([(.int .i64 x23.1), (.int .i64 0), (.bool false)]), pt g3 41 ([(.int .i64 x1.1), (.int .i64 x2.1), (.int .i64 x3.1), (.int .i64 x4.1), (.int .i64 x5.1), (.bool x6.1.Has), (.int .i64 x6.1.O.Kind), v9, v10, (.bool x7.1.Has), (.int .i64 x7.1.O.Kind), v12, v13, (.int .i64 x8.1), v18]), Ow kTLive 91 v18 x21, Ow (Kd.int .i64) 3 v12 x7.1.O.Ints, Ow (Kd.int .i64) 3 v13 x7.1.O.Refs, Ow (Kd.int .i64) 3 v9 x6.1.O.Ints, Ow (Kd.int .i64) 3 v10 x6.1.O.Refs, pt g1 41 ([(.int .i64 0), (.int .i64 0), (.int .i64 0), (.int .i64 0), (.int .i64 0), (.bool false), (.int .i64 0), (.slice none 0 0), (.slice none 0 0), (.bool false), (.int .i64 0), (.slice none 0 0), (.slice none 0 0), (.int .i64 0), (.slice none 0 0)])]) hS (impl_reader_one.spec k1 _ _ x23.2.1 x23.2.2.1 x23.2.2.2 v19 g2 h12 _ hx11)) rfl) (by decide) (fun v w a hR hF => ?_)
        obtain ⟨s14, A12, hg12, hS, hR⟩ := hR
        obtain ⟨v20, hv11, rfl, h13⟩ := hR; obtain rfl := hv11.symm
        have hS : St e s14 w [pt g2 99 ([v20, (.int .i64 x24.2.2.1), (.bool x24.2.2.2)]), pt g4 91 ([(.int .i64 x23.1), (.int .i64 0), (.bool false)]), pt g3 41 ([(.int .i64 x1.1), (.int .i64 x2.1), (.int .i64 x3.1), (.int .i64 x4.1), (.int .i64 x5.1), (.bool x6.1.Has), (.int .i64 x6.1.O.Kind), v9, v10, (.bool x7.1.Has), (.int .i64 x7.1.O.Kind), v12, v13, (.int .i64 x8.1), v18]), Ow kTLive 91 v18 x21, Ow (Kd.int .i64) 3 v12 x7.1.O.Ints, Ow (Kd.int .i64) 3 v13 x7.1.O.Refs, Ow (Kd.int .i64) 3 v9 x6.1.O.Ints, Ow (Kd.int .i64) 3 v10 x6.1.O.Refs, pt g1 41 ([(.int .i64 0), (.int .i64 0), (.int .i64 0), (.int .i64 0), (.int .i64 0), (.bool false), (.int .i64 0), (.slice none 0 0), (.slice none 0 0), (.bool false), (.int .i64 0), (.slice none 0 0), (.slice none 0 0), (.int .i64 0), (.slice none 0 0)])] := hS
        refine stp hF (p_fldb (o' := 1) rfl fi_91_1 rfl) (by decide) (fun a hF => ?_)
        refine ste0 hF (e_stb (i := 1) (l := [(.int .i64 x23.1)]) (m := [(.int .i64 0)]) (r := [(.bool false)]) (m' := [(.int .i64 x24.1)]) (cs' := [(.int .i64 x23.1), (.int .i64 x24.1), (.bool false)]) hS rfl rfl rfl ti_3 rfl rfl rfl rfl rfl (one_cons rfl one_nil) rfl) (fun v w a hR hF => ?_)
        have hS : St e s14 w [pt g4 91 ([(.int .i64 x23.1), (.int .i64 x24.1), (.bool false)]), pt g2 99 ([v20, (.int .i64 x24.2.2.1), (.bool x24.2.2.2)]), pt g3 41 ([(.int .i64 x1.1), (.int .i64 x2.1), (.int .i64 x3.1), (.int .i64 x4.1), (.int .i64 x5.1), (.bool x6.1.Has), (.int .i64 x6.1.O.Kind), v9, v10, (.bool x7.1.Has), (.int .i64 x7.1.O.Kind), v12, v13, (.int .i64 x8.1), v18]), Ow kTLive 91 v18 x21, Ow (Kd.int .i64) 3 v12 x7.1.O.Ints, Ow (Kd.int .i64) 3 v13 x7.1.O.Refs, Ow (Kd.int .i64) 3 v9 x6.1.O.Ints, Ow (Kd.int .i64) 3 v10 x6.1.O.Refs, pt g1 41 ([(.int .i64 0), (.int .i64 0), (.int .i64 0), (.int .i64 0), (.int .i64 0), (.bool false), (.int .i64 0), (.slice none 0 0), (.slice none 0 0), (.bool false), (.int .i64 0), (.slice none 0 0), (.slice none 0 0), (.int .i64 0), (.slice none 0 0)])] := hR
        refine nilN ?_
        refine xn ?_
        refine sq ?_
        refine rg ?_
        refine stp hF (p_move rfl) (by decide) (fun a hF => ?_)
        replace hS := hS.sel (is := [1, 0, 0, 0, 0, 0, 0, 0, 0]) (A' := [pt g2 99 ([v20, (.int .i64 x24.2.2.1), (.bool x24.2.2.2)]), pt g4 91 ([(.int .i64 x23.1), (.int .i64 x24.1), (.bool false)]), pt g3 41 ([(.int .i64 x1.1), (.int .i64 x2.1), (.int .i64 x3.1), (.int .i64 x4.1), (.int .i64 x5.1), (.bool x6.1.Has), (.int .i64 x6.1.O.Kind), v9, v10, (.bool x7.1.Has), (.int .i64 x7.1.O.Kind), v12, v13, (.int .i64 x8.1), v18]), Ow kTLive 91 v18 x21, Ow (Kd.int .i64) 3 v12 x7.1.O.Ints, Ow (Kd.int .i64) 3 v13 x7.1.O.Refs, Ow (Kd.int .i64) 3 v9 x6.1.O.Ints, Ow (Kd.int .i64) 3 v10 x6.1.O.Refs, pt g1 41 ([(.int .i64 0), (.int .i64 0), (.int .i64 0), (.int .i64 0), (.int .i64 0), (.bool false), (.int .i64 0), (.slice none 0 0), (.slice none 0 0), (.bool false), (.int .i64 0), (.slice none 0 0), (.slice none 0 0), (.int .i64 0), (.slice none 0 0)])]) rfl
        obtain ⟨x25, hx12, H⟩ := hb H
        refine ste hF (e_callA (fst := []) (vs := [(.pointer (some ⟨g2, 0, none⟩)), (.int .i64 1)]) (cap := []) rfl rfl go_87 (St.call (A := [pt g2 99 ([v20, (.int .i64 x24.2.2.1), (.bool x24.2.2.2)])]) (B := [pt g4 91 ([(.int .i64 x23.1), (.int .i64 x24.1), (.bool false)]), pt g3 41 ([(.int .i64 x1.1), (.int .i64 x2.1), (.int .i64 x3.1), (.int .i64 x4.1), (.int .i64 x5.1), (.bool x6.1.Has), (.int .i64 x6.1.O.Kind), v9, v10, (.bool x7.1.Has), (.int .i64 x7.1.O.Kind), v12, v13, (.int .i64 x8.1), v18]), Ow kTLive 91 v18 x21, Ow (Kd.int .i64) 3 v12 x7.1.O.Ints, Ow (Kd.int .i64) 3 v13 x7.1.O.Refs, Ow (Kd.int .i64) 3 v9 x6.1.O.Ints, Ow (Kd.int .i64) 3 v10 x6.1.O.Refs, pt g1 41 ([(.int .i64 0), (.int .i64 0), (.int .i64 0), (.int .i64 0), (.int .i64 0), (.bool false), (.int .i64 0), (.slice none 0 0), (.slice none 0 0), (.bool false), (.int .i64 0), (.slice none 0 0), (.slice none 0 0), (.int .i64 0), (.slice none 0 0)])]) hS (impl_reader_many.spec k1 _ _ x24.2.1 x24.2.2.1 x24.2.2.2 1 v20 g2 h13 _ hx12)) rfl) (by decide) (fun v w a hR hF => ?_)
        obtain ⟨s15, A13, hg13, hS, hR⟩ := hR
        obtain ⟨v21, hv12, rfl, h14⟩ := hR; obtain rfl := hv12.symm
        have hS : St e s15 w [pt g2 99 ([v21, (.int .i64 x25.2.2.1), (.bool x25.2.2.2)]), pt g4 91 ([(.int .i64 x23.1), (.int .i64 x24.1), (.bool false)]), pt g3 41 ([(.int .i64 x1.1), (.int .i64 x2.1), (.int .i64 x3.1), (.int .i64 x4.1), (.int .i64 x5.1), (.bool x6.1.Has), (.int .i64 x6.1.O.Kind), v9, v10, (.bool x7.1.Has), (.int .i64 x7.1.O.Kind), v12, v13, (.int .i64 x8.1), v18]), Ow kTLive 91 v18 x21, Ow (Kd.int .i64) 3 v12 x7.1.O.Ints, Ow (Kd.int .i64) 3 v13 x7.1.O.Refs, Ow (Kd.int .i64) 3 v9 x6.1.O.Ints, Ow (Kd.int .i64) 3 v10 x6.1.O.Refs, pt g1 41 ([(.int .i64 0), (.int .i64 0), (.int .i64 0), (.int .i64 0), (.int .i64 0), (.bool false), (.int .i64 0), (.slice none 0 0), (.slice none 0 0), (.bool false), (.int .i64 0), (.slice none 0 0), (.slice none 0 0), (.int .i64 0), (.slice none 0 0)])] := hS
        refine stp hF (p_eql rfl rfl) (by decide) (fun a hF => ?_)
        refine stp hF (p_fldb (o' := 2) rfl fi_91_2 rfl) (by decide) (fun a hF => ?_)
        refine ste0 hF (e_stb (i := 1) (l := [(.int .i64 x23.1), (.int .i64 x24.1)]) (m := [(.bool false)]) (r := []) (m' := [(.bool (decide (x25.1 = 1)))]) (cs' := [(.int .i64 x23.1), (.int .i64 x24.1), (.bool (decide (x25.1 = 1)))]) hS rfl rfl rfl ti_4 rfl rfl rfl rfl rfl (one_cons rfl one_nil) rfl) (fun v w a hR hF => ?_)
        have hS : St e s15 w [pt g4 91 ([(.int .i64 x23.1), (.int .i64 x24.1), (.bool (decide (x25.1 = 1)))]), pt g2 99 ([v21, (.int .i64 x25.2.2.1), (.bool x25.2.2.2)]), pt g3 41 ([(.int .i64 x1.1), (.int .i64 x2.1), (.int .i64 x3.1), (.int .i64 x4.1), (.int .i64 x5.1), (.bool x6.1.Has), (.int .i64 x6.1.O.Kind), v9, v10, (.bool x7.1.Has), (.int .i64 x7.1.O.Kind), v12, v13, (.int .i64 x8.1), v18]), Ow kTLive 91 v18 x21, Ow (Kd.int .i64) 3 v12 x7.1.O.Ints, Ow (Kd.int .i64) 3 v13 x7.1.O.Refs, Ow (Kd.int .i64) 3 v9 x6.1.O.Ints, Ow (Kd.int .i64) 3 v10 x6.1.O.Refs, pt g1 41 ([(.int .i64 0), (.int .i64 0), (.int .i64 0), (.int .i64 0), (.int .i64 0), (.bool false), (.int .i64 0), (.slice none 0 0), (.slice none 0 0), (.bool false), (.int .i64 0), (.slice none 0 0), (.slice none 0 0), (.int .i64 0), (.slice none 0 0)])] := hR
        refine nilN ?_
        refine xn ?_
        refine rg ?_
        refine stp hF (p_fldb (o' := 14) rfl fi_41_8 rfl) (by decide) (fun a hF => ?_)
        refine stp hF (p_ldb_one (i := 2) hS rfl rfl ia_39 rfl) (by decide) (fun a hF => ?_)
        refine stp hF (p_ldb_agg (i := 0) (l := []) (m := [(.int .i64 x23.1), (.int .i64 x24.1), (.bool (decide (x25.1 = 1)))]) (r := []) hS rfl rfl ia_91 ti_91 rfl rfl rfl) (by decide) (fun a hF => ?_)
        refine ste hF (e_bslice (kd := kTLive) (et := 91) (ps := [(0, (.tmp 50))]) (vs := [(0, (.agg #[(.int .i64 x23.1), (.int .i64 x24.1), (.bool (decide (x25.1 = 1)))]))]) (cs := [(.int .i64 x23.1), (.int .i64 x24.1), (.bool (decide (x25.1 = 1)))]) (xs := ([(⟨x23.1, x24.1, decide (x25.1 = 1)⟩ : TLive)] : List TLive)) hS rfl (by intro w; kernel_rfl) rfl (by decide) (Nat.le_of_ble_eq_true rfl) (by exact (rows_cons (kd := kTLive) (x := (⟨x23.1, x24.1, decide (x25.1 = 1)⟩ : TLive)) (c := [(.int .i64 x23.1), (.int .i64 x24.1), (.bool (decide (x25.1 = 1)))]) (cs := []) (kTLive_mk (x := (⟨x23.1, x24.1, decide (x25.1 = 1)⟩ : TLive)) ) (Rows.nil _ _ _ _)))) (by decide) (fun v22 w a hR hF => ?_)
        have hS : St e s15 w [Ow kTLive 91 v22 ([(⟨x23.1, x24.1, decide (x25.1 = 1)⟩ : TLive)] : List TLive), pt g4 91 ([(.int .i64 x23.1), (.int .i64 x24.1), (.bool (decide (x25.1 = 1)))]), pt g2 99 ([v21, (.int .i64 x25.2.2.1), (.bool x25.2.2.2)]), pt g3 41 ([(.int .i64 x1.1), (.int .i64 x2.1), (.int .i64 x3.1), (.int .i64 x4.1), (.int .i64 x5.1), (.bool x6.1.Has), (.int .i64 x6.1.O.Kind), v9, v10, (.bool x7.1.Has), (.int .i64 x7.1.O.Kind), v12, v13, (.int .i64 x8.1), v18]), Ow kTLive 91 v18 x21, Ow (Kd.int .i64) 3 v12 x7.1.O.Ints, Ow (Kd.int .i64) 3 v13 x7.1.O.Refs, Ow (Kd.int .i64) 3 v9 x6.1.O.Ints, Ow (Kd.int .i64) 3 v10 x6.1.O.Refs, pt g1 41 ([(.int .i64 0), (.int .i64 0), (.int .i64 0), (.int .i64 0), (.int .i64 0), (.bool false), (.int .i64 0), (.slice none 0 0), (.slice none 0 0), (.bool false), (.int .i64 0), (.slice none 0 0), (.slice none 0 0), (.int .i64 0), (.slice none 0 0)])] := hR
        obtain ⟨hq1, H⟩ := hck H
        refine ste hF (e_append (n := 4) hS rfl rfl rfl (hS.src (n := 0) rfl) un_39 ti_91 rfl (by decide) (by decide) (Nat.le_trans (Nat.mul_le_mul_right 24 hq1) (by decide))) (by decide) (fun v23 w a hR hF => ?_)
        have hS : St e s15 w [Ow kTLive 91 v23 (x21 ++ ([(⟨x23.1, x24.1, decide (x25.1 = 1)⟩ : TLive)] : List TLive)), Ow kTLive 91 v22 ([(⟨x23.1, x24.1, decide (x25.1 = 1)⟩ : TLive)] : List TLive), pt g4 91 ([(.int .i64 x23.1), (.int .i64 x24.1), (.bool (decide (x25.1 = 1)))]), pt g2 99 ([v21, (.int .i64 x25.2.2.1), (.bool x25.2.2.2)]), pt g3 41 ([(.int .i64 x1.1), (.int .i64 x2.1), (.int .i64 x3.1), (.int .i64 x4.1), (.int .i64 x5.1), (.bool x6.1.Has), (.int .i64 x6.1.O.Kind), v9, v10, (.bool x7.1.Has), (.int .i64 x7.1.O.Kind), v12, v13, (.int .i64 x8.1), v18]), Ow (Kd.int .i64) 3 v12 x7.1.O.Ints, Ow (Kd.int .i64) 3 v13 x7.1.O.Refs, Ow (Kd.int .i64) 3 v9 x6.1.O.Ints, Ow (Kd.int .i64) 3 v10 x6.1.O.Refs, pt g1 41 ([(.int .i64 0), (.int .i64 0), (.int .i64 0), (.int .i64 0), (.int .i64 0), (.bool false), (.int .i64 0), (.slice none 0 0), (.slice none 0 0), (.bool false), (.int .i64 0), (.slice none 0 0), (.slice none 0 0), (.int .i64 0), (.slice none 0 0)])] := hR
        replace hS := hS.sel (is := [0, 1, 1, 1, 1, 1, 1, 1, 1]) (A' := [Ow kTLive 91 v23 (x21 ++ ([(⟨x23.1, x24.1, decide (x25.1 = 1)⟩ : TLive)] : List TLive)), pt g4 91 ([(.int .i64 x23.1), (.int .i64 x24.1), (.bool (decide (x25.1 = 1)))]), pt g2 99 ([v21, (.int .i64 x25.2.2.1), (.bool x25.2.2.2)]), pt g3 41 ([(.int .i64 x1.1), (.int .i64 x2.1), (.int .i64 x3.1), (.int .i64 x4.1), (.int .i64 x5.1), (.bool x6.1.Has), (.int .i64 x6.1.O.Kind), v9, v10, (.bool x7.1.Has), (.int .i64 x7.1.O.Kind), v12, v13, (.int .i64 x8.1), v18]), Ow (Kd.int .i64) 3 v12 x7.1.O.Ints, Ow (Kd.int .i64) 3 v13 x7.1.O.Refs, Ow (Kd.int .i64) 3 v9 x6.1.O.Ints, Ow (Kd.int .i64) 3 v10 x6.1.O.Refs, pt g1 41 ([(.int .i64 0), (.int .i64 0), (.int .i64 0), (.int .i64 0), (.int .i64 0), (.bool false), (.int .i64 0), (.slice none 0 0), (.slice none 0 0), (.bool false), (.int .i64 0), (.slice none 0 0), (.slice none 0 0), (.int .i64 0), (.slice none 0 0)])]) rfl
        refine stp hF (p_fldb (o' := 14) rfl fi_41_8 rfl) (by decide) (fun a hF => ?_)
        refine ste0 hF (e_stb (i := 3) (l := [(.int .i64 x1.1), (.int .i64 x2.1), (.int .i64 x3.1), (.int .i64 x4.1), (.int .i64 x5.1), (.bool x6.1.Has), (.int .i64 x6.1.O.Kind), v9, v10, (.bool x7.1.Has), (.int .i64 x7.1.O.Kind), v12, v13, (.int .i64 x8.1)]) (m := [v18]) (r := []) (m' := [v23]) (cs' := [(.int .i64 x1.1), (.int .i64 x2.1), (.int .i64 x3.1), (.int .i64 x4.1), (.int .i64 x5.1), (.bool x6.1.Has), (.int .i64 x6.1.O.Kind), v9, v10, (.bool x7.1.Has), (.int .i64 x7.1.O.Kind), v12, v13, (.int .i64 x8.1), v23]) hS rfl rfl rfl ti_39 rfl rfl rfl (cells_one (hS.one_ow (i := 0) rfl)) rfl (one_cons (hS.one_ow (i := 0) rfl) one_nil) rfl) (fun v w a hR hF => ?_)
        have hS : St e s15 w [pt g3 41 ([(.int .i64 x1.1), (.int .i64 x2.1), (.int .i64 x3.1), (.int .i64 x4.1), (.int .i64 x5.1), (.bool x6.1.Has), (.int .i64 x6.1.O.Kind), v9, v10, (.bool x7.1.Has), (.int .i64 x7.1.O.Kind), v12, v13, (.int .i64 x8.1), v23]), Ow kTLive 91 v23 (x21 ++ ([(⟨x23.1, x24.1, decide (x25.1 = 1)⟩ : TLive)] : List TLive)), pt g4 91 ([(.int .i64 x23.1), (.int .i64 x24.1), (.bool (decide (x25.1 = 1)))]), pt g2 99 ([v21, (.int .i64 x25.2.2.1), (.bool x25.2.2.2)]), Ow (Kd.int .i64) 3 v12 x7.1.O.Ints, Ow (Kd.int .i64) 3 v13 x7.1.O.Refs, Ow (Kd.int .i64) 3 v9 x6.1.O.Ints, Ow (Kd.int .i64) 3 v10 x6.1.O.Refs, pt g1 41 ([(.int .i64 0), (.int .i64 0), (.int .i64 0), (.int .i64 0), (.int .i64 0), (.bool false), (.int .i64 0), (.slice none 0 0), (.slice none 0 0), (.bool false), (.int .i64 0), (.slice none 0 0), (.slice none 0 0), (.int .i64 0), (.slice none 0 0)])] := hR
        refine nilN ?_
        refine bn (xn ?_)
        refine rg ?_
        refine stp hF (p_add (c := w64 (x22 + 1)) rfl rfl rfl) (by decide) (fun a hF => ?_)
        refine stp hF (p_move rfl) (by decide) (fun a hF => ?_)
        refine nilN ?_
        refine xn ?_
        replace hS := hS.sel (is := [3, 0, 0, 1, 1, 1, 1, 1]) (A' := [pt g2 99 ([v21, (.int .i64 x25.2.2.1), (.bool x25.2.2.2)]), pt g3 41 ([(.int .i64 x1.1), (.int .i64 x2.1), (.int .i64 x3.1), (.int .i64 x4.1), (.int .i64 x5.1), (.bool x6.1.Has), (.int .i64 x6.1.O.Kind), v9, v10, (.bool x7.1.Has), (.int .i64 x7.1.O.Kind), v12, v13, (.int .i64 x8.1), v23]), Ow kTLive 91 v23 (x21 ++ ([(⟨x23.1, x24.1, decide (x25.1 = 1)⟩ : TLive)] : List TLive)), Ow (Kd.int .i64) 3 v12 x7.1.O.Ints, Ow (Kd.int .i64) 3 v13 x7.1.O.Refs, Ow (Kd.int .i64) 3 v9 x6.1.O.Ints, Ow (Kd.int .i64) 3 v10 x6.1.O.Refs, pt g1 41 ([(.int .i64 0), (.int .i64 0), (.int .i64 0), (.int .i64 0), (.int .i64 0), (.bool false), (.int .i64 0), (.slice none 0 0), (.slice none 0 0), (.bool false), (.int .i64 0), (.slice none 0 0), (.slice none 0 0), (.int .i64 0), (.slice none 0 0)])]) rfl
        exact ⟨x25.2.1, x25.2.2.1, x25.2.2.2, (x21 ++ ([(⟨x23.1, x24.1, decide (x25.1 = 1)⟩ : TLive)] : List TLive)), (w64 (x22 + 1)), s15, v21, v23, hS, hF.cut ⟨rfl, rfl, rfl, rfl, rfl, trivial⟩, (((hg10.trans hg11).trans hg12).trans hg13), h14, H⟩
      · replace H := hbf hc1 H
        refine exi ?_
        refine xe (xe (hit (xn ?_)))
        obtain rfl := hsm H
        replace hS := hS.sel (is := [1, 1, 0, 0, 0, 0, 0, 0]) (A' := [pt g3 41 ([(.int .i64 x1.1), (.int .i64 x2.1), (.int .i64 x3.1), (.int .i64 x4.1), (.int .i64 x5.1), (.bool x6.1.Has), (.int .i64 x6.1.O.Kind), v9, v10, (.bool x7.1.Has), (.int .i64 x7.1.O.Kind), v12, v13, (.int .i64 x8.1), v18]), Ow kTLive 91 v18 x21, pt g2 99 ([v17, (.int .i64 x19), (.bool x20)]), Ow (Kd.int .i64) 3 v12 x7.1.O.Ints, Ow (Kd.int .i64) 3 v13 x7.1.O.Refs, Ow (Kd.int .i64) 3 v9 x6.1.O.Ints, Ow (Kd.int .i64) 3 v10 x6.1.O.Refs, pt g1 41 ([(.int .i64 0), (.int .i64 0), (.int .i64 0), (.int .i64 0), (.int .i64 0), (.bool false), (.int .i64 0), (.slice none 0 0), (.slice none 0 0), (.bool false), (.int .i64 0), (.slice none 0 0), (.slice none 0 0), (.int .i64 0), (.slice none 0 0)])]) rfl
        exact ⟨x21, x18, x19, x20, s12, v18, v17, hS, hF.cut ⟨rfl, rfl, rfl, trivial⟩, (hg9.trans hg10), h11, HK1⟩
  · clear H HK1 hS hF
    rintro a w ⟨x9, x11, x12, x13, s10, v14, v15, hS, hF, hg14, h15, H⟩
    unfold impl_GetRec.c2 at H
    refine sq ?_
    refine sq ?_
    refine rg ?_
    refine stp hF (p_move rfl) (by decide) (fun a hF => ?_)
    replace hS := hS.sel (is := [2, 0, 0, 0, 0, 0, 0, 0]) (A' := [pt g2 99 ([v15, (.int .i64 x12), (.bool x13)]), pt g3 41 ([(.int .i64 x1.1), (.int .i64 x2.1), (.int .i64 x3.1), (.int .i64 x4.1), (.int .i64 x5.1), (.bool x6.1.Has), (.int .i64 x6.1.O.Kind), v9, v10, (.bool x7.1.Has), (.int .i64 x7.1.O.Kind), v12, v13, (.int .i64 x8.1), v14]), Ow kTLive 91 v14 x9, Ow (Kd.int .i64) 3 v12 x7.1.O.Ints, Ow (Kd.int .i64) 3 v13 x7.1.O.Refs, Ow (Kd.int .i64) 3 v9 x6.1.O.Ints, Ow (Kd.int .i64) 3 v10 x6.1.O.Refs, pt g1 41 ([(.int .i64 0), (.int .i64 0), (.int .i64 0), (.int .i64 0), (.int .i64 0), (.bool false), (.int .i64 0), (.slice none 0 0), (.slice none 0 0), (.bool false), (.int .i64 0), (.slice none 0 0), (.slice none 0 0), (.int .i64 0), (.slice none 0 0)])]) rfl
    obtain ⟨x14, hx13, H⟩ := hb H
    refine ste hF (e_callA (fst := []) (vs := [(.pointer (some ⟨g2, 0, none⟩))]) (cap := []) rfl rfl go_88 (St.call (A := [pt g2 99 ([v15, (.int .i64 x12), (.bool x13)])]) (B := [pt g3 41 ([(.int .i64 x1.1), (.int .i64 x2.1), (.int .i64 x3.1), (.int .i64 x4.1), (.int .i64 x5.1), (.bool x6.1.Has), (.int .i64 x6.1.O.Kind), v9, v10, (.bool x7.1.Has), (.int .i64 x7.1.O.Kind), v12, v13, (.int .i64 x8.1), v14]), Ow kTLive 91 v14 x9, Ow (Kd.int .i64) 3 v12 x7.1.O.Ints, Ow (Kd.int .i64) 3 v13 x7.1.O.Refs, Ow (Kd.int .i64) 3 v9 x6.1.O.Ints, Ow (Kd.int .i64) 3 v10 x6.1.O.Refs, pt g1 41 ([(.int .i64 0), (.int .i64 0), (.int .i64 0), (.int .i64 0), (.int .i64 0), (.bool false), (.int .i64 0), (.slice none 0 0), (.slice none 0 0), (.bool false), (.int .i64 0), (.slice none 0 0), (.slice none 0 0), (.int .i64 0), (.slice none 0 0)])]) hS (impl_reader_done.spec k _ _ x11 x12 x13 v15 g2 h15 _ hx13)) rfl) (by decide) (fun v w a hR hF => ?_)
    obtain ⟨s16, A14, hg15, hS, hR⟩ := hR
    obtain ⟨v24, hv13, rfl, h16⟩ := hR; obtain rfl := hv13.symm
    have hS : St e s16 w [pt g2 99 ([v24, (.int .i64 x14.2.2.1), (.bool x14.2.2.2)]), pt g3 41 ([(.int .i64 x1.1), (.int .i64 x2.1), (.int .i64 x3.1), (.int .i64 x4.1), (.int .i64 x5.1), (.bool x6.1.Has), (.int .i64 x6.1.O.Kind), v9, v10, (.bool x7.1.Has), (.int .i64 x7.1.O.Kind), v12, v13, (.int .i64 x8.1), v14]), Ow kTLive 91 v14 x9, Ow (Kd.int .i64) 3 v12 x7.1.O.Ints, Ow (Kd.int .i64) 3 v13 x7.1.O.Refs, Ow (Kd.int .i64) 3 v9 x6.1.O.Ints, Ow (Kd.int .i64) 3 v10 x6.1.O.Refs, pt g1 41 ([(.int .i64 0), (.int .i64 0), (.int .i64 0), (.int .i64 0), (.int .i64 0), (.bool false), (.int .i64 0), (.slice none 0 0), (.slice none 0 0), (.bool false), (.int .i64 0), (.slice none 0 0), (.slice none 0 0), (.int .i64 0), (.slice none 0 0)])] := hS
    refine stp hF (p_not rfl) (by decide) (fun a hF => ?_)
    refine stp hF (p_move rfl) (by decide) (fun a hF => ?_)
    obtain ⟨x16, H, HK2⟩ := hb H
    refine cutj 4 (fun a w => ∃ (x10 : Bool) (s17 : HF) , St e s17 w [pt g2 99 ([v24, (.int .i64 x14.2.2.1), (.bool x14.2.2.2)]), pt g3 41 ([(.int .i64 x1.1), (.int .i64 x2.1), (.int .i64 x3.1), (.int .i64 x4.1), (.int .i64 x5.1), (.bool x6.1.Has), (.int .i64 x6.1.O.Kind), v9, v10, (.bool x7.1.Has), (.int .i64 x7.1.O.Kind), v12, v13, (.int .i64 x8.1), v14]), Ow kTLive 91 v14 x9, Ow (Kd.int .i64) 3 v12 x7.1.O.Ints, Ow (Kd.int .i64) 3 v13 x7.1.O.Refs, Ow (Kd.int .i64) 3 v9 x6.1.O.Ints, Ow (Kd.int .i64) 3 v10 x6.1.O.Refs, pt g1 41 ([(.int .i64 0), (.int .i64 0), (.int .i64 0), (.int .i64 0), (.int .i64 0), (.bool false), (.int .i64 0), (.slice none 0 0), (.slice none 0 0), (.bool false), (.int .i64 0), (.slice none 0 0), (.slice none 0 0), (.int .i64 0), (.slice none 0 0)])] ∧ Fr 65 a [(2, (.pointer (some ⟨g1, 0, none⟩))), (5, (.pointer (some ⟨g3, 0, none⟩))), (62, (.bool x10))] ∧ Sub s16 s17 ∧ impl_GetRec.c1 k x1 x2 x3 x4 x5 x6 x7 x8 x9 x10 = some r) rfl rfl ?_ ?_
    · rcases Bool.eq_false_or_eq_true ((!x14.1)) with hc2 | hc2
      · replace H := hbt hc2 H
        refine gofD (j := 3) hF rfl rfl (by rw [hc2]; decide) (by decide) (fun a hF => ?_)
        refine gofD (j := 3) hF rfl rfl (by rw [hc2]; decide) (by decide) (fun a hF => ?_)
        refine gofD (j := 3) hF rfl rfl (by rw [hc2]; decide) (by decide) (fun a hF => ?_)
        refine stp hF (p_pickT rfl hc2 rfl) (by decide) (fun a hF => ?_)
        refine nilN ?_
        refine xn ?_
        obtain rfl := hsm H
        exact ⟨true, s16, hS, hF.cut ⟨rfl, rfl, rfl, trivial⟩, (Sub.refl _), HK2⟩
      · replace H := hbf hc2 H
        refine gonE (j := 3) hF rfl rfl hc2 ?_
        refine stp hF (p_ldb_agg (i := 1) (l := []) (m := [(.int .i64 x1.1), (.int .i64 x2.1), (.int .i64 x3.1), (.int .i64 x4.1), (.int .i64 x5.1), (.bool x6.1.Has), (.int .i64 x6.1.O.Kind), v9, v10, (.bool x7.1.Has), (.int .i64 x7.1.O.Kind), v12, v13, (.int .i64 x8.1), v14]) (r := []) hS rfl rfl ia_41 ti_41 rfl rfl rfl) (by decide) (fun a hF => ?_)
        replace hS := hS.sel (is := [5, 5, 3, 3, 2, 0, 0, 0]) (A' := [Ow (Kd.int .i64) 3 v9 x6.1.O.Ints, Ow (Kd.int .i64) 3 v10 x6.1.O.Refs, Ow (Kd.int .i64) 3 v12 x7.1.O.Ints, Ow (Kd.int .i64) 3 v13 x7.1.O.Refs, Ow kTLive 91 v14 x9, pt g2 99 ([v24, (.int .i64 x14.2.2.1), (.bool x14.2.2.2)]), pt g3 41 ([(.int .i64 x1.1), (.int .i64 x2.1), (.int .i64 x3.1), (.int .i64 x4.1), (.int .i64 x5.1), (.bool x6.1.Has), (.int .i64 x6.1.O.Kind), v9, v10, (.bool x7.1.Has), (.int .i64 x7.1.O.Kind), v12, v13, (.int .i64 x8.1), v14]), pt g1 41 ([(.int .i64 0), (.int .i64 0), (.int .i64 0), (.int .i64 0), (.int .i64 0), (.bool false), (.int .i64 0), (.slice none 0 0), (.slice none 0 0), (.bool false), (.int .i64 0), (.slice none 0 0), (.slice none 0 0), (.int .i64 0), (.slice none 0 0)])]) rfl
        obtain ⟨s18, hg16, hl1, hcall1⟩ := St.lend (P := Try.prog) (Bs := [Ow (Kd.int .i64) 3 v9 x6.1.O.Ints, Ow (Kd.int .i64) 3 v10 x6.1.O.Refs, Ow (Kd.int .i64) 3 v12 x7.1.O.Ints, Ow (Kd.int .i64) 3 v13 x7.1.O.Refs, Ow kTLive 91 v14 x9]) (A := []) (B := [pt g2 99 ([v24, (.int .i64 x14.2.2.1), (.bool x14.2.2.2)]), pt g3 41 ([(.int .i64 x1.1), (.int .i64 x2.1), (.int .i64 x3.1), (.int .i64 x4.1), (.int .i64 x5.1), (.bool x6.1.Has), (.int .i64 x6.1.O.Kind), v9, v10, (.bool x7.1.Has), (.int .i64 x7.1.O.Kind), v12, v13, (.int .i64 x8.1), v14]), pt g1 41 ([(.int .i64 0), (.int .i64 0), (.int .i64 0), (.int .i64 0), (.int .i64 0), (.bool false), (.int .i64 0), (.slice none 0 0), (.slice none 0 0), (.bool false), (.int .i64 0), (.slice none 0 0), (.slice none 0 0), (.int .i64 0), (.slice none 0 0)])]) hS
        obtain ⟨h17, hl1⟩ := hl1.ow hg16
        obtain ⟨h18, hl1⟩ := hl1.ow hg16
        obtain ⟨h19, hl1⟩ := hl1.ow hg16
        obtain ⟨h20, hl1⟩ := hl1.ow hg16
        obtain ⟨h21, hl1⟩ := hl1.ow hg16
        obtain ⟨x15, hx14, H⟩ := hb H
        refine gonE (j := 3) hF rfl rfl hc2 ?_
        refine ste hF (e_callA (fst := []) (vs := [(.agg #[(.int .i64 x1.1), (.int .i64 x2.1), (.int .i64 x3.1), (.int .i64 x4.1), (.int .i64 x5.1), (.bool x6.1.Has), (.int .i64 x6.1.O.Kind), v9, v10, (.bool x7.1.Has), (.int .i64 x7.1.O.Kind), v12, v13, (.int .i64 x8.1), v14])]) (cap := []) rfl rfl go_24 (hcall1 (impl_RecOk.spec k _ _ (⟨x1.1, x2.1, x3.1, x4.1, x5.1, (⟨x6.1.Has, (⟨x6.1.O.Kind, x6.1.O.Ints, x6.1.O.Refs⟩ : TObj)⟩ : TSlot), (⟨x7.1.Has, (⟨x7.1.O.Kind, x7.1.O.Ints, x7.1.O.Refs⟩ : TObj)⟩ : TSlot), x8.1, x9⟩ : TRec) v9 v10 v12 v13 v14 h17 h18 h19 h20 h21 _ hx14) (by rintro v s1 A1 ⟨rfl, rfl⟩; exact trivial)) rfl) (by decide) (fun v w a hR hF => ?_)
        obtain ⟨s19, s20, A15, hg17, hS, hR⟩ := hR
        obtain ⟨hv14, rfl⟩ := hR; obtain rfl := hv14.symm
        have hS : St e s19 w [Ow (Kd.int .i64) 3 v9 x6.1.O.Ints, Ow (Kd.int .i64) 3 v10 x6.1.O.Refs, Ow (Kd.int .i64) 3 v12 x7.1.O.Ints, Ow (Kd.int .i64) 3 v13 x7.1.O.Refs, Ow kTLive 91 v14 x9, pt g2 99 ([v24, (.int .i64 x14.2.2.1), (.bool x14.2.2.2)]), pt g3 41 ([(.int .i64 x1.1), (.int .i64 x2.1), (.int .i64 x3.1), (.int .i64 x4.1), (.int .i64 x5.1), (.bool x6.1.Has), (.int .i64 x6.1.O.Kind), v9, v10, (.bool x7.1.Has), (.int .i64 x7.1.O.Kind), v12, v13, (.int .i64 x8.1), v14]), pt g1 41 ([(.int .i64 0), (.int .i64 0), (.int .i64 0), (.int .i64 0), (.int .i64 0), (.bool false), (.int .i64 0), (.slice none 0 0), (.slice none 0 0), (.bool false), (.int .i64 0), (.slice none 0 0), (.slice none 0 0), (.int .i64 0), (.slice none 0 0)])] := hS
        refine gonE (j := 3) hF rfl rfl hc2 ?_
        refine stp hF (p_not rfl) (by decide) (fun a hF => ?_)
        refine stp hF (p_pickF rfl hc2 rfl) (by decide) (fun a hF => ?_)
        refine nilN ?_
        refine xn ?_
        obtain rfl := hsm H
        replace hS := hS.sel (is := [5, 5, 4, 2, 2, 0, 0, 0]) (A' := [pt g2 99 ([v24, (.int .i64 x14.2.2.1), (.bool x14.2.2.2)]), pt g3 41 ([(.int .i64 x1.1), (.int .i64 x2.1), (.int .i64 x3.1), (.int .i64 x4.1), (.int .i64 x5.1), (.bool x6.1.Has), (.int .i64 x6.1.O.Kind), v9, v10, (.bool x7.1.Has), (.int .i64 x7.1.O.Kind), v12, v13, (.int .i64 x8.1), v14]), Ow kTLive 91 v14 x9, Ow (Kd.int .i64) 3 v12 x7.1.O.Ints, Ow (Kd.int .i64) 3 v13 x7.1.O.Refs, Ow (Kd.int .i64) 3 v9 x6.1.O.Ints, Ow (Kd.int .i64) 3 v10 x6.1.O.Refs, pt g1 41 ([(.int .i64 0), (.int .i64 0), (.int .i64 0), (.int .i64 0), (.int .i64 0), (.bool false), (.int .i64 0), (.slice none 0 0), (.slice none 0 0), (.bool false), (.int .i64 0), (.slice none 0 0), (.slice none 0 0), (.int .i64 0), (.slice none 0 0)])]) rfl
        exact ⟨(!x15), s19, hS, hF.cut ⟨rfl, rfl, rfl, trivial⟩, hg17, HK2⟩
    · clear H HK2 hS hF
      rintro a w ⟨x10, s17, hS, hF, hg18, H⟩
      unfold impl_GetRec.c1 at H
      refine nilN ?_
      refine xn ?_
      refine cnd hF rfl (fun hc3 => ?_) (fun hc3 => ?_)
      · replace H := hbt hc3 H
        refine sq ?_
        refine rg ?_
        refine stp hF (p_build (ps := []) (vs := []) (v := (.agg #[(.int .i64 0), (.int .i64 0), (.int .i64 0), (.int .i64 0), (.int .i64 0), (.bool false), (.int .i64 0), (.slice none 0 0), (.slice none 0 0), (.bool false), (.int .i64 0), (.slice none 0 0), (.slice none 0 0), (.int .i64 0), (.slice none 0 0)])) rfl (by intro w; kernel_rfl)) (by decide) (fun a hF => ?_)
        refine ste0 hF (e_stb (i := 7) (l := []) (m := [(.int .i64 0), (.int .i64 0), (.int .i64 0), (.int .i64 0), (.int .i64 0), (.bool false), (.int .i64 0), (.slice none 0 0), (.slice none 0 0), (.bool false), (.int .i64 0), (.slice none 0 0), (.slice none 0 0), (.int .i64 0), (.slice none 0 0)]) (r := []) (m' := [(.int .i64 0), (.int .i64 0), (.int .i64 0), (.int .i64 0), (.int .i64 0), (.bool false), (.int .i64 0), (.slice none 0 0), (.slice none 0 0), (.bool false), (.int .i64 0), (.slice none 0 0), (.slice none 0 0), (.int .i64 0), (.slice none 0 0)]) (cs' := [(.int .i64 0), (.int .i64 0), (.int .i64 0), (.int .i64 0), (.int .i64 0), (.bool false), (.int .i64 0), (.slice none 0 0), (.slice none 0 0), (.bool false), (.int .i64 0), (.slice none 0 0), (.slice none 0 0), (.int .i64 0), (.slice none 0 0)]) hS rfl rfl rfl ti_41 rfl rfl rfl rfl rfl (one_cons rfl (one_cons rfl (one_cons rfl (one_cons rfl (one_cons rfl (one_cons rfl (one_cons rfl (one_cons rfl (one_cons rfl (one_cons rfl (one_cons rfl (one_cons rfl (one_cons rfl (one_cons rfl (one_cons rfl one_nil))))))))))))))) rfl) (fun v w a hR hF => ?_)
        have hS : St e s17 w [pt g1 41 ([(.int .i64 0), (.int .i64 0), (.int .i64 0), (.int .i64 0), (.int .i64 0), (.bool false), (.int .i64 0), (.slice none 0 0), (.slice none 0 0), (.bool false), (.int .i64 0), (.slice none 0 0), (.slice none 0 0), (.int .i64 0), (.slice none 0 0)]), pt g2 99 ([v24, (.int .i64 x14.2.2.1), (.bool x14.2.2.2)]), pt g3 41 ([(.int .i64 x1.1), (.int .i64 x2.1), (.int .i64 x3.1), (.int .i64 x4.1), (.int .i64 x5.1), (.bool x6.1.Has), (.int .i64 x6.1.O.Kind), v9, v10, (.bool x7.1.Has), (.int .i64 x7.1.O.Kind), v12, v13, (.int .i64 x8.1), v14]), Ow kTLive 91 v14 x9, Ow (Kd.int .i64) 3 v12 x7.1.O.Ints, Ow (Kd.int .i64) 3 v13 x7.1.O.Refs, Ow (Kd.int .i64) 3 v9 x6.1.O.Ints, Ow (Kd.int .i64) 3 v10 x6.1.O.Refs] := hR
        refine stp hF (p_assign rfl) (by decide) (fun a hF => ?_)
        refine nilN ?_
        refine xn ?_
        refine rt ?_
        refine xr ?_
        obtain rfl := hsm H
        have h22 : RvOk Try.prog _ w (.cell 2 41) _ := rvC (i := 0) hS rfl (show lk [(2, (.pointer (some ⟨g1, 0, none⟩))), (3, (.bool false))] 2 = _ from rfl) ia_41 ti_41 rfl
        replace hS := hS.ownNil (Kd.int .i64) 3 none
        replace hS := hS.ownNil (Kd.int .i64) 3 none
        replace hS := hS.ownNil (Kd.int .i64) 3 none
        replace hS := hS.ownNil (Kd.int .i64) 3 none
        replace hS := hS.ownNil kTLive 91 none
        replace hS := hS.sel (is := [4, 3, 2, 1, 0]) (A' := [Ow (Kd.int .i64) 3 (.slice none 0 0) ([] : List Int), Ow (Kd.int .i64) 3 (.slice none 0 0) ([] : List Int), Ow (Kd.int .i64) 3 (.slice none 0 0) ([] : List Int), Ow (Kd.int .i64) 3 (.slice none 0 0) ([] : List Int), Ow kTLive 91 (.slice none 0 0) ([] : List TLive)]) rfl
        exact retc2 hF rfl h22 (rvT rfl) hS ⟨(.slice none 0 0), (.slice none 0 0), (.slice none 0 0), (.slice none 0 0), (.slice none 0 0), rfl, rfl⟩
      · replace H := hbf hc3 H
        refine skN ?_
        refine xn ?_
        refine sq ?_
        refine rg ?_
        refine stp hF (p_ldb_agg (i := 1) (l := []) (m := [(.int .i64 x1.1), (.int .i64 x2.1), (.int .i64 x3.1), (.int .i64 x4.1), (.int .i64 x5.1), (.bool x6.1.Has), (.int .i64 x6.1.O.Kind), v9, v10, (.bool x7.1.Has), (.int .i64 x7.1.O.Kind), v12, v13, (.int .i64 x8.1), v14]) (r := []) hS rfl rfl ia_41 ti_41 rfl rfl rfl) (by decide) (fun a hF => ?_)
        refine ste0 hF (e_stb (i := 7) (l := []) (m := [(.int .i64 0), (.int .i64 0), (.int .i64 0), (.int .i64 0), (.int .i64 0), (.bool false), (.int .i64 0), (.slice none 0 0), (.slice none 0 0), (.bool false), (.int .i64 0), (.slice none 0 0), (.slice none 0 0), (.int .i64 0), (.slice none 0 0)]) (r := []) (m' := [(.int .i64 x1.1), (.int .i64 x2.1), (.int .i64 x3.1), (.int .i64 x4.1), (.int .i64 x5.1), (.bool x6.1.Has), (.int .i64 x6.1.O.Kind), v9, v10, (.bool x7.1.Has), (.int .i64 x7.1.O.Kind), v12, v13, (.int .i64 x8.1), v14]) (cs' := [(.int .i64 x1.1), (.int .i64 x2.1), (.int .i64 x3.1), (.int .i64 x4.1), (.int .i64 x5.1), (.bool x6.1.Has), (.int .i64 x6.1.O.Kind), v9, v10, (.bool x7.1.Has), (.int .i64 x7.1.O.Kind), v12, v13, (.int .i64 x8.1), v14]) hS rfl rfl rfl ti_41 rfl rfl rfl rfl rfl (one_cons rfl (one_cons rfl (one_cons rfl (one_cons rfl (one_cons rfl (one_cons rfl (one_cons rfl (one_cons (hS.one_ow (i := 5) rfl) (one_cons (hS.one_ow (i := 6) rfl) (one_cons rfl (one_cons rfl (one_cons (hS.one_ow (i := 3) rfl) (one_cons (hS.one_ow (i := 4) rfl) (one_cons rfl (one_cons (hS.one_ow (i := 2) rfl) one_nil))))))))))))))) rfl) (fun v w a hR hF => ?_)
        have hS : St e s17 w [pt g1 41 ([(.int .i64 x1.1), (.int .i64 x2.1), (.int .i64 x3.1), (.int .i64 x4.1), (.int .i64 x5.1), (.bool x6.1.Has), (.int .i64 x6.1.O.Kind), v9, v10, (.bool x7.1.Has), (.int .i64 x7.1.O.Kind), v12, v13, (.int .i64 x8.1), v14]), pt g2 99 ([v24, (.int .i64 x14.2.2.1), (.bool x14.2.2.2)]), pt g3 41 ([(.int .i64 x1.1), (.int .i64 x2.1), (.int .i64 x3.1), (.int .i64 x4.1), (.int .i64 x5.1), (.bool x6.1.Has), (.int .i64 x6.1.O.Kind), v9, v10, (.bool x7.1.Has), (.int .i64 x7.1.O.Kind), v12, v13, (.int .i64 x8.1), v14]), Ow kTLive 91 v14 x9, Ow (Kd.int .i64) 3 v12 x7.1.O.Ints, Ow (Kd.int .i64) 3 v13 x7.1.O.Refs, Ow (Kd.int .i64) 3 v9 x6.1.O.Ints, Ow (Kd.int .i64) 3 v10 x6.1.O.Refs] := hR
        refine stp hF (p_assign rfl) (by decide) (fun a hF => ?_)
        refine nilN ?_
        refine xn ?_
        refine rt ?_
        obtain rfl := hsm H
        have h23 : RvOk Try.prog _ w (.cell 2 41) _ := rvC (i := 0) hS rfl (show lk [(2, (.pointer (some ⟨g1, 0, none⟩))), (3, (.bool true))] 2 = _ from rfl) ia_41 ti_41 rfl
        replace hS := hS.sel (is := [6, 6, 4, 4, 3]) (A' := [Ow (Kd.int .i64) 3 v9 x6.1.O.Ints, Ow (Kd.int .i64) 3 v10 x6.1.O.Refs, Ow (Kd.int .i64) 3 v12 x7.1.O.Ints, Ow (Kd.int .i64) 3 v13 x7.1.O.Refs, Ow kTLive 91 v14 x9]) rfl
        exact retc2 hF rfl h23 (rvT rfl) hS ⟨v9, v10, v12, v13, v14, rfl, rfl⟩

def laws_sameBytes.c1 (k : Nat) : Option Bool :=
  (some true)
def laws_sameBytes.l1 (x1 : (List Int)) (x2 : (List Int)) : Nat → Int → Option (Ex Bool Unit)
  | 0, _ => none
  | k + 1, x3 => (if (decide (x3 < (x1.length : Int))) = true then (if 0 ≤ x3 ∧ x3 < (x1.length : Int) then (if 0 ≤ x3 ∧ x3 < (x2.length : Int) then (if (decide ((rd x1 x3) ≠ (rd x2 x3))) = true then (some (Ex.ret false)) else ((laws_sameBytes.l1 x1 x2 k) (w64 (x3 + 1)))) else none) else none) else (some (Ex.go ())))
def laws_sameBytes.f (k : Nat) (x1 : (List Int)) (x2 : (List Int)) : Option Bool :=
  (if (decide ((x1.length : Int) ≠ (x2.length : Int))) = true then (some false) else (((laws_sameBytes.l1 x1 x2 k 0) : Option (Ex Bool Unit)).bind fun x4 => Ex.on x4 (fun r => some r) (fun y => laws_sameBytes.c1 k)))
set_option maxRecDepth 100000 in
set_option maxHeartbeats 4000000 in
theorem laws_sameBytes.spec (k : Nat) (s0 : HF) (w : World) (x1 : (List Int)) (x2 : (List Int)) (v1 : Value) (v2 : Value) (h1 : Sl (Kd.int .u8) s0 v1 x1) (h2 : Sl (Kd.int .u8) s0 v2 x2) (r : Bool) (H : laws_sameBytes.f k x1 x2 = some r) :
    Law Try.prog 26 #[v1, v2] s0 w [] (fun v s1 A1 => v = (.bool r) ∧ A1 = []) := by
  unfold laws_sameBytes.f at H
  refine Law.intro Try.func26 rfl [(0, v1), (1, v2)] (Nat.le_of_ble_eq_true rfl) (enter_lk ⟨rfl, rfl, trivial⟩) (fun e a hS hF => ?_)
  have hF : Fr 26 a [(0, v1), (1, v2)] := hF
  refine sq ?_
  refine rg ?_
  refine stp hF (p_assign rfl) (by decide) (fun a hF => ?_)
  refine nilN ?_
  refine xn ?_
  refine sq ?_
  refine sq ?_
  refine rg ?_
  refine stp hF (p_move rfl) (by decide) (fun a hF => ?_)
  refine stp hF (p_lenr un_24 rfl h1) (by decide) (fun a hF => ?_)
  refine stp hF (p_move rfl) (by decide) (fun a hF => ?_)
  refine stp hF (p_lenr un_24 rfl h2) (by decide) (fun a hF => ?_)
  refine stp hF (p_neq rfl rfl) (by decide) (fun a hF => ?_)
  refine nilN ?_
  refine xn ?_
  refine cnd hF rfl (fun hc1 => ?_) (fun hc1 => ?_)
  · replace H := hbt hc1 H
    refine sq ?_
    refine rg ?_
    refine stp hF (p_assign rfl) (by decide) (fun a hF => ?_)
    refine nilN ?_
    refine xn ?_
    refine rt ?_
    refine xr ?_
    obtain rfl := hsm H
    exact ret1 hF rfl rfl hS ⟨rfl, rfl⟩
  · replace H := hbf hc1 H
    refine skN ?_
    refine xn ?_
    obtain ⟨x4, H, HK1⟩ := hb H
    refine sqj (fun a w => St e s0 w [] ∧ Fr 26 a [] ∧ laws_sameBytes.c1 k = some r) ?_ ?_
    · skip
      refine sq ?_
      refine rg ?_
      refine stp hF (p_assign rfl) (by decide) (fun a hF => ?_)
      refine nilN ?_
      refine xn ?_
      refine blk ?_
      refine loop_ind (fun k1 a w => ∃ (x3 : Int) , St e s0 w [] ∧ Fr 26 a [(0, v1), (1, v2), (5, (.int .i64 x3))] ∧ laws_sameBytes.l1 x1 x2 k1 x3 = some x4) k ?_ ?_ ?_
      · skip
        exact ⟨0, hS, hF.cut ⟨rfl, rfl, rfl, trivial⟩, H⟩
      · clear H hS hF
        rintro a w ⟨x3, hS, hF, H⟩
        exact absurd (show none = some _ from H) (by simp)
      · clear H hS hF
        rintro k1 a w ⟨x3, hS, hF, H⟩
        rw [laws_sameBytes.l1.eq_2] at H
        refine sq ?_
        refine sq ?_
        refine rg ?_
        refine stp hF (p_move rfl) (by decide) (fun a hF => ?_)
        refine stp hF (p_move rfl) (by decide) (fun a hF => ?_)
        refine stp hF (p_lenr un_24 rfl h1) (by decide) (fun a hF => ?_)
        refine stp hF (p_lss rfl rfl) (by decide) (fun a hF => ?_)
        refine nilN ?_
        refine xn ?_
        refine cnd hF rfl (fun hc2 => ?_) (fun hc2 => ?_)
        · replace H := hbt hc2 H
          refine skN ?_
          refine xn ?_
          refine sq ?_
          refine blk ?_
          refine sq ?_
          replace hS : St e s0 w.drew [] := hS.drewN 1
          refine drw [0, 1, 2, 3, 4, 5, 6, 7, 8] mixed (by kernel_rfl) (by decide) (hF.cut (L' := [(0, v1), (1, v2), (5, (.int .i64 x3)), (11, (.int .i64 x3)), (12, v1), (13, (.int .i64 (x1.length : Int))), (14, (.bool (decide (x3 < (x1.length : Int)))))]) ⟨rfl, rfl, rfl, rfl, rfl, rfl, rfl, trivial⟩) ?_
          clear hF
          generalize w.drew = w at hS ⊢
          refine pk1 rfl (by decide) rfl (by kernel_rfl) rfl (p_move rfl) ?_
          refine pk1 rfl (by decide) rfl (by kernel_rfl) rfl (p_move rfl) ?_
          obtain ⟨hq1, H⟩ := hck H
          obtain ⟨ad1, h3, p1⟩ := p_idxr (P := Try.prog) (i := x3) h1 un_24 ti_5 hq1.1 hq1.2
          refine pk1 rfl (by decide) rfl (by kernel_rfl) rfl (p1 rfl rfl) ?_
          refine pk1 rfl (by decide) rfl (by kernel_rfl) rfl (p_ldr_int rfl hS h3 ia_5) ?_
          refine pk1 rfl (by decide) rfl (by kernel_rfl) rfl (p_move rfl) ?_
          refine pk1 rfl (by decide) rfl (by kernel_rfl) rfl (p_move rfl) ?_
          obtain ⟨hq2, H⟩ := hck H
          obtain ⟨ad2, h4, p2⟩ := p_idxr (P := Try.prog) (i := x3) h2 un_24 ti_5 hq2.1 hq2.2
          refine pk1 rfl (by decide) rfl (by kernel_rfl) rfl (p2 rfl rfl) ?_
          refine pk1 rfl (by decide) rfl (by kernel_rfl) rfl (p_ldr_int rfl hS h4 ia_5) ?_
          refine pk1 rfl (by decide) rfl (by kernel_rfl) rfl (p_neq rfl rfl) ?_
          refine pkF (fun a hF => ?_)
          refine xn ?_
          refine cnd hF rfl (fun hc3 => ?_) (fun hc3 => ?_)
          · replace H := hbt hc3 H
            refine sq ?_
            refine rg ?_
            refine stp hF (p_assign rfl) (by decide) (fun a hF => ?_)
            refine nilN ?_
            refine xn ?_
            refine rt ?_
            refine br (xr (xr (br (xr ?_))))
            obtain rfl := hsm H
            have H := hon1 HK1
            obtain rfl := hsm H
            exact ret1 hF rfl rfl hS ⟨rfl, rfl⟩
          · replace H := hbf hc3 H
            refine skN ?_
            refine bn (xn ?_)
            refine rg ?_
            refine stp hF (p_move rfl) (by decide) (fun a hF => ?_)
            refine stp hF (p_add (c := w64 (x3 + 1)) rfl rfl rfl) (by decide) (fun a hF => ?_)
            refine stp hF (p_assign rfl) (by decide) (fun a hF => ?_)
            refine nilN ?_
            refine xn ?_
            exact ⟨(w64 (x3 + 1)), hS, hF.cut ⟨rfl, rfl, rfl, trivial⟩, H⟩
        · replace H := hbf hc2 H
          refine exi ?_
          refine xe (xe (hit (xn ?_)))
          obtain rfl := hsm H
          exact ⟨hS, hF.cut trivial, HK1⟩
    · clear H HK1 hS hF
      rintro a w ⟨hS, hF, H⟩
      unfold laws_sameBytes.c1 at H
      refine sq ?_
      refine rg ?_
      refine stp hF (p_assign rfl) (by decide) (fun a hF => ?_)
      refine nilN ?_
      refine xn ?_
      refine rt ?_
      obtain rfl := hsm H
      exact ret1 hF rfl rfl hS ⟨rfl, rfl⟩

def laws_FnRecords.c1 (k : Nat) (x1 : Bool) : Option Bool :=
  (some x1)
def laws_FnRecords.c2 (k : Nat) (x2 : Bool) : Option Bool :=
  (some x2)
def laws_FnRecords.c3 (k : Nat) (x3 : TRec × Bool) (x4 : TRec) (x5 : Bool) : Option Bool :=
  ((if ((((x5 && (decide (x3.1.Lsn = x4.Lsn))) && (decide (x3.1.Kind = x4.Kind))) && (decide (x3.1.Tx = x4.Tx))) && (decide ((x3.1.Txs.length : Int) = (x4.Txs.length : Int)))) = true then ((impl_RecOk.f k x4).bind fun x6 => (some x6)) else (some false) : Option Bool).bind fun x7 => laws_FnRecords.c2 k x7)
def laws_FnRecords.f (k : Nat) (x8 : (List Int)) : Option Bool :=
  ((laws_big.f k x8).bind fun x9 => (if x9 = true then (some true) else ((spec_DrawPutRec.f k x8).bind fun x4 => ((impl_PutRec.f k x4).bind fun x10 => ((spec_RecOk.f k x4).bind fun x11 => (if (!x11) = true then ((if (decide ((x10.length : Int) = 0)) = true then ((impl_RecOk.f k x4).bind fun x12 => (some (!x12))) else (some false) : Option Bool).bind fun x13 => laws_FnRecords.c1 k x13) else ((impl_GetRec.f k x10).bind fun x3 => (if 0 ≤ (0 : Int) ∧ (0 : Int) ≤ (w64 ((x10.length : Int) - 1)) ∧ (w64 ((x10.length : Int) - 1)) ≤ (x10.length : Int) then ((impl_GetRec.f k (cut x10 (0 : Int) (w64 ((x10.length : Int) - 1)))).bind fun x14 => ((if (x3.2 && (!x14.2)) = true then ((impl_PutRec.f k x3.1).bind fun x15 => ((laws_sameBytes.f k x15 x10).bind fun x16 => (some x16))) else (some false) : Option Bool).bind fun x17 => laws_FnRecords.c3 k x3 x4 x17)) else none))))))))
set_option maxRecDepth 100000 in
set_option maxHeartbeats 4000000 in
theorem laws_FnRecords.spec (k : Nat) (s0 : HF) (w : World) (x8 : (List Int)) (v1 : Value) (h1 : Sl (Kd.int .u8) s0 v1 x8) (r : Bool) (H : laws_FnRecords.f k x8 = some r) :
    Law Try.prog 4 #[v1] s0 w [] (fun v s1 A1 => v = (.bool r) ∧ A1 = []) := by
  unfold laws_FnRecords.f at H
  refine Law.intro Try.func4 rfl [(0, v1)] (Nat.le_of_ble_eq_true rfl) (enter_lk ⟨rfl, trivial⟩) (fun e a hS hF => ?_)
  have hF : Fr 85 a [(0, v1)] := hF
  refine sq ?_
  refine rg ?_
  refine stp hF (p_assign rfl) (by decide) (fun a hF => ?_)
  refine nilN ?_
  refine xn ?_
  refine sq ?_
  refine sq ?_
  refine rg ?_
  refine stp hF (p_move rfl) (by decide) (fun a hF => ?_)
  obtain ⟨x9, hx1, H⟩ := hb H
  refine ste hF (e_callA (fst := []) (vs := [v1]) (cap := []) rfl rfl go_20 (St.call (A := []) (B := []) hS (laws_big.spec k _ _ x8 v1 h1 _ hx1)) rfl) (by decide) (fun v w a hR hF => ?_)
  obtain ⟨s2, A2, hg1, hS, hR⟩ := hR
  obtain ⟨hv1, rfl⟩ := hR; obtain rfl := hv1.symm
  have hS : St e s2 w [] := hS
  refine nilN ?_
  refine xn ?_
  refine cnd hF rfl (fun hc1 => ?_) (fun hc1 => ?_)
  · replace H := hbt hc1 H
    refine sq ?_
    refine rg ?_
    refine stp hF (p_assign rfl) (by decide) (fun a hF => ?_)
    refine nilN ?_
    refine xn ?_
    refine rt ?_
    refine xr ?_
    obtain rfl := hsm H
    exact ret1 hF rfl rfl hS ⟨rfl, rfl⟩
  · replace H := hbf hc1 H
    refine skN ?_
    refine xn ?_
    refine sq ?_
    refine rg ?_
    refine stp hF (p_move rfl) (by decide) (fun a hF => ?_)
    obtain ⟨x4, hx2, H⟩ := hb H
    refine ste hF (e_callA (fst := []) (vs := [v1]) (cap := []) rfl rfl go_21 (St.call (A := []) (B := []) hS (spec_DrawPutRec.spec k _ _ x8 v1 (h1.mono hg1) _ hx2)) rfl) (by decide) (fun v w a hR hF => ?_)
    obtain ⟨s3, A3, hg2, hS, hR⟩ := hR
    obtain ⟨v2, v3, v4, v5, v6, hv2, rfl, h2, h3, h4, h5, h6⟩ := hR; obtain rfl := hv2.symm
    have hS : St e s3 w [] := hS
    refine ste hF (e_alloc (cs := [(.int .i64 0), (.int .i64 0), (.int .i64 0), (.int .i64 0), (.int .i64 0), (.bool false), (.int .i64 0), (.slice none 0 0), (.slice none 0 0), (.bool false), (.int .i64 0), (.slice none 0 0), (.slice none 0 0), (.int .i64 0), (.slice none 0 0)]) hS ti_41 rfl) (by decide) (fun v w a hR hF => ?_)
    obtain ⟨g1, rfl, hS⟩ := hR
    refine ste0 hF (e_stb (i := 0) (l := []) (m := [(.int .i64 0), (.int .i64 0), (.int .i64 0), (.int .i64 0), (.int .i64 0), (.bool false), (.int .i64 0), (.slice none 0 0), (.slice none 0 0), (.bool false), (.int .i64 0), (.slice none 0 0), (.slice none 0 0), (.int .i64 0), (.slice none 0 0)]) (r := []) (m' := [(.int .i64 x4.Lsn), (.int .i64 x4.Tx), (.int .i64 x4.Prev), (.int .i64 x4.Kind), (.int .i64 x4.Oid), (.bool x4.Before.Has), (.int .i64 x4.Before.O.Kind), v2, v3, (.bool x4.After.Has), (.int .i64 x4.After.O.Kind), v4, v5, (.int .i64 x4.Next), v6]) (cs' := [(.int .i64 x4.Lsn), (.int .i64 x4.Tx), (.int .i64 x4.Prev), (.int .i64 x4.Kind), (.int .i64 x4.Oid), (.bool x4.Before.Has), (.int .i64 x4.Before.O.Kind), v2, v3, (.bool x4.After.Has), (.int .i64 x4.After.O.Kind), v4, v5, (.int .i64 x4.Next), v6]) hS rfl rfl rfl ti_41 rfl rfl rfl rfl rfl (one_cons rfl (one_cons rfl (one_cons rfl (one_cons rfl (one_cons rfl (one_cons rfl (one_cons rfl (one_cons (one_sl h2) (one_cons (one_sl h3) (one_cons rfl (one_cons rfl (one_cons (one_sl h4) (one_cons (one_sl h5) (one_cons rfl (one_cons (one_sl h6) one_nil))))))))))))))) rfl) (fun v w a hR hF => ?_)
    have hS : St e s3 w [pt g1 41 ([(.int .i64 x4.Lsn), (.int .i64 x4.Tx), (.int .i64 x4.Prev), (.int .i64 x4.Kind), (.int .i64 x4.Oid), (.bool x4.Before.Has), (.int .i64 x4.Before.O.Kind), v2, v3, (.bool x4.After.Has), (.int .i64 x4.After.O.Kind), v4, v5, (.int .i64 x4.Next), v6])] := hR
    refine nilN ?_
    refine xn ?_
    refine sq ?_
    refine rg ?_
    refine stp hF (p_ldb_agg (i := 0) (l := []) (m := [(.int .i64 x4.Lsn), (.int .i64 x4.Tx), (.int .i64 x4.Prev), (.int .i64 x4.Kind), (.int .i64 x4.Oid), (.bool x4.Before.Has), (.int .i64 x4.Before.O.Kind), v2, v3, (.bool x4.After.Has), (.int .i64 x4.After.O.Kind), v4, v5, (.int .i64 x4.Next), v6]) (r := []) hS rfl rfl ia_41 ti_41 rfl rfl rfl) (by decide) (fun a hF => ?_)
    obtain ⟨x10, hx3, H⟩ := hb H
    refine ste hF (e_callA (fst := []) (vs := [(.agg #[(.int .i64 x4.Lsn), (.int .i64 x4.Tx), (.int .i64 x4.Prev), (.int .i64 x4.Kind), (.int .i64 x4.Oid), (.bool x4.Before.Has), (.int .i64 x4.Before.O.Kind), v2, v3, (.bool x4.After.Has), (.int .i64 x4.After.O.Kind), v4, v5, (.int .i64 x4.Next), v6])]) (cap := []) rfl rfl go_22 (St.call (A := []) (B := [pt g1 41 ([(.int .i64 x4.Lsn), (.int .i64 x4.Tx), (.int .i64 x4.Prev), (.int .i64 x4.Kind), (.int .i64 x4.Oid), (.bool x4.Before.Has), (.int .i64 x4.Before.O.Kind), v2, v3, (.bool x4.After.Has), (.int .i64 x4.After.O.Kind), v4, v5, (.int .i64 x4.Next), v6])]) hS (impl_PutRec.spec k _ _ x4 v2 v3 v4 v5 v6 h2 h3 h4 h5 h6 _ hx3)) rfl) (by decide) (fun v w a hR hF => ?_)
    obtain ⟨s4, A4, hg3, hS, hR⟩ := hR
    obtain ⟨v7, hv3, rfl⟩ := hR; obtain rfl := hv3.symm
    have hS : St e s4 w [Ow (Kd.int .u8) 5 v7 x10, pt g1 41 ([(.int .i64 x4.Lsn), (.int .i64 x4.Tx), (.int .i64 x4.Prev), (.int .i64 x4.Kind), (.int .i64 x4.Oid), (.bool x4.Before.Has), (.int .i64 x4.Before.O.Kind), v2, v3, (.bool x4.After.Has), (.int .i64 x4.After.O.Kind), v4, v5, (.int .i64 x4.Next), v6])] := hS
    refine stp hF (p_assign rfl) (by decide) (fun a hF => ?_)
    refine nilN ?_
    refine xn ?_
    refine sq ?_
    refine sq ?_
    refine rg ?_
    refine stp hF (p_ldb_agg (i := 1) (l := []) (m := [(.int .i64 x4.Lsn), (.int .i64 x4.Tx), (.int .i64 x4.Prev), (.int .i64 x4.Kind), (.int .i64 x4.Oid), (.bool x4.Before.Has), (.int .i64 x4.Before.O.Kind), v2, v3, (.bool x4.After.Has), (.int .i64 x4.After.O.Kind), v4, v5, (.int .i64 x4.Next), v6]) (r := []) hS rfl rfl ia_41 ti_41 rfl rfl rfl) (by decide) (fun a hF => ?_)
    obtain ⟨x11, hx4, H⟩ := hb H
    refine ste hF (e_callA (fst := []) (vs := [(.agg #[(.int .i64 x4.Lsn), (.int .i64 x4.Tx), (.int .i64 x4.Prev), (.int .i64 x4.Kind), (.int .i64 x4.Oid), (.bool x4.Before.Has), (.int .i64 x4.Before.O.Kind), v2, v3, (.bool x4.After.Has), (.int .i64 x4.After.O.Kind), v4, v5, (.int .i64 x4.Next), v6])]) (cap := []) rfl rfl go_23 (St.call (A := []) (B := [Ow (Kd.int .u8) 5 v7 x10, pt g1 41 ([(.int .i64 x4.Lsn), (.int .i64 x4.Tx), (.int .i64 x4.Prev), (.int .i64 x4.Kind), (.int .i64 x4.Oid), (.bool x4.Before.Has), (.int .i64 x4.Before.O.Kind), v2, v3, (.bool x4.After.Has), (.int .i64 x4.After.O.Kind), v4, v5, (.int .i64 x4.Next), v6])]) hS (spec_RecOk.spec k _ _ x4 v2 v3 v4 v5 v6 (h2.mono hg3) (h3.mono hg3) (h4.mono hg3) (h5.mono hg3) (h6.mono hg3) _ hx4)) rfl) (by decide) (fun v w a hR hF => ?_)
    obtain ⟨s5, A5, hg4, hS, hR⟩ := hR
    obtain ⟨hv4, rfl⟩ := hR; obtain rfl := hv4.symm
    have hS : St e s5 w [Ow (Kd.int .u8) 5 v7 x10, pt g1 41 ([(.int .i64 x4.Lsn), (.int .i64 x4.Tx), (.int .i64 x4.Prev), (.int .i64 x4.Kind), (.int .i64 x4.Oid), (.bool x4.Before.Has), (.int .i64 x4.Before.O.Kind), v2, v3, (.bool x4.After.Has), (.int .i64 x4.After.O.Kind), v4, v5, (.int .i64 x4.Next), v6])] := hS
    refine stp hF (p_not rfl) (by decide) (fun a hF => ?_)
    refine nilN ?_
    refine xn ?_
    refine cnd hF rfl (fun hc2 => ?_) (fun hc2 => ?_)
    · replace H := hbt hc2 H
      refine sq ?_
      refine rg ?_
      refine stp hF (p_move rfl) (by decide) (fun a hF => ?_)
      refine stp hF (p_leno (i := 0) hS rfl un_24 rfl) (by decide) (fun a hF => ?_)
      refine stp hF (p_eql rfl rfl) (by decide) (fun a hF => ?_)
      refine stp hF (p_move rfl) (by decide) (fun a hF => ?_)
      obtain ⟨x13, H, HK1⟩ := hb H
      refine cutj 4 (fun a w => ∃ (x1 : Bool) (s6 : HF) , St e s6 w [Ow (Kd.int .u8) 5 v7 x10, pt g1 41 ([(.int .i64 x4.Lsn), (.int .i64 x4.Tx), (.int .i64 x4.Prev), (.int .i64 x4.Kind), (.int .i64 x4.Oid), (.bool x4.Before.Has), (.int .i64 x4.Before.O.Kind), v2, v3, (.bool x4.After.Has), (.int .i64 x4.After.O.Kind), v4, v5, (.int .i64 x4.Next), v6])] ∧ Fr 85 a [(25, (.bool x1))] ∧ Sub s5 s6 ∧ laws_FnRecords.c1 k x1 = some r) rfl rfl ?_ ?_
      · rcases Bool.eq_false_or_eq_true (decide ((x10.length : Int) = 0)) with hc3 | hc3
        · replace H := hbt hc3 H
          refine gonE (j := 3) hF rfl rfl hc3 ?_
          refine stp hF (p_ldb_agg (i := 1) (l := []) (m := [(.int .i64 x4.Lsn), (.int .i64 x4.Tx), (.int .i64 x4.Prev), (.int .i64 x4.Kind), (.int .i64 x4.Oid), (.bool x4.Before.Has), (.int .i64 x4.Before.O.Kind), v2, v3, (.bool x4.After.Has), (.int .i64 x4.After.O.Kind), v4, v5, (.int .i64 x4.Next), v6]) (r := []) hS rfl rfl ia_41 ti_41 rfl rfl rfl) (by decide) (fun a hF => ?_)
          obtain ⟨x12, hx5, H⟩ := hb H
          refine gonE (j := 3) hF rfl rfl hc3 ?_
          refine ste hF (e_callA (fst := []) (vs := [(.agg #[(.int .i64 x4.Lsn), (.int .i64 x4.Tx), (.int .i64 x4.Prev), (.int .i64 x4.Kind), (.int .i64 x4.Oid), (.bool x4.Before.Has), (.int .i64 x4.Before.O.Kind), v2, v3, (.bool x4.After.Has), (.int .i64 x4.After.O.Kind), v4, v5, (.int .i64 x4.Next), v6])]) (cap := []) rfl rfl go_24 (St.call (A := []) (B := [Ow (Kd.int .u8) 5 v7 x10, pt g1 41 ([(.int .i64 x4.Lsn), (.int .i64 x4.Tx), (.int .i64 x4.Prev), (.int .i64 x4.Kind), (.int .i64 x4.Oid), (.bool x4.Before.Has), (.int .i64 x4.Before.O.Kind), v2, v3, (.bool x4.After.Has), (.int .i64 x4.After.O.Kind), v4, v5, (.int .i64 x4.Next), v6])]) hS (impl_RecOk.spec k _ _ x4 v2 v3 v4 v5 v6 ((h2.mono hg3).mono hg4) ((h3.mono hg3).mono hg4) ((h4.mono hg3).mono hg4) ((h5.mono hg3).mono hg4) ((h6.mono hg3).mono hg4) _ hx5)) rfl) (by decide) (fun v w a hR hF => ?_)
          obtain ⟨s7, A6, hg5, hS, hR⟩ := hR
          obtain ⟨hv5, rfl⟩ := hR; obtain rfl := hv5.symm
          have hS : St e s7 w [Ow (Kd.int .u8) 5 v7 x10, pt g1 41 ([(.int .i64 x4.Lsn), (.int .i64 x4.Tx), (.int .i64 x4.Prev), (.int .i64 x4.Kind), (.int .i64 x4.Oid), (.bool x4.Before.Has), (.int .i64 x4.Before.O.Kind), v2, v3, (.bool x4.After.Has), (.int .i64 x4.After.O.Kind), v4, v5, (.int .i64 x4.Next), v6])] := hS
          refine gonE (j := 3) hF rfl rfl hc3 ?_
          refine stp hF (p_not rfl) (by decide) (fun a hF => ?_)
          refine stp hF (p_pickT rfl hc3 rfl) (by decide) (fun a hF => ?_)
          refine nilN ?_
          refine xn ?_
          obtain rfl := hsm H
          exact ⟨(!x12), s7, hS, hF.cut ⟨rfl, trivial⟩, hg5, HK1⟩
        · replace H := hbf hc3 H
          refine gofD (j := 3) hF rfl rfl (by rw [hc3]; decide) (by decide) (fun a hF => ?_)
          refine gofD (j := 3) hF rfl rfl (by rw [hc3]; decide) (by decide) (fun a hF => ?_)
          refine gofD (j := 3) hF rfl rfl (by rw [hc3]; decide) (by decide) (fun a hF => ?_)
          refine stp hF (p_pickF rfl hc3 rfl) (by decide) (fun a hF => ?_)
          refine nilN ?_
          refine xn ?_
          obtain rfl := hsm H
          exact ⟨false, s5, hS, hF.cut ⟨rfl, trivial⟩, (Sub.refl _), HK1⟩
      · clear H HK1 hS hF
        rintro a w ⟨x1, s6, hS, hF, hg6, H⟩
        unfold laws_FnRecords.c1 at H
        refine stp hF (p_assign rfl) (by decide) (fun a hF => ?_)
        refine nilN ?_
        refine xn ?_
        refine rt ?_
        refine xr ?_
        obtain rfl := hsm H
        replace hS := hS.sel (is := []) (A' := []) rfl
        exact ret1 hF rfl rfl hS ⟨rfl, rfl⟩
    · replace H := hbf hc2 H
      refine skN ?_
      refine xn ?_
      refine sq ?_
      refine rg ?_
      refine stp hF (p_move rfl) (by decide) (fun a hF => ?_)
      obtain ⟨s8, hg7, hl1, hcall1⟩ := St.lend (P := Try.prog) (Bs := [Ow (Kd.int .u8) 5 v7 x10]) (A := []) (B := [pt g1 41 ([(.int .i64 x4.Lsn), (.int .i64 x4.Tx), (.int .i64 x4.Prev), (.int .i64 x4.Kind), (.int .i64 x4.Oid), (.bool x4.Before.Has), (.int .i64 x4.Before.O.Kind), v2, v3, (.bool x4.After.Has), (.int .i64 x4.After.O.Kind), v4, v5, (.int .i64 x4.Next), v6])]) hS
      obtain ⟨h7, hl1⟩ := hl1.ow hg7
      obtain ⟨x3, hx6, H⟩ := hb H
      refine ste hF (e_callA (fst := []) (vs := [v7]) (cap := []) rfl rfl go_25 (hcall1 (impl_GetRec.spec k _ _ x10 v7 h7 _ hx6) (by rintro v s1 A1 ⟨_, _, _, _, _, rfl, rfl⟩; exact ⟨Ow_flat flat_int _ _ _, ⟨Ow_flat flat_int _ _ _, ⟨Ow_flat flat_int _ _ _, ⟨Ow_flat flat_int _ _ _, ⟨Ow_flat kTLive_flat _ _ _, trivial⟩⟩⟩⟩⟩)) rfl) (by decide) (fun v w a hR hF => ?_)
      obtain ⟨s9, s10, A7, hg8, hS, hR⟩ := hR
      obtain ⟨v8, v9, v10, v11, v12, hv6, rfl⟩ := hR; obtain rfl := hv6.symm
      have hS : St e s9 w [Ow (Kd.int .u8) 5 v7 x10, Ow (Kd.int .i64) 3 v8 x3.1.Before.O.Ints, Ow (Kd.int .i64) 3 v9 x3.1.Before.O.Refs, Ow (Kd.int .i64) 3 v10 x3.1.After.O.Ints, Ow (Kd.int .i64) 3 v11 x3.1.After.O.Refs, Ow kTLive 91 v12 x3.1.Txs, pt g1 41 ([(.int .i64 x4.Lsn), (.int .i64 x4.Tx), (.int .i64 x4.Prev), (.int .i64 x4.Kind), (.int .i64 x4.Oid), (.bool x4.Before.Has), (.int .i64 x4.Before.O.Kind), v2, v3, (.bool x4.After.Has), (.int .i64 x4.After.O.Kind), v4, v5, (.int .i64 x4.Next), v6])] := hS
      refine stp hF (p_move rfl) (by decide) (fun a hF => ?_)
      refine stp hF (p_extract rfl rfl) (by decide) (fun a hF => ?_)
      refine stp hF (p_extract rfl rfl) (by decide) (fun a hF => ?_)
      refine ste hF (e_alloc (cs := [(.int .i64 0), (.int .i64 0), (.int .i64 0), (.int .i64 0), (.int .i64 0), (.bool false), (.int .i64 0), (.slice none 0 0), (.slice none 0 0), (.bool false), (.int .i64 0), (.slice none 0 0), (.slice none 0 0), (.int .i64 0), (.slice none 0 0)]) hS ti_41 rfl) (by decide) (fun v w a hR hF => ?_)
      obtain ⟨g2, rfl, hS⟩ := hR
      refine ste0 hF (e_stb (i := 0) (l := []) (m := [(.int .i64 0), (.int .i64 0), (.int .i64 0), (.int .i64 0), (.int .i64 0), (.bool false), (.int .i64 0), (.slice none 0 0), (.slice none 0 0), (.bool false), (.int .i64 0), (.slice none 0 0), (.slice none 0 0), (.int .i64 0), (.slice none 0 0)]) (r := []) (m' := [(.int .i64 x3.1.Lsn), (.int .i64 x3.1.Tx), (.int .i64 x3.1.Prev), (.int .i64 x3.1.Kind), (.int .i64 x3.1.Oid), (.bool x3.1.Before.Has), (.int .i64 x3.1.Before.O.Kind), v8, v9, (.bool x3.1.After.Has), (.int .i64 x3.1.After.O.Kind), v10, v11, (.int .i64 x3.1.Next), v12]) (cs' := [(.int .i64 x3.1.Lsn), (.int .i64 x3.1.Tx), (.int .i64 x3.1.Prev), (.int .i64 x3.1.Kind), (.int .i64 x3.1.Oid), (.bool x3.1.Before.Has), (.int .i64 x3.1.Before.O.Kind), v8, v9, (.bool x3.1.After.Has), (.int .i64 x3.1.After.O.Kind), v10, v11, (.int .i64 x3.1.Next), v12]) hS rfl rfl rfl ti_41 rfl rfl rfl rfl rfl (one_cons rfl (one_cons rfl (one_cons rfl (one_cons rfl (one_cons rfl (one_cons rfl (one_cons rfl (one_cons (hS.one_ow (i := 2) rfl) (one_cons (hS.one_ow (i := 3) rfl) (one_cons rfl (one_cons rfl (one_cons (hS.one_ow (i := 4) rfl) (one_cons (hS.one_ow (i := 5) rfl) (one_cons rfl (one_cons (hS.one_ow (i := 6) rfl) one_nil))))))))))))))) rfl) (fun v w a hR hF => ?_)
      have hS : St e s9 w [pt g2 41 ([(.int .i64 x3.1.Lsn), (.int .i64 x3.1.Tx), (.int .i64 x3.1.Prev), (.int .i64 x3.1.Kind), (.int .i64 x3.1.Oid), (.bool x3.1.Before.Has), (.int .i64 x3.1.Before.O.Kind), v8, v9, (.bool x3.1.After.Has), (.int .i64 x3.1.After.O.Kind), v10, v11, (.int .i64 x3.1.Next), v12]), Ow (Kd.int .u8) 5 v7 x10, Ow (Kd.int .i64) 3 v8 x3.1.Before.O.Ints, Ow (Kd.int .i64) 3 v9 x3.1.Before.O.Refs, Ow (Kd.int .i64) 3 v10 x3.1.After.O.Ints, Ow (Kd.int .i64) 3 v11 x3.1.After.O.Refs, Ow kTLive 91 v12 x3.1.Txs, pt g1 41 ([(.int .i64 x4.Lsn), (.int .i64 x4.Tx), (.int .i64 x4.Prev), (.int .i64 x4.Kind), (.int .i64 x4.Oid), (.bool x4.Before.Has), (.int .i64 x4.Before.O.Kind), v2, v3, (.bool x4.After.Has), (.int .i64 x4.After.O.Kind), v4, v5, (.int .i64 x4.Next), v6])] := hR
      refine stp hF (p_assign rfl) (by decide) (fun a hF => ?_)
      refine nilN ?_
      refine xn ?_
      refine sq ?_
      refine rg ?_
      refine stp hF (p_move rfl) (by decide) (fun a hF => ?_)
      refine stp hF (p_move rfl) (by decide) (fun a hF => ?_)
      refine stp hF (p_leno (i := 1) hS rfl un_24 rfl) (by decide) (fun a hF => ?_)
      refine stp hF (p_sub (c := w64 ((x10.length : Int) - 1)) rfl rfl rfl) (by decide) (fun a hF => ?_)
      obtain ⟨s11, hg9, h8, hS⟩ := hS.freeze (i := 1) (kd := (Kd.int .u8)) (et := 5) (v := v7) (xs := x10) (B := [pt g2 41 ([(.int .i64 x3.1.Lsn), (.int .i64 x3.1.Tx), (.int .i64 x3.1.Prev), (.int .i64 x3.1.Kind), (.int .i64 x3.1.Oid), (.bool x3.1.Before.Has), (.int .i64 x3.1.Before.O.Kind), v8, v9, (.bool x3.1.After.Has), (.int .i64 x3.1.After.O.Kind), v10, v11, (.int .i64 x3.1.Next), v12]), Ow (Kd.int .i64) 3 v8 x3.1.Before.O.Ints, Ow (Kd.int .i64) 3 v9 x3.1.Before.O.Refs, Ow (Kd.int .i64) 3 v10 x3.1.After.O.Ints, Ow (Kd.int .i64) 3 v11 x3.1.After.O.Refs, Ow kTLive 91 v12 x3.1.Txs, pt g1 41 ([(.int .i64 x4.Lsn), (.int .i64 x4.Tx), (.int .i64 x4.Prev), (.int .i64 x4.Kind), (.int .i64 x4.Oid), (.bool x4.Before.Has), (.int .i64 x4.Before.O.Kind), v2, v3, (.bool x4.After.Has), (.int .i64 x4.After.O.Kind), v4, v5, (.int .i64 x4.Next), v6])]) rfl
      obtain ⟨hq1, H⟩ := hck H
      obtain ⟨v13, h9, p1⟩ := p_slr (i := (0 : Int)) (j := (w64 ((x10.length : Int) - 1))) un_24 ti_5 h8 hq1.1 hq1.2.1 hq1.2.2
      refine stp hF (p1 rfl rfl rfl) (by decide) (fun a hF => ?_)
      obtain ⟨x14, hx7, H⟩ := hb H
      refine ste hF (e_callA (fst := []) (vs := [v13]) (cap := []) rfl rfl go_25 (St.call (A := []) (B := [pt g2 41 ([(.int .i64 x3.1.Lsn), (.int .i64 x3.1.Tx), (.int .i64 x3.1.Prev), (.int .i64 x3.1.Kind), (.int .i64 x3.1.Oid), (.bool x3.1.Before.Has), (.int .i64 x3.1.Before.O.Kind), v8, v9, (.bool x3.1.After.Has), (.int .i64 x3.1.After.O.Kind), v10, v11, (.int .i64 x3.1.Next), v12]), Ow (Kd.int .i64) 3 v8 x3.1.Before.O.Ints, Ow (Kd.int .i64) 3 v9 x3.1.Before.O.Refs, Ow (Kd.int .i64) 3 v10 x3.1.After.O.Ints, Ow (Kd.int .i64) 3 v11 x3.1.After.O.Refs, Ow kTLive 91 v12 x3.1.Txs, pt g1 41 ([(.int .i64 x4.Lsn), (.int .i64 x4.Tx), (.int .i64 x4.Prev), (.int .i64 x4.Kind), (.int .i64 x4.Oid), (.bool x4.Before.Has), (.int .i64 x4.Before.O.Kind), v2, v3, (.bool x4.After.Has), (.int .i64 x4.After.O.Kind), v4, v5, (.int .i64 x4.Next), v6])]) hS (impl_GetRec.spec k _ _ (cut x10 (0 : Int) (w64 ((x10.length : Int) - 1))) v13 h9 _ hx7)) rfl) (by decide) (fun v w a hR hF => ?_)
      obtain ⟨s12, A8, hg10, hS, hR⟩ := hR
      obtain ⟨v14, v15, v16, v17, v18, hv7, rfl⟩ := hR; obtain rfl := hv7.symm
      have hS : St e s12 w [Ow (Kd.int .i64) 3 v14 x14.1.Before.O.Ints, Ow (Kd.int .i64) 3 v15 x14.1.Before.O.Refs, Ow (Kd.int .i64) 3 v16 x14.1.After.O.Ints, Ow (Kd.int .i64) 3 v17 x14.1.After.O.Refs, Ow kTLive 91 v18 x14.1.Txs, pt g2 41 ([(.int .i64 x3.1.Lsn), (.int .i64 x3.1.Tx), (.int .i64 x3.1.Prev), (.int .i64 x3.1.Kind), (.int .i64 x3.1.Oid), (.bool x3.1.Before.Has), (.int .i64 x3.1.Before.O.Kind), v8, v9, (.bool x3.1.After.Has), (.int .i64 x3.1.After.O.Kind), v10, v11, (.int .i64 x3.1.Next), v12]), Ow (Kd.int .i64) 3 v8 x3.1.Before.O.Ints, Ow (Kd.int .i64) 3 v9 x3.1.Before.O.Refs, Ow (Kd.int .i64) 3 v10 x3.1.After.O.Ints, Ow (Kd.int .i64) 3 v11 x3.1.After.O.Refs, Ow kTLive 91 v12 x3.1.Txs, pt g1 41 ([(.int .i64 x4.Lsn), (.int .i64 x4.Tx), (.int .i64 x4.Prev), (.int .i64 x4.Kind), (.int .i64 x4.Oid), (.bool x4.Before.Has), (.int .i64 x4.Before.O.Kind), v2, v3, (.bool x4.After.Has), (.int .i64 x4.After.O.Kind), v4, v5, (.int .i64 x4.Next), v6])] := hS
      refine stp hF (p_move rfl) (by decide) (fun a hF => ?_)
      refine stp hF (p_extract rfl rfl) (by decide) (fun a hF => ?_)
      refine stp hF (p_extract rfl rfl) (by decide) (fun a hF => ?_)
      refine ste hF (e_alloc (cs := [(.int .i64 0), (.int .i64 0), (.int .i64 0), (.int .i64 0), (.int .i64 0), (.bool false), (.int .i64 0), (.slice none 0 0), (.slice none 0 0), (.bool false), (.int .i64 0), (.slice none 0 0), (.slice none 0 0), (.int .i64 0), (.slice none 0 0)]) hS ti_41 rfl) (by decide) (fun v w a hR hF => ?_)
      obtain ⟨g3, rfl, hS⟩ := hR
      refine ste0 hF (e_stb (i := 0) (l := []) (m := [(.int .i64 0), (.int .i64 0), (.int .i64 0), (.int .i64 0), (.int .i64 0), (.bool false), (.int .i64 0), (.slice none 0 0), (.slice none 0 0), (.bool false), (.int .i64 0), (.slice none 0 0), (.slice none 0 0), (.int .i64 0), (.slice none 0 0)]) (r := []) (m' := [(.int .i64 x14.1.Lsn), (.int .i64 x14.1.Tx), (.int .i64 x14.1.Prev), (.int .i64 x14.1.Kind), (.int .i64 x14.1.Oid), (.bool x14.1.Before.Has), (.int .i64 x14.1.Before.O.Kind), v14, v15, (.bool x14.1.After.Has), (.int .i64 x14.1.After.O.Kind), v16, v17, (.int .i64 x14.1.Next), v18]) (cs' := [(.int .i64 x14.1.Lsn), (.int .i64 x14.1.Tx), (.int .i64 x14.1.Prev), (.int .i64 x14.1.Kind), (.int .i64 x14.1.Oid), (.bool x14.1.Before.Has), (.int .i64 x14.1.Before.O.Kind), v14, v15, (.bool x14.1.After.Has), (.int .i64 x14.1.After.O.Kind), v16, v17, (.int .i64 x14.1.Next), v18]) hS rfl rfl rfl ti_41 rfl rfl rfl rfl rfl (one_cons rfl (one_cons rfl (one_cons rfl (one_cons rfl (one_cons rfl (one_cons rfl (one_cons rfl (one_cons (hS.one_ow (i := 1) rfl) (one_cons (hS.one_ow (i := 2) rfl) (one_cons rfl (one_cons rfl (one_cons (hS.one_ow (i := 3) rfl) (one_cons (hS.one_ow (i := 4) rfl) (one_cons rfl (one_cons (hS.one_ow (i := 5) rfl) one_nil))))))))))))))) rfl) (fun v w a hR hF => ?_)
      have hS : St e s12 w [pt g3 41 ([(.int .i64 x14.1.Lsn), (.int .i64 x14.1.Tx), (.int .i64 x14.1.Prev), (.int .i64 x14.1.Kind), (.int .i64 x14.1.Oid), (.bool x14.1.Before.Has), (.int .i64 x14.1.Before.O.Kind), v14, v15, (.bool x14.1.After.Has), (.int .i64 x14.1.After.O.Kind), v16, v17, (.int .i64 x14.1.Next), v18]), Ow (Kd.int .i64) 3 v14 x14.1.Before.O.Ints, Ow (Kd.int .i64) 3 v15 x14.1.Before.O.Refs, Ow (Kd.int .i64) 3 v16 x14.1.After.O.Ints, Ow (Kd.int .i64) 3 v17 x14.1.After.O.Refs, Ow kTLive 91 v18 x14.1.Txs, pt g2 41 ([(.int .i64 x3.1.Lsn), (.int .i64 x3.1.Tx), (.int .i64 x3.1.Prev), (.int .i64 x3.1.Kind), (.int .i64 x3.1.Oid), (.bool x3.1.Before.Has), (.int .i64 x3.1.Before.O.Kind), v8, v9, (.bool x3.1.After.Has), (.int .i64 x3.1.After.O.Kind), v10, v11, (.int .i64 x3.1.Next), v12]), Ow (Kd.int .i64) 3 v8 x3.1.Before.O.Ints, Ow (Kd.int .i64) 3 v9 x3.1.Before.O.Refs, Ow (Kd.int .i64) 3 v10 x3.1.After.O.Ints, Ow (Kd.int .i64) 3 v11 x3.1.After.O.Refs, Ow kTLive 91 v12 x3.1.Txs, pt g1 41 ([(.int .i64 x4.Lsn), (.int .i64 x4.Tx), (.int .i64 x4.Prev), (.int .i64 x4.Kind), (.int .i64 x4.Oid), (.bool x4.Before.Has), (.int .i64 x4.Before.O.Kind), v2, v3, (.bool x4.After.Has), (.int .i64 x4.After.O.Kind), v4, v5, (.int .i64 x4.Next), v6])] := hR
      refine stp hF (p_assign rfl) (by decide) (fun a hF => ?_)
      refine nilN ?_
      refine xn ?_
      refine sq ?_
      refine rg ?_
      refine stp hF (p_move rfl) (by decide) (fun a hF => ?_)
      refine stp hF (p_move rfl) (by decide) (fun a hF => ?_)
      refine cutj 3 (fun a w => St e s12 w [pt g3 41 ([(.int .i64 x14.1.Lsn), (.int .i64 x14.1.Tx), (.int .i64 x14.1.Prev), (.int .i64 x14.1.Kind), (.int .i64 x14.1.Oid), (.bool x14.1.Before.Has), (.int .i64 x14.1.Before.O.Kind), v14, v15, (.bool x14.1.After.Has), (.int .i64 x14.1.After.O.Kind), v16, v17, (.int .i64 x14.1.Next), v18]), Ow (Kd.int .i64) 3 v14 x14.1.Before.O.Ints, Ow (Kd.int .i64) 3 v15 x14.1.Before.O.Refs, Ow (Kd.int .i64) 3 v16 x14.1.After.O.Ints, Ow (Kd.int .i64) 3 v17 x14.1.After.O.Refs, Ow kTLive 91 v18 x14.1.Txs, pt g2 41 ([(.int .i64 x3.1.Lsn), (.int .i64 x3.1.Tx), (.int .i64 x3.1.Prev), (.int .i64 x3.1.Kind), (.int .i64 x3.1.Oid), (.bool x3.1.Before.Has), (.int .i64 x3.1.Before.O.Kind), v8, v9, (.bool x3.1.After.Has), (.int .i64 x3.1.After.O.Kind), v10, v11, (.int .i64 x3.1.Next), v12]), Ow (Kd.int .i64) 3 v8 x3.1.Before.O.Ints, Ow (Kd.int .i64) 3 v9 x3.1.Before.O.Refs, Ow (Kd.int .i64) 3 v10 x3.1.After.O.Ints, Ow (Kd.int .i64) 3 v11 x3.1.After.O.Refs, Ow kTLive 91 v12 x3.1.Txs, pt g1 41 ([(.int .i64 x4.Lsn), (.int .i64 x4.Tx), (.int .i64 x4.Prev), (.int .i64 x4.Kind), (.int .i64 x4.Oid), (.bool x4.Before.Has), (.int .i64 x4.Before.O.Kind), v2, v3, (.bool x4.After.Has), (.int .i64 x4.After.O.Kind), v4, v5, (.int .i64 x4.Next), v6])] ∧ Fr 85 a [(3, (.pointer (some ⟨g1, 0, none⟩))), (4, v7), (5, (.pointer (some ⟨g2, 0, none⟩))), (44, (.bool (x3.2 && (!x14.2))))]) rfl rfl ?_ ?_
      · rcases Bool.eq_false_or_eq_true (x3.2) with hc4 | hc4
        · skip
          refine gonE (j := 1) hF rfl rfl hc4 ?_
          refine stp hF (p_move rfl) (by decide) (fun a hF => ?_)
          refine gonE (j := 1) hF rfl rfl hc4 ?_
          refine stp hF (p_not rfl) (by decide) (fun a hF => ?_)
          refine stp hF (p_andT rfl hc4 rfl) (by decide) (fun a hF => ?_)
          refine nilN ?_
          refine xn ?_
          exact ⟨hS, hF.cut ⟨rfl, rfl, rfl, rfl, trivial⟩⟩
        · skip
          refine gofD (j := 1) hF rfl rfl (by rw [hc4]; decide) (by decide) (fun a hF => ?_)
          refine gofD (j := 1) hF rfl rfl (by rw [hc4]; decide) (by decide) (fun a hF => ?_)
          refine stp hF (p_andF (!x14.2) rfl hc4 rfl) (by decide) (fun a hF => ?_)
          refine nilN ?_
          refine xn ?_
          exact ⟨hS, hF.cut ⟨rfl, rfl, rfl, rfl, trivial⟩⟩
      clear hS hF
      rintro a w ⟨hS, hF⟩
      refine stp hF (p_move rfl) (by decide) (fun a hF => ?_)
      obtain ⟨x17, H, HK2⟩ := hb H
      refine cutj 5 (fun a w => ∃ (x5 : Bool) (s13 : HF) , St e s13 w [pt g3 41 ([(.int .i64 x14.1.Lsn), (.int .i64 x14.1.Tx), (.int .i64 x14.1.Prev), (.int .i64 x14.1.Kind), (.int .i64 x14.1.Oid), (.bool x14.1.Before.Has), (.int .i64 x14.1.Before.O.Kind), v14, v15, (.bool x14.1.After.Has), (.int .i64 x14.1.After.O.Kind), v16, v17, (.int .i64 x14.1.Next), v18]), Ow (Kd.int .i64) 3 v14 x14.1.Before.O.Ints, Ow (Kd.int .i64) 3 v15 x14.1.Before.O.Refs, Ow (Kd.int .i64) 3 v16 x14.1.After.O.Ints, Ow (Kd.int .i64) 3 v17 x14.1.After.O.Refs, Ow kTLive 91 v18 x14.1.Txs, pt g2 41 ([(.int .i64 x3.1.Lsn), (.int .i64 x3.1.Tx), (.int .i64 x3.1.Prev), (.int .i64 x3.1.Kind), (.int .i64 x3.1.Oid), (.bool x3.1.Before.Has), (.int .i64 x3.1.Before.O.Kind), v8, v9, (.bool x3.1.After.Has), (.int .i64 x3.1.After.O.Kind), v10, v11, (.int .i64 x3.1.Next), v12]), Ow (Kd.int .i64) 3 v8 x3.1.Before.O.Ints, Ow (Kd.int .i64) 3 v9 x3.1.Before.O.Refs, Ow (Kd.int .i64) 3 v10 x3.1.After.O.Ints, Ow (Kd.int .i64) 3 v11 x3.1.After.O.Refs, Ow kTLive 91 v12 x3.1.Txs, pt g1 41 ([(.int .i64 x4.Lsn), (.int .i64 x4.Tx), (.int .i64 x4.Prev), (.int .i64 x4.Kind), (.int .i64 x4.Oid), (.bool x4.Before.Has), (.int .i64 x4.Before.O.Kind), v2, v3, (.bool x4.After.Has), (.int .i64 x4.After.O.Kind), v4, v5, (.int .i64 x4.Next), v6])] ∧ Fr 85 a [(3, (.pointer (some ⟨g1, 0, none⟩))), (5, (.pointer (some ⟨g2, 0, none⟩))), (50, (.bool x5))] ∧ Sub s12 s13 ∧ laws_FnRecords.c3 k x3 x4 x5 = some r) rfl rfl ?_ ?_
      · rcases Bool.eq_false_or_eq_true ((x3.2 && (!x14.2))) with hc5 | hc5
        · replace H := hbt hc5 H
          refine gonE (j := 5) hF rfl rfl hc5 ?_
          refine stp hF (p_ldb_agg (i := 6) (l := []) (m := [(.int .i64 x3.1.Lsn), (.int .i64 x3.1.Tx), (.int .i64 x3.1.Prev), (.int .i64 x3.1.Kind), (.int .i64 x3.1.Oid), (.bool x3.1.Before.Has), (.int .i64 x3.1.Before.O.Kind), v8, v9, (.bool x3.1.After.Has), (.int .i64 x3.1.After.O.Kind), v10, v11, (.int .i64 x3.1.Next), v12]) (r := []) hS rfl rfl ia_41 ti_41 rfl rfl rfl) (by decide) (fun a hF => ?_)
          replace hS := hS.sel (is := [7, 7, 7, 7, 7, 0, 0, 0, 0, 0, 0, 0, 0]) (A' := [Ow (Kd.int .i64) 3 v8 x3.1.Before.O.Ints, Ow (Kd.int .i64) 3 v9 x3.1.Before.O.Refs, Ow (Kd.int .i64) 3 v10 x3.1.After.O.Ints, Ow (Kd.int .i64) 3 v11 x3.1.After.O.Refs, Ow kTLive 91 v12 x3.1.Txs, pt g3 41 ([(.int .i64 x14.1.Lsn), (.int .i64 x14.1.Tx), (.int .i64 x14.1.Prev), (.int .i64 x14.1.Kind), (.int .i64 x14.1.Oid), (.bool x14.1.Before.Has), (.int .i64 x14.1.Before.O.Kind), v14, v15, (.bool x14.1.After.Has), (.int .i64 x14.1.After.O.Kind), v16, v17, (.int .i64 x14.1.Next), v18]), Ow (Kd.int .i64) 3 v14 x14.1.Before.O.Ints, Ow (Kd.int .i64) 3 v15 x14.1.Before.O.Refs, Ow (Kd.int .i64) 3 v16 x14.1.After.O.Ints, Ow (Kd.int .i64) 3 v17 x14.1.After.O.Refs, Ow kTLive 91 v18 x14.1.Txs, pt g2 41 ([(.int .i64 x3.1.Lsn), (.int .i64 x3.1.Tx), (.int .i64 x3.1.Prev), (.int .i64 x3.1.Kind), (.int .i64 x3.1.Oid), (.bool x3.1.Before.Has), (.int .i64 x3.1.Before.O.Kind), v8, v9, (.bool x3.1.After.Has), (.int .i64 x3.1.After.O.Kind), v10, v11, (.int .i64 x3.1.Next), v12]), pt g1 41 ([(.int .i64 x4.Lsn), (.int .i64 x4.Tx), (.int .i64 x4.Prev), (.int .i64 x4.Kind), (.int .i64 x4.Oid), (.bool x4.Before.Has), (.int .i64 x4.Before.O.Kind), v2, v3, (.bool x4.After.Has), (.int .i64 x4.After.O.Kind), v4, v5, (.int .i64 x4.Next), v6])]) rfl
          obtain ⟨s14, hg11, hl2, hcall2⟩ := St.lend (P := Try.prog) (Bs := [Ow (Kd.int .i64) 3 v8 x3.1.Before.O.Ints, Ow (Kd.int .i64) 3 v9 x3.1.Before.O.Refs, Ow (Kd.int .i64) 3 v10 x3.1.After.O.Ints, Ow (Kd.int .i64) 3 v11 x3.1.After.O.Refs, Ow kTLive 91 v12 x3.1.Txs]) (A := []) (B := [pt g3 41 ([(.int .i64 x14.1.Lsn), (.int .i64 x14.1.Tx), (.int .i64 x14.1.Prev), (.int .i64 x14.1.Kind), (.int .i64 x14.1.Oid), (.bool x14.1.Before.Has), (.int .i64 x14.1.Before.O.Kind), v14, v15, (.bool x14.1.After.Has), (.int .i64 x14.1.After.O.Kind), v16, v17, (.int .i64 x14.1.Next), v18]), Ow (Kd.int .i64) 3 v14 x14.1.Before.O.Ints, Ow (Kd.int .i64) 3 v15 x14.1.Before.O.Refs, Ow (Kd.int .i64) 3 v16 x14.1.After.O.Ints, Ow (Kd.int .i64) 3 v17 x14.1.After.O.Refs, Ow kTLive 91 v18 x14.1.Txs, pt g2 41 ([(.int .i64 x3.1.Lsn), (.int .i64 x3.1.Tx), (.int .i64 x3.1.Prev), (.int .i64 x3.1.Kind), (.int .i64 x3.1.Oid), (.bool x3.1.Before.Has), (.int .i64 x3.1.Before.O.Kind), v8, v9, (.bool x3.1.After.Has), (.int .i64 x3.1.After.O.Kind), v10, v11, (.int .i64 x3.1.Next), v12]), pt g1 41 ([(.int .i64 x4.Lsn), (.int .i64 x4.Tx), (.int .i64 x4.Prev), (.int .i64 x4.Kind), (.int .i64 x4.Oid), (.bool x4.Before.Has), (.int .i64 x4.Before.O.Kind), v2, v3, (.bool x4.After.Has), (.int .i64 x4.After.O.Kind), v4, v5, (.int .i64 x4.Next), v6])]) hS
          obtain ⟨h10, hl2⟩ := hl2.ow hg11
          obtain ⟨h11, hl2⟩ := hl2.ow hg11
          obtain ⟨h12, hl2⟩ := hl2.ow hg11
          obtain ⟨h13, hl2⟩ := hl2.ow hg11
          obtain ⟨h14, hl2⟩ := hl2.ow hg11
          obtain ⟨x15, hx8, H⟩ := hb H
          refine gonE (j := 5) hF rfl rfl hc5 ?_
          refine ste hF (e_callA (fst := []) (vs := [(.agg #[(.int .i64 x3.1.Lsn), (.int .i64 x3.1.Tx), (.int .i64 x3.1.Prev), (.int .i64 x3.1.Kind), (.int .i64 x3.1.Oid), (.bool x3.1.Before.Has), (.int .i64 x3.1.Before.O.Kind), v8, v9, (.bool x3.1.After.Has), (.int .i64 x3.1.After.O.Kind), v10, v11, (.int .i64 x3.1.Next), v12])]) (cap := []) rfl rfl go_22 (hcall2 (impl_PutRec.spec k _ _ x3.1 v8 v9 v10 v11 v12 h10 h11 h12 h13 h14 _ hx8) (by rintro v s1 A1 ⟨_, rfl, rfl⟩; exact ⟨Ow_flat flat_int _ _ _, trivial⟩)) rfl) (by decide) (fun v w a hR hF => ?_)
          obtain ⟨s15, s16, A9, hg12, hS, hR⟩ := hR
          obtain ⟨v19, hv8, rfl⟩ := hR; obtain rfl := hv8.symm
          have hS : St e s15 w [Ow (Kd.int .i64) 3 v8 x3.1.Before.O.Ints, Ow (Kd.int .i64) 3 v9 x3.1.Before.O.Refs, Ow (Kd.int .i64) 3 v10 x3.1.After.O.Ints, Ow (Kd.int .i64) 3 v11 x3.1.After.O.Refs, Ow kTLive 91 v12 x3.1.Txs, Ow (Kd.int .u8) 5 v19 x15, pt g3 41 ([(.int .i64 x14.1.Lsn), (.int .i64 x14.1.Tx), (.int .i64 x14.1.Prev), (.int .i64 x14.1.Kind), (.int .i64 x14.1.Oid), (.bool x14.1.Before.Has), (.int .i64 x14.1.Before.O.Kind), v14, v15, (.bool x14.1.After.Has), (.int .i64 x14.1.After.O.Kind), v16, v17, (.int .i64 x14.1.Next), v18]), Ow (Kd.int .i64) 3 v14 x14.1.Before.O.Ints, Ow (Kd.int .i64) 3 v15 x14.1.Before.O.Refs, Ow (Kd.int .i64) 3 v16 x14.1.After.O.Ints, Ow (Kd.int .i64) 3 v17 x14.1.After.O.Refs, Ow kTLive 91 v18 x14.1.Txs, pt g2 41 ([(.int .i64 x3.1.Lsn), (.int .i64 x3.1.Tx), (.int .i64 x3.1.Prev), (.int .i64 x3.1.Kind), (.int .i64 x3.1.Oid), (.bool x3.1.Before.Has), (.int .i64 x3.1.Before.O.Kind), v8, v9, (.bool x3.1.After.Has), (.int .i64 x3.1.After.O.Kind), v10, v11, (.int .i64 x3.1.Next), v12]), pt g1 41 ([(.int .i64 x4.Lsn), (.int .i64 x4.Tx), (.int .i64 x4.Prev), (.int .i64 x4.Kind), (.int .i64 x4.Oid), (.bool x4.Before.Has), (.int .i64 x4.Before.O.Kind), v2, v3, (.bool x4.After.Has), (.int .i64 x4.After.O.Kind), v4, v5, (.int .i64 x4.Next), v6])] := hS
          refine gonE (j := 5) hF rfl rfl hc5 ?_
          refine stp hF (p_move rfl) (by decide) (fun a hF => ?_)
          replace hS := hS.sel (is := [5, 0, 0, 0, 0, 0, 0, 0, 0, 0, 0, 0, 0, 0]) (A' := [Ow (Kd.int .u8) 5 v19 x15, Ow (Kd.int .i64) 3 v8 x3.1.Before.O.Ints, Ow (Kd.int .i64) 3 v9 x3.1.Before.O.Refs, Ow (Kd.int .i64) 3 v10 x3.1.After.O.Ints, Ow (Kd.int .i64) 3 v11 x3.1.After.O.Refs, Ow kTLive 91 v12 x3.1.Txs, pt g3 41 ([(.int .i64 x14.1.Lsn), (.int .i64 x14.1.Tx), (.int .i64 x14.1.Prev), (.int .i64 x14.1.Kind), (.int .i64 x14.1.Oid), (.bool x14.1.Before.Has), (.int .i64 x14.1.Before.O.Kind), v14, v15, (.bool x14.1.After.Has), (.int .i64 x14.1.After.O.Kind), v16, v17, (.int .i64 x14.1.Next), v18]), Ow (Kd.int .i64) 3 v14 x14.1.Before.O.Ints, Ow (Kd.int .i64) 3 v15 x14.1.Before.O.Refs, Ow (Kd.int .i64) 3 v16 x14.1.After.O.Ints, Ow (Kd.int .i64) 3 v17 x14.1.After.O.Refs, Ow kTLive 91 v18 x14.1.Txs, pt g2 41 ([(.int .i64 x3.1.Lsn), (.int .i64 x3.1.Tx), (.int .i64 x3.1.Prev), (.int .i64 x3.1.Kind), (.int .i64 x3.1.Oid), (.bool x3.1.Before.Has), (.int .i64 x3.1.Before.O.Kind), v8, v9, (.bool x3.1.After.Has), (.int .i64 x3.1.After.O.Kind), v10, v11, (.int .i64 x3.1.Next), v12]), pt g1 41 ([(.int .i64 x4.Lsn), (.int .i64 x4.Tx), (.int .i64 x4.Prev), (.int .i64 x4.Kind), (.int .i64 x4.Oid), (.bool x4.Before.Has), (.int .i64 x4.Before.O.Kind), v2, v3, (.bool x4.After.Has), (.int .i64 x4.After.O.Kind), v4, v5, (.int .i64 x4.Next), v6])]) rfl
          obtain ⟨s17, hg13, hl3, hcall3⟩ := St.lend (P := Try.prog) (Bs := [Ow (Kd.int .u8) 5 v19 x15]) (A := []) (B := [Ow (Kd.int .i64) 3 v8 x3.1.Before.O.Ints, Ow (Kd.int .i64) 3 v9 x3.1.Before.O.Refs, Ow (Kd.int .i64) 3 v10 x3.1.After.O.Ints, Ow (Kd.int .i64) 3 v11 x3.1.After.O.Refs, Ow kTLive 91 v12 x3.1.Txs, pt g3 41 ([(.int .i64 x14.1.Lsn), (.int .i64 x14.1.Tx), (.int .i64 x14.1.Prev), (.int .i64 x14.1.Kind), (.int .i64 x14.1.Oid), (.bool x14.1.Before.Has), (.int .i64 x14.1.Before.O.Kind), v14, v15, (.bool x14.1.After.Has), (.int .i64 x14.1.After.O.Kind), v16, v17, (.int .i64 x14.1.Next), v18]), Ow (Kd.int .i64) 3 v14 x14.1.Before.O.Ints, Ow (Kd.int .i64) 3 v15 x14.1.Before.O.Refs, Ow (Kd.int .i64) 3 v16 x14.1.After.O.Ints, Ow (Kd.int .i64) 3 v17 x14.1.After.O.Refs, Ow kTLive 91 v18 x14.1.Txs, pt g2 41 ([(.int .i64 x3.1.Lsn), (.int .i64 x3.1.Tx), (.int .i64 x3.1.Prev), (.int .i64 x3.1.Kind), (.int .i64 x3.1.Oid), (.bool x3.1.Before.Has), (.int .i64 x3.1.Before.O.Kind), v8, v9, (.bool x3.1.After.Has), (.int .i64 x3.1.After.O.Kind), v10, v11, (.int .i64 x3.1.Next), v12]), pt g1 41 ([(.int .i64 x4.Lsn), (.int .i64 x4.Tx), (.int .i64 x4.Prev), (.int .i64 x4.Kind), (.int .i64 x4.Oid), (.bool x4.Before.Has), (.int .i64 x4.Before.O.Kind), v2, v3, (.bool x4.After.Has), (.int .i64 x4.After.O.Kind), v4, v5, (.int .i64 x4.Next), v6])]) hS
          obtain ⟨h15, hl3⟩ := hl3.ow hg13
          obtain ⟨x16, hx9, H⟩ := hb H
          refine gonE (j := 5) hF rfl rfl hc5 ?_
          refine ste hF (e_callA (fst := []) (vs := [v19, v7]) (cap := []) rfl rfl go_26 (hcall3 (laws_sameBytes.spec k _ _ x15 x10 v19 v7 h15 (((h8.mono hg10).mono hg12).mono hg13) _ hx9) (by rintro v s1 A1 ⟨rfl, rfl⟩; exact trivial)) rfl) (by decide) (fun v w a hR hF => ?_)
          obtain ⟨s18, s19, A10, hg14, hS, hR⟩ := hR
          obtain ⟨hv9, rfl⟩ := hR; obtain rfl := hv9.symm
          have hS : St e s18 w [Ow (Kd.int .u8) 5 v19 x15, Ow (Kd.int .i64) 3 v8 x3.1.Before.O.Ints, Ow (Kd.int .i64) 3 v9 x3.1.Before.O.Refs, Ow (Kd.int .i64) 3 v10 x3.1.After.O.Ints, Ow (Kd.int .i64) 3 v11 x3.1.After.O.Refs, Ow kTLive 91 v12 x3.1.Txs, pt g3 41 ([(.int .i64 x14.1.Lsn), (.int .i64 x14.1.Tx), (.int .i64 x14.1.Prev), (.int .i64 x14.1.Kind), (.int .i64 x14.1.Oid), (.bool x14.1.Before.Has), (.int .i64 x14.1.Before.O.Kind), v14, v15, (.bool x14.1.After.Has), (.int .i64 x14.1.After.O.Kind), v16, v17, (.int .i64 x14.1.Next), v18]), Ow (Kd.int .i64) 3 v14 x14.1.Before.O.Ints, Ow (Kd.int .i64) 3 v15 x14.1.Before.O.Refs, Ow (Kd.int .i64) 3 v16 x14.1.After.O.Ints, Ow (Kd.int .i64) 3 v17 x14.1.After.O.Refs, Ow kTLive 91 v18 x14.1.Txs, pt g2 41 ([(.int .i64 x3.1.Lsn), (.int .i64 x3.1.Tx), (.int .i64 x3.1.Prev), (.int .i64 x3.1.Kind), (.int .i64 x3.1.Oid), (.bool x3.1.Before.Has), (.int .i64 x3.1.Before.O.Kind), v8, v9, (.bool x3.1.After.Has), (.int .i64 x3.1.After.O.Kind), v10, v11, (.int .i64 x3.1.Next), v12]), pt g1 41 ([(.int .i64 x4.Lsn), (.int .i64 x4.Tx), (.int .i64 x4.Prev), (.int .i64 x4.Kind), (.int .i64 x4.Oid), (.bool x4.Before.Has), (.int .i64 x4.Before.O.Kind), v2, v3, (.bool x4.After.Has), (.int .i64 x4.After.O.Kind), v4, v5, (.int .i64 x4.Next), v6])] := hS
          refine stp hF (p_pickT rfl hc5 rfl) (by decide) (fun a hF => ?_)
          refine nilN ?_
          refine xn ?_
          obtain rfl := hsm H
          replace hS := hS.sel (is := [6, 6, 6, 6, 6, 6, 6, 1, 1, 1, 1, 1, 1]) (A' := [pt g3 41 ([(.int .i64 x14.1.Lsn), (.int .i64 x14.1.Tx), (.int .i64 x14.1.Prev), (.int .i64 x14.1.Kind), (.int .i64 x14.1.Oid), (.bool x14.1.Before.Has), (.int .i64 x14.1.Before.O.Kind), v14, v15, (.bool x14.1.After.Has), (.int .i64 x14.1.After.O.Kind), v16, v17, (.int .i64 x14.1.Next), v18]), Ow (Kd.int .i64) 3 v14 x14.1.Before.O.Ints, Ow (Kd.int .i64) 3 v15 x14.1.Before.O.Refs, Ow (Kd.int .i64) 3 v16 x14.1.After.O.Ints, Ow (Kd.int .i64) 3 v17 x14.1.After.O.Refs, Ow kTLive 91 v18 x14.1.Txs, pt g2 41 ([(.int .i64 x3.1.Lsn), (.int .i64 x3.1.Tx), (.int .i64 x3.1.Prev), (.int .i64 x3.1.Kind), (.int .i64 x3.1.Oid), (.bool x3.1.Before.Has), (.int .i64 x3.1.Before.O.Kind), v8, v9, (.bool x3.1.After.Has), (.int .i64 x3.1.After.O.Kind), v10, v11, (.int .i64 x3.1.Next), v12]), Ow (Kd.int .i64) 3 v8 x3.1.Before.O.Ints, Ow (Kd.int .i64) 3 v9 x3.1.Before.O.Refs, Ow (Kd.int .i64) 3 v10 x3.1.After.O.Ints, Ow (Kd.int .i64) 3 v11 x3.1.After.O.Refs, Ow kTLive 91 v12 x3.1.Txs, pt g1 41 ([(.int .i64 x4.Lsn), (.int .i64 x4.Tx), (.int .i64 x4.Prev), (.int .i64 x4.Kind), (.int .i64 x4.Oid), (.bool x4.Before.Has), (.int .i64 x4.Before.O.Kind), v2, v3, (.bool x4.After.Has), (.int .i64 x4.After.O.Kind), v4, v5, (.int .i64 x4.Next), v6])]) rfl
          exact ⟨x16, s18, hS, hF.cut ⟨rfl, rfl, rfl, trivial⟩, (hg12.trans hg14), HK2⟩
        · replace H := hbf hc5 H
          refine gofD (j := 5) hF rfl rfl (by rw [hc5]; decide) (by decide) (fun a hF => ?_)
          refine gofD (j := 5) hF rfl rfl (by rw [hc5]; decide) (by decide) (fun a hF => ?_)
          refine gofD (j := 5) hF rfl rfl (by rw [hc5]; decide) (by decide) (fun a hF => ?_)
          refine gofD (j := 5) hF rfl rfl (by rw [hc5]; decide) (by decide) (fun a hF => ?_)
          refine stp hF (p_pickF rfl hc5 rfl) (by decide) (fun a hF => ?_)
          refine nilN ?_
          refine xn ?_
          obtain rfl := hsm H
          exact ⟨false, s12, hS, hF.cut ⟨rfl, rfl, rfl, trivial⟩, (Sub.refl _), HK2⟩
      · clear H HK2 hS hF
        rintro a w ⟨x5, s13, hS, hF, hg15, H⟩
        unfold laws_FnRecords.c3 at H
        refine stp hF (p_move rfl) (by decide) (fun a hF => ?_)
        refine cutj 6 (fun a w => St e s13 w [pt g3 41 ([(.int .i64 x14.1.Lsn), (.int .i64 x14.1.Tx), (.int .i64 x14.1.Prev), (.int .i64 x14.1.Kind), (.int .i64 x14.1.Oid), (.bool x14.1.Before.Has), (.int .i64 x14.1.Before.O.Kind), v14, v15, (.bool x14.1.After.Has), (.int .i64 x14.1.After.O.Kind), v16, v17, (.int .i64 x14.1.Next), v18]), Ow (Kd.int .i64) 3 v14 x14.1.Before.O.Ints, Ow (Kd.int .i64) 3 v15 x14.1.Before.O.Refs, Ow (Kd.int .i64) 3 v16 x14.1.After.O.Ints, Ow (Kd.int .i64) 3 v17 x14.1.After.O.Refs, Ow kTLive 91 v18 x14.1.Txs, pt g2 41 ([(.int .i64 x3.1.Lsn), (.int .i64 x3.1.Tx), (.int .i64 x3.1.Prev), (.int .i64 x3.1.Kind), (.int .i64 x3.1.Oid), (.bool x3.1.Before.Has), (.int .i64 x3.1.Before.O.Kind), v8, v9, (.bool x3.1.After.Has), (.int .i64 x3.1.After.O.Kind), v10, v11, (.int .i64 x3.1.Next), v12]), Ow (Kd.int .i64) 3 v8 x3.1.Before.O.Ints, Ow (Kd.int .i64) 3 v9 x3.1.Before.O.Refs, Ow (Kd.int .i64) 3 v10 x3.1.After.O.Ints, Ow (Kd.int .i64) 3 v11 x3.1.After.O.Refs, Ow kTLive 91 v12 x3.1.Txs, pt g1 41 ([(.int .i64 x4.Lsn), (.int .i64 x4.Tx), (.int .i64 x4.Prev), (.int .i64 x4.Kind), (.int .i64 x4.Oid), (.bool x4.Before.Has), (.int .i64 x4.Before.O.Kind), v2, v3, (.bool x4.After.Has), (.int .i64 x4.After.O.Kind), v4, v5, (.int .i64 x4.Next), v6])] ∧ Fr 85 a [(3, (.pointer (some ⟨g1, 0, none⟩))), (5, (.pointer (some ⟨g2, 0, none⟩))), (57, (.bool (x5 && (decide (x3.1.Lsn = x4.Lsn)))))]) rfl rfl ?_ ?_
        · rcases Bool.eq_false_or_eq_true (x5) with hc6 | hc6
          · skip
            refine gonE (j := 11) hF rfl rfl hc6 ?_
            refine stp hF (p_fldb (o' := 0) rfl fi_41_0 rfl) (by decide) (fun a hF => ?_)
            refine gonE (j := 11) hF rfl rfl hc6 ?_
            refine stp hF (p_ldb_one (i := 6) hS rfl rfl ia_3 rfl) (by decide) (fun a hF => ?_)
            refine gonE (j := 11) hF rfl rfl hc6 ?_
            refine stp hF (p_fldb (o' := 0) rfl fi_41_0 rfl) (by decide) (fun a hF => ?_)
            refine gonE (j := 11) hF rfl rfl hc6 ?_
            refine stp hF (p_ldb_one (i := 12) hS rfl rfl ia_3 rfl) (by decide) (fun a hF => ?_)
            refine gonE (j := 11) hF rfl rfl hc6 ?_
            refine stp hF (p_eql rfl rfl) (by decide) (fun a hF => ?_)
            refine stp hF (p_andT rfl hc6 rfl) (by decide) (fun a hF => ?_)
            refine nilN ?_
            refine xn ?_
            exact ⟨hS, hF.cut ⟨rfl, rfl, rfl, trivial⟩⟩
          · skip
            refine gofD (j := 11) hF rfl rfl (by rw [hc6]; decide) (by decide) (fun a hF => ?_)
            refine gofD (j := 11) hF rfl rfl (by rw [hc6]; decide) (by decide) (fun a hF => ?_)
            refine gofD (j := 11) hF rfl rfl (by rw [hc6]; decide) (by decide) (fun a hF => ?_)
            refine gofD (j := 11) hF rfl rfl (by rw [hc6]; decide) (by decide) (fun a hF => ?_)
            refine gofD (j := 11) hF rfl rfl (by rw [hc6]; decide) (by decide) (fun a hF => ?_)
            refine stp hF (p_andF (decide (x3.1.Lsn = x4.Lsn)) rfl hc6 rfl) (by decide) (fun a hF => ?_)
            refine nilN ?_
            refine xn ?_
            exact ⟨hS, hF.cut ⟨rfl, rfl, rfl, trivial⟩⟩
        clear hS hF
        rintro a w ⟨hS, hF⟩
        refine stp hF (p_move rfl) (by decide) (fun a hF => ?_)
        refine cutj 6 (fun a w => St e s13 w [pt g3 41 ([(.int .i64 x14.1.Lsn), (.int .i64 x14.1.Tx), (.int .i64 x14.1.Prev), (.int .i64 x14.1.Kind), (.int .i64 x14.1.Oid), (.bool x14.1.Before.Has), (.int .i64 x14.1.Before.O.Kind), v14, v15, (.bool x14.1.After.Has), (.int .i64 x14.1.After.O.Kind), v16, v17, (.int .i64 x14.1.Next), v18]), Ow (Kd.int .i64) 3 v14 x14.1.Before.O.Ints, Ow (Kd.int .i64) 3 v15 x14.1.Before.O.Refs, Ow (Kd.int .i64) 3 v16 x14.1.After.O.Ints, Ow (Kd.int .i64) 3 v17 x14.1.After.O.Refs, Ow kTLive 91 v18 x14.1.Txs, pt g2 41 ([(.int .i64 x3.1.Lsn), (.int .i64 x3.1.Tx), (.int .i64 x3.1.Prev), (.int .i64 x3.1.Kind), (.int .i64 x3.1.Oid), (.bool x3.1.Before.Has), (.int .i64 x3.1.Before.O.Kind), v8, v9, (.bool x3.1.After.Has), (.int .i64 x3.1.After.O.Kind), v10, v11, (.int .i64 x3.1.Next), v12]), Ow (Kd.int .i64) 3 v8 x3.1.Before.O.Ints, Ow (Kd.int .i64) 3 v9 x3.1.Before.O.Refs, Ow (Kd.int .i64) 3 v10 x3.1.After.O.Ints, Ow (Kd.int .i64) 3 v11 x3.1.After.O.Refs, Ow kTLive 91 v12 x3.1.Txs, pt g1 41 ([(.int .i64 x4.Lsn), (.int .i64 x4.Tx), (.int .i64 x4.Prev), (.int .i64 x4.Kind), (.int .i64 x4.Oid), (.bool x4.Before.Has), (.int .i64 x4.Before.O.Kind), v2, v3, (.bool x4.After.Has), (.int .i64 x4.After.O.Kind), v4, v5, (.int .i64 x4.Next), v6])] ∧ Fr 85 a [(3, (.pointer (some ⟨g1, 0, none⟩))), (5, (.pointer (some ⟨g2, 0, none⟩))), (64, (.bool ((x5 && (decide (x3.1.Lsn = x4.Lsn))) && (decide (x3.1.Kind = x4.Kind)))))]) rfl rfl ?_ ?_
        · rcases Bool.eq_false_or_eq_true ((x5 && (decide (x3.1.Lsn = x4.Lsn)))) with hc7 | hc7
          · skip
            refine gonE (j := 18) hF rfl rfl hc7 ?_
            refine stp hF (p_fldb (o' := 3) rfl fi_41_3 rfl) (by decide) (fun a hF => ?_)
            refine gonE (j := 18) hF rfl rfl hc7 ?_
            refine stp hF (p_ldb_one (i := 6) hS rfl rfl ia_3 rfl) (by decide) (fun a hF => ?_)
            refine gonE (j := 18) hF rfl rfl hc7 ?_
            refine stp hF (p_fldb (o' := 3) rfl fi_41_3 rfl) (by decide) (fun a hF => ?_)
            refine gonE (j := 18) hF rfl rfl hc7 ?_
            refine stp hF (p_ldb_one (i := 12) hS rfl rfl ia_3 rfl) (by decide) (fun a hF => ?_)
            refine gonE (j := 18) hF rfl rfl hc7 ?_
            refine stp hF (p_eql rfl rfl) (by decide) (fun a hF => ?_)
            refine stp hF (p_andT rfl hc7 rfl) (by decide) (fun a hF => ?_)
            refine nilN ?_
            refine xn ?_
            exact ⟨hS, hF.cut ⟨rfl, rfl, rfl, trivial⟩⟩
          · skip
            refine gofD (j := 18) hF rfl rfl (by rw [hc7]; decide) (by decide) (fun a hF => ?_)
            refine gofD (j := 18) hF rfl rfl (by rw [hc7]; decide) (by decide) (fun a hF => ?_)
            refine gofD (j := 18) hF rfl rfl (by rw [hc7]; decide) (by decide) (fun a hF => ?_)
            refine gofD (j := 18) hF rfl rfl (by rw [hc7]; decide) (by decide) (fun a hF => ?_)
            refine gofD (j := 18) hF rfl rfl (by rw [hc7]; decide) (by decide) (fun a hF => ?_)
            refine stp hF (p_andF (decide (x3.1.Kind = x4.Kind)) rfl hc7 rfl) (by decide) (fun a hF => ?_)
            refine nilN ?_
            refine xn ?_
            exact ⟨hS, hF.cut ⟨rfl, rfl, rfl, trivial⟩⟩
        clear hS hF
        rintro a w ⟨hS, hF⟩
        refine stp hF (p_move rfl) (by decide) (fun a hF => ?_)
        refine cutj 6 (fun a w => St e s13 w [pt g3 41 ([(.int .i64 x14.1.Lsn), (.int .i64 x14.1.Tx), (.int .i64 x14.1.Prev), (.int .i64 x14.1.Kind), (.int .i64 x14.1.Oid), (.bool x14.1.Before.Has), (.int .i64 x14.1.Before.O.Kind), v14, v15, (.bool x14.1.After.Has), (.int .i64 x14.1.After.O.Kind), v16, v17, (.int .i64 x14.1.Next), v18]), Ow (Kd.int .i64) 3 v14 x14.1.Before.O.Ints, Ow (Kd.int .i64) 3 v15 x14.1.Before.O.Refs, Ow (Kd.int .i64) 3 v16 x14.1.After.O.Ints, Ow (Kd.int .i64) 3 v17 x14.1.After.O.Refs, Ow kTLive 91 v18 x14.1.Txs, pt g2 41 ([(.int .i64 x3.1.Lsn), (.int .i64 x3.1.Tx), (.int .i64 x3.1.Prev), (.int .i64 x3.1.Kind), (.int .i64 x3.1.Oid), (.bool x3.1.Before.Has), (.int .i64 x3.1.Before.O.Kind), v8, v9, (.bool x3.1.After.Has), (.int .i64 x3.1.After.O.Kind), v10, v11, (.int .i64 x3.1.Next), v12]), Ow (Kd.int .i64) 3 v8 x3.1.Before.O.Ints, Ow (Kd.int .i64) 3 v9 x3.1.Before.O.Refs, Ow (Kd.int .i64) 3 v10 x3.1.After.O.Ints, Ow (Kd.int .i64) 3 v11 x3.1.After.O.Refs, Ow kTLive 91 v12 x3.1.Txs, pt g1 41 ([(.int .i64 x4.Lsn), (.int .i64 x4.Tx), (.int .i64 x4.Prev), (.int .i64 x4.Kind), (.int .i64 x4.Oid), (.bool x4.Before.Has), (.int .i64 x4.Before.O.Kind), v2, v3, (.bool x4.After.Has), (.int .i64 x4.After.O.Kind), v4, v5, (.int .i64 x4.Next), v6])] ∧ Fr 85 a [(3, (.pointer (some ⟨g1, 0, none⟩))), (5, (.pointer (some ⟨g2, 0, none⟩))), (71, (.bool (((x5 && (decide (x3.1.Lsn = x4.Lsn))) && (decide (x3.1.Kind = x4.Kind))) && (decide (x3.1.Tx = x4.Tx)))))]) rfl rfl ?_ ?_
        · rcases Bool.eq_false_or_eq_true (((x5 && (decide (x3.1.Lsn = x4.Lsn))) && (decide (x3.1.Kind = x4.Kind)))) with hc8 | hc8
          · skip
            refine gonE (j := 25) hF rfl rfl hc8 ?_
            refine stp hF (p_fldb (o' := 1) rfl fi_41_1 rfl) (by decide) (fun a hF => ?_)
            refine gonE (j := 25) hF rfl rfl hc8 ?_
            refine stp hF (p_ldb_one (i := 6) hS rfl rfl ia_3 rfl) (by decide) (fun a hF => ?_)
            refine gonE (j := 25) hF rfl rfl hc8 ?_
            refine stp hF (p_fldb (o' := 1) rfl fi_41_1 rfl) (by decide) (fun a hF => ?_)
            refine gonE (j := 25) hF rfl rfl hc8 ?_
            refine stp hF (p_ldb_one (i := 12) hS rfl rfl ia_3 rfl) (by decide) (fun a hF => ?_)
            refine gonE (j := 25) hF rfl rfl hc8 ?_
            refine stp hF (p_eql rfl rfl) (by decide) (fun a hF => ?_)
            refine stp hF (p_andT rfl hc8 rfl) (by decide) (fun a hF => ?_)
            refine nilN ?_
            refine xn ?_
            exact ⟨hS, hF.cut ⟨rfl, rfl, rfl, trivial⟩⟩
          · skip
            refine gofD (j := 25) hF rfl rfl (by rw [hc8]; decide) (by decide) (fun a hF => ?_)
            refine gofD (j := 25) hF rfl rfl (by rw [hc8]; decide) (by decide) (fun a hF => ?_)
            refine gofD (j := 25) hF rfl rfl (by rw [hc8]; decide) (by decide) (fun a hF => ?_)
            refine gofD (j := 25) hF rfl rfl (by rw [hc8]; decide) (by decide) (fun a hF => ?_)
            refine gofD (j := 25) hF rfl rfl (by rw [hc8]; decide) (by decide) (fun a hF => ?_)
            refine stp hF (p_andF (decide (x3.1.Tx = x4.Tx)) rfl hc8 rfl) (by decide) (fun a hF => ?_)
            refine nilN ?_
            refine xn ?_
            exact ⟨hS, hF.cut ⟨rfl, rfl, rfl, trivial⟩⟩
        clear hS hF
        rintro a w ⟨hS, hF⟩
        refine stp hF (p_move rfl) (by decide) (fun a hF => ?_)
        refine cutj 8 (fun a w => St e s13 w [pt g3 41 ([(.int .i64 x14.1.Lsn), (.int .i64 x14.1.Tx), (.int .i64 x14.1.Prev), (.int .i64 x14.1.Kind), (.int .i64 x14.1.Oid), (.bool x14.1.Before.Has), (.int .i64 x14.1.Before.O.Kind), v14, v15, (.bool x14.1.After.Has), (.int .i64 x14.1.After.O.Kind), v16, v17, (.int .i64 x14.1.Next), v18]), Ow (Kd.int .i64) 3 v14 x14.1.Before.O.Ints, Ow (Kd.int .i64) 3 v15 x14.1.Before.O.Refs, Ow (Kd.int .i64) 3 v16 x14.1.After.O.Ints, Ow (Kd.int .i64) 3 v17 x14.1.After.O.Refs, Ow kTLive 91 v18 x14.1.Txs, pt g2 41 ([(.int .i64 x3.1.Lsn), (.int .i64 x3.1.Tx), (.int .i64 x3.1.Prev), (.int .i64 x3.1.Kind), (.int .i64 x3.1.Oid), (.bool x3.1.Before.Has), (.int .i64 x3.1.Before.O.Kind), v8, v9, (.bool x3.1.After.Has), (.int .i64 x3.1.After.O.Kind), v10, v11, (.int .i64 x3.1.Next), v12]), Ow (Kd.int .i64) 3 v8 x3.1.Before.O.Ints, Ow (Kd.int .i64) 3 v9 x3.1.Before.O.Refs, Ow (Kd.int .i64) 3 v10 x3.1.After.O.Ints, Ow (Kd.int .i64) 3 v11 x3.1.After.O.Refs, Ow kTLive 91 v12 x3.1.Txs, pt g1 41 ([(.int .i64 x4.Lsn), (.int .i64 x4.Tx), (.int .i64 x4.Prev), (.int .i64 x4.Kind), (.int .i64 x4.Oid), (.bool x4.Before.Has), (.int .i64 x4.Before.O.Kind), v2, v3, (.bool x4.After.Has), (.int .i64 x4.After.O.Kind), v4, v5, (.int .i64 x4.Next), v6])] ∧ Fr 85 a [(3, (.pointer (some ⟨g1, 0, none⟩))), (80, (.bool ((((x5 && (decide (x3.1.Lsn = x4.Lsn))) && (decide (x3.1.Kind = x4.Kind))) && (decide (x3.1.Tx = x4.Tx))) && (decide ((x3.1.Txs.length : Int) = (x4.Txs.length : Int))))))]) rfl rfl ?_ ?_
        · rcases Bool.eq_false_or_eq_true ((((x5 && (decide (x3.1.Lsn = x4.Lsn))) && (decide (x3.1.Kind = x4.Kind))) && (decide (x3.1.Tx = x4.Tx)))) with hc9 | hc9
          · skip
            refine gonE (j := 32) hF rfl rfl hc9 ?_
            refine stp hF (p_fldb (o' := 14) rfl fi_41_8 rfl) (by decide) (fun a hF => ?_)
            refine gonE (j := 32) hF rfl rfl hc9 ?_
            refine stp hF (p_ldb_one (i := 6) hS rfl rfl ia_39 rfl) (by decide) (fun a hF => ?_)
            refine gonE (j := 32) hF rfl rfl hc9 ?_
            refine stp hF (p_leno (i := 11) hS rfl un_39 rfl) (by decide) (fun a hF => ?_)
            refine gonE (j := 32) hF rfl rfl hc9 ?_
            refine stp hF (p_fldb (o' := 14) rfl fi_41_8 rfl) (by decide) (fun a hF => ?_)
            refine gonE (j := 32) hF rfl rfl hc9 ?_
            refine stp hF (p_ldb_one (i := 12) hS rfl rfl ia_39 rfl) (by decide) (fun a hF => ?_)
            refine gonE (j := 32) hF rfl rfl hc9 ?_
            refine stp hF (p_lenr un_39 rfl ((((((h6.mono hg3).mono hg4).mono hg8).mono hg9).mono hg10).mono hg15)) (by decide) (fun a hF => ?_)
            refine gonE (j := 32) hF rfl rfl hc9 ?_
            refine stp hF (p_eql rfl rfl) (by decide) (fun a hF => ?_)
            refine stp hF (p_andT rfl hc9 rfl) (by decide) (fun a hF => ?_)
            refine nilN ?_
            refine xn ?_
            exact ⟨hS, hF.cut ⟨rfl, rfl, trivial⟩⟩
          · skip
            refine gofD (j := 32) hF rfl rfl (by rw [hc9]; decide) (by decide) (fun a hF => ?_)
            refine gofD (j := 32) hF rfl rfl (by rw [hc9]; decide) (by decide) (fun a hF => ?_)
            refine gofD (j := 32) hF rfl rfl (by rw [hc9]; decide) (by decide) (fun a hF => ?_)
            refine gofD (j := 32) hF rfl rfl (by rw [hc9]; decide) (by decide) (fun a hF => ?_)
            refine gofD (j := 32) hF rfl rfl (by rw [hc9]; decide) (by decide) (fun a hF => ?_)
            refine gofD (j := 32) hF rfl rfl (by rw [hc9]; decide) (by decide) (fun a hF => ?_)
            refine gofD (j := 32) hF rfl rfl (by rw [hc9]; decide) (by decide) (fun a hF => ?_)
            refine stp hF (p_andF (decide ((x3.1.Txs.length : Int) = (x4.Txs.length : Int))) rfl hc9 rfl) (by decide) (fun a hF => ?_)
            refine nilN ?_
            refine xn ?_
            exact ⟨hS, hF.cut ⟨rfl, rfl, trivial⟩⟩
        clear hS hF
        rintro a w ⟨hS, hF⟩
        refine stp hF (p_move rfl) (by decide) (fun a hF => ?_)
        obtain ⟨x7, H, HK3⟩ := hb H
        refine cutj 3 (fun a w => ∃ (x2 : Bool) (s20 : HF) , St e s20 w [pt g3 41 ([(.int .i64 x14.1.Lsn), (.int .i64 x14.1.Tx), (.int .i64 x14.1.Prev), (.int .i64 x14.1.Kind), (.int .i64 x14.1.Oid), (.bool x14.1.Before.Has), (.int .i64 x14.1.Before.O.Kind), v14, v15, (.bool x14.1.After.Has), (.int .i64 x14.1.After.O.Kind), v16, v17, (.int .i64 x14.1.Next), v18]), Ow (Kd.int .i64) 3 v14 x14.1.Before.O.Ints, Ow (Kd.int .i64) 3 v15 x14.1.Before.O.Refs, Ow (Kd.int .i64) 3 v16 x14.1.After.O.Ints, Ow (Kd.int .i64) 3 v17 x14.1.After.O.Refs, Ow kTLive 91 v18 x14.1.Txs, pt g2 41 ([(.int .i64 x3.1.Lsn), (.int .i64 x3.1.Tx), (.int .i64 x3.1.Prev), (.int .i64 x3.1.Kind), (.int .i64 x3.1.Oid), (.bool x3.1.Before.Has), (.int .i64 x3.1.Before.O.Kind), v8, v9, (.bool x3.1.After.Has), (.int .i64 x3.1.After.O.Kind), v10, v11, (.int .i64 x3.1.Next), v12]), Ow (Kd.int .i64) 3 v8 x3.1.Before.O.Ints, Ow (Kd.int .i64) 3 v9 x3.1.Before.O.Refs, Ow (Kd.int .i64) 3 v10 x3.1.After.O.Ints, Ow (Kd.int .i64) 3 v11 x3.1.After.O.Refs, Ow kTLive 91 v12 x3.1.Txs, pt g1 41 ([(.int .i64 x4.Lsn), (.int .i64 x4.Tx), (.int .i64 x4.Prev), (.int .i64 x4.Kind), (.int .i64 x4.Oid), (.bool x4.Before.Has), (.int .i64 x4.Before.O.Kind), v2, v3, (.bool x4.After.Has), (.int .i64 x4.After.O.Kind), v4, v5, (.int .i64 x4.Next), v6])] ∧ Fr 85 a [(84, (.bool x2))] ∧ Sub s13 s20 ∧ laws_FnRecords.c2 k x2 = some r) rfl rfl ?_ ?_
        · rcases Bool.eq_false_or_eq_true (((((x5 && (decide (x3.1.Lsn = x4.Lsn))) && (decide (x3.1.Kind = x4.Kind))) && (decide (x3.1.Tx = x4.Tx))) && (decide ((x3.1.Txs.length : Int) = (x4.Txs.length : Int))))) with hc10 | hc10
          · replace H := hbt hc10 H
            refine gonE (j := 41) hF rfl rfl hc10 ?_
            refine stp hF (p_ldb_agg (i := 12) (l := []) (m := [(.int .i64 x4.Lsn), (.int .i64 x4.Tx), (.int .i64 x4.Prev), (.int .i64 x4.Kind), (.int .i64 x4.Oid), (.bool x4.Before.Has), (.int .i64 x4.Before.O.Kind), v2, v3, (.bool x4.After.Has), (.int .i64 x4.After.O.Kind), v4, v5, (.int .i64 x4.Next), v6]) (r := []) hS rfl rfl ia_41 ti_41 rfl rfl rfl) (by decide) (fun a hF => ?_)
            obtain ⟨x6, hx10, H⟩ := hb H
            refine gonE (j := 41) hF rfl rfl hc10 ?_
            refine ste hF (e_callA (fst := []) (vs := [(.agg #[(.int .i64 x4.Lsn), (.int .i64 x4.Tx), (.int .i64 x4.Prev), (.int .i64 x4.Kind), (.int .i64 x4.Oid), (.bool x4.Before.Has), (.int .i64 x4.Before.O.Kind), v2, v3, (.bool x4.After.Has), (.int .i64 x4.After.O.Kind), v4, v5, (.int .i64 x4.Next), v6])]) (cap := []) rfl rfl go_24 (St.call (A := []) (B := [pt g3 41 ([(.int .i64 x14.1.Lsn), (.int .i64 x14.1.Tx), (.int .i64 x14.1.Prev), (.int .i64 x14.1.Kind), (.int .i64 x14.1.Oid), (.bool x14.1.Before.Has), (.int .i64 x14.1.Before.O.Kind), v14, v15, (.bool x14.1.After.Has), (.int .i64 x14.1.After.O.Kind), v16, v17, (.int .i64 x14.1.Next), v18]), Ow (Kd.int .i64) 3 v14 x14.1.Before.O.Ints, Ow (Kd.int .i64) 3 v15 x14.1.Before.O.Refs, Ow (Kd.int .i64) 3 v16 x14.1.After.O.Ints, Ow (Kd.int .i64) 3 v17 x14.1.After.O.Refs, Ow kTLive 91 v18 x14.1.Txs, pt g2 41 ([(.int .i64 x3.1.Lsn), (.int .i64 x3.1.Tx), (.int .i64 x3.1.Prev), (.int .i64 x3.1.Kind), (.int .i64 x3.1.Oid), (.bool x3.1.Before.Has), (.int .i64 x3.1.Before.O.Kind), v8, v9, (.bool x3.1.After.Has), (.int .i64 x3.1.After.O.Kind), v10, v11, (.int .i64 x3.1.Next), v12]), Ow (Kd.int .i64) 3 v8 x3.1.Before.O.Ints, Ow (Kd.int .i64) 3 v9 x3.1.Before.O.Refs, Ow (Kd.int .i64) 3 v10 x3.1.After.O.Ints, Ow (Kd.int .i64) 3 v11 x3.1.After.O.Refs, Ow kTLive 91 v12 x3.1.Txs, pt g1 41 ([(.int .i64 x4.Lsn), (.int .i64 x4.Tx), (.int .i64 x4.Prev), (.int .i64 x4.Kind), (.int .i64 x4.Oid), (.bool x4.Before.Has), (.int .i64 x4.Before.O.Kind), v2, v3, (.bool x4.After.Has), (.int .i64 x4.After.O.Kind), v4, v5, (.int .i64 x4.Next), v6])]) hS (impl_RecOk.spec k _ _ x4 v2 v3 v4 v5 v6 ((((((h2.mono hg3).mono hg4).mono hg8).mono hg9).mono hg10).mono hg15) ((((((h3.mono hg3).mono hg4).mono hg8).mono hg9).mono hg10).mono hg15) ((((((h4.mono hg3).mono hg4).mono hg8).mono hg9).mono hg10).mono hg15) ((((((h5.mono hg3).mono hg4).mono hg8).mono hg9).mono hg10).mono hg15) ((((((h6.mono hg3).mono hg4).mono hg8).mono hg9).mono hg10).mono hg15) _ hx10)) rfl) (by decide) (fun v w a hR hF => ?_)
            obtain ⟨s21, A11, hg16, hS, hR⟩ := hR
            obtain ⟨hv10, rfl⟩ := hR; obtain rfl := hv10.symm
            have hS : St e s21 w [pt g3 41 ([(.int .i64 x14.1.Lsn), (.int .i64 x14.1.Tx), (.int .i64 x14.1.Prev), (.int .i64 x14.1.Kind), (.int .i64 x14.1.Oid), (.bool x14.1.Before.Has), (.int .i64 x14.1.Before.O.Kind), v14, v15, (.bool x14.1.After.Has), (.int .i64 x14.1.After.O.Kind), v16, v17, (.int .i64 x14.1.Next), v18]), Ow (Kd.int .i64) 3 v14 x14.1.Before.O.Ints, Ow (Kd.int .i64) 3 v15 x14.1.Before.O.Refs, Ow (Kd.int .i64) 3 v16 x14.1.After.O.Ints, Ow (Kd.int .i64) 3 v17 x14.1.After.O.Refs, Ow kTLive 91 v18 x14.1.Txs, pt g2 41 ([(.int .i64 x3.1.Lsn), (.int .i64 x3.1.Tx), (.int .i64 x3.1.Prev), (.int .i64 x3.1.Kind), (.int .i64 x3.1.Oid), (.bool x3.1.Before.Has), (.int .i64 x3.1.Before.O.Kind), v8, v9, (.bool x3.1.After.Has), (.int .i64 x3.1.After.O.Kind), v10, v11, (.int .i64 x3.1.Next), v12]), Ow (Kd.int .i64) 3 v8 x3.1.Before.O.Ints, Ow (Kd.int .i64) 3 v9 x3.1.Before.O.Refs, Ow (Kd.int .i64) 3 v10 x3.1.After.O.Ints, Ow (Kd.int .i64) 3 v11 x3.1.After.O.Refs, Ow kTLive 91 v12 x3.1.Txs, pt g1 41 ([(.int .i64 x4.Lsn), (.int .i64 x4.Tx), (.int .i64 x4.Prev), (.int .i64 x4.Kind), (.int .i64 x4.Oid), (.bool x4.Before.Has), (.int .i64 x4.Before.O.Kind), v2, v3, (.bool x4.After.Has), (.int .i64 x4.After.O.Kind), v4, v5, (.int .i64 x4.Next), v6])] := hS
            refine stp hF (p_pickT rfl hc10 rfl) (by decide) (fun a hF => ?_)
            refine nilN ?_
            refine xn ?_
            obtain rfl := hsm H
            exact ⟨x6, s21, hS, hF.cut ⟨rfl, trivial⟩, hg16, HK3⟩
          · replace H := hbf hc10 H
            refine gofD (j := 41) hF rfl rfl (by rw [hc10]; decide) (by decide) (fun a hF => ?_)
            refine gofD (j := 41) hF rfl rfl (by rw [hc10]; decide) (by decide) (fun a hF => ?_)
            refine stp hF (p_pickF rfl hc10 rfl) (by decide) (fun a hF => ?_)
            refine nilN ?_
            refine xn ?_
            obtain rfl := hsm H
            exact ⟨false, s13, hS, hF.cut ⟨rfl, trivial⟩, (Sub.refl _), HK3⟩
        · clear H HK3 hS hF
          rintro a w ⟨x2, s20, hS, hF, hg17, H⟩
          unfold laws_FnRecords.c2 at H
          refine stp hF (p_assign rfl) (by decide) (fun a hF => ?_)
          refine nilN ?_
          refine xn ?_
          refine rt ?_
          obtain rfl := hsm H
          replace hS := hS.sel (is := []) (A' := []) rfl
          exact ret1 hF rfl rfl hS ⟨rfl, rfl⟩

def spec_GetInt.c1 (k : Nat) : Option (Int × Int × Bool) :=
  (some (0, 0, false))
def spec_GetInt.c2 (k : Nat) (x1 : Int) (x2 : Int) (x3 : Int) (x4 : Bool) : Option (Ex (Int × Int × Bool) Unit) :=
  (if x4 = true then (some (Ex.ret (0, 0, false))) else (some (Ex.ret (x1, w64 ((w64 (x2 + x3)) + 1), true))))
def spec_GetInt.c3 (k : Nat) (x3 : Int) (x5 : (List Int)) (x2 : Int) (x1 : Int) : Option (Ex (Int × Int × Bool) Unit) :=
  ((if ((decide (0 < x3)) && (decide ((w64 (rd x5 (w64 (x2 + x3)))) = 0))) = true then (some true) else ((spec_l1In.f k x1 (-1000000000000) 1000000000000).bind fun x6 => (some (!x6))) : Option Bool).bind fun x7 => spec_GetInt.c2 k x1 x2 x3 x7)
def spec_GetInt.l1 (x2 : Int) (x5 : (List Int)) : Nat → Int → Int → Option (Ex (Int × Int × Bool) Unit)
  | 0, _, _ => none
  | k + 1, x8, x3 => (if ((((decide (x3 < 6)) && (decide (0 ≤ x2))) && (decide (x2 < (x5.length : Int)))) && (decide ((w64 (x2 + x3)) < (x5.length : Int)))) = true then (if 0 ≤ (w64 (x2 + x3)) ∧ (w64 (x2 + x3)) < (x5.length : Int) then (if 0 ≤ (IntKind.u64.wrap (w64 (7 * x3))) then (if (decide (127 < (w64 (rd x5 (w64 (x2 + x3)))))) = true then ((spec_GetInt.l1 x2 x5 k) (bor .i64 x8 (bshl .i64 (band .i64 (w64 (rd x5 (w64 (x2 + x3)))) 127) (IntKind.u64.wrap (w64 (7 * x3))))) (w64 (x3 + 1))) else (((if (decide ((band .i64 (bor .i64 x8 (bshl .i64 (band .i64 (w64 (rd x5 (w64 (x2 + x3)))) 127) (IntKind.u64.wrap (w64 (7 * x3))))) 1) = 1)) = true then (some (w64 ((w64 (0 - (bshr .i64 (bor .i64 x8 (bshl .i64 (band .i64 (w64 (rd x5 (w64 (x2 + x3)))) 127) (IntKind.u64.wrap (w64 (7 * x3))))) 1))) - 1))) else (some (bshr .i64 (bor .i64 x8 (bshl .i64 (band .i64 (w64 (rd x5 (w64 (x2 + x3)))) 127) (IntKind.u64.wrap (w64 (7 * x3))))) 1))) : Option Int).bind fun x9 => spec_GetInt.c3 k x3 x5 x2 x9)) else none) else none) else (some (Ex.go ())))
def spec_GetInt.f (k : Nat) (x5 : (List Int)) (x2 : Int) : Option (Int × Int × Bool) :=
  (((spec_GetInt.l1 x2 x5 k 0 0) : Option (Ex (Int × Int × Bool) Unit)).bind fun x10 => Ex.on x10 (fun r => some r) (fun y => spec_GetInt.c1 k))
set_option maxRecDepth 100000 in
set_option maxHeartbeats 4000000 in
theorem spec_GetInt.spec (k : Nat) (s0 : HF) (w : World) (x5 : (List Int)) (x2 : Int) (v1 : Value) (h1 : Sl (Kd.int .u8) s0 v1 x5) (r : Int × Int × Bool) (H : spec_GetInt.f k x5 x2 = some r) :
    Law Try.prog 153 #[v1, (.int .i64 x2)] s0 w [] (fun v s1 A1 => v = (.tuple #[(.int .i64 r.1), (.int .i64 r.2.1), (.bool r.2.2)]) ∧ A1 = []) := by
  unfold spec_GetInt.f at H
  refine Law.intro Try.func153 rfl [(0, v1), (1, (.int .i64 x2))] (Nat.le_of_ble_eq_true rfl) (enter_lk ⟨rfl, rfl, trivial⟩) (fun e a hS hF => ?_)
  have hF : Fr 74 a [(0, v1), (1, (.int .i64 x2))] := hF
  refine sq ?_
  refine rg ?_
  refine stp hF (p_assign rfl) (by decide) (fun a hF => ?_)
  refine stp hF (p_assign rfl) (by decide) (fun a hF => ?_)
  refine stp hF (p_assign rfl) (by decide) (fun a hF => ?_)
  refine nilN ?_
  refine xn ?_
  refine sq ?_
  refine rg ?_
  refine stp hF (p_assign rfl) (by decide) (fun a hF => ?_)
  refine nilN ?_
  refine xn ?_
  obtain ⟨x10, H, HK1⟩ := hb H
  refine sqj (fun a w => St e s0 w [] ∧ Fr 74 a [] ∧ spec_GetInt.c1 k = some r) ?_ ?_
  · skip
    refine sq ?_
    refine rg ?_
    refine stp hF (p_assign rfl) (by decide) (fun a hF => ?_)
    refine nilN ?_
    refine xn ?_
    refine blk ?_
    refine loop_ind (fun k1 a w => ∃ (x8 : Int) (x3 : Int) , St e s0 w [] ∧ Fr 74 a [(0, v1), (1, (.int .i64 x2)), (7, (.int .i64 x8)), (8, (.int .i64 x3))] ∧ spec_GetInt.l1 x2 x5 k1 x8 x3 = some x10) k ?_ ?_ ?_
    · skip
      exact ⟨0, 0, hS, hF.cut ⟨rfl, rfl, rfl, rfl, trivial⟩, H⟩
    · clear H hS hF
      rintro a w ⟨x8, x3, hS, hF, H⟩
      exact absurd (show none = some _ from H) (by simp)
    · clear H hS hF
      rintro k1 a w ⟨x8, x3, hS, hF, H⟩
      rw [spec_GetInt.l1.eq_2] at H
      refine sq ?_
      refine sq ?_
      refine rg ?_
      refine stp hF (p_move rfl) (by decide) (fun a hF => ?_)
      refine stp hF (p_lss rfl rfl) (by decide) (fun a hF => ?_)
      refine stp hF (p_move rfl) (by decide) (fun a hF => ?_)
      refine cutj 3 (fun a w => St e s0 w [] ∧ Fr 74 a [(0, v1), (1, (.int .i64 x2)), (7, (.int .i64 x8)), (8, (.int .i64 x3)), (16, (.bool ((decide (x3 < 6)) && (decide (0 ≤ x2)))))]) rfl rfl ?_ ?_
      · rcases Bool.eq_false_or_eq_true (decide (x3 < 6)) with hc1 | hc1
        · skip
          refine gonE (j := 2) hF rfl rfl hc1 ?_
          refine stp hF (p_move rfl) (by decide) (fun a hF => ?_)
          refine gonE (j := 2) hF rfl rfl hc1 ?_
          refine stp hF (p_geq rfl rfl) (by decide) (fun a hF => ?_)
          refine stp hF (p_andT rfl hc1 rfl) (by decide) (fun a hF => ?_)
          refine nilN ?_
          refine xn ?_
          exact ⟨hS, hF.cut ⟨rfl, rfl, rfl, rfl, rfl, trivial⟩⟩
        · skip
          refine gofD (j := 2) hF rfl rfl (by rw [hc1]; decide) (by decide) (fun a hF => ?_)
          refine gofD (j := 2) hF rfl rfl (by rw [hc1]; decide) (by decide) (fun a hF => ?_)
          refine stp hF (p_andF (decide (0 ≤ x2)) rfl hc1 rfl) (by decide) (fun a hF => ?_)
          refine nilN ?_
          refine xn ?_
          exact ⟨hS, hF.cut ⟨rfl, rfl, rfl, rfl, rfl, trivial⟩⟩
      clear hS hF
      rintro a w ⟨hS, hF⟩
      refine stp hF (p_move rfl) (by decide) (fun a hF => ?_)
      refine cutj 5 (fun a w => St e s0 w [] ∧ Fr 74 a [(0, v1), (1, (.int .i64 x2)), (7, (.int .i64 x8)), (8, (.int .i64 x3)), (22, (.bool (((decide (x3 < 6)) && (decide (0 ≤ x2))) && (decide (x2 < (x5.length : Int))))))]) rfl rfl ?_ ?_
      · rcases Bool.eq_false_or_eq_true (((decide (x3 < 6)) && (decide (0 ≤ x2)))) with hc2 | hc2
        · skip
          refine gonE (j := 6) hF rfl rfl hc2 ?_
          refine stp hF (p_move rfl) (by decide) (fun a hF => ?_)
          refine gonE (j := 6) hF rfl rfl hc2 ?_
          refine stp hF (p_move rfl) (by decide) (fun a hF => ?_)
          refine gonE (j := 6) hF rfl rfl hc2 ?_
          refine stp hF (p_lenr un_24 rfl h1) (by decide) (fun a hF => ?_)
          refine gonE (j := 6) hF rfl rfl hc2 ?_
          refine stp hF (p_lss rfl rfl) (by decide) (fun a hF => ?_)
          refine stp hF (p_andT rfl hc2 rfl) (by decide) (fun a hF => ?_)
          refine nilN ?_
          refine xn ?_
          exact ⟨hS, hF.cut ⟨rfl, rfl, rfl, rfl, rfl, trivial⟩⟩
        · skip
          refine gofD (j := 6) hF rfl rfl (by rw [hc2]; decide) (by decide) (fun a hF => ?_)
          refine gofD (j := 6) hF rfl rfl (by rw [hc2]; decide) (by decide) (fun a hF => ?_)
          refine gofD (j := 6) hF rfl rfl (by rw [hc2]; decide) (by decide) (fun a hF => ?_)
          refine gofD (j := 6) hF rfl rfl (by rw [hc2]; decide) (by decide) (fun a hF => ?_)
          refine stp hF (p_andF (decide (x2 < (x5.length : Int))) rfl hc2 rfl) (by decide) (fun a hF => ?_)
          refine nilN ?_
          refine xn ?_
          exact ⟨hS, hF.cut ⟨rfl, rfl, rfl, rfl, rfl, trivial⟩⟩
      clear hS hF
      rintro a w ⟨hS, hF⟩
      refine stp hF (p_move rfl) (by decide) (fun a hF => ?_)
      refine cutj 7 (fun a w => St e s0 w [] ∧ Fr 74 a [(0, v1), (1, (.int .i64 x2)), (7, (.int .i64 x8)), (8, (.int .i64 x3)), (30, (.bool ((((decide (x3 < 6)) && (decide (0 ≤ x2))) && (decide (x2 < (x5.length : Int)))) && (decide ((w64 (x2 + x3)) < (x5.length : Int))))))]) rfl rfl ?_ ?_
      · rcases Bool.eq_false_or_eq_true ((((decide (x3 < 6)) && (decide (0 ≤ x2))) && (decide (x2 < (x5.length : Int))))) with hc3 | hc3
        · skip
          refine gonE (j := 12) hF rfl rfl hc3 ?_
          refine stp hF (p_move rfl) (by decide) (fun a hF => ?_)
          refine gonE (j := 12) hF rfl rfl hc3 ?_
          refine stp hF (p_move rfl) (by decide) (fun a hF => ?_)
          refine gonE (j := 12) hF rfl rfl hc3 ?_
          refine stp hF (p_add (c := w64 (x2 + x3)) rfl rfl rfl) (by decide) (fun a hF => ?_)
          refine gonE (j := 12) hF rfl rfl hc3 ?_
          refine stp hF (p_move rfl) (by decide) (fun a hF => ?_)
          refine gonE (j := 12) hF rfl rfl hc3 ?_
          refine stp hF (p_lenr un_24 rfl h1) (by decide) (fun a hF => ?_)
          refine gonE (j := 12) hF rfl rfl hc3 ?_
          refine stp hF (p_lss rfl rfl) (by decide) (fun a hF => ?_)
          refine stp hF (p_andT rfl hc3 rfl) (by decide) (fun a hF => ?_)
          refine nilN ?_
          refine xn ?_
          exact ⟨hS, hF.cut ⟨rfl, rfl, rfl, rfl, rfl, trivial⟩⟩
        · skip
          refine gofD (j := 12) hF rfl rfl (by rw [hc3]; decide) (by decide) (fun a hF => ?_)
          refine gofD (j := 12) hF rfl rfl (by rw [hc3]; decide) (by decide) (fun a hF => ?_)
          refine gofD (j := 12) hF rfl rfl (by rw [hc3]; decide) (by decide) (fun a hF => ?_)
          refine gofD (j := 12) hF rfl rfl (by rw [hc3]; decide) (by decide) (fun a hF => ?_)
          refine gofD (j := 12) hF rfl rfl (by rw [hc3]; decide) (by decide) (fun a hF => ?_)
          refine gofD (j := 12) hF rfl rfl (by rw [hc3]; decide) (by decide) (fun a hF => ?_)
          refine stp hF (p_andF (decide ((w64 (x2 + x3)) < (x5.length : Int))) rfl hc3 rfl) (by decide) (fun a hF => ?_)
          refine nilN ?_
          refine xn ?_
          exact ⟨hS, hF.cut ⟨rfl, rfl, rfl, rfl, rfl, trivial⟩⟩
      clear hS hF
      rintro a w ⟨hS, hF⟩
      refine nilN ?_
      refine xn ?_
      refine cnd hF rfl (fun hc4 => ?_) (fun hc4 => ?_)
      · replace H := hbt hc4 H
        refine skN ?_
        refine xn ?_
        refine sq ?_
        refine blk ?_
        refine sq ?_
        refine rg ?_
        refine stp hF (p_move rfl) (by decide) (fun a hF => ?_)
        refine stp hF (p_move rfl) (by decide) (fun a hF => ?_)
        refine stp hF (p_move rfl) (by decide) (fun a hF => ?_)
        refine stp hF (p_add (c := w64 (x2 + x3)) rfl rfl rfl) (by decide) (fun a hF => ?_)
        obtain ⟨hq1, H⟩ := hck H
        obtain ⟨ad1, h2, p1⟩ := p_idxr (P := Try.prog) (i := (w64 (x2 + x3))) h1 un_24 ti_5 hq1.1 hq1.2
        refine stp hF (p1 rfl rfl) (by decide) (fun a hF => ?_)
        refine stp hF (p_ldr_int rfl hS h2 ia_5) (by decide) (fun a hF => ?_)
        refine stp hF (p_cvint (c := w64 (rd x5 (w64 (x2 + x3)))) un_5 un_3 rfl rfl) (by decide) (fun a hF => ?_)
        refine stp hF (p_assign rfl) (by decide) (fun a hF => ?_)
        refine nilN ?_
        refine xn ?_
        refine sq ?_
        refine rg ?_
        refine stp hF (p_move rfl) (by decide) (fun a hF => ?_)
        refine stp hF (p_move rfl) (by decide) (fun a hF => ?_)
        refine stp hF (p_and (c := band .i64 (w64 (rd x5 (w64 (x2 + x3)))) 127) rfl rfl rfl) (by decide) (fun a hF => ?_)
        refine stp hF (p_move rfl) (by decide) (fun a hF => ?_)
        refine stp hF (p_mul (c := w64 (7 * x3)) rfl rfl rfl) (by decide) (fun a hF => ?_)
        refine stp hF (p_cvint (c := IntKind.u64.wrap (w64 (7 * x3))) un_3 un_133 rfl rfl) (by decide) (fun a hF => ?_)
        obtain ⟨hq2, H⟩ := hck H
        refine stp hF (p_shl (c := bshl .i64 (band .i64 (w64 (rd x5 (w64 (x2 + x3)))) 127) (IntKind.u64.wrap (w64 (7 * x3)))) rfl rfl (Int.not_lt.mpr hq2) rfl) (by decide) (fun a hF => ?_)
        refine stp hF (p_or (c := bor .i64 x8 (bshl .i64 (band .i64 (w64 (rd x5 (w64 (x2 + x3)))) 127) (IntKind.u64.wrap (w64 (7 * x3))))) rfl rfl rfl) (by decide) (fun a hF => ?_)
        refine stp hF (p_assign rfl) (by decide) (fun a hF => ?_)
        refine nilN ?_
        refine xn ?_
        refine sq ?_
        refine sq ?_
        refine rg ?_
        refine stp hF (p_move rfl) (by decide) (fun a hF => ?_)
        refine stp hF (p_gtr rfl rfl) (by decide) (fun a hF => ?_)
        refine nilN ?_
        refine xn ?_
        refine cnd hF rfl (fun hc5 => ?_) (fun hc5 => ?_)
        · replace H := hbt hc5 H
          refine exi ?_
          refine xe (hit (xn ?_))
          refine rg ?_
          refine stp hF (p_move rfl) (by decide) (fun a hF => ?_)
          refine stp hF (p_add (c := w64 (x3 + 1)) rfl rfl rfl) (by decide) (fun a hF => ?_)
          refine stp hF (p_assign rfl) (by decide) (fun a hF => ?_)
          refine nilN ?_
          refine xn ?_
          exact ⟨(bor .i64 x8 (bshl .i64 (band .i64 (w64 (rd x5 (w64 (x2 + x3)))) 127) (IntKind.u64.wrap (w64 (7 * x3))))), (w64 (x3 + 1)), hS, hF.cut ⟨rfl, rfl, rfl, rfl, trivial⟩, H⟩
        · replace H := hbf hc5 H
          refine skN ?_
          refine xn ?_
          refine sq ?_
          refine rg ?_
          refine stp hF (p_move rfl) (by decide) (fun a hF => ?_)
          refine stp hF (p_shr (c := bshr .i64 (bor .i64 x8 (bshl .i64 (band .i64 (w64 (rd x5 (w64 (x2 + x3)))) 127) (IntKind.u64.wrap (w64 (7 * x3))))) 1) rfl rfl (by decide) rfl) (by decide) (fun a hF => ?_)
          refine stp hF (p_assign rfl) (by decide) (fun a hF => ?_)
          refine nilN ?_
          refine xn ?_
          obtain ⟨x9, H, HK2⟩ := hb H
          refine sqj (fun a w => ∃ (x1 : Int) , St e s0 w [] ∧ Fr 74 a [(1, (.int .i64 x2)), (8, (.int .i64 x3)), (9, (.int .i64 (w64 (rd x5 (w64 (x2 + x3)))))), (10, (.int .i64 x1))] ∧ spec_GetInt.c3 k1 x3 x5 x2 x1 = some x10) ?_ ?_
          · skip
            refine sq ?_
            refine rg ?_
            refine stp hF (p_move rfl) (by decide) (fun a hF => ?_)
            refine stp hF (p_and (c := band .i64 (bor .i64 x8 (bshl .i64 (band .i64 (w64 (rd x5 (w64 (x2 + x3)))) 127) (IntKind.u64.wrap (w64 (7 * x3))))) 1) rfl rfl rfl) (by decide) (fun a hF => ?_)
            refine stp hF (p_eql rfl rfl) (by decide) (fun a hF => ?_)
            refine nilN ?_
            refine xn ?_
            refine cnd hF rfl (fun hc6 => ?_) (fun hc6 => ?_)
            · replace H := hbt hc6 H
              refine rg ?_
              refine stp hF (p_move rfl) (by decide) (fun a hF => ?_)
              refine stp hF (p_neg (c := w64 (0 - (bshr .i64 (bor .i64 x8 (bshl .i64 (band .i64 (w64 (rd x5 (w64 (x2 + x3)))) 127) (IntKind.u64.wrap (w64 (7 * x3))))) 1))) rfl rfl) (by decide) (fun a hF => ?_)
              refine stp hF (p_sub (c := w64 ((w64 (0 - (bshr .i64 (bor .i64 x8 (bshl .i64 (band .i64 (w64 (rd x5 (w64 (x2 + x3)))) 127) (IntKind.u64.wrap (w64 (7 * x3))))) 1))) - 1)) rfl rfl rfl) (by decide) (fun a hF => ?_)
              refine stp hF (p_assign rfl) (by decide) (fun a hF => ?_)
              refine nilN ?_
              refine xn ?_
              obtain rfl := hsm H
              exact ⟨(w64 ((w64 (0 - (bshr .i64 (bor .i64 x8 (bshl .i64 (band .i64 (w64 (rd x5 (w64 (x2 + x3)))) 127) (IntKind.u64.wrap (w64 (7 * x3))))) 1))) - 1)), hS, hF.cut ⟨rfl, rfl, rfl, rfl, trivial⟩, HK2⟩
            · replace H := hbf hc6 H
              refine skN ?_
              refine xn ?_
              obtain rfl := hsm H
              exact ⟨(bshr .i64 (bor .i64 x8 (bshl .i64 (band .i64 (w64 (rd x5 (w64 (x2 + x3)))) 127) (IntKind.u64.wrap (w64 (7 * x3))))) 1), hS, hF.cut ⟨rfl, rfl, rfl, rfl, trivial⟩, HK2⟩
          · clear H HK2 hS hF
            rintro a w ⟨x1, hS, hF, H⟩
            unfold spec_GetInt.c3 at H
            refine sq ?_
            refine sq ?_
            refine rg ?_
            refine stp hF (p_move rfl) (by decide) (fun a hF => ?_)
            refine stp hF (p_gtr rfl rfl) (by decide) (fun a hF => ?_)
            refine stp hF (p_move rfl) (by decide) (fun a hF => ?_)
            refine cutj 3 (fun a w => St e s0 w [] ∧ Fr 74 a [(1, (.int .i64 x2)), (8, (.int .i64 x3)), (10, (.int .i64 x1)), (63, (.bool ((decide (0 < x3)) && (decide ((w64 (rd x5 (w64 (x2 + x3)))) = 0)))))]) rfl rfl ?_ ?_
            · rcases Bool.eq_false_or_eq_true (decide (0 < x3)) with hc7 | hc7
              · skip
                refine gonE (j := 2) hF rfl rfl hc7 ?_
                refine stp hF (p_move rfl) (by decide) (fun a hF => ?_)
                refine gonE (j := 2) hF rfl rfl hc7 ?_
                refine stp hF (p_eql rfl rfl) (by decide) (fun a hF => ?_)
                refine stp hF (p_andT rfl hc7 rfl) (by decide) (fun a hF => ?_)
                refine nilN ?_
                refine xn ?_
                exact ⟨hS, hF.cut ⟨rfl, rfl, rfl, rfl, trivial⟩⟩
              · skip
                refine gofD (j := 2) hF rfl rfl (by rw [hc7]; decide) (by decide) (fun a hF => ?_)
                refine gofD (j := 2) hF rfl rfl (by rw [hc7]; decide) (by decide) (fun a hF => ?_)
                refine stp hF (p_andF (decide ((w64 (rd x5 (w64 (x2 + x3)))) = 0)) rfl hc7 rfl) (by decide) (fun a hF => ?_)
                refine nilN ?_
                refine xn ?_
                exact ⟨hS, hF.cut ⟨rfl, rfl, rfl, rfl, trivial⟩⟩
            clear hS hF
            rintro a w ⟨hS, hF⟩
            refine stp hF (p_move rfl) (by decide) (fun a hF => ?_)
            obtain ⟨x7, H, HK3⟩ := hb H
            refine cutj 4 (fun a w => ∃ (x4 : Bool) (s2 : HF) , St e s2 w [] ∧ Fr 74 a [(1, (.int .i64 x2)), (8, (.int .i64 x3)), (10, (.int .i64 x1)), (68, (.bool x4))] ∧ Sub s0 s2 ∧ spec_GetInt.c2 k1 x1 x2 x3 x4 = some x10) rfl rfl ?_ ?_
            · rcases Bool.eq_false_or_eq_true (((decide (0 < x3)) && (decide ((w64 (rd x5 (w64 (x2 + x3)))) = 0)))) with hc8 | hc8
              · replace H := hbt hc8 H
                refine gofD (j := 6) hF rfl rfl (by rw [hc8]; decide) (by decide) (fun a hF => ?_)
                refine gofD (j := 6) hF rfl rfl (by rw [hc8]; decide) (by decide) (fun a hF => ?_)
                refine gofD (j := 6) hF rfl rfl (by rw [hc8]; decide) (by decide) (fun a hF => ?_)
                refine stp hF (p_pickT rfl hc8 rfl) (by decide) (fun a hF => ?_)
                refine nilN ?_
                refine xn ?_
                obtain rfl := hsm H
                exact ⟨true, s0, hS, hF.cut ⟨rfl, rfl, rfl, rfl, trivial⟩, (Sub.refl _), HK3⟩
              · replace H := hbf hc8 H
                refine gonE (j := 6) hF rfl rfl hc8 ?_
                refine stp hF (p_move rfl) (by decide) (fun a hF => ?_)
                obtain ⟨x6, hx1, H⟩ := hb H
                refine gonE (j := 6) hF rfl rfl hc8 ?_
                refine ste hF (e_callA (fst := []) (vs := [(.int .i64 x1), (.int .i64 (-1000000000000)), (.int .i64 1000000000000)]) (cap := []) rfl rfl go_75 (St.call (A := []) (B := []) hS (spec_l1In.spec k1 _ _ x1 (-1000000000000) 1000000000000 _ hx1)) rfl) (by decide) (fun v w a hR hF => ?_)
                obtain ⟨s3, A2, hg1, hS, hR⟩ := hR
                obtain ⟨hv1, rfl⟩ := hR; obtain rfl := hv1.symm
                have hS : St e s3 w [] := hS
                refine gonE (j := 6) hF rfl rfl hc8 ?_
                refine stp hF (p_not rfl) (by decide) (fun a hF => ?_)
                refine stp hF (p_pickF rfl hc8 rfl) (by decide) (fun a hF => ?_)
                refine nilN ?_
                refine xn ?_
                obtain rfl := hsm H
                exact ⟨(!x6), s3, hS, hF.cut ⟨rfl, rfl, rfl, rfl, trivial⟩, hg1, HK3⟩
            · clear H HK3 hS hF
              rintro a w ⟨x4, s2, hS, hF, hg2, H⟩
              unfold spec_GetInt.c2 at H
              refine nilN ?_
              refine xn ?_
              refine cnd hF rfl (fun hc9 => ?_) (fun hc9 => ?_)
              · replace H := hbt hc9 H
                refine sq ?_
                refine rg ?_
                refine stp hF (p_assign rfl) (by decide) (fun a hF => ?_)
                refine stp hF (p_assign rfl) (by decide) (fun a hF => ?_)
                refine stp hF (p_assign rfl) (by decide) (fun a hF => ?_)
                refine nilN ?_
                refine xn ?_
                refine rt ?_
                refine xr (br (xr (xr (br (xr ?_)))))
                obtain rfl := hsm H
                have H := hon1 HK1
                obtain rfl := hsm H
                exact ret3 hF rfl rfl rfl rfl hS ⟨rfl, rfl⟩
              · replace H := hbf hc9 H
                refine skN ?_
                refine xn ?_
                refine sq ?_
                refine rg ?_
                refine stp hF (p_move rfl) (by decide) (fun a hF => ?_)
                refine stp hF (p_move rfl) (by decide) (fun a hF => ?_)
                refine stp hF (p_move rfl) (by decide) (fun a hF => ?_)
                refine stp hF (p_add (c := w64 (x2 + x3)) rfl rfl rfl) (by decide) (fun a hF => ?_)
                refine stp hF (p_add (c := w64 ((w64 (x2 + x3)) + 1)) rfl rfl rfl) (by decide) (fun a hF => ?_)
                refine stp hF (p_assign rfl) (by decide) (fun a hF => ?_)
                refine stp hF (p_assign rfl) (by decide) (fun a hF => ?_)
                refine stp hF (p_assign rfl) (by decide) (fun a hF => ?_)
                refine nilN ?_
                refine xn ?_
                refine rt ?_
                refine br (xr (xr (br (xr ?_))))
                obtain rfl := hsm H
                have H := hon1 HK1
                obtain rfl := hsm H
                exact ret3 hF rfl rfl rfl rfl hS ⟨rfl, rfl⟩
      · replace H := hbf hc4 H
        refine exi ?_
        refine xe (xe (hit (xn ?_)))
        obtain rfl := hsm H
        exact ⟨hS, hF.cut trivial, HK1⟩
  · clear H HK1 hS hF
    rintro a w ⟨hS, hF, H⟩
    unfold spec_GetInt.c1 at H
    refine sq ?_
    refine rg ?_
    refine stp hF (p_assign rfl) (by decide) (fun a hF => ?_)
    refine stp hF (p_assign rfl) (by decide) (fun a hF => ?_)
    refine stp hF (p_assign rfl) (by decide) (fun a hF => ?_)
    refine nilN ?_
    refine xn ?_
    refine rt ?_
    obtain rfl := hsm H
    exact ret3 hF rfl rfl rfl rfl hS ⟨rfl, rfl⟩

def spec_l2Next.f (k : Nat) (x1 : (List Int)) (x2 : Int) (x3 : Bool) : Option (Int × (List Int) × Int × Bool) :=
  ((spec_GetInt.f k x1 x2).bind fun x4 => (if (x3 || (!x4.2.2)) = true then (some (0, x1, x2, true)) else (some (x4.1, x1, x4.2.1, x3))))
set_option maxRecDepth 100000 in
set_option maxHeartbeats 4000000 in
theorem spec_l2Next.spec (k : Nat) (s0 : HF) (w : World) (x1 : (List Int)) (x2 : Int) (x3 : Bool) (v1 : Value) (g1 : Nat) (h1 : Sl (Kd.int .u8) s0 v1 x1) (r : Int × (List Int) × Int × Bool) (H : spec_l2Next.f k x1 x2 x3 = some r) :
    Law Try.prog 104 #[(.pointer (some ⟨g1, 0, none⟩))] s0 w [pt g1 117 ([v1, (.int .i64 x2), (.bool x3)])] (fun v s1 A1 => ∃ (u0 : Value), v = (.int .i64 r.1) ∧ A1 = [pt g1 117 ([u0, (.int .i64 r.2.2.1), (.bool r.2.2.2)])] ∧ Sl (Kd.int .u8) s1 u0 r.2.1) := by
  unfold spec_l2Next.f at H
  refine Law.intro Try.func104 rfl [(0, (.pointer (some ⟨g1, 0, none⟩)))] (Nat.le_of_ble_eq_true rfl) (enter_lk ⟨rfl, trivial⟩) (fun e a hS hF => ?_)
  have hF : Fr 35 a [(0, (.pointer (some ⟨g1, 0, none⟩)))] := hF
  refine sq ?_
  refine rg ?_
  refine stp hF (p_assign rfl) (by decide) (fun a hF => ?_)
  refine nilN ?_
  refine xn ?_
  refine sq ?_
  replace hS : St e s0 w.drew [pt g1 117 ([v1, (.int .i64 x2), (.bool x3)])] := hS.drewN 1
  refine drw [0, 1, 2, 3, 4, 5, 6, 7, 8, 9, 10, 11, 12, 13, 14, 15] mixed (by kernel_rfl) (by decide) (hF.cut (L' := [(0, (.pointer (some ⟨g1, 0, none⟩))), (2, (.int .i64 0))]) ⟨rfl, rfl, trivial⟩) ?_
  clear hF
  generalize w.drew = w at hS ⊢
  refine pk1 rfl (by decide) rfl (by kernel_rfl) rfl (p_move rfl) ?_
  refine pk1 rfl (by decide) rfl (by kernel_rfl) rfl (p_nilck rfl) ?_
  refine pk1 rfl (by decide) rfl (by kernel_rfl) rfl (p_fldb (o' := 0) rfl fi_117_0 rfl) ?_
  refine pk1 rfl (by decide) rfl (by kernel_rfl) rfl (p_ldb_one (i := 0) hS rfl rfl ia_24 rfl) ?_
  refine pk1 rfl (by decide) rfl (by kernel_rfl) rfl (p_move rfl) ?_
  refine pk1 rfl (by decide) rfl (by kernel_rfl) rfl (p_nilck rfl) ?_
  refine pk1 rfl (by decide) rfl (by kernel_rfl) rfl (p_fldb (o' := 1) rfl fi_117_1 rfl) ?_
  refine pk1 rfl (by decide) rfl (by kernel_rfl) rfl (p_ldb_one (i := 0) hS rfl rfl ia_3 rfl) ?_
  obtain ⟨x4, hx1, H⟩ := hb H
  refine pkE [6, 5, 4, 2, 1, 0] rfl (by decide) (by kernel_rfl) (by kernel_rfl) (e_callA (fst := []) (vs := [v1, (.int .i64 x2)]) (cap := []) rfl rfl go_153 (St.call (A := []) (B := [pt g1 117 ([v1, (.int .i64 x2), (.bool x3)])]) hS (spec_GetInt.spec k _ _ x1 x2 v1 h1 _ hx1)) rfl) ?_
  intro v w hR
  obtain ⟨s2, A2, hg1, hS, hR⟩ := hR
  obtain ⟨hv1, rfl⟩ := hR; obtain rfl := hv1.symm
  have hS : St e s2 w [pt g1 117 ([v1, (.int .i64 x2), (.bool x3)])] := hS
  refine ⟨⟨knw rfl rfl rfl (p_fldb (o' := 1) rfl fi_117_1 rfl), ⟨knw rfl rfl rfl (p_nilck rfl), ⟨knw rfl rfl rfl (p_move rfl), ⟨knw rfl rfl rfl (p_fldb (o' := 0) rfl fi_117_0 rfl), ⟨knw rfl rfl rfl (p_nilck rfl), ⟨knw rfl rfl rfl (p_move rfl), trivial⟩⟩⟩⟩⟩⟩, ?_⟩
  refine pk1 rfl (by decide) rfl (by kernel_rfl) rfl (p_move rfl) ?_
  refine pk1 rfl (by decide) rfl (by kernel_rfl) rfl (p_extract rfl rfl) ?_
  refine pk1 rfl (by decide) rfl (by kernel_rfl) rfl (p_extract rfl rfl) ?_
  refine pk1 rfl (by decide) rfl (by kernel_rfl) rfl (p_extract rfl rfl) ?_
  refine pkE [12, 11] rfl (by decide) (by kernel_rfl) (by kernel_rfl) (puEf (p_assign rfl)) ?_
  rintro v w' ⟨hv, rfl⟩
  obtain rfl := hv.symm
  refine ⟨⟨knw rfl rfl rfl (p_extract rfl rfl), ⟨knw rfl rfl rfl (p_extract rfl rfl), trivial⟩⟩, ?_⟩
  refine pkE [12] rfl (by decide) (by kernel_rfl) (by kernel_rfl) (puEf (p_assign rfl)) ?_
  rintro v w' ⟨hv, rfl⟩
  obtain rfl := hv.symm
  refine ⟨⟨knw rfl rfl rfl (p_extract rfl rfl), trivial⟩, ?_⟩
  refine pkE [] rfl (by decide) (by kernel_rfl) (by kernel_rfl) (puEf (p_assign rfl)) ?_
  rintro v w' ⟨hv, rfl⟩
  obtain rfl := hv.symm
  refine ⟨trivial, ?_⟩
  refine pkF (fun a hF => ?_)
  refine xn ?_
  refine sq ?_
  refine sq ?_
  refine rg ?_
  refine stp hF (p_move rfl) (by decide) (fun a hF => ?_)
  refine stp hF (p_nilck rfl) (by decide) (fun a hF => ?_)
  refine stp hF (p_fldb (o' := 2) rfl fi_117_2 rfl) (by decide) (fun a hF => ?_)
  refine stp hF (p_ldb_one (i := 0) hS rfl rfl ia_4 rfl) (by decide) (fun a hF => ?_)
  refine stp hF (p_move rfl) (by decide) (fun a hF => ?_)
  refine cutj 3 (fun a w => St e s2 w [pt g1 117 ([v1, (.int .i64 x2), (.bool x3)])] ∧ Fr 35 a [(0, (.pointer (some ⟨g1, 0, none⟩))), (3, (.int .i64 x4.1)), (4, (.int .i64 x4.2.1)), (26, (.bool (x3 || (!x4.2.2))))]) rfl rfl ?_ ?_
  · rcases Bool.eq_false_or_eq_true (x3) with hc1 | hc1
    · skip
      refine gofD (j := 4) hF rfl rfl (by rw [hc1]; decide) (by decide) (fun a hF => ?_)
      refine gofD (j := 4) hF rfl rfl (by rw [hc1]; decide) (by decide) (fun a hF => ?_)
      refine stp hF (p_orT (!x4.2.2) rfl hc1 rfl) (by decide) (fun a hF => ?_)
      refine nilN ?_
      refine xn ?_
      exact ⟨hS, hF.cut ⟨rfl, rfl, rfl, rfl, trivial⟩⟩
    · skip
      refine gonE (j := 4) hF rfl rfl hc1 ?_
      refine stp hF (p_move rfl) (by decide) (fun a hF => ?_)
      refine gonE (j := 4) hF rfl rfl hc1 ?_
      refine stp hF (p_not rfl) (by decide) (fun a hF => ?_)
      refine stp hF (p_orF rfl hc1 rfl) (by decide) (fun a hF => ?_)
      refine nilN ?_
      refine xn ?_
      exact ⟨hS, hF.cut ⟨rfl, rfl, rfl, rfl, trivial⟩⟩
  clear hS hF
  rintro a w ⟨hS, hF⟩
  refine nilN ?_
  refine xn ?_
  refine cnd hF rfl (fun hc2 => ?_) (fun hc2 => ?_)
  · replace H := hbt hc2 H
    refine sq ?_
    refine rg ?_
    refine stp hF (p_move rfl) (by decide) (fun a hF => ?_)
    refine stp hF (p_nilck rfl) (by decide) (fun a hF => ?_)
    refine stp hF (p_fldb (o' := 2) rfl fi_117_2 rfl) (by decide) (fun a hF => ?_)
    refine ste0 hF (e_stb (i := 0) (l := [v1, (.int .i64 x2)]) (m := [(.bool x3)]) (r := []) (m' := [(.bool true)]) (cs' := [v1, (.int .i64 x2), (.bool true)]) hS rfl rfl rfl ti_4 rfl rfl rfl rfl rfl (one_cons rfl one_nil) rfl) (fun v w a hR hF => ?_)
    have hS : St e s2 w [pt g1 117 ([v1, (.int .i64 x2), (.bool true)])] := hR
    refine nilN ?_
    refine xn ?_
    refine sq ?_
    refine rg ?_
    refine stp hF (p_assign rfl) (by decide) (fun a hF => ?_)
    refine nilN ?_
    refine xn ?_
    refine rt ?_
    refine xr ?_
    obtain rfl := hsm H
    exact ret1 hF rfl rfl hS ⟨v1, rfl, rfl, (h1.mono hg1)⟩
  · replace H := hbf hc2 H
    refine skN ?_
    refine xn ?_
    refine sq ?_
    refine rg ?_
    refine stp hF (p_move rfl) (by decide) (fun a hF => ?_)
    refine stp hF (p_move rfl) (by decide) (fun a hF => ?_)
    refine stp hF (p_nilck rfl) (by decide) (fun a hF => ?_)
    refine stp hF (p_fldb (o' := 1) rfl fi_117_1 rfl) (by decide) (fun a hF => ?_)
    refine ste0 hF (e_stb (i := 0) (l := [v1]) (m := [(.int .i64 x2)]) (r := [(.bool x3)]) (m' := [(.int .i64 x4.2.1)]) (cs' := [v1, (.int .i64 x4.2.1), (.bool x3)]) hS rfl rfl rfl ti_3 rfl rfl rfl rfl rfl (one_cons rfl one_nil) rfl) (fun v w a hR hF => ?_)
    have hS : St e s2 w [pt g1 117 ([v1, (.int .i64 x4.2.1), (.bool x3)])] := hR
    refine nilN ?_
    refine xn ?_
    refine sq ?_
    refine rg ?_
    refine stp hF (p_move rfl) (by decide) (fun a hF => ?_)
    refine stp hF (p_assign rfl) (by decide) (fun a hF => ?_)
    refine nilN ?_
    refine xn ?_
    refine rt ?_
    obtain rfl := hsm H
    exact ret1 hF rfl rfl hS ⟨v1, rfl, rfl, (h1.mono hg1)⟩

def spec_PutInt.c1 (k : Nat) (x1 : (List Int)) (x2 : Int) : Option (List Int) :=
  (if x1.length + 1 ≤ 140737488355328 then (some (x1 ++ ([w8 (x2)] : List Int))) else none)
def spec_PutInt.l1 : Nat → (List Int) → Int → Option ((List Int) × Int)
  | 0, _, _ => none
  | k + 1, x3, x4 => (if (decide (127 < x4)) = true then (if x3.length + 1 ≤ 140737488355328 then ((spec_PutInt.l1 k) (x3 ++ ([w8 (bor .i64 (band .i64 x4 127) 128)] : List Int)) (bshr .i64 x4 7)) else none) else (some (x3, x4)))
def spec_PutInt.c2 (k : Nat) (x5 : (List Int)) (x6 : Int) : Option (List Int) :=
  (((spec_PutInt.l1 k (([] : List Int) ++ x5) x6) : Option ((List Int) × Int)).bind fun x7 => spec_PutInt.c1 k x7.1 x7.2)
def spec_PutInt.c3 (k : Nat) (x5 : (List Int)) (x8 : Int) : Option (List Int) :=
  (((if (decide (x8 < 0)) = true then (some (w64 ((w64 ((-2) * x8)) - 1))) else (some (w64 (2 * x8)))) : Option Int).bind fun x9 => spec_PutInt.c2 k x5 x9)
def spec_PutInt.c4 (k : Nat) (x5 : (List Int)) (x10 : Int) : Option (List Int) :=
  (((if (decide (x10 < (-1000000000000))) = true then (some (-1000000000000)) else (some x10)) : Option Int).bind fun x11 => spec_PutInt.c3 k x5 x11)
def spec_PutInt.f (k : Nat) (x5 : (List Int)) (x12 : Int) : Option (List Int) :=
  (if ([] : List Int).length + x5.length ≤ 140737488355328 then (((if (decide (1000000000000 < x12)) = true then (some 1000000000000) else (some x12)) : Option Int).bind fun x13 => spec_PutInt.c4 k x5 x13) else none)
set_option maxRecDepth 100000 in
set_option maxHeartbeats 4000000 in
theorem spec_PutInt.spec (k : Nat) (s0 : HF) (w : World) (x5 : (List Int)) (x12 : Int) (v1 : Value) (h1 : Sl (Kd.int .u8) s0 v1 x5) (r : (List Int)) (H : spec_PutInt.f k x5 x12 = some r) :
    Law Try.prog 63 #[v1, (.int .i64 x12)] s0 w [] (fun v s1 A1 => ∃ (u0 : Value), v = u0 ∧ A1 = [Ow (Kd.int .u8) 5 u0 r]) := by
  unfold spec_PutInt.f at H
  refine Law.intro Try.func63 rfl [(0, v1), (1, (.int .i64 x12))] (Nat.le_of_ble_eq_true rfl) (enter_lk ⟨rfl, rfl, trivial⟩) (fun e a hS hF => ?_)
  have hF : Fr 37 a [(0, v1), (1, (.int .i64 x12))] := hF
  refine sq ?_
  refine rg ?_
  refine stp hF (p_assign rfl) (by decide) (fun a hF => ?_)
  refine nilN ?_
  refine xn ?_
  refine sq ?_
  refine rg ?_
  refine ste hF (e_bslice (kd := (Kd.int .u8)) (et := 5) (ps := []) (vs := []) (cs := []) (xs := ([] : List Int)) hS rfl (by intro w; kernel_rfl) rfl (by decide) (Nat.le_of_ble_eq_true rfl) (by exact (Rows.nil _ _ _ _))) (by decide) (fun v2 w a hR hF => ?_)
  have hS : St e s0 w [Ow (Kd.int .u8) 5 v2 ([] : List Int)] := hR
  refine stp hF (p_move rfl) (by decide) (fun a hF => ?_)
  obtain ⟨hq1, H⟩ := hck H
  refine ste hF (e_append (n := 0) hS rfl rfl rfl (h1.src hS) un_24 ti_5 rfl (by decide) (by decide) (Nat.le_trans (Nat.mul_le_mul_right 1 hq1) (by decide))) (by decide) (fun v3 w a hR hF => ?_)
  have hS : St e s0 w [Ow (Kd.int .u8) 5 v3 (([] : List Int) ++ x5)] := hR
  refine stp hF (p_assign rfl) (by decide) (fun a hF => ?_)
  refine nilN ?_
  refine xn ?_
  obtain ⟨x13, H, HK1⟩ := hb H
  refine sqj (fun a w => ∃ (x10 : Int) , St e s0 w [Ow (Kd.int .u8) 5 v3 (([] : List Int) ++ x5)] ∧ Fr 37 a [(1, (.int .i64 x10)), (5, v3)] ∧ spec_PutInt.c4 k x5 x10 = some r) ?_ ?_
  · skip
    refine sq ?_
    refine rg ?_
    refine stp hF (p_move rfl) (by decide) (fun a hF => ?_)
    refine stp hF (p_gtr rfl rfl) (by decide) (fun a hF => ?_)
    refine nilN ?_
    refine xn ?_
    refine cnd hF rfl (fun hc1 => ?_) (fun hc1 => ?_)
    · replace H := hbt hc1 H
      refine rg ?_
      refine stp hF (p_assign rfl) (by decide) (fun a hF => ?_)
      refine nilN ?_
      refine xn ?_
      obtain rfl := hsm H
      exact ⟨1000000000000, hS, hF.cut ⟨rfl, rfl, trivial⟩, HK1⟩
    · replace H := hbf hc1 H
      refine skN ?_
      refine xn ?_
      obtain rfl := hsm H
      exact ⟨x12, hS, hF.cut ⟨rfl, rfl, trivial⟩, HK1⟩
  · clear H HK1 hS hF
    rintro a w ⟨x10, hS, hF, H⟩
    unfold spec_PutInt.c4 at H
    obtain ⟨x11, H, HK2⟩ := hb H
    refine sqj (fun a w => ∃ (x8 : Int) , St e s0 w [Ow (Kd.int .u8) 5 v3 (([] : List Int) ++ x5)] ∧ Fr 37 a [(1, (.int .i64 x8)), (5, v3)] ∧ spec_PutInt.c3 k x5 x8 = some r) ?_ ?_
    · skip
      refine sq ?_
      refine rg ?_
      refine stp hF (p_move rfl) (by decide) (fun a hF => ?_)
      refine stp hF (p_lss rfl rfl) (by decide) (fun a hF => ?_)
      refine nilN ?_
      refine xn ?_
      refine cnd hF rfl (fun hc2 => ?_) (fun hc2 => ?_)
      · replace H := hbt hc2 H
        refine rg ?_
        refine stp hF (p_assign rfl) (by decide) (fun a hF => ?_)
        refine nilN ?_
        refine xn ?_
        obtain rfl := hsm H
        exact ⟨(-1000000000000), hS, hF.cut ⟨rfl, rfl, trivial⟩, HK2⟩
      · replace H := hbf hc2 H
        refine skN ?_
        refine xn ?_
        obtain rfl := hsm H
        exact ⟨x10, hS, hF.cut ⟨rfl, rfl, trivial⟩, HK2⟩
    · clear H HK2 hS hF
      rintro a w ⟨x8, hS, hF, H⟩
      unfold spec_PutInt.c3 at H
      refine sq ?_
      refine rg ?_
      refine stp hF (p_move rfl) (by decide) (fun a hF => ?_)
      refine stp hF (p_mul (c := w64 (2 * x8)) rfl rfl rfl) (by decide) (fun a hF => ?_)
      refine stp hF (p_assign rfl) (by decide) (fun a hF => ?_)
      refine nilN ?_
      refine xn ?_
      obtain ⟨x9, H, HK3⟩ := hb H
      refine sqj (fun a w => ∃ (x6 : Int) , St e s0 w [Ow (Kd.int .u8) 5 v3 (([] : List Int) ++ x5)] ∧ Fr 37 a [(5, v3), (6, (.int .i64 x6))] ∧ spec_PutInt.c2 k x5 x6 = some r) ?_ ?_
      · skip
        refine sq ?_
        refine rg ?_
        refine stp hF (p_move rfl) (by decide) (fun a hF => ?_)
        refine stp hF (p_lss rfl rfl) (by decide) (fun a hF => ?_)
        refine nilN ?_
        refine xn ?_
        refine cnd hF rfl (fun hc3 => ?_) (fun hc3 => ?_)
        · replace H := hbt hc3 H
          refine rg ?_
          refine stp hF (p_move rfl) (by decide) (fun a hF => ?_)
          refine stp hF (p_mul (c := w64 ((-2) * x8)) rfl rfl rfl) (by decide) (fun a hF => ?_)
          refine stp hF (p_sub (c := w64 ((w64 ((-2) * x8)) - 1)) rfl rfl rfl) (by decide) (fun a hF => ?_)
          refine stp hF (p_assign rfl) (by decide) (fun a hF => ?_)
          refine nilN ?_
          refine xn ?_
          obtain rfl := hsm H
          exact ⟨(w64 ((w64 ((-2) * x8)) - 1)), hS, hF.cut ⟨rfl, rfl, trivial⟩, HK3⟩
        · replace H := hbf hc3 H
          refine skN ?_
          refine xn ?_
          obtain rfl := hsm H
          exact ⟨(w64 (2 * x8)), hS, hF.cut ⟨rfl, rfl, trivial⟩, HK3⟩
      · clear H HK3 hS hF
        rintro a w ⟨x6, hS, hF, H⟩
        unfold spec_PutInt.c2 at H
        obtain ⟨x7, H, HK4⟩ := hb H
        refine sqj (fun a w => ∃ (x1 : (List Int)) (x2 : Int) (v4 : Value) , St e s0 w [Ow (Kd.int .u8) 5 v4 x1] ∧ Fr 37 a [(5, v4), (6, (.int .i64 x2))] ∧ spec_PutInt.c1 k x1 x2 = some r) ?_ ?_
        · skip
          refine blk ?_
          refine loop_ind (fun k1 a w => ∃ (x3 : (List Int)) (x4 : Int) (v5 : Value) , St e s0 w [Ow (Kd.int .u8) 5 v5 x3] ∧ Fr 37 a [(5, v5), (6, (.int .i64 x4))] ∧ spec_PutInt.l1 k1 x3 x4 = some x7) k ?_ ?_ ?_
          · skip
            exact ⟨(([] : List Int) ++ x5), x6, v3, hS, hF.cut ⟨rfl, rfl, trivial⟩, H⟩
          · clear H hS hF
            rintro a w ⟨x3, x4, v5, hS, hF, H⟩
            exact absurd (show none = some _ from H) (by simp)
          · clear H hS hF
            rintro k1 a w ⟨x3, x4, v5, hS, hF, H⟩
            rw [spec_PutInt.l1.eq_2] at H
            refine sq ?_
            refine sq ?_
            refine rg ?_
            refine stp hF (p_move rfl) (by decide) (fun a hF => ?_)
            refine stp hF (p_gtr rfl rfl) (by decide) (fun a hF => ?_)
            refine nilN ?_
            refine xn ?_
            refine cnd hF rfl (fun hc4 => ?_) (fun hc4 => ?_)
            · replace H := hbt hc4 H
              refine skN ?_
              refine xn ?_
              refine blk ?_
              refine sq ?_
              refine rg ?_
              refine stp hF (p_move rfl) (by decide) (fun a hF => ?_)
              refine stp hF (p_move rfl) (by decide) (fun a hF => ?_)
              refine stp hF (p_and (c := band .i64 x4 127) rfl rfl rfl) (by decide) (fun a hF => ?_)
              refine stp hF (p_or (c := bor .i64 (band .i64 x4 127) 128) rfl rfl rfl) (by decide) (fun a hF => ?_)
              refine stp hF (p_cvint (c := w8 (bor .i64 (band .i64 x4 127) 128)) un_3 un_5 rfl rfl) (by decide) (fun a hF => ?_)
              refine ste hF (e_bslice (kd := (Kd.int .u8)) (et := 5) (ps := [(0, (.tmp 27))]) (vs := [(0, (.int .u8 (w8 (bor .i64 (band .i64 x4 127) 128))))]) (cs := [(.int .u8 (w8 (bor .i64 (band .i64 x4 127) 128)))]) (xs := ([w8 (bor .i64 (band .i64 x4 127) 128)] : List Int)) hS rfl (by intro w; kernel_rfl) rfl (by decide) (Nat.le_of_ble_eq_true rfl) (by exact (rows_cons (kd := (Kd.int .u8)) (x := w8 (bor .i64 (band .i64 x4 127) 128)) (c := [(.int .u8 (w8 (bor .i64 (band .i64 x4 127) 128)))]) (cs := []) rfl (Rows.nil _ _ _ _)))) (by decide) (fun v6 w a hR hF => ?_)
              have hS : St e s0 w [Ow (Kd.int .u8) 5 v6 ([w8 (bor .i64 (band .i64 x4 127) 128)] : List Int), Ow (Kd.int .u8) 5 v5 x3] := hR
              obtain ⟨hq2, H⟩ := hck H
              refine ste hF (e_append (n := 1) hS rfl rfl rfl (hS.src (n := 0) rfl) un_24 ti_5 rfl (by decide) (by decide) (Nat.le_trans (Nat.mul_le_mul_right 1 hq2) (by decide))) (by decide) (fun v7 w a hR hF => ?_)
              have hS : St e s0 w [Ow (Kd.int .u8) 5 v7 (x3 ++ ([w8 (bor .i64 (band .i64 x4 127) 128)] : List Int)), Ow (Kd.int .u8) 5 v6 ([w8 (bor .i64 (band .i64 x4 127) 128)] : List Int)] := hR
              replace hS := hS.sel (is := [0]) (A' := [Ow (Kd.int .u8) 5 v7 (x3 ++ ([w8 (bor .i64 (band .i64 x4 127) 128)] : List Int))]) rfl
              refine stp hF (p_assign rfl) (by decide) (fun a hF => ?_)
              refine nilN ?_
              refine xn ?_
              refine rg ?_
              refine stp hF (p_move rfl) (by decide) (fun a hF => ?_)
              refine stp hF (p_shr (c := bshr .i64 x4 7) rfl rfl (by decide) rfl) (by decide) (fun a hF => ?_)
              refine stp hF (p_assign rfl) (by decide) (fun a hF => ?_)
              refine nilN ?_
              refine bn (xn ?_)
              exact ⟨(x3 ++ ([w8 (bor .i64 (band .i64 x4 127) 128)] : List Int)), (bshr .i64 x4 7), v7, hS, hF.cut ⟨rfl, rfl, trivial⟩, H⟩
            · replace H := hbf hc4 H
              refine exi ?_
              refine xe (xe (hit (xn ?_)))
              obtain rfl := hsm H
              exact ⟨x3, x4, v5, hS, hF.cut ⟨rfl, rfl, trivial⟩, HK4⟩
        · clear H HK4 hS hF
          rintro a w ⟨x1, x2, v4, hS, hF, H⟩
          unfold spec_PutInt.c1 at H
          refine sq ?_
          refine rg ?_
          refine stp hF (p_move rfl) (by decide) (fun a hF => ?_)
          refine stp hF (p_move rfl) (by decide) (fun a hF => ?_)
          refine stp hF (p_cvint (c := w8 (x2)) un_3 un_5 rfl rfl) (by decide) (fun a hF => ?_)
          refine ste hF (e_bslice (kd := (Kd.int .u8)) (et := 5) (ps := [(0, (.tmp 34))]) (vs := [(0, (.int .u8 (w8 (x2))))]) (cs := [(.int .u8 (w8 (x2)))]) (xs := ([w8 (x2)] : List Int)) hS rfl (by intro w; kernel_rfl) rfl (by decide) (Nat.le_of_ble_eq_true rfl) (by exact (rows_cons (kd := (Kd.int .u8)) (x := w8 (x2)) (c := [(.int .u8 (w8 (x2)))]) (cs := []) rfl (Rows.nil _ _ _ _)))) (by decide) (fun v8 w a hR hF => ?_)
          have hS : St e s0 w [Ow (Kd.int .u8) 5 v8 ([w8 (x2)] : List Int), Ow (Kd.int .u8) 5 v4 x1] := hR
          obtain ⟨hq3, H⟩ := hck H
          refine ste hF (e_append (n := 1) hS rfl rfl rfl (hS.src (n := 0) rfl) un_24 ti_5 rfl (by decide) (by decide) (Nat.le_trans (Nat.mul_le_mul_right 1 hq3) (by decide))) (by decide) (fun v9 w a hR hF => ?_)
          have hS : St e s0 w [Ow (Kd.int .u8) 5 v9 (x1 ++ ([w8 (x2)] : List Int)), Ow (Kd.int .u8) 5 v8 ([w8 (x2)] : List Int)] := hR
          replace hS := hS.sel (is := [0]) (A' := [Ow (Kd.int .u8) 5 v9 (x1 ++ ([w8 (x2)] : List Int))]) rfl
          refine stp hF (p_assign rfl) (by decide) (fun a hF => ?_)
          refine nilN ?_
          refine xn ?_
          refine rt ?_
          obtain rfl := hsm H
          exact ret1 hF rfl rfl hS ⟨v9, rfl, rfl⟩

def spec_l2PutList.c1 (k : Nat) (x1 : (List Int)) : Option (List Int) :=
  (some x1)
def spec_l2PutList.l1 (x2 : (List Int)) : Nat → (List Int) → Int → Option (List Int)
  | 0, _, _ => none
  | k + 1, x3, x4 => (if (decide (x4 < (x2.length : Int))) = true then (if 0 ≤ x4 ∧ x4 < (x2.length : Int) then ((spec_PutInt.f k x3 (rd x2 x4)).bind fun x5 => ((spec_l2PutList.l1 x2 k) x5 (w64 (x4 + 1)))) else none) else (some x3))
def spec_l2PutList.f (k : Nat) (x6 : (List Int)) (x2 : (List Int)) : Option (List Int) :=
  ((spec_PutInt.f k x6 (x2.length : Int)).bind fun x7 => (((spec_l2PutList.l1 x2 k x7 0) : Option (List Int)).bind fun x8 => spec_l2PutList.c1 k x8))
set_option maxRecDepth 100000 in
set_option maxHeartbeats 4000000 in
theorem spec_l2PutList.spec (k : Nat) (s0 : HF) (w : World) (x6 : (List Int)) (x2 : (List Int)) (v1 : Value) (v2 : Value) (h1 : Sl (Kd.int .u8) s0 v1 x6) (h2 : Sl (Kd.int .i64) s0 v2 x2) (r : (List Int)) (H : spec_l2PutList.f k x6 x2 = some r) :
    Law Try.prog 128 #[v1, v2] s0 w [] (fun v s1 A1 => ∃ (u0 : Value), v = u0 ∧ A1 = [Ow (Kd.int .u8) 5 u0 r]) := by
  unfold spec_l2PutList.f at H
  refine Law.intro Try.func128 rfl [(0, v1), (1, v2)] (Nat.le_of_ble_eq_true rfl) (enter_lk ⟨rfl, rfl, trivial⟩) (fun e a hS hF => ?_)
  have hF : Fr 23 a [(0, v1), (1, v2)] := hF
  refine sq ?_
  refine rg ?_
  refine stp hF (p_assign rfl) (by decide) (fun a hF => ?_)
  refine nilN ?_
  refine xn ?_
  refine sq ?_
  refine rg ?_
  refine stp hF (p_move rfl) (by decide) (fun a hF => ?_)
  refine stp hF (p_move rfl) (by decide) (fun a hF => ?_)
  refine stp hF (p_lenr un_34 rfl h2) (by decide) (fun a hF => ?_)
  obtain ⟨x7, hx1, H⟩ := hb H
  refine ste hF (e_callA (fst := []) (vs := [v1, (.int .i64 (x2.length : Int))]) (cap := []) rfl rfl go_63 (St.call (A := []) (B := []) hS (spec_PutInt.spec k _ _ x6 (x2.length : Int) v1 h1 _ hx1)) rfl) (by decide) (fun v w a hR hF => ?_)
  obtain ⟨s2, A2, hg1, hS, hR⟩ := hR
  obtain ⟨v3, hv1, rfl⟩ := hR; obtain rfl := hv1.symm
  have hS : St e s2 w [Ow (Kd.int .u8) 5 v3 x7] := hS
  refine stp hF (p_assign rfl) (by decide) (fun a hF => ?_)
  refine nilN ?_
  refine xn ?_
  obtain ⟨x8, H, HK1⟩ := hb H
  refine sqj (fun a w => ∃ (x1 : (List Int)) (s3 : HF) (v4 : Value) , St e s3 w [Ow (Kd.int .u8) 5 v4 x1] ∧ Fr 23 a [(0, v4)] ∧ Sub s2 s3 ∧ spec_l2PutList.c1 k x1 = some r) ?_ ?_
  · skip
    refine sq ?_
    refine rg ?_
    refine stp hF (p_assign rfl) (by decide) (fun a hF => ?_)
    refine nilN ?_
    refine xn ?_
    refine blk ?_
    refine loop_ind (fun k1 a w => ∃ (x3 : (List Int)) (x4 : Int) (s4 : HF) (v5 : Value) , St e s4 w [Ow (Kd.int .u8) 5 v5 x3] ∧ Fr 23 a [(0, v5), (1, v2), (5, (.int .i64 x4))] ∧ Sub s2 s4 ∧ spec_l2PutList.l1 x2 k1 x3 x4 = some x8) k ?_ ?_ ?_
    · skip
      exact ⟨x7, 0, s2, v3, hS, hF.cut ⟨rfl, rfl, rfl, trivial⟩, (Sub.refl _), H⟩
    · clear H hS hF
      rintro a w ⟨x3, x4, s4, v5, hS, hF, hg2, H⟩
      exact absurd (show none = some _ from H) (by simp)
    · clear H hS hF
      rintro k1 a w ⟨x3, x4, s4, v5, hS, hF, hg2, H⟩
      rw [spec_l2PutList.l1.eq_2] at H
      refine sq ?_
      refine sq ?_
      refine rg ?_
      refine stp hF (p_move rfl) (by decide) (fun a hF => ?_)
      refine stp hF (p_move rfl) (by decide) (fun a hF => ?_)
      refine stp hF (p_lenr un_34 rfl ((h2.mono hg1).mono hg2)) (by decide) (fun a hF => ?_)
      refine stp hF (p_lss rfl rfl) (by decide) (fun a hF => ?_)
      refine nilN ?_
      refine xn ?_
      refine cnd hF rfl (fun hc1 => ?_) (fun hc1 => ?_)
      · replace H := hbt hc1 H
        refine skN ?_
        refine xn ?_
        refine sq ?_
        refine blk ?_
        refine rg ?_
        refine stp hF (p_move rfl) (by decide) (fun a hF => ?_)
        refine stp hF (p_move rfl) (by decide) (fun a hF => ?_)
        refine stp hF (p_move rfl) (by decide) (fun a hF => ?_)
        obtain ⟨hq1, H⟩ := hck H
        obtain ⟨ad1, h3, p1⟩ := p_idxr (P := Try.prog) (i := x4) ((h2.mono hg1).mono hg2) un_34 ti_3 hq1.1 hq1.2
        refine stp hF (p1 rfl rfl) (by decide) (fun a hF => ?_)
        refine stp hF (p_ldr_int rfl hS h3 ia_3) (by decide) (fun a hF => ?_)
        obtain ⟨s5, hg3, hl1, hcall1⟩ := St.lend (P := Try.prog) (Bs := [Ow (Kd.int .u8) 5 v5 x3]) (A := []) (B := []) hS
        obtain ⟨h4, hl1⟩ := hl1.ow hg3
        obtain ⟨x5, hx2, H⟩ := hb H
        refine ste hF (e_callA (fst := []) (vs := [v5, (.int .i64 (rd x2 x4))]) (cap := []) rfl rfl go_63 (hcall1 (spec_PutInt.spec k1 _ _ x3 (rd x2 x4) v5 h4 _ hx2) (by rintro v s1 A1 ⟨_, rfl, rfl⟩; exact ⟨Ow_flat flat_int _ _ _, trivial⟩)) rfl) (by decide) (fun v w a hR hF => ?_)
        obtain ⟨s6, s7, A3, hg4, hS, hR⟩ := hR
        obtain ⟨v6, hv2, rfl⟩ := hR; obtain rfl := hv2.symm
        have hS : St e s6 w [Ow (Kd.int .u8) 5 v5 x3, Ow (Kd.int .u8) 5 v6 x5] := hS
        refine stp hF (p_assign rfl) (by decide) (fun a hF => ?_)
        refine nilN ?_
        refine bn (xn ?_)
        refine rg ?_
        refine stp hF (p_move rfl) (by decide) (fun a hF => ?_)
        refine stp hF (p_add (c := w64 (x4 + 1)) rfl rfl rfl) (by decide) (fun a hF => ?_)
        refine stp hF (p_assign rfl) (by decide) (fun a hF => ?_)
        refine nilN ?_
        refine xn ?_
        replace hS := hS.sel (is := [1]) (A' := [Ow (Kd.int .u8) 5 v6 x5]) rfl
        exact ⟨x5, (w64 (x4 + 1)), s6, v6, hS, hF.cut ⟨rfl, rfl, rfl, trivial⟩, (hg2.trans hg4), H⟩
      · replace H := hbf hc1 H
        refine exi ?_
        refine xe (xe (hit (xn ?_)))
        obtain rfl := hsm H
        exact ⟨x3, s4, v5, hS, hF.cut ⟨rfl, trivial⟩, hg2, HK1⟩
  · clear H HK1 hS hF
    rintro a w ⟨x1, s3, v4, hS, hF, hg5, H⟩
    unfold spec_l2PutList.c1 at H
    refine sq ?_
    refine rg ?_
    refine stp hF (p_move rfl) (by decide) (fun a hF => ?_)
    refine stp hF (p_assign rfl) (by decide) (fun a hF => ?_)
    refine nilN ?_
    refine xn ?_
    refine rt ?_
    obtain rfl := hsm H
    exact ret1 hF rfl rfl hS ⟨v4, rfl, rfl⟩

def spec_PutObj.f (k : Nat) (x1 : TObj) : Option (List Int) :=
  ((spec_ObjOk.f k x1).bind fun x2 => (if (!x2) = true then (some ([] : List Int)) else ((spec_PutInt.f k ([] : List Int) x1.Kind).bind fun x3 => ((spec_l2PutList.f k x3 x1.Ints).bind fun x4 => ((spec_l2PutList.f k x4 x1.Refs).bind fun x5 => (some x5))))))
set_option maxRecDepth 100000 in
set_option maxHeartbeats 4000000 in
theorem spec_PutObj.spec (k : Nat) (s0 : HF) (w : World) (x1 : TObj) (v1 : Value) (v2 : Value) (h1 : Sl (Kd.int .i64) s0 v1 x1.Ints) (h2 : Sl (Kd.int .i64) s0 v2 x1.Refs) (r : (List Int)) (H : spec_PutObj.f k x1 = some r) :
    Law Try.prog 62 #[(.agg #[(.int .i64 x1.Kind), v1, v2])] s0 w [] (fun v s1 A1 => ∃ (u0 : Value), v = u0 ∧ A1 = [Ow (Kd.int .u8) 5 u0 r]) := by
  unfold spec_PutObj.f at H
  refine Law.intro Try.func62 rfl [(0, (.agg #[(.int .i64 x1.Kind), v1, v2]))] (Nat.le_of_ble_eq_true rfl) (enter_lk ⟨rfl, trivial⟩) (fun e a hS hF => ?_)
  have hF : Fr 17 a [(0, (.agg #[(.int .i64 x1.Kind), v1, v2]))] := hF
  refine sq ?_
  refine rg ?_
  refine ste hF (e_box (cs := [(.int .i64 x1.Kind), v1, v2]) hS rfl rfl) (by decide) (fun v w a hR hF => ?_)
  obtain ⟨g1, rfl, hS⟩ := hR
  refine stp hF (p_assign rfl) (by decide) (fun a hF => ?_)
  refine nilN ?_
  refine xn ?_
  refine sq ?_
  refine sq ?_
  refine rg ?_
  refine stp hF (p_ldb_agg (i := 0) (l := []) (m := [(.int .i64 x1.Kind), v1, v2]) (r := []) hS rfl rfl ia_36 ti_36 rfl rfl rfl) (by decide) (fun a hF => ?_)
  obtain ⟨x2, hx1, H⟩ := hb H
  refine ste hF (e_callA (fst := []) (vs := [(.agg #[(.int .i64 x1.Kind), v1, v2])]) (cap := []) rfl rfl go_127 (St.call (A := []) (B := [pt g1 36 ([(.int .i64 x1.Kind), v1, v2])]) hS (spec_ObjOk.spec k _ _ x1 v1 v2 h1 h2 _ hx1)) rfl) (by decide) (fun v w a hR hF => ?_)
  obtain ⟨s2, A2, hg1, hS, hR⟩ := hR
  obtain ⟨hv1, rfl⟩ := hR; obtain rfl := hv1.symm
  have hS : St e s2 w [pt g1 36 ([(.int .i64 x1.Kind), v1, v2])] := hS
  refine stp hF (p_not rfl) (by decide) (fun a hF => ?_)
  refine nilN ?_
  refine xn ?_
  refine cnd hF rfl (fun hc1 => ?_) (fun hc1 => ?_)
  · replace H := hbt hc1 H
    refine sq ?_
    refine rg ?_
    refine ste hF (e_bslice (kd := (Kd.int .u8)) (et := 5) (ps := []) (vs := []) (cs := []) (xs := ([] : List Int)) hS rfl (by intro w; kernel_rfl) rfl (by decide) (Nat.le_of_ble_eq_true rfl) (by exact (Rows.nil _ _ _ _))) (by decide) (fun v3 w a hR hF => ?_)
    have hS : St e s2 w [Ow (Kd.int .u8) 5 v3 ([] : List Int), pt g1 36 ([(.int .i64 x1.Kind), v1, v2])] := hR
    refine stp hF (p_assign rfl) (by decide) (fun a hF => ?_)
    refine nilN ?_
    refine xn ?_
    refine rt ?_
    refine xr ?_
    obtain rfl := hsm H
    replace hS := hS.sel (is := [0]) (A' := [Ow (Kd.int .u8) 5 v3 ([] : List Int)]) rfl
    exact ret1 hF rfl rfl hS ⟨v3, rfl, rfl⟩
  · replace H := hbf hc1 H
    refine skN ?_
    refine xn ?_
    refine sq ?_
    replace hS : St e s2 w.drew [pt g1 36 ([(.int .i64 x1.Kind), v1, v2])] := hS.drewN 1
    refine drw [0, 1, 2, 3, 4, 5, 6, 7, 8, 9, 10] mixed (by kernel_rfl) (by decide) (hF.cut (L' := [(0, (.agg #[(.int .i64 x1.Kind), v1, v2])), (1, (.pointer (some ⟨g1, 0, none⟩))), (2, (.slice none 0 0)), (3, (.agg #[(.int .i64 x1.Kind), v1, v2])), (4, (.bool x2)), (5, (.bool (!x2)))]) ⟨rfl, rfl, rfl, rfl, rfl, rfl, trivial⟩) ?_
    clear hF
    generalize w.drew = w at hS ⊢
    refine pkPerm [1, 0, 2, 3, 4, 5, 6, 7, 8, 9, 10] (by kernel_rfl) ?_
    refine pk1 rfl (by decide) rfl (by kernel_rfl) rfl (p_fldb (o' := 0) rfl fi_36_0 rfl) ?_
    refine pkPerm [2, 0, 3, 4, 5, 6, 7, 8, 9, 10] (by kernel_rfl) ?_
    refine pk1 rfl (by decide) rfl (by kernel_rfl) rfl (p_ldb_one (i := 0) hS rfl rfl ia_3 rfl) ?_
    refine pkPerm [4, 0, 3, 5, 6, 7, 8, 9, 10] (by kernel_rfl) ?_
    refine pk1 rfl (by decide) rfl (by kernel_rfl) rfl (p_fldb (o' := 1) rfl fi_36_1 rfl) ?_
    refine pkPerm [5, 0, 3, 6, 7, 8, 9, 10] (by kernel_rfl) ?_
    refine pk1 rfl (by decide) rfl (by kernel_rfl) rfl (p_ldb_one (i := 0) hS rfl rfl ia_34 rfl) ?_
    refine pkPerm [7, 0, 3, 6, 8, 9, 10] (by kernel_rfl) ?_
    refine pk1 rfl (by decide) rfl (by kernel_rfl) rfl (p_fldb (o' := 2) rfl fi_36_2 rfl) ?_
    refine pkPerm [8, 0, 3, 6, 9, 10] (by kernel_rfl) ?_
    refine pk1 rfl (by decide) rfl (by kernel_rfl) rfl (p_ldb_one (i := 0) hS rfl rfl ia_34 rfl) ?_
    refine pkE [8, 7, 5, 4, 2, 1] rfl (by decide) (by kernel_rfl) (by kernel_rfl) (e_bslice (kd := (Kd.int .u8)) (et := 5) (ps := []) (vs := []) (cs := []) (xs := ([] : List Int)) hS rfl (by intro w; kernel_rfl) rfl (by decide) (Nat.le_of_ble_eq_true rfl) (by exact (Rows.nil _ _ _ _))) ?_
    intro v4 w hR
    have hS : St e s2 w [Ow (Kd.int .u8) 5 v4 ([] : List Int), pt g1 36 ([(.int .i64 x1.Kind), v1, v2])] := hR
    refine ⟨⟨knw rfl rfl rfl (p_ldb_one (i := 1) hS rfl rfl ia_34 rfl), ⟨knw rfl rfl rfl (p_fldb (o' := 2) rfl fi_36_2 rfl), ⟨knw rfl rfl rfl (p_ldb_one (i := 1) hS rfl rfl ia_34 rfl), ⟨knw rfl rfl rfl (p_fldb (o' := 1) rfl fi_36_1 rfl), ⟨knw rfl rfl rfl (p_ldb_one (i := 1) hS rfl rfl ia_3 rfl), ⟨knw rfl rfl rfl (p_fldb (o' := 0) rfl fi_36_0 rfl), trivial⟩⟩⟩⟩⟩⟩, ?_⟩
    obtain ⟨s3, hg2, hl1, hcall1⟩ := St.lend (P := Try.prog) (Bs := [Ow (Kd.int .u8) 5 v4 ([] : List Int)]) (A := []) (B := [pt g1 36 ([(.int .i64 x1.Kind), v1, v2])]) hS
    obtain ⟨h3, hl1⟩ := hl1.ow hg2
    obtain ⟨x3, hx2, H⟩ := hb H
    refine pkE [8, 7, 5, 4, 1] rfl (by decide) (by kernel_rfl) (by kernel_rfl) (e_callA (fst := []) (vs := [v4, (.int .i64 x1.Kind)]) (cap := []) rfl rfl go_63 (hcall1 (spec_PutInt.spec k _ _ ([] : List Int) x1.Kind v4 h3 _ hx2) (by rintro v s1 A1 ⟨_, rfl, rfl⟩; exact ⟨Ow_flat flat_int _ _ _, trivial⟩)) rfl) ?_
    intro v w hR
    obtain ⟨s4, s5, A3, hg3, hS, hR⟩ := hR
    obtain ⟨v5, hv2, rfl⟩ := hR; obtain rfl := hv2.symm
    have hS : St e s4 w [Ow (Kd.int .u8) 5 v4 ([] : List Int), Ow (Kd.int .u8) 5 v5 x3, pt g1 36 ([(.int .i64 x1.Kind), v1, v2])] := hS
    refine ⟨⟨knw rfl rfl rfl (p_ldb_one (i := 2) hS rfl rfl ia_34 rfl), ⟨knw rfl rfl rfl (p_fldb (o' := 2) rfl fi_36_2 rfl), ⟨knw rfl rfl rfl (p_ldb_one (i := 2) hS rfl rfl ia_34 rfl), ⟨knw rfl rfl rfl (p_fldb (o' := 1) rfl fi_36_1 rfl), ⟨knw rfl rfl rfl (p_fldb (o' := 0) rfl fi_36_0 rfl), trivial⟩⟩⟩⟩⟩, ?_⟩
    replace hS := hS.sel (is := [1, 0, 0]) (A' := [Ow (Kd.int .u8) 5 v5 x3, Ow (Kd.int .u8) 5 v4 ([] : List Int), pt g1 36 ([(.int .i64 x1.Kind), v1, v2])]) rfl
    obtain ⟨s6, hg4, hl2, hcall2⟩ := St.lend (P := Try.prog) (Bs := [Ow (Kd.int .u8) 5 v5 x3]) (A := []) (B := [Ow (Kd.int .u8) 5 v4 ([] : List Int), pt g1 36 ([(.int .i64 x1.Kind), v1, v2])]) hS
    obtain ⟨h4, hl2⟩ := hl2.ow hg4
    obtain ⟨x4, hx3, H⟩ := hb H
    refine pkE [8, 7, 4, 1] rfl (by decide) (by kernel_rfl) (by kernel_rfl) (e_callA (fst := []) (vs := [v5, v1]) (cap := []) rfl rfl go_128 (hcall2 (spec_l2PutList.spec k _ _ x3 x1.Ints v5 v1 h4 (((h1.mono hg1).mono hg3).mono hg4) _ hx3) (by rintro v s1 A1 ⟨_, rfl, rfl⟩; exact ⟨Ow_flat flat_int _ _ _, trivial⟩)) rfl) ?_
    intro v w hR
    obtain ⟨s7, s8, A4, hg5, hS, hR⟩ := hR
    obtain ⟨v6, hv3, rfl⟩ := hR; obtain rfl := hv3.symm
    have hS : St e s7 w [Ow (Kd.int .u8) 5 v5 x3, Ow (Kd.int .u8) 5 v6 x4, Ow (Kd.int .u8) 5 v4 ([] : List Int), pt g1 36 ([(.int .i64 x1.Kind), v1, v2])] := hS
    refine ⟨⟨knw rfl rfl rfl (p_ldb_one (i := 3) hS rfl rfl ia_34 rfl), ⟨knw rfl rfl rfl (p_fldb (o' := 2) rfl fi_36_2 rfl), ⟨knw rfl rfl rfl (p_fldb (o' := 1) rfl fi_36_1 rfl), ⟨knw rfl rfl rfl (p_fldb (o' := 0) rfl fi_36_0 rfl), trivial⟩⟩⟩⟩, ?_⟩
    replace hS := hS.sel (is := [1, 0, 0, 0]) (A' := [Ow (Kd.int .u8) 5 v6 x4, Ow (Kd.int .u8) 5 v5 x3, Ow (Kd.int .u8) 5 v4 ([] : List Int), pt g1 36 ([(.int .i64 x1.Kind), v1, v2])]) rfl
    obtain ⟨s9, hg6, hl3, hcall3⟩ := St.lend (P := Try.prog) (Bs := [Ow (Kd.int .u8) 5 v6 x4]) (A := []) (B := [Ow (Kd.int .u8) 5 v5 x3, Ow (Kd.int .u8) 5 v4 ([] : List Int), pt g1 36 ([(.int .i64 x1.Kind), v1, v2])]) hS
    obtain ⟨h5, hl3⟩ := hl3.ow hg6
    obtain ⟨x5, hx4, H⟩ := hb H
    refine pkE [7, 4, 1] rfl (by decide) (by kernel_rfl) (by kernel_rfl) (e_callA (fst := []) (vs := [v6, v2]) (cap := []) rfl rfl go_128 (hcall3 (spec_l2PutList.spec k _ _ x4 x1.Refs v6 v2 h5 ((((h2.mono hg1).mono hg3).mono hg5).mono hg6) _ hx4) (by rintro v s1 A1 ⟨_, rfl, rfl⟩; exact ⟨Ow_flat flat_int _ _ _, trivial⟩)) rfl) ?_
    intro v w hR
    obtain ⟨s10, s11, A5, hg7, hS, hR⟩ := hR
    obtain ⟨v7, hv4, rfl⟩ := hR; obtain rfl := hv4.symm
    have hS : St e s10 w [Ow (Kd.int .u8) 5 v6 x4, Ow (Kd.int .u8) 5 v7 x5, Ow (Kd.int .u8) 5 v5 x3, Ow (Kd.int .u8) 5 v4 ([] : List Int), pt g1 36 ([(.int .i64 x1.Kind), v1, v2])] := hS
    refine ⟨⟨knw rfl rfl rfl (p_fldb (o' := 2) rfl fi_36_2 rfl), ⟨knw rfl rfl rfl (p_fldb (o' := 1) rfl fi_36_1 rfl), ⟨knw rfl rfl rfl (p_fldb (o' := 0) rfl fi_36_0 rfl), trivial⟩⟩⟩, ?_⟩
    refine pkE [] rfl (by decide) (by kernel_rfl) (by kernel_rfl) (puEf (p_assign rfl)) ?_
    rintro v w' ⟨hv, rfl⟩
    obtain rfl := hv.symm
    refine ⟨trivial, ?_⟩
    refine pkF (fun a hF => ?_)
    refine xn ?_
    refine rt ?_
    obtain rfl := hsm H
    replace hS := hS.sel (is := [1]) (A' := [Ow (Kd.int .u8) 5 v7 x5]) rfl
    exact ret1 hF rfl rfl hS ⟨v7, rfl, rfl⟩

def spec_l3PutSlot.f (k : Nat) (x1 : (List Int)) (x2 : TSlot) : Option (List Int) :=
  (if (!x2.Has) = true then ((spec_PutInt.f k x1 0).bind fun x3 => (some x3)) else ((spec_PutObj.f k x2.O).bind fun x4 => ((spec_PutInt.f k x1 (x4.length : Int)).bind fun x5 => (if x5.length + x4.length ≤ 140737488355328 then (some (x5 ++ x4)) else none))))
set_option maxRecDepth 100000 in
set_option maxHeartbeats 4000000 in
theorem spec_l3PutSlot.spec (k : Nat) (s0 : HF) (w : World) (x1 : (List Int)) (x2 : TSlot) (v1 : Value) (v2 : Value) (v3 : Value) (h1 : Sl (Kd.int .u8) s0 v1 x1) (h2 : Sl (Kd.int .i64) s0 v2 x2.O.Ints) (h3 : Sl (Kd.int .i64) s0 v3 x2.O.Refs) (r : (List Int)) (H : spec_l3PutSlot.f k x1 x2 = some r) :
    Law Try.prog 125 #[v1, (.agg #[(.bool x2.Has), (.int .i64 x2.O.Kind), v2, v3])] s0 w [] (fun v s1 A1 => ∃ (u0 : Value), v = u0 ∧ A1 = [Ow (Kd.int .u8) 5 u0 r]) := by
  unfold spec_l3PutSlot.f at H
  refine Law.intro Try.func125 rfl [(0, v1), (1, (.agg #[(.bool x2.Has), (.int .i64 x2.O.Kind), v2, v3]))] (Nat.le_of_ble_eq_true rfl) (enter_lk ⟨rfl, rfl, trivial⟩) (fun e a hS hF => ?_)
  have hF : Fr 20 a [(0, v1), (1, (.agg #[(.bool x2.Has), (.int .i64 x2.O.Kind), v2, v3]))] := hF
  refine sq ?_
  refine rg ?_
  refine ste hF (e_box (cs := [(.bool x2.Has), (.int .i64 x2.O.Kind), v2, v3]) hS rfl rfl) (by decide) (fun v w a hR hF => ?_)
  obtain ⟨g1, rfl, hS⟩ := hR
  refine stp hF (p_assign rfl) (by decide) (fun a hF => ?_)
  refine nilN ?_
  refine xn ?_
  refine sq ?_
  refine sq ?_
  refine rg ?_
  refine stp hF (p_fldb (o' := 0) rfl fi_38_0 rfl) (by decide) (fun a hF => ?_)
  refine stp hF (p_ldb_one (i := 0) hS rfl rfl ia_4 rfl) (by decide) (fun a hF => ?_)
  refine stp hF (p_not rfl) (by decide) (fun a hF => ?_)
  refine nilN ?_
  refine xn ?_
  refine cnd hF rfl (fun hc1 => ?_) (fun hc1 => ?_)
  · replace H := hbt hc1 H
    refine sq ?_
    refine rg ?_
    refine stp hF (p_move rfl) (by decide) (fun a hF => ?_)
    obtain ⟨x3, hx1, H⟩ := hb H
    refine ste hF (e_callA (fst := []) (vs := [v1, (.int .i64 0)]) (cap := []) rfl rfl go_63 (St.call (A := []) (B := [pt g1 38 ([(.bool x2.Has), (.int .i64 x2.O.Kind), v2, v3])]) hS (spec_PutInt.spec k _ _ x1 0 v1 h1 _ hx1)) rfl) (by decide) (fun v w a hR hF => ?_)
    obtain ⟨s2, A2, hg1, hS, hR⟩ := hR
    obtain ⟨v4, hv1, rfl⟩ := hR; obtain rfl := hv1.symm
    have hS : St e s2 w [Ow (Kd.int .u8) 5 v4 x3, pt g1 38 ([(.bool x2.Has), (.int .i64 x2.O.Kind), v2, v3])] := hS
    refine stp hF (p_assign rfl) (by decide) (fun a hF => ?_)
    refine nilN ?_
    refine xn ?_
    refine rt ?_
    refine xr ?_
    obtain rfl := hsm H
    replace hS := hS.sel (is := [0]) (A' := [Ow (Kd.int .u8) 5 v4 x3]) rfl
    exact ret1 hF rfl rfl hS ⟨v4, rfl, rfl⟩
  · replace H := hbf hc1 H
    refine skN ?_
    refine xn ?_
    refine sq ?_
    refine rg ?_
    refine stp hF (p_fldb (o' := 1) rfl fi_38_1 rfl) (by decide) (fun a hF => ?_)
    refine stp hF (p_ldb_agg (i := 0) (l := [(.bool x2.Has)]) (m := [(.int .i64 x2.O.Kind), v2, v3]) (r := []) hS rfl rfl ia_36 ti_36 rfl rfl rfl) (by decide) (fun a hF => ?_)
    obtain ⟨x4, hx2, H⟩ := hb H
    refine ste hF (e_callA (fst := []) (vs := [(.agg #[(.int .i64 x2.O.Kind), v2, v3])]) (cap := []) rfl rfl go_62 (St.call (A := []) (B := [pt g1 38 ([(.bool x2.Has), (.int .i64 x2.O.Kind), v2, v3])]) hS (spec_PutObj.spec k _ _ x2.O v2 v3 h2 h3 _ hx2)) rfl) (by decide) (fun v w a hR hF => ?_)
    obtain ⟨s3, A3, hg2, hS, hR⟩ := hR
    obtain ⟨v5, hv2, rfl⟩ := hR; obtain rfl := hv2.symm
    have hS : St e s3 w [Ow (Kd.int .u8) 5 v5 x4, pt g1 38 ([(.bool x2.Has), (.int .i64 x2.O.Kind), v2, v3])] := hS
    refine stp hF (p_assign rfl) (by decide) (fun a hF => ?_)
    refine nilN ?_
    refine xn ?_
    refine sq ?_
    refine rg ?_
    refine stp hF (p_move rfl) (by decide) (fun a hF => ?_)
    refine stp hF (p_move rfl) (by decide) (fun a hF => ?_)
    refine stp hF (p_leno (i := 0) hS rfl un_24 rfl) (by decide) (fun a hF => ?_)
    obtain ⟨x5, hx3, H⟩ := hb H
    refine ste hF (e_callA (fst := []) (vs := [v1, (.int .i64 (x4.length : Int))]) (cap := []) rfl rfl go_63 (St.call (A := []) (B := [Ow (Kd.int .u8) 5 v5 x4, pt g1 38 ([(.bool x2.Has), (.int .i64 x2.O.Kind), v2, v3])]) hS (spec_PutInt.spec k _ _ x1 (x4.length : Int) v1 (h1.mono hg2) _ hx3)) rfl) (by decide) (fun v w a hR hF => ?_)
    obtain ⟨s4, A4, hg3, hS, hR⟩ := hR
    obtain ⟨v6, hv3, rfl⟩ := hR; obtain rfl := hv3.symm
    have hS : St e s4 w [Ow (Kd.int .u8) 5 v6 x5, Ow (Kd.int .u8) 5 v5 x4, pt g1 38 ([(.bool x2.Has), (.int .i64 x2.O.Kind), v2, v3])] := hS
    refine stp hF (p_move rfl) (by decide) (fun a hF => ?_)
    obtain ⟨hq1, H⟩ := hck H
    refine ste hF (e_append (n := 0) hS rfl rfl rfl (hS.src (n := 1) rfl) un_24 ti_5 rfl (by decide) (by decide) (Nat.le_trans (Nat.mul_le_mul_right 1 hq1) (by decide))) (by decide) (fun v7 w a hR hF => ?_)
    have hS : St e s4 w [Ow (Kd.int .u8) 5 v7 (x5 ++ x4), Ow (Kd.int .u8) 5 v5 x4, pt g1 38 ([(.bool x2.Has), (.int .i64 x2.O.Kind), v2, v3])] := hR
    refine stp hF (p_assign rfl) (by decide) (fun a hF => ?_)
    refine nilN ?_
    refine xn ?_
    refine rt ?_
    obtain rfl := hsm H
    replace hS := hS.sel (is := [0]) (A' := [Ow (Kd.int .u8) 5 v7 (x5 ++ x4)]) rfl
    exact ret1 hF rfl rfl hS ⟨v7, rfl, rfl⟩
end Go.Proofs.Ytocknibhajihmaa
