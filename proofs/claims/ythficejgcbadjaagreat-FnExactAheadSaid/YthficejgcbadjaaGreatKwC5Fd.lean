/- Functions of this place as plain functions, and that the machine comes to what they say. Conditions: none. -/
import Derived.Test.YthficejgcbadjaaGreatKwC5Fc
set_option linter.unusedVariables false
set_option linter.unusedSimpArgs false
namespace Go.Proofs.YthficejgcbadjaaGreat
open Go.Kw

def impl_made.c1 (k : Nat) (x1 : Int) (x2 : (List TSlot)) : Option TPage :=
  (some (⟨x1, x2⟩ : TPage))
def impl_made.c2 (k : Nat) (rec_l1 : Int → (List TSlot) → Int → Option (Int × (List TSlot))) (x3 : Int) (x4 : Int) (x5 : (List TSlot)) : Option (Int × (List TSlot)) :=
  (rec_l1 x4 x5 (w64 (x3 + 1)))
def impl_made.c3 (k : Nat) (x6 : TLog) (x3 : Int) (x7 : Int) (x8 : Int) (x9 : (List TSlot)) (x10 : Bool) : Option (Int × (List TSlot)) :=
  (if (x10 && (decide ((w64 (((rd x6.Recs x3).Oid).tdiv 4)) = x7))) = true then ((impl_Redo.f k (⟨x8, x9⟩ : TPage) (⟨(rd x6.Recs x3).Lsn, (rd x6.Recs x3).Tx, (rd x6.Recs x3).Prev, (rd x6.Recs x3).Kind, (rd x6.Recs x3).Oid, (⟨((rd x6.Recs x3).Before).Has, (⟨(((rd x6.Recs x3).Before).O).Kind, (((rd x6.Recs x3).Before).O).Ints, (((rd x6.Recs x3).Before).O).Refs⟩ : TObj)⟩ : TSlot), (⟨((rd x6.Recs x3).After).Has, (⟨(((rd x6.Recs x3).After).O).Kind, (((rd x6.Recs x3).After).O).Ints, (((rd x6.Recs x3).After).O).Refs⟩ : TObj)⟩ : TSlot), (rd x6.Recs x3).Next, (rd x6.Recs x3).Txs⟩ : TRec)).bind fun x11 => (some (x11.1.Lsn, x11.1.Slots))) else (some (x8, x9)))
def impl_made.l1 (x6 : TLog) (x12 : Int) (x7 : Int) : Nat → Int → (List TSlot) → Int → Option (Int × (List TSlot))
  | 0, _, _, _ => none
  | k + 1, x8, x9, x3 => (if (decide (x3 < (x6.Recs.length : Int))) = true then (((if 0 ≤ x3 ∧ x3 < (x6.Recs.length : Int) then ((if (decide (((rd x6.Recs x3).Lsn) ≤ x12)) = true then ((impl_changes.f k (⟨(rd x6.Recs x3).Lsn, (rd x6.Recs x3).Tx, (rd x6.Recs x3).Prev, (rd x6.Recs x3).Kind, (rd x6.Recs x3).Oid, (⟨((rd x6.Recs x3).Before).Has, (⟨(((rd x6.Recs x3).Before).O).Kind, (((rd x6.Recs x3).Before).O).Ints, (((rd x6.Recs x3).Before).O).Refs⟩ : TObj)⟩ : TSlot), (⟨((rd x6.Recs x3).After).Has, (⟨(((rd x6.Recs x3).After).O).Kind, (((rd x6.Recs x3).After).O).Ints, (((rd x6.Recs x3).After).O).Refs⟩ : TObj)⟩ : TSlot), (rd x6.Recs x3).Next, (rd x6.Recs x3).Txs⟩ : TRec)).bind fun x13 => (some x13)) else (some false) : Option Bool).bind fun x14 => impl_made.c3 k x6 x3 x7 x8 x9 x14) else none) : Option (Int × (List TSlot))).bind fun x15 => impl_made.c2 k (impl_made.l1 x6 x12 x7 k) x3 x15.1 x15.2) else (some (x8, x9)))
def impl_made.f (k : Nat) (x6 : TLog) (x7 : Int) (x12 : Int) : Option TPage :=
  ((impl_emptyPage.f k).bind fun x16 => (((impl_made.l1 x6 x12 x7 k x16.Lsn x16.Slots 0) : Option (Int × (List TSlot))).bind fun x17 => impl_made.c1 k x17.1 x17.2))
set_option maxRecDepth 100000 in
set_option maxHeartbeats 4000000 in
theorem impl_made.spec (k : Nat) (s0 : HF) (w : World) (x6 : TLog) (x7 : Int) (x12 : Int) (v1 : Value) (h1 : Sl kTRec s0 v1 x6.Recs) (r : TPage) (H : impl_made.f k x6 x7 x12 = some r) :
    Law Tryz.prog 48 #[(.agg #[v1, (.int .i64 x6.Sure)]), (.int .i64 x7), (.int .i64 x12)] s0 w [] (fun v s1 A1 => ∃ (u0 : List Value), v = (.agg ([(.int .i64 r.Lsn)] ++ u0 : List Value).toArray) ∧ A1 = [] ∧ ((Kd.arr 4 kTSlot)).K s1 r.Slots u0) := by
  unfold impl_made.f at H
  refine Law.intro Tryz.func48 rfl [(0, (.agg #[v1, (.int .i64 x6.Sure)])), (1, (.int .i64 x7)), (2, (.int .i64 x12))] (Nat.le_of_ble_eq_true rfl) (enter_lk ⟨rfl, rfl, rfl, trivial⟩) (fun e a hS hF => ?_)
  have hF : Fr 41 a [(0, (.agg #[v1, (.int .i64 x6.Sure)])), (1, (.int .i64 x7)), (2, (.int .i64 x12))] := hF
  refine sq ?_
  refine rg ?_
  refine ste hF (e_box (cs := [v1, (.int .i64 x6.Sure)]) hS rfl rfl) (by decide) (fun v w a hR hF => ?_)
  obtain ⟨g1, rfl, hS⟩ := hR
  refine ste hF (e_alloc (cs := [(.int .i64 0)] ++ za_46) hS ti_48 rfl) (by decide) (fun v w a hR hF => ?_)
  obtain ⟨g2, rfl, hS⟩ := hR
  refine nilN ?_
  refine xn ?_
  refine sq ?_
  refine rg ?_
  obtain ⟨x16, hx1, H⟩ := hb H
  refine ste hF (e_callA (fst := []) (vs := []) (cap := []) rfl rfl go_122 (St.call (A := []) (B := [pt g2 48 ([(.int .i64 0)] ++ za_46), pt g1 55 ([v1, (.int .i64 x6.Sure)])]) hS (impl_emptyPage.spec k _ _  _ hx1)) rfl) (by decide) (fun v w a hR hF => ?_)
  obtain ⟨s2, A2, hg1, hS, hR⟩ := hR
  obtain ⟨c4, hv1, rfl, h2⟩ := hR; obtain rfl := hv1.symm
  have hS : St e s2 w [pt g2 48 ([(.int .i64 0)] ++ za_46), pt g1 55 ([v1, (.int .i64 x6.Sure)])] := hS
  refine ste hF (e_alloc (cs := [(.int .i64 0)] ++ za_46) hS ti_48 rfl) (by decide) (fun v w a hR hF => ?_)
  obtain ⟨g3, rfl, hS⟩ := hR
  refine ste0 hF (e_stb (i := 0) (l := []) (m := [(.int .i64 0)] ++ za_46) (r := []) (m' := [(.int .i64 x16.Lsn)] ++ c4) (cs' := [(.int .i64 x16.Lsn)] ++ c4) hS rfl rfl rfl ti_48 (by simp) (by simp [zl_46, (show c4.length = 16 from Kd.len _ h2)]) (by simp [zl_46, (show c4.length = 16 from Kd.len _ h2)]) rfl (by simp [zl_46, (show c4.length = 16 from Kd.len _ h2)]) (one_app (one_cons rfl one_nil) (Kd.one _ h2)) (by simp)) (fun v w a hR hF => ?_)
  have hS : St e s2 w [pt g3 48 ([(.int .i64 x16.Lsn)] ++ c4), pt g2 48 ([(.int .i64 0)] ++ za_46), pt g1 55 ([v1, (.int .i64 x6.Sure)])] := hR
  refine nilN ?_
  refine xn ?_
  obtain ⟨x17, H, HK1⟩ := hb H
  refine sqj (fun a w => ∃ (x1 : Int) (x2 : (List TSlot)) (s3 : HF) (c5 : List Value) , St e s3 w [pt g3 48 ([(.int .i64 x1)] ++ c5), pt g2 48 ([(.int .i64 0)] ++ za_46), pt g1 55 ([v1, (.int .i64 x6.Sure)])] ∧ Fr 41 a [(6, (.pointer (some ⟨g2, 0, none⟩))), (7, (.pointer (some ⟨g3, 0, none⟩)))] ∧ Sub s2 s3 ∧ ((Kd.arr 4 kTSlot)).K s3 x2 c5 ∧ impl_made.c1 k x1 x2 = some r) ?_ ?_
  · skip
    refine sq ?_
    refine rg ?_
    refine stp hF (p_fldb (o' := 0) rfl fi_55_0 rfl) (by decide) (fun a hF => ?_)
    refine stp hF (p_ldb_one (i := 2) hS rfl rfl ia_53 rfl) (by decide) (fun a hF => ?_)
    refine stp hF (p_lenr un_53 rfl (h1.mono hg1)) (by decide) (fun a hF => ?_)
    refine stp hF (p_move rfl) (by decide) (fun a hF => ?_)
    refine nilN ?_
    refine xn ?_
    refine blk ?_
    refine loop_ind (fun k1 a w => ∃ (x8 : Int) (x9 : (List TSlot)) (x3 : Int) (s4 : HF) (c6 : List Value) , St e s4 w [pt g3 48 ([(.int .i64 x8)] ++ c6), pt g2 48 ([(.int .i64 0)] ++ za_46), pt g1 55 ([v1, (.int .i64 x6.Sure)])] ∧ Fr 41 a [(1, (.int .i64 x7)), (2, (.int .i64 x12)), (6, (.pointer (some ⟨g2, 0, none⟩))), (7, (.pointer (some ⟨g3, 0, none⟩))), (12, v1), (13, (.int .i64 (x6.Recs.length : Int))), (14, (.int .i64 x3))] ∧ Sub s2 s4 ∧ ((Kd.arr 4 kTSlot)).K s4 x9 c6 ∧ impl_made.l1 x6 x12 x7 k1 x8 x9 x3 = some x17) k ?_ ?_ ?_
    · skip
      exact ⟨x16.Lsn, x16.Slots, 0, s2, c4, hS, hF.cut ⟨rfl, rfl, rfl, rfl, rfl, rfl, rfl, trivial⟩, (Sub.refl _), h2, H⟩
    · clear H hS hF
      rintro a w ⟨x8, x9, x3, s4, c6, hS, hF, hg2, h3, H⟩
      exact absurd (show none = some _ from H) (by simp)
    · clear H hS hF
      rintro k1 a w ⟨x8, x9, x3, s4, c6, hS, hF, hg2, h3, H⟩
      rw [impl_made.l1.eq_2] at H
      refine sq ?_
      refine rg ?_
      refine stp hF (p_lss rfl rfl) (by decide) (fun a hF => ?_)
      refine nilN ?_
      refine xn ?_
      refine sq ?_
      refine cnd hF rfl (fun hc1 => ?_) (fun hc1 => ?_)
      · replace H := hbt hc1 H
        refine skN ?_
        refine xn ?_
        obtain ⟨x15, H, HK2⟩ := hb H
        refine sqj (fun a w => ∃ (x4 : Int) (x5 : (List TSlot)) (s5 : HF) (c7 : List Value) , St e s5 w [pt g3 48 ([(.int .i64 x4)] ++ c7), pt g2 48 ([(.int .i64 0)] ++ za_46), pt g1 55 ([v1, (.int .i64 x6.Sure)])] ∧ Fr 41 a [(1, (.int .i64 x7)), (2, (.int .i64 x12)), (6, (.pointer (some ⟨g2, 0, none⟩))), (7, (.pointer (some ⟨g3, 0, none⟩))), (12, v1), (13, (.int .i64 (x6.Recs.length : Int))), (14, (.int .i64 x3))] ∧ Sub s4 s5 ∧ ((Kd.arr 4 kTSlot)).K s5 x5 c7 ∧ impl_made.c2 k1 (impl_made.l1 x6 x12 x7 k1) x3 x4 x5 = some x17) ?_ ?_
        · skip
          refine blk ?_
          refine sq ?_
          refine rg ?_
          obtain ⟨hq1, H⟩ := hck H
          obtain ⟨ad1, h4, p1⟩ := p_idxr (P := Tryz.prog) (i := x3) ((h1.mono hg1).mono hg2) un_53 ti_162 hq1.1 hq1.2
          refine stp hF (p1 rfl rfl) (by decide) (fun a hF => ?_)
          obtain ⟨c8, h5, p2⟩ := p_ldr_agg (P := Tryz.prog) h4 ia_162 ti_162
          obtain ⟨v2, v3, v4, v5, v6, rfl, h6, h7, h8, h9, h10⟩ := kTRec_open h5
          refine stp hF (p2 rfl hS.ro) (by decide) (fun a hF => ?_)
          refine ste hF (e_alloc (cs := [(.int .i64 0), (.int .i64 0), (.int .i64 0), (.int .i64 0), (.int .i64 0), (.bool false), (.int .i64 0), (.slice none 0 0), (.slice none 0 0), (.bool false), (.int .i64 0), (.slice none 0 0), (.slice none 0 0), (.int .i64 0), (.slice none 0 0)]) hS ti_162 rfl) (by decide) (fun v w a hR hF => ?_)
          obtain ⟨g4, rfl, hS⟩ := hR
          refine ste0 hF (e_stb (i := 0) (l := []) (m := [(.int .i64 0), (.int .i64 0), (.int .i64 0), (.int .i64 0), (.int .i64 0), (.bool false), (.int .i64 0), (.slice none 0 0), (.slice none 0 0), (.bool false), (.int .i64 0), (.slice none 0 0), (.slice none 0 0), (.int .i64 0), (.slice none 0 0)]) (r := []) (m' := [(.int .i64 ((rd x6.Recs x3).Lsn)), (.int .i64 ((rd x6.Recs x3).Tx)), (.int .i64 ((rd x6.Recs x3).Prev)), (.int .i64 ((rd x6.Recs x3).Kind)), (.int .i64 ((rd x6.Recs x3).Oid)), (.bool (((rd x6.Recs x3).Before).Has)), (.int .i64 ((((rd x6.Recs x3).Before).O).Kind)), v2, v3, (.bool (((rd x6.Recs x3).After).Has)), (.int .i64 ((((rd x6.Recs x3).After).O).Kind)), v4, v5, (.int .i64 ((rd x6.Recs x3).Next)), v6]) (cs' := [(.int .i64 ((rd x6.Recs x3).Lsn)), (.int .i64 ((rd x6.Recs x3).Tx)), (.int .i64 ((rd x6.Recs x3).Prev)), (.int .i64 ((rd x6.Recs x3).Kind)), (.int .i64 ((rd x6.Recs x3).Oid)), (.bool (((rd x6.Recs x3).Before).Has)), (.int .i64 ((((rd x6.Recs x3).Before).O).Kind)), v2, v3, (.bool (((rd x6.Recs x3).After).Has)), (.int .i64 ((((rd x6.Recs x3).After).O).Kind)), v4, v5, (.int .i64 ((rd x6.Recs x3).Next)), v6]) hS rfl rfl rfl ti_162 rfl rfl rfl rfl rfl (one_cons rfl (one_cons rfl (one_cons rfl (one_cons rfl (one_cons rfl (one_cons rfl (one_cons rfl (one_cons (one_sl h6) (one_cons (one_sl h7) (one_cons rfl (one_cons rfl (one_cons (one_sl h8) (one_cons (one_sl h9) (one_cons rfl (one_cons (one_sl h10) one_nil))))))))))))))) rfl) (fun v w a hR hF => ?_)
          have hS : St e s4 w [pt g4 162 ([(.int .i64 ((rd x6.Recs x3).Lsn)), (.int .i64 ((rd x6.Recs x3).Tx)), (.int .i64 ((rd x6.Recs x3).Prev)), (.int .i64 ((rd x6.Recs x3).Kind)), (.int .i64 ((rd x6.Recs x3).Oid)), (.bool (((rd x6.Recs x3).Before).Has)), (.int .i64 ((((rd x6.Recs x3).Before).O).Kind)), v2, v3, (.bool (((rd x6.Recs x3).After).Has)), (.int .i64 ((((rd x6.Recs x3).After).O).Kind)), v4, v5, (.int .i64 ((rd x6.Recs x3).Next)), v6]), pt g3 48 ([(.int .i64 x8)] ++ c6), pt g2 48 ([(.int .i64 0)] ++ za_46), pt g1 55 ([v1, (.int .i64 x6.Sure)])] := hR
          refine nilN ?_
          refine xn ?_
          refine sq ?_
          refine rg ?_
          refine stp hF (p_fldb (o' := 0) rfl fi_162_0 rfl) (by decide) (fun a hF => ?_)
          refine stp hF (p_ldb_one (i := 0) hS rfl rfl ia_3 rfl) (by decide) (fun a hF => ?_)
          refine stp hF (p_move rfl) (by decide) (fun a hF => ?_)
          refine stp hF (p_leq rfl rfl) (by decide) (fun a hF => ?_)
          refine stp hF (p_move rfl) (by decide) (fun a hF => ?_)
          obtain ⟨x14, H, HK3⟩ := hb H
          refine cutj 3 (fun a w => ∃ (x10 : Bool) (s6 : HF) , St e s6 w [pt g4 162 ([(.int .i64 ((rd x6.Recs x3).Lsn)), (.int .i64 ((rd x6.Recs x3).Tx)), (.int .i64 ((rd x6.Recs x3).Prev)), (.int .i64 ((rd x6.Recs x3).Kind)), (.int .i64 ((rd x6.Recs x3).Oid)), (.bool (((rd x6.Recs x3).Before).Has)), (.int .i64 ((((rd x6.Recs x3).Before).O).Kind)), v2, v3, (.bool (((rd x6.Recs x3).After).Has)), (.int .i64 ((((rd x6.Recs x3).After).O).Kind)), v4, v5, (.int .i64 ((rd x6.Recs x3).Next)), v6]), pt g3 48 ([(.int .i64 x8)] ++ c6), pt g2 48 ([(.int .i64 0)] ++ za_46), pt g1 55 ([v1, (.int .i64 x6.Sure)])] ∧ Fr 41 a [(1, (.int .i64 x7)), (2, (.int .i64 x12)), (6, (.pointer (some ⟨g2, 0, none⟩))), (7, (.pointer (some ⟨g3, 0, none⟩))), (9, (.pointer (some ⟨g4, 0, none⟩))), (12, v1), (13, (.int .i64 (x6.Recs.length : Int))), (14, (.int .i64 x3)), (25, (.bool x10))] ∧ Sub s4 s6 ∧ impl_made.c3 k1 x6 x3 x7 x8 x9 x10 = some x15) rfl rfl ?_ ?_
          · rcases Bool.eq_false_or_eq_true (decide (((rd x6.Recs x3).Lsn) ≤ x12)) with hc2 | hc2
            · replace H := hbt hc2 H
              refine gonE (j := 4) hF rfl rfl hc2 ?_
              refine stp hF (p_ldb_agg (i := 0) (l := []) (m := [(.int .i64 ((rd x6.Recs x3).Lsn)), (.int .i64 ((rd x6.Recs x3).Tx)), (.int .i64 ((rd x6.Recs x3).Prev)), (.int .i64 ((rd x6.Recs x3).Kind)), (.int .i64 ((rd x6.Recs x3).Oid)), (.bool (((rd x6.Recs x3).Before).Has)), (.int .i64 ((((rd x6.Recs x3).Before).O).Kind)), v2, v3, (.bool (((rd x6.Recs x3).After).Has)), (.int .i64 ((((rd x6.Recs x3).After).O).Kind)), v4, v5, (.int .i64 ((rd x6.Recs x3).Next)), v6]) (r := []) hS rfl rfl ia_162 ti_162 rfl rfl rfl) (by decide) (fun a hF => ?_)
              obtain ⟨x13, hx2, H⟩ := hb H
              refine gonE (j := 4) hF rfl rfl hc2 ?_
              refine ste hF (e_callA (fst := []) (vs := [(.agg #[(.int .i64 ((rd x6.Recs x3).Lsn)), (.int .i64 ((rd x6.Recs x3).Tx)), (.int .i64 ((rd x6.Recs x3).Prev)), (.int .i64 ((rd x6.Recs x3).Kind)), (.int .i64 ((rd x6.Recs x3).Oid)), (.bool (((rd x6.Recs x3).Before).Has)), (.int .i64 ((((rd x6.Recs x3).Before).O).Kind)), v2, v3, (.bool (((rd x6.Recs x3).After).Has)), (.int .i64 ((((rd x6.Recs x3).After).O).Kind)), v4, v5, (.int .i64 ((rd x6.Recs x3).Next)), v6])]) (cap := []) rfl rfl go_123 (St.call (A := []) (B := [pt g4 162 ([(.int .i64 ((rd x6.Recs x3).Lsn)), (.int .i64 ((rd x6.Recs x3).Tx)), (.int .i64 ((rd x6.Recs x3).Prev)), (.int .i64 ((rd x6.Recs x3).Kind)), (.int .i64 ((rd x6.Recs x3).Oid)), (.bool (((rd x6.Recs x3).Before).Has)), (.int .i64 ((((rd x6.Recs x3).Before).O).Kind)), v2, v3, (.bool (((rd x6.Recs x3).After).Has)), (.int .i64 ((((rd x6.Recs x3).After).O).Kind)), v4, v5, (.int .i64 ((rd x6.Recs x3).Next)), v6]), pt g3 48 ([(.int .i64 x8)] ++ c6), pt g2 48 ([(.int .i64 0)] ++ za_46), pt g1 55 ([v1, (.int .i64 x6.Sure)])]) hS (impl_changes.spec k1 _ _ (⟨(rd x6.Recs x3).Lsn, (rd x6.Recs x3).Tx, (rd x6.Recs x3).Prev, (rd x6.Recs x3).Kind, (rd x6.Recs x3).Oid, (⟨((rd x6.Recs x3).Before).Has, (⟨(((rd x6.Recs x3).Before).O).Kind, (((rd x6.Recs x3).Before).O).Ints, (((rd x6.Recs x3).Before).O).Refs⟩ : TObj)⟩ : TSlot), (⟨((rd x6.Recs x3).After).Has, (⟨(((rd x6.Recs x3).After).O).Kind, (((rd x6.Recs x3).After).O).Ints, (((rd x6.Recs x3).After).O).Refs⟩ : TObj)⟩ : TSlot), (rd x6.Recs x3).Next, (rd x6.Recs x3).Txs⟩ : TRec) v2 v3 v4 v5 v6 h6 h7 h8 h9 h10 _ hx2)) rfl) (by decide) (fun v w a hR hF => ?_)
              obtain ⟨s7, A3, hg3, hS, hR⟩ := hR
              obtain ⟨hv2, rfl⟩ := hR; obtain rfl := hv2.symm
              have hS : St e s7 w [pt g4 162 ([(.int .i64 ((rd x6.Recs x3).Lsn)), (.int .i64 ((rd x6.Recs x3).Tx)), (.int .i64 ((rd x6.Recs x3).Prev)), (.int .i64 ((rd x6.Recs x3).Kind)), (.int .i64 ((rd x6.Recs x3).Oid)), (.bool (((rd x6.Recs x3).Before).Has)), (.int .i64 ((((rd x6.Recs x3).Before).O).Kind)), v2, v3, (.bool (((rd x6.Recs x3).After).Has)), (.int .i64 ((((rd x6.Recs x3).After).O).Kind)), v4, v5, (.int .i64 ((rd x6.Recs x3).Next)), v6]), pt g3 48 ([(.int .i64 x8)] ++ c6), pt g2 48 ([(.int .i64 0)] ++ za_46), pt g1 55 ([v1, (.int .i64 x6.Sure)])] := hS
              refine stp hF (p_pickT rfl hc2 rfl) (by decide) (fun a hF => ?_)
              refine nilN ?_
              refine xn ?_
              obtain rfl := hsm H
              exact ⟨x13, s7, hS, hF.cut ⟨rfl, rfl, rfl, rfl, rfl, rfl, rfl, rfl, rfl, trivial⟩, hg3, HK3⟩
            · replace H := hbf hc2 H
              refine gofD (j := 4) hF rfl rfl (by rw [hc2]; decide) (by decide) (fun a hF => ?_)
              refine gofD (j := 4) hF rfl rfl (by rw [hc2]; decide) (by decide) (fun a hF => ?_)
              refine stp hF (p_pickF rfl hc2 rfl) (by decide) (fun a hF => ?_)
              refine nilN ?_
              refine xn ?_
              obtain rfl := hsm H
              exact ⟨false, s4, hS, hF.cut ⟨rfl, rfl, rfl, rfl, rfl, rfl, rfl, rfl, rfl, trivial⟩, (Sub.refl _), HK3⟩
          · clear H HK3 hS hF
            rintro a w ⟨x10, s6, hS, hF, hg4, H⟩
            unfold impl_made.c3 at H
            refine stp hF (p_move rfl) (by decide) (fun a hF => ?_)
            refine cutj 6 (fun a w => St e s6 w [pt g4 162 ([(.int .i64 ((rd x6.Recs x3).Lsn)), (.int .i64 ((rd x6.Recs x3).Tx)), (.int .i64 ((rd x6.Recs x3).Prev)), (.int .i64 ((rd x6.Recs x3).Kind)), (.int .i64 ((rd x6.Recs x3).Oid)), (.bool (((rd x6.Recs x3).Before).Has)), (.int .i64 ((((rd x6.Recs x3).Before).O).Kind)), v2, v3, (.bool (((rd x6.Recs x3).After).Has)), (.int .i64 ((((rd x6.Recs x3).After).O).Kind)), v4, v5, (.int .i64 ((rd x6.Recs x3).Next)), v6]), pt g3 48 ([(.int .i64 x8)] ++ c6), pt g2 48 ([(.int .i64 0)] ++ za_46), pt g1 55 ([v1, (.int .i64 x6.Sure)])] ∧ Fr 41 a [(1, (.int .i64 x7)), (2, (.int .i64 x12)), (6, (.pointer (some ⟨g2, 0, none⟩))), (7, (.pointer (some ⟨g3, 0, none⟩))), (9, (.pointer (some ⟨g4, 0, none⟩))), (12, v1), (13, (.int .i64 (x6.Recs.length : Int))), (14, (.int .i64 x3)), (32, (.bool (x10 && (decide ((w64 (((rd x6.Recs x3).Oid).tdiv 4)) = x7)))))]) rfl rfl ?_ ?_
            · rcases Bool.eq_false_or_eq_true (x10) with hc3 | hc3
              · skip
                refine gonE (j := 8) hF rfl rfl hc3 ?_
                refine stp hF (p_fldb (o' := 4) rfl fi_162_4 rfl) (by decide) (fun a hF => ?_)
                refine gonE (j := 8) hF rfl rfl hc3 ?_
                refine stp hF (p_ldb_one (i := 0) hS rfl rfl ia_3 rfl) (by decide) (fun a hF => ?_)
                refine gonE (j := 8) hF rfl rfl hc3 ?_
                refine stp hF (p_quo (c := w64 (((rd x6.Recs x3).Oid).tdiv 4)) rfl rfl (by decide) rfl) (by decide) (fun a hF => ?_)
                refine gonE (j := 8) hF rfl rfl hc3 ?_
                refine stp hF (p_move rfl) (by decide) (fun a hF => ?_)
                refine gonE (j := 8) hF rfl rfl hc3 ?_
                refine stp hF (p_eql rfl rfl) (by decide) (fun a hF => ?_)
                refine stp hF (p_andT rfl hc3 rfl) (by decide) (fun a hF => ?_)
                refine nilN ?_
                refine xn ?_
                exact ⟨hS, hF.cut ⟨rfl, rfl, rfl, rfl, rfl, rfl, rfl, rfl, rfl, trivial⟩⟩
              · skip
                refine gofD (j := 8) hF rfl rfl (by rw [hc3]; decide) (by decide) (fun a hF => ?_)
                refine gofD (j := 8) hF rfl rfl (by rw [hc3]; decide) (by decide) (fun a hF => ?_)
                refine gofD (j := 8) hF rfl rfl (by rw [hc3]; decide) (by decide) (fun a hF => ?_)
                refine gofD (j := 8) hF rfl rfl (by rw [hc3]; decide) (by decide) (fun a hF => ?_)
                refine gofD (j := 8) hF rfl rfl (by rw [hc3]; decide) (by decide) (fun a hF => ?_)
                refine stp hF (p_andF (decide ((w64 (((rd x6.Recs x3).Oid).tdiv 4)) = x7)) rfl hc3 rfl) (by decide) (fun a hF => ?_)
                refine nilN ?_
                refine xn ?_
                exact ⟨hS, hF.cut ⟨rfl, rfl, rfl, rfl, rfl, rfl, rfl, rfl, rfl, trivial⟩⟩
            clear hS hF
            rintro a w ⟨hS, hF⟩
            refine nilN ?_
            refine xn ?_
            refine cnd hF rfl (fun hc4 => ?_) (fun hc4 => ?_)
            · replace H := hbt hc4 H
              refine rg ?_
              refine stp hF (p_ldb_agg (i := 1) (l := []) (m := [(.int .i64 x8)] ++ c6) (r := []) hS rfl rfl ia_48 ti_48 (by simp) (by simp [(show c6.length = 16 from Kd.len _ ((Kd.arr 4 kTSlot).mono hg4 h3))]) (by simp [(show c6.length = 16 from Kd.len _ ((Kd.arr 4 kTSlot).mono hg4 h3))])) (by decide) (fun a hF => ?_)
              refine stp hF (p_ldb_agg (i := 0) (l := []) (m := [(.int .i64 ((rd x6.Recs x3).Lsn)), (.int .i64 ((rd x6.Recs x3).Tx)), (.int .i64 ((rd x6.Recs x3).Prev)), (.int .i64 ((rd x6.Recs x3).Kind)), (.int .i64 ((rd x6.Recs x3).Oid)), (.bool (((rd x6.Recs x3).Before).Has)), (.int .i64 ((((rd x6.Recs x3).Before).O).Kind)), v2, v3, (.bool (((rd x6.Recs x3).After).Has)), (.int .i64 ((((rd x6.Recs x3).After).O).Kind)), v4, v5, (.int .i64 ((rd x6.Recs x3).Next)), v6]) (r := []) hS rfl rfl ia_162 ti_162 rfl rfl rfl) (by decide) (fun a hF => ?_)
              obtain ⟨x11, hx3, H⟩ := hb H
              refine ste hF (e_callA (fst := []) (vs := [(.agg ([(.int .i64 x8)] ++ c6 : List Value).toArray), (.agg #[(.int .i64 ((rd x6.Recs x3).Lsn)), (.int .i64 ((rd x6.Recs x3).Tx)), (.int .i64 ((rd x6.Recs x3).Prev)), (.int .i64 ((rd x6.Recs x3).Kind)), (.int .i64 ((rd x6.Recs x3).Oid)), (.bool (((rd x6.Recs x3).Before).Has)), (.int .i64 ((((rd x6.Recs x3).Before).O).Kind)), v2, v3, (.bool (((rd x6.Recs x3).After).Has)), (.int .i64 ((((rd x6.Recs x3).After).O).Kind)), v4, v5, (.int .i64 ((rd x6.Recs x3).Next)), v6])]) (cap := []) rfl rfl go_124 (St.call (A := []) (B := [pt g4 162 ([(.int .i64 ((rd x6.Recs x3).Lsn)), (.int .i64 ((rd x6.Recs x3).Tx)), (.int .i64 ((rd x6.Recs x3).Prev)), (.int .i64 ((rd x6.Recs x3).Kind)), (.int .i64 ((rd x6.Recs x3).Oid)), (.bool (((rd x6.Recs x3).Before).Has)), (.int .i64 ((((rd x6.Recs x3).Before).O).Kind)), v2, v3, (.bool (((rd x6.Recs x3).After).Has)), (.int .i64 ((((rd x6.Recs x3).After).O).Kind)), v4, v5, (.int .i64 ((rd x6.Recs x3).Next)), v6]), pt g3 48 ([(.int .i64 x8)] ++ c6), pt g2 48 ([(.int .i64 0)] ++ za_46), pt g1 55 ([v1, (.int .i64 x6.Sure)])]) hS (impl_Redo.spec k1 _ _ (⟨x8, x9⟩ : TPage) (⟨(rd x6.Recs x3).Lsn, (rd x6.Recs x3).Tx, (rd x6.Recs x3).Prev, (rd x6.Recs x3).Kind, (rd x6.Recs x3).Oid, (⟨((rd x6.Recs x3).Before).Has, (⟨(((rd x6.Recs x3).Before).O).Kind, (((rd x6.Recs x3).Before).O).Ints, (((rd x6.Recs x3).Before).O).Refs⟩ : TObj)⟩ : TSlot), (⟨((rd x6.Recs x3).After).Has, (⟨(((rd x6.Recs x3).After).O).Kind, (((rd x6.Recs x3).After).O).Ints, (((rd x6.Recs x3).After).O).Refs⟩ : TObj)⟩ : TSlot), (rd x6.Recs x3).Next, (rd x6.Recs x3).Txs⟩ : TRec) c6 v2 v3 v4 v5 v6 ((Kd.arr 4 kTSlot).mono hg4 h3) (h6.mono hg4) (h7.mono hg4) (h8.mono hg4) (h9.mono hg4) (h10.mono hg4) _ hx3)) rfl) (by decide) (fun v w a hR hF => ?_)
              obtain ⟨s8, A4, hg5, hS, hR⟩ := hR
              obtain ⟨c9, hv3, rfl, h11⟩ := hR; obtain rfl := hv3.symm
              have hS : St e s8 w [pt g4 162 ([(.int .i64 ((rd x6.Recs x3).Lsn)), (.int .i64 ((rd x6.Recs x3).Tx)), (.int .i64 ((rd x6.Recs x3).Prev)), (.int .i64 ((rd x6.Recs x3).Kind)), (.int .i64 ((rd x6.Recs x3).Oid)), (.bool (((rd x6.Recs x3).Before).Has)), (.int .i64 ((((rd x6.Recs x3).Before).O).Kind)), v2, v3, (.bool (((rd x6.Recs x3).After).Has)), (.int .i64 ((((rd x6.Recs x3).After).O).Kind)), v4, v5, (.int .i64 ((rd x6.Recs x3).Next)), v6]), pt g3 48 ([(.int .i64 x8)] ++ c6), pt g2 48 ([(.int .i64 0)] ++ za_46), pt g1 55 ([v1, (.int .i64 x6.Sure)])] := hS
              refine stp hF (p_move rfl) (by decide) (fun a hF => ?_)
              refine stp hF (p_extract rfl rfl) (by decide) (fun a hF => ?_)
              refine stp hF (p_extract rfl rfl) (by decide) (fun a hF => ?_)
              refine ste0 hF (e_stb (i := 1) (l := []) (m := [(.int .i64 x8)] ++ c6) (r := []) (m' := [(.int .i64 x11.1.Lsn)] ++ c9) (cs' := [(.int .i64 x11.1.Lsn)] ++ c9) hS rfl rfl rfl ti_48 (by simp) (by simp [(show c6.length = 16 from Kd.len _ ((Kd.arr 4 kTSlot).mono hg5 ((Kd.arr 4 kTSlot).mono hg4 h3))), (show c9.length = 16 from Kd.len _ h11)]) (by simp [(show c6.length = 16 from Kd.len _ ((Kd.arr 4 kTSlot).mono hg5 ((Kd.arr 4 kTSlot).mono hg4 h3))), (show c9.length = 16 from Kd.len _ h11)]) rfl (by simp [(show c6.length = 16 from Kd.len _ ((Kd.arr 4 kTSlot).mono hg5 ((Kd.arr 4 kTSlot).mono hg4 h3))), (show c9.length = 16 from Kd.len _ h11)]) (one_app (one_cons rfl one_nil) (Kd.one _ h11)) (by simp)) (fun v w a hR hF => ?_)
              have hS : St e s8 w [pt g3 48 ([(.int .i64 x11.1.Lsn)] ++ c9), pt g4 162 ([(.int .i64 ((rd x6.Recs x3).Lsn)), (.int .i64 ((rd x6.Recs x3).Tx)), (.int .i64 ((rd x6.Recs x3).Prev)), (.int .i64 ((rd x6.Recs x3).Kind)), (.int .i64 ((rd x6.Recs x3).Oid)), (.bool (((rd x6.Recs x3).Before).Has)), (.int .i64 ((((rd x6.Recs x3).Before).O).Kind)), v2, v3, (.bool (((rd x6.Recs x3).After).Has)), (.int .i64 ((((rd x6.Recs x3).After).O).Kind)), v4, v5, (.int .i64 ((rd x6.Recs x3).Next)), v6]), pt g2 48 ([(.int .i64 0)] ++ za_46), pt g1 55 ([v1, (.int .i64 x6.Sure)])] := hR
              refine nilN ?_
              refine bn (xn ?_)
              obtain rfl := hsm H
              replace hS := hS.sel (is := [0, 1, 1]) (A' := [pt g3 48 ([(.int .i64 x11.1.Lsn)] ++ c9), pt g2 48 ([(.int .i64 0)] ++ za_46), pt g1 55 ([v1, (.int .i64 x6.Sure)])]) rfl
              exact ⟨x11.1.Lsn, x11.1.Slots, s8, c9, hS, hF.cut ⟨rfl, rfl, rfl, rfl, rfl, rfl, rfl, trivial⟩, (hg4.trans hg5), h11, HK2⟩
            · replace H := hbf hc4 H
              refine skN ?_
              refine bn (xn ?_)
              obtain rfl := hsm H
              replace hS := hS.sel (is := [1, 1, 1]) (A' := [pt g3 48 ([(.int .i64 x8)] ++ c6), pt g2 48 ([(.int .i64 0)] ++ za_46), pt g1 55 ([v1, (.int .i64 x6.Sure)])]) rfl
              exact ⟨x8, x9, s6, c6, hS, hF.cut ⟨rfl, rfl, rfl, rfl, rfl, rfl, rfl, trivial⟩, hg4, ((Kd.arr 4 kTSlot).mono hg4 h3), HK2⟩
        · clear H HK2 hS hF
          rintro a w ⟨x4, x5, s5, c7, hS, hF, hg6, h12, H⟩
          unfold impl_made.c2 at H
          refine rg ?_
          refine stp hF (p_add (c := w64 (x3 + 1)) rfl rfl rfl) (by decide) (fun a hF => ?_)
          refine stp hF (p_move rfl) (by decide) (fun a hF => ?_)
          refine nilN ?_
          refine xn ?_
          exact ⟨x4, x5, (w64 (x3 + 1)), s5, c7, hS, hF.cut ⟨rfl, rfl, rfl, rfl, rfl, rfl, rfl, trivial⟩, (hg2.trans hg6), h12, H⟩
      · replace H := hbf hc1 H
        refine exi ?_
        refine xe (xe (hit (xn ?_)))
        obtain rfl := hsm H
        exact ⟨x8, x9, s4, c6, hS, hF.cut ⟨rfl, rfl, trivial⟩, hg2, h3, HK1⟩
  · clear H HK1 hS hF
    rintro a w ⟨x1, x2, s3, c5, hS, hF, hg7, h13, H⟩
    unfold impl_made.c1 at H
    refine sq ?_
    refine rg ?_
    refine stp hF (p_ldb_agg (i := 0) (l := []) (m := [(.int .i64 x1)] ++ c5) (r := []) hS rfl rfl ia_48 ti_48 (by simp) (by simp [(show c5.length = 16 from Kd.len _ h13)]) (by simp [(show c5.length = 16 from Kd.len _ h13)])) (by decide) (fun a hF => ?_)
    refine ste0 hF (e_stb (i := 1) (l := []) (m := [(.int .i64 0)] ++ za_46) (r := []) (m' := [(.int .i64 x1)] ++ c5) (cs' := [(.int .i64 x1)] ++ c5) hS rfl rfl rfl ti_48 (by simp) (by simp [zl_46, (show c5.length = 16 from Kd.len _ h13)]) (by simp [zl_46, (show c5.length = 16 from Kd.len _ h13)]) rfl (by simp [zl_46, (show c5.length = 16 from Kd.len _ h13)]) (one_app (one_cons rfl one_nil) (Kd.one _ h13)) (by simp)) (fun v w a hR hF => ?_)
    have hS : St e s3 w [pt g2 48 ([(.int .i64 x1)] ++ c5), pt g3 48 ([(.int .i64 x1)] ++ c5), pt g1 55 ([v1, (.int .i64 x6.Sure)])] := hR
    refine nilN ?_
    refine xn ?_
    refine rt ?_
    obtain rfl := hsm H
    have h14 : RvOk Tryz.prog _ w (.cell 6 48) _ := rvC (i := 0) hS rfl (show lk [(6, (.pointer (some ⟨g2, 0, none⟩)))] 6 = _ from rfl) ia_48 ti_48 (by simp [(show c5.length = 16 from Kd.len _ h13)])
    replace hS := hS.sel (is := []) (A' := []) rfl
    exact retc1 hF rfl h14 hS ⟨c5, rfl, rfl, h13⟩

def slices_Equal.c1 (k : Nat) : Option Bool :=
  (some true)
def slices_Equal.l1 (x1 : (List Int)) (x2 : (List Int)) : Nat → Int → Option (Ex Bool Unit)
  | 0, _ => none
  | k + 1, x3 => (if (decide (x3 < (x1.length : Int))) = true then (if 0 ≤ x3 ∧ x3 < (x1.length : Int) then (if 0 ≤ x3 ∧ x3 < (x2.length : Int) then (if (decide ((rd x1 x3) ≠ (rd x2 x3))) = true then (some (Ex.ret false)) else ((slices_Equal.l1 x1 x2 k) (w64 (x3 + 1)))) else none) else none) else (some (Ex.go ())))
def slices_Equal.f (k : Nat) (x1 : (List Int)) (x2 : (List Int)) : Option Bool :=
  (if (decide ((x1.length : Int) ≠ (x2.length : Int))) = true then (some false) else (((slices_Equal.l1 x1 x2 k 0) : Option (Ex Bool Unit)).bind fun x4 => Ex.on x4 (fun r => some r) (fun y => slices_Equal.c1 k)))
set_option maxRecDepth 100000 in
set_option maxHeartbeats 4000000 in
theorem slices_Equal.spec (k : Nat) (s0 : HF) (w : World) (x1 : (List Int)) (x2 : (List Int)) (v1 : Value) (v2 : Value) (h1 : Sl (Kd.int .i64) s0 v1 x1) (h2 : Sl (Kd.int .i64) s0 v2 x2) (r : Bool) (H : slices_Equal.f k x1 x2 = some r) :
    Law Tryz.prog 254 #[v1, v2] s0 w [] (fun v s1 A1 => v = (.bool r) ∧ A1 = []) := by
  unfold slices_Equal.f at H
  refine Law.intro Tryz.func254 rfl [(0, v1), (1, v2)] (Nat.le_of_ble_eq_true rfl) (enter_lk ⟨rfl, rfl, trivial⟩) (fun e a hS hF => ?_)
  have hF : Fr 26 a [(0, v1), (1, v2)] := hF
  refine sq ?_
  refine rg ?_
  refine stp hF (p_assign rfl) (by decide) (fun a hF => ?_)
  refine nilN ?_
  refine xn ?_
  refine sq ?_
  refine sq ?_
  refine rg ?_
  refine stp hF (p_move rfl) (by decide) (fun a hF => ?_)
  refine stp hF (p_lenr un_22 rfl h1) (by decide) (fun a hF => ?_)
  refine stp hF (p_move rfl) (by decide) (fun a hF => ?_)
  refine stp hF (p_lenr un_22 rfl h2) (by decide) (fun a hF => ?_)
  refine stp hF (p_neq rfl rfl) (by decide) (fun a hF => ?_)
  refine nilN ?_
  refine xn ?_
  refine cnd hF rfl (fun hc1 => ?_) (fun hc1 => ?_)
  · replace H := hbt hc1 H
    refine sq ?_
    refine rg ?_
    refine stp hF (p_assign rfl) (by decide) (fun a hF => ?_)
    refine nilN ?_
    refine xn ?_
    refine rt ?_
    refine xr ?_
    obtain rfl := hsm H
    exact ret1 hF rfl rfl hS ⟨rfl, rfl⟩
  · replace H := hbf hc1 H
    refine skN ?_
    refine xn ?_
    obtain ⟨x4, H, HK1⟩ := hb H
    refine sqj (fun a w => St e s0 w [] ∧ Fr 26 a [] ∧ slices_Equal.c1 k = some r) ?_ ?_
    · skip
      refine sq ?_
      refine rg ?_
      refine stp hF (p_move rfl) (by decide) (fun a hF => ?_)
      refine stp hF (p_lenr un_22 rfl h1) (by decide) (fun a hF => ?_)
      refine stp hF (p_move rfl) (by decide) (fun a hF => ?_)
      refine nilN ?_
      refine xn ?_
      refine blk ?_
      refine loop_ind (fun k1 a w => ∃ (x3 : Int) , St e s0 w [] ∧ Fr 26 a [(0, v1), (1, v2), (12, (.int .i64 (x1.length : Int))), (13, (.int .i64 x3))] ∧ slices_Equal.l1 x1 x2 k1 x3 = some x4) k ?_ ?_ ?_
      · skip
        exact ⟨0, hS, hF.cut ⟨rfl, rfl, rfl, rfl, trivial⟩, H⟩
      · clear H hS hF
        rintro a w ⟨x3, hS, hF, H⟩
        exact absurd (show none = some _ from H) (by simp)
      · clear H hS hF
        rintro k1 a w ⟨x3, hS, hF, H⟩
        rw [slices_Equal.l1.eq_2] at H
        refine sq ?_
        refine rg ?_
        refine stp hF (p_lss rfl rfl) (by decide) (fun a hF => ?_)
        refine nilN ?_
        refine xn ?_
        refine sq ?_
        refine cnd hF rfl (fun hc2 => ?_) (fun hc2 => ?_)
        · replace H := hbt hc2 H
          refine skN ?_
          refine xn ?_
          refine sq ?_
          refine blk ?_
          refine sq ?_
          refine rg ?_
          refine stp hF (p_move rfl) (by decide) (fun a hF => ?_)
          refine stp hF (p_assign rfl) (by decide) (fun a hF => ?_)
          refine nilN ?_
          refine xn ?_
          refine sq ?_
          replace hS : St e s0 w.drew [] := hS.drewN 1
          refine drw [0, 1, 2, 3, 4, 5, 6, 7, 8] mixed (by kernel_rfl) (by decide) (hF.cut (L' := [(0, v1), (1, v2), (5, (.int .i64 x3)), (12, (.int .i64 (x1.length : Int))), (13, (.int .i64 x3)), (14, (.bool (decide (x3 < (x1.length : Int))))), (15, (.int .i64 x3))]) ⟨rfl, rfl, rfl, rfl, rfl, rfl, rfl, trivial⟩) ?_
          clear hF
          generalize w.drew = w at hS ⊢
          refine pk1 rfl (by decide) rfl (by kernel_rfl) rfl (p_move rfl) ?_
          refine pk1 rfl (by decide) rfl (by kernel_rfl) rfl (p_move rfl) ?_
          obtain ⟨hq1, H⟩ := hck H
          obtain ⟨ad1, h3, p1⟩ := p_idxr (P := Tryz.prog) (i := x3) h1 un_22 ti_3 hq1.1 hq1.2
          refine pk1 rfl (by decide) rfl (by kernel_rfl) rfl (p1 rfl rfl) ?_
          refine pk1 rfl (by decide) rfl (by kernel_rfl) rfl (p_ldr_int rfl hS h3 ia_3) ?_
          refine pk1 rfl (by decide) rfl (by kernel_rfl) rfl (p_move rfl) ?_
          refine pk1 rfl (by decide) rfl (by kernel_rfl) rfl (p_move rfl) ?_
          obtain ⟨hq2, H⟩ := hck H
          obtain ⟨ad2, h4, p2⟩ := p_idxr (P := Tryz.prog) (i := x3) h2 un_22 ti_3 hq2.1 hq2.2
          refine pk1 rfl (by decide) rfl (by kernel_rfl) rfl (p2 rfl rfl) ?_
          refine pk1 rfl (by decide) rfl (by kernel_rfl) rfl (p_ldr_int rfl hS h4 ia_3) ?_
          refine pk1 rfl (by decide) rfl (by kernel_rfl) rfl (p_neq rfl rfl) ?_
          refine pkF (fun a hF => ?_)
          refine xn ?_
          refine cnd hF rfl (fun hc3 => ?_) (fun hc3 => ?_)
          · replace H := hbt hc3 H
            refine sq ?_
            refine rg ?_
            refine stp hF (p_assign rfl) (by decide) (fun a hF => ?_)
            refine nilN ?_
            refine xn ?_
            refine rt ?_
            refine br (xr (xr (br (xr ?_))))
            obtain rfl := hsm H
            have H := hon1 HK1
            obtain rfl := hsm H
            exact ret1 hF rfl rfl hS ⟨rfl, rfl⟩
          · replace H := hbf hc3 H
            refine skN ?_
            refine bn (xn ?_)
            refine rg ?_
            refine stp hF (p_add (c := w64 (x3 + 1)) rfl rfl rfl) (by decide) (fun a hF => ?_)
            refine stp hF (p_move rfl) (by decide) (fun a hF => ?_)
            refine nilN ?_
            refine xn ?_
            exact ⟨(w64 (x3 + 1)), hS, hF.cut ⟨rfl, rfl, rfl, rfl, trivial⟩, H⟩
        · replace H := hbf hc2 H
          refine exi ?_
          refine xe (xe (hit (xn ?_)))
          obtain rfl := hsm H
          exact ⟨hS, hF.cut trivial, HK1⟩
    · clear H HK1 hS hF
      rintro a w ⟨hS, hF, H⟩
      unfold slices_Equal.c1 at H
      refine sq ?_
      refine rg ?_
      refine stp hF (p_assign rfl) (by decide) (fun a hF => ?_)
      refine nilN ?_
      refine xn ?_
      refine rt ?_
      obtain rfl := hsm H
      exact ret1 hF rfl rfl hS ⟨rfl, rfl⟩

def impl_SameObj.c1 (k : Nat) (x1 : Bool) : Option Bool :=
  (some x1)
def impl_SameObj.c2 (k : Nat) (x2 : TObj) (x3 : TObj) (x4 : Bool) : Option Bool :=
  ((if x4 = true then ((slices_Equal.f k x2.Refs x3.Refs).bind fun x5 => (some x5)) else (some false) : Option Bool).bind fun x6 => impl_SameObj.c1 k x6)
def impl_SameObj.f (k : Nat) (x2 : TObj) (x3 : TObj) : Option Bool :=
  ((if (decide (x2.Kind = x3.Kind)) = true then ((slices_Equal.f k x2.Ints x3.Ints).bind fun x7 => (some x7)) else (some false) : Option Bool).bind fun x8 => impl_SameObj.c2 k x2 x3 x8)
set_option maxRecDepth 100000 in
set_option maxHeartbeats 4000000 in
theorem impl_SameObj.spec (k : Nat) (s0 : HF) (w : World) (x2 : TObj) (x3 : TObj) (v1 : Value) (v2 : Value) (v3 : Value) (v4 : Value) (h1 : Sl (Kd.int .i64) s0 v1 x2.Ints) (h2 : Sl (Kd.int .i64) s0 v2 x2.Refs) (h3 : Sl (Kd.int .i64) s0 v3 x3.Ints) (h4 : Sl (Kd.int .i64) s0 v4 x3.Refs) (r : Bool) (H : impl_SameObj.f k x2 x3 = some r) :
    Law Tryz.prog 207 #[(.agg #[(.int .i64 x2.Kind), v1, v2]), (.agg #[(.int .i64 x3.Kind), v3, v4])] s0 w [] (fun v s1 A1 => v = (.bool r) ∧ A1 = []) := by
  unfold impl_SameObj.f at H
  refine Law.intro Tryz.func207 rfl [(0, (.agg #[(.int .i64 x2.Kind), v1, v2])), (1, (.agg #[(.int .i64 x3.Kind), v3, v4]))] (Nat.le_of_ble_eq_true rfl) (enter_lk ⟨rfl, rfl, trivial⟩) (fun e a hS hF => ?_)
  have hF : Fr 24 a [(0, (.agg #[(.int .i64 x2.Kind), v1, v2])), (1, (.agg #[(.int .i64 x3.Kind), v3, v4]))] := hF
  refine sq ?_
  refine rg ?_
  refine ste hF (e_box (cs := [(.int .i64 x2.Kind), v1, v2]) hS rfl rfl) (by decide) (fun v w a hR hF => ?_)
  obtain ⟨g1, rfl, hS⟩ := hR
  refine ste hF (e_box (cs := [(.int .i64 x3.Kind), v3, v4]) hS rfl rfl) (by decide) (fun v w a hR hF => ?_)
  obtain ⟨g2, rfl, hS⟩ := hR
  refine stp hF (p_assign rfl) (by decide) (fun a hF => ?_)
  refine nilN ?_
  refine xn ?_
  refine sq ?_
  refine rg ?_
  refine stp hF (p_fldb (o' := 0) rfl fi_43_0 rfl) (by decide) (fun a hF => ?_)
  refine stp hF (p_ldb_one (i := 1) hS rfl rfl ia_3 rfl) (by decide) (fun a hF => ?_)
  refine stp hF (p_fldb (o' := 0) rfl fi_43_0 rfl) (by decide) (fun a hF => ?_)
  refine stp hF (p_ldb_one (i := 0) hS rfl rfl ia_3 rfl) (by decide) (fun a hF => ?_)
  refine stp hF (p_eql rfl rfl) (by decide) (fun a hF => ?_)
  refine stp hF (p_move rfl) (by decide) (fun a hF => ?_)
  obtain ⟨x8, H, HK1⟩ := hb H
  refine cutj 6 (fun a w => ∃ (x4 : Bool) (s2 : HF) , St e s2 w [pt g2 43 ([(.int .i64 x3.Kind), v3, v4]), pt g1 43 ([(.int .i64 x2.Kind), v1, v2])] ∧ Fr 24 a [(2, (.pointer (some ⟨g1, 0, none⟩))), (3, (.pointer (some ⟨g2, 0, none⟩))), (16, (.bool x4))] ∧ Sub s0 s2 ∧ impl_SameObj.c2 k x2 x3 x4 = some r) rfl rfl ?_ ?_
  · rcases Bool.eq_false_or_eq_true (decide (x2.Kind = x3.Kind)) with hc1 | hc1
    · replace H := hbt hc1 H
      refine gonE (j := 5) hF rfl rfl hc1 ?_
      refine stp hF (p_fldb (o' := 1) rfl fi_43_1 rfl) (by decide) (fun a hF => ?_)
      refine gonE (j := 5) hF rfl rfl hc1 ?_
      refine stp hF (p_ldb_one (i := 1) hS rfl rfl ia_22 rfl) (by decide) (fun a hF => ?_)
      refine gonE (j := 5) hF rfl rfl hc1 ?_
      refine stp hF (p_fldb (o' := 1) rfl fi_43_1 rfl) (by decide) (fun a hF => ?_)
      refine gonE (j := 5) hF rfl rfl hc1 ?_
      refine stp hF (p_ldb_one (i := 0) hS rfl rfl ia_22 rfl) (by decide) (fun a hF => ?_)
      obtain ⟨x7, hx1, H⟩ := hb H
      refine gonE (j := 5) hF rfl rfl hc1 ?_
      refine ste hF (e_callA (fst := []) (vs := [v1, v3]) (cap := []) rfl rfl go_254 (St.call (A := []) (B := [pt g2 43 ([(.int .i64 x3.Kind), v3, v4]), pt g1 43 ([(.int .i64 x2.Kind), v1, v2])]) hS (slices_Equal.spec k _ _ x2.Ints x3.Ints v1 v3 h1 h3 _ hx1)) rfl) (by decide) (fun v w a hR hF => ?_)
      obtain ⟨s3, A2, hg1, hS, hR⟩ := hR
      obtain ⟨hv1, rfl⟩ := hR; obtain rfl := hv1.symm
      have hS : St e s3 w [pt g2 43 ([(.int .i64 x3.Kind), v3, v4]), pt g1 43 ([(.int .i64 x2.Kind), v1, v2])] := hS
      refine stp hF (p_pickT rfl hc1 rfl) (by decide) (fun a hF => ?_)
      refine nilN ?_
      refine xn ?_
      obtain rfl := hsm H
      exact ⟨x7, s3, hS, hF.cut ⟨rfl, rfl, rfl, trivial⟩, hg1, HK1⟩
    · replace H := hbf hc1 H
      refine gofD (j := 5) hF rfl rfl (by rw [hc1]; decide) (by decide) (fun a hF => ?_)
      refine gofD (j := 5) hF rfl rfl (by rw [hc1]; decide) (by decide) (fun a hF => ?_)
      refine gofD (j := 5) hF rfl rfl (by rw [hc1]; decide) (by decide) (fun a hF => ?_)
      refine gofD (j := 5) hF rfl rfl (by rw [hc1]; decide) (by decide) (fun a hF => ?_)
      refine gofD (j := 5) hF rfl rfl (by rw [hc1]; decide) (by decide) (fun a hF => ?_)
      refine stp hF (p_pickF rfl hc1 rfl) (by decide) (fun a hF => ?_)
      refine nilN ?_
      refine xn ?_
      obtain rfl := hsm H
      exact ⟨false, s0, hS, hF.cut ⟨rfl, rfl, rfl, trivial⟩, (Sub.refl _), HK1⟩
  · clear H HK1 hS hF
    rintro a w ⟨x4, s2, hS, hF, hg2, H⟩
    unfold impl_SameObj.c2 at H
    refine stp hF (p_move rfl) (by decide) (fun a hF => ?_)
    obtain ⟨x6, H, HK2⟩ := hb H
    refine cutj 6 (fun a w => ∃ (x1 : Bool) (s4 : HF) , St e s4 w [pt g2 43 ([(.int .i64 x3.Kind), v3, v4]), pt g1 43 ([(.int .i64 x2.Kind), v1, v2])] ∧ Fr 24 a [(23, (.bool x1))] ∧ Sub s2 s4 ∧ impl_SameObj.c1 k x1 = some r) rfl rfl ?_ ?_
    · rcases Bool.eq_false_or_eq_true (x4) with hc2 | hc2
      · replace H := hbt hc2 H
        refine gonE (j := 12) hF rfl rfl hc2 ?_
        refine stp hF (p_fldb (o' := 2) rfl fi_43_2 rfl) (by decide) (fun a hF => ?_)
        refine gonE (j := 12) hF rfl rfl hc2 ?_
        refine stp hF (p_ldb_one (i := 1) hS rfl rfl ia_22 rfl) (by decide) (fun a hF => ?_)
        refine gonE (j := 12) hF rfl rfl hc2 ?_
        refine stp hF (p_fldb (o' := 2) rfl fi_43_2 rfl) (by decide) (fun a hF => ?_)
        refine gonE (j := 12) hF rfl rfl hc2 ?_
        refine stp hF (p_ldb_one (i := 0) hS rfl rfl ia_22 rfl) (by decide) (fun a hF => ?_)
        obtain ⟨x5, hx2, H⟩ := hb H
        refine gonE (j := 12) hF rfl rfl hc2 ?_
        refine ste hF (e_callA (fst := []) (vs := [v2, v4]) (cap := []) rfl rfl go_254 (St.call (A := []) (B := [pt g2 43 ([(.int .i64 x3.Kind), v3, v4]), pt g1 43 ([(.int .i64 x2.Kind), v1, v2])]) hS (slices_Equal.spec k _ _ x2.Refs x3.Refs v2 v4 (h2.mono hg2) (h4.mono hg2) _ hx2)) rfl) (by decide) (fun v w a hR hF => ?_)
        obtain ⟨s5, A3, hg3, hS, hR⟩ := hR
        obtain ⟨hv2, rfl⟩ := hR; obtain rfl := hv2.symm
        have hS : St e s5 w [pt g2 43 ([(.int .i64 x3.Kind), v3, v4]), pt g1 43 ([(.int .i64 x2.Kind), v1, v2])] := hS
        refine stp hF (p_pickT rfl hc2 rfl) (by decide) (fun a hF => ?_)
        refine nilN ?_
        refine xn ?_
        obtain rfl := hsm H
        exact ⟨x5, s5, hS, hF.cut ⟨rfl, trivial⟩, hg3, HK2⟩
      · replace H := hbf hc2 H
        refine gofD (j := 12) hF rfl rfl (by rw [hc2]; decide) (by decide) (fun a hF => ?_)
        refine gofD (j := 12) hF rfl rfl (by rw [hc2]; decide) (by decide) (fun a hF => ?_)
        refine gofD (j := 12) hF rfl rfl (by rw [hc2]; decide) (by decide) (fun a hF => ?_)
        refine gofD (j := 12) hF rfl rfl (by rw [hc2]; decide) (by decide) (fun a hF => ?_)
        refine gofD (j := 12) hF rfl rfl (by rw [hc2]; decide) (by decide) (fun a hF => ?_)
        refine stp hF (p_pickF rfl hc2 rfl) (by decide) (fun a hF => ?_)
        refine nilN ?_
        refine xn ?_
        obtain rfl := hsm H
        exact ⟨false, s2, hS, hF.cut ⟨rfl, trivial⟩, (Sub.refl _), HK2⟩
    · clear H HK2 hS hF
      rintro a w ⟨x1, s4, hS, hF, hg4, H⟩
      unfold impl_SameObj.c1 at H
      refine stp hF (p_assign rfl) (by decide) (fun a hF => ?_)
      refine nilN ?_
      refine xn ?_
      refine rt ?_
      obtain rfl := hsm H
      replace hS := hS.sel (is := []) (A' := []) rfl
      exact ret1 hF rfl rfl hS ⟨rfl, rfl⟩

def impl_sameSlot.c1 (k : Nat) (x1 : Bool) : Option Bool :=
  (some x1)
def impl_sameSlot.f (k : Nat) (x2 : TSlot) (x3 : TSlot) : Option Bool :=
  ((if (x2.Has == x3.Has) = true then ((impl_SameObj.f k x2.O x3.O).bind fun x4 => (some x4)) else (some false) : Option Bool).bind fun x5 => impl_sameSlot.c1 k x5)
set_option maxRecDepth 100000 in
set_option maxHeartbeats 4000000 in
theorem impl_sameSlot.spec (k : Nat) (s0 : HF) (w : World) (x2 : TSlot) (x3 : TSlot) (v1 : Value) (v2 : Value) (v3 : Value) (v4 : Value) (h1 : Sl (Kd.int .i64) s0 v1 x2.O.Ints) (h2 : Sl (Kd.int .i64) s0 v2 x2.O.Refs) (h3 : Sl (Kd.int .i64) s0 v3 x3.O.Ints) (h4 : Sl (Kd.int .i64) s0 v4 x3.O.Refs) (r : Bool) (H : impl_sameSlot.f k x2 x3 = some r) :
    Law Tryz.prog 121 #[(.agg #[(.bool x2.Has), (.int .i64 x2.O.Kind), v1, v2]), (.agg #[(.bool x3.Has), (.int .i64 x3.O.Kind), v3, v4])] s0 w [] (fun v s1 A1 => v = (.bool r) ∧ A1 = []) := by
  unfold impl_sameSlot.f at H
  refine Law.intro Tryz.func121 rfl [(0, (.agg #[(.bool x2.Has), (.int .i64 x2.O.Kind), v1, v2])), (1, (.agg #[(.bool x3.Has), (.int .i64 x3.O.Kind), v3, v4]))] (Nat.le_of_ble_eq_true rfl) (enter_lk ⟨rfl, rfl, trivial⟩) (fun e a hS hF => ?_)
  have hF : Fr 17 a [(0, (.agg #[(.bool x2.Has), (.int .i64 x2.O.Kind), v1, v2])), (1, (.agg #[(.bool x3.Has), (.int .i64 x3.O.Kind), v3, v4]))] := hF
  refine sq ?_
  refine rg ?_
  refine ste hF (e_box (cs := [(.bool x2.Has), (.int .i64 x2.O.Kind), v1, v2]) hS rfl rfl) (by decide) (fun v w a hR hF => ?_)
  obtain ⟨g1, rfl, hS⟩ := hR
  refine ste hF (e_box (cs := [(.bool x3.Has), (.int .i64 x3.O.Kind), v3, v4]) hS rfl rfl) (by decide) (fun v w a hR hF => ?_)
  obtain ⟨g2, rfl, hS⟩ := hR
  refine stp hF (p_assign rfl) (by decide) (fun a hF => ?_)
  refine nilN ?_
  refine xn ?_
  refine sq ?_
  refine rg ?_
  refine stp hF (p_fldb (o' := 0) rfl fi_45_0 rfl) (by decide) (fun a hF => ?_)
  refine stp hF (p_ldb_one (i := 1) hS rfl rfl ia_4 rfl) (by decide) (fun a hF => ?_)
  refine stp hF (p_fldb (o' := 0) rfl fi_45_0 rfl) (by decide) (fun a hF => ?_)
  refine stp hF (p_ldb_one (i := 0) hS rfl rfl ia_4 rfl) (by decide) (fun a hF => ?_)
  refine stp hF (p_eqb un_4 rfl rfl) (by decide) (fun a hF => ?_)
  refine stp hF (p_move rfl) (by decide) (fun a hF => ?_)
  obtain ⟨x5, H, HK1⟩ := hb H
  refine cutj 6 (fun a w => ∃ (x1 : Bool) (s2 : HF) , St e s2 w [pt g2 45 ([(.bool x3.Has), (.int .i64 x3.O.Kind), v3, v4]), pt g1 45 ([(.bool x2.Has), (.int .i64 x2.O.Kind), v1, v2])] ∧ Fr 17 a [(16, (.bool x1))] ∧ Sub s0 s2 ∧ impl_sameSlot.c1 k x1 = some r) rfl rfl ?_ ?_
  · rcases Bool.eq_false_or_eq_true ((x2.Has == x3.Has)) with hc1 | hc1
    · replace H := hbt hc1 H
      refine gonE (j := 5) hF rfl rfl hc1 ?_
      refine stp hF (p_fldb (o' := 1) rfl fi_45_1 rfl) (by decide) (fun a hF => ?_)
      refine gonE (j := 5) hF rfl rfl hc1 ?_
      refine stp hF (p_ldb_agg (i := 1) (l := [(.bool x2.Has)]) (m := [(.int .i64 x2.O.Kind), v1, v2]) (r := []) hS rfl rfl ia_43 ti_43 rfl rfl rfl) (by decide) (fun a hF => ?_)
      refine gonE (j := 5) hF rfl rfl hc1 ?_
      refine stp hF (p_fldb (o' := 1) rfl fi_45_1 rfl) (by decide) (fun a hF => ?_)
      refine gonE (j := 5) hF rfl rfl hc1 ?_
      refine stp hF (p_ldb_agg (i := 0) (l := [(.bool x3.Has)]) (m := [(.int .i64 x3.O.Kind), v3, v4]) (r := []) hS rfl rfl ia_43 ti_43 rfl rfl rfl) (by decide) (fun a hF => ?_)
      obtain ⟨x4, hx1, H⟩ := hb H
      refine gonE (j := 5) hF rfl rfl hc1 ?_
      refine ste hF (e_callA (fst := []) (vs := [(.agg #[(.int .i64 x2.O.Kind), v1, v2]), (.agg #[(.int .i64 x3.O.Kind), v3, v4])]) (cap := []) rfl rfl go_207 (St.call (A := []) (B := [pt g2 45 ([(.bool x3.Has), (.int .i64 x3.O.Kind), v3, v4]), pt g1 45 ([(.bool x2.Has), (.int .i64 x2.O.Kind), v1, v2])]) hS (impl_SameObj.spec k _ _ x2.O x3.O v1 v2 v3 v4 h1 h2 h3 h4 _ hx1)) rfl) (by decide) (fun v w a hR hF => ?_)
      obtain ⟨s3, A2, hg1, hS, hR⟩ := hR
      obtain ⟨hv1, rfl⟩ := hR; obtain rfl := hv1.symm
      have hS : St e s3 w [pt g2 45 ([(.bool x3.Has), (.int .i64 x3.O.Kind), v3, v4]), pt g1 45 ([(.bool x2.Has), (.int .i64 x2.O.Kind), v1, v2])] := hS
      refine stp hF (p_pickT rfl hc1 rfl) (by decide) (fun a hF => ?_)
      refine nilN ?_
      refine xn ?_
      obtain rfl := hsm H
      exact ⟨x4, s3, hS, hF.cut ⟨rfl, trivial⟩, hg1, HK1⟩
    · replace H := hbf hc1 H
      refine gofD (j := 5) hF rfl rfl (by rw [hc1]; decide) (by decide) (fun a hF => ?_)
      refine gofD (j := 5) hF rfl rfl (by rw [hc1]; decide) (by decide) (fun a hF => ?_)
      refine gofD (j := 5) hF rfl rfl (by rw [hc1]; decide) (by decide) (fun a hF => ?_)
      refine gofD (j := 5) hF rfl rfl (by rw [hc1]; decide) (by decide) (fun a hF => ?_)
      refine gofD (j := 5) hF rfl rfl (by rw [hc1]; decide) (by decide) (fun a hF => ?_)
      refine stp hF (p_pickF rfl hc1 rfl) (by decide) (fun a hF => ?_)
      refine nilN ?_
      refine xn ?_
      obtain rfl := hsm H
      exact ⟨false, s0, hS, hF.cut ⟨rfl, trivial⟩, (Sub.refl _), HK1⟩
  · clear H HK1 hS hF
    rintro a w ⟨x1, s2, hS, hF, hg2, H⟩
    unfold impl_sameSlot.c1 at H
    refine stp hF (p_assign rfl) (by decide) (fun a hF => ?_)
    refine nilN ?_
    refine xn ?_
    refine rt ?_
    obtain rfl := hsm H
    replace hS := hS.sel (is := []) (A' := []) rfl
    exact ret1 hF rfl rfl hS ⟨rfl, rfl⟩

def impl_Slot_120_sameSlot121.c1 (k : Nat) : Option Bool :=
  (some true)
def impl_Slot_120_sameSlot121.l1 (x1 : (List TSlot)) (x2 : (List TSlot)) : Nat → Int → Option (Ex Bool Unit)
  | 0, _ => none
  | k + 1, x3 => (if (decide (x3 < (x1.length : Int))) = true then (if 0 ≤ x3 ∧ x3 < (x1.length : Int) then (if 0 ≤ x3 ∧ x3 < (x2.length : Int) then ((impl_sameSlot.f k (⟨(rd x1 x3).Has, (⟨((rd x1 x3).O).Kind, ((rd x1 x3).O).Ints, ((rd x1 x3).O).Refs⟩ : TObj)⟩ : TSlot) (⟨(rd x2 x3).Has, (⟨((rd x2 x3).O).Kind, ((rd x2 x3).O).Ints, ((rd x2 x3).O).Refs⟩ : TObj)⟩ : TSlot)).bind fun x4 => (if (!x4) = true then (some (Ex.ret false)) else ((impl_Slot_120_sameSlot121.l1 x1 x2 k) (w64 (x3 + 1))))) else none) else none) else (some (Ex.go ())))
def impl_Slot_120_sameSlot121.f (k : Nat) (x1 : (List TSlot)) (x2 : (List TSlot)) : Option Bool :=
  (if (decide ((x1.length : Int) ≠ (x2.length : Int))) = true then (some false) else (((impl_Slot_120_sameSlot121.l1 x1 x2 k 0) : Option (Ex Bool Unit)).bind fun x5 => Ex.on x5 (fun r => some r) (fun y => impl_Slot_120_sameSlot121.c1 k)))
set_option maxRecDepth 100000 in
set_option maxHeartbeats 4000000 in
theorem impl_Slot_120_sameSlot121.spec (k : Nat) (s0 : HF) (w : World) (x1 : (List TSlot)) (x2 : (List TSlot)) (v1 : Value) (v2 : Value) (h1 : Sl kTSlot s0 v1 x1) (h2 : Sl kTSlot s0 v2 x2) (r : Bool) (H : impl_Slot_120_sameSlot121.f k x1 x2 = some r) :
    Law Tryz.prog 120 #[v1, v2, (.func (.func 121) #[] #[])] s0 w [] (fun v s1 A1 => v = (.bool r) ∧ A1 = []) := by
  unfold impl_Slot_120_sameSlot121.f at H
  refine Law.intro Tryz.func120 rfl [(0, v1), (1, v2), (2, (.func (.func 121) #[] #[]))] (Nat.le_of_ble_eq_true rfl) (enter_lk ⟨rfl, rfl, rfl, trivial⟩) (fun e a hS hF => ?_)
  have hF : Fr 32 a [(0, v1), (1, v2), (2, (.func (.func 121) #[] #[]))] := hF
  refine sq ?_
  refine rg ?_
  refine stp hF (p_assign rfl) (by decide) (fun a hF => ?_)
  refine nilN ?_
  refine xn ?_
  refine sq ?_
  refine sq ?_
  refine rg ?_
  refine stp hF (p_move rfl) (by decide) (fun a hF => ?_)
  refine stp hF (p_lenr un_80 rfl h1) (by decide) (fun a hF => ?_)
  refine stp hF (p_move rfl) (by decide) (fun a hF => ?_)
  refine stp hF (p_lenr un_80 rfl h2) (by decide) (fun a hF => ?_)
  refine stp hF (p_neq rfl rfl) (by decide) (fun a hF => ?_)
  refine nilN ?_
  refine xn ?_
  refine cnd hF rfl (fun hc1 => ?_) (fun hc1 => ?_)
  · replace H := hbt hc1 H
    refine sq ?_
    refine rg ?_
    refine stp hF (p_assign rfl) (by decide) (fun a hF => ?_)
    refine nilN ?_
    refine xn ?_
    refine rt ?_
    refine xr ?_
    obtain rfl := hsm H
    exact ret1 hF rfl rfl hS ⟨rfl, rfl⟩
  · replace H := hbf hc1 H
    refine skN ?_
    refine xn ?_
    obtain ⟨x5, H, HK1⟩ := hb H
    refine sqj (fun a w => ∃ (s2 : HF) , St e s2 w [] ∧ Fr 32 a [] ∧ Sub s0 s2 ∧ impl_Slot_120_sameSlot121.c1 k = some r) ?_ ?_
    · skip
      refine sq ?_
      refine rg ?_
      refine stp hF (p_move rfl) (by decide) (fun a hF => ?_)
      refine stp hF (p_lenr un_80 rfl h1) (by decide) (fun a hF => ?_)
      refine stp hF (p_move rfl) (by decide) (fun a hF => ?_)
      refine nilN ?_
      refine xn ?_
      refine blk ?_
      refine loop_ind (fun k1 a w => ∃ (x3 : Int) (s3 : HF) , St e s3 w [] ∧ Fr 32 a [(1, v2), (2, (.func (.func 121) #[] #[])), (15, v1), (16, (.int .i64 (x1.length : Int))), (17, (.int .i64 x3))] ∧ Sub s0 s3 ∧ impl_Slot_120_sameSlot121.l1 x1 x2 k1 x3 = some x5) k ?_ ?_ ?_
      · skip
        exact ⟨0, s0, hS, hF.cut ⟨rfl, rfl, rfl, rfl, rfl, trivial⟩, (Sub.refl _), H⟩
      · clear H hS hF
        rintro a w ⟨x3, s3, hS, hF, hg1, H⟩
        exact absurd (show none = some _ from H) (by simp)
      · clear H hS hF
        rintro k1 a w ⟨x3, s3, hS, hF, hg1, H⟩
        rw [impl_Slot_120_sameSlot121.l1.eq_2] at H
        refine sq ?_
        refine rg ?_
        refine stp hF (p_lss rfl rfl) (by decide) (fun a hF => ?_)
        refine nilN ?_
        refine xn ?_
        refine sq ?_
        refine cnd hF rfl (fun hc2 => ?_) (fun hc2 => ?_)
        · replace H := hbt hc2 H
          refine skN ?_
          refine xn ?_
          refine sq ?_
          refine blk ?_
          refine sq ?_
          refine rg ?_
          refine stp hF (p_move rfl) (by decide) (fun a hF => ?_)
          obtain ⟨hq1, H⟩ := hck H
          obtain ⟨ad1, h3, p1⟩ := p_idxr (P := Tryz.prog) (i := x3) (h1.mono hg1) un_80 ti_45 hq1.1 hq1.2
          refine stp hF (p1 rfl rfl) (by decide) (fun a hF => ?_)
          obtain ⟨c2, h4, p2⟩ := p_ldr_agg (P := Tryz.prog) h3 ia_45 ti_45
          obtain ⟨v3, v4, rfl, h5, h6⟩ := kTSlot_open h4
          refine stp hF (p2 rfl hS.ro) (by decide) (fun a hF => ?_)
          refine ste hF (e_alloc (cs := [(.bool false), (.int .i64 0), (.slice none 0 0), (.slice none 0 0)]) hS ti_45 rfl) (by decide) (fun v w a hR hF => ?_)
          obtain ⟨g1, rfl, hS⟩ := hR
          refine stp hF (p_assign rfl) (by decide) (fun a hF => ?_)
          refine ste0 hF (e_stb (i := 0) (l := []) (m := [(.bool false), (.int .i64 0), (.slice none 0 0), (.slice none 0 0)]) (r := []) (m' := [(.bool ((rd x1 x3).Has)), (.int .i64 (((rd x1 x3).O).Kind)), v3, v4]) (cs' := [(.bool ((rd x1 x3).Has)), (.int .i64 (((rd x1 x3).O).Kind)), v3, v4]) hS rfl rfl rfl ti_45 rfl rfl rfl rfl rfl (one_cons rfl (one_cons rfl (one_cons (one_sl h5) (one_cons (one_sl h6) one_nil)))) rfl) (fun v w a hR hF => ?_)
          have hS : St e s3 w [pt g1 45 ([(.bool ((rd x1 x3).Has)), (.int .i64 (((rd x1 x3).O).Kind)), v3, v4])] := hR
          refine nilN ?_
          refine xn ?_
          refine sq ?_
          refine rg ?_
          refine stp hF (p_move rfl) (by decide) (fun a hF => ?_)
          refine stp hF (p_move rfl) (by decide) (fun a hF => ?_)
          obtain ⟨hq2, H⟩ := hck H
          obtain ⟨ad2, h7, p3⟩ := p_idxr (P := Tryz.prog) (i := x3) (h2.mono hg1) un_80 ti_45 hq2.1 hq2.2
          refine stp hF (p3 rfl rfl) (by decide) (fun a hF => ?_)
          obtain ⟨c3, h8, p4⟩ := p_ldr_agg (P := Tryz.prog) h7 ia_45 ti_45
          obtain ⟨v5, v6, rfl, h9, h10⟩ := kTSlot_open h8
          refine stp hF (p4 rfl hS.ro) (by decide) (fun a hF => ?_)
          refine ste hF (e_alloc (cs := [(.bool false), (.int .i64 0), (.slice none 0 0), (.slice none 0 0)]) hS ti_45 rfl) (by decide) (fun v w a hR hF => ?_)
          obtain ⟨g2, rfl, hS⟩ := hR
          refine ste0 hF (e_stb (i := 0) (l := []) (m := [(.bool false), (.int .i64 0), (.slice none 0 0), (.slice none 0 0)]) (r := []) (m' := [(.bool ((rd x2 x3).Has)), (.int .i64 (((rd x2 x3).O).Kind)), v5, v6]) (cs' := [(.bool ((rd x2 x3).Has)), (.int .i64 (((rd x2 x3).O).Kind)), v5, v6]) hS rfl rfl rfl ti_45 rfl rfl rfl rfl rfl (one_cons rfl (one_cons rfl (one_cons (one_sl h9) (one_cons (one_sl h10) one_nil)))) rfl) (fun v w a hR hF => ?_)
          have hS : St e s3 w [pt g2 45 ([(.bool ((rd x2 x3).Has)), (.int .i64 (((rd x2 x3).O).Kind)), v5, v6]), pt g1 45 ([(.bool ((rd x1 x3).Has)), (.int .i64 (((rd x1 x3).O).Kind)), v3, v4])] := hR
          refine nilN ?_
          refine xn ?_
          refine sq ?_
          refine rg ?_
          refine stp hF (p_move rfl) (by decide) (fun a hF => ?_)
          refine stp hF (p_ldb_agg (i := 1) (l := []) (m := [(.bool ((rd x1 x3).Has)), (.int .i64 (((rd x1 x3).O).Kind)), v3, v4]) (r := []) hS rfl rfl ia_45 ti_45 rfl rfl rfl) (by decide) (fun a hF => ?_)
          refine stp hF (p_ldb_agg (i := 0) (l := []) (m := [(.bool ((rd x2 x3).Has)), (.int .i64 (((rd x2 x3).O).Kind)), v5, v6]) (r := []) hS rfl rfl ia_45 ti_45 rfl rfl rfl) (by decide) (fun a hF => ?_)
          obtain ⟨x4, hx1, H⟩ := hb H
          refine ste hF (e_callA (fst := []) (vs := [(.agg #[(.bool ((rd x1 x3).Has)), (.int .i64 (((rd x1 x3).O).Kind)), v3, v4]), (.agg #[(.bool ((rd x2 x3).Has)), (.int .i64 (((rd x2 x3).O).Kind)), v5, v6])]) (cap := []) rfl rfl go_121 (St.call (A := []) (B := [pt g2 45 ([(.bool ((rd x2 x3).Has)), (.int .i64 (((rd x2 x3).O).Kind)), v5, v6]), pt g1 45 ([(.bool ((rd x1 x3).Has)), (.int .i64 (((rd x1 x3).O).Kind)), v3, v4])]) hS (impl_sameSlot.spec k1 _ _ (⟨(rd x1 x3).Has, (⟨((rd x1 x3).O).Kind, ((rd x1 x3).O).Ints, ((rd x1 x3).O).Refs⟩ : TObj)⟩ : TSlot) (⟨(rd x2 x3).Has, (⟨((rd x2 x3).O).Kind, ((rd x2 x3).O).Ints, ((rd x2 x3).O).Refs⟩ : TObj)⟩ : TSlot) v3 v4 v5 v6 h5 h6 h9 h10 _ hx1)) rfl) (by decide) (fun v w a hR hF => ?_)
          obtain ⟨s4, A2, hg2, hS, hR⟩ := hR
          obtain ⟨hv1, rfl⟩ := hR; obtain rfl := hv1.symm
          have hS : St e s4 w [pt g2 45 ([(.bool ((rd x2 x3).Has)), (.int .i64 (((rd x2 x3).O).Kind)), v5, v6]), pt g1 45 ([(.bool ((rd x1 x3).Has)), (.int .i64 (((rd x1 x3).O).Kind)), v3, v4])] := hS
          refine stp hF (p_not rfl) (by decide) (fun a hF => ?_)
          refine nilN ?_
          refine xn ?_
          refine cnd hF rfl (fun hc3 => ?_) (fun hc3 => ?_)
          · replace H := hbt hc3 H
            refine sq ?_
            refine rg ?_
            refine stp hF (p_assign rfl) (by decide) (fun a hF => ?_)
            refine nilN ?_
            refine xn ?_
            refine rt ?_
            refine br (xr (xr (br (xr ?_))))
            obtain rfl := hsm H
            have H := hon1 HK1
            obtain rfl := hsm H
            replace hS := hS.sel (is := []) (A' := []) rfl
            exact ret1 hF rfl rfl hS ⟨rfl, rfl⟩
          · replace H := hbf hc3 H
            refine skN ?_
            refine bn (xn ?_)
            refine rg ?_
            refine stp hF (p_add (c := w64 (x3 + 1)) rfl rfl rfl) (by decide) (fun a hF => ?_)
            refine stp hF (p_move rfl) (by decide) (fun a hF => ?_)
            refine nilN ?_
            refine xn ?_
            replace hS := hS.sel (is := []) (A' := []) rfl
            exact ⟨(w64 (x3 + 1)), s4, hS, hF.cut ⟨rfl, rfl, rfl, rfl, rfl, trivial⟩, (hg1.trans hg2), H⟩
        · replace H := hbf hc2 H
          refine exi ?_
          refine xe (xe (hit (xn ?_)))
          obtain rfl := hsm H
          exact ⟨s3, hS, hF.cut trivial, hg1, HK1⟩
    · clear H HK1 hS hF
      rintro a w ⟨s2, hS, hF, hg3, H⟩
      unfold impl_Slot_120_sameSlot121.c1 at H
      refine sq ?_
      refine rg ?_
      refine stp hF (p_assign rfl) (by decide) (fun a hF => ?_)
      refine nilN ?_
      refine xn ?_
      refine rt ?_
      obtain rfl := hsm H
      exact ret1 hF rfl rfl hS ⟨rfl, rfl⟩

def impl_samePage.c1 (k : Nat) (x1 : Bool) : Option Bool :=
  (some x1)
def impl_samePage.f (k : Nat) (x2 : TPage) (x3 : TPage) : Option Bool :=
  (((if (decide (x2.Lsn = x3.Lsn)) = true then ((impl_Slot_120_sameSlot121.f k x2.Slots x3.Slots).bind fun x4 => (some x4)) else (some false)) : Option Bool).bind fun x5 => impl_samePage.c1 k x5)
set_option maxRecDepth 100000 in
set_option maxHeartbeats 4000000 in
theorem impl_samePage.spec (k : Nat) (s0 : HF) (w : World) (x2 : TPage) (x3 : TPage) (c2 : List Value) (c3 : List Value) (h1 : ((Kd.arr 4 kTSlot)).K s0 x2.Slots c2) (h2 : ((Kd.arr 4 kTSlot)).K s0 x3.Slots c3) (r : Bool) (H : impl_samePage.f k x2 x3 = some r) :
    Law Tryz.prog 47 #[(.agg ([(.int .i64 x2.Lsn)] ++ c2 : List Value).toArray), (.agg ([(.int .i64 x3.Lsn)] ++ c3 : List Value).toArray)] s0 w [] (fun v s1 A1 => v = (.bool r) ∧ A1 = []) := by
  unfold impl_samePage.f at H
  refine Law.intro Tryz.func47 rfl [(0, (.agg ([(.int .i64 x2.Lsn)] ++ c2 : List Value).toArray)), (1, (.agg ([(.int .i64 x3.Lsn)] ++ c3 : List Value).toArray))] (Nat.le_of_ble_eq_true rfl) (enter_lk ⟨rfl, rfl, trivial⟩) (fun e a hS hF => ?_)
  have hF : Fr 17 a [(0, (.agg ([(.int .i64 x2.Lsn)] ++ c2 : List Value).toArray)), (1, (.agg ([(.int .i64 x3.Lsn)] ++ c3 : List Value).toArray))] := hF
  refine sq ?_
  refine rg ?_
  refine ste hF (e_box (cs := [(.int .i64 x2.Lsn)] ++ c2) hS rfl rfl) (by decide) (fun v w a hR hF => ?_)
  obtain ⟨g1, rfl, hS⟩ := hR
  refine ste hF (e_box (cs := [(.int .i64 x3.Lsn)] ++ c3) hS rfl rfl) (by decide) (fun v w a hR hF => ?_)
  obtain ⟨g2, rfl, hS⟩ := hR
  refine stp hF (p_assign rfl) (by decide) (fun a hF => ?_)
  refine nilN ?_
  refine xn ?_
  obtain ⟨x5, H, HK1⟩ := hb H
  refine sqj (fun a w => ∃ (x1 : Bool) (s2 : HF) , St e s2 w [] ∧ Fr 17 a [(4, (.bool x1))] ∧ Sub s0 s2 ∧ impl_samePage.c1 k x1 = some r) ?_ ?_
  · skip
    replace hS : St e s0 w.drew [pt g2 48 ([(.int .i64 x3.Lsn)] ++ c3), pt g1 48 ([(.int .i64 x2.Lsn)] ++ c2)] := hS.drewN 1
    refine drw [0, 1, 2, 3, 4, 5, 6, 7, 8, 9, 10, 11, 12] mixed (by kernel_rfl) (by decide) (hF.cut (L' := [(0, (.agg ([(.int .i64 x2.Lsn)] ++ c2 : List Value).toArray)), (1, (.agg ([(.int .i64 x3.Lsn)] ++ c3 : List Value).toArray)), (2, (.pointer (some ⟨g1, 0, none⟩))), (3, (.pointer (some ⟨g2, 0, none⟩))), (4, (.bool false))]) ⟨rfl, rfl, rfl, rfl, rfl, trivial⟩) ?_
    clear hF
    generalize w.drew = w at hS ⊢
    refine pk1 rfl (by decide) rfl (by kernel_rfl) rfl (p_fldb (o' := 0) rfl fi_48_0 rfl) ?_
    refine pk1 rfl (by decide) rfl (by kernel_rfl) rfl (p_ldb_one (i := 1) hS rfl rfl ia_3 rfl) ?_
    refine pk1 rfl (by decide) rfl (by kernel_rfl) rfl (p_fldb (o' := 0) rfl fi_48_0 rfl) ?_
    refine pk1 rfl (by decide) rfl (by kernel_rfl) rfl (p_ldb_one (i := 0) hS rfl rfl ia_3 rfl) ?_
    refine pk1 rfl (by decide) rfl (by kernel_rfl) rfl (p_eql rfl rfl) ?_
    refine pk1 rfl (by decide) rfl (by kernel_rfl) rfl (p_move rfl) ?_
    rcases Bool.eq_false_or_eq_true (decide (x2.Lsn = x3.Lsn)) with hc1 | hc1
    · replace H := hbt hc1 H
      refine pkOn (j := 5) rfl (by decide) rfl (by kernel_rfl) rfl rfl rfl hc1 (p_fldb (o' := 1) rfl fi_48_1 rfl) ?_
      obtain ⟨s3, hg1, h3, hS⟩ := hS.freezeB (i := 1) (g := g1) (T := 48) (cs := [(.int .i64 x2.Lsn)] ++ c2) (B := [pt g2 48 ([(.int .i64 x3.Lsn)] ++ c3)]) rfl
      have h4 : Pr kTPage s3 ⟨g1, 0, none⟩ x2 := Pr.box h3 (by exact (kTPage_mk (x := x2) ((Kd.arr 4 kTSlot).mono hg1 h1)))
      have h5 : Pr (Kd.arr 4 kTSlot) s3 (⟨g1, 1, none⟩ : Addr) x2.Slots := h4.lens kTPage_Slots
      have h6 : Pr (Kd.int .i64) s3 (⟨g1, 0, none⟩ : Addr) x2.Lsn := h4.lens kTPage_Lsn
      have h7 : Sl kTSlot s3 (.slice (some (⟨g1, 1, none⟩ : Addr)) 4 4) x2.Slots := Pr.arr_sl h5
      refine pkOn (j := 5) rfl (by decide) rfl (by kernel_rfl) rfl rfl rfl hc1 (p_slarr un_46 ti_45 (by decide) rfl) ?_
      refine pkOn (j := 5) rfl (by decide) rfl (by kernel_rfl) rfl rfl rfl hc1 (p_fldb (o' := 1) rfl fi_48_1 rfl) ?_
      obtain ⟨s4, hg2, h8, hS⟩ := hS.freezeB (i := 0) (g := g2) (T := 48) (cs := [(.int .i64 x3.Lsn)] ++ c3) (B := []) rfl
      have h9 : Pr kTPage s4 ⟨g2, 0, none⟩ x3 := Pr.box h8 (by exact (kTPage_mk (x := x3) ((Kd.arr 4 kTSlot).mono hg2 ((Kd.arr 4 kTSlot).mono hg1 h2))))
      have h10 : Pr (Kd.arr 4 kTSlot) s4 (⟨g2, 1, none⟩ : Addr) x3.Slots := h9.lens kTPage_Slots
      have h11 : Pr (Kd.int .i64) s4 (⟨g2, 0, none⟩ : Addr) x3.Lsn := h9.lens kTPage_Lsn
      have h12 : Sl kTSlot s4 (.slice (some (⟨g2, 1, none⟩ : Addr)) 4 4) x3.Slots := Pr.arr_sl h10
      refine pkOn (j := 5) rfl (by decide) rfl (by kernel_rfl) rfl rfl rfl hc1 (p_slarr un_46 ti_45 (by decide) rfl) ?_
      obtain ⟨x4, hx1, H⟩ := hb H
      refine pkEOn (j := 5) [8, 6, 4, 3, 2, 1, 0] rfl rfl rfl hc1 (by decide) (by kernel_rfl) (by kernel_rfl) (e_callA (fst := []) (vs := [(.slice (some (⟨g1, 1, none⟩ : Addr)) 4 4), (.slice (some (⟨g2, 1, none⟩ : Addr)) 4 4), (.func (.func 121) #[] #[])]) (cap := []) rfl rfl go_120 (St.call (A := []) (B := []) hS (impl_Slot_120_sameSlot121.spec k _ _ x2.Slots x3.Slots (.slice (some (⟨g1, 1, none⟩ : Addr)) 4 4) (.slice (some (⟨g2, 1, none⟩ : Addr)) 4 4) (h7.mono hg2) h12 _ hx1)) rfl) ?_
      intro v w hR
      obtain ⟨s5, A2, hg3, hS, hR⟩ := hR
      obtain ⟨hv1, rfl⟩ := hR; obtain rfl := hv1.symm
      have hS : St e s5 w [] := hS
      refine ⟨⟨knwOn (j := 5) rfl rfl rfl rfl rfl hc1 (p_fldb (o' := 1) rfl fi_48_1 rfl), ⟨knwOn (j := 5) rfl rfl rfl rfl rfl hc1 (p_fldb (o' := 1) rfl fi_48_1 rfl), ⟨knw rfl rfl rfl (p_eql rfl rfl), ⟨knw rfl rfl rfl (p_ldr_int rfl hS (h11.mono hg3) ia_3), ⟨knw rfl rfl rfl (p_fldb (o' := 0) rfl fi_48_0 rfl), ⟨knw rfl rfl rfl (p_ldr_int rfl hS ((h6.mono hg2).mono hg3) ia_3), ⟨knw rfl rfl rfl (p_fldb (o' := 0) rfl fi_48_0 rfl), trivial⟩⟩⟩⟩⟩⟩⟩, ?_⟩
      refine pk1 rfl (by decide) rfl (by kernel_rfl) rfl (p_pickT rfl hc1 rfl) ?_
      refine pkE [] rfl (by decide) (by kernel_rfl) (by kernel_rfl) (puEf (p_assign rfl)) ?_
      rintro v w' ⟨hv, rfl⟩
      obtain rfl := hv.symm
      refine ⟨trivial, ?_⟩
      refine pkF (fun a hF => ?_)
      refine xn ?_
      obtain rfl := hsm H
      exact ⟨x4, s5, hS, hF.cut ⟨rfl, trivial⟩, ((hg1.trans hg2).trans hg3), HK1⟩
    · replace H := hbf hc1 H
      refine pkOff (j := 5) rfl (by decide) rfl (by kernel_rfl) rfl rfl rfl (by rw [hc1]; decide) ?_
      refine pkOff (j := 5) rfl (by decide) rfl (by kernel_rfl) rfl rfl rfl (by rw [hc1]; decide) ?_
      refine pkOff (j := 5) rfl (by decide) rfl (by kernel_rfl) rfl rfl rfl (by rw [hc1]; decide) ?_
      refine pkOff (j := 5) rfl (by decide) rfl (by kernel_rfl) rfl rfl rfl (by rw [hc1]; decide) ?_
      refine pkOff (j := 5) rfl (by decide) rfl (by kernel_rfl) rfl rfl rfl (by rw [hc1]; decide) ?_
      refine pk1 rfl (by decide) rfl (by kernel_rfl) rfl (p_pickF rfl hc1 rfl) ?_
      refine pkE [] rfl (by decide) (by kernel_rfl) (by kernel_rfl) (puEf (p_assign rfl)) ?_
      rintro v w' ⟨hv, rfl⟩
      obtain rfl := hv.symm
      refine ⟨trivial, ?_⟩
      refine pkF (fun a hF => ?_)
      refine xn ?_
      obtain rfl := hsm H
      replace hS := hS.sel (is := []) (A' := []) rfl
      exact ⟨false, s0, hS, hF.cut ⟨rfl, trivial⟩, (Sub.refl _), HK1⟩
  · clear H HK1 hS hF
    rintro a w ⟨x1, s2, hS, hF, hg4, H⟩
    unfold impl_samePage.c1 at H
    refine rt ?_
    obtain rfl := hsm H
    exact ret1 hF rfl rfl hS ⟨rfl, rfl⟩

def impl_Ahead_1.f (k : Nat) (x1 : TSeat) (x2 : TEngine) : Option Bool :=
  ((impl_made.f k x2.Log x1.No x1.P.Lsn).bind fun x3 => ((impl_samePage.f k x1.P x3).bind fun x4 => (some (!x4))))
set_option maxRecDepth 100000 in
set_option maxHeartbeats 4000000 in
theorem impl_Ahead_1.spec (k : Nat) (s0 : HF) (w : World) (x1 : TSeat) (x2 : TEngine) (c1 : List Value) (ad1 : Addr) (h1 : ((Kd.arr 4 kTSlot)).K s0 x1.P.Slots c1) (h2 : Pr kTEngine s0 ad1 x2) (r : Bool) (H : impl_Ahead_1.f k x1 x2 = some r) :
    Law Tryz.prog 50 #[(.agg ([(.int .i64 x1.No), (.int .i64 x1.P.Lsn)] ++ c1 ++ [(.bool x1.Dirty), (.bool x1.Hot)] : List Value).toArray), (.pointer (some ad1))] s0 w [] (fun v s1 A1 => v = (.bool r) ∧ A1 = []) := by
  unfold impl_Ahead_1.f at H
  refine Law.intro Tryz.func50 rfl [(0, (.agg ([(.int .i64 x1.No), (.int .i64 x1.P.Lsn)] ++ c1 ++ [(.bool x1.Dirty), (.bool x1.Hot)] : List Value).toArray)), (1, (.pointer (some ad1)))] (Nat.le_of_ble_eq_true rfl) (enter_lk ⟨rfl, rfl, trivial⟩) (fun e a hS hF => ?_)
  have hF : Fr 16 a [(0, (.agg ([(.int .i64 x1.No), (.int .i64 x1.P.Lsn)] ++ c1 ++ [(.bool x1.Dirty), (.bool x1.Hot)] : List Value).toArray)), (1, (.pointer (some ad1)))] := hF
  refine sq ?_
  refine rg ?_
  refine ste hF (e_box (cs := [(.int .i64 x1.No), (.int .i64 x1.P.Lsn)] ++ c1 ++ [(.bool x1.Dirty), (.bool x1.Hot)]) hS rfl rfl) (by decide) (fun v w a hR hF => ?_)
  obtain ⟨g1, rfl, hS⟩ := hR
  refine stp hF (p_assign rfl) (by decide) (fun a hF => ?_)
  refine nilN ?_
  refine xn ?_
  refine sq ?_
  replace hS : St e s0 w.drew [pt g1 105 ([(.int .i64 x1.No), (.int .i64 x1.P.Lsn)] ++ c1 ++ [(.bool x1.Dirty), (.bool x1.Hot)])] := hS.drewN 1
  refine drw [0, 1, 2, 3, 4, 5, 6, 7, 8, 9, 10, 11, 12] mixed (by kernel_rfl) (by decide) (hF.cut (L' := [(0, (.agg ([(.int .i64 x1.No), (.int .i64 x1.P.Lsn)] ++ c1 ++ [(.bool x1.Dirty), (.bool x1.Hot)] : List Value).toArray)), (1, (.pointer (some ad1))), (2, (.pointer (some ⟨g1, 0, none⟩))), (3, (.bool false))]) ⟨rfl, rfl, rfl, rfl, trivial⟩) ?_
  clear hF
  generalize w.drew = w at hS ⊢
  refine pk1 rfl (by decide) rfl (by kernel_rfl) rfl (p_fldb (o' := 1) rfl fi_105_1 rfl) ?_
  refine pk1 rfl (by decide) rfl (by kernel_rfl) rfl (p_ldb_agg (i := 0) (l := [(.int .i64 x1.No)]) (m := [(.int .i64 x1.P.Lsn)] ++ c1) (r := [(.bool x1.Dirty), (.bool x1.Hot)]) hS rfl rfl ia_48 ti_48 (by simp) (by simp [(show c1.length = 16 from Kd.len _ h1)]) (by simp [(show c1.length = 16 from Kd.len _ h1)])) ?_
  have h3 : Pr kTLog s0 (ad1.add 138) x2.Log := h2.lens kTEngine_Log
  refine pk1 rfl (by decide) rfl (by kernel_rfl) rfl (p_fld rfl fi_59_2) ?_
  obtain ⟨c2, h4, p1⟩ := p_ldr_agg (P := Tryz.prog) h3 ia_55 ti_55
  obtain ⟨v1, rfl, h5⟩ := kTLog_open h4
  refine pk1 rfl (by decide) rfl (by kernel_rfl) rfl (p1 rfl hS.ro) ?_
  refine pk1 rfl (by decide) rfl (by kernel_rfl) rfl (p_fldb (o' := 0) rfl fi_105_0 rfl) ?_
  refine pk1 rfl (by decide) rfl (by kernel_rfl) rfl (p_ldb_one (i := 0) hS rfl rfl ia_3 rfl) ?_
  refine pk1 rfl (by decide) rfl (by kernel_rfl) rfl (p_fldb (o' := 1) rfl fi_105_1 rfl) ?_
  refine pk1 rfl (by decide) rfl (by kernel_rfl) rfl (p_fldb (o' := 1) rfl fi_48_0 rfl) ?_
  refine pk1 rfl (by decide) rfl (by kernel_rfl) rfl (p_ldb_one (i := 0) hS rfl rfl ia_3 rfl) ?_
  obtain ⟨x3, hx1, H⟩ := hb H
  refine pkE [7, 6, 4, 2, 1, 0] rfl (by decide) (by kernel_rfl) (by kernel_rfl) (e_callA (fst := []) (vs := [(.agg #[v1, (.int .i64 x2.Log.Sure)]), (.int .i64 x1.No), (.int .i64 x1.P.Lsn)]) (cap := []) rfl rfl go_48 (St.call (A := []) (B := [pt g1 105 ([(.int .i64 x1.No), (.int .i64 x1.P.Lsn)] ++ c1 ++ [(.bool x1.Dirty), (.bool x1.Hot)])]) hS (impl_made.spec k _ _ x2.Log x1.No x1.P.Lsn v1 h5 _ hx1)) rfl) ?_
  intro v w hR
  obtain ⟨s2, A2, hg1, hS, hR⟩ := hR
  obtain ⟨c3, hv1, rfl, h6⟩ := hR; obtain rfl := hv1.symm
  have hS : St e s2 w [pt g1 105 ([(.int .i64 x1.No), (.int .i64 x1.P.Lsn)] ++ c1 ++ [(.bool x1.Dirty), (.bool x1.Hot)])] := hS
  refine ⟨⟨knw rfl rfl rfl (p_fldb (o' := 1) rfl fi_48_0 rfl), ⟨knw rfl rfl rfl (p_fldb (o' := 1) rfl fi_105_1 rfl), ⟨knw rfl rfl rfl (p_fldb (o' := 0) rfl fi_105_0 rfl), ⟨knw rfl rfl rfl (p_fld rfl fi_59_2), ⟨knw rfl rfl rfl (p_ldb_agg (i := 0) (l := [(.int .i64 x1.No)]) (m := [(.int .i64 x1.P.Lsn)] ++ c1) (r := [(.bool x1.Dirty), (.bool x1.Hot)]) hS rfl rfl ia_48 ti_48 (by simp) (by simp [(show c1.length = 16 from Kd.len _ ((Kd.arr 4 kTSlot).mono hg1 h1))]) (by simp [(show c1.length = 16 from Kd.len _ ((Kd.arr 4 kTSlot).mono hg1 h1))])), ⟨knw rfl rfl rfl (p_fldb (o' := 1) rfl fi_105_1 rfl), trivial⟩⟩⟩⟩⟩⟩, ?_⟩
  obtain ⟨x4, hx2, H⟩ := hb H
  refine pkE [7, 6, 4, 2, 0] rfl (by decide) (by kernel_rfl) (by kernel_rfl) (e_callA (fst := []) (vs := [(.agg ([(.int .i64 x1.P.Lsn)] ++ c1 : List Value).toArray), (.agg ([(.int .i64 x3.Lsn)] ++ c3 : List Value).toArray)]) (cap := []) rfl rfl go_47 (St.call (A := []) (B := [pt g1 105 ([(.int .i64 x1.No), (.int .i64 x1.P.Lsn)] ++ c1 ++ [(.bool x1.Dirty), (.bool x1.Hot)])]) hS (impl_samePage.spec k _ _ x1.P x3 c1 c3 ((Kd.arr 4 kTSlot).mono hg1 h1) h6 _ hx2)) rfl) ?_
  intro v w hR
  obtain ⟨s3, A3, hg2, hS, hR⟩ := hR
  obtain ⟨hv2, rfl⟩ := hR; obtain rfl := hv2.symm
  have hS : St e s3 w [pt g1 105 ([(.int .i64 x1.No), (.int .i64 x1.P.Lsn)] ++ c1 ++ [(.bool x1.Dirty), (.bool x1.Hot)])] := hS
  refine ⟨⟨knw rfl rfl rfl (p_fldb (o' := 1) rfl fi_48_0 rfl), ⟨knw rfl rfl rfl (p_fldb (o' := 1) rfl fi_105_1 rfl), ⟨knw rfl rfl rfl (p_fldb (o' := 0) rfl fi_105_0 rfl), ⟨knw rfl rfl rfl (p_fld rfl fi_59_2), ⟨knw rfl rfl rfl (p_fldb (o' := 1) rfl fi_105_1 rfl), trivial⟩⟩⟩⟩⟩, ?_⟩
  refine pk1 rfl (by decide) rfl (by kernel_rfl) rfl (p_not rfl) ?_
  refine pkE [] rfl (by decide) (by kernel_rfl) (by kernel_rfl) (puEf (p_assign rfl)) ?_
  rintro v w' ⟨hv, rfl⟩
  obtain rfl := hv.symm
  refine ⟨trivial, ?_⟩
  refine pkF (fun a hF => ?_)
  refine xn ?_
  refine rt ?_
  obtain rfl := hsm H
  replace hS := hS.sel (is := []) (A' := []) rfl
  exact ret1 hF rfl rfl hS ⟨rfl, rfl⟩

def impl_Seat_125_150.c1 (k : Nat) : Option Int :=
  (some (-1))
def impl_Seat_125_150.l1 (x1 : (List TSeat)) (x2 : TEngine) : Nat → Int → Option (Ex Int Unit)
  | 0, _ => none
  | k + 1, x3 => (if (decide (x3 < (x1.length : Int))) = true then (if 0 ≤ x3 ∧ x3 < (x1.length : Int) then ((impl_Ahead_1.f k (rd x1 x3) x2).bind fun x4 => (if x4 = true then (some (Ex.ret x3)) else ((impl_Seat_125_150.l1 x1 x2 k) (w64 (x3 + 1))))) else none) else (some (Ex.go ())))
def impl_Seat_125_150.f (k : Nat) (x1 : (List TSeat)) (x2 : TEngine) : Option Int :=
  (((impl_Seat_125_150.l1 x1 x2 k 0) : Option (Ex Int Unit)).bind fun x5 => Ex.on x5 (fun r => some r) (fun y => impl_Seat_125_150.c1 k))
set_option maxRecDepth 100000 in
set_option maxHeartbeats 4000000 in
theorem impl_Seat_125_150.spec (k : Nat) (s0 : HF) (w : World) (x1 : (List TSeat)) (x2 : TEngine) (v1 : Value) (ad1 : Addr) (h1 : Sl kTSeat s0 v1 x1) (h2 : Pr kTEngine s0 ad1 x2) (r : Int) (H : impl_Seat_125_150.f k x1 x2 = some r) :
    Law Tryz.prog 125 #[v1, (.func (.func 50) #[] #[(.pointer (some ad1))])] s0 w [] (fun v s1 A1 => v = (.int .i64 r) ∧ A1 = []) := by
  unfold impl_Seat_125_150.f at H
  refine Law.intro Tryz.func125 rfl [(0, v1), (1, (.func (.func 50) #[] #[(.pointer (some ad1))]))] (Nat.le_of_ble_eq_true rfl) (enter_lk ⟨rfl, rfl, trivial⟩) (fun e a hS hF => ?_)
  have hF : Fr 19 a [(0, v1), (1, (.func (.func 50) #[] #[(.pointer (some ad1))]))] := hF
  refine sq ?_
  refine rg ?_
  refine stp hF (p_assign rfl) (by decide) (fun a hF => ?_)
  refine nilN ?_
  refine xn ?_
  obtain ⟨x5, H, HK1⟩ := hb H
  refine sqj (fun a w => ∃ (s2 : HF) , St e s2 w [] ∧ Fr 19 a [] ∧ Sub s0 s2 ∧ impl_Seat_125_150.c1 k = some r) ?_ ?_
  · skip
    refine sq ?_
    refine rg ?_
    refine stp hF (p_move rfl) (by decide) (fun a hF => ?_)
    refine stp hF (p_lenr un_50 rfl h1) (by decide) (fun a hF => ?_)
    refine stp hF (p_move rfl) (by decide) (fun a hF => ?_)
    refine nilN ?_
    refine xn ?_
    refine blk ?_
    refine loop_ind (fun k1 a w => ∃ (x3 : Int) (s3 : HF) , St e s3 w [] ∧ Fr 19 a [(0, v1), (1, (.func (.func 50) #[] #[(.pointer (some ad1))])), (7, (.int .i64 (x1.length : Int))), (8, (.int .i64 x3))] ∧ Sub s0 s3 ∧ impl_Seat_125_150.l1 x1 x2 k1 x3 = some x5) k ?_ ?_ ?_
    · skip
      exact ⟨0, s0, hS, hF.cut ⟨rfl, rfl, rfl, rfl, trivial⟩, (Sub.refl _), H⟩
    · clear H hS hF
      rintro a w ⟨x3, s3, hS, hF, hg1, H⟩
      exact absurd (show none = some _ from H) (by simp)
    · clear H hS hF
      rintro k1 a w ⟨x3, s3, hS, hF, hg1, H⟩
      rw [impl_Seat_125_150.l1.eq_2] at H
      refine sq ?_
      refine rg ?_
      refine stp hF (p_lss rfl rfl) (by decide) (fun a hF => ?_)
      refine nilN ?_
      refine xn ?_
      refine sq ?_
      refine cnd hF rfl (fun hc1 => ?_) (fun hc1 => ?_)
      · replace H := hbt hc1 H
        refine skN ?_
        refine xn ?_
        refine sq ?_
        refine blk ?_
        refine sq ?_
        refine rg ?_
        refine stp hF (p_move rfl) (by decide) (fun a hF => ?_)
        refine stp hF (p_assign rfl) (by decide) (fun a hF => ?_)
        refine nilN ?_
        refine xn ?_
        refine sq ?_
        refine rg ?_
        refine stp hF (p_move rfl) (by decide) (fun a hF => ?_)
        refine stp hF (p_move rfl) (by decide) (fun a hF => ?_)
        refine stp hF (p_move rfl) (by decide) (fun a hF => ?_)
        obtain ⟨hq1, H⟩ := hck H
        obtain ⟨ad2, h3, p1⟩ := p_idxr (P := Tryz.prog) (i := x3) (h1.mono hg1) un_50 ti_105 hq1.1 hq1.2
        refine stp hF (p1 rfl rfl) (by decide) (fun a hF => ?_)
        obtain ⟨c2, h4, p2⟩ := p_ldr_agg (P := Tryz.prog) h3 ia_105 ti_105
        obtain ⟨c3, rfl, h5⟩ := kTSeat_open h4
        refine stp hF (p2 rfl hS.ro) (by decide) (fun a hF => ?_)
        obtain ⟨x4, hx1, H⟩ := hb H
        refine ste hF (e_callA (fst := []) (vs := [(.agg ([(.int .i64 ((rd x1 x3).No)), (.int .i64 (((rd x1 x3).P).Lsn))] ++ c3 ++ [(.bool ((rd x1 x3).Dirty)), (.bool ((rd x1 x3).Hot))] : List Value).toArray)]) (cap := [(.pointer (some ad1))]) rfl rfl go_50 (St.call (A := []) (B := []) hS (impl_Ahead_1.spec k1 _ _ (rd x1 x3) x2 c3 ad1 h5 (h2.mono hg1) _ hx1)) rfl) (by decide) (fun v w a hR hF => ?_)
        obtain ⟨s4, A2, hg2, hS, hR⟩ := hR
        obtain ⟨hv1, rfl⟩ := hR; obtain rfl := hv1.symm
        have hS : St e s4 w [] := hS
        refine nilN ?_
        refine xn ?_
        refine cnd hF rfl (fun hc2 => ?_) (fun hc2 => ?_)
        · replace H := hbt hc2 H
          refine sq ?_
          refine rg ?_
          refine stp hF (p_move rfl) (by decide) (fun a hF => ?_)
          refine stp hF (p_assign rfl) (by decide) (fun a hF => ?_)
          refine nilN ?_
          refine xn ?_
          refine rt ?_
          refine br (xr (xr (br (xr ?_))))
          obtain rfl := hsm H
          have H := hon1 HK1
          obtain rfl := hsm H
          exact ret1 hF rfl rfl hS ⟨rfl, rfl⟩
        · replace H := hbf hc2 H
          refine skN ?_
          refine bn (xn ?_)
          refine rg ?_
          refine stp hF (p_add (c := w64 (x3 + 1)) rfl rfl rfl) (by decide) (fun a hF => ?_)
          refine stp hF (p_move rfl) (by decide) (fun a hF => ?_)
          refine nilN ?_
          refine xn ?_
          exact ⟨(w64 (x3 + 1)), s4, hS, hF.cut ⟨rfl, rfl, rfl, rfl, trivial⟩, (hg1.trans hg2), H⟩
      · replace H := hbf hc1 H
        refine exi ?_
        refine xe (xe (hit (xn ?_)))
        obtain rfl := hsm H
        exact ⟨s3, hS, hF.cut trivial, hg1, HK1⟩
  · clear H HK1 hS hF
    rintro a w ⟨s2, hS, hF, hg3, H⟩
    unfold impl_Seat_125_150.c1 at H
    refine sq ?_
    refine rg ?_
    refine stp hF (p_assign rfl) (by decide) (fun a hF => ?_)
    refine nilN ?_
    refine xn ?_
    refine rt ?_
    obtain rfl := hsm H
    exact ret1 hF rfl rfl hS ⟨rfl, rfl⟩

def impl_Seat_49_150.f (k : Nat) (x1 : (List TSeat)) (x2 : TEngine) : Option Bool :=
  ((impl_Seat_125_150.f k x1 x2).bind fun x3 => (some (decide (0 ≤ x3))))
set_option maxRecDepth 100000 in
set_option maxHeartbeats 4000000 in
theorem impl_Seat_49_150.spec (k : Nat) (s0 : HF) (w : World) (x1 : (List TSeat)) (x2 : TEngine) (v1 : Value) (ad1 : Addr) (h1 : Sl kTSeat s0 v1 x1) (h2 : Pr kTEngine s0 ad1 x2) (r : Bool) (H : impl_Seat_49_150.f k x1 x2 = some r) :
    Law Tryz.prog 49 #[v1, (.func (.func 50) #[] #[(.pointer (some ad1))])] s0 w [] (fun v s1 A1 => v = (.bool r) ∧ A1 = []) := by
  unfold impl_Seat_49_150.f at H
  refine Law.intro Tryz.func49 rfl [(0, v1), (1, (.func (.func 50) #[] #[(.pointer (some ad1))]))] (Nat.le_of_ble_eq_true rfl) (enter_lk ⟨rfl, rfl, trivial⟩) (fun e a hS hF => ?_)
  have hF : Fr 9 a [(0, v1), (1, (.func (.func 50) #[] #[(.pointer (some ad1))]))] := hF
  refine sq ?_
  refine rg ?_
  refine stp hF (p_assign rfl) (by decide) (fun a hF => ?_)
  refine nilN ?_
  refine xn ?_
  refine sq ?_
  refine rg ?_
  refine stp hF (p_move rfl) (by decide) (fun a hF => ?_)
  refine stp hF (p_move rfl) (by decide) (fun a hF => ?_)
  obtain ⟨x3, hx1, H⟩ := hb H
  refine ste hF (e_callA (fst := []) (vs := [v1, (.func (.func 50) #[] #[(.pointer (some ad1))])]) (cap := []) rfl rfl go_125 (St.call (A := []) (B := []) hS (impl_Seat_125_150.spec k _ _ x1 x2 v1 ad1 h1 h2 _ hx1)) rfl) (by decide) (fun v w a hR hF => ?_)
  obtain ⟨s2, A2, hg1, hS, hR⟩ := hR
  obtain ⟨hv1, rfl⟩ := hR; obtain rfl := hv1.symm
  have hS : St e s2 w [] := hS
  refine stp hF (p_geq rfl rfl) (by decide) (fun a hF => ?_)
  refine stp hF (p_assign rfl) (by decide) (fun a hF => ?_)
  refine nilN ?_
  refine xn ?_
  refine rt ?_
  obtain rfl := hsm H
  exact ret1 hF rfl rfl hS ⟨rfl, rfl⟩

def impl_Ahead.c1 (k : Nat) (x1 : TEngine) : Option Bool :=
  ((impl_Seat_49_150.f k x1.Pool.Seats x1).bind fun x2 => (some (!x2)))
def impl_Ahead.l1 (x1 : TEngine) : Nat → Int → Option (Ex Bool Unit)
  | 0, _ => none
  | k + 1, x3 => (if (decide (x3 < 8)) = true then (if 0 ≤ x3 ∧ x3 < 8 then ((impl_made.f k x1.Log x3 ((rd x1.Disk x3).Lsn)).bind fun x4 => ((impl_samePage.f k (rd x1.Disk x3) x4).bind fun x5 => (if (!x5) = true then (some (Ex.ret false)) else ((impl_Ahead.l1 x1 k) (w64 (x3 + 1)))))) else none) else (some (Ex.go ())))
def impl_Ahead.f (k : Nat) (x1 : TEngine) : Option Bool :=
  (((impl_Ahead.l1 x1 k 0) : Option (Ex Bool Unit)).bind fun x6 => Ex.on x6 (fun r => some r) (fun y => impl_Ahead.c1 k x1))
set_option maxRecDepth 100000 in
set_option maxHeartbeats 4000000 in
theorem impl_Ahead.spec (k : Nat) (s0 : HF) (w : World) (x1 : TEngine) (c2 : List Value) (v1 : Value) (v2 : Value) (v3 : Value) (v4 : Value) (h1 : ((Kd.arr 8 kTPage)).K s0 x1.Disk c2) (h2 : Sl kTSeat s0 v1 x1.Pool.Seats) (h3 : Sl kTRec s0 v2 x1.Log.Recs) (h4 : Sl kTLive s0 v3 x1.Txs) (h5 : Sl kTHold s0 v4 x1.Holds) (r : Bool) (H : impl_Ahead.f k x1 = some r) :
    Law Tryz.prog 10 #[(.agg (c2 ++ [v1, (.int .i64 x1.Pool.Hand), v2, (.int .i64 x1.Log.Sure), v3, v4, (.int .i64 x1.Next), (.bool x1.Down)] : List Value).toArray)] s0 w [] (fun v s1 A1 => v = (.bool r) ∧ A1 = []) := by
  unfold impl_Ahead.f at H
  refine Law.intro Tryz.func10 rfl [(0, (.agg (c2 ++ [v1, (.int .i64 x1.Pool.Hand), v2, (.int .i64 x1.Log.Sure), v3, v4, (.int .i64 x1.Next), (.bool x1.Down)] : List Value).toArray))] (Nat.le_of_ble_eq_true rfl) (enter_lk ⟨rfl, trivial⟩) (fun e a hS hF => ?_)
  have hF : Fr 27 a [(0, (.agg (c2 ++ [v1, (.int .i64 x1.Pool.Hand), v2, (.int .i64 x1.Log.Sure), v3, v4, (.int .i64 x1.Next), (.bool x1.Down)] : List Value).toArray))] := hF
  refine sq ?_
  refine rg ?_
  refine ste hF (e_box (cs := c2 ++ [v1, (.int .i64 x1.Pool.Hand), v2, (.int .i64 x1.Log.Sure), v3, v4, (.int .i64 x1.Next), (.bool x1.Down)]) hS rfl rfl) (by decide) (fun v w a hR hF => ?_)
  obtain ⟨g1, rfl, hS⟩ := hR
  refine stp hF (p_assign rfl) (by decide) (fun a hF => ?_)
  refine nilN ?_
  refine xn ?_
  obtain ⟨x6, H, HK1⟩ := hb H
  refine sqj (fun a w => ∃ (s2 : HF) , St e s2 w [pt g1 59 (c2 ++ [v1, (.int .i64 x1.Pool.Hand), v2, (.int .i64 x1.Log.Sure), v3, v4, (.int .i64 x1.Next), (.bool x1.Down)])] ∧ Fr 27 a [(1, (.pointer (some ⟨g1, 0, none⟩)))] ∧ Sub s0 s2 ∧ impl_Ahead.c1 k x1 = some r) ?_ ?_
  · skip
    refine sq ?_
    refine rg ?_
    refine stp hF (p_fldb (o' := 0) rfl fi_59_0 rfl) (by decide) (fun a hF => ?_)
    refine stp hF (p_ldb_agg (i := 0) (l := []) (m := c2) (r := [v1, (.int .i64 x1.Pool.Hand), v2, (.int .i64 x1.Log.Sure), v3, v4, (.int .i64 x1.Next), (.bool x1.Down)]) hS rfl rfl ia_49 ti_49 (by simp) (by simp [(show c2.length = 136 from Kd.len _ h1)]) (by simp [(show c2.length = 136 from Kd.len _ h1)])) (by decide) (fun a hF => ?_)
    refine stp hF (p_move rfl) (by decide) (fun a hF => ?_)
    refine nilN ?_
    refine xn ?_
    refine blk ?_
    refine loop_ind (fun k1 a w => ∃ (x3 : Int) (s3 : HF) , St e s3 w [pt g1 59 (c2 ++ [v1, (.int .i64 x1.Pool.Hand), v2, (.int .i64 x1.Log.Sure), v3, v4, (.int .i64 x1.Next), (.bool x1.Down)])] ∧ Fr 27 a [(1, (.pointer (some ⟨g1, 0, none⟩))), (6, (.agg c2.toArray)), (7, (.int .i64 x3))] ∧ Sub s0 s3 ∧ impl_Ahead.l1 x1 k1 x3 = some x6) k ?_ ?_ ?_
    · skip
      exact ⟨0, s0, hS, hF.cut ⟨rfl, rfl, rfl, trivial⟩, (Sub.refl _), H⟩
    · clear H hS hF
      rintro a w ⟨x3, s3, hS, hF, hg1, H⟩
      exact absurd (show none = some _ from H) (by simp)
    · clear H hS hF
      rintro k1 a w ⟨x3, s3, hS, hF, hg1, H⟩
      rw [impl_Ahead.l1.eq_2] at H
      refine sq ?_
      refine rg ?_
      refine stp hF (p_lss rfl rfl) (by decide) (fun a hF => ?_)
      refine nilN ?_
      refine xn ?_
      refine sq ?_
      refine cnd hF rfl (fun hc1 => ?_) (fun hc1 => ?_)
      · replace H := hbt hc1 H
        refine skN ?_
        refine xn ?_
        refine sq ?_
        refine blk ?_
        refine sq ?_
        refine rg ?_
        refine stp hF (p_move rfl) (by decide) (fun a hF => ?_)
        obtain ⟨hq1, H⟩ := hck H
        obtain ⟨c3, h6, p1⟩ := p_idxv_agg (P := Tryz.prog) (i := x3) ((Kd.arr 8 kTPage).mono hg1 h1) un_49 ti_48 ia_48 hq1.1 hq1.2
        obtain ⟨c4, rfl, h7⟩ := kTPage_open h6
        refine stp hF (p1 rfl rfl) (by decide) (fun a hF => ?_)
        refine ste hF (e_alloc (cs := [(.int .i64 0)] ++ za_46) hS ti_48 rfl) (by decide) (fun v w a hR hF => ?_)
        obtain ⟨g2, rfl, hS⟩ := hR
        refine stp hF (p_assign rfl) (by decide) (fun a hF => ?_)
        refine ste0 hF (e_stb (i := 0) (l := []) (m := [(.int .i64 0)] ++ za_46) (r := []) (m' := [(.int .i64 ((rd x1.Disk x3).Lsn))] ++ c4) (cs' := [(.int .i64 ((rd x1.Disk x3).Lsn))] ++ c4) hS rfl rfl rfl ti_48 (by simp) (by simp [zl_46, (show c4.length = 16 from Kd.len _ h7)]) (by simp [zl_46, (show c4.length = 16 from Kd.len _ h7)]) rfl (by simp [zl_46, (show c4.length = 16 from Kd.len _ h7)]) (one_app (one_cons rfl one_nil) (Kd.one _ h7)) (by simp)) (fun v w a hR hF => ?_)
        have hS : St e s3 w [pt g2 48 ([(.int .i64 ((rd x1.Disk x3).Lsn))] ++ c4), pt g1 59 (c2 ++ [v1, (.int .i64 x1.Pool.Hand), v2, (.int .i64 x1.Log.Sure), v3, v4, (.int .i64 x1.Next), (.bool x1.Down)])] := hR
        refine nilN ?_
        refine xn ?_
        refine sq ?_
        replace hS : St e s3 w.drew [pt g2 48 ([(.int .i64 ((rd x1.Disk x3).Lsn))] ++ c4), pt g1 59 (c2 ++ [v1, (.int .i64 x1.Pool.Hand), v2, (.int .i64 x1.Log.Sure), v3, v4, (.int .i64 x1.Next), (.bool x1.Down)])] := hS.drewN 1
        refine drw [0, 1, 2, 3, 4, 5, 6, 7, 8] mixed (by kernel_rfl) (by decide) (hF.cut (L' := [(1, (.pointer (some ⟨g1, 0, none⟩))), (3, (.int .i64 x3)), (4, (.pointer (some ⟨g2, 0, none⟩))), (6, (.agg c2.toArray)), (7, (.int .i64 x3)), (8, (.bool (decide (x3 < 8)))), (9, (.int .i64 x3)), (10, (.agg ([(.int .i64 ((rd x1.Disk x3).Lsn))] ++ c4 : List Value).toArray))]) ⟨rfl, rfl, rfl, rfl, rfl, rfl, rfl, rfl, trivial⟩) ?_
        clear hF
        generalize w.drew = w at hS ⊢
        refine pk1 rfl (by decide) rfl (by kernel_rfl) rfl (p_ldb_agg (i := 0) (l := []) (m := [(.int .i64 ((rd x1.Disk x3).Lsn))] ++ c4) (r := []) hS rfl rfl ia_48 ti_48 (by simp) (by simp [(show c4.length = 16 from Kd.len _ h7)]) (by simp [(show c4.length = 16 from Kd.len _ h7)])) ?_
        refine pk1 rfl (by decide) rfl (by kernel_rfl) rfl (p_fldb (o' := 138) rfl fi_59_2 rfl) ?_
        refine pk1 rfl (by decide) rfl (by kernel_rfl) rfl (p_ldb_agg (i := 1) (l := c2 ++ [v1, (.int .i64 x1.Pool.Hand)]) (m := [v2, (.int .i64 x1.Log.Sure)]) (r := [v3, v4, (.int .i64 x1.Next), (.bool x1.Down)]) hS rfl rfl ia_55 ti_55 (by simp) (by simp [(show c2.length = 136 from Kd.len _ ((Kd.arr 8 kTPage).mono hg1 h1))]) (by simp [(show c2.length = 136 from Kd.len _ ((Kd.arr 8 kTPage).mono hg1 h1))])) ?_
        refine pk1 rfl (by decide) rfl (by kernel_rfl) rfl (p_move rfl) ?_
        refine pk1 rfl (by decide) rfl (by kernel_rfl) rfl (p_fldb (o' := 0) rfl fi_48_0 rfl) ?_
        refine pk1 rfl (by decide) rfl (by kernel_rfl) rfl (p_ldb_one (i := 0) hS rfl rfl ia_3 rfl) ?_
        obtain ⟨x4, hx1, H⟩ := hb H
        refine pkE [4, 1, 0] rfl (by decide) (by kernel_rfl) (by kernel_rfl) (e_callA (fst := []) (vs := [(.agg #[v2, (.int .i64 x1.Log.Sure)]), (.int .i64 x3), (.int .i64 ((rd x1.Disk x3).Lsn))]) (cap := []) rfl rfl go_48 (St.call (A := []) (B := [pt g2 48 ([(.int .i64 ((rd x1.Disk x3).Lsn))] ++ c4), pt g1 59 (c2 ++ [v1, (.int .i64 x1.Pool.Hand), v2, (.int .i64 x1.Log.Sure), v3, v4, (.int .i64 x1.Next), (.bool x1.Down)])]) hS (impl_made.spec k1 _ _ x1.Log x3 ((rd x1.Disk x3).Lsn) v2 (h3.mono hg1) _ hx1)) rfl) ?_
        intro v w hR
        obtain ⟨s4, A2, hg2, hS, hR⟩ := hR
        obtain ⟨c5, hv1, rfl, h8⟩ := hR; obtain rfl := hv1.symm
        have hS : St e s4 w [pt g2 48 ([(.int .i64 ((rd x1.Disk x3).Lsn))] ++ c4), pt g1 59 (c2 ++ [v1, (.int .i64 x1.Pool.Hand), v2, (.int .i64 x1.Log.Sure), v3, v4, (.int .i64 x1.Next), (.bool x1.Down)])] := hS
        refine ⟨⟨knw rfl rfl rfl (p_fldb (o' := 0) rfl fi_48_0 rfl), ⟨knw rfl rfl rfl (p_fldb (o' := 138) rfl fi_59_2 rfl), ⟨knw rfl rfl rfl (p_ldb_agg (i := 0) (l := []) (m := [(.int .i64 ((rd x1.Disk x3).Lsn))] ++ c4) (r := []) hS rfl rfl ia_48 ti_48 (by simp) (by simp [(show c4.length = 16 from Kd.len _ ((Kd.arr 4 kTSlot).mono hg2 h7))]) (by simp [(show c4.length = 16 from Kd.len _ ((Kd.arr 4 kTSlot).mono hg2 h7))])), trivial⟩⟩⟩, ?_⟩
        obtain ⟨x5, hx2, H⟩ := hb H
        refine pkE [4, 1] rfl (by decide) (by kernel_rfl) (by kernel_rfl) (e_callA (fst := []) (vs := [(.agg ([(.int .i64 ((rd x1.Disk x3).Lsn))] ++ c4 : List Value).toArray), (.agg ([(.int .i64 x4.Lsn)] ++ c5 : List Value).toArray)]) (cap := []) rfl rfl go_47 (St.call (A := []) (B := [pt g2 48 ([(.int .i64 ((rd x1.Disk x3).Lsn))] ++ c4), pt g1 59 (c2 ++ [v1, (.int .i64 x1.Pool.Hand), v2, (.int .i64 x1.Log.Sure), v3, v4, (.int .i64 x1.Next), (.bool x1.Down)])]) hS (impl_samePage.spec k1 _ _ (rd x1.Disk x3) x4 c4 c5 ((Kd.arr 4 kTSlot).mono hg2 h7) h8 _ hx2)) rfl) ?_
        intro v w hR
        obtain ⟨s5, A3, hg3, hS, hR⟩ := hR
        obtain ⟨hv2, rfl⟩ := hR; obtain rfl := hv2.symm
        have hS : St e s5 w [pt g2 48 ([(.int .i64 ((rd x1.Disk x3).Lsn))] ++ c4), pt g1 59 (c2 ++ [v1, (.int .i64 x1.Pool.Hand), v2, (.int .i64 x1.Log.Sure), v3, v4, (.int .i64 x1.Next), (.bool x1.Down)])] := hS
        refine ⟨⟨knw rfl rfl rfl (p_fldb (o' := 0) rfl fi_48_0 rfl), ⟨knw rfl rfl rfl (p_fldb (o' := 138) rfl fi_59_2 rfl), trivial⟩⟩, ?_⟩
        refine pk1 rfl (by decide) rfl (by kernel_rfl) rfl (p_not rfl) ?_
        refine pkF (fun a hF => ?_)
        refine xn ?_
        refine cnd hF rfl (fun hc2 => ?_) (fun hc2 => ?_)
        · replace H := hbt hc2 H
          refine sq ?_
          refine rg ?_
          refine stp hF (p_assign rfl) (by decide) (fun a hF => ?_)
          refine nilN ?_
          refine xn ?_
          refine rt ?_
          refine br (xr (xr (br (xr ?_))))
          obtain rfl := hsm H
          have H := hon1 HK1
          obtain rfl := hsm H
          replace hS := hS.sel (is := []) (A' := []) rfl
          exact ret1 hF rfl rfl hS ⟨rfl, rfl⟩
        · replace H := hbf hc2 H
          refine skN ?_
          refine bn (xn ?_)
          refine rg ?_
          refine stp hF (p_add (c := w64 (x3 + 1)) rfl rfl rfl) (by decide) (fun a hF => ?_)
          refine stp hF (p_move rfl) (by decide) (fun a hF => ?_)
          refine nilN ?_
          refine xn ?_
          replace hS := hS.sel (is := [1]) (A' := [pt g1 59 (c2 ++ [v1, (.int .i64 x1.Pool.Hand), v2, (.int .i64 x1.Log.Sure), v3, v4, (.int .i64 x1.Next), (.bool x1.Down)])]) rfl
          exact ⟨(w64 (x3 + 1)), s5, hS, hF.cut ⟨rfl, rfl, rfl, trivial⟩, ((hg1.trans hg2).trans hg3), H⟩
      · replace H := hbf hc1 H
        refine exi ?_
        refine xe (xe (hit (xn ?_)))
        obtain rfl := hsm H
        exact ⟨s3, hS, hF.cut ⟨rfl, trivial⟩, hg1, HK1⟩
  · clear H HK1 hS hF
    rintro a w ⟨s2, hS, hF, hg4, H⟩
    unfold impl_Ahead.c1 at H
    refine sq ?_
    refine rg ?_
    refine stp hF (p_fldb (o' := 136) rfl fi_59_1 rfl) (by decide) (fun a hF => ?_)
    refine stp hF (p_fldb (o' := 136) rfl fi_52_0 rfl) (by decide) (fun a hF => ?_)
    refine stp hF (p_ldb_one (i := 0) (v := v1) hS rfl rfl ia_50 (by simp [(show c2.length = 136 from Kd.len _ ((Kd.arr 8 kTPage).mono hg4 h1))])) (by decide) (fun a hF => ?_)
    obtain ⟨s6, hg5, h9, hS⟩ := hS.freezeB (i := 0) (g := g1) (T := 59) (cs := c2 ++ [v1, (.int .i64 x1.Pool.Hand), v2, (.int .i64 x1.Log.Sure), v3, v4, (.int .i64 x1.Next), (.bool x1.Down)]) (B := []) rfl
    have h10 : Pr kTEngine s6 ⟨g1, 0, none⟩ x1 := Pr.box h9 (by exact (kTEngine_mk (x := x1) ((Kd.arr 8 kTPage).mono hg5 ((Kd.arr 8 kTPage).mono hg4 h1)) ((h2.mono hg4).mono hg5) ((h3.mono hg4).mono hg5) ((h4.mono hg4).mono hg5) ((h5.mono hg4).mono hg5)))
    have h11 : Pr kTPool s6 (⟨g1, 136, none⟩ : Addr) x1.Pool := h10.lens kTEngine_Pool
    have h12 : Pr (Kd.slice kTSeat) s6 (⟨g1, 136, none⟩ : Addr) x1.Pool.Seats := h10.lens (kTEngine_Pool.comp kTPool_Seats)
    refine stp hF (p_makefunc (fs := []) (cs := [(.tmp 1)]) rfl rfl) (by decide) (fun a hF => ?_)
    obtain ⟨x2, hx3, H⟩ := hb H
    refine ste hF (e_callA (fst := []) (vs := [v1, (.func (.func 50) #[] #[(.pointer (some (⟨g1, 0, none⟩ : Addr)))])]) (cap := []) rfl rfl go_49 (St.call (A := []) (B := []) hS (impl_Seat_49_150.spec k _ _ x1.Pool.Seats x1 v1 (⟨g1, 0, none⟩ : Addr) ((h2.mono hg4).mono hg5) h10 _ hx3)) rfl) (by decide) (fun v w a hR hF => ?_)
    obtain ⟨s7, A4, hg6, hS, hR⟩ := hR
    obtain ⟨hv3, rfl⟩ := hR; obtain rfl := hv3.symm
    have hS : St e s7 w [] := hS
    refine stp hF (p_not rfl) (by decide) (fun a hF => ?_)
    refine stp hF (p_assign rfl) (by decide) (fun a hF => ?_)
    refine nilN ?_
    refine xn ?_
    refine rt ?_
    obtain rfl := hsm H
    exact ret1 hF rfl rfl hS ⟨rfl, rfl⟩

def laws_eqIntS.c1 (k : Nat) : Option Bool :=
  (some true)
def laws_eqIntS.l1 (x1 : (List Int)) (x2 : (List Int)) : Nat → Int → Option (Ex Bool Unit)
  | 0, _ => none
  | k + 1, x3 => (if (decide (x3 < (x1.length : Int))) = true then (if 0 ≤ x3 ∧ x3 < (x1.length : Int) then (if 0 ≤ x3 ∧ x3 < (x2.length : Int) then (if (decide ((rd x1 x3) ≠ (rd x2 x3))) = true then (some (Ex.ret false)) else ((laws_eqIntS.l1 x1 x2 k) (w64 (x3 + 1)))) else none) else none) else (some (Ex.go ())))
def laws_eqIntS.f (k : Nat) (x1 : (List Int)) (x2 : (List Int)) : Option Bool :=
  (if (decide ((x1.length : Int) ≠ (x2.length : Int))) = true then (some false) else (((laws_eqIntS.l1 x1 x2 k 0) : Option (Ex Bool Unit)).bind fun x4 => Ex.on x4 (fun r => some r) (fun y => laws_eqIntS.c1 k)))
set_option maxRecDepth 100000 in
set_option maxHeartbeats 4000000 in
theorem laws_eqIntS.spec (k : Nat) (s0 : HF) (w : World) (x1 : (List Int)) (x2 : (List Int)) (v1 : Value) (v2 : Value) (h1 : Sl (Kd.int .i64) s0 v1 x1) (h2 : Sl (Kd.int .i64) s0 v2 x2) (r : Bool) (H : laws_eqIntS.f k x1 x2 = some r) :
    Law Tryz.prog 310 #[v1, v2] s0 w [] (fun v s1 A1 => v = (.bool r) ∧ A1 = []) := by
  unfold laws_eqIntS.f at H
  refine Law.intro Tryz.func310 rfl [(0, v1), (1, v2)] (Nat.le_of_ble_eq_true rfl) (enter_lk ⟨rfl, rfl, trivial⟩) (fun e a hS hF => ?_)
  have hF : Fr 26 a [(0, v1), (1, v2)] := hF
  refine sq ?_
  refine rg ?_
  refine stp hF (p_assign rfl) (by decide) (fun a hF => ?_)
  refine nilN ?_
  refine xn ?_
  refine sq ?_
  refine sq ?_
  refine rg ?_
  refine stp hF (p_move rfl) (by decide) (fun a hF => ?_)
  refine stp hF (p_lenr un_22 rfl h1) (by decide) (fun a hF => ?_)
  refine stp hF (p_move rfl) (by decide) (fun a hF => ?_)
  refine stp hF (p_lenr un_22 rfl h2) (by decide) (fun a hF => ?_)
  refine stp hF (p_neq rfl rfl) (by decide) (fun a hF => ?_)
  refine nilN ?_
  refine xn ?_
  refine cnd hF rfl (fun hc1 => ?_) (fun hc1 => ?_)
  · replace H := hbt hc1 H
    refine sq ?_
    refine rg ?_
    refine stp hF (p_assign rfl) (by decide) (fun a hF => ?_)
    refine nilN ?_
    refine xn ?_
    refine rt ?_
    refine xr ?_
    obtain rfl := hsm H
    exact ret1 hF rfl rfl hS ⟨rfl, rfl⟩
  · replace H := hbf hc1 H
    refine skN ?_
    refine xn ?_
    obtain ⟨x4, H, HK1⟩ := hb H
    refine sqj (fun a w => St e s0 w [] ∧ Fr 26 a [] ∧ laws_eqIntS.c1 k = some r) ?_ ?_
    · skip
      refine sq ?_
      refine rg ?_
      refine stp hF (p_assign rfl) (by decide) (fun a hF => ?_)
      refine nilN ?_
      refine xn ?_
      refine blk ?_
      refine loop_ind (fun k1 a w => ∃ (x3 : Int) , St e s0 w [] ∧ Fr 26 a [(0, v1), (1, v2), (5, (.int .i64 x3))] ∧ laws_eqIntS.l1 x1 x2 k1 x3 = some x4) k ?_ ?_ ?_
      · skip
        exact ⟨0, hS, hF.cut ⟨rfl, rfl, rfl, trivial⟩, H⟩
      · clear H hS hF
        rintro a w ⟨x3, hS, hF, H⟩
        exact absurd (show none = some _ from H) (by simp)
      · clear H hS hF
        rintro k1 a w ⟨x3, hS, hF, H⟩
        rw [laws_eqIntS.l1.eq_2] at H
        refine sq ?_
        refine sq ?_
        refine rg ?_
        refine stp hF (p_move rfl) (by decide) (fun a hF => ?_)
        refine stp hF (p_move rfl) (by decide) (fun a hF => ?_)
        refine stp hF (p_lenr un_22 rfl h1) (by decide) (fun a hF => ?_)
        refine stp hF (p_lss rfl rfl) (by decide) (fun a hF => ?_)
        refine nilN ?_
        refine xn ?_
        refine cnd hF rfl (fun hc2 => ?_) (fun hc2 => ?_)
        · replace H := hbt hc2 H
          refine skN ?_
          refine xn ?_
          refine sq ?_
          refine blk ?_
          refine sq ?_
          replace hS : St e s0 w.drew [] := hS.drewN 1
          refine drw [0, 1, 2, 3, 4, 5, 6, 7, 8] mixed (by kernel_rfl) (by decide) (hF.cut (L' := [(0, v1), (1, v2), (5, (.int .i64 x3)), (11, (.int .i64 x3)), (12, v1), (13, (.int .i64 (x1.length : Int))), (14, (.bool (decide (x3 < (x1.length : Int)))))]) ⟨rfl, rfl, rfl, rfl, rfl, rfl, rfl, trivial⟩) ?_
          clear hF
          generalize w.drew = w at hS ⊢
          refine pk1 rfl (by decide) rfl (by kernel_rfl) rfl (p_move rfl) ?_
          refine pk1 rfl (by decide) rfl (by kernel_rfl) rfl (p_move rfl) ?_
          obtain ⟨hq1, H⟩ := hck H
          obtain ⟨ad1, h3, p1⟩ := p_idxr (P := Tryz.prog) (i := x3) h1 un_22 ti_3 hq1.1 hq1.2
          refine pk1 rfl (by decide) rfl (by kernel_rfl) rfl (p1 rfl rfl) ?_
          refine pk1 rfl (by decide) rfl (by kernel_rfl) rfl (p_ldr_int rfl hS h3 ia_3) ?_
          refine pk1 rfl (by decide) rfl (by kernel_rfl) rfl (p_move rfl) ?_
          refine pk1 rfl (by decide) rfl (by kernel_rfl) rfl (p_move rfl) ?_
          obtain ⟨hq2, H⟩ := hck H
          obtain ⟨ad2, h4, p2⟩ := p_idxr (P := Tryz.prog) (i := x3) h2 un_22 ti_3 hq2.1 hq2.2
          refine pk1 rfl (by decide) rfl (by kernel_rfl) rfl (p2 rfl rfl) ?_
          refine pk1 rfl (by decide) rfl (by kernel_rfl) rfl (p_ldr_int rfl hS h4 ia_3) ?_
          refine pk1 rfl (by decide) rfl (by kernel_rfl) rfl (p_neq rfl rfl) ?_
          refine pkF (fun a hF => ?_)
          refine xn ?_
          refine cnd hF rfl (fun hc3 => ?_) (fun hc3 => ?_)
          · replace H := hbt hc3 H
            refine sq ?_
            refine rg ?_
            refine stp hF (p_assign rfl) (by decide) (fun a hF => ?_)
            refine nilN ?_
            refine xn ?_
            refine rt ?_
            refine br (xr (xr (br (xr ?_))))
            obtain rfl := hsm H
            have H := hon1 HK1
            obtain rfl := hsm H
            exact ret1 hF rfl rfl hS ⟨rfl, rfl⟩
          · replace H := hbf hc3 H
            refine skN ?_
            refine bn (xn ?_)
            refine rg ?_
            refine stp hF (p_move rfl) (by decide) (fun a hF => ?_)
            refine stp hF (p_add (c := w64 (x3 + 1)) rfl rfl rfl) (by decide) (fun a hF => ?_)
            refine stp hF (p_assign rfl) (by decide) (fun a hF => ?_)
            refine nilN ?_
            refine xn ?_
            exact ⟨(w64 (x3 + 1)), hS, hF.cut ⟨rfl, rfl, rfl, trivial⟩, H⟩
        · replace H := hbf hc2 H
          refine exi ?_
          refine xe (xe (hit (xn ?_)))
          obtain rfl := hsm H
          exact ⟨hS, hF.cut trivial, HK1⟩
    · clear H HK1 hS hF
      rintro a w ⟨hS, hF, H⟩
      unfold laws_eqIntS.c1 at H
      refine sq ?_
      refine rg ?_
      refine stp hF (p_assign rfl) (by decide) (fun a hF => ?_)
      refine nilN ?_
      refine xn ?_
      refine rt ?_
      obtain rfl := hsm H
      exact ret1 hF rfl rfl hS ⟨rfl, rfl⟩

def laws_eqObj.f (k : Nat) (x1 : TObj) (x2 : TObj) : Option Bool :=
  (if (decide (x1.Kind ≠ x2.Kind)) = true then (some false) else ((laws_eqIntS.f k x1.Ints x2.Ints).bind fun x3 => (if (!x3) = true then (some false) else ((laws_eqIntS.f k x1.Refs x2.Refs).bind fun x4 => (if (!x4) = true then (some false) else (some true))))))
set_option maxRecDepth 100000 in
set_option maxHeartbeats 4000000 in
theorem laws_eqObj.spec (k : Nat) (s0 : HF) (w : World) (x1 : TObj) (x2 : TObj) (v1 : Value) (v2 : Value) (v3 : Value) (v4 : Value) (h1 : Sl (Kd.int .i64) s0 v1 x1.Ints) (h2 : Sl (Kd.int .i64) s0 v2 x1.Refs) (h3 : Sl (Kd.int .i64) s0 v3 x2.Ints) (h4 : Sl (Kd.int .i64) s0 v4 x2.Refs) (r : Bool) (H : laws_eqObj.f k x1 x2 = some r) :
    Law Tryz.prog 289 #[(.agg #[(.int .i64 x1.Kind), v1, v2]), (.agg #[(.int .i64 x2.Kind), v3, v4])] s0 w [] (fun v s1 A1 => v = (.bool r) ∧ A1 = []) := by
  unfold laws_eqObj.f at H
  refine Law.intro Tryz.func289 rfl [(0, (.agg #[(.int .i64 x1.Kind), v1, v2])), (1, (.agg #[(.int .i64 x2.Kind), v3, v4]))] (Nat.le_of_ble_eq_true rfl) (enter_lk ⟨rfl, rfl, trivial⟩) (fun e a hS hF => ?_)
  have hF : Fr 22 a [(0, (.agg #[(.int .i64 x1.Kind), v1, v2])), (1, (.agg #[(.int .i64 x2.Kind), v3, v4]))] := hF
  refine sq ?_
  refine rg ?_
  refine ste hF (e_box (cs := [(.int .i64 x1.Kind), v1, v2]) hS rfl rfl) (by decide) (fun v w a hR hF => ?_)
  obtain ⟨g1, rfl, hS⟩ := hR
  refine ste hF (e_box (cs := [(.int .i64 x2.Kind), v3, v4]) hS rfl rfl) (by decide) (fun v w a hR hF => ?_)
  obtain ⟨g2, rfl, hS⟩ := hR
  refine stp hF (p_assign rfl) (by decide) (fun a hF => ?_)
  refine nilN ?_
  refine xn ?_
  refine sq ?_
  refine sq ?_
  refine rg ?_
  refine stp hF (p_fldb (o' := 0) rfl fi_43_0 rfl) (by decide) (fun a hF => ?_)
  refine stp hF (p_ldb_one (i := 1) hS rfl rfl ia_3 rfl) (by decide) (fun a hF => ?_)
  refine stp hF (p_fldb (o' := 0) rfl fi_43_0 rfl) (by decide) (fun a hF => ?_)
  refine stp hF (p_ldb_one (i := 0) hS rfl rfl ia_3 rfl) (by decide) (fun a hF => ?_)
  refine stp hF (p_neq rfl rfl) (by decide) (fun a hF => ?_)
  refine nilN ?_
  refine xn ?_
  refine cnd hF rfl (fun hc1 => ?_) (fun hc1 => ?_)
  · replace H := hbt hc1 H
    refine sq ?_
    refine rg ?_
    refine stp hF (p_assign rfl) (by decide) (fun a hF => ?_)
    refine nilN ?_
    refine xn ?_
    refine rt ?_
    refine xr ?_
    obtain rfl := hsm H
    replace hS := hS.sel (is := []) (A' := []) rfl
    exact ret1 hF rfl rfl hS ⟨rfl, rfl⟩
  · replace H := hbf hc1 H
    refine skN ?_
    refine xn ?_
    refine sq ?_
    refine sq ?_
    refine rg ?_
    refine stp hF (p_fldb (o' := 1) rfl fi_43_1 rfl) (by decide) (fun a hF => ?_)
    refine stp hF (p_ldb_one (i := 1) hS rfl rfl ia_22 rfl) (by decide) (fun a hF => ?_)
    refine stp hF (p_fldb (o' := 1) rfl fi_43_1 rfl) (by decide) (fun a hF => ?_)
    refine stp hF (p_ldb_one (i := 0) hS rfl rfl ia_22 rfl) (by decide) (fun a hF => ?_)
    obtain ⟨x3, hx1, H⟩ := hb H
    refine ste hF (e_callA (fst := []) (vs := [v1, v3]) (cap := []) rfl rfl go_310 (St.call (A := []) (B := [pt g2 43 ([(.int .i64 x2.Kind), v3, v4]), pt g1 43 ([(.int .i64 x1.Kind), v1, v2])]) hS (laws_eqIntS.spec k _ _ x1.Ints x2.Ints v1 v3 h1 h3 _ hx1)) rfl) (by decide) (fun v w a hR hF => ?_)
    obtain ⟨s2, A2, hg1, hS, hR⟩ := hR
    obtain ⟨hv1, rfl⟩ := hR; obtain rfl := hv1.symm
    have hS : St e s2 w [pt g2 43 ([(.int .i64 x2.Kind), v3, v4]), pt g1 43 ([(.int .i64 x1.Kind), v1, v2])] := hS
    refine stp hF (p_not rfl) (by decide) (fun a hF => ?_)
    refine nilN ?_
    refine xn ?_
    refine cnd hF rfl (fun hc2 => ?_) (fun hc2 => ?_)
    · replace H := hbt hc2 H
      refine sq ?_
      refine rg ?_
      refine stp hF (p_assign rfl) (by decide) (fun a hF => ?_)
      refine nilN ?_
      refine xn ?_
      refine rt ?_
      refine xr ?_
      obtain rfl := hsm H
      replace hS := hS.sel (is := []) (A' := []) rfl
      exact ret1 hF rfl rfl hS ⟨rfl, rfl⟩
    · replace H := hbf hc2 H
      refine skN ?_
      refine xn ?_
      refine sq ?_
      refine sq ?_
      refine rg ?_
      refine stp hF (p_fldb (o' := 2) rfl fi_43_2 rfl) (by decide) (fun a hF => ?_)
      refine stp hF (p_ldb_one (i := 1) hS rfl rfl ia_22 rfl) (by decide) (fun a hF => ?_)
      refine stp hF (p_fldb (o' := 2) rfl fi_43_2 rfl) (by decide) (fun a hF => ?_)
      refine stp hF (p_ldb_one (i := 0) hS rfl rfl ia_22 rfl) (by decide) (fun a hF => ?_)
      obtain ⟨x4, hx2, H⟩ := hb H
      refine ste hF (e_callA (fst := []) (vs := [v2, v4]) (cap := []) rfl rfl go_310 (St.call (A := []) (B := [pt g2 43 ([(.int .i64 x2.Kind), v3, v4]), pt g1 43 ([(.int .i64 x1.Kind), v1, v2])]) hS (laws_eqIntS.spec k _ _ x1.Refs x2.Refs v2 v4 (h2.mono hg1) (h4.mono hg1) _ hx2)) rfl) (by decide) (fun v w a hR hF => ?_)
      obtain ⟨s3, A3, hg2, hS, hR⟩ := hR
      obtain ⟨hv2, rfl⟩ := hR; obtain rfl := hv2.symm
      have hS : St e s3 w [pt g2 43 ([(.int .i64 x2.Kind), v3, v4]), pt g1 43 ([(.int .i64 x1.Kind), v1, v2])] := hS
      refine stp hF (p_not rfl) (by decide) (fun a hF => ?_)
      refine nilN ?_
      refine xn ?_
      refine cnd hF rfl (fun hc3 => ?_) (fun hc3 => ?_)
      · replace H := hbt hc3 H
        refine sq ?_
        refine rg ?_
        refine stp hF (p_assign rfl) (by decide) (fun a hF => ?_)
        refine nilN ?_
        refine xn ?_
        refine rt ?_
        refine xr ?_
        obtain rfl := hsm H
        replace hS := hS.sel (is := []) (A' := []) rfl
        exact ret1 hF rfl rfl hS ⟨rfl, rfl⟩
      · replace H := hbf hc3 H
        refine skN ?_
        refine xn ?_
        refine sq ?_
        refine rg ?_
        refine stp hF (p_assign rfl) (by decide) (fun a hF => ?_)
        refine nilN ?_
        refine xn ?_
        refine rt ?_
        obtain rfl := hsm H
        replace hS := hS.sel (is := []) (A' := []) rfl
        exact ret1 hF rfl rfl hS ⟨rfl, rfl⟩

def laws_eqSlot.f (k : Nat) (x1 : TSlot) (x2 : TSlot) : Option Bool :=
  (if (x1.Has != x2.Has) = true then (some false) else ((laws_eqObj.f k x1.O x2.O).bind fun x3 => (if (!x3) = true then (some false) else (some true))))
set_option maxRecDepth 100000 in
set_option maxHeartbeats 4000000 in
theorem laws_eqSlot.spec (k : Nat) (s0 : HF) (w : World) (x1 : TSlot) (x2 : TSlot) (v1 : Value) (v2 : Value) (v3 : Value) (v4 : Value) (h1 : Sl (Kd.int .i64) s0 v1 x1.O.Ints) (h2 : Sl (Kd.int .i64) s0 v2 x1.O.Refs) (h3 : Sl (Kd.int .i64) s0 v3 x2.O.Ints) (h4 : Sl (Kd.int .i64) s0 v4 x2.O.Refs) (r : Bool) (H : laws_eqSlot.f k x1 x2 = some r) :
    Law Tryz.prog 255 #[(.agg #[(.bool x1.Has), (.int .i64 x1.O.Kind), v1, v2]), (.agg #[(.bool x2.Has), (.int .i64 x2.O.Kind), v3, v4])] s0 w [] (fun v s1 A1 => v = (.bool r) ∧ A1 = []) := by
  unfold laws_eqSlot.f at H
  refine Law.intro Tryz.func255 rfl [(0, (.agg #[(.bool x1.Has), (.int .i64 x1.O.Kind), v1, v2])), (1, (.agg #[(.bool x2.Has), (.int .i64 x2.O.Kind), v3, v4]))] (Nat.le_of_ble_eq_true rfl) (enter_lk ⟨rfl, rfl, trivial⟩) (fun e a hS hF => ?_)
  have hF : Fr 16 a [(0, (.agg #[(.bool x1.Has), (.int .i64 x1.O.Kind), v1, v2])), (1, (.agg #[(.bool x2.Has), (.int .i64 x2.O.Kind), v3, v4]))] := hF
  refine sq ?_
  refine rg ?_
  refine ste hF (e_box (cs := [(.bool x1.Has), (.int .i64 x1.O.Kind), v1, v2]) hS rfl rfl) (by decide) (fun v w a hR hF => ?_)
  obtain ⟨g1, rfl, hS⟩ := hR
  refine ste hF (e_box (cs := [(.bool x2.Has), (.int .i64 x2.O.Kind), v3, v4]) hS rfl rfl) (by decide) (fun v w a hR hF => ?_)
  obtain ⟨g2, rfl, hS⟩ := hR
  refine stp hF (p_assign rfl) (by decide) (fun a hF => ?_)
  refine nilN ?_
  refine xn ?_
  refine sq ?_
  refine sq ?_
  refine rg ?_
  refine stp hF (p_fldb (o' := 0) rfl fi_45_0 rfl) (by decide) (fun a hF => ?_)
  refine stp hF (p_ldb_one (i := 1) hS rfl rfl ia_4 rfl) (by decide) (fun a hF => ?_)
  refine stp hF (p_fldb (o' := 0) rfl fi_45_0 rfl) (by decide) (fun a hF => ?_)
  refine stp hF (p_ldb_one (i := 0) hS rfl rfl ia_4 rfl) (by decide) (fun a hF => ?_)
  refine stp hF (p_neb un_4 rfl rfl) (by decide) (fun a hF => ?_)
  refine nilN ?_
  refine xn ?_
  refine cnd hF rfl (fun hc1 => ?_) (fun hc1 => ?_)
  · replace H := hbt hc1 H
    refine sq ?_
    refine rg ?_
    refine stp hF (p_assign rfl) (by decide) (fun a hF => ?_)
    refine nilN ?_
    refine xn ?_
    refine rt ?_
    refine xr ?_
    obtain rfl := hsm H
    replace hS := hS.sel (is := []) (A' := []) rfl
    exact ret1 hF rfl rfl hS ⟨rfl, rfl⟩
  · replace H := hbf hc1 H
    refine skN ?_
    refine xn ?_
    refine sq ?_
    refine sq ?_
    refine rg ?_
    refine stp hF (p_fldb (o' := 1) rfl fi_45_1 rfl) (by decide) (fun a hF => ?_)
    refine stp hF (p_ldb_agg (i := 1) (l := [(.bool x1.Has)]) (m := [(.int .i64 x1.O.Kind), v1, v2]) (r := []) hS rfl rfl ia_43 ti_43 rfl rfl rfl) (by decide) (fun a hF => ?_)
    refine stp hF (p_fldb (o' := 1) rfl fi_45_1 rfl) (by decide) (fun a hF => ?_)
    refine stp hF (p_ldb_agg (i := 0) (l := [(.bool x2.Has)]) (m := [(.int .i64 x2.O.Kind), v3, v4]) (r := []) hS rfl rfl ia_43 ti_43 rfl rfl rfl) (by decide) (fun a hF => ?_)
    obtain ⟨x3, hx1, H⟩ := hb H
    refine ste hF (e_callA (fst := []) (vs := [(.agg #[(.int .i64 x1.O.Kind), v1, v2]), (.agg #[(.int .i64 x2.O.Kind), v3, v4])]) (cap := []) rfl rfl go_289 (St.call (A := []) (B := [pt g2 45 ([(.bool x2.Has), (.int .i64 x2.O.Kind), v3, v4]), pt g1 45 ([(.bool x1.Has), (.int .i64 x1.O.Kind), v1, v2])]) hS (laws_eqObj.spec k _ _ x1.O x2.O v1 v2 v3 v4 h1 h2 h3 h4 _ hx1)) rfl) (by decide) (fun v w a hR hF => ?_)
    obtain ⟨s2, A2, hg1, hS, hR⟩ := hR
    obtain ⟨hv1, rfl⟩ := hR; obtain rfl := hv1.symm
    have hS : St e s2 w [pt g2 45 ([(.bool x2.Has), (.int .i64 x2.O.Kind), v3, v4]), pt g1 45 ([(.bool x1.Has), (.int .i64 x1.O.Kind), v1, v2])] := hS
    refine stp hF (p_not rfl) (by decide) (fun a hF => ?_)
    refine nilN ?_
    refine xn ?_
    refine cnd hF rfl (fun hc2 => ?_) (fun hc2 => ?_)
    · replace H := hbt hc2 H
      refine sq ?_
      refine rg ?_
      refine stp hF (p_assign rfl) (by decide) (fun a hF => ?_)
      refine nilN ?_
      refine xn ?_
      refine rt ?_
      refine xr ?_
      obtain rfl := hsm H
      replace hS := hS.sel (is := []) (A' := []) rfl
      exact ret1 hF rfl rfl hS ⟨rfl, rfl⟩
    · replace H := hbf hc2 H
      refine skN ?_
      refine xn ?_
      refine sq ?_
      refine rg ?_
      refine stp hF (p_assign rfl) (by decide) (fun a hF => ?_)
      refine nilN ?_
      refine xn ?_
      refine rt ?_
      obtain rfl := hsm H
      replace hS := hS.sel (is := []) (A' := []) rfl
      exact ret1 hF rfl rfl hS ⟨rfl, rfl⟩

def laws_eqSlotA4.c1 (k : Nat) : Option Bool :=
  (some true)
def laws_eqSlotA4.l1 (x1 : (List TSlot)) (x2 : (List TSlot)) : Nat → Int → Option (Ex Bool Unit)
  | 0, _ => none
  | k + 1, x3 => (if (decide (x3 < 4)) = true then (if 0 ≤ x3 ∧ x3 < 4 then (if 0 ≤ x3 ∧ x3 < 4 then ((laws_eqSlot.f k (rd x1 x3) (rd x2 x3)).bind fun x4 => (if (!x4) = true then (some (Ex.ret false)) else ((laws_eqSlotA4.l1 x1 x2 k) (w64 (x3 + 1))))) else none) else none) else (some (Ex.go ())))
def laws_eqSlotA4.f (k : Nat) (x1 : (List TSlot)) (x2 : (List TSlot)) : Option Bool :=
  (((laws_eqSlotA4.l1 x1 x2 k 0) : Option (Ex Bool Unit)).bind fun x5 => Ex.on x5 (fun r => some r) (fun y => laws_eqSlotA4.c1 k))
set_option maxRecDepth 100000 in
set_option maxHeartbeats 4000000 in
theorem laws_eqSlotA4.spec (k : Nat) (s0 : HF) (w : World) (x1 : (List TSlot)) (x2 : (List TSlot)) (c2 : List Value) (c3 : List Value) (h1 : ((Kd.arr 4 kTSlot)).K s0 x1 c2) (h2 : ((Kd.arr 4 kTSlot)).K s0 x2 c3) (r : Bool) (H : laws_eqSlotA4.f k x1 x2 = some r) :
    Law Tryz.prog 209 #[(.agg c2.toArray), (.agg c3.toArray)] s0 w [] (fun v s1 A1 => v = (.bool r) ∧ A1 = []) := by
  unfold laws_eqSlotA4.f at H
  refine Law.intro Tryz.func209 rfl [(0, (.agg c2.toArray)), (1, (.agg c3.toArray))] (Nat.le_of_ble_eq_true rfl) (enter_lk ⟨rfl, rfl, trivial⟩) (fun e a hS hF => ?_)
  have hF : Fr 18 a [(0, (.agg c2.toArray)), (1, (.agg c3.toArray))] := hF
  refine sq ?_
  refine rg ?_
  refine ste hF (e_box (cs := c2) hS rfl rfl) (by decide) (fun v w a hR hF => ?_)
  obtain ⟨g1, rfl, hS⟩ := hR
  refine ste hF (e_box (cs := c3) hS rfl rfl) (by decide) (fun v w a hR hF => ?_)
  obtain ⟨g2, rfl, hS⟩ := hR
  refine stp hF (p_assign rfl) (by decide) (fun a hF => ?_)
  refine nilN ?_
  refine xn ?_
  obtain ⟨x5, H, HK1⟩ := hb H
  refine sqj (fun a w => ∃ (s2 : HF) , St e s2 w [pt g2 46 (c3), pt g1 46 (c2)] ∧ Fr 18 a [] ∧ Sub s0 s2 ∧ laws_eqSlotA4.c1 k = some r) ?_ ?_
  · skip
    refine sq ?_
    refine rg ?_
    refine stp hF (p_assign rfl) (by decide) (fun a hF => ?_)
    refine nilN ?_
    refine xn ?_
    refine blk ?_
    refine loop_ind (fun k1 a w => ∃ (x3 : Int) (s3 : HF) , St e s3 w [pt g2 46 (c3), pt g1 46 (c2)] ∧ Fr 18 a [(2, (.pointer (some ⟨g1, 0, none⟩))), (3, (.pointer (some ⟨g2, 0, none⟩))), (5, (.int .i64 x3))] ∧ Sub s0 s3 ∧ laws_eqSlotA4.l1 x1 x2 k1 x3 = some x5) k ?_ ?_ ?_
    · skip
      exact ⟨0, s0, hS, hF.cut ⟨rfl, rfl, rfl, trivial⟩, (Sub.refl _), H⟩
    · clear H hS hF
      rintro a w ⟨x3, s3, hS, hF, hg1, H⟩
      exact absurd (show none = some _ from H) (by simp)
    · clear H hS hF
      rintro k1 a w ⟨x3, s3, hS, hF, hg1, H⟩
      rw [laws_eqSlotA4.l1.eq_2] at H
      refine sq ?_
      refine sq ?_
      refine rg ?_
      refine stp hF (p_move rfl) (by decide) (fun a hF => ?_)
      refine stp hF (p_lss rfl rfl) (by decide) (fun a hF => ?_)
      refine nilN ?_
      refine xn ?_
      refine cnd hF rfl (fun hc1 => ?_) (fun hc1 => ?_)
      · replace H := hbt hc1 H
        refine skN ?_
        refine xn ?_
        refine sq ?_
        refine blk ?_
        refine sq ?_
        replace hS : St e s3 w.drew [pt g2 46 (c3), pt g1 46 (c2)] := hS.drewN 1
        refine drw [0, 1, 2, 3, 4, 5, 6, 7] mixed (by kernel_rfl) (by decide) (hF.cut (L' := [(2, (.pointer (some ⟨g1, 0, none⟩))), (3, (.pointer (some ⟨g2, 0, none⟩))), (5, (.int .i64 x3)), (6, (.int .i64 x3)), (7, (.bool (decide (x3 < 4))))]) ⟨rfl, rfl, rfl, rfl, rfl, trivial⟩) ?_
        clear hF
        generalize w.drew = w at hS ⊢
        refine pk1 rfl (by decide) rfl (by kernel_rfl) rfl (p_move rfl) ?_
        obtain ⟨hq1, H⟩ := hck H
        refine pk1 rfl (by decide) rfl (by kernel_rfl) rfl (p_idxb rfl rfl un_46 ti_45 hq1.1 hq1.2) ?_
        obtain ⟨c4, h3, p1⟩ := p_ldba_agg (P := Tryz.prog) (T := 46) (b := g1) (all := c2) (l := []) (cs := c2) (r := []) (base := 0) (by simp) ((Kd.arr 4 kTSlot).mono hg1 h1) (Lens.idx 4 kTSlot x3 hq1.1 hq1.2) rfl rfl ia_45 ti_45
        obtain ⟨v1, v2, rfl, h4, h5⟩ := kTSlot_open h3
        refine pk1 rfl (by decide) rfl (by kernel_rfl) rfl (p1 (n := 1) hS rfl rfl) ?_
        refine pk1 rfl (by decide) rfl (by kernel_rfl) rfl (p_move rfl) ?_
        obtain ⟨hq2, H⟩ := hck H
        refine pk1 rfl (by decide) rfl (by kernel_rfl) rfl (p_idxb rfl rfl un_46 ti_45 hq2.1 hq2.2) ?_
        obtain ⟨c5, h6, p2⟩ := p_ldba_agg (P := Tryz.prog) (T := 46) (b := g2) (all := c3) (l := []) (cs := c3) (r := []) (base := 0) (by simp) ((Kd.arr 4 kTSlot).mono hg1 h2) (Lens.idx 4 kTSlot x3 hq2.1 hq2.2) rfl rfl ia_45 ti_45
        obtain ⟨v3, v4, rfl, h7, h8⟩ := kTSlot_open h6
        refine pk1 rfl (by decide) rfl (by kernel_rfl) rfl (p2 (n := 0) hS rfl rfl) ?_
        obtain ⟨x4, hx1, H⟩ := hb H
        refine pkE [4, 3, 1, 0] rfl (by decide) (by kernel_rfl) (by kernel_rfl) (e_callA (fst := []) (vs := [(.agg #[(.bool ((rd x1 x3).Has)), (.int .i64 (((rd x1 x3).O).Kind)), v1, v2]), (.agg #[(.bool ((rd x2 x3).Has)), (.int .i64 (((rd x2 x3).O).Kind)), v3, v4])]) (cap := []) rfl rfl go_255 (St.call (A := []) (B := [pt g2 46 (c3), pt g1 46 (c2)]) hS (laws_eqSlot.spec k1 _ _ (rd x1 x3) (rd x2 x3) v1 v2 v3 v4 h4 h5 h7 h8 _ hx1)) rfl) ?_
        intro v w hR
        obtain ⟨s4, A2, hg2, hS, hR⟩ := hR
        obtain ⟨hv1, rfl⟩ := hR; obtain rfl := hv1.symm
        have hS : St e s4 w [pt g2 46 (c3), pt g1 46 (c2)] := hS
        refine ⟨⟨knw rfl rfl rfl (p_idxb rfl rfl un_46 ti_45 hq2.1 hq2.2), ⟨knw rfl rfl rfl (p_move rfl), ⟨knw rfl rfl rfl (p_idxb rfl rfl un_46 ti_45 hq1.1 hq1.2), ⟨knw rfl rfl rfl (p_move rfl), trivial⟩⟩⟩⟩, ?_⟩
        refine pk1 rfl (by decide) rfl (by kernel_rfl) rfl (p_not rfl) ?_
        refine pkF (fun a hF => ?_)
        refine xn ?_
        refine cnd hF rfl (fun hc2 => ?_) (fun hc2 => ?_)
        · replace H := hbt hc2 H
          refine sq ?_
          refine rg ?_
          refine stp hF (p_assign rfl) (by decide) (fun a hF => ?_)
          refine nilN ?_
          refine xn ?_
          refine rt ?_
          refine br (xr (xr (br (xr ?_))))
          obtain rfl := hsm H
          have H := hon1 HK1
          obtain rfl := hsm H
          replace hS := hS.sel (is := []) (A' := []) rfl
          exact ret1 hF rfl rfl hS ⟨rfl, rfl⟩
        · replace H := hbf hc2 H
          refine skN ?_
          refine bn (xn ?_)
          refine rg ?_
          refine stp hF (p_move rfl) (by decide) (fun a hF => ?_)
          refine stp hF (p_add (c := w64 (x3 + 1)) rfl rfl rfl) (by decide) (fun a hF => ?_)
          refine stp hF (p_assign rfl) (by decide) (fun a hF => ?_)
          refine nilN ?_
          refine xn ?_
          exact ⟨(w64 (x3 + 1)), s4, hS, hF.cut ⟨rfl, rfl, rfl, trivial⟩, (hg1.trans hg2), H⟩
      · replace H := hbf hc1 H
        refine exi ?_
        refine xe (xe (hit (xn ?_)))
        obtain rfl := hsm H
        exact ⟨s3, hS, hF.cut trivial, hg1, HK1⟩
  · clear H HK1 hS hF
    rintro a w ⟨s2, hS, hF, hg3, H⟩
    unfold laws_eqSlotA4.c1 at H
    refine sq ?_
    refine rg ?_
    refine stp hF (p_assign rfl) (by decide) (fun a hF => ?_)
    refine nilN ?_
    refine xn ?_
    refine rt ?_
    obtain rfl := hsm H
    replace hS := hS.sel (is := []) (A' := []) rfl
    exact ret1 hF rfl rfl hS ⟨rfl, rfl⟩

def laws_eqPage.f (k : Nat) (x1 : TPage) (x2 : TPage) : Option Bool :=
  (if (decide (x1.Lsn ≠ x2.Lsn)) = true then (some false) else ((laws_eqSlotA4.f k x1.Slots x2.Slots).bind fun x3 => (if (!x3) = true then (some false) else (some true))))
set_option maxRecDepth 100000 in
set_option maxHeartbeats 4000000 in
theorem laws_eqPage.spec (k : Nat) (s0 : HF) (w : World) (x1 : TPage) (x2 : TPage) (c1 : List Value) (c2 : List Value) (h1 : ((Kd.arr 4 kTSlot)).K s0 x1.Slots c1) (h2 : ((Kd.arr 4 kTSlot)).K s0 x2.Slots c2) (r : Bool) (H : laws_eqPage.f k x1 x2 = some r) :
    Law Tryz.prog 126 #[(.agg ([(.int .i64 x1.Lsn)] ++ c1 : List Value).toArray), (.agg ([(.int .i64 x2.Lsn)] ++ c2 : List Value).toArray)] s0 w [] (fun v s1 A1 => v = (.bool r) ∧ A1 = []) := by
  unfold laws_eqPage.f at H
  refine Law.intro Tryz.func126 rfl [(0, (.agg ([(.int .i64 x1.Lsn)] ++ c1 : List Value).toArray)), (1, (.agg ([(.int .i64 x2.Lsn)] ++ c2 : List Value).toArray))] (Nat.le_of_ble_eq_true rfl) (enter_lk ⟨rfl, rfl, trivial⟩) (fun e a hS hF => ?_)
  have hF : Fr 16 a [(0, (.agg ([(.int .i64 x1.Lsn)] ++ c1 : List Value).toArray)), (1, (.agg ([(.int .i64 x2.Lsn)] ++ c2 : List Value).toArray))] := hF
  refine sq ?_
  refine rg ?_
  refine ste hF (e_box (cs := [(.int .i64 x1.Lsn)] ++ c1) hS rfl rfl) (by decide) (fun v w a hR hF => ?_)
  obtain ⟨g1, rfl, hS⟩ := hR
  refine ste hF (e_box (cs := [(.int .i64 x2.Lsn)] ++ c2) hS rfl rfl) (by decide) (fun v w a hR hF => ?_)
  obtain ⟨g2, rfl, hS⟩ := hR
  refine stp hF (p_assign rfl) (by decide) (fun a hF => ?_)
  refine nilN ?_
  refine xn ?_
  refine sq ?_
  refine sq ?_
  refine rg ?_
  refine stp hF (p_fldb (o' := 0) rfl fi_48_0 rfl) (by decide) (fun a hF => ?_)
  refine stp hF (p_ldb_one (i := 1) hS rfl rfl ia_3 rfl) (by decide) (fun a hF => ?_)
  refine stp hF (p_fldb (o' := 0) rfl fi_48_0 rfl) (by decide) (fun a hF => ?_)
  refine stp hF (p_ldb_one (i := 0) hS rfl rfl ia_3 rfl) (by decide) (fun a hF => ?_)
  refine stp hF (p_neq rfl rfl) (by decide) (fun a hF => ?_)
  refine nilN ?_
  refine xn ?_
  refine cnd hF rfl (fun hc1 => ?_) (fun hc1 => ?_)
  · replace H := hbt hc1 H
    refine sq ?_
    refine rg ?_
    refine stp hF (p_assign rfl) (by decide) (fun a hF => ?_)
    refine nilN ?_
    refine xn ?_
    refine rt ?_
    refine xr ?_
    obtain rfl := hsm H
    replace hS := hS.sel (is := []) (A' := []) rfl
    exact ret1 hF rfl rfl hS ⟨rfl, rfl⟩
  · replace H := hbf hc1 H
    refine skN ?_
    refine xn ?_
    refine sq ?_
    refine sq ?_
    refine rg ?_
    refine stp hF (p_fldb (o' := 1) rfl fi_48_1 rfl) (by decide) (fun a hF => ?_)
    refine stp hF (p_ldb_agg (i := 1) (l := [(.int .i64 x1.Lsn)]) (m := c1) (r := []) hS rfl rfl ia_46 ti_46 (by simp) (by simp [(show c1.length = 16 from Kd.len _ h1)]) (by simp [(show c1.length = 16 from Kd.len _ h1)])) (by decide) (fun a hF => ?_)
    refine stp hF (p_fldb (o' := 1) rfl fi_48_1 rfl) (by decide) (fun a hF => ?_)
    refine stp hF (p_ldb_agg (i := 0) (l := [(.int .i64 x2.Lsn)]) (m := c2) (r := []) hS rfl rfl ia_46 ti_46 (by simp) (by simp [(show c2.length = 16 from Kd.len _ h2)]) (by simp [(show c2.length = 16 from Kd.len _ h2)])) (by decide) (fun a hF => ?_)
    obtain ⟨x3, hx1, H⟩ := hb H
    refine ste hF (e_callA (fst := []) (vs := [(.agg c1.toArray), (.agg c2.toArray)]) (cap := []) rfl rfl go_209 (St.call (A := []) (B := [pt g2 48 ([(.int .i64 x2.Lsn)] ++ c2), pt g1 48 ([(.int .i64 x1.Lsn)] ++ c1)]) hS (laws_eqSlotA4.spec k _ _ x1.Slots x2.Slots c1 c2 h1 h2 _ hx1)) rfl) (by decide) (fun v w a hR hF => ?_)
    obtain ⟨s2, A2, hg1, hS, hR⟩ := hR
    obtain ⟨hv1, rfl⟩ := hR; obtain rfl := hv1.symm
    have hS : St e s2 w [pt g2 48 ([(.int .i64 x2.Lsn)] ++ c2), pt g1 48 ([(.int .i64 x1.Lsn)] ++ c1)] := hS
    refine stp hF (p_not rfl) (by decide) (fun a hF => ?_)
    refine nilN ?_
    refine xn ?_
    refine cnd hF rfl (fun hc2 => ?_) (fun hc2 => ?_)
    · replace H := hbt hc2 H
      refine sq ?_
      refine rg ?_
      refine stp hF (p_assign rfl) (by decide) (fun a hF => ?_)
      refine nilN ?_
      refine xn ?_
      refine rt ?_
      refine xr ?_
      obtain rfl := hsm H
      replace hS := hS.sel (is := []) (A' := []) rfl
      exact ret1 hF rfl rfl hS ⟨rfl, rfl⟩
    · replace H := hbf hc2 H
      refine skN ?_
      refine xn ?_
      refine sq ?_
      refine rg ?_
      refine stp hF (p_assign rfl) (by decide) (fun a hF => ?_)
      refine nilN ?_
      refine xn ?_
      refine rt ?_
      obtain rfl := hsm H
      replace hS := hS.sel (is := []) (A' := []) rfl
      exact ret1 hF rfl rfl hS ⟨rfl, rfl⟩

def laws_eqPageA8.c1 (k : Nat) : Option Bool :=
  (some true)
def laws_eqPageA8.l1 (x1 : (List TPage)) (x2 : (List TPage)) : Nat → Int → Option (Ex Bool Unit)
  | 0, _ => none
  | k + 1, x3 => (if (decide (x3 < 8)) = true then (if 0 ≤ x3 ∧ x3 < 8 then (if 0 ≤ x3 ∧ x3 < 8 then ((laws_eqPage.f k (rd x1 x3) (rd x2 x3)).bind fun x4 => (if (!x4) = true then (some (Ex.ret false)) else ((laws_eqPageA8.l1 x1 x2 k) (w64 (x3 + 1))))) else none) else none) else (some (Ex.go ())))
def laws_eqPageA8.f (k : Nat) (x1 : (List TPage)) (x2 : (List TPage)) : Option Bool :=
  (((laws_eqPageA8.l1 x1 x2 k 0) : Option (Ex Bool Unit)).bind fun x5 => Ex.on x5 (fun r => some r) (fun y => laws_eqPageA8.c1 k))
set_option maxRecDepth 100000 in
set_option maxHeartbeats 4000000 in
theorem laws_eqPageA8.spec (k : Nat) (s0 : HF) (w : World) (x1 : (List TPage)) (x2 : (List TPage)) (c2 : List Value) (c3 : List Value) (h1 : ((Kd.arr 8 kTPage)).K s0 x1 c2) (h2 : ((Kd.arr 8 kTPage)).K s0 x2 c3) (r : Bool) (H : laws_eqPageA8.f k x1 x2 = some r) :
    Law Tryz.prog 51 #[(.agg c2.toArray), (.agg c3.toArray)] s0 w [] (fun v s1 A1 => v = (.bool r) ∧ A1 = []) := by
  unfold laws_eqPageA8.f at H
  refine Law.intro Tryz.func51 rfl [(0, (.agg c2.toArray)), (1, (.agg c3.toArray))] (Nat.le_of_ble_eq_true rfl) (enter_lk ⟨rfl, rfl, trivial⟩) (fun e a hS hF => ?_)
  have hF : Fr 18 a [(0, (.agg c2.toArray)), (1, (.agg c3.toArray))] := hF
  refine sq ?_
  refine rg ?_
  refine ste hF (e_box (cs := c2) hS rfl rfl) (by decide) (fun v w a hR hF => ?_)
  obtain ⟨g1, rfl, hS⟩ := hR
  refine ste hF (e_box (cs := c3) hS rfl rfl) (by decide) (fun v w a hR hF => ?_)
  obtain ⟨g2, rfl, hS⟩ := hR
  refine stp hF (p_assign rfl) (by decide) (fun a hF => ?_)
  refine nilN ?_
  refine xn ?_
  obtain ⟨x5, H, HK1⟩ := hb H
  refine sqj (fun a w => ∃ (s2 : HF) , St e s2 w [pt g2 49 (c3), pt g1 49 (c2)] ∧ Fr 18 a [] ∧ Sub s0 s2 ∧ laws_eqPageA8.c1 k = some r) ?_ ?_
  · skip
    refine sq ?_
    refine rg ?_
    refine stp hF (p_assign rfl) (by decide) (fun a hF => ?_)
    refine nilN ?_
    refine xn ?_
    refine blk ?_
    refine loop_ind (fun k1 a w => ∃ (x3 : Int) (s3 : HF) , St e s3 w [pt g2 49 (c3), pt g1 49 (c2)] ∧ Fr 18 a [(2, (.pointer (some ⟨g1, 0, none⟩))), (3, (.pointer (some ⟨g2, 0, none⟩))), (5, (.int .i64 x3))] ∧ Sub s0 s3 ∧ laws_eqPageA8.l1 x1 x2 k1 x3 = some x5) k ?_ ?_ ?_
    · skip
      exact ⟨0, s0, hS, hF.cut ⟨rfl, rfl, rfl, trivial⟩, (Sub.refl _), H⟩
    · clear H hS hF
      rintro a w ⟨x3, s3, hS, hF, hg1, H⟩
      exact absurd (show none = some _ from H) (by simp)
    · clear H hS hF
      rintro k1 a w ⟨x3, s3, hS, hF, hg1, H⟩
      rw [laws_eqPageA8.l1.eq_2] at H
      refine sq ?_
      refine sq ?_
      refine rg ?_
      refine stp hF (p_move rfl) (by decide) (fun a hF => ?_)
      refine stp hF (p_lss rfl rfl) (by decide) (fun a hF => ?_)
      refine nilN ?_
      refine xn ?_
      refine cnd hF rfl (fun hc1 => ?_) (fun hc1 => ?_)
      · replace H := hbt hc1 H
        refine skN ?_
        refine xn ?_
        refine sq ?_
        refine blk ?_
        refine sq ?_
        replace hS : St e s3 w.drew [pt g2 49 (c3), pt g1 49 (c2)] := hS.drewN 1
        refine drw [0, 1, 2, 3, 4, 5, 6, 7] mixed (by kernel_rfl) (by decide) (hF.cut (L' := [(2, (.pointer (some ⟨g1, 0, none⟩))), (3, (.pointer (some ⟨g2, 0, none⟩))), (5, (.int .i64 x3)), (6, (.int .i64 x3)), (7, (.bool (decide (x3 < 8))))]) ⟨rfl, rfl, rfl, rfl, rfl, trivial⟩) ?_
        clear hF
        generalize w.drew = w at hS ⊢
        refine pk1 rfl (by decide) rfl (by kernel_rfl) rfl (p_move rfl) ?_
        obtain ⟨hq1, H⟩ := hck H
        refine pk1 rfl (by decide) rfl (by kernel_rfl) rfl (p_idxb rfl rfl un_49 ti_48 hq1.1 hq1.2) ?_
        obtain ⟨c4, h3, p1⟩ := p_ldba_agg (P := Tryz.prog) (T := 49) (b := g1) (all := c2) (l := []) (cs := c2) (r := []) (base := 0) (by simp) ((Kd.arr 8 kTPage).mono hg1 h1) (Lens.idx 8 kTPage x3 hq1.1 hq1.2) rfl rfl ia_48 ti_48
        obtain ⟨c5, rfl, h4⟩ := kTPage_open h3
        refine pk1 rfl (by decide) rfl (by kernel_rfl) rfl (p1 (n := 1) hS rfl rfl) ?_
        refine pk1 rfl (by decide) rfl (by kernel_rfl) rfl (p_move rfl) ?_
        obtain ⟨hq2, H⟩ := hck H
        refine pk1 rfl (by decide) rfl (by kernel_rfl) rfl (p_idxb rfl rfl un_49 ti_48 hq2.1 hq2.2) ?_
        obtain ⟨c6, h5, p2⟩ := p_ldba_agg (P := Tryz.prog) (T := 49) (b := g2) (all := c3) (l := []) (cs := c3) (r := []) (base := 0) (by simp) ((Kd.arr 8 kTPage).mono hg1 h2) (Lens.idx 8 kTPage x3 hq2.1 hq2.2) rfl rfl ia_48 ti_48
        obtain ⟨c7, rfl, h6⟩ := kTPage_open h5
        refine pk1 rfl (by decide) rfl (by kernel_rfl) rfl (p2 (n := 0) hS rfl rfl) ?_
        obtain ⟨x4, hx1, H⟩ := hb H
        refine pkE [4, 3, 1, 0] rfl (by decide) (by kernel_rfl) (by kernel_rfl) (e_callA (fst := []) (vs := [(.agg ([(.int .i64 ((rd x1 x3).Lsn))] ++ c5 : List Value).toArray), (.agg ([(.int .i64 ((rd x2 x3).Lsn))] ++ c7 : List Value).toArray)]) (cap := []) rfl rfl go_126 (St.call (A := []) (B := [pt g2 49 (c3), pt g1 49 (c2)]) hS (laws_eqPage.spec k1 _ _ (rd x1 x3) (rd x2 x3) c5 c7 h4 h6 _ hx1)) rfl) ?_
        intro v w hR
        obtain ⟨s4, A2, hg2, hS, hR⟩ := hR
        obtain ⟨hv1, rfl⟩ := hR; obtain rfl := hv1.symm
        have hS : St e s4 w [pt g2 49 (c3), pt g1 49 (c2)] := hS
        refine ⟨⟨knw rfl rfl rfl (p_idxb rfl rfl un_49 ti_48 hq2.1 hq2.2), ⟨knw rfl rfl rfl (p_move rfl), ⟨knw rfl rfl rfl (p_idxb rfl rfl un_49 ti_48 hq1.1 hq1.2), ⟨knw rfl rfl rfl (p_move rfl), trivial⟩⟩⟩⟩, ?_⟩
        refine pk1 rfl (by decide) rfl (by kernel_rfl) rfl (p_not rfl) ?_
        refine pkF (fun a hF => ?_)
        refine xn ?_
        refine cnd hF rfl (fun hc2 => ?_) (fun hc2 => ?_)
        · replace H := hbt hc2 H
          refine sq ?_
          refine rg ?_
          refine stp hF (p_assign rfl) (by decide) (fun a hF => ?_)
          refine nilN ?_
          refine xn ?_
          refine rt ?_
          refine br (xr (xr (br (xr ?_))))
          obtain rfl := hsm H
          have H := hon1 HK1
          obtain rfl := hsm H
          replace hS := hS.sel (is := []) (A' := []) rfl
          exact ret1 hF rfl rfl hS ⟨rfl, rfl⟩
        · replace H := hbf hc2 H
          refine skN ?_
          refine bn (xn ?_)
          refine rg ?_
          refine stp hF (p_move rfl) (by decide) (fun a hF => ?_)
          refine stp hF (p_add (c := w64 (x3 + 1)) rfl rfl rfl) (by decide) (fun a hF => ?_)
          refine stp hF (p_assign rfl) (by decide) (fun a hF => ?_)
          refine nilN ?_
          refine xn ?_
          exact ⟨(w64 (x3 + 1)), s4, hS, hF.cut ⟨rfl, rfl, rfl, trivial⟩, (hg1.trans hg2), H⟩
      · replace H := hbf hc1 H
        refine exi ?_
        refine xe (xe (hit (xn ?_)))
        obtain rfl := hsm H
        exact ⟨s3, hS, hF.cut trivial, hg1, HK1⟩
  · clear H HK1 hS hF
    rintro a w ⟨s2, hS, hF, hg3, H⟩
    unfold laws_eqPageA8.c1 at H
    refine sq ?_
    refine rg ?_
    refine stp hF (p_assign rfl) (by decide) (fun a hF => ?_)
    refine nilN ?_
    refine xn ?_
    refine rt ?_
    obtain rfl := hsm H
    replace hS := hS.sel (is := []) (A' := []) rfl
    exact ret1 hF rfl rfl hS ⟨rfl, rfl⟩

def laws_eqSeat.f (k : Nat) (x1 : TSeat) (x2 : TSeat) : Option Bool :=
  (if (decide (x1.No ≠ x2.No)) = true then (some false) else ((laws_eqPage.f k x1.P x2.P).bind fun x3 => (if (!x3) = true then (some false) else (if (x1.Dirty != x2.Dirty) = true then (some false) else (if (x1.Hot != x2.Hot) = true then (some false) else (some true))))))
set_option maxRecDepth 100000 in
set_option maxHeartbeats 4000000 in
theorem laws_eqSeat.spec (k : Nat) (s0 : HF) (w : World) (x1 : TSeat) (x2 : TSeat) (c1 : List Value) (c2 : List Value) (h1 : ((Kd.arr 4 kTSlot)).K s0 x1.P.Slots c1) (h2 : ((Kd.arr 4 kTSlot)).K s0 x2.P.Slots c2) (r : Bool) (H : laws_eqSeat.f k x1 x2 = some r) :
    Law Tryz.prog 210 #[(.agg ([(.int .i64 x1.No), (.int .i64 x1.P.Lsn)] ++ c1 ++ [(.bool x1.Dirty), (.bool x1.Hot)] : List Value).toArray), (.agg ([(.int .i64 x2.No), (.int .i64 x2.P.Lsn)] ++ c2 ++ [(.bool x2.Dirty), (.bool x2.Hot)] : List Value).toArray)] s0 w [] (fun v s1 A1 => v = (.bool r) ∧ A1 = []) := by
  unfold laws_eqSeat.f at H
  refine Law.intro Tryz.func210 rfl [(0, (.agg ([(.int .i64 x1.No), (.int .i64 x1.P.Lsn)] ++ c1 ++ [(.bool x1.Dirty), (.bool x1.Hot)] : List Value).toArray)), (1, (.agg ([(.int .i64 x2.No), (.int .i64 x2.P.Lsn)] ++ c2 ++ [(.bool x2.Dirty), (.bool x2.Hot)] : List Value).toArray))] (Nat.le_of_ble_eq_true rfl) (enter_lk ⟨rfl, rfl, trivial⟩) (fun e a hS hF => ?_)
  have hF : Fr 26 a [(0, (.agg ([(.int .i64 x1.No), (.int .i64 x1.P.Lsn)] ++ c1 ++ [(.bool x1.Dirty), (.bool x1.Hot)] : List Value).toArray)), (1, (.agg ([(.int .i64 x2.No), (.int .i64 x2.P.Lsn)] ++ c2 ++ [(.bool x2.Dirty), (.bool x2.Hot)] : List Value).toArray))] := hF
  refine sq ?_
  refine rg ?_
  refine ste hF (e_box (cs := [(.int .i64 x1.No), (.int .i64 x1.P.Lsn)] ++ c1 ++ [(.bool x1.Dirty), (.bool x1.Hot)]) hS rfl rfl) (by decide) (fun v w a hR hF => ?_)
  obtain ⟨g1, rfl, hS⟩ := hR
  refine ste hF (e_box (cs := [(.int .i64 x2.No), (.int .i64 x2.P.Lsn)] ++ c2 ++ [(.bool x2.Dirty), (.bool x2.Hot)]) hS rfl rfl) (by decide) (fun v w a hR hF => ?_)
  obtain ⟨g2, rfl, hS⟩ := hR
  refine stp hF (p_assign rfl) (by decide) (fun a hF => ?_)
  refine nilN ?_
  refine xn ?_
  refine sq ?_
  refine sq ?_
  refine rg ?_
  refine stp hF (p_fldb (o' := 0) rfl fi_105_0 rfl) (by decide) (fun a hF => ?_)
  refine stp hF (p_ldb_one (i := 1) hS rfl rfl ia_3 rfl) (by decide) (fun a hF => ?_)
  refine stp hF (p_fldb (o' := 0) rfl fi_105_0 rfl) (by decide) (fun a hF => ?_)
  refine stp hF (p_ldb_one (i := 0) hS rfl rfl ia_3 rfl) (by decide) (fun a hF => ?_)
  refine stp hF (p_neq rfl rfl) (by decide) (fun a hF => ?_)
  refine nilN ?_
  refine xn ?_
  refine cnd hF rfl (fun hc1 => ?_) (fun hc1 => ?_)
  · replace H := hbt hc1 H
    refine sq ?_
    refine rg ?_
    refine stp hF (p_assign rfl) (by decide) (fun a hF => ?_)
    refine nilN ?_
    refine xn ?_
    refine rt ?_
    refine xr ?_
    obtain rfl := hsm H
    replace hS := hS.sel (is := []) (A' := []) rfl
    exact ret1 hF rfl rfl hS ⟨rfl, rfl⟩
  · replace H := hbf hc1 H
    refine skN ?_
    refine xn ?_
    refine sq ?_
    refine sq ?_
    refine rg ?_
    refine stp hF (p_fldb (o' := 1) rfl fi_105_1 rfl) (by decide) (fun a hF => ?_)
    refine stp hF (p_ldb_agg (i := 1) (l := [(.int .i64 x1.No)]) (m := [(.int .i64 x1.P.Lsn)] ++ c1) (r := [(.bool x1.Dirty), (.bool x1.Hot)]) hS rfl rfl ia_48 ti_48 (by simp) (by simp [(show c1.length = 16 from Kd.len _ h1)]) (by simp [(show c1.length = 16 from Kd.len _ h1)])) (by decide) (fun a hF => ?_)
    refine stp hF (p_fldb (o' := 1) rfl fi_105_1 rfl) (by decide) (fun a hF => ?_)
    refine stp hF (p_ldb_agg (i := 0) (l := [(.int .i64 x2.No)]) (m := [(.int .i64 x2.P.Lsn)] ++ c2) (r := [(.bool x2.Dirty), (.bool x2.Hot)]) hS rfl rfl ia_48 ti_48 (by simp) (by simp [(show c2.length = 16 from Kd.len _ h2)]) (by simp [(show c2.length = 16 from Kd.len _ h2)])) (by decide) (fun a hF => ?_)
    obtain ⟨x3, hx1, H⟩ := hb H
    refine ste hF (e_callA (fst := []) (vs := [(.agg ([(.int .i64 x1.P.Lsn)] ++ c1 : List Value).toArray), (.agg ([(.int .i64 x2.P.Lsn)] ++ c2 : List Value).toArray)]) (cap := []) rfl rfl go_126 (St.call (A := []) (B := [pt g2 105 ([(.int .i64 x2.No), (.int .i64 x2.P.Lsn)] ++ c2 ++ [(.bool x2.Dirty), (.bool x2.Hot)]), pt g1 105 ([(.int .i64 x1.No), (.int .i64 x1.P.Lsn)] ++ c1 ++ [(.bool x1.Dirty), (.bool x1.Hot)])]) hS (laws_eqPage.spec k _ _ x1.P x2.P c1 c2 h1 h2 _ hx1)) rfl) (by decide) (fun v w a hR hF => ?_)
    obtain ⟨s2, A2, hg1, hS, hR⟩ := hR
    obtain ⟨hv1, rfl⟩ := hR; obtain rfl := hv1.symm
    have hS : St e s2 w [pt g2 105 ([(.int .i64 x2.No), (.int .i64 x2.P.Lsn)] ++ c2 ++ [(.bool x2.Dirty), (.bool x2.Hot)]), pt g1 105 ([(.int .i64 x1.No), (.int .i64 x1.P.Lsn)] ++ c1 ++ [(.bool x1.Dirty), (.bool x1.Hot)])] := hS
    refine stp hF (p_not rfl) (by decide) (fun a hF => ?_)
    refine nilN ?_
    refine xn ?_
    refine cnd hF rfl (fun hc2 => ?_) (fun hc2 => ?_)
    · replace H := hbt hc2 H
      refine sq ?_
      refine rg ?_
      refine stp hF (p_assign rfl) (by decide) (fun a hF => ?_)
      refine nilN ?_
      refine xn ?_
      refine rt ?_
      refine xr ?_
      obtain rfl := hsm H
      replace hS := hS.sel (is := []) (A' := []) rfl
      exact ret1 hF rfl rfl hS ⟨rfl, rfl⟩
    · replace H := hbf hc2 H
      refine skN ?_
      refine xn ?_
      refine sq ?_
      refine sq ?_
      refine rg ?_
      refine stp hF (p_fldb (o' := 18) rfl fi_105_2 rfl) (by decide) (fun a hF => ?_)
      refine stp hF (p_ldb_one (i := 1) (v := (.bool x1.Dirty)) hS rfl rfl ia_4 (by simp [(show c1.length = 16 from Kd.len _ ((Kd.arr 4 kTSlot).mono hg1 h1))])) (by decide) (fun a hF => ?_)
      refine stp hF (p_fldb (o' := 18) rfl fi_105_2 rfl) (by decide) (fun a hF => ?_)
      refine stp hF (p_ldb_one (i := 0) (v := (.bool x2.Dirty)) hS rfl rfl ia_4 (by simp [(show c2.length = 16 from Kd.len _ ((Kd.arr 4 kTSlot).mono hg1 h2))])) (by decide) (fun a hF => ?_)
      refine stp hF (p_neb un_4 rfl rfl) (by decide) (fun a hF => ?_)
      refine nilN ?_
      refine xn ?_
      refine cnd hF rfl (fun hc3 => ?_) (fun hc3 => ?_)
      · replace H := hbt hc3 H
        refine sq ?_
        refine rg ?_
        refine stp hF (p_assign rfl) (by decide) (fun a hF => ?_)
        refine nilN ?_
        refine xn ?_
        refine rt ?_
        refine xr ?_
        obtain rfl := hsm H
        replace hS := hS.sel (is := []) (A' := []) rfl
        exact ret1 hF rfl rfl hS ⟨rfl, rfl⟩
      · replace H := hbf hc3 H
        refine skN ?_
        refine xn ?_
        refine sq ?_
        refine sq ?_
        refine rg ?_
        refine stp hF (p_fldb (o' := 19) rfl fi_105_3 rfl) (by decide) (fun a hF => ?_)
        refine stp hF (p_ldb_one (i := 1) (v := (.bool x1.Hot)) hS rfl rfl ia_4 (by simp [(show c1.length = 16 from Kd.len _ ((Kd.arr 4 kTSlot).mono hg1 h1))])) (by decide) (fun a hF => ?_)
        refine stp hF (p_fldb (o' := 19) rfl fi_105_3 rfl) (by decide) (fun a hF => ?_)
        refine stp hF (p_ldb_one (i := 0) (v := (.bool x2.Hot)) hS rfl rfl ia_4 (by simp [(show c2.length = 16 from Kd.len _ ((Kd.arr 4 kTSlot).mono hg1 h2))])) (by decide) (fun a hF => ?_)
        refine stp hF (p_neb un_4 rfl rfl) (by decide) (fun a hF => ?_)
        refine nilN ?_
        refine xn ?_
        refine cnd hF rfl (fun hc4 => ?_) (fun hc4 => ?_)
        · replace H := hbt hc4 H
          refine sq ?_
          refine rg ?_
          refine stp hF (p_assign rfl) (by decide) (fun a hF => ?_)
          refine nilN ?_
          refine xn ?_
          refine rt ?_
          refine xr ?_
          obtain rfl := hsm H
          replace hS := hS.sel (is := []) (A' := []) rfl
          exact ret1 hF rfl rfl hS ⟨rfl, rfl⟩
        · replace H := hbf hc4 H
          refine skN ?_
          refine xn ?_
          refine sq ?_
          refine rg ?_
          refine stp hF (p_assign rfl) (by decide) (fun a hF => ?_)
          refine nilN ?_
          refine xn ?_
          refine rt ?_
          obtain rfl := hsm H
          replace hS := hS.sel (is := []) (A' := []) rfl
          exact ret1 hF rfl rfl hS ⟨rfl, rfl⟩

def laws_eqSeatS.c1 (k : Nat) : Option Bool :=
  (some true)
def laws_eqSeatS.l1 (x1 : (List TSeat)) (x2 : (List TSeat)) : Nat → Int → Option (Ex Bool Unit)
  | 0, _ => none
  | k + 1, x3 => (if (decide (x3 < (x1.length : Int))) = true then (if 0 ≤ x3 ∧ x3 < (x1.length : Int) then (if 0 ≤ x3 ∧ x3 < (x2.length : Int) then ((laws_eqSeat.f k (rd x1 x3) (rd x2 x3)).bind fun x4 => (if (!x4) = true then (some (Ex.ret false)) else ((laws_eqSeatS.l1 x1 x2 k) (w64 (x3 + 1))))) else none) else none) else (some (Ex.go ())))
def laws_eqSeatS.f (k : Nat) (x1 : (List TSeat)) (x2 : (List TSeat)) : Option Bool :=
  (if (decide ((x1.length : Int) ≠ (x2.length : Int))) = true then (some false) else (((laws_eqSeatS.l1 x1 x2 k 0) : Option (Ex Bool Unit)).bind fun x5 => Ex.on x5 (fun r => some r) (fun y => laws_eqSeatS.c1 k)))
set_option maxRecDepth 100000 in
set_option maxHeartbeats 4000000 in
theorem laws_eqSeatS.spec (k : Nat) (s0 : HF) (w : World) (x1 : (List TSeat)) (x2 : (List TSeat)) (v1 : Value) (v2 : Value) (h1 : Sl kTSeat s0 v1 x1) (h2 : Sl kTSeat s0 v2 x2) (r : Bool) (H : laws_eqSeatS.f k x1 x2 = some r) :
    Law Tryz.prog 127 #[v1, v2] s0 w [] (fun v s1 A1 => v = (.bool r) ∧ A1 = []) := by
  unfold laws_eqSeatS.f at H
  refine Law.intro Tryz.func127 rfl [(0, v1), (1, v2)] (Nat.le_of_ble_eq_true rfl) (enter_lk ⟨rfl, rfl, trivial⟩) (fun e a hS hF => ?_)
  have hF : Fr 27 a [(0, v1), (1, v2)] := hF
  refine sq ?_
  refine rg ?_
  refine stp hF (p_assign rfl) (by decide) (fun a hF => ?_)
  refine nilN ?_
  refine xn ?_
  refine sq ?_
  refine sq ?_
  refine rg ?_
  refine stp hF (p_move rfl) (by decide) (fun a hF => ?_)
  refine stp hF (p_lenr un_50 rfl h1) (by decide) (fun a hF => ?_)
  refine stp hF (p_move rfl) (by decide) (fun a hF => ?_)
  refine stp hF (p_lenr un_50 rfl h2) (by decide) (fun a hF => ?_)
  refine stp hF (p_neq rfl rfl) (by decide) (fun a hF => ?_)
  refine nilN ?_
  refine xn ?_
  refine cnd hF rfl (fun hc1 => ?_) (fun hc1 => ?_)
  · replace H := hbt hc1 H
    refine sq ?_
    refine rg ?_
    refine stp hF (p_assign rfl) (by decide) (fun a hF => ?_)
    refine nilN ?_
    refine xn ?_
    refine rt ?_
    refine xr ?_
    obtain rfl := hsm H
    exact ret1 hF rfl rfl hS ⟨rfl, rfl⟩
  · replace H := hbf hc1 H
    refine skN ?_
    refine xn ?_
    obtain ⟨x5, H, HK1⟩ := hb H
    refine sqj (fun a w => ∃ (s2 : HF) , St e s2 w [] ∧ Fr 27 a [] ∧ Sub s0 s2 ∧ laws_eqSeatS.c1 k = some r) ?_ ?_
    · skip
      refine sq ?_
      refine rg ?_
      refine stp hF (p_assign rfl) (by decide) (fun a hF => ?_)
      refine nilN ?_
      refine xn ?_
      refine blk ?_
      refine loop_ind (fun k1 a w => ∃ (x3 : Int) (s3 : HF) , St e s3 w [] ∧ Fr 27 a [(0, v1), (1, v2), (5, (.int .i64 x3))] ∧ Sub s0 s3 ∧ laws_eqSeatS.l1 x1 x2 k1 x3 = some x5) k ?_ ?_ ?_
      · skip
        exact ⟨0, s0, hS, hF.cut ⟨rfl, rfl, rfl, trivial⟩, (Sub.refl _), H⟩
      · clear H hS hF
        rintro a w ⟨x3, s3, hS, hF, hg1, H⟩
        exact absurd (show none = some _ from H) (by simp)
      · clear H hS hF
        rintro k1 a w ⟨x3, s3, hS, hF, hg1, H⟩
        rw [laws_eqSeatS.l1.eq_2] at H
        refine sq ?_
        refine sq ?_
        refine rg ?_
        refine stp hF (p_move rfl) (by decide) (fun a hF => ?_)
        refine stp hF (p_move rfl) (by decide) (fun a hF => ?_)
        refine stp hF (p_lenr un_50 rfl (h1.mono hg1)) (by decide) (fun a hF => ?_)
        refine stp hF (p_lss rfl rfl) (by decide) (fun a hF => ?_)
        refine nilN ?_
        refine xn ?_
        refine cnd hF rfl (fun hc2 => ?_) (fun hc2 => ?_)
        · replace H := hbt hc2 H
          refine skN ?_
          refine xn ?_
          refine sq ?_
          refine blk ?_
          refine sq ?_
          replace hS : St e s3 w.drew [] := hS.drewN 1
          refine drw [0, 1, 2, 3, 4, 5, 6, 7, 8, 9] mixed (by kernel_rfl) (by decide) (hF.cut (L' := [(0, v1), (1, v2), (5, (.int .i64 x3)), (11, (.int .i64 x3)), (12, v1), (13, (.int .i64 (x1.length : Int))), (14, (.bool (decide (x3 < (x1.length : Int)))))]) ⟨rfl, rfl, rfl, rfl, rfl, rfl, rfl, trivial⟩) ?_
          clear hF
          generalize w.drew = w at hS ⊢
          refine pk1 rfl (by decide) rfl (by kernel_rfl) rfl (p_move rfl) ?_
          refine pk1 rfl (by decide) rfl (by kernel_rfl) rfl (p_move rfl) ?_
          obtain ⟨hq1, H⟩ := hck H
          obtain ⟨ad1, h3, p1⟩ := p_idxr (P := Tryz.prog) (i := x3) (h1.mono hg1) un_50 ti_105 hq1.1 hq1.2
          refine pk1 rfl (by decide) rfl (by kernel_rfl) rfl (p1 rfl rfl) ?_
          obtain ⟨c2, h4, p2⟩ := p_ldr_agg (P := Tryz.prog) h3 ia_105 ti_105
          obtain ⟨c3, rfl, h5⟩ := kTSeat_open h4
          refine pk1 rfl (by decide) rfl (by kernel_rfl) rfl (p2 rfl hS.ro) ?_
          refine pk1 rfl (by decide) rfl (by kernel_rfl) rfl (p_move rfl) ?_
          refine pk1 rfl (by decide) rfl (by kernel_rfl) rfl (p_move rfl) ?_
          obtain ⟨hq2, H⟩ := hck H
          obtain ⟨ad2, h6, p3⟩ := p_idxr (P := Tryz.prog) (i := x3) (h2.mono hg1) un_50 ti_105 hq2.1 hq2.2
          refine pk1 rfl (by decide) rfl (by kernel_rfl) rfl (p3 rfl rfl) ?_
          obtain ⟨c4, h7, p4⟩ := p_ldr_agg (P := Tryz.prog) h6 ia_105 ti_105
          obtain ⟨c5, rfl, h8⟩ := kTSeat_open h7
          refine pk1 rfl (by decide) rfl (by kernel_rfl) rfl (p4 rfl hS.ro) ?_
          obtain ⟨x4, hx1, H⟩ := hb H
          refine pkE [6, 5, 4, 2, 1, 0] rfl (by decide) (by kernel_rfl) (by kernel_rfl) (e_callA (fst := []) (vs := [(.agg ([(.int .i64 ((rd x1 x3).No)), (.int .i64 (((rd x1 x3).P).Lsn))] ++ c3 ++ [(.bool ((rd x1 x3).Dirty)), (.bool ((rd x1 x3).Hot))] : List Value).toArray), (.agg ([(.int .i64 ((rd x2 x3).No)), (.int .i64 (((rd x2 x3).P).Lsn))] ++ c5 ++ [(.bool ((rd x2 x3).Dirty)), (.bool ((rd x2 x3).Hot))] : List Value).toArray)]) (cap := []) rfl rfl go_210 (St.call (A := []) (B := []) hS (laws_eqSeat.spec k1 _ _ (rd x1 x3) (rd x2 x3) c3 c5 h5 h8 _ hx1)) rfl) ?_
          intro v w hR
          obtain ⟨s4, A2, hg2, hS, hR⟩ := hR
          obtain ⟨hv1, rfl⟩ := hR; obtain rfl := hv1.symm
          have hS : St e s4 w [] := hS
          refine ⟨⟨knw rfl rfl rfl (p3 rfl rfl), ⟨knw rfl rfl rfl (p_move rfl), ⟨knw rfl rfl rfl (p_move rfl), ⟨knw rfl rfl rfl (p1 rfl rfl), ⟨knw rfl rfl rfl (p_move rfl), ⟨knw rfl rfl rfl (p_move rfl), trivial⟩⟩⟩⟩⟩⟩, ?_⟩
          refine pk1 rfl (by decide) rfl (by kernel_rfl) rfl (p_not rfl) ?_
          refine pkF (fun a hF => ?_)
          refine xn ?_
          refine cnd hF rfl (fun hc3 => ?_) (fun hc3 => ?_)
          · replace H := hbt hc3 H
            refine sq ?_
            refine rg ?_
            refine stp hF (p_assign rfl) (by decide) (fun a hF => ?_)
            refine nilN ?_
            refine xn ?_
            refine rt ?_
            refine br (xr (xr (br (xr ?_))))
            obtain rfl := hsm H
            have H := hon1 HK1
            obtain rfl := hsm H
            exact ret1 hF rfl rfl hS ⟨rfl, rfl⟩
          · replace H := hbf hc3 H
            refine skN ?_
            refine bn (xn ?_)
            refine rg ?_
            refine stp hF (p_move rfl) (by decide) (fun a hF => ?_)
            refine stp hF (p_add (c := w64 (x3 + 1)) rfl rfl rfl) (by decide) (fun a hF => ?_)
            refine stp hF (p_assign rfl) (by decide) (fun a hF => ?_)
            refine nilN ?_
            refine xn ?_
            exact ⟨(w64 (x3 + 1)), s4, hS, hF.cut ⟨rfl, rfl, rfl, trivial⟩, (hg1.trans hg2), H⟩
        · replace H := hbf hc2 H
          refine exi ?_
          refine xe (xe (hit (xn ?_)))
          obtain rfl := hsm H
          exact ⟨s3, hS, hF.cut trivial, hg1, HK1⟩
    · clear H HK1 hS hF
      rintro a w ⟨s2, hS, hF, hg3, H⟩
      unfold laws_eqSeatS.c1 at H
      refine sq ?_
      refine rg ?_
      refine stp hF (p_assign rfl) (by decide) (fun a hF => ?_)
      refine nilN ?_
      refine xn ?_
      refine rt ?_
      obtain rfl := hsm H
      exact ret1 hF rfl rfl hS ⟨rfl, rfl⟩

def laws_eqPool.f (k : Nat) (x1 : TPool) (x2 : TPool) : Option Bool :=
  ((laws_eqSeatS.f k x1.Seats x2.Seats).bind fun x3 => (if (!x3) = true then (some false) else (if (decide (x1.Hand ≠ x2.Hand)) = true then (some false) else (some true))))
set_option maxRecDepth 100000 in
set_option maxHeartbeats 4000000 in
theorem laws_eqPool.spec (k : Nat) (s0 : HF) (w : World) (x1 : TPool) (x2 : TPool) (v1 : Value) (v2 : Value) (h1 : Sl kTSeat s0 v1 x1.Seats) (h2 : Sl kTSeat s0 v2 x2.Seats) (r : Bool) (H : laws_eqPool.f k x1 x2 = some r) :
    Law Tryz.prog 52 #[(.agg #[v1, (.int .i64 x1.Hand)]), (.agg #[v2, (.int .i64 x2.Hand)])] s0 w [] (fun v s1 A1 => v = (.bool r) ∧ A1 = []) := by
  unfold laws_eqPool.f at H
  refine Law.intro Tryz.func52 rfl [(0, (.agg #[v1, (.int .i64 x1.Hand)])), (1, (.agg #[v2, (.int .i64 x2.Hand)]))] (Nat.le_of_ble_eq_true rfl) (enter_lk ⟨rfl, rfl, trivial⟩) (fun e a hS hF => ?_)
  have hF : Fr 16 a [(0, (.agg #[v1, (.int .i64 x1.Hand)])), (1, (.agg #[v2, (.int .i64 x2.Hand)]))] := hF
  refine sq ?_
  refine rg ?_
  refine ste hF (e_box (cs := [v1, (.int .i64 x1.Hand)]) hS rfl rfl) (by decide) (fun v w a hR hF => ?_)
  obtain ⟨g1, rfl, hS⟩ := hR
  refine ste hF (e_box (cs := [v2, (.int .i64 x2.Hand)]) hS rfl rfl) (by decide) (fun v w a hR hF => ?_)
  obtain ⟨g2, rfl, hS⟩ := hR
  refine stp hF (p_assign rfl) (by decide) (fun a hF => ?_)
  refine nilN ?_
  refine xn ?_
  refine sq ?_
  refine sq ?_
  refine rg ?_
  refine stp hF (p_fldb (o' := 0) rfl fi_52_0 rfl) (by decide) (fun a hF => ?_)
  refine stp hF (p_ldb_one (i := 1) hS rfl rfl ia_50 rfl) (by decide) (fun a hF => ?_)
  refine stp hF (p_fldb (o' := 0) rfl fi_52_0 rfl) (by decide) (fun a hF => ?_)
  refine stp hF (p_ldb_one (i := 0) hS rfl rfl ia_50 rfl) (by decide) (fun a hF => ?_)
  obtain ⟨x3, hx1, H⟩ := hb H
  refine ste hF (e_callA (fst := []) (vs := [v1, v2]) (cap := []) rfl rfl go_127 (St.call (A := []) (B := [pt g2 52 ([v2, (.int .i64 x2.Hand)]), pt g1 52 ([v1, (.int .i64 x1.Hand)])]) hS (laws_eqSeatS.spec k _ _ x1.Seats x2.Seats v1 v2 h1 h2 _ hx1)) rfl) (by decide) (fun v w a hR hF => ?_)
  obtain ⟨s2, A2, hg1, hS, hR⟩ := hR
  obtain ⟨hv1, rfl⟩ := hR; obtain rfl := hv1.symm
  have hS : St e s2 w [pt g2 52 ([v2, (.int .i64 x2.Hand)]), pt g1 52 ([v1, (.int .i64 x1.Hand)])] := hS
  refine stp hF (p_not rfl) (by decide) (fun a hF => ?_)
  refine nilN ?_
  refine xn ?_
  refine cnd hF rfl (fun hc1 => ?_) (fun hc1 => ?_)
  · replace H := hbt hc1 H
    refine sq ?_
    refine rg ?_
    refine stp hF (p_assign rfl) (by decide) (fun a hF => ?_)
    refine nilN ?_
    refine xn ?_
    refine rt ?_
    refine xr ?_
    obtain rfl := hsm H
    replace hS := hS.sel (is := []) (A' := []) rfl
    exact ret1 hF rfl rfl hS ⟨rfl, rfl⟩
  · replace H := hbf hc1 H
    refine skN ?_
    refine xn ?_
    refine sq ?_
    refine sq ?_
    refine rg ?_
    refine stp hF (p_fldb (o' := 1) rfl fi_52_1 rfl) (by decide) (fun a hF => ?_)
    refine stp hF (p_ldb_one (i := 1) hS rfl rfl ia_3 rfl) (by decide) (fun a hF => ?_)
    refine stp hF (p_fldb (o' := 1) rfl fi_52_1 rfl) (by decide) (fun a hF => ?_)
    refine stp hF (p_ldb_one (i := 0) hS rfl rfl ia_3 rfl) (by decide) (fun a hF => ?_)
    refine stp hF (p_neq rfl rfl) (by decide) (fun a hF => ?_)
    refine nilN ?_
    refine xn ?_
    refine cnd hF rfl (fun hc2 => ?_) (fun hc2 => ?_)
    · replace H := hbt hc2 H
      refine sq ?_
      refine rg ?_
      refine stp hF (p_assign rfl) (by decide) (fun a hF => ?_)
      refine nilN ?_
      refine xn ?_
      refine rt ?_
      refine xr ?_
      obtain rfl := hsm H
      replace hS := hS.sel (is := []) (A' := []) rfl
      exact ret1 hF rfl rfl hS ⟨rfl, rfl⟩
    · replace H := hbf hc2 H
      refine skN ?_
      refine xn ?_
      refine sq ?_
      refine rg ?_
      refine stp hF (p_assign rfl) (by decide) (fun a hF => ?_)
      refine nilN ?_
      refine xn ?_
      refine rt ?_
      obtain rfl := hsm H
      replace hS := hS.sel (is := []) (A' := []) rfl
      exact ret1 hF rfl rfl hS ⟨rfl, rfl⟩

def laws_eqLive.f (k : Nat) (x1 : TLive) (x2 : TLive) : Option Bool :=
  (if (decide (x1.Tx ≠ x2.Tx)) = true then (some false) else (if (decide (x1.Last ≠ x2.Last)) = true then (some false) else (if (x1.Aborts != x2.Aborts) = true then (some false) else (some true))))
set_option maxRecDepth 100000 in
set_option maxHeartbeats 4000000 in
theorem laws_eqLive.spec (k : Nat) (s0 : HF) (w : World) (x1 : TLive) (x2 : TLive) (r : Bool) (H : laws_eqLive.f k x1 x2 = some r) :
    Law Tryz.prog 129 #[(.agg #[(.int .i64 x1.Tx), (.int .i64 x1.Last), (.bool x1.Aborts)]), (.agg #[(.int .i64 x2.Tx), (.int .i64 x2.Last), (.bool x2.Aborts)])] s0 w [] (fun v s1 A1 => v = (.bool r) ∧ A1 = []) := by
  unfold laws_eqLive.f at H
  refine Law.intro Tryz.func129 rfl [(0, (.agg #[(.int .i64 x1.Tx), (.int .i64 x1.Last), (.bool x1.Aborts)])), (1, (.agg #[(.int .i64 x2.Tx), (.int .i64 x2.Last), (.bool x2.Aborts)]))] (Nat.le_of_ble_eq_true rfl) (enter_lk ⟨rfl, rfl, trivial⟩) (fun e a hS hF => ?_)
  have hF : Fr 20 a [(0, (.agg #[(.int .i64 x1.Tx), (.int .i64 x1.Last), (.bool x1.Aborts)])), (1, (.agg #[(.int .i64 x2.Tx), (.int .i64 x2.Last), (.bool x2.Aborts)]))] := hF
  refine sq ?_
  refine rg ?_
  refine ste hF (e_box (cs := [(.int .i64 x1.Tx), (.int .i64 x1.Last), (.bool x1.Aborts)]) hS rfl rfl) (by decide) (fun v w a hR hF => ?_)
  obtain ⟨g1, rfl, hS⟩ := hR
  refine ste hF (e_box (cs := [(.int .i64 x2.Tx), (.int .i64 x2.Last), (.bool x2.Aborts)]) hS rfl rfl) (by decide) (fun v w a hR hF => ?_)
  obtain ⟨g2, rfl, hS⟩ := hR
  refine stp hF (p_assign rfl) (by decide) (fun a hF => ?_)
  refine nilN ?_
  refine xn ?_
  refine sq ?_
  refine sq ?_
  refine rg ?_
  refine stp hF (p_fldb (o' := 0) rfl fi_169_0 rfl) (by decide) (fun a hF => ?_)
  refine stp hF (p_ldb_one (i := 1) hS rfl rfl ia_3 rfl) (by decide) (fun a hF => ?_)
  refine stp hF (p_fldb (o' := 0) rfl fi_169_0 rfl) (by decide) (fun a hF => ?_)
  refine stp hF (p_ldb_one (i := 0) hS rfl rfl ia_3 rfl) (by decide) (fun a hF => ?_)
  refine stp hF (p_neq rfl rfl) (by decide) (fun a hF => ?_)
  refine nilN ?_
  refine xn ?_
  refine cnd hF rfl (fun hc1 => ?_) (fun hc1 => ?_)
  · replace H := hbt hc1 H
    refine sq ?_
    refine rg ?_
    refine stp hF (p_assign rfl) (by decide) (fun a hF => ?_)
    refine nilN ?_
    refine xn ?_
    refine rt ?_
    refine xr ?_
    obtain rfl := hsm H
    replace hS := hS.sel (is := []) (A' := []) rfl
    exact ret1 hF rfl rfl hS ⟨rfl, rfl⟩
  · replace H := hbf hc1 H
    refine skN ?_
    refine xn ?_
    refine sq ?_
    refine sq ?_
    refine rg ?_
    refine stp hF (p_fldb (o' := 1) rfl fi_169_1 rfl) (by decide) (fun a hF => ?_)
    refine stp hF (p_ldb_one (i := 1) hS rfl rfl ia_3 rfl) (by decide) (fun a hF => ?_)
    refine stp hF (p_fldb (o' := 1) rfl fi_169_1 rfl) (by decide) (fun a hF => ?_)
    refine stp hF (p_ldb_one (i := 0) hS rfl rfl ia_3 rfl) (by decide) (fun a hF => ?_)
    refine stp hF (p_neq rfl rfl) (by decide) (fun a hF => ?_)
    refine nilN ?_
    refine xn ?_
    refine cnd hF rfl (fun hc2 => ?_) (fun hc2 => ?_)
    · replace H := hbt hc2 H
      refine sq ?_
      refine rg ?_
      refine stp hF (p_assign rfl) (by decide) (fun a hF => ?_)
      refine nilN ?_
      refine xn ?_
      refine rt ?_
      refine xr ?_
      obtain rfl := hsm H
      replace hS := hS.sel (is := []) (A' := []) rfl
      exact ret1 hF rfl rfl hS ⟨rfl, rfl⟩
    · replace H := hbf hc2 H
      refine skN ?_
      refine xn ?_
      refine sq ?_
      refine sq ?_
      refine rg ?_
      refine stp hF (p_fldb (o' := 2) rfl fi_169_2 rfl) (by decide) (fun a hF => ?_)
      refine stp hF (p_ldb_one (i := 1) hS rfl rfl ia_4 rfl) (by decide) (fun a hF => ?_)
      refine stp hF (p_fldb (o' := 2) rfl fi_169_2 rfl) (by decide) (fun a hF => ?_)
      refine stp hF (p_ldb_one (i := 0) hS rfl rfl ia_4 rfl) (by decide) (fun a hF => ?_)
      refine stp hF (p_neb un_4 rfl rfl) (by decide) (fun a hF => ?_)
      refine nilN ?_
      refine xn ?_
      refine cnd hF rfl (fun hc3 => ?_) (fun hc3 => ?_)
      · replace H := hbt hc3 H
        refine sq ?_
        refine rg ?_
        refine stp hF (p_assign rfl) (by decide) (fun a hF => ?_)
        refine nilN ?_
        refine xn ?_
        refine rt ?_
        refine xr ?_
        obtain rfl := hsm H
        replace hS := hS.sel (is := []) (A' := []) rfl
        exact ret1 hF rfl rfl hS ⟨rfl, rfl⟩
      · replace H := hbf hc3 H
        refine skN ?_
        refine xn ?_
        refine sq ?_
        refine rg ?_
        refine stp hF (p_assign rfl) (by decide) (fun a hF => ?_)
        refine nilN ?_
        refine xn ?_
        refine rt ?_
        obtain rfl := hsm H
        replace hS := hS.sel (is := []) (A' := []) rfl
        exact ret1 hF rfl rfl hS ⟨rfl, rfl⟩

def laws_eqLiveS.c1 (k : Nat) : Option Bool :=
  (some true)
def laws_eqLiveS.l1 (x1 : (List TLive)) (x2 : (List TLive)) : Nat → Int → Option (Ex Bool Unit)
  | 0, _ => none
  | k + 1, x3 => (if (decide (x3 < (x1.length : Int))) = true then (if 0 ≤ x3 ∧ x3 < (x1.length : Int) then (if 0 ≤ x3 ∧ x3 < (x2.length : Int) then ((laws_eqLive.f k (rd x1 x3) (rd x2 x3)).bind fun x4 => (if (!x4) = true then (some (Ex.ret false)) else ((laws_eqLiveS.l1 x1 x2 k) (w64 (x3 + 1))))) else none) else none) else (some (Ex.go ())))
def laws_eqLiveS.f (k : Nat) (x1 : (List TLive)) (x2 : (List TLive)) : Option Bool :=
  (if (decide ((x1.length : Int) ≠ (x2.length : Int))) = true then (some false) else (((laws_eqLiveS.l1 x1 x2 k 0) : Option (Ex Bool Unit)).bind fun x5 => Ex.on x5 (fun r => some r) (fun y => laws_eqLiveS.c1 k)))
set_option maxRecDepth 100000 in
set_option maxHeartbeats 4000000 in
theorem laws_eqLiveS.spec (k : Nat) (s0 : HF) (w : World) (x1 : (List TLive)) (x2 : (List TLive)) (v1 : Value) (v2 : Value) (h1 : Sl kTLive s0 v1 x1) (h2 : Sl kTLive s0 v2 x2) (r : Bool) (H : laws_eqLiveS.f k x1 x2 = some r) :
    Law Tryz.prog 54 #[v1, v2] s0 w [] (fun v s1 A1 => v = (.bool r) ∧ A1 = []) := by
  unfold laws_eqLiveS.f at H
  refine Law.intro Tryz.func54 rfl [(0, v1), (1, v2)] (Nat.le_of_ble_eq_true rfl) (enter_lk ⟨rfl, rfl, trivial⟩) (fun e a hS hF => ?_)
  have hF : Fr 27 a [(0, v1), (1, v2)] := hF
  refine sq ?_
  refine rg ?_
  refine stp hF (p_assign rfl) (by decide) (fun a hF => ?_)
  refine nilN ?_
  refine xn ?_
  refine sq ?_
  refine sq ?_
  refine rg ?_
  refine stp hF (p_move rfl) (by decide) (fun a hF => ?_)
  refine stp hF (p_lenr un_56 rfl h1) (by decide) (fun a hF => ?_)
  refine stp hF (p_move rfl) (by decide) (fun a hF => ?_)
  refine stp hF (p_lenr un_56 rfl h2) (by decide) (fun a hF => ?_)
  refine stp hF (p_neq rfl rfl) (by decide) (fun a hF => ?_)
  refine nilN ?_
  refine xn ?_
  refine cnd hF rfl (fun hc1 => ?_) (fun hc1 => ?_)
  · replace H := hbt hc1 H
    refine sq ?_
    refine rg ?_
    refine stp hF (p_assign rfl) (by decide) (fun a hF => ?_)
    refine nilN ?_
    refine xn ?_
    refine rt ?_
    refine xr ?_
    obtain rfl := hsm H
    exact ret1 hF rfl rfl hS ⟨rfl, rfl⟩
  · replace H := hbf hc1 H
    refine skN ?_
    refine xn ?_
    obtain ⟨x5, H, HK1⟩ := hb H
    refine sqj (fun a w => ∃ (s2 : HF) , St e s2 w [] ∧ Fr 27 a [] ∧ Sub s0 s2 ∧ laws_eqLiveS.c1 k = some r) ?_ ?_
    · skip
      refine sq ?_
      refine rg ?_
      refine stp hF (p_assign rfl) (by decide) (fun a hF => ?_)
      refine nilN ?_
      refine xn ?_
      refine blk ?_
      refine loop_ind (fun k1 a w => ∃ (x3 : Int) (s3 : HF) , St e s3 w [] ∧ Fr 27 a [(0, v1), (1, v2), (5, (.int .i64 x3))] ∧ Sub s0 s3 ∧ laws_eqLiveS.l1 x1 x2 k1 x3 = some x5) k ?_ ?_ ?_
      · skip
        exact ⟨0, s0, hS, hF.cut ⟨rfl, rfl, rfl, trivial⟩, (Sub.refl _), H⟩
      · clear H hS hF
        rintro a w ⟨x3, s3, hS, hF, hg1, H⟩
        exact absurd (show none = some _ from H) (by simp)
      · clear H hS hF
        rintro k1 a w ⟨x3, s3, hS, hF, hg1, H⟩
        rw [laws_eqLiveS.l1.eq_2] at H
        refine sq ?_
        refine sq ?_
        refine rg ?_
        refine stp hF (p_move rfl) (by decide) (fun a hF => ?_)
        refine stp hF (p_move rfl) (by decide) (fun a hF => ?_)
        refine stp hF (p_lenr un_56 rfl (h1.mono hg1)) (by decide) (fun a hF => ?_)
        refine stp hF (p_lss rfl rfl) (by decide) (fun a hF => ?_)
        refine nilN ?_
        refine xn ?_
        refine cnd hF rfl (fun hc2 => ?_) (fun hc2 => ?_)
        · replace H := hbt hc2 H
          refine skN ?_
          refine xn ?_
          refine sq ?_
          refine blk ?_
          refine sq ?_
          replace hS : St e s3 w.drew [] := hS.drewN 1
          refine drw [0, 1, 2, 3, 4, 5, 6, 7, 8, 9] mixed (by kernel_rfl) (by decide) (hF.cut (L' := [(0, v1), (1, v2), (5, (.int .i64 x3)), (11, (.int .i64 x3)), (12, v1), (13, (.int .i64 (x1.length : Int))), (14, (.bool (decide (x3 < (x1.length : Int)))))]) ⟨rfl, rfl, rfl, rfl, rfl, rfl, rfl, trivial⟩) ?_
          clear hF
          generalize w.drew = w at hS ⊢
          refine pk1 rfl (by decide) rfl (by kernel_rfl) rfl (p_move rfl) ?_
          refine pk1 rfl (by decide) rfl (by kernel_rfl) rfl (p_move rfl) ?_
          obtain ⟨hq1, H⟩ := hck H
          obtain ⟨ad1, h3, p1⟩ := p_idxr (P := Tryz.prog) (i := x3) (h1.mono hg1) un_56 ti_169 hq1.1 hq1.2
          refine pk1 rfl (by decide) rfl (by kernel_rfl) rfl (p1 rfl rfl) ?_
          obtain ⟨c2, h4, p2⟩ := p_ldr_agg (P := Tryz.prog) h3 ia_169 ti_169
          obtain rfl := kTLive_open h4
          refine pk1 rfl (by decide) rfl (by kernel_rfl) rfl (p2 rfl hS.ro) ?_
          refine pk1 rfl (by decide) rfl (by kernel_rfl) rfl (p_move rfl) ?_
          refine pk1 rfl (by decide) rfl (by kernel_rfl) rfl (p_move rfl) ?_
          obtain ⟨hq2, H⟩ := hck H
          obtain ⟨ad2, h5, p3⟩ := p_idxr (P := Tryz.prog) (i := x3) (h2.mono hg1) un_56 ti_169 hq2.1 hq2.2
          refine pk1 rfl (by decide) rfl (by kernel_rfl) rfl (p3 rfl rfl) ?_
          obtain ⟨c3, h6, p4⟩ := p_ldr_agg (P := Tryz.prog) h5 ia_169 ti_169
          obtain rfl := kTLive_open h6
          refine pk1 rfl (by decide) rfl (by kernel_rfl) rfl (p4 rfl hS.ro) ?_
          obtain ⟨x4, hx1, H⟩ := hb H
          refine pkE [6, 5, 4, 2, 1, 0] rfl (by decide) (by kernel_rfl) (by kernel_rfl) (e_callA (fst := []) (vs := [(.agg #[(.int .i64 ((rd x1 x3).Tx)), (.int .i64 ((rd x1 x3).Last)), (.bool ((rd x1 x3).Aborts))]), (.agg #[(.int .i64 ((rd x2 x3).Tx)), (.int .i64 ((rd x2 x3).Last)), (.bool ((rd x2 x3).Aborts))])]) (cap := []) rfl rfl go_129 (St.call (A := []) (B := []) hS (laws_eqLive.spec k1 _ _ (rd x1 x3) (rd x2 x3) _ hx1)) rfl) ?_
          intro v w hR
          obtain ⟨s4, A2, hg2, hS, hR⟩ := hR
          obtain ⟨hv1, rfl⟩ := hR; obtain rfl := hv1.symm
          have hS : St e s4 w [] := hS
          refine ⟨⟨knw rfl rfl rfl (p3 rfl rfl), ⟨knw rfl rfl rfl (p_move rfl), ⟨knw rfl rfl rfl (p_move rfl), ⟨knw rfl rfl rfl (p1 rfl rfl), ⟨knw rfl rfl rfl (p_move rfl), ⟨knw rfl rfl rfl (p_move rfl), trivial⟩⟩⟩⟩⟩⟩, ?_⟩
          refine pk1 rfl (by decide) rfl (by kernel_rfl) rfl (p_not rfl) ?_
          refine pkF (fun a hF => ?_)
          refine xn ?_
          refine cnd hF rfl (fun hc3 => ?_) (fun hc3 => ?_)
          · replace H := hbt hc3 H
            refine sq ?_
            refine rg ?_
            refine stp hF (p_assign rfl) (by decide) (fun a hF => ?_)
            refine nilN ?_
            refine xn ?_
            refine rt ?_
            refine br (xr (xr (br (xr ?_))))
            obtain rfl := hsm H
            have H := hon1 HK1
            obtain rfl := hsm H
            exact ret1 hF rfl rfl hS ⟨rfl, rfl⟩
          · replace H := hbf hc3 H
            refine skN ?_
            refine bn (xn ?_)
            refine rg ?_
            refine stp hF (p_move rfl) (by decide) (fun a hF => ?_)
            refine stp hF (p_add (c := w64 (x3 + 1)) rfl rfl rfl) (by decide) (fun a hF => ?_)
            refine stp hF (p_assign rfl) (by decide) (fun a hF => ?_)
            refine nilN ?_
            refine xn ?_
            exact ⟨(w64 (x3 + 1)), s4, hS, hF.cut ⟨rfl, rfl, rfl, trivial⟩, (hg1.trans hg2), H⟩
        · replace H := hbf hc2 H
          refine exi ?_
          refine xe (xe (hit (xn ?_)))
          obtain rfl := hsm H
          exact ⟨s3, hS, hF.cut trivial, hg1, HK1⟩
    · clear H HK1 hS hF
      rintro a w ⟨s2, hS, hF, hg3, H⟩
      unfold laws_eqLiveS.c1 at H
      refine sq ?_
      refine rg ?_
      refine stp hF (p_assign rfl) (by decide) (fun a hF => ?_)
      refine nilN ?_
      refine xn ?_
      refine rt ?_
      obtain rfl := hsm H
      exact ret1 hF rfl rfl hS ⟨rfl, rfl⟩

def laws_eqRec.f (k : Nat) (x1 : TRec) (x2 : TRec) : Option Bool :=
  (if (decide (x1.Lsn ≠ x2.Lsn)) = true then (some false) else (if (decide (x1.Tx ≠ x2.Tx)) = true then (some false) else (if (decide (x1.Prev ≠ x2.Prev)) = true then (some false) else (if (decide (x1.Kind ≠ x2.Kind)) = true then (some false) else (if (decide (x1.Oid ≠ x2.Oid)) = true then (some false) else ((laws_eqSlot.f k x1.Before x2.Before).bind fun x3 => (if (!x3) = true then (some false) else ((laws_eqSlot.f k x1.After x2.After).bind fun x4 => (if (!x4) = true then (some false) else (if (decide (x1.Next ≠ x2.Next)) = true then (some false) else ((laws_eqLiveS.f k x1.Txs x2.Txs).bind fun x5 => (if (!x5) = true then (some false) else (some true)))))))))))))
set_option maxRecDepth 100000 in
set_option maxHeartbeats 4000000 in
theorem laws_eqRec.spec (k : Nat) (s0 : HF) (w : World) (x1 : TRec) (x2 : TRec) (v1 : Value) (v2 : Value) (v3 : Value) (v4 : Value) (v5 : Value) (v6 : Value) (v7 : Value) (v8 : Value) (v9 : Value) (v10 : Value) (h1 : Sl (Kd.int .i64) s0 v1 x1.Before.O.Ints) (h2 : Sl (Kd.int .i64) s0 v2 x1.Before.O.Refs) (h3 : Sl (Kd.int .i64) s0 v3 x1.After.O.Ints) (h4 : Sl (Kd.int .i64) s0 v4 x1.After.O.Refs) (h5 : Sl kTLive s0 v5 x1.Txs) (h6 : Sl (Kd.int .i64) s0 v6 x2.Before.O.Ints) (h7 : Sl (Kd.int .i64) s0 v7 x2.Before.O.Refs) (h8 : Sl (Kd.int .i64) s0 v8 x2.After.O.Ints) (h9 : Sl (Kd.int .i64) s0 v9 x2.After.O.Refs) (h10 : Sl kTLive s0 v10 x2.Txs) (r : Bool) (H : laws_eqRec.f k x1 x2 = some r) :
    Law Tryz.prog 211 #[(.agg #[(.int .i64 x1.Lsn), (.int .i64 x1.Tx), (.int .i64 x1.Prev), (.int .i64 x1.Kind), (.int .i64 x1.Oid), (.bool x1.Before.Has), (.int .i64 x1.Before.O.Kind), v1, v2, (.bool x1.After.Has), (.int .i64 x1.After.O.Kind), v3, v4, (.int .i64 x1.Next), v5]), (.agg #[(.int .i64 x2.Lsn), (.int .i64 x2.Tx), (.int .i64 x2.Prev), (.int .i64 x2.Kind), (.int .i64 x2.Oid), (.bool x2.Before.Has), (.int .i64 x2.Before.O.Kind), v6, v7, (.bool x2.After.Has), (.int .i64 x2.After.O.Kind), v8, v9, (.int .i64 x2.Next), v10])] s0 w [] (fun v s1 A1 => v = (.bool r) ∧ A1 = []) := by
  unfold laws_eqRec.f at H
  refine Law.intro Tryz.func211 rfl [(0, (.agg #[(.int .i64 x1.Lsn), (.int .i64 x1.Tx), (.int .i64 x1.Prev), (.int .i64 x1.Kind), (.int .i64 x1.Oid), (.bool x1.Before.Has), (.int .i64 x1.Before.O.Kind), v1, v2, (.bool x1.After.Has), (.int .i64 x1.After.O.Kind), v3, v4, (.int .i64 x1.Next), v5])), (1, (.agg #[(.int .i64 x2.Lsn), (.int .i64 x2.Tx), (.int .i64 x2.Prev), (.int .i64 x2.Kind), (.int .i64 x2.Oid), (.bool x2.Before.Has), (.int .i64 x2.Before.O.Kind), v6, v7, (.bool x2.After.Has), (.int .i64 x2.After.O.Kind), v8, v9, (.int .i64 x2.Next), v10]))] (Nat.le_of_ble_eq_true rfl) (enter_lk ⟨rfl, rfl, trivial⟩) (fun e a hS hF => ?_)
  have hF : Fr 53 a [(0, (.agg #[(.int .i64 x1.Lsn), (.int .i64 x1.Tx), (.int .i64 x1.Prev), (.int .i64 x1.Kind), (.int .i64 x1.Oid), (.bool x1.Before.Has), (.int .i64 x1.Before.O.Kind), v1, v2, (.bool x1.After.Has), (.int .i64 x1.After.O.Kind), v3, v4, (.int .i64 x1.Next), v5])), (1, (.agg #[(.int .i64 x2.Lsn), (.int .i64 x2.Tx), (.int .i64 x2.Prev), (.int .i64 x2.Kind), (.int .i64 x2.Oid), (.bool x2.Before.Has), (.int .i64 x2.Before.O.Kind), v6, v7, (.bool x2.After.Has), (.int .i64 x2.After.O.Kind), v8, v9, (.int .i64 x2.Next), v10]))] := hF
  refine sq ?_
  refine rg ?_
  refine ste hF (e_box (cs := [(.int .i64 x1.Lsn), (.int .i64 x1.Tx), (.int .i64 x1.Prev), (.int .i64 x1.Kind), (.int .i64 x1.Oid), (.bool x1.Before.Has), (.int .i64 x1.Before.O.Kind), v1, v2, (.bool x1.After.Has), (.int .i64 x1.After.O.Kind), v3, v4, (.int .i64 x1.Next), v5]) hS rfl rfl) (by decide) (fun v w a hR hF => ?_)
  obtain ⟨g1, rfl, hS⟩ := hR
  refine ste hF (e_box (cs := [(.int .i64 x2.Lsn), (.int .i64 x2.Tx), (.int .i64 x2.Prev), (.int .i64 x2.Kind), (.int .i64 x2.Oid), (.bool x2.Before.Has), (.int .i64 x2.Before.O.Kind), v6, v7, (.bool x2.After.Has), (.int .i64 x2.After.O.Kind), v8, v9, (.int .i64 x2.Next), v10]) hS rfl rfl) (by decide) (fun v w a hR hF => ?_)
  obtain ⟨g2, rfl, hS⟩ := hR
  refine stp hF (p_assign rfl) (by decide) (fun a hF => ?_)
  refine nilN ?_
  refine xn ?_
  refine sq ?_
  refine sq ?_
  refine rg ?_
  refine stp hF (p_fldb (o' := 0) rfl fi_162_0 rfl) (by decide) (fun a hF => ?_)
  refine stp hF (p_ldb_one (i := 1) hS rfl rfl ia_3 rfl) (by decide) (fun a hF => ?_)
  refine stp hF (p_fldb (o' := 0) rfl fi_162_0 rfl) (by decide) (fun a hF => ?_)
  refine stp hF (p_ldb_one (i := 0) hS rfl rfl ia_3 rfl) (by decide) (fun a hF => ?_)
  refine stp hF (p_neq rfl rfl) (by decide) (fun a hF => ?_)
  refine nilN ?_
  refine xn ?_
  refine cnd hF rfl (fun hc1 => ?_) (fun hc1 => ?_)
  · replace H := hbt hc1 H
    refine sq ?_
    refine rg ?_
    refine stp hF (p_assign rfl) (by decide) (fun a hF => ?_)
    refine nilN ?_
    refine xn ?_
    refine rt ?_
    refine xr ?_
    obtain rfl := hsm H
    replace hS := hS.sel (is := []) (A' := []) rfl
    exact ret1 hF rfl rfl hS ⟨rfl, rfl⟩
  · replace H := hbf hc1 H
    refine skN ?_
    refine xn ?_
    refine sq ?_
    refine sq ?_
    refine rg ?_
    refine stp hF (p_fldb (o' := 1) rfl fi_162_1 rfl) (by decide) (fun a hF => ?_)
    refine stp hF (p_ldb_one (i := 1) hS rfl rfl ia_3 rfl) (by decide) (fun a hF => ?_)
    refine stp hF (p_fldb (o' := 1) rfl fi_162_1 rfl) (by decide) (fun a hF => ?_)
    refine stp hF (p_ldb_one (i := 0) hS rfl rfl ia_3 rfl) (by decide) (fun a hF => ?_)
    refine stp hF (p_neq rfl rfl) (by decide) (fun a hF => ?_)
    refine nilN ?_
    refine xn ?_
    refine cnd hF rfl (fun hc2 => ?_) (fun hc2 => ?_)
    · replace H := hbt hc2 H
      refine sq ?_
      refine rg ?_
      refine stp hF (p_assign rfl) (by decide) (fun a hF => ?_)
      refine nilN ?_
      refine xn ?_
      refine rt ?_
      refine xr ?_
      obtain rfl := hsm H
      replace hS := hS.sel (is := []) (A' := []) rfl
      exact ret1 hF rfl rfl hS ⟨rfl, rfl⟩
    · replace H := hbf hc2 H
      refine skN ?_
      refine xn ?_
      refine sq ?_
      refine sq ?_
      refine rg ?_
      refine stp hF (p_fldb (o' := 2) rfl fi_162_2 rfl) (by decide) (fun a hF => ?_)
      refine stp hF (p_ldb_one (i := 1) hS rfl rfl ia_3 rfl) (by decide) (fun a hF => ?_)
      refine stp hF (p_fldb (o' := 2) rfl fi_162_2 rfl) (by decide) (fun a hF => ?_)
      refine stp hF (p_ldb_one (i := 0) hS rfl rfl ia_3 rfl) (by decide) (fun a hF => ?_)
      refine stp hF (p_neq rfl rfl) (by decide) (fun a hF => ?_)
      refine nilN ?_
      refine xn ?_
      refine cnd hF rfl (fun hc3 => ?_) (fun hc3 => ?_)
      · replace H := hbt hc3 H
        refine sq ?_
        refine rg ?_
        refine stp hF (p_assign rfl) (by decide) (fun a hF => ?_)
        refine nilN ?_
        refine xn ?_
        refine rt ?_
        refine xr ?_
        obtain rfl := hsm H
        replace hS := hS.sel (is := []) (A' := []) rfl
        exact ret1 hF rfl rfl hS ⟨rfl, rfl⟩
      · replace H := hbf hc3 H
        refine skN ?_
        refine xn ?_
        refine sq ?_
        refine sq ?_
        refine rg ?_
        refine stp hF (p_fldb (o' := 3) rfl fi_162_3 rfl) (by decide) (fun a hF => ?_)
        refine stp hF (p_ldb_one (i := 1) hS rfl rfl ia_3 rfl) (by decide) (fun a hF => ?_)
        refine stp hF (p_fldb (o' := 3) rfl fi_162_3 rfl) (by decide) (fun a hF => ?_)
        refine stp hF (p_ldb_one (i := 0) hS rfl rfl ia_3 rfl) (by decide) (fun a hF => ?_)
        refine stp hF (p_neq rfl rfl) (by decide) (fun a hF => ?_)
        refine nilN ?_
        refine xn ?_
        refine cnd hF rfl (fun hc4 => ?_) (fun hc4 => ?_)
        · replace H := hbt hc4 H
          refine sq ?_
          refine rg ?_
          refine stp hF (p_assign rfl) (by decide) (fun a hF => ?_)
          refine nilN ?_
          refine xn ?_
          refine rt ?_
          refine xr ?_
          obtain rfl := hsm H
          replace hS := hS.sel (is := []) (A' := []) rfl
          exact ret1 hF rfl rfl hS ⟨rfl, rfl⟩
        · replace H := hbf hc4 H
          refine skN ?_
          refine xn ?_
          refine sq ?_
          refine sq ?_
          refine rg ?_
          refine stp hF (p_fldb (o' := 4) rfl fi_162_4 rfl) (by decide) (fun a hF => ?_)
          refine stp hF (p_ldb_one (i := 1) hS rfl rfl ia_3 rfl) (by decide) (fun a hF => ?_)
          refine stp hF (p_fldb (o' := 4) rfl fi_162_4 rfl) (by decide) (fun a hF => ?_)
          refine stp hF (p_ldb_one (i := 0) hS rfl rfl ia_3 rfl) (by decide) (fun a hF => ?_)
          refine stp hF (p_neq rfl rfl) (by decide) (fun a hF => ?_)
          refine nilN ?_
          refine xn ?_
          refine cnd hF rfl (fun hc5 => ?_) (fun hc5 => ?_)
          · replace H := hbt hc5 H
            refine sq ?_
            refine rg ?_
            refine stp hF (p_assign rfl) (by decide) (fun a hF => ?_)
            refine nilN ?_
            refine xn ?_
            refine rt ?_
            refine xr ?_
            obtain rfl := hsm H
            replace hS := hS.sel (is := []) (A' := []) rfl
            exact ret1 hF rfl rfl hS ⟨rfl, rfl⟩
          · replace H := hbf hc5 H
            refine skN ?_
            refine xn ?_
            refine sq ?_
            refine sq ?_
            refine rg ?_
            refine stp hF (p_fldb (o' := 5) rfl fi_162_5 rfl) (by decide) (fun a hF => ?_)
            refine stp hF (p_ldb_agg (i := 1) (l := [(.int .i64 x1.Lsn), (.int .i64 x1.Tx), (.int .i64 x1.Prev), (.int .i64 x1.Kind), (.int .i64 x1.Oid)]) (m := [(.bool x1.Before.Has), (.int .i64 x1.Before.O.Kind), v1, v2]) (r := [(.bool x1.After.Has), (.int .i64 x1.After.O.Kind), v3, v4, (.int .i64 x1.Next), v5]) hS rfl rfl ia_45 ti_45 rfl rfl rfl) (by decide) (fun a hF => ?_)
            refine stp hF (p_fldb (o' := 5) rfl fi_162_5 rfl) (by decide) (fun a hF => ?_)
            refine stp hF (p_ldb_agg (i := 0) (l := [(.int .i64 x2.Lsn), (.int .i64 x2.Tx), (.int .i64 x2.Prev), (.int .i64 x2.Kind), (.int .i64 x2.Oid)]) (m := [(.bool x2.Before.Has), (.int .i64 x2.Before.O.Kind), v6, v7]) (r := [(.bool x2.After.Has), (.int .i64 x2.After.O.Kind), v8, v9, (.int .i64 x2.Next), v10]) hS rfl rfl ia_45 ti_45 rfl rfl rfl) (by decide) (fun a hF => ?_)
            obtain ⟨x3, hx1, H⟩ := hb H
            refine ste hF (e_callA (fst := []) (vs := [(.agg #[(.bool x1.Before.Has), (.int .i64 x1.Before.O.Kind), v1, v2]), (.agg #[(.bool x2.Before.Has), (.int .i64 x2.Before.O.Kind), v6, v7])]) (cap := []) rfl rfl go_255 (St.call (A := []) (B := [pt g2 162 ([(.int .i64 x2.Lsn), (.int .i64 x2.Tx), (.int .i64 x2.Prev), (.int .i64 x2.Kind), (.int .i64 x2.Oid), (.bool x2.Before.Has), (.int .i64 x2.Before.O.Kind), v6, v7, (.bool x2.After.Has), (.int .i64 x2.After.O.Kind), v8, v9, (.int .i64 x2.Next), v10]), pt g1 162 ([(.int .i64 x1.Lsn), (.int .i64 x1.Tx), (.int .i64 x1.Prev), (.int .i64 x1.Kind), (.int .i64 x1.Oid), (.bool x1.Before.Has), (.int .i64 x1.Before.O.Kind), v1, v2, (.bool x1.After.Has), (.int .i64 x1.After.O.Kind), v3, v4, (.int .i64 x1.Next), v5])]) hS (laws_eqSlot.spec k _ _ x1.Before x2.Before v1 v2 v6 v7 h1 h2 h6 h7 _ hx1)) rfl) (by decide) (fun v w a hR hF => ?_)
            obtain ⟨s2, A2, hg1, hS, hR⟩ := hR
            obtain ⟨hv1, rfl⟩ := hR; obtain rfl := hv1.symm
            have hS : St e s2 w [pt g2 162 ([(.int .i64 x2.Lsn), (.int .i64 x2.Tx), (.int .i64 x2.Prev), (.int .i64 x2.Kind), (.int .i64 x2.Oid), (.bool x2.Before.Has), (.int .i64 x2.Before.O.Kind), v6, v7, (.bool x2.After.Has), (.int .i64 x2.After.O.Kind), v8, v9, (.int .i64 x2.Next), v10]), pt g1 162 ([(.int .i64 x1.Lsn), (.int .i64 x1.Tx), (.int .i64 x1.Prev), (.int .i64 x1.Kind), (.int .i64 x1.Oid), (.bool x1.Before.Has), (.int .i64 x1.Before.O.Kind), v1, v2, (.bool x1.After.Has), (.int .i64 x1.After.O.Kind), v3, v4, (.int .i64 x1.Next), v5])] := hS
            refine stp hF (p_not rfl) (by decide) (fun a hF => ?_)
            refine nilN ?_
            refine xn ?_
            refine cnd hF rfl (fun hc6 => ?_) (fun hc6 => ?_)
            · replace H := hbt hc6 H
              refine sq ?_
              refine rg ?_
              refine stp hF (p_assign rfl) (by decide) (fun a hF => ?_)
              refine nilN ?_
              refine xn ?_
              refine rt ?_
              refine xr ?_
              obtain rfl := hsm H
              replace hS := hS.sel (is := []) (A' := []) rfl
              exact ret1 hF rfl rfl hS ⟨rfl, rfl⟩
            · replace H := hbf hc6 H
              refine skN ?_
              refine xn ?_
              refine sq ?_
              refine sq ?_
              refine rg ?_
              refine stp hF (p_fldb (o' := 9) rfl fi_162_6 rfl) (by decide) (fun a hF => ?_)
              refine stp hF (p_ldb_agg (i := 1) (l := [(.int .i64 x1.Lsn), (.int .i64 x1.Tx), (.int .i64 x1.Prev), (.int .i64 x1.Kind), (.int .i64 x1.Oid), (.bool x1.Before.Has), (.int .i64 x1.Before.O.Kind), v1, v2]) (m := [(.bool x1.After.Has), (.int .i64 x1.After.O.Kind), v3, v4]) (r := [(.int .i64 x1.Next), v5]) hS rfl rfl ia_45 ti_45 rfl rfl rfl) (by decide) (fun a hF => ?_)
              refine stp hF (p_fldb (o' := 9) rfl fi_162_6 rfl) (by decide) (fun a hF => ?_)
              refine stp hF (p_ldb_agg (i := 0) (l := [(.int .i64 x2.Lsn), (.int .i64 x2.Tx), (.int .i64 x2.Prev), (.int .i64 x2.Kind), (.int .i64 x2.Oid), (.bool x2.Before.Has), (.int .i64 x2.Before.O.Kind), v6, v7]) (m := [(.bool x2.After.Has), (.int .i64 x2.After.O.Kind), v8, v9]) (r := [(.int .i64 x2.Next), v10]) hS rfl rfl ia_45 ti_45 rfl rfl rfl) (by decide) (fun a hF => ?_)
              obtain ⟨x4, hx2, H⟩ := hb H
              refine ste hF (e_callA (fst := []) (vs := [(.agg #[(.bool x1.After.Has), (.int .i64 x1.After.O.Kind), v3, v4]), (.agg #[(.bool x2.After.Has), (.int .i64 x2.After.O.Kind), v8, v9])]) (cap := []) rfl rfl go_255 (St.call (A := []) (B := [pt g2 162 ([(.int .i64 x2.Lsn), (.int .i64 x2.Tx), (.int .i64 x2.Prev), (.int .i64 x2.Kind), (.int .i64 x2.Oid), (.bool x2.Before.Has), (.int .i64 x2.Before.O.Kind), v6, v7, (.bool x2.After.Has), (.int .i64 x2.After.O.Kind), v8, v9, (.int .i64 x2.Next), v10]), pt g1 162 ([(.int .i64 x1.Lsn), (.int .i64 x1.Tx), (.int .i64 x1.Prev), (.int .i64 x1.Kind), (.int .i64 x1.Oid), (.bool x1.Before.Has), (.int .i64 x1.Before.O.Kind), v1, v2, (.bool x1.After.Has), (.int .i64 x1.After.O.Kind), v3, v4, (.int .i64 x1.Next), v5])]) hS (laws_eqSlot.spec k _ _ x1.After x2.After v3 v4 v8 v9 (h3.mono hg1) (h4.mono hg1) (h8.mono hg1) (h9.mono hg1) _ hx2)) rfl) (by decide) (fun v w a hR hF => ?_)
              obtain ⟨s3, A3, hg2, hS, hR⟩ := hR
              obtain ⟨hv2, rfl⟩ := hR; obtain rfl := hv2.symm
              have hS : St e s3 w [pt g2 162 ([(.int .i64 x2.Lsn), (.int .i64 x2.Tx), (.int .i64 x2.Prev), (.int .i64 x2.Kind), (.int .i64 x2.Oid), (.bool x2.Before.Has), (.int .i64 x2.Before.O.Kind), v6, v7, (.bool x2.After.Has), (.int .i64 x2.After.O.Kind), v8, v9, (.int .i64 x2.Next), v10]), pt g1 162 ([(.int .i64 x1.Lsn), (.int .i64 x1.Tx), (.int .i64 x1.Prev), (.int .i64 x1.Kind), (.int .i64 x1.Oid), (.bool x1.Before.Has), (.int .i64 x1.Before.O.Kind), v1, v2, (.bool x1.After.Has), (.int .i64 x1.After.O.Kind), v3, v4, (.int .i64 x1.Next), v5])] := hS
              refine stp hF (p_not rfl) (by decide) (fun a hF => ?_)
              refine nilN ?_
              refine xn ?_
              refine cnd hF rfl (fun hc7 => ?_) (fun hc7 => ?_)
              · replace H := hbt hc7 H
                refine sq ?_
                refine rg ?_
                refine stp hF (p_assign rfl) (by decide) (fun a hF => ?_)
                refine nilN ?_
                refine xn ?_
                refine rt ?_
                refine xr ?_
                obtain rfl := hsm H
                replace hS := hS.sel (is := []) (A' := []) rfl
                exact ret1 hF rfl rfl hS ⟨rfl, rfl⟩
              · replace H := hbf hc7 H
                refine skN ?_
                refine xn ?_
                refine sq ?_
                refine sq ?_
                refine rg ?_
                refine stp hF (p_fldb (o' := 13) rfl fi_162_7 rfl) (by decide) (fun a hF => ?_)
                refine stp hF (p_ldb_one (i := 1) hS rfl rfl ia_3 rfl) (by decide) (fun a hF => ?_)
                refine stp hF (p_fldb (o' := 13) rfl fi_162_7 rfl) (by decide) (fun a hF => ?_)
                refine stp hF (p_ldb_one (i := 0) hS rfl rfl ia_3 rfl) (by decide) (fun a hF => ?_)
                refine stp hF (p_neq rfl rfl) (by decide) (fun a hF => ?_)
                refine nilN ?_
                refine xn ?_
                refine cnd hF rfl (fun hc8 => ?_) (fun hc8 => ?_)
                · replace H := hbt hc8 H
                  refine sq ?_
                  refine rg ?_
                  refine stp hF (p_assign rfl) (by decide) (fun a hF => ?_)
                  refine nilN ?_
                  refine xn ?_
                  refine rt ?_
                  refine xr ?_
                  obtain rfl := hsm H
                  replace hS := hS.sel (is := []) (A' := []) rfl
                  exact ret1 hF rfl rfl hS ⟨rfl, rfl⟩
                · replace H := hbf hc8 H
                  refine skN ?_
                  refine xn ?_
                  refine sq ?_
                  refine sq ?_
                  refine rg ?_
                  refine stp hF (p_fldb (o' := 14) rfl fi_162_8 rfl) (by decide) (fun a hF => ?_)
                  refine stp hF (p_ldb_one (i := 1) hS rfl rfl ia_56 rfl) (by decide) (fun a hF => ?_)
                  refine stp hF (p_fldb (o' := 14) rfl fi_162_8 rfl) (by decide) (fun a hF => ?_)
                  refine stp hF (p_ldb_one (i := 0) hS rfl rfl ia_56 rfl) (by decide) (fun a hF => ?_)
                  obtain ⟨x5, hx3, H⟩ := hb H
                  refine ste hF (e_callA (fst := []) (vs := [v5, v10]) (cap := []) rfl rfl go_54 (St.call (A := []) (B := [pt g2 162 ([(.int .i64 x2.Lsn), (.int .i64 x2.Tx), (.int .i64 x2.Prev), (.int .i64 x2.Kind), (.int .i64 x2.Oid), (.bool x2.Before.Has), (.int .i64 x2.Before.O.Kind), v6, v7, (.bool x2.After.Has), (.int .i64 x2.After.O.Kind), v8, v9, (.int .i64 x2.Next), v10]), pt g1 162 ([(.int .i64 x1.Lsn), (.int .i64 x1.Tx), (.int .i64 x1.Prev), (.int .i64 x1.Kind), (.int .i64 x1.Oid), (.bool x1.Before.Has), (.int .i64 x1.Before.O.Kind), v1, v2, (.bool x1.After.Has), (.int .i64 x1.After.O.Kind), v3, v4, (.int .i64 x1.Next), v5])]) hS (laws_eqLiveS.spec k _ _ x1.Txs x2.Txs v5 v10 ((h5.mono hg1).mono hg2) ((h10.mono hg1).mono hg2) _ hx3)) rfl) (by decide) (fun v w a hR hF => ?_)
                  obtain ⟨s4, A4, hg3, hS, hR⟩ := hR
                  obtain ⟨hv3, rfl⟩ := hR; obtain rfl := hv3.symm
                  have hS : St e s4 w [pt g2 162 ([(.int .i64 x2.Lsn), (.int .i64 x2.Tx), (.int .i64 x2.Prev), (.int .i64 x2.Kind), (.int .i64 x2.Oid), (.bool x2.Before.Has), (.int .i64 x2.Before.O.Kind), v6, v7, (.bool x2.After.Has), (.int .i64 x2.After.O.Kind), v8, v9, (.int .i64 x2.Next), v10]), pt g1 162 ([(.int .i64 x1.Lsn), (.int .i64 x1.Tx), (.int .i64 x1.Prev), (.int .i64 x1.Kind), (.int .i64 x1.Oid), (.bool x1.Before.Has), (.int .i64 x1.Before.O.Kind), v1, v2, (.bool x1.After.Has), (.int .i64 x1.After.O.Kind), v3, v4, (.int .i64 x1.Next), v5])] := hS
                  refine stp hF (p_not rfl) (by decide) (fun a hF => ?_)
                  refine nilN ?_
                  refine xn ?_
                  refine cnd hF rfl (fun hc9 => ?_) (fun hc9 => ?_)
                  · replace H := hbt hc9 H
                    refine sq ?_
                    refine rg ?_
                    refine stp hF (p_assign rfl) (by decide) (fun a hF => ?_)
                    refine nilN ?_
                    refine xn ?_
                    refine rt ?_
                    refine xr ?_
                    obtain rfl := hsm H
                    replace hS := hS.sel (is := []) (A' := []) rfl
                    exact ret1 hF rfl rfl hS ⟨rfl, rfl⟩
                  · replace H := hbf hc9 H
                    refine skN ?_
                    refine xn ?_
                    refine sq ?_
                    refine rg ?_
                    refine stp hF (p_assign rfl) (by decide) (fun a hF => ?_)
                    refine nilN ?_
                    refine xn ?_
                    refine rt ?_
                    obtain rfl := hsm H
                    replace hS := hS.sel (is := []) (A' := []) rfl
                    exact ret1 hF rfl rfl hS ⟨rfl, rfl⟩

def laws_eqRecS.c1 (k : Nat) : Option Bool :=
  (some true)
def laws_eqRecS.l1 (x1 : (List TRec)) (x2 : (List TRec)) : Nat → Int → Option (Ex Bool Unit)
  | 0, _ => none
  | k + 1, x3 => (if (decide (x3 < (x1.length : Int))) = true then (if 0 ≤ x3 ∧ x3 < (x1.length : Int) then (if 0 ≤ x3 ∧ x3 < (x2.length : Int) then ((laws_eqRec.f k (rd x1 x3) (rd x2 x3)).bind fun x4 => (if (!x4) = true then (some (Ex.ret false)) else ((laws_eqRecS.l1 x1 x2 k) (w64 (x3 + 1))))) else none) else none) else (some (Ex.go ())))
def laws_eqRecS.f (k : Nat) (x1 : (List TRec)) (x2 : (List TRec)) : Option Bool :=
  (if (decide ((x1.length : Int) ≠ (x2.length : Int))) = true then (some false) else (((laws_eqRecS.l1 x1 x2 k 0) : Option (Ex Bool Unit)).bind fun x5 => Ex.on x5 (fun r => some r) (fun y => laws_eqRecS.c1 k)))
set_option maxRecDepth 100000 in
set_option maxHeartbeats 4000000 in
theorem laws_eqRecS.spec (k : Nat) (s0 : HF) (w : World) (x1 : (List TRec)) (x2 : (List TRec)) (v1 : Value) (v2 : Value) (h1 : Sl kTRec s0 v1 x1) (h2 : Sl kTRec s0 v2 x2) (r : Bool) (H : laws_eqRecS.f k x1 x2 = some r) :
    Law Tryz.prog 128 #[v1, v2] s0 w [] (fun v s1 A1 => v = (.bool r) ∧ A1 = []) := by
  unfold laws_eqRecS.f at H
  refine Law.intro Tryz.func128 rfl [(0, v1), (1, v2)] (Nat.le_of_ble_eq_true rfl) (enter_lk ⟨rfl, rfl, trivial⟩) (fun e a hS hF => ?_)
  have hF : Fr 27 a [(0, v1), (1, v2)] := hF
  refine sq ?_
  refine rg ?_
  refine stp hF (p_assign rfl) (by decide) (fun a hF => ?_)
  refine nilN ?_
  refine xn ?_
  refine sq ?_
  refine sq ?_
  refine rg ?_
  refine stp hF (p_move rfl) (by decide) (fun a hF => ?_)
  refine stp hF (p_lenr un_53 rfl h1) (by decide) (fun a hF => ?_)
  refine stp hF (p_move rfl) (by decide) (fun a hF => ?_)
  refine stp hF (p_lenr un_53 rfl h2) (by decide) (fun a hF => ?_)
  refine stp hF (p_neq rfl rfl) (by decide) (fun a hF => ?_)
  refine nilN ?_
  refine xn ?_
  refine cnd hF rfl (fun hc1 => ?_) (fun hc1 => ?_)
  · replace H := hbt hc1 H
    refine sq ?_
    refine rg ?_
    refine stp hF (p_assign rfl) (by decide) (fun a hF => ?_)
    refine nilN ?_
    refine xn ?_
    refine rt ?_
    refine xr ?_
    obtain rfl := hsm H
    exact ret1 hF rfl rfl hS ⟨rfl, rfl⟩
  · replace H := hbf hc1 H
    refine skN ?_
    refine xn ?_
    obtain ⟨x5, H, HK1⟩ := hb H
    refine sqj (fun a w => ∃ (s2 : HF) , St e s2 w [] ∧ Fr 27 a [] ∧ Sub s0 s2 ∧ laws_eqRecS.c1 k = some r) ?_ ?_
    · skip
      refine sq ?_
      refine rg ?_
      refine stp hF (p_assign rfl) (by decide) (fun a hF => ?_)
      refine nilN ?_
      refine xn ?_
      refine blk ?_
      refine loop_ind (fun k1 a w => ∃ (x3 : Int) (s3 : HF) , St e s3 w [] ∧ Fr 27 a [(0, v1), (1, v2), (5, (.int .i64 x3))] ∧ Sub s0 s3 ∧ laws_eqRecS.l1 x1 x2 k1 x3 = some x5) k ?_ ?_ ?_
      · skip
        exact ⟨0, s0, hS, hF.cut ⟨rfl, rfl, rfl, trivial⟩, (Sub.refl _), H⟩
      · clear H hS hF
        rintro a w ⟨x3, s3, hS, hF, hg1, H⟩
        exact absurd (show none = some _ from H) (by simp)
      · clear H hS hF
        rintro k1 a w ⟨x3, s3, hS, hF, hg1, H⟩
        rw [laws_eqRecS.l1.eq_2] at H
        refine sq ?_
        refine sq ?_
        refine rg ?_
        refine stp hF (p_move rfl) (by decide) (fun a hF => ?_)
        refine stp hF (p_move rfl) (by decide) (fun a hF => ?_)
        refine stp hF (p_lenr un_53 rfl (h1.mono hg1)) (by decide) (fun a hF => ?_)
        refine stp hF (p_lss rfl rfl) (by decide) (fun a hF => ?_)
        refine nilN ?_
        refine xn ?_
        refine cnd hF rfl (fun hc2 => ?_) (fun hc2 => ?_)
        · replace H := hbt hc2 H
          refine skN ?_
          refine xn ?_
          refine sq ?_
          refine blk ?_
          refine sq ?_
          replace hS : St e s3 w.drew [] := hS.drewN 1
          refine drw [0, 1, 2, 3, 4, 5, 6, 7, 8, 9] mixed (by kernel_rfl) (by decide) (hF.cut (L' := [(0, v1), (1, v2), (5, (.int .i64 x3)), (11, (.int .i64 x3)), (12, v1), (13, (.int .i64 (x1.length : Int))), (14, (.bool (decide (x3 < (x1.length : Int)))))]) ⟨rfl, rfl, rfl, rfl, rfl, rfl, rfl, trivial⟩) ?_
          clear hF
          generalize w.drew = w at hS ⊢
          refine pk1 rfl (by decide) rfl (by kernel_rfl) rfl (p_move rfl) ?_
          refine pk1 rfl (by decide) rfl (by kernel_rfl) rfl (p_move rfl) ?_
          obtain ⟨hq1, H⟩ := hck H
          obtain ⟨ad1, h3, p1⟩ := p_idxr (P := Tryz.prog) (i := x3) (h1.mono hg1) un_53 ti_162 hq1.1 hq1.2
          refine pk1 rfl (by decide) rfl (by kernel_rfl) rfl (p1 rfl rfl) ?_
          obtain ⟨c2, h4, p2⟩ := p_ldr_agg (P := Tryz.prog) h3 ia_162 ti_162
          obtain ⟨v3, v4, v5, v6, v7, rfl, h5, h6, h7, h8, h9⟩ := kTRec_open h4
          refine pk1 rfl (by decide) rfl (by kernel_rfl) rfl (p2 rfl hS.ro) ?_
          refine pk1 rfl (by decide) rfl (by kernel_rfl) rfl (p_move rfl) ?_
          refine pk1 rfl (by decide) rfl (by kernel_rfl) rfl (p_move rfl) ?_
          obtain ⟨hq2, H⟩ := hck H
          obtain ⟨ad2, h10, p3⟩ := p_idxr (P := Tryz.prog) (i := x3) (h2.mono hg1) un_53 ti_162 hq2.1 hq2.2
          refine pk1 rfl (by decide) rfl (by kernel_rfl) rfl (p3 rfl rfl) ?_
          obtain ⟨c3, h11, p4⟩ := p_ldr_agg (P := Tryz.prog) h10 ia_162 ti_162
          obtain ⟨v8, v9, v10, v11, v12, rfl, h12, h13, h14, h15, h16⟩ := kTRec_open h11
          refine pk1 rfl (by decide) rfl (by kernel_rfl) rfl (p4 rfl hS.ro) ?_
          obtain ⟨x4, hx1, H⟩ := hb H
          refine pkE [6, 5, 4, 2, 1, 0] rfl (by decide) (by kernel_rfl) (by kernel_rfl) (e_callA (fst := []) (vs := [(.agg #[(.int .i64 ((rd x1 x3).Lsn)), (.int .i64 ((rd x1 x3).Tx)), (.int .i64 ((rd x1 x3).Prev)), (.int .i64 ((rd x1 x3).Kind)), (.int .i64 ((rd x1 x3).Oid)), (.bool (((rd x1 x3).Before).Has)), (.int .i64 ((((rd x1 x3).Before).O).Kind)), v3, v4, (.bool (((rd x1 x3).After).Has)), (.int .i64 ((((rd x1 x3).After).O).Kind)), v5, v6, (.int .i64 ((rd x1 x3).Next)), v7]), (.agg #[(.int .i64 ((rd x2 x3).Lsn)), (.int .i64 ((rd x2 x3).Tx)), (.int .i64 ((rd x2 x3).Prev)), (.int .i64 ((rd x2 x3).Kind)), (.int .i64 ((rd x2 x3).Oid)), (.bool (((rd x2 x3).Before).Has)), (.int .i64 ((((rd x2 x3).Before).O).Kind)), v8, v9, (.bool (((rd x2 x3).After).Has)), (.int .i64 ((((rd x2 x3).After).O).Kind)), v10, v11, (.int .i64 ((rd x2 x3).Next)), v12])]) (cap := []) rfl rfl go_211 (St.call (A := []) (B := []) hS (laws_eqRec.spec k1 _ _ (rd x1 x3) (rd x2 x3) v3 v4 v5 v6 v7 v8 v9 v10 v11 v12 h5 h6 h7 h8 h9 h12 h13 h14 h15 h16 _ hx1)) rfl) ?_
          intro v w hR
          obtain ⟨s4, A2, hg2, hS, hR⟩ := hR
          obtain ⟨hv1, rfl⟩ := hR; obtain rfl := hv1.symm
          have hS : St e s4 w [] := hS
          refine ⟨⟨knw rfl rfl rfl (p3 rfl rfl), ⟨knw rfl rfl rfl (p_move rfl), ⟨knw rfl rfl rfl (p_move rfl), ⟨knw rfl rfl rfl (p1 rfl rfl), ⟨knw rfl rfl rfl (p_move rfl), ⟨knw rfl rfl rfl (p_move rfl), trivial⟩⟩⟩⟩⟩⟩, ?_⟩
          refine pk1 rfl (by decide) rfl (by kernel_rfl) rfl (p_not rfl) ?_
          refine pkF (fun a hF => ?_)
          refine xn ?_
          refine cnd hF rfl (fun hc3 => ?_) (fun hc3 => ?_)
          · replace H := hbt hc3 H
            refine sq ?_
            refine rg ?_
            refine stp hF (p_assign rfl) (by decide) (fun a hF => ?_)
            refine nilN ?_
            refine xn ?_
            refine rt ?_
            refine br (xr (xr (br (xr ?_))))
            obtain rfl := hsm H
            have H := hon1 HK1
            obtain rfl := hsm H
            exact ret1 hF rfl rfl hS ⟨rfl, rfl⟩
          · replace H := hbf hc3 H
            refine skN ?_
            refine bn (xn ?_)
            refine rg ?_
            refine stp hF (p_move rfl) (by decide) (fun a hF => ?_)
            refine stp hF (p_add (c := w64 (x3 + 1)) rfl rfl rfl) (by decide) (fun a hF => ?_)
            refine stp hF (p_assign rfl) (by decide) (fun a hF => ?_)
            refine nilN ?_
            refine xn ?_
            exact ⟨(w64 (x3 + 1)), s4, hS, hF.cut ⟨rfl, rfl, rfl, trivial⟩, (hg1.trans hg2), H⟩
        · replace H := hbf hc2 H
          refine exi ?_
          refine xe (xe (hit (xn ?_)))
          obtain rfl := hsm H
          exact ⟨s3, hS, hF.cut trivial, hg1, HK1⟩
    · clear H HK1 hS hF
      rintro a w ⟨s2, hS, hF, hg3, H⟩
      unfold laws_eqRecS.c1 at H
      refine sq ?_
      refine rg ?_
      refine stp hF (p_assign rfl) (by decide) (fun a hF => ?_)
      refine nilN ?_
      refine xn ?_
      refine rt ?_
      obtain rfl := hsm H
      exact ret1 hF rfl rfl hS ⟨rfl, rfl⟩

def laws_eqLog.f (k : Nat) (x1 : TLog) (x2 : TLog) : Option Bool :=
  ((laws_eqRecS.f k x1.Recs x2.Recs).bind fun x3 => (if (!x3) = true then (some false) else (if (decide (x1.Sure ≠ x2.Sure)) = true then (some false) else (some true))))
set_option maxRecDepth 100000 in
set_option maxHeartbeats 4000000 in
theorem laws_eqLog.spec (k : Nat) (s0 : HF) (w : World) (x1 : TLog) (x2 : TLog) (v1 : Value) (v2 : Value) (h1 : Sl kTRec s0 v1 x1.Recs) (h2 : Sl kTRec s0 v2 x2.Recs) (r : Bool) (H : laws_eqLog.f k x1 x2 = some r) :
    Law Tryz.prog 53 #[(.agg #[v1, (.int .i64 x1.Sure)]), (.agg #[v2, (.int .i64 x2.Sure)])] s0 w [] (fun v s1 A1 => v = (.bool r) ∧ A1 = []) := by
  unfold laws_eqLog.f at H
  refine Law.intro Tryz.func53 rfl [(0, (.agg #[v1, (.int .i64 x1.Sure)])), (1, (.agg #[v2, (.int .i64 x2.Sure)]))] (Nat.le_of_ble_eq_true rfl) (enter_lk ⟨rfl, rfl, trivial⟩) (fun e a hS hF => ?_)
  have hF : Fr 16 a [(0, (.agg #[v1, (.int .i64 x1.Sure)])), (1, (.agg #[v2, (.int .i64 x2.Sure)]))] := hF
  refine sq ?_
  refine rg ?_
  refine ste hF (e_box (cs := [v1, (.int .i64 x1.Sure)]) hS rfl rfl) (by decide) (fun v w a hR hF => ?_)
  obtain ⟨g1, rfl, hS⟩ := hR
  refine ste hF (e_box (cs := [v2, (.int .i64 x2.Sure)]) hS rfl rfl) (by decide) (fun v w a hR hF => ?_)
  obtain ⟨g2, rfl, hS⟩ := hR
  refine stp hF (p_assign rfl) (by decide) (fun a hF => ?_)
  refine nilN ?_
  refine xn ?_
  refine sq ?_
  refine sq ?_
  refine rg ?_
  refine stp hF (p_fldb (o' := 0) rfl fi_55_0 rfl) (by decide) (fun a hF => ?_)
  refine stp hF (p_ldb_one (i := 1) hS rfl rfl ia_53 rfl) (by decide) (fun a hF => ?_)
  refine stp hF (p_fldb (o' := 0) rfl fi_55_0 rfl) (by decide) (fun a hF => ?_)
  refine stp hF (p_ldb_one (i := 0) hS rfl rfl ia_53 rfl) (by decide) (fun a hF => ?_)
  obtain ⟨x3, hx1, H⟩ := hb H
  refine ste hF (e_callA (fst := []) (vs := [v1, v2]) (cap := []) rfl rfl go_128 (St.call (A := []) (B := [pt g2 55 ([v2, (.int .i64 x2.Sure)]), pt g1 55 ([v1, (.int .i64 x1.Sure)])]) hS (laws_eqRecS.spec k _ _ x1.Recs x2.Recs v1 v2 h1 h2 _ hx1)) rfl) (by decide) (fun v w a hR hF => ?_)
  obtain ⟨s2, A2, hg1, hS, hR⟩ := hR
  obtain ⟨hv1, rfl⟩ := hR; obtain rfl := hv1.symm
  have hS : St e s2 w [pt g2 55 ([v2, (.int .i64 x2.Sure)]), pt g1 55 ([v1, (.int .i64 x1.Sure)])] := hS
  refine stp hF (p_not rfl) (by decide) (fun a hF => ?_)
  refine nilN ?_
  refine xn ?_
  refine cnd hF rfl (fun hc1 => ?_) (fun hc1 => ?_)
  · replace H := hbt hc1 H
    refine sq ?_
    refine rg ?_
    refine stp hF (p_assign rfl) (by decide) (fun a hF => ?_)
    refine nilN ?_
    refine xn ?_
    refine rt ?_
    refine xr ?_
    obtain rfl := hsm H
    replace hS := hS.sel (is := []) (A' := []) rfl
    exact ret1 hF rfl rfl hS ⟨rfl, rfl⟩
  · replace H := hbf hc1 H
    refine skN ?_
    refine xn ?_
    refine sq ?_
    refine sq ?_
    refine rg ?_
    refine stp hF (p_fldb (o' := 1) rfl fi_55_1 rfl) (by decide) (fun a hF => ?_)
    refine stp hF (p_ldb_one (i := 1) hS rfl rfl ia_3 rfl) (by decide) (fun a hF => ?_)
    refine stp hF (p_fldb (o' := 1) rfl fi_55_1 rfl) (by decide) (fun a hF => ?_)
    refine stp hF (p_ldb_one (i := 0) hS rfl rfl ia_3 rfl) (by decide) (fun a hF => ?_)
    refine stp hF (p_neq rfl rfl) (by decide) (fun a hF => ?_)
    refine nilN ?_
    refine xn ?_
    refine cnd hF rfl (fun hc2 => ?_) (fun hc2 => ?_)
    · replace H := hbt hc2 H
      refine sq ?_
      refine rg ?_
      refine stp hF (p_assign rfl) (by decide) (fun a hF => ?_)
      refine nilN ?_
      refine xn ?_
      refine rt ?_
      refine xr ?_
      obtain rfl := hsm H
      replace hS := hS.sel (is := []) (A' := []) rfl
      exact ret1 hF rfl rfl hS ⟨rfl, rfl⟩
    · replace H := hbf hc2 H
      refine skN ?_
      refine xn ?_
      refine sq ?_
      refine rg ?_
      refine stp hF (p_assign rfl) (by decide) (fun a hF => ?_)
      refine nilN ?_
      refine xn ?_
      refine rt ?_
      obtain rfl := hsm H
      replace hS := hS.sel (is := []) (A' := []) rfl
      exact ret1 hF rfl rfl hS ⟨rfl, rfl⟩

def laws_eqHold.f (k : Nat) (x1 : THold) (x2 : THold) : Option Bool :=
  (if (decide (x1.Tx ≠ x2.Tx)) = true then (some false) else (if (decide (x1.Oid ≠ x2.Oid)) = true then (some false) else (some true)))
set_option maxRecDepth 100000 in
set_option maxHeartbeats 4000000 in
theorem laws_eqHold.spec (k : Nat) (s0 : HF) (w : World) (x1 : THold) (x2 : THold) (r : Bool) (H : laws_eqHold.f k x1 x2 = some r) :
    Law Tryz.prog 130 #[(.agg #[(.int .i64 x1.Tx), (.int .i64 x1.Oid)]), (.agg #[(.int .i64 x2.Tx), (.int .i64 x2.Oid)])] s0 w [] (fun v s1 A1 => v = (.bool r) ∧ A1 = []) := by
  unfold laws_eqHold.f at H
  refine Law.intro Tryz.func130 rfl [(0, (.agg #[(.int .i64 x1.Tx), (.int .i64 x1.Oid)])), (1, (.agg #[(.int .i64 x2.Tx), (.int .i64 x2.Oid)]))] (Nat.le_of_ble_eq_true rfl) (enter_lk ⟨rfl, rfl, trivial⟩) (fun e a hS hF => ?_)
  have hF : Fr 15 a [(0, (.agg #[(.int .i64 x1.Tx), (.int .i64 x1.Oid)])), (1, (.agg #[(.int .i64 x2.Tx), (.int .i64 x2.Oid)]))] := hF
  refine sq ?_
  refine rg ?_
  refine ste hF (e_box (cs := [(.int .i64 x1.Tx), (.int .i64 x1.Oid)]) hS rfl rfl) (by decide) (fun v w a hR hF => ?_)
  obtain ⟨g1, rfl, hS⟩ := hR
  refine ste hF (e_box (cs := [(.int .i64 x2.Tx), (.int .i64 x2.Oid)]) hS rfl rfl) (by decide) (fun v w a hR hF => ?_)
  obtain ⟨g2, rfl, hS⟩ := hR
  refine stp hF (p_assign rfl) (by decide) (fun a hF => ?_)
  refine nilN ?_
  refine xn ?_
  refine sq ?_
  refine sq ?_
  refine rg ?_
  refine stp hF (p_fldb (o' := 0) rfl fi_141_0 rfl) (by decide) (fun a hF => ?_)
  refine stp hF (p_ldb_one (i := 1) hS rfl rfl ia_3 rfl) (by decide) (fun a hF => ?_)
  refine stp hF (p_fldb (o' := 0) rfl fi_141_0 rfl) (by decide) (fun a hF => ?_)
  refine stp hF (p_ldb_one (i := 0) hS rfl rfl ia_3 rfl) (by decide) (fun a hF => ?_)
  refine stp hF (p_neq rfl rfl) (by decide) (fun a hF => ?_)
  refine nilN ?_
  refine xn ?_
  refine cnd hF rfl (fun hc1 => ?_) (fun hc1 => ?_)
  · replace H := hbt hc1 H
    refine sq ?_
    refine rg ?_
    refine stp hF (p_assign rfl) (by decide) (fun a hF => ?_)
    refine nilN ?_
    refine xn ?_
    refine rt ?_
    refine xr ?_
    obtain rfl := hsm H
    replace hS := hS.sel (is := []) (A' := []) rfl
    exact ret1 hF rfl rfl hS ⟨rfl, rfl⟩
  · replace H := hbf hc1 H
    refine skN ?_
    refine xn ?_
    refine sq ?_
    refine sq ?_
    refine rg ?_
    refine stp hF (p_fldb (o' := 1) rfl fi_141_1 rfl) (by decide) (fun a hF => ?_)
    refine stp hF (p_ldb_one (i := 1) hS rfl rfl ia_3 rfl) (by decide) (fun a hF => ?_)
    refine stp hF (p_fldb (o' := 1) rfl fi_141_1 rfl) (by decide) (fun a hF => ?_)
    refine stp hF (p_ldb_one (i := 0) hS rfl rfl ia_3 rfl) (by decide) (fun a hF => ?_)
    refine stp hF (p_neq rfl rfl) (by decide) (fun a hF => ?_)
    refine nilN ?_
    refine xn ?_
    refine cnd hF rfl (fun hc2 => ?_) (fun hc2 => ?_)
    · replace H := hbt hc2 H
      refine sq ?_
      refine rg ?_
      refine stp hF (p_assign rfl) (by decide) (fun a hF => ?_)
      refine nilN ?_
      refine xn ?_
      refine rt ?_
      refine xr ?_
      obtain rfl := hsm H
      replace hS := hS.sel (is := []) (A' := []) rfl
      exact ret1 hF rfl rfl hS ⟨rfl, rfl⟩
    · replace H := hbf hc2 H
      refine skN ?_
      refine xn ?_
      refine sq ?_
      refine rg ?_
      refine stp hF (p_assign rfl) (by decide) (fun a hF => ?_)
      refine nilN ?_
      refine xn ?_
      refine rt ?_
      obtain rfl := hsm H
      replace hS := hS.sel (is := []) (A' := []) rfl
      exact ret1 hF rfl rfl hS ⟨rfl, rfl⟩

def laws_eqHoldS.c1 (k : Nat) : Option Bool :=
  (some true)
def laws_eqHoldS.l1 (x1 : (List THold)) (x2 : (List THold)) : Nat → Int → Option (Ex Bool Unit)
  | 0, _ => none
  | k + 1, x3 => (if (decide (x3 < (x1.length : Int))) = true then (if 0 ≤ x3 ∧ x3 < (x1.length : Int) then (if 0 ≤ x3 ∧ x3 < (x2.length : Int) then ((laws_eqHold.f k (rd x1 x3) (rd x2 x3)).bind fun x4 => (if (!x4) = true then (some (Ex.ret false)) else ((laws_eqHoldS.l1 x1 x2 k) (w64 (x3 + 1))))) else none) else none) else (some (Ex.go ())))
def laws_eqHoldS.f (k : Nat) (x1 : (List THold)) (x2 : (List THold)) : Option Bool :=
  (if (decide ((x1.length : Int) ≠ (x2.length : Int))) = true then (some false) else (((laws_eqHoldS.l1 x1 x2 k 0) : Option (Ex Bool Unit)).bind fun x5 => Ex.on x5 (fun r => some r) (fun y => laws_eqHoldS.c1 k)))
set_option maxRecDepth 100000 in
set_option maxHeartbeats 4000000 in
theorem laws_eqHoldS.spec (k : Nat) (s0 : HF) (w : World) (x1 : (List THold)) (x2 : (List THold)) (v1 : Value) (v2 : Value) (h1 : Sl kTHold s0 v1 x1) (h2 : Sl kTHold s0 v2 x2) (r : Bool) (H : laws_eqHoldS.f k x1 x2 = some r) :
    Law Tryz.prog 55 #[v1, v2] s0 w [] (fun v s1 A1 => v = (.bool r) ∧ A1 = []) := by
  unfold laws_eqHoldS.f at H
  refine Law.intro Tryz.func55 rfl [(0, v1), (1, v2)] (Nat.le_of_ble_eq_true rfl) (enter_lk ⟨rfl, rfl, trivial⟩) (fun e a hS hF => ?_)
  have hF : Fr 27 a [(0, v1), (1, v2)] := hF
  refine sq ?_
  refine rg ?_
  refine stp hF (p_assign rfl) (by decide) (fun a hF => ?_)
  refine nilN ?_
  refine xn ?_
  refine sq ?_
  refine sq ?_
  refine rg ?_
  refine stp hF (p_move rfl) (by decide) (fun a hF => ?_)
  refine stp hF (p_lenr un_57 rfl h1) (by decide) (fun a hF => ?_)
  refine stp hF (p_move rfl) (by decide) (fun a hF => ?_)
  refine stp hF (p_lenr un_57 rfl h2) (by decide) (fun a hF => ?_)
  refine stp hF (p_neq rfl rfl) (by decide) (fun a hF => ?_)
  refine nilN ?_
  refine xn ?_
  refine cnd hF rfl (fun hc1 => ?_) (fun hc1 => ?_)
  · replace H := hbt hc1 H
    refine sq ?_
    refine rg ?_
    refine stp hF (p_assign rfl) (by decide) (fun a hF => ?_)
    refine nilN ?_
    refine xn ?_
    refine rt ?_
    refine xr ?_
    obtain rfl := hsm H
    exact ret1 hF rfl rfl hS ⟨rfl, rfl⟩
  · replace H := hbf hc1 H
    refine skN ?_
    refine xn ?_
    obtain ⟨x5, H, HK1⟩ := hb H
    refine sqj (fun a w => ∃ (s2 : HF) , St e s2 w [] ∧ Fr 27 a [] ∧ Sub s0 s2 ∧ laws_eqHoldS.c1 k = some r) ?_ ?_
    · skip
      refine sq ?_
      refine rg ?_
      refine stp hF (p_assign rfl) (by decide) (fun a hF => ?_)
      refine nilN ?_
      refine xn ?_
      refine blk ?_
      refine loop_ind (fun k1 a w => ∃ (x3 : Int) (s3 : HF) , St e s3 w [] ∧ Fr 27 a [(0, v1), (1, v2), (5, (.int .i64 x3))] ∧ Sub s0 s3 ∧ laws_eqHoldS.l1 x1 x2 k1 x3 = some x5) k ?_ ?_ ?_
      · skip
        exact ⟨0, s0, hS, hF.cut ⟨rfl, rfl, rfl, trivial⟩, (Sub.refl _), H⟩
      · clear H hS hF
        rintro a w ⟨x3, s3, hS, hF, hg1, H⟩
        exact absurd (show none = some _ from H) (by simp)
      · clear H hS hF
        rintro k1 a w ⟨x3, s3, hS, hF, hg1, H⟩
        rw [laws_eqHoldS.l1.eq_2] at H
        refine sq ?_
        refine sq ?_
        refine rg ?_
        refine stp hF (p_move rfl) (by decide) (fun a hF => ?_)
        refine stp hF (p_move rfl) (by decide) (fun a hF => ?_)
        refine stp hF (p_lenr un_57 rfl (h1.mono hg1)) (by decide) (fun a hF => ?_)
        refine stp hF (p_lss rfl rfl) (by decide) (fun a hF => ?_)
        refine nilN ?_
        refine xn ?_
        refine cnd hF rfl (fun hc2 => ?_) (fun hc2 => ?_)
        · replace H := hbt hc2 H
          refine skN ?_
          refine xn ?_
          refine sq ?_
          refine blk ?_
          refine sq ?_
          replace hS : St e s3 w.drew [] := hS.drewN 1
          refine drw [0, 1, 2, 3, 4, 5, 6, 7, 8, 9] mixed (by kernel_rfl) (by decide) (hF.cut (L' := [(0, v1), (1, v2), (5, (.int .i64 x3)), (11, (.int .i64 x3)), (12, v1), (13, (.int .i64 (x1.length : Int))), (14, (.bool (decide (x3 < (x1.length : Int)))))]) ⟨rfl, rfl, rfl, rfl, rfl, rfl, rfl, trivial⟩) ?_
          clear hF
          generalize w.drew = w at hS ⊢
          refine pk1 rfl (by decide) rfl (by kernel_rfl) rfl (p_move rfl) ?_
          refine pk1 rfl (by decide) rfl (by kernel_rfl) rfl (p_move rfl) ?_
          obtain ⟨hq1, H⟩ := hck H
          obtain ⟨ad1, h3, p1⟩ := p_idxr (P := Tryz.prog) (i := x3) (h1.mono hg1) un_57 ti_141 hq1.1 hq1.2
          refine pk1 rfl (by decide) rfl (by kernel_rfl) rfl (p1 rfl rfl) ?_
          obtain ⟨c2, h4, p2⟩ := p_ldr_agg (P := Tryz.prog) h3 ia_141 ti_141
          obtain rfl := kTHold_open h4
          refine pk1 rfl (by decide) rfl (by kernel_rfl) rfl (p2 rfl hS.ro) ?_
          refine pk1 rfl (by decide) rfl (by kernel_rfl) rfl (p_move rfl) ?_
          refine pk1 rfl (by decide) rfl (by kernel_rfl) rfl (p_move rfl) ?_
          obtain ⟨hq2, H⟩ := hck H
          obtain ⟨ad2, h5, p3⟩ := p_idxr (P := Tryz.prog) (i := x3) (h2.mono hg1) un_57 ti_141 hq2.1 hq2.2
          refine pk1 rfl (by decide) rfl (by kernel_rfl) rfl (p3 rfl rfl) ?_
          obtain ⟨c3, h6, p4⟩ := p_ldr_agg (P := Tryz.prog) h5 ia_141 ti_141
          obtain rfl := kTHold_open h6
          refine pk1 rfl (by decide) rfl (by kernel_rfl) rfl (p4 rfl hS.ro) ?_
          obtain ⟨x4, hx1, H⟩ := hb H
          refine pkE [6, 5, 4, 2, 1, 0] rfl (by decide) (by kernel_rfl) (by kernel_rfl) (e_callA (fst := []) (vs := [(.agg #[(.int .i64 ((rd x1 x3).Tx)), (.int .i64 ((rd x1 x3).Oid))]), (.agg #[(.int .i64 ((rd x2 x3).Tx)), (.int .i64 ((rd x2 x3).Oid))])]) (cap := []) rfl rfl go_130 (St.call (A := []) (B := []) hS (laws_eqHold.spec k1 _ _ (rd x1 x3) (rd x2 x3) _ hx1)) rfl) ?_
          intro v w hR
          obtain ⟨s4, A2, hg2, hS, hR⟩ := hR
          obtain ⟨hv1, rfl⟩ := hR; obtain rfl := hv1.symm
          have hS : St e s4 w [] := hS
          refine ⟨⟨knw rfl rfl rfl (p3 rfl rfl), ⟨knw rfl rfl rfl (p_move rfl), ⟨knw rfl rfl rfl (p_move rfl), ⟨knw rfl rfl rfl (p1 rfl rfl), ⟨knw rfl rfl rfl (p_move rfl), ⟨knw rfl rfl rfl (p_move rfl), trivial⟩⟩⟩⟩⟩⟩, ?_⟩
          refine pk1 rfl (by decide) rfl (by kernel_rfl) rfl (p_not rfl) ?_
          refine pkF (fun a hF => ?_)
          refine xn ?_
          refine cnd hF rfl (fun hc3 => ?_) (fun hc3 => ?_)
          · replace H := hbt hc3 H
            refine sq ?_
            refine rg ?_
            refine stp hF (p_assign rfl) (by decide) (fun a hF => ?_)
            refine nilN ?_
            refine xn ?_
            refine rt ?_
            refine br (xr (xr (br (xr ?_))))
            obtain rfl := hsm H
            have H := hon1 HK1
            obtain rfl := hsm H
            exact ret1 hF rfl rfl hS ⟨rfl, rfl⟩
          · replace H := hbf hc3 H
            refine skN ?_
            refine bn (xn ?_)
            refine rg ?_
            refine stp hF (p_move rfl) (by decide) (fun a hF => ?_)
            refine stp hF (p_add (c := w64 (x3 + 1)) rfl rfl rfl) (by decide) (fun a hF => ?_)
            refine stp hF (p_assign rfl) (by decide) (fun a hF => ?_)
            refine nilN ?_
            refine xn ?_
            exact ⟨(w64 (x3 + 1)), s4, hS, hF.cut ⟨rfl, rfl, rfl, trivial⟩, (hg1.trans hg2), H⟩
        · replace H := hbf hc2 H
          refine exi ?_
          refine xe (xe (hit (xn ?_)))
          obtain rfl := hsm H
          exact ⟨s3, hS, hF.cut trivial, hg1, HK1⟩
    · clear H HK1 hS hF
      rintro a w ⟨s2, hS, hF, hg3, H⟩
      unfold laws_eqHoldS.c1 at H
      refine sq ?_
      refine rg ?_
      refine stp hF (p_assign rfl) (by decide) (fun a hF => ?_)
      refine nilN ?_
      refine xn ?_
      refine rt ?_
      obtain rfl := hsm H
      exact ret1 hF rfl rfl hS ⟨rfl, rfl⟩

def laws_eqEngine.f (k : Nat) (x1 : TEngine) (x2 : TEngine) : Option Bool :=
  ((laws_eqPageA8.f k x1.Disk x2.Disk).bind fun x3 => (if (!x3) = true then (some false) else ((laws_eqPool.f k x1.Pool x2.Pool).bind fun x4 => (if (!x4) = true then (some false) else ((laws_eqLog.f k x1.Log x2.Log).bind fun x5 => (if (!x5) = true then (some false) else ((laws_eqLiveS.f k x1.Txs x2.Txs).bind fun x6 => (if (!x6) = true then (some false) else ((laws_eqHoldS.f k x1.Holds x2.Holds).bind fun x7 => (if (!x7) = true then (some false) else (if (decide (x1.Next ≠ x2.Next)) = true then (some false) else (if (x1.Down != x2.Down) = true then (some false) else (some true)))))))))))))
set_option maxRecDepth 100000 in
set_option maxHeartbeats 4000000 in
theorem laws_eqEngine.spec (k : Nat) (s0 : HF) (w : World) (x1 : TEngine) (x2 : TEngine) (c1 : List Value) (v1 : Value) (v2 : Value) (v3 : Value) (v4 : Value) (c2 : List Value) (v5 : Value) (v6 : Value) (v7 : Value) (v8 : Value) (h1 : ((Kd.arr 8 kTPage)).K s0 x1.Disk c1) (h2 : Sl kTSeat s0 v1 x1.Pool.Seats) (h3 : Sl kTRec s0 v2 x1.Log.Recs) (h4 : Sl kTLive s0 v3 x1.Txs) (h5 : Sl kTHold s0 v4 x1.Holds) (h6 : ((Kd.arr 8 kTPage)).K s0 x2.Disk c2) (h7 : Sl kTSeat s0 v5 x2.Pool.Seats) (h8 : Sl kTRec s0 v6 x2.Log.Recs) (h9 : Sl kTLive s0 v7 x2.Txs) (h10 : Sl kTHold s0 v8 x2.Holds) (r : Bool) (H : laws_eqEngine.f k x1 x2 = some r) :
    Law Tryz.prog 11 #[(.agg (c1 ++ [v1, (.int .i64 x1.Pool.Hand), v2, (.int .i64 x1.Log.Sure), v3, v4, (.int .i64 x1.Next), (.bool x1.Down)] : List Value).toArray), (.agg (c2 ++ [v5, (.int .i64 x2.Pool.Hand), v6, (.int .i64 x2.Log.Sure), v7, v8, (.int .i64 x2.Next), (.bool x2.Down)] : List Value).toArray)] s0 w [] (fun v s1 A1 => v = (.bool r) ∧ A1 = []) := by
  unfold laws_eqEngine.f at H
  refine Law.intro Tryz.func11 rfl [(0, (.agg (c1 ++ [v1, (.int .i64 x1.Pool.Hand), v2, (.int .i64 x1.Log.Sure), v3, v4, (.int .i64 x1.Next), (.bool x1.Down)] : List Value).toArray)), (1, (.agg (c2 ++ [v5, (.int .i64 x2.Pool.Hand), v6, (.int .i64 x2.Log.Sure), v7, v8, (.int .i64 x2.Next), (.bool x2.Down)] : List Value).toArray))] (Nat.le_of_ble_eq_true rfl) (enter_lk ⟨rfl, rfl, trivial⟩) (fun e a hS hF => ?_)
  have hF : Fr 45 a [(0, (.agg (c1 ++ [v1, (.int .i64 x1.Pool.Hand), v2, (.int .i64 x1.Log.Sure), v3, v4, (.int .i64 x1.Next), (.bool x1.Down)] : List Value).toArray)), (1, (.agg (c2 ++ [v5, (.int .i64 x2.Pool.Hand), v6, (.int .i64 x2.Log.Sure), v7, v8, (.int .i64 x2.Next), (.bool x2.Down)] : List Value).toArray))] := hF
  refine sq ?_
  refine rg ?_
  refine ste hF (e_box (cs := c1 ++ [v1, (.int .i64 x1.Pool.Hand), v2, (.int .i64 x1.Log.Sure), v3, v4, (.int .i64 x1.Next), (.bool x1.Down)]) hS rfl rfl) (by decide) (fun v w a hR hF => ?_)
  obtain ⟨g1, rfl, hS⟩ := hR
  refine ste hF (e_box (cs := c2 ++ [v5, (.int .i64 x2.Pool.Hand), v6, (.int .i64 x2.Log.Sure), v7, v8, (.int .i64 x2.Next), (.bool x2.Down)]) hS rfl rfl) (by decide) (fun v w a hR hF => ?_)
  obtain ⟨g2, rfl, hS⟩ := hR
  refine stp hF (p_assign rfl) (by decide) (fun a hF => ?_)
  refine nilN ?_
  refine xn ?_
  refine sq ?_
  refine sq ?_
  refine rg ?_
  refine stp hF (p_fldb (o' := 0) rfl fi_59_0 rfl) (by decide) (fun a hF => ?_)
  refine stp hF (p_ldb_agg (i := 1) (l := []) (m := c1) (r := [v1, (.int .i64 x1.Pool.Hand), v2, (.int .i64 x1.Log.Sure), v3, v4, (.int .i64 x1.Next), (.bool x1.Down)]) hS rfl rfl ia_49 ti_49 (by simp) (by simp [(show c1.length = 136 from Kd.len _ h1)]) (by simp [(show c1.length = 136 from Kd.len _ h1)])) (by decide) (fun a hF => ?_)
  refine stp hF (p_fldb (o' := 0) rfl fi_59_0 rfl) (by decide) (fun a hF => ?_)
  refine stp hF (p_ldb_agg (i := 0) (l := []) (m := c2) (r := [v5, (.int .i64 x2.Pool.Hand), v6, (.int .i64 x2.Log.Sure), v7, v8, (.int .i64 x2.Next), (.bool x2.Down)]) hS rfl rfl ia_49 ti_49 (by simp) (by simp [(show c2.length = 136 from Kd.len _ h6)]) (by simp [(show c2.length = 136 from Kd.len _ h6)])) (by decide) (fun a hF => ?_)
  obtain ⟨x3, hx1, H⟩ := hb H
  refine ste hF (e_callA (fst := []) (vs := [(.agg c1.toArray), (.agg c2.toArray)]) (cap := []) rfl rfl go_51 (St.call (A := []) (B := [pt g2 59 (c2 ++ [v5, (.int .i64 x2.Pool.Hand), v6, (.int .i64 x2.Log.Sure), v7, v8, (.int .i64 x2.Next), (.bool x2.Down)]), pt g1 59 (c1 ++ [v1, (.int .i64 x1.Pool.Hand), v2, (.int .i64 x1.Log.Sure), v3, v4, (.int .i64 x1.Next), (.bool x1.Down)])]) hS (laws_eqPageA8.spec k _ _ x1.Disk x2.Disk c1 c2 h1 h6 _ hx1)) rfl) (by decide) (fun v w a hR hF => ?_)
  obtain ⟨s2, A2, hg1, hS, hR⟩ := hR
  obtain ⟨hv1, rfl⟩ := hR; obtain rfl := hv1.symm
  have hS : St e s2 w [pt g2 59 (c2 ++ [v5, (.int .i64 x2.Pool.Hand), v6, (.int .i64 x2.Log.Sure), v7, v8, (.int .i64 x2.Next), (.bool x2.Down)]), pt g1 59 (c1 ++ [v1, (.int .i64 x1.Pool.Hand), v2, (.int .i64 x1.Log.Sure), v3, v4, (.int .i64 x1.Next), (.bool x1.Down)])] := hS
  refine stp hF (p_not rfl) (by decide) (fun a hF => ?_)
  refine nilN ?_
  refine xn ?_
  refine cnd hF rfl (fun hc1 => ?_) (fun hc1 => ?_)
  · replace H := hbt hc1 H
    refine sq ?_
    refine rg ?_
    refine stp hF (p_assign rfl) (by decide) (fun a hF => ?_)
    refine nilN ?_
    refine xn ?_
    refine rt ?_
    refine xr ?_
    obtain rfl := hsm H
    replace hS := hS.sel (is := []) (A' := []) rfl
    exact ret1 hF rfl rfl hS ⟨rfl, rfl⟩
  · replace H := hbf hc1 H
    refine skN ?_
    refine xn ?_
    refine sq ?_
    refine sq ?_
    refine rg ?_
    refine stp hF (p_fldb (o' := 136) rfl fi_59_1 rfl) (by decide) (fun a hF => ?_)
    refine stp hF (p_ldb_agg (i := 1) (l := c1) (m := [v1, (.int .i64 x1.Pool.Hand)]) (r := [v2, (.int .i64 x1.Log.Sure), v3, v4, (.int .i64 x1.Next), (.bool x1.Down)]) hS rfl rfl ia_52 ti_52 (by simp) (by simp [(show c1.length = 136 from Kd.len _ ((Kd.arr 8 kTPage).mono hg1 h1))]) (by simp [(show c1.length = 136 from Kd.len _ ((Kd.arr 8 kTPage).mono hg1 h1))])) (by decide) (fun a hF => ?_)
    refine stp hF (p_fldb (o' := 136) rfl fi_59_1 rfl) (by decide) (fun a hF => ?_)
    refine stp hF (p_ldb_agg (i := 0) (l := c2) (m := [v5, (.int .i64 x2.Pool.Hand)]) (r := [v6, (.int .i64 x2.Log.Sure), v7, v8, (.int .i64 x2.Next), (.bool x2.Down)]) hS rfl rfl ia_52 ti_52 (by simp) (by simp [(show c2.length = 136 from Kd.len _ ((Kd.arr 8 kTPage).mono hg1 h6))]) (by simp [(show c2.length = 136 from Kd.len _ ((Kd.arr 8 kTPage).mono hg1 h6))])) (by decide) (fun a hF => ?_)
    obtain ⟨x4, hx2, H⟩ := hb H
    refine ste hF (e_callA (fst := []) (vs := [(.agg #[v1, (.int .i64 x1.Pool.Hand)]), (.agg #[v5, (.int .i64 x2.Pool.Hand)])]) (cap := []) rfl rfl go_52 (St.call (A := []) (B := [pt g2 59 (c2 ++ [v5, (.int .i64 x2.Pool.Hand), v6, (.int .i64 x2.Log.Sure), v7, v8, (.int .i64 x2.Next), (.bool x2.Down)]), pt g1 59 (c1 ++ [v1, (.int .i64 x1.Pool.Hand), v2, (.int .i64 x1.Log.Sure), v3, v4, (.int .i64 x1.Next), (.bool x1.Down)])]) hS (laws_eqPool.spec k _ _ x1.Pool x2.Pool v1 v5 (h2.mono hg1) (h7.mono hg1) _ hx2)) rfl) (by decide) (fun v w a hR hF => ?_)
    obtain ⟨s3, A3, hg2, hS, hR⟩ := hR
    obtain ⟨hv2, rfl⟩ := hR; obtain rfl := hv2.symm
    have hS : St e s3 w [pt g2 59 (c2 ++ [v5, (.int .i64 x2.Pool.Hand), v6, (.int .i64 x2.Log.Sure), v7, v8, (.int .i64 x2.Next), (.bool x2.Down)]), pt g1 59 (c1 ++ [v1, (.int .i64 x1.Pool.Hand), v2, (.int .i64 x1.Log.Sure), v3, v4, (.int .i64 x1.Next), (.bool x1.Down)])] := hS
    refine stp hF (p_not rfl) (by decide) (fun a hF => ?_)
    refine nilN ?_
    refine xn ?_
    refine cnd hF rfl (fun hc2 => ?_) (fun hc2 => ?_)
    · replace H := hbt hc2 H
      refine sq ?_
      refine rg ?_
      refine stp hF (p_assign rfl) (by decide) (fun a hF => ?_)
      refine nilN ?_
      refine xn ?_
      refine rt ?_
      refine xr ?_
      obtain rfl := hsm H
      replace hS := hS.sel (is := []) (A' := []) rfl
      exact ret1 hF rfl rfl hS ⟨rfl, rfl⟩
    · replace H := hbf hc2 H
      refine skN ?_
      refine xn ?_
      refine sq ?_
      refine sq ?_
      refine rg ?_
      refine stp hF (p_fldb (o' := 138) rfl fi_59_2 rfl) (by decide) (fun a hF => ?_)
      refine stp hF (p_ldb_agg (i := 1) (l := c1 ++ [v1, (.int .i64 x1.Pool.Hand)]) (m := [v2, (.int .i64 x1.Log.Sure)]) (r := [v3, v4, (.int .i64 x1.Next), (.bool x1.Down)]) hS rfl rfl ia_55 ti_55 (by simp) (by simp [(show c1.length = 136 from Kd.len _ ((Kd.arr 8 kTPage).mono hg2 ((Kd.arr 8 kTPage).mono hg1 h1)))]) (by simp [(show c1.length = 136 from Kd.len _ ((Kd.arr 8 kTPage).mono hg2 ((Kd.arr 8 kTPage).mono hg1 h1)))])) (by decide) (fun a hF => ?_)
      refine stp hF (p_fldb (o' := 138) rfl fi_59_2 rfl) (by decide) (fun a hF => ?_)
      refine stp hF (p_ldb_agg (i := 0) (l := c2 ++ [v5, (.int .i64 x2.Pool.Hand)]) (m := [v6, (.int .i64 x2.Log.Sure)]) (r := [v7, v8, (.int .i64 x2.Next), (.bool x2.Down)]) hS rfl rfl ia_55 ti_55 (by simp) (by simp [(show c2.length = 136 from Kd.len _ ((Kd.arr 8 kTPage).mono hg2 ((Kd.arr 8 kTPage).mono hg1 h6)))]) (by simp [(show c2.length = 136 from Kd.len _ ((Kd.arr 8 kTPage).mono hg2 ((Kd.arr 8 kTPage).mono hg1 h6)))])) (by decide) (fun a hF => ?_)
      obtain ⟨x5, hx3, H⟩ := hb H
      refine ste hF (e_callA (fst := []) (vs := [(.agg #[v2, (.int .i64 x1.Log.Sure)]), (.agg #[v6, (.int .i64 x2.Log.Sure)])]) (cap := []) rfl rfl go_53 (St.call (A := []) (B := [pt g2 59 (c2 ++ [v5, (.int .i64 x2.Pool.Hand), v6, (.int .i64 x2.Log.Sure), v7, v8, (.int .i64 x2.Next), (.bool x2.Down)]), pt g1 59 (c1 ++ [v1, (.int .i64 x1.Pool.Hand), v2, (.int .i64 x1.Log.Sure), v3, v4, (.int .i64 x1.Next), (.bool x1.Down)])]) hS (laws_eqLog.spec k _ _ x1.Log x2.Log v2 v6 ((h3.mono hg1).mono hg2) ((h8.mono hg1).mono hg2) _ hx3)) rfl) (by decide) (fun v w a hR hF => ?_)
      obtain ⟨s4, A4, hg3, hS, hR⟩ := hR
      obtain ⟨hv3, rfl⟩ := hR; obtain rfl := hv3.symm
      have hS : St e s4 w [pt g2 59 (c2 ++ [v5, (.int .i64 x2.Pool.Hand), v6, (.int .i64 x2.Log.Sure), v7, v8, (.int .i64 x2.Next), (.bool x2.Down)]), pt g1 59 (c1 ++ [v1, (.int .i64 x1.Pool.Hand), v2, (.int .i64 x1.Log.Sure), v3, v4, (.int .i64 x1.Next), (.bool x1.Down)])] := hS
      refine stp hF (p_not rfl) (by decide) (fun a hF => ?_)
      refine nilN ?_
      refine xn ?_
      refine cnd hF rfl (fun hc3 => ?_) (fun hc3 => ?_)
      · replace H := hbt hc3 H
        refine sq ?_
        refine rg ?_
        refine stp hF (p_assign rfl) (by decide) (fun a hF => ?_)
        refine nilN ?_
        refine xn ?_
        refine rt ?_
        refine xr ?_
        obtain rfl := hsm H
        replace hS := hS.sel (is := []) (A' := []) rfl
        exact ret1 hF rfl rfl hS ⟨rfl, rfl⟩
      · replace H := hbf hc3 H
        refine skN ?_
        refine xn ?_
        refine sq ?_
        refine sq ?_
        refine rg ?_
        refine stp hF (p_fldb (o' := 140) rfl fi_59_3 rfl) (by decide) (fun a hF => ?_)
        refine stp hF (p_ldb_one (i := 1) (v := v3) hS rfl rfl ia_56 (by simp [(show c1.length = 136 from Kd.len _ ((Kd.arr 8 kTPage).mono hg3 ((Kd.arr 8 kTPage).mono hg2 ((Kd.arr 8 kTPage).mono hg1 h1))))])) (by decide) (fun a hF => ?_)
        refine stp hF (p_fldb (o' := 140) rfl fi_59_3 rfl) (by decide) (fun a hF => ?_)
        refine stp hF (p_ldb_one (i := 0) (v := v7) hS rfl rfl ia_56 (by simp [(show c2.length = 136 from Kd.len _ ((Kd.arr 8 kTPage).mono hg3 ((Kd.arr 8 kTPage).mono hg2 ((Kd.arr 8 kTPage).mono hg1 h6))))])) (by decide) (fun a hF => ?_)
        obtain ⟨x6, hx4, H⟩ := hb H
        refine ste hF (e_callA (fst := []) (vs := [v3, v7]) (cap := []) rfl rfl go_54 (St.call (A := []) (B := [pt g2 59 (c2 ++ [v5, (.int .i64 x2.Pool.Hand), v6, (.int .i64 x2.Log.Sure), v7, v8, (.int .i64 x2.Next), (.bool x2.Down)]), pt g1 59 (c1 ++ [v1, (.int .i64 x1.Pool.Hand), v2, (.int .i64 x1.Log.Sure), v3, v4, (.int .i64 x1.Next), (.bool x1.Down)])]) hS (laws_eqLiveS.spec k _ _ x1.Txs x2.Txs v3 v7 (((h4.mono hg1).mono hg2).mono hg3) (((h9.mono hg1).mono hg2).mono hg3) _ hx4)) rfl) (by decide) (fun v w a hR hF => ?_)
        obtain ⟨s5, A5, hg4, hS, hR⟩ := hR
        obtain ⟨hv4, rfl⟩ := hR; obtain rfl := hv4.symm
        have hS : St e s5 w [pt g2 59 (c2 ++ [v5, (.int .i64 x2.Pool.Hand), v6, (.int .i64 x2.Log.Sure), v7, v8, (.int .i64 x2.Next), (.bool x2.Down)]), pt g1 59 (c1 ++ [v1, (.int .i64 x1.Pool.Hand), v2, (.int .i64 x1.Log.Sure), v3, v4, (.int .i64 x1.Next), (.bool x1.Down)])] := hS
        refine stp hF (p_not rfl) (by decide) (fun a hF => ?_)
        refine nilN ?_
        refine xn ?_
        refine cnd hF rfl (fun hc4 => ?_) (fun hc4 => ?_)
        · replace H := hbt hc4 H
          refine sq ?_
          refine rg ?_
          refine stp hF (p_assign rfl) (by decide) (fun a hF => ?_)
          refine nilN ?_
          refine xn ?_
          refine rt ?_
          refine xr ?_
          obtain rfl := hsm H
          replace hS := hS.sel (is := []) (A' := []) rfl
          exact ret1 hF rfl rfl hS ⟨rfl, rfl⟩
        · replace H := hbf hc4 H
          refine skN ?_
          refine xn ?_
          refine sq ?_
          refine sq ?_
          refine rg ?_
          refine stp hF (p_fldb (o' := 141) rfl fi_59_4 rfl) (by decide) (fun a hF => ?_)
          refine stp hF (p_ldb_one (i := 1) (v := v4) hS rfl rfl ia_57 (by simp [(show c1.length = 136 from Kd.len _ ((Kd.arr 8 kTPage).mono hg4 ((Kd.arr 8 kTPage).mono hg3 ((Kd.arr 8 kTPage).mono hg2 ((Kd.arr 8 kTPage).mono hg1 h1)))))])) (by decide) (fun a hF => ?_)
          refine stp hF (p_fldb (o' := 141) rfl fi_59_4 rfl) (by decide) (fun a hF => ?_)
          refine stp hF (p_ldb_one (i := 0) (v := v8) hS rfl rfl ia_57 (by simp [(show c2.length = 136 from Kd.len _ ((Kd.arr 8 kTPage).mono hg4 ((Kd.arr 8 kTPage).mono hg3 ((Kd.arr 8 kTPage).mono hg2 ((Kd.arr 8 kTPage).mono hg1 h6)))))])) (by decide) (fun a hF => ?_)
          obtain ⟨x7, hx5, H⟩ := hb H
          refine ste hF (e_callA (fst := []) (vs := [v4, v8]) (cap := []) rfl rfl go_55 (St.call (A := []) (B := [pt g2 59 (c2 ++ [v5, (.int .i64 x2.Pool.Hand), v6, (.int .i64 x2.Log.Sure), v7, v8, (.int .i64 x2.Next), (.bool x2.Down)]), pt g1 59 (c1 ++ [v1, (.int .i64 x1.Pool.Hand), v2, (.int .i64 x1.Log.Sure), v3, v4, (.int .i64 x1.Next), (.bool x1.Down)])]) hS (laws_eqHoldS.spec k _ _ x1.Holds x2.Holds v4 v8 ((((h5.mono hg1).mono hg2).mono hg3).mono hg4) ((((h10.mono hg1).mono hg2).mono hg3).mono hg4) _ hx5)) rfl) (by decide) (fun v w a hR hF => ?_)
          obtain ⟨s6, A6, hg5, hS, hR⟩ := hR
          obtain ⟨hv5, rfl⟩ := hR; obtain rfl := hv5.symm
          have hS : St e s6 w [pt g2 59 (c2 ++ [v5, (.int .i64 x2.Pool.Hand), v6, (.int .i64 x2.Log.Sure), v7, v8, (.int .i64 x2.Next), (.bool x2.Down)]), pt g1 59 (c1 ++ [v1, (.int .i64 x1.Pool.Hand), v2, (.int .i64 x1.Log.Sure), v3, v4, (.int .i64 x1.Next), (.bool x1.Down)])] := hS
          refine stp hF (p_not rfl) (by decide) (fun a hF => ?_)
          refine nilN ?_
          refine xn ?_
          refine cnd hF rfl (fun hc5 => ?_) (fun hc5 => ?_)
          · replace H := hbt hc5 H
            refine sq ?_
            refine rg ?_
            refine stp hF (p_assign rfl) (by decide) (fun a hF => ?_)
            refine nilN ?_
            refine xn ?_
            refine rt ?_
            refine xr ?_
            obtain rfl := hsm H
            replace hS := hS.sel (is := []) (A' := []) rfl
            exact ret1 hF rfl rfl hS ⟨rfl, rfl⟩
          · replace H := hbf hc5 H
            refine skN ?_
            refine xn ?_
            refine sq ?_
            refine sq ?_
            refine rg ?_
            refine stp hF (p_fldb (o' := 142) rfl fi_59_5 rfl) (by decide) (fun a hF => ?_)
            refine stp hF (p_ldb_one (i := 1) (v := (.int .i64 x1.Next)) hS rfl rfl ia_3 (by simp [(show c1.length = 136 from Kd.len _ ((Kd.arr 8 kTPage).mono hg5 ((Kd.arr 8 kTPage).mono hg4 ((Kd.arr 8 kTPage).mono hg3 ((Kd.arr 8 kTPage).mono hg2 ((Kd.arr 8 kTPage).mono hg1 h1))))))])) (by decide) (fun a hF => ?_)
            refine stp hF (p_fldb (o' := 142) rfl fi_59_5 rfl) (by decide) (fun a hF => ?_)
            refine stp hF (p_ldb_one (i := 0) (v := (.int .i64 x2.Next)) hS rfl rfl ia_3 (by simp [(show c2.length = 136 from Kd.len _ ((Kd.arr 8 kTPage).mono hg5 ((Kd.arr 8 kTPage).mono hg4 ((Kd.arr 8 kTPage).mono hg3 ((Kd.arr 8 kTPage).mono hg2 ((Kd.arr 8 kTPage).mono hg1 h6))))))])) (by decide) (fun a hF => ?_)
            refine stp hF (p_neq rfl rfl) (by decide) (fun a hF => ?_)
            refine nilN ?_
            refine xn ?_
            refine cnd hF rfl (fun hc6 => ?_) (fun hc6 => ?_)
            · replace H := hbt hc6 H
              refine sq ?_
              refine rg ?_
              refine stp hF (p_assign rfl) (by decide) (fun a hF => ?_)
              refine nilN ?_
              refine xn ?_
              refine rt ?_
              refine xr ?_
              obtain rfl := hsm H
              replace hS := hS.sel (is := []) (A' := []) rfl
              exact ret1 hF rfl rfl hS ⟨rfl, rfl⟩
            · replace H := hbf hc6 H
              refine skN ?_
              refine xn ?_
              refine sq ?_
              refine sq ?_
              refine rg ?_
              refine stp hF (p_fldb (o' := 143) rfl fi_59_6 rfl) (by decide) (fun a hF => ?_)
              refine stp hF (p_ldb_one (i := 1) (v := (.bool x1.Down)) hS rfl rfl ia_4 (by simp [(show c1.length = 136 from Kd.len _ ((Kd.arr 8 kTPage).mono hg5 ((Kd.arr 8 kTPage).mono hg4 ((Kd.arr 8 kTPage).mono hg3 ((Kd.arr 8 kTPage).mono hg2 ((Kd.arr 8 kTPage).mono hg1 h1))))))])) (by decide) (fun a hF => ?_)
              refine stp hF (p_fldb (o' := 143) rfl fi_59_6 rfl) (by decide) (fun a hF => ?_)
              refine stp hF (p_ldb_one (i := 0) (v := (.bool x2.Down)) hS rfl rfl ia_4 (by simp [(show c2.length = 136 from Kd.len _ ((Kd.arr 8 kTPage).mono hg5 ((Kd.arr 8 kTPage).mono hg4 ((Kd.arr 8 kTPage).mono hg3 ((Kd.arr 8 kTPage).mono hg2 ((Kd.arr 8 kTPage).mono hg1 h6))))))])) (by decide) (fun a hF => ?_)
              refine stp hF (p_neb un_4 rfl rfl) (by decide) (fun a hF => ?_)
              refine nilN ?_
              refine xn ?_
              refine cnd hF rfl (fun hc7 => ?_) (fun hc7 => ?_)
              · replace H := hbt hc7 H
                refine sq ?_
                refine rg ?_
                refine stp hF (p_assign rfl) (by decide) (fun a hF => ?_)
                refine nilN ?_
                refine xn ?_
                refine rt ?_
                refine xr ?_
                obtain rfl := hsm H
                replace hS := hS.sel (is := []) (A' := []) rfl
                exact ret1 hF rfl rfl hS ⟨rfl, rfl⟩
              · replace H := hbf hc7 H
                refine skN ?_
                refine xn ?_
                refine sq ?_
                refine rg ?_
                refine stp hF (p_assign rfl) (by decide) (fun a hF => ?_)
                refine nilN ?_
                refine xn ?_
                refine rt ?_
                obtain rfl := hsm H
                replace hS := hS.sel (is := []) (A' := []) rfl
                exact ret1 hF rfl rfl hS ⟨rfl, rfl⟩

def laws_FnExactAhead.f (k : Nat) (x1 : TEngine) : Option Bool :=
  ((laws_szEngine.f k x1 1048576).bind fun x2 => (if (decide (x2 < 0)) = true then (some true) else ((laws_toEngine.f k x1).bind fun x3 => ((spec_Ahead.f k x3).bind fun x4 => ((laws_toEngine.f k x1).bind fun x5 => ((impl_Ahead.f k x5).bind fun x6 => (if (x6 != x4) = true then (some false) else ((laws_toEngine.f k x1).bind fun x7 => ((laws_eqEngine.f k x5 x7).bind fun x8 => (if (!x8) = true then (some false) else (some true)))))))))))
set_option maxRecDepth 100000 in
set_option maxHeartbeats 4000000 in
theorem laws_FnExactAhead.spec (k : Nat) (s0 : HF) (w : World) (x1 : TEngine) (c1 : List Value) (v1 : Value) (v2 : Value) (v3 : Value) (v4 : Value) (h1 : ((Kd.arr 8 kTPage)).K s0 x1.Disk c1) (h2 : Sl kTSeat s0 v1 x1.Pool.Seats) (h3 : Sl kTRec s0 v2 x1.Log.Recs) (h4 : Sl kTLive s0 v3 x1.Txs) (h5 : Sl kTHold s0 v4 x1.Holds) (r : Bool) (H : laws_FnExactAhead.f k x1 = some r) :
    Law Tryz.prog 3 #[(.agg (c1 ++ [v1, (.int .i64 x1.Pool.Hand), v2, (.int .i64 x1.Log.Sure), v3, v4, (.int .i64 x1.Next), (.bool x1.Down)] : List Value).toArray)] s0 w [] (fun v s1 A1 => v = (.bool r) ∧ A1 = []) := by
  unfold laws_FnExactAhead.f at H
  refine Law.intro Tryz.func3 rfl [(0, (.agg (c1 ++ [v1, (.int .i64 x1.Pool.Hand), v2, (.int .i64 x1.Log.Sure), v3, v4, (.int .i64 x1.Next), (.bool x1.Down)] : List Value).toArray))] (Nat.le_of_ble_eq_true rfl) (enter_lk ⟨rfl, trivial⟩) (fun e a hS hF => ?_)
  have hF : Fr 27 a [(0, (.agg (c1 ++ [v1, (.int .i64 x1.Pool.Hand), v2, (.int .i64 x1.Log.Sure), v3, v4, (.int .i64 x1.Next), (.bool x1.Down)] : List Value).toArray))] := hF
  refine sq ?_
  refine rg ?_
  refine ste hF (e_box (cs := c1 ++ [v1, (.int .i64 x1.Pool.Hand), v2, (.int .i64 x1.Log.Sure), v3, v4, (.int .i64 x1.Next), (.bool x1.Down)]) hS rfl rfl) (by decide) (fun v w a hR hF => ?_)
  obtain ⟨g1, rfl, hS⟩ := hR
  refine stp hF (p_assign rfl) (by decide) (fun a hF => ?_)
  refine nilN ?_
  refine xn ?_
  refine sq ?_
  refine rg ?_
  refine stp hF (p_assign rfl) (by decide) (fun a hF => ?_)
  refine nilN ?_
  refine xn ?_
  refine sq ?_
  refine rg ?_
  refine stp hF (p_ldb_agg (i := 0) (l := []) (m := c1 ++ [v1, (.int .i64 x1.Pool.Hand), v2, (.int .i64 x1.Log.Sure), v3, v4, (.int .i64 x1.Next), (.bool x1.Down)]) (r := []) hS rfl rfl ia_40 ti_40 (by simp) (by simp [(show c1.length = 136 from Kd.len _ h1)]) (by simp [(show c1.length = 136 from Kd.len _ h1)])) (by decide) (fun a hF => ?_)
  refine stp hF (p_move rfl) (by decide) (fun a hF => ?_)
  obtain ⟨x2, hx1, H⟩ := hb H
  refine ste hF (e_callA (fst := []) (vs := [(.agg (c1 ++ [v1, (.int .i64 x1.Pool.Hand), v2, (.int .i64 x1.Log.Sure), v3, v4, (.int .i64 x1.Next), (.bool x1.Down)] : List Value).toArray), (.int .i64 1048576)]) (cap := []) rfl rfl go_7 (St.call (A := []) (B := [pt g1 40 (c1 ++ [v1, (.int .i64 x1.Pool.Hand), v2, (.int .i64 x1.Log.Sure), v3, v4, (.int .i64 x1.Next), (.bool x1.Down)])]) hS (laws_szEngine.spec k _ _ x1 1048576 c1 v1 v2 v3 v4 h1 h2 h3 h4 h5 _ hx1)) rfl) (by decide) (fun v w a hR hF => ?_)
  obtain ⟨s2, A2, hg1, hS, hR⟩ := hR
  obtain ⟨hv1, rfl⟩ := hR; obtain rfl := hv1.symm
  have hS : St e s2 w [pt g1 40 (c1 ++ [v1, (.int .i64 x1.Pool.Hand), v2, (.int .i64 x1.Log.Sure), v3, v4, (.int .i64 x1.Next), (.bool x1.Down)])] := hS
  refine stp hF (p_assign rfl) (by decide) (fun a hF => ?_)
  refine nilN ?_
  refine xn ?_
  refine sq ?_
  refine sq ?_
  refine rg ?_
  refine stp hF (p_move rfl) (by decide) (fun a hF => ?_)
  refine stp hF (p_lss rfl rfl) (by decide) (fun a hF => ?_)
  refine nilN ?_
  refine xn ?_
  refine cnd hF rfl (fun hc1 => ?_) (fun hc1 => ?_)
  · replace H := hbt hc1 H
    refine sq ?_
    refine rg ?_
    refine stp hF (p_assign rfl) (by decide) (fun a hF => ?_)
    refine nilN ?_
    refine xn ?_
    refine rt ?_
    refine xr ?_
    obtain rfl := hsm H
    replace hS := hS.sel (is := []) (A' := []) rfl
    exact ret1 hF rfl rfl hS ⟨rfl, rfl⟩
  · replace H := hbf hc1 H
    refine skN ?_
    refine xn ?_
    refine sq ?_
    refine rg ?_
    refine stp hF (p_ldb_agg (i := 0) (l := []) (m := c1 ++ [v1, (.int .i64 x1.Pool.Hand), v2, (.int .i64 x1.Log.Sure), v3, v4, (.int .i64 x1.Next), (.bool x1.Down)]) (r := []) hS rfl rfl ia_40 ti_40 (by simp) (by simp [(show c1.length = 136 from Kd.len _ ((Kd.arr 8 kTPage).mono hg1 h1))]) (by simp [(show c1.length = 136 from Kd.len _ ((Kd.arr 8 kTPage).mono hg1 h1))])) (by decide) (fun a hF => ?_)
    obtain ⟨x3, hx2, H⟩ := hb H
    refine ste hF (e_callA (fst := []) (vs := [(.agg (c1 ++ [v1, (.int .i64 x1.Pool.Hand), v2, (.int .i64 x1.Log.Sure), v3, v4, (.int .i64 x1.Next), (.bool x1.Down)] : List Value).toArray)]) (cap := []) rfl rfl go_9 (St.call (A := []) (B := [pt g1 40 (c1 ++ [v1, (.int .i64 x1.Pool.Hand), v2, (.int .i64 x1.Log.Sure), v3, v4, (.int .i64 x1.Next), (.bool x1.Down)])]) hS (laws_toEngine.spec k _ _ x1 c1 v1 v2 v3 v4 ((Kd.arr 8 kTPage).mono hg1 h1) (h2.mono hg1) (h3.mono hg1) (h4.mono hg1) (h5.mono hg1) _ hx2)) rfl) (by decide) (fun v w a hR hF => ?_)
    obtain ⟨s3, A3, hg2, hS, hR⟩ := hR
    obtain ⟨c2, v5, v6, v7, v8, hv2, rfl, h6⟩ := hR; obtain rfl := hv2.symm
    have hS : St e s3 w [Ow kTSeat 105 v5 x3.Pool.Seats, Ow kTRec 162 v6 x3.Log.Recs, Ow kTLive 169 v7 x3.Txs, Ow kTHold 141 v8 x3.Holds, pt g1 40 (c1 ++ [v1, (.int .i64 x1.Pool.Hand), v2, (.int .i64 x1.Log.Sure), v3, v4, (.int .i64 x1.Next), (.bool x1.Down)])] := hS
    obtain ⟨s4, hg3, hl1, hcall1⟩ := St.lend (P := Tryz.prog) (Bs := [Ow kTSeat 105 v5 x3.Pool.Seats, Ow kTRec 162 v6 x3.Log.Recs, Ow kTLive 169 v7 x3.Txs, Ow kTHold 141 v8 x3.Holds]) (A := []) (B := [pt g1 40 (c1 ++ [v1, (.int .i64 x1.Pool.Hand), v2, (.int .i64 x1.Log.Sure), v3, v4, (.int .i64 x1.Next), (.bool x1.Down)])]) hS
    obtain ⟨h7, hl1⟩ := hl1.ow hg3
    obtain ⟨h8, hl1⟩ := hl1.ow hg3
    obtain ⟨h9, hl1⟩ := hl1.ow hg3
    obtain ⟨h10, hl1⟩ := hl1.ow hg3
    obtain ⟨x4, hx3, H⟩ := hb H
    refine ste hF (e_callA (fst := []) (vs := [(.agg (c2 ++ [v5, (.int .i64 x3.Pool.Hand), v6, (.int .i64 x3.Log.Sure), v7, v8, (.int .i64 x3.Next), (.bool x3.Down)] : List Value).toArray)]) (cap := []) rfl rfl go_8 (hcall1 (spec_Ahead.spec k _ _ x3 c2 v5 v6 v7 v8 ((Kd.arr 8 kTPage).mono hg3 h6) h7 h8 h9 h10 _ hx3) (by rintro v s1 A1 ⟨rfl, rfl⟩; exact trivial)) rfl) (by decide) (fun v w a hR hF => ?_)
    obtain ⟨s5, s6, A4, hg4, hS, hR⟩ := hR
    obtain ⟨hv3, rfl⟩ := hR; obtain rfl := hv3.symm
    have hS : St e s5 w [Ow kTSeat 105 v5 x3.Pool.Seats, Ow kTRec 162 v6 x3.Log.Recs, Ow kTLive 169 v7 x3.Txs, Ow kTHold 141 v8 x3.Holds, pt g1 40 (c1 ++ [v1, (.int .i64 x1.Pool.Hand), v2, (.int .i64 x1.Log.Sure), v3, v4, (.int .i64 x1.Next), (.bool x1.Down)])] := hS
    refine stp hF (p_assign rfl) (by decide) (fun a hF => ?_)
    refine nilN ?_
    refine xn ?_
    refine sq ?_
    refine rg ?_
    refine stp hF (p_ldb_agg (i := 4) (l := []) (m := c1 ++ [v1, (.int .i64 x1.Pool.Hand), v2, (.int .i64 x1.Log.Sure), v3, v4, (.int .i64 x1.Next), (.bool x1.Down)]) (r := []) hS rfl rfl ia_40 ti_40 (by simp) (by simp [(show c1.length = 136 from Kd.len _ ((Kd.arr 8 kTPage).mono hg4 ((Kd.arr 8 kTPage).mono hg2 ((Kd.arr 8 kTPage).mono hg1 h1))))]) (by simp [(show c1.length = 136 from Kd.len _ ((Kd.arr 8 kTPage).mono hg4 ((Kd.arr 8 kTPage).mono hg2 ((Kd.arr 8 kTPage).mono hg1 h1))))])) (by decide) (fun a hF => ?_)
    obtain ⟨x5, hx4, H⟩ := hb H
    refine ste hF (e_callA (fst := []) (vs := [(.agg (c1 ++ [v1, (.int .i64 x1.Pool.Hand), v2, (.int .i64 x1.Log.Sure), v3, v4, (.int .i64 x1.Next), (.bool x1.Down)] : List Value).toArray)]) (cap := []) rfl rfl go_9 (St.call (A := []) (B := [Ow kTSeat 105 v5 x3.Pool.Seats, Ow kTRec 162 v6 x3.Log.Recs, Ow kTLive 169 v7 x3.Txs, Ow kTHold 141 v8 x3.Holds, pt g1 40 (c1 ++ [v1, (.int .i64 x1.Pool.Hand), v2, (.int .i64 x1.Log.Sure), v3, v4, (.int .i64 x1.Next), (.bool x1.Down)])]) hS (laws_toEngine.spec k _ _ x1 c1 v1 v2 v3 v4 ((Kd.arr 8 kTPage).mono hg4 ((Kd.arr 8 kTPage).mono hg2 ((Kd.arr 8 kTPage).mono hg1 h1))) (((h2.mono hg1).mono hg2).mono hg4) (((h3.mono hg1).mono hg2).mono hg4) (((h4.mono hg1).mono hg2).mono hg4) (((h5.mono hg1).mono hg2).mono hg4) _ hx4)) rfl) (by decide) (fun v w a hR hF => ?_)
    obtain ⟨s7, A5, hg5, hS, hR⟩ := hR
    obtain ⟨c3, v9, v10, v11, v12, hv4, rfl, h11⟩ := hR; obtain rfl := hv4.symm
    have hS : St e s7 w [Ow kTSeat 105 v9 x5.Pool.Seats, Ow kTRec 162 v10 x5.Log.Recs, Ow kTLive 169 v11 x5.Txs, Ow kTHold 141 v12 x5.Holds, Ow kTSeat 105 v5 x3.Pool.Seats, Ow kTRec 162 v6 x3.Log.Recs, Ow kTLive 169 v7 x3.Txs, Ow kTHold 141 v8 x3.Holds, pt g1 40 (c1 ++ [v1, (.int .i64 x1.Pool.Hand), v2, (.int .i64 x1.Log.Sure), v3, v4, (.int .i64 x1.Next), (.bool x1.Down)])] := hS
    refine ste hF (e_alloc (cs := za_49 ++ [(.slice none 0 0), (.int .i64 0), (.slice none 0 0), (.int .i64 0), (.slice none 0 0), (.slice none 0 0), (.int .i64 0), (.bool false)]) hS ti_59 rfl) (by decide) (fun v w a hR hF => ?_)
    obtain ⟨g2, rfl, hS⟩ := hR
    refine ste0 hF (e_stb (i := 0) (l := []) (m := za_49 ++ [(.slice none 0 0), (.int .i64 0), (.slice none 0 0), (.int .i64 0), (.slice none 0 0), (.slice none 0 0), (.int .i64 0), (.bool false)]) (r := []) (m' := c3 ++ [v9, (.int .i64 x5.Pool.Hand), v10, (.int .i64 x5.Log.Sure), v11, v12, (.int .i64 x5.Next), (.bool x5.Down)]) (cs' := c3 ++ [v9, (.int .i64 x5.Pool.Hand), v10, (.int .i64 x5.Log.Sure), v11, v12, (.int .i64 x5.Next), (.bool x5.Down)]) hS rfl rfl rfl ti_59 (by simp) (by simp [zl_49, (show c3.length = 136 from Kd.len _ h11)]) (by simp [zl_49, (show c3.length = 136 from Kd.len _ h11)]) rfl (by simp [zl_49, (show c3.length = 136 from Kd.len _ h11)]) (one_app (Kd.one _ h11) (one_cons (hS.one_ow (i := 1) rfl) (one_cons rfl (one_cons (hS.one_ow (i := 2) rfl) (one_cons rfl (one_cons (hS.one_ow (i := 3) rfl) (one_cons (hS.one_ow (i := 4) rfl) (one_cons rfl (one_cons rfl one_nil))))))))) (by simp)) (fun v w a hR hF => ?_)
    have hS : St e s7 w [pt g2 59 (c3 ++ [v9, (.int .i64 x5.Pool.Hand), v10, (.int .i64 x5.Log.Sure), v11, v12, (.int .i64 x5.Next), (.bool x5.Down)]), Ow kTSeat 105 v9 x5.Pool.Seats, Ow kTRec 162 v10 x5.Log.Recs, Ow kTLive 169 v11 x5.Txs, Ow kTHold 141 v12 x5.Holds, Ow kTSeat 105 v5 x3.Pool.Seats, Ow kTRec 162 v6 x3.Log.Recs, Ow kTLive 169 v7 x3.Txs, Ow kTHold 141 v8 x3.Holds, pt g1 40 (c1 ++ [v1, (.int .i64 x1.Pool.Hand), v2, (.int .i64 x1.Log.Sure), v3, v4, (.int .i64 x1.Next), (.bool x1.Down)])] := hR
    refine nilN ?_
    refine xn ?_
    refine sq ?_
    refine rg ?_
    refine stp hF (p_ldb_agg (i := 0) (l := []) (m := c3 ++ [v9, (.int .i64 x5.Pool.Hand), v10, (.int .i64 x5.Log.Sure), v11, v12, (.int .i64 x5.Next), (.bool x5.Down)]) (r := []) hS rfl rfl ia_59 ti_59 (by simp) (by simp [(show c3.length = 136 from Kd.len _ h11)]) (by simp [(show c3.length = 136 from Kd.len _ h11)])) (by decide) (fun a hF => ?_)
    replace hS := hS.sel (is := [1, 1, 1, 1, 0, 0, 0, 0, 0, 0]) (A' := [Ow kTSeat 105 v9 x5.Pool.Seats, Ow kTRec 162 v10 x5.Log.Recs, Ow kTLive 169 v11 x5.Txs, Ow kTHold 141 v12 x5.Holds, pt g2 59 (c3 ++ [v9, (.int .i64 x5.Pool.Hand), v10, (.int .i64 x5.Log.Sure), v11, v12, (.int .i64 x5.Next), (.bool x5.Down)]), Ow kTSeat 105 v5 x3.Pool.Seats, Ow kTRec 162 v6 x3.Log.Recs, Ow kTLive 169 v7 x3.Txs, Ow kTHold 141 v8 x3.Holds, pt g1 40 (c1 ++ [v1, (.int .i64 x1.Pool.Hand), v2, (.int .i64 x1.Log.Sure), v3, v4, (.int .i64 x1.Next), (.bool x1.Down)])]) rfl
    obtain ⟨s8, hg6, hl2, hcall2⟩ := St.lend (P := Tryz.prog) (Bs := [Ow kTSeat 105 v9 x5.Pool.Seats, Ow kTRec 162 v10 x5.Log.Recs, Ow kTLive 169 v11 x5.Txs, Ow kTHold 141 v12 x5.Holds]) (A := []) (B := [pt g2 59 (c3 ++ [v9, (.int .i64 x5.Pool.Hand), v10, (.int .i64 x5.Log.Sure), v11, v12, (.int .i64 x5.Next), (.bool x5.Down)]), Ow kTSeat 105 v5 x3.Pool.Seats, Ow kTRec 162 v6 x3.Log.Recs, Ow kTLive 169 v7 x3.Txs, Ow kTHold 141 v8 x3.Holds, pt g1 40 (c1 ++ [v1, (.int .i64 x1.Pool.Hand), v2, (.int .i64 x1.Log.Sure), v3, v4, (.int .i64 x1.Next), (.bool x1.Down)])]) hS
    obtain ⟨h12, hl2⟩ := hl2.ow hg6
    obtain ⟨h13, hl2⟩ := hl2.ow hg6
    obtain ⟨h14, hl2⟩ := hl2.ow hg6
    obtain ⟨h15, hl2⟩ := hl2.ow hg6
    obtain ⟨x6, hx5, H⟩ := hb H
    refine ste hF (e_callA (fst := []) (vs := [(.agg (c3 ++ [v9, (.int .i64 x5.Pool.Hand), v10, (.int .i64 x5.Log.Sure), v11, v12, (.int .i64 x5.Next), (.bool x5.Down)] : List Value).toArray)]) (cap := []) rfl rfl go_10 (hcall2 (impl_Ahead.spec k _ _ x5 c3 v9 v10 v11 v12 ((Kd.arr 8 kTPage).mono hg6 h11) h12 h13 h14 h15 _ hx5) (by rintro v s1 A1 ⟨rfl, rfl⟩; exact trivial)) rfl) (by decide) (fun v w a hR hF => ?_)
    obtain ⟨s9, s10, A6, hg7, hS, hR⟩ := hR
    obtain ⟨hv5, rfl⟩ := hR; obtain rfl := hv5.symm
    have hS : St e s9 w [Ow kTSeat 105 v9 x5.Pool.Seats, Ow kTRec 162 v10 x5.Log.Recs, Ow kTLive 169 v11 x5.Txs, Ow kTHold 141 v12 x5.Holds, pt g2 59 (c3 ++ [v9, (.int .i64 x5.Pool.Hand), v10, (.int .i64 x5.Log.Sure), v11, v12, (.int .i64 x5.Next), (.bool x5.Down)]), Ow kTSeat 105 v5 x3.Pool.Seats, Ow kTRec 162 v6 x3.Log.Recs, Ow kTLive 169 v7 x3.Txs, Ow kTHold 141 v8 x3.Holds, pt g1 40 (c1 ++ [v1, (.int .i64 x1.Pool.Hand), v2, (.int .i64 x1.Log.Sure), v3, v4, (.int .i64 x1.Next), (.bool x1.Down)])] := hS
    refine stp hF (p_assign rfl) (by decide) (fun a hF => ?_)
    refine nilN ?_
    refine xn ?_
    refine sq ?_
    refine sq ?_
    refine rg ?_
    refine stp hF (p_move rfl) (by decide) (fun a hF => ?_)
    refine stp hF (p_move rfl) (by decide) (fun a hF => ?_)
    refine stp hF (p_neb un_4 rfl rfl) (by decide) (fun a hF => ?_)
    refine nilN ?_
    refine xn ?_
    refine cnd hF rfl (fun hc2 => ?_) (fun hc2 => ?_)
    · replace H := hbt hc2 H
      refine sq ?_
      refine rg ?_
      refine stp hF (p_assign rfl) (by decide) (fun a hF => ?_)
      refine nilN ?_
      refine xn ?_
      refine rt ?_
      refine xr ?_
      obtain rfl := hsm H
      replace hS := hS.sel (is := []) (A' := []) rfl
      exact ret1 hF rfl rfl hS ⟨rfl, rfl⟩
    · replace H := hbf hc2 H
      refine skN ?_
      refine xn ?_
      refine sq ?_
      refine sq ?_
      replace hS : St e s9 w.drew [Ow kTSeat 105 v9 x5.Pool.Seats, Ow kTRec 162 v10 x5.Log.Recs, Ow kTLive 169 v11 x5.Txs, Ow kTHold 141 v12 x5.Holds, pt g2 59 (c3 ++ [v9, (.int .i64 x5.Pool.Hand), v10, (.int .i64 x5.Log.Sure), v11, v12, (.int .i64 x5.Next), (.bool x5.Down)]), Ow kTSeat 105 v5 x3.Pool.Seats, Ow kTRec 162 v6 x3.Log.Recs, Ow kTLive 169 v7 x3.Txs, Ow kTHold 141 v8 x3.Holds, pt g1 40 (c1 ++ [v1, (.int .i64 x1.Pool.Hand), v2, (.int .i64 x1.Log.Sure), v3, v4, (.int .i64 x1.Next), (.bool x1.Down)])] := hS.drewN 1
      refine drw [0, 1, 2, 3, 4] mixed (by kernel_rfl) (by decide) (hF.cut (L' := [(0, (.agg (c1 ++ [v1, (.int .i64 x1.Pool.Hand), v2, (.int .i64 x1.Log.Sure), v3, v4, (.int .i64 x1.Next), (.bool x1.Down)] : List Value).toArray)), (1, (.pointer (some ⟨g1, 0, none⟩))), (2, (.bool false)), (3, (.int .i64 x2)), (4, (.bool x4)), (5, (.pointer (some ⟨g2, 0, none⟩))), (6, (.bool x6)), (7, (.agg (c1 ++ [v1, (.int .i64 x1.Pool.Hand), v2, (.int .i64 x1.Log.Sure), v3, v4, (.int .i64 x1.Next), (.bool x1.Down)] : List Value).toArray)), (8, (.int .i64 1048576)), (9, (.int .i64 x2)), (10, (.int .i64 x2)), (11, (.bool (decide (x2 < 0)))), (12, (.agg (c1 ++ [v1, (.int .i64 x1.Pool.Hand), v2, (.int .i64 x1.Log.Sure), v3, v4, (.int .i64 x1.Next), (.bool x1.Down)] : List Value).toArray)), (13, (.agg (c2 ++ [v5, (.int .i64 x3.Pool.Hand), v6, (.int .i64 x3.Log.Sure), v7, v8, (.int .i64 x3.Next), (.bool x3.Down)] : List Value).toArray)), (14, (.bool x4)), (15, (.agg (c1 ++ [v1, (.int .i64 x1.Pool.Hand), v2, (.int .i64 x1.Log.Sure), v3, v4, (.int .i64 x1.Next), (.bool x1.Down)] : List Value).toArray)), (16, (.agg (c3 ++ [v9, (.int .i64 x5.Pool.Hand), v10, (.int .i64 x5.Log.Sure), v11, v12, (.int .i64 x5.Next), (.bool x5.Down)] : List Value).toArray)), (17, (.agg (c3 ++ [v9, (.int .i64 x5.Pool.Hand), v10, (.int .i64 x5.Log.Sure), v11, v12, (.int .i64 x5.Next), (.bool x5.Down)] : List Value).toArray)), (18, (.bool x6)), (19, (.bool x6)), (20, (.bool x4)), (21, (.bool (x6 != x4)))]) ⟨rfl, rfl, rfl, rfl, rfl, rfl, rfl, rfl, rfl, rfl, rfl, rfl, rfl, rfl, rfl, rfl, rfl, rfl, rfl, rfl, rfl, rfl, trivial⟩) ?_
      clear hF
      generalize w.drew = w at hS ⊢
      refine pk1 rfl (by decide) rfl (by kernel_rfl) rfl (p_ldb_agg (i := 4) (l := []) (m := c3 ++ [v9, (.int .i64 x5.Pool.Hand), v10, (.int .i64 x5.Log.Sure), v11, v12, (.int .i64 x5.Next), (.bool x5.Down)]) (r := []) hS rfl rfl ia_59 ti_59 (by simp) (by simp [(show c3.length = 136 from Kd.len _ ((Kd.arr 8 kTPage).mono hg7 h11))]) (by simp [(show c3.length = 136 from Kd.len _ ((Kd.arr 8 kTPage).mono hg7 h11))])) ?_
      refine pk1 rfl (by decide) rfl (by kernel_rfl) rfl (p_ldb_agg (i := 9) (l := []) (m := c1 ++ [v1, (.int .i64 x1.Pool.Hand), v2, (.int .i64 x1.Log.Sure), v3, v4, (.int .i64 x1.Next), (.bool x1.Down)]) (r := []) hS rfl rfl ia_40 ti_40 (by simp) (by simp [(show c1.length = 136 from Kd.len _ ((Kd.arr 8 kTPage).mono hg7 ((Kd.arr 8 kTPage).mono hg5 ((Kd.arr 8 kTPage).mono hg4 ((Kd.arr 8 kTPage).mono hg2 ((Kd.arr 8 kTPage).mono hg1 h1))))))]) (by simp [(show c1.length = 136 from Kd.len _ ((Kd.arr 8 kTPage).mono hg7 ((Kd.arr 8 kTPage).mono hg5 ((Kd.arr 8 kTPage).mono hg4 ((Kd.arr 8 kTPage).mono hg2 ((Kd.arr 8 kTPage).mono hg1 h1))))))])) ?_
      obtain ⟨x7, hx6, H⟩ := hb H
      refine pkE [0] rfl (by decide) (by kernel_rfl) (by kernel_rfl) (e_callA (fst := []) (vs := [(.agg (c1 ++ [v1, (.int .i64 x1.Pool.Hand), v2, (.int .i64 x1.Log.Sure), v3, v4, (.int .i64 x1.Next), (.bool x1.Down)] : List Value).toArray)]) (cap := []) rfl rfl go_9 (St.call (A := []) (B := [Ow kTSeat 105 v9 x5.Pool.Seats, Ow kTRec 162 v10 x5.Log.Recs, Ow kTLive 169 v11 x5.Txs, Ow kTHold 141 v12 x5.Holds, pt g2 59 (c3 ++ [v9, (.int .i64 x5.Pool.Hand), v10, (.int .i64 x5.Log.Sure), v11, v12, (.int .i64 x5.Next), (.bool x5.Down)]), Ow kTSeat 105 v5 x3.Pool.Seats, Ow kTRec 162 v6 x3.Log.Recs, Ow kTLive 169 v7 x3.Txs, Ow kTHold 141 v8 x3.Holds, pt g1 40 (c1 ++ [v1, (.int .i64 x1.Pool.Hand), v2, (.int .i64 x1.Log.Sure), v3, v4, (.int .i64 x1.Next), (.bool x1.Down)])]) hS (laws_toEngine.spec k _ _ x1 c1 v1 v2 v3 v4 ((Kd.arr 8 kTPage).mono hg7 ((Kd.arr 8 kTPage).mono hg5 ((Kd.arr 8 kTPage).mono hg4 ((Kd.arr 8 kTPage).mono hg2 ((Kd.arr 8 kTPage).mono hg1 h1))))) (((((h2.mono hg1).mono hg2).mono hg4).mono hg5).mono hg7) (((((h3.mono hg1).mono hg2).mono hg4).mono hg5).mono hg7) (((((h4.mono hg1).mono hg2).mono hg4).mono hg5).mono hg7) (((((h5.mono hg1).mono hg2).mono hg4).mono hg5).mono hg7) _ hx6)) rfl) ?_
      intro v w hR
      obtain ⟨s11, A7, hg8, hS, hR⟩ := hR
      obtain ⟨c4, v13, v14, v15, v16, hv6, rfl, h16⟩ := hR; obtain rfl := hv6.symm
      have hS : St e s11 w [Ow kTSeat 105 v13 x7.Pool.Seats, Ow kTRec 162 v14 x7.Log.Recs, Ow kTLive 169 v15 x7.Txs, Ow kTHold 141 v16 x7.Holds, Ow kTSeat 105 v9 x5.Pool.Seats, Ow kTRec 162 v10 x5.Log.Recs, Ow kTLive 169 v11 x5.Txs, Ow kTHold 141 v12 x5.Holds, pt g2 59 (c3 ++ [v9, (.int .i64 x5.Pool.Hand), v10, (.int .i64 x5.Log.Sure), v11, v12, (.int .i64 x5.Next), (.bool x5.Down)]), Ow kTSeat 105 v5 x3.Pool.Seats, Ow kTRec 162 v6 x3.Log.Recs, Ow kTLive 169 v7 x3.Txs, Ow kTHold 141 v8 x3.Holds, pt g1 40 (c1 ++ [v1, (.int .i64 x1.Pool.Hand), v2, (.int .i64 x1.Log.Sure), v3, v4, (.int .i64 x1.Next), (.bool x1.Down)])] := hS
      refine ⟨⟨knw rfl rfl rfl (p_ldb_agg (i := 8) (l := []) (m := c3 ++ [v9, (.int .i64 x5.Pool.Hand), v10, (.int .i64 x5.Log.Sure), v11, v12, (.int .i64 x5.Next), (.bool x5.Down)]) (r := []) hS rfl rfl ia_59 ti_59 (by simp) (by simp [(show c3.length = 136 from Kd.len _ ((Kd.arr 8 kTPage).mono hg8 ((Kd.arr 8 kTPage).mono hg7 h11)))]) (by simp [(show c3.length = 136 from Kd.len _ ((Kd.arr 8 kTPage).mono hg8 ((Kd.arr 8 kTPage).mono hg7 h11)))])), trivial⟩, ?_⟩
      replace hS := hS.sel (is := [4, 4, 4, 4, 0, 0, 0, 0, 0, 0, 0, 0, 0, 0]) (A' := [Ow kTSeat 105 v9 x5.Pool.Seats, Ow kTRec 162 v10 x5.Log.Recs, Ow kTLive 169 v11 x5.Txs, Ow kTHold 141 v12 x5.Holds, Ow kTSeat 105 v13 x7.Pool.Seats, Ow kTRec 162 v14 x7.Log.Recs, Ow kTLive 169 v15 x7.Txs, Ow kTHold 141 v16 x7.Holds, pt g2 59 (c3 ++ [v9, (.int .i64 x5.Pool.Hand), v10, (.int .i64 x5.Log.Sure), v11, v12, (.int .i64 x5.Next), (.bool x5.Down)]), Ow kTSeat 105 v5 x3.Pool.Seats, Ow kTRec 162 v6 x3.Log.Recs, Ow kTLive 169 v7 x3.Txs, Ow kTHold 141 v8 x3.Holds, pt g1 40 (c1 ++ [v1, (.int .i64 x1.Pool.Hand), v2, (.int .i64 x1.Log.Sure), v3, v4, (.int .i64 x1.Next), (.bool x1.Down)])]) rfl
      obtain ⟨s12, hg9, hl3, hcall3⟩ := St.lend (P := Tryz.prog) (Bs := [Ow kTSeat 105 v9 x5.Pool.Seats, Ow kTRec 162 v10 x5.Log.Recs, Ow kTLive 169 v11 x5.Txs, Ow kTHold 141 v12 x5.Holds, Ow kTSeat 105 v13 x7.Pool.Seats, Ow kTRec 162 v14 x7.Log.Recs, Ow kTLive 169 v15 x7.Txs, Ow kTHold 141 v16 x7.Holds]) (A := []) (B := [pt g2 59 (c3 ++ [v9, (.int .i64 x5.Pool.Hand), v10, (.int .i64 x5.Log.Sure), v11, v12, (.int .i64 x5.Next), (.bool x5.Down)]), Ow kTSeat 105 v5 x3.Pool.Seats, Ow kTRec 162 v6 x3.Log.Recs, Ow kTLive 169 v7 x3.Txs, Ow kTHold 141 v8 x3.Holds, pt g1 40 (c1 ++ [v1, (.int .i64 x1.Pool.Hand), v2, (.int .i64 x1.Log.Sure), v3, v4, (.int .i64 x1.Next), (.bool x1.Down)])]) hS
      obtain ⟨h17, hl3⟩ := hl3.ow hg9
      obtain ⟨h18, hl3⟩ := hl3.ow hg9
      obtain ⟨h19, hl3⟩ := hl3.ow hg9
      obtain ⟨h20, hl3⟩ := hl3.ow hg9
      obtain ⟨h21, hl3⟩ := hl3.ow hg9
      obtain ⟨h22, hl3⟩ := hl3.ow hg9
      obtain ⟨h23, hl3⟩ := hl3.ow hg9
      obtain ⟨h24, hl3⟩ := hl3.ow hg9
      obtain ⟨x8, hx7, H⟩ := hb H
      refine pkE [] rfl (by decide) (by kernel_rfl) (by kernel_rfl) (e_callA (fst := []) (vs := [(.agg (c3 ++ [v9, (.int .i64 x5.Pool.Hand), v10, (.int .i64 x5.Log.Sure), v11, v12, (.int .i64 x5.Next), (.bool x5.Down)] : List Value).toArray), (.agg (c4 ++ [v13, (.int .i64 x7.Pool.Hand), v14, (.int .i64 x7.Log.Sure), v15, v16, (.int .i64 x7.Next), (.bool x7.Down)] : List Value).toArray)]) (cap := []) rfl rfl go_11 (hcall3 (laws_eqEngine.spec k _ _ x5 x7 c3 v9 v10 v11 v12 c4 v13 v14 v15 v16 ((Kd.arr 8 kTPage).mono hg9 ((Kd.arr 8 kTPage).mono hg8 ((Kd.arr 8 kTPage).mono hg7 h11))) h17 h18 h19 h20 ((Kd.arr 8 kTPage).mono hg9 h16) h21 h22 h23 h24 _ hx7) (by rintro v s1 A1 ⟨rfl, rfl⟩; exact trivial)) rfl) ?_
      intro v w hR
      obtain ⟨s13, s14, A8, hg10, hS, hR⟩ := hR
      obtain ⟨hv7, rfl⟩ := hR; obtain rfl := hv7.symm
      have hS : St e s13 w [Ow kTSeat 105 v9 x5.Pool.Seats, Ow kTRec 162 v10 x5.Log.Recs, Ow kTLive 169 v11 x5.Txs, Ow kTHold 141 v12 x5.Holds, Ow kTSeat 105 v13 x7.Pool.Seats, Ow kTRec 162 v14 x7.Log.Recs, Ow kTLive 169 v15 x7.Txs, Ow kTHold 141 v16 x7.Holds, pt g2 59 (c3 ++ [v9, (.int .i64 x5.Pool.Hand), v10, (.int .i64 x5.Log.Sure), v11, v12, (.int .i64 x5.Next), (.bool x5.Down)]), Ow kTSeat 105 v5 x3.Pool.Seats, Ow kTRec 162 v6 x3.Log.Recs, Ow kTLive 169 v7 x3.Txs, Ow kTHold 141 v8 x3.Holds, pt g1 40 (c1 ++ [v1, (.int .i64 x1.Pool.Hand), v2, (.int .i64 x1.Log.Sure), v3, v4, (.int .i64 x1.Next), (.bool x1.Down)])] := hS
      refine ⟨trivial, ?_⟩
      refine pk1 rfl (by decide) rfl (by kernel_rfl) rfl (p_not rfl) ?_
      refine pkF (fun a hF => ?_)
      refine xn ?_
      refine cnd hF rfl (fun hc3 => ?_) (fun hc3 => ?_)
      · replace H := hbt hc3 H
        refine sq ?_
        refine rg ?_
        refine stp hF (p_assign rfl) (by decide) (fun a hF => ?_)
        refine nilN ?_
        refine xn ?_
        refine rt ?_
        refine xr ?_
        obtain rfl := hsm H
        replace hS := hS.sel (is := []) (A' := []) rfl
        exact ret1 hF rfl rfl hS ⟨rfl, rfl⟩
      · replace H := hbf hc3 H
        refine skN ?_
        refine xn ?_
        refine sq ?_
        refine rg ?_
        refine stp hF (p_assign rfl) (by decide) (fun a hF => ?_)
        refine nilN ?_
        refine xn ?_
        refine rt ?_
        obtain rfl := hsm H
        replace hS := hS.sel (is := []) (A' := []) rfl
        exact ret1 hF rfl rfl hS ⟨rfl, rfl⟩
end Go.Proofs.YthficejgcbadjaaGreat
