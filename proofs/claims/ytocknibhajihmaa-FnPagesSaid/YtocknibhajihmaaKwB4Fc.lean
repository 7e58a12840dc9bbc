/- Functions of this place as plain functions, and that the machine comes to what they say. Conditions: none. -/
import Derived.Test.YtocknibhajihmaaKwB4Fb
set_option linter.unusedVariables false
set_option linter.unusedSimpArgs false
namespace Go.Proofs.Ytocknibhajihmaa
open Go.Kw

def impl_clonePage.c1 (k : Nat) (x1 : TPage) (x2 : (List TSlot)) : Option TPage :=
  (some (⟨x1.Lsn, x2⟩ : TPage))
def impl_clonePage.l1 (x1 : TPage) : Nat → (List TSlot) → Int → Option (List TSlot)
  | 0, _, _ => none
  | k + 1, x3, x4 => (if (decide (x4 < 4)) = true then (if 0 ≤ x4 ∧ x4 < 4 then ((impl_cloneSlot.f k (⟨(rd x1.Slots x4).Has, (⟨((rd x1.Slots x4).O).Kind, ((rd x1.Slots x4).O).Ints, ((rd x1.Slots x4).O).Refs⟩ : TObj)⟩ : TSlot)).bind fun x5 => (if 0 ≤ x4 ∧ x4 < 4 then ((impl_clonePage.l1 x1 k) (wr x3 x4 (⟨x5.Has, (⟨x5.O.Kind, x5.O.Ints, x5.O.Refs⟩ : TObj)⟩ : TSlot)) (w64 (x4 + 1))) else none)) else none) else (some x3))
def impl_clonePage.f (k : Nat) (x1 : TPage) : Option TPage :=
  (((impl_clonePage.l1 x1 k x1.Slots 0) : Option (List TSlot)).bind fun x6 => impl_clonePage.c1 k x1 x6)
set_option maxRecDepth 100000 in
set_option maxHeartbeats 4000000 in
theorem impl_clonePage.spec (k : Nat) (s0 : HF) (w : World) (x1 : TPage) (c2 : List Value) (h1 : ((Kd.arr 4 kTSlot)).K s0 x1.Slots c2) (r : TPage) (H : impl_clonePage.f k x1 = some r) :
    Law Try.prog 93 #[(.agg ([(.int .i64 x1.Lsn)] ++ c2 : List Value).toArray)] s0 w [] (fun v s1 A1 => ∃ (u0 : List Value), v = (.agg ([(.int .i64 r.Lsn)] ++ u0 : List Value).toArray) ∧ A1 = [] ∧ ((Kd.arr 4 kTSlot)).K s1 r.Slots u0) := by
  unfold impl_clonePage.f at H
  refine Law.intro Try.func93 rfl [(0, (.agg ([(.int .i64 x1.Lsn)] ++ c2 : List Value).toArray))] (Nat.le_of_ble_eq_true rfl) (enter_lk ⟨rfl, trivial⟩) (fun e a hS hF => ?_)
  have hF : Fr 18 a [(0, (.agg ([(.int .i64 x1.Lsn)] ++ c2 : List Value).toArray))] := hF
  refine sq ?_
  refine rg ?_
  refine ste hF (e_box (cs := [(.int .i64 x1.Lsn)] ++ c2) hS rfl rfl) (by decide) (fun v w a hR hF => ?_)
  obtain ⟨g1, rfl, hS⟩ := hR
  refine ste hF (e_alloc (cs := [(.int .i64 0)] ++ za_47) hS ti_49 rfl) (by decide) (fun v w a hR hF => ?_)
  obtain ⟨g2, rfl, hS⟩ := hR
  refine nilN ?_
  refine xn ?_
  obtain ⟨x6, H, HK1⟩ := hb H
  refine sqj (fun a w => ∃ (x2 : (List TSlot)) (s2 : HF) (c3 : List Value) , St e s2 w [pt g2 49 ([(.int .i64 0)] ++ za_47), pt g1 49 ([(.int .i64 x1.Lsn)] ++ c3)] ∧ Fr 18 a [(1, (.pointer (some ⟨g1, 0, none⟩))), (2, (.pointer (some ⟨g2, 0, none⟩)))] ∧ Sub s0 s2 ∧ ((Kd.arr 4 kTSlot)).K s2 x2 c3 ∧ impl_clonePage.c1 k x1 x2 = some r) ?_ ?_
  · skip
    refine sq ?_
    refine rg ?_
    refine stp hF (p_fldb (o' := 1) rfl fi_49_1 rfl) (by decide) (fun a hF => ?_)
    refine stp hF (p_ldb_agg (i := 1) (l := [(.int .i64 x1.Lsn)]) (m := c2) (r := []) hS rfl rfl ia_47 ti_47 (by simp) (by simp [(show c2.length = 16 from Kd.len _ h1)]) (by simp [(show c2.length = 16 from Kd.len _ h1)])) (by decide) (fun a hF => ?_)
    refine stp hF (p_move rfl) (by decide) (fun a hF => ?_)
    refine nilN ?_
    refine xn ?_
    refine blk ?_
    refine loop_ind (fun k1 a w => ∃ (x3 : (List TSlot)) (x4 : Int) (s3 : HF) (c4 : List Value) , St e s3 w [pt g2 49 ([(.int .i64 0)] ++ za_47), pt g1 49 ([(.int .i64 x1.Lsn)] ++ c4)] ∧ Fr 18 a [(1, (.pointer (some ⟨g1, 0, none⟩))), (2, (.pointer (some ⟨g2, 0, none⟩))), (6, (.agg c2.toArray)), (7, (.int .i64 x4))] ∧ Sub s0 s3 ∧ ((Kd.arr 4 kTSlot)).K s3 x3 c4 ∧ impl_clonePage.l1 x1 k1 x3 x4 = some x6) k ?_ ?_ ?_
    · skip
      exact ⟨x1.Slots, 0, s0, c2, hS, hF.cut ⟨rfl, rfl, rfl, rfl, trivial⟩, (Sub.refl _), h1, H⟩
    · clear H hS hF
      rintro a w ⟨x3, x4, s3, c4, hS, hF, hg1, h2, H⟩
      exact absurd (show none = some _ from H) (by simp)
    · clear H hS hF
      rintro k1 a w ⟨x3, x4, s3, c4, hS, hF, hg1, h2, H⟩
      rw [impl_clonePage.l1.eq_2] at H
      refine sq ?_
      refine rg ?_
      refine stp hF (p_lss rfl rfl) (by decide) (fun a hF => ?_)
      refine nilN ?_
      refine xn ?_
      refine sq ?_
      refine cnd hF rfl (fun hc1 => ?_) (fun hc1 => ?_)
      · replace H := hbt hc1 H
        refine skN ?_
        refine xn ?_
        refine sq ?_
        refine blk ?_
        refine sq ?_
        refine rg ?_
        refine stp hF (p_move rfl) (by decide) (fun a hF => ?_)
        obtain ⟨hq1, H⟩ := hck H
        obtain ⟨c5, h3, p1⟩ := p_idxv_agg (P := Try.prog) (i := x4) ((Kd.arr 4 kTSlot).mono hg1 h1) un_47 ti_38 ia_38 hq1.1 hq1.2
        obtain ⟨v1, v2, rfl, h4, h5⟩ := kTSlot_open h3
        refine stp hF (p1 rfl rfl) (by decide) (fun a hF => ?_)
        refine ste hF (e_alloc (cs := [(.bool false), (.int .i64 0), (.slice none 0 0), (.slice none 0 0)]) hS ti_38 rfl) (by decide) (fun v w a hR hF => ?_)
        obtain ⟨g3, rfl, hS⟩ := hR
        refine stp hF (p_assign rfl) (by decide) (fun a hF => ?_)
        refine ste0 hF (e_stb (i := 0) (l := []) (m := [(.bool false), (.int .i64 0), (.slice none 0 0), (.slice none 0 0)]) (r := []) (m' := [(.bool ((rd x1.Slots x4).Has)), (.int .i64 (((rd x1.Slots x4).O).Kind)), v1, v2]) (cs' := [(.bool ((rd x1.Slots x4).Has)), (.int .i64 (((rd x1.Slots x4).O).Kind)), v1, v2]) hS rfl rfl rfl ti_38 rfl rfl rfl rfl rfl (one_cons rfl (one_cons rfl (one_cons (one_sl h4) (one_cons (one_sl h5) one_nil)))) rfl) (fun v w a hR hF => ?_)
        have hS : St e s3 w [pt g3 38 ([(.bool ((rd x1.Slots x4).Has)), (.int .i64 (((rd x1.Slots x4).O).Kind)), v1, v2]), pt g2 49 ([(.int .i64 0)] ++ za_47), pt g1 49 ([(.int .i64 x1.Lsn)] ++ c4)] := hR
        refine nilN ?_
        refine xn ?_
        refine rg ?_
        refine stp hF (p_move rfl) (by decide) (fun a hF => ?_)
        refine stp hF (p_ldb_agg (i := 0) (l := []) (m := [(.bool ((rd x1.Slots x4).Has)), (.int .i64 (((rd x1.Slots x4).O).Kind)), v1, v2]) (r := []) hS rfl rfl ia_38 ti_38 rfl rfl rfl) (by decide) (fun a hF => ?_)
        obtain ⟨x5, hx1, H⟩ := hb H
        refine ste hF (e_callA (fst := []) (vs := [(.agg #[(.bool ((rd x1.Slots x4).Has)), (.int .i64 (((rd x1.Slots x4).O).Kind)), v1, v2])]) (cap := []) rfl rfl go_94 (St.call (A := []) (B := [pt g3 38 ([(.bool ((rd x1.Slots x4).Has)), (.int .i64 (((rd x1.Slots x4).O).Kind)), v1, v2]), pt g2 49 ([(.int .i64 0)] ++ za_47), pt g1 49 ([(.int .i64 x1.Lsn)] ++ c4)]) hS (impl_cloneSlot.spec k1 _ _ (⟨(rd x1.Slots x4).Has, (⟨((rd x1.Slots x4).O).Kind, ((rd x1.Slots x4).O).Ints, ((rd x1.Slots x4).O).Refs⟩ : TObj)⟩ : TSlot) v1 v2 h4 h5 _ hx1)) rfl) (by decide) (fun v w a hR hF => ?_)
        obtain ⟨s4, A2, hg2, hS, hR⟩ := hR
        obtain ⟨v3, v4, hv1, rfl⟩ := hR; obtain rfl := hv1.symm
        have hS : St e s4 w [Ow (Kd.int .i64) 3 v3 x5.O.Ints, Ow (Kd.int .i64) 3 v4 x5.O.Refs, pt g3 38 ([(.bool ((rd x1.Slots x4).Has)), (.int .i64 (((rd x1.Slots x4).O).Kind)), v1, v2]), pt g2 49 ([(.int .i64 0)] ++ za_47), pt g1 49 ([(.int .i64 x1.Lsn)] ++ c4)] := hS
        refine stp hF (p_fldb (o' := 1) rfl fi_49_1 rfl) (by decide) (fun a hF => ?_)
        obtain ⟨hq2, H⟩ := hck H
        refine stp hF (p_idxb rfl rfl un_47 ti_38 hq2.1 hq2.2) (by decide) (fun a hF => ?_)
        obtain ⟨s5, hg3, h6, hS⟩ := hS.freeze (i := 0) (kd := (Kd.int .i64)) (et := 3) (v := v3) (xs := x5.O.Ints) (B := [Ow (Kd.int .i64) 3 v4 x5.O.Refs, pt g3 38 ([(.bool ((rd x1.Slots x4).Has)), (.int .i64 (((rd x1.Slots x4).O).Kind)), v1, v2]), pt g2 49 ([(.int .i64 0)] ++ za_47), pt g1 49 ([(.int .i64 x1.Lsn)] ++ c4)]) rfl
        obtain ⟨s6, hg4, h7, hS⟩ := hS.freeze (i := 0) (kd := (Kd.int .i64)) (et := 3) (v := v4) (xs := x5.O.Refs) (B := [pt g3 38 ([(.bool ((rd x1.Slots x4).Has)), (.int .i64 (((rd x1.Slots x4).O).Kind)), v1, v2]), pt g2 49 ([(.int .i64 0)] ++ za_47), pt g1 49 ([(.int .i64 x1.Lsn)] ++ c4)]) rfl
        refine ste0 hF (e_stba (n := 2) (l := [(.int .i64 x1.Lsn)]) (cs := c4) (r := []) (base := 1) (y0 := (⟨x5.Has, (⟨x5.O.Kind, x5.O.Ints, x5.O.Refs⟩ : TObj)⟩ : TSlot)) hS rfl (by simp) ((Kd.arr 4 kTSlot).mono hg4 ((Kd.arr 4 kTSlot).mono hg3 ((Kd.arr 4 kTSlot).mono hg2 h2))) (Lens.idx 4 kTSlot x4 hq2.1 hq2.2) rfl rfl rfl rfl ti_38 rfl (kTSlot_mk (x := (⟨x5.Has, (⟨x5.O.Kind, x5.O.Ints, x5.O.Refs⟩ : TObj)⟩ : TSlot)) (h6.mono hg4) h7)) (fun v w a hR hF => ?_)
        obtain ⟨c6, h8, hS⟩ := hR
        replace h8 : ((Kd.arr 4 kTSlot)).K s6 (wr x3 x4 (⟨x5.Has, (⟨x5.O.Kind, x5.O.Ints, x5.O.Refs⟩ : TObj)⟩ : TSlot)) c6 := h8
        replace hS : St e s6 w [pt g1 49 ([(.int .i64 x1.Lsn)] ++ c6), pt g3 38 ([(.bool ((rd x1.Slots x4).Has)), (.int .i64 (((rd x1.Slots x4).O).Kind)), v1, v2]), pt g2 49 ([(.int .i64 0)] ++ za_47)] := (by simpa using hS)
        refine nilN ?_
        refine bn (xn ?_)
        refine rg ?_
        refine stp hF (p_add (c := w64 (x4 + 1)) rfl rfl rfl) (by decide) (fun a hF => ?_)
        refine stp hF (p_move rfl) (by decide) (fun a hF => ?_)
        refine nilN ?_
        refine xn ?_
        replace hS := hS.sel (is := [2, 0]) (A' := [pt g2 49 ([(.int .i64 0)] ++ za_47), pt g1 49 ([(.int .i64 x1.Lsn)] ++ c6)]) rfl
        exact ⟨(wr x3 x4 (⟨x5.Has, (⟨x5.O.Kind, x5.O.Ints, x5.O.Refs⟩ : TObj)⟩ : TSlot)), (w64 (x4 + 1)), s6, c6, hS, hF.cut ⟨rfl, rfl, rfl, rfl, trivial⟩, (((hg1.trans hg2).trans hg3).trans hg4), h8, H⟩
      · replace H := hbf hc1 H
        refine exi ?_
        refine xe (xe (hit (xn ?_)))
        obtain rfl := hsm H
        exact ⟨x3, s3, c4, hS, hF.cut ⟨rfl, rfl, trivial⟩, hg1, h2, HK1⟩
  · clear H HK1 hS hF
    rintro a w ⟨x2, s2, c3, hS, hF, hg5, h9, H⟩
    unfold impl_clonePage.c1 at H
    refine sq ?_
    refine rg ?_
    refine stp hF (p_ldb_agg (i := 1) (l := []) (m := [(.int .i64 x1.Lsn)] ++ c3) (r := []) hS rfl rfl ia_49 ti_49 (by simp) (by simp [(show c3.length = 16 from Kd.len _ h9)]) (by simp [(show c3.length = 16 from Kd.len _ h9)])) (by decide) (fun a hF => ?_)
    refine ste0 hF (e_stb (i := 0) (l := []) (m := [(.int .i64 0)] ++ za_47) (r := []) (m' := [(.int .i64 x1.Lsn)] ++ c3) (cs' := [(.int .i64 x1.Lsn)] ++ c3) hS rfl rfl rfl ti_49 (by simp) (by simp [zl_47, (show c3.length = 16 from Kd.len _ h9)]) (by simp [zl_47, (show c3.length = 16 from Kd.len _ h9)]) rfl (by simp [zl_47, (show c3.length = 16 from Kd.len _ h9)]) (one_app (one_cons rfl one_nil) (Kd.one _ h9)) (by simp)) (fun v w a hR hF => ?_)
    have hS : St e s2 w [pt g2 49 ([(.int .i64 x1.Lsn)] ++ c3), pt g1 49 ([(.int .i64 x1.Lsn)] ++ c3)] := hR
    refine nilN ?_
    refine xn ?_
    refine rt ?_
    obtain rfl := hsm H
    have h10 : RvOk Try.prog _ w (.cell 2 49) _ := rvC (i := 0) hS rfl (show lk [(2, (.pointer (some ⟨g2, 0, none⟩)))] 2 = _ from rfl) ia_49 ti_49 (by simp [(show c3.length = 16 from Kd.len _ h9)])
    replace hS := hS.sel (is := []) (A' := []) rfl
    exact retc1 hF rfl h10 hS ⟨c3, rfl, rfl, h9⟩

def impl_SetSlot.c1 (k : Nat) (x1 : TPage) (x2 : TSlot) (x3 : Int) (x4 : Int) (x5 : Bool) : Option (TPage × Bool) :=
  (if x5 = true then (some (x1, false)) else ((impl_cloneSlot.f k x2).bind fun x6 => (if 0 ≤ x3 ∧ x3 < 4 then (some ((⟨x4, (wr x1.Slots x3 (⟨x6.Has, (⟨x6.O.Kind, x6.O.Ints, x6.O.Refs⟩ : TObj)⟩ : TSlot))⟩ : TPage), true)) else none)))
def impl_SetSlot.c2 (k : Nat) (x4 : Int) (x7 : TPage) (x1 : TPage) (x2 : TSlot) (x3 : Int) (x8 : Bool) : Option (TPage × Bool) :=
  ((if x8 = true then (some true) else ((impl_in.f k x4 x7.Lsn 1000000).bind fun x9 => (some (!x9))) : Option Bool).bind fun x10 => impl_SetSlot.c1 k x1 x2 x3 x4 x10)
def impl_SetSlot.c3 (k : Nat) (x2 : TSlot) (x4 : Int) (x7 : TPage) (x1 : TPage) (x3 : Int) (x11 : Bool) : Option (TPage × Bool) :=
  ((if x11 = true then (some true) else ((impl_slotOk.f k x2).bind fun x12 => (some (!x12))) : Option Bool).bind fun x13 => impl_SetSlot.c2 k x4 x7 x1 x2 x3 x13)
def impl_SetSlot.f (k : Nat) (x7 : TPage) (x3 : Int) (x2 : TSlot) (x4 : Int) : Option (TPage × Bool) :=
  ((impl_clonePage.f k x7).bind fun x1 => ((impl_PageOk.f k x7).bind fun x14 => ((if (!x14) = true then (some true) else ((impl_in.f k x3 0 3).bind fun x15 => (some (!x15))) : Option Bool).bind fun x16 => impl_SetSlot.c3 k x2 x4 x7 x1 x3 x16)))
set_option maxRecDepth 100000 in
set_option maxHeartbeats 4000000 in
theorem impl_SetSlot.spec (k : Nat) (s0 : HF) (w : World) (x7 : TPage) (x3 : Int) (x2 : TSlot) (x4 : Int) (c4 : List Value) (v1 : Value) (v2 : Value) (h1 : ((Kd.arr 4 kTSlot)).K s0 x7.Slots c4) (h2 : Sl (Kd.int .i64) s0 v1 x2.O.Ints) (h3 : Sl (Kd.int .i64) s0 v2 x2.O.Refs) (r : TPage × Bool) (H : impl_SetSlot.f k x7 x3 x2 x4 = some r) :
    Law Try.prog 30 #[(.agg ([(.int .i64 x7.Lsn)] ++ c4 : List Value).toArray), (.int .i64 x3), (.agg #[(.bool x2.Has), (.int .i64 x2.O.Kind), v1, v2]), (.int .i64 x4)] s0 w [] (fun v s1 A1 => ∃ (u0 : List Value), v = (.tuple #[(.agg ([(.int .i64 r.1.Lsn)] ++ u0 : List Value).toArray), (.bool r.2)]) ∧ A1 = [] ∧ ((Kd.arr 4 kTSlot)).K s1 r.1.Slots u0) := by
  unfold impl_SetSlot.f at H
  refine Law.intro Try.func30 rfl [(0, (.agg ([(.int .i64 x7.Lsn)] ++ c4 : List Value).toArray)), (1, (.int .i64 x3)), (2, (.agg #[(.bool x2.Has), (.int .i64 x2.O.Kind), v1, v2])), (3, (.int .i64 x4))] (Nat.le_of_ble_eq_true rfl) (enter_lk ⟨rfl, rfl, rfl, rfl, trivial⟩) (fun e a hS hF => ?_)
  have hF : Fr 42 a [(0, (.agg ([(.int .i64 x7.Lsn)] ++ c4 : List Value).toArray)), (1, (.int .i64 x3)), (2, (.agg #[(.bool x2.Has), (.int .i64 x2.O.Kind), v1, v2])), (3, (.int .i64 x4))] := hF
  refine sq ?_
  refine rg ?_
  refine ste hF (e_box (cs := [(.int .i64 x7.Lsn)] ++ c4) hS rfl rfl) (by decide) (fun v w a hR hF => ?_)
  obtain ⟨g1, rfl, hS⟩ := hR
  refine ste hF (e_box (cs := [(.bool x2.Has), (.int .i64 x2.O.Kind), v1, v2]) hS rfl rfl) (by decide) (fun v w a hR hF => ?_)
  obtain ⟨g2, rfl, hS⟩ := hR
  refine ste hF (e_alloc (cs := [(.int .i64 0)] ++ za_47) hS ti_49 rfl) (by decide) (fun v w a hR hF => ?_)
  obtain ⟨g3, rfl, hS⟩ := hR
  refine stp hF (p_assign rfl) (by decide) (fun a hF => ?_)
  refine nilN ?_
  refine xn ?_
  refine sq ?_
  refine rg ?_
  refine stp hF (p_ldb_agg (i := 2) (l := []) (m := [(.int .i64 x7.Lsn)] ++ c4) (r := []) hS rfl rfl ia_49 ti_49 (by simp) (by simp [(show c4.length = 16 from Kd.len _ h1)]) (by simp [(show c4.length = 16 from Kd.len _ h1)])) (by decide) (fun a hF => ?_)
  obtain ⟨x1, hx1, H⟩ := hb H
  refine ste hF (e_callA (fst := []) (vs := [(.agg ([(.int .i64 x7.Lsn)] ++ c4 : List Value).toArray)]) (cap := []) rfl rfl go_93 (St.call (A := []) (B := [pt g3 49 ([(.int .i64 0)] ++ za_47), pt g2 38 ([(.bool x2.Has), (.int .i64 x2.O.Kind), v1, v2]), pt g1 49 ([(.int .i64 x7.Lsn)] ++ c4)]) hS (impl_clonePage.spec k _ _ x7 c4 h1 _ hx1)) rfl) (by decide) (fun v w a hR hF => ?_)
  obtain ⟨s2, A2, hg1, hS, hR⟩ := hR
  obtain ⟨c5, hv1, rfl, h4⟩ := hR; obtain rfl := hv1.symm
  have hS : St e s2 w [pt g3 49 ([(.int .i64 0)] ++ za_47), pt g2 38 ([(.bool x2.Has), (.int .i64 x2.O.Kind), v1, v2]), pt g1 49 ([(.int .i64 x7.Lsn)] ++ c4)] := hS
  refine ste hF (e_alloc (cs := [(.int .i64 0)] ++ za_47) hS ti_49 rfl) (by decide) (fun v w a hR hF => ?_)
  obtain ⟨g4, rfl, hS⟩ := hR
  refine ste0 hF (e_stb (i := 0) (l := []) (m := [(.int .i64 0)] ++ za_47) (r := []) (m' := [(.int .i64 x1.Lsn)] ++ c5) (cs' := [(.int .i64 x1.Lsn)] ++ c5) hS rfl rfl rfl ti_49 (by simp) (by simp [zl_47, (show c5.length = 16 from Kd.len _ h4)]) (by simp [zl_47, (show c5.length = 16 from Kd.len _ h4)]) rfl (by simp [zl_47, (show c5.length = 16 from Kd.len _ h4)]) (one_app (one_cons rfl one_nil) (Kd.one _ h4)) (by simp)) (fun v w a hR hF => ?_)
  have hS : St e s2 w [pt g4 49 ([(.int .i64 x1.Lsn)] ++ c5), pt g3 49 ([(.int .i64 0)] ++ za_47), pt g2 38 ([(.bool x2.Has), (.int .i64 x2.O.Kind), v1, v2]), pt g1 49 ([(.int .i64 x7.Lsn)] ++ c4)] := hR
  refine nilN ?_
  refine xn ?_
  refine sq ?_
  refine sq ?_
  refine rg ?_
  refine stp hF (p_ldb_agg (i := 3) (l := []) (m := [(.int .i64 x7.Lsn)] ++ c4) (r := []) hS rfl rfl ia_49 ti_49 (by simp) (by simp [(show c4.length = 16 from Kd.len _ ((Kd.arr 4 kTSlot).mono hg1 h1))]) (by simp [(show c4.length = 16 from Kd.len _ ((Kd.arr 4 kTSlot).mono hg1 h1))])) (by decide) (fun a hF => ?_)
  obtain ⟨x14, hx2, H⟩ := hb H
  refine ste hF (e_callA (fst := []) (vs := [(.agg ([(.int .i64 x7.Lsn)] ++ c4 : List Value).toArray)]) (cap := []) rfl rfl go_31 (St.call (A := []) (B := [pt g4 49 ([(.int .i64 x1.Lsn)] ++ c5), pt g3 49 ([(.int .i64 0)] ++ za_47), pt g2 38 ([(.bool x2.Has), (.int .i64 x2.O.Kind), v1, v2]), pt g1 49 ([(.int .i64 x7.Lsn)] ++ c4)]) hS (impl_PageOk.spec k _ _ x7 c4 ((Kd.arr 4 kTSlot).mono hg1 h1) _ hx2)) rfl) (by decide) (fun v w a hR hF => ?_)
  obtain ⟨s3, A3, hg2, hS, hR⟩ := hR
  obtain ⟨hv2, rfl⟩ := hR; obtain rfl := hv2.symm
  have hS : St e s3 w [pt g4 49 ([(.int .i64 x1.Lsn)] ++ c5), pt g3 49 ([(.int .i64 0)] ++ za_47), pt g2 38 ([(.bool x2.Has), (.int .i64 x2.O.Kind), v1, v2]), pt g1 49 ([(.int .i64 x7.Lsn)] ++ c4)] := hS
  refine stp hF (p_not rfl) (by decide) (fun a hF => ?_)
  refine stp hF (p_move rfl) (by decide) (fun a hF => ?_)
  obtain ⟨x16, H, HK1⟩ := hb H
  refine cutj 4 (fun a w => ∃ (x11 : Bool) (s4 : HF) , St e s4 w [pt g4 49 ([(.int .i64 x1.Lsn)] ++ c5), pt g3 49 ([(.int .i64 0)] ++ za_47), pt g2 38 ([(.bool x2.Has), (.int .i64 x2.O.Kind), v1, v2]), pt g1 49 ([(.int .i64 x7.Lsn)] ++ c4)] ∧ Fr 42 a [(1, (.int .i64 x3)), (3, (.int .i64 x4)), (4, (.pointer (some ⟨g1, 0, none⟩))), (6, (.pointer (some ⟨g2, 0, none⟩))), (8, (.pointer (some ⟨g3, 0, none⟩))), (10, (.pointer (some ⟨g4, 0, none⟩))), (20, (.bool x11))] ∧ Sub s3 s4 ∧ impl_SetSlot.c3 k x2 x4 x7 x1 x3 x11 = some r) rfl rfl ?_ ?_
  · rcases Bool.eq_false_or_eq_true ((!x14)) with hc1 | hc1
    · replace H := hbt hc1 H
      refine gofD (j := 3) hF rfl rfl (by rw [hc1]; decide) (by decide) (fun a hF => ?_)
      refine gofD (j := 3) hF rfl rfl (by rw [hc1]; decide) (by decide) (fun a hF => ?_)
      refine gofD (j := 3) hF rfl rfl (by rw [hc1]; decide) (by decide) (fun a hF => ?_)
      refine stp hF (p_pickT rfl hc1 rfl) (by decide) (fun a hF => ?_)
      refine nilN ?_
      refine xn ?_
      obtain rfl := hsm H
      exact ⟨true, s3, hS, hF.cut ⟨rfl, rfl, rfl, rfl, rfl, rfl, rfl, trivial⟩, (Sub.refl _), HK1⟩
    · replace H := hbf hc1 H
      refine gonE (j := 3) hF rfl rfl hc1 ?_
      refine stp hF (p_move rfl) (by decide) (fun a hF => ?_)
      obtain ⟨x15, hx3, H⟩ := hb H
      refine gonE (j := 3) hF rfl rfl hc1 ?_
      refine ste hF (e_callA (fst := []) (vs := [(.int .i64 x3), (.int .i64 0), (.int .i64 3)]) (cap := []) rfl rfl go_79 (St.call (A := []) (B := [pt g4 49 ([(.int .i64 x1.Lsn)] ++ c5), pt g3 49 ([(.int .i64 0)] ++ za_47), pt g2 38 ([(.bool x2.Has), (.int .i64 x2.O.Kind), v1, v2]), pt g1 49 ([(.int .i64 x7.Lsn)] ++ c4)]) hS (impl_in.spec k _ _ x3 0 3 _ hx3)) rfl) (by decide) (fun v w a hR hF => ?_)
      obtain ⟨s5, A4, hg3, hS, hR⟩ := hR
      obtain ⟨hv3, rfl⟩ := hR; obtain rfl := hv3.symm
      have hS : St e s5 w [pt g4 49 ([(.int .i64 x1.Lsn)] ++ c5), pt g3 49 ([(.int .i64 0)] ++ za_47), pt g2 38 ([(.bool x2.Has), (.int .i64 x2.O.Kind), v1, v2]), pt g1 49 ([(.int .i64 x7.Lsn)] ++ c4)] := hS
      refine gonE (j := 3) hF rfl rfl hc1 ?_
      refine stp hF (p_not rfl) (by decide) (fun a hF => ?_)
      refine stp hF (p_pickF rfl hc1 rfl) (by decide) (fun a hF => ?_)
      refine nilN ?_
      refine xn ?_
      obtain rfl := hsm H
      exact ⟨(!x15), s5, hS, hF.cut ⟨rfl, rfl, rfl, rfl, rfl, rfl, rfl, trivial⟩, hg3, HK1⟩
  · clear H HK1 hS hF
    rintro a w ⟨x11, s4, hS, hF, hg4, H⟩
    unfold impl_SetSlot.c3 at H
    refine stp hF (p_move rfl) (by decide) (fun a hF => ?_)
    obtain ⟨x13, H, HK2⟩ := hb H
    refine cutj 4 (fun a w => ∃ (x8 : Bool) (s6 : HF) , St e s6 w [pt g4 49 ([(.int .i64 x1.Lsn)] ++ c5), pt g3 49 ([(.int .i64 0)] ++ za_47), pt g2 38 ([(.bool x2.Has), (.int .i64 x2.O.Kind), v1, v2]), pt g1 49 ([(.int .i64 x7.Lsn)] ++ c4)] ∧ Fr 42 a [(1, (.int .i64 x3)), (3, (.int .i64 x4)), (4, (.pointer (some ⟨g1, 0, none⟩))), (6, (.pointer (some ⟨g2, 0, none⟩))), (8, (.pointer (some ⟨g3, 0, none⟩))), (10, (.pointer (some ⟨g4, 0, none⟩))), (25, (.bool x8))] ∧ Sub s4 s6 ∧ impl_SetSlot.c2 k x4 x7 x1 x2 x3 x8 = some r) rfl rfl ?_ ?_
    · rcases Bool.eq_false_or_eq_true (x11) with hc2 | hc2
      · replace H := hbt hc2 H
        refine gofD (j := 8) hF rfl rfl (by rw [hc2]; decide) (by decide) (fun a hF => ?_)
        refine gofD (j := 8) hF rfl rfl (by rw [hc2]; decide) (by decide) (fun a hF => ?_)
        refine gofD (j := 8) hF rfl rfl (by rw [hc2]; decide) (by decide) (fun a hF => ?_)
        refine stp hF (p_pickT rfl hc2 rfl) (by decide) (fun a hF => ?_)
        refine nilN ?_
        refine xn ?_
        obtain rfl := hsm H
        exact ⟨true, s4, hS, hF.cut ⟨rfl, rfl, rfl, rfl, rfl, rfl, rfl, trivial⟩, (Sub.refl _), HK2⟩
      · replace H := hbf hc2 H
        refine gonE (j := 8) hF rfl rfl hc2 ?_
        refine stp hF (p_ldb_agg (i := 2) (l := []) (m := [(.bool x2.Has), (.int .i64 x2.O.Kind), v1, v2]) (r := []) hS rfl rfl ia_38 ti_38 rfl rfl rfl) (by decide) (fun a hF => ?_)
        obtain ⟨x12, hx4, H⟩ := hb H
        refine gonE (j := 8) hF rfl rfl hc2 ?_
        refine ste hF (e_callA (fst := []) (vs := [(.agg #[(.bool x2.Has), (.int .i64 x2.O.Kind), v1, v2])]) (cap := []) rfl rfl go_84 (St.call (A := []) (B := [pt g4 49 ([(.int .i64 x1.Lsn)] ++ c5), pt g3 49 ([(.int .i64 0)] ++ za_47), pt g2 38 ([(.bool x2.Has), (.int .i64 x2.O.Kind), v1, v2]), pt g1 49 ([(.int .i64 x7.Lsn)] ++ c4)]) hS (impl_slotOk.spec k _ _ x2 v1 v2 (((h2.mono hg1).mono hg2).mono hg4) (((h3.mono hg1).mono hg2).mono hg4) _ hx4)) rfl) (by decide) (fun v w a hR hF => ?_)
        obtain ⟨s7, A5, hg5, hS, hR⟩ := hR
        obtain ⟨hv4, rfl⟩ := hR; obtain rfl := hv4.symm
        have hS : St e s7 w [pt g4 49 ([(.int .i64 x1.Lsn)] ++ c5), pt g3 49 ([(.int .i64 0)] ++ za_47), pt g2 38 ([(.bool x2.Has), (.int .i64 x2.O.Kind), v1, v2]), pt g1 49 ([(.int .i64 x7.Lsn)] ++ c4)] := hS
        refine gonE (j := 8) hF rfl rfl hc2 ?_
        refine stp hF (p_not rfl) (by decide) (fun a hF => ?_)
        refine stp hF (p_pickF rfl hc2 rfl) (by decide) (fun a hF => ?_)
        refine nilN ?_
        refine xn ?_
        obtain rfl := hsm H
        exact ⟨(!x12), s7, hS, hF.cut ⟨rfl, rfl, rfl, rfl, rfl, rfl, rfl, trivial⟩, hg5, HK2⟩
    · clear H HK2 hS hF
      rintro a w ⟨x8, s6, hS, hF, hg6, H⟩
      unfold impl_SetSlot.c2 at H
      refine stp hF (p_move rfl) (by decide) (fun a hF => ?_)
      obtain ⟨x10, H, HK3⟩ := hb H
      refine cutj 6 (fun a w => ∃ (x5 : Bool) (s8 : HF) , St e s8 w [pt g4 49 ([(.int .i64 x1.Lsn)] ++ c5), pt g3 49 ([(.int .i64 0)] ++ za_47), pt g2 38 ([(.bool x2.Has), (.int .i64 x2.O.Kind), v1, v2]), pt g1 49 ([(.int .i64 x7.Lsn)] ++ c4)] ∧ Fr 42 a [(1, (.int .i64 x3)), (3, (.int .i64 x4)), (6, (.pointer (some ⟨g2, 0, none⟩))), (8, (.pointer (some ⟨g3, 0, none⟩))), (10, (.pointer (some ⟨g4, 0, none⟩))), (32, (.bool x5))] ∧ Sub s6 s8 ∧ impl_SetSlot.c1 k x1 x2 x3 x4 x5 = some r) rfl rfl ?_ ?_
      · rcases Bool.eq_false_or_eq_true (x8) with hc3 | hc3
        · replace H := hbt hc3 H
          refine gofD (j := 13) hF rfl rfl (by rw [hc3]; decide) (by decide) (fun a hF => ?_)
          refine gofD (j := 13) hF rfl rfl (by rw [hc3]; decide) (by decide) (fun a hF => ?_)
          refine gofD (j := 13) hF rfl rfl (by rw [hc3]; decide) (by decide) (fun a hF => ?_)
          refine gofD (j := 13) hF rfl rfl (by rw [hc3]; decide) (by decide) (fun a hF => ?_)
          refine gofD (j := 13) hF rfl rfl (by rw [hc3]; decide) (by decide) (fun a hF => ?_)
          refine stp hF (p_pickT rfl hc3 rfl) (by decide) (fun a hF => ?_)
          refine nilN ?_
          refine xn ?_
          obtain rfl := hsm H
          exact ⟨true, s6, hS, hF.cut ⟨rfl, rfl, rfl, rfl, rfl, rfl, trivial⟩, (Sub.refl _), HK3⟩
        · replace H := hbf hc3 H
          refine gonE (j := 13) hF rfl rfl hc3 ?_
          refine stp hF (p_move rfl) (by decide) (fun a hF => ?_)
          refine gonE (j := 13) hF rfl rfl hc3 ?_
          refine stp hF (p_fldb (o' := 0) rfl fi_49_0 rfl) (by decide) (fun a hF => ?_)
          refine gonE (j := 13) hF rfl rfl hc3 ?_
          refine stp hF (p_ldb_one (i := 3) hS rfl rfl ia_3 rfl) (by decide) (fun a hF => ?_)
          obtain ⟨x9, hx5, H⟩ := hb H
          refine gonE (j := 13) hF rfl rfl hc3 ?_
          refine ste hF (e_callA (fst := []) (vs := [(.int .i64 x4), (.int .i64 x7.Lsn), (.int .i64 1000000)]) (cap := []) rfl rfl go_79 (St.call (A := []) (B := [pt g4 49 ([(.int .i64 x1.Lsn)] ++ c5), pt g3 49 ([(.int .i64 0)] ++ za_47), pt g2 38 ([(.bool x2.Has), (.int .i64 x2.O.Kind), v1, v2]), pt g1 49 ([(.int .i64 x7.Lsn)] ++ c4)]) hS (impl_in.spec k _ _ x4 x7.Lsn 1000000 _ hx5)) rfl) (by decide) (fun v w a hR hF => ?_)
          obtain ⟨s9, A6, hg7, hS, hR⟩ := hR
          obtain ⟨hv5, rfl⟩ := hR; obtain rfl := hv5.symm
          have hS : St e s9 w [pt g4 49 ([(.int .i64 x1.Lsn)] ++ c5), pt g3 49 ([(.int .i64 0)] ++ za_47), pt g2 38 ([(.bool x2.Has), (.int .i64 x2.O.Kind), v1, v2]), pt g1 49 ([(.int .i64 x7.Lsn)] ++ c4)] := hS
          refine gonE (j := 13) hF rfl rfl hc3 ?_
          refine stp hF (p_not rfl) (by decide) (fun a hF => ?_)
          refine stp hF (p_pickF rfl hc3 rfl) (by decide) (fun a hF => ?_)
          refine nilN ?_
          refine xn ?_
          obtain rfl := hsm H
          exact ⟨(!x9), s9, hS, hF.cut ⟨rfl, rfl, rfl, rfl, rfl, rfl, trivial⟩, hg7, HK3⟩
      · clear H HK3 hS hF
        rintro a w ⟨x5, s8, hS, hF, hg8, H⟩
        unfold impl_SetSlot.c1 at H
        refine nilN ?_
        refine xn ?_
        refine cnd hF rfl (fun hc4 => ?_) (fun hc4 => ?_)
        · replace H := hbt hc4 H
          refine sq ?_
          refine rg ?_
          refine stp hF (p_ldb_agg (i := 0) (l := []) (m := [(.int .i64 x1.Lsn)] ++ c5) (r := []) hS rfl rfl ia_49 ti_49 (by simp) (by simp [(show c5.length = 16 from Kd.len _ ((Kd.arr 4 kTSlot).mono hg8 ((Kd.arr 4 kTSlot).mono hg6 ((Kd.arr 4 kTSlot).mono hg4 ((Kd.arr 4 kTSlot).mono hg2 h4)))))]) (by simp [(show c5.length = 16 from Kd.len _ ((Kd.arr 4 kTSlot).mono hg8 ((Kd.arr 4 kTSlot).mono hg6 ((Kd.arr 4 kTSlot).mono hg4 ((Kd.arr 4 kTSlot).mono hg2 h4)))))])) (by decide) (fun a hF => ?_)
          refine ste0 hF (e_stb (i := 1) (l := []) (m := [(.int .i64 0)] ++ za_47) (r := []) (m' := [(.int .i64 x1.Lsn)] ++ c5) (cs' := [(.int .i64 x1.Lsn)] ++ c5) hS rfl rfl rfl ti_49 (by simp) (by simp [zl_47, (show c5.length = 16 from Kd.len _ ((Kd.arr 4 kTSlot).mono hg8 ((Kd.arr 4 kTSlot).mono hg6 ((Kd.arr 4 kTSlot).mono hg4 ((Kd.arr 4 kTSlot).mono hg2 h4)))))]) (by simp [zl_47, (show c5.length = 16 from Kd.len _ ((Kd.arr 4 kTSlot).mono hg8 ((Kd.arr 4 kTSlot).mono hg6 ((Kd.arr 4 kTSlot).mono hg4 ((Kd.arr 4 kTSlot).mono hg2 h4)))))]) rfl (by simp [zl_47, (show c5.length = 16 from Kd.len _ ((Kd.arr 4 kTSlot).mono hg8 ((Kd.arr 4 kTSlot).mono hg6 ((Kd.arr 4 kTSlot).mono hg4 ((Kd.arr 4 kTSlot).mono hg2 h4)))))]) (one_app (one_cons rfl one_nil) (Kd.one _ ((Kd.arr 4 kTSlot).mono hg8 ((Kd.arr 4 kTSlot).mono hg6 ((Kd.arr 4 kTSlot).mono hg4 ((Kd.arr 4 kTSlot).mono hg2 h4)))))) (by simp)) (fun v w a hR hF => ?_)
          have hS : St e s8 w [pt g3 49 ([(.int .i64 x1.Lsn)] ++ c5), pt g4 49 ([(.int .i64 x1.Lsn)] ++ c5), pt g2 38 ([(.bool x2.Has), (.int .i64 x2.O.Kind), v1, v2]), pt g1 49 ([(.int .i64 x7.Lsn)] ++ c4)] := hR
          refine stp hF (p_assign rfl) (by decide) (fun a hF => ?_)
          refine nilN ?_
          refine xn ?_
          refine rt ?_
          refine xr ?_
          obtain rfl := hsm H
          have h5 : RvOk Try.prog _ w (.cell 8 49) _ := rvC (i := 0) hS rfl (show lk [(8, (.pointer (some ⟨g3, 0, none⟩))), (9, (.bool false))] 8 = _ from rfl) ia_49 ti_49 (by simp [(show c5.length = 16 from Kd.len _ ((Kd.arr 4 kTSlot).mono hg8 ((Kd.arr 4 kTSlot).mono hg6 ((Kd.arr 4 kTSlot).mono hg4 ((Kd.arr 4 kTSlot).mono hg2 h4)))))])
          replace hS := hS.sel (is := []) (A' := []) rfl
          exact retc2 hF rfl h5 (rvT rfl) hS ⟨c5, rfl, rfl, ((Kd.arr 4 kTSlot).mono hg8 ((Kd.arr 4 kTSlot).mono hg6 ((Kd.arr 4 kTSlot).mono hg4 ((Kd.arr 4 kTSlot).mono hg2 h4))))⟩
        · replace H := hbf hc4 H
          refine skN ?_
          refine xn ?_
          refine sq ?_
          refine rg ?_
          refine stp hF (p_move rfl) (by decide) (fun a hF => ?_)
          refine stp hF (p_ldb_agg (i := 2) (l := []) (m := [(.bool x2.Has), (.int .i64 x2.O.Kind), v1, v2]) (r := []) hS rfl rfl ia_38 ti_38 rfl rfl rfl) (by decide) (fun a hF => ?_)
          obtain ⟨x6, hx6, H⟩ := hb H
          refine ste hF (e_callA (fst := []) (vs := [(.agg #[(.bool x2.Has), (.int .i64 x2.O.Kind), v1, v2])]) (cap := []) rfl rfl go_94 (St.call (A := []) (B := [pt g4 49 ([(.int .i64 x1.Lsn)] ++ c5), pt g3 49 ([(.int .i64 0)] ++ za_47), pt g2 38 ([(.bool x2.Has), (.int .i64 x2.O.Kind), v1, v2]), pt g1 49 ([(.int .i64 x7.Lsn)] ++ c4)]) hS (impl_cloneSlot.spec k _ _ x2 v1 v2 (((((h2.mono hg1).mono hg2).mono hg4).mono hg6).mono hg8) (((((h3.mono hg1).mono hg2).mono hg4).mono hg6).mono hg8) _ hx6)) rfl) (by decide) (fun v w a hR hF => ?_)
          obtain ⟨s10, A7, hg9, hS, hR⟩ := hR
          obtain ⟨v3, v4, hv6, rfl⟩ := hR; obtain rfl := hv6.symm
          have hS : St e s10 w [Ow (Kd.int .i64) 3 v3 x6.O.Ints, Ow (Kd.int .i64) 3 v4 x6.O.Refs, pt g4 49 ([(.int .i64 x1.Lsn)] ++ c5), pt g3 49 ([(.int .i64 0)] ++ za_47), pt g2 38 ([(.bool x2.Has), (.int .i64 x2.O.Kind), v1, v2]), pt g1 49 ([(.int .i64 x7.Lsn)] ++ c4)] := hS
          refine stp hF (p_fldb (o' := 1) rfl fi_49_1 rfl) (by decide) (fun a hF => ?_)
          obtain ⟨hq1, H⟩ := hck H
          refine stp hF (p_idxb rfl rfl un_47 ti_38 hq1.1 hq1.2) (by decide) (fun a hF => ?_)
          obtain ⟨s11, hg10, h6, hS⟩ := hS.freeze (i := 0) (kd := (Kd.int .i64)) (et := 3) (v := v3) (xs := x6.O.Ints) (B := [Ow (Kd.int .i64) 3 v4 x6.O.Refs, pt g4 49 ([(.int .i64 x1.Lsn)] ++ c5), pt g3 49 ([(.int .i64 0)] ++ za_47), pt g2 38 ([(.bool x2.Has), (.int .i64 x2.O.Kind), v1, v2]), pt g1 49 ([(.int .i64 x7.Lsn)] ++ c4)]) rfl
          obtain ⟨s12, hg11, h7, hS⟩ := hS.freeze (i := 0) (kd := (Kd.int .i64)) (et := 3) (v := v4) (xs := x6.O.Refs) (B := [pt g4 49 ([(.int .i64 x1.Lsn)] ++ c5), pt g3 49 ([(.int .i64 0)] ++ za_47), pt g2 38 ([(.bool x2.Has), (.int .i64 x2.O.Kind), v1, v2]), pt g1 49 ([(.int .i64 x7.Lsn)] ++ c4)]) rfl
          refine ste0 hF (e_stba (n := 0) (l := [(.int .i64 x1.Lsn)]) (cs := c5) (r := []) (base := 1) (y0 := (⟨x6.Has, (⟨x6.O.Kind, x6.O.Ints, x6.O.Refs⟩ : TObj)⟩ : TSlot)) hS rfl (by simp) ((Kd.arr 4 kTSlot).mono hg11 ((Kd.arr 4 kTSlot).mono hg10 ((Kd.arr 4 kTSlot).mono hg9 ((Kd.arr 4 kTSlot).mono hg8 ((Kd.arr 4 kTSlot).mono hg6 ((Kd.arr 4 kTSlot).mono hg4 ((Kd.arr 4 kTSlot).mono hg2 h4))))))) (Lens.idx 4 kTSlot x3 hq1.1 hq1.2) rfl rfl rfl rfl ti_38 rfl (kTSlot_mk (x := (⟨x6.Has, (⟨x6.O.Kind, x6.O.Ints, x6.O.Refs⟩ : TObj)⟩ : TSlot)) (h6.mono hg11) h7)) (fun v w a hR hF => ?_)
          obtain ⟨c6, h8, hS⟩ := hR
          replace h8 : ((Kd.arr 4 kTSlot)).K s12 (wr x1.Slots x3 (⟨x6.Has, (⟨x6.O.Kind, x6.O.Ints, x6.O.Refs⟩ : TObj)⟩ : TSlot)) c6 := h8
          replace hS : St e s12 w [pt g4 49 ([(.int .i64 x1.Lsn)] ++ c6), pt g3 49 ([(.int .i64 0)] ++ za_47), pt g2 38 ([(.bool x2.Has), (.int .i64 x2.O.Kind), v1, v2]), pt g1 49 ([(.int .i64 x7.Lsn)] ++ c4)] := (by simpa using hS)
          refine nilN ?_
          refine xn ?_
          refine sq ?_
          refine rg ?_
          refine stp hF (p_move rfl) (by decide) (fun a hF => ?_)
          refine stp hF (p_fldb (o' := 0) rfl fi_49_0 rfl) (by decide) (fun a hF => ?_)
          refine ste0 hF (e_stb (i := 0) (l := []) (m := [(.int .i64 x1.Lsn)]) (r := c6) (m' := [(.int .i64 x4)]) (cs' := [(.int .i64 x4)] ++ c6) hS rfl rfl rfl ti_3 (by simp) (by simp) (by simp) rfl (by simp) (one_cons rfl one_nil) (by simp)) (fun v w a hR hF => ?_)
          have hS : St e s12 w [pt g4 49 ([(.int .i64 x4)] ++ c6), pt g3 49 ([(.int .i64 0)] ++ za_47), pt g2 38 ([(.bool x2.Has), (.int .i64 x2.O.Kind), v1, v2]), pt g1 49 ([(.int .i64 x7.Lsn)] ++ c4)] := hR
          refine nilN ?_
          refine xn ?_
          refine sq ?_
          refine rg ?_
          refine stp hF (p_ldb_agg (i := 0) (l := []) (m := [(.int .i64 x4)] ++ c6) (r := []) hS rfl rfl ia_49 ti_49 (by simp) (by simp [(show c6.length = 16 from Kd.len _ h8)]) (by simp [(show c6.length = 16 from Kd.len _ h8)])) (by decide) (fun a hF => ?_)
          refine ste0 hF (e_stb (i := 1) (l := []) (m := [(.int .i64 0)] ++ za_47) (r := []) (m' := [(.int .i64 x4)] ++ c6) (cs' := [(.int .i64 x4)] ++ c6) hS rfl rfl rfl ti_49 (by simp) (by simp [zl_47, (show c6.length = 16 from Kd.len _ h8)]) (by simp [zl_47, (show c6.length = 16 from Kd.len _ h8)]) rfl (by simp [zl_47, (show c6.length = 16 from Kd.len _ h8)]) (one_app (one_cons rfl one_nil) (Kd.one _ h8)) (by simp)) (fun v w a hR hF => ?_)
          have hS : St e s12 w [pt g3 49 ([(.int .i64 x4)] ++ c6), pt g4 49 ([(.int .i64 x4)] ++ c6), pt g2 38 ([(.bool x2.Has), (.int .i64 x2.O.Kind), v1, v2]), pt g1 49 ([(.int .i64 x7.Lsn)] ++ c4)] := hR
          refine stp hF (p_assign rfl) (by decide) (fun a hF => ?_)
          refine nilN ?_
          refine xn ?_
          refine rt ?_
          obtain rfl := hsm H
          have h9 : RvOk Try.prog _ w (.cell 8 49) _ := rvC (i := 0) hS rfl (show lk [(8, (.pointer (some ⟨g3, 0, none⟩))), (9, (.bool true))] 8 = _ from rfl) ia_49 ti_49 (by simp [(show c6.length = 16 from Kd.len _ h8)])
          replace hS := hS.sel (is := []) (A' := []) rfl
          exact retc2 hF rfl h9 (rvT rfl) hS ⟨c6, rfl, rfl, h8⟩

def slices_Equal.c1 (k : Nat) : Option Bool :=
  (some true)
def slices_Equal.l1 (x1 : (List Int)) (x2 : (List Int)) : Nat → Int → Option (Ex Bool Unit)
  | 0, _ => none
  | k + 1, x3 => (if (decide (x3 < (x1.length : Int))) = true then (if 0 ≤ x3 ∧ x3 < (x1.length : Int) then (if 0 ≤ x3 ∧ x3 < (x2.length : Int) then (if (decide ((rd x1 x3) ≠ (rd x2 x3))) = true then (some (Ex.ret false)) else ((slices_Equal.l1 x1 x2 k) (w64 (x3 + 1)))) else none) else none) else (some (Ex.go ())))
def slices_Equal.f (k : Nat) (x1 : (List Int)) (x2 : (List Int)) : Option Bool :=
  (if (decide ((x1.length : Int) ≠ (x2.length : Int))) = true then (some false) else (((slices_Equal.l1 x1 x2 k 0) : Option (Ex Bool Unit)).bind fun x4 => Ex.on x4 (fun r => some r) (fun y => slices_Equal.c1 k)))
set_option maxRecDepth 100000 in
set_option maxHeartbeats 4000000 in
theorem slices_Equal.spec (k : Nat) (s0 : HF) (w : World) (x1 : (List Int)) (x2 : (List Int)) (v1 : Value) (v2 : Value) (h1 : Sl (Kd.int .u8) s0 v1 x1) (h2 : Sl (Kd.int .u8) s0 v2 x2) (r : Bool) (H : slices_Equal.f k x1 x2 = some r) :
    Law Try.prog 118 #[v1, v2] s0 w [] (fun v s1 A1 => v = (.bool r) ∧ A1 = []) := by
  unfold slices_Equal.f at H
  refine Law.intro Try.func118 rfl [(0, v1), (1, v2)] (Nat.le_of_ble_eq_true rfl) (enter_lk ⟨rfl, rfl, trivial⟩) (fun e a hS hF => ?_)
  have hF : Fr 26 a [(0, v1), (1, v2)] := hF
  refine sq ?_
  refine rg ?_
  refine stp hF (p_assign rfl) (by decide) (fun a hF => ?_)
  refine nilN ?_
  refine xn ?_
  refine sq ?_
  refine sq ?_
  refine rg ?_
  refine stp hF (p_move rfl) (by decide) (fun a hF => ?_)
  refine stp hF (p_lenr un_24 rfl h1) (by decide) (fun a hF => ?_)
  refine stp hF (p_move rfl) (by decide) (fun a hF => ?_)
  refine stp hF (p_lenr un_24 rfl h2) (by decide) (fun a hF => ?_)
  refine stp hF (p_neq rfl rfl) (by decide) (fun a hF => ?_)
  refine nilN ?_
  refine xn ?_
  refine cnd hF rfl (fun hc1 => ?_) (fun hc1 => ?_)
  · replace H := hbt hc1 H
    refine sq ?_
    refine rg ?_
    refine stp hF (p_assign rfl) (by decide) (fun a hF => ?_)
    refine nilN ?_
    refine xn ?_
    refine rt ?_
    refine xr ?_
    obtain rfl := hsm H
    exact ret1 hF rfl rfl hS ⟨rfl, rfl⟩
  · replace H := hbf hc1 H
    refine skN ?_
    refine xn ?_
    obtain ⟨x4, H, HK1⟩ := hb H
    refine sqj (fun a w => St e s0 w [] ∧ Fr 26 a [] ∧ slices_Equal.c1 k = some r) ?_ ?_
    · skip
      refine sq ?_
      refine rg ?_
      refine stp hF (p_move rfl) (by decide) (fun a hF => ?_)
      refine stp hF (p_lenr un_24 rfl h1) (by decide) (fun a hF => ?_)
      refine stp hF (p_move rfl) (by decide) (fun a hF => ?_)
      refine nilN ?_
      refine xn ?_
      refine blk ?_
      refine loop_ind (fun k1 a w => ∃ (x3 : Int) , St e s0 w [] ∧ Fr 26 a [(0, v1), (1, v2), (12, (.int .i64 (x1.length : Int))), (13, (.int .i64 x3))] ∧ slices_Equal.l1 x1 x2 k1 x3 = some x4) k ?_ ?_ ?_
      · skip
        exact ⟨0, hS, hF.cut ⟨rfl, rfl, rfl, rfl, trivial⟩, H⟩
      · clear H hS hF
        rintro a w ⟨x3, hS, hF, H⟩
        exact absurd (show none = some _ from H) (by simp)
      · clear H hS hF
        rintro k1 a w ⟨x3, hS, hF, H⟩
        rw [slices_Equal.l1.eq_2] at H
        refine sq ?_
        refine rg ?_
        refine stp hF (p_lss rfl rfl) (by decide) (fun a hF => ?_)
        refine nilN ?_
        refine xn ?_
        refine sq ?_
        refine cnd hF rfl (fun hc2 => ?_) (fun hc2 => ?_)
        · replace H := hbt hc2 H
          refine skN ?_
          refine xn ?_
          refine sq ?_
          refine blk ?_
          refine sq ?_
          refine rg ?_
          refine stp hF (p_move rfl) (by decide) (fun a hF => ?_)
          refine stp hF (p_assign rfl) (by decide) (fun a hF => ?_)
          refine nilN ?_
          refine xn ?_
          refine sq ?_
          replace hS : St e s0 w.drew [] := hS.drewN 1
          refine drw [0, 1, 2, 3, 4, 5, 6, 7, 8] mixed (by kernel_rfl) (by decide) (hF.cut (L' := [(0, v1), (1, v2), (5, (.int .i64 x3)), (12, (.int .i64 (x1.length : Int))), (13, (.int .i64 x3)), (14, (.bool (decide (x3 < (x1.length : Int))))), (15, (.int .i64 x3))]) ⟨rfl, rfl, rfl, rfl, rfl, rfl, rfl, trivial⟩) ?_
          clear hF
          generalize w.drew = w at hS ⊢
          refine pk1 rfl (by decide) rfl (by kernel_rfl) rfl (p_move rfl) ?_
          refine pk1 rfl (by decide) rfl (by kernel_rfl) rfl (p_move rfl) ?_
          obtain ⟨hq1, H⟩ := hck H
          obtain ⟨ad1, h3, p1⟩ := p_idxr (P := Try.prog) (i := x3) h1 un_24 ti_5 hq1.1 hq1.2
          refine pk1 rfl (by decide) rfl (by kernel_rfl) rfl (p1 rfl rfl) ?_
          refine pk1 rfl (by decide) rfl (by kernel_rfl) rfl (p_ldr_int rfl hS h3 ia_5) ?_
          refine pk1 rfl (by decide) rfl (by kernel_rfl) rfl (p_move rfl) ?_
          refine pk1 rfl (by decide) rfl (by kernel_rfl) rfl (p_move rfl) ?_
          obtain ⟨hq2, H⟩ := hck H
          obtain ⟨ad2, h4, p2⟩ := p_idxr (P := Try.prog) (i := x3) h2 un_24 ti_5 hq2.1 hq2.2
          refine pk1 rfl (by decide) rfl (by kernel_rfl) rfl (p2 rfl rfl) ?_
          refine pk1 rfl (by decide) rfl (by kernel_rfl) rfl (p_ldr_int rfl hS h4 ia_5) ?_
          refine pk1 rfl (by decide) rfl (by kernel_rfl) rfl (p_neq rfl rfl) ?_
          refine pkF (fun a hF => ?_)
          refine xn ?_
          refine cnd hF rfl (fun hc3 => ?_) (fun hc3 => ?_)
          · replace H := hbt hc3 H
            refine sq ?_
            refine rg ?_
            refine stp hF (p_assign rfl) (by decide) (fun a hF => ?_)
            refine nilN ?_
            refine xn ?_
            refine rt ?_
            refine br (xr (xr (br (xr ?_))))
            obtain rfl := hsm H
            have H := hon1 HK1
            obtain rfl := hsm H
            exact ret1 hF rfl rfl hS ⟨rfl, rfl⟩
          · replace H := hbf hc3 H
            refine skN ?_
            refine bn (xn ?_)
            refine rg ?_
            refine stp hF (p_add (c := w64 (x3 + 1)) rfl rfl rfl) (by decide) (fun a hF => ?_)
            refine stp hF (p_move rfl) (by decide) (fun a hF => ?_)
            refine nilN ?_
            refine xn ?_
            exact ⟨(w64 (x3 + 1)), hS, hF.cut ⟨rfl, rfl, rfl, rfl, trivial⟩, H⟩
        · replace H := hbf hc2 H
          refine exi ?_
          refine xe (xe (hit (xn ?_)))
          obtain rfl := hsm H
          exact ⟨hS, hF.cut trivial, HK1⟩
    · clear H HK1 hS hF
      rintro a w ⟨hS, hF, H⟩
      unfold slices_Equal.c1 at H
      refine sq ?_
      refine rg ?_
      refine stp hF (p_assign rfl) (by decide) (fun a hF => ?_)
      refine nilN ?_
      refine xn ?_
      refine rt ?_
      obtain rfl := hsm H
      exact ret1 hF rfl rfl hS ⟨rfl, rfl⟩

def slices_Clone_150.f (k : Nat) (x : (List Int)) : Option (List Int) := if (([] : (List Int))).length + x.length ≤ 140737488355328 then some x else none
set_option maxRecDepth 100000 in
theorem slices_Clone_150.spec (k : Nat) (s0 : HF) (w : World) (x : (List Int)) (v : Value) (h : Sl (Kd.int .u8) s0 v x) (r : (List Int)) (H : slices_Clone_150.f k x = some r) :
    Law Try.prog 150 #[v] s0 w [] (fun v s1 A1 => ∃ (u0 : Value), v = u0 ∧ A1 = [Ow (Kd.int .u8) 5 u0 r]) := by
  unfold slices_Clone_150.f at H
  obtain ⟨hq, H⟩ := hck H
  obtain rfl := hsm H
  refine Law.intro Try.func150 rfl [(0, v)] (Nat.le_of_ble_eq_true rfl) (enter_lk ⟨rfl, trivial⟩) (fun e a hS hF => ?_)
  have hF : Fr 8 a [(0, v)] := hF
  refine sq ?_
  refine rg ?_
  refine stp hF (p_assign rfl) (by decide) (fun a hF => ?_)
  refine nilN ?_
  refine xn ?_
  refine sq ?_
  rcases Sl.cases h with ⟨c, rfl, rfl⟩ | ⟨A, c, hv⟩
  · refine sq ?_
    refine rg ?_
    refine stp hF (p_move rfl) (by decide) (fun a hF => ?_)
    refine stp hF (p_eqnil un_24 rfl rfl) (by decide) (fun a hF => ?_)
    refine nilN ?_
    refine xn ?_
    refine cnd hF rfl (fun hc => ?_) (fun hc => absurd hc (by decide))
    refine sq ?_
    refine rg ?_
    refine stp hF (p_assign rfl) (by decide) (fun a hF => ?_)
    refine nilN ?_
    refine xn ?_
    refine rt ?_
    refine xr ?_
    replace hS := hS.ownNil (Kd.int .u8) 5 none
    exact ret1 hF rfl rfl hS ⟨_, rfl, rfl⟩
  · subst hv
    refine sq ?_
    refine rg ?_
    refine stp hF (p_move rfl) (by decide) (fun a hF => ?_)
    refine stp hF (p_eqnil un_24 rfl rfl) (by decide) (fun a hF => ?_)
    refine nilN ?_
    refine xn ?_
    refine cnd hF rfl (fun hc => absurd hc (by simp)) (fun hc => ?_)
    refine skN ?_
    refine xn ?_
    refine sq ?_
    refine rg ?_
    refine ste hF (e_bslice (kd := (Kd.int .u8)) (et := 5) (ps := []) (vs := []) (cs := []) (xs := ([] : (List Int))) hS rfl (fun w => by kernel_rfl) rfl (by decide) (Nat.le_of_ble_eq_true rfl) (Rows.nil _ _ _ _)) (by decide) (fun v9 w a hR hF => ?_)
    have hS : St e s0 w [Ow (Kd.int .u8) 5 v9 ([] : (List Int))] := hR
    refine stp hF (p_move rfl) (by decide) (fun a hF => ?_)
    refine ste hF (e_append (n := 0) hS rfl rfl rfl (h.src hS) un_24 ti_5 rfl (by decide) (by decide) (Nat.le_trans (Nat.mul_le_mul_right 1 hq) (by decide))) (by decide) (fun v10 w a hR hF => ?_)
    have hS : St e s0 w [Ow (Kd.int .u8) 5 v10 x] := hR
    refine stp hF (p_assign rfl) (by decide) (fun a hF => ?_)
    refine nilN ?_
    refine xn ?_
    refine rt ?_
    exact ret1 hF rfl rfl hS ⟨_, rfl, rfl⟩

def impl_Unframe.f (k : Nat) (x1 : (List Int)) (x2 : Int) : Option ((List Int) × Int × Int) :=
  ((impl_in.f k x2 0 (x1.length : Int)).bind fun x3 => (if (!x3) = true then (some (([] : List Int), x2, 3)) else ((impl_groups.f k x1 x2).bind fun x4 => (if x4.2.2.2 = true then (some (([] : List Int), x2, 1)) else ((impl_GetInt.f k x1 x2).bind fun x5 => (if ((!x5.2.2) || (decide (x5.1 < 0))) = true then (some (([] : List Int), x2, 3)) else (if (decide ((w64 ((x1.length : Int) - x5.2.1)) < (w64 (x5.1 + 4)))) = true then (some (([] : List Int), x2, 1)) else (if 0 ≤ x5.2.1 ∧ x5.2.1 ≤ (w64 (x5.2.1 + x5.1)) ∧ (w64 (x5.2.1 + x5.1)) ≤ (x1.length : Int) then (if 0 ≤ (w64 (x5.2.1 + x5.1)) ∧ (w64 (x5.2.1 + x5.1)) ≤ (w64 ((w64 (x5.2.1 + x5.1)) + 4)) ∧ (w64 ((w64 (x5.2.1 + x5.1)) + 4)) ≤ (x1.length : Int) then ((impl_sumBytes.f k (cut x1 x5.2.1 (w64 (x5.2.1 + x5.1)))).bind fun x6 => ((slices_Equal.f k x6 (cut x1 (w64 (x5.2.1 + x5.1)) (w64 ((w64 (x5.2.1 + x5.1)) + 4)))).bind fun x7 => (if (!x7) = true then (some (([] : List Int), x2, 2)) else (if 0 ≤ x5.2.1 ∧ x5.2.1 ≤ (w64 (x5.2.1 + x5.1)) ∧ (w64 (x5.2.1 + x5.1)) ≤ (x1.length : Int) then ((slices_Clone_150.f k (cut x1 x5.2.1 (w64 (x5.2.1 + x5.1)))).bind fun x8 => (some (x8, w64 ((w64 (x5.2.1 + x5.1)) + 4), 0))) else none)))) else none) else none))))))))
set_option maxRecDepth 100000 in
set_option maxHeartbeats 4000000 in
theorem impl_Unframe.spec (k : Nat) (s0 : HF) (w : World) (x1 : (List Int)) (x2 : Int) (v1 : Value) (h1 : Sl (Kd.int .u8) s0 v1 x1) (r : (List Int) × Int × Int) (H : impl_Unframe.f k x1 x2 = some r) :
    Law Try.prog 97 #[v1, (.int .i64 x2)] s0 w [] (fun v s1 A1 => ∃ (u0 : Value), v = (.tuple #[u0, (.int .i64 r.2.1), (.int .i64 r.2.2)]) ∧ A1 = [Ow (Kd.int .u8) 5 u0 r.1]) := by
  unfold impl_Unframe.f at H
  refine Law.intro Try.func97 rfl [(0, v1), (1, (.int .i64 x2))] (Nat.le_of_ble_eq_true rfl) (enter_lk ⟨rfl, rfl, trivial⟩) (fun e a hS hF => ?_)
  have hF : Fr 78 a [(0, v1), (1, (.int .i64 x2))] := hF
  refine sq ?_
  refine rg ?_
  refine stp hF (p_assign rfl) (by decide) (fun a hF => ?_)
  refine stp hF (p_assign rfl) (by decide) (fun a hF => ?_)
  refine stp hF (p_assign rfl) (by decide) (fun a hF => ?_)
  refine nilN ?_
  refine xn ?_
  refine sq ?_
  refine sq ?_
  refine rg ?_
  refine stp hF (p_move rfl) (by decide) (fun a hF => ?_)
  refine stp hF (p_move rfl) (by decide) (fun a hF => ?_)
  refine stp hF (p_lenr un_24 rfl h1) (by decide) (fun a hF => ?_)
  obtain ⟨x3, hx1, H⟩ := hb H
  refine ste hF (e_callA (fst := []) (vs := [(.int .i64 x2), (.int .i64 0), (.int .i64 (x1.length : Int))]) (cap := []) rfl rfl go_79 (St.call (A := []) (B := []) hS (impl_in.spec k _ _ x2 0 (x1.length : Int) _ hx1)) rfl) (by decide) (fun v w a hR hF => ?_)
  obtain ⟨s2, A2, hg1, hS, hR⟩ := hR
  obtain ⟨hv1, rfl⟩ := hR; obtain rfl := hv1.symm
  have hS : St e s2 w [] := hS
  refine stp hF (p_not rfl) (by decide) (fun a hF => ?_)
  refine nilN ?_
  refine xn ?_
  refine cnd hF rfl (fun hc1 => ?_) (fun hc1 => ?_)
  · replace H := hbt hc1 H
    refine sq ?_
    refine rg ?_
    refine stp hF (p_move rfl) (by decide) (fun a hF => ?_)
    refine stp hF (p_assign rfl) (by decide) (fun a hF => ?_)
    refine stp hF (p_assign rfl) (by decide) (fun a hF => ?_)
    refine stp hF (p_assign rfl) (by decide) (fun a hF => ?_)
    refine nilN ?_
    refine xn ?_
    refine rt ?_
    refine xr ?_
    obtain rfl := hsm H
    replace hS := hS.ownNil (Kd.int .u8) 5 none
    exact ret3 hF rfl rfl rfl rfl hS ⟨(.slice none 0 0), rfl, rfl⟩
  · replace H := hbf hc1 H
    refine skN ?_
    refine xn ?_
    refine sq ?_
    refine sq ?_
    refine rg ?_
    refine stp hF (p_move rfl) (by decide) (fun a hF => ?_)
    refine stp hF (p_move rfl) (by decide) (fun a hF => ?_)
    obtain ⟨x4, hx2, H⟩ := hb H
    refine ste hF (e_callA (fst := []) (vs := [v1, (.int .i64 x2)]) (cap := []) rfl rfl go_149 (St.call (A := []) (B := []) hS (impl_groups.spec k _ _ x1 x2 v1 (h1.mono hg1) _ hx2)) rfl) (by decide) (fun v w a hR hF => ?_)
    obtain ⟨s3, A3, hg2, hS, hR⟩ := hR
    obtain ⟨hv2, rfl⟩ := hR; obtain rfl := hv2.symm
    have hS : St e s3 w [] := hS
    refine stp hF (p_move rfl) (by decide) (fun a hF => ?_)
    refine stp hF (p_extract rfl rfl) (by decide) (fun a hF => ?_)
    refine stp hF (p_extract rfl rfl) (by decide) (fun a hF => ?_)
    refine stp hF (p_extract rfl rfl) (by decide) (fun a hF => ?_)
    refine stp hF (p_extract rfl rfl) (by decide) (fun a hF => ?_)
    refine stp hF (p_assign rfl) (by decide) (fun a hF => ?_)
    refine stp hF (p_assign rfl) (by decide) (fun a hF => ?_)
    refine stp hF (p_assign rfl) (by decide) (fun a hF => ?_)
    refine stp hF (p_assign rfl) (by decide) (fun a hF => ?_)
    refine nilN ?_
    refine xn ?_
    refine sq ?_
    refine rg ?_
    refine stp hF (p_move rfl) (by decide) (fun a hF => ?_)
    refine nilN ?_
    refine xn ?_
    refine cnd hF rfl (fun hc2 => ?_) (fun hc2 => ?_)
    · replace H := hbt hc2 H
      refine sq ?_
      refine rg ?_
      refine stp hF (p_move rfl) (by decide) (fun a hF => ?_)
      refine stp hF (p_assign rfl) (by decide) (fun a hF => ?_)
      refine stp hF (p_assign rfl) (by decide) (fun a hF => ?_)
      refine stp hF (p_assign rfl) (by decide) (fun a hF => ?_)
      refine nilN ?_
      refine xn ?_
      refine rt ?_
      refine xr ?_
      obtain rfl := hsm H
      replace hS := hS.ownNil (Kd.int .u8) 5 none
      exact ret3 hF rfl rfl rfl rfl hS ⟨(.slice none 0 0), rfl, rfl⟩
    · replace H := hbf hc2 H
      refine skN ?_
      refine xn ?_
      refine sq ?_
      refine rg ?_
      refine stp hF (p_move rfl) (by decide) (fun a hF => ?_)
      refine stp hF (p_move rfl) (by decide) (fun a hF => ?_)
      obtain ⟨x5, hx3, H⟩ := hb H
      refine ste hF (e_callA (fst := []) (vs := [v1, (.int .i64 x2)]) (cap := []) rfl rfl go_142 (St.call (A := []) (B := []) hS (impl_GetInt.spec k _ _ x1 x2 v1 ((h1.mono hg1).mono hg2) _ hx3)) rfl) (by decide) (fun v w a hR hF => ?_)
      obtain ⟨s4, A4, hg3, hS, hR⟩ := hR
      obtain ⟨hv3, rfl⟩ := hR; obtain rfl := hv3.symm
      have hS : St e s4 w [] := hS
      refine stp hF (p_move rfl) (by decide) (fun a hF => ?_)
      refine stp hF (p_extract rfl rfl) (by decide) (fun a hF => ?_)
      refine stp hF (p_extract rfl rfl) (by decide) (fun a hF => ?_)
      refine stp hF (p_extract rfl rfl) (by decide) (fun a hF => ?_)
      refine stp hF (p_assign rfl) (by decide) (fun a hF => ?_)
      refine stp hF (p_assign rfl) (by decide) (fun a hF => ?_)
      refine stp hF (p_assign rfl) (by decide) (fun a hF => ?_)
      refine nilN ?_
      refine xn ?_
      refine sq ?_
      refine blk ?_
      refine sq ?_
      refine rg ?_
      refine stp hF (p_move rfl) (by decide) (fun a hF => ?_)
      refine stp hF (p_not rfl) (by decide) (fun a hF => ?_)
      refine stp hF (p_move rfl) (by decide) (fun a hF => ?_)
      refine cutj 3 (fun a w => St e s4 w [] ∧ Fr 78 a [(0, v1), (1, (.int .i64 x2)), (11, (.int .i64 x5.1)), (12, (.int .i64 x5.2.1)), (44, (.bool ((!x5.2.2) || (decide (x5.1 < 0)))))]) rfl rfl ?_ ?_
      · rcases Bool.eq_false_or_eq_true ((!x5.2.2)) with hc3 | hc3
        · skip
          refine gofD (j := 2) hF rfl rfl (by rw [hc3]; decide) (by decide) (fun a hF => ?_)
          refine gofD (j := 2) hF rfl rfl (by rw [hc3]; decide) (by decide) (fun a hF => ?_)
          refine stp hF (p_orT (decide (x5.1 < 0)) rfl hc3 rfl) (by decide) (fun a hF => ?_)
          refine nilN ?_
          refine xn ?_
          exact ⟨hS, hF.cut ⟨rfl, rfl, rfl, rfl, rfl, trivial⟩⟩
        · skip
          refine gonE (j := 2) hF rfl rfl hc3 ?_
          refine stp hF (p_move rfl) (by decide) (fun a hF => ?_)
          refine gonE (j := 2) hF rfl rfl hc3 ?_
          refine stp hF (p_lss rfl rfl) (by decide) (fun a hF => ?_)
          refine stp hF (p_orF rfl hc3 rfl) (by decide) (fun a hF => ?_)
          refine nilN ?_
          refine xn ?_
          exact ⟨hS, hF.cut ⟨rfl, rfl, rfl, rfl, rfl, trivial⟩⟩
      clear hS hF
      rintro a w ⟨hS, hF⟩
      refine stp hF (p_assign rfl) (by decide) (fun a hF => ?_)
      refine nilN ?_
      refine xn ?_
      refine cnd hF rfl (fun hc4 => ?_) (fun hc4 => ?_)
      · replace H := hbt hc4 H
        refine sq ?_
        refine rg ?_
        refine stp hF (p_move rfl) (by decide) (fun a hF => ?_)
        refine stp hF (p_assign rfl) (by decide) (fun a hF => ?_)
        refine stp hF (p_assign rfl) (by decide) (fun a hF => ?_)
        refine stp hF (p_assign rfl) (by decide) (fun a hF => ?_)
        refine nilN ?_
        refine xn ?_
        refine rt ?_
        refine br (xr ?_)
        obtain rfl := hsm H
        replace hS := hS.ownNil (Kd.int .u8) 5 none
        exact ret3 hF rfl rfl rfl rfl hS ⟨(.slice none 0 0), rfl, rfl⟩
      · replace H := hbf hc4 H
        refine sq ?_
        refine rg ?_
        refine stp hF (p_move rfl) (by decide) (fun a hF => ?_)
        refine stp hF (p_lenr un_24 rfl (((h1.mono hg1).mono hg2).mono hg3)) (by decide) (fun a hF => ?_)
        refine stp hF (p_move rfl) (by decide) (fun a hF => ?_)
        refine stp hF (p_sub (c := w64 ((x1.length : Int) - x5.2.1)) rfl rfl rfl) (by decide) (fun a hF => ?_)
        refine stp hF (p_move rfl) (by decide) (fun a hF => ?_)
        refine stp hF (p_add (c := w64 (x5.1 + 4)) rfl rfl rfl) (by decide) (fun a hF => ?_)
        refine stp hF (p_lss rfl rfl) (by decide) (fun a hF => ?_)
        refine stp hF (p_assign rfl) (by decide) (fun a hF => ?_)
        refine nilN ?_
        refine xn ?_
        refine cnd hF rfl (fun hc5 => ?_) (fun hc5 => ?_)
        · replace H := hbt hc5 H
          refine sq ?_
          refine rg ?_
          refine stp hF (p_move rfl) (by decide) (fun a hF => ?_)
          refine stp hF (p_assign rfl) (by decide) (fun a hF => ?_)
          refine stp hF (p_assign rfl) (by decide) (fun a hF => ?_)
          refine stp hF (p_assign rfl) (by decide) (fun a hF => ?_)
          refine nilN ?_
          refine xn ?_
          refine rt ?_
          refine br (xr ?_)
          obtain rfl := hsm H
          replace hS := hS.ownNil (Kd.int .u8) 5 none
          exact ret3 hF rfl rfl rfl rfl hS ⟨(.slice none 0 0), rfl, rfl⟩
        · replace H := hbf hc5 H
          refine skN ?_
          refine bn (xn ?_)
          refine sq ?_
          refine rg ?_
          refine stp hF (p_move rfl) (by decide) (fun a hF => ?_)
          refine stp hF (p_move rfl) (by decide) (fun a hF => ?_)
          refine stp hF (p_add (c := w64 (x5.2.1 + x5.1)) rfl rfl rfl) (by decide) (fun a hF => ?_)
          refine stp hF (p_assign rfl) (by decide) (fun a hF => ?_)
          refine nilN ?_
          refine xn ?_
          refine sq ?_
          refine sq ?_
          replace hS : St e s4 w.drew [] := hS.drewN 1
          refine drw [0, 1, 2, 3, 4, 5, 6, 7, 8, 9, 10, 11] mixed (by kernel_rfl) (by decide) (hF.cut (L' := [(0, v1), (1, (.int .i64 x2)), (11, (.int .i64 x5.1)), (12, (.int .i64 x5.2.1)), (14, (.int .i64 (w64 (x5.2.1 + x5.1)))), (38, (.bool ((!x5.2.2) || (decide (x5.1 < 0))))), (44, (.bool ((!x5.2.2) || (decide (x5.1 < 0))))), (46, (.bool (decide ((w64 ((x1.length : Int) - x5.2.1)) < (w64 (x5.1 + 4)))))), (47, v1), (48, (.int .i64 (x1.length : Int))), (49, (.int .i64 x5.2.1)), (50, (.int .i64 (w64 ((x1.length : Int) - x5.2.1)))), (51, (.int .i64 x5.1)), (52, (.int .i64 (w64 (x5.1 + 4)))), (53, (.bool (decide ((w64 ((x1.length : Int) - x5.2.1)) < (w64 (x5.1 + 4)))))), (55, (.int .i64 x5.2.1)), (56, (.int .i64 x5.1)), (57, (.int .i64 (w64 (x5.2.1 + x5.1))))]) ⟨rfl, rfl, rfl, rfl, rfl, rfl, rfl, rfl, rfl, rfl, rfl, rfl, rfl, rfl, rfl, rfl, rfl, rfl, trivial⟩) ?_
          clear hF
          generalize w.drew = w at hS ⊢
          refine pk1 rfl (by decide) rfl (by kernel_rfl) rfl (p_move rfl) ?_
          refine pk1 rfl (by decide) rfl (by kernel_rfl) rfl (p_move rfl) ?_
          refine pk1 rfl (by decide) rfl (by kernel_rfl) rfl (p_move rfl) ?_
          obtain ⟨hq1, H⟩ := hck H
          obtain ⟨v2, h2, p1⟩ := p_slr (i := x5.2.1) (j := (w64 (x5.2.1 + x5.1))) un_24 ti_5 (((h1.mono hg1).mono hg2).mono hg3) hq1.1 hq1.2.1 hq1.2.2
          refine pk1 rfl (by decide) rfl (by kernel_rfl) rfl (p1 rfl rfl rfl) ?_
          refine pkPerm [5, 4, 6, 7, 8, 9, 10, 11] (by kernel_rfl) ?_
          refine pk1 rfl (by decide) rfl (by kernel_rfl) rfl (p_move rfl) ?_
          refine pkPerm [6, 4, 7, 8, 9, 10, 11] (by kernel_rfl) ?_
          refine pk1 rfl (by decide) rfl (by kernel_rfl) rfl (p_move rfl) ?_
          refine pkPerm [7, 4, 8, 9, 10, 11] (by kernel_rfl) ?_
          refine pk1 rfl (by decide) rfl (by kernel_rfl) rfl (p_move rfl) ?_
          refine pkPerm [8, 4, 9, 10, 11] (by kernel_rfl) ?_
          refine pk1 rfl (by decide) rfl (by kernel_rfl) rfl (p_add (c := w64 ((w64 (x5.2.1 + x5.1)) + 4)) rfl rfl rfl) ?_
          refine pkPerm [9, 4, 10, 11] (by kernel_rfl) ?_
          obtain ⟨hq2, H⟩ := hck H
          obtain ⟨v3, h3, p2⟩ := p_slr (i := (w64 (x5.2.1 + x5.1))) (j := (w64 ((w64 (x5.2.1 + x5.1)) + 4))) un_24 ti_5 (((h1.mono hg1).mono hg2).mono hg3) hq2.1 hq2.2.1 hq2.2.2
          refine pk1 rfl (by decide) rfl (by kernel_rfl) rfl (p2 rfl rfl rfl) ?_
          obtain ⟨x6, hx4, H⟩ := hb H
          refine pkE [9, 8, 7, 6, 5, 2, 1, 0] rfl (by decide) (by kernel_rfl) (by kernel_rfl) (e_callA (fst := []) (vs := [v2]) (cap := []) rfl rfl go_135 (St.call (A := []) (B := []) hS (impl_sumBytes.spec k _ _ (cut x1 x5.2.1 (w64 (x5.2.1 + x5.1))) v2 h2 _ hx4)) rfl) ?_
          intro v w hR
          obtain ⟨s5, A5, hg4, hS, hR⟩ := hR
          obtain ⟨v4, hv4, rfl⟩ := hR; obtain rfl := hv4.symm
          have hS : St e s5 w [Ow (Kd.int .u8) 5 v4 x6] := hS
          refine ⟨⟨knw rfl rfl rfl (p2 rfl rfl rfl), ⟨knw rfl rfl rfl (p_add (c := w64 ((w64 (x5.2.1 + x5.1)) + 4)) rfl rfl rfl), ⟨knw rfl rfl rfl (p_move rfl), ⟨knw rfl rfl rfl (p_move rfl), ⟨knw rfl rfl rfl (p_move rfl), ⟨knw rfl rfl rfl (p_move rfl), ⟨knw rfl rfl rfl (p_move rfl), ⟨knw rfl rfl rfl (p_move rfl), trivial⟩⟩⟩⟩⟩⟩⟩⟩, ?_⟩
          obtain ⟨s6, hg5, hl1, hcall1⟩ := St.lend (P := Try.prog) (Bs := [Ow (Kd.int .u8) 5 v4 x6]) (A := []) (B := []) hS
          obtain ⟨h4, hl1⟩ := hl1.ow hg5
          obtain ⟨x7, hx5, H⟩ := hb H
          refine pkE [8, 7, 6, 5, 2, 1, 0] rfl (by decide) (by kernel_rfl) (by kernel_rfl) (e_callA (fst := []) (vs := [v4, v3]) (cap := []) rfl rfl go_118 (hcall1 (slices_Equal.spec k _ _ x6 (cut x1 (w64 (x5.2.1 + x5.1)) (w64 ((w64 (x5.2.1 + x5.1)) + 4))) v4 v3 h4 ((h3.mono hg4).mono hg5) _ hx5) (by rintro v s1 A1 ⟨rfl, rfl⟩; exact trivial)) rfl) ?_
          intro v w hR
          obtain ⟨s7, s8, A6, hg6, hS, hR⟩ := hR
          obtain ⟨hv5, rfl⟩ := hR; obtain rfl := hv5.symm
          have hS : St e s7 w [Ow (Kd.int .u8) 5 v4 x6] := hS
          refine ⟨⟨knw rfl rfl rfl (p_add (c := w64 ((w64 (x5.2.1 + x5.1)) + 4)) rfl rfl rfl), ⟨knw rfl rfl rfl (p_move rfl), ⟨knw rfl rfl rfl (p_move rfl), ⟨knw rfl rfl rfl (p_move rfl), ⟨knw rfl rfl rfl (p_move rfl), ⟨knw rfl rfl rfl (p_move rfl), ⟨knw rfl rfl rfl (p_move rfl), trivial⟩⟩⟩⟩⟩⟩⟩, ?_⟩
          refine pk1 rfl (by decide) rfl (by kernel_rfl) rfl (p_not rfl) ?_
          refine pkF (fun a hF => ?_)
          refine xn ?_
          refine cnd hF rfl (fun hc6 => ?_) (fun hc6 => ?_)
          · replace H := hbt hc6 H
            refine sq ?_
            refine rg ?_
            refine stp hF (p_move rfl) (by decide) (fun a hF => ?_)
            refine stp hF (p_assign rfl) (by decide) (fun a hF => ?_)
            refine stp hF (p_assign rfl) (by decide) (fun a hF => ?_)
            refine stp hF (p_assign rfl) (by decide) (fun a hF => ?_)
            refine nilN ?_
            refine xn ?_
            refine rt ?_
            refine xr ?_
            obtain rfl := hsm H
            replace hS := hS.ownNil (Kd.int .u8) 5 none
            replace hS := hS.sel (is := [0]) (A' := [Ow (Kd.int .u8) 5 (.slice none 0 0) ([] : List Int)]) rfl
            exact ret3 hF rfl rfl rfl rfl hS ⟨(.slice none 0 0), rfl, rfl⟩
          · replace H := hbf hc6 H
            refine skN ?_
            refine xn ?_
            refine sq ?_
            refine rg ?_
            refine stp hF (p_move rfl) (by decide) (fun a hF => ?_)
            refine stp hF (p_move rfl) (by decide) (fun a hF => ?_)
            refine stp hF (p_move rfl) (by decide) (fun a hF => ?_)
            obtain ⟨hq3, H⟩ := hck H
            obtain ⟨v5, h5, p3⟩ := p_slr (i := x5.2.1) (j := (w64 (x5.2.1 + x5.1))) un_24 ti_5 (((((h1.mono hg1).mono hg2).mono hg3).mono hg4).mono hg6) hq3.1 hq3.2.1 hq3.2.2
            refine stp hF (p3 rfl rfl rfl) (by decide) (fun a hF => ?_)
            obtain ⟨x8, hx6, H⟩ := hb H
            refine ste hF (e_callA (fst := []) (vs := [v5]) (cap := []) rfl rfl go_150 (St.call (A := []) (B := [Ow (Kd.int .u8) 5 v4 x6]) hS (slices_Clone_150.spec k _ _ (cut x1 x5.2.1 (w64 (x5.2.1 + x5.1))) v5 h5 _ hx6)) rfl) (by decide) (fun v w a hR hF => ?_)
            obtain ⟨s9, A7, hg7, hS, hR⟩ := hR
            obtain ⟨v6, hv6, rfl⟩ := hR; obtain rfl := hv6.symm
            have hS : St e s9 w [Ow (Kd.int .u8) 5 v6 x8, Ow (Kd.int .u8) 5 v4 x6] := hS
            refine stp hF (p_move rfl) (by decide) (fun a hF => ?_)
            refine stp hF (p_add (c := w64 ((w64 (x5.2.1 + x5.1)) + 4)) rfl rfl rfl) (by decide) (fun a hF => ?_)
            refine stp hF (p_assign rfl) (by decide) (fun a hF => ?_)
            refine stp hF (p_assign rfl) (by decide) (fun a hF => ?_)
            refine stp hF (p_assign rfl) (by decide) (fun a hF => ?_)
            refine nilN ?_
            refine xn ?_
            refine rt ?_
            obtain rfl := hsm H
            replace hS := hS.sel (is := [0]) (A' := [Ow (Kd.int .u8) 5 v6 x8]) rfl
            exact ret3 hF rfl rfl rfl rfl hS ⟨v6, rfl, rfl⟩

def impl_GetPage.c1 (k : Nat) (x1 : Int × (List Int) × Int × Bool) (x2 : (List TSlot)) (x3 : Bool) : Option (TPage × Bool) :=
  (if x3 = true then (some ((⟨0, zv_47⟩ : TPage), false)) else (some ((⟨x1.1, x2⟩ : TPage), true)))
def impl_GetPage.c2 (k : Nat) (x1 : Int × (List Int) × Int × Bool) (x2 : (List TSlot)) (x4 : (List Int)) (x5 : Int) (x6 : Bool) : Option (TPage × Bool) :=
  ((impl_reader_done.f k x4 x5 x6).bind fun x7 => ((if (!x7.1) = true then (some true) else ((impl_PageOk.f k (⟨x1.1, x2⟩ : TPage)).bind fun x8 => (some (!x8))) : Option Bool).bind fun x9 => impl_GetPage.c1 k x1 x2 x9))
def impl_GetPage.l1 : Nat → (List TSlot) → (List Int) → Int → Bool → Int → Option ((List TSlot) × (List Int) × Int × Bool)
  | 0, _, _, _, _, _ => none
  | k + 1, x10, x11, x12, x13, x14 => (if (decide (x14 < 4)) = true then ((impl_reader_slot.f k x11 x12 x13).bind fun x15 => (if 0 ≤ x14 ∧ x14 < 4 then ((impl_GetPage.l1 k) (wr x10 x14 (⟨x15.1.Has, (⟨x15.1.O.Kind, x15.1.O.Ints, x15.1.O.Refs⟩ : TObj)⟩ : TSlot)) x15.2.1 x15.2.2.1 x15.2.2.2 (w64 (x14 + 1))) else none)) else (some (x10, x11, x12, x13)))
def impl_GetPage.f (k : Nat) (x16 : (List Int)) : Option (TPage × Bool) :=
  ((impl_Unframe.f k x16 0).bind fun x17 => (if ((decide (x17.2.2 ≠ 0)) || (decide (x17.2.1 ≠ (x16.length : Int)))) = true then (some ((⟨0, zv_47⟩ : TPage), false)) else ((impl_reader_one.f k x17.1 0 false).bind fun x1 => (((impl_GetPage.l1 k zv_47 x1.2.1 x1.2.2.1 x1.2.2.2 0) : Option ((List TSlot) × (List Int) × Int × Bool)).bind fun x18 => impl_GetPage.c2 k x1 x18.1 x18.2.1 x18.2.2.1 x18.2.2.2))))
set_option maxRecDepth 100000 in
set_option maxHeartbeats 4000000 in
theorem impl_GetPage.spec (k : Nat) (s0 : HF) (w : World) (x16 : (List Int)) (v1 : Value) (h1 : Sl (Kd.int .u8) s0 v1 x16) (r : TPage × Bool) (H : impl_GetPage.f k x16 = some r) :
    Law Try.prog 32 #[v1] s0 w [] (fun v s1 A1 => ∃ (u0 : List Value), v = (.tuple #[(.agg ([(.int .i64 r.1.Lsn)] ++ u0 : List Value).toArray), (.bool r.2)]) ∧ A1 = [] ∧ ((Kd.arr 4 kTSlot)).K s1 r.1.Slots u0) := by
  unfold impl_GetPage.f at H
  refine Law.intro Try.func32 rfl [(0, v1)] (Nat.le_of_ble_eq_true rfl) (enter_lk ⟨rfl, trivial⟩) (fun e a hS hF => ?_)
  have hF : Fr 50 a [(0, v1)] := hF
  refine sq ?_
  refine rg ?_
  refine ste hF (e_alloc (cs := [(.int .i64 0)] ++ za_47) hS ti_49 rfl) (by decide) (fun v w a hR hF => ?_)
  obtain ⟨g1, rfl, hS⟩ := hR
  refine stp hF (p_assign rfl) (by decide) (fun a hF => ?_)
  refine nilN ?_
  refine xn ?_
  refine sq ?_
  refine rg ?_
  refine stp hF (p_move rfl) (by decide) (fun a hF => ?_)
  obtain ⟨x17, hx1, H⟩ := hb H
  refine ste hF (e_callA (fst := []) (vs := [v1, (.int .i64 0)]) (cap := []) rfl rfl go_97 (St.call (A := []) (B := [pt g1 49 ([(.int .i64 0)] ++ za_47)]) hS (impl_Unframe.spec k _ _ x16 0 v1 h1 _ hx1)) rfl) (by decide) (fun v w a hR hF => ?_)
  obtain ⟨s2, A2, hg1, hS, hR⟩ := hR
  obtain ⟨v2, hv1, rfl⟩ := hR; obtain rfl := hv1.symm
  have hS : St e s2 w [Ow (Kd.int .u8) 5 v2 x17.1, pt g1 49 ([(.int .i64 0)] ++ za_47)] := hS
  refine stp hF (p_move rfl) (by decide) (fun a hF => ?_)
  refine stp hF (p_extract rfl rfl) (by decide) (fun a hF => ?_)
  refine stp hF (p_extract rfl rfl) (by decide) (fun a hF => ?_)
  refine stp hF (p_extract rfl rfl) (by decide) (fun a hF => ?_)
  refine stp hF (p_assign rfl) (by decide) (fun a hF => ?_)
  refine stp hF (p_assign rfl) (by decide) (fun a hF => ?_)
  refine stp hF (p_assign rfl) (by decide) (fun a hF => ?_)
  refine nilN ?_
  refine xn ?_
  refine sq ?_
  refine sq ?_
  refine rg ?_
  refine stp hF (p_move rfl) (by decide) (fun a hF => ?_)
  refine stp hF (p_neq rfl rfl) (by decide) (fun a hF => ?_)
  refine stp hF (p_move rfl) (by decide) (fun a hF => ?_)
  refine cutj 5 (fun a w => St e s2 w [Ow (Kd.int .u8) 5 v2 x17.1, pt g1 49 ([(.int .i64 0)] ++ za_47)] ∧ Fr 50 a [(2, (.pointer (some ⟨g1, 0, none⟩))), (4, v2), (23, (.bool ((decide (x17.2.2 ≠ 0)) || (decide (x17.2.1 ≠ (x16.length : Int))))))]) rfl rfl ?_ ?_
  · rcases Bool.eq_false_or_eq_true (decide (x17.2.2 ≠ 0)) with hc1 | hc1
    · skip
      refine gofD (j := 2) hF rfl rfl (by rw [hc1]; decide) (by decide) (fun a hF => ?_)
      refine gofD (j := 2) hF rfl rfl (by rw [hc1]; decide) (by decide) (fun a hF => ?_)
      refine gofD (j := 2) hF rfl rfl (by rw [hc1]; decide) (by decide) (fun a hF => ?_)
      refine gofD (j := 2) hF rfl rfl (by rw [hc1]; decide) (by decide) (fun a hF => ?_)
      refine stp hF (p_orT (decide (x17.2.1 ≠ (x16.length : Int))) rfl hc1 rfl) (by decide) (fun a hF => ?_)
      refine nilN ?_
      refine xn ?_
      exact ⟨hS, hF.cut ⟨rfl, rfl, rfl, trivial⟩⟩
    · skip
      refine gonE (j := 2) hF rfl rfl hc1 ?_
      refine stp hF (p_move rfl) (by decide) (fun a hF => ?_)
      refine gonE (j := 2) hF rfl rfl hc1 ?_
      refine stp hF (p_move rfl) (by decide) (fun a hF => ?_)
      refine gonE (j := 2) hF rfl rfl hc1 ?_
      refine stp hF (p_lenr un_24 rfl (h1.mono hg1)) (by decide) (fun a hF => ?_)
      refine gonE (j := 2) hF rfl rfl hc1 ?_
      refine stp hF (p_neq rfl rfl) (by decide) (fun a hF => ?_)
      refine stp hF (p_orF rfl hc1 rfl) (by decide) (fun a hF => ?_)
      refine nilN ?_
      refine xn ?_
      exact ⟨hS, hF.cut ⟨rfl, rfl, rfl, trivial⟩⟩
  clear hS hF
  rintro a w ⟨hS, hF⟩
  refine nilN ?_
  refine xn ?_
  refine cnd hF rfl (fun hc2 => ?_) (fun hc2 => ?_)
  · replace H := hbt hc2 H
    refine sq ?_
    refine rg ?_
    refine stp hF (p_build (ps := []) (vs := []) (v := (.agg ([(.int .i64 0)] ++ za_47 : List Value).toArray)) rfl (by intro w; kernel_rfl)) (by decide) (fun a hF => ?_)
    refine ste0 hF (e_stb (i := 1) (l := []) (m := [(.int .i64 0)] ++ za_47) (r := []) (m' := [(.int .i64 0)] ++ za_47) (cs' := [(.int .i64 0)] ++ za_47) hS rfl rfl rfl ti_49 (by simp) (by simp [zl_47]) (by simp [zl_47]) rfl (by simp [zl_47]) (one_app (one_cons rfl one_nil) (Kd.one _ ((Kd.arr 4 kTSlot).mono hg1 (zk_47 s0)))) (by simp)) (fun v w a hR hF => ?_)
    have hS : St e s2 w [pt g1 49 ([(.int .i64 0)] ++ za_47), Ow (Kd.int .u8) 5 v2 x17.1] := hR
    refine stp hF (p_assign rfl) (by decide) (fun a hF => ?_)
    refine nilN ?_
    refine xn ?_
    refine rt ?_
    refine xr ?_
    obtain rfl := hsm H
    have h2 : RvOk Try.prog _ w (.cell 2 49) _ := rvC (i := 0) hS rfl (show lk [(2, (.pointer (some ⟨g1, 0, none⟩))), (3, (.bool false))] 2 = _ from rfl) ia_49 ti_49 (by simp [zl_47])
    replace hS := hS.sel (is := []) (A' := []) rfl
    exact retc2 hF rfl h2 (rvT rfl) hS ⟨za_47, rfl, rfl, ((Kd.arr 4 kTSlot).mono hg1 (zk_47 s0))⟩
  · replace H := hbf hc2 H
    refine skN ?_
    refine xn ?_
    refine sq ?_
    refine rg ?_
    refine stp hF (p_move rfl) (by decide) (fun a hF => ?_)
    refine stp hF (p_build (ps := [(0, (.tmp 25))]) (vs := [(0, v2)]) (v := (.agg #[v2, (.int .i64 0), (.bool false)])) rfl (by intro w; obtain ⟨_, _, _, e1⟩ := hS.el (i := 0) rfl; rw [e1]; kernel_rfl)) (by decide) (fun a hF => ?_)
    refine ste hF (e_box (cs := [v2, (.int .i64 0), (.bool false)]) hS rfl rfl) (by decide) (fun v w a hR hF => ?_)
    obtain ⟨g2, rfl, hS⟩ := hR
    refine stp hF (p_assign rfl) (by decide) (fun a hF => ?_)
    refine nilN ?_
    refine xn ?_
    refine sq ?_
    refine rg ?_
    refine stp hF (p_move rfl) (by decide) (fun a hF => ?_)
    obtain ⟨s3, hg2, h3, hS⟩ := hS.freeze (i := 1) (kd := (Kd.int .u8)) (et := 5) (v := v2) (xs := x17.1) (B := [pt g2 99 ([v2, (.int .i64 0), (.bool false)]), pt g1 49 ([(.int .i64 0)] ++ za_47)]) rfl
    obtain ⟨x1, hx2, H⟩ := hb H
    refine ste hF (e_callA (fst := []) (vs := [(.pointer (some ⟨g2, 0, none⟩))]) (cap := []) rfl rfl go_85 (St.call (A := [pt g2 99 ([v2, (.int .i64 0), (.bool false)])]) (B := [pt g1 49 ([(.int .i64 0)] ++ za_47)]) hS (impl_reader_one.spec k _ _ x17.1 0 false v2 g2 h3 _ hx2)) rfl) (by decide) (fun v w a hR hF => ?_)
    obtain ⟨s4, A3, hg3, hS, hR⟩ := hR
    obtain ⟨v3, hv2, rfl, h4⟩ := hR; obtain rfl := hv2.symm
    have hS : St e s4 w [pt g2 99 ([v3, (.int .i64 x1.2.2.1), (.bool x1.2.2.2)]), pt g1 49 ([(.int .i64 0)] ++ za_47)] := hS
    refine stp hF (p_build (ps := [(0, (.tmp 29))]) (vs := [(0, (.int .i64 x1.1))]) (v := (.agg ([(.int .i64 x1.1)] ++ za_47 : List Value).toArray)) rfl (by intro w; kernel_rfl)) (by decide) (fun a hF => ?_)
    refine ste hF (e_alloc (cs := [(.int .i64 0)] ++ za_47) hS ti_49 rfl) (by decide) (fun v w a hR hF => ?_)
    obtain ⟨g3, rfl, hS⟩ := hR
    refine ste0 hF (e_stb (i := 0) (l := []) (m := [(.int .i64 0)] ++ za_47) (r := []) (m' := [(.int .i64 x1.1)] ++ za_47) (cs' := [(.int .i64 x1.1)] ++ za_47) hS rfl rfl rfl ti_49 (by simp) (by simp [zl_47]) (by simp [zl_47]) rfl (by simp [zl_47]) (one_app (one_cons rfl one_nil) (Kd.one _ ((Kd.arr 4 kTSlot).mono hg3 ((Kd.arr 4 kTSlot).mono hg2 ((Kd.arr 4 kTSlot).mono hg1 (zk_47 s0)))))) (by simp)) (fun v w a hR hF => ?_)
    have hS : St e s4 w [pt g3 49 ([(.int .i64 x1.1)] ++ za_47), pt g2 99 ([v3, (.int .i64 x1.2.2.1), (.bool x1.2.2.2)]), pt g1 49 ([(.int .i64 0)] ++ za_47)] := hR
    refine nilN ?_
    refine xn ?_
    obtain ⟨x18, H, HK1⟩ := hb H
    refine sqj (fun a w => ∃ (x2 : (List TSlot)) (x4 : (List Int)) (x5 : Int) (x6 : Bool) (s5 : HF) (c3 : List Value) (v4 : Value) , St e s5 w [pt g3 49 ([(.int .i64 x1.1)] ++ c3), pt g2 99 ([v4, (.int .i64 x5), (.bool x6)]), pt g1 49 ([(.int .i64 0)] ++ za_47)] ∧ Fr 50 a [(2, (.pointer (some ⟨g1, 0, none⟩))), (7, (.pointer (some ⟨g2, 0, none⟩))), (8, (.pointer (some ⟨g3, 0, none⟩)))] ∧ Sub s4 s5 ∧ ((Kd.arr 4 kTSlot)).K s5 x2 c3 ∧ Sl (Kd.int .u8) s5 v4 x4 ∧ impl_GetPage.c2 k x1 x2 x4 x5 x6 = some r) ?_ ?_
    · skip
      refine sq ?_
      refine rg ?_
      refine stp hF (p_move rfl) (by decide) (fun a hF => ?_)
      refine nilN ?_
      refine xn ?_
      refine blk ?_
      refine loop_ind (fun k1 a w => ∃ (x10 : (List TSlot)) (x11 : (List Int)) (x12 : Int) (x13 : Bool) (x14 : Int) (s6 : HF) (c4 : List Value) (v5 : Value) , St e s6 w [pt g3 49 ([(.int .i64 x1.1)] ++ c4), pt g2 99 ([v5, (.int .i64 x12), (.bool x13)]), pt g1 49 ([(.int .i64 0)] ++ za_47)] ∧ Fr 50 a [(2, (.pointer (some ⟨g1, 0, none⟩))), (7, (.pointer (some ⟨g2, 0, none⟩))), (8, (.pointer (some ⟨g3, 0, none⟩))), (31, (.int .i64 x14))] ∧ Sub s4 s6 ∧ ((Kd.arr 4 kTSlot)).K s6 x10 c4 ∧ Sl (Kd.int .u8) s6 v5 x11 ∧ impl_GetPage.l1 k1 x10 x11 x12 x13 x14 = some x18) k ?_ ?_ ?_
      · skip
        exact ⟨zv_47, x1.2.1, x1.2.2.1, x1.2.2.2, 0, s4, za_47, v3, hS, hF.cut ⟨rfl, rfl, rfl, rfl, trivial⟩, (Sub.refl _), ((Kd.arr 4 kTSlot).mono hg3 ((Kd.arr 4 kTSlot).mono hg2 ((Kd.arr 4 kTSlot).mono hg1 (zk_47 s0)))), h4, H⟩
      · clear H hS hF
        rintro a w ⟨x10, x11, x12, x13, x14, s6, c4, v5, hS, hF, hg4, h5, h6, H⟩
        exact absurd (show none = some _ from H) (by simp)
      · clear H hS hF
        rintro k1 a w ⟨x10, x11, x12, x13, x14, s6, c4, v5, hS, hF, hg4, h5, h6, H⟩
        rw [impl_GetPage.l1.eq_2] at H
        refine sq ?_
        refine rg ?_
        refine stp hF (p_lss rfl rfl) (by decide) (fun a hF => ?_)
        refine nilN ?_
        refine xn ?_
        refine sq ?_
        refine cnd hF rfl (fun hc3 => ?_) (fun hc3 => ?_)
        · replace H := hbt hc3 H
          refine skN ?_
          refine xn ?_
          refine sq ?_
          refine blk ?_
          refine sq ?_
          refine rg ?_
          refine stp hF (p_move rfl) (by decide) (fun a hF => ?_)
          refine stp hF (p_assign rfl) (by decide) (fun a hF => ?_)
          refine nilN ?_
          refine xn ?_
          refine rg ?_
          refine stp hF (p_move rfl) (by decide) (fun a hF => ?_)
          refine stp hF (p_move rfl) (by decide) (fun a hF => ?_)
          replace hS := hS.sel (is := [1, 0, 0]) (A' := [pt g2 99 ([v5, (.int .i64 x12), (.bool x13)]), pt g3 49 ([(.int .i64 x1.1)] ++ c4), pt g1 49 ([(.int .i64 0)] ++ za_47)]) rfl
          obtain ⟨x15, hx3, H⟩ := hb H
          refine ste hF (e_callA (fst := []) (vs := [(.pointer (some ⟨g2, 0, none⟩))]) (cap := []) rfl rfl go_86 (St.call (A := [pt g2 99 ([v5, (.int .i64 x12), (.bool x13)])]) (B := [pt g3 49 ([(.int .i64 x1.1)] ++ c4), pt g1 49 ([(.int .i64 0)] ++ za_47)]) hS (impl_reader_slot.spec k1 _ _ x11 x12 x13 v5 g2 h6 _ hx3)) rfl) (by decide) (fun v w a hR hF => ?_)
          obtain ⟨s7, A4, hg5, hS, hR⟩ := hR
          obtain ⟨v6, v7, v8, hv3, rfl, h7⟩ := hR; obtain rfl := hv3.symm
          have hS : St e s7 w [pt g2 99 ([v6, (.int .i64 x15.2.2.1), (.bool x15.2.2.2)]), Ow (Kd.int .i64) 3 v7 x15.1.O.Ints, Ow (Kd.int .i64) 3 v8 x15.1.O.Refs, pt g3 49 ([(.int .i64 x1.1)] ++ c4), pt g1 49 ([(.int .i64 0)] ++ za_47)] := hS
          refine stp hF (p_fldb (o' := 1) rfl fi_49_1 rfl) (by decide) (fun a hF => ?_)
          obtain ⟨hq1, H⟩ := hck H
          refine stp hF (p_idxb rfl rfl un_47 ti_38 hq1.1 hq1.2) (by decide) (fun a hF => ?_)
          obtain ⟨s8, hg6, h8, hS⟩ := hS.freeze (i := 1) (kd := (Kd.int .i64)) (et := 3) (v := v7) (xs := x15.1.O.Ints) (B := [pt g2 99 ([v6, (.int .i64 x15.2.2.1), (.bool x15.2.2.2)]), Ow (Kd.int .i64) 3 v8 x15.1.O.Refs, pt g3 49 ([(.int .i64 x1.1)] ++ c4), pt g1 49 ([(.int .i64 0)] ++ za_47)]) rfl
          obtain ⟨s9, hg7, h9, hS⟩ := hS.freeze (i := 1) (kd := (Kd.int .i64)) (et := 3) (v := v8) (xs := x15.1.O.Refs) (B := [pt g2 99 ([v6, (.int .i64 x15.2.2.1), (.bool x15.2.2.2)]), pt g3 49 ([(.int .i64 x1.1)] ++ c4), pt g1 49 ([(.int .i64 0)] ++ za_47)]) rfl
          refine ste0 hF (e_stba (n := 1) (l := [(.int .i64 x1.1)]) (cs := c4) (r := []) (base := 1) (y0 := (⟨x15.1.Has, (⟨x15.1.O.Kind, x15.1.O.Ints, x15.1.O.Refs⟩ : TObj)⟩ : TSlot)) hS rfl (by simp) ((Kd.arr 4 kTSlot).mono hg7 ((Kd.arr 4 kTSlot).mono hg6 ((Kd.arr 4 kTSlot).mono hg5 h5))) (Lens.idx 4 kTSlot x14 hq1.1 hq1.2) rfl rfl rfl rfl ti_38 rfl (kTSlot_mk (x := (⟨x15.1.Has, (⟨x15.1.O.Kind, x15.1.O.Ints, x15.1.O.Refs⟩ : TObj)⟩ : TSlot)) (h8.mono hg7) h9)) (fun v w a hR hF => ?_)
          obtain ⟨c5, h10, hS⟩ := hR
          replace h10 : ((Kd.arr 4 kTSlot)).K s9 (wr x10 x14 (⟨x15.1.Has, (⟨x15.1.O.Kind, x15.1.O.Ints, x15.1.O.Refs⟩ : TObj)⟩ : TSlot)) c5 := h10
          replace hS : St e s9 w [pt g3 49 ([(.int .i64 x1.1)] ++ c5), pt g2 99 ([v6, (.int .i64 x15.2.2.1), (.bool x15.2.2.2)]), pt g1 49 ([(.int .i64 0)] ++ za_47)] := (by simpa using hS)
          refine nilN ?_
          refine bn (xn ?_)
          refine rg ?_
          refine stp hF (p_add (c := w64 (x14 + 1)) rfl rfl rfl) (by decide) (fun a hF => ?_)
          refine stp hF (p_move rfl) (by decide) (fun a hF => ?_)
          refine nilN ?_
          refine xn ?_
          exact ⟨(wr x10 x14 (⟨x15.1.Has, (⟨x15.1.O.Kind, x15.1.O.Ints, x15.1.O.Refs⟩ : TObj)⟩ : TSlot)), x15.2.1, x15.2.2.1, x15.2.2.2, (w64 (x14 + 1)), s9, c5, v6, hS, hF.cut ⟨rfl, rfl, rfl, rfl, trivial⟩, (((hg4.trans hg5).trans hg6).trans hg7), h10, ((h7.mono hg6).mono hg7), H⟩
        · replace H := hbf hc3 H
          refine exi ?_
          refine xe (xe (hit (xn ?_)))
          obtain rfl := hsm H
          exact ⟨x10, x11, x12, x13, s6, c4, v5, hS, hF.cut ⟨rfl, rfl, rfl, trivial⟩, hg4, h5, h6, HK1⟩
    · clear H HK1 hS hF
      rintro a w ⟨x2, x4, x5, x6, s5, c3, v4, hS, hF, hg8, h11, h12, H⟩
      unfold impl_GetPage.c2 at H
      refine sq ?_
      refine sq ?_
      refine rg ?_
      refine stp hF (p_move rfl) (by decide) (fun a hF => ?_)
      replace hS := hS.sel (is := [1, 0, 0]) (A' := [pt g2 99 ([v4, (.int .i64 x5), (.bool x6)]), pt g3 49 ([(.int .i64 x1.1)] ++ c3), pt g1 49 ([(.int .i64 0)] ++ za_47)]) rfl
      obtain ⟨x7, hx4, H⟩ := hb H
      refine ste hF (e_callA (fst := []) (vs := [(.pointer (some ⟨g2, 0, none⟩))]) (cap := []) rfl rfl go_88 (St.call (A := [pt g2 99 ([v4, (.int .i64 x5), (.bool x6)])]) (B := [pt g3 49 ([(.int .i64 x1.1)] ++ c3), pt g1 49 ([(.int .i64 0)] ++ za_47)]) hS (impl_reader_done.spec k _ _ x4 x5 x6 v4 g2 h12 _ hx4)) rfl) (by decide) (fun v w a hR hF => ?_)
      obtain ⟨s10, A5, hg9, hS, hR⟩ := hR
      obtain ⟨v9, hv4, rfl, h13⟩ := hR; obtain rfl := hv4.symm
      have hS : St e s10 w [pt g2 99 ([v9, (.int .i64 x7.2.2.1), (.bool x7.2.2.2)]), pt g3 49 ([(.int .i64 x1.1)] ++ c3), pt g1 49 ([(.int .i64 0)] ++ za_47)] := hS
      refine stp hF (p_not rfl) (by decide) (fun a hF => ?_)
      refine stp hF (p_move rfl) (by decide) (fun a hF => ?_)
      obtain ⟨x9, H, HK2⟩ := hb H
      refine cutj 4 (fun a w => ∃ (x3 : Bool) (s11 : HF) , St e s11 w [pt g2 99 ([v9, (.int .i64 x7.2.2.1), (.bool x7.2.2.2)]), pt g3 49 ([(.int .i64 x1.1)] ++ c3), pt g1 49 ([(.int .i64 0)] ++ za_47)] ∧ Fr 50 a [(2, (.pointer (some ⟨g1, 0, none⟩))), (8, (.pointer (some ⟨g3, 0, none⟩))), (47, (.bool x3))] ∧ Sub s10 s11 ∧ impl_GetPage.c1 k x1 x2 x3 = some r) rfl rfl ?_ ?_
      · rcases Bool.eq_false_or_eq_true ((!x7.1)) with hc4 | hc4
        · replace H := hbt hc4 H
          refine gofD (j := 3) hF rfl rfl (by rw [hc4]; decide) (by decide) (fun a hF => ?_)
          refine gofD (j := 3) hF rfl rfl (by rw [hc4]; decide) (by decide) (fun a hF => ?_)
          refine gofD (j := 3) hF rfl rfl (by rw [hc4]; decide) (by decide) (fun a hF => ?_)
          refine stp hF (p_pickT rfl hc4 rfl) (by decide) (fun a hF => ?_)
          refine nilN ?_
          refine xn ?_
          obtain rfl := hsm H
          exact ⟨true, s10, hS, hF.cut ⟨rfl, rfl, rfl, trivial⟩, (Sub.refl _), HK2⟩
        · replace H := hbf hc4 H
          refine gonE (j := 3) hF rfl rfl hc4 ?_
          refine stp hF (p_ldb_agg (i := 1) (l := []) (m := [(.int .i64 x1.1)] ++ c3) (r := []) hS rfl rfl ia_49 ti_49 (by simp) (by simp [(show c3.length = 16 from Kd.len _ ((Kd.arr 4 kTSlot).mono hg9 h11))]) (by simp [(show c3.length = 16 from Kd.len _ ((Kd.arr 4 kTSlot).mono hg9 h11))])) (by decide) (fun a hF => ?_)
          obtain ⟨x8, hx5, H⟩ := hb H
          refine gonE (j := 3) hF rfl rfl hc4 ?_
          refine ste hF (e_callA (fst := []) (vs := [(.agg ([(.int .i64 x1.1)] ++ c3 : List Value).toArray)]) (cap := []) rfl rfl go_31 (St.call (A := []) (B := [pt g2 99 ([v9, (.int .i64 x7.2.2.1), (.bool x7.2.2.2)]), pt g3 49 ([(.int .i64 x1.1)] ++ c3), pt g1 49 ([(.int .i64 0)] ++ za_47)]) hS (impl_PageOk.spec k _ _ (⟨x1.1, x2⟩ : TPage) c3 ((Kd.arr 4 kTSlot).mono hg9 h11) _ hx5)) rfl) (by decide) (fun v w a hR hF => ?_)
          obtain ⟨s12, A6, hg10, hS, hR⟩ := hR
          obtain ⟨hv5, rfl⟩ := hR; obtain rfl := hv5.symm
          have hS : St e s12 w [pt g2 99 ([v9, (.int .i64 x7.2.2.1), (.bool x7.2.2.2)]), pt g3 49 ([(.int .i64 x1.1)] ++ c3), pt g1 49 ([(.int .i64 0)] ++ za_47)] := hS
          refine gonE (j := 3) hF rfl rfl hc4 ?_
          refine stp hF (p_not rfl) (by decide) (fun a hF => ?_)
          refine stp hF (p_pickF rfl hc4 rfl) (by decide) (fun a hF => ?_)
          refine nilN ?_
          refine xn ?_
          obtain rfl := hsm H
          exact ⟨(!x8), s12, hS, hF.cut ⟨rfl, rfl, rfl, trivial⟩, hg10, HK2⟩
      · clear H HK2 hS hF
        rintro a w ⟨x3, s11, hS, hF, hg11, H⟩
        unfold impl_GetPage.c1 at H
        refine nilN ?_
        refine xn ?_
        refine cnd hF rfl (fun hc5 => ?_) (fun hc5 => ?_)
        · replace H := hbt hc5 H
          refine sq ?_
          refine rg ?_
          refine stp hF (p_build (ps := []) (vs := []) (v := (.agg ([(.int .i64 0)] ++ za_47 : List Value).toArray)) rfl (by intro w; kernel_rfl)) (by decide) (fun a hF => ?_)
          refine ste0 hF (e_stb (i := 2) (l := []) (m := [(.int .i64 0)] ++ za_47) (r := []) (m' := [(.int .i64 0)] ++ za_47) (cs' := [(.int .i64 0)] ++ za_47) hS rfl rfl rfl ti_49 (by simp) (by simp [zl_47]) (by simp [zl_47]) rfl (by simp [zl_47]) (one_app (one_cons rfl one_nil) (Kd.one _ ((Kd.arr 4 kTSlot).mono hg11 ((Kd.arr 4 kTSlot).mono hg9 ((Kd.arr 4 kTSlot).mono hg8 ((Kd.arr 4 kTSlot).mono hg3 ((Kd.arr 4 kTSlot).mono hg2 ((Kd.arr 4 kTSlot).mono hg1 (zk_47 s0))))))))) (by simp)) (fun v w a hR hF => ?_)
          have hS : St e s11 w [pt g1 49 ([(.int .i64 0)] ++ za_47), pt g2 99 ([v9, (.int .i64 x7.2.2.1), (.bool x7.2.2.2)]), pt g3 49 ([(.int .i64 x1.1)] ++ c3)] := hR
          refine stp hF (p_assign rfl) (by decide) (fun a hF => ?_)
          refine nilN ?_
          refine xn ?_
          refine rt ?_
          refine xr ?_
          obtain rfl := hsm H
          have h14 : RvOk Try.prog _ w (.cell 2 49) _ := rvC (i := 0) hS rfl (show lk [(2, (.pointer (some ⟨g1, 0, none⟩))), (3, (.bool false))] 2 = _ from rfl) ia_49 ti_49 (by simp [zl_47])
          replace hS := hS.sel (is := []) (A' := []) rfl
          exact retc2 hF rfl h14 (rvT rfl) hS ⟨za_47, rfl, rfl, ((Kd.arr 4 kTSlot).mono hg11 ((Kd.arr 4 kTSlot).mono hg9 ((Kd.arr 4 kTSlot).mono hg8 ((Kd.arr 4 kTSlot).mono hg3 ((Kd.arr 4 kTSlot).mono hg2 ((Kd.arr 4 kTSlot).mono hg1 (zk_47 s0)))))))⟩
        · replace H := hbf hc5 H
          refine skN ?_
          refine xn ?_
          refine sq ?_
          refine rg ?_
          refine stp hF (p_ldb_agg (i := 1) (l := []) (m := [(.int .i64 x1.1)] ++ c3) (r := []) hS rfl rfl ia_49 ti_49 (by simp) (by simp [(show c3.length = 16 from Kd.len _ ((Kd.arr 4 kTSlot).mono hg11 ((Kd.arr 4 kTSlot).mono hg9 h11)))]) (by simp [(show c3.length = 16 from Kd.len _ ((Kd.arr 4 kTSlot).mono hg11 ((Kd.arr 4 kTSlot).mono hg9 h11)))])) (by decide) (fun a hF => ?_)
          refine ste0 hF (e_stb (i := 2) (l := []) (m := [(.int .i64 0)] ++ za_47) (r := []) (m' := [(.int .i64 x1.1)] ++ c3) (cs' := [(.int .i64 x1.1)] ++ c3) hS rfl rfl rfl ti_49 (by simp) (by simp [zl_47, (show c3.length = 16 from Kd.len _ ((Kd.arr 4 kTSlot).mono hg11 ((Kd.arr 4 kTSlot).mono hg9 h11)))]) (by simp [zl_47, (show c3.length = 16 from Kd.len _ ((Kd.arr 4 kTSlot).mono hg11 ((Kd.arr 4 kTSlot).mono hg9 h11)))]) rfl (by simp [zl_47, (show c3.length = 16 from Kd.len _ ((Kd.arr 4 kTSlot).mono hg11 ((Kd.arr 4 kTSlot).mono hg9 h11)))]) (one_app (one_cons rfl one_nil) (Kd.one _ ((Kd.arr 4 kTSlot).mono hg11 ((Kd.arr 4 kTSlot).mono hg9 h11)))) (by simp)) (fun v w a hR hF => ?_)
          have hS : St e s11 w [pt g1 49 ([(.int .i64 x1.1)] ++ c3), pt g2 99 ([v9, (.int .i64 x7.2.2.1), (.bool x7.2.2.2)]), pt g3 49 ([(.int .i64 x1.1)] ++ c3)] := hR
          refine stp hF (p_assign rfl) (by decide) (fun a hF => ?_)
          refine nilN ?_
          refine xn ?_
          refine rt ?_
          obtain rfl := hsm H
          have h15 : RvOk Try.prog _ w (.cell 2 49) _ := rvC (i := 0) hS rfl (show lk [(2, (.pointer (some ⟨g1, 0, none⟩))), (3, (.bool true))] 2 = _ from rfl) ia_49 ti_49 (by simp [(show c3.length = 16 from Kd.len _ ((Kd.arr 4 kTSlot).mono hg11 ((Kd.arr 4 kTSlot).mono hg9 h11)))])
          replace hS := hS.sel (is := []) (A' := []) rfl
          exact retc2 hF rfl h15 (rvT rfl) hS ⟨c3, rfl, rfl, ((Kd.arr 4 kTSlot).mono hg11 ((Kd.arr 4 kTSlot).mono hg9 h11))⟩

def laws_sameSlot.c1 (k : Nat) (x1 : Bool) : Option Bool :=
  (some x1)
def laws_sameSlot.f (k : Nat) (x2 : TSlot) (x3 : TSlot) : Option Bool :=
  ((if (x2.Has == x3.Has) = true then ((spec_SameObj.f k x2.O x3.O).bind fun x4 => (some x4)) else (some false) : Option Bool).bind fun x5 => laws_sameSlot.c1 k x5)
set_option maxRecDepth 100000 in
set_option maxHeartbeats 4000000 in
theorem laws_sameSlot.spec (k : Nat) (s0 : HF) (w : World) (x2 : TSlot) (x3 : TSlot) (v1 : Value) (v2 : Value) (v3 : Value) (v4 : Value) (h1 : Sl (Kd.int .i64) s0 v1 x2.O.Ints) (h2 : Sl (Kd.int .i64) s0 v2 x2.O.Refs) (h3 : Sl (Kd.int .i64) s0 v3 x3.O.Ints) (h4 : Sl (Kd.int .i64) s0 v4 x3.O.Refs) (r : Bool) (H : laws_sameSlot.f k x2 x3 = some r) :
    Law Try.prog 35 #[(.agg #[(.bool x2.Has), (.int .i64 x2.O.Kind), v1, v2]), (.agg #[(.bool x3.Has), (.int .i64 x3.O.Kind), v3, v4])] s0 w [] (fun v s1 A1 => v = (.bool r) ∧ A1 = []) := by
  unfold laws_sameSlot.f at H
  refine Law.intro Try.func35 rfl [(0, (.agg #[(.bool x2.Has), (.int .i64 x2.O.Kind), v1, v2])), (1, (.agg #[(.bool x3.Has), (.int .i64 x3.O.Kind), v3, v4]))] (Nat.le_of_ble_eq_true rfl) (enter_lk ⟨rfl, rfl, trivial⟩) (fun e a hS hF => ?_)
  have hF : Fr 17 a [(0, (.agg #[(.bool x2.Has), (.int .i64 x2.O.Kind), v1, v2])), (1, (.agg #[(.bool x3.Has), (.int .i64 x3.O.Kind), v3, v4]))] := hF
  refine sq ?_
  refine rg ?_
  refine ste hF (e_box (cs := [(.bool x2.Has), (.int .i64 x2.O.Kind), v1, v2]) hS rfl rfl) (by decide) (fun v w a hR hF => ?_)
  obtain ⟨g1, rfl, hS⟩ := hR
  refine ste hF (e_box (cs := [(.bool x3.Has), (.int .i64 x3.O.Kind), v3, v4]) hS rfl rfl) (by decide) (fun v w a hR hF => ?_)
  obtain ⟨g2, rfl, hS⟩ := hR
  refine stp hF (p_assign rfl) (by decide) (fun a hF => ?_)
  refine nilN ?_
  refine xn ?_
  refine sq ?_
  refine rg ?_
  refine stp hF (p_fldb (o' := 0) rfl fi_38_0 rfl) (by decide) (fun a hF => ?_)
  refine stp hF (p_ldb_one (i := 1) hS rfl rfl ia_4 rfl) (by decide) (fun a hF => ?_)
  refine stp hF (p_fldb (o' := 0) rfl fi_38_0 rfl) (by decide) (fun a hF => ?_)
  refine stp hF (p_ldb_one (i := 0) hS rfl rfl ia_4 rfl) (by decide) (fun a hF => ?_)
  refine stp hF (p_eqb un_4 rfl rfl) (by decide) (fun a hF => ?_)
  refine stp hF (p_move rfl) (by decide) (fun a hF => ?_)
  obtain ⟨x5, H, HK1⟩ := hb H
  refine cutj 6 (fun a w => ∃ (x1 : Bool) (s2 : HF) , St e s2 w [pt g2 38 ([(.bool x3.Has), (.int .i64 x3.O.Kind), v3, v4]), pt g1 38 ([(.bool x2.Has), (.int .i64 x2.O.Kind), v1, v2])] ∧ Fr 17 a [(16, (.bool x1))] ∧ Sub s0 s2 ∧ laws_sameSlot.c1 k x1 = some r) rfl rfl ?_ ?_
  · rcases Bool.eq_false_or_eq_true ((x2.Has == x3.Has)) with hc1 | hc1
    · replace H := hbt hc1 H
      refine gonE (j := 5) hF rfl rfl hc1 ?_
      refine stp hF (p_fldb (o' := 1) rfl fi_38_1 rfl) (by decide) (fun a hF => ?_)
      refine gonE (j := 5) hF rfl rfl hc1 ?_
      refine stp hF (p_ldb_agg (i := 1) (l := [(.bool x2.Has)]) (m := [(.int .i64 x2.O.Kind), v1, v2]) (r := []) hS rfl rfl ia_36 ti_36 rfl rfl rfl) (by decide) (fun a hF => ?_)
      refine gonE (j := 5) hF rfl rfl hc1 ?_
      refine stp hF (p_fldb (o' := 1) rfl fi_38_1 rfl) (by decide) (fun a hF => ?_)
      refine gonE (j := 5) hF rfl rfl hc1 ?_
      refine stp hF (p_ldb_agg (i := 0) (l := [(.bool x3.Has)]) (m := [(.int .i64 x3.O.Kind), v3, v4]) (r := []) hS rfl rfl ia_36 ti_36 rfl rfl rfl) (by decide) (fun a hF => ?_)
      obtain ⟨x4, hx1, H⟩ := hb H
      refine gonE (j := 5) hF rfl rfl hc1 ?_
      refine ste hF (e_callA (fst := []) (vs := [(.agg #[(.int .i64 x2.O.Kind), v1, v2]), (.agg #[(.int .i64 x3.O.Kind), v3, v4])]) (cap := []) rfl rfl go_100 (St.call (A := []) (B := [pt g2 38 ([(.bool x3.Has), (.int .i64 x3.O.Kind), v3, v4]), pt g1 38 ([(.bool x2.Has), (.int .i64 x2.O.Kind), v1, v2])]) hS (spec_SameObj.spec k _ _ x2.O x3.O v1 v2 v3 v4 h1 h2 h3 h4 _ hx1)) rfl) (by decide) (fun v w a hR hF => ?_)
      obtain ⟨s3, A2, hg1, hS, hR⟩ := hR
      obtain ⟨hv1, rfl⟩ := hR; obtain rfl := hv1.symm
      have hS : St e s3 w [pt g2 38 ([(.bool x3.Has), (.int .i64 x3.O.Kind), v3, v4]), pt g1 38 ([(.bool x2.Has), (.int .i64 x2.O.Kind), v1, v2])] := hS
      refine stp hF (p_pickT rfl hc1 rfl) (by decide) (fun a hF => ?_)
      refine nilN ?_
      refine xn ?_
      obtain rfl := hsm H
      exact ⟨x4, s3, hS, hF.cut ⟨rfl, trivial⟩, hg1, HK1⟩
    · replace H := hbf hc1 H
      refine gofD (j := 5) hF rfl rfl (by rw [hc1]; decide) (by decide) (fun a hF => ?_)
      refine gofD (j := 5) hF rfl rfl (by rw [hc1]; decide) (by decide) (fun a hF => ?_)
      refine gofD (j := 5) hF rfl rfl (by rw [hc1]; decide) (by decide) (fun a hF => ?_)
      refine gofD (j := 5) hF rfl rfl (by rw [hc1]; decide) (by decide) (fun a hF => ?_)
      refine gofD (j := 5) hF rfl rfl (by rw [hc1]; decide) (by decide) (fun a hF => ?_)
      refine stp hF (p_pickF rfl hc1 rfl) (by decide) (fun a hF => ?_)
      refine nilN ?_
      refine xn ?_
      obtain rfl := hsm H
      exact ⟨false, s0, hS, hF.cut ⟨rfl, trivial⟩, (Sub.refl _), HK1⟩
  · clear H HK1 hS hF
    rintro a w ⟨x1, s2, hS, hF, hg2, H⟩
    unfold laws_sameSlot.c1 at H
    refine stp hF (p_assign rfl) (by decide) (fun a hF => ?_)
    refine nilN ?_
    refine xn ?_
    refine rt ?_
    obtain rfl := hsm H
    replace hS := hS.sel (is := []) (A' := []) rfl
    exact ret1 hF rfl rfl hS ⟨rfl, rfl⟩

def laws_samePage.c1 (k : Nat) (x1 : TPage) (x2 : TPage) : Option Bool :=
  (some (decide (x1.Lsn = x2.Lsn)))
def laws_samePage.l1 (x1 : TPage) (x2 : TPage) : Nat → Int → Option (Ex Bool Unit)
  | 0, _ => none
  | k + 1, x3 => (if (decide (x3 < 4)) = true then (if 0 ≤ x3 ∧ x3 < 4 then (if 0 ≤ x3 ∧ x3 < 4 then ((laws_sameSlot.f k (rd x1.Slots x3) (rd x2.Slots x3)).bind fun x4 => (if (!x4) = true then (some (Ex.ret false)) else ((laws_samePage.l1 x1 x2 k) (w64 (x3 + 1))))) else none) else none) else (some (Ex.go ())))
def laws_samePage.f (k : Nat) (x1 : TPage) (x2 : TPage) : Option Bool :=
  (((laws_samePage.l1 x1 x2 k 0) : Option (Ex Bool Unit)).bind fun x5 => Ex.on x5 (fun r => some r) (fun y => laws_samePage.c1 k x1 x2))
set_option maxRecDepth 100000 in
set_option maxHeartbeats 4000000 in
theorem laws_samePage.spec (k : Nat) (s0 : HF) (w : World) (x1 : TPage) (x2 : TPage) (c2 : List Value) (c3 : List Value) (h1 : ((Kd.arr 4 kTSlot)).K s0 x1.Slots c2) (h2 : ((Kd.arr 4 kTSlot)).K s0 x2.Slots c3) (r : Bool) (H : laws_samePage.f k x1 x2 = some r) :
    Law Try.prog 33 #[(.agg ([(.int .i64 x1.Lsn)] ++ c2 : List Value).toArray), (.agg ([(.int .i64 x2.Lsn)] ++ c3 : List Value).toArray)] s0 w [] (fun v s1 A1 => v = (.bool r) ∧ A1 = []) := by
  unfold laws_samePage.f at H
  refine Law.intro Try.func33 rfl [(0, (.agg ([(.int .i64 x1.Lsn)] ++ c2 : List Value).toArray)), (1, (.agg ([(.int .i64 x2.Lsn)] ++ c3 : List Value).toArray))] (Nat.le_of_ble_eq_true rfl) (enter_lk ⟨rfl, rfl, trivial⟩) (fun e a hS hF => ?_)
  have hF : Fr 25 a [(0, (.agg ([(.int .i64 x1.Lsn)] ++ c2 : List Value).toArray)), (1, (.agg ([(.int .i64 x2.Lsn)] ++ c3 : List Value).toArray))] := hF
  refine sq ?_
  refine rg ?_
  refine ste hF (e_box (cs := [(.int .i64 x1.Lsn)] ++ c2) hS rfl rfl) (by decide) (fun v w a hR hF => ?_)
  obtain ⟨g1, rfl, hS⟩ := hR
  refine ste hF (e_box (cs := [(.int .i64 x2.Lsn)] ++ c3) hS rfl rfl) (by decide) (fun v w a hR hF => ?_)
  obtain ⟨g2, rfl, hS⟩ := hR
  refine stp hF (p_assign rfl) (by decide) (fun a hF => ?_)
  refine nilN ?_
  refine xn ?_
  obtain ⟨x5, H, HK1⟩ := hb H
  refine sqj (fun a w => ∃ (s2 : HF) , St e s2 w [pt g2 49 ([(.int .i64 x2.Lsn)] ++ c3), pt g1 49 ([(.int .i64 x1.Lsn)] ++ c2)] ∧ Fr 25 a [(2, (.pointer (some ⟨g1, 0, none⟩))), (3, (.pointer (some ⟨g2, 0, none⟩)))] ∧ Sub s0 s2 ∧ laws_samePage.c1 k x1 x2 = some r) ?_ ?_
  · skip
    refine sq ?_
    refine rg ?_
    refine stp hF (p_assign rfl) (by decide) (fun a hF => ?_)
    refine nilN ?_
    refine xn ?_
    refine blk ?_
    refine loop_ind (fun k1 a w => ∃ (x3 : Int) (s3 : HF) , St e s3 w [pt g2 49 ([(.int .i64 x2.Lsn)] ++ c3), pt g1 49 ([(.int .i64 x1.Lsn)] ++ c2)] ∧ Fr 25 a [(2, (.pointer (some ⟨g1, 0, none⟩))), (3, (.pointer (some ⟨g2, 0, none⟩))), (5, (.int .i64 x3))] ∧ Sub s0 s3 ∧ laws_samePage.l1 x1 x2 k1 x3 = some x5) k ?_ ?_ ?_
    · skip
      exact ⟨0, s0, hS, hF.cut ⟨rfl, rfl, rfl, trivial⟩, (Sub.refl _), H⟩
    · clear H hS hF
      rintro a w ⟨x3, s3, hS, hF, hg1, H⟩
      exact absurd (show none = some _ from H) (by simp)
    · clear H hS hF
      rintro k1 a w ⟨x3, s3, hS, hF, hg1, H⟩
      rw [laws_samePage.l1.eq_2] at H
      refine sq ?_
      refine sq ?_
      refine rg ?_
      refine stp hF (p_move rfl) (by decide) (fun a hF => ?_)
      refine stp hF (p_lss rfl rfl) (by decide) (fun a hF => ?_)
      refine nilN ?_
      refine xn ?_
      refine cnd hF rfl (fun hc1 => ?_) (fun hc1 => ?_)
      · replace H := hbt hc1 H
        refine skN ?_
        refine xn ?_
        refine sq ?_
        refine blk ?_
        refine sq ?_
        replace hS : St e s3 w.drew [pt g2 49 ([(.int .i64 x2.Lsn)] ++ c3), pt g1 49 ([(.int .i64 x1.Lsn)] ++ c2)] := hS.drewN 1
        refine drw [0, 1, 2, 3, 4, 5, 6, 7, 8, 9] mixed (by kernel_rfl) (by decide) (hF.cut (L' := [(2, (.pointer (some ⟨g1, 0, none⟩))), (3, (.pointer (some ⟨g2, 0, none⟩))), (5, (.int .i64 x3)), (6, (.int .i64 x3)), (7, (.bool (decide (x3 < 4))))]) ⟨rfl, rfl, rfl, rfl, rfl, trivial⟩) ?_
        clear hF
        generalize w.drew = w at hS ⊢
        refine pk1 rfl (by decide) rfl (by kernel_rfl) rfl (p_move rfl) ?_
        refine pk1 rfl (by decide) rfl (by kernel_rfl) rfl (p_fldb (o' := 1) rfl fi_49_1 rfl) ?_
        obtain ⟨hq1, H⟩ := hck H
        refine pk1 rfl (by decide) rfl (by kernel_rfl) rfl (p_idxb rfl rfl un_47 ti_38 hq1.1 hq1.2) ?_
        obtain ⟨c4, h3, p1⟩ := p_ldba_agg (P := Try.prog) (T := 49) (b := g1) (all := [(.int .i64 x1.Lsn)] ++ c2) (l := [(.int .i64 x1.Lsn)]) (cs := c2) (r := []) (base := 1) (by simp) ((Kd.arr 4 kTSlot).mono hg1 h1) (Lens.idx 4 kTSlot x3 hq1.1 hq1.2) rfl rfl ia_38 ti_38
        obtain ⟨v1, v2, rfl, h4, h5⟩ := kTSlot_open h3
        refine pk1 rfl (by decide) rfl (by kernel_rfl) rfl (p1 (n := 1) hS rfl rfl) ?_
        refine pk1 rfl (by decide) rfl (by kernel_rfl) rfl (p_move rfl) ?_
        refine pk1 rfl (by decide) rfl (by kernel_rfl) rfl (p_fldb (o' := 1) rfl fi_49_1 rfl) ?_
        obtain ⟨hq2, H⟩ := hck H
        refine pk1 rfl (by decide) rfl (by kernel_rfl) rfl (p_idxb rfl rfl un_47 ti_38 hq2.1 hq2.2) ?_
        obtain ⟨c5, h6, p2⟩ := p_ldba_agg (P := Try.prog) (T := 49) (b := g2) (all := [(.int .i64 x2.Lsn)] ++ c3) (l := [(.int .i64 x2.Lsn)]) (cs := c3) (r := []) (base := 1) (by simp) ((Kd.arr 4 kTSlot).mono hg1 h2) (Lens.idx 4 kTSlot x3 hq2.1 hq2.2) rfl rfl ia_38 ti_38
        obtain ⟨v3, v4, rfl, h7, h8⟩ := kTSlot_open h6
        refine pk1 rfl (by decide) rfl (by kernel_rfl) rfl (p2 (n := 0) hS rfl rfl) ?_
        obtain ⟨x4, hx1, H⟩ := hb H
        refine pkE [6, 5, 4, 2, 1, 0] rfl (by decide) (by kernel_rfl) (by kernel_rfl) (e_callA (fst := []) (vs := [(.agg #[(.bool ((rd x1.Slots x3).Has)), (.int .i64 (((rd x1.Slots x3).O).Kind)), v1, v2]), (.agg #[(.bool ((rd x2.Slots x3).Has)), (.int .i64 (((rd x2.Slots x3).O).Kind)), v3, v4])]) (cap := []) rfl rfl go_35 (St.call (A := []) (B := [pt g2 49 ([(.int .i64 x2.Lsn)] ++ c3), pt g1 49 ([(.int .i64 x1.Lsn)] ++ c2)]) hS (laws_sameSlot.spec k1 _ _ (rd x1.Slots x3) (rd x2.Slots x3) v1 v2 v3 v4 h4 h5 h7 h8 _ hx1)) rfl) ?_
        intro v w hR
        obtain ⟨s4, A2, hg2, hS, hR⟩ := hR
        obtain ⟨hv1, rfl⟩ := hR; obtain rfl := hv1.symm
        have hS : St e s4 w [pt g2 49 ([(.int .i64 x2.Lsn)] ++ c3), pt g1 49 ([(.int .i64 x1.Lsn)] ++ c2)] := hS
        refine ⟨⟨knw rfl rfl rfl (p_idxb rfl rfl un_47 ti_38 hq2.1 hq2.2), ⟨knw rfl rfl rfl (p_fldb (o' := 1) rfl fi_49_1 rfl), ⟨knw rfl rfl rfl (p_move rfl), ⟨knw rfl rfl rfl (p_idxb rfl rfl un_47 ti_38 hq1.1 hq1.2), ⟨knw rfl rfl rfl (p_fldb (o' := 1) rfl fi_49_1 rfl), ⟨knw rfl rfl rfl (p_move rfl), trivial⟩⟩⟩⟩⟩⟩, ?_⟩
        refine pk1 rfl (by decide) rfl (by kernel_rfl) rfl (p_not rfl) ?_
        refine pkF (fun a hF => ?_)
        refine xn ?_
        refine cnd hF rfl (fun hc2 => ?_) (fun hc2 => ?_)
        · replace H := hbt hc2 H
          refine sq ?_
          refine rg ?_
          refine stp hF (p_assign rfl) (by decide) (fun a hF => ?_)
          refine nilN ?_
          refine xn ?_
          refine rt ?_
          refine br (xr (xr (br (xr ?_))))
          obtain rfl := hsm H
          have H := hon1 HK1
          obtain rfl := hsm H
          replace hS := hS.sel (is := []) (A' := []) rfl
          exact ret1 hF rfl rfl hS ⟨rfl, rfl⟩
        · replace H := hbf hc2 H
          refine skN ?_
          refine bn (xn ?_)
          refine rg ?_
          refine stp hF (p_move rfl) (by decide) (fun a hF => ?_)
          refine stp hF (p_add (c := w64 (x3 + 1)) rfl rfl rfl) (by decide) (fun a hF => ?_)
          refine stp hF (p_assign rfl) (by decide) (fun a hF => ?_)
          refine nilN ?_
          refine xn ?_
          exact ⟨(w64 (x3 + 1)), s4, hS, hF.cut ⟨rfl, rfl, rfl, trivial⟩, (hg1.trans hg2), H⟩
      · replace H := hbf hc1 H
        refine exi ?_
        refine xe (xe (hit (xn ?_)))
        obtain rfl := hsm H
        exact ⟨s3, hS, hF.cut ⟨rfl, rfl, trivial⟩, hg1, HK1⟩
  · clear H HK1 hS hF
    rintro a w ⟨s2, hS, hF, hg3, H⟩
    unfold laws_samePage.c1 at H
    refine sq ?_
    refine rg ?_
    refine stp hF (p_fldb (o' := 0) rfl fi_49_0 rfl) (by decide) (fun a hF => ?_)
    refine stp hF (p_ldb_one (i := 1) hS rfl rfl ia_3 rfl) (by decide) (fun a hF => ?_)
    refine stp hF (p_fldb (o' := 0) rfl fi_49_0 rfl) (by decide) (fun a hF => ?_)
    refine stp hF (p_ldb_one (i := 0) hS rfl rfl ia_3 rfl) (by decide) (fun a hF => ?_)
    refine stp hF (p_eql rfl rfl) (by decide) (fun a hF => ?_)
    refine stp hF (p_assign rfl) (by decide) (fun a hF => ?_)
    refine nilN ?_
    refine xn ?_
    refine rt ?_
    obtain rfl := hsm H
    replace hS := hS.sel (is := []) (A' := []) rfl
    exact ret1 hF rfl rfl hS ⟨rfl, rfl⟩

def spec_l3CopySlot.f (k : Nat) (x1 : TSlot) : Option TSlot :=
  ((spec_l2Copy.f k x1.O).bind fun x2 => (some (⟨x1.Has, (⟨x2.Kind, x2.Ints, x2.Refs⟩ : TObj)⟩ : TSlot)))
set_option maxRecDepth 100000 in
set_option maxHeartbeats 4000000 in
theorem spec_l3CopySlot.spec (k : Nat) (s0 : HF) (w : World) (x1 : TSlot) (v1 : Value) (v2 : Value) (h1 : Sl (Kd.int .i64) s0 v1 x1.O.Ints) (h2 : Sl (Kd.int .i64) s0 v2 x1.O.Refs) (r : TSlot) (H : spec_l3CopySlot.f k x1 = some r) :
    Law Try.prog 99 #[(.agg #[(.bool x1.Has), (.int .i64 x1.O.Kind), v1, v2])] s0 w [] (fun v s1 A1 => ∃ (u0 : Value) (u1 : Value), v = (.agg #[(.bool r.Has), (.int .i64 r.O.Kind), u0, u1]) ∧ A1 = [Ow (Kd.int .i64) 3 u0 r.O.Ints, Ow (Kd.int .i64) 3 u1 r.O.Refs]) := by
  unfold spec_l3CopySlot.f at H
  refine Law.intro Try.func99 rfl [(0, (.agg #[(.bool x1.Has), (.int .i64 x1.O.Kind), v1, v2]))] (Nat.le_of_ble_eq_true rfl) (enter_lk ⟨rfl, trivial⟩) (fun e a hS hF => ?_)
  have hF : Fr 9 a [(0, (.agg #[(.bool x1.Has), (.int .i64 x1.O.Kind), v1, v2]))] := hF
  refine sq ?_
  refine rg ?_
  refine ste hF (e_box (cs := [(.bool x1.Has), (.int .i64 x1.O.Kind), v1, v2]) hS rfl rfl) (by decide) (fun v w a hR hF => ?_)
  obtain ⟨g1, rfl, hS⟩ := hR
  refine ste hF (e_alloc (cs := [(.bool false), (.int .i64 0), (.slice none 0 0), (.slice none 0 0)]) hS ti_38 rfl) (by decide) (fun v w a hR hF => ?_)
  obtain ⟨g2, rfl, hS⟩ := hR
  refine nilN ?_
  refine xn ?_
  refine sq ?_
  replace hS : St e s0 w.drew [pt g2 38 ([(.bool false), (.int .i64 0), (.slice none 0 0), (.slice none 0 0)]), pt g1 38 ([(.bool x1.Has), (.int .i64 x1.O.Kind), v1, v2])] := hS.drewN 1
  refine drw [0, 1, 2, 3, 4, 5, 6] mixed (by kernel_rfl) (by decide) (hF.cut (L' := [(0, (.agg #[(.bool x1.Has), (.int .i64 x1.O.Kind), v1, v2])), (1, (.pointer (some ⟨g1, 0, none⟩))), (2, (.pointer (some ⟨g2, 0, none⟩)))]) ⟨rfl, rfl, rfl, trivial⟩) ?_
  clear hF
  generalize w.drew = w at hS ⊢
  refine pk1 rfl (by decide) rfl (by kernel_rfl) rfl (p_fldb (o' := 0) rfl fi_38_0 rfl) ?_
  refine pk1 rfl (by decide) rfl (by kernel_rfl) rfl (p_ldb_one (i := 1) hS rfl rfl ia_4 rfl) ?_
  refine pk1 rfl (by decide) rfl (by kernel_rfl) rfl (p_fldb (o' := 1) rfl fi_38_1 rfl) ?_
  refine pk1 rfl (by decide) rfl (by kernel_rfl) rfl (p_ldb_agg (i := 1) (l := [(.bool x1.Has)]) (m := [(.int .i64 x1.O.Kind), v1, v2]) (r := []) hS rfl rfl ia_36 ti_36 rfl rfl rfl) ?_
  obtain ⟨x2, hx1, H⟩ := hb H
  refine pkE [2, 1, 0] rfl (by decide) (by kernel_rfl) (by kernel_rfl) (e_callA (fst := []) (vs := [(.agg #[(.int .i64 x1.O.Kind), v1, v2])]) (cap := []) rfl rfl go_151 (St.call (A := []) (B := [pt g2 38 ([(.bool false), (.int .i64 0), (.slice none 0 0), (.slice none 0 0)]), pt g1 38 ([(.bool x1.Has), (.int .i64 x1.O.Kind), v1, v2])]) hS (spec_l2Copy.spec k _ _ x1.O v1 v2 h1 h2 _ hx1)) rfl) ?_
  intro v w hR
  obtain ⟨s2, A2, hg1, hS, hR⟩ := hR
  obtain ⟨v3, v4, hv1, rfl⟩ := hR; obtain rfl := hv1.symm
  have hS : St e s2 w [Ow (Kd.int .i64) 3 v3 x2.Ints, Ow (Kd.int .i64) 3 v4 x2.Refs, pt g2 38 ([(.bool false), (.int .i64 0), (.slice none 0 0), (.slice none 0 0)]), pt g1 38 ([(.bool x1.Has), (.int .i64 x1.O.Kind), v1, v2])] := hS
  refine ⟨⟨knw rfl rfl rfl (p_fldb (o' := 1) rfl fi_38_1 rfl), ⟨knw rfl rfl rfl (p_ldb_one (i := 3) hS rfl rfl ia_4 rfl), ⟨knw rfl rfl rfl (p_fldb (o' := 0) rfl fi_38_0 rfl), trivial⟩⟩⟩, ?_⟩
  refine pk1 rfl (by decide) rfl (by kernel_rfl) rfl (p_build (ps := [(0, (.tmp 4)), (1, (.tmp 7))]) (vs := [(0, (.bool x1.Has)), (1, (.agg #[(.int .i64 x2.Kind), v3, v4]))]) (v := (.agg #[(.bool x1.Has), (.int .i64 x2.Kind), v3, v4])) rfl (by intro w; obtain ⟨_, _, _, e1⟩ := hS.el (i := 0) rfl; rw [e1]; obtain ⟨_, _, _, e2⟩ := hS.el (i := 1) rfl; rw [e2]; kernel_rfl)) ?_
  refine pkE0 [] rfl (by kernel_rfl) (by kernel_rfl) (e_stb (i := 2) (l := []) (m := [(.bool false), (.int .i64 0), (.slice none 0 0), (.slice none 0 0)]) (r := []) (m' := [(.bool x1.Has), (.int .i64 x2.Kind), v3, v4]) (cs' := [(.bool x1.Has), (.int .i64 x2.Kind), v3, v4]) hS rfl rfl rfl ti_38 rfl rfl rfl rfl rfl (one_cons rfl (one_cons rfl (one_cons (hS.one_ow (i := 0) rfl) (one_cons (hS.one_ow (i := 1) rfl) one_nil)))) rfl) ?_
  intro v w hR
  have hS : St e s2 w [pt g2 38 ([(.bool x1.Has), (.int .i64 x2.Kind), v3, v4]), Ow (Kd.int .i64) 3 v3 x2.Ints, Ow (Kd.int .i64) 3 v4 x2.Refs, pt g1 38 ([(.bool x1.Has), (.int .i64 x1.O.Kind), v1, v2])] := hR
  refine ⟨trivial, ?_⟩
  refine pkF (fun a hF => ?_)
  refine xn ?_
  refine rt ?_
  obtain rfl := hsm H
  have h3 : RvOk Try.prog _ w (.cell 2 38) _ := rvC (i := 0) hS rfl (show lk [(2, (.pointer (some ⟨g2, 0, none⟩)))] 2 = _ from rfl) ia_38 ti_38 rfl
  replace hS := hS.sel (is := [1, 1]) (A' := [Ow (Kd.int .i64) 3 v3 x2.Ints, Ow (Kd.int .i64) 3 v4 x2.Refs]) rfl
  exact retc1 hF rfl h3 hS ⟨v3, v4, rfl, rfl⟩

def spec_l3Copy.c1 (k : Nat) (x1 : TPage) (x2 : (List TSlot)) : Option TPage :=
  (some (⟨x1.Lsn, x2⟩ : TPage))
def spec_l3Copy.l1 (x1 : TPage) : Nat → (List TSlot) → Int → Option (List TSlot)
  | 0, _, _ => none
  | k + 1, x3, x4 => (if (decide (x4 < 4)) = true then (if 0 ≤ x4 ∧ x4 < 4 then ((spec_l3CopySlot.f k (rd x1.Slots x4)).bind fun x5 => (if 0 ≤ x4 ∧ x4 < 4 then ((spec_l3Copy.l1 x1 k) (wr x3 x4 (⟨x5.Has, (⟨x5.O.Kind, x5.O.Ints, x5.O.Refs⟩ : TObj)⟩ : TSlot)) (w64 (x4 + 1))) else none)) else none) else (some x3))
def spec_l3Copy.f (k : Nat) (x1 : TPage) : Option TPage :=
  (((spec_l3Copy.l1 x1 k zv_47 0) : Option (List TSlot)).bind fun x6 => spec_l3Copy.c1 k x1 x6)
set_option maxRecDepth 100000 in
set_option maxHeartbeats 4000000 in
theorem spec_l3Copy.spec (k : Nat) (s0 : HF) (w : World) (x1 : TPage) (c2 : List Value) (h1 : ((Kd.arr 4 kTSlot)).K s0 x1.Slots c2) (r : TPage) (H : spec_l3Copy.f k x1 = some r) :
    Law Try.prog 98 #[(.agg ([(.int .i64 x1.Lsn)] ++ c2 : List Value).toArray)] s0 w [] (fun v s1 A1 => ∃ (u0 : List Value), v = (.agg ([(.int .i64 r.Lsn)] ++ u0 : List Value).toArray) ∧ A1 = [] ∧ ((Kd.arr 4 kTSlot)).K s1 r.Slots u0) := by
  unfold spec_l3Copy.f at H
  refine Law.intro Try.func98 rfl [(0, (.agg ([(.int .i64 x1.Lsn)] ++ c2 : List Value).toArray))] (Nat.le_of_ble_eq_true rfl) (enter_lk ⟨rfl, trivial⟩) (fun e a hS hF => ?_)
  have hF : Fr 21 a [(0, (.agg ([(.int .i64 x1.Lsn)] ++ c2 : List Value).toArray))] := hF
  refine sq ?_
  refine rg ?_
  refine ste hF (e_box (cs := [(.int .i64 x1.Lsn)] ++ c2) hS rfl rfl) (by decide) (fun v w a hR hF => ?_)
  obtain ⟨g1, rfl, hS⟩ := hR
  refine ste hF (e_alloc (cs := [(.int .i64 0)] ++ za_47) hS ti_49 rfl) (by decide) (fun v w a hR hF => ?_)
  obtain ⟨g2, rfl, hS⟩ := hR
  refine nilN ?_
  refine xn ?_
  refine sq ?_
  refine rg ?_
  refine stp hF (p_fldb (o' := 0) rfl fi_49_0 rfl) (by decide) (fun a hF => ?_)
  refine stp hF (p_ldb_one (i := 1) hS rfl rfl ia_3 rfl) (by decide) (fun a hF => ?_)
  refine stp hF (p_build (ps := [(0, (.tmp 6))]) (vs := [(0, (.int .i64 x1.Lsn))]) (v := (.agg ([(.int .i64 x1.Lsn)] ++ za_47 : List Value).toArray)) rfl (by intro w; kernel_rfl)) (by decide) (fun a hF => ?_)
  refine ste hF (e_alloc (cs := [(.int .i64 0)] ++ za_47) hS ti_49 rfl) (by decide) (fun v w a hR hF => ?_)
  obtain ⟨g3, rfl, hS⟩ := hR
  refine ste0 hF (e_stb (i := 0) (l := []) (m := [(.int .i64 0)] ++ za_47) (r := []) (m' := [(.int .i64 x1.Lsn)] ++ za_47) (cs' := [(.int .i64 x1.Lsn)] ++ za_47) hS rfl rfl rfl ti_49 (by simp) (by simp [zl_47]) (by simp [zl_47]) rfl (by simp [zl_47]) (one_app (one_cons rfl one_nil) (Kd.one _ (zk_47 s0))) (by simp)) (fun v w a hR hF => ?_)
  have hS : St e s0 w [pt g3 49 ([(.int .i64 x1.Lsn)] ++ za_47), pt g2 49 ([(.int .i64 0)] ++ za_47), pt g1 49 ([(.int .i64 x1.Lsn)] ++ c2)] := hR
  refine nilN ?_
  refine xn ?_
  obtain ⟨x6, H, HK1⟩ := hb H
  refine sqj (fun a w => ∃ (x2 : (List TSlot)) (s2 : HF) (c3 : List Value) , St e s2 w [pt g3 49 ([(.int .i64 x1.Lsn)] ++ c3), pt g2 49 ([(.int .i64 0)] ++ za_47), pt g1 49 ([(.int .i64 x1.Lsn)] ++ c2)] ∧ Fr 21 a [(2, (.pointer (some ⟨g2, 0, none⟩))), (3, (.pointer (some ⟨g3, 0, none⟩)))] ∧ Sub s0 s2 ∧ ((Kd.arr 4 kTSlot)).K s2 x2 c3 ∧ spec_l3Copy.c1 k x1 x2 = some r) ?_ ?_
  · skip
    refine sq ?_
    refine rg ?_
    refine stp hF (p_assign rfl) (by decide) (fun a hF => ?_)
    refine nilN ?_
    refine xn ?_
    refine blk ?_
    refine loop_ind (fun k1 a w => ∃ (x3 : (List TSlot)) (x4 : Int) (s3 : HF) (c4 : List Value) , St e s3 w [pt g3 49 ([(.int .i64 x1.Lsn)] ++ c4), pt g2 49 ([(.int .i64 0)] ++ za_47), pt g1 49 ([(.int .i64 x1.Lsn)] ++ c2)] ∧ Fr 21 a [(1, (.pointer (some ⟨g1, 0, none⟩))), (2, (.pointer (some ⟨g2, 0, none⟩))), (3, (.pointer (some ⟨g3, 0, none⟩))), (4, (.int .i64 x4))] ∧ Sub s0 s3 ∧ ((Kd.arr 4 kTSlot)).K s3 x3 c4 ∧ spec_l3Copy.l1 x1 k1 x3 x4 = some x6) k ?_ ?_ ?_
    · skip
      exact ⟨zv_47, 0, s0, za_47, hS, hF.cut ⟨rfl, rfl, rfl, rfl, trivial⟩, (Sub.refl _), (zk_47 s0), H⟩
    · clear H hS hF
      rintro a w ⟨x3, x4, s3, c4, hS, hF, hg1, h2, H⟩
      exact absurd (show none = some _ from H) (by simp)
    · clear H hS hF
      rintro k1 a w ⟨x3, x4, s3, c4, hS, hF, hg1, h2, H⟩
      rw [spec_l3Copy.l1.eq_2] at H
      refine sq ?_
      refine sq ?_
      refine rg ?_
      refine stp hF (p_move rfl) (by decide) (fun a hF => ?_)
      refine stp hF (p_lss rfl rfl) (by decide) (fun a hF => ?_)
      refine nilN ?_
      refine xn ?_
      refine cnd hF rfl (fun hc1 => ?_) (fun hc1 => ?_)
      · replace H := hbt hc1 H
        refine skN ?_
        refine xn ?_
        refine sq ?_
        refine blk ?_
        refine rg ?_
        refine stp hF (p_move rfl) (by decide) (fun a hF => ?_)
        refine stp hF (p_move rfl) (by decide) (fun a hF => ?_)
        refine stp hF (p_fldb (o' := 1) rfl fi_49_1 rfl) (by decide) (fun a hF => ?_)
        obtain ⟨hq1, H⟩ := hck H
        refine stp hF (p_idxb rfl rfl un_47 ti_38 hq1.1 hq1.2) (by decide) (fun a hF => ?_)
        obtain ⟨c5, h3, p1⟩ := p_ldba_agg (P := Try.prog) (T := 49) (b := g1) (all := [(.int .i64 x1.Lsn)] ++ c2) (l := [(.int .i64 x1.Lsn)]) (cs := c2) (r := []) (base := 1) (by simp) ((Kd.arr 4 kTSlot).mono hg1 h1) (Lens.idx 4 kTSlot x4 hq1.1 hq1.2) rfl rfl ia_38 ti_38
        obtain ⟨v1, v2, rfl, h4, h5⟩ := kTSlot_open h3
        refine stp hF (p1 (n := 2) hS rfl rfl) (by decide) (fun a hF => ?_)
        obtain ⟨x5, hx1, H⟩ := hb H
        refine ste hF (e_callA (fst := []) (vs := [(.agg #[(.bool ((rd x1.Slots x4).Has)), (.int .i64 (((rd x1.Slots x4).O).Kind)), v1, v2])]) (cap := []) rfl rfl go_99 (St.call (A := []) (B := [pt g3 49 ([(.int .i64 x1.Lsn)] ++ c4), pt g2 49 ([(.int .i64 0)] ++ za_47), pt g1 49 ([(.int .i64 x1.Lsn)] ++ c2)]) hS (spec_l3CopySlot.spec k1 _ _ (rd x1.Slots x4) v1 v2 h4 h5 _ hx1)) rfl) (by decide) (fun v w a hR hF => ?_)
        obtain ⟨s4, A2, hg2, hS, hR⟩ := hR
        obtain ⟨v3, v4, hv1, rfl⟩ := hR; obtain rfl := hv1.symm
        have hS : St e s4 w [Ow (Kd.int .i64) 3 v3 x5.O.Ints, Ow (Kd.int .i64) 3 v4 x5.O.Refs, pt g3 49 ([(.int .i64 x1.Lsn)] ++ c4), pt g2 49 ([(.int .i64 0)] ++ za_47), pt g1 49 ([(.int .i64 x1.Lsn)] ++ c2)] := hS
        refine stp hF (p_fldb (o' := 1) rfl fi_49_1 rfl) (by decide) (fun a hF => ?_)
        obtain ⟨hq2, H⟩ := hck H
        refine stp hF (p_idxb rfl rfl un_47 ti_38 hq2.1 hq2.2) (by decide) (fun a hF => ?_)
        obtain ⟨s5, hg3, h6, hS⟩ := hS.freeze (i := 0) (kd := (Kd.int .i64)) (et := 3) (v := v3) (xs := x5.O.Ints) (B := [Ow (Kd.int .i64) 3 v4 x5.O.Refs, pt g3 49 ([(.int .i64 x1.Lsn)] ++ c4), pt g2 49 ([(.int .i64 0)] ++ za_47), pt g1 49 ([(.int .i64 x1.Lsn)] ++ c2)]) rfl
        obtain ⟨s6, hg4, h7, hS⟩ := hS.freeze (i := 0) (kd := (Kd.int .i64)) (et := 3) (v := v4) (xs := x5.O.Refs) (B := [pt g3 49 ([(.int .i64 x1.Lsn)] ++ c4), pt g2 49 ([(.int .i64 0)] ++ za_47), pt g1 49 ([(.int .i64 x1.Lsn)] ++ c2)]) rfl
        refine ste0 hF (e_stba (n := 0) (l := [(.int .i64 x1.Lsn)]) (cs := c4) (r := []) (base := 1) (y0 := (⟨x5.Has, (⟨x5.O.Kind, x5.O.Ints, x5.O.Refs⟩ : TObj)⟩ : TSlot)) hS rfl (by simp) ((Kd.arr 4 kTSlot).mono hg4 ((Kd.arr 4 kTSlot).mono hg3 ((Kd.arr 4 kTSlot).mono hg2 h2))) (Lens.idx 4 kTSlot x4 hq2.1 hq2.2) rfl rfl rfl rfl ti_38 rfl (kTSlot_mk (x := (⟨x5.Has, (⟨x5.O.Kind, x5.O.Ints, x5.O.Refs⟩ : TObj)⟩ : TSlot)) (h6.mono hg4) h7)) (fun v w a hR hF => ?_)
        obtain ⟨c6, h8, hS⟩ := hR
        replace h8 : ((Kd.arr 4 kTSlot)).K s6 (wr x3 x4 (⟨x5.Has, (⟨x5.O.Kind, x5.O.Ints, x5.O.Refs⟩ : TObj)⟩ : TSlot)) c6 := h8
        replace hS : St e s6 w [pt g3 49 ([(.int .i64 x1.Lsn)] ++ c6), pt g2 49 ([(.int .i64 0)] ++ za_47), pt g1 49 ([(.int .i64 x1.Lsn)] ++ c2)] := (by simpa using hS)
        refine nilN ?_
        refine bn (xn ?_)
        refine rg ?_
        refine stp hF (p_move rfl) (by decide) (fun a hF => ?_)
        refine stp hF (p_add (c := w64 (x4 + 1)) rfl rfl rfl) (by decide) (fun a hF => ?_)
        refine stp hF (p_assign rfl) (by decide) (fun a hF => ?_)
        refine nilN ?_
        refine xn ?_
        exact ⟨(wr x3 x4 (⟨x5.Has, (⟨x5.O.Kind, x5.O.Ints, x5.O.Refs⟩ : TObj)⟩ : TSlot)), (w64 (x4 + 1)), s6, c6, hS, hF.cut ⟨rfl, rfl, rfl, rfl, trivial⟩, (((hg1.trans hg2).trans hg3).trans hg4), h8, H⟩
      · replace H := hbf hc1 H
        refine exi ?_
        refine xe (xe (hit (xn ?_)))
        obtain rfl := hsm H
        exact ⟨x3, s3, c4, hS, hF.cut ⟨rfl, rfl, trivial⟩, hg1, h2, HK1⟩
  · clear H HK1 hS hF
    rintro a w ⟨x2, s2, c3, hS, hF, hg5, h9, H⟩
    unfold spec_l3Copy.c1 at H
    refine sq ?_
    refine rg ?_
    refine stp hF (p_ldb_agg (i := 0) (l := []) (m := [(.int .i64 x1.Lsn)] ++ c3) (r := []) hS rfl rfl ia_49 ti_49 (by simp) (by simp [(show c3.length = 16 from Kd.len _ h9)]) (by simp [(show c3.length = 16 from Kd.len _ h9)])) (by decide) (fun a hF => ?_)
    refine ste0 hF (e_stb (i := 1) (l := []) (m := [(.int .i64 0)] ++ za_47) (r := []) (m' := [(.int .i64 x1.Lsn)] ++ c3) (cs' := [(.int .i64 x1.Lsn)] ++ c3) hS rfl rfl rfl ti_49 (by simp) (by simp [zl_47, (show c3.length = 16 from Kd.len _ h9)]) (by simp [zl_47, (show c3.length = 16 from Kd.len _ h9)]) rfl (by simp [zl_47, (show c3.length = 16 from Kd.len _ h9)]) (one_app (one_cons rfl one_nil) (Kd.one _ h9)) (by simp)) (fun v w a hR hF => ?_)
    have hS : St e s2 w [pt g2 49 ([(.int .i64 x1.Lsn)] ++ c3), pt g3 49 ([(.int .i64 x1.Lsn)] ++ c3), pt g1 49 ([(.int .i64 x1.Lsn)] ++ c2)] := hR
    refine nilN ?_
    refine xn ?_
    refine rt ?_
    obtain rfl := hsm H
    have h10 : RvOk Try.prog _ w (.cell 2 49) _ := rvC (i := 0) hS rfl (show lk [(2, (.pointer (some ⟨g2, 0, none⟩)))] 2 = _ from rfl) ia_49 ti_49 (by simp [(show c3.length = 16 from Kd.len _ h9)])
    replace hS := hS.sel (is := []) (A' := []) rfl
    exact retc1 hF rfl h10 hS ⟨c3, rfl, rfl, h9⟩

def spec_SetSlot.c1 (k : Nat) (x1 : TPage) (x2 : TSlot) (x3 : Int) (x4 : Int) (x5 : Bool) : Option (TPage × Bool) :=
  (if x5 = true then (some (x1, false)) else ((spec_l3CopySlot.f k x2).bind fun x6 => (if 0 ≤ x3 ∧ x3 < 4 then (some ((⟨x4, (wr x1.Slots x3 (⟨x6.Has, (⟨x6.O.Kind, x6.O.Ints, x6.O.Refs⟩ : TObj)⟩ : TSlot))⟩ : TPage), true)) else none)))
def spec_SetSlot.c2 (k : Nat) (x4 : Int) (x7 : TPage) (x1 : TPage) (x2 : TSlot) (x3 : Int) (x8 : Bool) : Option (TPage × Bool) :=
  ((if x8 = true then (some true) else ((spec_l1In.f k x4 x7.Lsn 1000000).bind fun x9 => (some (!x9))) : Option Bool).bind fun x10 => spec_SetSlot.c1 k x1 x2 x3 x4 x10)
def spec_SetSlot.c3 (k : Nat) (x2 : TSlot) (x4 : Int) (x7 : TPage) (x1 : TPage) (x3 : Int) (x11 : Bool) : Option (TPage × Bool) :=
  ((if x11 = true then (some true) else ((spec_l3Slot.f k x2).bind fun x12 => (some (!x12))) : Option Bool).bind fun x13 => spec_SetSlot.c2 k x4 x7 x1 x2 x3 x13)
def spec_SetSlot.f (k : Nat) (x7 : TPage) (x3 : Int) (x2 : TSlot) (x4 : Int) : Option (TPage × Bool) :=
  ((spec_l3Copy.f k x7).bind fun x1 => ((spec_PageOk.f k x7).bind fun x14 => ((if (!x14) = true then (some true) else ((spec_l1In.f k x3 0 3).bind fun x15 => (some (!x15))) : Option Bool).bind fun x16 => spec_SetSlot.c3 k x2 x4 x7 x1 x3 x16)))
set_option maxRecDepth 100000 in
set_option maxHeartbeats 4000000 in
theorem spec_SetSlot.spec (k : Nat) (s0 : HF) (w : World) (x7 : TPage) (x3 : Int) (x2 : TSlot) (x4 : Int) (c4 : List Value) (v1 : Value) (v2 : Value) (h1 : ((Kd.arr 4 kTSlot)).K s0 x7.Slots c4) (h2 : Sl (Kd.int .i64) s0 v1 x2.O.Ints) (h3 : Sl (Kd.int .i64) s0 v2 x2.O.Refs) (r : TPage × Bool) (H : spec_SetSlot.f k x7 x3 x2 x4 = some r) :
    Law Try.prog 34 #[(.agg ([(.int .i64 x7.Lsn)] ++ c4 : List Value).toArray), (.int .i64 x3), (.agg #[(.bool x2.Has), (.int .i64 x2.O.Kind), v1, v2]), (.int .i64 x4)] s0 w [] (fun v s1 A1 => ∃ (u0 : List Value), v = (.tuple #[(.agg ([(.int .i64 r.1.Lsn)] ++ u0 : List Value).toArray), (.bool r.2)]) ∧ A1 = [] ∧ ((Kd.arr 4 kTSlot)).K s1 r.1.Slots u0) := by
  unfold spec_SetSlot.f at H
  refine Law.intro Try.func34 rfl [(0, (.agg ([(.int .i64 x7.Lsn)] ++ c4 : List Value).toArray)), (1, (.int .i64 x3)), (2, (.agg #[(.bool x2.Has), (.int .i64 x2.O.Kind), v1, v2])), (3, (.int .i64 x4))] (Nat.le_of_ble_eq_true rfl) (enter_lk ⟨rfl, rfl, rfl, rfl, trivial⟩) (fun e a hS hF => ?_)
  have hF : Fr 42 a [(0, (.agg ([(.int .i64 x7.Lsn)] ++ c4 : List Value).toArray)), (1, (.int .i64 x3)), (2, (.agg #[(.bool x2.Has), (.int .i64 x2.O.Kind), v1, v2])), (3, (.int .i64 x4))] := hF
  refine sq ?_
  refine rg ?_
  refine ste hF (e_box (cs := [(.int .i64 x7.Lsn)] ++ c4) hS rfl rfl) (by decide) (fun v w a hR hF => ?_)
  obtain ⟨g1, rfl, hS⟩ := hR
  refine ste hF (e_box (cs := [(.bool x2.Has), (.int .i64 x2.O.Kind), v1, v2]) hS rfl rfl) (by decide) (fun v w a hR hF => ?_)
  obtain ⟨g2, rfl, hS⟩ := hR
  refine ste hF (e_alloc (cs := [(.int .i64 0)] ++ za_47) hS ti_49 rfl) (by decide) (fun v w a hR hF => ?_)
  obtain ⟨g3, rfl, hS⟩ := hR
  refine stp hF (p_assign rfl) (by decide) (fun a hF => ?_)
  refine nilN ?_
  refine xn ?_
  refine sq ?_
  refine rg ?_
  refine stp hF (p_ldb_agg (i := 2) (l := []) (m := [(.int .i64 x7.Lsn)] ++ c4) (r := []) hS rfl rfl ia_49 ti_49 (by simp) (by simp [(show c4.length = 16 from Kd.len _ h1)]) (by simp [(show c4.length = 16 from Kd.len _ h1)])) (by decide) (fun a hF => ?_)
  obtain ⟨x1, hx1, H⟩ := hb H
  refine ste hF (e_callA (fst := []) (vs := [(.agg ([(.int .i64 x7.Lsn)] ++ c4 : List Value).toArray)]) (cap := []) rfl rfl go_98 (St.call (A := []) (B := [pt g3 49 ([(.int .i64 0)] ++ za_47), pt g2 38 ([(.bool x2.Has), (.int .i64 x2.O.Kind), v1, v2]), pt g1 49 ([(.int .i64 x7.Lsn)] ++ c4)]) hS (spec_l3Copy.spec k _ _ x7 c4 h1 _ hx1)) rfl) (by decide) (fun v w a hR hF => ?_)
  obtain ⟨s2, A2, hg1, hS, hR⟩ := hR
  obtain ⟨c5, hv1, rfl, h4⟩ := hR; obtain rfl := hv1.symm
  have hS : St e s2 w [pt g3 49 ([(.int .i64 0)] ++ za_47), pt g2 38 ([(.bool x2.Has), (.int .i64 x2.O.Kind), v1, v2]), pt g1 49 ([(.int .i64 x7.Lsn)] ++ c4)] := hS
  refine ste hF (e_alloc (cs := [(.int .i64 0)] ++ za_47) hS ti_49 rfl) (by decide) (fun v w a hR hF => ?_)
  obtain ⟨g4, rfl, hS⟩ := hR
  refine ste0 hF (e_stb (i := 0) (l := []) (m := [(.int .i64 0)] ++ za_47) (r := []) (m' := [(.int .i64 x1.Lsn)] ++ c5) (cs' := [(.int .i64 x1.Lsn)] ++ c5) hS rfl rfl rfl ti_49 (by simp) (by simp [zl_47, (show c5.length = 16 from Kd.len _ h4)]) (by simp [zl_47, (show c5.length = 16 from Kd.len _ h4)]) rfl (by simp [zl_47, (show c5.length = 16 from Kd.len _ h4)]) (one_app (one_cons rfl one_nil) (Kd.one _ h4)) (by simp)) (fun v w a hR hF => ?_)
  have hS : St e s2 w [pt g4 49 ([(.int .i64 x1.Lsn)] ++ c5), pt g3 49 ([(.int .i64 0)] ++ za_47), pt g2 38 ([(.bool x2.Has), (.int .i64 x2.O.Kind), v1, v2]), pt g1 49 ([(.int .i64 x7.Lsn)] ++ c4)] := hR
  refine nilN ?_
  refine xn ?_
  refine sq ?_
  refine sq ?_
  refine rg ?_
  refine stp hF (p_ldb_agg (i := 3) (l := []) (m := [(.int .i64 x7.Lsn)] ++ c4) (r := []) hS rfl rfl ia_49 ti_49 (by simp) (by simp [(show c4.length = 16 from Kd.len _ ((Kd.arr 4 kTSlot).mono hg1 h1))]) (by simp [(show c4.length = 16 from Kd.len _ ((Kd.arr 4 kTSlot).mono hg1 h1))])) (by decide) (fun a hF => ?_)
  obtain ⟨x14, hx2, H⟩ := hb H
  refine ste hF (e_callA (fst := []) (vs := [(.agg ([(.int .i64 x7.Lsn)] ++ c4 : List Value).toArray)]) (cap := []) rfl rfl go_29 (St.call (A := []) (B := [pt g4 49 ([(.int .i64 x1.Lsn)] ++ c5), pt g3 49 ([(.int .i64 0)] ++ za_47), pt g2 38 ([(.bool x2.Has), (.int .i64 x2.O.Kind), v1, v2]), pt g1 49 ([(.int .i64 x7.Lsn)] ++ c4)]) hS (spec_PageOk.spec k _ _ x7 c4 ((Kd.arr 4 kTSlot).mono hg1 h1) _ hx2)) rfl) (by decide) (fun v w a hR hF => ?_)
  obtain ⟨s3, A3, hg2, hS, hR⟩ := hR
  obtain ⟨hv2, rfl⟩ := hR; obtain rfl := hv2.symm
  have hS : St e s3 w [pt g4 49 ([(.int .i64 x1.Lsn)] ++ c5), pt g3 49 ([(.int .i64 0)] ++ za_47), pt g2 38 ([(.bool x2.Has), (.int .i64 x2.O.Kind), v1, v2]), pt g1 49 ([(.int .i64 x7.Lsn)] ++ c4)] := hS
  refine stp hF (p_not rfl) (by decide) (fun a hF => ?_)
  refine stp hF (p_move rfl) (by decide) (fun a hF => ?_)
  obtain ⟨x16, H, HK1⟩ := hb H
  refine cutj 4 (fun a w => ∃ (x11 : Bool) (s4 : HF) , St e s4 w [pt g4 49 ([(.int .i64 x1.Lsn)] ++ c5), pt g3 49 ([(.int .i64 0)] ++ za_47), pt g2 38 ([(.bool x2.Has), (.int .i64 x2.O.Kind), v1, v2]), pt g1 49 ([(.int .i64 x7.Lsn)] ++ c4)] ∧ Fr 42 a [(1, (.int .i64 x3)), (3, (.int .i64 x4)), (4, (.pointer (some ⟨g1, 0, none⟩))), (6, (.pointer (some ⟨g2, 0, none⟩))), (8, (.pointer (some ⟨g3, 0, none⟩))), (10, (.pointer (some ⟨g4, 0, none⟩))), (20, (.bool x11))] ∧ Sub s3 s4 ∧ spec_SetSlot.c3 k x2 x4 x7 x1 x3 x11 = some r) rfl rfl ?_ ?_
  · rcases Bool.eq_false_or_eq_true ((!x14)) with hc1 | hc1
    · replace H := hbt hc1 H
      refine gofD (j := 3) hF rfl rfl (by rw [hc1]; decide) (by decide) (fun a hF => ?_)
      refine gofD (j := 3) hF rfl rfl (by rw [hc1]; decide) (by decide) (fun a hF => ?_)
      refine gofD (j := 3) hF rfl rfl (by rw [hc1]; decide) (by decide) (fun a hF => ?_)
      refine stp hF (p_pickT rfl hc1 rfl) (by decide) (fun a hF => ?_)
      refine nilN ?_
      refine xn ?_
      obtain rfl := hsm H
      exact ⟨true, s3, hS, hF.cut ⟨rfl, rfl, rfl, rfl, rfl, rfl, rfl, trivial⟩, (Sub.refl _), HK1⟩
    · replace H := hbf hc1 H
      refine gonE (j := 3) hF rfl rfl hc1 ?_
      refine stp hF (p_move rfl) (by decide) (fun a hF => ?_)
      obtain ⟨x15, hx3, H⟩ := hb H
      refine gonE (j := 3) hF rfl rfl hc1 ?_
      refine ste hF (e_callA (fst := []) (vs := [(.int .i64 x3), (.int .i64 0), (.int .i64 3)]) (cap := []) rfl rfl go_75 (St.call (A := []) (B := [pt g4 49 ([(.int .i64 x1.Lsn)] ++ c5), pt g3 49 ([(.int .i64 0)] ++ za_47), pt g2 38 ([(.bool x2.Has), (.int .i64 x2.O.Kind), v1, v2]), pt g1 49 ([(.int .i64 x7.Lsn)] ++ c4)]) hS (spec_l1In.spec k _ _ x3 0 3 _ hx3)) rfl) (by decide) (fun v w a hR hF => ?_)
      obtain ⟨s5, A4, hg3, hS, hR⟩ := hR
      obtain ⟨hv3, rfl⟩ := hR; obtain rfl := hv3.symm
      have hS : St e s5 w [pt g4 49 ([(.int .i64 x1.Lsn)] ++ c5), pt g3 49 ([(.int .i64 0)] ++ za_47), pt g2 38 ([(.bool x2.Has), (.int .i64 x2.O.Kind), v1, v2]), pt g1 49 ([(.int .i64 x7.Lsn)] ++ c4)] := hS
      refine gonE (j := 3) hF rfl rfl hc1 ?_
      refine stp hF (p_not rfl) (by decide) (fun a hF => ?_)
      refine stp hF (p_pickF rfl hc1 rfl) (by decide) (fun a hF => ?_)
      refine nilN ?_
      refine xn ?_
      obtain rfl := hsm H
      exact ⟨(!x15), s5, hS, hF.cut ⟨rfl, rfl, rfl, rfl, rfl, rfl, rfl, trivial⟩, hg3, HK1⟩
  · clear H HK1 hS hF
    rintro a w ⟨x11, s4, hS, hF, hg4, H⟩
    unfold spec_SetSlot.c3 at H
    refine stp hF (p_move rfl) (by decide) (fun a hF => ?_)
    obtain ⟨x13, H, HK2⟩ := hb H
    refine cutj 4 (fun a w => ∃ (x8 : Bool) (s6 : HF) , St e s6 w [pt g4 49 ([(.int .i64 x1.Lsn)] ++ c5), pt g3 49 ([(.int .i64 0)] ++ za_47), pt g2 38 ([(.bool x2.Has), (.int .i64 x2.O.Kind), v1, v2]), pt g1 49 ([(.int .i64 x7.Lsn)] ++ c4)] ∧ Fr 42 a [(1, (.int .i64 x3)), (3, (.int .i64 x4)), (4, (.pointer (some ⟨g1, 0, none⟩))), (6, (.pointer (some ⟨g2, 0, none⟩))), (8, (.pointer (some ⟨g3, 0, none⟩))), (10, (.pointer (some ⟨g4, 0, none⟩))), (25, (.bool x8))] ∧ Sub s4 s6 ∧ spec_SetSlot.c2 k x4 x7 x1 x2 x3 x8 = some r) rfl rfl ?_ ?_
    · rcases Bool.eq_false_or_eq_true (x11) with hc2 | hc2
      · replace H := hbt hc2 H
        refine gofD (j := 8) hF rfl rfl (by rw [hc2]; decide) (by decide) (fun a hF => ?_)
        refine gofD (j := 8) hF rfl rfl (by rw [hc2]; decide) (by decide) (fun a hF => ?_)
        refine gofD (j := 8) hF rfl rfl (by rw [hc2]; decide) (by decide) (fun a hF => ?_)
        refine stp hF (p_pickT rfl hc2 rfl) (by decide) (fun a hF => ?_)
        refine nilN ?_
        refine xn ?_
        obtain rfl := hsm H
        exact ⟨true, s4, hS, hF.cut ⟨rfl, rfl, rfl, rfl, rfl, rfl, rfl, trivial⟩, (Sub.refl _), HK2⟩
      · replace H := hbf hc2 H
        refine gonE (j := 8) hF rfl rfl hc2 ?_
        refine stp hF (p_ldb_agg (i := 2) (l := []) (m := [(.bool x2.Has), (.int .i64 x2.O.Kind), v1, v2]) (r := []) hS rfl rfl ia_38 ti_38 rfl rfl rfl) (by decide) (fun a hF => ?_)
        obtain ⟨x12, hx4, H⟩ := hb H
        refine gonE (j := 8) hF rfl rfl hc2 ?_
        refine ste hF (e_callA (fst := []) (vs := [(.agg #[(.bool x2.Has), (.int .i64 x2.O.Kind), v1, v2])]) (cap := []) rfl rfl go_76 (St.call (A := []) (B := [pt g4 49 ([(.int .i64 x1.Lsn)] ++ c5), pt g3 49 ([(.int .i64 0)] ++ za_47), pt g2 38 ([(.bool x2.Has), (.int .i64 x2.O.Kind), v1, v2]), pt g1 49 ([(.int .i64 x7.Lsn)] ++ c4)]) hS (spec_l3Slot.spec k _ _ x2 v1 v2 (((h2.mono hg1).mono hg2).mono hg4) (((h3.mono hg1).mono hg2).mono hg4) _ hx4)) rfl) (by decide) (fun v w a hR hF => ?_)
        obtain ⟨s7, A5, hg5, hS, hR⟩ := hR
        obtain ⟨hv4, rfl⟩ := hR; obtain rfl := hv4.symm
        have hS : St e s7 w [pt g4 49 ([(.int .i64 x1.Lsn)] ++ c5), pt g3 49 ([(.int .i64 0)] ++ za_47), pt g2 38 ([(.bool x2.Has), (.int .i64 x2.O.Kind), v1, v2]), pt g1 49 ([(.int .i64 x7.Lsn)] ++ c4)] := hS
        refine gonE (j := 8) hF rfl rfl hc2 ?_
        refine stp hF (p_not rfl) (by decide) (fun a hF => ?_)
        refine stp hF (p_pickF rfl hc2 rfl) (by decide) (fun a hF => ?_)
        refine nilN ?_
        refine xn ?_
        obtain rfl := hsm H
        exact ⟨(!x12), s7, hS, hF.cut ⟨rfl, rfl, rfl, rfl, rfl, rfl, rfl, trivial⟩, hg5, HK2⟩
    · clear H HK2 hS hF
      rintro a w ⟨x8, s6, hS, hF, hg6, H⟩
      unfold spec_SetSlot.c2 at H
      refine stp hF (p_move rfl) (by decide) (fun a hF => ?_)
      obtain ⟨x10, H, HK3⟩ := hb H
      refine cutj 6 (fun a w => ∃ (x5 : Bool) (s8 : HF) , St e s8 w [pt g4 49 ([(.int .i64 x1.Lsn)] ++ c5), pt g3 49 ([(.int .i64 0)] ++ za_47), pt g2 38 ([(.bool x2.Has), (.int .i64 x2.O.Kind), v1, v2]), pt g1 49 ([(.int .i64 x7.Lsn)] ++ c4)] ∧ Fr 42 a [(1, (.int .i64 x3)), (3, (.int .i64 x4)), (6, (.pointer (some ⟨g2, 0, none⟩))), (8, (.pointer (some ⟨g3, 0, none⟩))), (10, (.pointer (some ⟨g4, 0, none⟩))), (32, (.bool x5))] ∧ Sub s6 s8 ∧ spec_SetSlot.c1 k x1 x2 x3 x4 x5 = some r) rfl rfl ?_ ?_
      · rcases Bool.eq_false_or_eq_true (x8) with hc3 | hc3
        · replace H := hbt hc3 H
          refine gofD (j := 13) hF rfl rfl (by rw [hc3]; decide) (by decide) (fun a hF => ?_)
          refine gofD (j := 13) hF rfl rfl (by rw [hc3]; decide) (by decide) (fun a hF => ?_)
          refine gofD (j := 13) hF rfl rfl (by rw [hc3]; decide) (by decide) (fun a hF => ?_)
          refine gofD (j := 13) hF rfl rfl (by rw [hc3]; decide) (by decide) (fun a hF => ?_)
          refine gofD (j := 13) hF rfl rfl (by rw [hc3]; decide) (by decide) (fun a hF => ?_)
          refine stp hF (p_pickT rfl hc3 rfl) (by decide) (fun a hF => ?_)
          refine nilN ?_
          refine xn ?_
          obtain rfl := hsm H
          exact ⟨true, s6, hS, hF.cut ⟨rfl, rfl, rfl, rfl, rfl, rfl, trivial⟩, (Sub.refl _), HK3⟩
        · replace H := hbf hc3 H
          refine gonE (j := 13) hF rfl rfl hc3 ?_
          refine stp hF (p_move rfl) (by decide) (fun a hF => ?_)
          refine gonE (j := 13) hF rfl rfl hc3 ?_
          refine stp hF (p_fldb (o' := 0) rfl fi_49_0 rfl) (by decide) (fun a hF => ?_)
          refine gonE (j := 13) hF rfl rfl hc3 ?_
          refine stp hF (p_ldb_one (i := 3) hS rfl rfl ia_3 rfl) (by decide) (fun a hF => ?_)
          obtain ⟨x9, hx5, H⟩ := hb H
          refine gonE (j := 13) hF rfl rfl hc3 ?_
          refine ste hF (e_callA (fst := []) (vs := [(.int .i64 x4), (.int .i64 x7.Lsn), (.int .i64 1000000)]) (cap := []) rfl rfl go_75 (St.call (A := []) (B := [pt g4 49 ([(.int .i64 x1.Lsn)] ++ c5), pt g3 49 ([(.int .i64 0)] ++ za_47), pt g2 38 ([(.bool x2.Has), (.int .i64 x2.O.Kind), v1, v2]), pt g1 49 ([(.int .i64 x7.Lsn)] ++ c4)]) hS (spec_l1In.spec k _ _ x4 x7.Lsn 1000000 _ hx5)) rfl) (by decide) (fun v w a hR hF => ?_)
          obtain ⟨s9, A6, hg7, hS, hR⟩ := hR
          obtain ⟨hv5, rfl⟩ := hR; obtain rfl := hv5.symm
          have hS : St e s9 w [pt g4 49 ([(.int .i64 x1.Lsn)] ++ c5), pt g3 49 ([(.int .i64 0)] ++ za_47), pt g2 38 ([(.bool x2.Has), (.int .i64 x2.O.Kind), v1, v2]), pt g1 49 ([(.int .i64 x7.Lsn)] ++ c4)] := hS
          refine gonE (j := 13) hF rfl rfl hc3 ?_
          refine stp hF (p_not rfl) (by decide) (fun a hF => ?_)
          refine stp hF (p_pickF rfl hc3 rfl) (by decide) (fun a hF => ?_)
          refine nilN ?_
          refine xn ?_
          obtain rfl := hsm H
          exact ⟨(!x9), s9, hS, hF.cut ⟨rfl, rfl, rfl, rfl, rfl, rfl, trivial⟩, hg7, HK3⟩
      · clear H HK3 hS hF
        rintro a w ⟨x5, s8, hS, hF, hg8, H⟩
        unfold spec_SetSlot.c1 at H
        refine nilN ?_
        refine xn ?_
        refine cnd hF rfl (fun hc4 => ?_) (fun hc4 => ?_)
        · replace H := hbt hc4 H
          refine sq ?_
          refine rg ?_
          refine stp hF (p_ldb_agg (i := 0) (l := []) (m := [(.int .i64 x1.Lsn)] ++ c5) (r := []) hS rfl rfl ia_49 ti_49 (by simp) (by simp [(show c5.length = 16 from Kd.len _ ((Kd.arr 4 kTSlot).mono hg8 ((Kd.arr 4 kTSlot).mono hg6 ((Kd.arr 4 kTSlot).mono hg4 ((Kd.arr 4 kTSlot).mono hg2 h4)))))]) (by simp [(show c5.length = 16 from Kd.len _ ((Kd.arr 4 kTSlot).mono hg8 ((Kd.arr 4 kTSlot).mono hg6 ((Kd.arr 4 kTSlot).mono hg4 ((Kd.arr 4 kTSlot).mono hg2 h4)))))])) (by decide) (fun a hF => ?_)
          refine ste0 hF (e_stb (i := 1) (l := []) (m := [(.int .i64 0)] ++ za_47) (r := []) (m' := [(.int .i64 x1.Lsn)] ++ c5) (cs' := [(.int .i64 x1.Lsn)] ++ c5) hS rfl rfl rfl ti_49 (by simp) (by simp [zl_47, (show c5.length = 16 from Kd.len _ ((Kd.arr 4 kTSlot).mono hg8 ((Kd.arr 4 kTSlot).mono hg6 ((Kd.arr 4 kTSlot).mono hg4 ((Kd.arr 4 kTSlot).mono hg2 h4)))))]) (by simp [zl_47, (show c5.length = 16 from Kd.len _ ((Kd.arr 4 kTSlot).mono hg8 ((Kd.arr 4 kTSlot).mono hg6 ((Kd.arr 4 kTSlot).mono hg4 ((Kd.arr 4 kTSlot).mono hg2 h4)))))]) rfl (by simp [zl_47, (show c5.length = 16 from Kd.len _ ((Kd.arr 4 kTSlot).mono hg8 ((Kd.arr 4 kTSlot).mono hg6 ((Kd.arr 4 kTSlot).mono hg4 ((Kd.arr 4 kTSlot).mono hg2 h4)))))]) (one_app (one_cons rfl one_nil) (Kd.one _ ((Kd.arr 4 kTSlot).mono hg8 ((Kd.arr 4 kTSlot).mono hg6 ((Kd.arr 4 kTSlot).mono hg4 ((Kd.arr 4 kTSlot).mono hg2 h4)))))) (by simp)) (fun v w a hR hF => ?_)
          have hS : St e s8 w [pt g3 49 ([(.int .i64 x1.Lsn)] ++ c5), pt g4 49 ([(.int .i64 x1.Lsn)] ++ c5), pt g2 38 ([(.bool x2.Has), (.int .i64 x2.O.Kind), v1, v2]), pt g1 49 ([(.int .i64 x7.Lsn)] ++ c4)] := hR
          refine stp hF (p_assign rfl) (by decide) (fun a hF => ?_)
          refine nilN ?_
          refine xn ?_
          refine rt ?_
          refine xr ?_
          obtain rfl := hsm H
          have h5 : RvOk Try.prog _ w (.cell 8 49) _ := rvC (i := 0) hS rfl (show lk [(8, (.pointer (some ⟨g3, 0, none⟩))), (9, (.bool false))] 8 = _ from rfl) ia_49 ti_49 (by simp [(show c5.length = 16 from Kd.len _ ((Kd.arr 4 kTSlot).mono hg8 ((Kd.arr 4 kTSlot).mono hg6 ((Kd.arr 4 kTSlot).mono hg4 ((Kd.arr 4 kTSlot).mono hg2 h4)))))])
          replace hS := hS.sel (is := []) (A' := []) rfl
          exact retc2 hF rfl h5 (rvT rfl) hS ⟨c5, rfl, rfl, ((Kd.arr 4 kTSlot).mono hg8 ((Kd.arr 4 kTSlot).mono hg6 ((Kd.arr 4 kTSlot).mono hg4 ((Kd.arr 4 kTSlot).mono hg2 h4))))⟩
        · replace H := hbf hc4 H
          refine skN ?_
          refine xn ?_
          refine sq ?_
          refine rg ?_
          refine stp hF (p_move rfl) (by decide) (fun a hF => ?_)
          refine stp hF (p_ldb_agg (i := 2) (l := []) (m := [(.bool x2.Has), (.int .i64 x2.O.Kind), v1, v2]) (r := []) hS rfl rfl ia_38 ti_38 rfl rfl rfl) (by decide) (fun a hF => ?_)
          obtain ⟨x6, hx6, H⟩ := hb H
          refine ste hF (e_callA (fst := []) (vs := [(.agg #[(.bool x2.Has), (.int .i64 x2.O.Kind), v1, v2])]) (cap := []) rfl rfl go_99 (St.call (A := []) (B := [pt g4 49 ([(.int .i64 x1.Lsn)] ++ c5), pt g3 49 ([(.int .i64 0)] ++ za_47), pt g2 38 ([(.bool x2.Has), (.int .i64 x2.O.Kind), v1, v2]), pt g1 49 ([(.int .i64 x7.Lsn)] ++ c4)]) hS (spec_l3CopySlot.spec k _ _ x2 v1 v2 (((((h2.mono hg1).mono hg2).mono hg4).mono hg6).mono hg8) (((((h3.mono hg1).mono hg2).mono hg4).mono hg6).mono hg8) _ hx6)) rfl) (by decide) (fun v w a hR hF => ?_)
          obtain ⟨s10, A7, hg9, hS, hR⟩ := hR
          obtain ⟨v3, v4, hv6, rfl⟩ := hR; obtain rfl := hv6.symm
          have hS : St e s10 w [Ow (Kd.int .i64) 3 v3 x6.O.Ints, Ow (Kd.int .i64) 3 v4 x6.O.Refs, pt g4 49 ([(.int .i64 x1.Lsn)] ++ c5), pt g3 49 ([(.int .i64 0)] ++ za_47), pt g2 38 ([(.bool x2.Has), (.int .i64 x2.O.Kind), v1, v2]), pt g1 49 ([(.int .i64 x7.Lsn)] ++ c4)] := hS
          refine stp hF (p_fldb (o' := 1) rfl fi_49_1 rfl) (by decide) (fun a hF => ?_)
          obtain ⟨hq1, H⟩ := hck H
          refine stp hF (p_idxb rfl rfl un_47 ti_38 hq1.1 hq1.2) (by decide) (fun a hF => ?_)
          obtain ⟨s11, hg10, h6, hS⟩ := hS.freeze (i := 0) (kd := (Kd.int .i64)) (et := 3) (v := v3) (xs := x6.O.Ints) (B := [Ow (Kd.int .i64) 3 v4 x6.O.Refs, pt g4 49 ([(.int .i64 x1.Lsn)] ++ c5), pt g3 49 ([(.int .i64 0)] ++ za_47), pt g2 38 ([(.bool x2.Has), (.int .i64 x2.O.Kind), v1, v2]), pt g1 49 ([(.int .i64 x7.Lsn)] ++ c4)]) rfl
          obtain ⟨s12, hg11, h7, hS⟩ := hS.freeze (i := 0) (kd := (Kd.int .i64)) (et := 3) (v := v4) (xs := x6.O.Refs) (B := [pt g4 49 ([(.int .i64 x1.Lsn)] ++ c5), pt g3 49 ([(.int .i64 0)] ++ za_47), pt g2 38 ([(.bool x2.Has), (.int .i64 x2.O.Kind), v1, v2]), pt g1 49 ([(.int .i64 x7.Lsn)] ++ c4)]) rfl
          refine ste0 hF (e_stba (n := 0) (l := [(.int .i64 x1.Lsn)]) (cs := c5) (r := []) (base := 1) (y0 := (⟨x6.Has, (⟨x6.O.Kind, x6.O.Ints, x6.O.Refs⟩ : TObj)⟩ : TSlot)) hS rfl (by simp) ((Kd.arr 4 kTSlot).mono hg11 ((Kd.arr 4 kTSlot).mono hg10 ((Kd.arr 4 kTSlot).mono hg9 ((Kd.arr 4 kTSlot).mono hg8 ((Kd.arr 4 kTSlot).mono hg6 ((Kd.arr 4 kTSlot).mono hg4 ((Kd.arr 4 kTSlot).mono hg2 h4))))))) (Lens.idx 4 kTSlot x3 hq1.1 hq1.2) rfl rfl rfl rfl ti_38 rfl (kTSlot_mk (x := (⟨x6.Has, (⟨x6.O.Kind, x6.O.Ints, x6.O.Refs⟩ : TObj)⟩ : TSlot)) (h6.mono hg11) h7)) (fun v w a hR hF => ?_)
          obtain ⟨c6, h8, hS⟩ := hR
          replace h8 : ((Kd.arr 4 kTSlot)).K s12 (wr x1.Slots x3 (⟨x6.Has, (⟨x6.O.Kind, x6.O.Ints, x6.O.Refs⟩ : TObj)⟩ : TSlot)) c6 := h8
          replace hS : St e s12 w [pt g4 49 ([(.int .i64 x1.Lsn)] ++ c6), pt g3 49 ([(.int .i64 0)] ++ za_47), pt g2 38 ([(.bool x2.Has), (.int .i64 x2.O.Kind), v1, v2]), pt g1 49 ([(.int .i64 x7.Lsn)] ++ c4)] := (by simpa using hS)
          refine nilN ?_
          refine xn ?_
          refine sq ?_
          refine rg ?_
          refine stp hF (p_move rfl) (by decide) (fun a hF => ?_)
          refine stp hF (p_fldb (o' := 0) rfl fi_49_0 rfl) (by decide) (fun a hF => ?_)
          refine ste0 hF (e_stb (i := 0) (l := []) (m := [(.int .i64 x1.Lsn)]) (r := c6) (m' := [(.int .i64 x4)]) (cs' := [(.int .i64 x4)] ++ c6) hS rfl rfl rfl ti_3 (by simp) (by simp) (by simp) rfl (by simp) (one_cons rfl one_nil) (by simp)) (fun v w a hR hF => ?_)
          have hS : St e s12 w [pt g4 49 ([(.int .i64 x4)] ++ c6), pt g3 49 ([(.int .i64 0)] ++ za_47), pt g2 38 ([(.bool x2.Has), (.int .i64 x2.O.Kind), v1, v2]), pt g1 49 ([(.int .i64 x7.Lsn)] ++ c4)] := hR
          refine nilN ?_
          refine xn ?_
          refine sq ?_
          refine rg ?_
          refine stp hF (p_ldb_agg (i := 0) (l := []) (m := [(.int .i64 x4)] ++ c6) (r := []) hS rfl rfl ia_49 ti_49 (by simp) (by simp [(show c6.length = 16 from Kd.len _ h8)]) (by simp [(show c6.length = 16 from Kd.len _ h8)])) (by decide) (fun a hF => ?_)
          refine ste0 hF (e_stb (i := 1) (l := []) (m := [(.int .i64 0)] ++ za_47) (r := []) (m' := [(.int .i64 x4)] ++ c6) (cs' := [(.int .i64 x4)] ++ c6) hS rfl rfl rfl ti_49 (by simp) (by simp [zl_47, (show c6.length = 16 from Kd.len _ h8)]) (by simp [zl_47, (show c6.length = 16 from Kd.len _ h8)]) rfl (by simp [zl_47, (show c6.length = 16 from Kd.len _ h8)]) (one_app (one_cons rfl one_nil) (Kd.one _ h8)) (by simp)) (fun v w a hR hF => ?_)
          have hS : St e s12 w [pt g3 49 ([(.int .i64 x4)] ++ c6), pt g4 49 ([(.int .i64 x4)] ++ c6), pt g2 38 ([(.bool x2.Has), (.int .i64 x2.O.Kind), v1, v2]), pt g1 49 ([(.int .i64 x7.Lsn)] ++ c4)] := hR
          refine stp hF (p_assign rfl) (by decide) (fun a hF => ?_)
          refine nilN ?_
          refine xn ?_
          refine rt ?_
          obtain rfl := hsm H
          have h9 : RvOk Try.prog _ w (.cell 8 49) _ := rvC (i := 0) hS rfl (show lk [(8, (.pointer (some ⟨g3, 0, none⟩))), (9, (.bool true))] 8 = _ from rfl) ia_49 ti_49 (by simp [(show c6.length = 16 from Kd.len _ h8)])
          replace hS := hS.sel (is := []) (A' := []) rfl
          exact retc2 hF rfl h9 (rvT rfl) hS ⟨c6, rfl, rfl, h8⟩

def impl_FreeSlot_1.f (k : Nat) (x1 : TSlot) : Option Bool :=
  (some (!x1.Has))
set_option maxRecDepth 100000 in
set_option maxHeartbeats 4000000 in
theorem impl_FreeSlot_1.spec (k : Nat) (s0 : HF) (w : World) (x1 : TSlot) (v1 : Value) (v2 : Value) (h1 : Sl (Kd.int .i64) s0 v1 x1.O.Ints) (h2 : Sl (Kd.int .i64) s0 v2 x1.O.Refs) (r : Bool) (H : impl_FreeSlot_1.f k x1 = some r) :
    Law Try.prog 102 #[(.agg #[(.bool x1.Has), (.int .i64 x1.O.Kind), v1, v2])] s0 w [] (fun v s1 A1 => v = (.bool r) ∧ A1 = []) := by
  unfold impl_FreeSlot_1.f at H
  refine Law.intro Try.func102 rfl [(0, (.agg #[(.bool x1.Has), (.int .i64 x1.O.Kind), v1, v2]))] (Nat.le_of_ble_eq_true rfl) (enter_lk ⟨rfl, trivial⟩) (fun e a hS hF => ?_)
  have hF : Fr 6 a [(0, (.agg #[(.bool x1.Has), (.int .i64 x1.O.Kind), v1, v2]))] := hF
  refine sq ?_
  refine rg ?_
  refine ste hF (e_box (cs := [(.bool x1.Has), (.int .i64 x1.O.Kind), v1, v2]) hS rfl rfl) (by decide) (fun v w a hR hF => ?_)
  obtain ⟨g1, rfl, hS⟩ := hR
  refine stp hF (p_assign rfl) (by decide) (fun a hF => ?_)
  refine nilN ?_
  refine xn ?_
  refine sq ?_
  refine rg ?_
  refine stp hF (p_fldb (o' := 0) rfl fi_38_0 rfl) (by decide) (fun a hF => ?_)
  refine stp hF (p_ldb_one (i := 0) hS rfl rfl ia_4 rfl) (by decide) (fun a hF => ?_)
  refine stp hF (p_not rfl) (by decide) (fun a hF => ?_)
  refine stp hF (p_assign rfl) (by decide) (fun a hF => ?_)
  refine nilN ?_
  refine xn ?_
  refine rt ?_
  obtain rfl := hsm H
  replace hS := hS.sel (is := []) (A' := []) rfl
  exact ret1 hF rfl rfl hS ⟨rfl, rfl⟩

def impl_Slot_101_1102.c1 (k : Nat) : Option Int :=
  (some (-1))
def impl_Slot_101_1102.l1 (x1 : (List TSlot)) : Nat → Int → Option (Ex Int Unit)
  | 0, _ => none
  | k + 1, x2 => (if (decide (x2 < (x1.length : Int))) = true then (if 0 ≤ x2 ∧ x2 < (x1.length : Int) then ((impl_FreeSlot_1.f k (rd x1 x2)).bind fun x3 => (if x3 = true then (some (Ex.ret x2)) else ((impl_Slot_101_1102.l1 x1 k) (w64 (x2 + 1))))) else none) else (some (Ex.go ())))
def impl_Slot_101_1102.f (k : Nat) (x1 : (List TSlot)) : Option Int :=
  (((impl_Slot_101_1102.l1 x1 k 0) : Option (Ex Int Unit)).bind fun x4 => Ex.on x4 (fun r => some r) (fun y => impl_Slot_101_1102.c1 k))
set_option maxRecDepth 100000 in
set_option maxHeartbeats 4000000 in
theorem impl_Slot_101_1102.spec (k : Nat) (s0 : HF) (w : World) (x1 : (List TSlot)) (v1 : Value) (h1 : Sl kTSlot s0 v1 x1) (r : Int) (H : impl_Slot_101_1102.f k x1 = some r) :
    Law Try.prog 101 #[v1, (.func (.func 102) #[] #[])] s0 w [] (fun v s1 A1 => v = (.int .i64 r) ∧ A1 = []) := by
  unfold impl_Slot_101_1102.f at H
  refine Law.intro Try.func101 rfl [(0, v1), (1, (.func (.func 102) #[] #[]))] (Nat.le_of_ble_eq_true rfl) (enter_lk ⟨rfl, rfl, trivial⟩) (fun e a hS hF => ?_)
  have hF : Fr 19 a [(0, v1), (1, (.func (.func 102) #[] #[]))] := hF
  refine sq ?_
  refine rg ?_
  refine stp hF (p_assign rfl) (by decide) (fun a hF => ?_)
  refine nilN ?_
  refine xn ?_
  obtain ⟨x4, H, HK1⟩ := hb H
  refine sqj (fun a w => ∃ (s2 : HF) , St e s2 w [] ∧ Fr 19 a [] ∧ Sub s0 s2 ∧ impl_Slot_101_1102.c1 k = some r) ?_ ?_
  · skip
    refine sq ?_
    refine rg ?_
    refine stp hF (p_move rfl) (by decide) (fun a hF => ?_)
    refine stp hF (p_lenr un_26 rfl h1) (by decide) (fun a hF => ?_)
    refine stp hF (p_move rfl) (by decide) (fun a hF => ?_)
    refine nilN ?_
    refine xn ?_
    refine blk ?_
    refine loop_ind (fun k1 a w => ∃ (x2 : Int) (s3 : HF) , St e s3 w [] ∧ Fr 19 a [(0, v1), (1, (.func (.func 102) #[] #[])), (7, (.int .i64 (x1.length : Int))), (8, (.int .i64 x2))] ∧ Sub s0 s3 ∧ impl_Slot_101_1102.l1 x1 k1 x2 = some x4) k ?_ ?_ ?_
    · skip
      exact ⟨0, s0, hS, hF.cut ⟨rfl, rfl, rfl, rfl, trivial⟩, (Sub.refl _), H⟩
    · clear H hS hF
      rintro a w ⟨x2, s3, hS, hF, hg1, H⟩
      exact absurd (show none = some _ from H) (by simp)
    · clear H hS hF
      rintro k1 a w ⟨x2, s3, hS, hF, hg1, H⟩
      rw [impl_Slot_101_1102.l1.eq_2] at H
      refine sq ?_
      refine rg ?_
      refine stp hF (p_lss rfl rfl) (by decide) (fun a hF => ?_)
      refine nilN ?_
      refine xn ?_
      refine sq ?_
      refine cnd hF rfl (fun hc1 => ?_) (fun hc1 => ?_)
      · replace H := hbt hc1 H
        refine skN ?_
        refine xn ?_
        refine sq ?_
        refine blk ?_
        refine sq ?_
        refine rg ?_
        refine stp hF (p_move rfl) (by decide) (fun a hF => ?_)
        refine stp hF (p_assign rfl) (by decide) (fun a hF => ?_)
        refine nilN ?_
        refine xn ?_
        refine sq ?_
        refine rg ?_
        refine stp hF (p_move rfl) (by decide) (fun a hF => ?_)
        refine stp hF (p_move rfl) (by decide) (fun a hF => ?_)
        refine stp hF (p_move rfl) (by decide) (fun a hF => ?_)
        obtain ⟨hq1, H⟩ := hck H
        obtain ⟨ad1, h2, p1⟩ := p_idxr (P := Try.prog) (i := x2) (h1.mono hg1) un_26 ti_38 hq1.1 hq1.2
        refine stp hF (p1 rfl rfl) (by decide) (fun a hF => ?_)
        obtain ⟨c2, h3, p2⟩ := p_ldr_agg (P := Try.prog) h2 ia_38 ti_38
        obtain ⟨v2, v3, rfl, h4, h5⟩ := kTSlot_open h3
        refine stp hF (p2 rfl hS.ro) (by decide) (fun a hF => ?_)
        obtain ⟨x3, hx1, H⟩ := hb H
        refine ste hF (e_callA (fst := []) (vs := [(.agg #[(.bool ((rd x1 x2).Has)), (.int .i64 (((rd x1 x2).O).Kind)), v2, v3])]) (cap := []) rfl rfl go_102 (St.call (A := []) (B := []) hS (impl_FreeSlot_1.spec k1 _ _ (rd x1 x2) v2 v3 h4 h5 _ hx1)) rfl) (by decide) (fun v w a hR hF => ?_)
        obtain ⟨s4, A2, hg2, hS, hR⟩ := hR
        obtain ⟨hv1, rfl⟩ := hR; obtain rfl := hv1.symm
        have hS : St e s4 w [] := hS
        refine nilN ?_
        refine xn ?_
        refine cnd hF rfl (fun hc2 => ?_) (fun hc2 => ?_)
        · replace H := hbt hc2 H
          refine sq ?_
          refine rg ?_
          refine stp hF (p_move rfl) (by decide) (fun a hF => ?_)
          refine stp hF (p_assign rfl) (by decide) (fun a hF => ?_)
          refine nilN ?_
          refine xn ?_
          refine rt ?_
          refine br (xr (xr (br (xr ?_))))
          obtain rfl := hsm H
          have H := hon1 HK1
          obtain rfl := hsm H
          exact ret1 hF rfl rfl hS ⟨rfl, rfl⟩
        · replace H := hbf hc2 H
          refine skN ?_
          refine bn (xn ?_)
          refine rg ?_
          refine stp hF (p_add (c := w64 (x2 + 1)) rfl rfl rfl) (by decide) (fun a hF => ?_)
          refine stp hF (p_move rfl) (by decide) (fun a hF => ?_)
          refine nilN ?_
          refine xn ?_
          exact ⟨(w64 (x2 + 1)), s4, hS, hF.cut ⟨rfl, rfl, rfl, rfl, trivial⟩, (hg1.trans hg2), H⟩
      · replace H := hbf hc1 H
        refine exi ?_
        refine xe (xe (hit (xn ?_)))
        obtain rfl := hsm H
        exact ⟨s3, hS, hF.cut trivial, hg1, HK1⟩
  · clear H HK1 hS hF
    rintro a w ⟨s2, hS, hF, hg3, H⟩
    unfold impl_Slot_101_1102.c1 at H
    refine sq ?_
    refine rg ?_
    refine stp hF (p_assign rfl) (by decide) (fun a hF => ?_)
    refine nilN ?_
    refine xn ?_
    refine rt ?_
    obtain rfl := hsm H
    exact ret1 hF rfl rfl hS ⟨rfl, rfl⟩

def impl_FreeSlot.f (k : Nat) (x1 : TPage) : Option Int :=
  ((impl_Slot_101_1102.f k x1.Slots).bind fun x2 => (some x2))
set_option maxRecDepth 100000 in
set_option maxHeartbeats 4000000 in
theorem impl_FreeSlot.spec (k : Nat) (s0 : HF) (w : World) (x1 : TPage) (c1 : List Value) (h1 : ((Kd.arr 4 kTSlot)).K s0 x1.Slots c1) (r : Int) (H : impl_FreeSlot.f k x1 = some r) :
    Law Try.prog 36 #[(.agg ([(.int .i64 x1.Lsn)] ++ c1 : List Value).toArray)] s0 w [] (fun v s1 A1 => v = (.int .i64 r) ∧ A1 = []) := by
  unfold impl_FreeSlot.f at H
  refine Law.intro Try.func36 rfl [(0, (.agg ([(.int .i64 x1.Lsn)] ++ c1 : List Value).toArray))] (Nat.le_of_ble_eq_true rfl) (enter_lk ⟨rfl, trivial⟩) (fun e a hS hF => ?_)
  have hF : Fr 6 a [(0, (.agg ([(.int .i64 x1.Lsn)] ++ c1 : List Value).toArray))] := hF
  refine sq ?_
  refine rg ?_
  refine ste hF (e_box (cs := [(.int .i64 x1.Lsn)] ++ c1) hS rfl rfl) (by decide) (fun v w a hR hF => ?_)
  obtain ⟨g1, rfl, hS⟩ := hR
  refine stp hF (p_assign rfl) (by decide) (fun a hF => ?_)
  refine nilN ?_
  refine xn ?_
  refine sq ?_
  refine rg ?_
  refine stp hF (p_fldb (o' := 1) rfl fi_49_1 rfl) (by decide) (fun a hF => ?_)
  obtain ⟨s2, hg1, h2, hS⟩ := hS.freezeB (i := 0) (g := g1) (T := 49) (cs := [(.int .i64 x1.Lsn)] ++ c1) (B := []) rfl
  have h3 : Pr kTPage s2 ⟨g1, 0, none⟩ x1 := Pr.box h2 (by exact (kTPage_mk (x := x1) ((Kd.arr 4 kTSlot).mono hg1 h1)))
  have h4 : Pr (Kd.arr 4 kTSlot) s2 (⟨g1, 1, none⟩ : Addr) x1.Slots := h3.lens kTPage_Slots
  have h5 : Sl kTSlot s2 (.slice (some (⟨g1, 1, none⟩ : Addr)) 4 4) x1.Slots := Pr.arr_sl h4
  refine stp hF (p_slarr un_47 ti_38 (by decide) rfl) (by decide) (fun a hF => ?_)
  obtain ⟨x2, hx1, H⟩ := hb H
  refine ste hF (e_callA (fst := []) (vs := [(.slice (some (⟨g1, 1, none⟩ : Addr)) 4 4), (.func (.func 102) #[] #[])]) (cap := []) rfl rfl go_101 (St.call (A := []) (B := []) hS (impl_Slot_101_1102.spec k _ _ x1.Slots (.slice (some (⟨g1, 1, none⟩ : Addr)) 4 4) h5 _ hx1)) rfl) (by decide) (fun v w a hR hF => ?_)
  obtain ⟨s3, A2, hg2, hS, hR⟩ := hR
  obtain ⟨hv1, rfl⟩ := hR; obtain rfl := hv1.symm
  have hS : St e s3 w [] := hS
  refine stp hF (p_assign rfl) (by decide) (fun a hF => ?_)
  refine nilN ?_
  refine xn ?_
  refine rt ?_
  obtain rfl := hsm H
  exact ret1 hF rfl rfl hS ⟨rfl, rfl⟩

def laws_FnPages.c1 (k : Nat) (x1 : Bool) : Option Bool :=
  (some x1)
def laws_FnPages.c2 (k : Nat) (x2 : Bool) : Option Bool :=
  (some x2)
def laws_FnPages.c3 (k : Nat) (x3 : Bool) : Option Bool :=
  (some x3)
def laws_FnPages.c4 (k : Nat) (x4 : Bool) : Option Bool :=
  (some x4)
def laws_FnPages.c5 (k : Nat) (x5 : Int) (x6 : TPage × Bool) (x7 : Bool) : Option Bool :=
  ((if x7 = true then ((if (decide (x5 < 0)) = true then (some true) else (if 0 ≤ x5 ∧ x5 < 4 then (some (!((rd x6.1.Slots x5).Has))) else none) : Option Bool).bind fun x8 => laws_FnPages.c4 k x8) else (some false) : Option Bool).bind fun x9 => laws_FnPages.c3 k x9)
def laws_FnPages.c6 (k : Nat) (x6 : TPage × Bool) (x10 : TPage × Int × TSlot × Int) : Option Bool :=
  ((impl_FreeSlot.f k x6.1).bind fun x5 => ((if (decide (x6.1.Lsn = x10.2.2.2)) = true then ((impl_PageOk.f k x6.1).bind fun x11 => (some x11)) else (some false) : Option Bool).bind fun x12 => laws_FnPages.c5 k x5 x6 x12))
def laws_FnPages.c7 (k : Nat) (rec_l1 : Int → Option (Ex Bool Unit)) (x13 : Int) (x6 : TPage × Bool) (x14 : Bool) (x15 : Int) (x16 : (List Int)) (x17 : (List Int)) : Option (Ex Bool Unit) :=
  (if 0 ≤ x13 ∧ x13 < 4 then ((laws_sameSlot.f k (rd x6.1.Slots x13) (⟨x14, (⟨x15, x16, x17⟩ : TObj)⟩ : TSlot)).bind fun x18 => (if (!x18) = true then (some (Ex.ret false)) else (rec_l1 (w64 (x13 + 1))))) else none)
def laws_FnPages.l1 (x10 : TPage × Int × TSlot × Int) (x6 : TPage × Bool) : Nat → Int → Option (Ex Bool Unit)
  | 0, _ => none
  | k + 1, x13 => (if (decide (x13 < 4)) = true then (if 0 ≤ x13 ∧ x13 < 4 then (((if (decide (x13 = x10.2.1)) = true then (some (x10.2.2.1.Has, x10.2.2.1.O.Kind, x10.2.2.1.O.Ints, x10.2.2.1.O.Refs)) else (some ((rd x10.1.Slots x13).Has, ((rd x10.1.Slots x13).O).Kind, ((rd x10.1.Slots x13).O).Ints, ((rd x10.1.Slots x13).O).Refs))) : Option (Bool × Int × (List Int) × (List Int))).bind fun x19 => laws_FnPages.c7 k (laws_FnPages.l1 x10 x6 k) x13 x6 x19.1 x19.2.1 x19.2.2.1 x19.2.2.2) else none) else (some (Ex.go ())))
def laws_FnPages.c8 (k : Nat) (x10 : TPage × Int × TSlot × Int) (x20 : Bool) : Option Bool :=
  (if x20 = true then (some false) else ((impl_SetSlot.f k x10.1 x10.2.1 x10.2.2.1 x10.2.2.2).bind fun x6 => ((spec_SetSlot.f k x10.1 x10.2.1 x10.2.2.1 x10.2.2.2).bind fun x21 => (if ((x6.2 != x21.2) || (!x6.2)) = true then ((if (x6.2 == x21.2) = true then ((laws_samePage.f k x6.1 x10.1).bind fun x22 => (some x22)) else (some false) : Option Bool).bind fun x23 => laws_FnPages.c2 k x23) else (((laws_FnPages.l1 x10 x6 k 0) : Option (Ex Bool Unit)).bind fun x24 => Ex.on x24 (fun r => some r) (fun y => laws_FnPages.c6 k x6 x10))))))
def laws_FnPages.f (k : Nat) (x25 : (List Int)) : Option Bool :=
  ((laws_big.f k x25).bind fun x26 => (if x26 = true then (some true) else ((spec_DrawSetSlot.f k x25).bind fun x10 => ((impl_PutPage.f k x10.1).bind fun x27 => ((spec_PageOk.f k x10.1).bind fun x28 => (if (!x28) = true then ((impl_SetSlot.f k x10.1 x10.2.1 x10.2.2.1 x10.2.2.2).bind fun x29 => ((if ((decide ((x27.length : Int) = 0)) && (!x29.2)) = true then ((impl_PageOk.f k x10.1).bind fun x30 => (some (!x30))) else (some false) : Option Bool).bind fun x31 => laws_FnPages.c1 k x31)) else ((impl_GetPage.f k x27).bind fun x32 => ((if (!x32.2) = true then (some true) else ((laws_samePage.f k x32.1 x10.1).bind fun x33 => (some (!x33))) : Option Bool).bind fun x34 => laws_FnPages.c8 k x10 x34))))))))
set_option maxRecDepth 100000 in
set_option maxHeartbeats 4000000 in
theorem laws_FnPages.spec (k : Nat) (s0 : HF) (w : World) (x25 : (List Int)) (v1 : Value) (h1 : Sl (Kd.int .u8) s0 v1 x25) (r : Bool) (H : laws_FnPages.f k x25 = some r) :
    Law Try.prog 5 #[v1] s0 w [] (fun v s1 A1 => v = (.bool r) ∧ A1 = []) := by
  unfold laws_FnPages.f at H
  refine Law.intro Try.func5 rfl [(0, v1)] (Nat.le_of_ble_eq_true rfl) (enter_lk ⟨rfl, trivial⟩) (fun e a hS hF => ?_)
  have hF : Fr 138 a [(0, v1)] := hF
  refine sq ?_
  refine rg ?_
  refine stp hF (p_assign rfl) (by decide) (fun a hF => ?_)
  refine nilN ?_
  refine xn ?_
  refine sq ?_
  refine sq ?_
  refine rg ?_
  refine stp hF (p_move rfl) (by decide) (fun a hF => ?_)
  obtain ⟨x26, hx1, H⟩ := hb H
  refine ste hF (e_callA (fst := []) (vs := [v1]) (cap := []) rfl rfl go_20 (St.call (A := []) (B := []) hS (laws_big.spec k _ _ x25 v1 h1 _ hx1)) rfl) (by decide) (fun v w a hR hF => ?_)
  obtain ⟨s2, A2, hg1, hS, hR⟩ := hR
  obtain ⟨hv1, rfl⟩ := hR; obtain rfl := hv1.symm
  have hS : St e s2 w [] := hS
  refine nilN ?_
  refine xn ?_
  refine cnd hF rfl (fun hc1 => ?_) (fun hc1 => ?_)
  · replace H := hbt hc1 H
    refine sq ?_
    refine rg ?_
    refine stp hF (p_assign rfl) (by decide) (fun a hF => ?_)
    refine nilN ?_
    refine xn ?_
    refine rt ?_
    refine xr ?_
    obtain rfl := hsm H
    exact ret1 hF rfl rfl hS ⟨rfl, rfl⟩
  · replace H := hbf hc1 H
    refine skN ?_
    refine xn ?_
    refine sq ?_
    refine rg ?_
    refine stp hF (p_move rfl) (by decide) (fun a hF => ?_)
    obtain ⟨x10, hx2, H⟩ := hb H
    refine ste hF (e_callA (fst := []) (vs := [v1]) (cap := []) rfl rfl go_27 (St.call (A := []) (B := []) hS (spec_DrawSetSlot.spec k _ _ x25 v1 (h1.mono hg1) _ hx2)) rfl) (by decide) (fun v w a hR hF => ?_)
    obtain ⟨s3, A3, hg2, hS, hR⟩ := hR
    obtain ⟨c9, v2, v3, hv2, rfl, h2⟩ := hR; obtain rfl := hv2.symm
    have hS : St e s3 w [Ow (Kd.int .i64) 3 v2 x10.2.2.1.O.Ints, Ow (Kd.int .i64) 3 v3 x10.2.2.1.O.Refs] := hS
    refine stp hF (p_move rfl) (by decide) (fun a hF => ?_)
    refine stp hF (p_extract rfl rfl) (by decide) (fun a hF => ?_)
    refine stp hF (p_extract rfl rfl) (by decide) (fun a hF => ?_)
    refine stp hF (p_extract rfl rfl) (by decide) (fun a hF => ?_)
    refine stp hF (p_extract rfl rfl) (by decide) (fun a hF => ?_)
    refine ste hF (e_alloc (cs := [(.int .i64 0)] ++ za_47) hS ti_49 rfl) (by decide) (fun v w a hR hF => ?_)
    obtain ⟨g1, rfl, hS⟩ := hR
    refine ste hF (e_alloc (cs := [(.bool false), (.int .i64 0), (.slice none 0 0), (.slice none 0 0)]) hS ti_38 rfl) (by decide) (fun v w a hR hF => ?_)
    obtain ⟨g2, rfl, hS⟩ := hR
    refine ste0 hF (e_stb (i := 1) (l := []) (m := [(.int .i64 0)] ++ za_47) (r := []) (m' := [(.int .i64 x10.1.Lsn)] ++ c9) (cs' := [(.int .i64 x10.1.Lsn)] ++ c9) hS rfl rfl rfl ti_49 (by simp) (by simp [zl_47, (show c9.length = 16 from Kd.len _ h2)]) (by simp [zl_47, (show c9.length = 16 from Kd.len _ h2)]) rfl (by simp [zl_47, (show c9.length = 16 from Kd.len _ h2)]) (one_app (one_cons rfl one_nil) (Kd.one _ h2)) (by simp)) (fun v w a hR hF => ?_)
    have hS : St e s3 w [pt g1 49 ([(.int .i64 x10.1.Lsn)] ++ c9), pt g2 38 ([(.bool false), (.int .i64 0), (.slice none 0 0), (.slice none 0 0)]), Ow (Kd.int .i64) 3 v2 x10.2.2.1.O.Ints, Ow (Kd.int .i64) 3 v3 x10.2.2.1.O.Refs] := hR
    refine stp hF (p_assign rfl) (by decide) (fun a hF => ?_)
    refine ste0 hF (e_stb (i := 1) (l := []) (m := [(.bool false), (.int .i64 0), (.slice none 0 0), (.slice none 0 0)]) (r := []) (m' := [(.bool x10.2.2.1.Has), (.int .i64 x10.2.2.1.O.Kind), v2, v3]) (cs' := [(.bool x10.2.2.1.Has), (.int .i64 x10.2.2.1.O.Kind), v2, v3]) hS rfl rfl rfl ti_38 rfl rfl rfl rfl rfl (one_cons rfl (one_cons rfl (one_cons (hS.one_ow (i := 2) rfl) (one_cons (hS.one_ow (i := 3) rfl) one_nil)))) rfl) (fun v w a hR hF => ?_)
    have hS : St e s3 w [pt g2 38 ([(.bool x10.2.2.1.Has), (.int .i64 x10.2.2.1.O.Kind), v2, v3]), pt g1 49 ([(.int .i64 x10.1.Lsn)] ++ c9), Ow (Kd.int .i64) 3 v2 x10.2.2.1.O.Ints, Ow (Kd.int .i64) 3 v3 x10.2.2.1.O.Refs] := hR
    refine stp hF (p_assign rfl) (by decide) (fun a hF => ?_)
    refine nilN ?_
    refine xn ?_
    refine sq ?_
    refine rg ?_
    refine stp hF (p_ldb_agg (i := 1) (l := []) (m := [(.int .i64 x10.1.Lsn)] ++ c9) (r := []) hS rfl rfl ia_49 ti_49 (by simp) (by simp [(show c9.length = 16 from Kd.len _ h2)]) (by simp [(show c9.length = 16 from Kd.len _ h2)])) (by decide) (fun a hF => ?_)
    obtain ⟨x27, hx3, H⟩ := hb H
    refine ste hF (e_callA (fst := []) (vs := [(.agg ([(.int .i64 x10.1.Lsn)] ++ c9 : List Value).toArray)]) (cap := []) rfl rfl go_28 (St.call (A := []) (B := [pt g2 38 ([(.bool x10.2.2.1.Has), (.int .i64 x10.2.2.1.O.Kind), v2, v3]), pt g1 49 ([(.int .i64 x10.1.Lsn)] ++ c9), Ow (Kd.int .i64) 3 v2 x10.2.2.1.O.Ints, Ow (Kd.int .i64) 3 v3 x10.2.2.1.O.Refs]) hS (impl_PutPage.spec k _ _ x10.1 c9 h2 _ hx3)) rfl) (by decide) (fun v w a hR hF => ?_)
    obtain ⟨s4, A4, hg3, hS, hR⟩ := hR
    obtain ⟨v4, hv3, rfl⟩ := hR; obtain rfl := hv3.symm
    have hS : St e s4 w [Ow (Kd.int .u8) 5 v4 x27, pt g2 38 ([(.bool x10.2.2.1.Has), (.int .i64 x10.2.2.1.O.Kind), v2, v3]), pt g1 49 ([(.int .i64 x10.1.Lsn)] ++ c9), Ow (Kd.int .i64) 3 v2 x10.2.2.1.O.Ints, Ow (Kd.int .i64) 3 v3 x10.2.2.1.O.Refs] := hS
    refine stp hF (p_assign rfl) (by decide) (fun a hF => ?_)
    refine nilN ?_
    refine xn ?_
    refine sq ?_
    refine sq ?_
    refine rg ?_
    refine stp hF (p_ldb_agg (i := 2) (l := []) (m := [(.int .i64 x10.1.Lsn)] ++ c9) (r := []) hS rfl rfl ia_49 ti_49 (by simp) (by simp [(show c9.length = 16 from Kd.len _ ((Kd.arr 4 kTSlot).mono hg3 h2))]) (by simp [(show c9.length = 16 from Kd.len _ ((Kd.arr 4 kTSlot).mono hg3 h2))])) (by decide) (fun a hF => ?_)
    obtain ⟨x28, hx4, H⟩ := hb H
    refine ste hF (e_callA (fst := []) (vs := [(.agg ([(.int .i64 x10.1.Lsn)] ++ c9 : List Value).toArray)]) (cap := []) rfl rfl go_29 (St.call (A := []) (B := [Ow (Kd.int .u8) 5 v4 x27, pt g2 38 ([(.bool x10.2.2.1.Has), (.int .i64 x10.2.2.1.O.Kind), v2, v3]), pt g1 49 ([(.int .i64 x10.1.Lsn)] ++ c9), Ow (Kd.int .i64) 3 v2 x10.2.2.1.O.Ints, Ow (Kd.int .i64) 3 v3 x10.2.2.1.O.Refs]) hS (spec_PageOk.spec k _ _ x10.1 c9 ((Kd.arr 4 kTSlot).mono hg3 h2) _ hx4)) rfl) (by decide) (fun v w a hR hF => ?_)
    obtain ⟨s5, A5, hg4, hS, hR⟩ := hR
    obtain ⟨hv4, rfl⟩ := hR; obtain rfl := hv4.symm
    have hS : St e s5 w [Ow (Kd.int .u8) 5 v4 x27, pt g2 38 ([(.bool x10.2.2.1.Has), (.int .i64 x10.2.2.1.O.Kind), v2, v3]), pt g1 49 ([(.int .i64 x10.1.Lsn)] ++ c9), Ow (Kd.int .i64) 3 v2 x10.2.2.1.O.Ints, Ow (Kd.int .i64) 3 v3 x10.2.2.1.O.Refs] := hS
    refine stp hF (p_not rfl) (by decide) (fun a hF => ?_)
    refine nilN ?_
    refine xn ?_
    refine cnd hF rfl (fun hc2 => ?_) (fun hc2 => ?_)
    · replace H := hbt hc2 H
      refine sq ?_
      refine rg ?_
      refine stp hF (p_ldb_agg (i := 2) (l := []) (m := [(.int .i64 x10.1.Lsn)] ++ c9) (r := []) hS rfl rfl ia_49 ti_49 (by simp) (by simp [(show c9.length = 16 from Kd.len _ ((Kd.arr 4 kTSlot).mono hg4 ((Kd.arr 4 kTSlot).mono hg3 h2)))]) (by simp [(show c9.length = 16 from Kd.len _ ((Kd.arr 4 kTSlot).mono hg4 ((Kd.arr 4 kTSlot).mono hg3 h2)))])) (by decide) (fun a hF => ?_)
      refine stp hF (p_move rfl) (by decide) (fun a hF => ?_)
      refine stp hF (p_ldb_agg (i := 1) (l := []) (m := [(.bool x10.2.2.1.Has), (.int .i64 x10.2.2.1.O.Kind), v2, v3]) (r := []) hS rfl rfl ia_38 ti_38 rfl rfl rfl) (by decide) (fun a hF => ?_)
      refine stp hF (p_move rfl) (by decide) (fun a hF => ?_)
      obtain ⟨s6, hg5, h3, hS⟩ := hS.freeze (i := 3) (kd := (Kd.int .i64)) (et := 3) (v := v2) (xs := x10.2.2.1.O.Ints) (B := [Ow (Kd.int .u8) 5 v4 x27, pt g2 38 ([(.bool x10.2.2.1.Has), (.int .i64 x10.2.2.1.O.Kind), v2, v3]), pt g1 49 ([(.int .i64 x10.1.Lsn)] ++ c9), Ow (Kd.int .i64) 3 v3 x10.2.2.1.O.Refs]) rfl
      obtain ⟨s7, hg6, h4, hS⟩ := hS.freeze (i := 3) (kd := (Kd.int .i64)) (et := 3) (v := v3) (xs := x10.2.2.1.O.Refs) (B := [Ow (Kd.int .u8) 5 v4 x27, pt g2 38 ([(.bool x10.2.2.1.Has), (.int .i64 x10.2.2.1.O.Kind), v2, v3]), pt g1 49 ([(.int .i64 x10.1.Lsn)] ++ c9)]) rfl
      obtain ⟨x29, hx5, H⟩ := hb H
      refine ste hF (e_callA (fst := []) (vs := [(.agg ([(.int .i64 x10.1.Lsn)] ++ c9 : List Value).toArray), (.int .i64 x10.2.1), (.agg #[(.bool x10.2.2.1.Has), (.int .i64 x10.2.2.1.O.Kind), v2, v3]), (.int .i64 x10.2.2.2)]) (cap := []) rfl rfl go_30 (St.call (A := []) (B := [Ow (Kd.int .u8) 5 v4 x27, pt g2 38 ([(.bool x10.2.2.1.Has), (.int .i64 x10.2.2.1.O.Kind), v2, v3]), pt g1 49 ([(.int .i64 x10.1.Lsn)] ++ c9)]) hS (impl_SetSlot.spec k _ _ x10.1 x10.2.1 x10.2.2.1 x10.2.2.2 c9 v2 v3 ((Kd.arr 4 kTSlot).mono hg6 ((Kd.arr 4 kTSlot).mono hg5 ((Kd.arr 4 kTSlot).mono hg4 ((Kd.arr 4 kTSlot).mono hg3 h2)))) (h3.mono hg6) h4 _ hx5)) rfl) (by decide) (fun v w a hR hF => ?_)
      obtain ⟨s8, A6, hg7, hS, hR⟩ := hR
      obtain ⟨c10, hv5, rfl, h5⟩ := hR; obtain rfl := hv5.symm
      have hS : St e s8 w [Ow (Kd.int .u8) 5 v4 x27, pt g2 38 ([(.bool x10.2.2.1.Has), (.int .i64 x10.2.2.1.O.Kind), v2, v3]), pt g1 49 ([(.int .i64 x10.1.Lsn)] ++ c9)] := hS
      refine stp hF (p_move rfl) (by decide) (fun a hF => ?_)
      refine stp hF (p_extract rfl rfl) (by decide) (fun a hF => ?_)
      refine stp hF (p_extract rfl rfl) (by decide) (fun a hF => ?_)
      refine ste hF (e_alloc (cs := [(.int .i64 0)] ++ za_47) hS ti_49 rfl) (by decide) (fun v w a hR hF => ?_)
      obtain ⟨g3, rfl, hS⟩ := hR
      refine ste0 hF (e_stb (i := 0) (l := []) (m := [(.int .i64 0)] ++ za_47) (r := []) (m' := [(.int .i64 x29.1.Lsn)] ++ c10) (cs' := [(.int .i64 x29.1.Lsn)] ++ c10) hS rfl rfl rfl ti_49 (by simp) (by simp [zl_47, (show c10.length = 16 from Kd.len _ h5)]) (by simp [zl_47, (show c10.length = 16 from Kd.len _ h5)]) rfl (by simp [zl_47, (show c10.length = 16 from Kd.len _ h5)]) (one_app (one_cons rfl one_nil) (Kd.one _ h5)) (by simp)) (fun v w a hR hF => ?_)
      have hS : St e s8 w [pt g3 49 ([(.int .i64 x29.1.Lsn)] ++ c10), Ow (Kd.int .u8) 5 v4 x27, pt g2 38 ([(.bool x10.2.2.1.Has), (.int .i64 x10.2.2.1.O.Kind), v2, v3]), pt g1 49 ([(.int .i64 x10.1.Lsn)] ++ c9)] := hR
      refine stp hF (p_assign rfl) (by decide) (fun a hF => ?_)
      refine nilN ?_
      refine xn ?_
      refine sq ?_
      refine rg ?_
      refine stp hF (p_move rfl) (by decide) (fun a hF => ?_)
      refine stp hF (p_leno (i := 1) hS rfl un_24 rfl) (by decide) (fun a hF => ?_)
      refine stp hF (p_eql rfl rfl) (by decide) (fun a hF => ?_)
      refine stp hF (p_move rfl) (by decide) (fun a hF => ?_)
      refine cutj 3 (fun a w => St e s8 w [pt g3 49 ([(.int .i64 x29.1.Lsn)] ++ c10), Ow (Kd.int .u8) 5 v4 x27, pt g2 38 ([(.bool x10.2.2.1.Has), (.int .i64 x10.2.2.1.O.Kind), v2, v3]), pt g1 49 ([(.int .i64 x10.1.Lsn)] ++ c9)] ∧ Fr 138 a [(3, (.pointer (some ⟨g1, 0, none⟩))), (47, (.bool ((decide ((x27.length : Int) = 0)) && (!x29.2))))]) rfl rfl ?_ ?_
      · rcases Bool.eq_false_or_eq_true (decide ((x27.length : Int) = 0)) with hc3 | hc3
        · skip
          refine gonE (j := 3) hF rfl rfl hc3 ?_
          refine stp hF (p_move rfl) (by decide) (fun a hF => ?_)
          refine gonE (j := 3) hF rfl rfl hc3 ?_
          refine stp hF (p_not rfl) (by decide) (fun a hF => ?_)
          refine stp hF (p_andT rfl hc3 rfl) (by decide) (fun a hF => ?_)
          refine nilN ?_
          refine xn ?_
          exact ⟨hS, hF.cut ⟨rfl, rfl, trivial⟩⟩
        · skip
          refine gofD (j := 3) hF rfl rfl (by rw [hc3]; decide) (by decide) (fun a hF => ?_)
          refine gofD (j := 3) hF rfl rfl (by rw [hc3]; decide) (by decide) (fun a hF => ?_)
          refine stp hF (p_andF (!x29.2) rfl hc3 rfl) (by decide) (fun a hF => ?_)
          refine nilN ?_
          refine xn ?_
          exact ⟨hS, hF.cut ⟨rfl, rfl, trivial⟩⟩
      clear hS hF
      rintro a w ⟨hS, hF⟩
      refine stp hF (p_move rfl) (by decide) (fun a hF => ?_)
      obtain ⟨x31, H, HK1⟩ := hb H
      refine cutj 4 (fun a w => ∃ (x1 : Bool) (s9 : HF) , St e s9 w [pt g3 49 ([(.int .i64 x29.1.Lsn)] ++ c10), Ow (Kd.int .u8) 5 v4 x27, pt g2 38 ([(.bool x10.2.2.1.Has), (.int .i64 x10.2.2.1.O.Kind), v2, v3]), pt g1 49 ([(.int .i64 x10.1.Lsn)] ++ c9)] ∧ Fr 138 a [(52, (.bool x1))] ∧ Sub s8 s9 ∧ laws_FnPages.c1 k x1 = some r) rfl rfl ?_ ?_
      · rcases Bool.eq_false_or_eq_true (((decide ((x27.length : Int) = 0)) && (!x29.2))) with hc4 | hc4
        · replace H := hbt hc4 H
          refine gonE (j := 7) hF rfl rfl hc4 ?_
          refine stp hF (p_ldb_agg (i := 3) (l := []) (m := [(.int .i64 x10.1.Lsn)] ++ c9) (r := []) hS rfl rfl ia_49 ti_49 (by simp) (by simp [(show c9.length = 16 from Kd.len _ ((Kd.arr 4 kTSlot).mono hg7 ((Kd.arr 4 kTSlot).mono hg6 ((Kd.arr 4 kTSlot).mono hg5 ((Kd.arr 4 kTSlot).mono hg4 ((Kd.arr 4 kTSlot).mono hg3 h2))))))]) (by simp [(show c9.length = 16 from Kd.len _ ((Kd.arr 4 kTSlot).mono hg7 ((Kd.arr 4 kTSlot).mono hg6 ((Kd.arr 4 kTSlot).mono hg5 ((Kd.arr 4 kTSlot).mono hg4 ((Kd.arr 4 kTSlot).mono hg3 h2))))))])) (by decide) (fun a hF => ?_)
          obtain ⟨x30, hx6, H⟩ := hb H
          refine gonE (j := 7) hF rfl rfl hc4 ?_
          refine ste hF (e_callA (fst := []) (vs := [(.agg ([(.int .i64 x10.1.Lsn)] ++ c9 : List Value).toArray)]) (cap := []) rfl rfl go_31 (St.call (A := []) (B := [pt g3 49 ([(.int .i64 x29.1.Lsn)] ++ c10), Ow (Kd.int .u8) 5 v4 x27, pt g2 38 ([(.bool x10.2.2.1.Has), (.int .i64 x10.2.2.1.O.Kind), v2, v3]), pt g1 49 ([(.int .i64 x10.1.Lsn)] ++ c9)]) hS (impl_PageOk.spec k _ _ x10.1 c9 ((Kd.arr 4 kTSlot).mono hg7 ((Kd.arr 4 kTSlot).mono hg6 ((Kd.arr 4 kTSlot).mono hg5 ((Kd.arr 4 kTSlot).mono hg4 ((Kd.arr 4 kTSlot).mono hg3 h2))))) _ hx6)) rfl) (by decide) (fun v w a hR hF => ?_)
          obtain ⟨s10, A7, hg8, hS, hR⟩ := hR
          obtain ⟨hv6, rfl⟩ := hR; obtain rfl := hv6.symm
          have hS : St e s10 w [pt g3 49 ([(.int .i64 x29.1.Lsn)] ++ c10), Ow (Kd.int .u8) 5 v4 x27, pt g2 38 ([(.bool x10.2.2.1.Has), (.int .i64 x10.2.2.1.O.Kind), v2, v3]), pt g1 49 ([(.int .i64 x10.1.Lsn)] ++ c9)] := hS
          refine gonE (j := 7) hF rfl rfl hc4 ?_
          refine stp hF (p_not rfl) (by decide) (fun a hF => ?_)
          refine stp hF (p_pickT rfl hc4 rfl) (by decide) (fun a hF => ?_)
          refine nilN ?_
          refine xn ?_
          obtain rfl := hsm H
          exact ⟨(!x30), s10, hS, hF.cut ⟨rfl, trivial⟩, hg8, HK1⟩
        · replace H := hbf hc4 H
          refine gofD (j := 7) hF rfl rfl (by rw [hc4]; decide) (by decide) (fun a hF => ?_)
          refine gofD (j := 7) hF rfl rfl (by rw [hc4]; decide) (by decide) (fun a hF => ?_)
          refine gofD (j := 7) hF rfl rfl (by rw [hc4]; decide) (by decide) (fun a hF => ?_)
          refine stp hF (p_pickF rfl hc4 rfl) (by decide) (fun a hF => ?_)
          refine nilN ?_
          refine xn ?_
          obtain rfl := hsm H
          exact ⟨false, s8, hS, hF.cut ⟨rfl, trivial⟩, (Sub.refl _), HK1⟩
      · clear H HK1 hS hF
        rintro a w ⟨x1, s9, hS, hF, hg9, H⟩
        unfold laws_FnPages.c1 at H
        refine stp hF (p_assign rfl) (by decide) (fun a hF => ?_)
        refine nilN ?_
        refine xn ?_
        refine rt ?_
        refine xr ?_
        obtain rfl := hsm H
        replace hS := hS.sel (is := []) (A' := []) rfl
        exact ret1 hF rfl rfl hS ⟨rfl, rfl⟩
    · replace H := hbf hc2 H
      refine skN ?_
      refine xn ?_
      refine sq ?_
      refine rg ?_
      refine stp hF (p_move rfl) (by decide) (fun a hF => ?_)
      obtain ⟨s11, hg10, h6, hS⟩ := hS.freeze (i := 0) (kd := (Kd.int .u8)) (et := 5) (v := v4) (xs := x27) (B := [pt g2 38 ([(.bool x10.2.2.1.Has), (.int .i64 x10.2.2.1.O.Kind), v2, v3]), pt g1 49 ([(.int .i64 x10.1.Lsn)] ++ c9), Ow (Kd.int .i64) 3 v2 x10.2.2.1.O.Ints, Ow (Kd.int .i64) 3 v3 x10.2.2.1.O.Refs]) rfl
      obtain ⟨x32, hx7, H⟩ := hb H
      refine ste hF (e_callA (fst := []) (vs := [v4]) (cap := []) rfl rfl go_32 (St.call (A := []) (B := [pt g2 38 ([(.bool x10.2.2.1.Has), (.int .i64 x10.2.2.1.O.Kind), v2, v3]), pt g1 49 ([(.int .i64 x10.1.Lsn)] ++ c9), Ow (Kd.int .i64) 3 v2 x10.2.2.1.O.Ints, Ow (Kd.int .i64) 3 v3 x10.2.2.1.O.Refs]) hS (impl_GetPage.spec k _ _ x27 v4 h6 _ hx7)) rfl) (by decide) (fun v w a hR hF => ?_)
      obtain ⟨s12, A8, hg11, hS, hR⟩ := hR
      obtain ⟨c11, hv7, rfl, h7⟩ := hR; obtain rfl := hv7.symm
      have hS : St e s12 w [pt g2 38 ([(.bool x10.2.2.1.Has), (.int .i64 x10.2.2.1.O.Kind), v2, v3]), pt g1 49 ([(.int .i64 x10.1.Lsn)] ++ c9), Ow (Kd.int .i64) 3 v2 x10.2.2.1.O.Ints, Ow (Kd.int .i64) 3 v3 x10.2.2.1.O.Refs] := hS
      refine stp hF (p_move rfl) (by decide) (fun a hF => ?_)
      refine stp hF (p_extract rfl rfl) (by decide) (fun a hF => ?_)
      refine stp hF (p_extract rfl rfl) (by decide) (fun a hF => ?_)
      refine ste hF (e_alloc (cs := [(.int .i64 0)] ++ za_47) hS ti_49 rfl) (by decide) (fun v w a hR hF => ?_)
      obtain ⟨g4, rfl, hS⟩ := hR
      refine ste0 hF (e_stb (i := 0) (l := []) (m := [(.int .i64 0)] ++ za_47) (r := []) (m' := [(.int .i64 x32.1.Lsn)] ++ c11) (cs' := [(.int .i64 x32.1.Lsn)] ++ c11) hS rfl rfl rfl ti_49 (by simp) (by simp [zl_47, (show c11.length = 16 from Kd.len _ h7)]) (by simp [zl_47, (show c11.length = 16 from Kd.len _ h7)]) rfl (by simp [zl_47, (show c11.length = 16 from Kd.len _ h7)]) (one_app (one_cons rfl one_nil) (Kd.one _ h7)) (by simp)) (fun v w a hR hF => ?_)
      have hS : St e s12 w [pt g4 49 ([(.int .i64 x32.1.Lsn)] ++ c11), pt g2 38 ([(.bool x10.2.2.1.Has), (.int .i64 x10.2.2.1.O.Kind), v2, v3]), pt g1 49 ([(.int .i64 x10.1.Lsn)] ++ c9), Ow (Kd.int .i64) 3 v2 x10.2.2.1.O.Ints, Ow (Kd.int .i64) 3 v3 x10.2.2.1.O.Refs] := hR
      refine stp hF (p_assign rfl) (by decide) (fun a hF => ?_)
      refine nilN ?_
      refine xn ?_
      refine sq ?_
      refine sq ?_
      refine rg ?_
      refine stp hF (p_move rfl) (by decide) (fun a hF => ?_)
      refine stp hF (p_not rfl) (by decide) (fun a hF => ?_)
      refine stp hF (p_move rfl) (by decide) (fun a hF => ?_)
      obtain ⟨x34, H, HK2⟩ := hb H
      refine cutj 5 (fun a w => ∃ (x20 : Bool) (s13 : HF) , St e s13 w [pt g4 49 ([(.int .i64 x32.1.Lsn)] ++ c11), pt g2 38 ([(.bool x10.2.2.1.Has), (.int .i64 x10.2.2.1.O.Kind), v2, v3]), pt g1 49 ([(.int .i64 x10.1.Lsn)] ++ c9), Ow (Kd.int .i64) 3 v2 x10.2.2.1.O.Ints, Ow (Kd.int .i64) 3 v3 x10.2.2.1.O.Refs] ∧ Fr 138 a [(3, (.pointer (some ⟨g1, 0, none⟩))), (4, (.int .i64 x10.2.1)), (5, (.pointer (some ⟨g2, 0, none⟩))), (6, (.int .i64 x10.2.2.2)), (65, (.bool x20))] ∧ Sub s12 s13 ∧ laws_FnPages.c8 k x10 x20 = some r) rfl rfl ?_ ?_
      · rcases Bool.eq_false_or_eq_true ((!x32.2)) with hc5 | hc5
        · replace H := hbt hc5 H
          refine gofD (j := 2) hF rfl rfl (by rw [hc5]; decide) (by decide) (fun a hF => ?_)
          refine gofD (j := 2) hF rfl rfl (by rw [hc5]; decide) (by decide) (fun a hF => ?_)
          refine gofD (j := 2) hF rfl rfl (by rw [hc5]; decide) (by decide) (fun a hF => ?_)
          refine gofD (j := 2) hF rfl rfl (by rw [hc5]; decide) (by decide) (fun a hF => ?_)
          refine stp hF (p_pickT rfl hc5 rfl) (by decide) (fun a hF => ?_)
          refine nilN ?_
          refine xn ?_
          obtain rfl := hsm H
          exact ⟨true, s12, hS, hF.cut ⟨rfl, rfl, rfl, rfl, rfl, trivial⟩, (Sub.refl _), HK2⟩
        · replace H := hbf hc5 H
          refine gonE (j := 2) hF rfl rfl hc5 ?_
          refine stp hF (p_ldb_agg (i := 0) (l := []) (m := [(.int .i64 x32.1.Lsn)] ++ c11) (r := []) hS rfl rfl ia_49 ti_49 (by simp) (by simp [(show c11.length = 16 from Kd.len _ h7)]) (by simp [(show c11.length = 16 from Kd.len _ h7)])) (by decide) (fun a hF => ?_)
          refine gonE (j := 2) hF rfl rfl hc5 ?_
          refine stp hF (p_ldb_agg (i := 2) (l := []) (m := [(.int .i64 x10.1.Lsn)] ++ c9) (r := []) hS rfl rfl ia_49 ti_49 (by simp) (by simp [(show c9.length = 16 from Kd.len _ ((Kd.arr 4 kTSlot).mono hg11 ((Kd.arr 4 kTSlot).mono hg10 ((Kd.arr 4 kTSlot).mono hg4 ((Kd.arr 4 kTSlot).mono hg3 h2)))))]) (by simp [(show c9.length = 16 from Kd.len _ ((Kd.arr 4 kTSlot).mono hg11 ((Kd.arr 4 kTSlot).mono hg10 ((Kd.arr 4 kTSlot).mono hg4 ((Kd.arr 4 kTSlot).mono hg3 h2)))))])) (by decide) (fun a hF => ?_)
          obtain ⟨x33, hx8, H⟩ := hb H
          refine gonE (j := 2) hF rfl rfl hc5 ?_
          refine ste hF (e_callA (fst := []) (vs := [(.agg ([(.int .i64 x32.1.Lsn)] ++ c11 : List Value).toArray), (.agg ([(.int .i64 x10.1.Lsn)] ++ c9 : List Value).toArray)]) (cap := []) rfl rfl go_33 (St.call (A := []) (B := [pt g4 49 ([(.int .i64 x32.1.Lsn)] ++ c11), pt g2 38 ([(.bool x10.2.2.1.Has), (.int .i64 x10.2.2.1.O.Kind), v2, v3]), pt g1 49 ([(.int .i64 x10.1.Lsn)] ++ c9), Ow (Kd.int .i64) 3 v2 x10.2.2.1.O.Ints, Ow (Kd.int .i64) 3 v3 x10.2.2.1.O.Refs]) hS (laws_samePage.spec k _ _ x32.1 x10.1 c11 c9 h7 ((Kd.arr 4 kTSlot).mono hg11 ((Kd.arr 4 kTSlot).mono hg10 ((Kd.arr 4 kTSlot).mono hg4 ((Kd.arr 4 kTSlot).mono hg3 h2)))) _ hx8)) rfl) (by decide) (fun v w a hR hF => ?_)
          obtain ⟨s14, A9, hg12, hS, hR⟩ := hR
          obtain ⟨hv8, rfl⟩ := hR; obtain rfl := hv8.symm
          have hS : St e s14 w [pt g4 49 ([(.int .i64 x32.1.Lsn)] ++ c11), pt g2 38 ([(.bool x10.2.2.1.Has), (.int .i64 x10.2.2.1.O.Kind), v2, v3]), pt g1 49 ([(.int .i64 x10.1.Lsn)] ++ c9), Ow (Kd.int .i64) 3 v2 x10.2.2.1.O.Ints, Ow (Kd.int .i64) 3 v3 x10.2.2.1.O.Refs] := hS
          refine gonE (j := 2) hF rfl rfl hc5 ?_
          refine stp hF (p_not rfl) (by decide) (fun a hF => ?_)
          refine stp hF (p_pickF rfl hc5 rfl) (by decide) (fun a hF => ?_)
          refine nilN ?_
          refine xn ?_
          obtain rfl := hsm H
          exact ⟨(!x33), s14, hS, hF.cut ⟨rfl, rfl, rfl, rfl, rfl, trivial⟩, hg12, HK2⟩
      · clear H HK2 hS hF
        rintro a w ⟨x20, s13, hS, hF, hg13, H⟩
        unfold laws_FnPages.c8 at H
        refine nilN ?_
        refine xn ?_
        refine cnd hF rfl (fun hc6 => ?_) (fun hc6 => ?_)
        · replace H := hbt hc6 H
          refine sq ?_
          refine rg ?_
          refine stp hF (p_assign rfl) (by decide) (fun a hF => ?_)
          refine nilN ?_
          refine xn ?_
          refine rt ?_
          refine xr ?_
          obtain rfl := hsm H
          replace hS := hS.sel (is := []) (A' := []) rfl
          exact ret1 hF rfl rfl hS ⟨rfl, rfl⟩
        · replace H := hbf hc6 H
          refine skN ?_
          refine xn ?_
          refine sq ?_
          refine rg ?_
          refine stp hF (p_ldb_agg (i := 2) (l := []) (m := [(.int .i64 x10.1.Lsn)] ++ c9) (r := []) hS rfl rfl ia_49 ti_49 (by simp) (by simp [(show c9.length = 16 from Kd.len _ ((Kd.arr 4 kTSlot).mono hg13 ((Kd.arr 4 kTSlot).mono hg11 ((Kd.arr 4 kTSlot).mono hg10 ((Kd.arr 4 kTSlot).mono hg4 ((Kd.arr 4 kTSlot).mono hg3 h2))))))]) (by simp [(show c9.length = 16 from Kd.len _ ((Kd.arr 4 kTSlot).mono hg13 ((Kd.arr 4 kTSlot).mono hg11 ((Kd.arr 4 kTSlot).mono hg10 ((Kd.arr 4 kTSlot).mono hg4 ((Kd.arr 4 kTSlot).mono hg3 h2))))))])) (by decide) (fun a hF => ?_)
          refine stp hF (p_move rfl) (by decide) (fun a hF => ?_)
          refine stp hF (p_ldb_agg (i := 1) (l := []) (m := [(.bool x10.2.2.1.Has), (.int .i64 x10.2.2.1.O.Kind), v2, v3]) (r := []) hS rfl rfl ia_38 ti_38 rfl rfl rfl) (by decide) (fun a hF => ?_)
          refine stp hF (p_move rfl) (by decide) (fun a hF => ?_)
          obtain ⟨s15, hg14, h8, hS⟩ := hS.freeze (i := 3) (kd := (Kd.int .i64)) (et := 3) (v := v2) (xs := x10.2.2.1.O.Ints) (B := [pt g4 49 ([(.int .i64 x32.1.Lsn)] ++ c11), pt g2 38 ([(.bool x10.2.2.1.Has), (.int .i64 x10.2.2.1.O.Kind), v2, v3]), pt g1 49 ([(.int .i64 x10.1.Lsn)] ++ c9), Ow (Kd.int .i64) 3 v3 x10.2.2.1.O.Refs]) rfl
          obtain ⟨s16, hg15, h9, hS⟩ := hS.freeze (i := 3) (kd := (Kd.int .i64)) (et := 3) (v := v3) (xs := x10.2.2.1.O.Refs) (B := [pt g4 49 ([(.int .i64 x32.1.Lsn)] ++ c11), pt g2 38 ([(.bool x10.2.2.1.Has), (.int .i64 x10.2.2.1.O.Kind), v2, v3]), pt g1 49 ([(.int .i64 x10.1.Lsn)] ++ c9)]) rfl
          obtain ⟨x6, hx9, H⟩ := hb H
          refine ste hF (e_callA (fst := []) (vs := [(.agg ([(.int .i64 x10.1.Lsn)] ++ c9 : List Value).toArray), (.int .i64 x10.2.1), (.agg #[(.bool x10.2.2.1.Has), (.int .i64 x10.2.2.1.O.Kind), v2, v3]), (.int .i64 x10.2.2.2)]) (cap := []) rfl rfl go_30 (St.call (A := []) (B := [pt g4 49 ([(.int .i64 x32.1.Lsn)] ++ c11), pt g2 38 ([(.bool x10.2.2.1.Has), (.int .i64 x10.2.2.1.O.Kind), v2, v3]), pt g1 49 ([(.int .i64 x10.1.Lsn)] ++ c9)]) hS (impl_SetSlot.spec k _ _ x10.1 x10.2.1 x10.2.2.1 x10.2.2.2 c9 v2 v3 ((Kd.arr 4 kTSlot).mono hg15 ((Kd.arr 4 kTSlot).mono hg14 ((Kd.arr 4 kTSlot).mono hg13 ((Kd.arr 4 kTSlot).mono hg11 ((Kd.arr 4 kTSlot).mono hg10 ((Kd.arr 4 kTSlot).mono hg4 ((Kd.arr 4 kTSlot).mono hg3 h2))))))) (h8.mono hg15) h9 _ hx9)) rfl) (by decide) (fun v w a hR hF => ?_)
          obtain ⟨s17, A10, hg16, hS, hR⟩ := hR
          obtain ⟨c12, hv9, rfl, h10⟩ := hR; obtain rfl := hv9.symm
          have hS : St e s17 w [pt g4 49 ([(.int .i64 x32.1.Lsn)] ++ c11), pt g2 38 ([(.bool x10.2.2.1.Has), (.int .i64 x10.2.2.1.O.Kind), v2, v3]), pt g1 49 ([(.int .i64 x10.1.Lsn)] ++ c9)] := hS
          refine stp hF (p_move rfl) (by decide) (fun a hF => ?_)
          refine stp hF (p_extract rfl rfl) (by decide) (fun a hF => ?_)
          refine stp hF (p_extract rfl rfl) (by decide) (fun a hF => ?_)
          refine ste hF (e_alloc (cs := [(.int .i64 0)] ++ za_47) hS ti_49 rfl) (by decide) (fun v w a hR hF => ?_)
          obtain ⟨g5, rfl, hS⟩ := hR
          refine ste0 hF (e_stb (i := 0) (l := []) (m := [(.int .i64 0)] ++ za_47) (r := []) (m' := [(.int .i64 x6.1.Lsn)] ++ c12) (cs' := [(.int .i64 x6.1.Lsn)] ++ c12) hS rfl rfl rfl ti_49 (by simp) (by simp [zl_47, (show c12.length = 16 from Kd.len _ h10)]) (by simp [zl_47, (show c12.length = 16 from Kd.len _ h10)]) rfl (by simp [zl_47, (show c12.length = 16 from Kd.len _ h10)]) (one_app (one_cons rfl one_nil) (Kd.one _ h10)) (by simp)) (fun v w a hR hF => ?_)
          have hS : St e s17 w [pt g5 49 ([(.int .i64 x6.1.Lsn)] ++ c12), pt g4 49 ([(.int .i64 x32.1.Lsn)] ++ c11), pt g2 38 ([(.bool x10.2.2.1.Has), (.int .i64 x10.2.2.1.O.Kind), v2, v3]), pt g1 49 ([(.int .i64 x10.1.Lsn)] ++ c9)] := hR
          refine stp hF (p_assign rfl) (by decide) (fun a hF => ?_)
          refine nilN ?_
          refine xn ?_
          refine sq ?_
          refine rg ?_
          refine stp hF (p_ldb_agg (i := 3) (l := []) (m := [(.int .i64 x10.1.Lsn)] ++ c9) (r := []) hS rfl rfl ia_49 ti_49 (by simp) (by simp [(show c9.length = 16 from Kd.len _ ((Kd.arr 4 kTSlot).mono hg16 ((Kd.arr 4 kTSlot).mono hg15 ((Kd.arr 4 kTSlot).mono hg14 ((Kd.arr 4 kTSlot).mono hg13 ((Kd.arr 4 kTSlot).mono hg11 ((Kd.arr 4 kTSlot).mono hg10 ((Kd.arr 4 kTSlot).mono hg4 ((Kd.arr 4 kTSlot).mono hg3 h2)))))))))]) (by simp [(show c9.length = 16 from Kd.len _ ((Kd.arr 4 kTSlot).mono hg16 ((Kd.arr 4 kTSlot).mono hg15 ((Kd.arr 4 kTSlot).mono hg14 ((Kd.arr 4 kTSlot).mono hg13 ((Kd.arr 4 kTSlot).mono hg11 ((Kd.arr 4 kTSlot).mono hg10 ((Kd.arr 4 kTSlot).mono hg4 ((Kd.arr 4 kTSlot).mono hg3 h2)))))))))])) (by decide) (fun a hF => ?_)
          refine stp hF (p_move rfl) (by decide) (fun a hF => ?_)
          refine stp hF (p_ldb_agg (i := 2) (l := []) (m := [(.bool x10.2.2.1.Has), (.int .i64 x10.2.2.1.O.Kind), v2, v3]) (r := []) hS rfl rfl ia_38 ti_38 rfl rfl rfl) (by decide) (fun a hF => ?_)
          refine stp hF (p_move rfl) (by decide) (fun a hF => ?_)
          obtain ⟨x21, hx10, H⟩ := hb H
          refine ste hF (e_callA (fst := []) (vs := [(.agg ([(.int .i64 x10.1.Lsn)] ++ c9 : List Value).toArray), (.int .i64 x10.2.1), (.agg #[(.bool x10.2.2.1.Has), (.int .i64 x10.2.2.1.O.Kind), v2, v3]), (.int .i64 x10.2.2.2)]) (cap := []) rfl rfl go_34 (St.call (A := []) (B := [pt g5 49 ([(.int .i64 x6.1.Lsn)] ++ c12), pt g4 49 ([(.int .i64 x32.1.Lsn)] ++ c11), pt g2 38 ([(.bool x10.2.2.1.Has), (.int .i64 x10.2.2.1.O.Kind), v2, v3]), pt g1 49 ([(.int .i64 x10.1.Lsn)] ++ c9)]) hS (spec_SetSlot.spec k _ _ x10.1 x10.2.1 x10.2.2.1 x10.2.2.2 c9 v2 v3 ((Kd.arr 4 kTSlot).mono hg16 ((Kd.arr 4 kTSlot).mono hg15 ((Kd.arr 4 kTSlot).mono hg14 ((Kd.arr 4 kTSlot).mono hg13 ((Kd.arr 4 kTSlot).mono hg11 ((Kd.arr 4 kTSlot).mono hg10 ((Kd.arr 4 kTSlot).mono hg4 ((Kd.arr 4 kTSlot).mono hg3 h2)))))))) ((h8.mono hg15).mono hg16) (h9.mono hg16) _ hx10)) rfl) (by decide) (fun v w a hR hF => ?_)
          obtain ⟨s18, A11, hg17, hS, hR⟩ := hR
          obtain ⟨c13, hv10, rfl, h11⟩ := hR; obtain rfl := hv10.symm
          have hS : St e s18 w [pt g5 49 ([(.int .i64 x6.1.Lsn)] ++ c12), pt g4 49 ([(.int .i64 x32.1.Lsn)] ++ c11), pt g2 38 ([(.bool x10.2.2.1.Has), (.int .i64 x10.2.2.1.O.Kind), v2, v3]), pt g1 49 ([(.int .i64 x10.1.Lsn)] ++ c9)] := hS
          refine stp hF (p_move rfl) (by decide) (fun a hF => ?_)
          refine stp hF (p_extract rfl rfl) (by decide) (fun a hF => ?_)
          refine stp hF (p_extract rfl rfl) (by decide) (fun a hF => ?_)
          refine ste hF (e_alloc (cs := [(.int .i64 0)] ++ za_47) hS ti_49 rfl) (by decide) (fun v w a hR hF => ?_)
          obtain ⟨g6, rfl, hS⟩ := hR
          refine ste0 hF (e_stb (i := 0) (l := []) (m := [(.int .i64 0)] ++ za_47) (r := []) (m' := [(.int .i64 x21.1.Lsn)] ++ c13) (cs' := [(.int .i64 x21.1.Lsn)] ++ c13) hS rfl rfl rfl ti_49 (by simp) (by simp [zl_47, (show c13.length = 16 from Kd.len _ h11)]) (by simp [zl_47, (show c13.length = 16 from Kd.len _ h11)]) rfl (by simp [zl_47, (show c13.length = 16 from Kd.len _ h11)]) (one_app (one_cons rfl one_nil) (Kd.one _ h11)) (by simp)) (fun v w a hR hF => ?_)
          have hS : St e s18 w [pt g6 49 ([(.int .i64 x21.1.Lsn)] ++ c13), pt g5 49 ([(.int .i64 x6.1.Lsn)] ++ c12), pt g4 49 ([(.int .i64 x32.1.Lsn)] ++ c11), pt g2 38 ([(.bool x10.2.2.1.Has), (.int .i64 x10.2.2.1.O.Kind), v2, v3]), pt g1 49 ([(.int .i64 x10.1.Lsn)] ++ c9)] := hR
          refine stp hF (p_assign rfl) (by decide) (fun a hF => ?_)
          refine nilN ?_
          refine xn ?_
          refine sq ?_
          refine sq ?_
          refine rg ?_
          refine stp hF (p_move rfl) (by decide) (fun a hF => ?_)
          refine stp hF (p_move rfl) (by decide) (fun a hF => ?_)
          refine stp hF (p_neb un_4 rfl rfl) (by decide) (fun a hF => ?_)
          refine stp hF (p_move rfl) (by decide) (fun a hF => ?_)
          refine cutj 3 (fun a w => St e s18 w [pt g6 49 ([(.int .i64 x21.1.Lsn)] ++ c13), pt g5 49 ([(.int .i64 x6.1.Lsn)] ++ c12), pt g4 49 ([(.int .i64 x32.1.Lsn)] ++ c11), pt g2 38 ([(.bool x10.2.2.1.Has), (.int .i64 x10.2.2.1.O.Kind), v2, v3]), pt g1 49 ([(.int .i64 x10.1.Lsn)] ++ c9)] ∧ Fr 138 a [(3, (.pointer (some ⟨g1, 0, none⟩))), (4, (.int .i64 x10.2.1)), (5, (.pointer (some ⟨g2, 0, none⟩))), (6, (.int .i64 x10.2.2.2)), (12, (.pointer (some ⟨g5, 0, none⟩))), (13, (.bool x6.2)), (15, (.bool x21.2)), (88, (.bool ((x6.2 != x21.2) || (!x6.2))))]) rfl rfl ?_ ?_
          · rcases Bool.eq_false_or_eq_true ((x6.2 != x21.2)) with hc7 | hc7
            · skip
              refine gofD (j := 3) hF rfl rfl (by rw [hc7]; decide) (by decide) (fun a hF => ?_)
              refine gofD (j := 3) hF rfl rfl (by rw [hc7]; decide) (by decide) (fun a hF => ?_)
              refine stp hF (p_orT (!x6.2) rfl hc7 rfl) (by decide) (fun a hF => ?_)
              refine nilN ?_
              refine xn ?_
              exact ⟨hS, hF.cut ⟨rfl, rfl, rfl, rfl, rfl, rfl, rfl, rfl, trivial⟩⟩
            · skip
              refine gonE (j := 3) hF rfl rfl hc7 ?_
              refine stp hF (p_move rfl) (by decide) (fun a hF => ?_)
              refine gonE (j := 3) hF rfl rfl hc7 ?_
              refine stp hF (p_not rfl) (by decide) (fun a hF => ?_)
              refine stp hF (p_orF rfl hc7 rfl) (by decide) (fun a hF => ?_)
              refine nilN ?_
              refine xn ?_
              exact ⟨hS, hF.cut ⟨rfl, rfl, rfl, rfl, rfl, rfl, rfl, rfl, trivial⟩⟩
          clear hS hF
          rintro a w ⟨hS, hF⟩
          refine nilN ?_
          refine xn ?_
          refine cnd hF rfl (fun hc8 => ?_) (fun hc8 => ?_)
          · replace H := hbt hc8 H
            refine sq ?_
            refine rg ?_
            refine stp hF (p_move rfl) (by decide) (fun a hF => ?_)
            refine stp hF (p_move rfl) (by decide) (fun a hF => ?_)
            refine stp hF (p_eqb un_4 rfl rfl) (by decide) (fun a hF => ?_)
            refine stp hF (p_move rfl) (by decide) (fun a hF => ?_)
            obtain ⟨x23, H, HK3⟩ := hb H
            refine cutj 4 (fun a w => ∃ (x2 : Bool) (s19 : HF) , St e s19 w [pt g6 49 ([(.int .i64 x21.1.Lsn)] ++ c13), pt g5 49 ([(.int .i64 x6.1.Lsn)] ++ c12), pt g4 49 ([(.int .i64 x32.1.Lsn)] ++ c11), pt g2 38 ([(.bool x10.2.2.1.Has), (.int .i64 x10.2.2.1.O.Kind), v2, v3]), pt g1 49 ([(.int .i64 x10.1.Lsn)] ++ c9)] ∧ Fr 138 a [(96, (.bool x2))] ∧ Sub s18 s19 ∧ laws_FnPages.c2 k x2 = some r) rfl rfl ?_ ?_
            · rcases Bool.eq_false_or_eq_true ((x6.2 == x21.2)) with hc9 | hc9
              · replace H := hbt hc9 H
                refine gonE (j := 3) hF rfl rfl hc9 ?_
                refine stp hF (p_ldb_agg (i := 1) (l := []) (m := [(.int .i64 x6.1.Lsn)] ++ c12) (r := []) hS rfl rfl ia_49 ti_49 (by simp) (by simp [(show c12.length = 16 from Kd.len _ ((Kd.arr 4 kTSlot).mono hg17 h10))]) (by simp [(show c12.length = 16 from Kd.len _ ((Kd.arr 4 kTSlot).mono hg17 h10))])) (by decide) (fun a hF => ?_)
                refine gonE (j := 3) hF rfl rfl hc9 ?_
                refine stp hF (p_ldb_agg (i := 4) (l := []) (m := [(.int .i64 x10.1.Lsn)] ++ c9) (r := []) hS rfl rfl ia_49 ti_49 (by simp) (by simp [(show c9.length = 16 from Kd.len _ ((Kd.arr 4 kTSlot).mono hg17 ((Kd.arr 4 kTSlot).mono hg16 ((Kd.arr 4 kTSlot).mono hg15 ((Kd.arr 4 kTSlot).mono hg14 ((Kd.arr 4 kTSlot).mono hg13 ((Kd.arr 4 kTSlot).mono hg11 ((Kd.arr 4 kTSlot).mono hg10 ((Kd.arr 4 kTSlot).mono hg4 ((Kd.arr 4 kTSlot).mono hg3 h2))))))))))]) (by simp [(show c9.length = 16 from Kd.len _ ((Kd.arr 4 kTSlot).mono hg17 ((Kd.arr 4 kTSlot).mono hg16 ((Kd.arr 4 kTSlot).mono hg15 ((Kd.arr 4 kTSlot).mono hg14 ((Kd.arr 4 kTSlot).mono hg13 ((Kd.arr 4 kTSlot).mono hg11 ((Kd.arr 4 kTSlot).mono hg10 ((Kd.arr 4 kTSlot).mono hg4 ((Kd.arr 4 kTSlot).mono hg3 h2))))))))))])) (by decide) (fun a hF => ?_)
                obtain ⟨x22, hx11, H⟩ := hb H
                refine gonE (j := 3) hF rfl rfl hc9 ?_
                refine ste hF (e_callA (fst := []) (vs := [(.agg ([(.int .i64 x6.1.Lsn)] ++ c12 : List Value).toArray), (.agg ([(.int .i64 x10.1.Lsn)] ++ c9 : List Value).toArray)]) (cap := []) rfl rfl go_33 (St.call (A := []) (B := [pt g6 49 ([(.int .i64 x21.1.Lsn)] ++ c13), pt g5 49 ([(.int .i64 x6.1.Lsn)] ++ c12), pt g4 49 ([(.int .i64 x32.1.Lsn)] ++ c11), pt g2 38 ([(.bool x10.2.2.1.Has), (.int .i64 x10.2.2.1.O.Kind), v2, v3]), pt g1 49 ([(.int .i64 x10.1.Lsn)] ++ c9)]) hS (laws_samePage.spec k _ _ x6.1 x10.1 c12 c9 ((Kd.arr 4 kTSlot).mono hg17 h10) ((Kd.arr 4 kTSlot).mono hg17 ((Kd.arr 4 kTSlot).mono hg16 ((Kd.arr 4 kTSlot).mono hg15 ((Kd.arr 4 kTSlot).mono hg14 ((Kd.arr 4 kTSlot).mono hg13 ((Kd.arr 4 kTSlot).mono hg11 ((Kd.arr 4 kTSlot).mono hg10 ((Kd.arr 4 kTSlot).mono hg4 ((Kd.arr 4 kTSlot).mono hg3 h2))))))))) _ hx11)) rfl) (by decide) (fun v w a hR hF => ?_)
                obtain ⟨s20, A12, hg18, hS, hR⟩ := hR
                obtain ⟨hv11, rfl⟩ := hR; obtain rfl := hv11.symm
                have hS : St e s20 w [pt g6 49 ([(.int .i64 x21.1.Lsn)] ++ c13), pt g5 49 ([(.int .i64 x6.1.Lsn)] ++ c12), pt g4 49 ([(.int .i64 x32.1.Lsn)] ++ c11), pt g2 38 ([(.bool x10.2.2.1.Has), (.int .i64 x10.2.2.1.O.Kind), v2, v3]), pt g1 49 ([(.int .i64 x10.1.Lsn)] ++ c9)] := hS
                refine stp hF (p_pickT rfl hc9 rfl) (by decide) (fun a hF => ?_)
                refine nilN ?_
                refine xn ?_
                obtain rfl := hsm H
                exact ⟨x22, s20, hS, hF.cut ⟨rfl, trivial⟩, hg18, HK3⟩
              · replace H := hbf hc9 H
                refine gofD (j := 3) hF rfl rfl (by rw [hc9]; decide) (by decide) (fun a hF => ?_)
                refine gofD (j := 3) hF rfl rfl (by rw [hc9]; decide) (by decide) (fun a hF => ?_)
                refine gofD (j := 3) hF rfl rfl (by rw [hc9]; decide) (by decide) (fun a hF => ?_)
                refine stp hF (p_pickF rfl hc9 rfl) (by decide) (fun a hF => ?_)
                refine nilN ?_
                refine xn ?_
                obtain rfl := hsm H
                exact ⟨false, s18, hS, hF.cut ⟨rfl, trivial⟩, (Sub.refl _), HK3⟩
            · clear H HK3 hS hF
              rintro a w ⟨x2, s19, hS, hF, hg19, H⟩
              unfold laws_FnPages.c2 at H
              refine stp hF (p_assign rfl) (by decide) (fun a hF => ?_)
              refine nilN ?_
              refine xn ?_
              refine rt ?_
              refine xr ?_
              obtain rfl := hsm H
              replace hS := hS.sel (is := []) (A' := []) rfl
              exact ret1 hF rfl rfl hS ⟨rfl, rfl⟩
          · replace H := hbf hc8 H
            refine skN ?_
            refine xn ?_
            obtain ⟨x24, H, HK4⟩ := hb H
            refine sqj (fun a w => ∃ (s21 : HF) , St e s21 w [pt g6 49 ([(.int .i64 x21.1.Lsn)] ++ c13), pt g5 49 ([(.int .i64 x6.1.Lsn)] ++ c12), pt g4 49 ([(.int .i64 x32.1.Lsn)] ++ c11), pt g2 38 ([(.bool x10.2.2.1.Has), (.int .i64 x10.2.2.1.O.Kind), v2, v3]), pt g1 49 ([(.int .i64 x10.1.Lsn)] ++ c9)] ∧ Fr 138 a [(6, (.int .i64 x10.2.2.2)), (12, (.pointer (some ⟨g5, 0, none⟩)))] ∧ Sub s18 s21 ∧ laws_FnPages.c6 k x6 x10 = some r) ?_ ?_
            · skip
              refine sq ?_
              refine rg ?_
              refine stp hF (p_assign rfl) (by decide) (fun a hF => ?_)
              refine nilN ?_
              refine xn ?_
              refine blk ?_
              refine loop_ind (fun k1 a w => ∃ (x13 : Int) (s22 : HF) , St e s22 w [pt g6 49 ([(.int .i64 x21.1.Lsn)] ++ c13), pt g5 49 ([(.int .i64 x6.1.Lsn)] ++ c12), pt g4 49 ([(.int .i64 x32.1.Lsn)] ++ c11), pt g2 38 ([(.bool x10.2.2.1.Has), (.int .i64 x10.2.2.1.O.Kind), v2, v3]), pt g1 49 ([(.int .i64 x10.1.Lsn)] ++ c9)] ∧ Fr 138 a [(3, (.pointer (some ⟨g1, 0, none⟩))), (4, (.int .i64 x10.2.1)), (5, (.pointer (some ⟨g2, 0, none⟩))), (6, (.int .i64 x10.2.2.2)), (12, (.pointer (some ⟨g5, 0, none⟩))), (16, (.int .i64 x13))] ∧ Sub s18 s22 ∧ laws_FnPages.l1 x10 x6 k1 x13 = some x24) k ?_ ?_ ?_
              · skip
                exact ⟨0, s18, hS, hF.cut ⟨rfl, rfl, rfl, rfl, rfl, rfl, trivial⟩, (Sub.refl _), H⟩
              · clear H hS hF
                rintro a w ⟨x13, s22, hS, hF, hg20, H⟩
                exact absurd (show none = some _ from H) (by simp)
              · clear H hS hF
                rintro k1 a w ⟨x13, s22, hS, hF, hg20, H⟩
                rw [laws_FnPages.l1.eq_2] at H
                refine sq ?_
                refine sq ?_
                refine rg ?_
                refine stp hF (p_move rfl) (by decide) (fun a hF => ?_)
                refine stp hF (p_lss rfl rfl) (by decide) (fun a hF => ?_)
                refine nilN ?_
                refine xn ?_
                refine cnd hF rfl (fun hc10 => ?_) (fun hc10 => ?_)
                · replace H := hbt hc10 H
                  refine skN ?_
                  refine xn ?_
                  refine sq ?_
                  refine blk ?_
                  refine sq ?_
                  refine rg ?_
                  refine stp hF (p_move rfl) (by decide) (fun a hF => ?_)
                  refine stp hF (p_fldb (o' := 1) rfl fi_49_1 rfl) (by decide) (fun a hF => ?_)
                  obtain ⟨hq1, H⟩ := hck H
                  refine stp hF (p_idxb rfl rfl un_47 ti_38 hq1.1 hq1.2) (by decide) (fun a hF => ?_)
                  obtain ⟨c14, h12, p1⟩ := p_ldba_agg (P := Try.prog) (T := 49) (b := g1) (all := [(.int .i64 x10.1.Lsn)] ++ c9) (l := [(.int .i64 x10.1.Lsn)]) (cs := c9) (r := []) (base := 1) (by simp) ((Kd.arr 4 kTSlot).mono hg20 ((Kd.arr 4 kTSlot).mono hg17 ((Kd.arr 4 kTSlot).mono hg16 ((Kd.arr 4 kTSlot).mono hg15 ((Kd.arr 4 kTSlot).mono hg14 ((Kd.arr 4 kTSlot).mono hg13 ((Kd.arr 4 kTSlot).mono hg11 ((Kd.arr 4 kTSlot).mono hg10 ((Kd.arr 4 kTSlot).mono hg4 ((Kd.arr 4 kTSlot).mono hg3 h2)))))))))) (Lens.idx 4 kTSlot x13 hq1.1 hq1.2) rfl rfl ia_38 ti_38
                  obtain ⟨v5, v6, rfl, h13, h14⟩ := kTSlot_open h12
                  refine stp hF (p1 (n := 4) hS rfl rfl) (by decide) (fun a hF => ?_)
                  refine ste hF (e_alloc (cs := [(.bool false), (.int .i64 0), (.slice none 0 0), (.slice none 0 0)]) hS ti_38 rfl) (by decide) (fun v w a hR hF => ?_)
                  obtain ⟨g7, rfl, hS⟩ := hR
                  refine ste0 hF (e_stb (i := 0) (l := []) (m := [(.bool false), (.int .i64 0), (.slice none 0 0), (.slice none 0 0)]) (r := []) (m' := [(.bool ((rd x10.1.Slots x13).Has)), (.int .i64 (((rd x10.1.Slots x13).O).Kind)), v5, v6]) (cs' := [(.bool ((rd x10.1.Slots x13).Has)), (.int .i64 (((rd x10.1.Slots x13).O).Kind)), v5, v6]) hS rfl rfl rfl ti_38 rfl rfl rfl rfl rfl (one_cons rfl (one_cons rfl (one_cons (one_sl h13) (one_cons (one_sl h14) one_nil)))) rfl) (fun v w a hR hF => ?_)
                  have hS : St e s22 w [pt g7 38 ([(.bool ((rd x10.1.Slots x13).Has)), (.int .i64 (((rd x10.1.Slots x13).O).Kind)), v5, v6]), pt g6 49 ([(.int .i64 x21.1.Lsn)] ++ c13), pt g5 49 ([(.int .i64 x6.1.Lsn)] ++ c12), pt g4 49 ([(.int .i64 x32.1.Lsn)] ++ c11), pt g2 38 ([(.bool x10.2.2.1.Has), (.int .i64 x10.2.2.1.O.Kind), v2, v3]), pt g1 49 ([(.int .i64 x10.1.Lsn)] ++ c9)] := hR
                  refine nilN ?_
                  refine xn ?_
                  obtain ⟨x19, H, HK5⟩ := hb H
                  refine sqj (fun a w => ∃ (x14 : Bool) (x15 : Int) (x16 : (List Int)) (x17 : (List Int)) (v7 : Value) (v8 : Value) , St e s22 w [pt g7 38 ([(.bool x14), (.int .i64 x15), v7, v8]), pt g6 49 ([(.int .i64 x21.1.Lsn)] ++ c13), pt g5 49 ([(.int .i64 x6.1.Lsn)] ++ c12), pt g4 49 ([(.int .i64 x32.1.Lsn)] ++ c11), pt g2 38 ([(.bool x10.2.2.1.Has), (.int .i64 x10.2.2.1.O.Kind), v2, v3]), pt g1 49 ([(.int .i64 x10.1.Lsn)] ++ c9)] ∧ Fr 138 a [(3, (.pointer (some ⟨g1, 0, none⟩))), (4, (.int .i64 x10.2.1)), (5, (.pointer (some ⟨g2, 0, none⟩))), (6, (.int .i64 x10.2.2.2)), (12, (.pointer (some ⟨g5, 0, none⟩))), (16, (.int .i64 x13)), (17, (.pointer (some ⟨g7, 0, none⟩)))] ∧ Sl (Kd.int .i64) s22 v7 x16 ∧ Sl (Kd.int .i64) s22 v8 x17 ∧ laws_FnPages.c7 k1 (laws_FnPages.l1 x10 x6 k1) x13 x6 x14 x15 x16 x17 = some x24) ?_ ?_
                  · skip
                    refine sq ?_
                    refine rg ?_
                    refine stp hF (p_move rfl) (by decide) (fun a hF => ?_)
                    refine stp hF (p_move rfl) (by decide) (fun a hF => ?_)
                    refine stp hF (p_eql rfl rfl) (by decide) (fun a hF => ?_)
                    refine nilN ?_
                    refine xn ?_
                    refine cnd hF rfl (fun hc11 => ?_) (fun hc11 => ?_)
                    · replace H := hbt hc11 H
                      refine rg ?_
                      refine stp hF (p_ldb_agg (i := 4) (l := []) (m := [(.bool x10.2.2.1.Has), (.int .i64 x10.2.2.1.O.Kind), v2, v3]) (r := []) hS rfl rfl ia_38 ti_38 rfl rfl rfl) (by decide) (fun a hF => ?_)
                      refine ste0 hF (e_stb (i := 0) (l := []) (m := [(.bool ((rd x10.1.Slots x13).Has)), (.int .i64 (((rd x10.1.Slots x13).O).Kind)), v5, v6]) (r := []) (m' := [(.bool x10.2.2.1.Has), (.int .i64 x10.2.2.1.O.Kind), v2, v3]) (cs' := [(.bool x10.2.2.1.Has), (.int .i64 x10.2.2.1.O.Kind), v2, v3]) hS rfl rfl rfl ti_38 rfl rfl rfl rfl rfl (one_cons rfl (one_cons rfl (one_cons (one_sl ((((h8.mono hg15).mono hg16).mono hg17).mono hg20)) (one_cons (one_sl (((h9.mono hg16).mono hg17).mono hg20)) one_nil)))) rfl) (fun v w a hR hF => ?_)
                      have hS : St e s22 w [pt g7 38 ([(.bool x10.2.2.1.Has), (.int .i64 x10.2.2.1.O.Kind), v2, v3]), pt g6 49 ([(.int .i64 x21.1.Lsn)] ++ c13), pt g5 49 ([(.int .i64 x6.1.Lsn)] ++ c12), pt g4 49 ([(.int .i64 x32.1.Lsn)] ++ c11), pt g2 38 ([(.bool x10.2.2.1.Has), (.int .i64 x10.2.2.1.O.Kind), v2, v3]), pt g1 49 ([(.int .i64 x10.1.Lsn)] ++ c9)] := hR
                      refine nilN ?_
                      refine xn ?_
                      obtain rfl := hsm H
                      exact ⟨x10.2.2.1.Has, x10.2.2.1.O.Kind, x10.2.2.1.O.Ints, x10.2.2.1.O.Refs, v2, v3, hS, hF.cut ⟨rfl, rfl, rfl, rfl, rfl, rfl, rfl, trivial⟩, ((((h8.mono hg15).mono hg16).mono hg17).mono hg20), (((h9.mono hg16).mono hg17).mono hg20), HK5⟩
                    · replace H := hbf hc11 H
                      refine skN ?_
                      refine xn ?_
                      obtain rfl := hsm H
                      exact ⟨((rd x10.1.Slots x13).Has), (((rd x10.1.Slots x13).O).Kind), (((rd x10.1.Slots x13).O).Ints), (((rd x10.1.Slots x13).O).Refs), v5, v6, hS, hF.cut ⟨rfl, rfl, rfl, rfl, rfl, rfl, rfl, trivial⟩, h13, h14, HK5⟩
                  · clear H HK5 hS hF
                    rintro a w ⟨x14, x15, x16, x17, v7, v8, hS, hF, h15, h16, H⟩
                    unfold laws_FnPages.c7 at H
                    refine sq ?_
                    replace hS : St e s22 w.drew [pt g7 38 ([(.bool x14), (.int .i64 x15), v7, v8]), pt g6 49 ([(.int .i64 x21.1.Lsn)] ++ c13), pt g5 49 ([(.int .i64 x6.1.Lsn)] ++ c12), pt g4 49 ([(.int .i64 x32.1.Lsn)] ++ c11), pt g2 38 ([(.bool x10.2.2.1.Has), (.int .i64 x10.2.2.1.O.Kind), v2, v3]), pt g1 49 ([(.int .i64 x10.1.Lsn)] ++ c9)] := hS.drewN 1
                    refine drw [0, 1, 2, 3, 4, 5, 6] mixed (by kernel_rfl) (by decide) (hF.cut (L' := [(3, (.pointer (some ⟨g1, 0, none⟩))), (4, (.int .i64 x10.2.1)), (5, (.pointer (some ⟨g2, 0, none⟩))), (6, (.int .i64 x10.2.2.2)), (12, (.pointer (some ⟨g5, 0, none⟩))), (16, (.int .i64 x13)), (17, (.pointer (some ⟨g7, 0, none⟩)))]) ⟨rfl, rfl, rfl, rfl, rfl, rfl, rfl, trivial⟩) ?_
                    clear hF
                    generalize w.drew = w at hS ⊢
                    refine pk1 rfl (by decide) rfl (by kernel_rfl) rfl (p_move rfl) ?_
                    refine pk1 rfl (by decide) rfl (by kernel_rfl) rfl (p_fldb (o' := 1) rfl fi_49_1 rfl) ?_
                    obtain ⟨hq2, H⟩ := hck H
                    refine pk1 rfl (by decide) rfl (by kernel_rfl) rfl (p_idxb rfl rfl un_47 ti_38 hq2.1 hq2.2) ?_
                    obtain ⟨c15, h17, p2⟩ := p_ldba_agg (P := Try.prog) (T := 49) (b := g5) (all := [(.int .i64 x6.1.Lsn)] ++ c12) (l := [(.int .i64 x6.1.Lsn)]) (cs := c12) (r := []) (base := 1) (by simp) ((Kd.arr 4 kTSlot).mono hg20 ((Kd.arr 4 kTSlot).mono hg17 h10)) (Lens.idx 4 kTSlot x13 hq2.1 hq2.2) rfl rfl ia_38 ti_38
                    obtain ⟨v9, v10, rfl, h18, h19⟩ := kTSlot_open h17
                    refine pk1 rfl (by decide) rfl (by kernel_rfl) rfl (p2 (n := 2) hS rfl rfl) ?_
                    refine pk1 rfl (by decide) rfl (by kernel_rfl) rfl (p_ldb_agg (i := 0) (l := []) (m := [(.bool x14), (.int .i64 x15), v7, v8]) (r := []) hS rfl rfl ia_38 ti_38 rfl rfl rfl) ?_
                    obtain ⟨x18, hx12, H⟩ := hb H
                    refine pkE [2, 1, 0] rfl (by decide) (by kernel_rfl) (by kernel_rfl) (e_callA (fst := []) (vs := [(.agg #[(.bool ((rd x6.1.Slots x13).Has)), (.int .i64 (((rd x6.1.Slots x13).O).Kind)), v9, v10]), (.agg #[(.bool x14), (.int .i64 x15), v7, v8])]) (cap := []) rfl rfl go_35 (St.call (A := []) (B := [pt g7 38 ([(.bool x14), (.int .i64 x15), v7, v8]), pt g6 49 ([(.int .i64 x21.1.Lsn)] ++ c13), pt g5 49 ([(.int .i64 x6.1.Lsn)] ++ c12), pt g4 49 ([(.int .i64 x32.1.Lsn)] ++ c11), pt g2 38 ([(.bool x10.2.2.1.Has), (.int .i64 x10.2.2.1.O.Kind), v2, v3]), pt g1 49 ([(.int .i64 x10.1.Lsn)] ++ c9)]) hS (laws_sameSlot.spec k1 _ _ (rd x6.1.Slots x13) (⟨x14, (⟨x15, x16, x17⟩ : TObj)⟩ : TSlot) v9 v10 v7 v8 h18 h19 h15 h16 _ hx12)) rfl) ?_
                    intro v w hR
                    obtain ⟨s23, A13, hg21, hS, hR⟩ := hR
                    obtain ⟨hv12, rfl⟩ := hR; obtain rfl := hv12.symm
                    have hS : St e s23 w [pt g7 38 ([(.bool x14), (.int .i64 x15), v7, v8]), pt g6 49 ([(.int .i64 x21.1.Lsn)] ++ c13), pt g5 49 ([(.int .i64 x6.1.Lsn)] ++ c12), pt g4 49 ([(.int .i64 x32.1.Lsn)] ++ c11), pt g2 38 ([(.bool x10.2.2.1.Has), (.int .i64 x10.2.2.1.O.Kind), v2, v3]), pt g1 49 ([(.int .i64 x10.1.Lsn)] ++ c9)] := hS
                    refine ⟨⟨knw rfl rfl rfl (p_idxb rfl rfl un_47 ti_38 hq2.1 hq2.2), ⟨knw rfl rfl rfl (p_fldb (o' := 1) rfl fi_49_1 rfl), ⟨knw rfl rfl rfl (p_move rfl), trivial⟩⟩⟩, ?_⟩
                    refine pk1 rfl (by decide) rfl (by kernel_rfl) rfl (p_not rfl) ?_
                    refine pkF (fun a hF => ?_)
                    refine xn ?_
                    refine cnd hF rfl (fun hc12 => ?_) (fun hc12 => ?_)
                    · replace H := hbt hc12 H
                      refine sq ?_
                      refine rg ?_
                      refine stp hF (p_assign rfl) (by decide) (fun a hF => ?_)
                      refine nilN ?_
                      refine xn ?_
                      refine rt ?_
                      refine br (xr (xr (br (xr ?_))))
                      obtain rfl := hsm H
                      have H := hon1 HK4
                      obtain rfl := hsm H
                      replace hS := hS.sel (is := []) (A' := []) rfl
                      exact ret1 hF rfl rfl hS ⟨rfl, rfl⟩
                    · replace H := hbf hc12 H
                      refine skN ?_
                      refine bn (xn ?_)
                      refine rg ?_
                      refine stp hF (p_move rfl) (by decide) (fun a hF => ?_)
                      refine stp hF (p_add (c := w64 (x13 + 1)) rfl rfl rfl) (by decide) (fun a hF => ?_)
                      refine stp hF (p_assign rfl) (by decide) (fun a hF => ?_)
                      refine nilN ?_
                      refine xn ?_
                      replace hS := hS.sel (is := [1, 1, 1, 1, 1]) (A' := [pt g6 49 ([(.int .i64 x21.1.Lsn)] ++ c13), pt g5 49 ([(.int .i64 x6.1.Lsn)] ++ c12), pt g4 49 ([(.int .i64 x32.1.Lsn)] ++ c11), pt g2 38 ([(.bool x10.2.2.1.Has), (.int .i64 x10.2.2.1.O.Kind), v2, v3]), pt g1 49 ([(.int .i64 x10.1.Lsn)] ++ c9)]) rfl
                      exact ⟨(w64 (x13 + 1)), s23, hS, hF.cut ⟨rfl, rfl, rfl, rfl, rfl, rfl, trivial⟩, (hg20.trans hg21), H⟩
                · replace H := hbf hc10 H
                  refine exi ?_
                  refine xe (xe (hit (xn ?_)))
                  obtain rfl := hsm H
                  exact ⟨s22, hS, hF.cut ⟨rfl, rfl, trivial⟩, hg20, HK4⟩
            · clear H HK4 hS hF
              rintro a w ⟨s21, hS, hF, hg22, H⟩
              unfold laws_FnPages.c6 at H
              refine sq ?_
              refine rg ?_
              refine stp hF (p_ldb_agg (i := 1) (l := []) (m := [(.int .i64 x6.1.Lsn)] ++ c12) (r := []) hS rfl rfl ia_49 ti_49 (by simp) (by simp [(show c12.length = 16 from Kd.len _ ((Kd.arr 4 kTSlot).mono hg22 ((Kd.arr 4 kTSlot).mono hg17 h10)))]) (by simp [(show c12.length = 16 from Kd.len _ ((Kd.arr 4 kTSlot).mono hg22 ((Kd.arr 4 kTSlot).mono hg17 h10)))])) (by decide) (fun a hF => ?_)
              obtain ⟨x5, hx13, H⟩ := hb H
              refine ste hF (e_callA (fst := []) (vs := [(.agg ([(.int .i64 x6.1.Lsn)] ++ c12 : List Value).toArray)]) (cap := []) rfl rfl go_36 (St.call (A := []) (B := [pt g6 49 ([(.int .i64 x21.1.Lsn)] ++ c13), pt g5 49 ([(.int .i64 x6.1.Lsn)] ++ c12), pt g4 49 ([(.int .i64 x32.1.Lsn)] ++ c11), pt g2 38 ([(.bool x10.2.2.1.Has), (.int .i64 x10.2.2.1.O.Kind), v2, v3]), pt g1 49 ([(.int .i64 x10.1.Lsn)] ++ c9)]) hS (impl_FreeSlot.spec k _ _ x6.1 c12 ((Kd.arr 4 kTSlot).mono hg22 ((Kd.arr 4 kTSlot).mono hg17 h10)) _ hx13)) rfl) (by decide) (fun v w a hR hF => ?_)
              obtain ⟨s24, A14, hg23, hS, hR⟩ := hR
              obtain ⟨hv13, rfl⟩ := hR; obtain rfl := hv13.symm
              have hS : St e s24 w [pt g6 49 ([(.int .i64 x21.1.Lsn)] ++ c13), pt g5 49 ([(.int .i64 x6.1.Lsn)] ++ c12), pt g4 49 ([(.int .i64 x32.1.Lsn)] ++ c11), pt g2 38 ([(.bool x10.2.2.1.Has), (.int .i64 x10.2.2.1.O.Kind), v2, v3]), pt g1 49 ([(.int .i64 x10.1.Lsn)] ++ c9)] := hS
              refine stp hF (p_assign rfl) (by decide) (fun a hF => ?_)
              refine nilN ?_
              refine xn ?_
              refine sq ?_
              refine rg ?_
              refine stp hF (p_fldb (o' := 0) rfl fi_49_0 rfl) (by decide) (fun a hF => ?_)
              refine stp hF (p_ldb_one (i := 1) hS rfl rfl ia_3 rfl) (by decide) (fun a hF => ?_)
              refine stp hF (p_move rfl) (by decide) (fun a hF => ?_)
              refine stp hF (p_eql rfl rfl) (by decide) (fun a hF => ?_)
              refine stp hF (p_move rfl) (by decide) (fun a hF => ?_)
              obtain ⟨x12, H, HK6⟩ := hb H
              refine cutj 3 (fun a w => ∃ (x7 : Bool) (s25 : HF) , St e s25 w [pt g6 49 ([(.int .i64 x21.1.Lsn)] ++ c13), pt g5 49 ([(.int .i64 x6.1.Lsn)] ++ c12), pt g4 49 ([(.int .i64 x32.1.Lsn)] ++ c11), pt g2 38 ([(.bool x10.2.2.1.Has), (.int .i64 x10.2.2.1.O.Kind), v2, v3]), pt g1 49 ([(.int .i64 x10.1.Lsn)] ++ c9)] ∧ Fr 138 a [(12, (.pointer (some ⟨g5, 0, none⟩))), (18, (.int .i64 x5)), (125, (.bool x7))] ∧ Sub s24 s25 ∧ laws_FnPages.c5 k x5 x6 x7 = some r) rfl rfl ?_ ?_
              · rcases Bool.eq_false_or_eq_true (decide (x6.1.Lsn = x10.2.2.2)) with hc13 | hc13
                · replace H := hbt hc13 H
                  refine gonE (j := 4) hF rfl rfl hc13 ?_
                  refine stp hF (p_ldb_agg (i := 1) (l := []) (m := [(.int .i64 x6.1.Lsn)] ++ c12) (r := []) hS rfl rfl ia_49 ti_49 (by simp) (by simp [(show c12.length = 16 from Kd.len _ ((Kd.arr 4 kTSlot).mono hg23 ((Kd.arr 4 kTSlot).mono hg22 ((Kd.arr 4 kTSlot).mono hg17 h10))))]) (by simp [(show c12.length = 16 from Kd.len _ ((Kd.arr 4 kTSlot).mono hg23 ((Kd.arr 4 kTSlot).mono hg22 ((Kd.arr 4 kTSlot).mono hg17 h10))))])) (by decide) (fun a hF => ?_)
                  obtain ⟨x11, hx14, H⟩ := hb H
                  refine gonE (j := 4) hF rfl rfl hc13 ?_
                  refine ste hF (e_callA (fst := []) (vs := [(.agg ([(.int .i64 x6.1.Lsn)] ++ c12 : List Value).toArray)]) (cap := []) rfl rfl go_31 (St.call (A := []) (B := [pt g6 49 ([(.int .i64 x21.1.Lsn)] ++ c13), pt g5 49 ([(.int .i64 x6.1.Lsn)] ++ c12), pt g4 49 ([(.int .i64 x32.1.Lsn)] ++ c11), pt g2 38 ([(.bool x10.2.2.1.Has), (.int .i64 x10.2.2.1.O.Kind), v2, v3]), pt g1 49 ([(.int .i64 x10.1.Lsn)] ++ c9)]) hS (impl_PageOk.spec k _ _ x6.1 c12 ((Kd.arr 4 kTSlot).mono hg23 ((Kd.arr 4 kTSlot).mono hg22 ((Kd.arr 4 kTSlot).mono hg17 h10))) _ hx14)) rfl) (by decide) (fun v w a hR hF => ?_)
                  obtain ⟨s26, A15, hg24, hS, hR⟩ := hR
                  obtain ⟨hv14, rfl⟩ := hR; obtain rfl := hv14.symm
                  have hS : St e s26 w [pt g6 49 ([(.int .i64 x21.1.Lsn)] ++ c13), pt g5 49 ([(.int .i64 x6.1.Lsn)] ++ c12), pt g4 49 ([(.int .i64 x32.1.Lsn)] ++ c11), pt g2 38 ([(.bool x10.2.2.1.Has), (.int .i64 x10.2.2.1.O.Kind), v2, v3]), pt g1 49 ([(.int .i64 x10.1.Lsn)] ++ c9)] := hS
                  refine stp hF (p_pickT rfl hc13 rfl) (by decide) (fun a hF => ?_)
                  refine nilN ?_
                  refine xn ?_
                  obtain rfl := hsm H
                  exact ⟨x11, s26, hS, hF.cut ⟨rfl, rfl, rfl, trivial⟩, hg24, HK6⟩
                · replace H := hbf hc13 H
                  refine gofD (j := 4) hF rfl rfl (by rw [hc13]; decide) (by decide) (fun a hF => ?_)
                  refine gofD (j := 4) hF rfl rfl (by rw [hc13]; decide) (by decide) (fun a hF => ?_)
                  refine stp hF (p_pickF rfl hc13 rfl) (by decide) (fun a hF => ?_)
                  refine nilN ?_
                  refine xn ?_
                  obtain rfl := hsm H
                  exact ⟨false, s24, hS, hF.cut ⟨rfl, rfl, rfl, trivial⟩, (Sub.refl _), HK6⟩
              · clear H HK6 hS hF
                rintro a w ⟨x7, s25, hS, hF, hg25, H⟩
                unfold laws_FnPages.c5 at H
                refine stp hF (p_move rfl) (by decide) (fun a hF => ?_)
                obtain ⟨x9, H, HK7⟩ := hb H
                refine cutj 11 (fun a w => ∃ (x3 : Bool) , St e s25 w [pt g6 49 ([(.int .i64 x21.1.Lsn)] ++ c13), pt g5 49 ([(.int .i64 x6.1.Lsn)] ++ c12), pt g4 49 ([(.int .i64 x32.1.Lsn)] ++ c11), pt g2 38 ([(.bool x10.2.2.1.Has), (.int .i64 x10.2.2.1.O.Kind), v2, v3]), pt g1 49 ([(.int .i64 x10.1.Lsn)] ++ c9)] ∧ Fr 138 a [(137, (.bool x3))] ∧ laws_FnPages.c3 k x3 = some r) rfl rfl ?_ ?_
                · rcases Bool.eq_false_or_eq_true (x7) with hc14 | hc14
                  · replace H := hbt hc14 H
                    refine gonE (j := 8) hF rfl rfl hc14 ?_
                    refine stp hF (p_move rfl) (by decide) (fun a hF => ?_)
                    refine gonE (j := 8) hF rfl rfl hc14 ?_
                    refine stp hF (p_lss rfl rfl) (by decide) (fun a hF => ?_)
                    refine gonE (j := 8) hF rfl rfl hc14 ?_
                    refine stp hF (p_move rfl) (by decide) (fun a hF => ?_)
                    obtain ⟨x8, H, HK8⟩ := hb H
                    refine cutj 7 (fun a w => ∃ (x4 : Bool) , St e s25 w [pt g6 49 ([(.int .i64 x21.1.Lsn)] ++ c13), pt g5 49 ([(.int .i64 x6.1.Lsn)] ++ c12), pt g4 49 ([(.int .i64 x32.1.Lsn)] ++ c11), pt g2 38 ([(.bool x10.2.2.1.Has), (.int .i64 x10.2.2.1.O.Kind), v2, v3]), pt g1 49 ([(.int .i64 x10.1.Lsn)] ++ c9)] ∧ Fr 138 a [(126, (.bool x7)), (136, (.bool x4))] ∧ laws_FnPages.c4 k x4 = some x9) rfl rfl ?_ ?_
                    · rcases Bool.eq_false_or_eq_true (decide (x5 < 0)) with hc15 | hc15
                      · replace H := hbt hc15 H
                        refine gofD (j := 11) hF rfl rfl (by rw [hc15]; decide) (by decide) (fun a hF => ?_)
                        refine gofD (j := 11) hF rfl rfl (by rw [hc15]; decide) (by decide) (fun a hF => ?_)
                        refine gofD (j := 11) hF rfl rfl (by rw [hc15]; decide) (by decide) (fun a hF => ?_)
                        refine gofD (j := 11) hF rfl rfl (by rw [hc15]; decide) (by decide) (fun a hF => ?_)
                        refine gofD (j := 11) hF rfl rfl (by rw [hc15]; decide) (by decide) (fun a hF => ?_)
                        refine gofD (j := 11) hF rfl rfl (by rw [hc15]; decide) (by decide) (fun a hF => ?_)
                        refine gonE (j := 8) hF rfl rfl hc14 ?_
                        refine stp hF (p_pickT rfl hc15 rfl) (by decide) (fun a hF => ?_)
                        refine nilN ?_
                        refine xn ?_
                        obtain rfl := hsm H
                        exact ⟨true, hS, hF.cut ⟨rfl, rfl, trivial⟩, HK8⟩
                      · replace H := hbf hc15 H
                        refine gonE (j := 11) hF rfl rfl hc15 ?_
                        refine stp hF (p_move rfl) (by decide) (fun a hF => ?_)
                        refine gonE (j := 11) hF rfl rfl hc15 ?_
                        refine stp hF (p_fldb (o' := 1) rfl fi_49_1 rfl) (by decide) (fun a hF => ?_)
                        obtain ⟨hq3, H⟩ := hck H
                        refine gonE (j := 11) hF rfl rfl hc15 ?_
                        refine stp hF (p_idxb rfl rfl un_47 ti_38 hq3.1 hq3.2) (by decide) (fun a hF => ?_)
                        refine gonE (j := 11) hF rfl rfl hc15 ?_
                        refine stp hF (p_fldb (o' := ((1 + x5.toNat * 4) + 0)) rfl fi_38_0 rfl) (by decide) (fun a hF => ?_)
                        obtain ⟨u1, h20, p3⟩ := p_ldba_one (P := Try.prog) (T := 49) (b := g5) (all := [(.int .i64 x6.1.Lsn)] ++ c12) (l := [(.int .i64 x6.1.Lsn)]) (cs := c12) (r := []) (base := 1) (by simp) ((Kd.arr 4 kTSlot).mono hg25 ((Kd.arr 4 kTSlot).mono hg23 ((Kd.arr 4 kTSlot).mono hg22 ((Kd.arr 4 kTSlot).mono hg17 h10)))) ((Lens.idx 4 kTSlot x5 hq3.1 hq3.2).comp kTSlot_Has) rfl ((Nat.add_assoc _ _ _).symm.trans (congrArg (· + 0) rfl)) ia_4 rfl
                        obtain rfl : u1 = .bool ((rd x6.1.Slots x5).Has) := by injection h20
                        refine gonE (j := 11) hF rfl rfl hc15 ?_
                        refine stp hF (p3 (n := 1) hS rfl rfl) (by decide) (fun a hF => ?_)
                        refine gonE (j := 11) hF rfl rfl hc15 ?_
                        refine stp hF (p_not rfl) (by decide) (fun a hF => ?_)
                        refine gonE (j := 8) hF rfl rfl hc14 ?_
                        refine stp hF (p_pickF rfl hc15 rfl) (by decide) (fun a hF => ?_)
                        refine nilN ?_
                        refine xn ?_
                        obtain rfl := hsm H
                        exact ⟨(!((rd x6.1.Slots x5).Has)), hS, hF.cut ⟨rfl, rfl, trivial⟩, HK8⟩
                    · clear H HK8 hS hF
                      rintro a w ⟨x4, hS, hF, H⟩
                      unfold laws_FnPages.c4 at H
                      refine stp hF (p_pickT rfl hc14 rfl) (by decide) (fun a hF => ?_)
                      refine nilN ?_
                      refine xn ?_
                      obtain rfl := hsm H
                      exact ⟨x4, hS, hF.cut ⟨rfl, trivial⟩, HK7⟩
                  · replace H := hbf hc14 H
                    refine gofD (j := 8) hF rfl rfl (by rw [hc14]; decide) (by decide) (fun a hF => ?_)
                    refine gofD (j := 8) hF rfl rfl (by rw [hc14]; decide) (by decide) (fun a hF => ?_)
                    refine gofD (j := 8) hF rfl rfl (by rw [hc14]; decide) (by decide) (fun a hF => ?_)
                    refine gofU (j := 11) hF rfl rfl (by decide) (fun a hF => ?_)
                    refine gofU (j := 11) hF rfl rfl (by decide) (fun a hF => ?_)
                    refine gofU (j := 11) hF rfl rfl (by decide) (fun a hF => ?_)
                    refine gofU (j := 11) hF rfl rfl (by decide) (fun a hF => ?_)
                    refine gofU (j := 11) hF rfl rfl (by decide) (fun a hF => ?_)
                    refine gofU (j := 11) hF rfl rfl (by decide) (fun a hF => ?_)
                    refine gofD (j := 8) hF rfl rfl (by rw [hc14]; decide) (by decide) (fun a hF => ?_)
                    refine stp hF (p_pickF rfl hc14 rfl) (by decide) (fun a hF => ?_)
                    refine nilN ?_
                    refine xn ?_
                    obtain rfl := hsm H
                    exact ⟨false, hS, hF.cut ⟨rfl, trivial⟩, HK7⟩
                · clear H HK7 hS hF
                  rintro a w ⟨x3, hS, hF, H⟩
                  unfold laws_FnPages.c3 at H
                  refine stp hF (p_assign rfl) (by decide) (fun a hF => ?_)
                  refine nilN ?_
                  refine xn ?_
                  refine rt ?_
                  obtain rfl := hsm H
                  replace hS := hS.sel (is := []) (A' := []) rfl
                  exact ret1 hF rfl rfl hS ⟨rfl, rfl⟩
end Go.Proofs.Ytocknibhajihmaa
