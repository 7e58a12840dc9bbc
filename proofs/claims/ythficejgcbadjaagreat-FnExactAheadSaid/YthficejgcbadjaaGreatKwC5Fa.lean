/- Functions of this place as plain functions, and that the machine comes to what they say. Conditions: none. -/
import Derived.Test.YthficejgcbadjaaGreatKwC5T
set_option linter.unusedVariables false
set_option linter.unusedSimpArgs false
namespace Go.Proofs.YthficejgcbadjaaGreat
open Go.Kw

def laws_szIntS.f (k : Nat) (x1 : (List Int)) (x2 : Int) : Option Int :=
  (if (decide ((w64 (x2 - (x1.length : Int))) < 0)) = true then (some (-1)) else (some (w64 (x2 - (x1.length : Int)))))
set_option maxRecDepth 100000 in
set_option maxHeartbeats 4000000 in
theorem laws_szIntS.spec (k : Nat) (s0 : HF) (w : World) (x1 : (List Int)) (x2 : Int) (v1 : Value) (h1 : Sl (Kd.int .i64) s0 v1 x1) (r : Int) (H : laws_szIntS.f k x1 x2 = some r) :
    Law Tryz.prog 308 #[v1, (.int .i64 x2)] s0 w [] (fun v s1 A1 => v = (.int .i64 r) ∧ A1 = []) := by
  unfold laws_szIntS.f at H
  refine Law.intro Tryz.func308 rfl [(0, v1), (1, (.int .i64 x2))] (Nat.le_of_ble_eq_true rfl) (enter_lk ⟨rfl, rfl, trivial⟩) (fun e a hS hF => ?_)
  have hF : Fr 12 a [(0, v1), (1, (.int .i64 x2))] := hF
  refine sq ?_
  refine rg ?_
  refine stp hF (p_assign rfl) (by decide) (fun a hF => ?_)
  refine nilN ?_
  refine xn ?_
  refine sq ?_
  refine rg ?_
  refine stp hF (p_move rfl) (by decide) (fun a hF => ?_)
  refine stp hF (p_move rfl) (by decide) (fun a hF => ?_)
  refine stp hF (p_lenr un_22 rfl h1) (by decide) (fun a hF => ?_)
  refine stp hF (p_sub (c := w64 (x2 - (x1.length : Int))) rfl rfl rfl) (by decide) (fun a hF => ?_)
  refine stp hF (p_assign rfl) (by decide) (fun a hF => ?_)
  refine nilN ?_
  refine xn ?_
  refine sq ?_
  refine sq ?_
  refine rg ?_
  refine stp hF (p_move rfl) (by decide) (fun a hF => ?_)
  refine stp hF (p_lss rfl rfl) (by decide) (fun a hF => ?_)
  refine nilN ?_
  refine xn ?_
  refine cnd hF rfl (fun hc1 => ?_) (fun hc1 => ?_)
  · replace H := hbt hc1 H
    refine sq ?_
    refine rg ?_
    refine stp hF (p_assign rfl) (by decide) (fun a hF => ?_)
    refine nilN ?_
    refine xn ?_
    refine rt ?_
    refine xr ?_
    obtain rfl := hsm H
    exact ret1 hF rfl rfl hS ⟨rfl, rfl⟩
  · replace H := hbf hc1 H
    refine skN ?_
    refine xn ?_
    refine sq ?_
    refine rg ?_
    refine stp hF (p_move rfl) (by decide) (fun a hF => ?_)
    refine stp hF (p_assign rfl) (by decide) (fun a hF => ?_)
    refine nilN ?_
    refine xn ?_
    refine rt ?_
    obtain rfl := hsm H
    exact ret1 hF rfl rfl hS ⟨rfl, rfl⟩

def laws_szObj.f (k : Nat) (x1 : TObj) (x2 : Int) : Option Int :=
  ((laws_szIntS.f k x1.Ints x2).bind fun x3 => (if (decide (x3 < 0)) = true then (some (-1)) else ((laws_szIntS.f k x1.Refs x3).bind fun x4 => (if (decide (x4 < 0)) = true then (some (-1)) else (some x4)))))
set_option maxRecDepth 100000 in
set_option maxHeartbeats 4000000 in
theorem laws_szObj.spec (k : Nat) (s0 : HF) (w : World) (x1 : TObj) (x2 : Int) (v1 : Value) (v2 : Value) (h1 : Sl (Kd.int .i64) s0 v1 x1.Ints) (h2 : Sl (Kd.int .i64) s0 v2 x1.Refs) (r : Int) (H : laws_szObj.f k x1 x2 = some r) :
    Law Tryz.prog 287 #[(.agg #[(.int .i64 x1.Kind), v1, v2]), (.int .i64 x2)] s0 w [] (fun v s1 A1 => v = (.int .i64 r) ∧ A1 = []) := by
  unfold laws_szObj.f at H
  refine Law.intro Tryz.func287 rfl [(0, (.agg #[(.int .i64 x1.Kind), v1, v2])), (1, (.int .i64 x2))] (Nat.le_of_ble_eq_true rfl) (enter_lk ⟨rfl, rfl, trivial⟩) (fun e a hS hF => ?_)
  have hF : Fr 18 a [(0, (.agg #[(.int .i64 x1.Kind), v1, v2])), (1, (.int .i64 x2))] := hF
  refine sq ?_
  refine rg ?_
  refine ste hF (e_box (cs := [(.int .i64 x1.Kind), v1, v2]) hS rfl rfl) (by decide) (fun v w a hR hF => ?_)
  obtain ⟨g1, rfl, hS⟩ := hR
  refine stp hF (p_assign rfl) (by decide) (fun a hF => ?_)
  refine nilN ?_
  refine xn ?_
  refine sq ?_
  refine rg ?_
  refine stp hF (p_fldb (o' := 1) rfl fi_24_1 rfl) (by decide) (fun a hF => ?_)
  refine stp hF (p_ldb_one (i := 0) hS rfl rfl ia_22 rfl) (by decide) (fun a hF => ?_)
  refine stp hF (p_move rfl) (by decide) (fun a hF => ?_)
  obtain ⟨x3, hx1, H⟩ := hb H
  refine ste hF (e_callA (fst := []) (vs := [v1, (.int .i64 x2)]) (cap := []) rfl rfl go_308 (St.call (A := []) (B := [pt g1 24 ([(.int .i64 x1.Kind), v1, v2])]) hS (laws_szIntS.spec k _ _ x1.Ints x2 v1 h1 _ hx1)) rfl) (by decide) (fun v w a hR hF => ?_)
  obtain ⟨s2, A2, hg1, hS, hR⟩ := hR
  obtain ⟨hv1, rfl⟩ := hR; obtain rfl := hv1.symm
  have hS : St e s2 w [pt g1 24 ([(.int .i64 x1.Kind), v1, v2])] := hS
  refine stp hF (p_assign rfl) (by decide) (fun a hF => ?_)
  refine nilN ?_
  refine xn ?_
  refine sq ?_
  refine sq ?_
  refine rg ?_
  refine stp hF (p_move rfl) (by decide) (fun a hF => ?_)
  refine stp hF (p_lss rfl rfl) (by decide) (fun a hF => ?_)
  refine nilN ?_
  refine xn ?_
  refine cnd hF rfl (fun hc1 => ?_) (fun hc1 => ?_)
  · replace H := hbt hc1 H
    refine sq ?_
    refine rg ?_
    refine stp hF (p_assign rfl) (by decide) (fun a hF => ?_)
    refine nilN ?_
    refine xn ?_
    refine rt ?_
    refine xr ?_
    obtain rfl := hsm H
    replace hS := hS.sel (is := []) (A' := []) rfl
    exact ret1 hF rfl rfl hS ⟨rfl, rfl⟩
  · replace H := hbf hc1 H
    refine skN ?_
    refine xn ?_
    refine sq ?_
    refine rg ?_
    refine stp hF (p_fldb (o' := 2) rfl fi_24_2 rfl) (by decide) (fun a hF => ?_)
    refine stp hF (p_ldb_one (i := 0) hS rfl rfl ia_22 rfl) (by decide) (fun a hF => ?_)
    refine stp hF (p_move rfl) (by decide) (fun a hF => ?_)
    obtain ⟨x4, hx2, H⟩ := hb H
    refine ste hF (e_callA (fst := []) (vs := [v2, (.int .i64 x3)]) (cap := []) rfl rfl go_308 (St.call (A := []) (B := [pt g1 24 ([(.int .i64 x1.Kind), v1, v2])]) hS (laws_szIntS.spec k _ _ x1.Refs x3 v2 (h2.mono hg1) _ hx2)) rfl) (by decide) (fun v w a hR hF => ?_)
    obtain ⟨s3, A3, hg2, hS, hR⟩ := hR
    obtain ⟨hv2, rfl⟩ := hR; obtain rfl := hv2.symm
    have hS : St e s3 w [pt g1 24 ([(.int .i64 x1.Kind), v1, v2])] := hS
    refine stp hF (p_assign rfl) (by decide) (fun a hF => ?_)
    refine nilN ?_
    refine xn ?_
    refine sq ?_
    refine sq ?_
    refine rg ?_
    refine stp hF (p_move rfl) (by decide) (fun a hF => ?_)
    refine stp hF (p_lss rfl rfl) (by decide) (fun a hF => ?_)
    refine nilN ?_
    refine xn ?_
    refine cnd hF rfl (fun hc2 => ?_) (fun hc2 => ?_)
    · replace H := hbt hc2 H
      refine sq ?_
      refine rg ?_
      refine stp hF (p_assign rfl) (by decide) (fun a hF => ?_)
      refine nilN ?_
      refine xn ?_
      refine rt ?_
      refine xr ?_
      obtain rfl := hsm H
      replace hS := hS.sel (is := []) (A' := []) rfl
      exact ret1 hF rfl rfl hS ⟨rfl, rfl⟩
    · replace H := hbf hc2 H
      refine skN ?_
      refine xn ?_
      refine sq ?_
      refine rg ?_
      refine stp hF (p_move rfl) (by decide) (fun a hF => ?_)
      refine stp hF (p_assign rfl) (by decide) (fun a hF => ?_)
      refine nilN ?_
      refine xn ?_
      refine rt ?_
      obtain rfl := hsm H
      replace hS := hS.sel (is := []) (A' := []) rfl
      exact ret1 hF rfl rfl hS ⟨rfl, rfl⟩

def laws_szSlot.f (k : Nat) (x1 : TSlot) (x2 : Int) : Option Int :=
  ((laws_szObj.f k x1.O x2).bind fun x3 => (if (decide (x3 < 0)) = true then (some (-1)) else (some x3)))
set_option maxRecDepth 100000 in
set_option maxHeartbeats 4000000 in
theorem laws_szSlot.spec (k : Nat) (s0 : HF) (w : World) (x1 : TSlot) (x2 : Int) (v1 : Value) (v2 : Value) (h1 : Sl (Kd.int .i64) s0 v1 x1.O.Ints) (h2 : Sl (Kd.int .i64) s0 v2 x1.O.Refs) (r : Int) (H : laws_szSlot.f k x1 x2 = some r) :
    Law Tryz.prog 250 #[(.agg #[(.bool x1.Has), (.int .i64 x1.O.Kind), v1, v2]), (.int .i64 x2)] s0 w [] (fun v s1 A1 => v = (.int .i64 r) ∧ A1 = []) := by
  unfold laws_szSlot.f at H
  refine Law.intro Tryz.func250 rfl [(0, (.agg #[(.bool x1.Has), (.int .i64 x1.O.Kind), v1, v2])), (1, (.int .i64 x2))] (Nat.le_of_ble_eq_true rfl) (enter_lk ⟨rfl, rfl, trivial⟩) (fun e a hS hF => ?_)
  have hF : Fr 12 a [(0, (.agg #[(.bool x1.Has), (.int .i64 x1.O.Kind), v1, v2])), (1, (.int .i64 x2))] := hF
  refine sq ?_
  refine rg ?_
  refine ste hF (e_box (cs := [(.bool x1.Has), (.int .i64 x1.O.Kind), v1, v2]) hS rfl rfl) (by decide) (fun v w a hR hF => ?_)
  obtain ⟨g1, rfl, hS⟩ := hR
  refine stp hF (p_assign rfl) (by decide) (fun a hF => ?_)
  refine nilN ?_
  refine xn ?_
  refine sq ?_
  refine rg ?_
  refine stp hF (p_fldb (o' := 1) rfl fi_26_1 rfl) (by decide) (fun a hF => ?_)
  refine stp hF (p_ldb_agg (i := 0) (l := [(.bool x1.Has)]) (m := [(.int .i64 x1.O.Kind), v1, v2]) (r := []) hS rfl rfl ia_24 ti_24 rfl rfl rfl) (by decide) (fun a hF => ?_)
  refine stp hF (p_move rfl) (by decide) (fun a hF => ?_)
  obtain ⟨x3, hx1, H⟩ := hb H
  refine ste hF (e_callA (fst := []) (vs := [(.agg #[(.int .i64 x1.O.Kind), v1, v2]), (.int .i64 x2)]) (cap := []) rfl rfl go_287 (St.call (A := []) (B := [pt g1 26 ([(.bool x1.Has), (.int .i64 x1.O.Kind), v1, v2])]) hS (laws_szObj.spec k _ _ x1.O x2 v1 v2 h1 h2 _ hx1)) rfl) (by decide) (fun v w a hR hF => ?_)
  obtain ⟨s2, A2, hg1, hS, hR⟩ := hR
  obtain ⟨hv1, rfl⟩ := hR; obtain rfl := hv1.symm
  have hS : St e s2 w [pt g1 26 ([(.bool x1.Has), (.int .i64 x1.O.Kind), v1, v2])] := hS
  refine stp hF (p_assign rfl) (by decide) (fun a hF => ?_)
  refine nilN ?_
  refine xn ?_
  refine sq ?_
  refine sq ?_
  refine rg ?_
  refine stp hF (p_move rfl) (by decide) (fun a hF => ?_)
  refine stp hF (p_lss rfl rfl) (by decide) (fun a hF => ?_)
  refine nilN ?_
  refine xn ?_
  refine cnd hF rfl (fun hc1 => ?_) (fun hc1 => ?_)
  · replace H := hbt hc1 H
    refine sq ?_
    refine rg ?_
    refine stp hF (p_assign rfl) (by decide) (fun a hF => ?_)
    refine nilN ?_
    refine xn ?_
    refine rt ?_
    refine xr ?_
    obtain rfl := hsm H
    replace hS := hS.sel (is := []) (A' := []) rfl
    exact ret1 hF rfl rfl hS ⟨rfl, rfl⟩
  · replace H := hbf hc1 H
    refine skN ?_
    refine xn ?_
    refine sq ?_
    refine rg ?_
    refine stp hF (p_move rfl) (by decide) (fun a hF => ?_)
    refine stp hF (p_assign rfl) (by decide) (fun a hF => ?_)
    refine nilN ?_
    refine xn ?_
    refine rt ?_
    obtain rfl := hsm H
    replace hS := hS.sel (is := []) (A' := []) rfl
    exact ret1 hF rfl rfl hS ⟨rfl, rfl⟩

def laws_szSlotA4.c1 (k : Nat) (x1 : Int) : Option Int :=
  (some x1)
def laws_szSlotA4.l1 (x2 : (List TSlot)) : Nat → Int → Int → Option (Ex Int Int)
  | 0, _, _ => none
  | k + 1, x3, x4 => (if (decide (x4 < 4)) = true then (if 0 ≤ x4 ∧ x4 < 4 then ((laws_szSlot.f k (rd x2 x4) x3).bind fun x5 => (if (decide (x5 < 0)) = true then (some (Ex.ret (-1))) else ((laws_szSlotA4.l1 x2 k) x5 (w64 (x4 + 1))))) else none) else (some (Ex.go x3)))
def laws_szSlotA4.f (k : Nat) (x2 : (List TSlot)) (x6 : Int) : Option Int :=
  (((laws_szSlotA4.l1 x2 k x6 0) : Option (Ex Int Int)).bind fun x7 => Ex.on x7 (fun r => some r) (fun y => laws_szSlotA4.c1 k y))
set_option maxRecDepth 100000 in
set_option maxHeartbeats 4000000 in
theorem laws_szSlotA4.spec (k : Nat) (s0 : HF) (w : World) (x2 : (List TSlot)) (x6 : Int) (c2 : List Value) (h1 : ((Kd.arr 4 kTSlot)).K s0 x2 c2) (r : Int) (H : laws_szSlotA4.f k x2 x6 = some r) :
    Law Tryz.prog 198 #[(.agg c2.toArray), (.int .i64 x6)] s0 w [] (fun v s1 A1 => v = (.int .i64 r) ∧ A1 = []) := by
  unfold laws_szSlotA4.f at H
  refine Law.intro Tryz.func198 rfl [(0, (.agg c2.toArray)), (1, (.int .i64 x6))] (Nat.le_of_ble_eq_true rfl) (enter_lk ⟨rfl, rfl, trivial⟩) (fun e a hS hF => ?_)
  have hF : Fr 18 a [(0, (.agg c2.toArray)), (1, (.int .i64 x6))] := hF
  refine sq ?_
  refine rg ?_
  refine ste hF (e_box (cs := c2) hS rfl rfl) (by decide) (fun v w a hR hF => ?_)
  obtain ⟨g1, rfl, hS⟩ := hR
  refine stp hF (p_assign rfl) (by decide) (fun a hF => ?_)
  refine nilN ?_
  refine xn ?_
  obtain ⟨x7, H, HK1⟩ := hb H
  refine sqj (fun a w => ∃ (x1 : Int) (s2 : HF) , St e s2 w [pt g1 27 (c2)] ∧ Fr 18 a [(1, (.int .i64 x1))] ∧ Sub s0 s2 ∧ laws_szSlotA4.c1 k x1 = some r) ?_ ?_
  · skip
    refine sq ?_
    refine rg ?_
    refine stp hF (p_assign rfl) (by decide) (fun a hF => ?_)
    refine nilN ?_
    refine xn ?_
    refine blk ?_
    refine loop_ind (fun k1 a w => ∃ (x3 : Int) (x4 : Int) (s3 : HF) , St e s3 w [pt g1 27 (c2)] ∧ Fr 18 a [(1, (.int .i64 x3)), (2, (.pointer (some ⟨g1, 0, none⟩))), (5, (.int .i64 x4))] ∧ Sub s0 s3 ∧ laws_szSlotA4.l1 x2 k1 x3 x4 = some x7) k ?_ ?_ ?_
    · skip
      exact ⟨x6, 0, s0, hS, hF.cut ⟨rfl, rfl, rfl, trivial⟩, (Sub.refl _), H⟩
    · clear H hS hF
      rintro a w ⟨x3, x4, s3, hS, hF, hg1, H⟩
      exact absurd (show none = some _ from H) (by simp)
    · clear H hS hF
      rintro k1 a w ⟨x3, x4, s3, hS, hF, hg1, H⟩
      rw [laws_szSlotA4.l1.eq_2] at H
      refine sq ?_
      refine sq ?_
      refine rg ?_
      refine stp hF (p_move rfl) (by decide) (fun a hF => ?_)
      refine stp hF (p_lss rfl rfl) (by decide) (fun a hF => ?_)
      refine nilN ?_
      refine xn ?_
      refine cnd hF rfl (fun hc1 => ?_) (fun hc1 => ?_)
      · replace H := hbt hc1 H
        refine skN ?_
        refine xn ?_
        refine sq ?_
        refine blk ?_
        refine sq ?_
        refine rg ?_
        refine stp hF (p_move rfl) (by decide) (fun a hF => ?_)
        obtain ⟨hq1, H⟩ := hck H
        refine stp hF (p_idxb rfl rfl un_27 ti_26 hq1.1 hq1.2) (by decide) (fun a hF => ?_)
        obtain ⟨c3, h2, p1⟩ := p_ldba_agg (P := Tryz.prog) (T := 27) (b := g1) (all := c2) (l := []) (cs := c2) (r := []) (base := 0) (by simp) ((Kd.arr 4 kTSlot).mono hg1 h1) (Lens.idx 4 kTSlot x4 hq1.1 hq1.2) rfl rfl ia_26 ti_26
        obtain ⟨v1, v2, rfl, h3, h4⟩ := kTSlot_open h2
        refine stp hF (p1 (n := 0) hS rfl rfl) (by decide) (fun a hF => ?_)
        refine stp hF (p_move rfl) (by decide) (fun a hF => ?_)
        obtain ⟨x5, hx1, H⟩ := hb H
        refine ste hF (e_callA (fst := []) (vs := [(.agg #[(.bool ((rd x2 x4).Has)), (.int .i64 (((rd x2 x4).O).Kind)), v1, v2]), (.int .i64 x3)]) (cap := []) rfl rfl go_250 (St.call (A := []) (B := [pt g1 27 (c2)]) hS (laws_szSlot.spec k1 _ _ (rd x2 x4) x3 v1 v2 h3 h4 _ hx1)) rfl) (by decide) (fun v w a hR hF => ?_)
        obtain ⟨s4, A2, hg2, hS, hR⟩ := hR
        obtain ⟨hv1, rfl⟩ := hR; obtain rfl := hv1.symm
        have hS : St e s4 w [pt g1 27 (c2)] := hS
        refine stp hF (p_assign rfl) (by decide) (fun a hF => ?_)
        refine nilN ?_
        refine xn ?_
        refine sq ?_
        refine rg ?_
        refine stp hF (p_move rfl) (by decide) (fun a hF => ?_)
        refine stp hF (p_lss rfl rfl) (by decide) (fun a hF => ?_)
        refine nilN ?_
        refine xn ?_
        refine cnd hF rfl (fun hc2 => ?_) (fun hc2 => ?_)
        · replace H := hbt hc2 H
          refine sq ?_
          refine rg ?_
          refine stp hF (p_assign rfl) (by decide) (fun a hF => ?_)
          refine nilN ?_
          refine xn ?_
          refine rt ?_
          refine br (xr (xr (br (xr ?_))))
          obtain rfl := hsm H
          have H := hon1 HK1
          obtain rfl := hsm H
          replace hS := hS.sel (is := []) (A' := []) rfl
          exact ret1 hF rfl rfl hS ⟨rfl, rfl⟩
        · replace H := hbf hc2 H
          refine skN ?_
          refine bn (xn ?_)
          refine rg ?_
          refine stp hF (p_move rfl) (by decide) (fun a hF => ?_)
          refine stp hF (p_add (c := w64 (x4 + 1)) rfl rfl rfl) (by decide) (fun a hF => ?_)
          refine stp hF (p_assign rfl) (by decide) (fun a hF => ?_)
          refine nilN ?_
          refine xn ?_
          exact ⟨x5, (w64 (x4 + 1)), s4, hS, hF.cut ⟨rfl, rfl, rfl, trivial⟩, (hg1.trans hg2), H⟩
      · replace H := hbf hc1 H
        refine exi ?_
        refine xe (xe (hit (xn ?_)))
        obtain rfl := hsm H
        exact ⟨x3, s3, hS, hF.cut ⟨rfl, trivial⟩, hg1, HK1⟩
  · clear H HK1 hS hF
    rintro a w ⟨x1, s2, hS, hF, hg3, H⟩
    unfold laws_szSlotA4.c1 at H
    refine sq ?_
    refine rg ?_
    refine stp hF (p_move rfl) (by decide) (fun a hF => ?_)
    refine stp hF (p_assign rfl) (by decide) (fun a hF => ?_)
    refine nilN ?_
    refine xn ?_
    refine rt ?_
    obtain rfl := hsm H
    replace hS := hS.sel (is := []) (A' := []) rfl
    exact ret1 hF rfl rfl hS ⟨rfl, rfl⟩

def laws_szPage.f (k : Nat) (x1 : TPage) (x2 : Int) : Option Int :=
  ((laws_szSlotA4.f k x1.Slots x2).bind fun x3 => (if (decide (x3 < 0)) = true then (some (-1)) else (some x3)))
set_option maxRecDepth 100000 in
set_option maxHeartbeats 4000000 in
theorem laws_szPage.spec (k : Nat) (s0 : HF) (w : World) (x1 : TPage) (x2 : Int) (c1 : List Value) (h1 : ((Kd.arr 4 kTSlot)).K s0 x1.Slots c1) (r : Int) (H : laws_szPage.f k x1 x2 = some r) :
    Law Tryz.prog 110 #[(.agg ([(.int .i64 x1.Lsn)] ++ c1 : List Value).toArray), (.int .i64 x2)] s0 w [] (fun v s1 A1 => v = (.int .i64 r) ∧ A1 = []) := by
  unfold laws_szPage.f at H
  refine Law.intro Tryz.func110 rfl [(0, (.agg ([(.int .i64 x1.Lsn)] ++ c1 : List Value).toArray)), (1, (.int .i64 x2))] (Nat.le_of_ble_eq_true rfl) (enter_lk ⟨rfl, rfl, trivial⟩) (fun e a hS hF => ?_)
  have hF : Fr 12 a [(0, (.agg ([(.int .i64 x1.Lsn)] ++ c1 : List Value).toArray)), (1, (.int .i64 x2))] := hF
  refine sq ?_
  refine rg ?_
  refine ste hF (e_box (cs := [(.int .i64 x1.Lsn)] ++ c1) hS rfl rfl) (by decide) (fun v w a hR hF => ?_)
  obtain ⟨g1, rfl, hS⟩ := hR
  refine stp hF (p_assign rfl) (by decide) (fun a hF => ?_)
  refine nilN ?_
  refine xn ?_
  refine sq ?_
  refine rg ?_
  refine stp hF (p_fldb (o' := 1) rfl fi_29_1 rfl) (by decide) (fun a hF => ?_)
  refine stp hF (p_ldb_agg (i := 0) (l := [(.int .i64 x1.Lsn)]) (m := c1) (r := []) hS rfl rfl ia_27 ti_27 (by simp) (by simp [(show c1.length = 16 from Kd.len _ h1)]) (by simp [(show c1.length = 16 from Kd.len _ h1)])) (by decide) (fun a hF => ?_)
  refine stp hF (p_move rfl) (by decide) (fun a hF => ?_)
  obtain ⟨x3, hx1, H⟩ := hb H
  refine ste hF (e_callA (fst := []) (vs := [(.agg c1.toArray), (.int .i64 x2)]) (cap := []) rfl rfl go_198 (St.call (A := []) (B := [pt g1 29 ([(.int .i64 x1.Lsn)] ++ c1)]) hS (laws_szSlotA4.spec k _ _ x1.Slots x2 c1 h1 _ hx1)) rfl) (by decide) (fun v w a hR hF => ?_)
  obtain ⟨s2, A2, hg1, hS, hR⟩ := hR
  obtain ⟨hv1, rfl⟩ := hR; obtain rfl := hv1.symm
  have hS : St e s2 w [pt g1 29 ([(.int .i64 x1.Lsn)] ++ c1)] := hS
  refine stp hF (p_assign rfl) (by decide) (fun a hF => ?_)
  refine nilN ?_
  refine xn ?_
  refine sq ?_
  refine sq ?_
  refine rg ?_
  refine stp hF (p_move rfl) (by decide) (fun a hF => ?_)
  refine stp hF (p_lss rfl rfl) (by decide) (fun a hF => ?_)
  refine nilN ?_
  refine xn ?_
  refine cnd hF rfl (fun hc1 => ?_) (fun hc1 => ?_)
  · replace H := hbt hc1 H
    refine sq ?_
    refine rg ?_
    refine stp hF (p_assign rfl) (by decide) (fun a hF => ?_)
    refine nilN ?_
    refine xn ?_
    refine rt ?_
    refine xr ?_
    obtain rfl := hsm H
    replace hS := hS.sel (is := []) (A' := []) rfl
    exact ret1 hF rfl rfl hS ⟨rfl, rfl⟩
  · replace H := hbf hc1 H
    refine skN ?_
    refine xn ?_
    refine sq ?_
    refine rg ?_
    refine stp hF (p_move rfl) (by decide) (fun a hF => ?_)
    refine stp hF (p_assign rfl) (by decide) (fun a hF => ?_)
    refine nilN ?_
    refine xn ?_
    refine rt ?_
    obtain rfl := hsm H
    replace hS := hS.sel (is := []) (A' := []) rfl
    exact ret1 hF rfl rfl hS ⟨rfl, rfl⟩

def laws_szPageA8.c1 (k : Nat) (x1 : Int) : Option Int :=
  (some x1)
def laws_szPageA8.l1 (x2 : (List TPage)) : Nat → Int → Int → Option (Ex Int Int)
  | 0, _, _ => none
  | k + 1, x3, x4 => (if (decide (x4 < 8)) = true then (if 0 ≤ x4 ∧ x4 < 8 then ((laws_szPage.f k (rd x2 x4) x3).bind fun x5 => (if (decide (x5 < 0)) = true then (some (Ex.ret (-1))) else ((laws_szPageA8.l1 x2 k) x5 (w64 (x4 + 1))))) else none) else (some (Ex.go x3)))
def laws_szPageA8.f (k : Nat) (x2 : (List TPage)) (x6 : Int) : Option Int :=
  (((laws_szPageA8.l1 x2 k x6 0) : Option (Ex Int Int)).bind fun x7 => Ex.on x7 (fun r => some r) (fun y => laws_szPageA8.c1 k y))
set_option maxRecDepth 100000 in
set_option maxHeartbeats 4000000 in
theorem laws_szPageA8.spec (k : Nat) (s0 : HF) (w : World) (x2 : (List TPage)) (x6 : Int) (c2 : List Value) (h1 : ((Kd.arr 8 kTPage)).K s0 x2 c2) (r : Int) (H : laws_szPageA8.f k x2 x6 = some r) :
    Law Tryz.prog 35 #[(.agg c2.toArray), (.int .i64 x6)] s0 w [] (fun v s1 A1 => v = (.int .i64 r) ∧ A1 = []) := by
  unfold laws_szPageA8.f at H
  refine Law.intro Tryz.func35 rfl [(0, (.agg c2.toArray)), (1, (.int .i64 x6))] (Nat.le_of_ble_eq_true rfl) (enter_lk ⟨rfl, rfl, trivial⟩) (fun e a hS hF => ?_)
  have hF : Fr 18 a [(0, (.agg c2.toArray)), (1, (.int .i64 x6))] := hF
  refine sq ?_
  refine rg ?_
  refine ste hF (e_box (cs := c2) hS rfl rfl) (by decide) (fun v w a hR hF => ?_)
  obtain ⟨g1, rfl, hS⟩ := hR
  refine stp hF (p_assign rfl) (by decide) (fun a hF => ?_)
  refine nilN ?_
  refine xn ?_
  obtain ⟨x7, H, HK1⟩ := hb H
  refine sqj (fun a w => ∃ (x1 : Int) (s2 : HF) , St e s2 w [pt g1 30 (c2)] ∧ Fr 18 a [(1, (.int .i64 x1))] ∧ Sub s0 s2 ∧ laws_szPageA8.c1 k x1 = some r) ?_ ?_
  · skip
    refine sq ?_
    refine rg ?_
    refine stp hF (p_assign rfl) (by decide) (fun a hF => ?_)
    refine nilN ?_
    refine xn ?_
    refine blk ?_
    refine loop_ind (fun k1 a w => ∃ (x3 : Int) (x4 : Int) (s3 : HF) , St e s3 w [pt g1 30 (c2)] ∧ Fr 18 a [(1, (.int .i64 x3)), (2, (.pointer (some ⟨g1, 0, none⟩))), (5, (.int .i64 x4))] ∧ Sub s0 s3 ∧ laws_szPageA8.l1 x2 k1 x3 x4 = some x7) k ?_ ?_ ?_
    · skip
      exact ⟨x6, 0, s0, hS, hF.cut ⟨rfl, rfl, rfl, trivial⟩, (Sub.refl _), H⟩
    · clear H hS hF
      rintro a w ⟨x3, x4, s3, hS, hF, hg1, H⟩
      exact absurd (show none = some _ from H) (by simp)
    · clear H hS hF
      rintro k1 a w ⟨x3, x4, s3, hS, hF, hg1, H⟩
      rw [laws_szPageA8.l1.eq_2] at H
      refine sq ?_
      refine sq ?_
      refine rg ?_
      refine stp hF (p_move rfl) (by decide) (fun a hF => ?_)
      refine stp hF (p_lss rfl rfl) (by decide) (fun a hF => ?_)
      refine nilN ?_
      refine xn ?_
      refine cnd hF rfl (fun hc1 => ?_) (fun hc1 => ?_)
      · replace H := hbt hc1 H
        refine skN ?_
        refine xn ?_
        refine sq ?_
        refine blk ?_
        refine sq ?_
        refine rg ?_
        refine stp hF (p_move rfl) (by decide) (fun a hF => ?_)
        obtain ⟨hq1, H⟩ := hck H
        refine stp hF (p_idxb rfl rfl un_30 ti_29 hq1.1 hq1.2) (by decide) (fun a hF => ?_)
        obtain ⟨c3, h2, p1⟩ := p_ldba_agg (P := Tryz.prog) (T := 30) (b := g1) (all := c2) (l := []) (cs := c2) (r := []) (base := 0) (by simp) ((Kd.arr 8 kTPage).mono hg1 h1) (Lens.idx 8 kTPage x4 hq1.1 hq1.2) rfl rfl ia_29 ti_29
        obtain ⟨c4, rfl, h3⟩ := kTPage_open h2
        refine stp hF (p1 (n := 0) hS rfl rfl) (by decide) (fun a hF => ?_)
        refine stp hF (p_move rfl) (by decide) (fun a hF => ?_)
        obtain ⟨x5, hx1, H⟩ := hb H
        refine ste hF (e_callA (fst := []) (vs := [(.agg ([(.int .i64 ((rd x2 x4).Lsn))] ++ c4 : List Value).toArray), (.int .i64 x3)]) (cap := []) rfl rfl go_110 (St.call (A := []) (B := [pt g1 30 (c2)]) hS (laws_szPage.spec k1 _ _ (rd x2 x4) x3 c4 h3 _ hx1)) rfl) (by decide) (fun v w a hR hF => ?_)
        obtain ⟨s4, A2, hg2, hS, hR⟩ := hR
        obtain ⟨hv1, rfl⟩ := hR; obtain rfl := hv1.symm
        have hS : St e s4 w [pt g1 30 (c2)] := hS
        refine stp hF (p_assign rfl) (by decide) (fun a hF => ?_)
        refine nilN ?_
        refine xn ?_
        refine sq ?_
        refine rg ?_
        refine stp hF (p_move rfl) (by decide) (fun a hF => ?_)
        refine stp hF (p_lss rfl rfl) (by decide) (fun a hF => ?_)
        refine nilN ?_
        refine xn ?_
        refine cnd hF rfl (fun hc2 => ?_) (fun hc2 => ?_)
        · replace H := hbt hc2 H
          refine sq ?_
          refine rg ?_
          refine stp hF (p_assign rfl) (by decide) (fun a hF => ?_)
          refine nilN ?_
          refine xn ?_
          refine rt ?_
          refine br (xr (xr (br (xr ?_))))
          obtain rfl := hsm H
          have H := hon1 HK1
          obtain rfl := hsm H
          replace hS := hS.sel (is := []) (A' := []) rfl
          exact ret1 hF rfl rfl hS ⟨rfl, rfl⟩
        · replace H := hbf hc2 H
          refine skN ?_
          refine bn (xn ?_)
          refine rg ?_
          refine stp hF (p_move rfl) (by decide) (fun a hF => ?_)
          refine stp hF (p_add (c := w64 (x4 + 1)) rfl rfl rfl) (by decide) (fun a hF => ?_)
          refine stp hF (p_assign rfl) (by decide) (fun a hF => ?_)
          refine nilN ?_
          refine xn ?_
          exact ⟨x5, (w64 (x4 + 1)), s4, hS, hF.cut ⟨rfl, rfl, rfl, trivial⟩, (hg1.trans hg2), H⟩
      · replace H := hbf hc1 H
        refine exi ?_
        refine xe (xe (hit (xn ?_)))
        obtain rfl := hsm H
        exact ⟨x3, s3, hS, hF.cut ⟨rfl, trivial⟩, hg1, HK1⟩
  · clear H HK1 hS hF
    rintro a w ⟨x1, s2, hS, hF, hg3, H⟩
    unfold laws_szPageA8.c1 at H
    refine sq ?_
    refine rg ?_
    refine stp hF (p_move rfl) (by decide) (fun a hF => ?_)
    refine stp hF (p_assign rfl) (by decide) (fun a hF => ?_)
    refine nilN ?_
    refine xn ?_
    refine rt ?_
    obtain rfl := hsm H
    replace hS := hS.sel (is := []) (A' := []) rfl
    exact ret1 hF rfl rfl hS ⟨rfl, rfl⟩

def laws_szSeat.f (k : Nat) (x1 : TSeat) (x2 : Int) : Option Int :=
  ((laws_szPage.f k x1.P x2).bind fun x3 => (if (decide (x3 < 0)) = true then (some (-1)) else (some x3)))
set_option maxRecDepth 100000 in
set_option maxHeartbeats 4000000 in
theorem laws_szSeat.spec (k : Nat) (s0 : HF) (w : World) (x1 : TSeat) (x2 : Int) (c1 : List Value) (h1 : ((Kd.arr 4 kTSlot)).K s0 x1.P.Slots c1) (r : Int) (H : laws_szSeat.f k x1 x2 = some r) :
    Law Tryz.prog 199 #[(.agg ([(.int .i64 x1.No), (.int .i64 x1.P.Lsn)] ++ c1 ++ [(.bool x1.Dirty), (.bool x1.Hot)] : List Value).toArray), (.int .i64 x2)] s0 w [] (fun v s1 A1 => v = (.int .i64 r) ∧ A1 = []) := by
  unfold laws_szSeat.f at H
  refine Law.intro Tryz.func199 rfl [(0, (.agg ([(.int .i64 x1.No), (.int .i64 x1.P.Lsn)] ++ c1 ++ [(.bool x1.Dirty), (.bool x1.Hot)] : List Value).toArray)), (1, (.int .i64 x2))] (Nat.le_of_ble_eq_true rfl) (enter_lk ⟨rfl, rfl, trivial⟩) (fun e a hS hF => ?_)
  have hF : Fr 12 a [(0, (.agg ([(.int .i64 x1.No), (.int .i64 x1.P.Lsn)] ++ c1 ++ [(.bool x1.Dirty), (.bool x1.Hot)] : List Value).toArray)), (1, (.int .i64 x2))] := hF
  refine sq ?_
  refine rg ?_
  refine ste hF (e_box (cs := [(.int .i64 x1.No), (.int .i64 x1.P.Lsn)] ++ c1 ++ [(.bool x1.Dirty), (.bool x1.Hot)]) hS rfl rfl) (by decide) (fun v w a hR hF => ?_)
  obtain ⟨g1, rfl, hS⟩ := hR
  refine stp hF (p_assign rfl) (by decide) (fun a hF => ?_)
  refine nilN ?_
  refine xn ?_
  refine sq ?_
  refine rg ?_
  refine stp hF (p_fldb (o' := 1) rfl fi_245_1 rfl) (by decide) (fun a hF => ?_)
  refine stp hF (p_ldb_agg (i := 0) (l := [(.int .i64 x1.No)]) (m := [(.int .i64 x1.P.Lsn)] ++ c1) (r := [(.bool x1.Dirty), (.bool x1.Hot)]) hS rfl rfl ia_29 ti_29 (by simp) (by simp [(show c1.length = 16 from Kd.len _ h1)]) (by simp [(show c1.length = 16 from Kd.len _ h1)])) (by decide) (fun a hF => ?_)
  refine stp hF (p_move rfl) (by decide) (fun a hF => ?_)
  obtain ⟨x3, hx1, H⟩ := hb H
  refine ste hF (e_callA (fst := []) (vs := [(.agg ([(.int .i64 x1.P.Lsn)] ++ c1 : List Value).toArray), (.int .i64 x2)]) (cap := []) rfl rfl go_110 (St.call (A := []) (B := [pt g1 245 ([(.int .i64 x1.No), (.int .i64 x1.P.Lsn)] ++ c1 ++ [(.bool x1.Dirty), (.bool x1.Hot)])]) hS (laws_szPage.spec k _ _ x1.P x2 c1 h1 _ hx1)) rfl) (by decide) (fun v w a hR hF => ?_)
  obtain ⟨s2, A2, hg1, hS, hR⟩ := hR
  obtain ⟨hv1, rfl⟩ := hR; obtain rfl := hv1.symm
  have hS : St e s2 w [pt g1 245 ([(.int .i64 x1.No), (.int .i64 x1.P.Lsn)] ++ c1 ++ [(.bool x1.Dirty), (.bool x1.Hot)])] := hS
  refine stp hF (p_assign rfl) (by decide) (fun a hF => ?_)
  refine nilN ?_
  refine xn ?_
  refine sq ?_
  refine sq ?_
  refine rg ?_
  refine stp hF (p_move rfl) (by decide) (fun a hF => ?_)
  refine stp hF (p_lss rfl rfl) (by decide) (fun a hF => ?_)
  refine nilN ?_
  refine xn ?_
  refine cnd hF rfl (fun hc1 => ?_) (fun hc1 => ?_)
  · replace H := hbt hc1 H
    refine sq ?_
    refine rg ?_
    refine stp hF (p_assign rfl) (by decide) (fun a hF => ?_)
    refine nilN ?_
    refine xn ?_
    refine rt ?_
    refine xr ?_
    obtain rfl := hsm H
    replace hS := hS.sel (is := []) (A' := []) rfl
    exact ret1 hF rfl rfl hS ⟨rfl, rfl⟩
  · replace H := hbf hc1 H
    refine skN ?_
    refine xn ?_
    refine sq ?_
    refine rg ?_
    refine stp hF (p_move rfl) (by decide) (fun a hF => ?_)
    refine stp hF (p_assign rfl) (by decide) (fun a hF => ?_)
    refine nilN ?_
    refine xn ?_
    refine rt ?_
    obtain rfl := hsm H
    replace hS := hS.sel (is := []) (A' := []) rfl
    exact ret1 hF rfl rfl hS ⟨rfl, rfl⟩

def laws_szSeatS.c1 (k : Nat) (x1 : Int) : Option Int :=
  (some x1)
def laws_szSeatS.l1 (x2 : (List TSeat)) : Nat → Int → Int → Option (Ex Int Int)
  | 0, _, _ => none
  | k + 1, x3, x4 => (if (decide (x4 < (x2.length : Int))) = true then (if 0 ≤ x4 ∧ x4 < (x2.length : Int) then ((laws_szSeat.f k (rd x2 x4) x3).bind fun x5 => (if (decide (x5 < 0)) = true then (some (Ex.ret (-1))) else ((laws_szSeatS.l1 x2 k) x5 (w64 (x4 + 1))))) else none) else (some (Ex.go x3)))
def laws_szSeatS.f (k : Nat) (x2 : (List TSeat)) (x6 : Int) : Option Int :=
  (if (decide ((w64 (x6 - (x2.length : Int))) < 0)) = true then (some (-1)) else (((laws_szSeatS.l1 x2 k (w64 (x6 - (x2.length : Int))) 0) : Option (Ex Int Int)).bind fun x7 => Ex.on x7 (fun r => some r) (fun y => laws_szSeatS.c1 k y)))
set_option maxRecDepth 100000 in
set_option maxHeartbeats 4000000 in
theorem laws_szSeatS.spec (k : Nat) (s0 : HF) (w : World) (x2 : (List TSeat)) (x6 : Int) (v1 : Value) (h1 : Sl kTSeat s0 v1 x2) (r : Int) (H : laws_szSeatS.f k x2 x6 = some r) :
    Law Tryz.prog 111 #[v1, (.int .i64 x6)] s0 w [] (fun v s1 A1 => v = (.int .i64 r) ∧ A1 = []) := by
  unfold laws_szSeatS.f at H
  refine Law.intro Tryz.func111 rfl [(0, v1), (1, (.int .i64 x6))] (Nat.le_of_ble_eq_true rfl) (enter_lk ⟨rfl, rfl, trivial⟩) (fun e a hS hF => ?_)
  have hF : Fr 27 a [(0, v1), (1, (.int .i64 x6))] := hF
  refine sq ?_
  refine rg ?_
  refine stp hF (p_assign rfl) (by decide) (fun a hF => ?_)
  refine nilN ?_
  refine xn ?_
  refine sq ?_
  refine rg ?_
  refine stp hF (p_move rfl) (by decide) (fun a hF => ?_)
  refine stp hF (p_move rfl) (by decide) (fun a hF => ?_)
  refine stp hF (p_lenr un_31 rfl h1) (by decide) (fun a hF => ?_)
  refine stp hF (p_sub (c := w64 (x6 - (x2.length : Int))) rfl rfl rfl) (by decide) (fun a hF => ?_)
  refine stp hF (p_assign rfl) (by decide) (fun a hF => ?_)
  refine nilN ?_
  refine xn ?_
  refine sq ?_
  refine sq ?_
  refine rg ?_
  refine stp hF (p_move rfl) (by decide) (fun a hF => ?_)
  refine stp hF (p_lss rfl rfl) (by decide) (fun a hF => ?_)
  refine nilN ?_
  refine xn ?_
  refine cnd hF rfl (fun hc1 => ?_) (fun hc1 => ?_)
  · replace H := hbt hc1 H
    refine sq ?_
    refine rg ?_
    refine stp hF (p_assign rfl) (by decide) (fun a hF => ?_)
    refine nilN ?_
    refine xn ?_
    refine rt ?_
    refine xr ?_
    obtain rfl := hsm H
    exact ret1 hF rfl rfl hS ⟨rfl, rfl⟩
  · replace H := hbf hc1 H
    refine skN ?_
    refine xn ?_
    obtain ⟨x7, H, HK1⟩ := hb H
    refine sqj (fun a w => ∃ (x1 : Int) (s2 : HF) , St e s2 w [] ∧ Fr 27 a [(1, (.int .i64 x1))] ∧ Sub s0 s2 ∧ laws_szSeatS.c1 k x1 = some r) ?_ ?_
    · skip
      refine sq ?_
      refine rg ?_
      refine stp hF (p_assign rfl) (by decide) (fun a hF => ?_)
      refine nilN ?_
      refine xn ?_
      refine blk ?_
      refine loop_ind (fun k1 a w => ∃ (x3 : Int) (x4 : Int) (s3 : HF) , St e s3 w [] ∧ Fr 27 a [(0, v1), (1, (.int .i64 x3)), (5, (.int .i64 x4))] ∧ Sub s0 s3 ∧ laws_szSeatS.l1 x2 k1 x3 x4 = some x7) k ?_ ?_ ?_
      · skip
        exact ⟨(w64 (x6 - (x2.length : Int))), 0, s0, hS, hF.cut ⟨rfl, rfl, rfl, trivial⟩, (Sub.refl _), H⟩
      · clear H hS hF
        rintro a w ⟨x3, x4, s3, hS, hF, hg1, H⟩
        exact absurd (show none = some _ from H) (by simp)
      · clear H hS hF
        rintro k1 a w ⟨x3, x4, s3, hS, hF, hg1, H⟩
        rw [laws_szSeatS.l1.eq_2] at H
        refine sq ?_
        refine sq ?_
        refine rg ?_
        refine stp hF (p_move rfl) (by decide) (fun a hF => ?_)
        refine stp hF (p_move rfl) (by decide) (fun a hF => ?_)
        refine stp hF (p_lenr un_31 rfl (h1.mono hg1)) (by decide) (fun a hF => ?_)
        refine stp hF (p_lss rfl rfl) (by decide) (fun a hF => ?_)
        refine nilN ?_
        refine xn ?_
        refine cnd hF rfl (fun hc2 => ?_) (fun hc2 => ?_)
        · replace H := hbt hc2 H
          refine skN ?_
          refine xn ?_
          refine sq ?_
          refine blk ?_
          refine sq ?_
          refine rg ?_
          refine stp hF (p_move rfl) (by decide) (fun a hF => ?_)
          refine stp hF (p_move rfl) (by decide) (fun a hF => ?_)
          obtain ⟨hq1, H⟩ := hck H
          obtain ⟨ad1, h2, p1⟩ := p_idxr (P := Tryz.prog) (i := x4) (h1.mono hg1) un_31 ti_245 hq1.1 hq1.2
          refine stp hF (p1 rfl rfl) (by decide) (fun a hF => ?_)
          obtain ⟨c2, h3, p2⟩ := p_ldr_agg (P := Tryz.prog) h2 ia_245 ti_245
          obtain ⟨c3, rfl, h4⟩ := kTSeat_open h3
          refine stp hF (p2 rfl hS.ro) (by decide) (fun a hF => ?_)
          refine stp hF (p_move rfl) (by decide) (fun a hF => ?_)
          obtain ⟨x5, hx1, H⟩ := hb H
          refine ste hF (e_callA (fst := []) (vs := [(.agg ([(.int .i64 ((rd x2 x4).No)), (.int .i64 (((rd x2 x4).P).Lsn))] ++ c3 ++ [(.bool ((rd x2 x4).Dirty)), (.bool ((rd x2 x4).Hot))] : List Value).toArray), (.int .i64 x3)]) (cap := []) rfl rfl go_199 (St.call (A := []) (B := []) hS (laws_szSeat.spec k1 _ _ (rd x2 x4) x3 c3 h4 _ hx1)) rfl) (by decide) (fun v w a hR hF => ?_)
          obtain ⟨s4, A2, hg2, hS, hR⟩ := hR
          obtain ⟨hv1, rfl⟩ := hR; obtain rfl := hv1.symm
          have hS : St e s4 w [] := hS
          refine stp hF (p_assign rfl) (by decide) (fun a hF => ?_)
          refine nilN ?_
          refine xn ?_
          refine sq ?_
          refine rg ?_
          refine stp hF (p_move rfl) (by decide) (fun a hF => ?_)
          refine stp hF (p_lss rfl rfl) (by decide) (fun a hF => ?_)
          refine nilN ?_
          refine xn ?_
          refine cnd hF rfl (fun hc3 => ?_) (fun hc3 => ?_)
          · replace H := hbt hc3 H
            refine sq ?_
            refine rg ?_
            refine stp hF (p_assign rfl) (by decide) (fun a hF => ?_)
            refine nilN ?_
            refine xn ?_
            refine rt ?_
            refine br (xr (xr (br (xr ?_))))
            obtain rfl := hsm H
            have H := hon1 HK1
            obtain rfl := hsm H
            exact ret1 hF rfl rfl hS ⟨rfl, rfl⟩
          · replace H := hbf hc3 H
            refine skN ?_
            refine bn (xn ?_)
            refine rg ?_
            refine stp hF (p_move rfl) (by decide) (fun a hF => ?_)
            refine stp hF (p_add (c := w64 (x4 + 1)) rfl rfl rfl) (by decide) (fun a hF => ?_)
            refine stp hF (p_assign rfl) (by decide) (fun a hF => ?_)
            refine nilN ?_
            refine xn ?_
            exact ⟨x5, (w64 (x4 + 1)), s4, hS, hF.cut ⟨rfl, rfl, rfl, trivial⟩, (hg1.trans hg2), H⟩
        · replace H := hbf hc2 H
          refine exi ?_
          refine xe (xe (hit (xn ?_)))
          obtain rfl := hsm H
          exact ⟨x3, s3, hS, hF.cut ⟨rfl, trivial⟩, hg1, HK1⟩
    · clear H HK1 hS hF
      rintro a w ⟨x1, s2, hS, hF, hg3, H⟩
      unfold laws_szSeatS.c1 at H
      refine sq ?_
      refine rg ?_
      refine stp hF (p_move rfl) (by decide) (fun a hF => ?_)
      refine stp hF (p_assign rfl) (by decide) (fun a hF => ?_)
      refine nilN ?_
      refine xn ?_
      refine rt ?_
      obtain rfl := hsm H
      exact ret1 hF rfl rfl hS ⟨rfl, rfl⟩

def laws_szPool.f (k : Nat) (x1 : TPool) (x2 : Int) : Option Int :=
  ((laws_szSeatS.f k x1.Seats x2).bind fun x3 => (if (decide (x3 < 0)) = true then (some (-1)) else (some x3)))
set_option maxRecDepth 100000 in
set_option maxHeartbeats 4000000 in
theorem laws_szPool.spec (k : Nat) (s0 : HF) (w : World) (x1 : TPool) (x2 : Int) (v1 : Value) (h1 : Sl kTSeat s0 v1 x1.Seats) (r : Int) (H : laws_szPool.f k x1 x2 = some r) :
    Law Tryz.prog 36 #[(.agg #[v1, (.int .i64 x1.Hand)]), (.int .i64 x2)] s0 w [] (fun v s1 A1 => v = (.int .i64 r) ∧ A1 = []) := by
  unfold laws_szPool.f at H
  refine Law.intro Tryz.func36 rfl [(0, (.agg #[v1, (.int .i64 x1.Hand)])), (1, (.int .i64 x2))] (Nat.le_of_ble_eq_true rfl) (enter_lk ⟨rfl, rfl, trivial⟩) (fun e a hS hF => ?_)
  have hF : Fr 12 a [(0, (.agg #[v1, (.int .i64 x1.Hand)])), (1, (.int .i64 x2))] := hF
  refine sq ?_
  refine rg ?_
  refine ste hF (e_box (cs := [v1, (.int .i64 x1.Hand)]) hS rfl rfl) (by decide) (fun v w a hR hF => ?_)
  obtain ⟨g1, rfl, hS⟩ := hR
  refine stp hF (p_assign rfl) (by decide) (fun a hF => ?_)
  refine nilN ?_
  refine xn ?_
  refine sq ?_
  refine rg ?_
  refine stp hF (p_fldb (o' := 0) rfl fi_33_0 rfl) (by decide) (fun a hF => ?_)
  refine stp hF (p_ldb_one (i := 0) hS rfl rfl ia_31 rfl) (by decide) (fun a hF => ?_)
  refine stp hF (p_move rfl) (by decide) (fun a hF => ?_)
  obtain ⟨x3, hx1, H⟩ := hb H
  refine ste hF (e_callA (fst := []) (vs := [v1, (.int .i64 x2)]) (cap := []) rfl rfl go_111 (St.call (A := []) (B := [pt g1 33 ([v1, (.int .i64 x1.Hand)])]) hS (laws_szSeatS.spec k _ _ x1.Seats x2 v1 h1 _ hx1)) rfl) (by decide) (fun v w a hR hF => ?_)
  obtain ⟨s2, A2, hg1, hS, hR⟩ := hR
  obtain ⟨hv1, rfl⟩ := hR; obtain rfl := hv1.symm
  have hS : St e s2 w [pt g1 33 ([v1, (.int .i64 x1.Hand)])] := hS
  refine stp hF (p_assign rfl) (by decide) (fun a hF => ?_)
  refine nilN ?_
  refine xn ?_
  refine sq ?_
  refine sq ?_
  refine rg ?_
  refine stp hF (p_move rfl) (by decide) (fun a hF => ?_)
  refine stp hF (p_lss rfl rfl) (by decide) (fun a hF => ?_)
  refine nilN ?_
  refine xn ?_
  refine cnd hF rfl (fun hc1 => ?_) (fun hc1 => ?_)
  · replace H := hbt hc1 H
    refine sq ?_
    refine rg ?_
    refine stp hF (p_assign rfl) (by decide) (fun a hF => ?_)
    refine nilN ?_
    refine xn ?_
    refine rt ?_
    refine xr ?_
    obtain rfl := hsm H
    replace hS := hS.sel (is := []) (A' := []) rfl
    exact ret1 hF rfl rfl hS ⟨rfl, rfl⟩
  · replace H := hbf hc1 H
    refine skN ?_
    refine xn ?_
    refine sq ?_
    refine rg ?_
    refine stp hF (p_move rfl) (by decide) (fun a hF => ?_)
    refine stp hF (p_assign rfl) (by decide) (fun a hF => ?_)
    refine nilN ?_
    refine xn ?_
    refine rt ?_
    obtain rfl := hsm H
    replace hS := hS.sel (is := []) (A' := []) rfl
    exact ret1 hF rfl rfl hS ⟨rfl, rfl⟩

def laws_szLiveS.f (k : Nat) (x1 : (List TLive)) (x2 : Int) : Option Int :=
  (if (decide ((w64 (x2 - (x1.length : Int))) < 0)) = true then (some (-1)) else (some (w64 (x2 - (x1.length : Int)))))
set_option maxRecDepth 100000 in
set_option maxHeartbeats 4000000 in
theorem laws_szLiveS.spec (k : Nat) (s0 : HF) (w : World) (x1 : (List TLive)) (x2 : Int) (v1 : Value) (h1 : Sl kTLive s0 v1 x1) (r : Int) (H : laws_szLiveS.f k x1 x2 = some r) :
    Law Tryz.prog 38 #[v1, (.int .i64 x2)] s0 w [] (fun v s1 A1 => v = (.int .i64 r) ∧ A1 = []) := by
  unfold laws_szLiveS.f at H
  refine Law.intro Tryz.func38 rfl [(0, v1), (1, (.int .i64 x2))] (Nat.le_of_ble_eq_true rfl) (enter_lk ⟨rfl, rfl, trivial⟩) (fun e a hS hF => ?_)
  have hF : Fr 12 a [(0, v1), (1, (.int .i64 x2))] := hF
  refine sq ?_
  refine rg ?_
  refine stp hF (p_assign rfl) (by decide) (fun a hF => ?_)
  refine nilN ?_
  refine xn ?_
  refine sq ?_
  refine rg ?_
  refine stp hF (p_move rfl) (by decide) (fun a hF => ?_)
  refine stp hF (p_move rfl) (by decide) (fun a hF => ?_)
  refine stp hF (p_lenr un_37 rfl h1) (by decide) (fun a hF => ?_)
  refine stp hF (p_sub (c := w64 (x2 - (x1.length : Int))) rfl rfl rfl) (by decide) (fun a hF => ?_)
  refine stp hF (p_assign rfl) (by decide) (fun a hF => ?_)
  refine nilN ?_
  refine xn ?_
  refine sq ?_
  refine sq ?_
  refine rg ?_
  refine stp hF (p_move rfl) (by decide) (fun a hF => ?_)
  refine stp hF (p_lss rfl rfl) (by decide) (fun a hF => ?_)
  refine nilN ?_
  refine xn ?_
  refine cnd hF rfl (fun hc1 => ?_) (fun hc1 => ?_)
  · replace H := hbt hc1 H
    refine sq ?_
    refine rg ?_
    refine stp hF (p_assign rfl) (by decide) (fun a hF => ?_)
    refine nilN ?_
    refine xn ?_
    refine rt ?_
    refine xr ?_
    obtain rfl := hsm H
    exact ret1 hF rfl rfl hS ⟨rfl, rfl⟩
  · replace H := hbf hc1 H
    refine skN ?_
    refine xn ?_
    refine sq ?_
    refine rg ?_
    refine stp hF (p_move rfl) (by decide) (fun a hF => ?_)
    refine stp hF (p_assign rfl) (by decide) (fun a hF => ?_)
    refine nilN ?_
    refine xn ?_
    refine rt ?_
    obtain rfl := hsm H
    exact ret1 hF rfl rfl hS ⟨rfl, rfl⟩

def laws_szRec.f (k : Nat) (x1 : TRec) (x2 : Int) : Option Int :=
  ((laws_szSlot.f k x1.Before x2).bind fun x3 => (if (decide (x3 < 0)) = true then (some (-1)) else ((laws_szSlot.f k x1.After x3).bind fun x4 => (if (decide (x4 < 0)) = true then (some (-1)) else ((laws_szLiveS.f k x1.Txs x4).bind fun x5 => (if (decide (x5 < 0)) = true then (some (-1)) else (some x5)))))))
set_option maxRecDepth 100000 in
set_option maxHeartbeats 4000000 in
theorem laws_szRec.spec (k : Nat) (s0 : HF) (w : World) (x1 : TRec) (x2 : Int) (v1 : Value) (v2 : Value) (v3 : Value) (v4 : Value) (v5 : Value) (h1 : Sl (Kd.int .i64) s0 v1 x1.Before.O.Ints) (h2 : Sl (Kd.int .i64) s0 v2 x1.Before.O.Refs) (h3 : Sl (Kd.int .i64) s0 v3 x1.After.O.Ints) (h4 : Sl (Kd.int .i64) s0 v4 x1.After.O.Refs) (h5 : Sl kTLive s0 v5 x1.Txs) (r : Int) (H : laws_szRec.f k x1 x2 = some r) :
    Law Tryz.prog 200 #[(.agg #[(.int .i64 x1.Lsn), (.int .i64 x1.Tx), (.int .i64 x1.Prev), (.int .i64 x1.Kind), (.int .i64 x1.Oid), (.bool x1.Before.Has), (.int .i64 x1.Before.O.Kind), v1, v2, (.bool x1.After.Has), (.int .i64 x1.After.O.Kind), v3, v4, (.int .i64 x1.Next), v5]), (.int .i64 x2)] s0 w [] (fun v s1 A1 => v = (.int .i64 r) ∧ A1 = []) := by
  unfold laws_szRec.f at H
  refine Law.intro Tryz.func200 rfl [(0, (.agg #[(.int .i64 x1.Lsn), (.int .i64 x1.Tx), (.int .i64 x1.Prev), (.int .i64 x1.Kind), (.int .i64 x1.Oid), (.bool x1.Before.Has), (.int .i64 x1.Before.O.Kind), v1, v2, (.bool x1.After.Has), (.int .i64 x1.After.O.Kind), v3, v4, (.int .i64 x1.Next), v5])), (1, (.int .i64 x2))] (Nat.le_of_ble_eq_true rfl) (enter_lk ⟨rfl, rfl, trivial⟩) (fun e a hS hF => ?_)
  have hF : Fr 24 a [(0, (.agg #[(.int .i64 x1.Lsn), (.int .i64 x1.Tx), (.int .i64 x1.Prev), (.int .i64 x1.Kind), (.int .i64 x1.Oid), (.bool x1.Before.Has), (.int .i64 x1.Before.O.Kind), v1, v2, (.bool x1.After.Has), (.int .i64 x1.After.O.Kind), v3, v4, (.int .i64 x1.Next), v5])), (1, (.int .i64 x2))] := hF
  refine sq ?_
  refine rg ?_
  refine ste hF (e_box (cs := [(.int .i64 x1.Lsn), (.int .i64 x1.Tx), (.int .i64 x1.Prev), (.int .i64 x1.Kind), (.int .i64 x1.Oid), (.bool x1.Before.Has), (.int .i64 x1.Before.O.Kind), v1, v2, (.bool x1.After.Has), (.int .i64 x1.After.O.Kind), v3, v4, (.int .i64 x1.Next), v5]) hS rfl rfl) (by decide) (fun v w a hR hF => ?_)
  obtain ⟨g1, rfl, hS⟩ := hR
  refine stp hF (p_assign rfl) (by decide) (fun a hF => ?_)
  refine nilN ?_
  refine xn ?_
  refine sq ?_
  refine rg ?_
  refine stp hF (p_fldb (o' := 5) rfl fi_248_5 rfl) (by decide) (fun a hF => ?_)
  refine stp hF (p_ldb_agg (i := 0) (l := [(.int .i64 x1.Lsn), (.int .i64 x1.Tx), (.int .i64 x1.Prev), (.int .i64 x1.Kind), (.int .i64 x1.Oid)]) (m := [(.bool x1.Before.Has), (.int .i64 x1.Before.O.Kind), v1, v2]) (r := [(.bool x1.After.Has), (.int .i64 x1.After.O.Kind), v3, v4, (.int .i64 x1.Next), v5]) hS rfl rfl ia_26 ti_26 rfl rfl rfl) (by decide) (fun a hF => ?_)
  refine stp hF (p_move rfl) (by decide) (fun a hF => ?_)
  obtain ⟨x3, hx1, H⟩ := hb H
  refine ste hF (e_callA (fst := []) (vs := [(.agg #[(.bool x1.Before.Has), (.int .i64 x1.Before.O.Kind), v1, v2]), (.int .i64 x2)]) (cap := []) rfl rfl go_250 (St.call (A := []) (B := [pt g1 248 ([(.int .i64 x1.Lsn), (.int .i64 x1.Tx), (.int .i64 x1.Prev), (.int .i64 x1.Kind), (.int .i64 x1.Oid), (.bool x1.Before.Has), (.int .i64 x1.Before.O.Kind), v1, v2, (.bool x1.After.Has), (.int .i64 x1.After.O.Kind), v3, v4, (.int .i64 x1.Next), v5])]) hS (laws_szSlot.spec k _ _ x1.Before x2 v1 v2 h1 h2 _ hx1)) rfl) (by decide) (fun v w a hR hF => ?_)
  obtain ⟨s2, A2, hg1, hS, hR⟩ := hR
  obtain ⟨hv1, rfl⟩ := hR; obtain rfl := hv1.symm
  have hS : St e s2 w [pt g1 248 ([(.int .i64 x1.Lsn), (.int .i64 x1.Tx), (.int .i64 x1.Prev), (.int .i64 x1.Kind), (.int .i64 x1.Oid), (.bool x1.Before.Has), (.int .i64 x1.Before.O.Kind), v1, v2, (.bool x1.After.Has), (.int .i64 x1.After.O.Kind), v3, v4, (.int .i64 x1.Next), v5])] := hS
  refine stp hF (p_assign rfl) (by decide) (fun a hF => ?_)
  refine nilN ?_
  refine xn ?_
  refine sq ?_
  refine sq ?_
  refine rg ?_
  refine stp hF (p_move rfl) (by decide) (fun a hF => ?_)
  refine stp hF (p_lss rfl rfl) (by decide) (fun a hF => ?_)
  refine nilN ?_
  refine xn ?_
  refine cnd hF rfl (fun hc1 => ?_) (fun hc1 => ?_)
  · replace H := hbt hc1 H
    refine sq ?_
    refine rg ?_
    refine stp hF (p_assign rfl) (by decide) (fun a hF => ?_)
    refine nilN ?_
    refine xn ?_
    refine rt ?_
    refine xr ?_
    obtain rfl := hsm H
    replace hS := hS.sel (is := []) (A' := []) rfl
    exact ret1 hF rfl rfl hS ⟨rfl, rfl⟩
  · replace H := hbf hc1 H
    refine skN ?_
    refine xn ?_
    refine sq ?_
    refine rg ?_
    refine stp hF (p_fldb (o' := 9) rfl fi_248_6 rfl) (by decide) (fun a hF => ?_)
    refine stp hF (p_ldb_agg (i := 0) (l := [(.int .i64 x1.Lsn), (.int .i64 x1.Tx), (.int .i64 x1.Prev), (.int .i64 x1.Kind), (.int .i64 x1.Oid), (.bool x1.Before.Has), (.int .i64 x1.Before.O.Kind), v1, v2]) (m := [(.bool x1.After.Has), (.int .i64 x1.After.O.Kind), v3, v4]) (r := [(.int .i64 x1.Next), v5]) hS rfl rfl ia_26 ti_26 rfl rfl rfl) (by decide) (fun a hF => ?_)
    refine stp hF (p_move rfl) (by decide) (fun a hF => ?_)
    obtain ⟨x4, hx2, H⟩ := hb H
    refine ste hF (e_callA (fst := []) (vs := [(.agg #[(.bool x1.After.Has), (.int .i64 x1.After.O.Kind), v3, v4]), (.int .i64 x3)]) (cap := []) rfl rfl go_250 (St.call (A := []) (B := [pt g1 248 ([(.int .i64 x1.Lsn), (.int .i64 x1.Tx), (.int .i64 x1.Prev), (.int .i64 x1.Kind), (.int .i64 x1.Oid), (.bool x1.Before.Has), (.int .i64 x1.Before.O.Kind), v1, v2, (.bool x1.After.Has), (.int .i64 x1.After.O.Kind), v3, v4, (.int .i64 x1.Next), v5])]) hS (laws_szSlot.spec k _ _ x1.After x3 v3 v4 (h3.mono hg1) (h4.mono hg1) _ hx2)) rfl) (by decide) (fun v w a hR hF => ?_)
    obtain ⟨s3, A3, hg2, hS, hR⟩ := hR
    obtain ⟨hv2, rfl⟩ := hR; obtain rfl := hv2.symm
    have hS : St e s3 w [pt g1 248 ([(.int .i64 x1.Lsn), (.int .i64 x1.Tx), (.int .i64 x1.Prev), (.int .i64 x1.Kind), (.int .i64 x1.Oid), (.bool x1.Before.Has), (.int .i64 x1.Before.O.Kind), v1, v2, (.bool x1.After.Has), (.int .i64 x1.After.O.Kind), v3, v4, (.int .i64 x1.Next), v5])] := hS
    refine stp hF (p_assign rfl) (by decide) (fun a hF => ?_)
    refine nilN ?_
    refine xn ?_
    refine sq ?_
    refine sq ?_
    refine rg ?_
    refine stp hF (p_move rfl) (by decide) (fun a hF => ?_)
    refine stp hF (p_lss rfl rfl) (by decide) (fun a hF => ?_)
    refine nilN ?_
    refine xn ?_
    refine cnd hF rfl (fun hc2 => ?_) (fun hc2 => ?_)
    · replace H := hbt hc2 H
      refine sq ?_
      refine rg ?_
      refine stp hF (p_assign rfl) (by decide) (fun a hF => ?_)
      refine nilN ?_
      refine xn ?_
      refine rt ?_
      refine xr ?_
      obtain rfl := hsm H
      replace hS := hS.sel (is := []) (A' := []) rfl
      exact ret1 hF rfl rfl hS ⟨rfl, rfl⟩
    · replace H := hbf hc2 H
      refine skN ?_
      refine xn ?_
      refine sq ?_
      refine rg ?_
      refine stp hF (p_fldb (o' := 14) rfl fi_248_8 rfl) (by decide) (fun a hF => ?_)
      refine stp hF (p_ldb_one (i := 0) hS rfl rfl ia_37 rfl) (by decide) (fun a hF => ?_)
      refine stp hF (p_move rfl) (by decide) (fun a hF => ?_)
      obtain ⟨x5, hx3, H⟩ := hb H
      refine ste hF (e_callA (fst := []) (vs := [v5, (.int .i64 x4)]) (cap := []) rfl rfl go_38 (St.call (A := []) (B := [pt g1 248 ([(.int .i64 x1.Lsn), (.int .i64 x1.Tx), (.int .i64 x1.Prev), (.int .i64 x1.Kind), (.int .i64 x1.Oid), (.bool x1.Before.Has), (.int .i64 x1.Before.O.Kind), v1, v2, (.bool x1.After.Has), (.int .i64 x1.After.O.Kind), v3, v4, (.int .i64 x1.Next), v5])]) hS (laws_szLiveS.spec k _ _ x1.Txs x4 v5 ((h5.mono hg1).mono hg2) _ hx3)) rfl) (by decide) (fun v w a hR hF => ?_)
      obtain ⟨s4, A4, hg3, hS, hR⟩ := hR
      obtain ⟨hv3, rfl⟩ := hR; obtain rfl := hv3.symm
      have hS : St e s4 w [pt g1 248 ([(.int .i64 x1.Lsn), (.int .i64 x1.Tx), (.int .i64 x1.Prev), (.int .i64 x1.Kind), (.int .i64 x1.Oid), (.bool x1.Before.Has), (.int .i64 x1.Before.O.Kind), v1, v2, (.bool x1.After.Has), (.int .i64 x1.After.O.Kind), v3, v4, (.int .i64 x1.Next), v5])] := hS
      refine stp hF (p_assign rfl) (by decide) (fun a hF => ?_)
      refine nilN ?_
      refine xn ?_
      refine sq ?_
      refine sq ?_
      refine rg ?_
      refine stp hF (p_move rfl) (by decide) (fun a hF => ?_)
      refine stp hF (p_lss rfl rfl) (by decide) (fun a hF => ?_)
      refine nilN ?_
      refine xn ?_
      refine cnd hF rfl (fun hc3 => ?_) (fun hc3 => ?_)
      · replace H := hbt hc3 H
        refine sq ?_
        refine rg ?_
        refine stp hF (p_assign rfl) (by decide) (fun a hF => ?_)
        refine nilN ?_
        refine xn ?_
        refine rt ?_
        refine xr ?_
        obtain rfl := hsm H
        replace hS := hS.sel (is := []) (A' := []) rfl
        exact ret1 hF rfl rfl hS ⟨rfl, rfl⟩
      · replace H := hbf hc3 H
        refine skN ?_
        refine xn ?_
        refine sq ?_
        refine rg ?_
        refine stp hF (p_move rfl) (by decide) (fun a hF => ?_)
        refine stp hF (p_assign rfl) (by decide) (fun a hF => ?_)
        refine nilN ?_
        refine xn ?_
        refine rt ?_
        obtain rfl := hsm H
        replace hS := hS.sel (is := []) (A' := []) rfl
        exact ret1 hF rfl rfl hS ⟨rfl, rfl⟩

def laws_szRecS.c1 (k : Nat) (x1 : Int) : Option Int :=
  (some x1)
def laws_szRecS.l1 (x2 : (List TRec)) : Nat → Int → Int → Option (Ex Int Int)
  | 0, _, _ => none
  | k + 1, x3, x4 => (if (decide (x4 < (x2.length : Int))) = true then (if 0 ≤ x4 ∧ x4 < (x2.length : Int) then ((laws_szRec.f k (rd x2 x4) x3).bind fun x5 => (if (decide (x5 < 0)) = true then (some (Ex.ret (-1))) else ((laws_szRecS.l1 x2 k) x5 (w64 (x4 + 1))))) else none) else (some (Ex.go x3)))
def laws_szRecS.f (k : Nat) (x2 : (List TRec)) (x6 : Int) : Option Int :=
  (if (decide ((w64 (x6 - (x2.length : Int))) < 0)) = true then (some (-1)) else (((laws_szRecS.l1 x2 k (w64 (x6 - (x2.length : Int))) 0) : Option (Ex Int Int)).bind fun x7 => Ex.on x7 (fun r => some r) (fun y => laws_szRecS.c1 k y)))
set_option maxRecDepth 100000 in
set_option maxHeartbeats 4000000 in
theorem laws_szRecS.spec (k : Nat) (s0 : HF) (w : World) (x2 : (List TRec)) (x6 : Int) (v1 : Value) (h1 : Sl kTRec s0 v1 x2) (r : Int) (H : laws_szRecS.f k x2 x6 = some r) :
    Law Tryz.prog 112 #[v1, (.int .i64 x6)] s0 w [] (fun v s1 A1 => v = (.int .i64 r) ∧ A1 = []) := by
  unfold laws_szRecS.f at H
  refine Law.intro Tryz.func112 rfl [(0, v1), (1, (.int .i64 x6))] (Nat.le_of_ble_eq_true rfl) (enter_lk ⟨rfl, rfl, trivial⟩) (fun e a hS hF => ?_)
  have hF : Fr 27 a [(0, v1), (1, (.int .i64 x6))] := hF
  refine sq ?_
  refine rg ?_
  refine stp hF (p_assign rfl) (by decide) (fun a hF => ?_)
  refine nilN ?_
  refine xn ?_
  refine sq ?_
  refine rg ?_
  refine stp hF (p_move rfl) (by decide) (fun a hF => ?_)
  refine stp hF (p_move rfl) (by decide) (fun a hF => ?_)
  refine stp hF (p_lenr un_34 rfl h1) (by decide) (fun a hF => ?_)
  refine stp hF (p_sub (c := w64 (x6 - (x2.length : Int))) rfl rfl rfl) (by decide) (fun a hF => ?_)
  refine stp hF (p_assign rfl) (by decide) (fun a hF => ?_)
  refine nilN ?_
  refine xn ?_
  refine sq ?_
  refine sq ?_
  refine rg ?_
  refine stp hF (p_move rfl) (by decide) (fun a hF => ?_)
  refine stp hF (p_lss rfl rfl) (by decide) (fun a hF => ?_)
  refine nilN ?_
  refine xn ?_
  refine cnd hF rfl (fun hc1 => ?_) (fun hc1 => ?_)
  · replace H := hbt hc1 H
    refine sq ?_
    refine rg ?_
    refine stp hF (p_assign rfl) (by decide) (fun a hF => ?_)
    refine nilN ?_
    refine xn ?_
    refine rt ?_
    refine xr ?_
    obtain rfl := hsm H
    exact ret1 hF rfl rfl hS ⟨rfl, rfl⟩
  · replace H := hbf hc1 H
    refine skN ?_
    refine xn ?_
    obtain ⟨x7, H, HK1⟩ := hb H
    refine sqj (fun a w => ∃ (x1 : Int) (s2 : HF) , St e s2 w [] ∧ Fr 27 a [(1, (.int .i64 x1))] ∧ Sub s0 s2 ∧ laws_szRecS.c1 k x1 = some r) ?_ ?_
    · skip
      refine sq ?_
      refine rg ?_
      refine stp hF (p_assign rfl) (by decide) (fun a hF => ?_)
      refine nilN ?_
      refine xn ?_
      refine blk ?_
      refine loop_ind (fun k1 a w => ∃ (x3 : Int) (x4 : Int) (s3 : HF) , St e s3 w [] ∧ Fr 27 a [(0, v1), (1, (.int .i64 x3)), (5, (.int .i64 x4))] ∧ Sub s0 s3 ∧ laws_szRecS.l1 x2 k1 x3 x4 = some x7) k ?_ ?_ ?_
      · skip
        exact ⟨(w64 (x6 - (x2.length : Int))), 0, s0, hS, hF.cut ⟨rfl, rfl, rfl, trivial⟩, (Sub.refl _), H⟩
      · clear H hS hF
        rintro a w ⟨x3, x4, s3, hS, hF, hg1, H⟩
        exact absurd (show none = some _ from H) (by simp)
      · clear H hS hF
        rintro k1 a w ⟨x3, x4, s3, hS, hF, hg1, H⟩
        rw [laws_szRecS.l1.eq_2] at H
        refine sq ?_
        refine sq ?_
        refine rg ?_
        refine stp hF (p_move rfl) (by decide) (fun a hF => ?_)
        refine stp hF (p_move rfl) (by decide) (fun a hF => ?_)
        refine stp hF (p_lenr un_34 rfl (h1.mono hg1)) (by decide) (fun a hF => ?_)
        refine stp hF (p_lss rfl rfl) (by decide) (fun a hF => ?_)
        refine nilN ?_
        refine xn ?_
        refine cnd hF rfl (fun hc2 => ?_) (fun hc2 => ?_)
        · replace H := hbt hc2 H
          refine skN ?_
          refine xn ?_
          refine sq ?_
          refine blk ?_
          refine sq ?_
          refine rg ?_
          refine stp hF (p_move rfl) (by decide) (fun a hF => ?_)
          refine stp hF (p_move rfl) (by decide) (fun a hF => ?_)
          obtain ⟨hq1, H⟩ := hck H
          obtain ⟨ad1, h2, p1⟩ := p_idxr (P := Tryz.prog) (i := x4) (h1.mono hg1) un_34 ti_248 hq1.1 hq1.2
          refine stp hF (p1 rfl rfl) (by decide) (fun a hF => ?_)
          obtain ⟨c2, h3, p2⟩ := p_ldr_agg (P := Tryz.prog) h2 ia_248 ti_248
          obtain ⟨v2, v3, v4, v5, v6, rfl, h4, h5, h6, h7, h8⟩ := kTRec_open h3
          refine stp hF (p2 rfl hS.ro) (by decide) (fun a hF => ?_)
          refine stp hF (p_move rfl) (by decide) (fun a hF => ?_)
          obtain ⟨x5, hx1, H⟩ := hb H
          refine ste hF (e_callA (fst := []) (vs := [(.agg #[(.int .i64 ((rd x2 x4).Lsn)), (.int .i64 ((rd x2 x4).Tx)), (.int .i64 ((rd x2 x4).Prev)), (.int .i64 ((rd x2 x4).Kind)), (.int .i64 ((rd x2 x4).Oid)), (.bool (((rd x2 x4).Before).Has)), (.int .i64 ((((rd x2 x4).Before).O).Kind)), v2, v3, (.bool (((rd x2 x4).After).Has)), (.int .i64 ((((rd x2 x4).After).O).Kind)), v4, v5, (.int .i64 ((rd x2 x4).Next)), v6]), (.int .i64 x3)]) (cap := []) rfl rfl go_200 (St.call (A := []) (B := []) hS (laws_szRec.spec k1 _ _ (rd x2 x4) x3 v2 v3 v4 v5 v6 h4 h5 h6 h7 h8 _ hx1)) rfl) (by decide) (fun v w a hR hF => ?_)
          obtain ⟨s4, A2, hg2, hS, hR⟩ := hR
          obtain ⟨hv1, rfl⟩ := hR; obtain rfl := hv1.symm
          have hS : St e s4 w [] := hS
          refine stp hF (p_assign rfl) (by decide) (fun a hF => ?_)
          refine nilN ?_
          refine xn ?_
          refine sq ?_
          refine rg ?_
          refine stp hF (p_move rfl) (by decide) (fun a hF => ?_)
          refine stp hF (p_lss rfl rfl) (by decide) (fun a hF => ?_)
          refine nilN ?_
          refine xn ?_
          refine cnd hF rfl (fun hc3 => ?_) (fun hc3 => ?_)
          · replace H := hbt hc3 H
            refine sq ?_
            refine rg ?_
            refine stp hF (p_assign rfl) (by decide) (fun a hF => ?_)
            refine nilN ?_
            refine xn ?_
            refine rt ?_
            refine br (xr (xr (br (xr ?_))))
            obtain rfl := hsm H
            have H := hon1 HK1
            obtain rfl := hsm H
            exact ret1 hF rfl rfl hS ⟨rfl, rfl⟩
          · replace H := hbf hc3 H
            refine skN ?_
            refine bn (xn ?_)
            refine rg ?_
            refine stp hF (p_move rfl) (by decide) (fun a hF => ?_)
            refine stp hF (p_add (c := w64 (x4 + 1)) rfl rfl rfl) (by decide) (fun a hF => ?_)
            refine stp hF (p_assign rfl) (by decide) (fun a hF => ?_)
            refine nilN ?_
            refine xn ?_
            exact ⟨x5, (w64 (x4 + 1)), s4, hS, hF.cut ⟨rfl, rfl, rfl, trivial⟩, (hg1.trans hg2), H⟩
        · replace H := hbf hc2 H
          refine exi ?_
          refine xe (xe (hit (xn ?_)))
          obtain rfl := hsm H
          exact ⟨x3, s3, hS, hF.cut ⟨rfl, trivial⟩, hg1, HK1⟩
    · clear H HK1 hS hF
      rintro a w ⟨x1, s2, hS, hF, hg3, H⟩
      unfold laws_szRecS.c1 at H
      refine sq ?_
      refine rg ?_
      refine stp hF (p_move rfl) (by decide) (fun a hF => ?_)
      refine stp hF (p_assign rfl) (by decide) (fun a hF => ?_)
      refine nilN ?_
      refine xn ?_
      refine rt ?_
      obtain rfl := hsm H
      exact ret1 hF rfl rfl hS ⟨rfl, rfl⟩

def laws_szLog.f (k : Nat) (x1 : TLog) (x2 : Int) : Option Int :=
  ((laws_szRecS.f k x1.Recs x2).bind fun x3 => (if (decide (x3 < 0)) = true then (some (-1)) else (some x3)))
set_option maxRecDepth 100000 in
set_option maxHeartbeats 4000000 in
theorem laws_szLog.spec (k : Nat) (s0 : HF) (w : World) (x1 : TLog) (x2 : Int) (v1 : Value) (h1 : Sl kTRec s0 v1 x1.Recs) (r : Int) (H : laws_szLog.f k x1 x2 = some r) :
    Law Tryz.prog 37 #[(.agg #[v1, (.int .i64 x1.Sure)]), (.int .i64 x2)] s0 w [] (fun v s1 A1 => v = (.int .i64 r) ∧ A1 = []) := by
  unfold laws_szLog.f at H
  refine Law.intro Tryz.func37 rfl [(0, (.agg #[v1, (.int .i64 x1.Sure)])), (1, (.int .i64 x2))] (Nat.le_of_ble_eq_true rfl) (enter_lk ⟨rfl, rfl, trivial⟩) (fun e a hS hF => ?_)
  have hF : Fr 12 a [(0, (.agg #[v1, (.int .i64 x1.Sure)])), (1, (.int .i64 x2))] := hF
  refine sq ?_
  refine rg ?_
  refine ste hF (e_box (cs := [v1, (.int .i64 x1.Sure)]) hS rfl rfl) (by decide) (fun v w a hR hF => ?_)
  obtain ⟨g1, rfl, hS⟩ := hR
  refine stp hF (p_assign rfl) (by decide) (fun a hF => ?_)
  refine nilN ?_
  refine xn ?_
  refine sq ?_
  refine rg ?_
  refine stp hF (p_fldb (o' := 0) rfl fi_36_0 rfl) (by decide) (fun a hF => ?_)
  refine stp hF (p_ldb_one (i := 0) hS rfl rfl ia_34 rfl) (by decide) (fun a hF => ?_)
  refine stp hF (p_move rfl) (by decide) (fun a hF => ?_)
  obtain ⟨x3, hx1, H⟩ := hb H
  refine ste hF (e_callA (fst := []) (vs := [v1, (.int .i64 x2)]) (cap := []) rfl rfl go_112 (St.call (A := []) (B := [pt g1 36 ([v1, (.int .i64 x1.Sure)])]) hS (laws_szRecS.spec k _ _ x1.Recs x2 v1 h1 _ hx1)) rfl) (by decide) (fun v w a hR hF => ?_)
  obtain ⟨s2, A2, hg1, hS, hR⟩ := hR
  obtain ⟨hv1, rfl⟩ := hR; obtain rfl := hv1.symm
  have hS : St e s2 w [pt g1 36 ([v1, (.int .i64 x1.Sure)])] := hS
  refine stp hF (p_assign rfl) (by decide) (fun a hF => ?_)
  refine nilN ?_
  refine xn ?_
  refine sq ?_
  refine sq ?_
  refine rg ?_
  refine stp hF (p_move rfl) (by decide) (fun a hF => ?_)
  refine stp hF (p_lss rfl rfl) (by decide) (fun a hF => ?_)
  refine nilN ?_
  refine xn ?_
  refine cnd hF rfl (fun hc1 => ?_) (fun hc1 => ?_)
  · replace H := hbt hc1 H
    refine sq ?_
    refine rg ?_
    refine stp hF (p_assign rfl) (by decide) (fun a hF => ?_)
    refine nilN ?_
    refine xn ?_
    refine rt ?_
    refine xr ?_
    obtain rfl := hsm H
    replace hS := hS.sel (is := []) (A' := []) rfl
    exact ret1 hF rfl rfl hS ⟨rfl, rfl⟩
  · replace H := hbf hc1 H
    refine skN ?_
    refine xn ?_
    refine sq ?_
    refine rg ?_
    refine stp hF (p_move rfl) (by decide) (fun a hF => ?_)
    refine stp hF (p_assign rfl) (by decide) (fun a hF => ?_)
    refine nilN ?_
    refine xn ?_
    refine rt ?_
    obtain rfl := hsm H
    replace hS := hS.sel (is := []) (A' := []) rfl
    exact ret1 hF rfl rfl hS ⟨rfl, rfl⟩

def laws_szHoldS.f (k : Nat) (x1 : (List THold)) (x2 : Int) : Option Int :=
  (if (decide ((w64 (x2 - (x1.length : Int))) < 0)) = true then (some (-1)) else (some (w64 (x2 - (x1.length : Int)))))
set_option maxRecDepth 100000 in
set_option maxHeartbeats 4000000 in
theorem laws_szHoldS.spec (k : Nat) (s0 : HF) (w : World) (x1 : (List THold)) (x2 : Int) (v1 : Value) (h1 : Sl kTHold s0 v1 x1) (r : Int) (H : laws_szHoldS.f k x1 x2 = some r) :
    Law Tryz.prog 39 #[v1, (.int .i64 x2)] s0 w [] (fun v s1 A1 => v = (.int .i64 r) ∧ A1 = []) := by
  unfold laws_szHoldS.f at H
  refine Law.intro Tryz.func39 rfl [(0, v1), (1, (.int .i64 x2))] (Nat.le_of_ble_eq_true rfl) (enter_lk ⟨rfl, rfl, trivial⟩) (fun e a hS hF => ?_)
  have hF : Fr 12 a [(0, v1), (1, (.int .i64 x2))] := hF
  refine sq ?_
  refine rg ?_
  refine stp hF (p_assign rfl) (by decide) (fun a hF => ?_)
  refine nilN ?_
  refine xn ?_
  refine sq ?_
  refine rg ?_
  refine stp hF (p_move rfl) (by decide) (fun a hF => ?_)
  refine stp hF (p_move rfl) (by decide) (fun a hF => ?_)
  refine stp hF (p_lenr un_38 rfl h1) (by decide) (fun a hF => ?_)
  refine stp hF (p_sub (c := w64 (x2 - (x1.length : Int))) rfl rfl rfl) (by decide) (fun a hF => ?_)
  refine stp hF (p_assign rfl) (by decide) (fun a hF => ?_)
  refine nilN ?_
  refine xn ?_
  refine sq ?_
  refine sq ?_
  refine rg ?_
  refine stp hF (p_move rfl) (by decide) (fun a hF => ?_)
  refine stp hF (p_lss rfl rfl) (by decide) (fun a hF => ?_)
  refine nilN ?_
  refine xn ?_
  refine cnd hF rfl (fun hc1 => ?_) (fun hc1 => ?_)
  · replace H := hbt hc1 H
    refine sq ?_
    refine rg ?_
    refine stp hF (p_assign rfl) (by decide) (fun a hF => ?_)
    refine nilN ?_
    refine xn ?_
    refine rt ?_
    refine xr ?_
    obtain rfl := hsm H
    exact ret1 hF rfl rfl hS ⟨rfl, rfl⟩
  · replace H := hbf hc1 H
    refine skN ?_
    refine xn ?_
    refine sq ?_
    refine rg ?_
    refine stp hF (p_move rfl) (by decide) (fun a hF => ?_)
    refine stp hF (p_assign rfl) (by decide) (fun a hF => ?_)
    refine nilN ?_
    refine xn ?_
    refine rt ?_
    obtain rfl := hsm H
    exact ret1 hF rfl rfl hS ⟨rfl, rfl⟩

def laws_szEngine.f (k : Nat) (x1 : TEngine) (x2 : Int) : Option Int :=
  ((laws_szPageA8.f k x1.Disk x2).bind fun x3 => (if (decide (x3 < 0)) = true then (some (-1)) else ((laws_szPool.f k x1.Pool x3).bind fun x4 => (if (decide (x4 < 0)) = true then (some (-1)) else ((laws_szLog.f k x1.Log x4).bind fun x5 => (if (decide (x5 < 0)) = true then (some (-1)) else ((laws_szLiveS.f k x1.Txs x5).bind fun x6 => (if (decide (x6 < 0)) = true then (some (-1)) else ((laws_szHoldS.f k x1.Holds x6).bind fun x7 => (if (decide (x7 < 0)) = true then (some (-1)) else (some x7)))))))))))
set_option maxRecDepth 100000 in
set_option maxHeartbeats 4000000 in
theorem laws_szEngine.spec (k : Nat) (s0 : HF) (w : World) (x1 : TEngine) (x2 : Int) (c1 : List Value) (v1 : Value) (v2 : Value) (v3 : Value) (v4 : Value) (h1 : ((Kd.arr 8 kTPage)).K s0 x1.Disk c1) (h2 : Sl kTSeat s0 v1 x1.Pool.Seats) (h3 : Sl kTRec s0 v2 x1.Log.Recs) (h4 : Sl kTLive s0 v3 x1.Txs) (h5 : Sl kTHold s0 v4 x1.Holds) (r : Int) (H : laws_szEngine.f k x1 x2 = some r) :
    Law Tryz.prog 7 #[(.agg (c1 ++ [v1, (.int .i64 x1.Pool.Hand), v2, (.int .i64 x1.Log.Sure), v3, v4, (.int .i64 x1.Next), (.bool x1.Down)] : List Value).toArray), (.int .i64 x2)] s0 w [] (fun v s1 A1 => v = (.int .i64 r) ∧ A1 = []) := by
  unfold laws_szEngine.f at H
  refine Law.intro Tryz.func7 rfl [(0, (.agg (c1 ++ [v1, (.int .i64 x1.Pool.Hand), v2, (.int .i64 x1.Log.Sure), v3, v4, (.int .i64 x1.Next), (.bool x1.Down)] : List Value).toArray)), (1, (.int .i64 x2))] (Nat.le_of_ble_eq_true rfl) (enter_lk ⟨rfl, rfl, trivial⟩) (fun e a hS hF => ?_)
  have hF : Fr 36 a [(0, (.agg (c1 ++ [v1, (.int .i64 x1.Pool.Hand), v2, (.int .i64 x1.Log.Sure), v3, v4, (.int .i64 x1.Next), (.bool x1.Down)] : List Value).toArray)), (1, (.int .i64 x2))] := hF
  refine sq ?_
  refine rg ?_
  refine ste hF (e_box (cs := c1 ++ [v1, (.int .i64 x1.Pool.Hand), v2, (.int .i64 x1.Log.Sure), v3, v4, (.int .i64 x1.Next), (.bool x1.Down)]) hS rfl rfl) (by decide) (fun v w a hR hF => ?_)
  obtain ⟨g1, rfl, hS⟩ := hR
  refine stp hF (p_assign rfl) (by decide) (fun a hF => ?_)
  refine nilN ?_
  refine xn ?_
  refine sq ?_
  refine rg ?_
  refine stp hF (p_fldb (o' := 0) rfl fi_40_0 rfl) (by decide) (fun a hF => ?_)
  refine stp hF (p_ldb_agg (i := 0) (l := []) (m := c1) (r := [v1, (.int .i64 x1.Pool.Hand), v2, (.int .i64 x1.Log.Sure), v3, v4, (.int .i64 x1.Next), (.bool x1.Down)]) hS rfl rfl ia_30 ti_30 (by simp) (by simp [(show c1.length = 136 from Kd.len _ h1)]) (by simp [(show c1.length = 136 from Kd.len _ h1)])) (by decide) (fun a hF => ?_)
  refine stp hF (p_move rfl) (by decide) (fun a hF => ?_)
  obtain ⟨x3, hx1, H⟩ := hb H
  refine ste hF (e_callA (fst := []) (vs := [(.agg c1.toArray), (.int .i64 x2)]) (cap := []) rfl rfl go_35 (St.call (A := []) (B := [pt g1 40 (c1 ++ [v1, (.int .i64 x1.Pool.Hand), v2, (.int .i64 x1.Log.Sure), v3, v4, (.int .i64 x1.Next), (.bool x1.Down)])]) hS (laws_szPageA8.spec k _ _ x1.Disk x2 c1 h1 _ hx1)) rfl) (by decide) (fun v w a hR hF => ?_)
  obtain ⟨s2, A2, hg1, hS, hR⟩ := hR
  obtain ⟨hv1, rfl⟩ := hR; obtain rfl := hv1.symm
  have hS : St e s2 w [pt g1 40 (c1 ++ [v1, (.int .i64 x1.Pool.Hand), v2, (.int .i64 x1.Log.Sure), v3, v4, (.int .i64 x1.Next), (.bool x1.Down)])] := hS
  refine stp hF (p_assign rfl) (by decide) (fun a hF => ?_)
  refine nilN ?_
  refine xn ?_
  refine sq ?_
  refine sq ?_
  refine rg ?_
  refine stp hF (p_move rfl) (by decide) (fun a hF => ?_)
  refine stp hF (p_lss rfl rfl) (by decide) (fun a hF => ?_)
  refine nilN ?_
  refine xn ?_
  refine cnd hF rfl (fun hc1 => ?_) (fun hc1 => ?_)
  · replace H := hbt hc1 H
    refine sq ?_
    refine rg ?_
    refine stp hF (p_assign rfl) (by decide) (fun a hF => ?_)
    refine nilN ?_
    refine xn ?_
    refine rt ?_
    refine xr ?_
    obtain rfl := hsm H
    replace hS := hS.sel (is := []) (A' := []) rfl
    exact ret1 hF rfl rfl hS ⟨rfl, rfl⟩
  · replace H := hbf hc1 H
    refine skN ?_
    refine xn ?_
    refine sq ?_
    refine rg ?_
    refine stp hF (p_fldb (o' := 136) rfl fi_40_1 rfl) (by decide) (fun a hF => ?_)
    refine stp hF (p_ldb_agg (i := 0) (l := c1) (m := [v1, (.int .i64 x1.Pool.Hand)]) (r := [v2, (.int .i64 x1.Log.Sure), v3, v4, (.int .i64 x1.Next), (.bool x1.Down)]) hS rfl rfl ia_33 ti_33 (by simp) (by simp [(show c1.length = 136 from Kd.len _ ((Kd.arr 8 kTPage).mono hg1 h1))]) (by simp [(show c1.length = 136 from Kd.len _ ((Kd.arr 8 kTPage).mono hg1 h1))])) (by decide) (fun a hF => ?_)
    refine stp hF (p_move rfl) (by decide) (fun a hF => ?_)
    obtain ⟨x4, hx2, H⟩ := hb H
    refine ste hF (e_callA (fst := []) (vs := [(.agg #[v1, (.int .i64 x1.Pool.Hand)]), (.int .i64 x3)]) (cap := []) rfl rfl go_36 (St.call (A := []) (B := [pt g1 40 (c1 ++ [v1, (.int .i64 x1.Pool.Hand), v2, (.int .i64 x1.Log.Sure), v3, v4, (.int .i64 x1.Next), (.bool x1.Down)])]) hS (laws_szPool.spec k _ _ x1.Pool x3 v1 (h2.mono hg1) _ hx2)) rfl) (by decide) (fun v w a hR hF => ?_)
    obtain ⟨s3, A3, hg2, hS, hR⟩ := hR
    obtain ⟨hv2, rfl⟩ := hR; obtain rfl := hv2.symm
    have hS : St e s3 w [pt g1 40 (c1 ++ [v1, (.int .i64 x1.Pool.Hand), v2, (.int .i64 x1.Log.Sure), v3, v4, (.int .i64 x1.Next), (.bool x1.Down)])] := hS
    refine stp hF (p_assign rfl) (by decide) (fun a hF => ?_)
    refine nilN ?_
    refine xn ?_
    refine sq ?_
    refine sq ?_
    refine rg ?_
    refine stp hF (p_move rfl) (by decide) (fun a hF => ?_)
    refine stp hF (p_lss rfl rfl) (by decide) (fun a hF => ?_)
    refine nilN ?_
    refine xn ?_
    refine cnd hF rfl (fun hc2 => ?_) (fun hc2 => ?_)
    · replace H := hbt hc2 H
      refine sq ?_
      refine rg ?_
      refine stp hF (p_assign rfl) (by decide) (fun a hF => ?_)
      refine nilN ?_
      refine xn ?_
      refine rt ?_
      refine xr ?_
      obtain rfl := hsm H
      replace hS := hS.sel (is := []) (A' := []) rfl
      exact ret1 hF rfl rfl hS ⟨rfl, rfl⟩
    · replace H := hbf hc2 H
      refine skN ?_
      refine xn ?_
      refine sq ?_
      refine rg ?_
      refine stp hF (p_fldb (o' := 138) rfl fi_40_2 rfl) (by decide) (fun a hF => ?_)
      refine stp hF (p_ldb_agg (i := 0) (l := c1 ++ [v1, (.int .i64 x1.Pool.Hand)]) (m := [v2, (.int .i64 x1.Log.Sure)]) (r := [v3, v4, (.int .i64 x1.Next), (.bool x1.Down)]) hS rfl rfl ia_36 ti_36 (by simp) (by simp [(show c1.length = 136 from Kd.len _ ((Kd.arr 8 kTPage).mono hg2 ((Kd.arr 8 kTPage).mono hg1 h1)))]) (by simp [(show c1.length = 136 from Kd.len _ ((Kd.arr 8 kTPage).mono hg2 ((Kd.arr 8 kTPage).mono hg1 h1)))])) (by decide) (fun a hF => ?_)
      refine stp hF (p_move rfl) (by decide) (fun a hF => ?_)
      obtain ⟨x5, hx3, H⟩ := hb H
      refine ste hF (e_callA (fst := []) (vs := [(.agg #[v2, (.int .i64 x1.Log.Sure)]), (.int .i64 x4)]) (cap := []) rfl rfl go_37 (St.call (A := []) (B := [pt g1 40 (c1 ++ [v1, (.int .i64 x1.Pool.Hand), v2, (.int .i64 x1.Log.Sure), v3, v4, (.int .i64 x1.Next), (.bool x1.Down)])]) hS (laws_szLog.spec k _ _ x1.Log x4 v2 ((h3.mono hg1).mono hg2) _ hx3)) rfl) (by decide) (fun v w a hR hF => ?_)
      obtain ⟨s4, A4, hg3, hS, hR⟩ := hR
      obtain ⟨hv3, rfl⟩ := hR; obtain rfl := hv3.symm
      have hS : St e s4 w [pt g1 40 (c1 ++ [v1, (.int .i64 x1.Pool.Hand), v2, (.int .i64 x1.Log.Sure), v3, v4, (.int .i64 x1.Next), (.bool x1.Down)])] := hS
      refine stp hF (p_assign rfl) (by decide) (fun a hF => ?_)
      refine nilN ?_
      refine xn ?_
      refine sq ?_
      refine sq ?_
      refine rg ?_
      refine stp hF (p_move rfl) (by decide) (fun a hF => ?_)
      refine stp hF (p_lss rfl rfl) (by decide) (fun a hF => ?_)
      refine nilN ?_
      refine xn ?_
      refine cnd hF rfl (fun hc3 => ?_) (fun hc3 => ?_)
      · replace H := hbt hc3 H
        refine sq ?_
        refine rg ?_
        refine stp hF (p_assign rfl) (by decide) (fun a hF => ?_)
        refine nilN ?_
        refine xn ?_
        refine rt ?_
        refine xr ?_
        obtain rfl := hsm H
        replace hS := hS.sel (is := []) (A' := []) rfl
        exact ret1 hF rfl rfl hS ⟨rfl, rfl⟩
      · replace H := hbf hc3 H
        refine skN ?_
        refine xn ?_
        refine sq ?_
        refine rg ?_
        refine stp hF (p_fldb (o' := 140) rfl fi_40_3 rfl) (by decide) (fun a hF => ?_)
        refine stp hF (p_ldb_one (i := 0) (v := v3) hS rfl rfl ia_37 (by simp [(show c1.length = 136 from Kd.len _ ((Kd.arr 8 kTPage).mono hg3 ((Kd.arr 8 kTPage).mono hg2 ((Kd.arr 8 kTPage).mono hg1 h1))))])) (by decide) (fun a hF => ?_)
        refine stp hF (p_move rfl) (by decide) (fun a hF => ?_)
        obtain ⟨x6, hx4, H⟩ := hb H
        refine ste hF (e_callA (fst := []) (vs := [v3, (.int .i64 x5)]) (cap := []) rfl rfl go_38 (St.call (A := []) (B := [pt g1 40 (c1 ++ [v1, (.int .i64 x1.Pool.Hand), v2, (.int .i64 x1.Log.Sure), v3, v4, (.int .i64 x1.Next), (.bool x1.Down)])]) hS (laws_szLiveS.spec k _ _ x1.Txs x5 v3 (((h4.mono hg1).mono hg2).mono hg3) _ hx4)) rfl) (by decide) (fun v w a hR hF => ?_)
        obtain ⟨s5, A5, hg4, hS, hR⟩ := hR
        obtain ⟨hv4, rfl⟩ := hR; obtain rfl := hv4.symm
        have hS : St e s5 w [pt g1 40 (c1 ++ [v1, (.int .i64 x1.Pool.Hand), v2, (.int .i64 x1.Log.Sure), v3, v4, (.int .i64 x1.Next), (.bool x1.Down)])] := hS
        refine stp hF (p_assign rfl) (by decide) (fun a hF => ?_)
        refine nilN ?_
        refine xn ?_
        refine sq ?_
        refine sq ?_
        refine rg ?_
        refine stp hF (p_move rfl) (by decide) (fun a hF => ?_)
        refine stp hF (p_lss rfl rfl) (by decide) (fun a hF => ?_)
        refine nilN ?_
        refine xn ?_
        refine cnd hF rfl (fun hc4 => ?_) (fun hc4 => ?_)
        · replace H := hbt hc4 H
          refine sq ?_
          refine rg ?_
          refine stp hF (p_assign rfl) (by decide) (fun a hF => ?_)
          refine nilN ?_
          refine xn ?_
          refine rt ?_
          refine xr ?_
          obtain rfl := hsm H
          replace hS := hS.sel (is := []) (A' := []) rfl
          exact ret1 hF rfl rfl hS ⟨rfl, rfl⟩
        · replace H := hbf hc4 H
          refine skN ?_
          refine xn ?_
          refine sq ?_
          refine rg ?_
          refine stp hF (p_fldb (o' := 141) rfl fi_40_4 rfl) (by decide) (fun a hF => ?_)
          refine stp hF (p_ldb_one (i := 0) (v := v4) hS rfl rfl ia_38 (by simp [(show c1.length = 136 from Kd.len _ ((Kd.arr 8 kTPage).mono hg4 ((Kd.arr 8 kTPage).mono hg3 ((Kd.arr 8 kTPage).mono hg2 ((Kd.arr 8 kTPage).mono hg1 h1)))))])) (by decide) (fun a hF => ?_)
          refine stp hF (p_move rfl) (by decide) (fun a hF => ?_)
          obtain ⟨x7, hx5, H⟩ := hb H
          refine ste hF (e_callA (fst := []) (vs := [v4, (.int .i64 x6)]) (cap := []) rfl rfl go_39 (St.call (A := []) (B := [pt g1 40 (c1 ++ [v1, (.int .i64 x1.Pool.Hand), v2, (.int .i64 x1.Log.Sure), v3, v4, (.int .i64 x1.Next), (.bool x1.Down)])]) hS (laws_szHoldS.spec k _ _ x1.Holds x6 v4 ((((h5.mono hg1).mono hg2).mono hg3).mono hg4) _ hx5)) rfl) (by decide) (fun v w a hR hF => ?_)
          obtain ⟨s6, A6, hg5, hS, hR⟩ := hR
          obtain ⟨hv5, rfl⟩ := hR; obtain rfl := hv5.symm
          have hS : St e s6 w [pt g1 40 (c1 ++ [v1, (.int .i64 x1.Pool.Hand), v2, (.int .i64 x1.Log.Sure), v3, v4, (.int .i64 x1.Next), (.bool x1.Down)])] := hS
          refine stp hF (p_assign rfl) (by decide) (fun a hF => ?_)
          refine nilN ?_
          refine xn ?_
          refine sq ?_
          refine sq ?_
          refine rg ?_
          refine stp hF (p_move rfl) (by decide) (fun a hF => ?_)
          refine stp hF (p_lss rfl rfl) (by decide) (fun a hF => ?_)
          refine nilN ?_
          refine xn ?_
          refine cnd hF rfl (fun hc5 => ?_) (fun hc5 => ?_)
          · replace H := hbt hc5 H
            refine sq ?_
            refine rg ?_
            refine stp hF (p_assign rfl) (by decide) (fun a hF => ?_)
            refine nilN ?_
            refine xn ?_
            refine rt ?_
            refine xr ?_
            obtain rfl := hsm H
            replace hS := hS.sel (is := []) (A' := []) rfl
            exact ret1 hF rfl rfl hS ⟨rfl, rfl⟩
          · replace H := hbf hc5 H
            refine skN ?_
            refine xn ?_
            refine sq ?_
            refine rg ?_
            refine stp hF (p_move rfl) (by decide) (fun a hF => ?_)
            refine stp hF (p_assign rfl) (by decide) (fun a hF => ?_)
            refine nilN ?_
            refine xn ?_
            refine rt ?_
            obtain rfl := hsm H
            replace hS := hS.sel (is := []) (A' := []) rfl
            exact ret1 hF rfl rfl hS ⟨rfl, rfl⟩

def laws_toIntS.c1 (k : Nat) (x1 : (List Int)) : Option (List Int) :=
  (some x1)
def laws_toIntS.l1 (x2 : (List Int)) : Nat → (List Int) → Int → Option (List Int)
  | 0, _, _ => none
  | k + 1, x3, x4 => (if (decide (x4 < (x2.length : Int))) = true then (if 0 ≤ x4 ∧ x4 < (x2.length : Int) then (if 0 ≤ x4 ∧ x4 < (x3.length : Int) then ((laws_toIntS.l1 x2 k) (wr x3 x4 (rd x2 x4)) (w64 (x4 + 1))) else none) else none) else (some x3))
def laws_toIntS.f (k : Nat) (x2 : (List Int)) : Option (List Int) :=
  (if 0 ≤ (x2.length : Int) ∧ (x2.length : Int) * 8 ≤ 140737488355328 then (((laws_toIntS.l1 x2 k (List.replicate (x2.length : Int).toNat 0) 0) : Option (List Int)).bind fun x5 => laws_toIntS.c1 k x5) else none)
set_option maxRecDepth 100000 in
set_option maxHeartbeats 4000000 in
theorem laws_toIntS.spec (k : Nat) (s0 : HF) (w : World) (x2 : (List Int)) (v1 : Value) (h1 : Sl (Kd.int .i64) s0 v1 x2) (r : (List Int)) (H : laws_toIntS.f k x2 = some r) :
    Law Tryz.prog 309 #[v1] s0 w [] (fun v s1 A1 => ∃ (u0 : Value), v = u0 ∧ A1 = [Ow (Kd.int .i64) 3 u0 r]) := by
  unfold laws_toIntS.f at H
  refine Law.intro Tryz.func309 rfl [(0, v1)] (Nat.le_of_ble_eq_true rfl) (enter_lk ⟨rfl, trivial⟩) (fun e a hS hF => ?_)
  have hF : Fr 22 a [(0, v1)] := hF
  refine sq ?_
  refine rg ?_
  refine stp hF (p_assign rfl) (by decide) (fun a hF => ?_)
  refine nilN ?_
  refine xn ?_
  refine sq ?_
  refine rg ?_
  refine stp hF (p_move rfl) (by decide) (fun a hF => ?_)
  refine stp hF (p_lenr un_22 rfl h1) (by decide) (fun a hF => ?_)
  obtain ⟨hq1, H⟩ := hck H
  refine ste hF (e_make (kd := (Kd.int .i64)) (x0 := 0) (c := [(.int .i64 0)]) hS rfl rfl un_22 ti_3 rfl rfl hq1.1 (by decide) hq1.2) (by decide) (fun v2 w a hR hF => ?_)
  have hS : St e s0 w [Ow (Kd.int .i64) 3 v2 (List.replicate (x2.length : Int).toNat 0)] := hR
  refine stp hF (p_assign rfl) (by decide) (fun a hF => ?_)
  refine nilN ?_
  refine xn ?_
  obtain ⟨x5, H, HK1⟩ := hb H
  refine sqj (fun a w => ∃ (x1 : (List Int)) , St e s0 w [Ow (Kd.int .i64) 3 v2 x1] ∧ Fr 22 a [(3, v2)] ∧ laws_toIntS.c1 k x1 = some r) ?_ ?_
  · skip
    refine sq ?_
    refine rg ?_
    refine stp hF (p_assign rfl) (by decide) (fun a hF => ?_)
    refine nilN ?_
    refine xn ?_
    refine blk ?_
    refine loop_ind (fun k1 a w => ∃ (x3 : (List Int)) (x4 : Int) , St e s0 w [Ow (Kd.int .i64) 3 v2 x3] ∧ Fr 22 a [(0, v1), (3, v2), (4, (.int .i64 x4))] ∧ laws_toIntS.l1 x2 k1 x3 x4 = some x5) k ?_ ?_ ?_
    · skip
      exact ⟨(List.replicate (x2.length : Int).toNat 0), 0, hS, hF.cut ⟨rfl, rfl, rfl, trivial⟩, H⟩
    · clear H hS hF
      rintro a w ⟨x3, x4, hS, hF, H⟩
      exact absurd (show none = some _ from H) (by simp)
    · clear H hS hF
      rintro k1 a w ⟨x3, x4, hS, hF, H⟩
      rw [laws_toIntS.l1.eq_2] at H
      refine sq ?_
      refine sq ?_
      refine rg ?_
      refine stp hF (p_move rfl) (by decide) (fun a hF => ?_)
      refine stp hF (p_move rfl) (by decide) (fun a hF => ?_)
      refine stp hF (p_lenr un_22 rfl h1) (by decide) (fun a hF => ?_)
      refine stp hF (p_lss rfl rfl) (by decide) (fun a hF => ?_)
      refine nilN ?_
      refine xn ?_
      refine cnd hF rfl (fun hc1 => ?_) (fun hc1 => ?_)
      · replace H := hbt hc1 H
        refine skN ?_
        refine xn ?_
        refine sq ?_
        refine blk ?_
        refine rg ?_
        refine stp hF (p_move rfl) (by decide) (fun a hF => ?_)
        refine stp hF (p_move rfl) (by decide) (fun a hF => ?_)
        refine stp hF (p_move rfl) (by decide) (fun a hF => ?_)
        refine stp hF (p_move rfl) (by decide) (fun a hF => ?_)
        obtain ⟨hq2, H⟩ := hck H
        obtain ⟨ad1, h2, p1⟩ := p_idxr (P := Tryz.prog) (i := x4) h1 un_22 ti_3 hq2.1 hq2.2
        refine stp hF (p1 rfl rfl) (by decide) (fun a hF => ?_)
        refine stp hF (p_ldr_int rfl hS h2 ia_3) (by decide) (fun a hF => ?_)
        obtain ⟨hq3, H⟩ := hck H
        obtain ⟨b1, o1, q1, hv1, p2⟩ := p_idxo (n := 0) (i := x4) hS rfl un_22 ti_3 hq3.1 hq3.2
        refine stp hF (p2 rfl rfl) (by decide) (fun a hF => ?_)
        refine ste0 hF (e_sto (n := 0) (c := rd x2 x4) hS rfl hv1 (Lens.id _) hq3.1 hq3.2 rfl rfl rfl ti_3 rfl rfl) (fun v w a hR hF => ?_)
        have hS : St e s0 w [Ow (Kd.int .i64) 3 v2 (wr x3 x4 (rd x2 x4))] := hR
        refine nilN ?_
        refine bn (xn ?_)
        refine rg ?_
        refine stp hF (p_move rfl) (by decide) (fun a hF => ?_)
        refine stp hF (p_add (c := w64 (x4 + 1)) rfl rfl rfl) (by decide) (fun a hF => ?_)
        refine stp hF (p_assign rfl) (by decide) (fun a hF => ?_)
        refine nilN ?_
        refine xn ?_
        exact ⟨(wr x3 x4 (rd x2 x4)), (w64 (x4 + 1)), hS, hF.cut ⟨rfl, rfl, rfl, trivial⟩, H⟩
      · replace H := hbf hc1 H
        refine exi ?_
        refine xe (xe (hit (xn ?_)))
        obtain rfl := hsm H
        exact ⟨x3, hS, hF.cut ⟨rfl, trivial⟩, HK1⟩
  · clear H HK1 hS hF
    rintro a w ⟨x1, hS, hF, H⟩
    unfold laws_toIntS.c1 at H
    refine sq ?_
    refine rg ?_
    refine stp hF (p_move rfl) (by decide) (fun a hF => ?_)
    refine stp hF (p_assign rfl) (by decide) (fun a hF => ?_)
    refine nilN ?_
    refine xn ?_
    refine rt ?_
    obtain rfl := hsm H
    exact ret1 hF rfl rfl hS ⟨v2, rfl, rfl⟩

def laws_toObj.f (k : Nat) (x1 : TObj) : Option TObj :=
  ((laws_toIntS.f k x1.Ints).bind fun x2 => ((laws_toIntS.f k x1.Refs).bind fun x3 => (some (⟨x1.Kind, x2, x3⟩ : TObj))))
set_option maxRecDepth 100000 in
set_option maxHeartbeats 4000000 in
theorem laws_toObj.spec (k : Nat) (s0 : HF) (w : World) (x1 : TObj) (v1 : Value) (v2 : Value) (h1 : Sl (Kd.int .i64) s0 v1 x1.Ints) (h2 : Sl (Kd.int .i64) s0 v2 x1.Refs) (r : TObj) (H : laws_toObj.f k x1 = some r) :
    Law Tryz.prog 288 #[(.agg #[(.int .i64 x1.Kind), v1, v2])] s0 w [] (fun v s1 A1 => ∃ (u0 : Value) (u1 : Value), v = (.agg #[(.int .i64 r.Kind), u0, u1]) ∧ A1 = [Ow (Kd.int .i64) 3 u0 r.Ints, Ow (Kd.int .i64) 3 u1 r.Refs]) := by
  unfold laws_toObj.f at H
  refine Law.intro Tryz.func288 rfl [(0, (.agg #[(.int .i64 x1.Kind), v1, v2]))] (Nat.le_of_ble_eq_true rfl) (enter_lk ⟨rfl, trivial⟩) (fun e a hS hF => ?_)
  have hF : Fr 16 a [(0, (.agg #[(.int .i64 x1.Kind), v1, v2]))] := hF
  refine sq ?_
  refine rg ?_
  refine ste hF (e_box (cs := [(.int .i64 x1.Kind), v1, v2]) hS rfl rfl) (by decide) (fun v w a hR hF => ?_)
  obtain ⟨g1, rfl, hS⟩ := hR
  refine ste hF (e_alloc (cs := [(.int .i64 0), (.slice none 0 0), (.slice none 0 0)]) hS ti_43 rfl) (by decide) (fun v w a hR hF => ?_)
  obtain ⟨g2, rfl, hS⟩ := hR
  refine nilN ?_
  refine xn ?_
  refine sq ?_
  refine rg ?_
  refine ste hF (e_alloc (cs := [(.int .i64 0), (.slice none 0 0), (.slice none 0 0)]) hS ti_43 rfl) (by decide) (fun v w a hR hF => ?_)
  obtain ⟨g3, rfl, hS⟩ := hR
  refine nilN ?_
  refine xn ?_
  refine sq ?_
  refine rg ?_
  refine stp hF (p_fldb (o' := 0) rfl fi_24_0 rfl) (by decide) (fun a hF => ?_)
  refine stp hF (p_ldb_one (i := 2) hS rfl rfl ia_3 rfl) (by decide) (fun a hF => ?_)
  refine stp hF (p_fldb (o' := 0) rfl fi_43_0 rfl) (by decide) (fun a hF => ?_)
  refine ste0 hF (e_stb (i := 0) (l := []) (m := [(.int .i64 0)]) (r := [(.slice none 0 0), (.slice none 0 0)]) (m' := [(.int .i64 x1.Kind)]) (cs' := [(.int .i64 x1.Kind), (.slice none 0 0), (.slice none 0 0)]) hS rfl rfl rfl ti_3 rfl rfl rfl rfl rfl (one_cons rfl one_nil) rfl) (fun v w a hR hF => ?_)
  have hS : St e s0 w [pt g3 43 ([(.int .i64 x1.Kind), (.slice none 0 0), (.slice none 0 0)]), pt g2 43 ([(.int .i64 0), (.slice none 0 0), (.slice none 0 0)]), pt g1 24 ([(.int .i64 x1.Kind), v1, v2])] := hR
  refine nilN ?_
  refine xn ?_
  refine sq ?_
  refine rg ?_
  refine stp hF (p_fldb (o' := 1) rfl fi_24_1 rfl) (by decide) (fun a hF => ?_)
  refine stp hF (p_ldb_one (i := 2) hS rfl rfl ia_22 rfl) (by decide) (fun a hF => ?_)
  obtain ⟨x2, hx1, H⟩ := hb H
  refine ste hF (e_callA (fst := []) (vs := [v1]) (cap := []) rfl rfl go_309 (St.call (A := []) (B := [pt g3 43 ([(.int .i64 x1.Kind), (.slice none 0 0), (.slice none 0 0)]), pt g2 43 ([(.int .i64 0), (.slice none 0 0), (.slice none 0 0)]), pt g1 24 ([(.int .i64 x1.Kind), v1, v2])]) hS (laws_toIntS.spec k _ _ x1.Ints v1 h1 _ hx1)) rfl) (by decide) (fun v w a hR hF => ?_)
  obtain ⟨s2, A2, hg1, hS, hR⟩ := hR
  obtain ⟨v3, hv1, rfl⟩ := hR; obtain rfl := hv1.symm
  have hS : St e s2 w [Ow (Kd.int .i64) 3 v3 x2, pt g3 43 ([(.int .i64 x1.Kind), (.slice none 0 0), (.slice none 0 0)]), pt g2 43 ([(.int .i64 0), (.slice none 0 0), (.slice none 0 0)]), pt g1 24 ([(.int .i64 x1.Kind), v1, v2])] := hS
  refine stp hF (p_fldb (o' := 1) rfl fi_43_1 rfl) (by decide) (fun a hF => ?_)
  refine ste0 hF (e_stb (i := 1) (l := [(.int .i64 x1.Kind)]) (m := [(.slice none 0 0)]) (r := [(.slice none 0 0)]) (m' := [v3]) (cs' := [(.int .i64 x1.Kind), v3, (.slice none 0 0)]) hS rfl rfl rfl ti_22 rfl rfl rfl (cells_one (hS.one_ow (i := 0) rfl)) rfl (one_cons (hS.one_ow (i := 0) rfl) one_nil) rfl) (fun v w a hR hF => ?_)
  have hS : St e s2 w [pt g3 43 ([(.int .i64 x1.Kind), v3, (.slice none 0 0)]), Ow (Kd.int .i64) 3 v3 x2, pt g2 43 ([(.int .i64 0), (.slice none 0 0), (.slice none 0 0)]), pt g1 24 ([(.int .i64 x1.Kind), v1, v2])] := hR
  refine nilN ?_
  refine xn ?_
  refine sq ?_
  refine rg ?_
  refine stp hF (p_fldb (o' := 2) rfl fi_24_2 rfl) (by decide) (fun a hF => ?_)
  refine stp hF (p_ldb_one (i := 3) hS rfl rfl ia_22 rfl) (by decide) (fun a hF => ?_)
  obtain ⟨x3, hx2, H⟩ := hb H
  refine ste hF (e_callA (fst := []) (vs := [v2]) (cap := []) rfl rfl go_309 (St.call (A := []) (B := [pt g3 43 ([(.int .i64 x1.Kind), v3, (.slice none 0 0)]), Ow (Kd.int .i64) 3 v3 x2, pt g2 43 ([(.int .i64 0), (.slice none 0 0), (.slice none 0 0)]), pt g1 24 ([(.int .i64 x1.Kind), v1, v2])]) hS (laws_toIntS.spec k _ _ x1.Refs v2 (h2.mono hg1) _ hx2)) rfl) (by decide) (fun v w a hR hF => ?_)
  obtain ⟨s3, A3, hg2, hS, hR⟩ := hR
  obtain ⟨v4, hv2, rfl⟩ := hR; obtain rfl := hv2.symm
  have hS : St e s3 w [Ow (Kd.int .i64) 3 v4 x3, pt g3 43 ([(.int .i64 x1.Kind), v3, (.slice none 0 0)]), Ow (Kd.int .i64) 3 v3 x2, pt g2 43 ([(.int .i64 0), (.slice none 0 0), (.slice none 0 0)]), pt g1 24 ([(.int .i64 x1.Kind), v1, v2])] := hS
  refine stp hF (p_fldb (o' := 2) rfl fi_43_2 rfl) (by decide) (fun a hF => ?_)
  refine ste0 hF (e_stb (i := 1) (l := [(.int .i64 x1.Kind), v3]) (m := [(.slice none 0 0)]) (r := []) (m' := [v4]) (cs' := [(.int .i64 x1.Kind), v3, v4]) hS rfl rfl rfl ti_22 rfl rfl rfl (cells_one (hS.one_ow (i := 0) rfl)) rfl (one_cons (hS.one_ow (i := 0) rfl) one_nil) rfl) (fun v w a hR hF => ?_)
  have hS : St e s3 w [pt g3 43 ([(.int .i64 x1.Kind), v3, v4]), Ow (Kd.int .i64) 3 v4 x3, Ow (Kd.int .i64) 3 v3 x2, pt g2 43 ([(.int .i64 0), (.slice none 0 0), (.slice none 0 0)]), pt g1 24 ([(.int .i64 x1.Kind), v1, v2])] := hR
  refine nilN ?_
  refine xn ?_
  refine sq ?_
  refine rg ?_
  refine stp hF (p_ldb_agg (i := 0) (l := []) (m := [(.int .i64 x1.Kind), v3, v4]) (r := []) hS rfl rfl ia_43 ti_43 rfl rfl rfl) (by decide) (fun a hF => ?_)
  refine ste0 hF (e_stb (i := 3) (l := []) (m := [(.int .i64 0), (.slice none 0 0), (.slice none 0 0)]) (r := []) (m' := [(.int .i64 x1.Kind), v3, v4]) (cs' := [(.int .i64 x1.Kind), v3, v4]) hS rfl rfl rfl ti_43 rfl rfl rfl rfl rfl (one_cons rfl (one_cons (hS.one_ow (i := 2) rfl) (one_cons (hS.one_ow (i := 1) rfl) one_nil))) rfl) (fun v w a hR hF => ?_)
  have hS : St e s3 w [pt g2 43 ([(.int .i64 x1.Kind), v3, v4]), pt g3 43 ([(.int .i64 x1.Kind), v3, v4]), Ow (Kd.int .i64) 3 v4 x3, Ow (Kd.int .i64) 3 v3 x2, pt g1 24 ([(.int .i64 x1.Kind), v1, v2])] := hR
  refine nilN ?_
  refine xn ?_
  refine rt ?_
  obtain rfl := hsm H
  have h3 : RvOk Tryz.prog _ w (.cell 2 43) _ := rvC (i := 0) hS rfl (show lk [(2, (.pointer (some ⟨g2, 0, none⟩)))] 2 = _ from rfl) ia_43 ti_43 rfl
  replace hS := hS.sel (is := [3, 2]) (A' := [Ow (Kd.int .i64) 3 v3 x2, Ow (Kd.int .i64) 3 v4 x3]) rfl
  exact retc1 hF rfl h3 hS ⟨v3, v4, rfl, rfl⟩

def laws_toSlot.f (k : Nat) (x1 : TSlot) : Option TSlot :=
  ((laws_toObj.f k x1.O).bind fun x2 => (some (⟨x1.Has, (⟨x2.Kind, x2.Ints, x2.Refs⟩ : TObj)⟩ : TSlot)))
set_option maxRecDepth 100000 in
set_option maxHeartbeats 4000000 in
theorem laws_toSlot.spec (k : Nat) (s0 : HF) (w : World) (x1 : TSlot) (v1 : Value) (v2 : Value) (h1 : Sl (Kd.int .i64) s0 v1 x1.O.Ints) (h2 : Sl (Kd.int .i64) s0 v2 x1.O.Refs) (r : TSlot) (H : laws_toSlot.f k x1 = some r) :
    Law Tryz.prog 253 #[(.agg #[(.bool x1.Has), (.int .i64 x1.O.Kind), v1, v2])] s0 w [] (fun v s1 A1 => ∃ (u0 : Value) (u1 : Value), v = (.agg #[(.bool r.Has), (.int .i64 r.O.Kind), u0, u1]) ∧ A1 = [Ow (Kd.int .i64) 3 u0 r.O.Ints, Ow (Kd.int .i64) 3 u1 r.O.Refs]) := by
  unfold laws_toSlot.f at H
  refine Law.intro Tryz.func253 rfl [(0, (.agg #[(.bool x1.Has), (.int .i64 x1.O.Kind), v1, v2]))] (Nat.le_of_ble_eq_true rfl) (enter_lk ⟨rfl, trivial⟩) (fun e a hS hF => ?_)
  have hF : Fr 12 a [(0, (.agg #[(.bool x1.Has), (.int .i64 x1.O.Kind), v1, v2]))] := hF
  refine sq ?_
  refine rg ?_
  refine ste hF (e_box (cs := [(.bool x1.Has), (.int .i64 x1.O.Kind), v1, v2]) hS rfl rfl) (by decide) (fun v w a hR hF => ?_)
  obtain ⟨g1, rfl, hS⟩ := hR
  refine ste hF (e_alloc (cs := [(.bool false), (.int .i64 0), (.slice none 0 0), (.slice none 0 0)]) hS ti_45 rfl) (by decide) (fun v w a hR hF => ?_)
  obtain ⟨g2, rfl, hS⟩ := hR
  refine nilN ?_
  refine xn ?_
  refine sq ?_
  refine rg ?_
  refine ste hF (e_alloc (cs := [(.bool false), (.int .i64 0), (.slice none 0 0), (.slice none 0 0)]) hS ti_45 rfl) (by decide) (fun v w a hR hF => ?_)
  obtain ⟨g3, rfl, hS⟩ := hR
  refine nilN ?_
  refine xn ?_
  refine sq ?_
  refine rg ?_
  refine stp hF (p_fldb (o' := 0) rfl fi_26_0 rfl) (by decide) (fun a hF => ?_)
  refine stp hF (p_ldb_one (i := 2) hS rfl rfl ia_4 rfl) (by decide) (fun a hF => ?_)
  refine stp hF (p_fldb (o' := 0) rfl fi_45_0 rfl) (by decide) (fun a hF => ?_)
  refine ste0 hF (e_stb (i := 0) (l := []) (m := [(.bool false)]) (r := [(.int .i64 0), (.slice none 0 0), (.slice none 0 0)]) (m' := [(.bool x1.Has)]) (cs' := [(.bool x1.Has), (.int .i64 0), (.slice none 0 0), (.slice none 0 0)]) hS rfl rfl rfl ti_4 rfl rfl rfl rfl rfl (one_cons rfl one_nil) rfl) (fun v w a hR hF => ?_)
  have hS : St e s0 w [pt g3 45 ([(.bool x1.Has), (.int .i64 0), (.slice none 0 0), (.slice none 0 0)]), pt g2 45 ([(.bool false), (.int .i64 0), (.slice none 0 0), (.slice none 0 0)]), pt g1 26 ([(.bool x1.Has), (.int .i64 x1.O.Kind), v1, v2])] := hR
  refine nilN ?_
  refine xn ?_
  refine sq ?_
  refine rg ?_
  refine stp hF (p_fldb (o' := 1) rfl fi_26_1 rfl) (by decide) (fun a hF => ?_)
  refine stp hF (p_ldb_agg (i := 2) (l := [(.bool x1.Has)]) (m := [(.int .i64 x1.O.Kind), v1, v2]) (r := []) hS rfl rfl ia_24 ti_24 rfl rfl rfl) (by decide) (fun a hF => ?_)
  obtain ⟨x2, hx1, H⟩ := hb H
  refine ste hF (e_callA (fst := []) (vs := [(.agg #[(.int .i64 x1.O.Kind), v1, v2])]) (cap := []) rfl rfl go_288 (St.call (A := []) (B := [pt g3 45 ([(.bool x1.Has), (.int .i64 0), (.slice none 0 0), (.slice none 0 0)]), pt g2 45 ([(.bool false), (.int .i64 0), (.slice none 0 0), (.slice none 0 0)]), pt g1 26 ([(.bool x1.Has), (.int .i64 x1.O.Kind), v1, v2])]) hS (laws_toObj.spec k _ _ x1.O v1 v2 h1 h2 _ hx1)) rfl) (by decide) (fun v w a hR hF => ?_)
  obtain ⟨s2, A2, hg1, hS, hR⟩ := hR
  obtain ⟨v3, v4, hv1, rfl⟩ := hR; obtain rfl := hv1.symm
  have hS : St e s2 w [Ow (Kd.int .i64) 3 v3 x2.Ints, Ow (Kd.int .i64) 3 v4 x2.Refs, pt g3 45 ([(.bool x1.Has), (.int .i64 0), (.slice none 0 0), (.slice none 0 0)]), pt g2 45 ([(.bool false), (.int .i64 0), (.slice none 0 0), (.slice none 0 0)]), pt g1 26 ([(.bool x1.Has), (.int .i64 x1.O.Kind), v1, v2])] := hS
  refine stp hF (p_fldb (o' := 1) rfl fi_45_1 rfl) (by decide) (fun a hF => ?_)
  refine ste0 hF (e_stb (i := 2) (l := [(.bool x1.Has)]) (m := [(.int .i64 0), (.slice none 0 0), (.slice none 0 0)]) (r := []) (m' := [(.int .i64 x2.Kind), v3, v4]) (cs' := [(.bool x1.Has), (.int .i64 x2.Kind), v3, v4]) hS rfl rfl rfl ti_43 rfl rfl rfl rfl rfl (one_cons rfl (one_cons (hS.one_ow (i := 0) rfl) (one_cons (hS.one_ow (i := 1) rfl) one_nil))) rfl) (fun v w a hR hF => ?_)
  have hS : St e s2 w [pt g3 45 ([(.bool x1.Has), (.int .i64 x2.Kind), v3, v4]), Ow (Kd.int .i64) 3 v3 x2.Ints, Ow (Kd.int .i64) 3 v4 x2.Refs, pt g2 45 ([(.bool false), (.int .i64 0), (.slice none 0 0), (.slice none 0 0)]), pt g1 26 ([(.bool x1.Has), (.int .i64 x1.O.Kind), v1, v2])] := hR
  refine nilN ?_
  refine xn ?_
  refine sq ?_
  refine rg ?_
  refine stp hF (p_ldb_agg (i := 0) (l := []) (m := [(.bool x1.Has), (.int .i64 x2.Kind), v3, v4]) (r := []) hS rfl rfl ia_45 ti_45 rfl rfl rfl) (by decide) (fun a hF => ?_)
  refine ste0 hF (e_stb (i := 3) (l := []) (m := [(.bool false), (.int .i64 0), (.slice none 0 0), (.slice none 0 0)]) (r := []) (m' := [(.bool x1.Has), (.int .i64 x2.Kind), v3, v4]) (cs' := [(.bool x1.Has), (.int .i64 x2.Kind), v3, v4]) hS rfl rfl rfl ti_45 rfl rfl rfl rfl rfl (one_cons rfl (one_cons rfl (one_cons (hS.one_ow (i := 1) rfl) (one_cons (hS.one_ow (i := 2) rfl) one_nil)))) rfl) (fun v w a hR hF => ?_)
  have hS : St e s2 w [pt g2 45 ([(.bool x1.Has), (.int .i64 x2.Kind), v3, v4]), pt g3 45 ([(.bool x1.Has), (.int .i64 x2.Kind), v3, v4]), Ow (Kd.int .i64) 3 v3 x2.Ints, Ow (Kd.int .i64) 3 v4 x2.Refs, pt g1 26 ([(.bool x1.Has), (.int .i64 x1.O.Kind), v1, v2])] := hR
  refine nilN ?_
  refine xn ?_
  refine rt ?_
  obtain rfl := hsm H
  have h3 : RvOk Tryz.prog _ w (.cell 2 45) _ := rvC (i := 0) hS rfl (show lk [(2, (.pointer (some ⟨g2, 0, none⟩)))] 2 = _ from rfl) ia_45 ti_45 rfl
  replace hS := hS.sel (is := [2, 2]) (A' := [Ow (Kd.int .i64) 3 v3 x2.Ints, Ow (Kd.int .i64) 3 v4 x2.Refs]) rfl
  exact retc1 hF rfl h3 hS ⟨v3, v4, rfl, rfl⟩

def laws_toSlotA4.c1 (k : Nat) (x1 : (List TSlot)) : Option (List TSlot) :=
  (some x1)
def laws_toSlotA4.l1 (x2 : (List TSlot)) : Nat → (List TSlot) → Int → Option (List TSlot)
  | 0, _, _ => none
  | k + 1, x3, x4 => (if (decide (x4 < 4)) = true then (if 0 ≤ x4 ∧ x4 < 4 then ((laws_toSlot.f k (rd x2 x4)).bind fun x5 => (if 0 ≤ x4 ∧ x4 < 4 then ((laws_toSlotA4.l1 x2 k) (wr x3 x4 (⟨x5.Has, (⟨x5.O.Kind, x5.O.Ints, x5.O.Refs⟩ : TObj)⟩ : TSlot)) (w64 (x4 + 1))) else none)) else none) else (some x3))
def laws_toSlotA4.f (k : Nat) (x2 : (List TSlot)) : Option (List TSlot) :=
  (((laws_toSlotA4.l1 x2 k zv_46 0) : Option (List TSlot)).bind fun x6 => laws_toSlotA4.c1 k x6)
set_option maxRecDepth 100000 in
set_option maxHeartbeats 4000000 in
theorem laws_toSlotA4.spec (k : Nat) (s0 : HF) (w : World) (x2 : (List TSlot)) (c2 : List Value) (h1 : ((Kd.arr 4 kTSlot)).K s0 x2 c2) (r : (List TSlot)) (H : laws_toSlotA4.f k x2 = some r) :
    Law Tryz.prog 204 #[(.agg c2.toArray)] s0 w [] (fun v s1 A1 => ∃ (u0 : List Value), v = (.agg u0.toArray) ∧ A1 = [] ∧ ((Kd.arr 4 kTSlot)).K s1 r u0) := by
  unfold laws_toSlotA4.f at H
  refine Law.intro Tryz.func204 rfl [(0, (.agg c2.toArray))] (Nat.le_of_ble_eq_true rfl) (enter_lk ⟨rfl, trivial⟩) (fun e a hS hF => ?_)
  have hF : Fr 16 a [(0, (.agg c2.toArray))] := hF
  refine sq ?_
  refine rg ?_
  refine ste hF (e_box (cs := c2) hS rfl rfl) (by decide) (fun v w a hR hF => ?_)
  obtain ⟨g1, rfl, hS⟩ := hR
  refine ste hF (e_alloc (cs := za_46) hS ti_46 rfl) (by decide) (fun v w a hR hF => ?_)
  obtain ⟨g2, rfl, hS⟩ := hR
  refine nilN ?_
  refine xn ?_
  refine sq ?_
  refine rg ?_
  refine ste hF (e_alloc (cs := za_46) hS ti_46 rfl) (by decide) (fun v w a hR hF => ?_)
  obtain ⟨g3, rfl, hS⟩ := hR
  refine nilN ?_
  refine xn ?_
  obtain ⟨x6, H, HK1⟩ := hb H
  refine sqj (fun a w => ∃ (x1 : (List TSlot)) (s2 : HF) (c3 : List Value) , St e s2 w [pt g3 46 (c3), pt g2 46 (za_46), pt g1 27 (c2)] ∧ Fr 16 a [(2, (.pointer (some ⟨g2, 0, none⟩))), (3, (.pointer (some ⟨g3, 0, none⟩)))] ∧ Sub s0 s2 ∧ ((Kd.arr 4 kTSlot)).K s2 x1 c3 ∧ laws_toSlotA4.c1 k x1 = some r) ?_ ?_
  · skip
    refine sq ?_
    refine rg ?_
    refine stp hF (p_assign rfl) (by decide) (fun a hF => ?_)
    refine nilN ?_
    refine xn ?_
    refine blk ?_
    refine loop_ind (fun k1 a w => ∃ (x3 : (List TSlot)) (x4 : Int) (s3 : HF) (c4 : List Value) , St e s3 w [pt g3 46 (c4), pt g2 46 (za_46), pt g1 27 (c2)] ∧ Fr 16 a [(1, (.pointer (some ⟨g1, 0, none⟩))), (2, (.pointer (some ⟨g2, 0, none⟩))), (3, (.pointer (some ⟨g3, 0, none⟩))), (4, (.int .i64 x4))] ∧ Sub s0 s3 ∧ ((Kd.arr 4 kTSlot)).K s3 x3 c4 ∧ laws_toSlotA4.l1 x2 k1 x3 x4 = some x6) k ?_ ?_ ?_
    · skip
      exact ⟨zv_46, 0, s0, za_46, hS, hF.cut ⟨rfl, rfl, rfl, rfl, trivial⟩, (Sub.refl _), (zk_46 s0), H⟩
    · clear H hS hF
      rintro a w ⟨x3, x4, s3, c4, hS, hF, hg1, h2, H⟩
      exact absurd (show none = some _ from H) (by simp)
    · clear H hS hF
      rintro k1 a w ⟨x3, x4, s3, c4, hS, hF, hg1, h2, H⟩
      rw [laws_toSlotA4.l1.eq_2] at H
      refine sq ?_
      refine sq ?_
      refine rg ?_
      refine stp hF (p_move rfl) (by decide) (fun a hF => ?_)
      refine stp hF (p_lss rfl rfl) (by decide) (fun a hF => ?_)
      refine nilN ?_
      refine xn ?_
      refine cnd hF rfl (fun hc1 => ?_) (fun hc1 => ?_)
      · replace H := hbt hc1 H
        refine skN ?_
        refine xn ?_
        refine sq ?_
        refine blk ?_
        refine rg ?_
        refine stp hF (p_move rfl) (by decide) (fun a hF => ?_)
        refine stp hF (p_move rfl) (by decide) (fun a hF => ?_)
        obtain ⟨hq1, H⟩ := hck H
        refine stp hF (p_idxb rfl rfl un_27 ti_26 hq1.1 hq1.2) (by decide) (fun a hF => ?_)
        obtain ⟨c5, h3, p1⟩ := p_ldba_agg (P := Tryz.prog) (T := 27) (b := g1) (all := c2) (l := []) (cs := c2) (r := []) (base := 0) (by simp) ((Kd.arr 4 kTSlot).mono hg1 h1) (Lens.idx 4 kTSlot x4 hq1.1 hq1.2) rfl rfl ia_26 ti_26
        obtain ⟨v1, v2, rfl, h4, h5⟩ := kTSlot_open h3
        refine stp hF (p1 (n := 2) hS rfl rfl) (by decide) (fun a hF => ?_)
        obtain ⟨x5, hx1, H⟩ := hb H
        refine ste hF (e_callA (fst := []) (vs := [(.agg #[(.bool ((rd x2 x4).Has)), (.int .i64 (((rd x2 x4).O).Kind)), v1, v2])]) (cap := []) rfl rfl go_253 (St.call (A := []) (B := [pt g3 46 (c4), pt g2 46 (za_46), pt g1 27 (c2)]) hS (laws_toSlot.spec k1 _ _ (rd x2 x4) v1 v2 h4 h5 _ hx1)) rfl) (by decide) (fun v w a hR hF => ?_)
        obtain ⟨s4, A2, hg2, hS, hR⟩ := hR
        obtain ⟨v3, v4, hv1, rfl⟩ := hR; obtain rfl := hv1.symm
        have hS : St e s4 w [Ow (Kd.int .i64) 3 v3 x5.O.Ints, Ow (Kd.int .i64) 3 v4 x5.O.Refs, pt g3 46 (c4), pt g2 46 (za_46), pt g1 27 (c2)] := hS
        obtain ⟨hq2, H⟩ := hck H
        refine stp hF (p_idxb rfl rfl un_46 ti_45 hq2.1 hq2.2) (by decide) (fun a hF => ?_)
        obtain ⟨s5, hg3, h6, hS⟩ := hS.freeze (i := 0) (kd := (Kd.int .i64)) (et := 3) (v := v3) (xs := x5.O.Ints) (B := [Ow (Kd.int .i64) 3 v4 x5.O.Refs, pt g3 46 (c4), pt g2 46 (za_46), pt g1 27 (c2)]) rfl
        obtain ⟨s6, hg4, h7, hS⟩ := hS.freeze (i := 0) (kd := (Kd.int .i64)) (et := 3) (v := v4) (xs := x5.O.Refs) (B := [pt g3 46 (c4), pt g2 46 (za_46), pt g1 27 (c2)]) rfl
        refine ste0 hF (e_stba (n := 0) (l := []) (cs := c4) (r := []) (base := 0) (y0 := (⟨x5.Has, (⟨x5.O.Kind, x5.O.Ints, x5.O.Refs⟩ : TObj)⟩ : TSlot)) hS rfl (by simp) ((Kd.arr 4 kTSlot).mono hg4 ((Kd.arr 4 kTSlot).mono hg3 ((Kd.arr 4 kTSlot).mono hg2 h2))) (Lens.idx 4 kTSlot x4 hq2.1 hq2.2) rfl rfl rfl rfl ti_45 rfl (kTSlot_mk (x := (⟨x5.Has, (⟨x5.O.Kind, x5.O.Ints, x5.O.Refs⟩ : TObj)⟩ : TSlot)) (h6.mono hg4) h7)) (fun v w a hR hF => ?_)
        obtain ⟨c6, h8, hS⟩ := hR
        replace h8 : ((Kd.arr 4 kTSlot)).K s6 (wr x3 x4 (⟨x5.Has, (⟨x5.O.Kind, x5.O.Ints, x5.O.Refs⟩ : TObj)⟩ : TSlot)) c6 := h8
        replace hS : St e s6 w [pt g3 46 (c6), pt g2 46 (za_46), pt g1 27 (c2)] := (by simpa using hS)
        refine nilN ?_
        refine bn (xn ?_)
        refine rg ?_
        refine stp hF (p_move rfl) (by decide) (fun a hF => ?_)
        refine stp hF (p_add (c := w64 (x4 + 1)) rfl rfl rfl) (by decide) (fun a hF => ?_)
        refine stp hF (p_assign rfl) (by decide) (fun a hF => ?_)
        refine nilN ?_
        refine xn ?_
        exact ⟨(wr x3 x4 (⟨x5.Has, (⟨x5.O.Kind, x5.O.Ints, x5.O.Refs⟩ : TObj)⟩ : TSlot)), (w64 (x4 + 1)), s6, c6, hS, hF.cut ⟨rfl, rfl, rfl, rfl, trivial⟩, (((hg1.trans hg2).trans hg3).trans hg4), h8, H⟩
      · replace H := hbf hc1 H
        refine exi ?_
        refine xe (xe (hit (xn ?_)))
        obtain rfl := hsm H
        exact ⟨x3, s3, c4, hS, hF.cut ⟨rfl, rfl, trivial⟩, hg1, h2, HK1⟩
  · clear H HK1 hS hF
    rintro a w ⟨x1, s2, c3, hS, hF, hg5, h9, H⟩
    unfold laws_toSlotA4.c1 at H
    refine sq ?_
    refine rg ?_
    refine stp hF (p_ldb_agg (i := 0) (l := []) (m := c3) (r := []) hS rfl rfl ia_46 ti_46 (by simp) (by simp [(show c3.length = 16 from Kd.len _ h9)]) (by simp [(show c3.length = 16 from Kd.len _ h9)])) (by decide) (fun a hF => ?_)
    refine ste0 hF (e_stb (i := 1) (l := []) (m := za_46) (r := []) (m' := c3) (cs' := c3) hS rfl rfl rfl ti_46 (by simp) (by simp [zl_46, (show c3.length = 16 from Kd.len _ h9)]) (by simp [zl_46, (show c3.length = 16 from Kd.len _ h9)]) rfl (by simp [zl_46, (show c3.length = 16 from Kd.len _ h9)]) (Kd.one _ h9) (by simp)) (fun v w a hR hF => ?_)
    have hS : St e s2 w [pt g2 46 (c3), pt g3 46 (c3), pt g1 27 (c2)] := hR
    refine nilN ?_
    refine xn ?_
    refine rt ?_
    obtain rfl := hsm H
    have h10 : RvOk Tryz.prog _ w (.cell 2 46) _ := rvC (i := 0) hS rfl (show lk [(2, (.pointer (some ⟨g2, 0, none⟩)))] 2 = _ from rfl) ia_46 ti_46 (by simp [(show c3.length = 16 from Kd.len _ h9)])
    replace hS := hS.sel (is := []) (A' := []) rfl
    exact retc1 hF rfl h10 hS ⟨c3, rfl, rfl, h9⟩

def laws_toPage.f (k : Nat) (x1 : TPage) : Option TPage :=
  ((laws_toSlotA4.f k x1.Slots).bind fun x2 => (some (⟨x1.Lsn, x2⟩ : TPage)))
set_option maxRecDepth 100000 in
set_option maxHeartbeats 4000000 in
theorem laws_toPage.spec (k : Nat) (s0 : HF) (w : World) (x1 : TPage) (c1 : List Value) (h1 : ((Kd.arr 4 kTSlot)).K s0 x1.Slots c1) (r : TPage) (H : laws_toPage.f k x1 = some r) :
    Law Tryz.prog 115 #[(.agg ([(.int .i64 x1.Lsn)] ++ c1 : List Value).toArray)] s0 w [] (fun v s1 A1 => ∃ (u0 : List Value), v = (.agg ([(.int .i64 r.Lsn)] ++ u0 : List Value).toArray) ∧ A1 = [] ∧ ((Kd.arr 4 kTSlot)).K s1 r.Slots u0) := by
  unfold laws_toPage.f at H
  refine Law.intro Tryz.func115 rfl [(0, (.agg ([(.int .i64 x1.Lsn)] ++ c1 : List Value).toArray))] (Nat.le_of_ble_eq_true rfl) (enter_lk ⟨rfl, trivial⟩) (fun e a hS hF => ?_)
  have hF : Fr 12 a [(0, (.agg ([(.int .i64 x1.Lsn)] ++ c1 : List Value).toArray))] := hF
  refine sq ?_
  refine rg ?_
  refine ste hF (e_box (cs := [(.int .i64 x1.Lsn)] ++ c1) hS rfl rfl) (by decide) (fun v w a hR hF => ?_)
  obtain ⟨g1, rfl, hS⟩ := hR
  refine ste hF (e_alloc (cs := [(.int .i64 0)] ++ za_46) hS ti_48 rfl) (by decide) (fun v w a hR hF => ?_)
  obtain ⟨g2, rfl, hS⟩ := hR
  refine nilN ?_
  refine xn ?_
  refine sq ?_
  refine rg ?_
  refine ste hF (e_alloc (cs := [(.int .i64 0)] ++ za_46) hS ti_48 rfl) (by decide) (fun v w a hR hF => ?_)
  obtain ⟨g3, rfl, hS⟩ := hR
  refine nilN ?_
  refine xn ?_
  refine sq ?_
  refine rg ?_
  refine stp hF (p_fldb (o' := 0) rfl fi_29_0 rfl) (by decide) (fun a hF => ?_)
  refine stp hF (p_ldb_one (i := 2) hS rfl rfl ia_3 rfl) (by decide) (fun a hF => ?_)
  refine stp hF (p_fldb (o' := 0) rfl fi_48_0 rfl) (by decide) (fun a hF => ?_)
  refine ste0 hF (e_stb (i := 0) (l := []) (m := [(.int .i64 0)]) (r := za_46) (m' := [(.int .i64 x1.Lsn)]) (cs' := [(.int .i64 x1.Lsn)] ++ za_46) hS rfl rfl rfl ti_3 (by simp) (by simp) (by simp) rfl (by simp) (one_cons rfl one_nil) (by simp)) (fun v w a hR hF => ?_)
  have hS : St e s0 w [pt g3 48 ([(.int .i64 x1.Lsn)] ++ za_46), pt g2 48 ([(.int .i64 0)] ++ za_46), pt g1 29 ([(.int .i64 x1.Lsn)] ++ c1)] := hR
  refine nilN ?_
  refine xn ?_
  refine sq ?_
  refine rg ?_
  refine stp hF (p_fldb (o' := 1) rfl fi_29_1 rfl) (by decide) (fun a hF => ?_)
  refine stp hF (p_ldb_agg (i := 2) (l := [(.int .i64 x1.Lsn)]) (m := c1) (r := []) hS rfl rfl ia_27 ti_27 (by simp) (by simp [(show c1.length = 16 from Kd.len _ h1)]) (by simp [(show c1.length = 16 from Kd.len _ h1)])) (by decide) (fun a hF => ?_)
  obtain ⟨x2, hx1, H⟩ := hb H
  refine ste hF (e_callA (fst := []) (vs := [(.agg c1.toArray)]) (cap := []) rfl rfl go_204 (St.call (A := []) (B := [pt g3 48 ([(.int .i64 x1.Lsn)] ++ za_46), pt g2 48 ([(.int .i64 0)] ++ za_46), pt g1 29 ([(.int .i64 x1.Lsn)] ++ c1)]) hS (laws_toSlotA4.spec k _ _ x1.Slots c1 h1 _ hx1)) rfl) (by decide) (fun v w a hR hF => ?_)
  obtain ⟨s2, A2, hg1, hS, hR⟩ := hR
  obtain ⟨c2, hv1, rfl, h2⟩ := hR; obtain rfl := hv1.symm
  have hS : St e s2 w [pt g3 48 ([(.int .i64 x1.Lsn)] ++ za_46), pt g2 48 ([(.int .i64 0)] ++ za_46), pt g1 29 ([(.int .i64 x1.Lsn)] ++ c1)] := hS
  refine stp hF (p_fldb (o' := 1) rfl fi_48_1 rfl) (by decide) (fun a hF => ?_)
  refine ste0 hF (e_stb (i := 0) (l := [(.int .i64 x1.Lsn)]) (m := za_46) (r := []) (m' := c2) (cs' := [(.int .i64 x1.Lsn)] ++ c2) hS rfl rfl rfl ti_46 (by simp) (by simp [zl_46, (show c2.length = 16 from Kd.len _ h2)]) (by simp [zl_46, (show c2.length = 16 from Kd.len _ h2)]) rfl (by simp [zl_46, (show c2.length = 16 from Kd.len _ h2)]) (Kd.one _ h2) (by simp)) (fun v w a hR hF => ?_)
  have hS : St e s2 w [pt g3 48 ([(.int .i64 x1.Lsn)] ++ c2), pt g2 48 ([(.int .i64 0)] ++ za_46), pt g1 29 ([(.int .i64 x1.Lsn)] ++ c1)] := hR
  refine nilN ?_
  refine xn ?_
  refine sq ?_
  refine rg ?_
  refine stp hF (p_ldb_agg (i := 0) (l := []) (m := [(.int .i64 x1.Lsn)] ++ c2) (r := []) hS rfl rfl ia_48 ti_48 (by simp) (by simp [(show c2.length = 16 from Kd.len _ h2)]) (by simp [(show c2.length = 16 from Kd.len _ h2)])) (by decide) (fun a hF => ?_)
  refine ste0 hF (e_stb (i := 1) (l := []) (m := [(.int .i64 0)] ++ za_46) (r := []) (m' := [(.int .i64 x1.Lsn)] ++ c2) (cs' := [(.int .i64 x1.Lsn)] ++ c2) hS rfl rfl rfl ti_48 (by simp) (by simp [zl_46, (show c2.length = 16 from Kd.len _ h2)]) (by simp [zl_46, (show c2.length = 16 from Kd.len _ h2)]) rfl (by simp [zl_46, (show c2.length = 16 from Kd.len _ h2)]) (one_app (one_cons rfl one_nil) (Kd.one _ h2)) (by simp)) (fun v w a hR hF => ?_)
  have hS : St e s2 w [pt g2 48 ([(.int .i64 x1.Lsn)] ++ c2), pt g3 48 ([(.int .i64 x1.Lsn)] ++ c2), pt g1 29 ([(.int .i64 x1.Lsn)] ++ c1)] := hR
  refine nilN ?_
  refine xn ?_
  refine rt ?_
  obtain rfl := hsm H
  have h3 : RvOk Tryz.prog _ w (.cell 2 48) _ := rvC (i := 0) hS rfl (show lk [(2, (.pointer (some ⟨g2, 0, none⟩)))] 2 = _ from rfl) ia_48 ti_48 (by simp [(show c2.length = 16 from Kd.len _ h2)])
  replace hS := hS.sel (is := []) (A' := []) rfl
  exact retc1 hF rfl h3 hS ⟨c2, rfl, rfl, h2⟩

def laws_toPageA8.c1 (k : Nat) (x1 : (List TPage)) : Option (List TPage) :=
  (some x1)
def laws_toPageA8.l1 (x2 : (List TPage)) : Nat → (List TPage) → Int → Option (List TPage)
  | 0, _, _ => none
  | k + 1, x3, x4 => (if (decide (x4 < 8)) = true then (if 0 ≤ x4 ∧ x4 < 8 then ((laws_toPage.f k (rd x2 x4)).bind fun x5 => (if 0 ≤ x4 ∧ x4 < 8 then ((laws_toPageA8.l1 x2 k) (wr x3 x4 x5) (w64 (x4 + 1))) else none)) else none) else (some x3))
def laws_toPageA8.f (k : Nat) (x2 : (List TPage)) : Option (List TPage) :=
  (((laws_toPageA8.l1 x2 k zv_49 0) : Option (List TPage)).bind fun x6 => laws_toPageA8.c1 k x6)
set_option maxRecDepth 100000 in
set_option maxHeartbeats 4000000 in
theorem laws_toPageA8.spec (k : Nat) (s0 : HF) (w : World) (x2 : (List TPage)) (c2 : List Value) (h1 : ((Kd.arr 8 kTPage)).K s0 x2 c2) (r : (List TPage)) (H : laws_toPageA8.f k x2 = some r) :
    Law Tryz.prog 42 #[(.agg c2.toArray)] s0 w [] (fun v s1 A1 => ∃ (u0 : List Value), v = (.agg u0.toArray) ∧ A1 = [] ∧ ((Kd.arr 8 kTPage)).K s1 r u0) := by
  unfold laws_toPageA8.f at H
  refine Law.intro Tryz.func42 rfl [(0, (.agg c2.toArray))] (Nat.le_of_ble_eq_true rfl) (enter_lk ⟨rfl, trivial⟩) (fun e a hS hF => ?_)
  have hF : Fr 16 a [(0, (.agg c2.toArray))] := hF
  refine sq ?_
  refine rg ?_
  refine ste hF (e_box (cs := c2) hS rfl rfl) (by decide) (fun v w a hR hF => ?_)
  obtain ⟨g1, rfl, hS⟩ := hR
  refine ste hF (e_alloc (cs := za_49) hS ti_49 rfl) (by decide) (fun v w a hR hF => ?_)
  obtain ⟨g2, rfl, hS⟩ := hR
  refine nilN ?_
  refine xn ?_
  refine sq ?_
  refine rg ?_
  refine ste hF (e_alloc (cs := za_49) hS ti_49 rfl) (by decide) (fun v w a hR hF => ?_)
  obtain ⟨g3, rfl, hS⟩ := hR
  refine nilN ?_
  refine xn ?_
  obtain ⟨x6, H, HK1⟩ := hb H
  refine sqj (fun a w => ∃ (x1 : (List TPage)) (s2 : HF) (c3 : List Value) , St e s2 w [pt g3 49 (c3), pt g2 49 (za_49), pt g1 30 (c2)] ∧ Fr 16 a [(2, (.pointer (some ⟨g2, 0, none⟩))), (3, (.pointer (some ⟨g3, 0, none⟩)))] ∧ Sub s0 s2 ∧ ((Kd.arr 8 kTPage)).K s2 x1 c3 ∧ laws_toPageA8.c1 k x1 = some r) ?_ ?_
  · skip
    refine sq ?_
    refine rg ?_
    refine stp hF (p_assign rfl) (by decide) (fun a hF => ?_)
    refine nilN ?_
    refine xn ?_
    refine blk ?_
    refine loop_ind (fun k1 a w => ∃ (x3 : (List TPage)) (x4 : Int) (s3 : HF) (c4 : List Value) , St e s3 w [pt g3 49 (c4), pt g2 49 (za_49), pt g1 30 (c2)] ∧ Fr 16 a [(1, (.pointer (some ⟨g1, 0, none⟩))), (2, (.pointer (some ⟨g2, 0, none⟩))), (3, (.pointer (some ⟨g3, 0, none⟩))), (4, (.int .i64 x4))] ∧ Sub s0 s3 ∧ ((Kd.arr 8 kTPage)).K s3 x3 c4 ∧ laws_toPageA8.l1 x2 k1 x3 x4 = some x6) k ?_ ?_ ?_
    · skip
      exact ⟨zv_49, 0, s0, za_49, hS, hF.cut ⟨rfl, rfl, rfl, rfl, trivial⟩, (Sub.refl _), (zk_49 s0), H⟩
    · clear H hS hF
      rintro a w ⟨x3, x4, s3, c4, hS, hF, hg1, h2, H⟩
      exact absurd (show none = some _ from H) (by simp)
    · clear H hS hF
      rintro k1 a w ⟨x3, x4, s3, c4, hS, hF, hg1, h2, H⟩
      rw [laws_toPageA8.l1.eq_2] at H
      refine sq ?_
      refine sq ?_
      refine rg ?_
      refine stp hF (p_move rfl) (by decide) (fun a hF => ?_)
      refine stp hF (p_lss rfl rfl) (by decide) (fun a hF => ?_)
      refine nilN ?_
      refine xn ?_
      refine cnd hF rfl (fun hc1 => ?_) (fun hc1 => ?_)
      · replace H := hbt hc1 H
        refine skN ?_
        refine xn ?_
        refine sq ?_
        refine blk ?_
        refine rg ?_
        refine stp hF (p_move rfl) (by decide) (fun a hF => ?_)
        refine stp hF (p_move rfl) (by decide) (fun a hF => ?_)
        obtain ⟨hq1, H⟩ := hck H
        refine stp hF (p_idxb rfl rfl un_30 ti_29 hq1.1 hq1.2) (by decide) (fun a hF => ?_)
        obtain ⟨c5, h3, p1⟩ := p_ldba_agg (P := Tryz.prog) (T := 30) (b := g1) (all := c2) (l := []) (cs := c2) (r := []) (base := 0) (by simp) ((Kd.arr 8 kTPage).mono hg1 h1) (Lens.idx 8 kTPage x4 hq1.1 hq1.2) rfl rfl ia_29 ti_29
        obtain ⟨c6, rfl, h4⟩ := kTPage_open h3
        refine stp hF (p1 (n := 2) hS rfl rfl) (by decide) (fun a hF => ?_)
        obtain ⟨x5, hx1, H⟩ := hb H
        refine ste hF (e_callA (fst := []) (vs := [(.agg ([(.int .i64 ((rd x2 x4).Lsn))] ++ c6 : List Value).toArray)]) (cap := []) rfl rfl go_115 (St.call (A := []) (B := [pt g3 49 (c4), pt g2 49 (za_49), pt g1 30 (c2)]) hS (laws_toPage.spec k1 _ _ (rd x2 x4) c6 h4 _ hx1)) rfl) (by decide) (fun v w a hR hF => ?_)
        obtain ⟨s4, A2, hg2, hS, hR⟩ := hR
        obtain ⟨c7, hv1, rfl, h5⟩ := hR; obtain rfl := hv1.symm
        have hS : St e s4 w [pt g3 49 (c4), pt g2 49 (za_49), pt g1 30 (c2)] := hS
        obtain ⟨hq2, H⟩ := hck H
        refine stp hF (p_idxb rfl rfl un_49 ti_48 hq2.1 hq2.2) (by decide) (fun a hF => ?_)
        refine ste0 hF (e_stba (n := 0) (l := []) (cs := c4) (r := []) (base := 0) (y0 := x5) hS rfl (by simp) ((Kd.arr 8 kTPage).mono hg2 h2) (Lens.idx 8 kTPage x4 hq2.1 hq2.2) rfl rfl rfl rfl ti_48 rfl (kTPage_mk (x := x5) h5)) (fun v w a hR hF => ?_)
        obtain ⟨c8, h6, hS⟩ := hR
        replace h6 : ((Kd.arr 8 kTPage)).K s4 (wr x3 x4 x5) c8 := h6
        replace hS : St e s4 w [pt g3 49 (c8), pt g2 49 (za_49), pt g1 30 (c2)] := (by simpa using hS)
        refine nilN ?_
        refine bn (xn ?_)
        refine rg ?_
        refine stp hF (p_move rfl) (by decide) (fun a hF => ?_)
        refine stp hF (p_add (c := w64 (x4 + 1)) rfl rfl rfl) (by decide) (fun a hF => ?_)
        refine stp hF (p_assign rfl) (by decide) (fun a hF => ?_)
        refine nilN ?_
        refine xn ?_
        exact ⟨(wr x3 x4 x5), (w64 (x4 + 1)), s4, c8, hS, hF.cut ⟨rfl, rfl, rfl, rfl, trivial⟩, (hg1.trans hg2), h6, H⟩
      · replace H := hbf hc1 H
        refine exi ?_
        refine xe (xe (hit (xn ?_)))
        obtain rfl := hsm H
        exact ⟨x3, s3, c4, hS, hF.cut ⟨rfl, rfl, trivial⟩, hg1, h2, HK1⟩
  · clear H HK1 hS hF
    rintro a w ⟨x1, s2, c3, hS, hF, hg3, h7, H⟩
    unfold laws_toPageA8.c1 at H
    refine sq ?_
    refine rg ?_
    refine stp hF (p_ldb_agg (i := 0) (l := []) (m := c3) (r := []) hS rfl rfl ia_49 ti_49 (by simp) (by simp [(show c3.length = 136 from Kd.len _ h7)]) (by simp [(show c3.length = 136 from Kd.len _ h7)])) (by decide) (fun a hF => ?_)
    refine ste0 hF (e_stb (i := 1) (l := []) (m := za_49) (r := []) (m' := c3) (cs' := c3) hS rfl rfl rfl ti_49 (by simp) (by simp [zl_49, (show c3.length = 136 from Kd.len _ h7)]) (by simp [zl_49, (show c3.length = 136 from Kd.len _ h7)]) rfl (by simp [zl_49, (show c3.length = 136 from Kd.len _ h7)]) (Kd.one _ h7) (by simp)) (fun v w a hR hF => ?_)
    have hS : St e s2 w [pt g2 49 (c3), pt g3 49 (c3), pt g1 30 (c2)] := hR
    refine nilN ?_
    refine xn ?_
    refine rt ?_
    obtain rfl := hsm H
    have h8 : RvOk Tryz.prog _ w (.cell 2 49) _ := rvC (i := 0) hS rfl (show lk [(2, (.pointer (some ⟨g2, 0, none⟩)))] 2 = _ from rfl) ia_49 ti_49 (by simp [(show c3.length = 136 from Kd.len _ h7)])
    replace hS := hS.sel (is := []) (A' := []) rfl
    exact retc1 hF rfl h8 hS ⟨c3, rfl, rfl, h7⟩

def laws_toSeat.f (k : Nat) (x1 : TSeat) : Option TSeat :=
  ((laws_toPage.f k x1.P).bind fun x2 => (some (⟨x1.No, (⟨x2.Lsn, x2.Slots⟩ : TPage), x1.Dirty, x1.Hot⟩ : TSeat)))
set_option maxRecDepth 100000 in
set_option maxHeartbeats 4000000 in
theorem laws_toSeat.spec (k : Nat) (s0 : HF) (w : World) (x1 : TSeat) (c1 : List Value) (h1 : ((Kd.arr 4 kTSlot)).K s0 x1.P.Slots c1) (r : TSeat) (H : laws_toSeat.f k x1 = some r) :
    Law Tryz.prog 205 #[(.agg ([(.int .i64 x1.No), (.int .i64 x1.P.Lsn)] ++ c1 ++ [(.bool x1.Dirty), (.bool x1.Hot)] : List Value).toArray)] s0 w [] (fun v s1 A1 => ∃ (u0 : List Value), v = (.agg ([(.int .i64 r.No), (.int .i64 r.P.Lsn)] ++ u0 ++ [(.bool r.Dirty), (.bool r.Hot)] : List Value).toArray) ∧ A1 = [] ∧ ((Kd.arr 4 kTSlot)).K s1 r.P.Slots u0) := by
  unfold laws_toSeat.f at H
  refine Law.intro Tryz.func205 rfl [(0, (.agg ([(.int .i64 x1.No), (.int .i64 x1.P.Lsn)] ++ c1 ++ [(.bool x1.Dirty), (.bool x1.Hot)] : List Value).toArray))] (Nat.le_of_ble_eq_true rfl) (enter_lk ⟨rfl, trivial⟩) (fun e a hS hF => ?_)
  have hF : Fr 18 a [(0, (.agg ([(.int .i64 x1.No), (.int .i64 x1.P.Lsn)] ++ c1 ++ [(.bool x1.Dirty), (.bool x1.Hot)] : List Value).toArray))] := hF
  refine sq ?_
  refine rg ?_
  refine ste hF (e_box (cs := [(.int .i64 x1.No), (.int .i64 x1.P.Lsn)] ++ c1 ++ [(.bool x1.Dirty), (.bool x1.Hot)]) hS rfl rfl) (by decide) (fun v w a hR hF => ?_)
  obtain ⟨g1, rfl, hS⟩ := hR
  refine ste hF (e_alloc (cs := [(.int .i64 0), (.int .i64 0)] ++ za_46 ++ [(.bool false), (.bool false)]) hS ti_105 rfl) (by decide) (fun v w a hR hF => ?_)
  obtain ⟨g2, rfl, hS⟩ := hR
  refine nilN ?_
  refine xn ?_
  refine sq ?_
  refine rg ?_
  refine ste hF (e_alloc (cs := [(.int .i64 0), (.int .i64 0)] ++ za_46 ++ [(.bool false), (.bool false)]) hS ti_105 rfl) (by decide) (fun v w a hR hF => ?_)
  obtain ⟨g3, rfl, hS⟩ := hR
  refine nilN ?_
  refine xn ?_
  refine sq ?_
  refine rg ?_
  refine stp hF (p_fldb (o' := 0) rfl fi_245_0 rfl) (by decide) (fun a hF => ?_)
  refine stp hF (p_ldb_one (i := 2) hS rfl rfl ia_3 rfl) (by decide) (fun a hF => ?_)
  refine stp hF (p_fldb (o' := 0) rfl fi_105_0 rfl) (by decide) (fun a hF => ?_)
  refine ste0 hF (e_stb (i := 0) (l := []) (m := [(.int .i64 0)]) (r := [(.int .i64 0)] ++ za_46 ++ [(.bool false), (.bool false)]) (m' := [(.int .i64 x1.No)]) (cs' := [(.int .i64 x1.No), (.int .i64 0)] ++ za_46 ++ [(.bool false), (.bool false)]) hS rfl rfl rfl ti_3 (by simp) (by simp) (by simp) rfl (by simp) (one_cons rfl one_nil) (by simp)) (fun v w a hR hF => ?_)
  have hS : St e s0 w [pt g3 105 ([(.int .i64 x1.No), (.int .i64 0)] ++ za_46 ++ [(.bool false), (.bool false)]), pt g2 105 ([(.int .i64 0), (.int .i64 0)] ++ za_46 ++ [(.bool false), (.bool false)]), pt g1 245 ([(.int .i64 x1.No), (.int .i64 x1.P.Lsn)] ++ c1 ++ [(.bool x1.Dirty), (.bool x1.Hot)])] := hR
  refine nilN ?_
  refine xn ?_
  refine sq ?_
  refine rg ?_
  refine stp hF (p_fldb (o' := 1) rfl fi_245_1 rfl) (by decide) (fun a hF => ?_)
  refine stp hF (p_ldb_agg (i := 2) (l := [(.int .i64 x1.No)]) (m := [(.int .i64 x1.P.Lsn)] ++ c1) (r := [(.bool x1.Dirty), (.bool x1.Hot)]) hS rfl rfl ia_29 ti_29 (by simp) (by simp [(show c1.length = 16 from Kd.len _ h1)]) (by simp [(show c1.length = 16 from Kd.len _ h1)])) (by decide) (fun a hF => ?_)
  obtain ⟨x2, hx1, H⟩ := hb H
  refine ste hF (e_callA (fst := []) (vs := [(.agg ([(.int .i64 x1.P.Lsn)] ++ c1 : List Value).toArray)]) (cap := []) rfl rfl go_115 (St.call (A := []) (B := [pt g3 105 ([(.int .i64 x1.No), (.int .i64 0)] ++ za_46 ++ [(.bool false), (.bool false)]), pt g2 105 ([(.int .i64 0), (.int .i64 0)] ++ za_46 ++ [(.bool false), (.bool false)]), pt g1 245 ([(.int .i64 x1.No), (.int .i64 x1.P.Lsn)] ++ c1 ++ [(.bool x1.Dirty), (.bool x1.Hot)])]) hS (laws_toPage.spec k _ _ x1.P c1 h1 _ hx1)) rfl) (by decide) (fun v w a hR hF => ?_)
  obtain ⟨s2, A2, hg1, hS, hR⟩ := hR
  obtain ⟨c2, hv1, rfl, h2⟩ := hR; obtain rfl := hv1.symm
  have hS : St e s2 w [pt g3 105 ([(.int .i64 x1.No), (.int .i64 0)] ++ za_46 ++ [(.bool false), (.bool false)]), pt g2 105 ([(.int .i64 0), (.int .i64 0)] ++ za_46 ++ [(.bool false), (.bool false)]), pt g1 245 ([(.int .i64 x1.No), (.int .i64 x1.P.Lsn)] ++ c1 ++ [(.bool x1.Dirty), (.bool x1.Hot)])] := hS
  refine stp hF (p_fldb (o' := 1) rfl fi_105_1 rfl) (by decide) (fun a hF => ?_)
  refine ste0 hF (e_stb (i := 0) (l := [(.int .i64 x1.No)]) (m := [(.int .i64 0)] ++ za_46) (r := [(.bool false), (.bool false)]) (m' := [(.int .i64 x2.Lsn)] ++ c2) (cs' := [(.int .i64 x1.No), (.int .i64 x2.Lsn)] ++ c2 ++ [(.bool false), (.bool false)]) hS rfl rfl rfl ti_48 (by simp) (by simp [zl_46, (show c2.length = 16 from Kd.len _ h2)]) (by simp [zl_46, (show c2.length = 16 from Kd.len _ h2)]) rfl (by simp [zl_46, (show c2.length = 16 from Kd.len _ h2)]) (one_app (one_cons rfl one_nil) (Kd.one _ h2)) (by simp)) (fun v w a hR hF => ?_)
  have hS : St e s2 w [pt g3 105 ([(.int .i64 x1.No), (.int .i64 x2.Lsn)] ++ c2 ++ [(.bool false), (.bool false)]), pt g2 105 ([(.int .i64 0), (.int .i64 0)] ++ za_46 ++ [(.bool false), (.bool false)]), pt g1 245 ([(.int .i64 x1.No), (.int .i64 x1.P.Lsn)] ++ c1 ++ [(.bool x1.Dirty), (.bool x1.Hot)])] := hR
  refine nilN ?_
  refine xn ?_
  refine sq ?_
  refine rg ?_
  refine stp hF (p_fldb (o' := 18) rfl fi_245_2 rfl) (by decide) (fun a hF => ?_)
  refine stp hF (p_ldb_one (i := 2) (v := (.bool x1.Dirty)) hS rfl rfl ia_4 (by simp [(show c1.length = 16 from Kd.len _ ((Kd.arr 4 kTSlot).mono hg1 h1))])) (by decide) (fun a hF => ?_)
  refine stp hF (p_fldb (o' := 18) rfl fi_105_2 rfl) (by decide) (fun a hF => ?_)
  refine ste0 hF (e_stb (i := 0) (l := [(.int .i64 x1.No), (.int .i64 x2.Lsn)] ++ c2) (m := [(.bool false)]) (r := [(.bool false)]) (m' := [(.bool x1.Dirty)]) (cs' := [(.int .i64 x1.No), (.int .i64 x2.Lsn)] ++ c2 ++ [(.bool x1.Dirty), (.bool false)]) hS rfl rfl rfl ti_4 (by simp) (by simp [(show c2.length = 16 from Kd.len _ h2)]) (by simp [(show c2.length = 16 from Kd.len _ h2)]) rfl (by simp [(show c2.length = 16 from Kd.len _ h2)]) (one_cons rfl one_nil) (by simp)) (fun v w a hR hF => ?_)
  have hS : St e s2 w [pt g3 105 ([(.int .i64 x1.No), (.int .i64 x2.Lsn)] ++ c2 ++ [(.bool x1.Dirty), (.bool false)]), pt g2 105 ([(.int .i64 0), (.int .i64 0)] ++ za_46 ++ [(.bool false), (.bool false)]), pt g1 245 ([(.int .i64 x1.No), (.int .i64 x1.P.Lsn)] ++ c1 ++ [(.bool x1.Dirty), (.bool x1.Hot)])] := hR
  refine nilN ?_
  refine xn ?_
  refine sq ?_
  refine rg ?_
  refine stp hF (p_fldb (o' := 19) rfl fi_245_3 rfl) (by decide) (fun a hF => ?_)
  refine stp hF (p_ldb_one (i := 2) (v := (.bool x1.Hot)) hS rfl rfl ia_4 (by simp [(show c1.length = 16 from Kd.len _ ((Kd.arr 4 kTSlot).mono hg1 h1))])) (by decide) (fun a hF => ?_)
  refine stp hF (p_fldb (o' := 19) rfl fi_105_3 rfl) (by decide) (fun a hF => ?_)
  refine ste0 hF (e_stb (i := 0) (l := [(.int .i64 x1.No), (.int .i64 x2.Lsn)] ++ c2 ++ [(.bool x1.Dirty)]) (m := [(.bool false)]) (r := []) (m' := [(.bool x1.Hot)]) (cs' := [(.int .i64 x1.No), (.int .i64 x2.Lsn)] ++ c2 ++ [(.bool x1.Dirty), (.bool x1.Hot)]) hS rfl rfl rfl ti_4 (by simp) (by simp [(show c2.length = 16 from Kd.len _ h2)]) (by simp [(show c2.length = 16 from Kd.len _ h2)]) rfl (by simp [(show c2.length = 16 from Kd.len _ h2)]) (one_cons rfl one_nil) (by simp)) (fun v w a hR hF => ?_)
  have hS : St e s2 w [pt g3 105 ([(.int .i64 x1.No), (.int .i64 x2.Lsn)] ++ c2 ++ [(.bool x1.Dirty), (.bool x1.Hot)]), pt g2 105 ([(.int .i64 0), (.int .i64 0)] ++ za_46 ++ [(.bool false), (.bool false)]), pt g1 245 ([(.int .i64 x1.No), (.int .i64 x1.P.Lsn)] ++ c1 ++ [(.bool x1.Dirty), (.bool x1.Hot)])] := hR
  refine nilN ?_
  refine xn ?_
  refine sq ?_
  refine rg ?_
  refine stp hF (p_ldb_agg (i := 0) (l := []) (m := [(.int .i64 x1.No), (.int .i64 x2.Lsn)] ++ c2 ++ [(.bool x1.Dirty), (.bool x1.Hot)]) (r := []) hS rfl rfl ia_105 ti_105 (by simp) (by simp [(show c2.length = 16 from Kd.len _ h2)]) (by simp [(show c2.length = 16 from Kd.len _ h2)])) (by decide) (fun a hF => ?_)
  refine ste0 hF (e_stb (i := 1) (l := []) (m := [(.int .i64 0), (.int .i64 0)] ++ za_46 ++ [(.bool false), (.bool false)]) (r := []) (m' := [(.int .i64 x1.No), (.int .i64 x2.Lsn)] ++ c2 ++ [(.bool x1.Dirty), (.bool x1.Hot)]) (cs' := [(.int .i64 x1.No), (.int .i64 x2.Lsn)] ++ c2 ++ [(.bool x1.Dirty), (.bool x1.Hot)]) hS rfl rfl rfl ti_105 (by simp) (by simp [zl_46, (show c2.length = 16 from Kd.len _ h2)]) (by simp [zl_46, (show c2.length = 16 from Kd.len _ h2)]) rfl (by simp [zl_46, (show c2.length = 16 from Kd.len _ h2)]) (one_app (one_app (one_cons rfl (one_cons rfl one_nil)) (Kd.one _ h2)) (one_cons rfl (one_cons rfl one_nil))) (by simp)) (fun v w a hR hF => ?_)
  have hS : St e s2 w [pt g2 105 ([(.int .i64 x1.No), (.int .i64 x2.Lsn)] ++ c2 ++ [(.bool x1.Dirty), (.bool x1.Hot)]), pt g3 105 ([(.int .i64 x1.No), (.int .i64 x2.Lsn)] ++ c2 ++ [(.bool x1.Dirty), (.bool x1.Hot)]), pt g1 245 ([(.int .i64 x1.No), (.int .i64 x1.P.Lsn)] ++ c1 ++ [(.bool x1.Dirty), (.bool x1.Hot)])] := hR
  refine nilN ?_
  refine xn ?_
  refine rt ?_
  obtain rfl := hsm H
  have h3 : RvOk Tryz.prog _ w (.cell 2 105) _ := rvC (i := 0) hS rfl (show lk [(2, (.pointer (some ⟨g2, 0, none⟩)))] 2 = _ from rfl) ia_105 ti_105 (by simp [(show c2.length = 16 from Kd.len _ h2)])
  replace hS := hS.sel (is := []) (A' := []) rfl
  exact retc1 hF rfl h3 hS ⟨c2, rfl, rfl, h2⟩

def laws_toSeatS.c1 (k : Nat) (x1 : (List TSeat)) : Option (List TSeat) :=
  (some x1)
def laws_toSeatS.l1 (x2 : (List TSeat)) : Nat → (List TSeat) → Int → Option (List TSeat)
  | 0, _, _ => none
  | k + 1, x3, x4 => (if (decide (x4 < (x2.length : Int))) = true then (if 0 ≤ x4 ∧ x4 < (x2.length : Int) then ((laws_toSeat.f k (rd x2 x4)).bind fun x5 => (if 0 ≤ x4 ∧ x4 < (x3.length : Int) then ((laws_toSeatS.l1 x2 k) (wr x3 x4 x5) (w64 (x4 + 1))) else none)) else none) else (some x3))
def laws_toSeatS.f (k : Nat) (x2 : (List TSeat)) : Option (List TSeat) :=
  (if 0 ≤ (x2.length : Int) ∧ (x2.length : Int) * 280 ≤ 140737488355328 then (((laws_toSeatS.l1 x2 k (List.replicate (x2.length : Int).toNat (⟨0, (⟨0, zv_46⟩ : TPage), false, false⟩ : TSeat)) 0) : Option (List TSeat)).bind fun x6 => laws_toSeatS.c1 k x6) else none)
set_option maxRecDepth 100000 in
set_option maxHeartbeats 4000000 in
theorem laws_toSeatS.spec (k : Nat) (s0 : HF) (w : World) (x2 : (List TSeat)) (v1 : Value) (h1 : Sl kTSeat s0 v1 x2) (r : (List TSeat)) (H : laws_toSeatS.f k x2 = some r) :
    Law Tryz.prog 116 #[v1] s0 w [] (fun v s1 A1 => ∃ (u0 : Value), v = u0 ∧ A1 = [Ow kTSeat 105 u0 r]) := by
  unfold laws_toSeatS.f at H
  refine Law.intro Tryz.func116 rfl [(0, v1)] (Nat.le_of_ble_eq_true rfl) (enter_lk ⟨rfl, trivial⟩) (fun e a hS hF => ?_)
  have hF : Fr 23 a [(0, v1)] := hF
  refine sq ?_
  refine rg ?_
  refine stp hF (p_assign rfl) (by decide) (fun a hF => ?_)
  refine nilN ?_
  refine xn ?_
  refine sq ?_
  refine rg ?_
  refine stp hF (p_move rfl) (by decide) (fun a hF => ?_)
  refine stp hF (p_lenr un_31 rfl h1) (by decide) (fun a hF => ?_)
  obtain ⟨hq1, H⟩ := hck H
  refine ste hF (e_make (kd := kTSeat) (x0 := (⟨0, (⟨0, zv_46⟩ : TPage), false, false⟩ : TSeat)) (c := [(.int .i64 0), (.int .i64 0)] ++ za_46 ++ [(.bool false), (.bool false)]) hS rfl rfl un_50 ti_105 rfl (kTSeat_mk (x := (⟨0, (⟨0, zv_46⟩ : TPage), false, false⟩ : TSeat)) (zk_46 s0)) hq1.1 (by decide) hq1.2) (by decide) (fun v2 w a hR hF => ?_)
  have hS : St e s0 w [Ow kTSeat 105 v2 (List.replicate (x2.length : Int).toNat (⟨0, (⟨0, zv_46⟩ : TPage), false, false⟩ : TSeat))] := hR
  refine stp hF (p_assign rfl) (by decide) (fun a hF => ?_)
  refine nilN ?_
  refine xn ?_
  obtain ⟨x6, H, HK1⟩ := hb H
  refine sqj (fun a w => ∃ (x1 : (List TSeat)) (s2 : HF) , St e s2 w [Ow kTSeat 105 v2 x1] ∧ Fr 23 a [(3, v2)] ∧ Sub s0 s2 ∧ laws_toSeatS.c1 k x1 = some r) ?_ ?_
  · skip
    refine sq ?_
    refine rg ?_
    refine stp hF (p_assign rfl) (by decide) (fun a hF => ?_)
    refine nilN ?_
    refine xn ?_
    refine blk ?_
    refine loop_ind (fun k1 a w => ∃ (x3 : (List TSeat)) (x4 : Int) (s3 : HF) , St e s3 w [Ow kTSeat 105 v2 x3] ∧ Fr 23 a [(0, v1), (3, v2), (4, (.int .i64 x4))] ∧ Sub s0 s3 ∧ laws_toSeatS.l1 x2 k1 x3 x4 = some x6) k ?_ ?_ ?_
    · skip
      exact ⟨(List.replicate (x2.length : Int).toNat (⟨0, (⟨0, zv_46⟩ : TPage), false, false⟩ : TSeat)), 0, s0, hS, hF.cut ⟨rfl, rfl, rfl, trivial⟩, (Sub.refl _), H⟩
    · clear H hS hF
      rintro a w ⟨x3, x4, s3, hS, hF, hg1, H⟩
      exact absurd (show none = some _ from H) (by simp)
    · clear H hS hF
      rintro k1 a w ⟨x3, x4, s3, hS, hF, hg1, H⟩
      rw [laws_toSeatS.l1.eq_2] at H
      refine sq ?_
      refine sq ?_
      refine rg ?_
      refine stp hF (p_move rfl) (by decide) (fun a hF => ?_)
      refine stp hF (p_move rfl) (by decide) (fun a hF => ?_)
      refine stp hF (p_lenr un_31 rfl (h1.mono hg1)) (by decide) (fun a hF => ?_)
      refine stp hF (p_lss rfl rfl) (by decide) (fun a hF => ?_)
      refine nilN ?_
      refine xn ?_
      refine cnd hF rfl (fun hc1 => ?_) (fun hc1 => ?_)
      · replace H := hbt hc1 H
        refine skN ?_
        refine xn ?_
        refine sq ?_
        refine blk ?_
        refine rg ?_
        refine stp hF (p_move rfl) (by decide) (fun a hF => ?_)
        refine stp hF (p_move rfl) (by decide) (fun a hF => ?_)
        refine stp hF (p_move rfl) (by decide) (fun a hF => ?_)
        refine stp hF (p_move rfl) (by decide) (fun a hF => ?_)
        obtain ⟨hq2, H⟩ := hck H
        obtain ⟨ad1, h2, p1⟩ := p_idxr (P := Tryz.prog) (i := x4) (h1.mono hg1) un_31 ti_245 hq2.1 hq2.2
        refine stp hF (p1 rfl rfl) (by decide) (fun a hF => ?_)
        obtain ⟨c2, h3, p2⟩ := p_ldr_agg (P := Tryz.prog) h2 ia_245 ti_245
        obtain ⟨c3, rfl, h4⟩ := kTSeat_open h3
        refine stp hF (p2 rfl hS.ro) (by decide) (fun a hF => ?_)
        obtain ⟨x5, hx1, H⟩ := hb H
        refine ste hF (e_callA (fst := []) (vs := [(.agg ([(.int .i64 ((rd x2 x4).No)), (.int .i64 (((rd x2 x4).P).Lsn))] ++ c3 ++ [(.bool ((rd x2 x4).Dirty)), (.bool ((rd x2 x4).Hot))] : List Value).toArray)]) (cap := []) rfl rfl go_205 (St.call (A := []) (B := [Ow kTSeat 105 v2 x3]) hS (laws_toSeat.spec k1 _ _ (rd x2 x4) c3 h4 _ hx1)) rfl) (by decide) (fun v w a hR hF => ?_)
        obtain ⟨s4, A2, hg2, hS, hR⟩ := hR
        obtain ⟨c4, hv1, rfl, h5⟩ := hR; obtain rfl := hv1.symm
        have hS : St e s4 w [Ow kTSeat 105 v2 x3] := hS
        obtain ⟨hq3, H⟩ := hck H
        obtain ⟨b1, o1, q1, hv2, p3⟩ := p_idxo (n := 0) (i := x4) hS rfl un_50 ti_105 hq3.1 hq3.2
        refine stp hF (p3 rfl rfl) (by decide) (fun a hF => ?_)
        refine ste0 hF (e_sto (n := 0) (c := x5) hS rfl hv2 (Lens.id _) hq3.1 hq3.2 rfl rfl rfl ti_105 rfl (kTSeat_mk (x := x5) h5)) (fun v w a hR hF => ?_)
        have hS : St e s4 w [Ow kTSeat 105 v2 (wr x3 x4 x5)] := hR
        refine nilN ?_
        refine bn (xn ?_)
        refine rg ?_
        refine stp hF (p_move rfl) (by decide) (fun a hF => ?_)
        refine stp hF (p_add (c := w64 (x4 + 1)) rfl rfl rfl) (by decide) (fun a hF => ?_)
        refine stp hF (p_assign rfl) (by decide) (fun a hF => ?_)
        refine nilN ?_
        refine xn ?_
        exact ⟨(wr x3 x4 x5), (w64 (x4 + 1)), s4, hS, hF.cut ⟨rfl, rfl, rfl, trivial⟩, (hg1.trans hg2), H⟩
      · replace H := hbf hc1 H
        refine exi ?_
        refine xe (xe (hit (xn ?_)))
        obtain rfl := hsm H
        exact ⟨x3, s3, hS, hF.cut ⟨rfl, trivial⟩, hg1, HK1⟩
  · clear H HK1 hS hF
    rintro a w ⟨x1, s2, hS, hF, hg3, H⟩
    unfold laws_toSeatS.c1 at H
    refine sq ?_
    refine rg ?_
    refine stp hF (p_move rfl) (by decide) (fun a hF => ?_)
    refine stp hF (p_assign rfl) (by decide) (fun a hF => ?_)
    refine nilN ?_
    refine xn ?_
    refine rt ?_
    obtain rfl := hsm H
    exact ret1 hF rfl rfl hS ⟨v2, rfl, rfl⟩

def laws_toPool.f (k : Nat) (x1 : TPool) : Option TPool :=
  ((laws_toSeatS.f k x1.Seats).bind fun x2 => (some (⟨x2, x1.Hand⟩ : TPool)))
set_option maxRecDepth 100000 in
set_option maxHeartbeats 4000000 in
theorem laws_toPool.spec (k : Nat) (s0 : HF) (w : World) (x1 : TPool) (v1 : Value) (h1 : Sl kTSeat s0 v1 x1.Seats) (r : TPool) (H : laws_toPool.f k x1 = some r) :
    Law Tryz.prog 43 #[(.agg #[v1, (.int .i64 x1.Hand)])] s0 w [] (fun v s1 A1 => ∃ (u0 : Value), v = (.agg #[u0, (.int .i64 r.Hand)]) ∧ A1 = [Ow kTSeat 105 u0 r.Seats]) := by
  unfold laws_toPool.f at H
  refine Law.intro Tryz.func43 rfl [(0, (.agg #[v1, (.int .i64 x1.Hand)]))] (Nat.le_of_ble_eq_true rfl) (enter_lk ⟨rfl, trivial⟩) (fun e a hS hF => ?_)
  have hF : Fr 12 a [(0, (.agg #[v1, (.int .i64 x1.Hand)]))] := hF
  refine sq ?_
  refine rg ?_
  refine ste hF (e_box (cs := [v1, (.int .i64 x1.Hand)]) hS rfl rfl) (by decide) (fun v w a hR hF => ?_)
  obtain ⟨g1, rfl, hS⟩ := hR
  refine ste hF (e_alloc (cs := [(.slice none 0 0), (.int .i64 0)]) hS ti_52 rfl) (by decide) (fun v w a hR hF => ?_)
  obtain ⟨g2, rfl, hS⟩ := hR
  refine nilN ?_
  refine xn ?_
  refine sq ?_
  refine rg ?_
  refine ste hF (e_alloc (cs := [(.slice none 0 0), (.int .i64 0)]) hS ti_52 rfl) (by decide) (fun v w a hR hF => ?_)
  obtain ⟨g3, rfl, hS⟩ := hR
  refine nilN ?_
  refine xn ?_
  refine sq ?_
  refine rg ?_
  refine stp hF (p_fldb (o' := 0) rfl fi_33_0 rfl) (by decide) (fun a hF => ?_)
  refine stp hF (p_ldb_one (i := 2) hS rfl rfl ia_31 rfl) (by decide) (fun a hF => ?_)
  obtain ⟨x2, hx1, H⟩ := hb H
  refine ste hF (e_callA (fst := []) (vs := [v1]) (cap := []) rfl rfl go_116 (St.call (A := []) (B := [pt g3 52 ([(.slice none 0 0), (.int .i64 0)]), pt g2 52 ([(.slice none 0 0), (.int .i64 0)]), pt g1 33 ([v1, (.int .i64 x1.Hand)])]) hS (laws_toSeatS.spec k _ _ x1.Seats v1 h1 _ hx1)) rfl) (by decide) (fun v w a hR hF => ?_)
  obtain ⟨s2, A2, hg1, hS, hR⟩ := hR
  obtain ⟨v2, hv1, rfl⟩ := hR; obtain rfl := hv1.symm
  have hS : St e s2 w [Ow kTSeat 105 v2 x2, pt g3 52 ([(.slice none 0 0), (.int .i64 0)]), pt g2 52 ([(.slice none 0 0), (.int .i64 0)]), pt g1 33 ([v1, (.int .i64 x1.Hand)])] := hS
  refine stp hF (p_fldb (o' := 0) rfl fi_52_0 rfl) (by decide) (fun a hF => ?_)
  refine ste0 hF (e_stb (i := 1) (l := []) (m := [(.slice none 0 0)]) (r := [(.int .i64 0)]) (m' := [v2]) (cs' := [v2, (.int .i64 0)]) hS rfl rfl rfl ti_50 rfl rfl rfl (cells_one (hS.one_ow (i := 0) rfl)) rfl (one_cons (hS.one_ow (i := 0) rfl) one_nil) rfl) (fun v w a hR hF => ?_)
  have hS : St e s2 w [pt g3 52 ([v2, (.int .i64 0)]), Ow kTSeat 105 v2 x2, pt g2 52 ([(.slice none 0 0), (.int .i64 0)]), pt g1 33 ([v1, (.int .i64 x1.Hand)])] := hR
  refine nilN ?_
  refine xn ?_
  refine sq ?_
  refine rg ?_
  refine stp hF (p_fldb (o' := 1) rfl fi_33_1 rfl) (by decide) (fun a hF => ?_)
  refine stp hF (p_ldb_one (i := 3) hS rfl rfl ia_3 rfl) (by decide) (fun a hF => ?_)
  refine stp hF (p_fldb (o' := 1) rfl fi_52_1 rfl) (by decide) (fun a hF => ?_)
  refine ste0 hF (e_stb (i := 0) (l := [v2]) (m := [(.int .i64 0)]) (r := []) (m' := [(.int .i64 x1.Hand)]) (cs' := [v2, (.int .i64 x1.Hand)]) hS rfl rfl rfl ti_3 rfl rfl rfl rfl rfl (one_cons rfl one_nil) rfl) (fun v w a hR hF => ?_)
  have hS : St e s2 w [pt g3 52 ([v2, (.int .i64 x1.Hand)]), Ow kTSeat 105 v2 x2, pt g2 52 ([(.slice none 0 0), (.int .i64 0)]), pt g1 33 ([v1, (.int .i64 x1.Hand)])] := hR
  refine nilN ?_
  refine xn ?_
  refine sq ?_
  refine rg ?_
  refine stp hF (p_ldb_agg (i := 0) (l := []) (m := [v2, (.int .i64 x1.Hand)]) (r := []) hS rfl rfl ia_52 ti_52 rfl rfl rfl) (by decide) (fun a hF => ?_)
  refine ste0 hF (e_stb (i := 2) (l := []) (m := [(.slice none 0 0), (.int .i64 0)]) (r := []) (m' := [v2, (.int .i64 x1.Hand)]) (cs' := [v2, (.int .i64 x1.Hand)]) hS rfl rfl rfl ti_52 rfl rfl rfl rfl rfl (one_cons (hS.one_ow (i := 1) rfl) (one_cons rfl one_nil)) rfl) (fun v w a hR hF => ?_)
  have hS : St e s2 w [pt g2 52 ([v2, (.int .i64 x1.Hand)]), pt g3 52 ([v2, (.int .i64 x1.Hand)]), Ow kTSeat 105 v2 x2, pt g1 33 ([v1, (.int .i64 x1.Hand)])] := hR
  refine nilN ?_
  refine xn ?_
  refine rt ?_
  obtain rfl := hsm H
  have h2 : RvOk Tryz.prog _ w (.cell 2 52) _ := rvC (i := 0) hS rfl (show lk [(2, (.pointer (some ⟨g2, 0, none⟩)))] 2 = _ from rfl) ia_52 ti_52 rfl
  replace hS := hS.sel (is := [2]) (A' := [Ow kTSeat 105 v2 x2]) rfl
  exact retc1 hF rfl h2 hS ⟨v2, rfl, rfl⟩

def laws_toLive.f (k : Nat) (x1 : TLive) : Option TLive :=
  (some x1)
set_option maxRecDepth 100000 in
set_option maxHeartbeats 4000000 in
theorem laws_toLive.spec (k : Nat) (s0 : HF) (w : World) (x1 : TLive) (r : TLive) (H : laws_toLive.f k x1 = some r) :
    Law Tryz.prog 118 #[(.agg #[(.int .i64 x1.Tx), (.int .i64 x1.Last), (.bool x1.Aborts)])] s0 w [] (fun v s1 A1 => v = (.agg #[(.int .i64 r.Tx), (.int .i64 r.Last), (.bool r.Aborts)]) ∧ A1 = []) := by
  unfold laws_toLive.f at H
  refine Law.intro Tryz.func118 rfl [(0, (.agg #[(.int .i64 x1.Tx), (.int .i64 x1.Last), (.bool x1.Aborts)]))] (Nat.le_of_ble_eq_true rfl) (enter_lk ⟨rfl, trivial⟩) (fun e a hS hF => ?_)
  have hF : Fr 14 a [(0, (.agg #[(.int .i64 x1.Tx), (.int .i64 x1.Last), (.bool x1.Aborts)]))] := hF
  refine sq ?_
  refine rg ?_
  refine ste hF (e_box (cs := [(.int .i64 x1.Tx), (.int .i64 x1.Last), (.bool x1.Aborts)]) hS rfl rfl) (by decide) (fun v w a hR hF => ?_)
  obtain ⟨g1, rfl, hS⟩ := hR
  refine ste hF (e_alloc (cs := [(.int .i64 0), (.int .i64 0), (.bool false)]) hS ti_169 rfl) (by decide) (fun v w a hR hF => ?_)
  obtain ⟨g2, rfl, hS⟩ := hR
  refine nilN ?_
  refine xn ?_
  refine sq ?_
  refine rg ?_
  refine ste hF (e_alloc (cs := [(.int .i64 0), (.int .i64 0), (.bool false)]) hS ti_169 rfl) (by decide) (fun v w a hR hF => ?_)
  obtain ⟨g3, rfl, hS⟩ := hR
  refine nilN ?_
  refine xn ?_
  refine sq ?_
  refine rg ?_
  refine stp hF (p_fldb (o' := 0) rfl fi_184_0 rfl) (by decide) (fun a hF => ?_)
  refine stp hF (p_ldb_one (i := 2) hS rfl rfl ia_3 rfl) (by decide) (fun a hF => ?_)
  refine stp hF (p_fldb (o' := 0) rfl fi_169_0 rfl) (by decide) (fun a hF => ?_)
  refine ste0 hF (e_stb (i := 0) (l := []) (m := [(.int .i64 0)]) (r := [(.int .i64 0), (.bool false)]) (m' := [(.int .i64 x1.Tx)]) (cs' := [(.int .i64 x1.Tx), (.int .i64 0), (.bool false)]) hS rfl rfl rfl ti_3 rfl rfl rfl rfl rfl (one_cons rfl one_nil) rfl) (fun v w a hR hF => ?_)
  have hS : St e s0 w [pt g3 169 ([(.int .i64 x1.Tx), (.int .i64 0), (.bool false)]), pt g2 169 ([(.int .i64 0), (.int .i64 0), (.bool false)]), pt g1 184 ([(.int .i64 x1.Tx), (.int .i64 x1.Last), (.bool x1.Aborts)])] := hR
  refine nilN ?_
  refine xn ?_
  refine sq ?_
  refine rg ?_
  refine stp hF (p_fldb (o' := 1) rfl fi_184_1 rfl) (by decide) (fun a hF => ?_)
  refine stp hF (p_ldb_one (i := 2) hS rfl rfl ia_3 rfl) (by decide) (fun a hF => ?_)
  refine stp hF (p_fldb (o' := 1) rfl fi_169_1 rfl) (by decide) (fun a hF => ?_)
  refine ste0 hF (e_stb (i := 0) (l := [(.int .i64 x1.Tx)]) (m := [(.int .i64 0)]) (r := [(.bool false)]) (m' := [(.int .i64 x1.Last)]) (cs' := [(.int .i64 x1.Tx), (.int .i64 x1.Last), (.bool false)]) hS rfl rfl rfl ti_3 rfl rfl rfl rfl rfl (one_cons rfl one_nil) rfl) (fun v w a hR hF => ?_)
  have hS : St e s0 w [pt g3 169 ([(.int .i64 x1.Tx), (.int .i64 x1.Last), (.bool false)]), pt g2 169 ([(.int .i64 0), (.int .i64 0), (.bool false)]), pt g1 184 ([(.int .i64 x1.Tx), (.int .i64 x1.Last), (.bool x1.Aborts)])] := hR
  refine nilN ?_
  refine xn ?_
  refine sq ?_
  refine rg ?_
  refine stp hF (p_fldb (o' := 2) rfl fi_184_2 rfl) (by decide) (fun a hF => ?_)
  refine stp hF (p_ldb_one (i := 2) hS rfl rfl ia_4 rfl) (by decide) (fun a hF => ?_)
  refine stp hF (p_fldb (o' := 2) rfl fi_169_2 rfl) (by decide) (fun a hF => ?_)
  refine ste0 hF (e_stb (i := 0) (l := [(.int .i64 x1.Tx), (.int .i64 x1.Last)]) (m := [(.bool false)]) (r := []) (m' := [(.bool x1.Aborts)]) (cs' := [(.int .i64 x1.Tx), (.int .i64 x1.Last), (.bool x1.Aborts)]) hS rfl rfl rfl ti_4 rfl rfl rfl rfl rfl (one_cons rfl one_nil) rfl) (fun v w a hR hF => ?_)
  have hS : St e s0 w [pt g3 169 ([(.int .i64 x1.Tx), (.int .i64 x1.Last), (.bool x1.Aborts)]), pt g2 169 ([(.int .i64 0), (.int .i64 0), (.bool false)]), pt g1 184 ([(.int .i64 x1.Tx), (.int .i64 x1.Last), (.bool x1.Aborts)])] := hR
  refine nilN ?_
  refine xn ?_
  refine sq ?_
  refine rg ?_
  refine stp hF (p_ldb_agg (i := 0) (l := []) (m := [(.int .i64 x1.Tx), (.int .i64 x1.Last), (.bool x1.Aborts)]) (r := []) hS rfl rfl ia_169 ti_169 rfl rfl rfl) (by decide) (fun a hF => ?_)
  refine ste0 hF (e_stb (i := 1) (l := []) (m := [(.int .i64 0), (.int .i64 0), (.bool false)]) (r := []) (m' := [(.int .i64 x1.Tx), (.int .i64 x1.Last), (.bool x1.Aborts)]) (cs' := [(.int .i64 x1.Tx), (.int .i64 x1.Last), (.bool x1.Aborts)]) hS rfl rfl rfl ti_169 rfl rfl rfl rfl rfl (one_cons rfl (one_cons rfl (one_cons rfl one_nil))) rfl) (fun v w a hR hF => ?_)
  have hS : St e s0 w [pt g2 169 ([(.int .i64 x1.Tx), (.int .i64 x1.Last), (.bool x1.Aborts)]), pt g3 169 ([(.int .i64 x1.Tx), (.int .i64 x1.Last), (.bool x1.Aborts)]), pt g1 184 ([(.int .i64 x1.Tx), (.int .i64 x1.Last), (.bool x1.Aborts)])] := hR
  refine nilN ?_
  refine xn ?_
  refine rt ?_
  obtain rfl := hsm H
  have h1 : RvOk Tryz.prog _ w (.cell 2 169) _ := rvC (i := 0) hS rfl (show lk [(2, (.pointer (some ⟨g2, 0, none⟩)))] 2 = _ from rfl) ia_169 ti_169 rfl
  replace hS := hS.sel (is := []) (A' := []) rfl
  exact retc1 hF rfl h1 hS ⟨rfl, rfl⟩

def laws_toLiveS.c1 (k : Nat) (x1 : (List TLive)) : Option (List TLive) :=
  (some x1)
def laws_toLiveS.l1 (x2 : (List TLive)) : Nat → (List TLive) → Int → Option (List TLive)
  | 0, _, _ => none
  | k + 1, x3, x4 => (if (decide (x4 < (x2.length : Int))) = true then (if 0 ≤ x4 ∧ x4 < (x2.length : Int) then ((laws_toLive.f k (rd x2 x4)).bind fun x5 => (if 0 ≤ x4 ∧ x4 < (x3.length : Int) then ((laws_toLiveS.l1 x2 k) (wr x3 x4 x5) (w64 (x4 + 1))) else none)) else none) else (some x3))
def laws_toLiveS.f (k : Nat) (x2 : (List TLive)) : Option (List TLive) :=
  (if 0 ≤ (x2.length : Int) ∧ (x2.length : Int) * 24 ≤ 140737488355328 then (((laws_toLiveS.l1 x2 k (List.replicate (x2.length : Int).toNat (⟨0, 0, false⟩ : TLive)) 0) : Option (List TLive)).bind fun x6 => laws_toLiveS.c1 k x6) else none)
set_option maxRecDepth 100000 in
set_option maxHeartbeats 4000000 in
theorem laws_toLiveS.spec (k : Nat) (s0 : HF) (w : World) (x2 : (List TLive)) (v1 : Value) (h1 : Sl kTLive s0 v1 x2) (r : (List TLive)) (H : laws_toLiveS.f k x2 = some r) :
    Law Tryz.prog 45 #[v1] s0 w [] (fun v s1 A1 => ∃ (u0 : Value), v = u0 ∧ A1 = [Ow kTLive 169 u0 r]) := by
  unfold laws_toLiveS.f at H
  refine Law.intro Tryz.func45 rfl [(0, v1)] (Nat.le_of_ble_eq_true rfl) (enter_lk ⟨rfl, trivial⟩) (fun e a hS hF => ?_)
  have hF : Fr 23 a [(0, v1)] := hF
  refine sq ?_
  refine rg ?_
  refine stp hF (p_assign rfl) (by decide) (fun a hF => ?_)
  refine nilN ?_
  refine xn ?_
  refine sq ?_
  refine rg ?_
  refine stp hF (p_move rfl) (by decide) (fun a hF => ?_)
  refine stp hF (p_lenr un_37 rfl h1) (by decide) (fun a hF => ?_)
  obtain ⟨hq1, H⟩ := hck H
  refine ste hF (e_make (kd := kTLive) (x0 := (⟨0, 0, false⟩ : TLive)) (c := [(.int .i64 0), (.int .i64 0), (.bool false)]) hS rfl rfl un_56 ti_169 rfl (kTLive_mk (x := (⟨0, 0, false⟩ : TLive)) ) hq1.1 (by decide) hq1.2) (by decide) (fun v2 w a hR hF => ?_)
  have hS : St e s0 w [Ow kTLive 169 v2 (List.replicate (x2.length : Int).toNat (⟨0, 0, false⟩ : TLive))] := hR
  refine stp hF (p_assign rfl) (by decide) (fun a hF => ?_)
  refine nilN ?_
  refine xn ?_
  obtain ⟨x6, H, HK1⟩ := hb H
  refine sqj (fun a w => ∃ (x1 : (List TLive)) (s2 : HF) , St e s2 w [Ow kTLive 169 v2 x1] ∧ Fr 23 a [(3, v2)] ∧ Sub s0 s2 ∧ laws_toLiveS.c1 k x1 = some r) ?_ ?_
  · skip
    refine sq ?_
    refine rg ?_
    refine stp hF (p_assign rfl) (by decide) (fun a hF => ?_)
    refine nilN ?_
    refine xn ?_
    refine blk ?_
    refine loop_ind (fun k1 a w => ∃ (x3 : (List TLive)) (x4 : Int) (s3 : HF) , St e s3 w [Ow kTLive 169 v2 x3] ∧ Fr 23 a [(0, v1), (3, v2), (4, (.int .i64 x4))] ∧ Sub s0 s3 ∧ laws_toLiveS.l1 x2 k1 x3 x4 = some x6) k ?_ ?_ ?_
    · skip
      exact ⟨(List.replicate (x2.length : Int).toNat (⟨0, 0, false⟩ : TLive)), 0, s0, hS, hF.cut ⟨rfl, rfl, rfl, trivial⟩, (Sub.refl _), H⟩
    · clear H hS hF
      rintro a w ⟨x3, x4, s3, hS, hF, hg1, H⟩
      exact absurd (show none = some _ from H) (by simp)
    · clear H hS hF
      rintro k1 a w ⟨x3, x4, s3, hS, hF, hg1, H⟩
      rw [laws_toLiveS.l1.eq_2] at H
      refine sq ?_
      refine sq ?_
      refine rg ?_
      refine stp hF (p_move rfl) (by decide) (fun a hF => ?_)
      refine stp hF (p_move rfl) (by decide) (fun a hF => ?_)
      refine stp hF (p_lenr un_37 rfl (h1.mono hg1)) (by decide) (fun a hF => ?_)
      refine stp hF (p_lss rfl rfl) (by decide) (fun a hF => ?_)
      refine nilN ?_
      refine xn ?_
      refine cnd hF rfl (fun hc1 => ?_) (fun hc1 => ?_)
      · replace H := hbt hc1 H
        refine skN ?_
        refine xn ?_
        refine sq ?_
        refine blk ?_
        refine rg ?_
        refine stp hF (p_move rfl) (by decide) (fun a hF => ?_)
        refine stp hF (p_move rfl) (by decide) (fun a hF => ?_)
        refine stp hF (p_move rfl) (by decide) (fun a hF => ?_)
        refine stp hF (p_move rfl) (by decide) (fun a hF => ?_)
        obtain ⟨hq2, H⟩ := hck H
        obtain ⟨ad1, h2, p1⟩ := p_idxr (P := Tryz.prog) (i := x4) (h1.mono hg1) un_37 ti_184 hq2.1 hq2.2
        refine stp hF (p1 rfl rfl) (by decide) (fun a hF => ?_)
        obtain ⟨c2, h3, p2⟩ := p_ldr_agg (P := Tryz.prog) h2 ia_184 ti_184
        obtain rfl := kTLive_open h3
        refine stp hF (p2 rfl hS.ro) (by decide) (fun a hF => ?_)
        obtain ⟨x5, hx1, H⟩ := hb H
        refine ste hF (e_callA (fst := []) (vs := [(.agg #[(.int .i64 ((rd x2 x4).Tx)), (.int .i64 ((rd x2 x4).Last)), (.bool ((rd x2 x4).Aborts))])]) (cap := []) rfl rfl go_118 (St.call (A := []) (B := [Ow kTLive 169 v2 x3]) hS (laws_toLive.spec k1 _ _ (rd x2 x4) _ hx1)) rfl) (by decide) (fun v w a hR hF => ?_)
        obtain ⟨s4, A2, hg2, hS, hR⟩ := hR
        obtain ⟨hv1, rfl⟩ := hR; obtain rfl := hv1.symm
        have hS : St e s4 w [Ow kTLive 169 v2 x3] := hS
        obtain ⟨hq3, H⟩ := hck H
        obtain ⟨b1, o1, q1, hv2, p3⟩ := p_idxo (n := 0) (i := x4) hS rfl un_56 ti_169 hq3.1 hq3.2
        refine stp hF (p3 rfl rfl) (by decide) (fun a hF => ?_)
        refine ste0 hF (e_sto (n := 0) (c := x5) hS rfl hv2 (Lens.id _) hq3.1 hq3.2 rfl rfl rfl ti_169 rfl (kTLive_mk (x := x5) )) (fun v w a hR hF => ?_)
        have hS : St e s4 w [Ow kTLive 169 v2 (wr x3 x4 x5)] := hR
        refine nilN ?_
        refine bn (xn ?_)
        refine rg ?_
        refine stp hF (p_move rfl) (by decide) (fun a hF => ?_)
        refine stp hF (p_add (c := w64 (x4 + 1)) rfl rfl rfl) (by decide) (fun a hF => ?_)
        refine stp hF (p_assign rfl) (by decide) (fun a hF => ?_)
        refine nilN ?_
        refine xn ?_
        exact ⟨(wr x3 x4 x5), (w64 (x4 + 1)), s4, hS, hF.cut ⟨rfl, rfl, rfl, trivial⟩, (hg1.trans hg2), H⟩
      · replace H := hbf hc1 H
        refine exi ?_
        refine xe (xe (hit (xn ?_)))
        obtain rfl := hsm H
        exact ⟨x3, s3, hS, hF.cut ⟨rfl, trivial⟩, hg1, HK1⟩
  · clear H HK1 hS hF
    rintro a w ⟨x1, s2, hS, hF, hg3, H⟩
    unfold laws_toLiveS.c1 at H
    refine sq ?_
    refine rg ?_
    refine stp hF (p_move rfl) (by decide) (fun a hF => ?_)
    refine stp hF (p_assign rfl) (by decide) (fun a hF => ?_)
    refine nilN ?_
    refine xn ?_
    refine rt ?_
    obtain rfl := hsm H
    exact ret1 hF rfl rfl hS ⟨v2, rfl, rfl⟩

def laws_toRec.f (k : Nat) (x1 : TRec) : Option TRec :=
  ((laws_toSlot.f k x1.Before).bind fun x2 => ((laws_toSlot.f k x1.After).bind fun x3 => ((laws_toLiveS.f k x1.Txs).bind fun x4 => (some (⟨x1.Lsn, x1.Tx, x1.Prev, x1.Kind, x1.Oid, (⟨x2.Has, (⟨x2.O.Kind, x2.O.Ints, x2.O.Refs⟩ : TObj)⟩ : TSlot), (⟨x3.Has, (⟨x3.O.Kind, x3.O.Ints, x3.O.Refs⟩ : TObj)⟩ : TSlot), x1.Next, x4⟩ : TRec)))))
set_option maxRecDepth 100000 in
set_option maxHeartbeats 4000000 in
theorem laws_toRec.spec (k : Nat) (s0 : HF) (w : World) (x1 : TRec) (v1 : Value) (v2 : Value) (v3 : Value) (v4 : Value) (v5 : Value) (h1 : Sl (Kd.int .i64) s0 v1 x1.Before.O.Ints) (h2 : Sl (Kd.int .i64) s0 v2 x1.Before.O.Refs) (h3 : Sl (Kd.int .i64) s0 v3 x1.After.O.Ints) (h4 : Sl (Kd.int .i64) s0 v4 x1.After.O.Refs) (h5 : Sl kTLive s0 v5 x1.Txs) (r : TRec) (H : laws_toRec.f k x1 = some r) :
    Law Tryz.prog 206 #[(.agg #[(.int .i64 x1.Lsn), (.int .i64 x1.Tx), (.int .i64 x1.Prev), (.int .i64 x1.Kind), (.int .i64 x1.Oid), (.bool x1.Before.Has), (.int .i64 x1.Before.O.Kind), v1, v2, (.bool x1.After.Has), (.int .i64 x1.After.O.Kind), v3, v4, (.int .i64 x1.Next), v5])] s0 w [] (fun v s1 A1 => ∃ (u0 : Value) (u1 : Value) (u2 : Value) (u3 : Value) (u4 : Value), v = (.agg #[(.int .i64 r.Lsn), (.int .i64 r.Tx), (.int .i64 r.Prev), (.int .i64 r.Kind), (.int .i64 r.Oid), (.bool r.Before.Has), (.int .i64 r.Before.O.Kind), u0, u1, (.bool r.After.Has), (.int .i64 r.After.O.Kind), u2, u3, (.int .i64 r.Next), u4]) ∧ A1 = [Ow (Kd.int .i64) 3 u0 r.Before.O.Ints, Ow (Kd.int .i64) 3 u1 r.Before.O.Refs, Ow (Kd.int .i64) 3 u2 r.After.O.Ints, Ow (Kd.int .i64) 3 u3 r.After.O.Refs, Ow kTLive 169 u4 r.Txs]) := by
  unfold laws_toRec.f at H
  refine Law.intro Tryz.func206 rfl [(0, (.agg #[(.int .i64 x1.Lsn), (.int .i64 x1.Tx), (.int .i64 x1.Prev), (.int .i64 x1.Kind), (.int .i64 x1.Oid), (.bool x1.Before.Has), (.int .i64 x1.Before.O.Kind), v1, v2, (.bool x1.After.Has), (.int .i64 x1.After.O.Kind), v3, v4, (.int .i64 x1.Next), v5]))] (Nat.le_of_ble_eq_true rfl) (enter_lk ⟨rfl, trivial⟩) (fun e a hS hF => ?_)
  have hF : Fr 35 a [(0, (.agg #[(.int .i64 x1.Lsn), (.int .i64 x1.Tx), (.int .i64 x1.Prev), (.int .i64 x1.Kind), (.int .i64 x1.Oid), (.bool x1.Before.Has), (.int .i64 x1.Before.O.Kind), v1, v2, (.bool x1.After.Has), (.int .i64 x1.After.O.Kind), v3, v4, (.int .i64 x1.Next), v5]))] := hF
  refine sq ?_
  refine rg ?_
  refine ste hF (e_box (cs := [(.int .i64 x1.Lsn), (.int .i64 x1.Tx), (.int .i64 x1.Prev), (.int .i64 x1.Kind), (.int .i64 x1.Oid), (.bool x1.Before.Has), (.int .i64 x1.Before.O.Kind), v1, v2, (.bool x1.After.Has), (.int .i64 x1.After.O.Kind), v3, v4, (.int .i64 x1.Next), v5]) hS rfl rfl) (by decide) (fun v w a hR hF => ?_)
  obtain ⟨g1, rfl, hS⟩ := hR
  refine ste hF (e_alloc (cs := [(.int .i64 0), (.int .i64 0), (.int .i64 0), (.int .i64 0), (.int .i64 0), (.bool false), (.int .i64 0), (.slice none 0 0), (.slice none 0 0), (.bool false), (.int .i64 0), (.slice none 0 0), (.slice none 0 0), (.int .i64 0), (.slice none 0 0)]) hS ti_162 rfl) (by decide) (fun v w a hR hF => ?_)
  obtain ⟨g2, rfl, hS⟩ := hR
  refine nilN ?_
  refine xn ?_
  refine sq ?_
  refine rg ?_
  refine ste hF (e_alloc (cs := [(.int .i64 0), (.int .i64 0), (.int .i64 0), (.int .i64 0), (.int .i64 0), (.bool false), (.int .i64 0), (.slice none 0 0), (.slice none 0 0), (.bool false), (.int .i64 0), (.slice none 0 0), (.slice none 0 0), (.int .i64 0), (.slice none 0 0)]) hS ti_162 rfl) (by decide) (fun v w a hR hF => ?_)
  obtain ⟨g3, rfl, hS⟩ := hR
  refine nilN ?_
  refine xn ?_
  refine sq ?_
  refine rg ?_
  refine stp hF (p_fldb (o' := 0) rfl fi_248_0 rfl) (by decide) (fun a hF => ?_)
  refine stp hF (p_ldb_one (i := 2) hS rfl rfl ia_3 rfl) (by decide) (fun a hF => ?_)
  refine stp hF (p_fldb (o' := 0) rfl fi_162_0 rfl) (by decide) (fun a hF => ?_)
  refine ste0 hF (e_stb (i := 0) (l := []) (m := [(.int .i64 0)]) (r := [(.int .i64 0), (.int .i64 0), (.int .i64 0), (.int .i64 0), (.bool false), (.int .i64 0), (.slice none 0 0), (.slice none 0 0), (.bool false), (.int .i64 0), (.slice none 0 0), (.slice none 0 0), (.int .i64 0), (.slice none 0 0)]) (m' := [(.int .i64 x1.Lsn)]) (cs' := [(.int .i64 x1.Lsn), (.int .i64 0), (.int .i64 0), (.int .i64 0), (.int .i64 0), (.bool false), (.int .i64 0), (.slice none 0 0), (.slice none 0 0), (.bool false), (.int .i64 0), (.slice none 0 0), (.slice none 0 0), (.int .i64 0), (.slice none 0 0)]) hS rfl rfl rfl ti_3 rfl rfl rfl rfl rfl (one_cons rfl one_nil) rfl) (fun v w a hR hF => ?_)
  have hS : St e s0 w [pt g3 162 ([(.int .i64 x1.Lsn), (.int .i64 0), (.int .i64 0), (.int .i64 0), (.int .i64 0), (.bool false), (.int .i64 0), (.slice none 0 0), (.slice none 0 0), (.bool false), (.int .i64 0), (.slice none 0 0), (.slice none 0 0), (.int .i64 0), (.slice none 0 0)]), pt g2 162 ([(.int .i64 0), (.int .i64 0), (.int .i64 0), (.int .i64 0), (.int .i64 0), (.bool false), (.int .i64 0), (.slice none 0 0), (.slice none 0 0), (.bool false), (.int .i64 0), (.slice none 0 0), (.slice none 0 0), (.int .i64 0), (.slice none 0 0)]), pt g1 248 ([(.int .i64 x1.Lsn), (.int .i64 x1.Tx), (.int .i64 x1.Prev), (.int .i64 x1.Kind), (.int .i64 x1.Oid), (.bool x1.Before.Has), (.int .i64 x1.Before.O.Kind), v1, v2, (.bool x1.After.Has), (.int .i64 x1.After.O.Kind), v3, v4, (.int .i64 x1.Next), v5])] := hR
  refine nilN ?_
  refine xn ?_
  refine sq ?_
  refine rg ?_
  refine stp hF (p_fldb (o' := 1) rfl fi_248_1 rfl) (by decide) (fun a hF => ?_)
  refine stp hF (p_ldb_one (i := 2) hS rfl rfl ia_3 rfl) (by decide) (fun a hF => ?_)
  refine stp hF (p_fldb (o' := 1) rfl fi_162_1 rfl) (by decide) (fun a hF => ?_)
  refine ste0 hF (e_stb (i := 0) (l := [(.int .i64 x1.Lsn)]) (m := [(.int .i64 0)]) (r := [(.int .i64 0), (.int .i64 0), (.int .i64 0), (.bool false), (.int .i64 0), (.slice none 0 0), (.slice none 0 0), (.bool false), (.int .i64 0), (.slice none 0 0), (.slice none 0 0), (.int .i64 0), (.slice none 0 0)]) (m' := [(.int .i64 x1.Tx)]) (cs' := [(.int .i64 x1.Lsn), (.int .i64 x1.Tx), (.int .i64 0), (.int .i64 0), (.int .i64 0), (.bool false), (.int .i64 0), (.slice none 0 0), (.slice none 0 0), (.bool false), (.int .i64 0), (.slice none 0 0), (.slice none 0 0), (.int .i64 0), (.slice none 0 0)]) hS rfl rfl rfl ti_3 rfl rfl rfl rfl rfl (one_cons rfl one_nil) rfl) (fun v w a hR hF => ?_)
  have hS : St e s0 w [pt g3 162 ([(.int .i64 x1.Lsn), (.int .i64 x1.Tx), (.int .i64 0), (.int .i64 0), (.int .i64 0), (.bool false), (.int .i64 0), (.slice none 0 0), (.slice none 0 0), (.bool false), (.int .i64 0), (.slice none 0 0), (.slice none 0 0), (.int .i64 0), (.slice none 0 0)]), pt g2 162 ([(.int .i64 0), (.int .i64 0), (.int .i64 0), (.int .i64 0), (.int .i64 0), (.bool false), (.int .i64 0), (.slice none 0 0), (.slice none 0 0), (.bool false), (.int .i64 0), (.slice none 0 0), (.slice none 0 0), (.int .i64 0), (.slice none 0 0)]), pt g1 248 ([(.int .i64 x1.Lsn), (.int .i64 x1.Tx), (.int .i64 x1.Prev), (.int .i64 x1.Kind), (.int .i64 x1.Oid), (.bool x1.Before.Has), (.int .i64 x1.Before.O.Kind), v1, v2, (.bool x1.After.Has), (.int .i64 x1.After.O.Kind), v3, v4, (.int .i64 x1.Next), v5])] := hR
  refine nilN ?_
  refine xn ?_
  refine sq ?_
  refine rg ?_
  refine stp hF (p_fldb (o' := 2) rfl fi_248_2 rfl) (by decide) (fun a hF => ?_)
  refine stp hF (p_ldb_one (i := 2) hS rfl rfl ia_3 rfl) (by decide) (fun a hF => ?_)
  refine stp hF (p_fldb (o' := 2) rfl fi_162_2 rfl) (by decide) (fun a hF => ?_)
  refine ste0 hF (e_stb (i := 0) (l := [(.int .i64 x1.Lsn), (.int .i64 x1.Tx)]) (m := [(.int .i64 0)]) (r := [(.int .i64 0), (.int .i64 0), (.bool false), (.int .i64 0), (.slice none 0 0), (.slice none 0 0), (.bool false), (.int .i64 0), (.slice none 0 0), (.slice none 0 0), (.int .i64 0), (.slice none 0 0)]) (m' := [(.int .i64 x1.Prev)]) (cs' := [(.int .i64 x1.Lsn), (.int .i64 x1.Tx), (.int .i64 x1.Prev), (.int .i64 0), (.int .i64 0), (.bool false), (.int .i64 0), (.slice none 0 0), (.slice none 0 0), (.bool false), (.int .i64 0), (.slice none 0 0), (.slice none 0 0), (.int .i64 0), (.slice none 0 0)]) hS rfl rfl rfl ti_3 rfl rfl rfl rfl rfl (one_cons rfl one_nil) rfl) (fun v w a hR hF => ?_)
  have hS : St e s0 w [pt g3 162 ([(.int .i64 x1.Lsn), (.int .i64 x1.Tx), (.int .i64 x1.Prev), (.int .i64 0), (.int .i64 0), (.bool false), (.int .i64 0), (.slice none 0 0), (.slice none 0 0), (.bool false), (.int .i64 0), (.slice none 0 0), (.slice none 0 0), (.int .i64 0), (.slice none 0 0)]), pt g2 162 ([(.int .i64 0), (.int .i64 0), (.int .i64 0), (.int .i64 0), (.int .i64 0), (.bool false), (.int .i64 0), (.slice none 0 0), (.slice none 0 0), (.bool false), (.int .i64 0), (.slice none 0 0), (.slice none 0 0), (.int .i64 0), (.slice none 0 0)]), pt g1 248 ([(.int .i64 x1.Lsn), (.int .i64 x1.Tx), (.int .i64 x1.Prev), (.int .i64 x1.Kind), (.int .i64 x1.Oid), (.bool x1.Before.Has), (.int .i64 x1.Before.O.Kind), v1, v2, (.bool x1.After.Has), (.int .i64 x1.After.O.Kind), v3, v4, (.int .i64 x1.Next), v5])] := hR
  refine nilN ?_
  refine xn ?_
  refine sq ?_
  refine rg ?_
  refine stp hF (p_fldb (o' := 3) rfl fi_248_3 rfl) (by decide) (fun a hF => ?_)
  refine stp hF (p_ldb_one (i := 2) hS rfl rfl ia_3 rfl) (by decide) (fun a hF => ?_)
  refine stp hF (p_fldb (o' := 3) rfl fi_162_3 rfl) (by decide) (fun a hF => ?_)
  refine ste0 hF (e_stb (i := 0) (l := [(.int .i64 x1.Lsn), (.int .i64 x1.Tx), (.int .i64 x1.Prev)]) (m := [(.int .i64 0)]) (r := [(.int .i64 0), (.bool false), (.int .i64 0), (.slice none 0 0), (.slice none 0 0), (.bool false), (.int .i64 0), (.slice none 0 0), (.slice none 0 0), (.int .i64 0), (.slice none 0 0)]) (m' := [(.int .i64 x1.Kind)]) (cs' := [(.int .i64 x1.Lsn), (.int .i64 x1.Tx), (.int .i64 x1.Prev), (.int .i64 x1.Kind), (.int .i64 0), (.bool false), (.int .i64 0), (.slice none 0 0), (.slice none 0 0), (.bool false), (.int .i64 0), (.slice none 0 0), (.slice none 0 0), (.int .i64 0), (.slice none 0 0)]) hS rfl rfl rfl ti_3 rfl rfl rfl rfl rfl (one_cons rfl one_nil) rfl) (fun v w a hR hF => ?_)
  have hS : St e s0 w [pt g3 162 ([(.int .i64 x1.Lsn), (.int .i64 x1.Tx), (.int .i64 x1.Prev), (.int .i64 x1.Kind), (.int .i64 0), (.bool false), (.int .i64 0), (.slice none 0 0), (.slice none 0 0), (.bool false), (.int .i64 0), (.slice none 0 0), (.slice none 0 0), (.int .i64 0), (.slice none 0 0)]), pt g2 162 ([(.int .i64 0), (.int .i64 0), (.int .i64 0), (.int .i64 0), (.int .i64 0), (.bool false), (.int .i64 0), (.slice none 0 0), (.slice none 0 0), (.bool false), (.int .i64 0), (.slice none 0 0), (.slice none 0 0), (.int .i64 0), (.slice none 0 0)]), pt g1 248 ([(.int .i64 x1.Lsn), (.int .i64 x1.Tx), (.int .i64 x1.Prev), (.int .i64 x1.Kind), (.int .i64 x1.Oid), (.bool x1.Before.Has), (.int .i64 x1.Before.O.Kind), v1, v2, (.bool x1.After.Has), (.int .i64 x1.After.O.Kind), v3, v4, (.int .i64 x1.Next), v5])] := hR
  refine nilN ?_
  refine xn ?_
  refine sq ?_
  refine rg ?_
  refine stp hF (p_fldb (o' := 4) rfl fi_248_4 rfl) (by decide) (fun a hF => ?_)
  refine stp hF (p_ldb_one (i := 2) hS rfl rfl ia_3 rfl) (by decide) (fun a hF => ?_)
  refine stp hF (p_fldb (o' := 4) rfl fi_162_4 rfl) (by decide) (fun a hF => ?_)
  refine ste0 hF (e_stb (i := 0) (l := [(.int .i64 x1.Lsn), (.int .i64 x1.Tx), (.int .i64 x1.Prev), (.int .i64 x1.Kind)]) (m := [(.int .i64 0)]) (r := [(.bool false), (.int .i64 0), (.slice none 0 0), (.slice none 0 0), (.bool false), (.int .i64 0), (.slice none 0 0), (.slice none 0 0), (.int .i64 0), (.slice none 0 0)]) (m' := [(.int .i64 x1.Oid)]) (cs' := [(.int .i64 x1.Lsn), (.int .i64 x1.Tx), (.int .i64 x1.Prev), (.int .i64 x1.Kind), (.int .i64 x1.Oid), (.bool false), (.int .i64 0), (.slice none 0 0), (.slice none 0 0), (.bool false), (.int .i64 0), (.slice none 0 0), (.slice none 0 0), (.int .i64 0), (.slice none 0 0)]) hS rfl rfl rfl ti_3 rfl rfl rfl rfl rfl (one_cons rfl one_nil) rfl) (fun v w a hR hF => ?_)
  have hS : St e s0 w [pt g3 162 ([(.int .i64 x1.Lsn), (.int .i64 x1.Tx), (.int .i64 x1.Prev), (.int .i64 x1.Kind), (.int .i64 x1.Oid), (.bool false), (.int .i64 0), (.slice none 0 0), (.slice none 0 0), (.bool false), (.int .i64 0), (.slice none 0 0), (.slice none 0 0), (.int .i64 0), (.slice none 0 0)]), pt g2 162 ([(.int .i64 0), (.int .i64 0), (.int .i64 0), (.int .i64 0), (.int .i64 0), (.bool false), (.int .i64 0), (.slice none 0 0), (.slice none 0 0), (.bool false), (.int .i64 0), (.slice none 0 0), (.slice none 0 0), (.int .i64 0), (.slice none 0 0)]), pt g1 248 ([(.int .i64 x1.Lsn), (.int .i64 x1.Tx), (.int .i64 x1.Prev), (.int .i64 x1.Kind), (.int .i64 x1.Oid), (.bool x1.Before.Has), (.int .i64 x1.Before.O.Kind), v1, v2, (.bool x1.After.Has), (.int .i64 x1.After.O.Kind), v3, v4, (.int .i64 x1.Next), v5])] := hR
  refine nilN ?_
  refine xn ?_
  refine sq ?_
  refine rg ?_
  refine stp hF (p_fldb (o' := 5) rfl fi_248_5 rfl) (by decide) (fun a hF => ?_)
  refine stp hF (p_ldb_agg (i := 2) (l := [(.int .i64 x1.Lsn), (.int .i64 x1.Tx), (.int .i64 x1.Prev), (.int .i64 x1.Kind), (.int .i64 x1.Oid)]) (m := [(.bool x1.Before.Has), (.int .i64 x1.Before.O.Kind), v1, v2]) (r := [(.bool x1.After.Has), (.int .i64 x1.After.O.Kind), v3, v4, (.int .i64 x1.Next), v5]) hS rfl rfl ia_26 ti_26 rfl rfl rfl) (by decide) (fun a hF => ?_)
  obtain ⟨x2, hx1, H⟩ := hb H
  refine ste hF (e_callA (fst := []) (vs := [(.agg #[(.bool x1.Before.Has), (.int .i64 x1.Before.O.Kind), v1, v2])]) (cap := []) rfl rfl go_253 (St.call (A := []) (B := [pt g3 162 ([(.int .i64 x1.Lsn), (.int .i64 x1.Tx), (.int .i64 x1.Prev), (.int .i64 x1.Kind), (.int .i64 x1.Oid), (.bool false), (.int .i64 0), (.slice none 0 0), (.slice none 0 0), (.bool false), (.int .i64 0), (.slice none 0 0), (.slice none 0 0), (.int .i64 0), (.slice none 0 0)]), pt g2 162 ([(.int .i64 0), (.int .i64 0), (.int .i64 0), (.int .i64 0), (.int .i64 0), (.bool false), (.int .i64 0), (.slice none 0 0), (.slice none 0 0), (.bool false), (.int .i64 0), (.slice none 0 0), (.slice none 0 0), (.int .i64 0), (.slice none 0 0)]), pt g1 248 ([(.int .i64 x1.Lsn), (.int .i64 x1.Tx), (.int .i64 x1.Prev), (.int .i64 x1.Kind), (.int .i64 x1.Oid), (.bool x1.Before.Has), (.int .i64 x1.Before.O.Kind), v1, v2, (.bool x1.After.Has), (.int .i64 x1.After.O.Kind), v3, v4, (.int .i64 x1.Next), v5])]) hS (laws_toSlot.spec k _ _ x1.Before v1 v2 h1 h2 _ hx1)) rfl) (by decide) (fun v w a hR hF => ?_)
  obtain ⟨s2, A2, hg1, hS, hR⟩ := hR
  obtain ⟨v6, v7, hv1, rfl⟩ := hR; obtain rfl := hv1.symm
  have hS : St e s2 w [Ow (Kd.int .i64) 3 v6 x2.O.Ints, Ow (Kd.int .i64) 3 v7 x2.O.Refs, pt g3 162 ([(.int .i64 x1.Lsn), (.int .i64 x1.Tx), (.int .i64 x1.Prev), (.int .i64 x1.Kind), (.int .i64 x1.Oid), (.bool false), (.int .i64 0), (.slice none 0 0), (.slice none 0 0), (.bool false), (.int .i64 0), (.slice none 0 0), (.slice none 0 0), (.int .i64 0), (.slice none 0 0)]), pt g2 162 ([(.int .i64 0), (.int .i64 0), (.int .i64 0), (.int .i64 0), (.int .i64 0), (.bool false), (.int .i64 0), (.slice none 0 0), (.slice none 0 0), (.bool false), (.int .i64 0), (.slice none 0 0), (.slice none 0 0), (.int .i64 0), (.slice none 0 0)]), pt g1 248 ([(.int .i64 x1.Lsn), (.int .i64 x1.Tx), (.int .i64 x1.Prev), (.int .i64 x1.Kind), (.int .i64 x1.Oid), (.bool x1.Before.Has), (.int .i64 x1.Before.O.Kind), v1, v2, (.bool x1.After.Has), (.int .i64 x1.After.O.Kind), v3, v4, (.int .i64 x1.Next), v5])] := hS
  refine stp hF (p_fldb (o' := 5) rfl fi_162_5 rfl) (by decide) (fun a hF => ?_)
  refine ste0 hF (e_stb (i := 2) (l := [(.int .i64 x1.Lsn), (.int .i64 x1.Tx), (.int .i64 x1.Prev), (.int .i64 x1.Kind), (.int .i64 x1.Oid)]) (m := [(.bool false), (.int .i64 0), (.slice none 0 0), (.slice none 0 0)]) (r := [(.bool false), (.int .i64 0), (.slice none 0 0), (.slice none 0 0), (.int .i64 0), (.slice none 0 0)]) (m' := [(.bool x2.Has), (.int .i64 x2.O.Kind), v6, v7]) (cs' := [(.int .i64 x1.Lsn), (.int .i64 x1.Tx), (.int .i64 x1.Prev), (.int .i64 x1.Kind), (.int .i64 x1.Oid), (.bool x2.Has), (.int .i64 x2.O.Kind), v6, v7, (.bool false), (.int .i64 0), (.slice none 0 0), (.slice none 0 0), (.int .i64 0), (.slice none 0 0)]) hS rfl rfl rfl ti_45 rfl rfl rfl rfl rfl (one_cons rfl (one_cons rfl (one_cons (hS.one_ow (i := 0) rfl) (one_cons (hS.one_ow (i := 1) rfl) one_nil)))) rfl) (fun v w a hR hF => ?_)
  have hS : St e s2 w [pt g3 162 ([(.int .i64 x1.Lsn), (.int .i64 x1.Tx), (.int .i64 x1.Prev), (.int .i64 x1.Kind), (.int .i64 x1.Oid), (.bool x2.Has), (.int .i64 x2.O.Kind), v6, v7, (.bool false), (.int .i64 0), (.slice none 0 0), (.slice none 0 0), (.int .i64 0), (.slice none 0 0)]), Ow (Kd.int .i64) 3 v6 x2.O.Ints, Ow (Kd.int .i64) 3 v7 x2.O.Refs, pt g2 162 ([(.int .i64 0), (.int .i64 0), (.int .i64 0), (.int .i64 0), (.int .i64 0), (.bool false), (.int .i64 0), (.slice none 0 0), (.slice none 0 0), (.bool false), (.int .i64 0), (.slice none 0 0), (.slice none 0 0), (.int .i64 0), (.slice none 0 0)]), pt g1 248 ([(.int .i64 x1.Lsn), (.int .i64 x1.Tx), (.int .i64 x1.Prev), (.int .i64 x1.Kind), (.int .i64 x1.Oid), (.bool x1.Before.Has), (.int .i64 x1.Before.O.Kind), v1, v2, (.bool x1.After.Has), (.int .i64 x1.After.O.Kind), v3, v4, (.int .i64 x1.Next), v5])] := hR
  refine nilN ?_
  refine xn ?_
  refine sq ?_
  refine rg ?_
  refine stp hF (p_fldb (o' := 9) rfl fi_248_6 rfl) (by decide) (fun a hF => ?_)
  refine stp hF (p_ldb_agg (i := 4) (l := [(.int .i64 x1.Lsn), (.int .i64 x1.Tx), (.int .i64 x1.Prev), (.int .i64 x1.Kind), (.int .i64 x1.Oid), (.bool x1.Before.Has), (.int .i64 x1.Before.O.Kind), v1, v2]) (m := [(.bool x1.After.Has), (.int .i64 x1.After.O.Kind), v3, v4]) (r := [(.int .i64 x1.Next), v5]) hS rfl rfl ia_26 ti_26 rfl rfl rfl) (by decide) (fun a hF => ?_)
  obtain ⟨x3, hx2, H⟩ := hb H
  refine ste hF (e_callA (fst := []) (vs := [(.agg #[(.bool x1.After.Has), (.int .i64 x1.After.O.Kind), v3, v4])]) (cap := []) rfl rfl go_253 (St.call (A := []) (B := [pt g3 162 ([(.int .i64 x1.Lsn), (.int .i64 x1.Tx), (.int .i64 x1.Prev), (.int .i64 x1.Kind), (.int .i64 x1.Oid), (.bool x2.Has), (.int .i64 x2.O.Kind), v6, v7, (.bool false), (.int .i64 0), (.slice none 0 0), (.slice none 0 0), (.int .i64 0), (.slice none 0 0)]), Ow (Kd.int .i64) 3 v6 x2.O.Ints, Ow (Kd.int .i64) 3 v7 x2.O.Refs, pt g2 162 ([(.int .i64 0), (.int .i64 0), (.int .i64 0), (.int .i64 0), (.int .i64 0), (.bool false), (.int .i64 0), (.slice none 0 0), (.slice none 0 0), (.bool false), (.int .i64 0), (.slice none 0 0), (.slice none 0 0), (.int .i64 0), (.slice none 0 0)]), pt g1 248 ([(.int .i64 x1.Lsn), (.int .i64 x1.Tx), (.int .i64 x1.Prev), (.int .i64 x1.Kind), (.int .i64 x1.Oid), (.bool x1.Before.Has), (.int .i64 x1.Before.O.Kind), v1, v2, (.bool x1.After.Has), (.int .i64 x1.After.O.Kind), v3, v4, (.int .i64 x1.Next), v5])]) hS (laws_toSlot.spec k _ _ x1.After v3 v4 (h3.mono hg1) (h4.mono hg1) _ hx2)) rfl) (by decide) (fun v w a hR hF => ?_)
  obtain ⟨s3, A3, hg2, hS, hR⟩ := hR
  obtain ⟨v8, v9, hv2, rfl⟩ := hR; obtain rfl := hv2.symm
  have hS : St e s3 w [Ow (Kd.int .i64) 3 v8 x3.O.Ints, Ow (Kd.int .i64) 3 v9 x3.O.Refs, pt g3 162 ([(.int .i64 x1.Lsn), (.int .i64 x1.Tx), (.int .i64 x1.Prev), (.int .i64 x1.Kind), (.int .i64 x1.Oid), (.bool x2.Has), (.int .i64 x2.O.Kind), v6, v7, (.bool false), (.int .i64 0), (.slice none 0 0), (.slice none 0 0), (.int .i64 0), (.slice none 0 0)]), Ow (Kd.int .i64) 3 v6 x2.O.Ints, Ow (Kd.int .i64) 3 v7 x2.O.Refs, pt g2 162 ([(.int .i64 0), (.int .i64 0), (.int .i64 0), (.int .i64 0), (.int .i64 0), (.bool false), (.int .i64 0), (.slice none 0 0), (.slice none 0 0), (.bool false), (.int .i64 0), (.slice none 0 0), (.slice none 0 0), (.int .i64 0), (.slice none 0 0)]), pt g1 248 ([(.int .i64 x1.Lsn), (.int .i64 x1.Tx), (.int .i64 x1.Prev), (.int .i64 x1.Kind), (.int .i64 x1.Oid), (.bool x1.Before.Has), (.int .i64 x1.Before.O.Kind), v1, v2, (.bool x1.After.Has), (.int .i64 x1.After.O.Kind), v3, v4, (.int .i64 x1.Next), v5])] := hS
  refine stp hF (p_fldb (o' := 9) rfl fi_162_6 rfl) (by decide) (fun a hF => ?_)
  refine ste0 hF (e_stb (i := 2) (l := [(.int .i64 x1.Lsn), (.int .i64 x1.Tx), (.int .i64 x1.Prev), (.int .i64 x1.Kind), (.int .i64 x1.Oid), (.bool x2.Has), (.int .i64 x2.O.Kind), v6, v7]) (m := [(.bool false), (.int .i64 0), (.slice none 0 0), (.slice none 0 0)]) (r := [(.int .i64 0), (.slice none 0 0)]) (m' := [(.bool x3.Has), (.int .i64 x3.O.Kind), v8, v9]) (cs' := [(.int .i64 x1.Lsn), (.int .i64 x1.Tx), (.int .i64 x1.Prev), (.int .i64 x1.Kind), (.int .i64 x1.Oid), (.bool x2.Has), (.int .i64 x2.O.Kind), v6, v7, (.bool x3.Has), (.int .i64 x3.O.Kind), v8, v9, (.int .i64 0), (.slice none 0 0)]) hS rfl rfl rfl ti_45 rfl rfl rfl rfl rfl (one_cons rfl (one_cons rfl (one_cons (hS.one_ow (i := 0) rfl) (one_cons (hS.one_ow (i := 1) rfl) one_nil)))) rfl) (fun v w a hR hF => ?_)
  have hS : St e s3 w [pt g3 162 ([(.int .i64 x1.Lsn), (.int .i64 x1.Tx), (.int .i64 x1.Prev), (.int .i64 x1.Kind), (.int .i64 x1.Oid), (.bool x2.Has), (.int .i64 x2.O.Kind), v6, v7, (.bool x3.Has), (.int .i64 x3.O.Kind), v8, v9, (.int .i64 0), (.slice none 0 0)]), Ow (Kd.int .i64) 3 v8 x3.O.Ints, Ow (Kd.int .i64) 3 v9 x3.O.Refs, Ow (Kd.int .i64) 3 v6 x2.O.Ints, Ow (Kd.int .i64) 3 v7 x2.O.Refs, pt g2 162 ([(.int .i64 0), (.int .i64 0), (.int .i64 0), (.int .i64 0), (.int .i64 0), (.bool false), (.int .i64 0), (.slice none 0 0), (.slice none 0 0), (.bool false), (.int .i64 0), (.slice none 0 0), (.slice none 0 0), (.int .i64 0), (.slice none 0 0)]), pt g1 248 ([(.int .i64 x1.Lsn), (.int .i64 x1.Tx), (.int .i64 x1.Prev), (.int .i64 x1.Kind), (.int .i64 x1.Oid), (.bool x1.Before.Has), (.int .i64 x1.Before.O.Kind), v1, v2, (.bool x1.After.Has), (.int .i64 x1.After.O.Kind), v3, v4, (.int .i64 x1.Next), v5])] := hR
  refine nilN ?_
  refine xn ?_
  refine sq ?_
  refine rg ?_
  refine stp hF (p_fldb (o' := 13) rfl fi_248_7 rfl) (by decide) (fun a hF => ?_)
  refine stp hF (p_ldb_one (i := 6) hS rfl rfl ia_3 rfl) (by decide) (fun a hF => ?_)
  refine stp hF (p_fldb (o' := 13) rfl fi_162_7 rfl) (by decide) (fun a hF => ?_)
  refine ste0 hF (e_stb (i := 0) (l := [(.int .i64 x1.Lsn), (.int .i64 x1.Tx), (.int .i64 x1.Prev), (.int .i64 x1.Kind), (.int .i64 x1.Oid), (.bool x2.Has), (.int .i64 x2.O.Kind), v6, v7, (.bool x3.Has), (.int .i64 x3.O.Kind), v8, v9]) (m := [(.int .i64 0)]) (r := [(.slice none 0 0)]) (m' := [(.int .i64 x1.Next)]) (cs' := [(.int .i64 x1.Lsn), (.int .i64 x1.Tx), (.int .i64 x1.Prev), (.int .i64 x1.Kind), (.int .i64 x1.Oid), (.bool x2.Has), (.int .i64 x2.O.Kind), v6, v7, (.bool x3.Has), (.int .i64 x3.O.Kind), v8, v9, (.int .i64 x1.Next), (.slice none 0 0)]) hS rfl rfl rfl ti_3 rfl rfl rfl rfl rfl (one_cons rfl one_nil) rfl) (fun v w a hR hF => ?_)
  have hS : St e s3 w [pt g3 162 ([(.int .i64 x1.Lsn), (.int .i64 x1.Tx), (.int .i64 x1.Prev), (.int .i64 x1.Kind), (.int .i64 x1.Oid), (.bool x2.Has), (.int .i64 x2.O.Kind), v6, v7, (.bool x3.Has), (.int .i64 x3.O.Kind), v8, v9, (.int .i64 x1.Next), (.slice none 0 0)]), Ow (Kd.int .i64) 3 v8 x3.O.Ints, Ow (Kd.int .i64) 3 v9 x3.O.Refs, Ow (Kd.int .i64) 3 v6 x2.O.Ints, Ow (Kd.int .i64) 3 v7 x2.O.Refs, pt g2 162 ([(.int .i64 0), (.int .i64 0), (.int .i64 0), (.int .i64 0), (.int .i64 0), (.bool false), (.int .i64 0), (.slice none 0 0), (.slice none 0 0), (.bool false), (.int .i64 0), (.slice none 0 0), (.slice none 0 0), (.int .i64 0), (.slice none 0 0)]), pt g1 248 ([(.int .i64 x1.Lsn), (.int .i64 x1.Tx), (.int .i64 x1.Prev), (.int .i64 x1.Kind), (.int .i64 x1.Oid), (.bool x1.Before.Has), (.int .i64 x1.Before.O.Kind), v1, v2, (.bool x1.After.Has), (.int .i64 x1.After.O.Kind), v3, v4, (.int .i64 x1.Next), v5])] := hR
  refine nilN ?_
  refine xn ?_
  refine sq ?_
  refine rg ?_
  refine stp hF (p_fldb (o' := 14) rfl fi_248_8 rfl) (by decide) (fun a hF => ?_)
  refine stp hF (p_ldb_one (i := 6) hS rfl rfl ia_37 rfl) (by decide) (fun a hF => ?_)
  obtain ⟨x4, hx3, H⟩ := hb H
  refine ste hF (e_callA (fst := []) (vs := [v5]) (cap := []) rfl rfl go_45 (St.call (A := []) (B := [pt g3 162 ([(.int .i64 x1.Lsn), (.int .i64 x1.Tx), (.int .i64 x1.Prev), (.int .i64 x1.Kind), (.int .i64 x1.Oid), (.bool x2.Has), (.int .i64 x2.O.Kind), v6, v7, (.bool x3.Has), (.int .i64 x3.O.Kind), v8, v9, (.int .i64 x1.Next), (.slice none 0 0)]), Ow (Kd.int .i64) 3 v8 x3.O.Ints, Ow (Kd.int .i64) 3 v9 x3.O.Refs, Ow (Kd.int .i64) 3 v6 x2.O.Ints, Ow (Kd.int .i64) 3 v7 x2.O.Refs, pt g2 162 ([(.int .i64 0), (.int .i64 0), (.int .i64 0), (.int .i64 0), (.int .i64 0), (.bool false), (.int .i64 0), (.slice none 0 0), (.slice none 0 0), (.bool false), (.int .i64 0), (.slice none 0 0), (.slice none 0 0), (.int .i64 0), (.slice none 0 0)]), pt g1 248 ([(.int .i64 x1.Lsn), (.int .i64 x1.Tx), (.int .i64 x1.Prev), (.int .i64 x1.Kind), (.int .i64 x1.Oid), (.bool x1.Before.Has), (.int .i64 x1.Before.O.Kind), v1, v2, (.bool x1.After.Has), (.int .i64 x1.After.O.Kind), v3, v4, (.int .i64 x1.Next), v5])]) hS (laws_toLiveS.spec k _ _ x1.Txs v5 ((h5.mono hg1).mono hg2) _ hx3)) rfl) (by decide) (fun v w a hR hF => ?_)
  obtain ⟨s4, A4, hg3, hS, hR⟩ := hR
  obtain ⟨v10, hv3, rfl⟩ := hR; obtain rfl := hv3.symm
  have hS : St e s4 w [Ow kTLive 169 v10 x4, pt g3 162 ([(.int .i64 x1.Lsn), (.int .i64 x1.Tx), (.int .i64 x1.Prev), (.int .i64 x1.Kind), (.int .i64 x1.Oid), (.bool x2.Has), (.int .i64 x2.O.Kind), v6, v7, (.bool x3.Has), (.int .i64 x3.O.Kind), v8, v9, (.int .i64 x1.Next), (.slice none 0 0)]), Ow (Kd.int .i64) 3 v8 x3.O.Ints, Ow (Kd.int .i64) 3 v9 x3.O.Refs, Ow (Kd.int .i64) 3 v6 x2.O.Ints, Ow (Kd.int .i64) 3 v7 x2.O.Refs, pt g2 162 ([(.int .i64 0), (.int .i64 0), (.int .i64 0), (.int .i64 0), (.int .i64 0), (.bool false), (.int .i64 0), (.slice none 0 0), (.slice none 0 0), (.bool false), (.int .i64 0), (.slice none 0 0), (.slice none 0 0), (.int .i64 0), (.slice none 0 0)]), pt g1 248 ([(.int .i64 x1.Lsn), (.int .i64 x1.Tx), (.int .i64 x1.Prev), (.int .i64 x1.Kind), (.int .i64 x1.Oid), (.bool x1.Before.Has), (.int .i64 x1.Before.O.Kind), v1, v2, (.bool x1.After.Has), (.int .i64 x1.After.O.Kind), v3, v4, (.int .i64 x1.Next), v5])] := hS
  refine stp hF (p_fldb (o' := 14) rfl fi_162_8 rfl) (by decide) (fun a hF => ?_)
  refine ste0 hF (e_stb (i := 1) (l := [(.int .i64 x1.Lsn), (.int .i64 x1.Tx), (.int .i64 x1.Prev), (.int .i64 x1.Kind), (.int .i64 x1.Oid), (.bool x2.Has), (.int .i64 x2.O.Kind), v6, v7, (.bool x3.Has), (.int .i64 x3.O.Kind), v8, v9, (.int .i64 x1.Next)]) (m := [(.slice none 0 0)]) (r := []) (m' := [v10]) (cs' := [(.int .i64 x1.Lsn), (.int .i64 x1.Tx), (.int .i64 x1.Prev), (.int .i64 x1.Kind), (.int .i64 x1.Oid), (.bool x2.Has), (.int .i64 x2.O.Kind), v6, v7, (.bool x3.Has), (.int .i64 x3.O.Kind), v8, v9, (.int .i64 x1.Next), v10]) hS rfl rfl rfl ti_56 rfl rfl rfl (cells_one (hS.one_ow (i := 0) rfl)) rfl (one_cons (hS.one_ow (i := 0) rfl) one_nil) rfl) (fun v w a hR hF => ?_)
  have hS : St e s4 w [pt g3 162 ([(.int .i64 x1.Lsn), (.int .i64 x1.Tx), (.int .i64 x1.Prev), (.int .i64 x1.Kind), (.int .i64 x1.Oid), (.bool x2.Has), (.int .i64 x2.O.Kind), v6, v7, (.bool x3.Has), (.int .i64 x3.O.Kind), v8, v9, (.int .i64 x1.Next), v10]), Ow kTLive 169 v10 x4, Ow (Kd.int .i64) 3 v8 x3.O.Ints, Ow (Kd.int .i64) 3 v9 x3.O.Refs, Ow (Kd.int .i64) 3 v6 x2.O.Ints, Ow (Kd.int .i64) 3 v7 x2.O.Refs, pt g2 162 ([(.int .i64 0), (.int .i64 0), (.int .i64 0), (.int .i64 0), (.int .i64 0), (.bool false), (.int .i64 0), (.slice none 0 0), (.slice none 0 0), (.bool false), (.int .i64 0), (.slice none 0 0), (.slice none 0 0), (.int .i64 0), (.slice none 0 0)]), pt g1 248 ([(.int .i64 x1.Lsn), (.int .i64 x1.Tx), (.int .i64 x1.Prev), (.int .i64 x1.Kind), (.int .i64 x1.Oid), (.bool x1.Before.Has), (.int .i64 x1.Before.O.Kind), v1, v2, (.bool x1.After.Has), (.int .i64 x1.After.O.Kind), v3, v4, (.int .i64 x1.Next), v5])] := hR
  refine nilN ?_
  refine xn ?_
  refine sq ?_
  refine rg ?_
  refine stp hF (p_ldb_agg (i := 0) (l := []) (m := [(.int .i64 x1.Lsn), (.int .i64 x1.Tx), (.int .i64 x1.Prev), (.int .i64 x1.Kind), (.int .i64 x1.Oid), (.bool x2.Has), (.int .i64 x2.O.Kind), v6, v7, (.bool x3.Has), (.int .i64 x3.O.Kind), v8, v9, (.int .i64 x1.Next), v10]) (r := []) hS rfl rfl ia_162 ti_162 rfl rfl rfl) (by decide) (fun a hF => ?_)
  refine ste0 hF (e_stb (i := 6) (l := []) (m := [(.int .i64 0), (.int .i64 0), (.int .i64 0), (.int .i64 0), (.int .i64 0), (.bool false), (.int .i64 0), (.slice none 0 0), (.slice none 0 0), (.bool false), (.int .i64 0), (.slice none 0 0), (.slice none 0 0), (.int .i64 0), (.slice none 0 0)]) (r := []) (m' := [(.int .i64 x1.Lsn), (.int .i64 x1.Tx), (.int .i64 x1.Prev), (.int .i64 x1.Kind), (.int .i64 x1.Oid), (.bool x2.Has), (.int .i64 x2.O.Kind), v6, v7, (.bool x3.Has), (.int .i64 x3.O.Kind), v8, v9, (.int .i64 x1.Next), v10]) (cs' := [(.int .i64 x1.Lsn), (.int .i64 x1.Tx), (.int .i64 x1.Prev), (.int .i64 x1.Kind), (.int .i64 x1.Oid), (.bool x2.Has), (.int .i64 x2.O.Kind), v6, v7, (.bool x3.Has), (.int .i64 x3.O.Kind), v8, v9, (.int .i64 x1.Next), v10]) hS rfl rfl rfl ti_162 rfl rfl rfl rfl rfl (one_cons rfl (one_cons rfl (one_cons rfl (one_cons rfl (one_cons rfl (one_cons rfl (one_cons rfl (one_cons (hS.one_ow (i := 4) rfl) (one_cons (hS.one_ow (i := 5) rfl) (one_cons rfl (one_cons rfl (one_cons (hS.one_ow (i := 2) rfl) (one_cons (hS.one_ow (i := 3) rfl) (one_cons rfl (one_cons (hS.one_ow (i := 1) rfl) one_nil))))))))))))))) rfl) (fun v w a hR hF => ?_)
  have hS : St e s4 w [pt g2 162 ([(.int .i64 x1.Lsn), (.int .i64 x1.Tx), (.int .i64 x1.Prev), (.int .i64 x1.Kind), (.int .i64 x1.Oid), (.bool x2.Has), (.int .i64 x2.O.Kind), v6, v7, (.bool x3.Has), (.int .i64 x3.O.Kind), v8, v9, (.int .i64 x1.Next), v10]), pt g3 162 ([(.int .i64 x1.Lsn), (.int .i64 x1.Tx), (.int .i64 x1.Prev), (.int .i64 x1.Kind), (.int .i64 x1.Oid), (.bool x2.Has), (.int .i64 x2.O.Kind), v6, v7, (.bool x3.Has), (.int .i64 x3.O.Kind), v8, v9, (.int .i64 x1.Next), v10]), Ow kTLive 169 v10 x4, Ow (Kd.int .i64) 3 v8 x3.O.Ints, Ow (Kd.int .i64) 3 v9 x3.O.Refs, Ow (Kd.int .i64) 3 v6 x2.O.Ints, Ow (Kd.int .i64) 3 v7 x2.O.Refs, pt g1 248 ([(.int .i64 x1.Lsn), (.int .i64 x1.Tx), (.int .i64 x1.Prev), (.int .i64 x1.Kind), (.int .i64 x1.Oid), (.bool x1.Before.Has), (.int .i64 x1.Before.O.Kind), v1, v2, (.bool x1.After.Has), (.int .i64 x1.After.O.Kind), v3, v4, (.int .i64 x1.Next), v5])] := hR
  refine nilN ?_
  refine xn ?_
  refine rt ?_
  obtain rfl := hsm H
  have h6 : RvOk Tryz.prog _ w (.cell 2 162) _ := rvC (i := 0) hS rfl (show lk [(2, (.pointer (some ⟨g2, 0, none⟩)))] 2 = _ from rfl) ia_162 ti_162 rfl
  replace hS := hS.sel (is := [5, 5, 3, 3, 2]) (A' := [Ow (Kd.int .i64) 3 v6 x2.O.Ints, Ow (Kd.int .i64) 3 v7 x2.O.Refs, Ow (Kd.int .i64) 3 v8 x3.O.Ints, Ow (Kd.int .i64) 3 v9 x3.O.Refs, Ow kTLive 169 v10 x4]) rfl
  exact retc1 hF rfl h6 hS ⟨v6, v7, v8, v9, v10, rfl, rfl⟩

def laws_toRecS.c1 (k : Nat) (x1 : (List TRec)) : Option (List TRec) :=
  (some x1)
def laws_toRecS.l1 (x2 : (List TRec)) : Nat → (List TRec) → Int → Option (List TRec)
  | 0, _, _ => none
  | k + 1, x3, x4 => (if (decide (x4 < (x2.length : Int))) = true then (if 0 ≤ x4 ∧ x4 < (x2.length : Int) then ((laws_toRec.f k (rd x2 x4)).bind fun x5 => (if 0 ≤ x4 ∧ x4 < (x3.length : Int) then ((laws_toRecS.l1 x2 k) (wr x3 x4 (⟨x5.Lsn, x5.Tx, x5.Prev, x5.Kind, x5.Oid, (⟨x5.Before.Has, (⟨x5.Before.O.Kind, x5.Before.O.Ints, x5.Before.O.Refs⟩ : TObj)⟩ : TSlot), (⟨x5.After.Has, (⟨x5.After.O.Kind, x5.After.O.Ints, x5.After.O.Refs⟩ : TObj)⟩ : TSlot), x5.Next, x5.Txs⟩ : TRec)) (w64 (x4 + 1))) else none)) else none) else (some x3))
def laws_toRecS.f (k : Nat) (x2 : (List TRec)) : Option (List TRec) :=
  (if 0 ≤ (x2.length : Int) ∧ (x2.length : Int) * 200 ≤ 140737488355328 then (((laws_toRecS.l1 x2 k (List.replicate (x2.length : Int).toNat (⟨0, 0, 0, 0, 0, (⟨false, (⟨0, ([] : List Int), ([] : List Int)⟩ : TObj)⟩ : TSlot), (⟨false, (⟨0, ([] : List Int), ([] : List Int)⟩ : TObj)⟩ : TSlot), 0, ([] : List TLive)⟩ : TRec)) 0) : Option (List TRec)).bind fun x6 => laws_toRecS.c1 k x6) else none)
set_option maxRecDepth 100000 in
set_option maxHeartbeats 4000000 in
theorem laws_toRecS.spec (k : Nat) (s0 : HF) (w : World) (x2 : (List TRec)) (v1 : Value) (h1 : Sl kTRec s0 v1 x2) (r : (List TRec)) (H : laws_toRecS.f k x2 = some r) :
    Law Tryz.prog 117 #[v1] s0 w [] (fun v s1 A1 => ∃ (u0 : Value), v = u0 ∧ A1 = [Ow kTRec 162 u0 r]) := by
  unfold laws_toRecS.f at H
  refine Law.intro Tryz.func117 rfl [(0, v1)] (Nat.le_of_ble_eq_true rfl) (enter_lk ⟨rfl, trivial⟩) (fun e a hS hF => ?_)
  have hF : Fr 23 a [(0, v1)] := hF
  refine sq ?_
  refine rg ?_
  refine stp hF (p_assign rfl) (by decide) (fun a hF => ?_)
  refine nilN ?_
  refine xn ?_
  refine sq ?_
  refine rg ?_
  refine stp hF (p_move rfl) (by decide) (fun a hF => ?_)
  refine stp hF (p_lenr un_34 rfl h1) (by decide) (fun a hF => ?_)
  obtain ⟨hq1, H⟩ := hck H
  refine ste hF (e_make (kd := kTRec) (x0 := (⟨0, 0, 0, 0, 0, (⟨false, (⟨0, ([] : List Int), ([] : List Int)⟩ : TObj)⟩ : TSlot), (⟨false, (⟨0, ([] : List Int), ([] : List Int)⟩ : TObj)⟩ : TSlot), 0, ([] : List TLive)⟩ : TRec)) (c := [(.int .i64 0), (.int .i64 0), (.int .i64 0), (.int .i64 0), (.int .i64 0), (.bool false), (.int .i64 0), (.slice none 0 0), (.slice none 0 0), (.bool false), (.int .i64 0), (.slice none 0 0), (.slice none 0 0), (.int .i64 0), (.slice none 0 0)]) hS rfl rfl un_53 ti_162 rfl (kTRec_mk (x := (⟨0, 0, 0, 0, 0, (⟨false, (⟨0, ([] : List Int), ([] : List Int)⟩ : TObj)⟩ : TSlot), (⟨false, (⟨0, ([] : List Int), ([] : List Int)⟩ : TObj)⟩ : TSlot), 0, ([] : List TLive)⟩ : TRec)) (Sl.nil _ _ _ _) (Sl.nil _ _ _ _) (Sl.nil _ _ _ _) (Sl.nil _ _ _ _) (Sl.nil _ _ _ _)) hq1.1 (by decide) hq1.2) (by decide) (fun v2 w a hR hF => ?_)
  have hS : St e s0 w [Ow kTRec 162 v2 (List.replicate (x2.length : Int).toNat (⟨0, 0, 0, 0, 0, (⟨false, (⟨0, ([] : List Int), ([] : List Int)⟩ : TObj)⟩ : TSlot), (⟨false, (⟨0, ([] : List Int), ([] : List Int)⟩ : TObj)⟩ : TSlot), 0, ([] : List TLive)⟩ : TRec))] := hR
  refine stp hF (p_assign rfl) (by decide) (fun a hF => ?_)
  refine nilN ?_
  refine xn ?_
  obtain ⟨x6, H, HK1⟩ := hb H
  refine sqj (fun a w => ∃ (x1 : (List TRec)) (s2 : HF) , St e s2 w [Ow kTRec 162 v2 x1] ∧ Fr 23 a [(3, v2)] ∧ Sub s0 s2 ∧ laws_toRecS.c1 k x1 = some r) ?_ ?_
  · skip
    refine sq ?_
    refine rg ?_
    refine stp hF (p_assign rfl) (by decide) (fun a hF => ?_)
    refine nilN ?_
    refine xn ?_
    refine blk ?_
    refine loop_ind (fun k1 a w => ∃ (x3 : (List TRec)) (x4 : Int) (s3 : HF) , St e s3 w [Ow kTRec 162 v2 x3] ∧ Fr 23 a [(0, v1), (3, v2), (4, (.int .i64 x4))] ∧ Sub s0 s3 ∧ laws_toRecS.l1 x2 k1 x3 x4 = some x6) k ?_ ?_ ?_
    · skip
      exact ⟨(List.replicate (x2.length : Int).toNat (⟨0, 0, 0, 0, 0, (⟨false, (⟨0, ([] : List Int), ([] : List Int)⟩ : TObj)⟩ : TSlot), (⟨false, (⟨0, ([] : List Int), ([] : List Int)⟩ : TObj)⟩ : TSlot), 0, ([] : List TLive)⟩ : TRec)), 0, s0, hS, hF.cut ⟨rfl, rfl, rfl, trivial⟩, (Sub.refl _), H⟩
    · clear H hS hF
      rintro a w ⟨x3, x4, s3, hS, hF, hg1, H⟩
      exact absurd (show none = some _ from H) (by simp)
    · clear H hS hF
      rintro k1 a w ⟨x3, x4, s3, hS, hF, hg1, H⟩
      rw [laws_toRecS.l1.eq_2] at H
      refine sq ?_
      refine sq ?_
      refine rg ?_
      refine stp hF (p_move rfl) (by decide) (fun a hF => ?_)
      refine stp hF (p_move rfl) (by decide) (fun a hF => ?_)
      refine stp hF (p_lenr un_34 rfl (h1.mono hg1)) (by decide) (fun a hF => ?_)
      refine stp hF (p_lss rfl rfl) (by decide) (fun a hF => ?_)
      refine nilN ?_
      refine xn ?_
      refine cnd hF rfl (fun hc1 => ?_) (fun hc1 => ?_)
      · replace H := hbt hc1 H
        refine skN ?_
        refine xn ?_
        refine sq ?_
        refine blk ?_
        refine rg ?_
        refine stp hF (p_move rfl) (by decide) (fun a hF => ?_)
        refine stp hF (p_move rfl) (by decide) (fun a hF => ?_)
        refine stp hF (p_move rfl) (by decide) (fun a hF => ?_)
        refine stp hF (p_move rfl) (by decide) (fun a hF => ?_)
        obtain ⟨hq2, H⟩ := hck H
        obtain ⟨ad1, h2, p1⟩ := p_idxr (P := Tryz.prog) (i := x4) (h1.mono hg1) un_34 ti_248 hq2.1 hq2.2
        refine stp hF (p1 rfl rfl) (by decide) (fun a hF => ?_)
        obtain ⟨c2, h3, p2⟩ := p_ldr_agg (P := Tryz.prog) h2 ia_248 ti_248
        obtain ⟨v3, v4, v5, v6, v7, rfl, h4, h5, h6, h7, h8⟩ := kTRec_open h3
        refine stp hF (p2 rfl hS.ro) (by decide) (fun a hF => ?_)
        obtain ⟨x5, hx1, H⟩ := hb H
        refine ste hF (e_callA (fst := []) (vs := [(.agg #[(.int .i64 ((rd x2 x4).Lsn)), (.int .i64 ((rd x2 x4).Tx)), (.int .i64 ((rd x2 x4).Prev)), (.int .i64 ((rd x2 x4).Kind)), (.int .i64 ((rd x2 x4).Oid)), (.bool (((rd x2 x4).Before).Has)), (.int .i64 ((((rd x2 x4).Before).O).Kind)), v3, v4, (.bool (((rd x2 x4).After).Has)), (.int .i64 ((((rd x2 x4).After).O).Kind)), v5, v6, (.int .i64 ((rd x2 x4).Next)), v7])]) (cap := []) rfl rfl go_206 (St.call (A := []) (B := [Ow kTRec 162 v2 x3]) hS (laws_toRec.spec k1 _ _ (rd x2 x4) v3 v4 v5 v6 v7 h4 h5 h6 h7 h8 _ hx1)) rfl) (by decide) (fun v w a hR hF => ?_)
        obtain ⟨s4, A2, hg2, hS, hR⟩ := hR
        obtain ⟨v8, v9, v10, v11, v12, hv1, rfl⟩ := hR; obtain rfl := hv1.symm
        have hS : St e s4 w [Ow (Kd.int .i64) 3 v8 x5.Before.O.Ints, Ow (Kd.int .i64) 3 v9 x5.Before.O.Refs, Ow (Kd.int .i64) 3 v10 x5.After.O.Ints, Ow (Kd.int .i64) 3 v11 x5.After.O.Refs, Ow kTLive 169 v12 x5.Txs, Ow kTRec 162 v2 x3] := hS
        obtain ⟨hq3, H⟩ := hck H
        obtain ⟨b1, o1, q1, hv2, p3⟩ := p_idxo (n := 5) (i := x4) hS rfl un_53 ti_162 hq3.1 hq3.2
        refine stp hF (p3 rfl rfl) (by decide) (fun a hF => ?_)
        obtain ⟨s5, hg3, h9, hS⟩ := hS.freeze (i := 0) (kd := (Kd.int .i64)) (et := 3) (v := v8) (xs := x5.Before.O.Ints) (B := [Ow (Kd.int .i64) 3 v9 x5.Before.O.Refs, Ow (Kd.int .i64) 3 v10 x5.After.O.Ints, Ow (Kd.int .i64) 3 v11 x5.After.O.Refs, Ow kTLive 169 v12 x5.Txs, Ow kTRec 162 v2 x3]) rfl
        obtain ⟨s6, hg4, h10, hS⟩ := hS.freeze (i := 0) (kd := (Kd.int .i64)) (et := 3) (v := v9) (xs := x5.Before.O.Refs) (B := [Ow (Kd.int .i64) 3 v10 x5.After.O.Ints, Ow (Kd.int .i64) 3 v11 x5.After.O.Refs, Ow kTLive 169 v12 x5.Txs, Ow kTRec 162 v2 x3]) rfl
        obtain ⟨s7, hg5, h11, hS⟩ := hS.freeze (i := 0) (kd := (Kd.int .i64)) (et := 3) (v := v10) (xs := x5.After.O.Ints) (B := [Ow (Kd.int .i64) 3 v11 x5.After.O.Refs, Ow kTLive 169 v12 x5.Txs, Ow kTRec 162 v2 x3]) rfl
        obtain ⟨s8, hg6, h12, hS⟩ := hS.freeze (i := 0) (kd := (Kd.int .i64)) (et := 3) (v := v11) (xs := x5.After.O.Refs) (B := [Ow kTLive 169 v12 x5.Txs, Ow kTRec 162 v2 x3]) rfl
        obtain ⟨s9, hg7, h13, hS⟩ := hS.freeze (i := 0) (kd := kTLive) (et := 169) (v := v12) (xs := x5.Txs) (B := [Ow kTRec 162 v2 x3]) rfl
        refine ste0 hF (e_sto (n := 0) (c := (⟨x5.Lsn, x5.Tx, x5.Prev, x5.Kind, x5.Oid, (⟨x5.Before.Has, (⟨x5.Before.O.Kind, x5.Before.O.Ints, x5.Before.O.Refs⟩ : TObj)⟩ : TSlot), (⟨x5.After.Has, (⟨x5.After.O.Kind, x5.After.O.Ints, x5.After.O.Refs⟩ : TObj)⟩ : TSlot), x5.Next, x5.Txs⟩ : TRec)) hS rfl hv2 (Lens.id _) hq3.1 hq3.2 rfl rfl rfl ti_162 rfl (kTRec_mk (x := (⟨x5.Lsn, x5.Tx, x5.Prev, x5.Kind, x5.Oid, (⟨x5.Before.Has, (⟨x5.Before.O.Kind, x5.Before.O.Ints, x5.Before.O.Refs⟩ : TObj)⟩ : TSlot), (⟨x5.After.Has, (⟨x5.After.O.Kind, x5.After.O.Ints, x5.After.O.Refs⟩ : TObj)⟩ : TSlot), x5.Next, x5.Txs⟩ : TRec)) ((((h9.mono hg4).mono hg5).mono hg6).mono hg7) (((h10.mono hg5).mono hg6).mono hg7) ((h11.mono hg6).mono hg7) (h12.mono hg7) h13)) (fun v w a hR hF => ?_)
        have hS : St e s9 w [Ow kTRec 162 v2 (wr x3 x4 (⟨x5.Lsn, x5.Tx, x5.Prev, x5.Kind, x5.Oid, (⟨x5.Before.Has, (⟨x5.Before.O.Kind, x5.Before.O.Ints, x5.Before.O.Refs⟩ : TObj)⟩ : TSlot), (⟨x5.After.Has, (⟨x5.After.O.Kind, x5.After.O.Ints, x5.After.O.Refs⟩ : TObj)⟩ : TSlot), x5.Next, x5.Txs⟩ : TRec))] := hR
        refine nilN ?_
        refine bn (xn ?_)
        refine rg ?_
        refine stp hF (p_move rfl) (by decide) (fun a hF => ?_)
        refine stp hF (p_add (c := w64 (x4 + 1)) rfl rfl rfl) (by decide) (fun a hF => ?_)
        refine stp hF (p_assign rfl) (by decide) (fun a hF => ?_)
        refine nilN ?_
        refine xn ?_
        exact ⟨(wr x3 x4 (⟨x5.Lsn, x5.Tx, x5.Prev, x5.Kind, x5.Oid, (⟨x5.Before.Has, (⟨x5.Before.O.Kind, x5.Before.O.Ints, x5.Before.O.Refs⟩ : TObj)⟩ : TSlot), (⟨x5.After.Has, (⟨x5.After.O.Kind, x5.After.O.Ints, x5.After.O.Refs⟩ : TObj)⟩ : TSlot), x5.Next, x5.Txs⟩ : TRec)), (w64 (x4 + 1)), s9, hS, hF.cut ⟨rfl, rfl, rfl, trivial⟩, ((((((hg1.trans hg2).trans hg3).trans hg4).trans hg5).trans hg6).trans hg7), H⟩
      · replace H := hbf hc1 H
        refine exi ?_
        refine xe (xe (hit (xn ?_)))
        obtain rfl := hsm H
        exact ⟨x3, s3, hS, hF.cut ⟨rfl, trivial⟩, hg1, HK1⟩
  · clear H HK1 hS hF
    rintro a w ⟨x1, s2, hS, hF, hg8, H⟩
    unfold laws_toRecS.c1 at H
    refine sq ?_
    refine rg ?_
    refine stp hF (p_move rfl) (by decide) (fun a hF => ?_)
    refine stp hF (p_assign rfl) (by decide) (fun a hF => ?_)
    refine nilN ?_
    refine xn ?_
    refine rt ?_
    obtain rfl := hsm H
    exact ret1 hF rfl rfl hS ⟨v2, rfl, rfl⟩

def laws_toLog.f (k : Nat) (x1 : TLog) : Option TLog :=
  ((laws_toRecS.f k x1.Recs).bind fun x2 => (some (⟨x2, x1.Sure⟩ : TLog)))
set_option maxRecDepth 100000 in
set_option maxHeartbeats 4000000 in
theorem laws_toLog.spec (k : Nat) (s0 : HF) (w : World) (x1 : TLog) (v1 : Value) (h1 : Sl kTRec s0 v1 x1.Recs) (r : TLog) (H : laws_toLog.f k x1 = some r) :
    Law Tryz.prog 44 #[(.agg #[v1, (.int .i64 x1.Sure)])] s0 w [] (fun v s1 A1 => ∃ (u0 : Value), v = (.agg #[u0, (.int .i64 r.Sure)]) ∧ A1 = [Ow kTRec 162 u0 r.Recs]) := by
  unfold laws_toLog.f at H
  refine Law.intro Tryz.func44 rfl [(0, (.agg #[v1, (.int .i64 x1.Sure)]))] (Nat.le_of_ble_eq_true rfl) (enter_lk ⟨rfl, trivial⟩) (fun e a hS hF => ?_)
  have hF : Fr 12 a [(0, (.agg #[v1, (.int .i64 x1.Sure)]))] := hF
  refine sq ?_
  refine rg ?_
  refine ste hF (e_box (cs := [v1, (.int .i64 x1.Sure)]) hS rfl rfl) (by decide) (fun v w a hR hF => ?_)
  obtain ⟨g1, rfl, hS⟩ := hR
  refine ste hF (e_alloc (cs := [(.slice none 0 0), (.int .i64 0)]) hS ti_55 rfl) (by decide) (fun v w a hR hF => ?_)
  obtain ⟨g2, rfl, hS⟩ := hR
  refine nilN ?_
  refine xn ?_
  refine sq ?_
  refine rg ?_
  refine ste hF (e_alloc (cs := [(.slice none 0 0), (.int .i64 0)]) hS ti_55 rfl) (by decide) (fun v w a hR hF => ?_)
  obtain ⟨g3, rfl, hS⟩ := hR
  refine nilN ?_
  refine xn ?_
  refine sq ?_
  refine rg ?_
  refine stp hF (p_fldb (o' := 0) rfl fi_36_0 rfl) (by decide) (fun a hF => ?_)
  refine stp hF (p_ldb_one (i := 2) hS rfl rfl ia_34 rfl) (by decide) (fun a hF => ?_)
  obtain ⟨x2, hx1, H⟩ := hb H
  refine ste hF (e_callA (fst := []) (vs := [v1]) (cap := []) rfl rfl go_117 (St.call (A := []) (B := [pt g3 55 ([(.slice none 0 0), (.int .i64 0)]), pt g2 55 ([(.slice none 0 0), (.int .i64 0)]), pt g1 36 ([v1, (.int .i64 x1.Sure)])]) hS (laws_toRecS.spec k _ _ x1.Recs v1 h1 _ hx1)) rfl) (by decide) (fun v w a hR hF => ?_)
  obtain ⟨s2, A2, hg1, hS, hR⟩ := hR
  obtain ⟨v2, hv1, rfl⟩ := hR; obtain rfl := hv1.symm
  have hS : St e s2 w [Ow kTRec 162 v2 x2, pt g3 55 ([(.slice none 0 0), (.int .i64 0)]), pt g2 55 ([(.slice none 0 0), (.int .i64 0)]), pt g1 36 ([v1, (.int .i64 x1.Sure)])] := hS
  refine stp hF (p_fldb (o' := 0) rfl fi_55_0 rfl) (by decide) (fun a hF => ?_)
  refine ste0 hF (e_stb (i := 1) (l := []) (m := [(.slice none 0 0)]) (r := [(.int .i64 0)]) (m' := [v2]) (cs' := [v2, (.int .i64 0)]) hS rfl rfl rfl ti_53 rfl rfl rfl (cells_one (hS.one_ow (i := 0) rfl)) rfl (one_cons (hS.one_ow (i := 0) rfl) one_nil) rfl) (fun v w a hR hF => ?_)
  have hS : St e s2 w [pt g3 55 ([v2, (.int .i64 0)]), Ow kTRec 162 v2 x2, pt g2 55 ([(.slice none 0 0), (.int .i64 0)]), pt g1 36 ([v1, (.int .i64 x1.Sure)])] := hR
  refine nilN ?_
  refine xn ?_
  refine sq ?_
  refine rg ?_
  refine stp hF (p_fldb (o' := 1) rfl fi_36_1 rfl) (by decide) (fun a hF => ?_)
  refine stp hF (p_ldb_one (i := 3) hS rfl rfl ia_3 rfl) (by decide) (fun a hF => ?_)
  refine stp hF (p_fldb (o' := 1) rfl fi_55_1 rfl) (by decide) (fun a hF => ?_)
  refine ste0 hF (e_stb (i := 0) (l := [v2]) (m := [(.int .i64 0)]) (r := []) (m' := [(.int .i64 x1.Sure)]) (cs' := [v2, (.int .i64 x1.Sure)]) hS rfl rfl rfl ti_3 rfl rfl rfl rfl rfl (one_cons rfl one_nil) rfl) (fun v w a hR hF => ?_)
  have hS : St e s2 w [pt g3 55 ([v2, (.int .i64 x1.Sure)]), Ow kTRec 162 v2 x2, pt g2 55 ([(.slice none 0 0), (.int .i64 0)]), pt g1 36 ([v1, (.int .i64 x1.Sure)])] := hR
  refine nilN ?_
  refine xn ?_
  refine sq ?_
  refine rg ?_
  refine stp hF (p_ldb_agg (i := 0) (l := []) (m := [v2, (.int .i64 x1.Sure)]) (r := []) hS rfl rfl ia_55 ti_55 rfl rfl rfl) (by decide) (fun a hF => ?_)
  refine ste0 hF (e_stb (i := 2) (l := []) (m := [(.slice none 0 0), (.int .i64 0)]) (r := []) (m' := [v2, (.int .i64 x1.Sure)]) (cs' := [v2, (.int .i64 x1.Sure)]) hS rfl rfl rfl ti_55 rfl rfl rfl rfl rfl (one_cons (hS.one_ow (i := 1) rfl) (one_cons rfl one_nil)) rfl) (fun v w a hR hF => ?_)
  have hS : St e s2 w [pt g2 55 ([v2, (.int .i64 x1.Sure)]), pt g3 55 ([v2, (.int .i64 x1.Sure)]), Ow kTRec 162 v2 x2, pt g1 36 ([v1, (.int .i64 x1.Sure)])] := hR
  refine nilN ?_
  refine xn ?_
  refine rt ?_
  obtain rfl := hsm H
  have h2 : RvOk Tryz.prog _ w (.cell 2 55) _ := rvC (i := 0) hS rfl (show lk [(2, (.pointer (some ⟨g2, 0, none⟩)))] 2 = _ from rfl) ia_55 ti_55 rfl
  replace hS := hS.sel (is := [2]) (A' := [Ow kTRec 162 v2 x2]) rfl
  exact retc1 hF rfl h2 hS ⟨v2, rfl, rfl⟩

def laws_toHold.f (k : Nat) (x1 : THold) : Option THold :=
  (some x1)
set_option maxRecDepth 100000 in
set_option maxHeartbeats 4000000 in
theorem laws_toHold.spec (k : Nat) (s0 : HF) (w : World) (x1 : THold) (r : THold) (H : laws_toHold.f k x1 = some r) :
    Law Tryz.prog 119 #[(.agg #[(.int .i64 x1.Tx), (.int .i64 x1.Oid)])] s0 w [] (fun v s1 A1 => v = (.agg #[(.int .i64 r.Tx), (.int .i64 r.Oid)]) ∧ A1 = []) := by
  unfold laws_toHold.f at H
  refine Law.intro Tryz.func119 rfl [(0, (.agg #[(.int .i64 x1.Tx), (.int .i64 x1.Oid)]))] (Nat.le_of_ble_eq_true rfl) (enter_lk ⟨rfl, trivial⟩) (fun e a hS hF => ?_)
  have hF : Fr 11 a [(0, (.agg #[(.int .i64 x1.Tx), (.int .i64 x1.Oid)]))] := hF
  refine sq ?_
  refine rg ?_
  refine ste hF (e_box (cs := [(.int .i64 x1.Tx), (.int .i64 x1.Oid)]) hS rfl rfl) (by decide) (fun v w a hR hF => ?_)
  obtain ⟨g1, rfl, hS⟩ := hR
  refine ste hF (e_alloc (cs := [(.int .i64 0), (.int .i64 0)]) hS ti_141 rfl) (by decide) (fun v w a hR hF => ?_)
  obtain ⟨g2, rfl, hS⟩ := hR
  refine nilN ?_
  refine xn ?_
  refine sq ?_
  refine rg ?_
  refine ste hF (e_alloc (cs := [(.int .i64 0), (.int .i64 0)]) hS ti_141 rfl) (by decide) (fun v w a hR hF => ?_)
  obtain ⟨g3, rfl, hS⟩ := hR
  refine nilN ?_
  refine xn ?_
  refine sq ?_
  refine rg ?_
  refine stp hF (p_fldb (o' := 0) rfl fi_186_0 rfl) (by decide) (fun a hF => ?_)
  refine stp hF (p_ldb_one (i := 2) hS rfl rfl ia_3 rfl) (by decide) (fun a hF => ?_)
  refine stp hF (p_fldb (o' := 0) rfl fi_141_0 rfl) (by decide) (fun a hF => ?_)
  refine ste0 hF (e_stb (i := 0) (l := []) (m := [(.int .i64 0)]) (r := [(.int .i64 0)]) (m' := [(.int .i64 x1.Tx)]) (cs' := [(.int .i64 x1.Tx), (.int .i64 0)]) hS rfl rfl rfl ti_3 rfl rfl rfl rfl rfl (one_cons rfl one_nil) rfl) (fun v w a hR hF => ?_)
  have hS : St e s0 w [pt g3 141 ([(.int .i64 x1.Tx), (.int .i64 0)]), pt g2 141 ([(.int .i64 0), (.int .i64 0)]), pt g1 186 ([(.int .i64 x1.Tx), (.int .i64 x1.Oid)])] := hR
  refine nilN ?_
  refine xn ?_
  refine sq ?_
  refine rg ?_
  refine stp hF (p_fldb (o' := 1) rfl fi_186_1 rfl) (by decide) (fun a hF => ?_)
  refine stp hF (p_ldb_one (i := 2) hS rfl rfl ia_3 rfl) (by decide) (fun a hF => ?_)
  refine stp hF (p_fldb (o' := 1) rfl fi_141_1 rfl) (by decide) (fun a hF => ?_)
  refine ste0 hF (e_stb (i := 0) (l := [(.int .i64 x1.Tx)]) (m := [(.int .i64 0)]) (r := []) (m' := [(.int .i64 x1.Oid)]) (cs' := [(.int .i64 x1.Tx), (.int .i64 x1.Oid)]) hS rfl rfl rfl ti_3 rfl rfl rfl rfl rfl (one_cons rfl one_nil) rfl) (fun v w a hR hF => ?_)
  have hS : St e s0 w [pt g3 141 ([(.int .i64 x1.Tx), (.int .i64 x1.Oid)]), pt g2 141 ([(.int .i64 0), (.int .i64 0)]), pt g1 186 ([(.int .i64 x1.Tx), (.int .i64 x1.Oid)])] := hR
  refine nilN ?_
  refine xn ?_
  refine sq ?_
  refine rg ?_
  refine stp hF (p_ldb_agg (i := 0) (l := []) (m := [(.int .i64 x1.Tx), (.int .i64 x1.Oid)]) (r := []) hS rfl rfl ia_141 ti_141 rfl rfl rfl) (by decide) (fun a hF => ?_)
  refine ste0 hF (e_stb (i := 1) (l := []) (m := [(.int .i64 0), (.int .i64 0)]) (r := []) (m' := [(.int .i64 x1.Tx), (.int .i64 x1.Oid)]) (cs' := [(.int .i64 x1.Tx), (.int .i64 x1.Oid)]) hS rfl rfl rfl ti_141 rfl rfl rfl rfl rfl (one_cons rfl (one_cons rfl one_nil)) rfl) (fun v w a hR hF => ?_)
  have hS : St e s0 w [pt g2 141 ([(.int .i64 x1.Tx), (.int .i64 x1.Oid)]), pt g3 141 ([(.int .i64 x1.Tx), (.int .i64 x1.Oid)]), pt g1 186 ([(.int .i64 x1.Tx), (.int .i64 x1.Oid)])] := hR
  refine nilN ?_
  refine xn ?_
  refine rt ?_
  obtain rfl := hsm H
  have h1 : RvOk Tryz.prog _ w (.cell 2 141) _ := rvC (i := 0) hS rfl (show lk [(2, (.pointer (some ⟨g2, 0, none⟩)))] 2 = _ from rfl) ia_141 ti_141 rfl
  replace hS := hS.sel (is := []) (A' := []) rfl
  exact retc1 hF rfl h1 hS ⟨rfl, rfl⟩

def laws_toHoldS.c1 (k : Nat) (x1 : (List THold)) : Option (List THold) :=
  (some x1)
def laws_toHoldS.l1 (x2 : (List THold)) : Nat → (List THold) → Int → Option (List THold)
  | 0, _, _ => none
  | k + 1, x3, x4 => (if (decide (x4 < (x2.length : Int))) = true then (if 0 ≤ x4 ∧ x4 < (x2.length : Int) then ((laws_toHold.f k (rd x2 x4)).bind fun x5 => (if 0 ≤ x4 ∧ x4 < (x3.length : Int) then ((laws_toHoldS.l1 x2 k) (wr x3 x4 x5) (w64 (x4 + 1))) else none)) else none) else (some x3))
def laws_toHoldS.f (k : Nat) (x2 : (List THold)) : Option (List THold) :=
  (if 0 ≤ (x2.length : Int) ∧ (x2.length : Int) * 16 ≤ 140737488355328 then (((laws_toHoldS.l1 x2 k (List.replicate (x2.length : Int).toNat (⟨0, 0⟩ : THold)) 0) : Option (List THold)).bind fun x6 => laws_toHoldS.c1 k x6) else none)
set_option maxRecDepth 100000 in
set_option maxHeartbeats 4000000 in
theorem laws_toHoldS.spec (k : Nat) (s0 : HF) (w : World) (x2 : (List THold)) (v1 : Value) (h1 : Sl kTHold s0 v1 x2) (r : (List THold)) (H : laws_toHoldS.f k x2 = some r) :
    Law Tryz.prog 46 #[v1] s0 w [] (fun v s1 A1 => ∃ (u0 : Value), v = u0 ∧ A1 = [Ow kTHold 141 u0 r]) := by
  unfold laws_toHoldS.f at H
  refine Law.intro Tryz.func46 rfl [(0, v1)] (Nat.le_of_ble_eq_true rfl) (enter_lk ⟨rfl, trivial⟩) (fun e a hS hF => ?_)
  have hF : Fr 23 a [(0, v1)] := hF
  refine sq ?_
  refine rg ?_
  refine stp hF (p_assign rfl) (by decide) (fun a hF => ?_)
  refine nilN ?_
  refine xn ?_
  refine sq ?_
  refine rg ?_
  refine stp hF (p_move rfl) (by decide) (fun a hF => ?_)
  refine stp hF (p_lenr un_38 rfl h1) (by decide) (fun a hF => ?_)
  obtain ⟨hq1, H⟩ := hck H
  refine ste hF (e_make (kd := kTHold) (x0 := (⟨0, 0⟩ : THold)) (c := [(.int .i64 0), (.int .i64 0)]) hS rfl rfl un_57 ti_141 rfl (kTHold_mk (x := (⟨0, 0⟩ : THold)) ) hq1.1 (by decide) hq1.2) (by decide) (fun v2 w a hR hF => ?_)
  have hS : St e s0 w [Ow kTHold 141 v2 (List.replicate (x2.length : Int).toNat (⟨0, 0⟩ : THold))] := hR
  refine stp hF (p_assign rfl) (by decide) (fun a hF => ?_)
  refine nilN ?_
  refine xn ?_
  obtain ⟨x6, H, HK1⟩ := hb H
  refine sqj (fun a w => ∃ (x1 : (List THold)) (s2 : HF) , St e s2 w [Ow kTHold 141 v2 x1] ∧ Fr 23 a [(3, v2)] ∧ Sub s0 s2 ∧ laws_toHoldS.c1 k x1 = some r) ?_ ?_
  · skip
    refine sq ?_
    refine rg ?_
    refine stp hF (p_assign rfl) (by decide) (fun a hF => ?_)
    refine nilN ?_
    refine xn ?_
    refine blk ?_
    refine loop_ind (fun k1 a w => ∃ (x3 : (List THold)) (x4 : Int) (s3 : HF) , St e s3 w [Ow kTHold 141 v2 x3] ∧ Fr 23 a [(0, v1), (3, v2), (4, (.int .i64 x4))] ∧ Sub s0 s3 ∧ laws_toHoldS.l1 x2 k1 x3 x4 = some x6) k ?_ ?_ ?_
    · skip
      exact ⟨(List.replicate (x2.length : Int).toNat (⟨0, 0⟩ : THold)), 0, s0, hS, hF.cut ⟨rfl, rfl, rfl, trivial⟩, (Sub.refl _), H⟩
    · clear H hS hF
      rintro a w ⟨x3, x4, s3, hS, hF, hg1, H⟩
      exact absurd (show none = some _ from H) (by simp)
    · clear H hS hF
      rintro k1 a w ⟨x3, x4, s3, hS, hF, hg1, H⟩
      rw [laws_toHoldS.l1.eq_2] at H
      refine sq ?_
      refine sq ?_
      refine rg ?_
      refine stp hF (p_move rfl) (by decide) (fun a hF => ?_)
      refine stp hF (p_move rfl) (by decide) (fun a hF => ?_)
      refine stp hF (p_lenr un_38 rfl (h1.mono hg1)) (by decide) (fun a hF => ?_)
      refine stp hF (p_lss rfl rfl) (by decide) (fun a hF => ?_)
      refine nilN ?_
      refine xn ?_
      refine cnd hF rfl (fun hc1 => ?_) (fun hc1 => ?_)
      · replace H := hbt hc1 H
        refine skN ?_
        refine xn ?_
        refine sq ?_
        refine blk ?_
        refine rg ?_
        refine stp hF (p_move rfl) (by decide) (fun a hF => ?_)
        refine stp hF (p_move rfl) (by decide) (fun a hF => ?_)
        refine stp hF (p_move rfl) (by decide) (fun a hF => ?_)
        refine stp hF (p_move rfl) (by decide) (fun a hF => ?_)
        obtain ⟨hq2, H⟩ := hck H
        obtain ⟨ad1, h2, p1⟩ := p_idxr (P := Tryz.prog) (i := x4) (h1.mono hg1) un_38 ti_186 hq2.1 hq2.2
        refine stp hF (p1 rfl rfl) (by decide) (fun a hF => ?_)
        obtain ⟨c2, h3, p2⟩ := p_ldr_agg (P := Tryz.prog) h2 ia_186 ti_186
        obtain rfl := kTHold_open h3
        refine stp hF (p2 rfl hS.ro) (by decide) (fun a hF => ?_)
        obtain ⟨x5, hx1, H⟩ := hb H
        refine ste hF (e_callA (fst := []) (vs := [(.agg #[(.int .i64 ((rd x2 x4).Tx)), (.int .i64 ((rd x2 x4).Oid))])]) (cap := []) rfl rfl go_119 (St.call (A := []) (B := [Ow kTHold 141 v2 x3]) hS (laws_toHold.spec k1 _ _ (rd x2 x4) _ hx1)) rfl) (by decide) (fun v w a hR hF => ?_)
        obtain ⟨s4, A2, hg2, hS, hR⟩ := hR
        obtain ⟨hv1, rfl⟩ := hR; obtain rfl := hv1.symm
        have hS : St e s4 w [Ow kTHold 141 v2 x3] := hS
        obtain ⟨hq3, H⟩ := hck H
        obtain ⟨b1, o1, q1, hv2, p3⟩ := p_idxo (n := 0) (i := x4) hS rfl un_57 ti_141 hq3.1 hq3.2
        refine stp hF (p3 rfl rfl) (by decide) (fun a hF => ?_)
        refine ste0 hF (e_sto (n := 0) (c := x5) hS rfl hv2 (Lens.id _) hq3.1 hq3.2 rfl rfl rfl ti_141 rfl (kTHold_mk (x := x5) )) (fun v w a hR hF => ?_)
        have hS : St e s4 w [Ow kTHold 141 v2 (wr x3 x4 x5)] := hR
        refine nilN ?_
        refine bn (xn ?_)
        refine rg ?_
        refine stp hF (p_move rfl) (by decide) (fun a hF => ?_)
        refine stp hF (p_add (c := w64 (x4 + 1)) rfl rfl rfl) (by decide) (fun a hF => ?_)
        refine stp hF (p_assign rfl) (by decide) (fun a hF => ?_)
        refine nilN ?_
        refine xn ?_
        exact ⟨(wr x3 x4 x5), (w64 (x4 + 1)), s4, hS, hF.cut ⟨rfl, rfl, rfl, trivial⟩, (hg1.trans hg2), H⟩
      · replace H := hbf hc1 H
        refine exi ?_
        refine xe (xe (hit (xn ?_)))
        obtain rfl := hsm H
        exact ⟨x3, s3, hS, hF.cut ⟨rfl, trivial⟩, hg1, HK1⟩
  · clear H HK1 hS hF
    rintro a w ⟨x1, s2, hS, hF, hg3, H⟩
    unfold laws_toHoldS.c1 at H
    refine sq ?_
    refine rg ?_
    refine stp hF (p_move rfl) (by decide) (fun a hF => ?_)
    refine stp hF (p_assign rfl) (by decide) (fun a hF => ?_)
    refine nilN ?_
    refine xn ?_
    refine rt ?_
    obtain rfl := hsm H
    exact ret1 hF rfl rfl hS ⟨v2, rfl, rfl⟩

def laws_toEngine.f (k : Nat) (x1 : TEngine) : Option TEngine :=
  ((laws_toPageA8.f k x1.Disk).bind fun x2 => ((laws_toPool.f k x1.Pool).bind fun x3 => ((laws_toLog.f k x1.Log).bind fun x4 => ((laws_toLiveS.f k x1.Txs).bind fun x5 => ((laws_toHoldS.f k x1.Holds).bind fun x6 => (some (⟨x2, (⟨x3.Seats, x3.Hand⟩ : TPool), (⟨x4.Recs, x4.Sure⟩ : TLog), x5, x6, x1.Next, x1.Down⟩ : TEngine)))))))
set_option maxRecDepth 100000 in
set_option maxHeartbeats 4000000 in
theorem laws_toEngine.spec (k : Nat) (s0 : HF) (w : World) (x1 : TEngine) (c1 : List Value) (v1 : Value) (v2 : Value) (v3 : Value) (v4 : Value) (h1 : ((Kd.arr 8 kTPage)).K s0 x1.Disk c1) (h2 : Sl kTSeat s0 v1 x1.Pool.Seats) (h3 : Sl kTRec s0 v2 x1.Log.Recs) (h4 : Sl kTLive s0 v3 x1.Txs) (h5 : Sl kTHold s0 v4 x1.Holds) (r : TEngine) (H : laws_toEngine.f k x1 = some r) :
    Law Tryz.prog 9 #[(.agg (c1 ++ [v1, (.int .i64 x1.Pool.Hand), v2, (.int .i64 x1.Log.Sure), v3, v4, (.int .i64 x1.Next), (.bool x1.Down)] : List Value).toArray)] s0 w [] (fun v s1 A1 => ∃ (u0 : List Value) (u1 : Value) (u2 : Value) (u3 : Value) (u4 : Value), v = (.agg (u0 ++ [u1, (.int .i64 r.Pool.Hand), u2, (.int .i64 r.Log.Sure), u3, u4, (.int .i64 r.Next), (.bool r.Down)] : List Value).toArray) ∧ A1 = [Ow kTSeat 105 u1 r.Pool.Seats, Ow kTRec 162 u2 r.Log.Recs, Ow kTLive 169 u3 r.Txs, Ow kTHold 141 u4 r.Holds] ∧ ((Kd.arr 8 kTPage)).K s1 r.Disk u0) := by
  unfold laws_toEngine.f at H
  refine Law.intro Tryz.func9 rfl [(0, (.agg (c1 ++ [v1, (.int .i64 x1.Pool.Hand), v2, (.int .i64 x1.Log.Sure), v3, v4, (.int .i64 x1.Next), (.bool x1.Down)] : List Value).toArray))] (Nat.le_of_ble_eq_true rfl) (enter_lk ⟨rfl, trivial⟩) (fun e a hS hF => ?_)
  have hF : Fr 31 a [(0, (.agg (c1 ++ [v1, (.int .i64 x1.Pool.Hand), v2, (.int .i64 x1.Log.Sure), v3, v4, (.int .i64 x1.Next), (.bool x1.Down)] : List Value).toArray))] := hF
  refine sq ?_
  refine rg ?_
  refine ste hF (e_box (cs := c1 ++ [v1, (.int .i64 x1.Pool.Hand), v2, (.int .i64 x1.Log.Sure), v3, v4, (.int .i64 x1.Next), (.bool x1.Down)]) hS rfl rfl) (by decide) (fun v w a hR hF => ?_)
  obtain ⟨g1, rfl, hS⟩ := hR
  refine ste hF (e_alloc (cs := za_49 ++ [(.slice none 0 0), (.int .i64 0), (.slice none 0 0), (.int .i64 0), (.slice none 0 0), (.slice none 0 0), (.int .i64 0), (.bool false)]) hS ti_59 rfl) (by decide) (fun v w a hR hF => ?_)
  obtain ⟨g2, rfl, hS⟩ := hR
  refine nilN ?_
  refine xn ?_
  refine sq ?_
  refine rg ?_
  refine ste hF (e_alloc (cs := za_49 ++ [(.slice none 0 0), (.int .i64 0), (.slice none 0 0), (.int .i64 0), (.slice none 0 0), (.slice none 0 0), (.int .i64 0), (.bool false)]) hS ti_59 rfl) (by decide) (fun v w a hR hF => ?_)
  obtain ⟨g3, rfl, hS⟩ := hR
  refine nilN ?_
  refine xn ?_
  refine sq ?_
  refine rg ?_
  refine stp hF (p_fldb (o' := 0) rfl fi_40_0 rfl) (by decide) (fun a hF => ?_)
  refine stp hF (p_ldb_agg (i := 2) (l := []) (m := c1) (r := [v1, (.int .i64 x1.Pool.Hand), v2, (.int .i64 x1.Log.Sure), v3, v4, (.int .i64 x1.Next), (.bool x1.Down)]) hS rfl rfl ia_30 ti_30 (by simp) (by simp [(show c1.length = 136 from Kd.len _ h1)]) (by simp [(show c1.length = 136 from Kd.len _ h1)])) (by decide) (fun a hF => ?_)
  obtain ⟨x2, hx1, H⟩ := hb H
  refine ste hF (e_callA (fst := []) (vs := [(.agg c1.toArray)]) (cap := []) rfl rfl go_42 (St.call (A := []) (B := [pt g3 59 (za_49 ++ [(.slice none 0 0), (.int .i64 0), (.slice none 0 0), (.int .i64 0), (.slice none 0 0), (.slice none 0 0), (.int .i64 0), (.bool false)]), pt g2 59 (za_49 ++ [(.slice none 0 0), (.int .i64 0), (.slice none 0 0), (.int .i64 0), (.slice none 0 0), (.slice none 0 0), (.int .i64 0), (.bool false)]), pt g1 40 (c1 ++ [v1, (.int .i64 x1.Pool.Hand), v2, (.int .i64 x1.Log.Sure), v3, v4, (.int .i64 x1.Next), (.bool x1.Down)])]) hS (laws_toPageA8.spec k _ _ x1.Disk c1 h1 _ hx1)) rfl) (by decide) (fun v w a hR hF => ?_)
  obtain ⟨s2, A2, hg1, hS, hR⟩ := hR
  obtain ⟨c2, hv1, rfl, h6⟩ := hR; obtain rfl := hv1.symm
  have hS : St e s2 w [pt g3 59 (za_49 ++ [(.slice none 0 0), (.int .i64 0), (.slice none 0 0), (.int .i64 0), (.slice none 0 0), (.slice none 0 0), (.int .i64 0), (.bool false)]), pt g2 59 (za_49 ++ [(.slice none 0 0), (.int .i64 0), (.slice none 0 0), (.int .i64 0), (.slice none 0 0), (.slice none 0 0), (.int .i64 0), (.bool false)]), pt g1 40 (c1 ++ [v1, (.int .i64 x1.Pool.Hand), v2, (.int .i64 x1.Log.Sure), v3, v4, (.int .i64 x1.Next), (.bool x1.Down)])] := hS
  refine stp hF (p_fldb (o' := 0) rfl fi_59_0 rfl) (by decide) (fun a hF => ?_)
  refine ste0 hF (e_stb (i := 0) (l := []) (m := za_49) (r := [(.slice none 0 0), (.int .i64 0), (.slice none 0 0), (.int .i64 0), (.slice none 0 0), (.slice none 0 0), (.int .i64 0), (.bool false)]) (m' := c2) (cs' := c2 ++ [(.slice none 0 0), (.int .i64 0), (.slice none 0 0), (.int .i64 0), (.slice none 0 0), (.slice none 0 0), (.int .i64 0), (.bool false)]) hS rfl rfl rfl ti_49 (by simp) (by simp [zl_49, (show c2.length = 136 from Kd.len _ h6)]) (by simp [zl_49, (show c2.length = 136 from Kd.len _ h6)]) rfl (by simp [zl_49, (show c2.length = 136 from Kd.len _ h6)]) (Kd.one _ h6) (by simp)) (fun v w a hR hF => ?_)
  have hS : St e s2 w [pt g3 59 (c2 ++ [(.slice none 0 0), (.int .i64 0), (.slice none 0 0), (.int .i64 0), (.slice none 0 0), (.slice none 0 0), (.int .i64 0), (.bool false)]), pt g2 59 (za_49 ++ [(.slice none 0 0), (.int .i64 0), (.slice none 0 0), (.int .i64 0), (.slice none 0 0), (.slice none 0 0), (.int .i64 0), (.bool false)]), pt g1 40 (c1 ++ [v1, (.int .i64 x1.Pool.Hand), v2, (.int .i64 x1.Log.Sure), v3, v4, (.int .i64 x1.Next), (.bool x1.Down)])] := hR
  refine nilN ?_
  refine xn ?_
  refine sq ?_
  refine rg ?_
  refine stp hF (p_fldb (o' := 136) rfl fi_40_1 rfl) (by decide) (fun a hF => ?_)
  refine stp hF (p_ldb_agg (i := 2) (l := c1) (m := [v1, (.int .i64 x1.Pool.Hand)]) (r := [v2, (.int .i64 x1.Log.Sure), v3, v4, (.int .i64 x1.Next), (.bool x1.Down)]) hS rfl rfl ia_33 ti_33 (by simp) (by simp [(show c1.length = 136 from Kd.len _ ((Kd.arr 8 kTPage).mono hg1 h1))]) (by simp [(show c1.length = 136 from Kd.len _ ((Kd.arr 8 kTPage).mono hg1 h1))])) (by decide) (fun a hF => ?_)
  obtain ⟨x3, hx2, H⟩ := hb H
  refine ste hF (e_callA (fst := []) (vs := [(.agg #[v1, (.int .i64 x1.Pool.Hand)])]) (cap := []) rfl rfl go_43 (St.call (A := []) (B := [pt g3 59 (c2 ++ [(.slice none 0 0), (.int .i64 0), (.slice none 0 0), (.int .i64 0), (.slice none 0 0), (.slice none 0 0), (.int .i64 0), (.bool false)]), pt g2 59 (za_49 ++ [(.slice none 0 0), (.int .i64 0), (.slice none 0 0), (.int .i64 0), (.slice none 0 0), (.slice none 0 0), (.int .i64 0), (.bool false)]), pt g1 40 (c1 ++ [v1, (.int .i64 x1.Pool.Hand), v2, (.int .i64 x1.Log.Sure), v3, v4, (.int .i64 x1.Next), (.bool x1.Down)])]) hS (laws_toPool.spec k _ _ x1.Pool v1 (h2.mono hg1) _ hx2)) rfl) (by decide) (fun v w a hR hF => ?_)
  obtain ⟨s3, A3, hg2, hS, hR⟩ := hR
  obtain ⟨v5, hv2, rfl⟩ := hR; obtain rfl := hv2.symm
  have hS : St e s3 w [Ow kTSeat 105 v5 x3.Seats, pt g3 59 (c2 ++ [(.slice none 0 0), (.int .i64 0), (.slice none 0 0), (.int .i64 0), (.slice none 0 0), (.slice none 0 0), (.int .i64 0), (.bool false)]), pt g2 59 (za_49 ++ [(.slice none 0 0), (.int .i64 0), (.slice none 0 0), (.int .i64 0), (.slice none 0 0), (.slice none 0 0), (.int .i64 0), (.bool false)]), pt g1 40 (c1 ++ [v1, (.int .i64 x1.Pool.Hand), v2, (.int .i64 x1.Log.Sure), v3, v4, (.int .i64 x1.Next), (.bool x1.Down)])] := hS
  refine stp hF (p_fldb (o' := 136) rfl fi_59_1 rfl) (by decide) (fun a hF => ?_)
  refine ste0 hF (e_stb (i := 1) (l := c2) (m := [(.slice none 0 0), (.int .i64 0)]) (r := [(.slice none 0 0), (.int .i64 0), (.slice none 0 0), (.slice none 0 0), (.int .i64 0), (.bool false)]) (m' := [v5, (.int .i64 x3.Hand)]) (cs' := c2 ++ [v5, (.int .i64 x3.Hand), (.slice none 0 0), (.int .i64 0), (.slice none 0 0), (.slice none 0 0), (.int .i64 0), (.bool false)]) hS rfl rfl rfl ti_52 (by simp) (by simp [(show c2.length = 136 from Kd.len _ ((Kd.arr 8 kTPage).mono hg2 h6))]) (by simp [(show c2.length = 136 from Kd.len _ ((Kd.arr 8 kTPage).mono hg2 h6))]) rfl (by simp [(show c2.length = 136 from Kd.len _ ((Kd.arr 8 kTPage).mono hg2 h6))]) (one_cons (hS.one_ow (i := 0) rfl) (one_cons rfl one_nil)) (by simp)) (fun v w a hR hF => ?_)
  have hS : St e s3 w [pt g3 59 (c2 ++ [v5, (.int .i64 x3.Hand), (.slice none 0 0), (.int .i64 0), (.slice none 0 0), (.slice none 0 0), (.int .i64 0), (.bool false)]), Ow kTSeat 105 v5 x3.Seats, pt g2 59 (za_49 ++ [(.slice none 0 0), (.int .i64 0), (.slice none 0 0), (.int .i64 0), (.slice none 0 0), (.slice none 0 0), (.int .i64 0), (.bool false)]), pt g1 40 (c1 ++ [v1, (.int .i64 x1.Pool.Hand), v2, (.int .i64 x1.Log.Sure), v3, v4, (.int .i64 x1.Next), (.bool x1.Down)])] := hR
  refine nilN ?_
  refine xn ?_
  refine sq ?_
  refine rg ?_
  refine stp hF (p_fldb (o' := 138) rfl fi_40_2 rfl) (by decide) (fun a hF => ?_)
  refine stp hF (p_ldb_agg (i := 3) (l := c1 ++ [v1, (.int .i64 x1.Pool.Hand)]) (m := [v2, (.int .i64 x1.Log.Sure)]) (r := [v3, v4, (.int .i64 x1.Next), (.bool x1.Down)]) hS rfl rfl ia_36 ti_36 (by simp) (by simp [(show c1.length = 136 from Kd.len _ ((Kd.arr 8 kTPage).mono hg2 ((Kd.arr 8 kTPage).mono hg1 h1)))]) (by simp [(show c1.length = 136 from Kd.len _ ((Kd.arr 8 kTPage).mono hg2 ((Kd.arr 8 kTPage).mono hg1 h1)))])) (by decide) (fun a hF => ?_)
  obtain ⟨x4, hx3, H⟩ := hb H
  refine ste hF (e_callA (fst := []) (vs := [(.agg #[v2, (.int .i64 x1.Log.Sure)])]) (cap := []) rfl rfl go_44 (St.call (A := []) (B := [pt g3 59 (c2 ++ [v5, (.int .i64 x3.Hand), (.slice none 0 0), (.int .i64 0), (.slice none 0 0), (.slice none 0 0), (.int .i64 0), (.bool false)]), Ow kTSeat 105 v5 x3.Seats, pt g2 59 (za_49 ++ [(.slice none 0 0), (.int .i64 0), (.slice none 0 0), (.int .i64 0), (.slice none 0 0), (.slice none 0 0), (.int .i64 0), (.bool false)]), pt g1 40 (c1 ++ [v1, (.int .i64 x1.Pool.Hand), v2, (.int .i64 x1.Log.Sure), v3, v4, (.int .i64 x1.Next), (.bool x1.Down)])]) hS (laws_toLog.spec k _ _ x1.Log v2 ((h3.mono hg1).mono hg2) _ hx3)) rfl) (by decide) (fun v w a hR hF => ?_)
  obtain ⟨s4, A4, hg3, hS, hR⟩ := hR
  obtain ⟨v6, hv3, rfl⟩ := hR; obtain rfl := hv3.symm
  have hS : St e s4 w [Ow kTRec 162 v6 x4.Recs, pt g3 59 (c2 ++ [v5, (.int .i64 x3.Hand), (.slice none 0 0), (.int .i64 0), (.slice none 0 0), (.slice none 0 0), (.int .i64 0), (.bool false)]), Ow kTSeat 105 v5 x3.Seats, pt g2 59 (za_49 ++ [(.slice none 0 0), (.int .i64 0), (.slice none 0 0), (.int .i64 0), (.slice none 0 0), (.slice none 0 0), (.int .i64 0), (.bool false)]), pt g1 40 (c1 ++ [v1, (.int .i64 x1.Pool.Hand), v2, (.int .i64 x1.Log.Sure), v3, v4, (.int .i64 x1.Next), (.bool x1.Down)])] := hS
  refine stp hF (p_fldb (o' := 138) rfl fi_59_2 rfl) (by decide) (fun a hF => ?_)
  refine ste0 hF (e_stb (i := 1) (l := c2 ++ [v5, (.int .i64 x3.Hand)]) (m := [(.slice none 0 0), (.int .i64 0)]) (r := [(.slice none 0 0), (.slice none 0 0), (.int .i64 0), (.bool false)]) (m' := [v6, (.int .i64 x4.Sure)]) (cs' := c2 ++ [v5, (.int .i64 x3.Hand), v6, (.int .i64 x4.Sure), (.slice none 0 0), (.slice none 0 0), (.int .i64 0), (.bool false)]) hS rfl rfl rfl ti_55 (by simp) (by simp [(show c2.length = 136 from Kd.len _ ((Kd.arr 8 kTPage).mono hg3 ((Kd.arr 8 kTPage).mono hg2 h6)))]) (by simp [(show c2.length = 136 from Kd.len _ ((Kd.arr 8 kTPage).mono hg3 ((Kd.arr 8 kTPage).mono hg2 h6)))]) rfl (by simp [(show c2.length = 136 from Kd.len _ ((Kd.arr 8 kTPage).mono hg3 ((Kd.arr 8 kTPage).mono hg2 h6)))]) (one_cons (hS.one_ow (i := 0) rfl) (one_cons rfl one_nil)) (by simp)) (fun v w a hR hF => ?_)
  have hS : St e s4 w [pt g3 59 (c2 ++ [v5, (.int .i64 x3.Hand), v6, (.int .i64 x4.Sure), (.slice none 0 0), (.slice none 0 0), (.int .i64 0), (.bool false)]), Ow kTRec 162 v6 x4.Recs, Ow kTSeat 105 v5 x3.Seats, pt g2 59 (za_49 ++ [(.slice none 0 0), (.int .i64 0), (.slice none 0 0), (.int .i64 0), (.slice none 0 0), (.slice none 0 0), (.int .i64 0), (.bool false)]), pt g1 40 (c1 ++ [v1, (.int .i64 x1.Pool.Hand), v2, (.int .i64 x1.Log.Sure), v3, v4, (.int .i64 x1.Next), (.bool x1.Down)])] := hR
  refine nilN ?_
  refine xn ?_
  refine sq ?_
  refine rg ?_
  refine stp hF (p_fldb (o' := 140) rfl fi_40_3 rfl) (by decide) (fun a hF => ?_)
  refine stp hF (p_ldb_one (i := 4) (v := v3) hS rfl rfl ia_37 (by simp [(show c1.length = 136 from Kd.len _ ((Kd.arr 8 kTPage).mono hg3 ((Kd.arr 8 kTPage).mono hg2 ((Kd.arr 8 kTPage).mono hg1 h1))))])) (by decide) (fun a hF => ?_)
  obtain ⟨x5, hx4, H⟩ := hb H
  refine ste hF (e_callA (fst := []) (vs := [v3]) (cap := []) rfl rfl go_45 (St.call (A := []) (B := [pt g3 59 (c2 ++ [v5, (.int .i64 x3.Hand), v6, (.int .i64 x4.Sure), (.slice none 0 0), (.slice none 0 0), (.int .i64 0), (.bool false)]), Ow kTRec 162 v6 x4.Recs, Ow kTSeat 105 v5 x3.Seats, pt g2 59 (za_49 ++ [(.slice none 0 0), (.int .i64 0), (.slice none 0 0), (.int .i64 0), (.slice none 0 0), (.slice none 0 0), (.int .i64 0), (.bool false)]), pt g1 40 (c1 ++ [v1, (.int .i64 x1.Pool.Hand), v2, (.int .i64 x1.Log.Sure), v3, v4, (.int .i64 x1.Next), (.bool x1.Down)])]) hS (laws_toLiveS.spec k _ _ x1.Txs v3 (((h4.mono hg1).mono hg2).mono hg3) _ hx4)) rfl) (by decide) (fun v w a hR hF => ?_)
  obtain ⟨s5, A5, hg4, hS, hR⟩ := hR
  obtain ⟨v7, hv4, rfl⟩ := hR; obtain rfl := hv4.symm
  have hS : St e s5 w [Ow kTLive 169 v7 x5, pt g3 59 (c2 ++ [v5, (.int .i64 x3.Hand), v6, (.int .i64 x4.Sure), (.slice none 0 0), (.slice none 0 0), (.int .i64 0), (.bool false)]), Ow kTRec 162 v6 x4.Recs, Ow kTSeat 105 v5 x3.Seats, pt g2 59 (za_49 ++ [(.slice none 0 0), (.int .i64 0), (.slice none 0 0), (.int .i64 0), (.slice none 0 0), (.slice none 0 0), (.int .i64 0), (.bool false)]), pt g1 40 (c1 ++ [v1, (.int .i64 x1.Pool.Hand), v2, (.int .i64 x1.Log.Sure), v3, v4, (.int .i64 x1.Next), (.bool x1.Down)])] := hS
  refine stp hF (p_fldb (o' := 140) rfl fi_59_3 rfl) (by decide) (fun a hF => ?_)
  refine ste0 hF (e_stb (i := 1) (l := c2 ++ [v5, (.int .i64 x3.Hand), v6, (.int .i64 x4.Sure)]) (m := [(.slice none 0 0)]) (r := [(.slice none 0 0), (.int .i64 0), (.bool false)]) (m' := [v7]) (cs' := c2 ++ [v5, (.int .i64 x3.Hand), v6, (.int .i64 x4.Sure), v7, (.slice none 0 0), (.int .i64 0), (.bool false)]) hS rfl rfl rfl ti_56 (by simp) (by simp [(show c2.length = 136 from Kd.len _ ((Kd.arr 8 kTPage).mono hg4 ((Kd.arr 8 kTPage).mono hg3 ((Kd.arr 8 kTPage).mono hg2 h6))))]) (by simp [(show c2.length = 136 from Kd.len _ ((Kd.arr 8 kTPage).mono hg4 ((Kd.arr 8 kTPage).mono hg3 ((Kd.arr 8 kTPage).mono hg2 h6))))]) (cells_one (hS.one_ow (i := 0) rfl)) (by simp [(show c2.length = 136 from Kd.len _ ((Kd.arr 8 kTPage).mono hg4 ((Kd.arr 8 kTPage).mono hg3 ((Kd.arr 8 kTPage).mono hg2 h6))))]) (one_cons (hS.one_ow (i := 0) rfl) one_nil) (by simp)) (fun v w a hR hF => ?_)
  have hS : St e s5 w [pt g3 59 (c2 ++ [v5, (.int .i64 x3.Hand), v6, (.int .i64 x4.Sure), v7, (.slice none 0 0), (.int .i64 0), (.bool false)]), Ow kTLive 169 v7 x5, Ow kTRec 162 v6 x4.Recs, Ow kTSeat 105 v5 x3.Seats, pt g2 59 (za_49 ++ [(.slice none 0 0), (.int .i64 0), (.slice none 0 0), (.int .i64 0), (.slice none 0 0), (.slice none 0 0), (.int .i64 0), (.bool false)]), pt g1 40 (c1 ++ [v1, (.int .i64 x1.Pool.Hand), v2, (.int .i64 x1.Log.Sure), v3, v4, (.int .i64 x1.Next), (.bool x1.Down)])] := hR
  refine nilN ?_
  refine xn ?_
  refine sq ?_
  refine rg ?_
  refine stp hF (p_fldb (o' := 141) rfl fi_40_4 rfl) (by decide) (fun a hF => ?_)
  refine stp hF (p_ldb_one (i := 5) (v := v4) hS rfl rfl ia_38 (by simp [(show c1.length = 136 from Kd.len _ ((Kd.arr 8 kTPage).mono hg4 ((Kd.arr 8 kTPage).mono hg3 ((Kd.arr 8 kTPage).mono hg2 ((Kd.arr 8 kTPage).mono hg1 h1)))))])) (by decide) (fun a hF => ?_)
  obtain ⟨x6, hx5, H⟩ := hb H
  refine ste hF (e_callA (fst := []) (vs := [v4]) (cap := []) rfl rfl go_46 (St.call (A := []) (B := [pt g3 59 (c2 ++ [v5, (.int .i64 x3.Hand), v6, (.int .i64 x4.Sure), v7, (.slice none 0 0), (.int .i64 0), (.bool false)]), Ow kTLive 169 v7 x5, Ow kTRec 162 v6 x4.Recs, Ow kTSeat 105 v5 x3.Seats, pt g2 59 (za_49 ++ [(.slice none 0 0), (.int .i64 0), (.slice none 0 0), (.int .i64 0), (.slice none 0 0), (.slice none 0 0), (.int .i64 0), (.bool false)]), pt g1 40 (c1 ++ [v1, (.int .i64 x1.Pool.Hand), v2, (.int .i64 x1.Log.Sure), v3, v4, (.int .i64 x1.Next), (.bool x1.Down)])]) hS (laws_toHoldS.spec k _ _ x1.Holds v4 ((((h5.mono hg1).mono hg2).mono hg3).mono hg4) _ hx5)) rfl) (by decide) (fun v w a hR hF => ?_)
  obtain ⟨s6, A6, hg5, hS, hR⟩ := hR
  obtain ⟨v8, hv5, rfl⟩ := hR; obtain rfl := hv5.symm
  have hS : St e s6 w [Ow kTHold 141 v8 x6, pt g3 59 (c2 ++ [v5, (.int .i64 x3.Hand), v6, (.int .i64 x4.Sure), v7, (.slice none 0 0), (.int .i64 0), (.bool false)]), Ow kTLive 169 v7 x5, Ow kTRec 162 v6 x4.Recs, Ow kTSeat 105 v5 x3.Seats, pt g2 59 (za_49 ++ [(.slice none 0 0), (.int .i64 0), (.slice none 0 0), (.int .i64 0), (.slice none 0 0), (.slice none 0 0), (.int .i64 0), (.bool false)]), pt g1 40 (c1 ++ [v1, (.int .i64 x1.Pool.Hand), v2, (.int .i64 x1.Log.Sure), v3, v4, (.int .i64 x1.Next), (.bool x1.Down)])] := hS
  refine stp hF (p_fldb (o' := 141) rfl fi_59_4 rfl) (by decide) (fun a hF => ?_)
  refine ste0 hF (e_stb (i := 1) (l := c2 ++ [v5, (.int .i64 x3.Hand), v6, (.int .i64 x4.Sure), v7]) (m := [(.slice none 0 0)]) (r := [(.int .i64 0), (.bool false)]) (m' := [v8]) (cs' := c2 ++ [v5, (.int .i64 x3.Hand), v6, (.int .i64 x4.Sure), v7, v8, (.int .i64 0), (.bool false)]) hS rfl rfl rfl ti_57 (by simp) (by simp [(show c2.length = 136 from Kd.len _ ((Kd.arr 8 kTPage).mono hg5 ((Kd.arr 8 kTPage).mono hg4 ((Kd.arr 8 kTPage).mono hg3 ((Kd.arr 8 kTPage).mono hg2 h6)))))]) (by simp [(show c2.length = 136 from Kd.len _ ((Kd.arr 8 kTPage).mono hg5 ((Kd.arr 8 kTPage).mono hg4 ((Kd.arr 8 kTPage).mono hg3 ((Kd.arr 8 kTPage).mono hg2 h6)))))]) (cells_one (hS.one_ow (i := 0) rfl)) (by simp [(show c2.length = 136 from Kd.len _ ((Kd.arr 8 kTPage).mono hg5 ((Kd.arr 8 kTPage).mono hg4 ((Kd.arr 8 kTPage).mono hg3 ((Kd.arr 8 kTPage).mono hg2 h6)))))]) (one_cons (hS.one_ow (i := 0) rfl) one_nil) (by simp)) (fun v w a hR hF => ?_)
  have hS : St e s6 w [pt g3 59 (c2 ++ [v5, (.int .i64 x3.Hand), v6, (.int .i64 x4.Sure), v7, v8, (.int .i64 0), (.bool false)]), Ow kTHold 141 v8 x6, Ow kTLive 169 v7 x5, Ow kTRec 162 v6 x4.Recs, Ow kTSeat 105 v5 x3.Seats, pt g2 59 (za_49 ++ [(.slice none 0 0), (.int .i64 0), (.slice none 0 0), (.int .i64 0), (.slice none 0 0), (.slice none 0 0), (.int .i64 0), (.bool false)]), pt g1 40 (c1 ++ [v1, (.int .i64 x1.Pool.Hand), v2, (.int .i64 x1.Log.Sure), v3, v4, (.int .i64 x1.Next), (.bool x1.Down)])] := hR
  refine nilN ?_
  refine xn ?_
  refine sq ?_
  refine rg ?_
  refine stp hF (p_fldb (o' := 142) rfl fi_40_5 rfl) (by decide) (fun a hF => ?_)
  refine stp hF (p_ldb_one (i := 6) (v := (.int .i64 x1.Next)) hS rfl rfl ia_3 (by simp [(show c1.length = 136 from Kd.len _ ((Kd.arr 8 kTPage).mono hg5 ((Kd.arr 8 kTPage).mono hg4 ((Kd.arr 8 kTPage).mono hg3 ((Kd.arr 8 kTPage).mono hg2 ((Kd.arr 8 kTPage).mono hg1 h1))))))])) (by decide) (fun a hF => ?_)
  refine stp hF (p_fldb (o' := 142) rfl fi_59_5 rfl) (by decide) (fun a hF => ?_)
  refine ste0 hF (e_stb (i := 0) (l := c2 ++ [v5, (.int .i64 x3.Hand), v6, (.int .i64 x4.Sure), v7, v8]) (m := [(.int .i64 0)]) (r := [(.bool false)]) (m' := [(.int .i64 x1.Next)]) (cs' := c2 ++ [v5, (.int .i64 x3.Hand), v6, (.int .i64 x4.Sure), v7, v8, (.int .i64 x1.Next), (.bool false)]) hS rfl rfl rfl ti_3 (by simp) (by simp [(show c2.length = 136 from Kd.len _ ((Kd.arr 8 kTPage).mono hg5 ((Kd.arr 8 kTPage).mono hg4 ((Kd.arr 8 kTPage).mono hg3 ((Kd.arr 8 kTPage).mono hg2 h6)))))]) (by simp [(show c2.length = 136 from Kd.len _ ((Kd.arr 8 kTPage).mono hg5 ((Kd.arr 8 kTPage).mono hg4 ((Kd.arr 8 kTPage).mono hg3 ((Kd.arr 8 kTPage).mono hg2 h6)))))]) rfl (by simp [(show c2.length = 136 from Kd.len _ ((Kd.arr 8 kTPage).mono hg5 ((Kd.arr 8 kTPage).mono hg4 ((Kd.arr 8 kTPage).mono hg3 ((Kd.arr 8 kTPage).mono hg2 h6)))))]) (one_cons rfl one_nil) (by simp)) (fun v w a hR hF => ?_)
  have hS : St e s6 w [pt g3 59 (c2 ++ [v5, (.int .i64 x3.Hand), v6, (.int .i64 x4.Sure), v7, v8, (.int .i64 x1.Next), (.bool false)]), Ow kTHold 141 v8 x6, Ow kTLive 169 v7 x5, Ow kTRec 162 v6 x4.Recs, Ow kTSeat 105 v5 x3.Seats, pt g2 59 (za_49 ++ [(.slice none 0 0), (.int .i64 0), (.slice none 0 0), (.int .i64 0), (.slice none 0 0), (.slice none 0 0), (.int .i64 0), (.bool false)]), pt g1 40 (c1 ++ [v1, (.int .i64 x1.Pool.Hand), v2, (.int .i64 x1.Log.Sure), v3, v4, (.int .i64 x1.Next), (.bool x1.Down)])] := hR
  refine nilN ?_
  refine xn ?_
  refine sq ?_
  refine rg ?_
  refine stp hF (p_fldb (o' := 143) rfl fi_40_6 rfl) (by decide) (fun a hF => ?_)
  refine stp hF (p_ldb_one (i := 6) (v := (.bool x1.Down)) hS rfl rfl ia_4 (by simp [(show c1.length = 136 from Kd.len _ ((Kd.arr 8 kTPage).mono hg5 ((Kd.arr 8 kTPage).mono hg4 ((Kd.arr 8 kTPage).mono hg3 ((Kd.arr 8 kTPage).mono hg2 ((Kd.arr 8 kTPage).mono hg1 h1))))))])) (by decide) (fun a hF => ?_)
  refine stp hF (p_fldb (o' := 143) rfl fi_59_6 rfl) (by decide) (fun a hF => ?_)
  refine ste0 hF (e_stb (i := 0) (l := c2 ++ [v5, (.int .i64 x3.Hand), v6, (.int .i64 x4.Sure), v7, v8, (.int .i64 x1.Next)]) (m := [(.bool false)]) (r := []) (m' := [(.bool x1.Down)]) (cs' := c2 ++ [v5, (.int .i64 x3.Hand), v6, (.int .i64 x4.Sure), v7, v8, (.int .i64 x1.Next), (.bool x1.Down)]) hS rfl rfl rfl ti_4 (by simp) (by simp [(show c2.length = 136 from Kd.len _ ((Kd.arr 8 kTPage).mono hg5 ((Kd.arr 8 kTPage).mono hg4 ((Kd.arr 8 kTPage).mono hg3 ((Kd.arr 8 kTPage).mono hg2 h6)))))]) (by simp [(show c2.length = 136 from Kd.len _ ((Kd.arr 8 kTPage).mono hg5 ((Kd.arr 8 kTPage).mono hg4 ((Kd.arr 8 kTPage).mono hg3 ((Kd.arr 8 kTPage).mono hg2 h6)))))]) rfl (by simp [(show c2.length = 136 from Kd.len _ ((Kd.arr 8 kTPage).mono hg5 ((Kd.arr 8 kTPage).mono hg4 ((Kd.arr 8 kTPage).mono hg3 ((Kd.arr 8 kTPage).mono hg2 h6)))))]) (one_cons rfl one_nil) (by simp)) (fun v w a hR hF => ?_)
  have hS : St e s6 w [pt g3 59 (c2 ++ [v5, (.int .i64 x3.Hand), v6, (.int .i64 x4.Sure), v7, v8, (.int .i64 x1.Next), (.bool x1.Down)]), Ow kTHold 141 v8 x6, Ow kTLive 169 v7 x5, Ow kTRec 162 v6 x4.Recs, Ow kTSeat 105 v5 x3.Seats, pt g2 59 (za_49 ++ [(.slice none 0 0), (.int .i64 0), (.slice none 0 0), (.int .i64 0), (.slice none 0 0), (.slice none 0 0), (.int .i64 0), (.bool false)]), pt g1 40 (c1 ++ [v1, (.int .i64 x1.Pool.Hand), v2, (.int .i64 x1.Log.Sure), v3, v4, (.int .i64 x1.Next), (.bool x1.Down)])] := hR
  refine nilN ?_
  refine xn ?_
  refine sq ?_
  refine rg ?_
  refine stp hF (p_ldb_agg (i := 0) (l := []) (m := c2 ++ [v5, (.int .i64 x3.Hand), v6, (.int .i64 x4.Sure), v7, v8, (.int .i64 x1.Next), (.bool x1.Down)]) (r := []) hS rfl rfl ia_59 ti_59 (by simp) (by simp [(show c2.length = 136 from Kd.len _ ((Kd.arr 8 kTPage).mono hg5 ((Kd.arr 8 kTPage).mono hg4 ((Kd.arr 8 kTPage).mono hg3 ((Kd.arr 8 kTPage).mono hg2 h6)))))]) (by simp [(show c2.length = 136 from Kd.len _ ((Kd.arr 8 kTPage).mono hg5 ((Kd.arr 8 kTPage).mono hg4 ((Kd.arr 8 kTPage).mono hg3 ((Kd.arr 8 kTPage).mono hg2 h6)))))])) (by decide) (fun a hF => ?_)
  refine ste0 hF (e_stb (i := 5) (l := []) (m := za_49 ++ [(.slice none 0 0), (.int .i64 0), (.slice none 0 0), (.int .i64 0), (.slice none 0 0), (.slice none 0 0), (.int .i64 0), (.bool false)]) (r := []) (m' := c2 ++ [v5, (.int .i64 x3.Hand), v6, (.int .i64 x4.Sure), v7, v8, (.int .i64 x1.Next), (.bool x1.Down)]) (cs' := c2 ++ [v5, (.int .i64 x3.Hand), v6, (.int .i64 x4.Sure), v7, v8, (.int .i64 x1.Next), (.bool x1.Down)]) hS rfl rfl rfl ti_59 (by simp) (by simp [zl_49, (show c2.length = 136 from Kd.len _ ((Kd.arr 8 kTPage).mono hg5 ((Kd.arr 8 kTPage).mono hg4 ((Kd.arr 8 kTPage).mono hg3 ((Kd.arr 8 kTPage).mono hg2 h6)))))]) (by simp [zl_49, (show c2.length = 136 from Kd.len _ ((Kd.arr 8 kTPage).mono hg5 ((Kd.arr 8 kTPage).mono hg4 ((Kd.arr 8 kTPage).mono hg3 ((Kd.arr 8 kTPage).mono hg2 h6)))))]) rfl (by simp [zl_49, (show c2.length = 136 from Kd.len _ ((Kd.arr 8 kTPage).mono hg5 ((Kd.arr 8 kTPage).mono hg4 ((Kd.arr 8 kTPage).mono hg3 ((Kd.arr 8 kTPage).mono hg2 h6)))))]) (one_app (Kd.one _ ((Kd.arr 8 kTPage).mono hg5 ((Kd.arr 8 kTPage).mono hg4 ((Kd.arr 8 kTPage).mono hg3 ((Kd.arr 8 kTPage).mono hg2 h6))))) (one_cons (hS.one_ow (i := 4) rfl) (one_cons rfl (one_cons (hS.one_ow (i := 3) rfl) (one_cons rfl (one_cons (hS.one_ow (i := 2) rfl) (one_cons (hS.one_ow (i := 1) rfl) (one_cons rfl (one_cons rfl one_nil))))))))) (by simp)) (fun v w a hR hF => ?_)
  have hS : St e s6 w [pt g2 59 (c2 ++ [v5, (.int .i64 x3.Hand), v6, (.int .i64 x4.Sure), v7, v8, (.int .i64 x1.Next), (.bool x1.Down)]), pt g3 59 (c2 ++ [v5, (.int .i64 x3.Hand), v6, (.int .i64 x4.Sure), v7, v8, (.int .i64 x1.Next), (.bool x1.Down)]), Ow kTHold 141 v8 x6, Ow kTLive 169 v7 x5, Ow kTRec 162 v6 x4.Recs, Ow kTSeat 105 v5 x3.Seats, pt g1 40 (c1 ++ [v1, (.int .i64 x1.Pool.Hand), v2, (.int .i64 x1.Log.Sure), v3, v4, (.int .i64 x1.Next), (.bool x1.Down)])] := hR
  refine nilN ?_
  refine xn ?_
  refine rt ?_
  obtain rfl := hsm H
  have h7 : RvOk Tryz.prog _ w (.cell 2 59) _ := rvC (i := 0) hS rfl (show lk [(2, (.pointer (some ⟨g2, 0, none⟩)))] 2 = _ from rfl) ia_59 ti_59 (by simp [(show c2.length = 136 from Kd.len _ ((Kd.arr 8 kTPage).mono hg5 ((Kd.arr 8 kTPage).mono hg4 ((Kd.arr 8 kTPage).mono hg3 ((Kd.arr 8 kTPage).mono hg2 h6)))))])
  replace hS := hS.sel (is := [5, 4, 3, 2]) (A' := [Ow kTSeat 105 v5 x3.Seats, Ow kTRec 162 v6 x4.Recs, Ow kTLive 169 v7 x5, Ow kTHold 141 v8 x6]) rfl
  exact retc1 hF rfl h7 hS ⟨c2, v5, v6, v7, v8, rfl, rfl, ((Kd.arr 8 kTPage).mono hg5 ((Kd.arr 8 kTPage).mono hg4 ((Kd.arr 8 kTPage).mono hg3 ((Kd.arr 8 kTPage).mono hg2 h6))))⟩

def spec_l1In.f (k : Nat) (x1 : Int) (x2 : Int) (x3 : Int) : Option Bool :=
  (some ((decide (x2 ≤ x1)) && (decide (x1 ≤ x3))))
set_option maxRecDepth 100000 in
set_option maxHeartbeats 4000000 in
theorem spec_l1In.spec (k : Nat) (s0 : HF) (w : World) (x1 : Int) (x2 : Int) (x3 : Int) (r : Bool) (H : spec_l1In.f k x1 x2 x3 = some r) :
    Law Tryz.prog 108 #[(.int .i64 x1), (.int .i64 x2), (.int .i64 x3)] s0 w [] (fun v s1 A1 => v = (.bool r) ∧ A1 = []) := by
  unfold spec_l1In.f at H
  refine Law.intro Tryz.func108 rfl [(0, (.int .i64 x1)), (1, (.int .i64 x2)), (2, (.int .i64 x3))] (Nat.le_of_ble_eq_true rfl) (enter_lk ⟨rfl, rfl, rfl, trivial⟩) (fun e a hS hF => ?_)
  have hF : Fr 15 a [(0, (.int .i64 x1)), (1, (.int .i64 x2)), (2, (.int .i64 x3))] := hF
  refine sq ?_
  refine rg ?_
  refine stp hF (p_assign rfl) (by decide) (fun a hF => ?_)
  refine nilN ?_
  refine xn ?_
  refine sq ?_
  refine rg ?_
  refine stp hF (p_move rfl) (by decide) (fun a hF => ?_)
  refine stp hF (p_move rfl) (by decide) (fun a hF => ?_)
  refine stp hF (p_geq rfl rfl) (by decide) (fun a hF => ?_)
  refine stp hF (p_move rfl) (by decide) (fun a hF => ?_)
  refine cutj 4 (fun a w => St e s0 w [] ∧ Fr 15 a [(14, (.bool ((decide (x2 ≤ x1)) && (decide (x1 ≤ x3)))))]) rfl rfl ?_ ?_
  · rcases Bool.eq_false_or_eq_true (decide (x2 ≤ x1)) with hc1 | hc1
    · skip
      refine gonE (j := 3) hF rfl rfl hc1 ?_
      refine stp hF (p_move rfl) (by decide) (fun a hF => ?_)
      refine gonE (j := 3) hF rfl rfl hc1 ?_
      refine stp hF (p_move rfl) (by decide) (fun a hF => ?_)
      refine gonE (j := 3) hF rfl rfl hc1 ?_
      refine stp hF (p_leq rfl rfl) (by decide) (fun a hF => ?_)
      refine stp hF (p_andT rfl hc1 rfl) (by decide) (fun a hF => ?_)
      refine nilN ?_
      refine xn ?_
      exact ⟨hS, hF.cut ⟨rfl, trivial⟩⟩
    · skip
      refine gofD (j := 3) hF rfl rfl (by rw [hc1]; decide) (by decide) (fun a hF => ?_)
      refine gofD (j := 3) hF rfl rfl (by rw [hc1]; decide) (by decide) (fun a hF => ?_)
      refine gofD (j := 3) hF rfl rfl (by rw [hc1]; decide) (by decide) (fun a hF => ?_)
      refine stp hF (p_andF (decide (x1 ≤ x3)) rfl hc1 rfl) (by decide) (fun a hF => ?_)
      refine nilN ?_
      refine xn ?_
      exact ⟨hS, hF.cut ⟨rfl, trivial⟩⟩
  clear hS hF
  rintro a w ⟨hS, hF⟩
  refine stp hF (p_assign rfl) (by decide) (fun a hF => ?_)
  refine nilN ?_
  refine xn ?_
  refine rt ?_
  obtain rfl := hsm H
  exact ret1 hF rfl rfl hS ⟨rfl, rfl⟩

def spec_ObjOk.c1 (k : Nat) : Option Bool :=
  (some true)
def spec_ObjOk.l1 (x1 : TObj) : Nat → Int → Option (Ex Bool Unit)
  | 0, _ => none
  | k + 1, x2 => (if (decide (x2 < (x1.Refs.length : Int))) = true then (if 0 ≤ x2 ∧ x2 < (x1.Refs.length : Int) then ((spec_l1In.f k (rd x1.Refs x2) 0 31).bind fun x3 => (if (!x3) = true then (some (Ex.ret false)) else ((spec_ObjOk.l1 x1 k) (w64 (x2 + 1))))) else none) else (some (Ex.go ())))
def spec_ObjOk.c2 (k : Nat) (x1 : TObj) : Option Bool :=
  (((spec_ObjOk.l1 x1 k 0) : Option (Ex Bool Unit)).bind fun x4 => Ex.on x4 (fun r => some r) (fun y => spec_ObjOk.c1 k))
def spec_ObjOk.l2 (x1 : TObj) : Nat → Int → Option (Ex Bool Unit)
  | 0, _ => none
  | k + 1, x5 => (if (decide (x5 < (x1.Ints.length : Int))) = true then (if 0 ≤ x5 ∧ x5 < (x1.Ints.length : Int) then ((spec_l1In.f k (rd x1.Ints x5) (-1000000) 1000000).bind fun x6 => (if (!x6) = true then (some (Ex.ret false)) else ((spec_ObjOk.l2 x1 k) (w64 (x5 + 1))))) else none) else (some (Ex.go ())))
def spec_ObjOk.f (k : Nat) (x1 : TObj) : Option Bool :=
  ((spec_l1In.f k x1.Kind 1 99).bind fun x7 => (if (((!x7) || (decide (5 < (x1.Ints.length : Int)))) || (decide (5 < (x1.Refs.length : Int)))) = true then (some false) else (((spec_ObjOk.l2 x1 k 0) : Option (Ex Bool Unit)).bind fun x8 => Ex.on x8 (fun r => some r) (fun y => spec_ObjOk.c2 k x1))))
set_option maxRecDepth 100000 in
set_option maxHeartbeats 4000000 in
theorem spec_ObjOk.spec (k : Nat) (s0 : HF) (w : World) (x1 : TObj) (v1 : Value) (v2 : Value) (h1 : Sl (Kd.int .i64) s0 v1 x1.Ints) (h2 : Sl (Kd.int .i64) s0 v2 x1.Refs) (r : Bool) (H : spec_ObjOk.f k x1 = some r) :
    Law Tryz.prog 275 #[(.agg #[(.int .i64 x1.Kind), v1, v2])] s0 w [] (fun v s1 A1 => v = (.bool r) ∧ A1 = []) := by
  unfold spec_ObjOk.f at H
  refine Law.intro Tryz.func275 rfl [(0, (.agg #[(.int .i64 x1.Kind), v1, v2]))] (Nat.le_of_ble_eq_true rfl) (enter_lk ⟨rfl, trivial⟩) (fun e a hS hF => ?_)
  have hF : Fr 49 a [(0, (.agg #[(.int .i64 x1.Kind), v1, v2]))] := hF
  refine sq ?_
  refine rg ?_
  refine ste hF (e_box (cs := [(.int .i64 x1.Kind), v1, v2]) hS rfl rfl) (by decide) (fun v w a hR hF => ?_)
  obtain ⟨g1, rfl, hS⟩ := hR
  refine stp hF (p_assign rfl) (by decide) (fun a hF => ?_)
  refine nilN ?_
  refine xn ?_
  refine sq ?_
  refine sq ?_
  refine rg ?_
  refine stp hF (p_fldb (o' := 0) rfl fi_43_0 rfl) (by decide) (fun a hF => ?_)
  refine stp hF (p_ldb_one (i := 0) hS rfl rfl ia_3 rfl) (by decide) (fun a hF => ?_)
  obtain ⟨x7, hx1, H⟩ := hb H
  refine ste hF (e_callA (fst := []) (vs := [(.int .i64 x1.Kind), (.int .i64 1), (.int .i64 99)]) (cap := []) rfl rfl go_108 (St.call (A := []) (B := [pt g1 43 ([(.int .i64 x1.Kind), v1, v2])]) hS (spec_l1In.spec k _ _ x1.Kind 1 99 _ hx1)) rfl) (by decide) (fun v w a hR hF => ?_)
  obtain ⟨s2, A2, hg1, hS, hR⟩ := hR
  obtain ⟨hv1, rfl⟩ := hR; obtain rfl := hv1.symm
  have hS : St e s2 w [pt g1 43 ([(.int .i64 x1.Kind), v1, v2])] := hS
  refine stp hF (p_not rfl) (by decide) (fun a hF => ?_)
  refine stp hF (p_move rfl) (by decide) (fun a hF => ?_)
  refine cutj 5 (fun a w => St e s2 w [pt g1 43 ([(.int .i64 x1.Kind), v1, v2])] ∧ Fr 49 a [(1, (.pointer (some ⟨g1, 0, none⟩))), (14, (.bool ((!x7) || (decide (5 < (x1.Ints.length : Int))))))]) rfl rfl ?_ ?_
  · rcases Bool.eq_false_or_eq_true ((!x7)) with hc1 | hc1
    · skip
      refine gofD (j := 4) hF rfl rfl (by rw [hc1]; decide) (by decide) (fun a hF => ?_)
      refine gofD (j := 4) hF rfl rfl (by rw [hc1]; decide) (by decide) (fun a hF => ?_)
      refine gofD (j := 4) hF rfl rfl (by rw [hc1]; decide) (by decide) (fun a hF => ?_)
      refine gofD (j := 4) hF rfl rfl (by rw [hc1]; decide) (by decide) (fun a hF => ?_)
      refine stp hF (p_orT (decide (5 < (x1.Ints.length : Int))) rfl hc1 rfl) (by decide) (fun a hF => ?_)
      refine nilN ?_
      refine xn ?_
      exact ⟨hS, hF.cut ⟨rfl, rfl, trivial⟩⟩
    · skip
      refine gonE (j := 4) hF rfl rfl hc1 ?_
      refine stp hF (p_fldb (o' := 1) rfl fi_43_1 rfl) (by decide) (fun a hF => ?_)
      refine gonE (j := 4) hF rfl rfl hc1 ?_
      refine stp hF (p_ldb_one (i := 0) hS rfl rfl ia_22 rfl) (by decide) (fun a hF => ?_)
      refine gonE (j := 4) hF rfl rfl hc1 ?_
      refine stp hF (p_lenr un_22 rfl (h1.mono hg1)) (by decide) (fun a hF => ?_)
      refine gonE (j := 4) hF rfl rfl hc1 ?_
      refine stp hF (p_gtr rfl rfl) (by decide) (fun a hF => ?_)
      refine stp hF (p_orF rfl hc1 rfl) (by decide) (fun a hF => ?_)
      refine nilN ?_
      refine xn ?_
      exact ⟨hS, hF.cut ⟨rfl, rfl, trivial⟩⟩
  clear hS hF
  rintro a w ⟨hS, hF⟩
  refine stp hF (p_move rfl) (by decide) (fun a hF => ?_)
  refine cutj 5 (fun a w => St e s2 w [pt g1 43 ([(.int .i64 x1.Kind), v1, v2])] ∧ Fr 49 a [(1, (.pointer (some ⟨g1, 0, none⟩))), (20, (.bool (((!x7) || (decide (5 < (x1.Ints.length : Int)))) || (decide (5 < (x1.Refs.length : Int))))))]) rfl rfl ?_ ?_
  · rcases Bool.eq_false_or_eq_true (((!x7) || (decide (5 < (x1.Ints.length : Int))))) with hc2 | hc2
    · skip
      refine gofD (j := 10) hF rfl rfl (by rw [hc2]; decide) (by decide) (fun a hF => ?_)
      refine gofD (j := 10) hF rfl rfl (by rw [hc2]; decide) (by decide) (fun a hF => ?_)
      refine gofD (j := 10) hF rfl rfl (by rw [hc2]; decide) (by decide) (fun a hF => ?_)
      refine gofD (j := 10) hF rfl rfl (by rw [hc2]; decide) (by decide) (fun a hF => ?_)
      refine stp hF (p_orT (decide (5 < (x1.Refs.length : Int))) rfl hc2 rfl) (by decide) (fun a hF => ?_)
      refine nilN ?_
      refine xn ?_
      exact ⟨hS, hF.cut ⟨rfl, rfl, trivial⟩⟩
    · skip
      refine gonE (j := 10) hF rfl rfl hc2 ?_
      refine stp hF (p_fldb (o' := 2) rfl fi_43_2 rfl) (by decide) (fun a hF => ?_)
      refine gonE (j := 10) hF rfl rfl hc2 ?_
      refine stp hF (p_ldb_one (i := 0) hS rfl rfl ia_22 rfl) (by decide) (fun a hF => ?_)
      refine gonE (j := 10) hF rfl rfl hc2 ?_
      refine stp hF (p_lenr un_22 rfl (h2.mono hg1)) (by decide) (fun a hF => ?_)
      refine gonE (j := 10) hF rfl rfl hc2 ?_
      refine stp hF (p_gtr rfl rfl) (by decide) (fun a hF => ?_)
      refine stp hF (p_orF rfl hc2 rfl) (by decide) (fun a hF => ?_)
      refine nilN ?_
      refine xn ?_
      exact ⟨hS, hF.cut ⟨rfl, rfl, trivial⟩⟩
  clear hS hF
  rintro a w ⟨hS, hF⟩
  refine nilN ?_
  refine xn ?_
  refine cnd hF rfl (fun hc3 => ?_) (fun hc3 => ?_)
  · replace H := hbt hc3 H
    refine sq ?_
    refine rg ?_
    refine stp hF (p_assign rfl) (by decide) (fun a hF => ?_)
    refine nilN ?_
    refine xn ?_
    refine rt ?_
    refine xr ?_
    obtain rfl := hsm H
    replace hS := hS.sel (is := []) (A' := []) rfl
    exact ret1 hF rfl rfl hS ⟨rfl, rfl⟩
  · replace H := hbf hc3 H
    refine skN ?_
    refine xn ?_
    obtain ⟨x8, H, HK1⟩ := hb H
    refine sqj (fun a w => ∃ (s3 : HF) , St e s3 w [pt g1 43 ([(.int .i64 x1.Kind), v1, v2])] ∧ Fr 49 a [(1, (.pointer (some ⟨g1, 0, none⟩)))] ∧ Sub s2 s3 ∧ spec_ObjOk.c2 k x1 = some r) ?_ ?_
    · skip
      refine sq ?_
      refine rg ?_
      refine stp hF (p_assign rfl) (by decide) (fun a hF => ?_)
      refine nilN ?_
      refine xn ?_
      refine blk ?_
      refine loop_ind (fun k1 a w => ∃ (x5 : Int) (s4 : HF) , St e s4 w [pt g1 43 ([(.int .i64 x1.Kind), v1, v2])] ∧ Fr 49 a [(1, (.pointer (some ⟨g1, 0, none⟩))), (3, (.int .i64 x5))] ∧ Sub s2 s4 ∧ spec_ObjOk.l2 x1 k1 x5 = some x8) k ?_ ?_ ?_
      · skip
        exact ⟨0, s2, hS, hF.cut ⟨rfl, rfl, trivial⟩, (Sub.refl _), H⟩
      · clear H hS hF
        rintro a w ⟨x5, s4, hS, hF, hg2, H⟩
        exact absurd (show none = some _ from H) (by simp)
      · clear H hS hF
        rintro k1 a w ⟨x5, s4, hS, hF, hg2, H⟩
        rw [spec_ObjOk.l2.eq_2] at H
        refine sq ?_
        refine sq ?_
        refine rg ?_
        refine stp hF (p_move rfl) (by decide) (fun a hF => ?_)
        refine stp hF (p_fldb (o' := 1) rfl fi_43_1 rfl) (by decide) (fun a hF => ?_)
        refine stp hF (p_ldb_one (i := 0) hS rfl rfl ia_22 rfl) (by decide) (fun a hF => ?_)
        refine stp hF (p_lenr un_22 rfl ((h1.mono hg1).mono hg2)) (by decide) (fun a hF => ?_)
        refine stp hF (p_lss rfl rfl) (by decide) (fun a hF => ?_)
        refine nilN ?_
        refine xn ?_
        refine cnd hF rfl (fun hc4 => ?_) (fun hc4 => ?_)
        · replace H := hbt hc4 H
          refine skN ?_
          refine xn ?_
          refine sq ?_
          refine blk ?_
          refine sq ?_
          refine rg ?_
          refine stp hF (p_fldb (o' := 1) rfl fi_43_1 rfl) (by decide) (fun a hF => ?_)
          refine stp hF (p_ldb_one (i := 0) hS rfl rfl ia_22 rfl) (by decide) (fun a hF => ?_)
          refine stp hF (p_move rfl) (by decide) (fun a hF => ?_)
          obtain ⟨hq1, H⟩ := hck H
          obtain ⟨ad1, h3, p1⟩ := p_idxr (P := Tryz.prog) (i := x5) ((h1.mono hg1).mono hg2) un_22 ti_3 hq1.1 hq1.2
          refine stp hF (p1 rfl rfl) (by decide) (fun a hF => ?_)
          refine stp hF (p_ldr_int rfl hS h3 ia_3) (by decide) (fun a hF => ?_)
          obtain ⟨x6, hx2, H⟩ := hb H
          refine ste hF (e_callA (fst := []) (vs := [(.int .i64 (rd x1.Ints x5)), (.int .i64 (-1000000)), (.int .i64 1000000)]) (cap := []) rfl rfl go_108 (St.call (A := []) (B := [pt g1 43 ([(.int .i64 x1.Kind), v1, v2])]) hS (spec_l1In.spec k1 _ _ (rd x1.Ints x5) (-1000000) 1000000 _ hx2)) rfl) (by decide) (fun v w a hR hF => ?_)
          obtain ⟨s5, A3, hg3, hS, hR⟩ := hR
          obtain ⟨hv2, rfl⟩ := hR; obtain rfl := hv2.symm
          have hS : St e s5 w [pt g1 43 ([(.int .i64 x1.Kind), v1, v2])] := hS
          refine stp hF (p_not rfl) (by decide) (fun a hF => ?_)
          refine nilN ?_
          refine xn ?_
          refine cnd hF rfl (fun hc5 => ?_) (fun hc5 => ?_)
          · replace H := hbt hc5 H
            refine sq ?_
            refine rg ?_
            refine stp hF (p_assign rfl) (by decide) (fun a hF => ?_)
            refine nilN ?_
            refine xn ?_
            refine rt ?_
            refine br (xr (xr (br (xr ?_))))
            obtain rfl := hsm H
            have H := hon1 HK1
            obtain rfl := hsm H
            replace hS := hS.sel (is := []) (A' := []) rfl
            exact ret1 hF rfl rfl hS ⟨rfl, rfl⟩
          · replace H := hbf hc5 H
            refine skN ?_
            refine bn (xn ?_)
            refine rg ?_
            refine stp hF (p_move rfl) (by decide) (fun a hF => ?_)
            refine stp hF (p_add (c := w64 (x5 + 1)) rfl rfl rfl) (by decide) (fun a hF => ?_)
            refine stp hF (p_assign rfl) (by decide) (fun a hF => ?_)
            refine nilN ?_
            refine xn ?_
            exact ⟨(w64 (x5 + 1)), s5, hS, hF.cut ⟨rfl, rfl, trivial⟩, (hg2.trans hg3), H⟩
        · replace H := hbf hc4 H
          refine exi ?_
          refine xe (xe (hit (xn ?_)))
          obtain rfl := hsm H
          exact ⟨s4, hS, hF.cut ⟨rfl, trivial⟩, hg2, HK1⟩
    · clear H HK1 hS hF
      rintro a w ⟨s3, hS, hF, hg4, H⟩
      unfold spec_ObjOk.c2 at H
      obtain ⟨x4, H, HK2⟩ := hb H
      refine sqj (fun a w => ∃ (s6 : HF) , St e s6 w [pt g1 43 ([(.int .i64 x1.Kind), v1, v2])] ∧ Fr 49 a [] ∧ Sub s3 s6 ∧ spec_ObjOk.c1 k = some r) ?_ ?_
      · skip
        refine sq ?_
        refine rg ?_
        refine stp hF (p_assign rfl) (by decide) (fun a hF => ?_)
        refine nilN ?_
        refine xn ?_
        refine blk ?_
        refine loop_ind (fun k2 a w => ∃ (x2 : Int) (s7 : HF) , St e s7 w [pt g1 43 ([(.int .i64 x1.Kind), v1, v2])] ∧ Fr 49 a [(1, (.pointer (some ⟨g1, 0, none⟩))), (4, (.int .i64 x2))] ∧ Sub s3 s7 ∧ spec_ObjOk.l1 x1 k2 x2 = some x4) k ?_ ?_ ?_
        · skip
          exact ⟨0, s3, hS, hF.cut ⟨rfl, rfl, trivial⟩, (Sub.refl _), H⟩
        · clear H hS hF
          rintro a w ⟨x2, s7, hS, hF, hg5, H⟩
          exact absurd (show none = some _ from H) (by simp)
        · clear H hS hF
          rintro k2 a w ⟨x2, s7, hS, hF, hg5, H⟩
          rw [spec_ObjOk.l1.eq_2] at H
          refine sq ?_
          refine sq ?_
          refine rg ?_
          refine stp hF (p_move rfl) (by decide) (fun a hF => ?_)
          refine stp hF (p_fldb (o' := 2) rfl fi_43_2 rfl) (by decide) (fun a hF => ?_)
          refine stp hF (p_ldb_one (i := 0) hS rfl rfl ia_22 rfl) (by decide) (fun a hF => ?_)
          refine stp hF (p_lenr un_22 rfl (((h2.mono hg1).mono hg4).mono hg5)) (by decide) (fun a hF => ?_)
          refine stp hF (p_lss rfl rfl) (by decide) (fun a hF => ?_)
          refine nilN ?_
          refine xn ?_
          refine cnd hF rfl (fun hc6 => ?_) (fun hc6 => ?_)
          · replace H := hbt hc6 H
            refine skN ?_
            refine xn ?_
            refine sq ?_
            refine blk ?_
            refine sq ?_
            refine rg ?_
            refine stp hF (p_fldb (o' := 2) rfl fi_43_2 rfl) (by decide) (fun a hF => ?_)
            refine stp hF (p_ldb_one (i := 0) hS rfl rfl ia_22 rfl) (by decide) (fun a hF => ?_)
            refine stp hF (p_move rfl) (by decide) (fun a hF => ?_)
            obtain ⟨hq2, H⟩ := hck H
            obtain ⟨ad2, h4, p2⟩ := p_idxr (P := Tryz.prog) (i := x2) (((h2.mono hg1).mono hg4).mono hg5) un_22 ti_3 hq2.1 hq2.2
            refine stp hF (p2 rfl rfl) (by decide) (fun a hF => ?_)
            refine stp hF (p_ldr_int rfl hS h4 ia_3) (by decide) (fun a hF => ?_)
            obtain ⟨x3, hx3, H⟩ := hb H
            refine ste hF (e_callA (fst := []) (vs := [(.int .i64 (rd x1.Refs x2)), (.int .i64 0), (.int .i64 31)]) (cap := []) rfl rfl go_108 (St.call (A := []) (B := [pt g1 43 ([(.int .i64 x1.Kind), v1, v2])]) hS (spec_l1In.spec k2 _ _ (rd x1.Refs x2) 0 31 _ hx3)) rfl) (by decide) (fun v w a hR hF => ?_)
            obtain ⟨s8, A4, hg6, hS, hR⟩ := hR
            obtain ⟨hv3, rfl⟩ := hR; obtain rfl := hv3.symm
            have hS : St e s8 w [pt g1 43 ([(.int .i64 x1.Kind), v1, v2])] := hS
            refine stp hF (p_not rfl) (by decide) (fun a hF => ?_)
            refine nilN ?_
            refine xn ?_
            refine cnd hF rfl (fun hc7 => ?_) (fun hc7 => ?_)
            · replace H := hbt hc7 H
              refine sq ?_
              refine rg ?_
              refine stp hF (p_assign rfl) (by decide) (fun a hF => ?_)
              refine nilN ?_
              refine xn ?_
              refine rt ?_
              refine br (xr (xr (br (xr ?_))))
              obtain rfl := hsm H
              have H := hon1 HK2
              obtain rfl := hsm H
              replace hS := hS.sel (is := []) (A' := []) rfl
              exact ret1 hF rfl rfl hS ⟨rfl, rfl⟩
            · replace H := hbf hc7 H
              refine skN ?_
              refine bn (xn ?_)
              refine rg ?_
              refine stp hF (p_move rfl) (by decide) (fun a hF => ?_)
              refine stp hF (p_add (c := w64 (x2 + 1)) rfl rfl rfl) (by decide) (fun a hF => ?_)
              refine stp hF (p_assign rfl) (by decide) (fun a hF => ?_)
              refine nilN ?_
              refine xn ?_
              exact ⟨(w64 (x2 + 1)), s8, hS, hF.cut ⟨rfl, rfl, trivial⟩, (hg5.trans hg6), H⟩
          · replace H := hbf hc6 H
            refine exi ?_
            refine xe (xe (hit (xn ?_)))
            obtain rfl := hsm H
            exact ⟨s7, hS, hF.cut trivial, hg5, HK2⟩
      · clear H HK2 hS hF
        rintro a w ⟨s6, hS, hF, hg7, H⟩
        unfold spec_ObjOk.c1 at H
        refine sq ?_
        refine rg ?_
        refine stp hF (p_assign rfl) (by decide) (fun a hF => ?_)
        refine nilN ?_
        refine xn ?_
        refine rt ?_
        obtain rfl := hsm H
        replace hS := hS.sel (is := []) (A' := []) rfl
        exact ret1 hF rfl rfl hS ⟨rfl, rfl⟩
end Go.Proofs.YthficejgcbadjaaGreat
