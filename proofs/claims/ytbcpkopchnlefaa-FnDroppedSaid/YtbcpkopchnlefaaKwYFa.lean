/- Functions of this place as plain functions, and that the machine comes to what they say. Conditions: none. -/
import Derived.Test.YtbcpkopchnlefaaKwYT
set_option linter.unusedVariables false
set_option linter.unusedSimpArgs false
namespace Go.Proofs.Ytbcpkopchnlefaa
open Go.Kw

def laws_big.f (k : Nat) (x1 : (List Int)) : Option Bool :=
  (some (decide (1048576 < (x1.length : Int))))
set_option maxRecDepth 100000 in
set_option maxHeartbeats 4000000 in
theorem laws_big.spec (k : Nat) (s0 : HF) (w : World) (x1 : (List Int)) (v1 : Value) (h1 : Sl (Kd.int .u8) s0 v1 x1) (r : Bool) (H : laws_big.f k x1 = some r) :
    Law Try.prog 6 #[v1] s0 w [] (fun v s1 A1 => v = (.bool r) ∧ A1 = []) := by
  unfold laws_big.f at H
  refine Law.intro Try.func6 rfl [(0, v1)] (Nat.le_of_ble_eq_true rfl) (enter_lk ⟨rfl, trivial⟩) (fun e a hS hF => ?_)
  have hF : Fr 6 a [(0, v1)] := hF
  refine sq ?_
  refine rg ?_
  refine stp hF (p_assign rfl) (by decide) (fun a hF => ?_)
  refine nilN ?_
  refine xn ?_
  refine sq ?_
  refine rg ?_
  refine stp hF (p_move rfl) (by decide) (fun a hF => ?_)
  refine stp hF (p_lenr un_22 rfl h1) (by decide) (fun a hF => ?_)
  refine stp hF (p_gtr rfl rfl) (by decide) (fun a hF => ?_)
  refine stp hF (p_assign rfl) (by decide) (fun a hF => ?_)
  refine nilN ?_
  refine xn ?_
  refine rt ?_
  obtain rfl := hsm H
  exact ret1 hF rfl rfl hS ⟨rfl, rfl⟩

def spec_l1New.c1 (k : Nat) (x1 : (List Int)) (x2 : Int) : Option Tl1Cur :=
  (some (⟨x1, 0, x2⟩ : Tl1Cur))
def spec_l1New.l1 (x1 : (List Int)) : Nat → Int → Int → Option Int
  | 0, _, _ => none
  | k + 1, x3, x4 => (if ((decide (x4 < (x1.length : Int))) && (decide (x4 < 4000))) = true then (if 0 ≤ x4 ∧ x4 < (x1.length : Int) then ((spec_l1New.l1 x1 k) (band .i64 (w64 ((w64 ((w64 (x3 * 137)) + (w64 (rd x1 x4)))) + 11)) 1073741823) (w64 (x4 + 1))) else none) else (some x3))
def spec_l1New.f (k : Nat) (x1 : (List Int)) : Option Tl1Cur :=
  (((spec_l1New.l1 x1 k (w64 (278278 + (x1.length : Int))) 0) : Option Int).bind fun x5 => spec_l1New.c1 k x1 x5)
set_option maxRecDepth 100000 in
set_option maxHeartbeats 4000000 in
theorem spec_l1New.spec (k : Nat) (s0 : HF) (w : World) (x1 : (List Int)) (v1 : Value) (h1 : Sl (Kd.int .u8) s0 v1 x1) (r : Tl1Cur) (H : spec_l1New.f k x1 = some r) :
    Law Try.prog 27 #[v1] s0 w [] (fun v s1 A1 => ∃ (u0 : Nat) (u1 : Value), v = (.pointer (some ⟨u0, 0, none⟩)) ∧ A1 = [pt u0 74 ([u1, (.int .i64 r.i), (.int .i64 r.h_)])] ∧ Sl (Kd.int .u8) s1 u1 r.b) := by
  unfold spec_l1New.f at H
  refine Law.intro Try.func27 rfl [(0, v1)] (Nat.le_of_ble_eq_true rfl) (enter_lk ⟨rfl, trivial⟩) (fun e a hS hF => ?_)
  have hF : Fr 32 a [(0, v1)] := hF
  refine sq ?_
  refine rg ?_
  refine stp hF (p_assign rfl) (by decide) (fun a hF => ?_)
  refine nilN ?_
  refine xn ?_
  refine sq ?_
  refine rg ?_
  refine stp hF (p_move rfl) (by decide) (fun a hF => ?_)
  refine stp hF (p_lenr un_22 rfl h1) (by decide) (fun a hF => ?_)
  refine stp hF (p_add (c := w64 (278278 + (x1.length : Int))) rfl rfl rfl) (by decide) (fun a hF => ?_)
  refine stp hF (p_assign rfl) (by decide) (fun a hF => ?_)
  refine nilN ?_
  refine xn ?_
  obtain ⟨x5, H, HK1⟩ := hb H
  refine sqj (fun a w => ∃ (x2 : Int) , St e s0 w [] ∧ Fr 32 a [(0, v1), (3, (.int .i64 x2))] ∧ spec_l1New.c1 k x1 x2 = some r) ?_ ?_
  · skip
    refine sq ?_
    refine rg ?_
    refine stp hF (p_assign rfl) (by decide) (fun a hF => ?_)
    refine nilN ?_
    refine xn ?_
    refine blk ?_
    refine loop_ind (fun k1 a w => ∃ (x3 : Int) (x4 : Int) , St e s0 w [] ∧ Fr 32 a [(0, v1), (3, (.int .i64 x3)), (4, (.int .i64 x4))] ∧ spec_l1New.l1 x1 k1 x3 x4 = some x5) k ?_ ?_ ?_
    · skip
      exact ⟨(w64 (278278 + (x1.length : Int))), 0, hS, hF.cut ⟨rfl, rfl, rfl, trivial⟩, H⟩
    · clear H hS hF
      rintro a w ⟨x3, x4, hS, hF, H⟩
      exact absurd (show none = some _ from H) (by simp)
    · clear H hS hF
      rintro k1 a w ⟨x3, x4, hS, hF, H⟩
      rw [spec_l1New.l1.eq_2] at H
      refine sq ?_
      refine sq ?_
      refine rg ?_
      refine stp hF (p_move rfl) (by decide) (fun a hF => ?_)
      refine stp hF (p_move rfl) (by decide) (fun a hF => ?_)
      refine stp hF (p_lenr un_22 rfl h1) (by decide) (fun a hF => ?_)
      refine stp hF (p_lss rfl rfl) (by decide) (fun a hF => ?_)
      refine stp hF (p_move rfl) (by decide) (fun a hF => ?_)
      refine cutj 3 (fun a w => St e s0 w [] ∧ Fr 32 a [(0, v1), (3, (.int .i64 x3)), (4, (.int .i64 x4)), (15, (.bool ((decide (x4 < (x1.length : Int))) && (decide (x4 < 4000)))))]) rfl rfl ?_ ?_
      · rcases Bool.eq_false_or_eq_true (decide (x4 < (x1.length : Int))) with hc1 | hc1
        · skip
          refine gonE (j := 4) hF rfl rfl hc1 ?_
          refine stp hF (p_move rfl) (by decide) (fun a hF => ?_)
          refine gonE (j := 4) hF rfl rfl hc1 ?_
          refine stp hF (p_lss rfl rfl) (by decide) (fun a hF => ?_)
          refine stp hF (p_andT rfl hc1 rfl) (by decide) (fun a hF => ?_)
          refine nilN ?_
          refine xn ?_
          exact ⟨hS, hF.cut ⟨rfl, rfl, rfl, rfl, trivial⟩⟩
        · skip
          refine gofD (j := 4) hF rfl rfl (by rw [hc1]; decide) (by decide) (fun a hF => ?_)
          refine gofD (j := 4) hF rfl rfl (by rw [hc1]; decide) (by decide) (fun a hF => ?_)
          refine stp hF (p_andF (decide (x4 < 4000)) rfl hc1 rfl) (by decide) (fun a hF => ?_)
          refine nilN ?_
          refine xn ?_
          exact ⟨hS, hF.cut ⟨rfl, rfl, rfl, rfl, trivial⟩⟩
      clear hS hF
      rintro a w ⟨hS, hF⟩
      refine nilN ?_
      refine xn ?_
      refine cnd hF rfl (fun hc2 => ?_) (fun hc2 => ?_)
      · replace H := hbt hc2 H
        refine skN ?_
        refine xn ?_
        refine sq ?_
        refine blk ?_
        refine rg ?_
        refine stp hF (p_move rfl) (by decide) (fun a hF => ?_)
        refine stp hF (p_mul (c := w64 (x3 * 137)) rfl rfl rfl) (by decide) (fun a hF => ?_)
        refine stp hF (p_move rfl) (by decide) (fun a hF => ?_)
        refine stp hF (p_move rfl) (by decide) (fun a hF => ?_)
        obtain ⟨hq1, H⟩ := hck H
        obtain ⟨ad1, h2, p1⟩ := p_idxr (P := Try.prog) (i := x4) h1 un_22 ti_5 hq1.1 hq1.2
        refine stp hF (p1 rfl rfl) (by decide) (fun a hF => ?_)
        refine stp hF (p_ldr_int rfl hS h2 ia_5) (by decide) (fun a hF => ?_)
        refine stp hF (p_cvint (c := w64 (rd x1 x4)) un_5 un_3 rfl rfl) (by decide) (fun a hF => ?_)
        refine stp hF (p_add (c := w64 ((w64 (x3 * 137)) + (w64 (rd x1 x4)))) rfl rfl rfl) (by decide) (fun a hF => ?_)
        refine stp hF (p_add (c := w64 ((w64 ((w64 (x3 * 137)) + (w64 (rd x1 x4)))) + 11)) rfl rfl rfl) (by decide) (fun a hF => ?_)
        refine stp hF (p_and (c := band .i64 (w64 ((w64 ((w64 (x3 * 137)) + (w64 (rd x1 x4)))) + 11)) 1073741823) rfl rfl rfl) (by decide) (fun a hF => ?_)
        refine stp hF (p_assign rfl) (by decide) (fun a hF => ?_)
        refine nilN ?_
        refine bn (xn ?_)
        refine rg ?_
        refine stp hF (p_move rfl) (by decide) (fun a hF => ?_)
        refine stp hF (p_add (c := w64 (x4 + 1)) rfl rfl rfl) (by decide) (fun a hF => ?_)
        refine stp hF (p_assign rfl) (by decide) (fun a hF => ?_)
        refine nilN ?_
        refine xn ?_
        exact ⟨(band .i64 (w64 ((w64 ((w64 (x3 * 137)) + (w64 (rd x1 x4)))) + 11)) 1073741823), (w64 (x4 + 1)), hS, hF.cut ⟨rfl, rfl, rfl, trivial⟩, H⟩
      · replace H := hbf hc2 H
        refine exi ?_
        refine xe (xe (hit (xn ?_)))
        obtain rfl := hsm H
        exact ⟨x3, hS, hF.cut ⟨rfl, rfl, trivial⟩, HK1⟩
  · clear H HK1 hS hF
    rintro a w ⟨x2, hS, hF, H⟩
    unfold spec_l1New.c1 at H
    refine sq ?_
    refine rg ?_
    refine stp hF (p_move rfl) (by decide) (fun a hF => ?_)
    refine stp hF (p_move rfl) (by decide) (fun a hF => ?_)
    refine stp hF (p_build (ps := [(0, (.tmp 28)), (2, (.tmp 29))]) (vs := [(0, v1), (2, (.int .i64 x2))]) (v := (.agg #[v1, (.int .i64 0), (.int .i64 x2)])) rfl (by intro w; obtain ⟨_, _, _, e1⟩ := Sl.el h1; rw [e1]; kernel_rfl)) (by decide) (fun a hF => ?_)
    refine ste hF (e_box (cs := [v1, (.int .i64 0), (.int .i64 x2)]) hS rfl rfl) (by decide) (fun v w a hR hF => ?_)
    obtain ⟨g1, rfl, hS⟩ := hR
    refine stp hF (p_assign rfl) (by decide) (fun a hF => ?_)
    refine nilN ?_
    refine xn ?_
    refine rt ?_
    obtain rfl := hsm H
    exact ret1 hF rfl rfl hS ⟨g1, v1, rfl, rfl, h1⟩

def spec_l1Size.f (k : Nat) (x1 : (List Int)) (x2 : Int) : Option Int :=
  (if (decide (x2 < (w64 (3 + (w64 ((x1.length : Int).tdiv 12)))))) = true then (some x2) else (some (w64 (3 + (w64 ((x1.length : Int).tdiv 12))))))
set_option maxRecDepth 100000 in
set_option maxHeartbeats 4000000 in
theorem spec_l1Size.spec (k : Nat) (s0 : HF) (w : World) (x1 : (List Int)) (x2 : Int) (v1 : Value) (h1 : Sl (Kd.int .u8) s0 v1 x1) (r : Int) (H : spec_l1Size.f k x1 x2 = some r) :
    Law Try.prog 29 #[v1, (.int .i64 x2)] s0 w [] (fun v s1 A1 => v = (.int .i64 r) ∧ A1 = []) := by
  unfold spec_l1Size.f at H
  refine Law.intro Try.func29 rfl [(0, v1), (1, (.int .i64 x2))] (Nat.le_of_ble_eq_true rfl) (enter_lk ⟨rfl, rfl, trivial⟩) (fun e a hS hF => ?_)
  have hF : Fr 15 a [(0, v1), (1, (.int .i64 x2))] := hF
  refine sq ?_
  refine rg ?_
  refine stp hF (p_assign rfl) (by decide) (fun a hF => ?_)
  refine nilN ?_
  refine xn ?_
  refine sq ?_
  refine rg ?_
  refine stp hF (p_move rfl) (by decide) (fun a hF => ?_)
  refine stp hF (p_lenr un_22 rfl h1) (by decide) (fun a hF => ?_)
  refine stp hF (p_quo (c := w64 ((x1.length : Int).tdiv 12)) rfl rfl (by decide) rfl) (by decide) (fun a hF => ?_)
  refine stp hF (p_add (c := w64 (3 + (w64 ((x1.length : Int).tdiv 12)))) rfl rfl rfl) (by decide) (fun a hF => ?_)
  refine stp hF (p_assign rfl) (by decide) (fun a hF => ?_)
  refine nilN ?_
  refine xn ?_
  refine sq ?_
  refine sq ?_
  refine rg ?_
  refine stp hF (p_move rfl) (by decide) (fun a hF => ?_)
  refine stp hF (p_move rfl) (by decide) (fun a hF => ?_)
  refine stp hF (p_gtr rfl rfl) (by decide) (fun a hF => ?_)
  refine nilN ?_
  refine xn ?_
  refine cnd hF rfl (fun hc1 => ?_) (fun hc1 => ?_)
  · replace H := hbt hc1 H
    refine sq ?_
    refine rg ?_
    refine stp hF (p_move rfl) (by decide) (fun a hF => ?_)
    refine stp hF (p_assign rfl) (by decide) (fun a hF => ?_)
    refine nilN ?_
    refine xn ?_
    refine rt ?_
    refine xr ?_
    obtain rfl := hsm H
    exact ret1 hF rfl rfl hS ⟨rfl, rfl⟩
  · replace H := hbf hc1 H
    refine skN ?_
    refine xn ?_
    refine sq ?_
    refine rg ?_
    refine stp hF (p_move rfl) (by decide) (fun a hF => ?_)
    refine stp hF (p_assign rfl) (by decide) (fun a hF => ?_)
    refine nilN ?_
    refine xn ?_
    refine rt ?_
    obtain rfl := hsm H
    exact ret1 hF rfl rfl hS ⟨rfl, rfl⟩

def spec_l1Byte.c1 (k : Nat) (x1 : (List Int)) (x2 : Int) (x3 : Int) (x4 : Int) : Option (Int × (List Int) × Int × Int) :=
  (some (x4, x1, x3, w64 ((w64 (x2 * 6364136223846793005)) + 1442695040888963407)))
def spec_l1Byte.f (k : Nat) (x1 : (List Int)) (x5 : Int) (x2 : Int) : Option (Int × (List Int) × Int × Int) :=
  (((if (decide (x5 < (x1.length : Int))) = true then (if 0 ≤ x5 ∧ x5 < (x1.length : Int) then (some (w64 (x5 + 1), band .i64 (w64 ((band .i64 (bxor .i64 (bshr .i64 (w64 ((w64 (x2 * 6364136223846793005)) + 1442695040888963407)) 33) (bshr .i64 (w64 ((w64 (x2 * 6364136223846793005)) + 1442695040888963407)) 47)) 255) + (w64 (rd x1 x5)))) 255)) else none) else (some (x5, band .i64 (bxor .i64 (bshr .i64 (w64 ((w64 (x2 * 6364136223846793005)) + 1442695040888963407)) 33) (bshr .i64 (w64 ((w64 (x2 * 6364136223846793005)) + 1442695040888963407)) 47)) 255))) : Option (Int × Int)).bind fun x6 => spec_l1Byte.c1 k x1 x2 x6.1 x6.2)
set_option maxRecDepth 100000 in
set_option maxHeartbeats 4000000 in
theorem spec_l1Byte.spec (k : Nat) (s0 : HF) (w : World) (x1 : (List Int)) (x5 : Int) (x2 : Int) (v1 : Value) (g1 : Nat) (h1 : Sl (Kd.int .u8) s0 v1 x1) (r : Int × (List Int) × Int × Int) (H : spec_l1Byte.f k x1 x5 x2 = some r) :
    Law Try.prog 83 #[(.pointer (some ⟨g1, 0, none⟩))] s0 w [pt g1 74 ([v1, (.int .i64 x5), (.int .i64 x2)])] (fun v s1 A1 => ∃ (u0 : Value), v = (.int .i64 r.1) ∧ A1 = [pt g1 74 ([u0, (.int .i64 r.2.2.1), (.int .i64 r.2.2.2)])] ∧ Sl (Kd.int .u8) s1 u0 r.2.1) := by
  unfold spec_l1Byte.f at H
  refine Law.intro Try.func83 rfl [(0, (.pointer (some ⟨g1, 0, none⟩)))] (Nat.le_of_ble_eq_true rfl) (enter_lk ⟨rfl, trivial⟩) (fun e a hS hF => ?_)
  have hF : Fr 58 a [(0, (.pointer (some ⟨g1, 0, none⟩)))] := hF
  refine sq ?_
  refine rg ?_
  refine stp hF (p_assign rfl) (by decide) (fun a hF => ?_)
  refine nilN ?_
  refine xn ?_
  refine sq ?_
  refine rg ?_
  refine stp hF (p_move rfl) (by decide) (fun a hF => ?_)
  refine stp hF (p_move rfl) (by decide) (fun a hF => ?_)
  refine stp hF (p_nilck rfl) (by decide) (fun a hF => ?_)
  refine stp hF (p_fldb (o' := 2) rfl fi_74_2 rfl) (by decide) (fun a hF => ?_)
  refine stp hF (p_ldb_one (i := 0) hS rfl rfl ia_3 rfl) (by decide) (fun a hF => ?_)
  refine stp hF (p_mul (c := w64 (x2 * 6364136223846793005)) rfl rfl rfl) (by decide) (fun a hF => ?_)
  refine stp hF (p_add (c := w64 ((w64 (x2 * 6364136223846793005)) + 1442695040888963407)) rfl rfl rfl) (by decide) (fun a hF => ?_)
  refine stp hF (p_nilck rfl) (by decide) (fun a hF => ?_)
  refine stp hF (p_fldb (o' := 2) rfl fi_74_2 rfl) (by decide) (fun a hF => ?_)
  refine ste0 hF (e_stb (i := 0) (l := [v1, (.int .i64 x5)]) (m := [(.int .i64 x2)]) (r := []) (m' := [(.int .i64 (w64 ((w64 (x2 * 6364136223846793005)) + 1442695040888963407)))]) (cs' := [v1, (.int .i64 x5), (.int .i64 (w64 ((w64 (x2 * 6364136223846793005)) + 1442695040888963407)))]) hS rfl rfl rfl ti_3 rfl rfl rfl rfl rfl (one_cons rfl one_nil) rfl) (fun v w a hR hF => ?_)
  have hS : St e s0 w [pt g1 74 ([v1, (.int .i64 x5), (.int .i64 (w64 ((w64 (x2 * 6364136223846793005)) + 1442695040888963407)))])] := hR
  refine nilN ?_
  refine xn ?_
  refine sq ?_
  replace hS : St e s0 w.drew [pt g1 74 ([v1, (.int .i64 x5), (.int .i64 (w64 ((w64 (x2 * 6364136223846793005)) + 1442695040888963407)))])] := hS.drewN 1
  refine drw [0, 1, 2, 3, 4, 5, 6, 7, 8, 9, 10, 11, 12] mixed (by kernel_rfl) (by decide) (hF.cut (L' := [(0, (.pointer (some ⟨g1, 0, none⟩))), (2, (.int .i64 0)), (4, (.pointer (some ⟨g1, 0, none⟩))), (5, (.pointer (some ⟨g1, 0, none⟩))), (6, (.pointer (some ⟨g1, 0, none⟩))), (7, (.pointer (some ⟨g1, 2, none⟩))), (8, (.int .i64 x2)), (9, (.int .i64 (w64 (x2 * 6364136223846793005)))), (10, (.int .i64 (w64 ((w64 (x2 * 6364136223846793005)) + 1442695040888963407)))), (11, (.pointer (some ⟨g1, 0, none⟩))), (12, (.pointer (some ⟨g1, 2, none⟩)))]) ⟨rfl, rfl, rfl, rfl, rfl, rfl, rfl, rfl, rfl, rfl, rfl, trivial⟩) ?_
  clear hF
  generalize w.drew = w at hS ⊢
  refine pk1 rfl (by decide) rfl (by kernel_rfl) rfl (p_move rfl) ?_
  refine pk1 rfl (by decide) rfl (by kernel_rfl) rfl (p_nilck rfl) ?_
  refine pk1 rfl (by decide) rfl (by kernel_rfl) rfl (p_fldb (o' := 2) rfl fi_74_2 rfl) ?_
  refine pk1 rfl (by decide) rfl (by kernel_rfl) rfl (p_ldb_one (i := 0) hS rfl rfl ia_3 rfl) ?_
  refine pk1 rfl (by decide) rfl (by kernel_rfl) rfl (p_shr (c := bshr .i64 (w64 ((w64 (x2 * 6364136223846793005)) + 1442695040888963407)) 33) rfl rfl (by decide) rfl) ?_
  refine pk1 rfl (by decide) rfl (by kernel_rfl) rfl (p_move rfl) ?_
  refine pk1 rfl (by decide) rfl (by kernel_rfl) rfl (p_nilck rfl) ?_
  refine pk1 rfl (by decide) rfl (by kernel_rfl) rfl (p_fldb (o' := 2) rfl fi_74_2 rfl) ?_
  refine pk1 rfl (by decide) rfl (by kernel_rfl) rfl (p_ldb_one (i := 0) hS rfl rfl ia_3 rfl) ?_
  refine pk1 rfl (by decide) rfl (by kernel_rfl) rfl (p_shr (c := bshr .i64 (w64 ((w64 (x2 * 6364136223846793005)) + 1442695040888963407)) 47) rfl rfl (by decide) rfl) ?_
  refine pk1 rfl (by decide) rfl (by kernel_rfl) rfl (p_xor (c := bxor .i64 (bshr .i64 (w64 ((w64 (x2 * 6364136223846793005)) + 1442695040888963407)) 33) (bshr .i64 (w64 ((w64 (x2 * 6364136223846793005)) + 1442695040888963407)) 47)) rfl rfl rfl) ?_
  refine pk1 rfl (by decide) rfl (by kernel_rfl) rfl (p_and (c := band .i64 (bxor .i64 (bshr .i64 (w64 ((w64 (x2 * 6364136223846793005)) + 1442695040888963407)) 33) (bshr .i64 (w64 ((w64 (x2 * 6364136223846793005)) + 1442695040888963407)) 47)) 255) rfl rfl rfl) ?_
  refine pkE [] rfl (by decide) (by kernel_rfl) (by kernel_rfl) (puEf (p_assign rfl)) ?_
  rintro v w' ⟨rfl, rfl⟩
  refine ⟨trivial, ?_⟩
  refine pkF (fun a hF => ?_)
  refine xn ?_
  obtain ⟨x6, H, HK1⟩ := hb H
  refine sqj (fun a w => ∃ (x3 : Int) (x4 : Int) , St e s0 w [pt g1 74 ([v1, (.int .i64 x3), (.int .i64 (w64 ((w64 (x2 * 6364136223846793005)) + 1442695040888963407)))])] ∧ Fr 58 a [(3, (.int .i64 x4))] ∧ spec_l1Byte.c1 k x1 x2 x3 x4 = some r) ?_ ?_
  · skip
    refine sq ?_
    replace hS : St e s0 w.drew [pt g1 74 ([v1, (.int .i64 x5), (.int .i64 (w64 ((w64 (x2 * 6364136223846793005)) + 1442695040888963407)))])] := hS.drewN 1
    refine drw [0, 1, 2, 3, 4, 5, 6, 7, 8, 9] mixed (by kernel_rfl) (by decide) (hF.cut (L' := [(0, (.pointer (some ⟨g1, 0, none⟩))), (2, (.int .i64 0)), (3, (.int .i64 (band .i64 (bxor .i64 (bshr .i64 (w64 ((w64 (x2 * 6364136223846793005)) + 1442695040888963407)) 33) (bshr .i64 (w64 ((w64 (x2 * 6364136223846793005)) + 1442695040888963407)) 47)) 255))), (4, (.pointer (some ⟨g1, 0, none⟩))), (5, (.pointer (some ⟨g1, 0, none⟩))), (6, (.pointer (some ⟨g1, 0, none⟩))), (7, (.pointer (some ⟨g1, 2, none⟩))), (8, (.int .i64 x2)), (9, (.int .i64 (w64 (x2 * 6364136223846793005)))), (10, (.int .i64 (w64 ((w64 (x2 * 6364136223846793005)) + 1442695040888963407)))), (11, (.pointer (some ⟨g1, 0, none⟩))), (12, (.pointer (some ⟨g1, 2, none⟩))), (13, (.pointer (some ⟨g1, 0, none⟩))), (14, (.pointer (some ⟨g1, 0, none⟩))), (15, (.pointer (some ⟨g1, 2, none⟩))), (16, (.int .i64 (w64 ((w64 (x2 * 6364136223846793005)) + 1442695040888963407)))), (17, (.int .i64 (bshr .i64 (w64 ((w64 (x2 * 6364136223846793005)) + 1442695040888963407)) 33))), (18, (.pointer (some ⟨g1, 0, none⟩))), (19, (.pointer (some ⟨g1, 0, none⟩))), (20, (.pointer (some ⟨g1, 2, none⟩))), (21, (.int .i64 (w64 ((w64 (x2 * 6364136223846793005)) + 1442695040888963407)))), (22, (.int .i64 (bshr .i64 (w64 ((w64 (x2 * 6364136223846793005)) + 1442695040888963407)) 47))), (23, (.int .i64 (bxor .i64 (bshr .i64 (w64 ((w64 (x2 * 6364136223846793005)) + 1442695040888963407)) 33) (bshr .i64 (w64 ((w64 (x2 * 6364136223846793005)) + 1442695040888963407)) 47)))), (24, (.int .i64 (band .i64 (bxor .i64 (bshr .i64 (w64 ((w64 (x2 * 6364136223846793005)) + 1442695040888963407)) 33) (bshr .i64 (w64 ((w64 (x2 * 6364136223846793005)) + 1442695040888963407)) 47)) 255)))]) ⟨rfl, rfl, rfl, rfl, rfl, rfl, rfl, rfl, rfl, rfl, rfl, rfl, rfl, rfl, rfl, rfl, rfl, rfl, rfl, rfl, rfl, rfl, rfl, rfl, trivial⟩) ?_
    clear hF
    generalize w.drew = w at hS ⊢
    refine pk1 rfl (by decide) rfl (by kernel_rfl) rfl (p_move rfl) ?_
    refine pk1 rfl (by decide) rfl (by kernel_rfl) rfl (p_nilck rfl) ?_
    refine pk1 rfl (by decide) rfl (by kernel_rfl) rfl (p_fldb (o' := 1) rfl fi_74_1 rfl) ?_
    refine pk1 rfl (by decide) rfl (by kernel_rfl) rfl (p_ldb_one (i := 0) hS rfl rfl ia_3 rfl) ?_
    refine pk1 rfl (by decide) rfl (by kernel_rfl) rfl (p_move rfl) ?_
    refine pk1 rfl (by decide) rfl (by kernel_rfl) rfl (p_nilck rfl) ?_
    refine pk1 rfl (by decide) rfl (by kernel_rfl) rfl (p_fldb (o' := 0) rfl fi_74_0 rfl) ?_
    refine pk1 rfl (by decide) rfl (by kernel_rfl) rfl (p_ldb_one (i := 0) hS rfl rfl ia_22 rfl) ?_
    refine pk1 rfl (by decide) rfl (by kernel_rfl) rfl (p_lenr un_22 rfl h1) ?_
    refine pk1 rfl (by decide) rfl (by kernel_rfl) rfl (p_lss rfl rfl) ?_
    refine pkF (fun a hF => ?_)
    refine xn ?_
    refine cnd hF rfl (fun hc1 => ?_) (fun hc1 => ?_)
    · replace H := hbt hc1 H
      refine sq ?_
      replace hS : St e s0 w.drew [pt g1 74 ([v1, (.int .i64 x5), (.int .i64 (w64 ((w64 (x2 * 6364136223846793005)) + 1442695040888963407)))])] := hS.drewN 1
      refine drw [0, 1, 2, 3, 4, 5, 6, 7, 8, 9, 10, 11, 12, 13, 14] mixed (by kernel_rfl) (by decide) (hF.cut (L' := [(0, (.pointer (some ⟨g1, 0, none⟩))), (2, (.int .i64 0)), (3, (.int .i64 (band .i64 (bxor .i64 (bshr .i64 (w64 ((w64 (x2 * 6364136223846793005)) + 1442695040888963407)) 33) (bshr .i64 (w64 ((w64 (x2 * 6364136223846793005)) + 1442695040888963407)) 47)) 255))), (4, (.pointer (some ⟨g1, 0, none⟩))), (5, (.pointer (some ⟨g1, 0, none⟩))), (6, (.pointer (some ⟨g1, 0, none⟩))), (7, (.pointer (some ⟨g1, 2, none⟩))), (8, (.int .i64 x2)), (9, (.int .i64 (w64 (x2 * 6364136223846793005)))), (10, (.int .i64 (w64 ((w64 (x2 * 6364136223846793005)) + 1442695040888963407)))), (11, (.pointer (some ⟨g1, 0, none⟩))), (12, (.pointer (some ⟨g1, 2, none⟩))), (13, (.pointer (some ⟨g1, 0, none⟩))), (14, (.pointer (some ⟨g1, 0, none⟩))), (15, (.pointer (some ⟨g1, 2, none⟩))), (16, (.int .i64 (w64 ((w64 (x2 * 6364136223846793005)) + 1442695040888963407)))), (17, (.int .i64 (bshr .i64 (w64 ((w64 (x2 * 6364136223846793005)) + 1442695040888963407)) 33))), (18, (.pointer (some ⟨g1, 0, none⟩))), (19, (.pointer (some ⟨g1, 0, none⟩))), (20, (.pointer (some ⟨g1, 2, none⟩))), (21, (.int .i64 (w64 ((w64 (x2 * 6364136223846793005)) + 1442695040888963407)))), (22, (.int .i64 (bshr .i64 (w64 ((w64 (x2 * 6364136223846793005)) + 1442695040888963407)) 47))), (23, (.int .i64 (bxor .i64 (bshr .i64 (w64 ((w64 (x2 * 6364136223846793005)) + 1442695040888963407)) 33) (bshr .i64 (w64 ((w64 (x2 * 6364136223846793005)) + 1442695040888963407)) 47)))), (24, (.int .i64 (band .i64 (bxor .i64 (bshr .i64 (w64 ((w64 (x2 * 6364136223846793005)) + 1442695040888963407)) 33) (bshr .i64 (w64 ((w64 (x2 * 6364136223846793005)) + 1442695040888963407)) 47)) 255))), (25, (.pointer (some ⟨g1, 0, none⟩))), (26, (.pointer (some ⟨g1, 0, none⟩))), (27, (.pointer (some ⟨g1, 1, none⟩))), (28, (.int .i64 x5)), (29, (.pointer (some ⟨g1, 0, none⟩))), (30, (.pointer (some ⟨g1, 0, none⟩))), (31, (.pointer (some ⟨g1, 0, none⟩))), (32, v1), (33, (.int .i64 (x1.length : Int))), (34, (.bool (decide (x5 < (x1.length : Int)))))]) ⟨rfl, rfl, rfl, rfl, rfl, rfl, rfl, rfl, rfl, rfl, rfl, rfl, rfl, rfl, rfl, rfl, rfl, rfl, rfl, rfl, rfl, rfl, rfl, rfl, rfl, rfl, rfl, rfl, rfl, rfl, rfl, rfl, rfl, rfl, trivial⟩) ?_
      clear hF
      generalize w.drew = w at hS ⊢
      refine pk1 rfl (by decide) rfl (by kernel_rfl) rfl (p_move rfl) ?_
      refine pk1 rfl (by decide) rfl (by kernel_rfl) rfl (p_move rfl) ?_
      refine pk1 rfl (by decide) rfl (by kernel_rfl) rfl (p_nilck rfl) ?_
      refine pk1 rfl (by decide) rfl (by kernel_rfl) rfl (p_fldb (o' := 0) rfl fi_74_0 rfl) ?_
      refine pk1 rfl (by decide) rfl (by kernel_rfl) rfl (p_ldb_one (i := 0) hS rfl rfl ia_22 rfl) ?_
      refine pk1 rfl (by decide) rfl (by kernel_rfl) rfl (p_move rfl) ?_
      refine pk1 rfl (by decide) rfl (by kernel_rfl) rfl (p_nilck rfl) ?_
      refine pk1 rfl (by decide) rfl (by kernel_rfl) rfl (p_fldb (o' := 1) rfl fi_74_1 rfl) ?_
      refine pk1 rfl (by decide) rfl (by kernel_rfl) rfl (p_ldb_one (i := 0) hS rfl rfl ia_3 rfl) ?_
      obtain ⟨hq1, H⟩ := hck H
      obtain ⟨ad1, h2, p1⟩ := p_idxr (P := Try.prog) (i := x5) h1 un_22 ti_5 hq1.1 hq1.2
      refine pk1 rfl (by decide) rfl (by kernel_rfl) rfl (p1 rfl rfl) ?_
      refine pk1 rfl (by decide) rfl (by kernel_rfl) rfl (p_ldr_int rfl hS h2 ia_5) ?_
      refine pk1 rfl (by decide) rfl (by kernel_rfl) rfl (p_cvint (c := w64 (rd x1 x5)) un_5 un_3 rfl rfl) ?_
      refine pk1 rfl (by decide) rfl (by kernel_rfl) rfl (p_add (c := w64 ((band .i64 (bxor .i64 (bshr .i64 (w64 ((w64 (x2 * 6364136223846793005)) + 1442695040888963407)) 33) (bshr .i64 (w64 ((w64 (x2 * 6364136223846793005)) + 1442695040888963407)) 47)) 255) + (w64 (rd x1 x5)))) rfl rfl rfl) ?_
      refine pk1 rfl (by decide) rfl (by kernel_rfl) rfl (p_and (c := band .i64 (w64 ((band .i64 (bxor .i64 (bshr .i64 (w64 ((w64 (x2 * 6364136223846793005)) + 1442695040888963407)) 33) (bshr .i64 (w64 ((w64 (x2 * 6364136223846793005)) + 1442695040888963407)) 47)) 255) + (w64 (rd x1 x5)))) 255) rfl rfl rfl) ?_
      refine pkE [] rfl (by decide) (by kernel_rfl) (by kernel_rfl) (puEf (p_assign rfl)) ?_
      rintro v w' ⟨rfl, rfl⟩
      refine ⟨trivial, ?_⟩
      refine pkF (fun a hF => ?_)
      refine xn ?_
      refine rg ?_
      refine stp hF (p_move rfl) (by decide) (fun a hF => ?_)
      refine stp hF (p_move rfl) (by decide) (fun a hF => ?_)
      refine stp hF (p_nilck rfl) (by decide) (fun a hF => ?_)
      refine stp hF (p_fldb (o' := 1) rfl fi_74_1 rfl) (by decide) (fun a hF => ?_)
      refine stp hF (p_ldb_one (i := 0) hS rfl rfl ia_3 rfl) (by decide) (fun a hF => ?_)
      refine stp hF (p_add (c := w64 (x5 + 1)) rfl rfl rfl) (by decide) (fun a hF => ?_)
      refine stp hF (p_nilck rfl) (by decide) (fun a hF => ?_)
      refine stp hF (p_fldb (o' := 1) rfl fi_74_1 rfl) (by decide) (fun a hF => ?_)
      refine ste0 hF (e_stb (i := 0) (l := [v1]) (m := [(.int .i64 x5)]) (r := [(.int .i64 (w64 ((w64 (x2 * 6364136223846793005)) + 1442695040888963407)))]) (m' := [(.int .i64 (w64 (x5 + 1)))]) (cs' := [v1, (.int .i64 (w64 (x5 + 1))), (.int .i64 (w64 ((w64 (x2 * 6364136223846793005)) + 1442695040888963407)))]) hS rfl rfl rfl ti_3 rfl rfl rfl rfl rfl (one_cons rfl one_nil) rfl) (fun v w a hR hF => ?_)
      have hS : St e s0 w [pt g1 74 ([v1, (.int .i64 (w64 (x5 + 1))), (.int .i64 (w64 ((w64 (x2 * 6364136223846793005)) + 1442695040888963407)))])] := hR
      refine nilN ?_
      refine xn ?_
      obtain rfl := hsm H
      exact ⟨(w64 (x5 + 1)), (band .i64 (w64 ((band .i64 (bxor .i64 (bshr .i64 (w64 ((w64 (x2 * 6364136223846793005)) + 1442695040888963407)) 33) (bshr .i64 (w64 ((w64 (x2 * 6364136223846793005)) + 1442695040888963407)) 47)) 255) + (w64 (rd x1 x5)))) 255), hS, hF.cut ⟨rfl, trivial⟩, HK1⟩
    · replace H := hbf hc1 H
      refine skN ?_
      refine xn ?_
      obtain rfl := hsm H
      exact ⟨x5, (band .i64 (bxor .i64 (bshr .i64 (w64 ((w64 (x2 * 6364136223846793005)) + 1442695040888963407)) 33) (bshr .i64 (w64 ((w64 (x2 * 6364136223846793005)) + 1442695040888963407)) 47)) 255), hS, hF.cut ⟨rfl, trivial⟩, HK1⟩
  · clear H HK1 hS hF
    rintro a w ⟨x3, x4, hS, hF, H⟩
    unfold spec_l1Byte.c1 at H
    refine sq ?_
    refine rg ?_
    refine stp hF (p_move rfl) (by decide) (fun a hF => ?_)
    refine stp hF (p_assign rfl) (by decide) (fun a hF => ?_)
    refine nilN ?_
    refine xn ?_
    refine rt ?_
    obtain rfl := hsm H
    exact ret1 hF rfl rfl hS ⟨v1, rfl, rfl, h1⟩

def spec_l1Below.f (k : Nat) (x1 : (List Int)) (x2 : Int) (x3 : Int) (x4 : Int) : Option (Int × (List Int) × Int × Int) :=
  (if (decide (x4 ≤ 0)) = true then (some (0, x1, x2, x3)) else (if (decide (x4 ≤ 256)) = true then ((spec_l1Byte.f k x1 x2 x3).bind fun x5 => (if x4 ≠ 0 then (some (x5.1.tmod x4, x5.2.1, x5.2.2.1, x5.2.2.2)) else none)) else ((spec_l1Byte.f k x1 x2 x3).bind fun x6 => ((spec_l1Byte.f k x6.2.1 x6.2.2.1 x6.2.2.2).bind fun x7 => ((spec_l1Byte.f k x7.2.1 x7.2.2.1 x7.2.2.2).bind fun x8 => (if x4 ≠ 0 then (some ((w64 ((w64 ((w64 (x6.1 * 65536)) + (w64 (x7.1 * 256)))) + x8.1)).tmod x4, x8.2.1, x8.2.2.1, x8.2.2.2)) else none))))))
set_option maxRecDepth 100000 in
set_option maxHeartbeats 4000000 in
theorem spec_l1Below.spec (k : Nat) (s0 : HF) (w : World) (x1 : (List Int)) (x2 : Int) (x3 : Int) (x4 : Int) (v1 : Value) (g1 : Nat) (h1 : Sl (Kd.int .u8) s0 v1 x1) (r : Int × (List Int) × Int × Int) (H : spec_l1Below.f k x1 x2 x3 x4 = some r) :
    Law Try.prog 60 #[(.pointer (some ⟨g1, 0, none⟩)), (.int .i64 x4)] s0 w [pt g1 74 ([v1, (.int .i64 x2), (.int .i64 x3)])] (fun v s1 A1 => ∃ (u0 : Value), v = (.int .i64 r.1) ∧ A1 = [pt g1 74 ([u0, (.int .i64 r.2.2.1), (.int .i64 r.2.2.2)])] ∧ Sl (Kd.int .u8) s1 u0 r.2.1) := by
  unfold spec_l1Below.f at H
  refine Law.intro Try.func60 rfl [(0, (.pointer (some ⟨g1, 0, none⟩))), (1, (.int .i64 x4))] (Nat.le_of_ble_eq_true rfl) (enter_lk ⟨rfl, rfl, trivial⟩) (fun e a hS hF => ?_)
  have hF : Fr 31 a [(0, (.pointer (some ⟨g1, 0, none⟩))), (1, (.int .i64 x4))] := hF
  refine sq ?_
  refine rg ?_
  refine stp hF (p_assign rfl) (by decide) (fun a hF => ?_)
  refine nilN ?_
  refine xn ?_
  refine sq ?_
  refine sq ?_
  refine rg ?_
  refine stp hF (p_move rfl) (by decide) (fun a hF => ?_)
  refine stp hF (p_leq rfl rfl) (by decide) (fun a hF => ?_)
  refine nilN ?_
  refine xn ?_
  refine cnd hF rfl (fun hc1 => ?_) (fun hc1 => ?_)
  · replace H := hbt hc1 H
    refine sq ?_
    refine rg ?_
    refine stp hF (p_assign rfl) (by decide) (fun a hF => ?_)
    refine nilN ?_
    refine xn ?_
    refine rt ?_
    refine xr ?_
    obtain rfl := hsm H
    exact ret1 hF rfl rfl hS ⟨v1, rfl, rfl, h1⟩
  · replace H := hbf hc1 H
    refine skN ?_
    refine xn ?_
    refine sq ?_
    refine sq ?_
    refine rg ?_
    refine stp hF (p_move rfl) (by decide) (fun a hF => ?_)
    refine stp hF (p_leq rfl rfl) (by decide) (fun a hF => ?_)
    refine nilN ?_
    refine xn ?_
    refine cnd hF rfl (fun hc2 => ?_) (fun hc2 => ?_)
    · replace H := hbt hc2 H
      refine sq ?_
      refine rg ?_
      refine stp hF (p_move rfl) (by decide) (fun a hF => ?_)
      obtain ⟨x5, hx1, H⟩ := hb H
      refine ste hF (e_call (fst := []) (vs := [(.pointer (some ⟨g1, 0, none⟩))]) (cap := []) rfl rfl go_83 (St.call (A := [pt g1 74 ([v1, (.int .i64 x2), (.int .i64 x3)])]) (B := []) hS (spec_l1Byte.spec k _ _ x1 x2 x3 v1 g1 h1 _ hx1))) (by decide) (fun v w a hR hF => ?_)
      obtain ⟨s2, A2, hg1, hS, hR⟩ := hR
      obtain ⟨v2, hv1, rfl, h2⟩ := hR; obtain rfl := hv1.symm
      have hS : St e s2 w [pt g1 74 ([v2, (.int .i64 x5.2.2.1), (.int .i64 x5.2.2.2)])] := hS
      refine stp hF (p_move rfl) (by decide) (fun a hF => ?_)
      obtain ⟨hq1, H⟩ := hck H
      refine stp hF (p_rem (c := x5.1.tmod x4) rfl rfl hq1 rfl) (by decide) (fun a hF => ?_)
      refine stp hF (p_assign rfl) (by decide) (fun a hF => ?_)
      refine nilN ?_
      refine xn ?_
      refine rt ?_
      refine xr ?_
      obtain rfl := hsm H
      exact ret1 hF rfl rfl hS ⟨v2, rfl, rfl, h2⟩
    · replace H := hbf hc2 H
      refine skN ?_
      refine xn ?_
      refine sq ?_
      refine rg ?_
      refine stp hF (p_move rfl) (by decide) (fun a hF => ?_)
      obtain ⟨x6, hx2, H⟩ := hb H
      refine ste hF (e_call (fst := []) (vs := [(.pointer (some ⟨g1, 0, none⟩))]) (cap := []) rfl rfl go_83 (St.call (A := [pt g1 74 ([v1, (.int .i64 x2), (.int .i64 x3)])]) (B := []) hS (spec_l1Byte.spec k _ _ x1 x2 x3 v1 g1 h1 _ hx2))) (by decide) (fun v w a hR hF => ?_)
      obtain ⟨s3, A3, hg2, hS, hR⟩ := hR
      obtain ⟨v3, hv2, rfl, h3⟩ := hR; obtain rfl := hv2.symm
      have hS : St e s3 w [pt g1 74 ([v3, (.int .i64 x6.2.2.1), (.int .i64 x6.2.2.2)])] := hS
      refine stp hF (p_assign rfl) (by decide) (fun a hF => ?_)
      refine nilN ?_
      refine xn ?_
      refine sq ?_
      refine rg ?_
      refine stp hF (p_move rfl) (by decide) (fun a hF => ?_)
      obtain ⟨x7, hx3, H⟩ := hb H
      refine ste hF (e_call (fst := []) (vs := [(.pointer (some ⟨g1, 0, none⟩))]) (cap := []) rfl rfl go_83 (St.call (A := [pt g1 74 ([v3, (.int .i64 x6.2.2.1), (.int .i64 x6.2.2.2)])]) (B := []) hS (spec_l1Byte.spec k _ _ x6.2.1 x6.2.2.1 x6.2.2.2 v3 g1 h3 _ hx3))) (by decide) (fun v w a hR hF => ?_)
      obtain ⟨s4, A4, hg3, hS, hR⟩ := hR
      obtain ⟨v4, hv3, rfl, h4⟩ := hR; obtain rfl := hv3.symm
      have hS : St e s4 w [pt g1 74 ([v4, (.int .i64 x7.2.2.1), (.int .i64 x7.2.2.2)])] := hS
      refine stp hF (p_assign rfl) (by decide) (fun a hF => ?_)
      refine nilN ?_
      refine xn ?_
      refine sq ?_
      refine rg ?_
      refine stp hF (p_move rfl) (by decide) (fun a hF => ?_)
      obtain ⟨x8, hx4, H⟩ := hb H
      refine ste hF (e_call (fst := []) (vs := [(.pointer (some ⟨g1, 0, none⟩))]) (cap := []) rfl rfl go_83 (St.call (A := [pt g1 74 ([v4, (.int .i64 x7.2.2.1), (.int .i64 x7.2.2.2)])]) (B := []) hS (spec_l1Byte.spec k _ _ x7.2.1 x7.2.2.1 x7.2.2.2 v4 g1 h4 _ hx4))) (by decide) (fun v w a hR hF => ?_)
      obtain ⟨s5, A5, hg4, hS, hR⟩ := hR
      obtain ⟨v5, hv4, rfl, h5⟩ := hR; obtain rfl := hv4.symm
      have hS : St e s5 w [pt g1 74 ([v5, (.int .i64 x8.2.2.1), (.int .i64 x8.2.2.2)])] := hS
      refine stp hF (p_assign rfl) (by decide) (fun a hF => ?_)
      refine nilN ?_
      refine xn ?_
      refine sq ?_
      refine rg ?_
      refine stp hF (p_move rfl) (by decide) (fun a hF => ?_)
      refine stp hF (p_mul (c := w64 (x6.1 * 65536)) rfl rfl rfl) (by decide) (fun a hF => ?_)
      refine stp hF (p_move rfl) (by decide) (fun a hF => ?_)
      refine stp hF (p_mul (c := w64 (x7.1 * 256)) rfl rfl rfl) (by decide) (fun a hF => ?_)
      refine stp hF (p_add (c := w64 ((w64 (x6.1 * 65536)) + (w64 (x7.1 * 256)))) rfl rfl rfl) (by decide) (fun a hF => ?_)
      refine stp hF (p_move rfl) (by decide) (fun a hF => ?_)
      refine stp hF (p_add (c := w64 ((w64 ((w64 (x6.1 * 65536)) + (w64 (x7.1 * 256)))) + x8.1)) rfl rfl rfl) (by decide) (fun a hF => ?_)
      refine stp hF (p_move rfl) (by decide) (fun a hF => ?_)
      obtain ⟨hq2, H⟩ := hck H
      refine stp hF (p_rem (c := (w64 ((w64 ((w64 (x6.1 * 65536)) + (w64 (x7.1 * 256)))) + x8.1)).tmod x4) rfl rfl hq2 rfl) (by decide) (fun a hF => ?_)
      refine stp hF (p_assign rfl) (by decide) (fun a hF => ?_)
      refine nilN ?_
      refine xn ?_
      refine rt ?_
      obtain rfl := hsm H
      exact ret1 hF rfl rfl hS ⟨v5, rfl, rfl, h5⟩

def spec_l1Once.f (k : Nat) (x1 : (List Int)) (x2 : Int) (x3 : Int) (x4 : Int) : Option (Bool × (List Int) × Int × Int) :=
  ((spec_l1Below.f k x1 x2 x3 x4).bind fun x5 => (some (decide (x5.1 = 0), x5.2.1, x5.2.2.1, x5.2.2.2)))
set_option maxRecDepth 100000 in
set_option maxHeartbeats 4000000 in
theorem spec_l1Once.spec (k : Nat) (s0 : HF) (w : World) (x1 : (List Int)) (x2 : Int) (x3 : Int) (x4 : Int) (v1 : Value) (g1 : Nat) (h1 : Sl (Kd.int .u8) s0 v1 x1) (r : Bool × (List Int) × Int × Int) (H : spec_l1Once.f k x1 x2 x3 x4 = some r) :
    Law Try.prog 78 #[(.pointer (some ⟨g1, 0, none⟩)), (.int .i64 x4)] s0 w [pt g1 74 ([v1, (.int .i64 x2), (.int .i64 x3)])] (fun v s1 A1 => ∃ (u0 : Value), v = (.bool r.1) ∧ A1 = [pt g1 74 ([u0, (.int .i64 r.2.2.1), (.int .i64 r.2.2.2)])] ∧ Sl (Kd.int .u8) s1 u0 r.2.1) := by
  unfold spec_l1Once.f at H
  refine Law.intro Try.func78 rfl [(0, (.pointer (some ⟨g1, 0, none⟩))), (1, (.int .i64 x4))] (Nat.le_of_ble_eq_true rfl) (enter_lk ⟨rfl, rfl, trivial⟩) (fun e a hS hF => ?_)
  have hF : Fr 9 a [(0, (.pointer (some ⟨g1, 0, none⟩))), (1, (.int .i64 x4))] := hF
  refine sq ?_
  refine rg ?_
  refine stp hF (p_assign rfl) (by decide) (fun a hF => ?_)
  refine nilN ?_
  refine xn ?_
  refine sq ?_
  refine rg ?_
  refine stp hF (p_move rfl) (by decide) (fun a hF => ?_)
  refine stp hF (p_move rfl) (by decide) (fun a hF => ?_)
  obtain ⟨x5, hx1, H⟩ := hb H
  refine ste hF (e_call (fst := []) (vs := [(.pointer (some ⟨g1, 0, none⟩)), (.int .i64 x4)]) (cap := []) rfl rfl go_60 (St.call (A := [pt g1 74 ([v1, (.int .i64 x2), (.int .i64 x3)])]) (B := []) hS (spec_l1Below.spec k _ _ x1 x2 x3 x4 v1 g1 h1 _ hx1))) (by decide) (fun v w a hR hF => ?_)
  obtain ⟨s2, A2, hg1, hS, hR⟩ := hR
  obtain ⟨v2, hv1, rfl, h2⟩ := hR; obtain rfl := hv1.symm
  have hS : St e s2 w [pt g1 74 ([v2, (.int .i64 x5.2.2.1), (.int .i64 x5.2.2.2)])] := hS
  refine stp hF (p_eql rfl rfl) (by decide) (fun a hF => ?_)
  refine stp hF (p_assign rfl) (by decide) (fun a hF => ?_)
  refine nilN ?_
  refine xn ?_
  refine rt ?_
  obtain rfl := hsm H
  exact ret1 hF rfl rfl hS ⟨v2, rfl, rfl, h2⟩

def spec_l9Without.c1 (k : Nat) (x1 : (List TGrant)) : Option (List TGrant) :=
  (some x1)
def spec_l9Without.c2 (k : Nat) (rec_l1 : (List TGrant) → Int → Option (List TGrant)) (x2 : Int) (x3 : (List TGrant)) : Option (List TGrant) :=
  (rec_l1 x3 (w64 (x2 + 1)))
def spec_l9Without.l1 (x4 : (List TGrant)) (x5 : Int) : Nat → (List TGrant) → Int → Option (List TGrant)
  | 0, _, _ => none
  | k + 1, x6, x2 => (if (decide (x2 < (x4.length : Int))) = true then (((if 0 ≤ x2 ∧ x2 < (x4.length : Int) then (if (decide (((rd x4 x2).Tx) ≠ x5)) = true then (if 0 ≤ x2 ∧ x2 < (x4.length : Int) then (if x6.length + 1 ≤ 5864062014805 then (some (x6 ++ ([rd x4 x2] : List TGrant))) else none) else none) else (some x6)) else none) : Option (List TGrant)).bind fun x7 => spec_l9Without.c2 k (spec_l9Without.l1 x4 x5 k) x2 x7) else (some x6))
def spec_l9Without.f (k : Nat) (x4 : (List TGrant)) (x5 : Int) : Option (List TGrant) :=
  (((spec_l9Without.l1 x4 x5 k ([] : List TGrant) 0) : Option (List TGrant)).bind fun x8 => spec_l9Without.c1 k x8)
set_option maxRecDepth 100000 in
set_option maxHeartbeats 4000000 in
theorem spec_l9Without.spec (k : Nat) (s0 : HF) (w : World) (x4 : (List TGrant)) (x5 : Int) (v1 : Value) (h1 : Sl kTGrant s0 v1 x4) (r : (List TGrant)) (H : spec_l9Without.f k x4 x5 = some r) :
    Law Try.prog 75 #[v1, (.int .i64 x5)] s0 w [] (fun v s1 A1 => ∃ (u0 : Value), v = u0 ∧ A1 = [Ow kTGrant 33 u0 r]) := by
  unfold spec_l9Without.f at H
  refine Law.intro Try.func75 rfl [(0, v1), (1, (.int .i64 x5))] (Nat.le_of_ble_eq_true rfl) (enter_lk ⟨rfl, rfl, trivial⟩) (fun e a hS hF => ?_)
  have hF : Fr 29 a [(0, v1), (1, (.int .i64 x5))] := hF
  refine sq ?_
  refine rg ?_
  refine stp hF (p_assign rfl) (by decide) (fun a hF => ?_)
  refine nilN ?_
  refine xn ?_
  refine sq ?_
  refine rg ?_
  refine ste hF (e_bslice (kd := kTGrant) (et := 33) (ps := []) (vs := []) (cs := []) (xs := ([] : List TGrant)) hS rfl (by intro w; kernel_rfl) rfl (by decide) (Nat.le_of_ble_eq_true rfl) (by exact (Rows.nil _ _ _ _))) (by decide) (fun v2 w a hR hF => ?_)
  have hS : St e s0 w [Ow kTGrant 33 v2 ([] : List TGrant)] := hR
  refine stp hF (p_assign rfl) (by decide) (fun a hF => ?_)
  refine nilN ?_
  refine xn ?_
  obtain ⟨x8, H, HK1⟩ := hb H
  refine sqj (fun a w => ∃ (x1 : (List TGrant)) (v3 : Value) , St e s0 w [Ow kTGrant 33 v3 x1] ∧ Fr 29 a [(5, v3)] ∧ spec_l9Without.c1 k x1 = some r) ?_ ?_
  · skip
    refine sq ?_
    refine rg ?_
    refine stp hF (p_assign rfl) (by decide) (fun a hF => ?_)
    refine nilN ?_
    refine xn ?_
    refine blk ?_
    refine loop_ind (fun k1 a w => ∃ (x6 : (List TGrant)) (x2 : Int) (v4 : Value) , St e s0 w [Ow kTGrant 33 v4 x6] ∧ Fr 29 a [(0, v1), (1, (.int .i64 x5)), (5, v4), (6, (.int .i64 x2))] ∧ spec_l9Without.l1 x4 x5 k1 x6 x2 = some x8) k ?_ ?_ ?_
    · skip
      exact ⟨([] : List TGrant), 0, v2, hS, hF.cut ⟨rfl, rfl, rfl, rfl, trivial⟩, H⟩
    · clear H hS hF
      rintro a w ⟨x6, x2, v4, hS, hF, H⟩
      exact absurd (show none = some _ from H) (by simp)
    · clear H hS hF
      rintro k1 a w ⟨x6, x2, v4, hS, hF, H⟩
      rw [spec_l9Without.l1.eq_2] at H
      refine sq ?_
      refine sq ?_
      refine rg ?_
      refine stp hF (p_move rfl) (by decide) (fun a hF => ?_)
      refine stp hF (p_move rfl) (by decide) (fun a hF => ?_)
      refine stp hF (p_lenr un_24 rfl h1) (by decide) (fun a hF => ?_)
      refine stp hF (p_lss rfl rfl) (by decide) (fun a hF => ?_)
      refine nilN ?_
      refine xn ?_
      refine cnd hF rfl (fun hc1 => ?_) (fun hc1 => ?_)
      · replace H := hbt hc1 H
        refine skN ?_
        refine xn ?_
        obtain ⟨x7, H, HK2⟩ := hb H
        refine sqj (fun a w => ∃ (x3 : (List TGrant)) (v5 : Value) , St e s0 w [Ow kTGrant 33 v5 x3] ∧ Fr 29 a [(0, v1), (1, (.int .i64 x5)), (5, v5), (6, (.int .i64 x2))] ∧ spec_l9Without.c2 k1 (spec_l9Without.l1 x4 x5 k1) x2 x3 = some x8) ?_ ?_
        · skip
          refine blk ?_
          refine sq ?_
          refine rg ?_
          refine stp hF (p_move rfl) (by decide) (fun a hF => ?_)
          refine stp hF (p_move rfl) (by decide) (fun a hF => ?_)
          obtain ⟨hq1, H⟩ := hck H
          obtain ⟨ad1, h2, p1⟩ := p_idxr (P := Try.prog) (i := x2) h1 un_24 ti_33 hq1.1 hq1.2
          refine stp hF (p1 rfl rfl) (by decide) (fun a hF => ?_)
          have h3 : Pr (Kd.int .i64) s0 (ad1.add 0) ((rd x4 x2).Tx) := h2.lens kTGrant_Tx
          refine stp hF (p_fld rfl fi_33_0) (by decide) (fun a hF => ?_)
          refine stp hF (p_ldr_int rfl hS h3 ia_3) (by decide) (fun a hF => ?_)
          refine stp hF (p_move rfl) (by decide) (fun a hF => ?_)
          refine stp hF (p_neq rfl rfl) (by decide) (fun a hF => ?_)
          refine nilN ?_
          refine xn ?_
          refine cnd hF rfl (fun hc2 => ?_) (fun hc2 => ?_)
          · replace H := hbt hc2 H
            refine rg ?_
            refine stp hF (p_move rfl) (by decide) (fun a hF => ?_)
            refine stp hF (p_move rfl) (by decide) (fun a hF => ?_)
            refine stp hF (p_move rfl) (by decide) (fun a hF => ?_)
            obtain ⟨hq2, H⟩ := hck H
            obtain ⟨ad2, h4, p2⟩ := p_idxr (P := Try.prog) (i := x2) h1 un_24 ti_33 hq2.1 hq2.2
            refine stp hF (p2 rfl rfl) (by decide) (fun a hF => ?_)
            obtain ⟨c3, h5, p3⟩ := p_ldr_agg (P := Try.prog) h4 ia_33 ti_33
            obtain rfl := kTGrant_open h5
            refine stp hF (p3 rfl hS.ro) (by decide) (fun a hF => ?_)
            refine ste hF (e_bslice (kd := kTGrant) (et := 33) (ps := [(0, (.tmp 25))]) (vs := [(0, (.agg #[(.int .i64 ((rd x4 x2).Tx)), (.int .i64 ((rd x4 x2).Res)), (.int .i64 ((rd x4 x2).Mode))]))]) (cs := [(.int .i64 ((rd x4 x2).Tx)), (.int .i64 ((rd x4 x2).Res)), (.int .i64 ((rd x4 x2).Mode))]) (xs := ([rd x4 x2] : List TGrant)) hS rfl (by intro w; kernel_rfl) rfl (by decide) (Nat.le_of_ble_eq_true rfl) (by exact (rows_cons (kd := kTGrant) (x := rd x4 x2) (c := [(.int .i64 ((rd x4 x2).Tx)), (.int .i64 ((rd x4 x2).Res)), (.int .i64 ((rd x4 x2).Mode))]) (cs := []) (kTGrant_mk (x := rd x4 x2) ) (Rows.nil _ _ _ _)))) (by decide) (fun v6 w a hR hF => ?_)
            have hS : St e s0 w [Ow kTGrant 33 v6 ([rd x4 x2] : List TGrant), Ow kTGrant 33 v4 x6] := hR
            obtain ⟨hq3, H⟩ := hck H
            refine ste hF (e_append (n := 1) hS rfl rfl rfl (hS.src (n := 0) rfl) un_24 ti_33 rfl (by decide) (by decide) (Nat.le_trans (Nat.mul_le_mul_right 24 hq3) (by decide))) (by decide) (fun v7 w a hR hF => ?_)
            have hS : St e s0 w [Ow kTGrant 33 v7 (x6 ++ ([rd x4 x2] : List TGrant)), Ow kTGrant 33 v6 ([rd x4 x2] : List TGrant)] := hR
            replace hS := hS.sel (is := [0]) (A' := [Ow kTGrant 33 v7 (x6 ++ ([rd x4 x2] : List TGrant))]) rfl
            refine stp hF (p_assign rfl) (by decide) (fun a hF => ?_)
            refine nilN ?_
            refine bn (xn ?_)
            obtain rfl := hsm H
            exact ⟨(x6 ++ ([rd x4 x2] : List TGrant)), v7, hS, hF.cut ⟨rfl, rfl, rfl, rfl, trivial⟩, HK2⟩
          · replace H := hbf hc2 H
            refine skN ?_
            refine bn (xn ?_)
            obtain rfl := hsm H
            exact ⟨x6, v4, hS, hF.cut ⟨rfl, rfl, rfl, rfl, trivial⟩, HK2⟩
        · clear H HK2 hS hF
          rintro a w ⟨x3, v5, hS, hF, H⟩
          unfold spec_l9Without.c2 at H
          refine rg ?_
          refine stp hF (p_move rfl) (by decide) (fun a hF => ?_)
          refine stp hF (p_add (c := w64 (x2 + 1)) rfl rfl rfl) (by decide) (fun a hF => ?_)
          refine stp hF (p_assign rfl) (by decide) (fun a hF => ?_)
          refine nilN ?_
          refine xn ?_
          exact ⟨x3, (w64 (x2 + 1)), v5, hS, hF.cut ⟨rfl, rfl, rfl, rfl, trivial⟩, H⟩
      · replace H := hbf hc1 H
        refine exi ?_
        refine xe (xe (hit (xn ?_)))
        obtain rfl := hsm H
        exact ⟨x6, v4, hS, hF.cut ⟨rfl, trivial⟩, HK1⟩
  · clear H HK1 hS hF
    rintro a w ⟨x1, v3, hS, hF, H⟩
    unfold spec_l9Without.c1 at H
    refine sq ?_
    refine rg ?_
    refine stp hF (p_move rfl) (by decide) (fun a hF => ?_)
    refine stp hF (p_assign rfl) (by decide) (fun a hF => ?_)
    refine nilN ?_
    refine xn ?_
    refine rt ?_
    obtain rfl := hsm H
    exact ret1 hF rfl rfl hS ⟨v3, rfl, rfl⟩

def spec_l9Has.c1 (k : Nat) : Option Int :=
  (some 0)
def spec_l9Has.c2 (k : Nat) (rec_l1 : Int → Option (Ex Int Unit)) (x1 : Int) (x2 : TLocks) (x3 : Bool) : Option (Ex Int Unit) :=
  (if x3 = true then (if 0 ≤ x1 ∧ x1 < (x2.Given.length : Int) then (some (Ex.ret ((rd x2.Given x1).Mode))) else none) else (rec_l1 (w64 (x1 + 1))))
def spec_l9Has.l1 (x2 : TLocks) (x4 : Int) (x5 : Int) : Nat → Int → Option (Ex Int Unit)
  | 0, _ => none
  | k + 1, x1 => (if (decide (x1 < (x2.Given.length : Int))) = true then (if 0 ≤ x1 ∧ x1 < (x2.Given.length : Int) then ((if (decide (((rd x2.Given x1).Tx) = x4)) = true then (if 0 ≤ x1 ∧ x1 < (x2.Given.length : Int) then (some (decide (((rd x2.Given x1).Res) = x5))) else none) else (some false) : Option Bool).bind fun x6 => spec_l9Has.c2 k (spec_l9Has.l1 x2 x4 x5 k) x1 x2 x6) else none) else (some (Ex.go ())))
def spec_l9Has.f (k : Nat) (x2 : TLocks) (x4 : Int) (x5 : Int) : Option Int :=
  (((spec_l9Has.l1 x2 x4 x5 k 0) : Option (Ex Int Unit)).bind fun x7 => Ex.on x7 (fun r => some r) (fun y => spec_l9Has.c1 k))
set_option maxRecDepth 100000 in
set_option maxHeartbeats 4000000 in
theorem spec_l9Has.spec (k : Nat) (s0 : HF) (w : World) (x2 : TLocks) (x4 : Int) (x5 : Int) (v1 : Value) (v2 : Value) (h1 : Sl kTGrant s0 v1 x2.Given) (h2 : Sl kTGrant s0 v2 x2.Waits) (r : Int) (H : spec_l9Has.f k x2 x4 x5 = some r) :
    Law Try.prog 70 #[(.agg #[v1, v2]), (.int .i64 x4), (.int .i64 x5)] s0 w [] (fun v s1 A1 => v = (.int .i64 r) ∧ A1 = []) := by
  unfold spec_l9Has.f at H
  refine Law.intro Try.func70 rfl [(0, (.agg #[v1, v2])), (1, (.int .i64 x4)), (2, (.int .i64 x5))] (Nat.le_of_ble_eq_true rfl) (enter_lk ⟨rfl, rfl, rfl, trivial⟩) (fun e a hS hF => ?_)
  have hF : Fr 39 a [(0, (.agg #[v1, v2])), (1, (.int .i64 x4)), (2, (.int .i64 x5))] := hF
  refine sq ?_
  refine rg ?_
  refine ste hF (e_box (cs := [v1, v2]) hS rfl rfl) (by decide) (fun v w a hR hF => ?_)
  obtain ⟨g1, rfl, hS⟩ := hR
  refine stp hF (p_assign rfl) (by decide) (fun a hF => ?_)
  refine nilN ?_
  refine xn ?_
  obtain ⟨x7, H, HK1⟩ := hb H
  refine sqj (fun a w => St e s0 w [pt g1 26 ([v1, v2])] ∧ Fr 39 a [] ∧ spec_l9Has.c1 k = some r) ?_ ?_
  · skip
    refine sq ?_
    refine rg ?_
    refine stp hF (p_assign rfl) (by decide) (fun a hF => ?_)
    refine nilN ?_
    refine xn ?_
    refine blk ?_
    refine loop_ind (fun k1 a w => ∃ (x1 : Int) , St e s0 w [pt g1 26 ([v1, v2])] ∧ Fr 39 a [(1, (.int .i64 x4)), (2, (.int .i64 x5)), (3, (.pointer (some ⟨g1, 0, none⟩))), (7, (.int .i64 x1))] ∧ spec_l9Has.l1 x2 x4 x5 k1 x1 = some x7) k ?_ ?_ ?_
    · skip
      exact ⟨0, hS, hF.cut ⟨rfl, rfl, rfl, rfl, trivial⟩, H⟩
    · clear H hS hF
      rintro a w ⟨x1, hS, hF, H⟩
      exact absurd (show none = some _ from H) (by simp)
    · clear H hS hF
      rintro k1 a w ⟨x1, hS, hF, H⟩
      rw [spec_l9Has.l1.eq_2] at H
      refine sq ?_
      refine sq ?_
      refine rg ?_
      refine stp hF (p_move rfl) (by decide) (fun a hF => ?_)
      refine stp hF (p_fldb (o' := 0) rfl fi_26_0 rfl) (by decide) (fun a hF => ?_)
      refine stp hF (p_ldb_one (i := 0) hS rfl rfl ia_24 rfl) (by decide) (fun a hF => ?_)
      refine stp hF (p_lenr un_24 rfl h1) (by decide) (fun a hF => ?_)
      refine stp hF (p_lss rfl rfl) (by decide) (fun a hF => ?_)
      refine nilN ?_
      refine xn ?_
      refine cnd hF rfl (fun hc1 => ?_) (fun hc1 => ?_)
      · replace H := hbt hc1 H
        refine skN ?_
        refine xn ?_
        refine sq ?_
        refine blk ?_
        refine sq ?_
        refine rg ?_
        refine stp hF (p_fldb (o' := 0) rfl fi_26_0 rfl) (by decide) (fun a hF => ?_)
        refine stp hF (p_ldb_one (i := 0) hS rfl rfl ia_24 rfl) (by decide) (fun a hF => ?_)
        refine stp hF (p_move rfl) (by decide) (fun a hF => ?_)
        obtain ⟨hq1, H⟩ := hck H
        obtain ⟨ad1, h3, p1⟩ := p_idxr (P := Try.prog) (i := x1) h1 un_24 ti_33 hq1.1 hq1.2
        refine stp hF (p1 rfl rfl) (by decide) (fun a hF => ?_)
        have h4 : Pr (Kd.int .i64) s0 (ad1.add 0) ((rd x2.Given x1).Tx) := h3.lens kTGrant_Tx
        refine stp hF (p_fld rfl fi_33_0) (by decide) (fun a hF => ?_)
        refine stp hF (p_ldr_int rfl hS h4 ia_3) (by decide) (fun a hF => ?_)
        refine stp hF (p_move rfl) (by decide) (fun a hF => ?_)
        refine stp hF (p_eql rfl rfl) (by decide) (fun a hF => ?_)
        refine stp hF (p_move rfl) (by decide) (fun a hF => ?_)
        obtain ⟨x6, H, HK2⟩ := hb H
        refine cutj 9 (fun a w => ∃ (x3 : Bool) , St e s0 w [pt g1 26 ([v1, v2])] ∧ Fr 39 a [(1, (.int .i64 x4)), (2, (.int .i64 x5)), (3, (.pointer (some ⟨g1, 0, none⟩))), (7, (.int .i64 x1)), (32, (.bool x3))] ∧ spec_l9Has.c2 k1 (spec_l9Has.l1 x2 x4 x5 k1) x1 x2 x3 = some x7) rfl rfl ?_ ?_
        · rcases Bool.eq_false_or_eq_true (decide (((rd x2.Given x1).Tx) = x4)) with hc2 | hc2
          · replace H := hbt hc2 H
            refine gonE (j := 8) hF rfl rfl hc2 ?_
            refine stp hF (p_fldb (o' := 0) rfl fi_26_0 rfl) (by decide) (fun a hF => ?_)
            refine gonE (j := 8) hF rfl rfl hc2 ?_
            refine stp hF (p_ldb_one (i := 0) hS rfl rfl ia_24 rfl) (by decide) (fun a hF => ?_)
            refine gonE (j := 8) hF rfl rfl hc2 ?_
            refine stp hF (p_move rfl) (by decide) (fun a hF => ?_)
            obtain ⟨hq2, H⟩ := hck H
            obtain ⟨ad2, h5, p2⟩ := p_idxr (P := Try.prog) (i := x1) h1 un_24 ti_33 hq2.1 hq2.2
            refine gonE (j := 8) hF rfl rfl hc2 ?_
            refine stp hF (p2 rfl rfl) (by decide) (fun a hF => ?_)
            have h6 : Pr (Kd.int .i64) s0 (ad2.add 1) ((rd x2.Given x1).Res) := h5.lens kTGrant_Res
            refine gonE (j := 8) hF rfl rfl hc2 ?_
            refine stp hF (p_fld rfl fi_33_1) (by decide) (fun a hF => ?_)
            refine gonE (j := 8) hF rfl rfl hc2 ?_
            refine stp hF (p_ldr_int rfl hS h6 ia_3) (by decide) (fun a hF => ?_)
            refine gonE (j := 8) hF rfl rfl hc2 ?_
            refine stp hF (p_move rfl) (by decide) (fun a hF => ?_)
            refine gonE (j := 8) hF rfl rfl hc2 ?_
            refine stp hF (p_eql rfl rfl) (by decide) (fun a hF => ?_)
            refine stp hF (p_pickT rfl hc2 rfl) (by decide) (fun a hF => ?_)
            refine nilN ?_
            refine xn ?_
            obtain rfl := hsm H
            exact ⟨(decide (((rd x2.Given x1).Res) = x5)), hS, hF.cut ⟨rfl, rfl, rfl, rfl, rfl, trivial⟩, HK2⟩
          · replace H := hbf hc2 H
            refine gofD (j := 8) hF rfl rfl (by rw [hc2]; decide) (by decide) (fun a hF => ?_)
            refine gofD (j := 8) hF rfl rfl (by rw [hc2]; decide) (by decide) (fun a hF => ?_)
            refine gofD (j := 8) hF rfl rfl (by rw [hc2]; decide) (by decide) (fun a hF => ?_)
            refine gofD (j := 8) hF rfl rfl (by rw [hc2]; decide) (by decide) (fun a hF => ?_)
            refine gofD (j := 8) hF rfl rfl (by rw [hc2]; decide) (by decide) (fun a hF => ?_)
            refine gofD (j := 8) hF rfl rfl (by rw [hc2]; decide) (by decide) (fun a hF => ?_)
            refine gofD (j := 8) hF rfl rfl (by rw [hc2]; decide) (by decide) (fun a hF => ?_)
            refine gofD (j := 8) hF rfl rfl (by rw [hc2]; decide) (by decide) (fun a hF => ?_)
            refine stp hF (p_pickF rfl hc2 rfl) (by decide) (fun a hF => ?_)
            refine nilN ?_
            refine xn ?_
            obtain rfl := hsm H
            exact ⟨false, hS, hF.cut ⟨rfl, rfl, rfl, rfl, rfl, trivial⟩, HK2⟩
        · clear H HK2 hS hF
          rintro a w ⟨x3, hS, hF, H⟩
          unfold spec_l9Has.c2 at H
          refine nilN ?_
          refine xn ?_
          refine cnd hF rfl (fun hc3 => ?_) (fun hc3 => ?_)
          · replace H := hbt hc3 H
            refine sq ?_
            refine rg ?_
            refine stp hF (p_fldb (o' := 0) rfl fi_26_0 rfl) (by decide) (fun a hF => ?_)
            refine stp hF (p_ldb_one (i := 0) hS rfl rfl ia_24 rfl) (by decide) (fun a hF => ?_)
            refine stp hF (p_move rfl) (by decide) (fun a hF => ?_)
            obtain ⟨hq3, H⟩ := hck H
            obtain ⟨ad3, h7, p3⟩ := p_idxr (P := Try.prog) (i := x1) h1 un_24 ti_33 hq3.1 hq3.2
            refine stp hF (p3 rfl rfl) (by decide) (fun a hF => ?_)
            have h8 : Pr (Kd.int .i64) s0 (ad3.add 2) ((rd x2.Given x1).Mode) := h7.lens kTGrant_Mode
            refine stp hF (p_fld rfl fi_33_2) (by decide) (fun a hF => ?_)
            refine stp hF (p_ldr_int rfl hS h8 ia_3) (by decide) (fun a hF => ?_)
            refine stp hF (p_assign rfl) (by decide) (fun a hF => ?_)
            refine nilN ?_
            refine xn ?_
            refine rt ?_
            refine br (xr (xr (br (xr ?_))))
            obtain rfl := hsm H
            have H := hon1 HK1
            obtain rfl := hsm H
            replace hS := hS.sel (is := []) (A' := []) rfl
            exact ret1 hF rfl rfl hS ⟨rfl, rfl⟩
          · replace H := hbf hc3 H
            refine skN ?_
            refine bn (xn ?_)
            refine rg ?_
            refine stp hF (p_move rfl) (by decide) (fun a hF => ?_)
            refine stp hF (p_add (c := w64 (x1 + 1)) rfl rfl rfl) (by decide) (fun a hF => ?_)
            refine stp hF (p_assign rfl) (by decide) (fun a hF => ?_)
            refine nilN ?_
            refine xn ?_
            exact ⟨(w64 (x1 + 1)), hS, hF.cut ⟨rfl, rfl, rfl, rfl, trivial⟩, H⟩
      · replace H := hbf hc1 H
        refine exi ?_
        refine xe (xe (hit (xn ?_)))
        obtain rfl := hsm H
        exact ⟨hS, hF.cut trivial, HK1⟩
  · clear H HK1 hS hF
    rintro a w ⟨hS, hF, H⟩
    unfold spec_l9Has.c1 at H
    refine sq ?_
    refine rg ?_
    refine stp hF (p_assign rfl) (by decide) (fun a hF => ?_)
    refine nilN ?_
    refine xn ?_
    refine rt ?_
    obtain rfl := hsm H
    replace hS := hS.sel (is := []) (A' := []) rfl
    exact ret1 hF rfl rfl hS ⟨rfl, rfl⟩

def spec_l1In.f (k : Nat) (x1 : Int) (x2 : Int) (x3 : Int) : Option Bool :=
  (some ((decide (x2 ≤ x1)) && (decide (x1 ≤ x3))))
set_option maxRecDepth 100000 in
set_option maxHeartbeats 4000000 in
theorem spec_l1In.spec (k : Nat) (s0 : HF) (w : World) (x1 : Int) (x2 : Int) (x3 : Int) (r : Bool) (H : spec_l1In.f k x1 x2 x3 = some r) :
    Law Try.prog 68 #[(.int .i64 x1), (.int .i64 x2), (.int .i64 x3)] s0 w [] (fun v s1 A1 => v = (.bool r) ∧ A1 = []) := by
  unfold spec_l1In.f at H
  refine Law.intro Try.func68 rfl [(0, (.int .i64 x1)), (1, (.int .i64 x2)), (2, (.int .i64 x3))] (Nat.le_of_ble_eq_true rfl) (enter_lk ⟨rfl, rfl, rfl, trivial⟩) (fun e a hS hF => ?_)
  have hF : Fr 15 a [(0, (.int .i64 x1)), (1, (.int .i64 x2)), (2, (.int .i64 x3))] := hF
  refine sq ?_
  refine rg ?_
  refine stp hF (p_assign rfl) (by decide) (fun a hF => ?_)
  refine nilN ?_
  refine xn ?_
  refine sq ?_
  refine rg ?_
  refine stp hF (p_move rfl) (by decide) (fun a hF => ?_)
  refine stp hF (p_move rfl) (by decide) (fun a hF => ?_)
  refine stp hF (p_geq rfl rfl) (by decide) (fun a hF => ?_)
  refine stp hF (p_move rfl) (by decide) (fun a hF => ?_)
  refine cutj 4 (fun a w => St e s0 w [] ∧ Fr 15 a [(14, (.bool ((decide (x2 ≤ x1)) && (decide (x1 ≤ x3)))))]) rfl rfl ?_ ?_
  · rcases Bool.eq_false_or_eq_true (decide (x2 ≤ x1)) with hc1 | hc1
    · skip
      refine gonE (j := 3) hF rfl rfl hc1 ?_
      refine stp hF (p_move rfl) (by decide) (fun a hF => ?_)
      refine gonE (j := 3) hF rfl rfl hc1 ?_
      refine stp hF (p_move rfl) (by decide) (fun a hF => ?_)
      refine gonE (j := 3) hF rfl rfl hc1 ?_
      refine stp hF (p_leq rfl rfl) (by decide) (fun a hF => ?_)
      refine stp hF (p_andT rfl hc1 rfl) (by decide) (fun a hF => ?_)
      refine nilN ?_
      refine xn ?_
      exact ⟨hS, hF.cut ⟨rfl, trivial⟩⟩
    · skip
      refine gofD (j := 3) hF rfl rfl (by rw [hc1]; decide) (by decide) (fun a hF => ?_)
      refine gofD (j := 3) hF rfl rfl (by rw [hc1]; decide) (by decide) (fun a hF => ?_)
      refine gofD (j := 3) hF rfl rfl (by rw [hc1]; decide) (by decide) (fun a hF => ?_)
      refine stp hF (p_andF (decide (x1 ≤ x3)) rfl hc1 rfl) (by decide) (fun a hF => ?_)
      refine nilN ?_
      refine xn ?_
      exact ⟨hS, hF.cut ⟨rfl, trivial⟩⟩
  clear hS hF
  rintro a w ⟨hS, hF⟩
  refine stp hF (p_assign rfl) (by decide) (fun a hF => ?_)
  refine nilN ?_
  refine xn ?_
  refine rt ?_
  obtain rfl := hsm H
  exact ret1 hF rfl rfl hS ⟨rfl, rfl⟩

def spec_l9Mode.f (k : Nat) (x1 : Int) : Option Bool :=
  ((spec_l1In.f k x1 1 4).bind fun x2 => (some x2))
set_option maxRecDepth 100000 in
set_option maxHeartbeats 4000000 in
theorem spec_l9Mode.spec (k : Nat) (s0 : HF) (w : World) (x1 : Int) (r : Bool) (H : spec_l9Mode.f k x1 = some r) :
    Law Try.prog 69 #[(.int .i64 x1)] s0 w [] (fun v s1 A1 => v = (.bool r) ∧ A1 = []) := by
  unfold spec_l9Mode.f at H
  refine Law.intro Try.func69 rfl [(0, (.int .i64 x1))] (Nat.le_of_ble_eq_true rfl) (enter_lk ⟨rfl, trivial⟩) (fun e a hS hF => ?_)
  have hF : Fr 5 a [(0, (.int .i64 x1))] := hF
  refine sq ?_
  refine rg ?_
  refine stp hF (p_assign rfl) (by decide) (fun a hF => ?_)
  refine nilN ?_
  refine xn ?_
  refine sq ?_
  refine rg ?_
  refine stp hF (p_move rfl) (by decide) (fun a hF => ?_)
  obtain ⟨x2, hx1, H⟩ := hb H
  refine ste hF (e_call (fst := []) (vs := [(.int .i64 x1), (.int .i64 1), (.int .i64 4)]) (cap := []) rfl rfl go_68 (St.call (A := []) (B := []) hS (spec_l1In.spec k _ _ x1 1 4 _ hx1))) (by decide) (fun v w a hR hF => ?_)
  obtain ⟨s2, A2, hg1, hS, hR⟩ := hR
  obtain ⟨hv1, rfl⟩ := hR; obtain rfl := hv1.symm
  have hS : St e s2 w [] := hS
  refine stp hF (p_assign rfl) (by decide) (fun a hF => ?_)
  refine nilN ?_
  refine xn ?_
  refine rt ?_
  obtain rfl := hsm H
  exact ret1 hF rfl rfl hS ⟨rfl, rfl⟩

def spec_Both.c1 (k : Nat) (x1 : Int) (x2 : Int) (x3 : Bool) : Option Int :=
  (if x3 = true then (some 0) else (if ((decide (x1 = x2)) || (decide (x2 = 1))) = true then (some x1) else (if (decide (x1 = 1)) = true then (some x2) else (some 4))))
def spec_Both.f (k : Nat) (x1 : Int) (x2 : Int) : Option Int :=
  ((spec_l9Mode.f k x1).bind fun x4 => ((if (!x4) = true then (some true) else ((spec_l9Mode.f k x2).bind fun x5 => (some (!x5))) : Option Bool).bind fun x6 => spec_Both.c1 k x1 x2 x6))
set_option maxRecDepth 100000 in
set_option maxHeartbeats 4000000 in
theorem spec_Both.spec (k : Nat) (s0 : HF) (w : World) (x1 : Int) (x2 : Int) (r : Int) (H : spec_Both.f k x1 x2 = some r) :
    Law Try.prog 84 #[(.int .i64 x1), (.int .i64 x2)] s0 w [] (fun v s1 A1 => v = (.int .i64 r) ∧ A1 = []) := by
  unfold spec_Both.f at H
  refine Law.intro Try.func84 rfl [(0, (.int .i64 x1)), (1, (.int .i64 x2))] (Nat.le_of_ble_eq_true rfl) (enter_lk ⟨rfl, rfl, trivial⟩) (fun e a hS hF => ?_)
  have hF : Fr 27 a [(0, (.int .i64 x1)), (1, (.int .i64 x2))] := hF
  refine sq ?_
  refine rg ?_
  refine stp hF (p_assign rfl) (by decide) (fun a hF => ?_)
  refine nilN ?_
  refine xn ?_
  refine sq ?_
  refine blk ?_
  refine sq ?_
  refine rg ?_
  refine stp hF (p_move rfl) (by decide) (fun a hF => ?_)
  obtain ⟨x4, hx1, H⟩ := hb H
  refine ste hF (e_call (fst := []) (vs := [(.int .i64 x1)]) (cap := []) rfl rfl go_69 (St.call (A := []) (B := []) hS (spec_l9Mode.spec k _ _ x1 _ hx1))) (by decide) (fun v w a hR hF => ?_)
  obtain ⟨s2, A2, hg1, hS, hR⟩ := hR
  obtain ⟨hv1, rfl⟩ := hR; obtain rfl := hv1.symm
  have hS : St e s2 w [] := hS
  refine stp hF (p_not rfl) (by decide) (fun a hF => ?_)
  refine stp hF (p_move rfl) (by decide) (fun a hF => ?_)
  obtain ⟨x6, H, HK1⟩ := hb H
  refine cutj 4 (fun a w => ∃ (x3 : Bool) (s3 : HF) , St e s3 w [] ∧ Fr 27 a [(0, (.int .i64 x1)), (1, (.int .i64 x2)), (13, (.bool x3))] ∧ Sub s2 s3 ∧ spec_Both.c1 k x1 x2 x3 = some r) rfl rfl ?_ ?_
  · rcases Bool.eq_false_or_eq_true ((!x4)) with hc1 | hc1
    · replace H := hbt hc1 H
      refine gofD (j := 3) hF rfl rfl (by rw [hc1]; decide) (by decide) (fun a hF => ?_)
      refine gofD (j := 3) hF rfl rfl (by rw [hc1]; decide) (by decide) (fun a hF => ?_)
      refine gofD (j := 3) hF rfl rfl (by rw [hc1]; decide) (by decide) (fun a hF => ?_)
      refine stp hF (p_pickT rfl hc1 rfl) (by decide) (fun a hF => ?_)
      refine nilN ?_
      refine xn ?_
      obtain rfl := hsm H
      exact ⟨true, s2, hS, hF.cut ⟨rfl, rfl, rfl, trivial⟩, (Sub.refl _), HK1⟩
    · replace H := hbf hc1 H
      refine gonE (j := 3) hF rfl rfl hc1 ?_
      refine stp hF (p_move rfl) (by decide) (fun a hF => ?_)
      obtain ⟨x5, hx2, H⟩ := hb H
      refine gonE (j := 3) hF rfl rfl hc1 ?_
      refine ste hF (e_call (fst := []) (vs := [(.int .i64 x2)]) (cap := []) rfl rfl go_69 (St.call (A := []) (B := []) hS (spec_l9Mode.spec k _ _ x2 _ hx2))) (by decide) (fun v w a hR hF => ?_)
      obtain ⟨s4, A3, hg2, hS, hR⟩ := hR
      obtain ⟨hv2, rfl⟩ := hR; obtain rfl := hv2.symm
      have hS : St e s4 w [] := hS
      refine gonE (j := 3) hF rfl rfl hc1 ?_
      refine stp hF (p_not rfl) (by decide) (fun a hF => ?_)
      refine stp hF (p_pickF rfl hc1 rfl) (by decide) (fun a hF => ?_)
      refine nilN ?_
      refine xn ?_
      obtain rfl := hsm H
      exact ⟨(!x5), s4, hS, hF.cut ⟨rfl, rfl, rfl, trivial⟩, hg2, HK1⟩
  · clear H HK1 hS hF
    rintro a w ⟨x3, s3, hS, hF, hg3, H⟩
    unfold spec_Both.c1 at H
    refine stp hF (p_assign rfl) (by decide) (fun a hF => ?_)
    refine nilN ?_
    refine xn ?_
    refine cnd hF rfl (fun hc2 => ?_) (fun hc2 => ?_)
    · replace H := hbt hc2 H
      refine sq ?_
      refine rg ?_
      refine stp hF (p_assign rfl) (by decide) (fun a hF => ?_)
      refine nilN ?_
      refine xn ?_
      refine rt ?_
      refine br (xr ?_)
      obtain rfl := hsm H
      exact ret1 hF rfl rfl hS ⟨rfl, rfl⟩
    · replace H := hbf hc2 H
      refine sq ?_
      refine rg ?_
      refine stp hF (p_move rfl) (by decide) (fun a hF => ?_)
      refine stp hF (p_move rfl) (by decide) (fun a hF => ?_)
      refine stp hF (p_eql rfl rfl) (by decide) (fun a hF => ?_)
      refine stp hF (p_move rfl) (by decide) (fun a hF => ?_)
      refine cutj 3 (fun a w => St e s3 w [] ∧ Fr 27 a [(0, (.int .i64 x1)), (1, (.int .i64 x2)), (21, (.bool ((decide (x1 = x2)) || (decide (x2 = 1)))))]) rfl rfl ?_ ?_
      · rcases Bool.eq_false_or_eq_true (decide (x1 = x2)) with hc3 | hc3
        · skip
          refine gofD (j := 3) hF rfl rfl (by rw [hc3]; decide) (by decide) (fun a hF => ?_)
          refine gofD (j := 3) hF rfl rfl (by rw [hc3]; decide) (by decide) (fun a hF => ?_)
          refine stp hF (p_orT (decide (x2 = 1)) rfl hc3 rfl) (by decide) (fun a hF => ?_)
          refine nilN ?_
          refine xn ?_
          exact ⟨hS, hF.cut ⟨rfl, rfl, rfl, trivial⟩⟩
        · skip
          refine gonE (j := 3) hF rfl rfl hc3 ?_
          refine stp hF (p_move rfl) (by decide) (fun a hF => ?_)
          refine gonE (j := 3) hF rfl rfl hc3 ?_
          refine stp hF (p_eql rfl rfl) (by decide) (fun a hF => ?_)
          refine stp hF (p_orF rfl hc3 rfl) (by decide) (fun a hF => ?_)
          refine nilN ?_
          refine xn ?_
          exact ⟨hS, hF.cut ⟨rfl, rfl, rfl, trivial⟩⟩
      clear hS hF
      rintro a w ⟨hS, hF⟩
      refine stp hF (p_assign rfl) (by decide) (fun a hF => ?_)
      refine nilN ?_
      refine xn ?_
      refine cnd hF rfl (fun hc4 => ?_) (fun hc4 => ?_)
      · replace H := hbt hc4 H
        refine sq ?_
        refine rg ?_
        refine stp hF (p_move rfl) (by decide) (fun a hF => ?_)
        refine stp hF (p_assign rfl) (by decide) (fun a hF => ?_)
        refine nilN ?_
        refine xn ?_
        refine rt ?_
        refine br (xr ?_)
        obtain rfl := hsm H
        exact ret1 hF rfl rfl hS ⟨rfl, rfl⟩
      · replace H := hbf hc4 H
        refine sq ?_
        refine rg ?_
        refine stp hF (p_move rfl) (by decide) (fun a hF => ?_)
        refine stp hF (p_eql rfl rfl) (by decide) (fun a hF => ?_)
        refine stp hF (p_assign rfl) (by decide) (fun a hF => ?_)
        refine nilN ?_
        refine xn ?_
        refine cnd hF rfl (fun hc5 => ?_) (fun hc5 => ?_)
        · replace H := hbt hc5 H
          refine sq ?_
          refine rg ?_
          refine stp hF (p_move rfl) (by decide) (fun a hF => ?_)
          refine stp hF (p_assign rfl) (by decide) (fun a hF => ?_)
          refine nilN ?_
          refine xn ?_
          refine rt ?_
          refine br (xr ?_)
          obtain rfl := hsm H
          exact ret1 hF rfl rfl hS ⟨rfl, rfl⟩
        · replace H := hbf hc5 H
          refine skN ?_
          refine bn (xn ?_)
          refine sq ?_
          refine rg ?_
          refine stp hF (p_assign rfl) (by decide) (fun a hF => ?_)
          refine nilN ?_
          refine xn ?_
          refine rt ?_
          obtain rfl := hsm H
          exact ret1 hF rfl rfl hS ⟨rfl, rfl⟩

def spec_l9Would.f (k : Nat) (x1 : TLocks) (x2 : TGrant) : Option Int :=
  ((spec_l9Has.f k x1 x2.Tx x2.Res).bind fun x3 => (if (decide (x3 = 0)) = true then (some x2.Mode) else ((spec_Both.f k x3 x2.Mode).bind fun x4 => (some x4))))
set_option maxRecDepth 100000 in
set_option maxHeartbeats 4000000 in
theorem spec_l9Would.spec (k : Nat) (s0 : HF) (w : World) (x1 : TLocks) (x2 : TGrant) (v1 : Value) (v2 : Value) (h1 : Sl kTGrant s0 v1 x1.Given) (h2 : Sl kTGrant s0 v2 x1.Waits) (r : Int) (H : spec_l9Would.f k x1 x2 = some r) :
    Law Try.prog 71 #[(.agg #[v1, v2]), (.agg #[(.int .i64 x2.Tx), (.int .i64 x2.Res), (.int .i64 x2.Mode)])] s0 w [] (fun v s1 A1 => v = (.int .i64 r) ∧ A1 = []) := by
  unfold spec_l9Would.f at H
  refine Law.intro Try.func71 rfl [(0, (.agg #[v1, v2])), (1, (.agg #[(.int .i64 x2.Tx), (.int .i64 x2.Res), (.int .i64 x2.Mode)]))] (Nat.le_of_ble_eq_true rfl) (enter_lk ⟨rfl, rfl, trivial⟩) (fun e a hS hF => ?_)
  have hF : Fr 20 a [(0, (.agg #[v1, v2])), (1, (.agg #[(.int .i64 x2.Tx), (.int .i64 x2.Res), (.int .i64 x2.Mode)]))] := hF
  refine sq ?_
  refine rg ?_
  refine ste hF (e_box (cs := [v1, v2]) hS rfl rfl) (by decide) (fun v w a hR hF => ?_)
  obtain ⟨g1, rfl, hS⟩ := hR
  refine ste hF (e_box (cs := [(.int .i64 x2.Tx), (.int .i64 x2.Res), (.int .i64 x2.Mode)]) hS rfl rfl) (by decide) (fun v w a hR hF => ?_)
  obtain ⟨g2, rfl, hS⟩ := hR
  refine stp hF (p_assign rfl) (by decide) (fun a hF => ?_)
  refine nilN ?_
  refine xn ?_
  refine sq ?_
  refine rg ?_
  refine stp hF (p_ldb_agg (i := 1) (l := []) (m := [v1, v2]) (r := []) hS rfl rfl ia_26 ti_26 rfl rfl rfl) (by decide) (fun a hF => ?_)
  refine stp hF (p_fldb (o' := 0) rfl fi_33_0 rfl) (by decide) (fun a hF => ?_)
  refine stp hF (p_ldb_one (i := 0) hS rfl rfl ia_3 rfl) (by decide) (fun a hF => ?_)
  refine stp hF (p_fldb (o' := 1) rfl fi_33_1 rfl) (by decide) (fun a hF => ?_)
  refine stp hF (p_ldb_one (i := 0) hS rfl rfl ia_3 rfl) (by decide) (fun a hF => ?_)
  obtain ⟨x3, hx1, H⟩ := hb H
  refine ste hF (e_call (fst := []) (vs := [(.agg #[v1, v2]), (.int .i64 x2.Tx), (.int .i64 x2.Res)]) (cap := []) rfl rfl go_70 (St.call (A := []) (B := [pt g2 33 ([(.int .i64 x2.Tx), (.int .i64 x2.Res), (.int .i64 x2.Mode)]), pt g1 26 ([v1, v2])]) hS (spec_l9Has.spec k _ _ x1 x2.Tx x2.Res v1 v2 h1 h2 _ hx1))) (by decide) (fun v w a hR hF => ?_)
  obtain ⟨s2, A2, hg1, hS, hR⟩ := hR
  obtain ⟨hv1, rfl⟩ := hR; obtain rfl := hv1.symm
  have hS : St e s2 w [pt g2 33 ([(.int .i64 x2.Tx), (.int .i64 x2.Res), (.int .i64 x2.Mode)]), pt g1 26 ([v1, v2])] := hS
  refine stp hF (p_assign rfl) (by decide) (fun a hF => ?_)
  refine nilN ?_
  refine xn ?_
  refine sq ?_
  refine sq ?_
  refine rg ?_
  refine stp hF (p_move rfl) (by decide) (fun a hF => ?_)
  refine stp hF (p_eql rfl rfl) (by decide) (fun a hF => ?_)
  refine nilN ?_
  refine xn ?_
  refine cnd hF rfl (fun hc1 => ?_) (fun hc1 => ?_)
  · replace H := hbt hc1 H
    refine sq ?_
    refine rg ?_
    refine stp hF (p_fldb (o' := 2) rfl fi_33_2 rfl) (by decide) (fun a hF => ?_)
    refine stp hF (p_ldb_one (i := 0) hS rfl rfl ia_3 rfl) (by decide) (fun a hF => ?_)
    refine stp hF (p_assign rfl) (by decide) (fun a hF => ?_)
    refine nilN ?_
    refine xn ?_
    refine rt ?_
    refine xr ?_
    obtain rfl := hsm H
    replace hS := hS.sel (is := []) (A' := []) rfl
    exact ret1 hF rfl rfl hS ⟨rfl, rfl⟩
  · replace H := hbf hc1 H
    refine skN ?_
    refine xn ?_
    refine sq ?_
    refine rg ?_
    refine stp hF (p_move rfl) (by decide) (fun a hF => ?_)
    refine stp hF (p_fldb (o' := 2) rfl fi_33_2 rfl) (by decide) (fun a hF => ?_)
    refine stp hF (p_ldb_one (i := 0) hS rfl rfl ia_3 rfl) (by decide) (fun a hF => ?_)
    obtain ⟨x4, hx2, H⟩ := hb H
    refine ste hF (e_call (fst := []) (vs := [(.int .i64 x3), (.int .i64 x2.Mode)]) (cap := []) rfl rfl go_84 (St.call (A := []) (B := [pt g2 33 ([(.int .i64 x2.Tx), (.int .i64 x2.Res), (.int .i64 x2.Mode)]), pt g1 26 ([v1, v2])]) hS (spec_Both.spec k _ _ x3 x2.Mode _ hx2))) (by decide) (fun v w a hR hF => ?_)
    obtain ⟨s3, A3, hg2, hS, hR⟩ := hR
    obtain ⟨hv2, rfl⟩ := hR; obtain rfl := hv2.symm
    have hS : St e s3 w [pt g2 33 ([(.int .i64 x2.Tx), (.int .i64 x2.Res), (.int .i64 x2.Mode)]), pt g1 26 ([v1, v2])] := hS
    refine stp hF (p_assign rfl) (by decide) (fun a hF => ?_)
    refine nilN ?_
    refine xn ?_
    refine rt ?_
    obtain rfl := hsm H
    replace hS := hS.sel (is := []) (A' := []) rfl
    exact ret1 hF rfl rfl hS ⟨rfl, rfl⟩

def spec_Goes.c1 (k : Nat) (x1 : Int) (x2 : Int) (x3 : Bool) : Option Bool :=
  (if ((x3 || (decide (x1 = 4))) || (decide (x2 = 4))) = true then (some false) else (some (((decide (x1 = 1)) || (decide (x2 = 1))) || (decide (x1 = x2)))))
def spec_Goes.f (k : Nat) (x1 : Int) (x2 : Int) : Option Bool :=
  ((spec_l9Mode.f k x1).bind fun x4 => ((if (!x4) = true then (some true) else ((spec_l9Mode.f k x2).bind fun x5 => (some (!x5))) : Option Bool).bind fun x6 => spec_Goes.c1 k x1 x2 x6))
set_option maxRecDepth 100000 in
set_option maxHeartbeats 4000000 in
theorem spec_Goes.spec (k : Nat) (s0 : HF) (w : World) (x1 : Int) (x2 : Int) (r : Bool) (H : spec_Goes.f k x1 x2 = some r) :
    Law Try.prog 67 #[(.int .i64 x1), (.int .i64 x2)] s0 w [] (fun v s1 A1 => v = (.bool r) ∧ A1 = []) := by
  unfold spec_Goes.f at H
  refine Law.intro Try.func67 rfl [(0, (.int .i64 x1)), (1, (.int .i64 x2))] (Nat.le_of_ble_eq_true rfl) (enter_lk ⟨rfl, rfl, trivial⟩) (fun e a hS hF => ?_)
  have hF : Fr 32 a [(0, (.int .i64 x1)), (1, (.int .i64 x2))] := hF
  refine sq ?_
  refine rg ?_
  refine stp hF (p_assign rfl) (by decide) (fun a hF => ?_)
  refine nilN ?_
  refine xn ?_
  refine sq ?_
  refine sq ?_
  refine rg ?_
  refine stp hF (p_move rfl) (by decide) (fun a hF => ?_)
  obtain ⟨x4, hx1, H⟩ := hb H
  refine ste hF (e_call (fst := []) (vs := [(.int .i64 x1)]) (cap := []) rfl rfl go_69 (St.call (A := []) (B := []) hS (spec_l9Mode.spec k _ _ x1 _ hx1))) (by decide) (fun v w a hR hF => ?_)
  obtain ⟨s2, A2, hg1, hS, hR⟩ := hR
  obtain ⟨hv1, rfl⟩ := hR; obtain rfl := hv1.symm
  have hS : St e s2 w [] := hS
  refine stp hF (p_not rfl) (by decide) (fun a hF => ?_)
  refine stp hF (p_move rfl) (by decide) (fun a hF => ?_)
  obtain ⟨x6, H, HK1⟩ := hb H
  refine cutj 4 (fun a w => ∃ (x3 : Bool) (s3 : HF) , St e s3 w [] ∧ Fr 32 a [(0, (.int .i64 x1)), (1, (.int .i64 x2)), (12, (.bool x3))] ∧ Sub s2 s3 ∧ spec_Goes.c1 k x1 x2 x3 = some r) rfl rfl ?_ ?_
  · rcases Bool.eq_false_or_eq_true ((!x4)) with hc1 | hc1
    · replace H := hbt hc1 H
      refine gofD (j := 3) hF rfl rfl (by rw [hc1]; decide) (by decide) (fun a hF => ?_)
      refine gofD (j := 3) hF rfl rfl (by rw [hc1]; decide) (by decide) (fun a hF => ?_)
      refine gofD (j := 3) hF rfl rfl (by rw [hc1]; decide) (by decide) (fun a hF => ?_)
      refine stp hF (p_pickT rfl hc1 rfl) (by decide) (fun a hF => ?_)
      refine nilN ?_
      refine xn ?_
      obtain rfl := hsm H
      exact ⟨true, s2, hS, hF.cut ⟨rfl, rfl, rfl, trivial⟩, (Sub.refl _), HK1⟩
    · replace H := hbf hc1 H
      refine gonE (j := 3) hF rfl rfl hc1 ?_
      refine stp hF (p_move rfl) (by decide) (fun a hF => ?_)
      obtain ⟨x5, hx2, H⟩ := hb H
      refine gonE (j := 3) hF rfl rfl hc1 ?_
      refine ste hF (e_call (fst := []) (vs := [(.int .i64 x2)]) (cap := []) rfl rfl go_69 (St.call (A := []) (B := []) hS (spec_l9Mode.spec k _ _ x2 _ hx2))) (by decide) (fun v w a hR hF => ?_)
      obtain ⟨s4, A3, hg2, hS, hR⟩ := hR
      obtain ⟨hv2, rfl⟩ := hR; obtain rfl := hv2.symm
      have hS : St e s4 w [] := hS
      refine gonE (j := 3) hF rfl rfl hc1 ?_
      refine stp hF (p_not rfl) (by decide) (fun a hF => ?_)
      refine stp hF (p_pickF rfl hc1 rfl) (by decide) (fun a hF => ?_)
      refine nilN ?_
      refine xn ?_
      obtain rfl := hsm H
      exact ⟨(!x5), s4, hS, hF.cut ⟨rfl, rfl, rfl, trivial⟩, hg2, HK1⟩
  · clear H HK1 hS hF
    rintro a w ⟨x3, s3, hS, hF, hg3, H⟩
    unfold spec_Goes.c1 at H
    refine stp hF (p_move rfl) (by decide) (fun a hF => ?_)
    refine cutj 3 (fun a w => St e s3 w [] ∧ Fr 32 a [(0, (.int .i64 x1)), (1, (.int .i64 x2)), (16, (.bool (x3 || (decide (x1 = 4)))))]) rfl rfl ?_ ?_
    · rcases Bool.eq_false_or_eq_true (x3) with hc2 | hc2
      · skip
        refine gofD (j := 8) hF rfl rfl (by rw [hc2]; decide) (by decide) (fun a hF => ?_)
        refine gofD (j := 8) hF rfl rfl (by rw [hc2]; decide) (by decide) (fun a hF => ?_)
        refine stp hF (p_orT (decide (x1 = 4)) rfl hc2 rfl) (by decide) (fun a hF => ?_)
        refine nilN ?_
        refine xn ?_
        exact ⟨hS, hF.cut ⟨rfl, rfl, rfl, trivial⟩⟩
      · skip
        refine gonE (j := 8) hF rfl rfl hc2 ?_
        refine stp hF (p_move rfl) (by decide) (fun a hF => ?_)
        refine gonE (j := 8) hF rfl rfl hc2 ?_
        refine stp hF (p_eql rfl rfl) (by decide) (fun a hF => ?_)
        refine stp hF (p_orF rfl hc2 rfl) (by decide) (fun a hF => ?_)
        refine nilN ?_
        refine xn ?_
        exact ⟨hS, hF.cut ⟨rfl, rfl, rfl, trivial⟩⟩
    clear hS hF
    rintro a w ⟨hS, hF⟩
    refine stp hF (p_move rfl) (by decide) (fun a hF => ?_)
    refine cutj 3 (fun a w => St e s3 w [] ∧ Fr 32 a [(0, (.int .i64 x1)), (1, (.int .i64 x2)), (20, (.bool ((x3 || (decide (x1 = 4))) || (decide (x2 = 4)))))]) rfl rfl ?_ ?_
    · rcases Bool.eq_false_or_eq_true ((x3 || (decide (x1 = 4)))) with hc3 | hc3
      · skip
        refine gofD (j := 12) hF rfl rfl (by rw [hc3]; decide) (by decide) (fun a hF => ?_)
        refine gofD (j := 12) hF rfl rfl (by rw [hc3]; decide) (by decide) (fun a hF => ?_)
        refine stp hF (p_orT (decide (x2 = 4)) rfl hc3 rfl) (by decide) (fun a hF => ?_)
        refine nilN ?_
        refine xn ?_
        exact ⟨hS, hF.cut ⟨rfl, rfl, rfl, trivial⟩⟩
      · skip
        refine gonE (j := 12) hF rfl rfl hc3 ?_
        refine stp hF (p_move rfl) (by decide) (fun a hF => ?_)
        refine gonE (j := 12) hF rfl rfl hc3 ?_
        refine stp hF (p_eql rfl rfl) (by decide) (fun a hF => ?_)
        refine stp hF (p_orF rfl hc3 rfl) (by decide) (fun a hF => ?_)
        refine nilN ?_
        refine xn ?_
        exact ⟨hS, hF.cut ⟨rfl, rfl, rfl, trivial⟩⟩
    clear hS hF
    rintro a w ⟨hS, hF⟩
    refine nilN ?_
    refine xn ?_
    refine cnd hF rfl (fun hc4 => ?_) (fun hc4 => ?_)
    · replace H := hbt hc4 H
      refine sq ?_
      refine rg ?_
      refine stp hF (p_assign rfl) (by decide) (fun a hF => ?_)
      refine nilN ?_
      refine xn ?_
      refine rt ?_
      refine xr ?_
      obtain rfl := hsm H
      exact ret1 hF rfl rfl hS ⟨rfl, rfl⟩
    · replace H := hbf hc4 H
      refine skN ?_
      refine xn ?_
      refine sq ?_
      refine rg ?_
      refine stp hF (p_move rfl) (by decide) (fun a hF => ?_)
      refine stp hF (p_eql rfl rfl) (by decide) (fun a hF => ?_)
      refine stp hF (p_move rfl) (by decide) (fun a hF => ?_)
      refine cutj 3 (fun a w => St e s3 w [] ∧ Fr 32 a [(0, (.int .i64 x1)), (1, (.int .i64 x2)), (26, (.bool ((decide (x1 = 1)) || (decide (x2 = 1)))))]) rfl rfl ?_ ?_
      · rcases Bool.eq_false_or_eq_true (decide (x1 = 1)) with hc5 | hc5
        · skip
          refine gofD (j := 2) hF rfl rfl (by rw [hc5]; decide) (by decide) (fun a hF => ?_)
          refine gofD (j := 2) hF rfl rfl (by rw [hc5]; decide) (by decide) (fun a hF => ?_)
          refine stp hF (p_orT (decide (x2 = 1)) rfl hc5 rfl) (by decide) (fun a hF => ?_)
          refine nilN ?_
          refine xn ?_
          exact ⟨hS, hF.cut ⟨rfl, rfl, rfl, trivial⟩⟩
        · skip
          refine gonE (j := 2) hF rfl rfl hc5 ?_
          refine stp hF (p_move rfl) (by decide) (fun a hF => ?_)
          refine gonE (j := 2) hF rfl rfl hc5 ?_
          refine stp hF (p_eql rfl rfl) (by decide) (fun a hF => ?_)
          refine stp hF (p_orF rfl hc5 rfl) (by decide) (fun a hF => ?_)
          refine nilN ?_
          refine xn ?_
          exact ⟨hS, hF.cut ⟨rfl, rfl, rfl, trivial⟩⟩
      clear hS hF
      rintro a w ⟨hS, hF⟩
      refine stp hF (p_move rfl) (by decide) (fun a hF => ?_)
      refine cutj 4 (fun a w => St e s3 w [] ∧ Fr 32 a [(31, (.bool (((decide (x1 = 1)) || (decide (x2 = 1))) || (decide (x1 = x2)))))]) rfl rfl ?_ ?_
      · rcases Bool.eq_false_or_eq_true (((decide (x1 = 1)) || (decide (x2 = 1)))) with hc6 | hc6
        · skip
          refine gofD (j := 6) hF rfl rfl (by rw [hc6]; decide) (by decide) (fun a hF => ?_)
          refine gofD (j := 6) hF rfl rfl (by rw [hc6]; decide) (by decide) (fun a hF => ?_)
          refine gofD (j := 6) hF rfl rfl (by rw [hc6]; decide) (by decide) (fun a hF => ?_)
          refine stp hF (p_orT (decide (x1 = x2)) rfl hc6 rfl) (by decide) (fun a hF => ?_)
          refine nilN ?_
          refine xn ?_
          exact ⟨hS, hF.cut ⟨rfl, trivial⟩⟩
        · skip
          refine gonE (j := 6) hF rfl rfl hc6 ?_
          refine stp hF (p_move rfl) (by decide) (fun a hF => ?_)
          refine gonE (j := 6) hF rfl rfl hc6 ?_
          refine stp hF (p_move rfl) (by decide) (fun a hF => ?_)
          refine gonE (j := 6) hF rfl rfl hc6 ?_
          refine stp hF (p_eql rfl rfl) (by decide) (fun a hF => ?_)
          refine stp hF (p_orF rfl hc6 rfl) (by decide) (fun a hF => ?_)
          refine nilN ?_
          refine xn ?_
          exact ⟨hS, hF.cut ⟨rfl, trivial⟩⟩
      clear hS hF
      rintro a w ⟨hS, hF⟩
      refine stp hF (p_assign rfl) (by decide) (fun a hF => ?_)
      refine nilN ?_
      refine xn ?_
      refine rt ?_
      obtain rfl := hsm H
      exact ret1 hF rfl rfl hS ⟨rfl, rfl⟩

def spec_l9Fits.c1 (k : Nat) : Option Bool :=
  (some true)
def spec_l9Fits.c2 (k : Nat) (rec_l1 : Int → Option (Ex Bool Unit)) (x1 : Int) (x2 : Bool) : Option (Ex Bool Unit) :=
  (if x2 = true then (some (Ex.ret false)) else (rec_l1 (w64 (x1 + 1))))
def spec_l9Fits.l1 (x3 : TLocks) (x4 : TGrant) (x5 : Int) : Nat → Int → Option (Ex Bool Unit)
  | 0, _ => none
  | k + 1, x1 => (if (decide (x1 < (x3.Given.length : Int))) = true then (((if 0 ≤ x1 ∧ x1 < (x3.Given.length : Int) then (if (decide (((rd x3.Given x1).Res) = x4.Res)) = true then (if 0 ≤ x1 ∧ x1 < (x3.Given.length : Int) then (if (decide (((rd x3.Given x1).Tx) ≠ x4.Tx)) = true then (if 0 ≤ x1 ∧ x1 < (x3.Given.length : Int) then ((spec_Goes.f k x5 ((rd x3.Given x1).Mode)).bind fun x6 => (some (!x6))) else none) else (some false)) else none) else (some false)) else none) : Option Bool).bind fun x7 => spec_l9Fits.c2 k (spec_l9Fits.l1 x3 x4 x5 k) x1 x7) else (some (Ex.go ())))
def spec_l9Fits.f (k : Nat) (x3 : TLocks) (x4 : TGrant) (x5 : Int) : Option Bool :=
  (((spec_l9Fits.l1 x3 x4 x5 k 0) : Option (Ex Bool Unit)).bind fun x8 => Ex.on x8 (fun r => some r) (fun y => spec_l9Fits.c1 k))
set_option maxRecDepth 100000 in
set_option maxHeartbeats 4000000 in
theorem spec_l9Fits.spec (k : Nat) (s0 : HF) (w : World) (x3 : TLocks) (x4 : TGrant) (x5 : Int) (v1 : Value) (v2 : Value) (h1 : Sl kTGrant s0 v1 x3.Given) (h2 : Sl kTGrant s0 v2 x3.Waits) (r : Bool) (H : spec_l9Fits.f k x3 x4 x5 = some r) :
    Law Try.prog 72 #[(.agg #[v1, v2]), (.agg #[(.int .i64 x4.Tx), (.int .i64 x4.Res), (.int .i64 x4.Mode)]), (.int .i64 x5)] s0 w [] (fun v s1 A1 => v = (.bool r) ∧ A1 = []) := by
  unfold spec_l9Fits.f at H
  refine Law.intro Try.func72 rfl [(0, (.agg #[v1, v2])), (1, (.agg #[(.int .i64 x4.Tx), (.int .i64 x4.Res), (.int .i64 x4.Mode)])), (2, (.int .i64 x5))] (Nat.le_of_ble_eq_true rfl) (enter_lk ⟨rfl, rfl, rfl, trivial⟩) (fun e a hS hF => ?_)
  have hF : Fr 46 a [(0, (.agg #[v1, v2])), (1, (.agg #[(.int .i64 x4.Tx), (.int .i64 x4.Res), (.int .i64 x4.Mode)])), (2, (.int .i64 x5))] := hF
  refine sq ?_
  refine rg ?_
  refine ste hF (e_box (cs := [v1, v2]) hS rfl rfl) (by decide) (fun v w a hR hF => ?_)
  obtain ⟨g1, rfl, hS⟩ := hR
  refine ste hF (e_box (cs := [(.int .i64 x4.Tx), (.int .i64 x4.Res), (.int .i64 x4.Mode)]) hS rfl rfl) (by decide) (fun v w a hR hF => ?_)
  obtain ⟨g2, rfl, hS⟩ := hR
  refine stp hF (p_assign rfl) (by decide) (fun a hF => ?_)
  refine nilN ?_
  refine xn ?_
  obtain ⟨x8, H, HK1⟩ := hb H
  refine sqj (fun a w => ∃ (s2 : HF) , St e s2 w [pt g2 33 ([(.int .i64 x4.Tx), (.int .i64 x4.Res), (.int .i64 x4.Mode)]), pt g1 26 ([v1, v2])] ∧ Fr 46 a [] ∧ Sub s0 s2 ∧ spec_l9Fits.c1 k = some r) ?_ ?_
  · skip
    refine sq ?_
    refine rg ?_
    refine stp hF (p_assign rfl) (by decide) (fun a hF => ?_)
    refine nilN ?_
    refine xn ?_
    refine blk ?_
    refine loop_ind (fun k1 a w => ∃ (x1 : Int) (s3 : HF) , St e s3 w [pt g2 33 ([(.int .i64 x4.Tx), (.int .i64 x4.Res), (.int .i64 x4.Mode)]), pt g1 26 ([v1, v2])] ∧ Fr 46 a [(2, (.int .i64 x5)), (3, (.pointer (some ⟨g1, 0, none⟩))), (4, (.pointer (some ⟨g2, 0, none⟩))), (7, (.int .i64 x1))] ∧ Sub s0 s3 ∧ spec_l9Fits.l1 x3 x4 x5 k1 x1 = some x8) k ?_ ?_ ?_
    · skip
      exact ⟨0, s0, hS, hF.cut ⟨rfl, rfl, rfl, rfl, trivial⟩, (Sub.refl _), H⟩
    · clear H hS hF
      rintro a w ⟨x1, s3, hS, hF, hg1, H⟩
      exact absurd (show none = some _ from H) (by simp)
    · clear H hS hF
      rintro k1 a w ⟨x1, s3, hS, hF, hg1, H⟩
      rw [spec_l9Fits.l1.eq_2] at H
      refine sq ?_
      refine sq ?_
      refine rg ?_
      refine stp hF (p_move rfl) (by decide) (fun a hF => ?_)
      refine stp hF (p_fldb (o' := 0) rfl fi_26_0 rfl) (by decide) (fun a hF => ?_)
      refine stp hF (p_ldb_one (i := 1) hS rfl rfl ia_24 rfl) (by decide) (fun a hF => ?_)
      refine stp hF (p_lenr un_24 rfl (h1.mono hg1)) (by decide) (fun a hF => ?_)
      refine stp hF (p_lss rfl rfl) (by decide) (fun a hF => ?_)
      refine nilN ?_
      refine xn ?_
      refine cnd hF rfl (fun hc1 => ?_) (fun hc1 => ?_)
      · replace H := hbt hc1 H
        refine skN ?_
        refine xn ?_
        refine sq ?_
        refine blk ?_
        obtain ⟨x7, H, HK2⟩ := hb H
        refine sqj (fun a w => ∃ (x2 : Bool) (s4 : HF) , St e s4 w [pt g2 33 ([(.int .i64 x4.Tx), (.int .i64 x4.Res), (.int .i64 x4.Mode)]), pt g1 26 ([v1, v2])] ∧ Fr 46 a [(2, (.int .i64 x5)), (3, (.pointer (some ⟨g1, 0, none⟩))), (4, (.pointer (some ⟨g2, 0, none⟩))), (7, (.int .i64 x1)), (45, (.bool x2))] ∧ Sub s3 s4 ∧ spec_l9Fits.c2 k1 (spec_l9Fits.l1 x3 x4 x5 k1) x1 x2 = some x8) ?_ ?_
        · skip
          replace hS : St e s3 w.drew [pt g2 33 ([(.int .i64 x4.Tx), (.int .i64 x4.Res), (.int .i64 x4.Mode)]), pt g1 26 ([v1, v2])] := hS.drewN 1
          refine drw [0, 1, 2, 3, 4, 5, 6, 7, 8, 9, 10, 11, 12, 13, 14, 15, 16, 17, 18, 19, 20, 21, 22, 23, 24, 25, 26, 27, 28, 29, 30] mixed (by kernel_rfl) (by decide) (hF.cut (L' := [(2, (.int .i64 x5)), (3, (.pointer (some ⟨g1, 0, none⟩))), (4, (.pointer (some ⟨g2, 0, none⟩))), (7, (.int .i64 x1)), (8, (.int .i64 x1)), (9, (.pointer (some ⟨g1, 0, none⟩))), (10, v1), (11, (.int .i64 (x3.Given.length : Int))), (12, (.bool (decide (x1 < (x3.Given.length : Int)))))]) ⟨rfl, rfl, rfl, rfl, rfl, rfl, rfl, rfl, rfl, trivial⟩) ?_
          clear hF
          generalize w.drew = w at hS ⊢
          refine pk1 rfl (by decide) rfl (by kernel_rfl) rfl (p_fldb (o' := 0) rfl fi_26_0 rfl) ?_
          refine pk1 rfl (by decide) rfl (by kernel_rfl) rfl (p_ldb_one (i := 1) hS rfl rfl ia_24 rfl) ?_
          refine pk1 rfl (by decide) rfl (by kernel_rfl) rfl (p_move rfl) ?_
          obtain ⟨hq1, H⟩ := hck H
          obtain ⟨ad1, h3, p1⟩ := p_idxr (P := Try.prog) (i := x1) (h1.mono hg1) un_24 ti_33 hq1.1 hq1.2
          refine pk1 rfl (by decide) rfl (by kernel_rfl) rfl (p1 rfl rfl) ?_
          have h4 : Pr (Kd.int .i64) s3 (ad1.add 1) ((rd x3.Given x1).Res) := h3.lens kTGrant_Res
          refine pk1 rfl (by decide) rfl (by kernel_rfl) rfl (p_fld rfl fi_33_1) ?_
          refine pk1 rfl (by decide) rfl (by kernel_rfl) rfl (p_ldr_int rfl hS h4 ia_3) ?_
          refine pk1 rfl (by decide) rfl (by kernel_rfl) rfl (p_fldb (o' := 1) rfl fi_33_1 rfl) ?_
          refine pk1 rfl (by decide) rfl (by kernel_rfl) rfl (p_ldb_one (i := 0) hS rfl rfl ia_3 rfl) ?_
          refine pk1 rfl (by decide) rfl (by kernel_rfl) rfl (p_eql rfl rfl) ?_
          refine pk1 rfl (by decide) rfl (by kernel_rfl) rfl (p_move rfl) ?_
          rcases Bool.eq_false_or_eq_true (decide (((rd x3.Given x1).Res) = x4.Res)) with hc2 | hc2
          · replace H := hbt hc2 H
            refine pkOn (j := 9) rfl (by decide) rfl (by kernel_rfl) rfl rfl rfl hc2 (p_fldb (o' := 0) rfl fi_26_0 rfl) ?_
            refine pkOn (j := 9) rfl (by decide) rfl (by kernel_rfl) rfl rfl rfl hc2 (p_ldb_one (i := 1) hS rfl rfl ia_24 rfl) ?_
            refine pkOn (j := 9) rfl (by decide) rfl (by kernel_rfl) rfl rfl rfl hc2 (p_move rfl) ?_
            obtain ⟨hq2, H⟩ := hck H
            obtain ⟨ad2, h5, p2⟩ := p_idxr (P := Try.prog) (i := x1) (h1.mono hg1) un_24 ti_33 hq2.1 hq2.2
            refine pkOn (j := 9) rfl (by decide) rfl (by kernel_rfl) rfl rfl rfl hc2 (p2 rfl rfl) ?_
            have h6 : Pr (Kd.int .i64) s3 (ad2.add 0) ((rd x3.Given x1).Tx) := h5.lens kTGrant_Tx
            refine pkOn (j := 9) rfl (by decide) rfl (by kernel_rfl) rfl rfl rfl hc2 (p_fld rfl fi_33_0) ?_
            refine pkOn (j := 9) rfl (by decide) rfl (by kernel_rfl) rfl rfl rfl hc2 (p_ldr_int rfl hS h6 ia_3) ?_
            refine pkOn (j := 9) rfl (by decide) rfl (by kernel_rfl) rfl rfl rfl hc2 (p_fldb (o' := 0) rfl fi_33_0 rfl) ?_
            refine pkOn (j := 9) rfl (by decide) rfl (by kernel_rfl) rfl rfl rfl hc2 (p_ldb_one (i := 0) hS rfl rfl ia_3 rfl) ?_
            refine pkOn (j := 9) rfl (by decide) rfl (by kernel_rfl) rfl rfl rfl hc2 (p_neq rfl rfl) ?_
            refine pk1 rfl (by decide) rfl (by kernel_rfl) rfl (p_pickT rfl hc2 rfl) ?_
            refine pk1 rfl (by decide) rfl (by kernel_rfl) rfl (p_move rfl) ?_
            rcases Bool.eq_false_or_eq_true (decide (((rd x3.Given x1).Tx) ≠ x4.Tx)) with hc3 | hc3
            · replace H := hbt hc3 H
              refine pkOn (j := 20) rfl (by decide) rfl (by kernel_rfl) rfl rfl rfl hc3 (p_move rfl) ?_
              refine pkOn (j := 20) rfl (by decide) rfl (by kernel_rfl) rfl rfl rfl hc3 (p_fldb (o' := 0) rfl fi_26_0 rfl) ?_
              refine pkOn (j := 20) rfl (by decide) rfl (by kernel_rfl) rfl rfl rfl hc3 (p_ldb_one (i := 1) hS rfl rfl ia_24 rfl) ?_
              refine pkOn (j := 20) rfl (by decide) rfl (by kernel_rfl) rfl rfl rfl hc3 (p_move rfl) ?_
              obtain ⟨hq3, H⟩ := hck H
              obtain ⟨ad3, h7, p3⟩ := p_idxr (P := Try.prog) (i := x1) (h1.mono hg1) un_24 ti_33 hq3.1 hq3.2
              refine pkOn (j := 20) rfl (by decide) rfl (by kernel_rfl) rfl rfl rfl hc3 (p3 rfl rfl) ?_
              have h8 : Pr (Kd.int .i64) s3 (ad3.add 2) ((rd x3.Given x1).Mode) := h7.lens kTGrant_Mode
              refine pkOn (j := 20) rfl (by decide) rfl (by kernel_rfl) rfl rfl rfl hc3 (p_fld rfl fi_33_2) ?_
              refine pkOn (j := 20) rfl (by decide) rfl (by kernel_rfl) rfl rfl rfl hc3 (p_ldr_int rfl hS h8 ia_3) ?_
              obtain ⟨x6, hx1, H⟩ := hb H
              refine pkEOn (j := 20) [26, 25, 24, 23, 22, 19, 18, 17, 16, 15, 14, 13, 12, 11, 10, 9, 8, 7, 6, 5, 4, 3, 2, 1, 0] rfl rfl rfl hc3 (by decide) (by kernel_rfl) (by kernel_rfl) (e_call (fst := []) (vs := [(.int .i64 x5), (.int .i64 ((rd x3.Given x1).Mode))]) (cap := []) rfl rfl go_67 (St.call (A := []) (B := [pt g2 33 ([(.int .i64 x4.Tx), (.int .i64 x4.Res), (.int .i64 x4.Mode)]), pt g1 26 ([v1, v2])]) hS (spec_Goes.spec k1 _ _ x5 ((rd x3.Given x1).Mode) _ hx1))) ?_
              intro v w hR
              obtain ⟨s5, A2, hg2, hS, hR⟩ := hR
              obtain ⟨hv1, rfl⟩ := hR; obtain rfl := hv1.symm
              have hS : St e s5 w [pt g2 33 ([(.int .i64 x4.Tx), (.int .i64 x4.Res), (.int .i64 x4.Mode)]), pt g1 26 ([v1, v2])] := hS
              refine ⟨⟨knwOn (j := 20) rfl rfl rfl rfl rfl hc3 (p_fld rfl fi_33_2), ⟨knwOn (j := 20) rfl rfl rfl rfl rfl hc3 (p3 rfl rfl), ⟨knwOn (j := 20) rfl rfl rfl rfl rfl hc3 (p_move rfl), ⟨knwOn (j := 20) rfl rfl rfl rfl rfl hc3 (p_ldb_one (i := 1) hS rfl rfl ia_24 rfl), ⟨knwOn (j := 20) rfl rfl rfl rfl rfl hc3 (p_fldb (o' := 0) rfl fi_26_0 rfl), ⟨knw rfl rfl rfl (p_pickT rfl hc2 rfl), ⟨knwOn (j := 9) rfl rfl rfl rfl rfl hc2 (p_neq rfl rfl), ⟨knwOn (j := 9) rfl rfl rfl rfl rfl hc2 (p_ldb_one (i := 0) hS rfl rfl ia_3 rfl), ⟨knwOn (j := 9) rfl rfl rfl rfl rfl hc2 (p_fldb (o' := 0) rfl fi_33_0 rfl), ⟨knwOn (j := 9) rfl rfl rfl rfl rfl hc2 (p_ldr_int rfl hS (h6.mono hg2) ia_3), ⟨knwOn (j := 9) rfl rfl rfl rfl rfl hc2 (p_fld rfl fi_33_0), ⟨knwOn (j := 9) rfl rfl rfl rfl rfl hc2 (p2 rfl rfl), ⟨knwOn (j := 9) rfl rfl rfl rfl rfl hc2 (p_move rfl), ⟨knwOn (j := 9) rfl rfl rfl rfl rfl hc2 (p_ldb_one (i := 1) hS rfl rfl ia_24 rfl), ⟨knwOn (j := 9) rfl rfl rfl rfl rfl hc2 (p_fldb (o' := 0) rfl fi_26_0 rfl), ⟨knw rfl rfl rfl (p_move rfl), ⟨knw rfl rfl rfl (p_eql rfl rfl), ⟨knw rfl rfl rfl (p_ldb_one (i := 0) hS rfl rfl ia_3 rfl), ⟨knw rfl rfl rfl (p_fldb (o' := 1) rfl fi_33_1 rfl), ⟨knw rfl rfl rfl (p_ldr_int rfl hS (h4.mono hg2) ia_3), ⟨knw rfl rfl rfl (p_fld rfl fi_33_1), ⟨knw rfl rfl rfl (p1 rfl rfl), ⟨knw rfl rfl rfl (p_move rfl), ⟨knw rfl rfl rfl (p_ldb_one (i := 1) hS rfl rfl ia_24 rfl), ⟨knw rfl rfl rfl (p_fldb (o' := 0) rfl fi_26_0 rfl), trivial⟩⟩⟩⟩⟩⟩⟩⟩⟩⟩⟩⟩⟩⟩⟩⟩⟩⟩⟩⟩⟩⟩⟩⟩⟩, ?_⟩
              refine pkOn (j := 20) rfl (by decide) rfl (by kernel_rfl) rfl rfl rfl hc3 (p_not rfl) ?_
              refine pk1 rfl (by decide) rfl (by kernel_rfl) rfl (p_pickT rfl hc3 rfl) ?_
              refine pkF (fun a hF => ?_)
              refine xn ?_
              obtain rfl := hsm H
              exact ⟨(!x6), s5, hS, hF.cut ⟨rfl, rfl, rfl, rfl, rfl, trivial⟩, hg2, HK2⟩
            · replace H := hbf hc3 H
              refine pkOff (j := 20) rfl (by decide) rfl (by kernel_rfl) rfl rfl rfl (by rw [hc3]; decide) ?_
              refine pkOff (j := 20) rfl (by decide) rfl (by kernel_rfl) rfl rfl rfl (by rw [hc3]; decide) ?_
              refine pkOff (j := 20) rfl (by decide) rfl (by kernel_rfl) rfl rfl rfl (by rw [hc3]; decide) ?_
              refine pkOff (j := 20) rfl (by decide) rfl (by kernel_rfl) rfl rfl rfl (by rw [hc3]; decide) ?_
              refine pkOff (j := 20) rfl (by decide) rfl (by kernel_rfl) rfl rfl rfl (by rw [hc3]; decide) ?_
              refine pkOff (j := 20) rfl (by decide) rfl (by kernel_rfl) rfl rfl rfl (by rw [hc3]; decide) ?_
              refine pkOff (j := 20) rfl (by decide) rfl (by kernel_rfl) rfl rfl rfl (by rw [hc3]; decide) ?_
              refine pkOff (j := 20) rfl (by decide) rfl (by kernel_rfl) rfl rfl rfl (by rw [hc3]; decide) ?_
              refine pkOff (j := 20) rfl (by decide) rfl (by kernel_rfl) rfl rfl rfl (by rw [hc3]; decide) ?_
              refine pk1 rfl (by decide) rfl (by kernel_rfl) rfl (p_pickF rfl hc3 rfl) ?_
              refine pkF (fun a hF => ?_)
              refine xn ?_
              obtain rfl := hsm H
              exact ⟨false, s3, hS, hF.cut ⟨rfl, rfl, rfl, rfl, rfl, trivial⟩, (Sub.refl _), HK2⟩
          · replace H := hbf hc2 H
            refine pkOff (j := 9) rfl (by decide) rfl (by kernel_rfl) rfl rfl rfl (by rw [hc2]; decide) ?_
            refine pkOff (j := 9) rfl (by decide) rfl (by kernel_rfl) rfl rfl rfl (by rw [hc2]; decide) ?_
            refine pkOff (j := 9) rfl (by decide) rfl (by kernel_rfl) rfl rfl rfl (by rw [hc2]; decide) ?_
            refine pkOff (j := 9) rfl (by decide) rfl (by kernel_rfl) rfl rfl rfl (by rw [hc2]; decide) ?_
            refine pkOff (j := 9) rfl (by decide) rfl (by kernel_rfl) rfl rfl rfl (by rw [hc2]; decide) ?_
            refine pkOff (j := 9) rfl (by decide) rfl (by kernel_rfl) rfl rfl rfl (by rw [hc2]; decide) ?_
            refine pkOff (j := 9) rfl (by decide) rfl (by kernel_rfl) rfl rfl rfl (by rw [hc2]; decide) ?_
            refine pkOff (j := 9) rfl (by decide) rfl (by kernel_rfl) rfl rfl rfl (by rw [hc2]; decide) ?_
            refine pkOff (j := 9) rfl (by decide) rfl (by kernel_rfl) rfl rfl rfl (by rw [hc2]; decide) ?_
            refine pk1 rfl (by decide) rfl (by kernel_rfl) rfl (p_pickF rfl hc2 rfl) ?_
            refine pk1 rfl (by decide) rfl (by kernel_rfl) rfl (p_move rfl) ?_
            have hc4 : false = false := rfl
            refine pkOff (j := 20) rfl (by decide) rfl (by kernel_rfl) rfl rfl rfl (by rw [hc4]; decide) ?_
            refine pkOff (j := 20) rfl (by decide) rfl (by kernel_rfl) rfl rfl rfl (by rw [hc4]; decide) ?_
            refine pkOff (j := 20) rfl (by decide) rfl (by kernel_rfl) rfl rfl rfl (by rw [hc4]; decide) ?_
            refine pkOff (j := 20) rfl (by decide) rfl (by kernel_rfl) rfl rfl rfl (by rw [hc4]; decide) ?_
            refine pkOff (j := 20) rfl (by decide) rfl (by kernel_rfl) rfl rfl rfl (by rw [hc4]; decide) ?_
            refine pkOff (j := 20) rfl (by decide) rfl (by kernel_rfl) rfl rfl rfl (by rw [hc4]; decide) ?_
            refine pkOff (j := 20) rfl (by decide) rfl (by kernel_rfl) rfl rfl rfl (by rw [hc4]; decide) ?_
            refine pkOff (j := 20) rfl (by decide) rfl (by kernel_rfl) rfl rfl rfl (by rw [hc4]; decide) ?_
            refine pkOff (j := 20) rfl (by decide) rfl (by kernel_rfl) rfl rfl rfl (by rw [hc4]; decide) ?_
            refine pk1 rfl (by decide) rfl (by kernel_rfl) rfl (p_pickF rfl hc4 rfl) ?_
            refine pkF (fun a hF => ?_)
            refine xn ?_
            obtain rfl := hsm H
            exact ⟨false, s3, hS, hF.cut ⟨rfl, rfl, rfl, rfl, rfl, trivial⟩, (Sub.refl _), HK2⟩
        · clear H HK2 hS hF
          rintro a w ⟨x2, s4, hS, hF, hg3, H⟩
          unfold spec_l9Fits.c2 at H
          refine cnd hF rfl (fun hc5 => ?_) (fun hc5 => ?_)
          · replace H := hbt hc5 H
            refine sq ?_
            refine rg ?_
            refine stp hF (p_assign rfl) (by decide) (fun a hF => ?_)
            refine nilN ?_
            refine xn ?_
            refine rt ?_
            refine br (xr (xr (br (xr ?_))))
            obtain rfl := hsm H
            have H := hon1 HK1
            obtain rfl := hsm H
            replace hS := hS.sel (is := []) (A' := []) rfl
            exact ret1 hF rfl rfl hS ⟨rfl, rfl⟩
          · replace H := hbf hc5 H
            refine skN ?_
            refine bn (xn ?_)
            refine rg ?_
            refine stp hF (p_move rfl) (by decide) (fun a hF => ?_)
            refine stp hF (p_add (c := w64 (x1 + 1)) rfl rfl rfl) (by decide) (fun a hF => ?_)
            refine stp hF (p_assign rfl) (by decide) (fun a hF => ?_)
            refine nilN ?_
            refine xn ?_
            exact ⟨(w64 (x1 + 1)), s4, hS, hF.cut ⟨rfl, rfl, rfl, rfl, trivial⟩, (hg1.trans hg3), H⟩
      · replace H := hbf hc1 H
        refine exi ?_
        refine xe (xe (hit (xn ?_)))
        obtain rfl := hsm H
        exact ⟨s3, hS, hF.cut trivial, hg1, HK1⟩
  · clear H HK1 hS hF
    rintro a w ⟨s2, hS, hF, hg4, H⟩
    unfold spec_l9Fits.c1 at H
    refine sq ?_
    refine rg ?_
    refine stp hF (p_assign rfl) (by decide) (fun a hF => ?_)
    refine nilN ?_
    refine xn ?_
    refine rt ?_
    obtain rfl := hsm H
    replace hS := hS.sel (is := []) (A' := []) rfl
    exact ret1 hF rfl rfl hS ⟨rfl, rfl⟩

def spec_l9ForRes.c1 (k : Nat) : Option Bool :=
  (some false)
def spec_l9ForRes.l1 (x1 : (List TGrant)) (x2 : Int) : Nat → Int → Option (Ex Bool Unit)
  | 0, _ => none
  | k + 1, x3 => (if (decide (x3 < (x1.length : Int))) = true then (if 0 ≤ x3 ∧ x3 < (x1.length : Int) then (if (decide (((rd x1 x3).Res) = x2)) = true then (some (Ex.ret true)) else ((spec_l9ForRes.l1 x1 x2 k) (w64 (x3 + 1)))) else none) else (some (Ex.go ())))
def spec_l9ForRes.f (k : Nat) (x1 : (List TGrant)) (x2 : Int) : Option Bool :=
  (((spec_l9ForRes.l1 x1 x2 k 0) : Option (Ex Bool Unit)).bind fun x4 => Ex.on x4 (fun r => some r) (fun y => spec_l9ForRes.c1 k))
set_option maxRecDepth 100000 in
set_option maxHeartbeats 4000000 in
theorem spec_l9ForRes.spec (k : Nat) (s0 : HF) (w : World) (x1 : (List TGrant)) (x2 : Int) (v1 : Value) (h1 : Sl kTGrant s0 v1 x1) (r : Bool) (H : spec_l9ForRes.f k x1 x2 = some r) :
    Law Try.prog 73 #[v1, (.int .i64 x2)] s0 w [] (fun v s1 A1 => v = (.bool r) ∧ A1 = []) := by
  unfold spec_l9ForRes.f at H
  refine Law.intro Try.func73 rfl [(0, v1), (1, (.int .i64 x2))] (Nat.le_of_ble_eq_true rfl) (enter_lk ⟨rfl, rfl, trivial⟩) (fun e a hS hF => ?_)
  have hF : Fr 19 a [(0, v1), (1, (.int .i64 x2))] := hF
  refine sq ?_
  refine rg ?_
  refine stp hF (p_assign rfl) (by decide) (fun a hF => ?_)
  refine nilN ?_
  refine xn ?_
  obtain ⟨x4, H, HK1⟩ := hb H
  refine sqj (fun a w => St e s0 w [] ∧ Fr 19 a [] ∧ spec_l9ForRes.c1 k = some r) ?_ ?_
  · skip
    refine sq ?_
    refine rg ?_
    refine stp hF (p_assign rfl) (by decide) (fun a hF => ?_)
    refine nilN ?_
    refine xn ?_
    refine blk ?_
    refine loop_ind (fun k1 a w => ∃ (x3 : Int) , St e s0 w [] ∧ Fr 19 a [(0, v1), (1, (.int .i64 x2)), (5, (.int .i64 x3))] ∧ spec_l9ForRes.l1 x1 x2 k1 x3 = some x4) k ?_ ?_ ?_
    · skip
      exact ⟨0, hS, hF.cut ⟨rfl, rfl, rfl, trivial⟩, H⟩
    · clear H hS hF
      rintro a w ⟨x3, hS, hF, H⟩
      exact absurd (show none = some _ from H) (by simp)
    · clear H hS hF
      rintro k1 a w ⟨x3, hS, hF, H⟩
      rw [spec_l9ForRes.l1.eq_2] at H
      refine sq ?_
      refine sq ?_
      refine rg ?_
      refine stp hF (p_move rfl) (by decide) (fun a hF => ?_)
      refine stp hF (p_move rfl) (by decide) (fun a hF => ?_)
      refine stp hF (p_lenr un_24 rfl h1) (by decide) (fun a hF => ?_)
      refine stp hF (p_lss rfl rfl) (by decide) (fun a hF => ?_)
      refine nilN ?_
      refine xn ?_
      refine cnd hF rfl (fun hc1 => ?_) (fun hc1 => ?_)
      · replace H := hbt hc1 H
        refine skN ?_
        refine xn ?_
        refine sq ?_
        refine blk ?_
        refine sq ?_
        refine rg ?_
        refine stp hF (p_move rfl) (by decide) (fun a hF => ?_)
        refine stp hF (p_move rfl) (by decide) (fun a hF => ?_)
        obtain ⟨hq1, H⟩ := hck H
        obtain ⟨ad1, h2, p1⟩ := p_idxr (P := Try.prog) (i := x3) h1 un_24 ti_33 hq1.1 hq1.2
        refine stp hF (p1 rfl rfl) (by decide) (fun a hF => ?_)
        have h3 : Pr (Kd.int .i64) s0 (ad1.add 1) ((rd x1 x3).Res) := h2.lens kTGrant_Res
        refine stp hF (p_fld rfl fi_33_1) (by decide) (fun a hF => ?_)
        refine stp hF (p_ldr_int rfl hS h3 ia_3) (by decide) (fun a hF => ?_)
        refine stp hF (p_move rfl) (by decide) (fun a hF => ?_)
        refine stp hF (p_eql rfl rfl) (by decide) (fun a hF => ?_)
        refine nilN ?_
        refine xn ?_
        refine cnd hF rfl (fun hc2 => ?_) (fun hc2 => ?_)
        · replace H := hbt hc2 H
          refine sq ?_
          refine rg ?_
          refine stp hF (p_assign rfl) (by decide) (fun a hF => ?_)
          refine nilN ?_
          refine xn ?_
          refine rt ?_
          refine br (xr (xr (br (xr ?_))))
          obtain rfl := hsm H
          have H := hon1 HK1
          obtain rfl := hsm H
          exact ret1 hF rfl rfl hS ⟨rfl, rfl⟩
        · replace H := hbf hc2 H
          refine skN ?_
          refine bn (xn ?_)
          refine rg ?_
          refine stp hF (p_move rfl) (by decide) (fun a hF => ?_)
          refine stp hF (p_add (c := w64 (x3 + 1)) rfl rfl rfl) (by decide) (fun a hF => ?_)
          refine stp hF (p_assign rfl) (by decide) (fun a hF => ?_)
          refine nilN ?_
          refine xn ?_
          exact ⟨(w64 (x3 + 1)), hS, hF.cut ⟨rfl, rfl, rfl, trivial⟩, H⟩
      · replace H := hbf hc1 H
        refine exi ?_
        refine xe (xe (hit (xn ?_)))
        obtain rfl := hsm H
        exact ⟨hS, hF.cut trivial, HK1⟩
  · clear H HK1 hS hF
    rintro a w ⟨hS, hF, H⟩
    unfold spec_l9ForRes.c1 at H
    refine sq ?_
    refine rg ?_
    refine stp hF (p_assign rfl) (by decide) (fun a hF => ?_)
    refine nilN ?_
    refine xn ?_
    refine rt ?_
    obtain rfl := hsm H
    exact ret1 hF rfl rfl hS ⟨rfl, rfl⟩

def spec_l9Give.c1 (k : Nat) (x1 : (List TGrant)) (x2 : TGrant) (x3 : Int) (x4 : (List TGrant)) : Option ((List TGrant) × (List TGrant)) :=
  (if x1.length + 1 ≤ 5864062014805 then (some ((x1 ++ ([(⟨x2.Tx, x2.Res, x3⟩ : TGrant)] : List TGrant)), x4)) else none)
def spec_l9Give.c2 (k : Nat) (rec_l1 : Int → Option (Ex ((List TGrant) × (List TGrant)) Unit)) (x5 : Int) (x1 : (List TGrant)) (x3 : Int) (x4 : (List TGrant)) (x6 : Bool) : Option (Ex ((List TGrant) × (List TGrant)) Unit) :=
  (if x6 = true then (if 0 ≤ x5 ∧ x5 < (x1.length : Int) then (some (Ex.ret ((wr x1 x5 ({ (rd x1 x5) with Mode := x3 })), x4))) else none) else (rec_l1 (w64 (x5 + 1))))
def spec_l9Give.l1 (x1 : (List TGrant)) (x2 : TGrant) (x3 : Int) (x4 : (List TGrant)) : Nat → Int → Option (Ex ((List TGrant) × (List TGrant)) Unit)
  | 0, _ => none
  | k + 1, x5 => (if (decide (x5 < (x1.length : Int))) = true then (((if 0 ≤ x5 ∧ x5 < (x1.length : Int) then (if (decide (((rd x1 x5).Tx) = x2.Tx)) = true then (if 0 ≤ x5 ∧ x5 < (x1.length : Int) then (some (decide (((rd x1 x5).Res) = x2.Res))) else none) else (some false)) else none) : Option Bool).bind fun x7 => spec_l9Give.c2 k (spec_l9Give.l1 x1 x2 x3 x4 k) x5 x1 x3 x4 x7) else (some (Ex.go ())))
def spec_l9Give.f (k : Nat) (x1 : (List TGrant)) (x4 : (List TGrant)) (x2 : TGrant) (x3 : Int) : Option ((List TGrant) × (List TGrant)) :=
  (((spec_l9Give.l1 x1 x2 x3 x4 k 0) : Option (Ex ((List TGrant) × (List TGrant)) Unit)).bind fun x8 => Ex.on x8 (fun r => some r) (fun y => spec_l9Give.c1 k x1 x2 x3 x4))
set_option maxRecDepth 100000 in
set_option maxHeartbeats 4000000 in
theorem spec_l9Give.spec (k : Nat) (s0 : HF) (w : World) (x1 : (List TGrant)) (x4 : (List TGrant)) (x2 : TGrant) (x3 : Int) (v1 : Value) (v2 : Value) (g1 : Nat) (r : (List TGrant) × (List TGrant)) (H : spec_l9Give.f k x1 x4 x2 x3 = some r) :
    Law Try.prog 74 #[(.pointer (some ⟨g1, 0, none⟩)), (.agg #[(.int .i64 x2.Tx), (.int .i64 x2.Res), (.int .i64 x2.Mode)]), (.int .i64 x3)] s0 w [pt g1 26 ([v1, v2]), Ow kTGrant 33 v1 x1, Ow kTGrant 33 v2 x4] (fun v s1 A1 => ∃ (u0 : Value) (u1 : Value), v = (.tuple #[]) ∧ A1 = [pt g1 26 ([u0, u1]), Ow kTGrant 33 u0 r.1, Ow kTGrant 33 u1 r.2]) := by
  unfold spec_l9Give.f at H
  refine Law.intro Try.func74 rfl [(0, (.pointer (some ⟨g1, 0, none⟩))), (1, (.agg #[(.int .i64 x2.Tx), (.int .i64 x2.Res), (.int .i64 x2.Mode)])), (2, (.int .i64 x3))] (Nat.le_of_ble_eq_true rfl) (enter_lk ⟨rfl, rfl, rfl, trivial⟩) (fun e a hS hF => ?_)
  have hF : Fr 63 a [(0, (.pointer (some ⟨g1, 0, none⟩))), (1, (.agg #[(.int .i64 x2.Tx), (.int .i64 x2.Res), (.int .i64 x2.Mode)])), (2, (.int .i64 x3))] := hF
  refine sq ?_
  refine rg ?_
  refine ste hF (e_box (cs := [(.int .i64 x2.Tx), (.int .i64 x2.Res), (.int .i64 x2.Mode)]) hS rfl rfl) (by decide) (fun v w a hR hF => ?_)
  obtain ⟨g2, rfl, hS⟩ := hR
  refine nilN ?_
  refine xn ?_
  obtain ⟨x8, H, HK1⟩ := hb H
  refine sqj (fun a w => St e s0 w [pt g2 33 ([(.int .i64 x2.Tx), (.int .i64 x2.Res), (.int .i64 x2.Mode)]), pt g1 26 ([v1, v2]), Ow kTGrant 33 v1 x1, Ow kTGrant 33 v2 x4] ∧ Fr 63 a [(0, (.pointer (some ⟨g1, 0, none⟩))), (2, (.int .i64 x3)), (4, (.pointer (some ⟨g2, 0, none⟩)))] ∧ spec_l9Give.c1 k x1 x2 x3 x4 = some r) ?_ ?_
  · skip
    refine sq ?_
    refine rg ?_
    refine stp hF (p_assign rfl) (by decide) (fun a hF => ?_)
    refine nilN ?_
    refine xn ?_
    refine blk ?_
    refine loop_ind (fun k1 a w => ∃ (x5 : Int) , St e s0 w [pt g2 33 ([(.int .i64 x2.Tx), (.int .i64 x2.Res), (.int .i64 x2.Mode)]), pt g1 26 ([v1, v2]), Ow kTGrant 33 v1 x1, Ow kTGrant 33 v2 x4] ∧ Fr 63 a [(0, (.pointer (some ⟨g1, 0, none⟩))), (2, (.int .i64 x3)), (4, (.pointer (some ⟨g2, 0, none⟩))), (6, (.int .i64 x5))] ∧ spec_l9Give.l1 x1 x2 x3 x4 k1 x5 = some x8) k ?_ ?_ ?_
    · skip
      exact ⟨0, hS, hF.cut ⟨rfl, rfl, rfl, rfl, trivial⟩, H⟩
    · clear H hS hF
      rintro a w ⟨x5, hS, hF, H⟩
      exact absurd (show none = some _ from H) (by simp)
    · clear H hS hF
      rintro k1 a w ⟨x5, hS, hF, H⟩
      rw [spec_l9Give.l1.eq_2] at H
      refine sq ?_
      refine sq ?_
      refine rg ?_
      refine stp hF (p_move rfl) (by decide) (fun a hF => ?_)
      refine stp hF (p_move rfl) (by decide) (fun a hF => ?_)
      refine stp hF (p_nilck rfl) (by decide) (fun a hF => ?_)
      refine stp hF (p_fldb (o' := 0) rfl fi_26_0 rfl) (by decide) (fun a hF => ?_)
      refine stp hF (p_ldb_one (i := 1) hS rfl rfl ia_24 rfl) (by decide) (fun a hF => ?_)
      refine stp hF (p_leno (i := 2) hS rfl un_24 rfl) (by decide) (fun a hF => ?_)
      refine stp hF (p_lss rfl rfl) (by decide) (fun a hF => ?_)
      refine nilN ?_
      refine xn ?_
      refine cnd hF rfl (fun hc1 => ?_) (fun hc1 => ?_)
      · replace H := hbt hc1 H
        refine skN ?_
        refine xn ?_
        refine sq ?_
        refine blk ?_
        obtain ⟨x7, H, HK2⟩ := hb H
        refine sqj (fun a w => ∃ (x6 : Bool) , St e s0 w [pt g2 33 ([(.int .i64 x2.Tx), (.int .i64 x2.Res), (.int .i64 x2.Mode)]), pt g1 26 ([v1, v2]), Ow kTGrant 33 v1 x1, Ow kTGrant 33 v2 x4] ∧ Fr 63 a [(0, (.pointer (some ⟨g1, 0, none⟩))), (2, (.int .i64 x3)), (4, (.pointer (some ⟨g2, 0, none⟩))), (6, (.int .i64 x5)), (39, (.bool x6))] ∧ spec_l9Give.c2 k1 (spec_l9Give.l1 x1 x2 x3 x4 k1) x5 x1 x3 x4 x6 = some x8) ?_ ?_
        · skip
          replace hS : St e s0 w.drew [pt g2 33 ([(.int .i64 x2.Tx), (.int .i64 x2.Res), (.int .i64 x2.Mode)]), pt g1 26 ([v1, v2]), Ow kTGrant 33 v1 x1, Ow kTGrant 33 v2 x4] := hS.drewN 1
          refine drw [0, 1, 2, 3, 4, 5, 6, 7, 8, 9, 10, 11, 12, 13, 14, 15, 16, 17, 18, 19, 20, 21, 22, 23] mixed (by kernel_rfl) (by decide) (hF.cut (L' := [(0, (.pointer (some ⟨g1, 0, none⟩))), (2, (.int .i64 x3)), (4, (.pointer (some ⟨g2, 0, none⟩))), (6, (.int .i64 x5)), (7, (.int .i64 x5)), (8, (.pointer (some ⟨g1, 0, none⟩))), (9, (.pointer (some ⟨g1, 0, none⟩))), (10, (.pointer (some ⟨g1, 0, none⟩))), (11, v1), (12, (.int .i64 (x1.length : Int))), (13, (.bool (decide (x5 < (x1.length : Int)))))]) ⟨rfl, rfl, rfl, rfl, rfl, rfl, rfl, rfl, rfl, rfl, rfl, trivial⟩) ?_
          clear hF
          generalize w.drew = w at hS ⊢
          refine pk1 rfl (by decide) rfl (by kernel_rfl) rfl (p_move rfl) ?_
          refine pk1 rfl (by decide) rfl (by kernel_rfl) rfl (p_nilck rfl) ?_
          refine pk1 rfl (by decide) rfl (by kernel_rfl) rfl (p_fldb (o' := 0) rfl fi_26_0 rfl) ?_
          refine pk1 rfl (by decide) rfl (by kernel_rfl) rfl (p_ldb_one (i := 1) hS rfl rfl ia_24 rfl) ?_
          refine pk1 rfl (by decide) rfl (by kernel_rfl) rfl (p_move rfl) ?_
          obtain ⟨hq1, H⟩ := hck H
          obtain ⟨b1, o1, q1, hv1, p1⟩ := p_idxo (n := 2) (i := x5) hS rfl un_24 ti_33 hq1.1 hq1.2
          refine pk1 rfl (by decide) rfl (by kernel_rfl) rfl (p1 rfl rfl) ?_
          refine pk1 rfl (by decide) rfl (by kernel_rfl) rfl (p_fldb (o' := (o1 + x5.toNat * kTGrant.sz)) rfl fi_33_0 rfl) ?_
          obtain ⟨u1, h1, p2⟩ := p_ldo_one (P := Try.prog) (n := 2) hS rfl hv1 kTGrant_Tx hq1.1 hq1.2 rfl ia_3 rfl
          obtain rfl : u1 = .int .i64 ((rd x1 x5).Tx) := by injection h1
          refine pk1 rfl (by decide) rfl (by kernel_rfl) rfl (p2 rfl) ?_
          refine pk1 rfl (by decide) rfl (by kernel_rfl) rfl (p_fldb (o' := 0) rfl fi_33_0 rfl) ?_
          refine pk1 rfl (by decide) rfl (by kernel_rfl) rfl (p_ldb_one (i := 0) hS rfl rfl ia_3 rfl) ?_
          refine pk1 rfl (by decide) rfl (by kernel_rfl) rfl (p_eql rfl rfl) ?_
          refine pk1 rfl (by decide) rfl (by kernel_rfl) rfl (p_move rfl) ?_
          rcases Bool.eq_false_or_eq_true (decide (((rd x1 x5).Tx) = x2.Tx)) with hc2 | hc2
          · replace H := hbt hc2 H
            refine pkOn (j := 11) rfl (by decide) rfl (by kernel_rfl) rfl rfl rfl hc2 (p_move rfl) ?_
            refine pkOn (j := 11) rfl (by decide) rfl (by kernel_rfl) rfl rfl rfl hc2 (p_nilck rfl) ?_
            refine pkOn (j := 11) rfl (by decide) rfl (by kernel_rfl) rfl rfl rfl hc2 (p_fldb (o' := 0) rfl fi_26_0 rfl) ?_
            refine pkOn (j := 11) rfl (by decide) rfl (by kernel_rfl) rfl rfl rfl hc2 (p_ldb_one (i := 1) hS rfl rfl ia_24 rfl) ?_
            refine pkOn (j := 11) rfl (by decide) rfl (by kernel_rfl) rfl rfl rfl hc2 (p_move rfl) ?_
            obtain ⟨hq2, H⟩ := hck H
            obtain ⟨b2, o2, q2, hv2, p3⟩ := p_idxo (n := 2) (i := x5) hS rfl un_24 ti_33 hq2.1 hq2.2
            refine pkOn (j := 11) rfl (by decide) rfl (by kernel_rfl) rfl rfl rfl hc2 (p3 rfl rfl) ?_
            refine pkOn (j := 11) rfl (by decide) rfl (by kernel_rfl) rfl rfl rfl hc2 (p_fldb (o' := ((o2 + x5.toNat * kTGrant.sz) + 1)) rfl fi_33_1 rfl) ?_
            obtain ⟨u2, h2, p4⟩ := p_ldo_one (P := Try.prog) (n := 2) hS rfl hv2 kTGrant_Res hq2.1 hq2.2 rfl ia_3 rfl
            obtain rfl : u2 = .int .i64 ((rd x1 x5).Res) := by injection h2
            refine pkOn (j := 11) rfl (by decide) rfl (by kernel_rfl) rfl rfl rfl hc2 (p4 rfl) ?_
            refine pkOn (j := 11) rfl (by decide) rfl (by kernel_rfl) rfl rfl rfl hc2 (p_fldb (o' := 1) rfl fi_33_1 rfl) ?_
            refine pkOn (j := 11) rfl (by decide) rfl (by kernel_rfl) rfl rfl rfl hc2 (p_ldb_one (i := 0) hS rfl rfl ia_3 rfl) ?_
            refine pkOn (j := 11) rfl (by decide) rfl (by kernel_rfl) rfl rfl rfl hc2 (p_eql rfl rfl) ?_
            refine pk1 rfl (by decide) rfl (by kernel_rfl) rfl (p_pickT rfl hc2 rfl) ?_
            refine pkF (fun a hF => ?_)
            refine xn ?_
            obtain rfl := hsm H
            exact ⟨(decide (((rd x1 x5).Res) = x2.Res)), hS, hF.cut ⟨rfl, rfl, rfl, rfl, rfl, trivial⟩, HK2⟩
          · replace H := hbf hc2 H
            refine pkOff (j := 11) rfl (by decide) rfl (by kernel_rfl) rfl rfl rfl (by rw [hc2]; decide) ?_
            refine pkOff (j := 11) rfl (by decide) rfl (by kernel_rfl) rfl rfl rfl (by rw [hc2]; decide) ?_
            refine pkOff (j := 11) rfl (by decide) rfl (by kernel_rfl) rfl rfl rfl (by rw [hc2]; decide) ?_
            refine pkOff (j := 11) rfl (by decide) rfl (by kernel_rfl) rfl rfl rfl (by rw [hc2]; decide) ?_
            refine pkOff (j := 11) rfl (by decide) rfl (by kernel_rfl) rfl rfl rfl (by rw [hc2]; decide) ?_
            refine pkOff (j := 11) rfl (by decide) rfl (by kernel_rfl) rfl rfl rfl (by rw [hc2]; decide) ?_
            refine pkOff (j := 11) rfl (by decide) rfl (by kernel_rfl) rfl rfl rfl (by rw [hc2]; decide) ?_
            refine pkOff (j := 11) rfl (by decide) rfl (by kernel_rfl) rfl rfl rfl (by rw [hc2]; decide) ?_
            refine pkOff (j := 11) rfl (by decide) rfl (by kernel_rfl) rfl rfl rfl (by rw [hc2]; decide) ?_
            refine pkOff (j := 11) rfl (by decide) rfl (by kernel_rfl) rfl rfl rfl (by rw [hc2]; decide) ?_
            refine pkOff (j := 11) rfl (by decide) rfl (by kernel_rfl) rfl rfl rfl (by rw [hc2]; decide) ?_
            refine pk1 rfl (by decide) rfl (by kernel_rfl) rfl (p_pickF rfl hc2 rfl) ?_
            refine pkF (fun a hF => ?_)
            refine xn ?_
            obtain rfl := hsm H
            exact ⟨false, hS, hF.cut ⟨rfl, rfl, rfl, rfl, rfl, trivial⟩, HK2⟩
        · clear H HK2 hS hF
          rintro a w ⟨x6, hS, hF, H⟩
          unfold spec_l9Give.c2 at H
          refine cnd hF rfl (fun hc3 => ?_) (fun hc3 => ?_)
          · replace H := hbt hc3 H
            refine sq ?_
            refine rg ?_
            refine stp hF (p_move rfl) (by decide) (fun a hF => ?_)
            refine stp hF (p_nilck rfl) (by decide) (fun a hF => ?_)
            refine stp hF (p_fldb (o' := 0) rfl fi_26_0 rfl) (by decide) (fun a hF => ?_)
            refine stp hF (p_ldb_one (i := 1) hS rfl rfl ia_24 rfl) (by decide) (fun a hF => ?_)
            refine stp hF (p_move rfl) (by decide) (fun a hF => ?_)
            refine stp hF (p_move rfl) (by decide) (fun a hF => ?_)
            obtain ⟨hq3, H⟩ := hck H
            obtain ⟨b3, o3, q3, hv3, p5⟩ := p_idxo (n := 2) (i := x5) hS rfl un_24 ti_33 hq3.1 hq3.2
            refine stp hF (p5 rfl rfl) (by decide) (fun a hF => ?_)
            refine stp hF (p_fldb (o' := ((o3 + x5.toNat * kTGrant.sz) + 2)) rfl fi_33_2 rfl) (by decide) (fun a hF => ?_)
            refine ste0 hF (e_sto (n := 2) (c := x3) hS rfl hv3 kTGrant_Mode hq3.1 hq3.2 rfl rfl rfl ti_3 rfl rfl) (fun v w a hR hF => ?_)
            have hS : St e s0 w [Ow kTGrant 33 v1 (wr x1 x5 ({ (rd x1 x5) with Mode := x3 })), pt g2 33 ([(.int .i64 x2.Tx), (.int .i64 x2.Res), (.int .i64 x2.Mode)]), pt g1 26 ([v1, v2]), Ow kTGrant 33 v2 x4] := hR
            refine nilN ?_
            refine xn ?_
            refine rt ?_
            refine br (xr (xr (br (xr ?_))))
            obtain rfl := hsm H
            have H := hon1 HK1
            obtain rfl := hsm H
            replace hS := hS.sel (is := [2, 0, 1]) (A' := [pt g1 26 ([v1, v2]), Ow kTGrant 33 v1 (wr x1 x5 ({ (rd x1 x5) with Mode := x3 })), Ow kTGrant 33 v2 x4]) rfl
            exact ret0 (Or.inl rfl) hF rfl hS ⟨v1, v2, rfl, rfl⟩
          · replace H := hbf hc3 H
            refine skN ?_
            refine bn (xn ?_)
            refine rg ?_
            refine stp hF (p_move rfl) (by decide) (fun a hF => ?_)
            refine stp hF (p_add (c := w64 (x5 + 1)) rfl rfl rfl) (by decide) (fun a hF => ?_)
            refine stp hF (p_assign rfl) (by decide) (fun a hF => ?_)
            refine nilN ?_
            refine xn ?_
            exact ⟨(w64 (x5 + 1)), hS, hF.cut ⟨rfl, rfl, rfl, rfl, trivial⟩, H⟩
      · replace H := hbf hc1 H
        refine exi ?_
        refine xe (xe (hit (xn ?_)))
        obtain rfl := hsm H
        exact ⟨hS, hF.cut ⟨rfl, rfl, rfl, trivial⟩, HK1⟩
  · clear H HK1 hS hF
    rintro a w ⟨hS, hF, H⟩
    unfold spec_l9Give.c1 at H
    replace hS : St e s0 w.drew [pt g2 33 ([(.int .i64 x2.Tx), (.int .i64 x2.Res), (.int .i64 x2.Mode)]), pt g1 26 ([v1, v2]), Ow kTGrant 33 v1 x1, Ow kTGrant 33 v2 x4] := hS.drewN 1
    refine drw [0, 1, 2, 3, 4, 5, 6, 7, 8, 9, 10, 11, 12, 13, 14, 15] mixed (by kernel_rfl) (by decide) (hF.cut (L' := [(0, (.pointer (some ⟨g1, 0, none⟩))), (2, (.int .i64 x3)), (4, (.pointer (some ⟨g2, 0, none⟩)))]) ⟨rfl, rfl, rfl, trivial⟩) ?_
    clear hF
    generalize w.drew = w at hS ⊢
    refine pk1 rfl (by decide) rfl (by kernel_rfl) rfl (p_move rfl) ?_
    refine pk1 rfl (by decide) rfl (by kernel_rfl) rfl (p_move rfl) ?_
    refine pk1 rfl (by decide) rfl (by kernel_rfl) rfl (p_nilck rfl) ?_
    refine pk1 rfl (by decide) rfl (by kernel_rfl) rfl (p_fldb (o' := 0) rfl fi_26_0 rfl) ?_
    refine pk1 rfl (by decide) rfl (by kernel_rfl) rfl (p_ldb_one (i := 1) hS rfl rfl ia_24 rfl) ?_
    refine pk1 rfl (by decide) rfl (by kernel_rfl) rfl (p_fldb (o' := 0) rfl fi_33_0 rfl) ?_
    refine pk1 rfl (by decide) rfl (by kernel_rfl) rfl (p_ldb_one (i := 0) hS rfl rfl ia_3 rfl) ?_
    refine pk1 rfl (by decide) rfl (by kernel_rfl) rfl (p_fldb (o' := 1) rfl fi_33_1 rfl) ?_
    refine pk1 rfl (by decide) rfl (by kernel_rfl) rfl (p_ldb_one (i := 0) hS rfl rfl ia_3 rfl) ?_
    refine pk1 rfl (by decide) rfl (by kernel_rfl) rfl (p_move rfl) ?_
    refine pk1 rfl (by decide) rfl (by kernel_rfl) rfl (p_build (ps := [(0, (.tmp 54)), (1, (.tmp 56)), (2, (.tmp 57))]) (vs := [(0, (.int .i64 x2.Tx)), (1, (.int .i64 x2.Res)), (2, (.int .i64 x3))]) (v := (.agg #[(.int .i64 x2.Tx), (.int .i64 x2.Res), (.int .i64 x3)])) rfl (by intro w; kernel_rfl)) ?_
    refine pkE [9, 8, 7, 6, 5, 4, 3, 2, 1, 0] rfl (by decide) (by kernel_rfl) (by kernel_rfl) (e_bslice (kd := kTGrant) (et := 33) (ps := [(0, (.tmp 58))]) (vs := [(0, (.agg #[(.int .i64 x2.Tx), (.int .i64 x2.Res), (.int .i64 x3)]))]) (cs := [(.int .i64 x2.Tx), (.int .i64 x2.Res), (.int .i64 x3)]) (xs := ([(⟨x2.Tx, x2.Res, x3⟩ : TGrant)] : List TGrant)) hS rfl (by intro w; kernel_rfl) rfl (by decide) (Nat.le_of_ble_eq_true rfl) (by exact (rows_cons (kd := kTGrant) (x := (⟨x2.Tx, x2.Res, x3⟩ : TGrant)) (c := [(.int .i64 x2.Tx), (.int .i64 x2.Res), (.int .i64 x3)]) (cs := []) (kTGrant_mk (x := (⟨x2.Tx, x2.Res, x3⟩ : TGrant)) ) (Rows.nil _ _ _ _)))) ?_
    intro v3 w hR
    have hS : St e s0 w [Ow kTGrant 33 v3 ([(⟨x2.Tx, x2.Res, x3⟩ : TGrant)] : List TGrant), pt g2 33 ([(.int .i64 x2.Tx), (.int .i64 x2.Res), (.int .i64 x2.Mode)]), pt g1 26 ([v1, v2]), Ow kTGrant 33 v1 x1, Ow kTGrant 33 v2 x4] := hR
    refine ⟨⟨knw rfl rfl rfl (p_move rfl), ⟨knw rfl rfl rfl (p_ldb_one (i := 1) hS rfl rfl ia_3 rfl), ⟨knw rfl rfl rfl (p_fldb (o' := 1) rfl fi_33_1 rfl), ⟨knw rfl rfl rfl (p_ldb_one (i := 1) hS rfl rfl ia_3 rfl), ⟨knw rfl rfl rfl (p_fldb (o' := 0) rfl fi_33_0 rfl), ⟨knw rfl rfl rfl (p_ldb_one (i := 2) hS rfl rfl ia_24 rfl), ⟨knw rfl rfl rfl (p_fldb (o' := 0) rfl fi_26_0 rfl), ⟨knw rfl rfl rfl (p_nilck rfl), ⟨knw rfl rfl rfl (p_move rfl), ⟨knw rfl rfl rfl (p_move rfl), trivial⟩⟩⟩⟩⟩⟩⟩⟩⟩⟩, ?_⟩
    obtain ⟨hq4, H⟩ := hck H
    refine pkE [9, 8, 7, 6, 5, 3, 2, 1, 0] rfl (by decide) (by kernel_rfl) (by kernel_rfl) (e_append (n := 3) hS rfl rfl rfl (hS.src (n := 0) rfl) un_24 ti_33 rfl (by decide) (by decide) (Nat.le_trans (Nat.mul_le_mul_right 24 hq4) (by decide))) ?_
    intro v4 w hR
    have hS : St e s0 w [Ow kTGrant 33 v4 (x1 ++ ([(⟨x2.Tx, x2.Res, x3⟩ : TGrant)] : List TGrant)), Ow kTGrant 33 v3 ([(⟨x2.Tx, x2.Res, x3⟩ : TGrant)] : List TGrant), pt g2 33 ([(.int .i64 x2.Tx), (.int .i64 x2.Res), (.int .i64 x2.Mode)]), pt g1 26 ([v1, v2]), Ow kTGrant 33 v2 x4] := hR
    replace hS := hS.sel (is := [0, 1, 1, 1]) (A' := [Ow kTGrant 33 v4 (x1 ++ ([(⟨x2.Tx, x2.Res, x3⟩ : TGrant)] : List TGrant)), pt g2 33 ([(.int .i64 x2.Tx), (.int .i64 x2.Res), (.int .i64 x2.Mode)]), pt g1 26 ([v1, v2]), Ow kTGrant 33 v2 x4]) rfl
    refine ⟨⟨knw rfl rfl rfl (p_move rfl), ⟨knw rfl rfl rfl (p_ldb_one (i := 1) hS rfl rfl ia_3 rfl), ⟨knw rfl rfl rfl (p_fldb (o' := 1) rfl fi_33_1 rfl), ⟨knw rfl rfl rfl (p_ldb_one (i := 1) hS rfl rfl ia_3 rfl), ⟨knw rfl rfl rfl (p_fldb (o' := 0) rfl fi_33_0 rfl), ⟨knw rfl rfl rfl (p_fldb (o' := 0) rfl fi_26_0 rfl), ⟨knw rfl rfl rfl (p_nilck rfl), ⟨knw rfl rfl rfl (p_move rfl), ⟨knw rfl rfl rfl (p_move rfl), trivial⟩⟩⟩⟩⟩⟩⟩⟩⟩, ?_⟩
    refine pk1 rfl (by decide) rfl (by kernel_rfl) rfl (p_nilck rfl) ?_
    refine pk1 rfl (by decide) rfl (by kernel_rfl) rfl (p_fldb (o' := 0) rfl fi_26_0 rfl) ?_
    refine pkE0 [13] rfl (by kernel_rfl) (by kernel_rfl) (e_stb (i := 2) (l := []) (m := [v1]) (r := [v2]) (m' := [v4]) (cs' := [v4, v2]) hS rfl rfl rfl ti_24 rfl rfl rfl (cells_one (hS.one_ow (i := 0) rfl)) rfl (one_cons (hS.one_ow (i := 0) rfl) one_nil) rfl) ?_
    intro v w hR
    have hS : St e s0 w [pt g1 26 ([v4, v2]), Ow kTGrant 33 v4 (x1 ++ ([(⟨x2.Tx, x2.Res, x3⟩ : TGrant)] : List TGrant)), pt g2 33 ([(.int .i64 x2.Tx), (.int .i64 x2.Res), (.int .i64 x2.Mode)]), Ow kTGrant 33 v2 x4] := hR
    refine ⟨⟨knw rfl rfl rfl (p_nilck rfl), trivial⟩, ?_⟩
    refine pkF (fun a hF => ?_)
    obtain rfl := hsm H
    replace hS := hS.sel (is := [0, 0, 1]) (A' := [pt g1 26 ([v4, v2]), Ow kTGrant 33 v4 (x1 ++ ([(⟨x2.Tx, x2.Res, x3⟩ : TGrant)] : List TGrant)), Ow kTGrant 33 v2 x4]) rfl
    exact ret0 (Or.inr rfl) hF rfl hS ⟨v4, v2, rfl, rfl⟩

def spec_l9Drop.c1 (k : Nat) (x1 : (List Int)) (x2 : (List TGrant)) (x3 : (List TGrant)) : Option ((List Int) × (List TGrant) × (List TGrant)) :=
  (some (x1, x2, x3))
def spec_l9Drop.c2 (k : Nat) (rec_l1 : (List Int) → (List TGrant) → (List TGrant) → Int → Option ((List Int) × (List TGrant) × (List TGrant))) (x4 : Int) (x5 : (List Int)) (x6 : (List TGrant)) (x7 : (List TGrant)) : Option ((List Int) × (List TGrant) × (List TGrant)) :=
  (rec_l1 x5 x6 x7 (w64 (x4 + 1)))
def spec_l9Drop.c3 (k : Nat) (x8 : (List TGrant)) (x9 : (List TGrant)) (x10 : (List TGrant)) (x4 : Int) (x11 : Int) (x12 : (List Int)) (x13 : Bool) : Option ((List Int) × (List TGrant) × (List TGrant)) :=
  (if x13 = true then ((spec_l9Give.f k x8 x9 (rd x10 x4) x11).bind fun x14 => (if x12.length + 1 ≤ 17592186044416 then (some ((x12 ++ ([(rd x10 x4).Tx] : List Int)), x14.1, x14.2)) else none)) else (if x9.length + 1 ≤ 5864062014805 then (some (x12, x8, (x9 ++ ([(rd x10 x4)] : List TGrant)))) else none))
def spec_l9Drop.l1 (x10 : (List TGrant)) : Nat → (List Int) → (List TGrant) → (List TGrant) → Int → Option ((List Int) × (List TGrant) × (List TGrant))
  | 0, _, _, _, _ => none
  | k + 1, x12, x8, x9, x4 => (if (decide (x4 < (x10.length : Int))) = true then (((if 0 ≤ x4 ∧ x4 < (x10.length : Int) then ((spec_l9Would.f k (⟨x8, x9⟩ : TLocks) (rd x10 x4)).bind fun x11 => ((((spec_l9Fits.f k (⟨x8, x9⟩ : TLocks) (rd x10 x4) x11).bind fun x15 => (if x15 = true then ((spec_l9ForRes.f k x9 ((rd x10 x4).Res)).bind fun x16 => (some (!x16))) else (some false))) : Option Bool).bind fun x17 => spec_l9Drop.c3 k x8 x9 x10 x4 x11 x12 x17)) else none) : Option ((List Int) × (List TGrant) × (List TGrant))).bind fun x18 => spec_l9Drop.c2 k (spec_l9Drop.l1 x10 k) x4 x18.1 x18.2.1 x18.2.2) else (some (x12, x8, x9)))
def spec_l9Drop.f (k : Nat) (x19 : (List TGrant)) (x20 : (List TGrant)) (x21 : Int) : Option ((List Int) × (List TGrant) × (List TGrant)) :=
  ((spec_l9Without.f k x19 x21).bind fun x22 => ((spec_l9Without.f k x20 x21).bind fun x10 => (((spec_l9Drop.l1 x10 k ([] : List Int) x22 ([] : List TGrant) 0) : Option ((List Int) × (List TGrant) × (List TGrant))).bind fun x23 => spec_l9Drop.c1 k x23.1 x23.2.1 x23.2.2)))
set_option maxRecDepth 100000 in
set_option maxHeartbeats 4000000 in
theorem spec_l9Drop.spec (k : Nat) (s0 : HF) (w : World) (x19 : (List TGrant)) (x20 : (List TGrant)) (x21 : Int) (v1 : Value) (v2 : Value) (g1 : Nat) (r : (List Int) × (List TGrant) × (List TGrant)) (H : spec_l9Drop.f k x19 x20 x21 = some r) :
    Law Try.prog 49 #[(.pointer (some ⟨g1, 0, none⟩)), (.int .i64 x21)] s0 w [pt g1 26 ([v1, v2]), Ow kTGrant 33 v1 x19, Ow kTGrant 33 v2 x20] (fun v s1 A1 => ∃ (u0 : Value) (u1 : Value) (u2 : Value), v = u2 ∧ A1 = [pt g1 26 ([u0, u1]), Ow kTGrant 33 u0 r.2.1, Ow kTGrant 33 u1 r.2.2, Ow (Kd.int .i64) 3 u2 r.1]) := by
  unfold spec_l9Drop.f at H
  refine Law.intro Try.func49 rfl [(0, (.pointer (some ⟨g1, 0, none⟩))), (1, (.int .i64 x21))] (Nat.le_of_ble_eq_true rfl) (enter_lk ⟨rfl, rfl, trivial⟩) (fun e a hS hF => ?_)
  have hF : Fr 81 a [(0, (.pointer (some ⟨g1, 0, none⟩))), (1, (.int .i64 x21))] := hF
  refine sq ?_
  refine rg ?_
  refine stp hF (p_assign rfl) (by decide) (fun a hF => ?_)
  refine nilN ?_
  refine xn ?_
  refine sq ?_
  refine rg ?_
  refine stp hF (p_move rfl) (by decide) (fun a hF => ?_)
  refine stp hF (p_move rfl) (by decide) (fun a hF => ?_)
  refine stp hF (p_nilck rfl) (by decide) (fun a hF => ?_)
  refine stp hF (p_fldb (o' := 0) rfl fi_26_0 rfl) (by decide) (fun a hF => ?_)
  refine stp hF (p_ldb_one (i := 0) hS rfl rfl ia_24 rfl) (by decide) (fun a hF => ?_)
  refine stp hF (p_move rfl) (by decide) (fun a hF => ?_)
  replace hS := hS.sel (is := [1, 0, 0]) (A' := [Ow kTGrant 33 v1 x19, pt g1 26 ([v1, v2]), Ow kTGrant 33 v2 x20]) rfl
  obtain ⟨s2, hg1, hl1, hcall1⟩ := St.lend (P := Try.prog) (Bs := [Ow kTGrant 33 v1 x19]) (A := []) (B := [pt g1 26 ([v1, v2]), Ow kTGrant 33 v2 x20]) hS
  obtain ⟨h1, hl1⟩ := hl1.ow hg1
  obtain ⟨x22, hx1, H⟩ := hb H
  refine ste hF (e_call (fst := []) (vs := [v1, (.int .i64 x21)]) (cap := []) rfl rfl go_75 (hcall1 (spec_l9Without.spec k _ _ x19 x21 v1 h1 _ hx1) (by rintro v s1 A1 ⟨_, rfl, rfl⟩; exact ⟨Ow_flat kTGrant_flat _ _ _, trivial⟩))) (by decide) (fun v w a hR hF => ?_)
  obtain ⟨s3, s4, A2, hg2, hS, hR⟩ := hR
  obtain ⟨v3, hv1, rfl⟩ := hR; obtain rfl := hv1.symm
  have hS : St e s3 w [Ow kTGrant 33 v1 x19, Ow kTGrant 33 v3 x22, pt g1 26 ([v1, v2]), Ow kTGrant 33 v2 x20] := hS
  refine stp hF (p_nilck rfl) (by decide) (fun a hF => ?_)
  refine stp hF (p_fldb (o' := 0) rfl fi_26_0 rfl) (by decide) (fun a hF => ?_)
  refine ste0 hF (e_stb (i := 2) (l := []) (m := [v1]) (r := [v2]) (m' := [v3]) (cs' := [v3, v2]) hS rfl rfl rfl ti_24 rfl rfl rfl (cells_one (hS.one_ow (i := 1) rfl)) rfl (one_cons (hS.one_ow (i := 1) rfl) one_nil) rfl) (fun v w a hR hF => ?_)
  have hS : St e s3 w [pt g1 26 ([v3, v2]), Ow kTGrant 33 v1 x19, Ow kTGrant 33 v3 x22, Ow kTGrant 33 v2 x20] := hR
  refine nilN ?_
  refine xn ?_
  refine sq ?_
  refine rg ?_
  refine stp hF (p_move rfl) (by decide) (fun a hF => ?_)
  refine stp hF (p_nilck rfl) (by decide) (fun a hF => ?_)
  refine stp hF (p_fldb (o' := 1) rfl fi_26_1 rfl) (by decide) (fun a hF => ?_)
  refine stp hF (p_ldb_one (i := 0) hS rfl rfl ia_24 rfl) (by decide) (fun a hF => ?_)
  refine stp hF (p_move rfl) (by decide) (fun a hF => ?_)
  replace hS := hS.sel (is := [3, 0, 0, 0]) (A' := [Ow kTGrant 33 v2 x20, pt g1 26 ([v3, v2]), Ow kTGrant 33 v1 x19, Ow kTGrant 33 v3 x22]) rfl
  obtain ⟨s5, hg3, hl2, hcall2⟩ := St.lend (P := Try.prog) (Bs := [Ow kTGrant 33 v2 x20]) (A := []) (B := [pt g1 26 ([v3, v2]), Ow kTGrant 33 v1 x19, Ow kTGrant 33 v3 x22]) hS
  obtain ⟨h2, hl2⟩ := hl2.ow hg3
  obtain ⟨x10, hx2, H⟩ := hb H
  refine ste hF (e_call (fst := []) (vs := [v2, (.int .i64 x21)]) (cap := []) rfl rfl go_75 (hcall2 (spec_l9Without.spec k _ _ x20 x21 v2 h2 _ hx2) (by rintro v s1 A1 ⟨_, rfl, rfl⟩; exact ⟨Ow_flat kTGrant_flat _ _ _, trivial⟩))) (by decide) (fun v w a hR hF => ?_)
  obtain ⟨s6, s7, A3, hg4, hS, hR⟩ := hR
  obtain ⟨v4, hv2, rfl⟩ := hR; obtain rfl := hv2.symm
  have hS : St e s6 w [Ow kTGrant 33 v2 x20, Ow kTGrant 33 v4 x10, pt g1 26 ([v3, v2]), Ow kTGrant 33 v1 x19, Ow kTGrant 33 v3 x22] := hS
  refine stp hF (p_assign rfl) (by decide) (fun a hF => ?_)
  refine nilN ?_
  refine xn ?_
  refine sq ?_
  refine rg ?_
  refine stp hF (p_move rfl) (by decide) (fun a hF => ?_)
  refine ste hF (e_bslice (kd := kTGrant) (et := 33) (ps := []) (vs := []) (cs := []) (xs := ([] : List TGrant)) hS rfl (by intro w; kernel_rfl) rfl (by decide) (Nat.le_of_ble_eq_true rfl) (by exact (Rows.nil _ _ _ _))) (by decide) (fun v5 w a hR hF => ?_)
  have hS : St e s6 w [Ow kTGrant 33 v5 ([] : List TGrant), Ow kTGrant 33 v2 x20, Ow kTGrant 33 v4 x10, pt g1 26 ([v3, v2]), Ow kTGrant 33 v1 x19, Ow kTGrant 33 v3 x22] := hR
  refine stp hF (p_nilck rfl) (by decide) (fun a hF => ?_)
  refine stp hF (p_fldb (o' := 1) rfl fi_26_1 rfl) (by decide) (fun a hF => ?_)
  refine ste0 hF (e_stb (i := 3) (l := [v3]) (m := [v2]) (r := []) (m' := [v5]) (cs' := [v3, v5]) hS rfl rfl rfl ti_24 rfl rfl rfl (cells_one (hS.one_ow (i := 0) rfl)) rfl (one_cons (hS.one_ow (i := 0) rfl) one_nil) rfl) (fun v w a hR hF => ?_)
  have hS : St e s6 w [pt g1 26 ([v3, v5]), Ow kTGrant 33 v5 ([] : List TGrant), Ow kTGrant 33 v2 x20, Ow kTGrant 33 v4 x10, Ow kTGrant 33 v1 x19, Ow kTGrant 33 v3 x22] := hR
  refine nilN ?_
  refine xn ?_
  refine sq ?_
  refine rg ?_
  refine ste hF (e_bslice (kd := (Kd.int .i64)) (et := 3) (ps := []) (vs := []) (cs := []) (xs := ([] : List Int)) hS rfl (by intro w; kernel_rfl) rfl (by decide) (Nat.le_of_ble_eq_true rfl) (by exact (Rows.nil _ _ _ _))) (by decide) (fun v6 w a hR hF => ?_)
  have hS : St e s6 w [Ow (Kd.int .i64) 3 v6 ([] : List Int), pt g1 26 ([v3, v5]), Ow kTGrant 33 v5 ([] : List TGrant), Ow kTGrant 33 v2 x20, Ow kTGrant 33 v4 x10, Ow kTGrant 33 v1 x19, Ow kTGrant 33 v3 x22] := hR
  refine stp hF (p_assign rfl) (by decide) (fun a hF => ?_)
  refine nilN ?_
  refine xn ?_
  obtain ⟨x23, H, HK1⟩ := hb H
  refine sqj (fun a w => ∃ (x1 : (List Int)) (x2 : (List TGrant)) (x3 : (List TGrant)) (s8 : HF) (v7 : Value) (v8 : Value) (v9 : Value) , St e s8 w [Ow (Kd.int .i64) 3 v7 x1, pt g1 26 ([v8, v9]), Ow kTGrant 33 v8 x2, Ow kTGrant 33 v9 x3, Ow kTGrant 33 v2 x20, Ow kTGrant 33 v4 x10, Ow kTGrant 33 v1 x19] ∧ Fr 81 a [(6, v7)] ∧ Sub s6 s8 ∧ spec_l9Drop.c1 k x1 x2 x3 = some r) ?_ ?_
  · skip
    refine sq ?_
    refine rg ?_
    refine stp hF (p_assign rfl) (by decide) (fun a hF => ?_)
    refine nilN ?_
    refine xn ?_
    refine blk ?_
    refine loop_ind (fun k1 a w => ∃ (x12 : (List Int)) (x8 : (List TGrant)) (x9 : (List TGrant)) (x4 : Int) (s9 : HF) (v10 : Value) (v11 : Value) (v12 : Value) , St e s9 w [Ow (Kd.int .i64) 3 v10 x12, pt g1 26 ([v11, v12]), Ow kTGrant 33 v11 x8, Ow kTGrant 33 v12 x9, Ow kTGrant 33 v2 x20, Ow kTGrant 33 v4 x10, Ow kTGrant 33 v1 x19] ∧ Fr 81 a [(0, (.pointer (some ⟨g1, 0, none⟩))), (5, v4), (6, v10), (7, (.int .i64 x4))] ∧ Sub s6 s9 ∧ spec_l9Drop.l1 x10 k1 x12 x8 x9 x4 = some x23) k ?_ ?_ ?_
    · skip
      replace hS := hS.sel (is := [0, 0, 4, 0, 0, 0, 0]) (A' := [Ow (Kd.int .i64) 3 v6 ([] : List Int), pt g1 26 ([v3, v5]), Ow kTGrant 33 v3 x22, Ow kTGrant 33 v5 ([] : List TGrant), Ow kTGrant 33 v2 x20, Ow kTGrant 33 v4 x10, Ow kTGrant 33 v1 x19]) rfl
      exact ⟨([] : List Int), x22, ([] : List TGrant), 0, s6, v6, v3, v5, hS, hF.cut ⟨rfl, rfl, rfl, rfl, trivial⟩, (Sub.refl _), H⟩
    · clear H hS hF
      rintro a w ⟨x12, x8, x9, x4, s9, v10, v11, v12, hS, hF, hg5, H⟩
      exact absurd (show none = some _ from H) (by simp)
    · clear H hS hF
      rintro k1 a w ⟨x12, x8, x9, x4, s9, v10, v11, v12, hS, hF, hg5, H⟩
      rw [spec_l9Drop.l1.eq_2] at H
      refine sq ?_
      refine sq ?_
      refine rg ?_
      refine stp hF (p_move rfl) (by decide) (fun a hF => ?_)
      refine stp hF (p_move rfl) (by decide) (fun a hF => ?_)
      refine stp hF (p_leno (i := 5) hS rfl un_24 rfl) (by decide) (fun a hF => ?_)
      refine stp hF (p_lss rfl rfl) (by decide) (fun a hF => ?_)
      refine nilN ?_
      refine xn ?_
      refine cnd hF rfl (fun hc1 => ?_) (fun hc1 => ?_)
      · replace H := hbt hc1 H
        refine skN ?_
        refine xn ?_
        obtain ⟨x18, H, HK2⟩ := hb H
        refine sqj (fun a w => ∃ (x5 : (List Int)) (x6 : (List TGrant)) (x7 : (List TGrant)) (s10 : HF) (v13 : Value) (v14 : Value) (v15 : Value) , St e s10 w [Ow (Kd.int .i64) 3 v13 x5, pt g1 26 ([v14, v15]), Ow kTGrant 33 v14 x6, Ow kTGrant 33 v15 x7, Ow kTGrant 33 v2 x20, Ow kTGrant 33 v4 x10, Ow kTGrant 33 v1 x19] ∧ Fr 81 a [(0, (.pointer (some ⟨g1, 0, none⟩))), (5, v4), (6, v13), (7, (.int .i64 x4))] ∧ Sub s9 s10 ∧ spec_l9Drop.c2 k1 (spec_l9Drop.l1 x10 k1) x4 x5 x6 x7 = some x23) ?_ ?_
        · skip
          refine blk ?_
          refine sq ?_
          refine rg ?_
          refine stp hF (p_move rfl) (by decide) (fun a hF => ?_)
          refine stp hF (p_move rfl) (by decide) (fun a hF => ?_)
          obtain ⟨hq1, H⟩ := hck H
          obtain ⟨b1, o1, q1, hv3, p1⟩ := p_idxo (n := 5) (i := x4) hS rfl un_24 ti_33 hq1.1 hq1.2
          refine stp hF (p1 rfl rfl) (by decide) (fun a hF => ?_)
          obtain ⟨c4, h3, p2⟩ := p_ldo_agg (P := Try.prog) (n := 5) hS rfl hv3 (Lens.id _) hq1.1 hq1.2 rfl ia_33 ti_33
          obtain rfl := kTGrant_open h3
          refine stp hF (p2 rfl) (by decide) (fun a hF => ?_)
          refine ste hF (e_alloc (cs := [(.int .i64 0), (.int .i64 0), (.int .i64 0)]) hS ti_33 rfl) (by decide) (fun v w a hR hF => ?_)
          obtain ⟨g2, rfl, hS⟩ := hR
          refine ste0 hF (e_stb (i := 0) (l := []) (m := [(.int .i64 0), (.int .i64 0), (.int .i64 0)]) (r := []) (m' := [(.int .i64 ((rd x10 x4).Tx)), (.int .i64 ((rd x10 x4).Res)), (.int .i64 ((rd x10 x4).Mode))]) (cs' := [(.int .i64 ((rd x10 x4).Tx)), (.int .i64 ((rd x10 x4).Res)), (.int .i64 ((rd x10 x4).Mode))]) hS rfl rfl rfl ti_33 rfl rfl rfl rfl rfl (one_cons rfl (one_cons rfl (one_cons rfl one_nil))) rfl) (fun v w a hR hF => ?_)
          have hS : St e s9 w [pt g2 33 ([(.int .i64 ((rd x10 x4).Tx)), (.int .i64 ((rd x10 x4).Res)), (.int .i64 ((rd x10 x4).Mode))]), Ow (Kd.int .i64) 3 v10 x12, pt g1 26 ([v11, v12]), Ow kTGrant 33 v11 x8, Ow kTGrant 33 v12 x9, Ow kTGrant 33 v2 x20, Ow kTGrant 33 v4 x10, Ow kTGrant 33 v1 x19] := hR
          refine nilN ?_
          refine xn ?_
          refine sq ?_
          replace hS : St e s9 w.drew [pt g2 33 ([(.int .i64 ((rd x10 x4).Tx)), (.int .i64 ((rd x10 x4).Res)), (.int .i64 ((rd x10 x4).Mode))]), Ow (Kd.int .i64) 3 v10 x12, pt g1 26 ([v11, v12]), Ow kTGrant 33 v11 x8, Ow kTGrant 33 v12 x9, Ow kTGrant 33 v2 x20, Ow kTGrant 33 v4 x10, Ow kTGrant 33 v1 x19] := hS.drewN 1
          refine drw [0, 1, 2, 3, 4, 5] mixed (by kernel_rfl) (by decide) (hF.cut (L' := [(0, (.pointer (some ⟨g1, 0, none⟩))), (5, v4), (6, v10), (7, (.int .i64 x4)), (8, (.pointer (some ⟨g2, 0, none⟩))), (30, (.int .i64 x4)), (31, v4), (32, (.int .i64 (x10.length : Int))), (33, (.bool (decide (x4 < (x10.length : Int))))), (36, v4), (37, (.int .i64 x4)), (38, (.pointer (some ⟨b1, (o1 + x4.toNat * kTGrant.sz), none⟩))), (39, (.agg #[(.int .i64 ((rd x10 x4).Tx)), (.int .i64 ((rd x10 x4).Res)), (.int .i64 ((rd x10 x4).Mode))]))]) ⟨rfl, rfl, rfl, rfl, rfl, rfl, rfl, rfl, rfl, rfl, rfl, rfl, rfl, trivial⟩) ?_
          clear hF
          generalize w.drew = w at hS ⊢
          refine pk1 rfl (by decide) rfl (by kernel_rfl) rfl (p_move rfl) ?_
          refine pk1 rfl (by decide) rfl (by kernel_rfl) rfl (p_nilck rfl) ?_
          refine pk1 rfl (by decide) rfl (by kernel_rfl) rfl (p_ldb_agg (i := 2) (l := []) (m := [v11, v12]) (r := []) hS rfl rfl ia_26 ti_26 rfl rfl rfl) ?_
          refine pk1 rfl (by decide) rfl (by kernel_rfl) rfl (p_ldb_agg (i := 0) (l := []) (m := [(.int .i64 ((rd x10 x4).Tx)), (.int .i64 ((rd x10 x4).Res)), (.int .i64 ((rd x10 x4).Mode))]) (r := []) hS rfl rfl ia_33 ti_33 rfl rfl rfl) ?_
          replace hS := hS.sel (is := [3, 3, 0, 0, 0, 0, 0, 0]) (A' := [Ow kTGrant 33 v11 x8, Ow kTGrant 33 v12 x9, pt g2 33 ([(.int .i64 ((rd x10 x4).Tx)), (.int .i64 ((rd x10 x4).Res)), (.int .i64 ((rd x10 x4).Mode))]), Ow (Kd.int .i64) 3 v10 x12, pt g1 26 ([v11, v12]), Ow kTGrant 33 v2 x20, Ow kTGrant 33 v4 x10, Ow kTGrant 33 v1 x19]) rfl
          obtain ⟨s11, hg6, hl3, hcall3⟩ := St.lend (P := Try.prog) (Bs := [Ow kTGrant 33 v11 x8, Ow kTGrant 33 v12 x9]) (A := []) (B := [pt g2 33 ([(.int .i64 ((rd x10 x4).Tx)), (.int .i64 ((rd x10 x4).Res)), (.int .i64 ((rd x10 x4).Mode))]), Ow (Kd.int .i64) 3 v10 x12, pt g1 26 ([v11, v12]), Ow kTGrant 33 v2 x20, Ow kTGrant 33 v4 x10, Ow kTGrant 33 v1 x19]) hS
          obtain ⟨h4, hl3⟩ := hl3.ow hg6
          obtain ⟨h5, hl3⟩ := hl3.ow hg6
          obtain ⟨x11, hx3, H⟩ := hb H
          refine pkE [1, 0] rfl (by decide) (by kernel_rfl) (by kernel_rfl) (e_call (fst := []) (vs := [(.agg #[v11, v12]), (.agg #[(.int .i64 ((rd x10 x4).Tx)), (.int .i64 ((rd x10 x4).Res)), (.int .i64 ((rd x10 x4).Mode))])]) (cap := []) rfl rfl go_71 (hcall3 (spec_l9Would.spec k1 _ _ (⟨x8, x9⟩ : TLocks) (rd x10 x4) v11 v12 h4 h5 _ hx3) (by rintro v s1 A1 ⟨rfl, rfl⟩; exact trivial))) ?_
          intro v w hR
          obtain ⟨s12, s13, A4, hg7, hS, hR⟩ := hR
          obtain ⟨hv4, rfl⟩ := hR; obtain rfl := hv4.symm
          have hS : St e s12 w [Ow kTGrant 33 v11 x8, Ow kTGrant 33 v12 x9, pt g2 33 ([(.int .i64 ((rd x10 x4).Tx)), (.int .i64 ((rd x10 x4).Res)), (.int .i64 ((rd x10 x4).Mode))]), Ow (Kd.int .i64) 3 v10 x12, pt g1 26 ([v11, v12]), Ow kTGrant 33 v2 x20, Ow kTGrant 33 v4 x10, Ow kTGrant 33 v1 x19] := hS
          refine ⟨⟨knw rfl rfl rfl (p_nilck rfl), ⟨knw rfl rfl rfl (p_move rfl), trivial⟩⟩, ?_⟩
          refine pkE [] rfl (by decide) (by kernel_rfl) (by kernel_rfl) (puEf (p_assign rfl)) ?_
          rintro v w' ⟨rfl, rfl⟩
          refine ⟨trivial, ?_⟩
          refine pkF (fun a hF => ?_)
          refine xn ?_
          obtain ⟨x17, H, HK3⟩ := hb H
          refine sqj (fun a w => ∃ (x13 : Bool) (s14 : HF) , St e s14 w [Ow kTGrant 33 v11 x8, Ow kTGrant 33 v12 x9, pt g2 33 ([(.int .i64 ((rd x10 x4).Tx)), (.int .i64 ((rd x10 x4).Res)), (.int .i64 ((rd x10 x4).Mode))]), Ow (Kd.int .i64) 3 v10 x12, pt g1 26 ([v11, v12]), Ow kTGrant 33 v2 x20, Ow kTGrant 33 v4 x10, Ow kTGrant 33 v1 x19] ∧ Fr 81 a [(0, (.pointer (some ⟨g1, 0, none⟩))), (5, v4), (6, v10), (7, (.int .i64 x4)), (8, (.pointer (some ⟨g2, 0, none⟩))), (9, (.int .i64 x11)), (60, (.bool x13))] ∧ Sub s12 s14 ∧ spec_l9Drop.c3 k1 x8 x9 x10 x4 x11 x12 x13 = some x18) ?_ ?_
          · skip
            replace hS : St e s12 w.drew [Ow kTGrant 33 v11 x8, Ow kTGrant 33 v12 x9, pt g2 33 ([(.int .i64 ((rd x10 x4).Tx)), (.int .i64 ((rd x10 x4).Res)), (.int .i64 ((rd x10 x4).Mode))]), Ow (Kd.int .i64) 3 v10 x12, pt g1 26 ([v11, v12]), Ow kTGrant 33 v2 x20, Ow kTGrant 33 v4 x10, Ow kTGrant 33 v1 x19] := hS.drewN 1
            refine drw [0, 1, 2, 3, 4, 5, 6, 7, 8, 9, 10, 11, 12, 13, 14, 15] mixed (by kernel_rfl) (by decide) (hF.cut (L' := [(0, (.pointer (some ⟨g1, 0, none⟩))), (5, v4), (6, v10), (7, (.int .i64 x4)), (8, (.pointer (some ⟨g2, 0, none⟩))), (9, (.int .i64 x11)), (30, (.int .i64 x4)), (31, v4), (32, (.int .i64 (x10.length : Int))), (33, (.bool (decide (x4 < (x10.length : Int))))), (36, v4), (37, (.int .i64 x4)), (38, (.pointer (some ⟨b1, (o1 + x4.toNat * kTGrant.sz), none⟩))), (39, (.agg #[(.int .i64 ((rd x10 x4).Tx)), (.int .i64 ((rd x10 x4).Res)), (.int .i64 ((rd x10 x4).Mode))])), (40, (.pointer (some ⟨g1, 0, none⟩))), (41, (.pointer (some ⟨g1, 0, none⟩))), (42, (.agg #[v11, v12])), (43, (.agg #[(.int .i64 ((rd x10 x4).Tx)), (.int .i64 ((rd x10 x4).Res)), (.int .i64 ((rd x10 x4).Mode))])), (44, (.int .i64 x11))]) ⟨rfl, rfl, rfl, rfl, rfl, rfl, rfl, rfl, rfl, rfl, rfl, rfl, rfl, rfl, rfl, rfl, rfl, rfl, rfl, trivial⟩) ?_
            clear hF
            generalize w.drew = w at hS ⊢
            refine pk1 rfl (by decide) rfl (by kernel_rfl) rfl (p_move rfl) ?_
            refine pk1 rfl (by decide) rfl (by kernel_rfl) rfl (p_nilck rfl) ?_
            refine pk1 rfl (by decide) rfl (by kernel_rfl) rfl (p_ldb_agg (i := 4) (l := []) (m := [v11, v12]) (r := []) hS rfl rfl ia_26 ti_26 rfl rfl rfl) ?_
            refine pk1 rfl (by decide) rfl (by kernel_rfl) rfl (p_ldb_agg (i := 2) (l := []) (m := [(.int .i64 ((rd x10 x4).Tx)), (.int .i64 ((rd x10 x4).Res)), (.int .i64 ((rd x10 x4).Mode))]) (r := []) hS rfl rfl ia_33 ti_33 rfl rfl rfl) ?_
            refine pk1 rfl (by decide) rfl (by kernel_rfl) rfl (p_move rfl) ?_
            obtain ⟨s15, hg8, hl4, hcall4⟩ := St.lend (P := Try.prog) (Bs := [Ow kTGrant 33 v11 x8, Ow kTGrant 33 v12 x9]) (A := []) (B := [pt g2 33 ([(.int .i64 ((rd x10 x4).Tx)), (.int .i64 ((rd x10 x4).Res)), (.int .i64 ((rd x10 x4).Mode))]), Ow (Kd.int .i64) 3 v10 x12, pt g1 26 ([v11, v12]), Ow kTGrant 33 v2 x20, Ow kTGrant 33 v4 x10, Ow kTGrant 33 v1 x19]) hS
            obtain ⟨h6, hl4⟩ := hl4.ow hg8
            obtain ⟨h7, hl4⟩ := hl4.ow hg8
            obtain ⟨x15, hx4, H⟩ := hb H
            refine pkE [1, 0] rfl (by decide) (by kernel_rfl) (by kernel_rfl) (e_call (fst := []) (vs := [(.agg #[v11, v12]), (.agg #[(.int .i64 ((rd x10 x4).Tx)), (.int .i64 ((rd x10 x4).Res)), (.int .i64 ((rd x10 x4).Mode))]), (.int .i64 x11)]) (cap := []) rfl rfl go_72 (hcall4 (spec_l9Fits.spec k1 _ _ (⟨x8, x9⟩ : TLocks) (rd x10 x4) x11 v11 v12 h6 h7 _ hx4) (by rintro v s1 A1 ⟨rfl, rfl⟩; exact trivial))) ?_
            intro v w hR
            obtain ⟨s16, s17, A5, hg9, hS, hR⟩ := hR
            obtain ⟨hv5, rfl⟩ := hR; obtain rfl := hv5.symm
            have hS : St e s16 w [Ow kTGrant 33 v11 x8, Ow kTGrant 33 v12 x9, pt g2 33 ([(.int .i64 ((rd x10 x4).Tx)), (.int .i64 ((rd x10 x4).Res)), (.int .i64 ((rd x10 x4).Mode))]), Ow (Kd.int .i64) 3 v10 x12, pt g1 26 ([v11, v12]), Ow kTGrant 33 v2 x20, Ow kTGrant 33 v4 x10, Ow kTGrant 33 v1 x19] := hS
            refine ⟨⟨knw rfl rfl rfl (p_nilck rfl), ⟨knw rfl rfl rfl (p_move rfl), trivial⟩⟩, ?_⟩
            refine pk1 rfl (by decide) rfl (by kernel_rfl) rfl (p_move rfl) ?_
            rcases Bool.eq_false_or_eq_true (x15) with hc2 | hc2
            · replace H := hbt hc2 H
              refine pkOn (j := 6) rfl (by decide) rfl (by kernel_rfl) rfl rfl rfl hc2 (p_move rfl) ?_
              refine pkOn (j := 6) rfl (by decide) rfl (by kernel_rfl) rfl rfl rfl hc2 (p_nilck rfl) ?_
              refine pkOn (j := 6) rfl (by decide) rfl (by kernel_rfl) rfl rfl rfl hc2 (p_fldb (o' := 1) rfl fi_26_1 rfl) ?_
              refine pkOn (j := 6) rfl (by decide) rfl (by kernel_rfl) rfl rfl rfl hc2 (p_ldb_one (i := 4) hS rfl rfl ia_24 rfl) ?_
              refine pkOn (j := 6) rfl (by decide) rfl (by kernel_rfl) rfl rfl rfl hc2 (p_fldb (o' := 1) rfl fi_33_1 rfl) ?_
              refine pkOn (j := 6) rfl (by decide) rfl (by kernel_rfl) rfl rfl rfl hc2 (p_ldb_one (i := 2) hS rfl rfl ia_3 rfl) ?_
              replace hS := hS.sel (is := [1, 0, 0, 0, 0, 0, 0, 0]) (A' := [Ow kTGrant 33 v12 x9, Ow kTGrant 33 v11 x8, pt g2 33 ([(.int .i64 ((rd x10 x4).Tx)), (.int .i64 ((rd x10 x4).Res)), (.int .i64 ((rd x10 x4).Mode))]), Ow (Kd.int .i64) 3 v10 x12, pt g1 26 ([v11, v12]), Ow kTGrant 33 v2 x20, Ow kTGrant 33 v4 x10, Ow kTGrant 33 v1 x19]) rfl
              obtain ⟨s18, hg10, hl5, hcall5⟩ := St.lend (P := Try.prog) (Bs := [Ow kTGrant 33 v12 x9]) (A := []) (B := [Ow kTGrant 33 v11 x8, pt g2 33 ([(.int .i64 ((rd x10 x4).Tx)), (.int .i64 ((rd x10 x4).Res)), (.int .i64 ((rd x10 x4).Mode))]), Ow (Kd.int .i64) 3 v10 x12, pt g1 26 ([v11, v12]), Ow kTGrant 33 v2 x20, Ow kTGrant 33 v4 x10, Ow kTGrant 33 v1 x19]) hS
              obtain ⟨h8, hl5⟩ := hl5.ow hg10
              obtain ⟨x16, hx5, H⟩ := hb H
              refine pkEOn (j := 6) [11, 9, 8, 7, 1, 0] rfl rfl rfl hc2 (by decide) (by kernel_rfl) (by kernel_rfl) (e_call (fst := []) (vs := [v12, (.int .i64 ((rd x10 x4).Res))]) (cap := []) rfl rfl go_73 (hcall5 (spec_l9ForRes.spec k1 _ _ x9 ((rd x10 x4).Res) v12 h8 _ hx5) (by rintro v s1 A1 ⟨rfl, rfl⟩; exact trivial))) ?_
              intro v w hR
              obtain ⟨s19, s20, A6, hg11, hS, hR⟩ := hR
              obtain ⟨hv6, rfl⟩ := hR; obtain rfl := hv6.symm
              have hS : St e s19 w [Ow kTGrant 33 v12 x9, Ow kTGrant 33 v11 x8, pt g2 33 ([(.int .i64 ((rd x10 x4).Tx)), (.int .i64 ((rd x10 x4).Res)), (.int .i64 ((rd x10 x4).Mode))]), Ow (Kd.int .i64) 3 v10 x12, pt g1 26 ([v11, v12]), Ow kTGrant 33 v2 x20, Ow kTGrant 33 v4 x10, Ow kTGrant 33 v1 x19] := hS
              refine ⟨⟨knwOn (j := 6) rfl rfl rfl rfl rfl hc2 (p_fldb (o' := 1) rfl fi_33_1 rfl), ⟨knwOn (j := 6) rfl rfl rfl rfl rfl hc2 (p_fldb (o' := 1) rfl fi_26_1 rfl), ⟨knwOn (j := 6) rfl rfl rfl rfl rfl hc2 (p_nilck rfl), ⟨knwOn (j := 6) rfl rfl rfl rfl rfl hc2 (p_move rfl), ⟨knw rfl rfl rfl (p_nilck rfl), ⟨knw rfl rfl rfl (p_move rfl), trivial⟩⟩⟩⟩⟩⟩, ?_⟩
              refine pkOn (j := 6) rfl (by decide) rfl (by kernel_rfl) rfl rfl rfl hc2 (p_not rfl) ?_
              refine pk1 rfl (by decide) rfl (by kernel_rfl) rfl (p_pickT rfl hc2 rfl) ?_
              refine pkF (fun a hF => ?_)
              refine xn ?_
              obtain rfl := hsm H
              replace hS := hS.sel (is := [1, 0, 0, 0, 0, 0, 0, 0]) (A' := [Ow kTGrant 33 v11 x8, Ow kTGrant 33 v12 x9, pt g2 33 ([(.int .i64 ((rd x10 x4).Tx)), (.int .i64 ((rd x10 x4).Res)), (.int .i64 ((rd x10 x4).Mode))]), Ow (Kd.int .i64) 3 v10 x12, pt g1 26 ([v11, v12]), Ow kTGrant 33 v2 x20, Ow kTGrant 33 v4 x10, Ow kTGrant 33 v1 x19]) rfl
              exact ⟨(!x16), s19, hS, hF.cut ⟨rfl, rfl, rfl, rfl, rfl, rfl, rfl, trivial⟩, (hg9.trans hg11), HK3⟩
            · replace H := hbf hc2 H
              refine pkOff (j := 6) rfl (by decide) rfl (by kernel_rfl) rfl rfl rfl (by rw [hc2]; decide) ?_
              refine pkOff (j := 6) rfl (by decide) rfl (by kernel_rfl) rfl rfl rfl (by rw [hc2]; decide) ?_
              refine pkOff (j := 6) rfl (by decide) rfl (by kernel_rfl) rfl rfl rfl (by rw [hc2]; decide) ?_
              refine pkOff (j := 6) rfl (by decide) rfl (by kernel_rfl) rfl rfl rfl (by rw [hc2]; decide) ?_
              refine pkOff (j := 6) rfl (by decide) rfl (by kernel_rfl) rfl rfl rfl (by rw [hc2]; decide) ?_
              refine pkOff (j := 6) rfl (by decide) rfl (by kernel_rfl) rfl rfl rfl (by rw [hc2]; decide) ?_
              refine pkOff (j := 6) rfl (by decide) rfl (by kernel_rfl) rfl rfl rfl (by rw [hc2]; decide) ?_
              refine pkOff (j := 6) rfl (by decide) rfl (by kernel_rfl) rfl rfl rfl (by rw [hc2]; decide) ?_
              refine pk1 rfl (by decide) rfl (by kernel_rfl) rfl (p_pickF rfl hc2 rfl) ?_
              refine pkF (fun a hF => ?_)
              refine xn ?_
              obtain rfl := hsm H
              exact ⟨false, s16, hS, hF.cut ⟨rfl, rfl, rfl, rfl, rfl, rfl, rfl, trivial⟩, hg9, HK3⟩
          · clear H HK3 hS hF
            rintro a w ⟨x13, s14, hS, hF, hg12, H⟩
            unfold spec_l9Drop.c3 at H
            refine cnd hF rfl (fun hc3 => ?_) (fun hc3 => ?_)
            · replace H := hbt hc3 H
              refine sq ?_
              refine rg ?_
              refine stp hF (p_move rfl) (by decide) (fun a hF => ?_)
              refine stp hF (p_ldb_agg (i := 2) (l := []) (m := [(.int .i64 ((rd x10 x4).Tx)), (.int .i64 ((rd x10 x4).Res)), (.int .i64 ((rd x10 x4).Mode))]) (r := []) hS rfl rfl ia_33 ti_33 rfl rfl rfl) (by decide) (fun a hF => ?_)
              refine stp hF (p_move rfl) (by decide) (fun a hF => ?_)
              replace hS := hS.sel (is := [4, 0, 0, 0, 0, 0, 0, 0]) (A' := [pt g1 26 ([v11, v12]), Ow kTGrant 33 v11 x8, Ow kTGrant 33 v12 x9, pt g2 33 ([(.int .i64 ((rd x10 x4).Tx)), (.int .i64 ((rd x10 x4).Res)), (.int .i64 ((rd x10 x4).Mode))]), Ow (Kd.int .i64) 3 v10 x12, Ow kTGrant 33 v2 x20, Ow kTGrant 33 v4 x10, Ow kTGrant 33 v1 x19]) rfl
              obtain ⟨x14, hx6, H⟩ := hb H
              refine ste hF (e_call (fst := []) (vs := [(.pointer (some ⟨g1, 0, none⟩)), (.agg #[(.int .i64 ((rd x10 x4).Tx)), (.int .i64 ((rd x10 x4).Res)), (.int .i64 ((rd x10 x4).Mode))]), (.int .i64 x11)]) (cap := []) rfl rfl go_74 (St.call (A := [pt g1 26 ([v11, v12]), Ow kTGrant 33 v11 x8, Ow kTGrant 33 v12 x9]) (B := [pt g2 33 ([(.int .i64 ((rd x10 x4).Tx)), (.int .i64 ((rd x10 x4).Res)), (.int .i64 ((rd x10 x4).Mode))]), Ow (Kd.int .i64) 3 v10 x12, Ow kTGrant 33 v2 x20, Ow kTGrant 33 v4 x10, Ow kTGrant 33 v1 x19]) hS (spec_l9Give.spec k1 _ _ x8 x9 (rd x10 x4) x11 v11 v12 g1 _ hx6))) (by decide) (fun v w a hR hF => ?_)
              obtain ⟨s21, A7, hg13, hS, hR⟩ := hR
              obtain ⟨v16, v17, hv7, rfl⟩ := hR; obtain rfl := hv7.symm
              have hS : St e s21 w [pt g1 26 ([v16, v17]), Ow kTGrant 33 v16 x14.1, Ow kTGrant 33 v17 x14.2, pt g2 33 ([(.int .i64 ((rd x10 x4).Tx)), (.int .i64 ((rd x10 x4).Res)), (.int .i64 ((rd x10 x4).Mode))]), Ow (Kd.int .i64) 3 v10 x12, Ow kTGrant 33 v2 x20, Ow kTGrant 33 v4 x10, Ow kTGrant 33 v1 x19] := hS
              refine nilN ?_
              refine xn ?_
              refine rg ?_
              refine stp hF (p_move rfl) (by decide) (fun a hF => ?_)
              refine stp hF (p_fldb (o' := 0) rfl fi_33_0 rfl) (by decide) (fun a hF => ?_)
              refine stp hF (p_ldb_one (i := 3) hS rfl rfl ia_3 rfl) (by decide) (fun a hF => ?_)
              refine ste hF (e_bslice (kd := (Kd.int .i64)) (et := 3) (ps := [(0, (.tmp 67))]) (vs := [(0, (.int .i64 ((rd x10 x4).Tx)))]) (cs := [(.int .i64 ((rd x10 x4).Tx))]) (xs := ([(rd x10 x4).Tx] : List Int)) hS rfl (by intro w; kernel_rfl) rfl (by decide) (Nat.le_of_ble_eq_true rfl) (by exact (rows_cons (kd := (Kd.int .i64)) (x := (rd x10 x4).Tx) (c := [(.int .i64 ((rd x10 x4).Tx))]) (cs := []) rfl (Rows.nil _ _ _ _)))) (by decide) (fun v18 w a hR hF => ?_)
              have hS : St e s21 w [Ow (Kd.int .i64) 3 v18 ([(rd x10 x4).Tx] : List Int), pt g1 26 ([v16, v17]), Ow kTGrant 33 v16 x14.1, Ow kTGrant 33 v17 x14.2, pt g2 33 ([(.int .i64 ((rd x10 x4).Tx)), (.int .i64 ((rd x10 x4).Res)), (.int .i64 ((rd x10 x4).Mode))]), Ow (Kd.int .i64) 3 v10 x12, Ow kTGrant 33 v2 x20, Ow kTGrant 33 v4 x10, Ow kTGrant 33 v1 x19] := hR
              obtain ⟨hq2, H⟩ := hck H
              refine ste hF (e_append (n := 5) hS rfl rfl rfl (hS.src (n := 0) rfl) un_39 ti_3 rfl (by decide) (by decide) (Nat.le_trans (Nat.mul_le_mul_right 8 hq2) (by decide))) (by decide) (fun v19 w a hR hF => ?_)
              have hS : St e s21 w [Ow (Kd.int .i64) 3 v19 (x12 ++ ([(rd x10 x4).Tx] : List Int)), Ow (Kd.int .i64) 3 v18 ([(rd x10 x4).Tx] : List Int), pt g1 26 ([v16, v17]), Ow kTGrant 33 v16 x14.1, Ow kTGrant 33 v17 x14.2, pt g2 33 ([(.int .i64 ((rd x10 x4).Tx)), (.int .i64 ((rd x10 x4).Res)), (.int .i64 ((rd x10 x4).Mode))]), Ow kTGrant 33 v2 x20, Ow kTGrant 33 v4 x10, Ow kTGrant 33 v1 x19] := hR
              replace hS := hS.sel (is := [0, 1, 1, 1, 1, 1, 1, 1]) (A' := [Ow (Kd.int .i64) 3 v19 (x12 ++ ([(rd x10 x4).Tx] : List Int)), pt g1 26 ([v16, v17]), Ow kTGrant 33 v16 x14.1, Ow kTGrant 33 v17 x14.2, pt g2 33 ([(.int .i64 ((rd x10 x4).Tx)), (.int .i64 ((rd x10 x4).Res)), (.int .i64 ((rd x10 x4).Mode))]), Ow kTGrant 33 v2 x20, Ow kTGrant 33 v4 x10, Ow kTGrant 33 v1 x19]) rfl
              refine stp hF (p_assign rfl) (by decide) (fun a hF => ?_)
              refine nilN ?_
              refine bn (xn ?_)
              obtain rfl := hsm H
              replace hS := hS.sel (is := [0, 0, 0, 0, 1, 1, 1]) (A' := [Ow (Kd.int .i64) 3 v19 (x12 ++ ([(rd x10 x4).Tx] : List Int)), pt g1 26 ([v16, v17]), Ow kTGrant 33 v16 x14.1, Ow kTGrant 33 v17 x14.2, Ow kTGrant 33 v2 x20, Ow kTGrant 33 v4 x10, Ow kTGrant 33 v1 x19]) rfl
              exact ⟨(x12 ++ ([(rd x10 x4).Tx] : List Int)), x14.1, x14.2, s21, v19, v16, v17, hS, hF.cut ⟨rfl, rfl, rfl, rfl, trivial⟩, ((hg7.trans hg12).trans hg13), HK2⟩
            · replace H := hbf hc3 H
              replace hS : St e s14 w.drew [Ow kTGrant 33 v11 x8, Ow kTGrant 33 v12 x9, pt g2 33 ([(.int .i64 ((rd x10 x4).Tx)), (.int .i64 ((rd x10 x4).Res)), (.int .i64 ((rd x10 x4).Mode))]), Ow (Kd.int .i64) 3 v10 x12, pt g1 26 ([v11, v12]), Ow kTGrant 33 v2 x20, Ow kTGrant 33 v4 x10, Ow kTGrant 33 v1 x19] := hS.drewN 1
              refine drw [0, 1, 2, 3, 4, 5, 6, 7, 8, 9, 10] mixed (by kernel_rfl) (by decide) (hF.cut (L' := [(0, (.pointer (some ⟨g1, 0, none⟩))), (5, v4), (6, v10), (7, (.int .i64 x4)), (8, (.pointer (some ⟨g2, 0, none⟩))), (9, (.int .i64 x11)), (60, (.bool x13))]) ⟨rfl, rfl, rfl, rfl, rfl, rfl, rfl, trivial⟩) ?_
              clear hF
              generalize w.drew = w at hS ⊢
              refine pk1 rfl (by decide) rfl (by kernel_rfl) rfl (p_move rfl) ?_
              refine pk1 rfl (by decide) rfl (by kernel_rfl) rfl (p_move rfl) ?_
              refine pk1 rfl (by decide) rfl (by kernel_rfl) rfl (p_nilck rfl) ?_
              refine pk1 rfl (by decide) rfl (by kernel_rfl) rfl (p_fldb (o' := 1) rfl fi_26_1 rfl) ?_
              refine pk1 rfl (by decide) rfl (by kernel_rfl) rfl (p_ldb_one (i := 4) hS rfl rfl ia_24 rfl) ?_
              refine pk1 rfl (by decide) rfl (by kernel_rfl) rfl (p_ldb_agg (i := 2) (l := []) (m := [(.int .i64 ((rd x10 x4).Tx)), (.int .i64 ((rd x10 x4).Res)), (.int .i64 ((rd x10 x4).Mode))]) (r := []) hS rfl rfl ia_33 ti_33 rfl rfl rfl) ?_
              refine pkE [4, 3, 2, 1, 0] rfl (by decide) (by kernel_rfl) (by kernel_rfl) (e_bslice (kd := kTGrant) (et := 33) (ps := [(0, (.tmp 75))]) (vs := [(0, (.agg #[(.int .i64 ((rd x10 x4).Tx)), (.int .i64 ((rd x10 x4).Res)), (.int .i64 ((rd x10 x4).Mode))]))]) (cs := [(.int .i64 ((rd x10 x4).Tx)), (.int .i64 ((rd x10 x4).Res)), (.int .i64 ((rd x10 x4).Mode))]) (xs := ([(rd x10 x4)] : List TGrant)) hS rfl (by intro w; kernel_rfl) rfl (by decide) (Nat.le_of_ble_eq_true rfl) (by exact (rows_cons (kd := kTGrant) (x := (rd x10 x4)) (c := [(.int .i64 ((rd x10 x4).Tx)), (.int .i64 ((rd x10 x4).Res)), (.int .i64 ((rd x10 x4).Mode))]) (cs := []) (kTGrant_mk (x := (rd x10 x4)) ) (Rows.nil _ _ _ _)))) ?_
              intro v20 w hR
              have hS : St e s14 w [Ow kTGrant 33 v20 ([(rd x10 x4)] : List TGrant), Ow kTGrant 33 v11 x8, Ow kTGrant 33 v12 x9, pt g2 33 ([(.int .i64 ((rd x10 x4).Tx)), (.int .i64 ((rd x10 x4).Res)), (.int .i64 ((rd x10 x4).Mode))]), Ow (Kd.int .i64) 3 v10 x12, pt g1 26 ([v11, v12]), Ow kTGrant 33 v2 x20, Ow kTGrant 33 v4 x10, Ow kTGrant 33 v1 x19] := hR
              refine ⟨⟨knw rfl rfl rfl (p_ldb_one (i := 5) hS rfl rfl ia_24 rfl), ⟨knw rfl rfl rfl (p_fldb (o' := 1) rfl fi_26_1 rfl), ⟨knw rfl rfl rfl (p_nilck rfl), ⟨knw rfl rfl rfl (p_move rfl), ⟨knw rfl rfl rfl (p_move rfl), trivial⟩⟩⟩⟩⟩, ?_⟩
              obtain ⟨hq3, H⟩ := hck H
              refine pkE [3, 2, 1, 0] rfl (by decide) (by kernel_rfl) (by kernel_rfl) (e_append (n := 2) hS rfl rfl rfl (hS.src (n := 0) rfl) un_24 ti_33 rfl (by decide) (by decide) (Nat.le_trans (Nat.mul_le_mul_right 24 hq3) (by decide))) ?_
              intro v21 w hR
              have hS : St e s14 w [Ow kTGrant 33 v21 (x9 ++ ([(rd x10 x4)] : List TGrant)), Ow kTGrant 33 v20 ([(rd x10 x4)] : List TGrant), Ow kTGrant 33 v11 x8, pt g2 33 ([(.int .i64 ((rd x10 x4).Tx)), (.int .i64 ((rd x10 x4).Res)), (.int .i64 ((rd x10 x4).Mode))]), Ow (Kd.int .i64) 3 v10 x12, pt g1 26 ([v11, v12]), Ow kTGrant 33 v2 x20, Ow kTGrant 33 v4 x10, Ow kTGrant 33 v1 x19] := hR
              replace hS := hS.sel (is := [0, 1, 1, 1, 1, 1, 1, 1]) (A' := [Ow kTGrant 33 v21 (x9 ++ ([(rd x10 x4)] : List TGrant)), Ow kTGrant 33 v11 x8, pt g2 33 ([(.int .i64 ((rd x10 x4).Tx)), (.int .i64 ((rd x10 x4).Res)), (.int .i64 ((rd x10 x4).Mode))]), Ow (Kd.int .i64) 3 v10 x12, pt g1 26 ([v11, v12]), Ow kTGrant 33 v2 x20, Ow kTGrant 33 v4 x10, Ow kTGrant 33 v1 x19]) rfl
              refine ⟨⟨knw rfl rfl rfl (p_fldb (o' := 1) rfl fi_26_1 rfl), ⟨knw rfl rfl rfl (p_nilck rfl), ⟨knw rfl rfl rfl (p_move rfl), ⟨knw rfl rfl rfl (p_move rfl), trivial⟩⟩⟩⟩, ?_⟩
              refine pk1 rfl (by decide) rfl (by kernel_rfl) rfl (p_nilck rfl) ?_
              refine pk1 rfl (by decide) rfl (by kernel_rfl) rfl (p_fldb (o' := 1) rfl fi_26_1 rfl) ?_
              refine pkE0 [8] rfl (by kernel_rfl) (by kernel_rfl) (e_stb (i := 4) (l := [v11]) (m := [v12]) (r := []) (m' := [v21]) (cs' := [v11, v21]) hS rfl rfl rfl ti_24 rfl rfl rfl (cells_one (hS.one_ow (i := 0) rfl)) rfl (one_cons (hS.one_ow (i := 0) rfl) one_nil) rfl) ?_
              intro v w hR
              have hS : St e s14 w [pt g1 26 ([v11, v21]), Ow kTGrant 33 v21 (x9 ++ ([(rd x10 x4)] : List TGrant)), Ow kTGrant 33 v11 x8, pt g2 33 ([(.int .i64 ((rd x10 x4).Tx)), (.int .i64 ((rd x10 x4).Res)), (.int .i64 ((rd x10 x4).Mode))]), Ow (Kd.int .i64) 3 v10 x12, Ow kTGrant 33 v2 x20, Ow kTGrant 33 v4 x10, Ow kTGrant 33 v1 x19] := hR
              refine ⟨⟨knw rfl rfl rfl (p_nilck rfl), trivial⟩, ?_⟩
              refine pkF (fun a hF => ?_)
              refine bn (xn ?_)
              obtain rfl := hsm H
              replace hS := hS.sel (is := [4, 0, 1, 0, 1, 1, 1]) (A' := [Ow (Kd.int .i64) 3 v10 x12, pt g1 26 ([v11, v21]), Ow kTGrant 33 v11 x8, Ow kTGrant 33 v21 (x9 ++ ([(rd x10 x4)] : List TGrant)), Ow kTGrant 33 v2 x20, Ow kTGrant 33 v4 x10, Ow kTGrant 33 v1 x19]) rfl
              exact ⟨x12, x8, (x9 ++ ([(rd x10 x4)] : List TGrant)), s14, v10, v11, v21, hS, hF.cut ⟨rfl, rfl, rfl, rfl, trivial⟩, (hg7.trans hg12), HK2⟩
        · clear H HK2 hS hF
          rintro a w ⟨x5, x6, x7, s10, v13, v14, v15, hS, hF, hg14, H⟩
          unfold spec_l9Drop.c2 at H
          refine rg ?_
          refine stp hF (p_move rfl) (by decide) (fun a hF => ?_)
          refine stp hF (p_add (c := w64 (x4 + 1)) rfl rfl rfl) (by decide) (fun a hF => ?_)
          refine stp hF (p_assign rfl) (by decide) (fun a hF => ?_)
          refine nilN ?_
          refine xn ?_
          exact ⟨x5, x6, x7, (w64 (x4 + 1)), s10, v13, v14, v15, hS, hF.cut ⟨rfl, rfl, rfl, rfl, trivial⟩, (hg5.trans hg14), H⟩
      · replace H := hbf hc1 H
        refine exi ?_
        refine xe (xe (hit (xn ?_)))
        obtain rfl := hsm H
        exact ⟨x12, x8, x9, s9, v10, v11, v12, hS, hF.cut ⟨rfl, trivial⟩, hg5, HK1⟩
  · clear H HK1 hS hF
    rintro a w ⟨x1, x2, x3, s8, v7, v8, v9, hS, hF, hg15, H⟩
    unfold spec_l9Drop.c1 at H
    refine sq ?_
    refine rg ?_
    refine stp hF (p_move rfl) (by decide) (fun a hF => ?_)
    refine stp hF (p_assign rfl) (by decide) (fun a hF => ?_)
    refine nilN ?_
    refine xn ?_
    refine rt ?_
    obtain rfl := hsm H
    replace hS := hS.sel (is := [1, 1, 1, 0]) (A' := [pt g1 26 ([v8, v9]), Ow kTGrant 33 v8 x2, Ow kTGrant 33 v9 x3, Ow (Kd.int .i64) 3 v7 x1]) rfl
    exact ret1 hF rfl rfl hS ⟨v8, v9, v7, rfl, rfl⟩

def spec_l9Waits.c1 (k : Nat) : Option Bool :=
  (some false)
def spec_l9Waits.l1 (x1 : TLocks) (x2 : Int) : Nat → Int → Option (Ex Bool Unit)
  | 0, _ => none
  | k + 1, x3 => (if (decide (x3 < (x1.Waits.length : Int))) = true then (if 0 ≤ x3 ∧ x3 < (x1.Waits.length : Int) then (if (decide (((rd x1.Waits x3).Tx) = x2)) = true then (some (Ex.ret true)) else ((spec_l9Waits.l1 x1 x2 k) (w64 (x3 + 1)))) else none) else (some (Ex.go ())))
def spec_l9Waits.f (k : Nat) (x1 : TLocks) (x2 : Int) : Option Bool :=
  (((spec_l9Waits.l1 x1 x2 k 0) : Option (Ex Bool Unit)).bind fun x4 => Ex.on x4 (fun r => some r) (fun y => spec_l9Waits.c1 k))
set_option maxRecDepth 100000 in
set_option maxHeartbeats 4000000 in
theorem spec_l9Waits.spec (k : Nat) (s0 : HF) (w : World) (x1 : TLocks) (x2 : Int) (v1 : Value) (v2 : Value) (h1 : Sl kTGrant s0 v1 x1.Given) (h2 : Sl kTGrant s0 v2 x1.Waits) (r : Bool) (H : spec_l9Waits.f k x1 x2 = some r) :
    Law Try.prog 43 #[(.agg #[v1, v2]), (.int .i64 x2)] s0 w [] (fun v s1 A1 => v = (.bool r) ∧ A1 = []) := by
  unfold spec_l9Waits.f at H
  refine Law.intro Try.func43 rfl [(0, (.agg #[v1, v2])), (1, (.int .i64 x2))] (Nat.le_of_ble_eq_true rfl) (enter_lk ⟨rfl, rfl, trivial⟩) (fun e a hS hF => ?_)
  have hF : Fr 21 a [(0, (.agg #[v1, v2])), (1, (.int .i64 x2))] := hF
  refine sq ?_
  refine rg ?_
  refine ste hF (e_box (cs := [v1, v2]) hS rfl rfl) (by decide) (fun v w a hR hF => ?_)
  obtain ⟨g1, rfl, hS⟩ := hR
  refine stp hF (p_assign rfl) (by decide) (fun a hF => ?_)
  refine nilN ?_
  refine xn ?_
  obtain ⟨x4, H, HK1⟩ := hb H
  refine sqj (fun a w => St e s0 w [pt g1 26 ([v1, v2])] ∧ Fr 21 a [] ∧ spec_l9Waits.c1 k = some r) ?_ ?_
  · skip
    refine sq ?_
    refine rg ?_
    refine stp hF (p_assign rfl) (by decide) (fun a hF => ?_)
    refine nilN ?_
    refine xn ?_
    refine blk ?_
    refine loop_ind (fun k1 a w => ∃ (x3 : Int) , St e s0 w [pt g1 26 ([v1, v2])] ∧ Fr 21 a [(1, (.int .i64 x2)), (2, (.pointer (some ⟨g1, 0, none⟩))), (5, (.int .i64 x3))] ∧ spec_l9Waits.l1 x1 x2 k1 x3 = some x4) k ?_ ?_ ?_
    · skip
      exact ⟨0, hS, hF.cut ⟨rfl, rfl, rfl, trivial⟩, H⟩
    · clear H hS hF
      rintro a w ⟨x3, hS, hF, H⟩
      exact absurd (show none = some _ from H) (by simp)
    · clear H hS hF
      rintro k1 a w ⟨x3, hS, hF, H⟩
      rw [spec_l9Waits.l1.eq_2] at H
      refine sq ?_
      refine sq ?_
      refine rg ?_
      refine stp hF (p_move rfl) (by decide) (fun a hF => ?_)
      refine stp hF (p_fldb (o' := 1) rfl fi_26_1 rfl) (by decide) (fun a hF => ?_)
      refine stp hF (p_ldb_one (i := 0) hS rfl rfl ia_24 rfl) (by decide) (fun a hF => ?_)
      refine stp hF (p_lenr un_24 rfl h2) (by decide) (fun a hF => ?_)
      refine stp hF (p_lss rfl rfl) (by decide) (fun a hF => ?_)
      refine nilN ?_
      refine xn ?_
      refine cnd hF rfl (fun hc1 => ?_) (fun hc1 => ?_)
      · replace H := hbt hc1 H
        refine skN ?_
        refine xn ?_
        refine sq ?_
        refine blk ?_
        refine sq ?_
        refine rg ?_
        refine stp hF (p_fldb (o' := 1) rfl fi_26_1 rfl) (by decide) (fun a hF => ?_)
        refine stp hF (p_ldb_one (i := 0) hS rfl rfl ia_24 rfl) (by decide) (fun a hF => ?_)
        refine stp hF (p_move rfl) (by decide) (fun a hF => ?_)
        obtain ⟨hq1, H⟩ := hck H
        obtain ⟨ad1, h3, p1⟩ := p_idxr (P := Try.prog) (i := x3) h2 un_24 ti_33 hq1.1 hq1.2
        refine stp hF (p1 rfl rfl) (by decide) (fun a hF => ?_)
        have h4 : Pr (Kd.int .i64) s0 (ad1.add 0) ((rd x1.Waits x3).Tx) := h3.lens kTGrant_Tx
        refine stp hF (p_fld rfl fi_33_0) (by decide) (fun a hF => ?_)
        refine stp hF (p_ldr_int rfl hS h4 ia_3) (by decide) (fun a hF => ?_)
        refine stp hF (p_move rfl) (by decide) (fun a hF => ?_)
        refine stp hF (p_eql rfl rfl) (by decide) (fun a hF => ?_)
        refine nilN ?_
        refine xn ?_
        refine cnd hF rfl (fun hc2 => ?_) (fun hc2 => ?_)
        · replace H := hbt hc2 H
          refine sq ?_
          refine rg ?_
          refine stp hF (p_assign rfl) (by decide) (fun a hF => ?_)
          refine nilN ?_
          refine xn ?_
          refine rt ?_
          refine br (xr (xr (br (xr ?_))))
          obtain rfl := hsm H
          have H := hon1 HK1
          obtain rfl := hsm H
          replace hS := hS.sel (is := []) (A' := []) rfl
          exact ret1 hF rfl rfl hS ⟨rfl, rfl⟩
        · replace H := hbf hc2 H
          refine skN ?_
          refine bn (xn ?_)
          refine rg ?_
          refine stp hF (p_move rfl) (by decide) (fun a hF => ?_)
          refine stp hF (p_add (c := w64 (x3 + 1)) rfl rfl rfl) (by decide) (fun a hF => ?_)
          refine stp hF (p_assign rfl) (by decide) (fun a hF => ?_)
          refine nilN ?_
          refine xn ?_
          exact ⟨(w64 (x3 + 1)), hS, hF.cut ⟨rfl, rfl, rfl, trivial⟩, H⟩
      · replace H := hbf hc1 H
        refine exi ?_
        refine xe (xe (hit (xn ?_)))
        obtain rfl := hsm H
        exact ⟨hS, hF.cut trivial, HK1⟩
  · clear H HK1 hS hF
    rintro a w ⟨hS, hF, H⟩
    unfold spec_l9Waits.c1 at H
    refine sq ?_
    refine rg ?_
    refine stp hF (p_assign rfl) (by decide) (fun a hF => ?_)
    refine nilN ?_
    refine xn ?_
    refine rt ?_
    obtain rfl := hsm H
    replace hS := hS.sel (is := []) (A' := []) rfl
    exact ret1 hF rfl rfl hS ⟨rfl, rfl⟩

def spec_l9Ask.c1 (k : Nat) (x1 : (List TGrant)) (x2 : (List TGrant)) (x3 : TGrant) (x4 : Int) (x5 : Bool) : Option (Int × (List TGrant) × (List TGrant)) :=
  (if x5 = true then ((spec_l9Give.f k x1 x2 x3 x4).bind fun x6 => (some (0, x6.1, x6.2))) else (if x2.length + 1 ≤ 5864062014805 then (some (1, x1, (x2 ++ ([x3] : List TGrant)))) else none))
def spec_l9Ask.f (k : Nat) (x1 : (List TGrant)) (x2 : (List TGrant)) (x3 : TGrant) : Option (Int × (List TGrant) × (List TGrant)) :=
  ((spec_l9Has.f k (⟨x1, x2⟩ : TLocks) x3.Tx x3.Res).bind fun x7 => ((spec_l9Would.f k (⟨x1, x2⟩ : TLocks) x3).bind fun x4 => (if (decide (x4 = x7)) = true then (some (0, x1, x2)) else ((((spec_l9Fits.f k (⟨x1, x2⟩ : TLocks) x3 x4).bind fun x8 => (if x8 = true then (if (decide (x7 ≠ 0)) = true then (some true) else ((spec_l9ForRes.f k x2 x3.Res).bind fun x9 => (some (!x9)))) else (some false))) : Option Bool).bind fun x10 => spec_l9Ask.c1 k x1 x2 x3 x4 x10))))
set_option maxRecDepth 100000 in
set_option maxHeartbeats 4000000 in
theorem spec_l9Ask.spec (k : Nat) (s0 : HF) (w : World) (x1 : (List TGrant)) (x2 : (List TGrant)) (x3 : TGrant) (v1 : Value) (v2 : Value) (g1 : Nat) (r : Int × (List TGrant) × (List TGrant)) (H : spec_l9Ask.f k x1 x2 x3 = some r) :
    Law Try.prog 44 #[(.pointer (some ⟨g1, 0, none⟩)), (.agg #[(.int .i64 x3.Tx), (.int .i64 x3.Res), (.int .i64 x3.Mode)])] s0 w [pt g1 26 ([v1, v2]), Ow kTGrant 33 v1 x1, Ow kTGrant 33 v2 x2] (fun v s1 A1 => ∃ (u0 : Value) (u1 : Value), v = (.int .i64 r.1) ∧ A1 = [pt g1 26 ([u0, u1]), Ow kTGrant 33 u0 r.2.1, Ow kTGrant 33 u1 r.2.2]) := by
  unfold spec_l9Ask.f at H
  refine Law.intro Try.func44 rfl [(0, (.pointer (some ⟨g1, 0, none⟩))), (1, (.agg #[(.int .i64 x3.Tx), (.int .i64 x3.Res), (.int .i64 x3.Mode)]))] (Nat.le_of_ble_eq_true rfl) (enter_lk ⟨rfl, rfl, trivial⟩) (fun e a hS hF => ?_)
  have hF : Fr 57 a [(0, (.pointer (some ⟨g1, 0, none⟩))), (1, (.agg #[(.int .i64 x3.Tx), (.int .i64 x3.Res), (.int .i64 x3.Mode)]))] := hF
  refine sq ?_
  refine rg ?_
  refine ste hF (e_box (cs := [(.int .i64 x3.Tx), (.int .i64 x3.Res), (.int .i64 x3.Mode)]) hS rfl rfl) (by decide) (fun v w a hR hF => ?_)
  obtain ⟨g2, rfl, hS⟩ := hR
  refine stp hF (p_assign rfl) (by decide) (fun a hF => ?_)
  refine nilN ?_
  refine xn ?_
  refine sq ?_
  replace hS : St e s0 w.drew [pt g2 33 ([(.int .i64 x3.Tx), (.int .i64 x3.Res), (.int .i64 x3.Mode)]), pt g1 26 ([v1, v2]), Ow kTGrant 33 v1 x1, Ow kTGrant 33 v2 x2] := hS.drewN 1
  refine drw [0, 1, 2, 3, 4, 5, 6, 7, 8] mixed (by kernel_rfl) (by decide) (hF.cut (L' := [(0, (.pointer (some ⟨g1, 0, none⟩))), (1, (.agg #[(.int .i64 x3.Tx), (.int .i64 x3.Res), (.int .i64 x3.Mode)])), (3, (.pointer (some ⟨g2, 0, none⟩))), (4, (.int .i64 0))]) ⟨rfl, rfl, rfl, rfl, trivial⟩) ?_
  clear hF
  generalize w.drew = w at hS ⊢
  refine pk1 rfl (by decide) rfl (by kernel_rfl) rfl (p_move rfl) ?_
  refine pk1 rfl (by decide) rfl (by kernel_rfl) rfl (p_nilck rfl) ?_
  refine pk1 rfl (by decide) rfl (by kernel_rfl) rfl (p_ldb_agg (i := 1) (l := []) (m := [v1, v2]) (r := []) hS rfl rfl ia_26 ti_26 rfl rfl rfl) ?_
  refine pk1 rfl (by decide) rfl (by kernel_rfl) rfl (p_fldb (o' := 0) rfl fi_33_0 rfl) ?_
  refine pk1 rfl (by decide) rfl (by kernel_rfl) rfl (p_ldb_one (i := 0) hS rfl rfl ia_3 rfl) ?_
  refine pk1 rfl (by decide) rfl (by kernel_rfl) rfl (p_fldb (o' := 1) rfl fi_33_1 rfl) ?_
  refine pk1 rfl (by decide) rfl (by kernel_rfl) rfl (p_ldb_one (i := 0) hS rfl rfl ia_3 rfl) ?_
  replace hS := hS.sel (is := [2, 2, 0, 0]) (A' := [Ow kTGrant 33 v1 x1, Ow kTGrant 33 v2 x2, pt g2 33 ([(.int .i64 x3.Tx), (.int .i64 x3.Res), (.int .i64 x3.Mode)]), pt g1 26 ([v1, v2])]) rfl
  obtain ⟨s2, hg1, hl1, hcall1⟩ := St.lend (P := Try.prog) (Bs := [Ow kTGrant 33 v1 x1, Ow kTGrant 33 v2 x2]) (A := []) (B := [pt g2 33 ([(.int .i64 x3.Tx), (.int .i64 x3.Res), (.int .i64 x3.Mode)]), pt g1 26 ([v1, v2])]) hS
  obtain ⟨h1, hl1⟩ := hl1.ow hg1
  obtain ⟨h2, hl1⟩ := hl1.ow hg1
  obtain ⟨x7, hx1, H⟩ := hb H
  refine pkE [5, 3, 1, 0] rfl (by decide) (by kernel_rfl) (by kernel_rfl) (e_call (fst := []) (vs := [(.agg #[v1, v2]), (.int .i64 x3.Tx), (.int .i64 x3.Res)]) (cap := []) rfl rfl go_70 (hcall1 (spec_l9Has.spec k _ _ (⟨x1, x2⟩ : TLocks) x3.Tx x3.Res v1 v2 h1 h2 _ hx1) (by rintro v s1 A1 ⟨rfl, rfl⟩; exact trivial))) ?_
  intro v w hR
  obtain ⟨s3, s4, A2, hg2, hS, hR⟩ := hR
  obtain ⟨hv1, rfl⟩ := hR; obtain rfl := hv1.symm
  have hS : St e s3 w [Ow kTGrant 33 v1 x1, Ow kTGrant 33 v2 x2, pt g2 33 ([(.int .i64 x3.Tx), (.int .i64 x3.Res), (.int .i64 x3.Mode)]), pt g1 26 ([v1, v2])] := hS
  refine ⟨⟨knw rfl rfl rfl (p_fldb (o' := 1) rfl fi_33_1 rfl), ⟨knw rfl rfl rfl (p_fldb (o' := 0) rfl fi_33_0 rfl), ⟨knw rfl rfl rfl (p_nilck rfl), ⟨knw rfl rfl rfl (p_move rfl), trivial⟩⟩⟩⟩, ?_⟩
  refine pkE [] rfl (by decide) (by kernel_rfl) (by kernel_rfl) (puEf (p_assign rfl)) ?_
  rintro v w' ⟨rfl, rfl⟩
  refine ⟨trivial, ?_⟩
  refine pkF (fun a hF => ?_)
  refine xn ?_
  refine sq ?_
  replace hS : St e s3 w.drew [Ow kTGrant 33 v1 x1, Ow kTGrant 33 v2 x2, pt g2 33 ([(.int .i64 x3.Tx), (.int .i64 x3.Res), (.int .i64 x3.Mode)]), pt g1 26 ([v1, v2])] := hS.drewN 1
  refine drw [0, 1, 2, 3, 4, 5] mixed (by kernel_rfl) (by decide) (hF.cut (L' := [(0, (.pointer (some ⟨g1, 0, none⟩))), (1, (.agg #[(.int .i64 x3.Tx), (.int .i64 x3.Res), (.int .i64 x3.Mode)])), (3, (.pointer (some ⟨g2, 0, none⟩))), (4, (.int .i64 0)), (5, (.int .i64 x7)), (7, (.pointer (some ⟨g1, 0, none⟩))), (8, (.pointer (some ⟨g1, 0, none⟩))), (9, (.agg #[v1, v2])), (10, (.pointer (some ⟨g2, 0, none⟩))), (11, (.int .i64 x3.Tx)), (12, (.pointer (some ⟨g2, 1, none⟩))), (13, (.int .i64 x3.Res)), (14, (.int .i64 x7))]) ⟨rfl, rfl, rfl, rfl, rfl, rfl, rfl, rfl, rfl, rfl, rfl, rfl, rfl, trivial⟩) ?_
  clear hF
  generalize w.drew = w at hS ⊢
  refine pk1 rfl (by decide) rfl (by kernel_rfl) rfl (p_move rfl) ?_
  refine pk1 rfl (by decide) rfl (by kernel_rfl) rfl (p_nilck rfl) ?_
  refine pk1 rfl (by decide) rfl (by kernel_rfl) rfl (p_ldb_agg (i := 3) (l := []) (m := [v1, v2]) (r := []) hS rfl rfl ia_26 ti_26 rfl rfl rfl) ?_
  refine pk1 rfl (by decide) rfl (by kernel_rfl) rfl (p_ldb_agg (i := 2) (l := []) (m := [(.int .i64 x3.Tx), (.int .i64 x3.Res), (.int .i64 x3.Mode)]) (r := []) hS rfl rfl ia_33 ti_33 rfl rfl rfl) ?_
  obtain ⟨s5, hg3, hl2, hcall2⟩ := St.lend (P := Try.prog) (Bs := [Ow kTGrant 33 v1 x1, Ow kTGrant 33 v2 x2]) (A := []) (B := [pt g2 33 ([(.int .i64 x3.Tx), (.int .i64 x3.Res), (.int .i64 x3.Mode)]), pt g1 26 ([v1, v2])]) hS
  obtain ⟨h3, hl2⟩ := hl2.ow hg3
  obtain ⟨h4, hl2⟩ := hl2.ow hg3
  obtain ⟨x4, hx2, H⟩ := hb H
  refine pkE [1, 0] rfl (by decide) (by kernel_rfl) (by kernel_rfl) (e_call (fst := []) (vs := [(.agg #[v1, v2]), (.agg #[(.int .i64 x3.Tx), (.int .i64 x3.Res), (.int .i64 x3.Mode)])]) (cap := []) rfl rfl go_71 (hcall2 (spec_l9Would.spec k _ _ (⟨x1, x2⟩ : TLocks) x3 v1 v2 h3 h4 _ hx2) (by rintro v s1 A1 ⟨rfl, rfl⟩; exact trivial))) ?_
  intro v w hR
  obtain ⟨s6, s7, A3, hg4, hS, hR⟩ := hR
  obtain ⟨hv2, rfl⟩ := hR; obtain rfl := hv2.symm
  have hS : St e s6 w [Ow kTGrant 33 v1 x1, Ow kTGrant 33 v2 x2, pt g2 33 ([(.int .i64 x3.Tx), (.int .i64 x3.Res), (.int .i64 x3.Mode)]), pt g1 26 ([v1, v2])] := hS
  refine ⟨⟨knw rfl rfl rfl (p_nilck rfl), ⟨knw rfl rfl rfl (p_move rfl), trivial⟩⟩, ?_⟩
  refine pkE [] rfl (by decide) (by kernel_rfl) (by kernel_rfl) (puEf (p_assign rfl)) ?_
  rintro v w' ⟨rfl, rfl⟩
  refine ⟨trivial, ?_⟩
  refine pkF (fun a hF => ?_)
  refine xn ?_
  refine sq ?_
  refine sq ?_
  refine rg ?_
  refine stp hF (p_move rfl) (by decide) (fun a hF => ?_)
  refine stp hF (p_move rfl) (by decide) (fun a hF => ?_)
  refine stp hF (p_eql rfl rfl) (by decide) (fun a hF => ?_)
  refine nilN ?_
  refine xn ?_
  refine cnd hF rfl (fun hc1 => ?_) (fun hc1 => ?_)
  · replace H := hbt hc1 H
    refine sq ?_
    refine rg ?_
    refine stp hF (p_assign rfl) (by decide) (fun a hF => ?_)
    refine nilN ?_
    refine xn ?_
    refine rt ?_
    refine xr ?_
    obtain rfl := hsm H
    replace hS := hS.sel (is := [3, 0, 0]) (A' := [pt g1 26 ([v1, v2]), Ow kTGrant 33 v1 x1, Ow kTGrant 33 v2 x2]) rfl
    exact ret1 hF rfl rfl hS ⟨v1, v2, rfl, rfl⟩
  · replace H := hbf hc1 H
    refine skN ?_
    refine xn ?_
    refine sq ?_
    obtain ⟨x10, H, HK1⟩ := hb H
    refine sqj (fun a w => ∃ (x5 : Bool) (s8 : HF) , St e s8 w [Ow kTGrant 33 v1 x1, Ow kTGrant 33 v2 x2, pt g2 33 ([(.int .i64 x3.Tx), (.int .i64 x3.Res), (.int .i64 x3.Mode)]), pt g1 26 ([v1, v2])] ∧ Fr 57 a [(0, (.pointer (some ⟨g1, 0, none⟩))), (3, (.pointer (some ⟨g2, 0, none⟩))), (6, (.int .i64 x4)), (42, (.bool x5))] ∧ Sub s6 s8 ∧ spec_l9Ask.c1 k x1 x2 x3 x4 x5 = some r) ?_ ?_
    · skip
      replace hS : St e s6 w.drew [Ow kTGrant 33 v1 x1, Ow kTGrant 33 v2 x2, pt g2 33 ([(.int .i64 x3.Tx), (.int .i64 x3.Res), (.int .i64 x3.Mode)]), pt g1 26 ([v1, v2])] := hS.drewN 1
      refine drw [0, 1, 2, 3, 4, 5, 6, 7, 8, 9, 10, 11, 12, 13, 14, 15, 16, 17, 18, 19] mixed (by kernel_rfl) (by decide) (hF.cut (L' := [(0, (.pointer (some ⟨g1, 0, none⟩))), (1, (.agg #[(.int .i64 x3.Tx), (.int .i64 x3.Res), (.int .i64 x3.Mode)])), (3, (.pointer (some ⟨g2, 0, none⟩))), (4, (.int .i64 0)), (5, (.int .i64 x7)), (6, (.int .i64 x4)), (7, (.pointer (some ⟨g1, 0, none⟩))), (8, (.pointer (some ⟨g1, 0, none⟩))), (9, (.agg #[v1, v2])), (10, (.pointer (some ⟨g2, 0, none⟩))), (11, (.int .i64 x3.Tx)), (12, (.pointer (some ⟨g2, 1, none⟩))), (13, (.int .i64 x3.Res)), (14, (.int .i64 x7)), (15, (.pointer (some ⟨g1, 0, none⟩))), (16, (.pointer (some ⟨g1, 0, none⟩))), (17, (.agg #[v1, v2])), (18, (.agg #[(.int .i64 x3.Tx), (.int .i64 x3.Res), (.int .i64 x3.Mode)])), (19, (.int .i64 x4)), (20, (.int .i64 x4)), (21, (.int .i64 x7)), (22, (.bool (decide (x4 = x7))))]) ⟨rfl, rfl, rfl, rfl, rfl, rfl, rfl, rfl, rfl, rfl, rfl, rfl, rfl, rfl, rfl, rfl, rfl, rfl, rfl, rfl, rfl, rfl, trivial⟩) ?_
      clear hF
      generalize w.drew = w at hS ⊢
      refine pk1 rfl (by decide) rfl (by kernel_rfl) rfl (p_move rfl) ?_
      refine pk1 rfl (by decide) rfl (by kernel_rfl) rfl (p_nilck rfl) ?_
      refine pk1 rfl (by decide) rfl (by kernel_rfl) rfl (p_ldb_agg (i := 3) (l := []) (m := [v1, v2]) (r := []) hS rfl rfl ia_26 ti_26 rfl rfl rfl) ?_
      refine pk1 rfl (by decide) rfl (by kernel_rfl) rfl (p_ldb_agg (i := 2) (l := []) (m := [(.int .i64 x3.Tx), (.int .i64 x3.Res), (.int .i64 x3.Mode)]) (r := []) hS rfl rfl ia_33 ti_33 rfl rfl rfl) ?_
      refine pk1 rfl (by decide) rfl (by kernel_rfl) rfl (p_move rfl) ?_
      obtain ⟨s9, hg5, hl3, hcall3⟩ := St.lend (P := Try.prog) (Bs := [Ow kTGrant 33 v1 x1, Ow kTGrant 33 v2 x2]) (A := []) (B := [pt g2 33 ([(.int .i64 x3.Tx), (.int .i64 x3.Res), (.int .i64 x3.Mode)]), pt g1 26 ([v1, v2])]) hS
      obtain ⟨h5, hl3⟩ := hl3.ow hg5
      obtain ⟨h6, hl3⟩ := hl3.ow hg5
      obtain ⟨x8, hx3, H⟩ := hb H
      refine pkE [1, 0] rfl (by decide) (by kernel_rfl) (by kernel_rfl) (e_call (fst := []) (vs := [(.agg #[v1, v2]), (.agg #[(.int .i64 x3.Tx), (.int .i64 x3.Res), (.int .i64 x3.Mode)]), (.int .i64 x4)]) (cap := []) rfl rfl go_72 (hcall3 (spec_l9Fits.spec k _ _ (⟨x1, x2⟩ : TLocks) x3 x4 v1 v2 h5 h6 _ hx3) (by rintro v s1 A1 ⟨rfl, rfl⟩; exact trivial))) ?_
      intro v w hR
      obtain ⟨s10, s11, A4, hg6, hS, hR⟩ := hR
      obtain ⟨hv3, rfl⟩ := hR; obtain rfl := hv3.symm
      have hS : St e s10 w [Ow kTGrant 33 v1 x1, Ow kTGrant 33 v2 x2, pt g2 33 ([(.int .i64 x3.Tx), (.int .i64 x3.Res), (.int .i64 x3.Mode)]), pt g1 26 ([v1, v2])] := hS
      refine ⟨⟨knw rfl rfl rfl (p_nilck rfl), ⟨knw rfl rfl rfl (p_move rfl), trivial⟩⟩, ?_⟩
      refine pk1 rfl (by decide) rfl (by kernel_rfl) rfl (p_move rfl) ?_
      rcases Bool.eq_false_or_eq_true (x8) with hc2 | hc2
      · replace H := hbt hc2 H
        refine pkOn (j := 6) rfl (by decide) rfl (by kernel_rfl) rfl rfl rfl hc2 (p_move rfl) ?_
        refine pkOn (j := 6) rfl (by decide) rfl (by kernel_rfl) rfl rfl rfl hc2 (p_neq rfl rfl) ?_
        refine pkOn (j := 6) rfl (by decide) rfl (by kernel_rfl) rfl rfl rfl hc2 (p_move rfl) ?_
        rcases Bool.eq_false_or_eq_true (decide (x7 ≠ 0)) with hc3 | hc3
        · replace H := hbt hc3 H
          refine pkOff (j := 9) rfl (by decide) rfl (by kernel_rfl) rfl rfl rfl (by rw [hc3]; decide) ?_
          refine pkOff (j := 9) rfl (by decide) rfl (by kernel_rfl) rfl rfl rfl (by rw [hc3]; decide) ?_
          refine pkOff (j := 9) rfl (by decide) rfl (by kernel_rfl) rfl rfl rfl (by rw [hc3]; decide) ?_
          refine pkOff (j := 9) rfl (by decide) rfl (by kernel_rfl) rfl rfl rfl (by rw [hc3]; decide) ?_
          refine pkOff (j := 9) rfl (by decide) rfl (by kernel_rfl) rfl rfl rfl (by rw [hc3]; decide) ?_
          refine pkOff (j := 9) rfl (by decide) rfl (by kernel_rfl) rfl rfl rfl (by rw [hc3]; decide) ?_
          refine pkOff (j := 9) rfl (by decide) rfl (by kernel_rfl) rfl rfl rfl (by rw [hc3]; decide) ?_
          refine pkOff (j := 9) rfl (by decide) rfl (by kernel_rfl) rfl rfl rfl (by rw [hc3]; decide) ?_
          refine pkOn (j := 6) rfl (by decide) rfl (by kernel_rfl) rfl rfl rfl hc2 (p_pickT rfl hc3 rfl) ?_
          refine pk1 rfl (by decide) rfl (by kernel_rfl) rfl (p_pickT rfl hc2 rfl) ?_
          refine pkF (fun a hF => ?_)
          refine xn ?_
          obtain rfl := hsm H
          exact ⟨true, s10, hS, hF.cut ⟨rfl, rfl, rfl, rfl, trivial⟩, hg6, HK1⟩
        · replace H := hbf hc3 H
          refine pkOn (j := 9) rfl (by decide) rfl (by kernel_rfl) rfl rfl rfl hc3 (p_move rfl) ?_
          refine pkOn (j := 9) rfl (by decide) rfl (by kernel_rfl) rfl rfl rfl hc3 (p_nilck rfl) ?_
          refine pkOn (j := 9) rfl (by decide) rfl (by kernel_rfl) rfl rfl rfl hc3 (p_fldb (o' := 1) rfl fi_26_1 rfl) ?_
          refine pkOn (j := 9) rfl (by decide) rfl (by kernel_rfl) rfl rfl rfl hc3 (p_ldb_one (i := 3) hS rfl rfl ia_24 rfl) ?_
          refine pkOn (j := 9) rfl (by decide) rfl (by kernel_rfl) rfl rfl rfl hc3 (p_fldb (o' := 1) rfl fi_33_1 rfl) ?_
          refine pkOn (j := 9) rfl (by decide) rfl (by kernel_rfl) rfl rfl rfl hc3 (p_ldb_one (i := 2) hS rfl rfl ia_3 rfl) ?_
          replace hS := hS.sel (is := [1, 0, 0, 0]) (A' := [Ow kTGrant 33 v2 x2, Ow kTGrant 33 v1 x1, pt g2 33 ([(.int .i64 x3.Tx), (.int .i64 x3.Res), (.int .i64 x3.Mode)]), pt g1 26 ([v1, v2])]) rfl
          obtain ⟨s12, hg7, hl4, hcall4⟩ := St.lend (P := Try.prog) (Bs := [Ow kTGrant 33 v2 x2]) (A := []) (B := [Ow kTGrant 33 v1 x1, pt g2 33 ([(.int .i64 x3.Tx), (.int .i64 x3.Res), (.int .i64 x3.Mode)]), pt g1 26 ([v1, v2])]) hS
          obtain ⟨h7, hl4⟩ := hl4.ow hg7
          obtain ⟨x9, hx4, H⟩ := hb H
          refine pkEOn (j := 9) [14, 12, 11, 10, 8, 7, 6, 1, 0] rfl rfl rfl hc3 (by decide) (by kernel_rfl) (by kernel_rfl) (e_call (fst := []) (vs := [v2, (.int .i64 x3.Res)]) (cap := []) rfl rfl go_73 (hcall4 (spec_l9ForRes.spec k _ _ x2 x3.Res v2 h7 _ hx4) (by rintro v s1 A1 ⟨rfl, rfl⟩; exact trivial))) ?_
          intro v w hR
          obtain ⟨s13, s14, A5, hg8, hS, hR⟩ := hR
          obtain ⟨hv4, rfl⟩ := hR; obtain rfl := hv4.symm
          have hS : St e s13 w [Ow kTGrant 33 v2 x2, Ow kTGrant 33 v1 x1, pt g2 33 ([(.int .i64 x3.Tx), (.int .i64 x3.Res), (.int .i64 x3.Mode)]), pt g1 26 ([v1, v2])] := hS
          refine ⟨⟨knwOn (j := 9) rfl rfl rfl rfl rfl hc3 (p_fldb (o' := 1) rfl fi_33_1 rfl), ⟨knwOn (j := 9) rfl rfl rfl rfl rfl hc3 (p_fldb (o' := 1) rfl fi_26_1 rfl), ⟨knwOn (j := 9) rfl rfl rfl rfl rfl hc3 (p_nilck rfl), ⟨knwOn (j := 9) rfl rfl rfl rfl rfl hc3 (p_move rfl), ⟨knwOn (j := 6) rfl rfl rfl rfl rfl hc2 (p_neq rfl rfl), ⟨knwOn (j := 6) rfl rfl rfl rfl rfl hc2 (p_move rfl), ⟨knw rfl rfl rfl (p_move rfl), ⟨knw rfl rfl rfl (p_nilck rfl), ⟨knw rfl rfl rfl (p_move rfl), trivial⟩⟩⟩⟩⟩⟩⟩⟩⟩, ?_⟩
          refine pkOn (j := 9) rfl (by decide) rfl (by kernel_rfl) rfl rfl rfl hc3 (p_not rfl) ?_
          refine pkOn (j := 6) rfl (by decide) rfl (by kernel_rfl) rfl rfl rfl hc2 (p_pickF rfl hc3 rfl) ?_
          refine pk1 rfl (by decide) rfl (by kernel_rfl) rfl (p_pickT rfl hc2 rfl) ?_
          refine pkF (fun a hF => ?_)
          refine xn ?_
          obtain rfl := hsm H
          replace hS := hS.sel (is := [1, 0, 0, 0]) (A' := [Ow kTGrant 33 v1 x1, Ow kTGrant 33 v2 x2, pt g2 33 ([(.int .i64 x3.Tx), (.int .i64 x3.Res), (.int .i64 x3.Mode)]), pt g1 26 ([v1, v2])]) rfl
          exact ⟨(!x9), s13, hS, hF.cut ⟨rfl, rfl, rfl, rfl, trivial⟩, (hg6.trans hg8), HK1⟩
      · replace H := hbf hc2 H
        refine pkOff (j := 6) rfl (by decide) rfl (by kernel_rfl) rfl rfl rfl (by rw [hc2]; decide) ?_
        refine pkOff (j := 6) rfl (by decide) rfl (by kernel_rfl) rfl rfl rfl (by rw [hc2]; decide) ?_
        refine pkOff (j := 6) rfl (by decide) rfl (by kernel_rfl) rfl rfl rfl (by rw [hc2]; decide) ?_
        refine pkOffU (j := 9) rfl (by decide) rfl (by kernel_rfl) rfl rfl rfl ?_
        refine pkOffU (j := 9) rfl (by decide) rfl (by kernel_rfl) rfl rfl rfl ?_
        refine pkOffU (j := 9) rfl (by decide) rfl (by kernel_rfl) rfl rfl rfl ?_
        refine pkOffU (j := 9) rfl (by decide) rfl (by kernel_rfl) rfl rfl rfl ?_
        refine pkOffU (j := 9) rfl (by decide) rfl (by kernel_rfl) rfl rfl rfl ?_
        refine pkOffU (j := 9) rfl (by decide) rfl (by kernel_rfl) rfl rfl rfl ?_
        refine pkOffU (j := 9) rfl (by decide) rfl (by kernel_rfl) rfl rfl rfl ?_
        refine pkOffU (j := 9) rfl (by decide) rfl (by kernel_rfl) rfl rfl rfl ?_
        refine pkOff (j := 6) rfl (by decide) rfl (by kernel_rfl) rfl rfl rfl (by rw [hc2]; decide) ?_
        refine pk1 rfl (by decide) rfl (by kernel_rfl) rfl (p_pickF rfl hc2 rfl) ?_
        refine pkF (fun a hF => ?_)
        refine xn ?_
        obtain rfl := hsm H
        exact ⟨false, s10, hS, hF.cut ⟨rfl, rfl, rfl, rfl, trivial⟩, hg6, HK1⟩
    · clear H HK1 hS hF
      rintro a w ⟨x5, s8, hS, hF, hg9, H⟩
      unfold spec_l9Ask.c1 at H
      refine cnd hF rfl (fun hc4 => ?_) (fun hc4 => ?_)
      · replace H := hbt hc4 H
        refine sq ?_
        refine rg ?_
        refine stp hF (p_move rfl) (by decide) (fun a hF => ?_)
        refine stp hF (p_ldb_agg (i := 2) (l := []) (m := [(.int .i64 x3.Tx), (.int .i64 x3.Res), (.int .i64 x3.Mode)]) (r := []) hS rfl rfl ia_33 ti_33 rfl rfl rfl) (by decide) (fun a hF => ?_)
        refine stp hF (p_move rfl) (by decide) (fun a hF => ?_)
        replace hS := hS.sel (is := [3, 0, 0, 0]) (A' := [pt g1 26 ([v1, v2]), Ow kTGrant 33 v1 x1, Ow kTGrant 33 v2 x2, pt g2 33 ([(.int .i64 x3.Tx), (.int .i64 x3.Res), (.int .i64 x3.Mode)])]) rfl
        obtain ⟨x6, hx5, H⟩ := hb H
        refine ste hF (e_call (fst := []) (vs := [(.pointer (some ⟨g1, 0, none⟩)), (.agg #[(.int .i64 x3.Tx), (.int .i64 x3.Res), (.int .i64 x3.Mode)]), (.int .i64 x4)]) (cap := []) rfl rfl go_74 (St.call (A := [pt g1 26 ([v1, v2]), Ow kTGrant 33 v1 x1, Ow kTGrant 33 v2 x2]) (B := [pt g2 33 ([(.int .i64 x3.Tx), (.int .i64 x3.Res), (.int .i64 x3.Mode)])]) hS (spec_l9Give.spec k _ _ x1 x2 x3 x4 v1 v2 g1 _ hx5))) (by decide) (fun v w a hR hF => ?_)
        obtain ⟨s15, A6, hg10, hS, hR⟩ := hR
        obtain ⟨v3, v4, hv5, rfl⟩ := hR; obtain rfl := hv5.symm
        have hS : St e s15 w [pt g1 26 ([v3, v4]), Ow kTGrant 33 v3 x6.1, Ow kTGrant 33 v4 x6.2, pt g2 33 ([(.int .i64 x3.Tx), (.int .i64 x3.Res), (.int .i64 x3.Mode)])] := hS
        refine nilN ?_
        refine xn ?_
        refine sq ?_
        refine rg ?_
        refine stp hF (p_assign rfl) (by decide) (fun a hF => ?_)
        refine nilN ?_
        refine xn ?_
        refine rt ?_
        refine xr ?_
        obtain rfl := hsm H
        replace hS := hS.sel (is := [0, 0, 0]) (A' := [pt g1 26 ([v3, v4]), Ow kTGrant 33 v3 x6.1, Ow kTGrant 33 v4 x6.2]) rfl
        exact ret1 hF rfl rfl hS ⟨v3, v4, rfl, rfl⟩
      · replace H := hbf hc4 H
        refine skN ?_
        refine xn ?_
        refine sq ?_
        replace hS : St e s8 w.drew [Ow kTGrant 33 v1 x1, Ow kTGrant 33 v2 x2, pt g2 33 ([(.int .i64 x3.Tx), (.int .i64 x3.Res), (.int .i64 x3.Mode)]), pt g1 26 ([v1, v2])] := hS.drewN 1
        refine drw [0, 1, 2, 3, 4, 5, 6, 7, 8, 9, 10] mixed (by kernel_rfl) (by decide) (hF.cut (L' := [(0, (.pointer (some ⟨g1, 0, none⟩))), (3, (.pointer (some ⟨g2, 0, none⟩))), (6, (.int .i64 x4)), (42, (.bool x5))]) ⟨rfl, rfl, rfl, rfl, trivial⟩) ?_
        clear hF
        generalize w.drew = w at hS ⊢
        refine pk1 rfl (by decide) rfl (by kernel_rfl) rfl (p_move rfl) ?_
        refine pk1 rfl (by decide) rfl (by kernel_rfl) rfl (p_move rfl) ?_
        refine pk1 rfl (by decide) rfl (by kernel_rfl) rfl (p_nilck rfl) ?_
        refine pk1 rfl (by decide) rfl (by kernel_rfl) rfl (p_fldb (o' := 1) rfl fi_26_1 rfl) ?_
        refine pk1 rfl (by decide) rfl (by kernel_rfl) rfl (p_ldb_one (i := 3) hS rfl rfl ia_24 rfl) ?_
        refine pk1 rfl (by decide) rfl (by kernel_rfl) rfl (p_ldb_agg (i := 2) (l := []) (m := [(.int .i64 x3.Tx), (.int .i64 x3.Res), (.int .i64 x3.Mode)]) (r := []) hS rfl rfl ia_33 ti_33 rfl rfl rfl) ?_
        refine pkE [4, 3, 2, 1, 0] rfl (by decide) (by kernel_rfl) (by kernel_rfl) (e_bslice (kd := kTGrant) (et := 33) (ps := [(0, (.tmp 52))]) (vs := [(0, (.agg #[(.int .i64 x3.Tx), (.int .i64 x3.Res), (.int .i64 x3.Mode)]))]) (cs := [(.int .i64 x3.Tx), (.int .i64 x3.Res), (.int .i64 x3.Mode)]) (xs := ([x3] : List TGrant)) hS rfl (by intro w; kernel_rfl) rfl (by decide) (Nat.le_of_ble_eq_true rfl) (by exact (rows_cons (kd := kTGrant) (x := x3) (c := [(.int .i64 x3.Tx), (.int .i64 x3.Res), (.int .i64 x3.Mode)]) (cs := []) (kTGrant_mk (x := x3) ) (Rows.nil _ _ _ _)))) ?_
        intro v5 w hR
        have hS : St e s8 w [Ow kTGrant 33 v5 ([x3] : List TGrant), Ow kTGrant 33 v1 x1, Ow kTGrant 33 v2 x2, pt g2 33 ([(.int .i64 x3.Tx), (.int .i64 x3.Res), (.int .i64 x3.Mode)]), pt g1 26 ([v1, v2])] := hR
        refine ⟨⟨knw rfl rfl rfl (p_ldb_one (i := 4) hS rfl rfl ia_24 rfl), ⟨knw rfl rfl rfl (p_fldb (o' := 1) rfl fi_26_1 rfl), ⟨knw rfl rfl rfl (p_nilck rfl), ⟨knw rfl rfl rfl (p_move rfl), ⟨knw rfl rfl rfl (p_move rfl), trivial⟩⟩⟩⟩⟩, ?_⟩
        obtain ⟨hq1, H⟩ := hck H
        refine pkE [3, 2, 1, 0] rfl (by decide) (by kernel_rfl) (by kernel_rfl) (e_append (n := 2) hS rfl rfl rfl (hS.src (n := 0) rfl) un_24 ti_33 rfl (by decide) (by decide) (Nat.le_trans (Nat.mul_le_mul_right 24 hq1) (by decide))) ?_
        intro v6 w hR
        have hS : St e s8 w [Ow kTGrant 33 v6 (x2 ++ ([x3] : List TGrant)), Ow kTGrant 33 v5 ([x3] : List TGrant), Ow kTGrant 33 v1 x1, pt g2 33 ([(.int .i64 x3.Tx), (.int .i64 x3.Res), (.int .i64 x3.Mode)]), pt g1 26 ([v1, v2])] := hR
        replace hS := hS.sel (is := [0, 1, 1, 1]) (A' := [Ow kTGrant 33 v6 (x2 ++ ([x3] : List TGrant)), Ow kTGrant 33 v1 x1, pt g2 33 ([(.int .i64 x3.Tx), (.int .i64 x3.Res), (.int .i64 x3.Mode)]), pt g1 26 ([v1, v2])]) rfl
        refine ⟨⟨knw rfl rfl rfl (p_fldb (o' := 1) rfl fi_26_1 rfl), ⟨knw rfl rfl rfl (p_nilck rfl), ⟨knw rfl rfl rfl (p_move rfl), ⟨knw rfl rfl rfl (p_move rfl), trivial⟩⟩⟩⟩, ?_⟩
        refine pk1 rfl (by decide) rfl (by kernel_rfl) rfl (p_nilck rfl) ?_
        refine pk1 rfl (by decide) rfl (by kernel_rfl) rfl (p_fldb (o' := 1) rfl fi_26_1 rfl) ?_
        refine pkE0 [8] rfl (by kernel_rfl) (by kernel_rfl) (e_stb (i := 3) (l := [v1]) (m := [v2]) (r := []) (m' := [v6]) (cs' := [v1, v6]) hS rfl rfl rfl ti_24 rfl rfl rfl (cells_one (hS.one_ow (i := 0) rfl)) rfl (one_cons (hS.one_ow (i := 0) rfl) one_nil) rfl) ?_
        intro v w hR
        have hS : St e s8 w [pt g1 26 ([v1, v6]), Ow kTGrant 33 v6 (x2 ++ ([x3] : List TGrant)), Ow kTGrant 33 v1 x1, pt g2 33 ([(.int .i64 x3.Tx), (.int .i64 x3.Res), (.int .i64 x3.Mode)])] := hR
        refine ⟨⟨knw rfl rfl rfl (p_nilck rfl), trivial⟩, ?_⟩
        refine pkF (fun a hF => ?_)
        refine xn ?_
        refine sq ?_
        refine rg ?_
        refine stp hF (p_assign rfl) (by decide) (fun a hF => ?_)
        refine nilN ?_
        refine xn ?_
        refine rt ?_
        obtain rfl := hsm H
        replace hS := hS.sel (is := [0, 1, 0]) (A' := [pt g1 26 ([v1, v6]), Ow kTGrant 33 v1 x1, Ow kTGrant 33 v6 (x2 ++ ([x3] : List TGrant))]) rfl
        exact ret1 hF rfl rfl hS ⟨v1, v6, rfl, rfl⟩

def spec_l9Draw.c1 (k : Nat) (x1 : (List TGrant)) (x2 : (List TGrant)) (x3 : (List Int)) (x4 : Int) (x5 : Int) : Option (TLocks × (List Int) × Int × Int) :=
  (some ((⟨x1, x2⟩ : TLocks), x3, x4, x5))
def spec_l9Draw.c2 (k : Nat) (rec_l1 : (List Int) → Int → Int → (List TGrant) → (List TGrant) → Int → Option ((List TGrant) × (List TGrant) × (List Int) × Int × Int)) (x6 : Int) (x7 : (List Int)) (x8 : Int) (x9 : Int) (x10 : (List TGrant)) (x11 : (List TGrant)) : Option ((List TGrant) × (List TGrant) × (List Int) × Int × Int) :=
  (rec_l1 x7 x8 x9 x10 x11 (w64 (x6 - 1)))
def spec_l9Draw.l1 : Nat → (List Int) → Int → Int → (List TGrant) → (List TGrant) → Int → Option ((List TGrant) × (List TGrant) × (List Int) × Int × Int)
  | 0, _, _, _, _, _, _ => none
  | k + 1, x12, x13, x14, x15, x16, x6 => (if (decide (0 < x6)) = true then ((((spec_l1Below.f k x12 x13 x14 5).bind fun x17 => ((spec_l1Once.f k x17.2.1 x17.2.2.1 x17.2.2.2 6).bind fun x18 => (if x18.1 = true then ((spec_l9Drop.f k x15 x16 (w64 (1 + x17.1))).bind fun x19 => (some (x18.2.1, x18.2.2.1, x18.2.2.2, x19.2.1, x19.2.2))) else ((spec_l9Waits.f k (⟨x15, x16⟩ : TLocks) (w64 (1 + x17.1))).bind fun x20 => (if (!x20) = true then ((spec_l1Below.f k x18.2.1 x18.2.2.1 x18.2.2.2 3).bind fun x21 => ((spec_l1Below.f k x21.2.1 x21.2.2.1 x21.2.2.2 4).bind fun x22 => ((spec_l9Ask.f k x15 x16 (⟨w64 (1 + x17.1), x21.1, w64 (1 + x22.1)⟩ : TGrant)).bind fun x23 => (some (x22.2.1, x22.2.2.1, x22.2.2.2, x23.2.1, x23.2.2))))) else (some (x18.2.1, x18.2.2.1, x18.2.2.2, x15, x16))))))) : Option ((List Int) × Int × Int × (List TGrant) × (List TGrant))).bind fun x24 => spec_l9Draw.c2 k (spec_l9Draw.l1 k) x6 x24.1 x24.2.1 x24.2.2.1 x24.2.2.2.1 x24.2.2.2.2) else (some (x15, x16, x12, x13, x14)))
def spec_l9Draw.f (k : Nat) (x25 : (List Int)) (x26 : Int) (x27 : Int) (x28 : Int) : Option (TLocks × (List Int) × Int × Int) :=
  ((((spec_l1Below.f k x25 x26 x27 x28).bind fun x29 => (spec_l9Draw.l1 k x29.2.1 x29.2.2.1 x29.2.2.2 ([] : List TGrant) ([] : List TGrant) x29.1)) : Option ((List TGrant) × (List TGrant) × (List Int) × Int × Int)).bind fun x30 => spec_l9Draw.c1 k x30.1 x30.2.1 x30.2.2.1 x30.2.2.2.1 x30.2.2.2.2)
set_option maxRecDepth 100000 in
set_option maxHeartbeats 4000000 in
theorem spec_l9Draw.spec (k : Nat) (s0 : HF) (w : World) (x25 : (List Int)) (x26 : Int) (x27 : Int) (x28 : Int) (v1 : Value) (g1 : Nat) (h1 : Sl (Kd.int .u8) s0 v1 x25) (r : TLocks × (List Int) × Int × Int) (H : spec_l9Draw.f k x25 x26 x27 x28 = some r) :
    Law Try.prog 57 #[(.pointer (some ⟨g1, 0, none⟩)), (.int .i64 x28)] s0 w [pt g1 74 ([v1, (.int .i64 x26), (.int .i64 x27)])] (fun v s1 A1 => ∃ (u0 : Value) (u1 : Value) (u2 : Value), v = (.agg #[u1, u2]) ∧ A1 = [pt g1 74 ([u0, (.int .i64 r.2.2.1), (.int .i64 r.2.2.2)]), Ow kTGrant 33 u1 r.1.Given, Ow kTGrant 33 u2 r.1.Waits] ∧ Sl (Kd.int .u8) s1 u0 r.2.1) := by
  unfold spec_l9Draw.f at H
  refine Law.intro Try.func57 rfl [(0, (.pointer (some ⟨g1, 0, none⟩))), (1, (.int .i64 x28))] (Nat.le_of_ble_eq_true rfl) (enter_lk ⟨rfl, rfl, trivial⟩) (fun e a hS hF => ?_)
  have hF : Fr 36 a [(0, (.pointer (some ⟨g1, 0, none⟩))), (1, (.int .i64 x28))] := hF
  refine sq ?_
  refine rg ?_
  refine ste hF (e_alloc (cs := [(.slice none 0 0), (.slice none 0 0)]) hS ti_26 rfl) (by decide) (fun v w a hR hF => ?_)
  obtain ⟨g2, rfl, hS⟩ := hR
  refine nilN ?_
  refine xn ?_
  refine sq ?_
  refine rg ?_
  refine stp hF (p_build (ps := []) (vs := []) (v := (.agg #[(.slice none 0 0), (.slice none 0 0)])) rfl (by intro w; kernel_rfl)) (by decide) (fun a hF => ?_)
  refine ste hF (e_alloc (cs := [(.slice none 0 0), (.slice none 0 0)]) hS ti_26 rfl) (by decide) (fun v w a hR hF => ?_)
  obtain ⟨g3, rfl, hS⟩ := hR
  refine ste0 hF (e_stb (i := 0) (l := []) (m := [(.slice none 0 0), (.slice none 0 0)]) (r := []) (m' := [(.slice none 0 0), (.slice none 0 0)]) (cs' := [(.slice none 0 0), (.slice none 0 0)]) hS rfl rfl rfl ti_26 rfl rfl rfl rfl rfl (one_cons rfl (one_cons rfl one_nil)) rfl) (fun v w a hR hF => ?_)
  have hS : St e s0 w [pt g3 26 ([(.slice none 0 0), (.slice none 0 0)]), pt g2 26 ([(.slice none 0 0), (.slice none 0 0)]), pt g1 74 ([v1, (.int .i64 x26), (.int .i64 x27)])] := hR
  refine nilN ?_
  refine xn ?_
  obtain ⟨x30, H, HK1⟩ := hb H
  refine sqj (fun a w => ∃ (x1 : (List TGrant)) (x2 : (List TGrant)) (x3 : (List Int)) (x4 : Int) (x5 : Int) (s2 : HF) (v2 : Value) (v3 : Value) (v4 : Value) , St e s2 w [pt g3 26 ([v2, v3]), Ow kTGrant 33 v2 x1, Ow kTGrant 33 v3 x2, pt g2 26 ([(.slice none 0 0), (.slice none 0 0)]), pt g1 74 ([v4, (.int .i64 x4), (.int .i64 x5)])] ∧ Fr 36 a [(4, (.pointer (some ⟨g2, 0, none⟩))), (5, (.pointer (some ⟨g3, 0, none⟩)))] ∧ Sub s0 s2 ∧ Sl (Kd.int .u8) s2 v4 x3 ∧ spec_l9Draw.c1 k x1 x2 x3 x4 x5 = some r) ?_ ?_
  · skip
    refine sq ?_
    refine rg ?_
    refine stp hF (p_move rfl) (by decide) (fun a hF => ?_)
    refine stp hF (p_move rfl) (by decide) (fun a hF => ?_)
    replace hS := hS.sel (is := [2, 0, 0]) (A' := [pt g1 74 ([v1, (.int .i64 x26), (.int .i64 x27)]), pt g3 26 ([(.slice none 0 0), (.slice none 0 0)]), pt g2 26 ([(.slice none 0 0), (.slice none 0 0)])]) rfl
    obtain ⟨x29, hx1, H⟩ := hb H
    refine ste hF (e_call (fst := []) (vs := [(.pointer (some ⟨g1, 0, none⟩)), (.int .i64 x28)]) (cap := []) rfl rfl go_60 (St.call (A := [pt g1 74 ([v1, (.int .i64 x26), (.int .i64 x27)])]) (B := [pt g3 26 ([(.slice none 0 0), (.slice none 0 0)]), pt g2 26 ([(.slice none 0 0), (.slice none 0 0)])]) hS (spec_l1Below.spec k _ _ x25 x26 x27 x28 v1 g1 h1 _ hx1))) (by decide) (fun v w a hR hF => ?_)
    obtain ⟨s3, A2, hg1, hS, hR⟩ := hR
    obtain ⟨v5, hv1, rfl, h2⟩ := hR; obtain rfl := hv1.symm
    have hS : St e s3 w [pt g1 74 ([v5, (.int .i64 x29.2.2.1), (.int .i64 x29.2.2.2)]), pt g3 26 ([(.slice none 0 0), (.slice none 0 0)]), pt g2 26 ([(.slice none 0 0), (.slice none 0 0)])] := hS
    refine stp hF (p_assign rfl) (by decide) (fun a hF => ?_)
    refine nilN ?_
    refine xn ?_
    refine blk ?_
    refine loop_ind (fun k1 a w => ∃ (x12 : (List Int)) (x13 : Int) (x14 : Int) (x15 : (List TGrant)) (x16 : (List TGrant)) (x6 : Int) (s4 : HF) (v6 : Value) (v7 : Value) (v8 : Value) , St e s4 w [pt g1 74 ([v6, (.int .i64 x13), (.int .i64 x14)]), pt g3 26 ([v7, v8]), Ow kTGrant 33 v7 x15, Ow kTGrant 33 v8 x16, pt g2 26 ([(.slice none 0 0), (.slice none 0 0)])] ∧ Fr 36 a [(0, (.pointer (some ⟨g1, 0, none⟩))), (4, (.pointer (some ⟨g2, 0, none⟩))), (5, (.pointer (some ⟨g3, 0, none⟩))), (6, (.int .i64 x6))] ∧ Sub s3 s4 ∧ Sl (Kd.int .u8) s4 v6 x12 ∧ spec_l9Draw.l1 k1 x12 x13 x14 x15 x16 x6 = some x30) k ?_ ?_ ?_
    · skip
      replace hS := hS.ownNil kTGrant 33 none
      replace hS := hS.ownNil kTGrant 33 none
      replace hS := hS.sel (is := [2, 2, 1, 0, 0]) (A' := [pt g1 74 ([v5, (.int .i64 x29.2.2.1), (.int .i64 x29.2.2.2)]), pt g3 26 ([(.slice none 0 0), (.slice none 0 0)]), Ow kTGrant 33 (.slice none 0 0) ([] : List TGrant), Ow kTGrant 33 (.slice none 0 0) ([] : List TGrant), pt g2 26 ([(.slice none 0 0), (.slice none 0 0)])]) rfl
      exact ⟨x29.2.1, x29.2.2.1, x29.2.2.2, ([] : List TGrant), ([] : List TGrant), x29.1, s3, v5, (.slice none 0 0), (.slice none 0 0), hS, hF.cut ⟨rfl, rfl, rfl, rfl, trivial⟩, (Sub.refl _), h2, H⟩
    · clear H hS hF
      rintro a w ⟨x12, x13, x14, x15, x16, x6, s4, v6, v7, v8, hS, hF, hg2, h3, H⟩
      exact absurd (show none = some _ from H) (by simp)
    · clear H hS hF
      rintro k1 a w ⟨x12, x13, x14, x15, x16, x6, s4, v6, v7, v8, hS, hF, hg2, h3, H⟩
      rw [spec_l9Draw.l1.eq_2] at H
      refine sq ?_
      refine sq ?_
      refine rg ?_
      refine stp hF (p_move rfl) (by decide) (fun a hF => ?_)
      refine stp hF (p_gtr rfl rfl) (by decide) (fun a hF => ?_)
      refine nilN ?_
      refine xn ?_
      refine cnd hF rfl (fun hc1 => ?_) (fun hc1 => ?_)
      · replace H := hbt hc1 H
        refine skN ?_
        refine xn ?_
        obtain ⟨x24, H, HK2⟩ := hb H
        refine sqj (fun a w => ∃ (x7 : (List Int)) (x8 : Int) (x9 : Int) (x10 : (List TGrant)) (x11 : (List TGrant)) (s5 : HF) (v9 : Value) (v10 : Value) (v11 : Value) , St e s5 w [pt g1 74 ([v9, (.int .i64 x8), (.int .i64 x9)]), pt g3 26 ([v10, v11]), Ow kTGrant 33 v10 x10, Ow kTGrant 33 v11 x11, pt g2 26 ([(.slice none 0 0), (.slice none 0 0)])] ∧ Fr 36 a [(0, (.pointer (some ⟨g1, 0, none⟩))), (4, (.pointer (some ⟨g2, 0, none⟩))), (5, (.pointer (some ⟨g3, 0, none⟩))), (6, (.int .i64 x6))] ∧ Sub s4 s5 ∧ Sl (Kd.int .u8) s5 v9 x7 ∧ spec_l9Draw.c2 k1 (spec_l9Draw.l1 k1) x6 x7 x8 x9 x10 x11 = some x30) ?_ ?_
        · skip
          refine blk ?_
          refine sq ?_
          refine rg ?_
          refine stp hF (p_move rfl) (by decide) (fun a hF => ?_)
          obtain ⟨x17, hx2, H⟩ := hb H
          refine ste hF (e_call (fst := []) (vs := [(.pointer (some ⟨g1, 0, none⟩)), (.int .i64 5)]) (cap := []) rfl rfl go_60 (St.call (A := [pt g1 74 ([v6, (.int .i64 x13), (.int .i64 x14)])]) (B := [pt g3 26 ([v7, v8]), Ow kTGrant 33 v7 x15, Ow kTGrant 33 v8 x16, pt g2 26 ([(.slice none 0 0), (.slice none 0 0)])]) hS (spec_l1Below.spec k1 _ _ x12 x13 x14 5 v6 g1 h3 _ hx2))) (by decide) (fun v w a hR hF => ?_)
          obtain ⟨s6, A3, hg3, hS, hR⟩ := hR
          obtain ⟨v12, hv2, rfl, h4⟩ := hR; obtain rfl := hv2.symm
          have hS : St e s6 w [pt g1 74 ([v12, (.int .i64 x17.2.2.1), (.int .i64 x17.2.2.2)]), pt g3 26 ([v7, v8]), Ow kTGrant 33 v7 x15, Ow kTGrant 33 v8 x16, pt g2 26 ([(.slice none 0 0), (.slice none 0 0)])] := hS
          refine stp hF (p_add (c := w64 (1 + x17.1)) rfl rfl rfl) (by decide) (fun a hF => ?_)
          refine stp hF (p_assign rfl) (by decide) (fun a hF => ?_)
          refine nilN ?_
          refine xn ?_
          refine sq ?_
          refine rg ?_
          refine stp hF (p_move rfl) (by decide) (fun a hF => ?_)
          obtain ⟨x18, hx3, H⟩ := hb H
          refine ste hF (e_call (fst := []) (vs := [(.pointer (some ⟨g1, 0, none⟩)), (.int .i64 6)]) (cap := []) rfl rfl go_78 (St.call (A := [pt g1 74 ([v12, (.int .i64 x17.2.2.1), (.int .i64 x17.2.2.2)])]) (B := [pt g3 26 ([v7, v8]), Ow kTGrant 33 v7 x15, Ow kTGrant 33 v8 x16, pt g2 26 ([(.slice none 0 0), (.slice none 0 0)])]) hS (spec_l1Once.spec k1 _ _ x17.2.1 x17.2.2.1 x17.2.2.2 6 v12 g1 h4 _ hx3))) (by decide) (fun v w a hR hF => ?_)
          obtain ⟨s7, A4, hg4, hS, hR⟩ := hR
          obtain ⟨v13, hv3, rfl, h5⟩ := hR; obtain rfl := hv3.symm
          have hS : St e s7 w [pt g1 74 ([v13, (.int .i64 x18.2.2.1), (.int .i64 x18.2.2.2)]), pt g3 26 ([v7, v8]), Ow kTGrant 33 v7 x15, Ow kTGrant 33 v8 x16, pt g2 26 ([(.slice none 0 0), (.slice none 0 0)])] := hS
          refine nilN ?_
          refine xn ?_
          refine cnd hF rfl (fun hc2 => ?_) (fun hc2 => ?_)
          · replace H := hbt hc2 H
            refine rg ?_
            refine stp hF (p_move rfl) (by decide) (fun a hF => ?_)
            replace hS := hS.sel (is := [1, 1, 1, 0, 0]) (A' := [pt g3 26 ([v7, v8]), Ow kTGrant 33 v7 x15, Ow kTGrant 33 v8 x16, pt g1 74 ([v13, (.int .i64 x18.2.2.1), (.int .i64 x18.2.2.2)]), pt g2 26 ([(.slice none 0 0), (.slice none 0 0)])]) rfl
            obtain ⟨x19, hx4, H⟩ := hb H
            refine ste hF (e_call (fst := []) (vs := [(.pointer (some ⟨g3, 0, none⟩)), (.int .i64 (w64 (1 + x17.1)))]) (cap := []) rfl rfl go_49 (St.call (A := [pt g3 26 ([v7, v8]), Ow kTGrant 33 v7 x15, Ow kTGrant 33 v8 x16]) (B := [pt g1 74 ([v13, (.int .i64 x18.2.2.1), (.int .i64 x18.2.2.2)]), pt g2 26 ([(.slice none 0 0), (.slice none 0 0)])]) hS (spec_l9Drop.spec k1 _ _ x15 x16 (w64 (1 + x17.1)) v7 v8 g3 _ hx4))) (by decide) (fun v w a hR hF => ?_)
            obtain ⟨s8, A5, hg5, hS, hR⟩ := hR
            obtain ⟨v14, v15, v16, hv4, rfl⟩ := hR; obtain rfl := hv4.symm
            have hS : St e s8 w [pt g3 26 ([v14, v15]), Ow kTGrant 33 v14 x19.2.1, Ow kTGrant 33 v15 x19.2.2, Ow (Kd.int .i64) 3 v16 x19.1, pt g1 74 ([v13, (.int .i64 x18.2.2.1), (.int .i64 x18.2.2.2)]), pt g2 26 ([(.slice none 0 0), (.slice none 0 0)])] := hS
            refine nilN ?_
            refine bn (xn ?_)
            obtain rfl := hsm H
            replace hS := hS.sel (is := [4, 0, 0, 0, 1]) (A' := [pt g1 74 ([v13, (.int .i64 x18.2.2.1), (.int .i64 x18.2.2.2)]), pt g3 26 ([v14, v15]), Ow kTGrant 33 v14 x19.2.1, Ow kTGrant 33 v15 x19.2.2, pt g2 26 ([(.slice none 0 0), (.slice none 0 0)])]) rfl
            exact ⟨x18.2.1, x18.2.2.1, x18.2.2.2, x19.2.1, x19.2.2, s8, v13, v14, v15, hS, hF.cut ⟨rfl, rfl, rfl, rfl, trivial⟩, ((hg3.trans hg4).trans hg5), (h5.mono hg5), HK2⟩
          · replace H := hbf hc2 H
            refine sq ?_
            refine rg ?_
            refine stp hF (p_ldb_agg (i := 1) (l := []) (m := [v7, v8]) (r := []) hS rfl rfl ia_26 ti_26 rfl rfl rfl) (by decide) (fun a hF => ?_)
            refine stp hF (p_move rfl) (by decide) (fun a hF => ?_)
            replace hS := hS.sel (is := [2, 2, 0, 0, 0]) (A' := [Ow kTGrant 33 v7 x15, Ow kTGrant 33 v8 x16, pt g1 74 ([v13, (.int .i64 x18.2.2.1), (.int .i64 x18.2.2.2)]), pt g3 26 ([v7, v8]), pt g2 26 ([(.slice none 0 0), (.slice none 0 0)])]) rfl
            obtain ⟨s9, hg6, hl1, hcall1⟩ := St.lend (P := Try.prog) (Bs := [Ow kTGrant 33 v7 x15, Ow kTGrant 33 v8 x16]) (A := []) (B := [pt g1 74 ([v13, (.int .i64 x18.2.2.1), (.int .i64 x18.2.2.2)]), pt g3 26 ([v7, v8]), pt g2 26 ([(.slice none 0 0), (.slice none 0 0)])]) hS
            obtain ⟨h6, hl1⟩ := hl1.ow hg6
            obtain ⟨h7, hl1⟩ := hl1.ow hg6
            obtain ⟨x20, hx5, H⟩ := hb H
            refine ste hF (e_call (fst := []) (vs := [(.agg #[v7, v8]), (.int .i64 (w64 (1 + x17.1)))]) (cap := []) rfl rfl go_43 (hcall1 (spec_l9Waits.spec k1 _ _ (⟨x15, x16⟩ : TLocks) (w64 (1 + x17.1)) v7 v8 h6 h7 _ hx5) (by rintro v s1 A1 ⟨rfl, rfl⟩; exact trivial))) (by decide) (fun v w a hR hF => ?_)
            obtain ⟨s10, s11, A6, hg7, hS, hR⟩ := hR
            obtain ⟨hv5, rfl⟩ := hR; obtain rfl := hv5.symm
            have hS : St e s10 w [Ow kTGrant 33 v7 x15, Ow kTGrant 33 v8 x16, pt g1 74 ([v13, (.int .i64 x18.2.2.1), (.int .i64 x18.2.2.2)]), pt g3 26 ([v7, v8]), pt g2 26 ([(.slice none 0 0), (.slice none 0 0)])] := hS
            refine stp hF (p_not rfl) (by decide) (fun a hF => ?_)
            refine nilN ?_
            refine xn ?_
            refine cnd hF rfl (fun hc3 => ?_) (fun hc3 => ?_)
            · replace H := hbt hc3 H
              refine rg ?_
              refine stp hF (p_move rfl) (by decide) (fun a hF => ?_)
              refine stp hF (p_move rfl) (by decide) (fun a hF => ?_)
              replace hS := hS.sel (is := [2, 0, 0, 0, 0]) (A' := [pt g1 74 ([v13, (.int .i64 x18.2.2.1), (.int .i64 x18.2.2.2)]), Ow kTGrant 33 v7 x15, Ow kTGrant 33 v8 x16, pt g3 26 ([v7, v8]), pt g2 26 ([(.slice none 0 0), (.slice none 0 0)])]) rfl
              obtain ⟨x21, hx6, H⟩ := hb H
              refine ste hF (e_call (fst := []) (vs := [(.pointer (some ⟨g1, 0, none⟩)), (.int .i64 3)]) (cap := []) rfl rfl go_60 (St.call (A := [pt g1 74 ([v13, (.int .i64 x18.2.2.1), (.int .i64 x18.2.2.2)])]) (B := [Ow kTGrant 33 v7 x15, Ow kTGrant 33 v8 x16, pt g3 26 ([v7, v8]), pt g2 26 ([(.slice none 0 0), (.slice none 0 0)])]) hS (spec_l1Below.spec k1 _ _ x18.2.1 x18.2.2.1 x18.2.2.2 3 v13 g1 (h5.mono hg7) _ hx6))) (by decide) (fun v w a hR hF => ?_)
              obtain ⟨s12, A7, hg8, hS, hR⟩ := hR
              obtain ⟨v17, hv6, rfl, h8⟩ := hR; obtain rfl := hv6.symm
              have hS : St e s12 w [pt g1 74 ([v17, (.int .i64 x21.2.2.1), (.int .i64 x21.2.2.2)]), Ow kTGrant 33 v7 x15, Ow kTGrant 33 v8 x16, pt g3 26 ([v7, v8]), pt g2 26 ([(.slice none 0 0), (.slice none 0 0)])] := hS
              refine stp hF (p_move rfl) (by decide) (fun a hF => ?_)
              obtain ⟨x22, hx7, H⟩ := hb H
              refine ste hF (e_call (fst := []) (vs := [(.pointer (some ⟨g1, 0, none⟩)), (.int .i64 4)]) (cap := []) rfl rfl go_60 (St.call (A := [pt g1 74 ([v17, (.int .i64 x21.2.2.1), (.int .i64 x21.2.2.2)])]) (B := [Ow kTGrant 33 v7 x15, Ow kTGrant 33 v8 x16, pt g3 26 ([v7, v8]), pt g2 26 ([(.slice none 0 0), (.slice none 0 0)])]) hS (spec_l1Below.spec k1 _ _ x21.2.1 x21.2.2.1 x21.2.2.2 4 v17 g1 h8 _ hx7))) (by decide) (fun v w a hR hF => ?_)
              obtain ⟨s13, A8, hg9, hS, hR⟩ := hR
              obtain ⟨v18, hv7, rfl, h9⟩ := hR; obtain rfl := hv7.symm
              have hS : St e s13 w [pt g1 74 ([v18, (.int .i64 x22.2.2.1), (.int .i64 x22.2.2.2)]), Ow kTGrant 33 v7 x15, Ow kTGrant 33 v8 x16, pt g3 26 ([v7, v8]), pt g2 26 ([(.slice none 0 0), (.slice none 0 0)])] := hS
              refine stp hF (p_add (c := w64 (1 + x22.1)) rfl rfl rfl) (by decide) (fun a hF => ?_)
              refine stp hF (p_build (ps := [(0, (.tmp 27)), (1, (.tmp 29)), (2, (.tmp 32))]) (vs := [(0, (.int .i64 (w64 (1 + x17.1)))), (1, (.int .i64 x21.1)), (2, (.int .i64 (w64 (1 + x22.1))))]) (v := (.agg #[(.int .i64 (w64 (1 + x17.1))), (.int .i64 x21.1), (.int .i64 (w64 (1 + x22.1)))])) rfl (by intro w; kernel_rfl)) (by decide) (fun a hF => ?_)
              replace hS := hS.sel (is := [3, 1, 1, 0, 0]) (A' := [pt g3 26 ([v7, v8]), Ow kTGrant 33 v7 x15, Ow kTGrant 33 v8 x16, pt g1 74 ([v18, (.int .i64 x22.2.2.1), (.int .i64 x22.2.2.2)]), pt g2 26 ([(.slice none 0 0), (.slice none 0 0)])]) rfl
              obtain ⟨x23, hx8, H⟩ := hb H
              refine ste hF (e_call (fst := []) (vs := [(.pointer (some ⟨g3, 0, none⟩)), (.agg #[(.int .i64 (w64 (1 + x17.1))), (.int .i64 x21.1), (.int .i64 (w64 (1 + x22.1)))])]) (cap := []) rfl rfl go_44 (St.call (A := [pt g3 26 ([v7, v8]), Ow kTGrant 33 v7 x15, Ow kTGrant 33 v8 x16]) (B := [pt g1 74 ([v18, (.int .i64 x22.2.2.1), (.int .i64 x22.2.2.2)]), pt g2 26 ([(.slice none 0 0), (.slice none 0 0)])]) hS (spec_l9Ask.spec k1 _ _ x15 x16 (⟨w64 (1 + x17.1), x21.1, w64 (1 + x22.1)⟩ : TGrant) v7 v8 g3 _ hx8))) (by decide) (fun v w a hR hF => ?_)
              obtain ⟨s14, A9, hg10, hS, hR⟩ := hR
              obtain ⟨v19, v20, hv8, rfl⟩ := hR; obtain rfl := hv8.symm
              have hS : St e s14 w [pt g3 26 ([v19, v20]), Ow kTGrant 33 v19 x23.2.1, Ow kTGrant 33 v20 x23.2.2, pt g1 74 ([v18, (.int .i64 x22.2.2.1), (.int .i64 x22.2.2.2)]), pt g2 26 ([(.slice none 0 0), (.slice none 0 0)])] := hS
              refine nilN ?_
              refine bn (xn ?_)
              obtain rfl := hsm H
              replace hS := hS.sel (is := [3, 0, 0, 0, 0]) (A' := [pt g1 74 ([v18, (.int .i64 x22.2.2.1), (.int .i64 x22.2.2.2)]), pt g3 26 ([v19, v20]), Ow kTGrant 33 v19 x23.2.1, Ow kTGrant 33 v20 x23.2.2, pt g2 26 ([(.slice none 0 0), (.slice none 0 0)])]) rfl
              exact ⟨x22.2.1, x22.2.2.1, x22.2.2.2, x23.2.1, x23.2.2, s14, v18, v19, v20, hS, hF.cut ⟨rfl, rfl, rfl, rfl, trivial⟩, (((((hg3.trans hg4).trans hg7).trans hg8).trans hg9).trans hg10), (h9.mono hg10), HK2⟩
            · replace H := hbf hc3 H
              refine skN ?_
              refine bn (xn ?_)
              obtain rfl := hsm H
              replace hS := hS.sel (is := [2, 2, 0, 0, 0]) (A' := [pt g1 74 ([v13, (.int .i64 x18.2.2.1), (.int .i64 x18.2.2.2)]), pt g3 26 ([v7, v8]), Ow kTGrant 33 v7 x15, Ow kTGrant 33 v8 x16, pt g2 26 ([(.slice none 0 0), (.slice none 0 0)])]) rfl
              exact ⟨x18.2.1, x18.2.2.1, x18.2.2.2, x15, x16, s10, v13, v7, v8, hS, hF.cut ⟨rfl, rfl, rfl, rfl, trivial⟩, ((hg3.trans hg4).trans hg7), (h5.mono hg7), HK2⟩
        · clear H HK2 hS hF
          rintro a w ⟨x7, x8, x9, x10, x11, s5, v9, v10, v11, hS, hF, hg11, h10, H⟩
          unfold spec_l9Draw.c2 at H
          refine rg ?_
          refine stp hF (p_move rfl) (by decide) (fun a hF => ?_)
          refine stp hF (p_sub (c := w64 (x6 - 1)) rfl rfl rfl) (by decide) (fun a hF => ?_)
          refine stp hF (p_assign rfl) (by decide) (fun a hF => ?_)
          refine nilN ?_
          refine xn ?_
          exact ⟨x7, x8, x9, x10, x11, (w64 (x6 - 1)), s5, v9, v10, v11, hS, hF.cut ⟨rfl, rfl, rfl, rfl, trivial⟩, (hg2.trans hg11), h10, H⟩
      · replace H := hbf hc1 H
        refine exi ?_
        refine xe (xe (hit (xn ?_)))
        obtain rfl := hsm H
        replace hS := hS.sel (is := [1, 1, 1, 1, 0]) (A' := [pt g3 26 ([v7, v8]), Ow kTGrant 33 v7 x15, Ow kTGrant 33 v8 x16, pt g2 26 ([(.slice none 0 0), (.slice none 0 0)]), pt g1 74 ([v6, (.int .i64 x13), (.int .i64 x14)])]) rfl
        exact ⟨x15, x16, x12, x13, x14, s4, v7, v8, v6, hS, hF.cut ⟨rfl, rfl, trivial⟩, (hg1.trans hg2), h3, HK1⟩
  · clear H HK1 hS hF
    rintro a w ⟨x1, x2, x3, x4, x5, s2, v2, v3, v4, hS, hF, hg12, h11, H⟩
    unfold spec_l9Draw.c1 at H
    refine sq ?_
    refine rg ?_
    refine stp hF (p_ldb_agg (i := 0) (l := []) (m := [v2, v3]) (r := []) hS rfl rfl ia_26 ti_26 rfl rfl rfl) (by decide) (fun a hF => ?_)
    refine ste0 hF (e_stb (i := 3) (l := []) (m := [(.slice none 0 0), (.slice none 0 0)]) (r := []) (m' := [v2, v3]) (cs' := [v2, v3]) hS rfl rfl rfl ti_26 rfl rfl rfl rfl rfl (one_cons (hS.one_ow (i := 1) rfl) (one_cons (hS.one_ow (i := 2) rfl) one_nil)) rfl) (fun v w a hR hF => ?_)
    have hS : St e s2 w [pt g2 26 ([v2, v3]), pt g3 26 ([v2, v3]), Ow kTGrant 33 v2 x1, Ow kTGrant 33 v3 x2, pt g1 74 ([v4, (.int .i64 x4), (.int .i64 x5)])] := hR
    refine nilN ?_
    refine xn ?_
    refine rt ?_
    obtain rfl := hsm H
    have h12 : RvOk Try.prog _ w (.cell 4 26) _ := rvC (i := 0) hS rfl (show lk [(4, (.pointer (some ⟨g2, 0, none⟩)))] 4 = _ from rfl) ia_26 ti_26 rfl
    replace hS := hS.sel (is := [4, 2, 2]) (A' := [pt g1 74 ([v4, (.int .i64 x4), (.int .i64 x5)]), Ow kTGrant 33 v2 x1, Ow kTGrant 33 v3 x2]) rfl
    exact retc1 hF rfl h12 hS ⟨v4, v2, v3, rfl, rfl, h11⟩

def spec_l1Int.f (k : Nat) (x1 : (List Int)) (x2 : Int) (x3 : Int) (x4 : (List Int)) : Option (Int × (List Int) × Int × Int) :=
  ((spec_l1Below.f k x1 x2 x3 (x4.length : Int)).bind fun x5 => (if 0 ≤ x5.1 ∧ x5.1 < (x4.length : Int) then (some (rd x4 x5.1, x5.2.1, x5.2.2.1, x5.2.2.2)) else none))
set_option maxRecDepth 100000 in
set_option maxHeartbeats 4000000 in
theorem spec_l1Int.spec (k : Nat) (s0 : HF) (w : World) (x1 : (List Int)) (x2 : Int) (x3 : Int) (x4 : (List Int)) (v1 : Value) (g1 : Nat) (v2 : Value) (h1 : Sl (Kd.int .u8) s0 v1 x1) (h2 : Sl (Kd.int .i64) s0 v2 x4) (r : Int × (List Int) × Int × Int) (H : spec_l1Int.f k x1 x2 x3 x4 = some r) :
    Law Try.prog 30 #[(.pointer (some ⟨g1, 0, none⟩)), v2] s0 w [pt g1 74 ([v1, (.int .i64 x2), (.int .i64 x3)])] (fun v s1 A1 => ∃ (u0 : Value), v = (.int .i64 r.1) ∧ A1 = [pt g1 74 ([u0, (.int .i64 r.2.2.1), (.int .i64 r.2.2.2)])] ∧ Sl (Kd.int .u8) s1 u0 r.2.1) := by
  unfold spec_l1Int.f at H
  refine Law.intro Try.func30 rfl [(0, (.pointer (some ⟨g1, 0, none⟩))), (1, v2)] (Nat.le_of_ble_eq_true rfl) (enter_lk ⟨rfl, rfl, trivial⟩) (fun e a hS hF => ?_)
  have hF : Fr 12 a [(0, (.pointer (some ⟨g1, 0, none⟩))), (1, v2)] := hF
  refine sq ?_
  refine rg ?_
  refine stp hF (p_assign rfl) (by decide) (fun a hF => ?_)
  refine nilN ?_
  refine xn ?_
  refine sq ?_
  refine rg ?_
  refine stp hF (p_move rfl) (by decide) (fun a hF => ?_)
  refine stp hF (p_move rfl) (by decide) (fun a hF => ?_)
  refine stp hF (p_move rfl) (by decide) (fun a hF => ?_)
  refine stp hF (p_lenr un_39 rfl h2) (by decide) (fun a hF => ?_)
  obtain ⟨x5, hx1, H⟩ := hb H
  refine ste hF (e_call (fst := []) (vs := [(.pointer (some ⟨g1, 0, none⟩)), (.int .i64 (x4.length : Int))]) (cap := []) rfl rfl go_60 (St.call (A := [pt g1 74 ([v1, (.int .i64 x2), (.int .i64 x3)])]) (B := []) hS (spec_l1Below.spec k _ _ x1 x2 x3 (x4.length : Int) v1 g1 h1 _ hx1))) (by decide) (fun v w a hR hF => ?_)
  obtain ⟨s2, A2, hg1, hS, hR⟩ := hR
  obtain ⟨v3, hv1, rfl, h3⟩ := hR; obtain rfl := hv1.symm
  have hS : St e s2 w [pt g1 74 ([v3, (.int .i64 x5.2.2.1), (.int .i64 x5.2.2.2)])] := hS
  obtain ⟨hq1, H⟩ := hck H
  obtain ⟨ad1, h4, p1⟩ := p_idxr (P := Try.prog) (i := x5.1) (h2.mono hg1) un_39 ti_3 hq1.1 hq1.2
  refine stp hF (p1 rfl rfl) (by decide) (fun a hF => ?_)
  refine stp hF (p_ldr_int rfl hS h4 ia_3) (by decide) (fun a hF => ?_)
  refine stp hF (p_assign rfl) (by decide) (fun a hF => ?_)
  refine nilN ?_
  refine xn ?_
  refine rt ?_
  obtain rfl := hsm H
  exact ret1 hF rfl rfl hS ⟨v3, rfl, rfl, h3⟩
end Go.Proofs.Ytbcpkopchnlefaa
