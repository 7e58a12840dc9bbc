/- Functions of this place as plain functions, and that the machine comes to what they say. Conditions: none. -/
import Derived.Test.YtplgbgcfgnobdaaKwXT
set_option linter.unusedVariables false
set_option linter.unusedSimpArgs false
namespace Go.Proofs.Ytplgbgcfgnobdaa
open Go.Kw

def laws_big.f (k : Nat) (x1 : (List Int)) : Option Bool :=
  (some (decide (1048576 < (x1.length : Int))))
set_option maxRecDepth 100000 in
set_option maxHeartbeats 4000000 in
theorem laws_big.spec (k : Nat) (s0 : HF) (w : World) (x1 : (List Int)) (v1 : Value) (h1 : Sl (Kd.int .u8) s0 v1 x1) (r : Bool) (H : laws_big.f k x1 = some r) :
    Law Try.prog 5 #[v1] s0 w [] (fun v s1 A1 => v = (.bool r) ∧ A1 = []) := by
  unfold laws_big.f at H
  refine Law.intro Try.func5 rfl [(0, v1)] (Nat.le_of_ble_eq_true rfl) (enter_lk ⟨rfl, trivial⟩) (fun e a hS hF => ?_)
  have hF : Fr 6 a [(0, v1)] := hF
  refine sq ?_
  refine rg ?_
  refine stp hF (p_assign rfl) (by decide) (fun a hF => ?_)
  refine nilN ?_
  refine xn ?_
  refine sq ?_
  refine rg ?_
  refine stp hF (p_move rfl) (by decide) (fun a hF => ?_)
  refine stp hF (p_lenr un_22 rfl h1) (by decide) (fun a hF => ?_)
  refine stp hF (p_gtr rfl rfl) (by decide) (fun a hF => ?_)
  refine stp hF (p_assign rfl) (by decide) (fun a hF => ?_)
  refine nilN ?_
  refine xn ?_
  refine rt ?_
  obtain rfl := hsm H
  exact ret1 hF rfl rfl hS ⟨rfl, rfl⟩

def spec_l1New.c1 (k : Nat) (x1 : (List Int)) (x2 : Int) : Option Tl1Cur :=
  (some (⟨x1, 0, x2⟩ : Tl1Cur))
def spec_l1New.l1 (x1 : (List Int)) : Nat → Int → Int → Option Int
  | 0, _, _ => none
  | k + 1, x3, x4 => (if ((decide (x4 < (x1.length : Int))) && (decide (x4 < 4000))) = true then (if 0 ≤ x4 ∧ x4 < (x1.length : Int) then ((spec_l1New.l1 x1 k) (band .i64 (w64 ((w64 ((w64 (x3 * 137)) + (w64 (rd x1 x4)))) + 11)) 1073741823) (w64 (x4 + 1))) else none) else (some x3))
def spec_l1New.f (k : Nat) (x1 : (List Int)) : Option Tl1Cur :=
  (((spec_l1New.l1 x1 k (w64 (278278 + (x1.length : Int))) 0) : Option Int).bind fun x5 => spec_l1New.c1 k x1 x5)
set_option maxRecDepth 100000 in
set_option maxHeartbeats 4000000 in
theorem spec_l1New.spec (k : Nat) (s0 : HF) (w : World) (x1 : (List Int)) (v1 : Value) (h1 : Sl (Kd.int .u8) s0 v1 x1) (r : Tl1Cur) (H : spec_l1New.f k x1 = some r) :
    Law Try.prog 15 #[v1] s0 w [] (fun v s1 A1 => ∃ (u0 : Nat) (u1 : Value), v = (.pointer (some ⟨u0, 0, none⟩)) ∧ A1 = [pt u0 58 ([u1, (.int .i64 r.i), (.int .i64 r.h_)])] ∧ Sl (Kd.int .u8) s1 u1 r.b) := by
  unfold spec_l1New.f at H
  refine Law.intro Try.func15 rfl [(0, v1)] (Nat.le_of_ble_eq_true rfl) (enter_lk ⟨rfl, trivial⟩) (fun e a hS hF => ?_)
  have hF : Fr 32 a [(0, v1)] := hF
  refine sq ?_
  refine rg ?_
  refine stp hF (p_assign rfl) (by decide) (fun a hF => ?_)
  refine nilN ?_
  refine xn ?_
  refine sq ?_
  refine rg ?_
  refine stp hF (p_move rfl) (by decide) (fun a hF => ?_)
  refine stp hF (p_lenr un_22 rfl h1) (by decide) (fun a hF => ?_)
  refine stp hF (p_add (c := w64 (278278 + (x1.length : Int))) rfl rfl rfl) (by decide) (fun a hF => ?_)
  refine stp hF (p_assign rfl) (by decide) (fun a hF => ?_)
  refine nilN ?_
  refine xn ?_
  obtain ⟨x5, H, HK1⟩ := hb H
  refine sqj (fun a w => ∃ (x2 : Int) , St e s0 w [] ∧ Fr 32 a [(0, v1), (3, (.int .i64 x2))] ∧ spec_l1New.c1 k x1 x2 = some r) ?_ ?_
  · skip
    refine sq ?_
    refine rg ?_
    refine stp hF (p_assign rfl) (by decide) (fun a hF => ?_)
    refine nilN ?_
    refine xn ?_
    refine blk ?_
    refine loop_ind (fun k1 a w => ∃ (x3 : Int) (x4 : Int) , St e s0 w [] ∧ Fr 32 a [(0, v1), (3, (.int .i64 x3)), (4, (.int .i64 x4))] ∧ spec_l1New.l1 x1 k1 x3 x4 = some x5) k ?_ ?_ ?_
    · skip
      exact ⟨(w64 (278278 + (x1.length : Int))), 0, hS, hF.cut ⟨rfl, rfl, rfl, trivial⟩, H⟩
    · clear H hS hF
      rintro a w ⟨x3, x4, hS, hF, H⟩
      exact absurd (show none = some _ from H) (by simp)
    · clear H hS hF
      rintro k1 a w ⟨x3, x4, hS, hF, H⟩
      rw [spec_l1New.l1.eq_2] at H
      refine sq ?_
      refine sq ?_
      refine rg ?_
      refine stp hF (p_move rfl) (by decide) (fun a hF => ?_)
      refine stp hF (p_move rfl) (by decide) (fun a hF => ?_)
      refine stp hF (p_lenr un_22 rfl h1) (by decide) (fun a hF => ?_)
      refine stp hF (p_lss rfl rfl) (by decide) (fun a hF => ?_)
      refine stp hF (p_move rfl) (by decide) (fun a hF => ?_)
      refine cutj 3 (fun a w => St e s0 w [] ∧ Fr 32 a [(0, v1), (3, (.int .i64 x3)), (4, (.int .i64 x4)), (15, (.bool ((decide (x4 < (x1.length : Int))) && (decide (x4 < 4000)))))]) rfl rfl ?_ ?_
      · rcases Bool.eq_false_or_eq_true (decide (x4 < (x1.length : Int))) with hc1 | hc1
        · skip
          refine gonE (j := 4) hF rfl rfl hc1 ?_
          refine stp hF (p_move rfl) (by decide) (fun a hF => ?_)
          refine gonE (j := 4) hF rfl rfl hc1 ?_
          refine stp hF (p_lss rfl rfl) (by decide) (fun a hF => ?_)
          refine stp hF (p_andT rfl hc1 rfl) (by decide) (fun a hF => ?_)
          refine nilN ?_
          refine xn ?_
          exact ⟨hS, hF.cut ⟨rfl, rfl, rfl, rfl, trivial⟩⟩
        · skip
          refine gofD (j := 4) hF rfl rfl (by rw [hc1]; decide) (by decide) (fun a hF => ?_)
          refine gofD (j := 4) hF rfl rfl (by rw [hc1]; decide) (by decide) (fun a hF => ?_)
          refine stp hF (p_andF (decide (x4 < 4000)) rfl hc1 rfl) (by decide) (fun a hF => ?_)
          refine nilN ?_
          refine xn ?_
          exact ⟨hS, hF.cut ⟨rfl, rfl, rfl, rfl, trivial⟩⟩
      clear hS hF
      rintro a w ⟨hS, hF⟩
      refine nilN ?_
      refine xn ?_
      refine cnd hF rfl (fun hc2 => ?_) (fun hc2 => ?_)
      · replace H := hbt hc2 H
        refine skN ?_
        refine xn ?_
        refine sq ?_
        refine blk ?_
        refine rg ?_
        refine stp hF (p_move rfl) (by decide) (fun a hF => ?_)
        refine stp hF (p_mul (c := w64 (x3 * 137)) rfl rfl rfl) (by decide) (fun a hF => ?_)
        refine stp hF (p_move rfl) (by decide) (fun a hF => ?_)
        refine stp hF (p_move rfl) (by decide) (fun a hF => ?_)
        obtain ⟨hq1, H⟩ := hck H
        obtain ⟨ad1, h2, p1⟩ := p_idxr (P := Try.prog) (i := x4) h1 un_22 ti_5 hq1.1 hq1.2
        refine stp hF (p1 rfl rfl) (by decide) (fun a hF => ?_)
        refine stp hF (p_ldr_int rfl hS h2 ia_5) (by decide) (fun a hF => ?_)
        refine stp hF (p_cvint (c := w64 (rd x1 x4)) un_5 un_3 rfl rfl) (by decide) (fun a hF => ?_)
        refine stp hF (p_add (c := w64 ((w64 (x3 * 137)) + (w64 (rd x1 x4)))) rfl rfl rfl) (by decide) (fun a hF => ?_)
        refine stp hF (p_add (c := w64 ((w64 ((w64 (x3 * 137)) + (w64 (rd x1 x4)))) + 11)) rfl rfl rfl) (by decide) (fun a hF => ?_)
        refine stp hF (p_and (c := band .i64 (w64 ((w64 ((w64 (x3 * 137)) + (w64 (rd x1 x4)))) + 11)) 1073741823) rfl rfl rfl) (by decide) (fun a hF => ?_)
        refine stp hF (p_assign rfl) (by decide) (fun a hF => ?_)
        refine nilN ?_
        refine bn (xn ?_)
        refine rg ?_
        refine stp hF (p_move rfl) (by decide) (fun a hF => ?_)
        refine stp hF (p_add (c := w64 (x4 + 1)) rfl rfl rfl) (by decide) (fun a hF => ?_)
        refine stp hF (p_assign rfl) (by decide) (fun a hF => ?_)
        refine nilN ?_
        refine xn ?_
        exact ⟨(band .i64 (w64 ((w64 ((w64 (x3 * 137)) + (w64 (rd x1 x4)))) + 11)) 1073741823), (w64 (x4 + 1)), hS, hF.cut ⟨rfl, rfl, rfl, trivial⟩, H⟩
      · replace H := hbf hc2 H
        refine exi ?_
        refine xe (xe (hit (xn ?_)))
        obtain rfl := hsm H
        exact ⟨x3, hS, hF.cut ⟨rfl, rfl, trivial⟩, HK1⟩
  · clear H HK1 hS hF
    rintro a w ⟨x2, hS, hF, H⟩
    unfold spec_l1New.c1 at H
    refine sq ?_
    refine rg ?_
    refine stp hF (p_move rfl) (by decide) (fun a hF => ?_)
    refine stp hF (p_move rfl) (by decide) (fun a hF => ?_)
    refine stp hF (p_build (ps := [(0, (.tmp 28)), (2, (.tmp 29))]) (vs := [(0, v1), (2, (.int .i64 x2))]) (v := (.agg #[v1, (.int .i64 0), (.int .i64 x2)])) rfl (by intro w; obtain ⟨_, _, _, e1⟩ := Sl.el h1; rw [e1]; kernel_rfl)) (by decide) (fun a hF => ?_)
    refine ste hF (e_box (cs := [v1, (.int .i64 0), (.int .i64 x2)]) hS rfl rfl) (by decide) (fun v w a hR hF => ?_)
    obtain ⟨g1, rfl, hS⟩ := hR
    refine stp hF (p_assign rfl) (by decide) (fun a hF => ?_)
    refine nilN ?_
    refine xn ?_
    refine rt ?_
    obtain rfl := hsm H
    exact ret1 hF rfl rfl hS ⟨g1, v1, rfl, rfl, h1⟩

def spec_l1Byte.c1 (k : Nat) (x1 : (List Int)) (x2 : Int) (x3 : Int) (x4 : Int) : Option (Int × (List Int) × Int × Int) :=
  (some (x4, x1, x3, w64 ((w64 (x2 * 6364136223846793005)) + 1442695040888963407)))
def spec_l1Byte.f (k : Nat) (x1 : (List Int)) (x5 : Int) (x2 : Int) : Option (Int × (List Int) × Int × Int) :=
  (((if (decide (x5 < (x1.length : Int))) = true then (if 0 ≤ x5 ∧ x5 < (x1.length : Int) then (some (w64 (x5 + 1), band .i64 (w64 ((band .i64 (bxor .i64 (bshr .i64 (w64 ((w64 (x2 * 6364136223846793005)) + 1442695040888963407)) 33) (bshr .i64 (w64 ((w64 (x2 * 6364136223846793005)) + 1442695040888963407)) 47)) 255) + (w64 (rd x1 x5)))) 255)) else none) else (some (x5, band .i64 (bxor .i64 (bshr .i64 (w64 ((w64 (x2 * 6364136223846793005)) + 1442695040888963407)) 33) (bshr .i64 (w64 ((w64 (x2 * 6364136223846793005)) + 1442695040888963407)) 47)) 255))) : Option (Int × Int)).bind fun x6 => spec_l1Byte.c1 k x1 x2 x6.1 x6.2)
set_option maxRecDepth 100000 in
set_option maxHeartbeats 4000000 in
theorem spec_l1Byte.spec (k : Nat) (s0 : HF) (w : World) (x1 : (List Int)) (x5 : Int) (x2 : Int) (v1 : Value) (g1 : Nat) (h1 : Sl (Kd.int .u8) s0 v1 x1) (r : Int × (List Int) × Int × Int) (H : spec_l1Byte.f k x1 x5 x2 = some r) :
    Law Try.prog 37 #[(.pointer (some ⟨g1, 0, none⟩))] s0 w [pt g1 58 ([v1, (.int .i64 x5), (.int .i64 x2)])] (fun v s1 A1 => ∃ (u0 : Value), v = (.int .i64 r.1) ∧ A1 = [pt g1 58 ([u0, (.int .i64 r.2.2.1), (.int .i64 r.2.2.2)])] ∧ Sl (Kd.int .u8) s1 u0 r.2.1) := by
  unfold spec_l1Byte.f at H
  refine Law.intro Try.func37 rfl [(0, (.pointer (some ⟨g1, 0, none⟩)))] (Nat.le_of_ble_eq_true rfl) (enter_lk ⟨rfl, trivial⟩) (fun e a hS hF => ?_)
  have hF : Fr 58 a [(0, (.pointer (some ⟨g1, 0, none⟩)))] := hF
  refine sq ?_
  refine rg ?_
  refine stp hF (p_assign rfl) (by decide) (fun a hF => ?_)
  refine nilN ?_
  refine xn ?_
  refine sq ?_
  refine rg ?_
  refine stp hF (p_move rfl) (by decide) (fun a hF => ?_)
  refine stp hF (p_move rfl) (by decide) (fun a hF => ?_)
  refine stp hF (p_nilck rfl) (by decide) (fun a hF => ?_)
  refine stp hF (p_fldb (o' := 2) rfl fi_58_2 rfl) (by decide) (fun a hF => ?_)
  refine stp hF (p_ldb_one (i := 0) hS rfl rfl ia_3 rfl) (by decide) (fun a hF => ?_)
  refine stp hF (p_mul (c := w64 (x2 * 6364136223846793005)) rfl rfl rfl) (by decide) (fun a hF => ?_)
  refine stp hF (p_add (c := w64 ((w64 (x2 * 6364136223846793005)) + 1442695040888963407)) rfl rfl rfl) (by decide) (fun a hF => ?_)
  refine stp hF (p_nilck rfl) (by decide) (fun a hF => ?_)
  refine stp hF (p_fldb (o' := 2) rfl fi_58_2 rfl) (by decide) (fun a hF => ?_)
  refine ste0 hF (e_stb (i := 0) (l := [v1, (.int .i64 x5)]) (m := [(.int .i64 x2)]) (r := []) (m' := [(.int .i64 (w64 ((w64 (x2 * 6364136223846793005)) + 1442695040888963407)))]) (cs' := [v1, (.int .i64 x5), (.int .i64 (w64 ((w64 (x2 * 6364136223846793005)) + 1442695040888963407)))]) hS rfl rfl rfl ti_3 rfl rfl rfl rfl rfl (one_cons rfl one_nil) rfl) (fun v w a hR hF => ?_)
  have hS : St e s0 w [pt g1 58 ([v1, (.int .i64 x5), (.int .i64 (w64 ((w64 (x2 * 6364136223846793005)) + 1442695040888963407)))])] := hR
  refine nilN ?_
  refine xn ?_
  refine sq ?_
  replace hS : St e s0 w.drew [pt g1 58 ([v1, (.int .i64 x5), (.int .i64 (w64 ((w64 (x2 * 6364136223846793005)) + 1442695040888963407)))])] := hS.drewN 1
  refine drw [0, 1, 2, 3, 4, 5, 6, 7, 8, 9, 10, 11, 12] mixed (by kernel_rfl) (by decide) (hF.cut (L' := [(0, (.pointer (some ⟨g1, 0, none⟩))), (2, (.int .i64 0)), (4, (.pointer (some ⟨g1, 0, none⟩))), (5, (.pointer (some ⟨g1, 0, none⟩))), (6, (.pointer (some ⟨g1, 0, none⟩))), (7, (.pointer (some ⟨g1, 2, none⟩))), (8, (.int .i64 x2)), (9, (.int .i64 (w64 (x2 * 6364136223846793005)))), (10, (.int .i64 (w64 ((w64 (x2 * 6364136223846793005)) + 1442695040888963407)))), (11, (.pointer (some ⟨g1, 0, none⟩))), (12, (.pointer (some ⟨g1, 2, none⟩)))]) ⟨rfl, rfl, rfl, rfl, rfl, rfl, rfl, rfl, rfl, rfl, rfl, trivial⟩) ?_
  clear hF
  generalize w.drew = w at hS ⊢
  refine pk1 rfl (by decide) rfl (by kernel_rfl) rfl (p_move rfl) ?_
  refine pk1 rfl (by decide) rfl (by kernel_rfl) rfl (p_nilck rfl) ?_
  refine pk1 rfl (by decide) rfl (by kernel_rfl) rfl (p_fldb (o' := 2) rfl fi_58_2 rfl) ?_
  refine pk1 rfl (by decide) rfl (by kernel_rfl) rfl (p_ldb_one (i := 0) hS rfl rfl ia_3 rfl) ?_
  refine pk1 rfl (by decide) rfl (by kernel_rfl) rfl (p_shr (c := bshr .i64 (w64 ((w64 (x2 * 6364136223846793005)) + 1442695040888963407)) 33) rfl rfl (by decide) rfl) ?_
  refine pk1 rfl (by decide) rfl (by kernel_rfl) rfl (p_move rfl) ?_
  refine pk1 rfl (by decide) rfl (by kernel_rfl) rfl (p_nilck rfl) ?_
  refine pk1 rfl (by decide) rfl (by kernel_rfl) rfl (p_fldb (o' := 2) rfl fi_58_2 rfl) ?_
  refine pk1 rfl (by decide) rfl (by kernel_rfl) rfl (p_ldb_one (i := 0) hS rfl rfl ia_3 rfl) ?_
  refine pk1 rfl (by decide) rfl (by kernel_rfl) rfl (p_shr (c := bshr .i64 (w64 ((w64 (x2 * 6364136223846793005)) + 1442695040888963407)) 47) rfl rfl (by decide) rfl) ?_
  refine pk1 rfl (by decide) rfl (by kernel_rfl) rfl (p_xor (c := bxor .i64 (bshr .i64 (w64 ((w64 (x2 * 6364136223846793005)) + 1442695040888963407)) 33) (bshr .i64 (w64 ((w64 (x2 * 6364136223846793005)) + 1442695040888963407)) 47)) rfl rfl rfl) ?_
  refine pk1 rfl (by decide) rfl (by kernel_rfl) rfl (p_and (c := band .i64 (bxor .i64 (bshr .i64 (w64 ((w64 (x2 * 6364136223846793005)) + 1442695040888963407)) 33) (bshr .i64 (w64 ((w64 (x2 * 6364136223846793005)) + 1442695040888963407)) 47)) 255) rfl rfl rfl) ?_
  refine pkE [] rfl (by decide) (by kernel_rfl) (by kernel_rfl) (puEf (p_assign rfl)) ?_
  rintro v w' ⟨rfl, rfl⟩
  refine ⟨trivial, ?_⟩
  refine pkF (fun a hF => ?_)
  refine xn ?_
  obtain ⟨x6, H, HK1⟩ := hb H
  refine sqj (fun a w => ∃ (x3 : Int) (x4 : Int) , St e s0 w [pt g1 58 ([v1, (.int .i64 x3), (.int .i64 (w64 ((w64 (x2 * 6364136223846793005)) + 1442695040888963407)))])] ∧ Fr 58 a [(3, (.int .i64 x4))] ∧ spec_l1Byte.c1 k x1 x2 x3 x4 = some r) ?_ ?_
  · skip
    refine sq ?_
    replace hS : St e s0 w.drew [pt g1 58 ([v1, (.int .i64 x5), (.int .i64 (w64 ((w64 (x2 * 6364136223846793005)) + 1442695040888963407)))])] := hS.drewN 1
    refine drw [0, 1, 2, 3, 4, 5, 6, 7, 8, 9] mixed (by kernel_rfl) (by decide) (hF.cut (L' := [(0, (.pointer (some ⟨g1, 0, none⟩))), (2, (.int .i64 0)), (3, (.int .i64 (band .i64 (bxor .i64 (bshr .i64 (w64 ((w64 (x2 * 6364136223846793005)) + 1442695040888963407)) 33) (bshr .i64 (w64 ((w64 (x2 * 6364136223846793005)) + 1442695040888963407)) 47)) 255))), (4, (.pointer (some ⟨g1, 0, none⟩))), (5, (.pointer (some ⟨g1, 0, none⟩))), (6, (.pointer (some ⟨g1, 0, none⟩))), (7, (.pointer (some ⟨g1, 2, none⟩))), (8, (.int .i64 x2)), (9, (.int .i64 (w64 (x2 * 6364136223846793005)))), (10, (.int .i64 (w64 ((w64 (x2 * 6364136223846793005)) + 1442695040888963407)))), (11, (.pointer (some ⟨g1, 0, none⟩))), (12, (.pointer (some ⟨g1, 2, none⟩))), (13, (.pointer (some ⟨g1, 0, none⟩))), (14, (.pointer (some ⟨g1, 0, none⟩))), (15, (.pointer (some ⟨g1, 2, none⟩))), (16, (.int .i64 (w64 ((w64 (x2 * 6364136223846793005)) + 1442695040888963407)))), (17, (.int .i64 (bshr .i64 (w64 ((w64 (x2 * 6364136223846793005)) + 1442695040888963407)) 33))), (18, (.pointer (some ⟨g1, 0, none⟩))), (19, (.pointer (some ⟨g1, 0, none⟩))), (20, (.pointer (some ⟨g1, 2, none⟩))), (21, (.int .i64 (w64 ((w64 (x2 * 6364136223846793005)) + 1442695040888963407)))), (22, (.int .i64 (bshr .i64 (w64 ((w64 (x2 * 6364136223846793005)) + 1442695040888963407)) 47))), (23, (.int .i64 (bxor .i64 (bshr .i64 (w64 ((w64 (x2 * 6364136223846793005)) + 1442695040888963407)) 33) (bshr .i64 (w64 ((w64 (x2 * 6364136223846793005)) + 1442695040888963407)) 47)))), (24, (.int .i64 (band .i64 (bxor .i64 (bshr .i64 (w64 ((w64 (x2 * 6364136223846793005)) + 1442695040888963407)) 33) (bshr .i64 (w64 ((w64 (x2 * 6364136223846793005)) + 1442695040888963407)) 47)) 255)))]) ⟨rfl, rfl, rfl, rfl, rfl, rfl, rfl, rfl, rfl, rfl, rfl, rfl, rfl, rfl, rfl, rfl, rfl, rfl, rfl, rfl, rfl, rfl, rfl, rfl, trivial⟩) ?_
    clear hF
    generalize w.drew = w at hS ⊢
    refine pk1 rfl (by decide) rfl (by kernel_rfl) rfl (p_move rfl) ?_
    refine pk1 rfl (by decide) rfl (by kernel_rfl) rfl (p_nilck rfl) ?_
    refine pk1 rfl (by decide) rfl (by kernel_rfl) rfl (p_fldb (o' := 1) rfl fi_58_1 rfl) ?_
    refine pk1 rfl (by decide) rfl (by kernel_rfl) rfl (p_ldb_one (i := 0) hS rfl rfl ia_3 rfl) ?_
    refine pk1 rfl (by decide) rfl (by kernel_rfl) rfl (p_move rfl) ?_
    refine pk1 rfl (by decide) rfl (by kernel_rfl) rfl (p_nilck rfl) ?_
    refine pk1 rfl (by decide) rfl (by kernel_rfl) rfl (p_fldb (o' := 0) rfl fi_58_0 rfl) ?_
    refine pk1 rfl (by decide) rfl (by kernel_rfl) rfl (p_ldb_one (i := 0) hS rfl rfl ia_22 rfl) ?_
    refine pk1 rfl (by decide) rfl (by kernel_rfl) rfl (p_lenr un_22 rfl h1) ?_
    refine pk1 rfl (by decide) rfl (by kernel_rfl) rfl (p_lss rfl rfl) ?_
    refine pkF (fun a hF => ?_)
    refine xn ?_
    refine cnd hF rfl (fun hc1 => ?_) (fun hc1 => ?_)
    · replace H := hbt hc1 H
      refine sq ?_
      replace hS : St e s0 w.drew [pt g1 58 ([v1, (.int .i64 x5), (.int .i64 (w64 ((w64 (x2 * 6364136223846793005)) + 1442695040888963407)))])] := hS.drewN 1
      refine drw [0, 1, 2, 3, 4, 5, 6, 7, 8, 9, 10, 11, 12, 13, 14] mixed (by kernel_rfl) (by decide) (hF.cut (L' := [(0, (.pointer (some ⟨g1, 0, none⟩))), (2, (.int .i64 0)), (3, (.int .i64 (band .i64 (bxor .i64 (bshr .i64 (w64 ((w64 (x2 * 6364136223846793005)) + 1442695040888963407)) 33) (bshr .i64 (w64 ((w64 (x2 * 6364136223846793005)) + 1442695040888963407)) 47)) 255))), (4, (.pointer (some ⟨g1, 0, none⟩))), (5, (.pointer (some ⟨g1, 0, none⟩))), (6, (.pointer (some ⟨g1, 0, none⟩))), (7, (.pointer (some ⟨g1, 2, none⟩))), (8, (.int .i64 x2)), (9, (.int .i64 (w64 (x2 * 6364136223846793005)))), (10, (.int .i64 (w64 ((w64 (x2 * 6364136223846793005)) + 1442695040888963407)))), (11, (.pointer (some ⟨g1, 0, none⟩))), (12, (.pointer (some ⟨g1, 2, none⟩))), (13, (.pointer (some ⟨g1, 0, none⟩))), (14, (.pointer (some ⟨g1, 0, none⟩))), (15, (.pointer (some ⟨g1, 2, none⟩))), (16, (.int .i64 (w64 ((w64 (x2 * 6364136223846793005)) + 1442695040888963407)))), (17, (.int .i64 (bshr .i64 (w64 ((w64 (x2 * 6364136223846793005)) + 1442695040888963407)) 33))), (18, (.pointer (some ⟨g1, 0, none⟩))), (19, (.pointer (some ⟨g1, 0, none⟩))), (20, (.pointer (some ⟨g1, 2, none⟩))), (21, (.int .i64 (w64 ((w64 (x2 * 6364136223846793005)) + 1442695040888963407)))), (22, (.int .i64 (bshr .i64 (w64 ((w64 (x2 * 6364136223846793005)) + 1442695040888963407)) 47))), (23, (.int .i64 (bxor .i64 (bshr .i64 (w64 ((w64 (x2 * 6364136223846793005)) + 1442695040888963407)) 33) (bshr .i64 (w64 ((w64 (x2 * 6364136223846793005)) + 1442695040888963407)) 47)))), (24, (.int .i64 (band .i64 (bxor .i64 (bshr .i64 (w64 ((w64 (x2 * 6364136223846793005)) + 1442695040888963407)) 33) (bshr .i64 (w64 ((w64 (x2 * 6364136223846793005)) + 1442695040888963407)) 47)) 255))), (25, (.pointer (some ⟨g1, 0, none⟩))), (26, (.pointer (some ⟨g1, 0, none⟩))), (27, (.pointer (some ⟨g1, 1, none⟩))), (28, (.int .i64 x5)), (29, (.pointer (some ⟨g1, 0, none⟩))), (30, (.pointer (some ⟨g1, 0, none⟩))), (31, (.pointer (some ⟨g1, 0, none⟩))), (32, v1), (33, (.int .i64 (x1.length : Int))), (34, (.bool (decide (x5 < (x1.length : Int)))))]) ⟨rfl, rfl, rfl, rfl, rfl, rfl, rfl, rfl, rfl, rfl, rfl, rfl, rfl, rfl, rfl, rfl, rfl, rfl, rfl, rfl, rfl, rfl, rfl, rfl, rfl, rfl, rfl, rfl, rfl, rfl, rfl, rfl, rfl, rfl, trivial⟩) ?_
      clear hF
      generalize w.drew = w at hS ⊢
      refine pk1 rfl (by decide) rfl (by kernel_rfl) rfl (p_move rfl) ?_
      refine pk1 rfl (by decide) rfl (by kernel_rfl) rfl (p_move rfl) ?_
      refine pk1 rfl (by decide) rfl (by kernel_rfl) rfl (p_nilck rfl) ?_
      refine pk1 rfl (by decide) rfl (by kernel_rfl) rfl (p_fldb (o' := 0) rfl fi_58_0 rfl) ?_
      refine pk1 rfl (by decide) rfl (by kernel_rfl) rfl (p_ldb_one (i := 0) hS rfl rfl ia_22 rfl) ?_
      refine pk1 rfl (by decide) rfl (by kernel_rfl) rfl (p_move rfl) ?_
      refine pk1 rfl (by decide) rfl (by kernel_rfl) rfl (p_nilck rfl) ?_
      refine pk1 rfl (by decide) rfl (by kernel_rfl) rfl (p_fldb (o' := 1) rfl fi_58_1 rfl) ?_
      refine pk1 rfl (by decide) rfl (by kernel_rfl) rfl (p_ldb_one (i := 0) hS rfl rfl ia_3 rfl) ?_
      obtain ⟨hq1, H⟩ := hck H
      obtain ⟨ad1, h2, p1⟩ := p_idxr (P := Try.prog) (i := x5) h1 un_22 ti_5 hq1.1 hq1.2
      refine pk1 rfl (by decide) rfl (by kernel_rfl) rfl (p1 rfl rfl) ?_
      refine pk1 rfl (by decide) rfl (by kernel_rfl) rfl (p_ldr_int rfl hS h2 ia_5) ?_
      refine pk1 rfl (by decide) rfl (by kernel_rfl) rfl (p_cvint (c := w64 (rd x1 x5)) un_5 un_3 rfl rfl) ?_
      refine pk1 rfl (by decide) rfl (by kernel_rfl) rfl (p_add (c := w64 ((band .i64 (bxor .i64 (bshr .i64 (w64 ((w64 (x2 * 6364136223846793005)) + 1442695040888963407)) 33) (bshr .i64 (w64 ((w64 (x2 * 6364136223846793005)) + 1442695040888963407)) 47)) 255) + (w64 (rd x1 x5)))) rfl rfl rfl) ?_
      refine pk1 rfl (by decide) rfl (by kernel_rfl) rfl (p_and (c := band .i64 (w64 ((band .i64 (bxor .i64 (bshr .i64 (w64 ((w64 (x2 * 6364136223846793005)) + 1442695040888963407)) 33) (bshr .i64 (w64 ((w64 (x2 * 6364136223846793005)) + 1442695040888963407)) 47)) 255) + (w64 (rd x1 x5)))) 255) rfl rfl rfl) ?_
      refine pkE [] rfl (by decide) (by kernel_rfl) (by kernel_rfl) (puEf (p_assign rfl)) ?_
      rintro v w' ⟨rfl, rfl⟩
      refine ⟨trivial, ?_⟩
      refine pkF (fun a hF => ?_)
      refine xn ?_
      refine rg ?_
      refine stp hF (p_move rfl) (by decide) (fun a hF => ?_)
      refine stp hF (p_move rfl) (by decide) (fun a hF => ?_)
      refine stp hF (p_nilck rfl) (by decide) (fun a hF => ?_)
      refine stp hF (p_fldb (o' := 1) rfl fi_58_1 rfl) (by decide) (fun a hF => ?_)
      refine stp hF (p_ldb_one (i := 0) hS rfl rfl ia_3 rfl) (by decide) (fun a hF => ?_)
      refine stp hF (p_add (c := w64 (x5 + 1)) rfl rfl rfl) (by decide) (fun a hF => ?_)
      refine stp hF (p_nilck rfl) (by decide) (fun a hF => ?_)
      refine stp hF (p_fldb (o' := 1) rfl fi_58_1 rfl) (by decide) (fun a hF => ?_)
      refine ste0 hF (e_stb (i := 0) (l := [v1]) (m := [(.int .i64 x5)]) (r := [(.int .i64 (w64 ((w64 (x2 * 6364136223846793005)) + 1442695040888963407)))]) (m' := [(.int .i64 (w64 (x5 + 1)))]) (cs' := [v1, (.int .i64 (w64 (x5 + 1))), (.int .i64 (w64 ((w64 (x2 * 6364136223846793005)) + 1442695040888963407)))]) hS rfl rfl rfl ti_3 rfl rfl rfl rfl rfl (one_cons rfl one_nil) rfl) (fun v w a hR hF => ?_)
      have hS : St e s0 w [pt g1 58 ([v1, (.int .i64 (w64 (x5 + 1))), (.int .i64 (w64 ((w64 (x2 * 6364136223846793005)) + 1442695040888963407)))])] := hR
      refine nilN ?_
      refine xn ?_
      obtain rfl := hsm H
      exact ⟨(w64 (x5 + 1)), (band .i64 (w64 ((band .i64 (bxor .i64 (bshr .i64 (w64 ((w64 (x2 * 6364136223846793005)) + 1442695040888963407)) 33) (bshr .i64 (w64 ((w64 (x2 * 6364136223846793005)) + 1442695040888963407)) 47)) 255) + (w64 (rd x1 x5)))) 255), hS, hF.cut ⟨rfl, trivial⟩, HK1⟩
    · replace H := hbf hc1 H
      refine skN ?_
      refine xn ?_
      obtain rfl := hsm H
      exact ⟨x5, (band .i64 (bxor .i64 (bshr .i64 (w64 ((w64 (x2 * 6364136223846793005)) + 1442695040888963407)) 33) (bshr .i64 (w64 ((w64 (x2 * 6364136223846793005)) + 1442695040888963407)) 47)) 255), hS, hF.cut ⟨rfl, trivial⟩, HK1⟩
  · clear H HK1 hS hF
    rintro a w ⟨x3, x4, hS, hF, H⟩
    unfold spec_l1Byte.c1 at H
    refine sq ?_
    refine rg ?_
    refine stp hF (p_move rfl) (by decide) (fun a hF => ?_)
    refine stp hF (p_assign rfl) (by decide) (fun a hF => ?_)
    refine nilN ?_
    refine xn ?_
    refine rt ?_
    obtain rfl := hsm H
    exact ret1 hF rfl rfl hS ⟨v1, rfl, rfl, h1⟩

def spec_l1Below.f (k : Nat) (x1 : (List Int)) (x2 : Int) (x3 : Int) (x4 : Int) : Option (Int × (List Int) × Int × Int) :=
  (if (decide (x4 ≤ 0)) = true then (some (0, x1, x2, x3)) else (if (decide (x4 ≤ 256)) = true then ((spec_l1Byte.f k x1 x2 x3).bind fun x5 => (if x4 ≠ 0 then (some (x5.1.tmod x4, x5.2.1, x5.2.2.1, x5.2.2.2)) else none)) else ((spec_l1Byte.f k x1 x2 x3).bind fun x6 => ((spec_l1Byte.f k x6.2.1 x6.2.2.1 x6.2.2.2).bind fun x7 => ((spec_l1Byte.f k x7.2.1 x7.2.2.1 x7.2.2.2).bind fun x8 => (if x4 ≠ 0 then (some ((w64 ((w64 ((w64 (x6.1 * 65536)) + (w64 (x7.1 * 256)))) + x8.1)).tmod x4, x8.2.1, x8.2.2.1, x8.2.2.2)) else none))))))
set_option maxRecDepth 100000 in
set_option maxHeartbeats 4000000 in
theorem spec_l1Below.spec (k : Nat) (s0 : HF) (w : World) (x1 : (List Int)) (x2 : Int) (x3 : Int) (x4 : Int) (v1 : Value) (g1 : Nat) (h1 : Sl (Kd.int .u8) s0 v1 x1) (r : Int × (List Int) × Int × Int) (H : spec_l1Below.f k x1 x2 x3 x4 = some r) :
    Law Try.prog 31 #[(.pointer (some ⟨g1, 0, none⟩)), (.int .i64 x4)] s0 w [pt g1 58 ([v1, (.int .i64 x2), (.int .i64 x3)])] (fun v s1 A1 => ∃ (u0 : Value), v = (.int .i64 r.1) ∧ A1 = [pt g1 58 ([u0, (.int .i64 r.2.2.1), (.int .i64 r.2.2.2)])] ∧ Sl (Kd.int .u8) s1 u0 r.2.1) := by
  unfold spec_l1Below.f at H
  refine Law.intro Try.func31 rfl [(0, (.pointer (some ⟨g1, 0, none⟩))), (1, (.int .i64 x4))] (Nat.le_of_ble_eq_true rfl) (enter_lk ⟨rfl, rfl, trivial⟩) (fun e a hS hF => ?_)
  have hF : Fr 31 a [(0, (.pointer (some ⟨g1, 0, none⟩))), (1, (.int .i64 x4))] := hF
  refine sq ?_
  refine rg ?_
  refine stp hF (p_assign rfl) (by decide) (fun a hF => ?_)
  refine nilN ?_
  refine xn ?_
  refine sq ?_
  refine sq ?_
  refine rg ?_
  refine stp hF (p_move rfl) (by decide) (fun a hF => ?_)
  refine stp hF (p_leq rfl rfl) (by decide) (fun a hF => ?_)
  refine nilN ?_
  refine xn ?_
  refine cnd hF rfl (fun hc1 => ?_) (fun hc1 => ?_)
  · replace H := hbt hc1 H
    refine sq ?_
    refine rg ?_
    refine stp hF (p_assign rfl) (by decide) (fun a hF => ?_)
    refine nilN ?_
    refine xn ?_
    refine rt ?_
    refine xr ?_
    obtain rfl := hsm H
    exact ret1 hF rfl rfl hS ⟨v1, rfl, rfl, h1⟩
  · replace H := hbf hc1 H
    refine skN ?_
    refine xn ?_
    refine sq ?_
    refine sq ?_
    refine rg ?_
    refine stp hF (p_move rfl) (by decide) (fun a hF => ?_)
    refine stp hF (p_leq rfl rfl) (by decide) (fun a hF => ?_)
    refine nilN ?_
    refine xn ?_
    refine cnd hF rfl (fun hc2 => ?_) (fun hc2 => ?_)
    · replace H := hbt hc2 H
      refine sq ?_
      refine rg ?_
      refine stp hF (p_move rfl) (by decide) (fun a hF => ?_)
      obtain ⟨x5, hx1, H⟩ := hb H
      refine ste hF (e_call (fst := []) (vs := [(.pointer (some ⟨g1, 0, none⟩))]) (cap := []) rfl rfl go_37 (St.call (A := [pt g1 58 ([v1, (.int .i64 x2), (.int .i64 x3)])]) (B := []) hS (spec_l1Byte.spec k _ _ x1 x2 x3 v1 g1 h1 _ hx1))) (by decide) (fun v w a hR hF => ?_)
      obtain ⟨s2, A2, hg1, hS, hR⟩ := hR
      obtain ⟨v2, hv1, rfl, h2⟩ := hR; obtain rfl := hv1.symm
      have hS : St e s2 w [pt g1 58 ([v2, (.int .i64 x5.2.2.1), (.int .i64 x5.2.2.2)])] := hS
      refine stp hF (p_move rfl) (by decide) (fun a hF => ?_)
      obtain ⟨hq1, H⟩ := hck H
      refine stp hF (p_rem (c := x5.1.tmod x4) rfl rfl hq1 rfl) (by decide) (fun a hF => ?_)
      refine stp hF (p_assign rfl) (by decide) (fun a hF => ?_)
      refine nilN ?_
      refine xn ?_
      refine rt ?_
      refine xr ?_
      obtain rfl := hsm H
      exact ret1 hF rfl rfl hS ⟨v2, rfl, rfl, h2⟩
    · replace H := hbf hc2 H
      refine skN ?_
      refine xn ?_
      refine sq ?_
      refine rg ?_
      refine stp hF (p_move rfl) (by decide) (fun a hF => ?_)
      obtain ⟨x6, hx2, H⟩ := hb H
      refine ste hF (e_call (fst := []) (vs := [(.pointer (some ⟨g1, 0, none⟩))]) (cap := []) rfl rfl go_37 (St.call (A := [pt g1 58 ([v1, (.int .i64 x2), (.int .i64 x3)])]) (B := []) hS (spec_l1Byte.spec k _ _ x1 x2 x3 v1 g1 h1 _ hx2))) (by decide) (fun v w a hR hF => ?_)
      obtain ⟨s3, A3, hg2, hS, hR⟩ := hR
      obtain ⟨v3, hv2, rfl, h3⟩ := hR; obtain rfl := hv2.symm
      have hS : St e s3 w [pt g1 58 ([v3, (.int .i64 x6.2.2.1), (.int .i64 x6.2.2.2)])] := hS
      refine stp hF (p_assign rfl) (by decide) (fun a hF => ?_)
      refine nilN ?_
      refine xn ?_
      refine sq ?_
      refine rg ?_
      refine stp hF (p_move rfl) (by decide) (fun a hF => ?_)
      obtain ⟨x7, hx3, H⟩ := hb H
      refine ste hF (e_call (fst := []) (vs := [(.pointer (some ⟨g1, 0, none⟩))]) (cap := []) rfl rfl go_37 (St.call (A := [pt g1 58 ([v3, (.int .i64 x6.2.2.1), (.int .i64 x6.2.2.2)])]) (B := []) hS (spec_l1Byte.spec k _ _ x6.2.1 x6.2.2.1 x6.2.2.2 v3 g1 h3 _ hx3))) (by decide) (fun v w a hR hF => ?_)
      obtain ⟨s4, A4, hg3, hS, hR⟩ := hR
      obtain ⟨v4, hv3, rfl, h4⟩ := hR; obtain rfl := hv3.symm
      have hS : St e s4 w [pt g1 58 ([v4, (.int .i64 x7.2.2.1), (.int .i64 x7.2.2.2)])] := hS
      refine stp hF (p_assign rfl) (by decide) (fun a hF => ?_)
      refine nilN ?_
      refine xn ?_
      refine sq ?_
      refine rg ?_
      refine stp hF (p_move rfl) (by decide) (fun a hF => ?_)
      obtain ⟨x8, hx4, H⟩ := hb H
      refine ste hF (e_call (fst := []) (vs := [(.pointer (some ⟨g1, 0, none⟩))]) (cap := []) rfl rfl go_37 (St.call (A := [pt g1 58 ([v4, (.int .i64 x7.2.2.1), (.int .i64 x7.2.2.2)])]) (B := []) hS (spec_l1Byte.spec k _ _ x7.2.1 x7.2.2.1 x7.2.2.2 v4 g1 h4 _ hx4))) (by decide) (fun v w a hR hF => ?_)
      obtain ⟨s5, A5, hg4, hS, hR⟩ := hR
      obtain ⟨v5, hv4, rfl, h5⟩ := hR; obtain rfl := hv4.symm
      have hS : St e s5 w [pt g1 58 ([v5, (.int .i64 x8.2.2.1), (.int .i64 x8.2.2.2)])] := hS
      refine stp hF (p_assign rfl) (by decide) (fun a hF => ?_)
      refine nilN ?_
      refine xn ?_
      refine sq ?_
      refine rg ?_
      refine stp hF (p_move rfl) (by decide) (fun a hF => ?_)
      refine stp hF (p_mul (c := w64 (x6.1 * 65536)) rfl rfl rfl) (by decide) (fun a hF => ?_)
      refine stp hF (p_move rfl) (by decide) (fun a hF => ?_)
      refine stp hF (p_mul (c := w64 (x7.1 * 256)) rfl rfl rfl) (by decide) (fun a hF => ?_)
      refine stp hF (p_add (c := w64 ((w64 (x6.1 * 65536)) + (w64 (x7.1 * 256)))) rfl rfl rfl) (by decide) (fun a hF => ?_)
      refine stp hF (p_move rfl) (by decide) (fun a hF => ?_)
      refine stp hF (p_add (c := w64 ((w64 ((w64 (x6.1 * 65536)) + (w64 (x7.1 * 256)))) + x8.1)) rfl rfl rfl) (by decide) (fun a hF => ?_)
      refine stp hF (p_move rfl) (by decide) (fun a hF => ?_)
      obtain ⟨hq2, H⟩ := hck H
      refine stp hF (p_rem (c := (w64 ((w64 ((w64 (x6.1 * 65536)) + (w64 (x7.1 * 256)))) + x8.1)).tmod x4) rfl rfl hq2 rfl) (by decide) (fun a hF => ?_)
      refine stp hF (p_assign rfl) (by decide) (fun a hF => ?_)
      refine nilN ?_
      refine xn ?_
      refine rt ?_
      obtain rfl := hsm H
      exact ret1 hF rfl rfl hS ⟨v5, rfl, rfl, h5⟩

def spec_l1Once.f (k : Nat) (x1 : (List Int)) (x2 : Int) (x3 : Int) (x4 : Int) : Option (Bool × (List Int) × Int × Int) :=
  ((spec_l1Below.f k x1 x2 x3 x4).bind fun x5 => (some (decide (x5.1 = 0), x5.2.1, x5.2.2.1, x5.2.2.2)))
set_option maxRecDepth 100000 in
set_option maxHeartbeats 4000000 in
theorem spec_l1Once.spec (k : Nat) (s0 : HF) (w : World) (x1 : (List Int)) (x2 : Int) (x3 : Int) (x4 : Int) (v1 : Value) (g1 : Nat) (h1 : Sl (Kd.int .u8) s0 v1 x1) (r : Bool × (List Int) × Int × Int) (H : spec_l1Once.f k x1 x2 x3 x4 = some r) :
    Law Try.prog 30 #[(.pointer (some ⟨g1, 0, none⟩)), (.int .i64 x4)] s0 w [pt g1 58 ([v1, (.int .i64 x2), (.int .i64 x3)])] (fun v s1 A1 => ∃ (u0 : Value), v = (.bool r.1) ∧ A1 = [pt g1 58 ([u0, (.int .i64 r.2.2.1), (.int .i64 r.2.2.2)])] ∧ Sl (Kd.int .u8) s1 u0 r.2.1) := by
  unfold spec_l1Once.f at H
  refine Law.intro Try.func30 rfl [(0, (.pointer (some ⟨g1, 0, none⟩))), (1, (.int .i64 x4))] (Nat.le_of_ble_eq_true rfl) (enter_lk ⟨rfl, rfl, trivial⟩) (fun e a hS hF => ?_)
  have hF : Fr 9 a [(0, (.pointer (some ⟨g1, 0, none⟩))), (1, (.int .i64 x4))] := hF
  refine sq ?_
  refine rg ?_
  refine stp hF (p_assign rfl) (by decide) (fun a hF => ?_)
  refine nilN ?_
  refine xn ?_
  refine sq ?_
  refine rg ?_
  refine stp hF (p_move rfl) (by decide) (fun a hF => ?_)
  refine stp hF (p_move rfl) (by decide) (fun a hF => ?_)
  obtain ⟨x5, hx1, H⟩ := hb H
  refine ste hF (e_call (fst := []) (vs := [(.pointer (some ⟨g1, 0, none⟩)), (.int .i64 x4)]) (cap := []) rfl rfl go_31 (St.call (A := [pt g1 58 ([v1, (.int .i64 x2), (.int .i64 x3)])]) (B := []) hS (spec_l1Below.spec k _ _ x1 x2 x3 x4 v1 g1 h1 _ hx1))) (by decide) (fun v w a hR hF => ?_)
  obtain ⟨s2, A2, hg1, hS, hR⟩ := hR
  obtain ⟨v2, hv1, rfl, h2⟩ := hR; obtain rfl := hv1.symm
  have hS : St e s2 w [pt g1 58 ([v2, (.int .i64 x5.2.2.1), (.int .i64 x5.2.2.2)])] := hS
  refine stp hF (p_eql rfl rfl) (by decide) (fun a hF => ?_)
  refine stp hF (p_assign rfl) (by decide) (fun a hF => ?_)
  refine nilN ?_
  refine xn ?_
  refine rt ?_
  obtain rfl := hsm H
  exact ret1 hF rfl rfl hS ⟨v2, rfl, rfl, h2⟩

def spec_l1Int.f (k : Nat) (x1 : (List Int)) (x2 : Int) (x3 : Int) (x4 : (List Int)) : Option (Int × (List Int) × Int × Int) :=
  ((spec_l1Below.f k x1 x2 x3 (x4.length : Int)).bind fun x5 => (if 0 ≤ x5.1 ∧ x5.1 < (x4.length : Int) then (some (rd x4 x5.1, x5.2.1, x5.2.2.1, x5.2.2.2)) else none))
set_option maxRecDepth 100000 in
set_option maxHeartbeats 4000000 in
theorem spec_l1Int.spec (k : Nat) (s0 : HF) (w : World) (x1 : (List Int)) (x2 : Int) (x3 : Int) (x4 : (List Int)) (v1 : Value) (g1 : Nat) (v2 : Value) (h1 : Sl (Kd.int .u8) s0 v1 x1) (h2 : Sl (Kd.int .i64) s0 v2 x4) (r : Int × (List Int) × Int × Int) (H : spec_l1Int.f k x1 x2 x3 x4 = some r) :
    Law Try.prog 32 #[(.pointer (some ⟨g1, 0, none⟩)), v2] s0 w [pt g1 58 ([v1, (.int .i64 x2), (.int .i64 x3)])] (fun v s1 A1 => ∃ (u0 : Value), v = (.int .i64 r.1) ∧ A1 = [pt g1 58 ([u0, (.int .i64 r.2.2.1), (.int .i64 r.2.2.2)])] ∧ Sl (Kd.int .u8) s1 u0 r.2.1) := by
  unfold spec_l1Int.f at H
  refine Law.intro Try.func32 rfl [(0, (.pointer (some ⟨g1, 0, none⟩))), (1, v2)] (Nat.le_of_ble_eq_true rfl) (enter_lk ⟨rfl, rfl, trivial⟩) (fun e a hS hF => ?_)
  have hF : Fr 12 a [(0, (.pointer (some ⟨g1, 0, none⟩))), (1, v2)] := hF
  refine sq ?_
  refine rg ?_
  refine stp hF (p_assign rfl) (by decide) (fun a hF => ?_)
  refine nilN ?_
  refine xn ?_
  refine sq ?_
  refine rg ?_
  refine stp hF (p_move rfl) (by decide) (fun a hF => ?_)
  refine stp hF (p_move rfl) (by decide) (fun a hF => ?_)
  refine stp hF (p_move rfl) (by decide) (fun a hF => ?_)
  refine stp hF (p_lenr un_27 rfl h2) (by decide) (fun a hF => ?_)
  obtain ⟨x5, hx1, H⟩ := hb H
  refine ste hF (e_call (fst := []) (vs := [(.pointer (some ⟨g1, 0, none⟩)), (.int .i64 (x4.length : Int))]) (cap := []) rfl rfl go_31 (St.call (A := [pt g1 58 ([v1, (.int .i64 x2), (.int .i64 x3)])]) (B := []) hS (spec_l1Below.spec k _ _ x1 x2 x3 (x4.length : Int) v1 g1 h1 _ hx1))) (by decide) (fun v w a hR hF => ?_)
  obtain ⟨s2, A2, hg1, hS, hR⟩ := hR
  obtain ⟨v3, hv1, rfl, h3⟩ := hR; obtain rfl := hv1.symm
  have hS : St e s2 w [pt g1 58 ([v3, (.int .i64 x5.2.2.1), (.int .i64 x5.2.2.2)])] := hS
  obtain ⟨hq1, H⟩ := hck H
  obtain ⟨ad1, h4, p1⟩ := p_idxr (P := Try.prog) (i := x5.1) (h2.mono hg1) un_27 ti_3 hq1.1 hq1.2
  refine stp hF (p1 rfl rfl) (by decide) (fun a hF => ?_)
  refine stp hF (p_ldr_int rfl hS h4 ia_3) (by decide) (fun a hF => ?_)
  refine stp hF (p_assign rfl) (by decide) (fun a hF => ?_)
  refine nilN ?_
  refine xn ?_
  refine rt ?_
  obtain rfl := hsm H
  exact ret1 hF rfl rfl hS ⟨v3, rfl, rfl, h3⟩

def spec_l11Draw.c1 (k : Nat) (x1 : (List TSlot)) (x2 : (List Int)) (x3 : Int) (x4 : Int) : Option ((List TSlot) × (List Int) × Int × Int) :=
  (some (x1, x2, x3, x4))
def spec_l11Draw.c2 (k : Nat) (rec_l1 : (List TSlot) → (List Int) → Int → Int → Int → Option ((List TSlot) × (List Int) × Int × Int)) (x5 : Int) (x6 : (List TSlot)) (x7 : (List Int)) (x8 : Int) (x9 : Int) : Option ((List TSlot) × (List Int) × Int × Int) :=
  (rec_l1 x6 x7 x8 x9 (w64 (x5 + 1)))
def spec_l11Draw.c3 (k : Nat) (x5 : Int) (x10 : (List TSlot)) (x11 : Int × (List Int) × Int × Int) (x12 : Int × (List Int) × Int × Int) (x13 : (List Int)) (x14 : (List Int)) (x15 : Int) (x16 : Int) : Option ((List TSlot) × (List Int) × Int × Int) :=
  (if 0 ≤ x5 ∧ x5 < (x10.length : Int) then (some ((wr x10 x5 (⟨true, (⟨w64 (1 + x11.1), ([x12.1] : List Int), x13⟩ : TObj)⟩ : TSlot)), x14, x15, x16)) else none)
def spec_l11Draw.l2 (x5 : Int) : Nat → (List Int) → Int → Int → (List Int) → Int → Option ((List Int) × (List Int) × Int × Int)
  | 0, _, _, _, _, _ => none
  | k + 1, x17, x18, x19, x20, x21 => (if (decide (0 < x21)) = true then ((spec_l1Below.f k x17 x18 x19 32).bind fun x22 => ((spec_l1Below.f k x22.2.1 x22.2.2.1 x22.2.2.2 32).bind fun x23 => ((spec_l1Int.f k x23.2.1 x23.2.2.1 x23.2.2.2 ([0, x5, (w64 (x5 + 1)).tmod 32, x22.1, x23.1] : List Int)).bind fun x24 => (if x20.length + 1 ≤ 17592186044416 then ((spec_l11Draw.l2 x5 k) x24.2.1 x24.2.2.1 x24.2.2.2 (x20 ++ ([x24.1] : List Int)) (w64 (x21 - 1))) else none)))) else (some (x20, x17, x18, x19)))
def spec_l11Draw.l1 : Nat → (List TSlot) → (List Int) → Int → Int → Int → Option ((List TSlot) × (List Int) × Int × Int)
  | 0, _, _, _, _, _ => none
  | k + 1, x10, x25, x26, x27, x5 => (if (decide (x5 < (x10.length : Int))) = true then ((((spec_l1Once.f k x25 x26 x27 3).bind fun x28 => (if x28.1 = true then (some (x10, x28.2.1, x28.2.2.1, x28.2.2.2)) else ((spec_l1Below.f k x28.2.1 x28.2.2.1 x28.2.2.2 3).bind fun x11 => ((spec_l1Below.f k x11.2.1 x11.2.2.1 x11.2.2.2 9).bind fun x12 => ((((spec_l1Below.f k x12.2.1 x12.2.2.1 x12.2.2.2 4).bind fun x29 => (spec_l11Draw.l2 x5 k x29.2.1 x29.2.2.1 x29.2.2.2 ([] : List Int) x29.1)) : Option ((List Int) × (List Int) × Int × Int)).bind fun x30 => spec_l11Draw.c3 k x5 x10 x11 x12 x30.1 x30.2.1 x30.2.2.1 x30.2.2.2))))) : Option ((List TSlot) × (List Int) × Int × Int)).bind fun x31 => spec_l11Draw.c2 k (spec_l11Draw.l1 k) x5 x31.1 x31.2.1 x31.2.2.1 x31.2.2.2) else (some (x10, x25, x26, x27)))
def spec_l11Draw.f (k : Nat) (x32 : (List Int)) (x33 : Int) (x34 : Int) : Option ((List TSlot) × (List Int) × Int × Int) :=
  (((spec_l11Draw.l1 k (List.replicate (32 : Int).toNat (⟨false, (⟨0, ([] : List Int), ([] : List Int)⟩ : TObj)⟩ : TSlot)) x32 x33 x34 1) : Option ((List TSlot) × (List Int) × Int × Int)).bind fun x35 => spec_l11Draw.c1 k x35.1 x35.2.1 x35.2.2.1 x35.2.2.2)
set_option maxRecDepth 100000 in
set_option maxHeartbeats 4000000 in
theorem spec_l11Draw.spec (k : Nat) (s0 : HF) (w : World) (x32 : (List Int)) (x33 : Int) (x34 : Int) (v1 : Value) (g1 : Nat) (h1 : Sl (Kd.int .u8) s0 v1 x32) (r : (List TSlot) × (List Int) × Int × Int) (H : spec_l11Draw.f k x32 x33 x34 = some r) :
    Law Try.prog 16 #[(.pointer (some ⟨g1, 0, none⟩))] s0 w [pt g1 58 ([v1, (.int .i64 x33), (.int .i64 x34)])] (fun v s1 A1 => ∃ (u0 : Value) (u1 : Value), v = u1 ∧ A1 = [pt g1 58 ([u0, (.int .i64 r.2.2.1), (.int .i64 r.2.2.2)]), Ow kTSlot 32 u1 r.1] ∧ Sl (Kd.int .u8) s1 u0 r.2.1) := by
  unfold spec_l11Draw.f at H
  refine Law.intro Try.func16 rfl [(0, (.pointer (some ⟨g1, 0, none⟩)))] (Nat.le_of_ble_eq_true rfl) (enter_lk ⟨rfl, trivial⟩) (fun e a hS hF => ?_)
  have hF : Fr 51 a [(0, (.pointer (some ⟨g1, 0, none⟩)))] := hF
  refine sq ?_
  refine rg ?_
  refine stp hF (p_assign rfl) (by decide) (fun a hF => ?_)
  refine nilN ?_
  refine xn ?_
  refine sq ?_
  refine rg ?_
  refine ste hF (e_make (kd := kTSlot) (x0 := (⟨false, (⟨0, ([] : List Int), ([] : List Int)⟩ : TObj)⟩ : TSlot)) (c := [(.bool false), (.int .i64 0), (.slice none 0 0), (.slice none 0 0)]) hS rfl rfl un_24 ti_32 rfl (kTSlot_mk (x := (⟨false, (⟨0, ([] : List Int), ([] : List Int)⟩ : TObj)⟩ : TSlot)) (Sl.nil _ _ _ _) (Sl.nil _ _ _ _)) (by decide) (by decide) (by decide)) (by decide) (fun v2 w a hR hF => ?_)
  have hS : St e s0 w [Ow kTSlot 32 v2 (List.replicate (32 : Int).toNat (⟨false, (⟨0, ([] : List Int), ([] : List Int)⟩ : TObj)⟩ : TSlot)), pt g1 58 ([v1, (.int .i64 x33), (.int .i64 x34)])] := hR
  refine stp hF (p_assign rfl) (by decide) (fun a hF => ?_)
  refine nilN ?_
  refine xn ?_
  obtain ⟨x35, H, HK1⟩ := hb H
  refine sqj (fun a w => ∃ (x1 : (List TSlot)) (x2 : (List Int)) (x3 : Int) (x4 : Int) (s2 : HF) (v3 : Value) (v4 : Value) , St e s2 w [Ow kTSlot 32 v3 x1, pt g1 58 ([v4, (.int .i64 x3), (.int .i64 x4)])] ∧ Fr 51 a [(3, v3)] ∧ Sub s0 s2 ∧ Sl (Kd.int .u8) s2 v4 x2 ∧ spec_l11Draw.c1 k x1 x2 x3 x4 = some r) ?_ ?_
  · skip
    refine sq ?_
    refine rg ?_
    refine stp hF (p_assign rfl) (by decide) (fun a hF => ?_)
    refine nilN ?_
    refine xn ?_
    refine blk ?_
    refine loop_ind (fun k1 a w => ∃ (x10 : (List TSlot)) (x25 : (List Int)) (x26 : Int) (x27 : Int) (x5 : Int) (s3 : HF) (v5 : Value) (v6 : Value) , St e s3 w [Ow kTSlot 32 v5 x10, pt g1 58 ([v6, (.int .i64 x26), (.int .i64 x27)])] ∧ Fr 51 a [(0, (.pointer (some ⟨g1, 0, none⟩))), (3, v5), (4, (.int .i64 x5))] ∧ Sub s0 s3 ∧ Sl (Kd.int .u8) s3 v6 x25 ∧ spec_l11Draw.l1 k1 x10 x25 x26 x27 x5 = some x35) k ?_ ?_ ?_
    · skip
      exact ⟨(List.replicate (32 : Int).toNat (⟨false, (⟨0, ([] : List Int), ([] : List Int)⟩ : TObj)⟩ : TSlot)), x32, x33, x34, 1, s0, v2, v1, hS, hF.cut ⟨rfl, rfl, rfl, trivial⟩, (Sub.refl _), h1, H⟩
    · clear H hS hF
      rintro a w ⟨x10, x25, x26, x27, x5, s3, v5, v6, hS, hF, hg1, h2, H⟩
      exact absurd (show none = some _ from H) (by simp)
    · clear H hS hF
      rintro k1 a w ⟨x10, x25, x26, x27, x5, s3, v5, v6, hS, hF, hg1, h2, H⟩
      rw [spec_l11Draw.l1.eq_2] at H
      refine sq ?_
      refine sq ?_
      refine rg ?_
      refine stp hF (p_move rfl) (by decide) (fun a hF => ?_)
      refine stp hF (p_move rfl) (by decide) (fun a hF => ?_)
      refine stp hF (p_leno (i := 0) hS rfl un_24 rfl) (by decide) (fun a hF => ?_)
      refine stp hF (p_lss rfl rfl) (by decide) (fun a hF => ?_)
      refine nilN ?_
      refine xn ?_
      refine cnd hF rfl (fun hc1 => ?_) (fun hc1 => ?_)
      · replace H := hbt hc1 H
        refine skN ?_
        refine xn ?_
        obtain ⟨x31, H, HK2⟩ := hb H
        refine sqj (fun a w => ∃ (x6 : (List TSlot)) (x7 : (List Int)) (x8 : Int) (x9 : Int) (s4 : HF) (v7 : Value) (v8 : Value) , St e s4 w [Ow kTSlot 32 v7 x6, pt g1 58 ([v8, (.int .i64 x8), (.int .i64 x9)])] ∧ Fr 51 a [(0, (.pointer (some ⟨g1, 0, none⟩))), (3, v7), (4, (.int .i64 x5))] ∧ Sub s3 s4 ∧ Sl (Kd.int .u8) s4 v8 x7 ∧ spec_l11Draw.c2 k1 (spec_l11Draw.l1 k1) x5 x6 x7 x8 x9 = some x35) ?_ ?_
        · skip
          refine blk ?_
          refine sq ?_
          refine sq ?_
          refine rg ?_
          refine stp hF (p_move rfl) (by decide) (fun a hF => ?_)
          replace hS := hS.sel (is := [1, 0]) (A' := [pt g1 58 ([v6, (.int .i64 x26), (.int .i64 x27)]), Ow kTSlot 32 v5 x10]) rfl
          obtain ⟨x28, hx1, H⟩ := hb H
          refine ste hF (e_call (fst := []) (vs := [(.pointer (some ⟨g1, 0, none⟩)), (.int .i64 3)]) (cap := []) rfl rfl go_30 (St.call (A := [pt g1 58 ([v6, (.int .i64 x26), (.int .i64 x27)])]) (B := [Ow kTSlot 32 v5 x10]) hS (spec_l1Once.spec k1 _ _ x25 x26 x27 3 v6 g1 h2 _ hx1))) (by decide) (fun v w a hR hF => ?_)
          obtain ⟨s5, A2, hg2, hS, hR⟩ := hR
          obtain ⟨v9, hv1, rfl, h3⟩ := hR; obtain rfl := hv1.symm
          have hS : St e s5 w [pt g1 58 ([v9, (.int .i64 x28.2.2.1), (.int .i64 x28.2.2.2)]), Ow kTSlot 32 v5 x10] := hS
          refine nilN ?_
          refine xn ?_
          refine cnd hF rfl (fun hc2 => ?_) (fun hc2 => ?_)
          · replace H := hbt hc2 H
            refine exi ?_
            refine xe (hit (xn ?_))
            obtain rfl := hsm H
            replace hS := hS.sel (is := [1, 0]) (A' := [Ow kTSlot 32 v5 x10, pt g1 58 ([v9, (.int .i64 x28.2.2.1), (.int .i64 x28.2.2.2)])]) rfl
            exact ⟨x10, x28.2.1, x28.2.2.1, x28.2.2.2, s5, v5, v9, hS, hF.cut ⟨rfl, rfl, rfl, trivial⟩, hg2, h3, HK2⟩
          · replace H := hbf hc2 H
            refine skN ?_
            refine xn ?_
            refine sq ?_
            refine rg ?_
            refine stp hF (p_move rfl) (by decide) (fun a hF => ?_)
            obtain ⟨x11, hx2, H⟩ := hb H
            refine ste hF (e_call (fst := []) (vs := [(.pointer (some ⟨g1, 0, none⟩)), (.int .i64 3)]) (cap := []) rfl rfl go_31 (St.call (A := [pt g1 58 ([v9, (.int .i64 x28.2.2.1), (.int .i64 x28.2.2.2)])]) (B := [Ow kTSlot 32 v5 x10]) hS (spec_l1Below.spec k1 _ _ x28.2.1 x28.2.2.1 x28.2.2.2 3 v9 g1 h3 _ hx2))) (by decide) (fun v w a hR hF => ?_)
            obtain ⟨s6, A3, hg3, hS, hR⟩ := hR
            obtain ⟨v10, hv2, rfl, h4⟩ := hR; obtain rfl := hv2.symm
            have hS : St e s6 w [pt g1 58 ([v10, (.int .i64 x11.2.2.1), (.int .i64 x11.2.2.2)]), Ow kTSlot 32 v5 x10] := hS
            refine stp hF (p_add (c := w64 (1 + x11.1)) rfl rfl rfl) (by decide) (fun a hF => ?_)
            refine stp hF (p_move rfl) (by decide) (fun a hF => ?_)
            obtain ⟨x12, hx3, H⟩ := hb H
            refine ste hF (e_call (fst := []) (vs := [(.pointer (some ⟨g1, 0, none⟩)), (.int .i64 9)]) (cap := []) rfl rfl go_31 (St.call (A := [pt g1 58 ([v10, (.int .i64 x11.2.2.1), (.int .i64 x11.2.2.2)])]) (B := [Ow kTSlot 32 v5 x10]) hS (spec_l1Below.spec k1 _ _ x11.2.1 x11.2.2.1 x11.2.2.2 9 v10 g1 h4 _ hx3))) (by decide) (fun v w a hR hF => ?_)
            obtain ⟨s7, A4, hg4, hS, hR⟩ := hR
            obtain ⟨v11, hv3, rfl, h5⟩ := hR; obtain rfl := hv3.symm
            have hS : St e s7 w [pt g1 58 ([v11, (.int .i64 x12.2.2.1), (.int .i64 x12.2.2.2)]), Ow kTSlot 32 v5 x10] := hS
            refine ste hF (e_bslice (kd := (Kd.int .i64)) (et := 3) (ps := [(0, (.tmp 20))]) (vs := [(0, (.int .i64 x12.1))]) (cs := [(.int .i64 x12.1)]) (xs := ([x12.1] : List Int)) hS rfl (by intro w; kernel_rfl) rfl (by decide) (Nat.le_of_ble_eq_true rfl) (by exact (rows_cons (kd := (Kd.int .i64)) (x := x12.1) (c := [(.int .i64 x12.1)]) (cs := []) rfl (Rows.nil _ _ _ _)))) (by decide) (fun v12 w a hR hF => ?_)
            have hS : St e s7 w [Ow (Kd.int .i64) 3 v12 ([x12.1] : List Int), pt g1 58 ([v11, (.int .i64 x12.2.2.1), (.int .i64 x12.2.2.2)]), Ow kTSlot 32 v5 x10] := hR
            refine stp hF (p_build (ps := [(0, (.tmp 18)), (1, (.tmp 21))]) (vs := [(0, (.int .i64 (w64 (1 + x11.1)))), (1, v12)]) (v := (.agg #[(.int .i64 (w64 (1 + x11.1))), v12, (.slice none 0 0)])) rfl (by intro w; obtain ⟨_, _, _, e1⟩ := hS.el (i := 0) rfl; rw [e1]; kernel_rfl)) (by decide) (fun a hF => ?_)
            refine ste hF (e_alloc (cs := [(.int .i64 0), (.slice none 0 0), (.slice none 0 0)]) hS ti_30 rfl) (by decide) (fun v w a hR hF => ?_)
            obtain ⟨g2, rfl, hS⟩ := hR
            refine ste0 hF (e_stb (i := 0) (l := []) (m := [(.int .i64 0), (.slice none 0 0), (.slice none 0 0)]) (r := []) (m' := [(.int .i64 (w64 (1 + x11.1))), v12, (.slice none 0 0)]) (cs' := [(.int .i64 (w64 (1 + x11.1))), v12, (.slice none 0 0)]) hS rfl rfl rfl ti_30 rfl rfl rfl rfl rfl (one_cons rfl (one_cons (hS.one_ow (i := 1) rfl) (one_cons rfl one_nil))) rfl) (fun v w a hR hF => ?_)
            have hS : St e s7 w [pt g2 30 ([(.int .i64 (w64 (1 + x11.1))), v12, (.slice none 0 0)]), Ow (Kd.int .i64) 3 v12 ([x12.1] : List Int), pt g1 58 ([v11, (.int .i64 x12.2.2.1), (.int .i64 x12.2.2.2)]), Ow kTSlot 32 v5 x10] := hR
            refine nilN ?_
            refine xn ?_
            obtain ⟨x30, H, HK3⟩ := hb H
            refine sqj (fun a w => ∃ (x13 : (List Int)) (x14 : (List Int)) (x15 : Int) (x16 : Int) (s8 : HF) (v13 : Value) (v14 : Value) , St e s8 w [pt g2 30 ([(.int .i64 (w64 (1 + x11.1))), v12, v13]), Ow (Kd.int .i64) 3 v13 x13, Ow (Kd.int .i64) 3 v12 ([x12.1] : List Int), pt g1 58 ([v14, (.int .i64 x15), (.int .i64 x16)]), Ow kTSlot 32 v5 x10] ∧ Fr 51 a [(0, (.pointer (some ⟨g1, 0, none⟩))), (3, v5), (4, (.int .i64 x5)), (5, (.pointer (some ⟨g2, 0, none⟩)))] ∧ Sub s7 s8 ∧ Sl (Kd.int .u8) s8 v14 x14 ∧ spec_l11Draw.c3 k1 x5 x10 x11 x12 x13 x14 x15 x16 = some x31) ?_ ?_
            · skip
              refine sq ?_
              refine rg ?_
              refine stp hF (p_move rfl) (by decide) (fun a hF => ?_)
              replace hS := hS.sel (is := [2, 0, 0, 0]) (A' := [pt g1 58 ([v11, (.int .i64 x12.2.2.1), (.int .i64 x12.2.2.2)]), pt g2 30 ([(.int .i64 (w64 (1 + x11.1))), v12, (.slice none 0 0)]), Ow (Kd.int .i64) 3 v12 ([x12.1] : List Int), Ow kTSlot 32 v5 x10]) rfl
              obtain ⟨x29, hx4, H⟩ := hb H
              refine ste hF (e_call (fst := []) (vs := [(.pointer (some ⟨g1, 0, none⟩)), (.int .i64 4)]) (cap := []) rfl rfl go_31 (St.call (A := [pt g1 58 ([v11, (.int .i64 x12.2.2.1), (.int .i64 x12.2.2.2)])]) (B := [pt g2 30 ([(.int .i64 (w64 (1 + x11.1))), v12, (.slice none 0 0)]), Ow (Kd.int .i64) 3 v12 ([x12.1] : List Int), Ow kTSlot 32 v5 x10]) hS (spec_l1Below.spec k1 _ _ x12.2.1 x12.2.2.1 x12.2.2.2 4 v11 g1 h5 _ hx4))) (by decide) (fun v w a hR hF => ?_)
              obtain ⟨s9, A5, hg5, hS, hR⟩ := hR
              obtain ⟨v15, hv4, rfl, h6⟩ := hR; obtain rfl := hv4.symm
              have hS : St e s9 w [pt g1 58 ([v15, (.int .i64 x29.2.2.1), (.int .i64 x29.2.2.2)]), pt g2 30 ([(.int .i64 (w64 (1 + x11.1))), v12, (.slice none 0 0)]), Ow (Kd.int .i64) 3 v12 ([x12.1] : List Int), Ow kTSlot 32 v5 x10] := hS
              refine stp hF (p_assign rfl) (by decide) (fun a hF => ?_)
              refine nilN ?_
              refine xn ?_
              refine blk ?_
              refine loop_ind (fun k2 a w => ∃ (x17 : (List Int)) (x18 : Int) (x19 : Int) (x20 : (List Int)) (x21 : Int) (s10 : HF) (v16 : Value) (v17 : Value) , St e s10 w [pt g1 58 ([v16, (.int .i64 x18), (.int .i64 x19)]), pt g2 30 ([(.int .i64 (w64 (1 + x11.1))), v12, v17]), Ow (Kd.int .i64) 3 v17 x20, Ow (Kd.int .i64) 3 v12 ([x12.1] : List Int), Ow kTSlot 32 v5 x10] ∧ Fr 51 a [(0, (.pointer (some ⟨g1, 0, none⟩))), (3, v5), (4, (.int .i64 x5)), (5, (.pointer (some ⟨g2, 0, none⟩))), (6, (.int .i64 x21))] ∧ Sub s9 s10 ∧ Sl (Kd.int .u8) s10 v16 x17 ∧ spec_l11Draw.l2 x5 k2 x17 x18 x19 x20 x21 = some x30) k1 ?_ ?_ ?_
              · skip
                replace hS := hS.ownNil (Kd.int .i64) 3 none
                replace hS := hS.sel (is := [1, 1, 0, 0, 0]) (A' := [pt g1 58 ([v15, (.int .i64 x29.2.2.1), (.int .i64 x29.2.2.2)]), pt g2 30 ([(.int .i64 (w64 (1 + x11.1))), v12, (.slice none 0 0)]), Ow (Kd.int .i64) 3 (.slice none 0 0) ([] : List Int), Ow (Kd.int .i64) 3 v12 ([x12.1] : List Int), Ow kTSlot 32 v5 x10]) rfl
                exact ⟨x29.2.1, x29.2.2.1, x29.2.2.2, ([] : List Int), x29.1, s9, v15, (.slice none 0 0), hS, hF.cut ⟨rfl, rfl, rfl, rfl, rfl, trivial⟩, (Sub.refl _), h6, H⟩
              · clear H hS hF
                rintro a w ⟨x17, x18, x19, x20, x21, s10, v16, v17, hS, hF, hg6, h7, H⟩
                exact absurd (show none = some _ from H) (by simp)
              · clear H hS hF
                rintro k2 a w ⟨x17, x18, x19, x20, x21, s10, v16, v17, hS, hF, hg6, h7, H⟩
                rw [spec_l11Draw.l2.eq_2] at H
                refine sq ?_
                refine sq ?_
                refine rg ?_
                refine stp hF (p_move rfl) (by decide) (fun a hF => ?_)
                refine stp hF (p_gtr rfl rfl) (by decide) (fun a hF => ?_)
                refine nilN ?_
                refine xn ?_
                refine cnd hF rfl (fun hc3 => ?_) (fun hc3 => ?_)
                · replace H := hbt hc3 H
                  refine skN ?_
                  refine xn ?_
                  refine sq ?_
                  refine blk ?_
                  replace hS : St e s10 w.drew [pt g1 58 ([v16, (.int .i64 x18), (.int .i64 x19)]), pt g2 30 ([(.int .i64 (w64 (1 + x11.1))), v12, v17]), Ow (Kd.int .i64) 3 v17 x20, Ow (Kd.int .i64) 3 v12 ([x12.1] : List Int), Ow kTSlot 32 v5 x10] := hS.drewN 1
                  refine drw [0, 1, 2, 3, 4, 5, 6, 7, 9, 8, 10, 11, 12, 13, 14, 15, 16] mixed (by kernel_rfl) (by decide) (hF.cut (L' := [(0, (.pointer (some ⟨g1, 0, none⟩))), (3, v5), (4, (.int .i64 x5)), (5, (.pointer (some ⟨g2, 0, none⟩))), (6, (.int .i64 x21)), (25, (.int .i64 x21)), (26, (.bool (decide (0 < x21))))]) ⟨rfl, rfl, rfl, rfl, rfl, rfl, rfl, trivial⟩) ?_
                  clear hF
                  generalize w.drew = w at hS ⊢
                  refine pk1 rfl (by decide) rfl (by kernel_rfl) rfl (p_fldb (o' := 2) rfl fi_30_2 rfl) ?_
                  refine pk1 rfl (by decide) rfl (by kernel_rfl) rfl (p_ldb_one (i := 1) hS rfl rfl ia_27 rfl) ?_
                  refine pk1 rfl (by decide) rfl (by kernel_rfl) rfl (p_move rfl) ?_
                  refine pk1 rfl (by decide) rfl (by kernel_rfl) rfl (p_move rfl) ?_
                  refine pk1 rfl (by decide) rfl (by kernel_rfl) rfl (p_move rfl) ?_
                  refine pk1 rfl (by decide) rfl (by kernel_rfl) rfl (p_add (c := w64 (x5 + 1)) rfl rfl rfl) ?_
                  refine pk1 rfl (by decide) rfl (by kernel_rfl) rfl (p_rem (c := (w64 (x5 + 1)).tmod 32) rfl rfl (by decide) rfl) ?_
                  refine pk1 rfl (by decide) rfl (by kernel_rfl) rfl (p_move rfl) ?_
                  refine pk1 rfl (by decide) rfl (by kernel_rfl) rfl (p_move rfl) ?_
                  obtain ⟨x22, hx5, H⟩ := hb H
                  refine pkE [9, 6, 5, 4, 3, 2, 1, 0] rfl (by decide) (by kernel_rfl) (by kernel_rfl) (e_call (fst := []) (vs := [(.pointer (some ⟨g1, 0, none⟩)), (.int .i64 32)]) (cap := []) rfl rfl go_31 (St.call (A := [pt g1 58 ([v16, (.int .i64 x18), (.int .i64 x19)])]) (B := [pt g2 30 ([(.int .i64 (w64 (1 + x11.1))), v12, v17]), Ow (Kd.int .i64) 3 v17 x20, Ow (Kd.int .i64) 3 v12 ([x12.1] : List Int), Ow kTSlot 32 v5 x10]) hS (spec_l1Below.spec k2 _ _ x17 x18 x19 32 v16 g1 h7 _ hx5))) ?_
                  intro v w hR
                  obtain ⟨s11, A6, hg7, hS, hR⟩ := hR
                  obtain ⟨v18, hv5, rfl, h8⟩ := hR; obtain rfl := hv5.symm
                  have hS : St e s11 w [pt g1 58 ([v18, (.int .i64 x22.2.2.1), (.int .i64 x22.2.2.2)]), pt g2 30 ([(.int .i64 (w64 (1 + x11.1))), v12, v17]), Ow (Kd.int .i64) 3 v17 x20, Ow (Kd.int .i64) 3 v12 ([x12.1] : List Int), Ow kTSlot 32 v5 x10] := hS
                  refine ⟨⟨knw rfl rfl rfl (p_move rfl), ⟨knw rfl rfl rfl (p_rem (c := (w64 (x5 + 1)).tmod 32) rfl rfl (by decide) rfl), ⟨knw rfl rfl rfl (p_add (c := w64 (x5 + 1)) rfl rfl rfl), ⟨knw rfl rfl rfl (p_move rfl), ⟨knw rfl rfl rfl (p_move rfl), ⟨knw rfl rfl rfl (p_move rfl), ⟨knw rfl rfl rfl (p_ldb_one (i := 1) hS rfl rfl ia_27 rfl), ⟨knw rfl rfl rfl (p_fldb (o' := 2) rfl fi_30_2 rfl), trivial⟩⟩⟩⟩⟩⟩⟩⟩, ?_⟩
                  obtain ⟨x23, hx6, H⟩ := hb H
                  refine pkE [6, 5, 4, 3, 2, 1, 0] rfl (by decide) (by kernel_rfl) (by kernel_rfl) (e_call (fst := []) (vs := [(.pointer (some ⟨g1, 0, none⟩)), (.int .i64 32)]) (cap := []) rfl rfl go_31 (St.call (A := [pt g1 58 ([v18, (.int .i64 x22.2.2.1), (.int .i64 x22.2.2.2)])]) (B := [pt g2 30 ([(.int .i64 (w64 (1 + x11.1))), v12, v17]), Ow (Kd.int .i64) 3 v17 x20, Ow (Kd.int .i64) 3 v12 ([x12.1] : List Int), Ow kTSlot 32 v5 x10]) hS (spec_l1Below.spec k2 _ _ x22.2.1 x22.2.2.1 x22.2.2.2 32 v18 g1 h8 _ hx6))) ?_
                  intro v w hR
                  obtain ⟨s12, A7, hg8, hS, hR⟩ := hR
                  obtain ⟨v19, hv6, rfl, h9⟩ := hR; obtain rfl := hv6.symm
                  have hS : St e s12 w [pt g1 58 ([v19, (.int .i64 x23.2.2.1), (.int .i64 x23.2.2.2)]), pt g2 30 ([(.int .i64 (w64 (1 + x11.1))), v12, v17]), Ow (Kd.int .i64) 3 v17 x20, Ow (Kd.int .i64) 3 v12 ([x12.1] : List Int), Ow kTSlot 32 v5 x10] := hS
                  refine ⟨⟨knw rfl rfl rfl (p_rem (c := (w64 (x5 + 1)).tmod 32) rfl rfl (by decide) rfl), ⟨knw rfl rfl rfl (p_add (c := w64 (x5 + 1)) rfl rfl rfl), ⟨knw rfl rfl rfl (p_move rfl), ⟨knw rfl rfl rfl (p_move rfl), ⟨knw rfl rfl rfl (p_move rfl), ⟨knw rfl rfl rfl (p_ldb_one (i := 1) hS rfl rfl ia_27 rfl), ⟨knw rfl rfl rfl (p_fldb (o' := 2) rfl fi_30_2 rfl), trivial⟩⟩⟩⟩⟩⟩⟩, ?_⟩
                  refine pkE [5, 4, 2, 1, 0] rfl (by decide) (by kernel_rfl) (by kernel_rfl) (e_bslice (kd := (Kd.int .i64)) (et := 3) (ps := [(0, (.const (.int .i64 0))), (1, (.tmp 32)), (2, (.tmp 35)), (3, (.tmp 37)), (4, (.tmp 39))]) (vs := [(0, (.int .i64 0)), (1, (.int .i64 x5)), (2, (.int .i64 ((w64 (x5 + 1)).tmod 32))), (3, (.int .i64 x22.1)), (4, (.int .i64 x23.1))]) (cs := [(.int .i64 0), (.int .i64 x5), (.int .i64 ((w64 (x5 + 1)).tmod 32)), (.int .i64 x22.1), (.int .i64 x23.1)]) (xs := ([0, x5, (w64 (x5 + 1)).tmod 32, x22.1, x23.1] : List Int)) hS rfl (by intro w; kernel_rfl) rfl (by decide) (Nat.le_of_ble_eq_true rfl) (by exact (rows_cons (kd := (Kd.int .i64)) (x := 0) (c := [(.int .i64 0)]) (cs := [(.int .i64 x5), (.int .i64 ((w64 (x5 + 1)).tmod 32)), (.int .i64 x22.1), (.int .i64 x23.1)]) rfl (rows_cons (kd := (Kd.int .i64)) (x := x5) (c := [(.int .i64 x5)]) (cs := [(.int .i64 ((w64 (x5 + 1)).tmod 32)), (.int .i64 x22.1), (.int .i64 x23.1)]) rfl (rows_cons (kd := (Kd.int .i64)) (x := (w64 (x5 + 1)).tmod 32) (c := [(.int .i64 ((w64 (x5 + 1)).tmod 32))]) (cs := [(.int .i64 x22.1), (.int .i64 x23.1)]) rfl (rows_cons (kd := (Kd.int .i64)) (x := x22.1) (c := [(.int .i64 x22.1)]) (cs := [(.int .i64 x23.1)]) rfl (rows_cons (kd := (Kd.int .i64)) (x := x23.1) (c := [(.int .i64 x23.1)]) (cs := []) rfl (Rows.nil _ _ _ _)))))))) ?_
                  intro v20 w hR
                  have hS : St e s12 w [Ow (Kd.int .i64) 3 v20 ([0, x5, (w64 (x5 + 1)).tmod 32, x22.1, x23.1] : List Int), pt g1 58 ([v19, (.int .i64 x23.2.2.1), (.int .i64 x23.2.2.2)]), pt g2 30 ([(.int .i64 (w64 (1 + x11.1))), v12, v17]), Ow (Kd.int .i64) 3 v17 x20, Ow (Kd.int .i64) 3 v12 ([x12.1] : List Int), Ow kTSlot 32 v5 x10] := hR
                  refine ⟨⟨knw rfl rfl rfl (p_add (c := w64 (x5 + 1)) rfl rfl rfl), ⟨knw rfl rfl rfl (p_move rfl), ⟨knw rfl rfl rfl (p_move rfl), ⟨knw rfl rfl rfl (p_ldb_one (i := 2) hS rfl rfl ia_27 rfl), ⟨knw rfl rfl rfl (p_fldb (o' := 2) rfl fi_30_2 rfl), trivial⟩⟩⟩⟩⟩, ?_⟩
                  obtain ⟨s13, hg9, h10, hS⟩ := hS.freeze (i := 0) (kd := (Kd.int .i64)) (et := 3) (v := v20) (xs := ([0, x5, (w64 (x5 + 1)).tmod 32, x22.1, x23.1] : List Int)) (B := [pt g1 58 ([v19, (.int .i64 x23.2.2.1), (.int .i64 x23.2.2.2)]), pt g2 30 ([(.int .i64 (w64 (1 + x11.1))), v12, v17]), Ow (Kd.int .i64) 3 v17 x20, Ow (Kd.int .i64) 3 v12 ([x12.1] : List Int), Ow kTSlot 32 v5 x10]) rfl
                  obtain ⟨x24, hx7, H⟩ := hb H
                  refine pkE [5, 4, 1, 0] rfl (by decide) (by kernel_rfl) (by kernel_rfl) (e_call (fst := []) (vs := [(.pointer (some ⟨g1, 0, none⟩)), v20]) (cap := []) rfl rfl go_32 (St.call (A := [pt g1 58 ([v19, (.int .i64 x23.2.2.1), (.int .i64 x23.2.2.2)])]) (B := [pt g2 30 ([(.int .i64 (w64 (1 + x11.1))), v12, v17]), Ow (Kd.int .i64) 3 v17 x20, Ow (Kd.int .i64) 3 v12 ([x12.1] : List Int), Ow kTSlot 32 v5 x10]) hS (spec_l1Int.spec k2 _ _ x23.2.1 x23.2.2.1 x23.2.2.2 ([0, x5, (w64 (x5 + 1)).tmod 32, x22.1, x23.1] : List Int) v19 g1 v20 (h9.mono hg9) h10 _ hx7))) ?_
                  intro v w hR
                  obtain ⟨s14, A8, hg10, hS, hR⟩ := hR
                  obtain ⟨v21, hv7, rfl, h11⟩ := hR; obtain rfl := hv7.symm
                  have hS : St e s14 w [pt g1 58 ([v21, (.int .i64 x24.2.2.1), (.int .i64 x24.2.2.2)]), pt g2 30 ([(.int .i64 (w64 (1 + x11.1))), v12, v17]), Ow (Kd.int .i64) 3 v17 x20, Ow (Kd.int .i64) 3 v12 ([x12.1] : List Int), Ow kTSlot 32 v5 x10] := hS
                  refine ⟨⟨knw rfl rfl rfl (p_add (c := w64 (x5 + 1)) rfl rfl rfl), ⟨knw rfl rfl rfl (p_move rfl), ⟨knw rfl rfl rfl (p_ldb_one (i := 1) hS rfl rfl ia_27 rfl), ⟨knw rfl rfl rfl (p_fldb (o' := 2) rfl fi_30_2 rfl), trivial⟩⟩⟩⟩, ?_⟩
                  refine pkE [5, 4, 1, 0] rfl (by decide) (by kernel_rfl) (by kernel_rfl) (e_bslice (kd := (Kd.int .i64)) (et := 3) (ps := [(0, (.tmp 41))]) (vs := [(0, (.int .i64 x24.1))]) (cs := [(.int .i64 x24.1)]) (xs := ([x24.1] : List Int)) hS rfl (by intro w; kernel_rfl) rfl (by decide) (Nat.le_of_ble_eq_true rfl) (by exact (rows_cons (kd := (Kd.int .i64)) (x := x24.1) (c := [(.int .i64 x24.1)]) (cs := []) rfl (Rows.nil _ _ _ _)))) ?_
                  intro v22 w hR
                  have hS : St e s14 w [Ow (Kd.int .i64) 3 v22 ([x24.1] : List Int), pt g1 58 ([v21, (.int .i64 x24.2.2.1), (.int .i64 x24.2.2.2)]), pt g2 30 ([(.int .i64 (w64 (1 + x11.1))), v12, v17]), Ow (Kd.int .i64) 3 v17 x20, Ow (Kd.int .i64) 3 v12 ([x12.1] : List Int), Ow kTSlot 32 v5 x10] := hR
                  refine ⟨⟨knw rfl rfl rfl (p_add (c := w64 (x5 + 1)) rfl rfl rfl), ⟨knw rfl rfl rfl (p_move rfl), ⟨knw rfl rfl rfl (p_ldb_one (i := 2) hS rfl rfl ia_27 rfl), ⟨knw rfl rfl rfl (p_fldb (o' := 2) rfl fi_30_2 rfl), trivial⟩⟩⟩⟩, ?_⟩
                  obtain ⟨hq1, H⟩ := hck H
                  refine pkE [5, 4, 0] rfl (by decide) (by kernel_rfl) (by kernel_rfl) (e_append (n := 3) hS rfl rfl rfl (hS.src (n := 0) rfl) un_27 ti_3 rfl (by decide) (by decide) (Nat.le_trans (Nat.mul_le_mul_right 8 hq1) (by decide))) ?_
                  intro v23 w hR
                  have hS : St e s14 w [Ow (Kd.int .i64) 3 v23 (x20 ++ ([x24.1] : List Int)), Ow (Kd.int .i64) 3 v22 ([x24.1] : List Int), pt g1 58 ([v21, (.int .i64 x24.2.2.1), (.int .i64 x24.2.2.2)]), pt g2 30 ([(.int .i64 (w64 (1 + x11.1))), v12, v17]), Ow (Kd.int .i64) 3 v12 ([x12.1] : List Int), Ow kTSlot 32 v5 x10] := hR
                  replace hS := hS.sel (is := [0, 1, 1, 1, 1]) (A' := [Ow (Kd.int .i64) 3 v23 (x20 ++ ([x24.1] : List Int)), pt g1 58 ([v21, (.int .i64 x24.2.2.1), (.int .i64 x24.2.2.2)]), pt g2 30 ([(.int .i64 (w64 (1 + x11.1))), v12, v17]), Ow (Kd.int .i64) 3 v12 ([x12.1] : List Int), Ow kTSlot 32 v5 x10]) rfl
                  refine ⟨⟨knw rfl rfl rfl (p_add (c := w64 (x5 + 1)) rfl rfl rfl), ⟨knw rfl rfl rfl (p_move rfl), ⟨knw rfl rfl rfl (p_fldb (o' := 2) rfl fi_30_2 rfl), trivial⟩⟩⟩, ?_⟩
                  refine pk1 rfl (by decide) rfl (by kernel_rfl) rfl (p_fldb (o' := 2) rfl fi_30_2 rfl) ?_
                  refine pkE0 [] rfl (by kernel_rfl) (by kernel_rfl) (e_stb (i := 2) (l := [(.int .i64 (w64 (1 + x11.1))), v12]) (m := [v17]) (r := []) (m' := [v23]) (cs' := [(.int .i64 (w64 (1 + x11.1))), v12, v23]) hS rfl rfl rfl ti_27 rfl rfl rfl (cells_one (hS.one_ow (i := 0) rfl)) rfl (one_cons (hS.one_ow (i := 0) rfl) one_nil) rfl) ?_
                  intro v w hR
                  have hS : St e s14 w [pt g2 30 ([(.int .i64 (w64 (1 + x11.1))), v12, v23]), Ow (Kd.int .i64) 3 v23 (x20 ++ ([x24.1] : List Int)), pt g1 58 ([v21, (.int .i64 x24.2.2.1), (.int .i64 x24.2.2.2)]), Ow (Kd.int .i64) 3 v12 ([x12.1] : List Int), Ow kTSlot 32 v5 x10] := hR
                  refine ⟨trivial, ?_⟩
                  refine pkF (fun a hF => ?_)
                  refine bn (xn ?_)
                  refine rg ?_
                  refine stp hF (p_move rfl) (by decide) (fun a hF => ?_)
                  refine stp hF (p_sub (c := w64 (x21 - 1)) rfl rfl rfl) (by decide) (fun a hF => ?_)
                  refine stp hF (p_assign rfl) (by decide) (fun a hF => ?_)
                  refine nilN ?_
                  refine xn ?_
                  replace hS := hS.sel (is := [2, 0, 0, 0, 0]) (A' := [pt g1 58 ([v21, (.int .i64 x24.2.2.1), (.int .i64 x24.2.2.2)]), pt g2 30 ([(.int .i64 (w64 (1 + x11.1))), v12, v23]), Ow (Kd.int .i64) 3 v23 (x20 ++ ([x24.1] : List Int)), Ow (Kd.int .i64) 3 v12 ([x12.1] : List Int), Ow kTSlot 32 v5 x10]) rfl
                  exact ⟨x24.2.1, x24.2.2.1, x24.2.2.2, (x20 ++ ([x24.1] : List Int)), (w64 (x21 - 1)), s14, v21, v23, hS, hF.cut ⟨rfl, rfl, rfl, rfl, rfl, trivial⟩, ((((hg6.trans hg7).trans hg8).trans hg9).trans hg10), h11, H⟩
                · replace H := hbf hc3 H
                  refine exi ?_
                  refine xe (xe (hit (xn ?_)))
                  obtain rfl := hsm H
                  replace hS := hS.sel (is := [1, 1, 1, 0, 0]) (A' := [pt g2 30 ([(.int .i64 (w64 (1 + x11.1))), v12, v17]), Ow (Kd.int .i64) 3 v17 x20, Ow (Kd.int .i64) 3 v12 ([x12.1] : List Int), pt g1 58 ([v16, (.int .i64 x18), (.int .i64 x19)]), Ow kTSlot 32 v5 x10]) rfl
                  exact ⟨x20, x17, x18, x19, s10, v17, v16, hS, hF.cut ⟨rfl, rfl, rfl, rfl, trivial⟩, (hg5.trans hg6), h7, HK3⟩
            · clear H HK3 hS hF
              rintro a w ⟨x13, x14, x15, x16, s8, v13, v14, hS, hF, hg11, h12, H⟩
              unfold spec_l11Draw.c3 at H
              refine rg ?_
              refine stp hF (p_move rfl) (by decide) (fun a hF => ?_)
              refine stp hF (p_move rfl) (by decide) (fun a hF => ?_)
              refine stp hF (p_ldb_agg (i := 0) (l := []) (m := [(.int .i64 (w64 (1 + x11.1))), v12, v13]) (r := []) hS rfl rfl ia_30 ti_30 rfl rfl rfl) (by decide) (fun a hF => ?_)
              refine stp hF (p_build (ps := [(0, (.const (.bool true))), (1, (.tmp 47))]) (vs := [(0, (.bool true)), (1, (.agg #[(.int .i64 (w64 (1 + x11.1))), v12, v13]))]) (v := (.agg #[(.bool true), (.int .i64 (w64 (1 + x11.1))), v12, v13])) rfl (by intro w; obtain ⟨_, _, _, e2⟩ := hS.el (i := 2) rfl; rw [e2]; obtain ⟨_, _, _, e3⟩ := hS.el (i := 1) rfl; rw [e3]; kernel_rfl)) (by decide) (fun a hF => ?_)
              obtain ⟨hq2, H⟩ := hck H
              obtain ⟨b1, o1, q1, rfl, p1⟩ := p_idxo (n := 4) (i := x5) hS rfl un_24 ti_32 hq2.1 hq2.2
              refine stp hF (p1 rfl rfl) (by decide) (fun a hF => ?_)
              obtain ⟨s15, hg12, h13, hS⟩ := hS.freeze (i := 2) (kd := (Kd.int .i64)) (et := 3) (v := v12) (xs := ([x12.1] : List Int)) (B := [pt g2 30 ([(.int .i64 (w64 (1 + x11.1))), v12, v13]), Ow (Kd.int .i64) 3 v13 x13, pt g1 58 ([v14, (.int .i64 x15), (.int .i64 x16)]), Ow kTSlot 32 (.slice (some ⟨b1, o1, none⟩) x10.length q1) x10]) rfl
              obtain ⟨s16, hg13, h14, hS⟩ := hS.freeze (i := 1) (kd := (Kd.int .i64)) (et := 3) (v := v13) (xs := x13) (B := [pt g2 30 ([(.int .i64 (w64 (1 + x11.1))), v12, v13]), pt g1 58 ([v14, (.int .i64 x15), (.int .i64 x16)]), Ow kTSlot 32 (.slice (some ⟨b1, o1, none⟩) x10.length q1) x10]) rfl
              refine ste0 hF (e_sto (n := 2) (c := (⟨true, (⟨w64 (1 + x11.1), ([x12.1] : List Int), x13⟩ : TObj)⟩ : TSlot)) hS rfl (Lens.id _) hq2.1 hq2.2 rfl rfl rfl ti_32 rfl (kTSlot_mk (x := (⟨true, (⟨w64 (1 + x11.1), ([x12.1] : List Int), x13⟩ : TObj)⟩ : TSlot)) (h13.mono hg13) h14)) (fun v w a hR hF => ?_)
              have hS : St e s16 w [Ow kTSlot 32 (.slice (some ⟨b1, o1, none⟩) x10.length q1) (wr x10 x5 (⟨true, (⟨w64 (1 + x11.1), ([x12.1] : List Int), x13⟩ : TObj)⟩ : TSlot)), pt g2 30 ([(.int .i64 (w64 (1 + x11.1))), v12, v13]), pt g1 58 ([v14, (.int .i64 x15), (.int .i64 x16)])] := hR
              refine nilN ?_
              refine bn (xn ?_)
              obtain rfl := hsm H
              replace hS := hS.sel (is := [0, 1]) (A' := [Ow kTSlot 32 (.slice (some ⟨b1, o1, none⟩) x10.length q1) (wr x10 x5 (⟨true, (⟨w64 (1 + x11.1), ([x12.1] : List Int), x13⟩ : TObj)⟩ : TSlot)), pt g1 58 ([v14, (.int .i64 x15), (.int .i64 x16)])]) rfl
              exact ⟨(wr x10 x5 (⟨true, (⟨w64 (1 + x11.1), ([x12.1] : List Int), x13⟩ : TObj)⟩ : TSlot)), x14, x15, x16, s16, (.slice (some ⟨b1, o1, none⟩) x10.length q1), v14, hS, hF.cut ⟨rfl, rfl, rfl, trivial⟩, (((((hg2.trans hg3).trans hg4).trans hg11).trans hg12).trans hg13), ((h12.mono hg12).mono hg13), HK2⟩
        · clear H HK2 hS hF
          rintro a w ⟨x6, x7, x8, x9, s4, v7, v8, hS, hF, hg14, h15, H⟩
          unfold spec_l11Draw.c2 at H
          refine rg ?_
          refine stp hF (p_move rfl) (by decide) (fun a hF => ?_)
          refine stp hF (p_add (c := w64 (x5 + 1)) rfl rfl rfl) (by decide) (fun a hF => ?_)
          refine stp hF (p_assign rfl) (by decide) (fun a hF => ?_)
          refine nilN ?_
          refine xn ?_
          exact ⟨x6, x7, x8, x9, (w64 (x5 + 1)), s4, v7, v8, hS, hF.cut ⟨rfl, rfl, rfl, trivial⟩, (hg1.trans hg14), h15, H⟩
      · replace H := hbf hc1 H
        refine exi ?_
        refine xe (xe (hit (xn ?_)))
        obtain rfl := hsm H
        exact ⟨x10, x25, x26, x27, s3, v5, v6, hS, hF.cut ⟨rfl, trivial⟩, hg1, h2, HK1⟩
  · clear H HK1 hS hF
    rintro a w ⟨x1, x2, x3, x4, s2, v3, v4, hS, hF, hg15, h16, H⟩
    unfold spec_l11Draw.c1 at H
    refine sq ?_
    refine rg ?_
    refine stp hF (p_move rfl) (by decide) (fun a hF => ?_)
    refine stp hF (p_assign rfl) (by decide) (fun a hF => ?_)
    refine nilN ?_
    refine xn ?_
    refine rt ?_
    obtain rfl := hsm H
    replace hS := hS.sel (is := [1, 0]) (A' := [pt g1 58 ([v4, (.int .i64 x3), (.int .i64 x4)]), Ow kTSlot 32 v3 x1]) rfl
    exact ret1 hF rfl rfl hS ⟨v4, v3, rfl, rfl, h16⟩

def spec_DrawHeap.f (k : Nat) (x1 : (List Int)) : Option (List TSlot) :=
  ((spec_l1New.f k x1).bind fun x2 => ((spec_l11Draw.f k x2.b x2.i x2.h_).bind fun x3 => (some x3.1)))
set_option maxRecDepth 100000 in
set_option maxHeartbeats 4000000 in
theorem spec_DrawHeap.spec (k : Nat) (s0 : HF) (w : World) (x1 : (List Int)) (v1 : Value) (h1 : Sl (Kd.int .u8) s0 v1 x1) (r : (List TSlot)) (H : spec_DrawHeap.f k x1 = some r) :
    Law Try.prog 6 #[v1] s0 w [] (fun v s1 A1 => ∃ (u0 : Value), v = u0 ∧ A1 = [Ow kTSlot 32 u0 r]) := by
  unfold spec_DrawHeap.f at H
  refine Law.intro Try.func6 rfl [(0, v1)] (Nat.le_of_ble_eq_true rfl) (enter_lk ⟨rfl, trivial⟩) (fun e a hS hF => ?_)
  have hF : Fr 8 a [(0, v1)] := hF
  refine sq ?_
  refine rg ?_
  refine stp hF (p_assign rfl) (by decide) (fun a hF => ?_)
  refine nilN ?_
  refine xn ?_
  refine sq ?_
  refine rg ?_
  refine stp hF (p_move rfl) (by decide) (fun a hF => ?_)
  obtain ⟨x2, hx1, H⟩ := hb H
  refine ste hF (e_call (fst := []) (vs := [v1]) (cap := []) rfl rfl go_15 (St.call (A := []) (B := []) hS (spec_l1New.spec k _ _ x1 v1 h1 _ hx1))) (by decide) (fun v w a hR hF => ?_)
  obtain ⟨s2, A2, hg1, hS, hR⟩ := hR
  obtain ⟨g1, v2, hv1, rfl, h2⟩ := hR; obtain rfl := hv1.symm
  have hS : St e s2 w [pt g1 58 ([v2, (.int .i64 x2.i), (.int .i64 x2.h_)])] := hS
  refine stp hF (p_assign rfl) (by decide) (fun a hF => ?_)
  refine nilN ?_
  refine xn ?_
  refine sq ?_
  refine rg ?_
  refine stp hF (p_move rfl) (by decide) (fun a hF => ?_)
  obtain ⟨x3, hx2, H⟩ := hb H
  refine ste hF (e_call (fst := []) (vs := [(.pointer (some ⟨g1, 0, none⟩))]) (cap := []) rfl rfl go_16 (St.call (A := [pt g1 58 ([v2, (.int .i64 x2.i), (.int .i64 x2.h_)])]) (B := []) hS (spec_l11Draw.spec k _ _ x2.b x2.i x2.h_ v2 g1 h2 _ hx2))) (by decide) (fun v w a hR hF => ?_)
  obtain ⟨s3, A3, hg2, hS, hR⟩ := hR
  obtain ⟨v3, v4, hv2, rfl, h3⟩ := hR; obtain rfl := hv2.symm
  have hS : St e s3 w [pt g1 58 ([v3, (.int .i64 x3.2.2.1), (.int .i64 x3.2.2.2)]), Ow kTSlot 32 v4 x3.1] := hS
  refine stp hF (p_assign rfl) (by decide) (fun a hF => ?_)
  refine nilN ?_
  refine xn ?_
  refine rt ?_
  obtain rfl := hsm H
  replace hS := hS.sel (is := [1]) (A' := [Ow kTSlot 32 v4 x3.1]) rfl
  exact ret1 hF rfl rfl hS ⟨v4, rfl, rfl⟩

def laws_at.f (k : Nat) (x1 : (List Int)) (x2 : Int) : Option Int :=
  (if (decide (x2 < (x1.length : Int))) = true then (if 0 ≤ x2 ∧ x2 < (x1.length : Int) then (some (w64 (rd x1 x2))) else none) else (some ((w64 ((w64 (x2 * 31)) + (w64 ((x1.length : Int) * 7)))).tmod 256)))
set_option maxRecDepth 100000 in
set_option maxHeartbeats 4000000 in
theorem laws_at.spec (k : Nat) (s0 : HF) (w : World) (x1 : (List Int)) (x2 : Int) (v1 : Value) (h1 : Sl (Kd.int .u8) s0 v1 x1) (r : Int) (H : laws_at.f k x1 x2 = some r) :
    Law Try.prog 7 #[v1, (.int .i64 x2)] s0 w [] (fun v s1 A1 => v = (.int .i64 r) ∧ A1 = []) := by
  unfold laws_at.f at H
  refine Law.intro Try.func7 rfl [(0, v1), (1, (.int .i64 x2))] (Nat.le_of_ble_eq_true rfl) (enter_lk ⟨rfl, rfl, trivial⟩) (fun e a hS hF => ?_)
  have hF : Fr 21 a [(0, v1), (1, (.int .i64 x2))] := hF
  refine sq ?_
  refine rg ?_
  refine stp hF (p_assign rfl) (by decide) (fun a hF => ?_)
  refine nilN ?_
  refine xn ?_
  refine sq ?_
  refine sq ?_
  refine rg ?_
  refine stp hF (p_move rfl) (by decide) (fun a hF => ?_)
  refine stp hF (p_move rfl) (by decide) (fun a hF => ?_)
  refine stp hF (p_lenr un_22 rfl h1) (by decide) (fun a hF => ?_)
  refine stp hF (p_lss rfl rfl) (by decide) (fun a hF => ?_)
  refine nilN ?_
  refine xn ?_
  refine cnd hF rfl (fun hc1 => ?_) (fun hc1 => ?_)
  · replace H := hbt hc1 H
    refine sq ?_
    refine rg ?_
    refine stp hF (p_move rfl) (by decide) (fun a hF => ?_)
    refine stp hF (p_move rfl) (by decide) (fun a hF => ?_)
    obtain ⟨hq1, H⟩ := hck H
    obtain ⟨ad1, h2, p1⟩ := p_idxr (P := Try.prog) (i := x2) h1 un_22 ti_5 hq1.1 hq1.2
    refine stp hF (p1 rfl rfl) (by decide) (fun a hF => ?_)
    refine stp hF (p_ldr_int rfl hS h2 ia_5) (by decide) (fun a hF => ?_)
    refine stp hF (p_cvint (c := w64 (rd x1 x2)) un_5 un_3 rfl rfl) (by decide) (fun a hF => ?_)
    refine stp hF (p_assign rfl) (by decide) (fun a hF => ?_)
    refine nilN ?_
    refine xn ?_
    refine rt ?_
    refine xr ?_
    obtain rfl := hsm H
    exact ret1 hF rfl rfl hS ⟨rfl, rfl⟩
  · replace H := hbf hc1 H
    refine skN ?_
    refine xn ?_
    refine sq ?_
    refine rg ?_
    refine stp hF (p_move rfl) (by decide) (fun a hF => ?_)
    refine stp hF (p_mul (c := w64 (x2 * 31)) rfl rfl rfl) (by decide) (fun a hF => ?_)
    refine stp hF (p_move rfl) (by decide) (fun a hF => ?_)
    refine stp hF (p_lenr un_22 rfl h1) (by decide) (fun a hF => ?_)
    refine stp hF (p_mul (c := w64 ((x1.length : Int) * 7)) rfl rfl rfl) (by decide) (fun a hF => ?_)
    refine stp hF (p_add (c := w64 ((w64 (x2 * 31)) + (w64 ((x1.length : Int) * 7)))) rfl rfl rfl) (by decide) (fun a hF => ?_)
    refine stp hF (p_rem (c := (w64 ((w64 (x2 * 31)) + (w64 ((x1.length : Int) * 7)))).tmod 256) rfl rfl (by decide) rfl) (by decide) (fun a hF => ?_)
    refine stp hF (p_assign rfl) (by decide) (fun a hF => ?_)
    refine nilN ?_
    refine xn ?_
    refine rt ?_
    obtain rfl := hsm H
    exact ret1 hF rfl rfl hS ⟨rfl, rfl⟩

def impl_noObj.f (k : Nat) (x1 : TObj) : Option Bool :=
  (some (((decide (x1.Kind = 0)) && (decide ((x1.Ints.length : Int) = 0))) && (decide ((x1.Refs.length : Int) = 0))))
set_option maxRecDepth 100000 in
set_option maxHeartbeats 4000000 in
theorem impl_noObj.spec (k : Nat) (s0 : HF) (w : World) (x1 : TObj) (v1 : Value) (v2 : Value) (h1 : Sl (Kd.int .i64) s0 v1 x1.Ints) (h2 : Sl (Kd.int .i64) s0 v2 x1.Refs) (r : Bool) (H : impl_noObj.f k x1 = some r) :
    Law Try.prog 34 #[(.agg #[(.int .i64 x1.Kind), v1, v2])] s0 w [] (fun v s1 A1 => v = (.bool r) ∧ A1 = []) := by
  unfold impl_noObj.f at H
  refine Law.intro Try.func34 rfl [(0, (.agg #[(.int .i64 x1.Kind), v1, v2]))] (Nat.le_of_ble_eq_true rfl) (enter_lk ⟨rfl, trivial⟩) (fun e a hS hF => ?_)
  have hF : Fr 18 a [(0, (.agg #[(.int .i64 x1.Kind), v1, v2]))] := hF
  refine sq ?_
  refine rg ?_
  refine ste hF (e_box (cs := [(.int .i64 x1.Kind), v1, v2]) hS rfl rfl) (by decide) (fun v w a hR hF => ?_)
  obtain ⟨g1, rfl, hS⟩ := hR
  refine stp hF (p_assign rfl) (by decide) (fun a hF => ?_)
  refine nilN ?_
  refine xn ?_
  refine sq ?_
  refine rg ?_
  refine stp hF (p_fldb (o' := 0) rfl fi_30_0 rfl) (by decide) (fun a hF => ?_)
  refine stp hF (p_ldb_one (i := 0) hS rfl rfl ia_3 rfl) (by decide) (fun a hF => ?_)
  refine stp hF (p_eql rfl rfl) (by decide) (fun a hF => ?_)
  refine stp hF (p_move rfl) (by decide) (fun a hF => ?_)
  refine cutj 5 (fun a w => St e s0 w [pt g1 30 ([(.int .i64 x1.Kind), v1, v2])] ∧ Fr 18 a [(1, (.pointer (some ⟨g1, 0, none⟩))), (11, (.bool ((decide (x1.Kind = 0)) && (decide ((x1.Ints.length : Int) = 0)))))]) rfl rfl ?_ ?_
  · rcases Bool.eq_false_or_eq_true (decide (x1.Kind = 0)) with hc1 | hc1
    · skip
      refine gonE (j := 3) hF rfl rfl hc1 ?_
      refine stp hF (p_fldb (o' := 1) rfl fi_30_1 rfl) (by decide) (fun a hF => ?_)
      refine gonE (j := 3) hF rfl rfl hc1 ?_
      refine stp hF (p_ldb_one (i := 0) hS rfl rfl ia_27 rfl) (by decide) (fun a hF => ?_)
      refine gonE (j := 3) hF rfl rfl hc1 ?_
      refine stp hF (p_lenr un_27 rfl h1) (by decide) (fun a hF => ?_)
      refine gonE (j := 3) hF rfl rfl hc1 ?_
      refine stp hF (p_eql rfl rfl) (by decide) (fun a hF => ?_)
      refine stp hF (p_andT rfl hc1 rfl) (by decide) (fun a hF => ?_)
      refine nilN ?_
      refine xn ?_
      exact ⟨hS, hF.cut ⟨rfl, rfl, trivial⟩⟩
    · skip
      refine gofD (j := 3) hF rfl rfl (by rw [hc1]; decide) (by decide) (fun a hF => ?_)
      refine gofD (j := 3) hF rfl rfl (by rw [hc1]; decide) (by decide) (fun a hF => ?_)
      refine gofD (j := 3) hF rfl rfl (by rw [hc1]; decide) (by decide) (fun a hF => ?_)
      refine gofD (j := 3) hF rfl rfl (by rw [hc1]; decide) (by decide) (fun a hF => ?_)
      refine stp hF (p_andF (decide ((x1.Ints.length : Int) = 0)) rfl hc1 rfl) (by decide) (fun a hF => ?_)
      refine nilN ?_
      refine xn ?_
      exact ⟨hS, hF.cut ⟨rfl, rfl, trivial⟩⟩
  clear hS hF
  rintro a w ⟨hS, hF⟩
  refine stp hF (p_move rfl) (by decide) (fun a hF => ?_)
  refine cutj 5 (fun a w => St e s0 w [pt g1 30 ([(.int .i64 x1.Kind), v1, v2])] ∧ Fr 18 a [(17, (.bool (((decide (x1.Kind = 0)) && (decide ((x1.Ints.length : Int) = 0))) && (decide ((x1.Refs.length : Int) = 0)))))]) rfl rfl ?_ ?_
  · rcases Bool.eq_false_or_eq_true (((decide (x1.Kind = 0)) && (decide ((x1.Ints.length : Int) = 0)))) with hc2 | hc2
    · skip
      refine gonE (j := 9) hF rfl rfl hc2 ?_
      refine stp hF (p_fldb (o' := 2) rfl fi_30_2 rfl) (by decide) (fun a hF => ?_)
      refine gonE (j := 9) hF rfl rfl hc2 ?_
      refine stp hF (p_ldb_one (i := 0) hS rfl rfl ia_27 rfl) (by decide) (fun a hF => ?_)
      refine gonE (j := 9) hF rfl rfl hc2 ?_
      refine stp hF (p_lenr un_27 rfl h2) (by decide) (fun a hF => ?_)
      refine gonE (j := 9) hF rfl rfl hc2 ?_
      refine stp hF (p_eql rfl rfl) (by decide) (fun a hF => ?_)
      refine stp hF (p_andT rfl hc2 rfl) (by decide) (fun a hF => ?_)
      refine nilN ?_
      refine xn ?_
      exact ⟨hS, hF.cut ⟨rfl, trivial⟩⟩
    · skip
      refine gofD (j := 9) hF rfl rfl (by rw [hc2]; decide) (by decide) (fun a hF => ?_)
      refine gofD (j := 9) hF rfl rfl (by rw [hc2]; decide) (by decide) (fun a hF => ?_)
      refine gofD (j := 9) hF rfl rfl (by rw [hc2]; decide) (by decide) (fun a hF => ?_)
      refine gofD (j := 9) hF rfl rfl (by rw [hc2]; decide) (by decide) (fun a hF => ?_)
      refine stp hF (p_andF (decide ((x1.Refs.length : Int) = 0)) rfl hc2 rfl) (by decide) (fun a hF => ?_)
      refine nilN ?_
      refine xn ?_
      exact ⟨hS, hF.cut ⟨rfl, trivial⟩⟩
  clear hS hF
  rintro a w ⟨hS, hF⟩
  refine stp hF (p_assign rfl) (by decide) (fun a hF => ?_)
  refine nilN ?_
  refine xn ?_
  refine rt ?_
  obtain rfl := hsm H
  replace hS := hS.sel (is := []) (A' := []) rfl
  exact ret1 hF rfl rfl hS ⟨rfl, rfl⟩

def impl_noSlot.c1 (k : Nat) (x1 : Bool) : Option Bool :=
  (some x1)
def impl_noSlot.f (k : Nat) (x2 : TSlot) : Option Bool :=
  ((if (!x2.Has) = true then ((impl_noObj.f k x2.O).bind fun x3 => (some x3)) else (some false) : Option Bool).bind fun x4 => impl_noSlot.c1 k x4)
set_option maxRecDepth 100000 in
set_option maxHeartbeats 4000000 in
theorem impl_noSlot.spec (k : Nat) (s0 : HF) (w : World) (x2 : TSlot) (v1 : Value) (v2 : Value) (h1 : Sl (Kd.int .i64) s0 v1 x2.O.Ints) (h2 : Sl (Kd.int .i64) s0 v2 x2.O.Refs) (r : Bool) (H : impl_noSlot.f k x2 = some r) :
    Law Try.prog 26 #[(.agg #[(.bool x2.Has), (.int .i64 x2.O.Kind), v1, v2])] s0 w [] (fun v s1 A1 => v = (.bool r) ∧ A1 = []) := by
  unfold impl_noSlot.f at H
  refine Law.intro Try.func26 rfl [(0, (.agg #[(.bool x2.Has), (.int .i64 x2.O.Kind), v1, v2]))] (Nat.le_of_ble_eq_true rfl) (enter_lk ⟨rfl, trivial⟩) (fun e a hS hF => ?_)
  have hF : Fr 11 a [(0, (.agg #[(.bool x2.Has), (.int .i64 x2.O.Kind), v1, v2]))] := hF
  refine sq ?_
  refine rg ?_
  refine ste hF (e_box (cs := [(.bool x2.Has), (.int .i64 x2.O.Kind), v1, v2]) hS rfl rfl) (by decide) (fun v w a hR hF => ?_)
  obtain ⟨g1, rfl, hS⟩ := hR
  refine stp hF (p_assign rfl) (by decide) (fun a hF => ?_)
  refine nilN ?_
  refine xn ?_
  refine sq ?_
  refine rg ?_
  refine stp hF (p_fldb (o' := 0) rfl fi_32_0 rfl) (by decide) (fun a hF => ?_)
  refine stp hF (p_ldb_one (i := 0) hS rfl rfl ia_4 rfl) (by decide) (fun a hF => ?_)
  refine stp hF (p_not rfl) (by decide) (fun a hF => ?_)
  refine stp hF (p_move rfl) (by decide) (fun a hF => ?_)
  obtain ⟨x4, H, HK1⟩ := hb H
  refine cutj 4 (fun a w => ∃ (x1 : Bool) (s2 : HF) , St e s2 w [pt g1 32 ([(.bool x2.Has), (.int .i64 x2.O.Kind), v1, v2])] ∧ Fr 11 a [(10, (.bool x1))] ∧ Sub s0 s2 ∧ impl_noSlot.c1 k x1 = some r) rfl rfl ?_ ?_
  · rcases Bool.eq_false_or_eq_true ((!x2.Has)) with hc1 | hc1
    · replace H := hbt hc1 H
      refine gonE (j := 3) hF rfl rfl hc1 ?_
      refine stp hF (p_fldb (o' := 1) rfl fi_32_1 rfl) (by decide) (fun a hF => ?_)
      refine gonE (j := 3) hF rfl rfl hc1 ?_
      refine stp hF (p_ldb_agg (i := 0) (l := [(.bool x2.Has)]) (m := [(.int .i64 x2.O.Kind), v1, v2]) (r := []) hS rfl rfl ia_30 ti_30 rfl rfl rfl) (by decide) (fun a hF => ?_)
      obtain ⟨x3, hx1, H⟩ := hb H
      refine gonE (j := 3) hF rfl rfl hc1 ?_
      refine ste hF (e_call (fst := []) (vs := [(.agg #[(.int .i64 x2.O.Kind), v1, v2])]) (cap := []) rfl rfl go_34 (St.call (A := []) (B := [pt g1 32 ([(.bool x2.Has), (.int .i64 x2.O.Kind), v1, v2])]) hS (impl_noObj.spec k _ _ x2.O v1 v2 h1 h2 _ hx1))) (by decide) (fun v w a hR hF => ?_)
      obtain ⟨s3, A2, hg1, hS, hR⟩ := hR
      obtain ⟨hv1, rfl⟩ := hR; obtain rfl := hv1.symm
      have hS : St e s3 w [pt g1 32 ([(.bool x2.Has), (.int .i64 x2.O.Kind), v1, v2])] := hS
      refine stp hF (p_pickT rfl hc1 rfl) (by decide) (fun a hF => ?_)
      refine nilN ?_
      refine xn ?_
      obtain rfl := hsm H
      exact ⟨x3, s3, hS, hF.cut ⟨rfl, trivial⟩, hg1, HK1⟩
    · replace H := hbf hc1 H
      refine gofD (j := 3) hF rfl rfl (by rw [hc1]; decide) (by decide) (fun a hF => ?_)
      refine gofD (j := 3) hF rfl rfl (by rw [hc1]; decide) (by decide) (fun a hF => ?_)
      refine gofD (j := 3) hF rfl rfl (by rw [hc1]; decide) (by decide) (fun a hF => ?_)
      refine stp hF (p_pickF rfl hc1 rfl) (by decide) (fun a hF => ?_)
      refine nilN ?_
      refine xn ?_
      obtain rfl := hsm H
      exact ⟨false, s0, hS, hF.cut ⟨rfl, trivial⟩, (Sub.refl _), HK1⟩
  · clear H HK1 hS hF
    rintro a w ⟨x1, s2, hS, hF, hg2, H⟩
    unfold impl_noSlot.c1 at H
    refine stp hF (p_assign rfl) (by decide) (fun a hF => ?_)
    refine nilN ?_
    refine xn ?_
    refine rt ?_
    obtain rfl := hsm H
    replace hS := hS.sel (is := []) (A' := []) rfl
    exact ret1 hF rfl rfl hS ⟨rfl, rfl⟩

def impl_in.f (k : Nat) (x1 : Int) (x2 : Int) (x3 : Int) : Option Bool :=
  (some ((decide (x2 ≤ x1)) && (decide (x1 ≤ x3))))
set_option maxRecDepth 100000 in
set_option maxHeartbeats 4000000 in
theorem impl_in.spec (k : Nat) (s0 : HF) (w : World) (x1 : Int) (x2 : Int) (x3 : Int) (r : Bool) (H : impl_in.f k x1 x2 x3 = some r) :
    Law Try.prog 20 #[(.int .i64 x1), (.int .i64 x2), (.int .i64 x3)] s0 w [] (fun v s1 A1 => v = (.bool r) ∧ A1 = []) := by
  unfold impl_in.f at H
  refine Law.intro Try.func20 rfl [(0, (.int .i64 x1)), (1, (.int .i64 x2)), (2, (.int .i64 x3))] (Nat.le_of_ble_eq_true rfl) (enter_lk ⟨rfl, rfl, rfl, trivial⟩) (fun e a hS hF => ?_)
  have hF : Fr 15 a [(0, (.int .i64 x1)), (1, (.int .i64 x2)), (2, (.int .i64 x3))] := hF
  refine sq ?_
  refine rg ?_
  refine stp hF (p_assign rfl) (by decide) (fun a hF => ?_)
  refine nilN ?_
  refine xn ?_
  refine sq ?_
  refine rg ?_
  refine stp hF (p_move rfl) (by decide) (fun a hF => ?_)
  refine stp hF (p_move rfl) (by decide) (fun a hF => ?_)
  refine stp hF (p_geq rfl rfl) (by decide) (fun a hF => ?_)
  refine stp hF (p_move rfl) (by decide) (fun a hF => ?_)
  refine cutj 4 (fun a w => St e s0 w [] ∧ Fr 15 a [(14, (.bool ((decide (x2 ≤ x1)) && (decide (x1 ≤ x3)))))]) rfl rfl ?_ ?_
  · rcases Bool.eq_false_or_eq_true (decide (x2 ≤ x1)) with hc1 | hc1
    · skip
      refine gonE (j := 3) hF rfl rfl hc1 ?_
      refine stp hF (p_move rfl) (by decide) (fun a hF => ?_)
      refine gonE (j := 3) hF rfl rfl hc1 ?_
      refine stp hF (p_move rfl) (by decide) (fun a hF => ?_)
      refine gonE (j := 3) hF rfl rfl hc1 ?_
      refine stp hF (p_leq rfl rfl) (by decide) (fun a hF => ?_)
      refine stp hF (p_andT rfl hc1 rfl) (by decide) (fun a hF => ?_)
      refine nilN ?_
      refine xn ?_
      exact ⟨hS, hF.cut ⟨rfl, trivial⟩⟩
    · skip
      refine gofD (j := 3) hF rfl rfl (by rw [hc1]; decide) (by decide) (fun a hF => ?_)
      refine gofD (j := 3) hF rfl rfl (by rw [hc1]; decide) (by decide) (fun a hF => ?_)
      refine gofD (j := 3) hF rfl rfl (by rw [hc1]; decide) (by decide) (fun a hF => ?_)
      refine stp hF (p_andF (decide (x1 ≤ x3)) rfl hc1 rfl) (by decide) (fun a hF => ?_)
      refine nilN ?_
      refine xn ?_
      exact ⟨hS, hF.cut ⟨rfl, trivial⟩⟩
  clear hS hF
  rintro a w ⟨hS, hF⟩
  refine stp hF (p_assign rfl) (by decide) (fun a hF => ?_)
  refine nilN ?_
  refine xn ?_
  refine rt ?_
  obtain rfl := hsm H
  exact ret1 hF rfl rfl hS ⟨rfl, rfl⟩

def impl_ObjOk_1.f (k : Nat) (x1 : Int) : Option Bool :=
  ((impl_in.f k x1 (-1000000) 1000000).bind fun x2 => (some (!x2)))
set_option maxRecDepth 100000 in
set_option maxHeartbeats 4000000 in
theorem impl_ObjOk_1.spec (k : Nat) (s0 : HF) (w : World) (x1 : Int) (r : Bool) (H : impl_ObjOk_1.f k x1 = some r) :
    Law Try.prog 38 #[(.int .i64 x1)] s0 w [] (fun v s1 A1 => v = (.bool r) ∧ A1 = []) := by
  unfold impl_ObjOk_1.f at H
  refine Law.intro Try.func38 rfl [(0, (.int .i64 x1))] (Nat.le_of_ble_eq_true rfl) (enter_lk ⟨rfl, trivial⟩) (fun e a hS hF => ?_)
  have hF : Fr 6 a [(0, (.int .i64 x1))] := hF
  refine sq ?_
  refine rg ?_
  refine stp hF (p_assign rfl) (by decide) (fun a hF => ?_)
  refine nilN ?_
  refine xn ?_
  refine sq ?_
  refine rg ?_
  refine stp hF (p_move rfl) (by decide) (fun a hF => ?_)
  obtain ⟨x2, hx1, H⟩ := hb H
  refine ste hF (e_call (fst := []) (vs := [(.int .i64 x1), (.int .i64 (-1000000)), (.int .i64 1000000)]) (cap := []) rfl rfl go_20 (St.call (A := []) (B := []) hS (impl_in.spec k _ _ x1 (-1000000) 1000000 _ hx1))) (by decide) (fun v w a hR hF => ?_)
  obtain ⟨s2, A2, hg1, hS, hR⟩ := hR
  obtain ⟨hv1, rfl⟩ := hR; obtain rfl := hv1.symm
  have hS : St e s2 w [] := hS
  refine stp hF (p_not rfl) (by decide) (fun a hF => ?_)
  refine stp hF (p_assign rfl) (by decide) (fun a hF => ?_)
  refine nilN ?_
  refine xn ?_
  refine rt ?_
  obtain rfl := hsm H
  exact ret1 hF rfl rfl hS ⟨rfl, rfl⟩

def slices_IndexFunc_138.c1 (k : Nat) : Option Int :=
  (some (-1))
def slices_IndexFunc_138.l1 (x1 : (List Int)) : Nat → Int → Option (Ex Int Unit)
  | 0, _ => none
  | k + 1, x2 => (if (decide (x2 < (x1.length : Int))) = true then (if 0 ≤ x2 ∧ x2 < (x1.length : Int) then ((impl_ObjOk_1.f k (rd x1 x2)).bind fun x3 => (if x3 = true then (some (Ex.ret x2)) else ((slices_IndexFunc_138.l1 x1 k) (w64 (x2 + 1))))) else none) else (some (Ex.go ())))
def slices_IndexFunc_138.f (k : Nat) (x1 : (List Int)) : Option Int :=
  (((slices_IndexFunc_138.l1 x1 k 0) : Option (Ex Int Unit)).bind fun x4 => Ex.on x4 (fun r => some r) (fun y => slices_IndexFunc_138.c1 k))
set_option maxRecDepth 100000 in
set_option maxHeartbeats 4000000 in
theorem slices_IndexFunc_138.spec (k : Nat) (s0 : HF) (w : World) (x1 : (List Int)) (v1 : Value) (h1 : Sl (Kd.int .i64) s0 v1 x1) (r : Int) (H : slices_IndexFunc_138.f k x1 = some r) :
    Law Try.prog 33 #[v1, (.func (.func 38) #[] #[])] s0 w [] (fun v s1 A1 => v = (.int .i64 r) ∧ A1 = []) := by
  unfold slices_IndexFunc_138.f at H
  refine Law.intro Try.func33 rfl [(0, v1), (1, (.func (.func 38) #[] #[]))] (Nat.le_of_ble_eq_true rfl) (enter_lk ⟨rfl, rfl, trivial⟩) (fun e a hS hF => ?_)
  have hF : Fr 19 a [(0, v1), (1, (.func (.func 38) #[] #[]))] := hF
  refine sq ?_
  refine rg ?_
  refine stp hF (p_assign rfl) (by decide) (fun a hF => ?_)
  refine nilN ?_
  refine xn ?_
  obtain ⟨x4, H, HK1⟩ := hb H
  refine sqj (fun a w => ∃ (s2 : HF) , St e s2 w [] ∧ Fr 19 a [] ∧ Sub s0 s2 ∧ slices_IndexFunc_138.c1 k = some r) ?_ ?_
  · skip
    refine sq ?_
    refine rg ?_
    refine stp hF (p_move rfl) (by decide) (fun a hF => ?_)
    refine stp hF (p_lenr un_27 rfl h1) (by decide) (fun a hF => ?_)
    refine stp hF (p_move rfl) (by decide) (fun a hF => ?_)
    refine nilN ?_
    refine xn ?_
    refine blk ?_
    refine loop_ind (fun k1 a w => ∃ (x2 : Int) (s3 : HF) , St e s3 w [] ∧ Fr 19 a [(0, v1), (1, (.func (.func 38) #[] #[])), (7, (.int .i64 (x1.length : Int))), (8, (.int .i64 x2))] ∧ Sub s0 s3 ∧ slices_IndexFunc_138.l1 x1 k1 x2 = some x4) k ?_ ?_ ?_
    · skip
      exact ⟨0, s0, hS, hF.cut ⟨rfl, rfl, rfl, rfl, trivial⟩, (Sub.refl _), H⟩
    · clear H hS hF
      rintro a w ⟨x2, s3, hS, hF, hg1, H⟩
      exact absurd (show none = some _ from H) (by simp)
    · clear H hS hF
      rintro k1 a w ⟨x2, s3, hS, hF, hg1, H⟩
      rw [slices_IndexFunc_138.l1.eq_2] at H
      refine sq ?_
      refine rg ?_
      refine stp hF (p_lss rfl rfl) (by decide) (fun a hF => ?_)
      refine nilN ?_
      refine xn ?_
      refine sq ?_
      refine cnd hF rfl (fun hc1 => ?_) (fun hc1 => ?_)
      · replace H := hbt hc1 H
        refine skN ?_
        refine xn ?_
        refine sq ?_
        refine blk ?_
        refine sq ?_
        refine rg ?_
        refine stp hF (p_move rfl) (by decide) (fun a hF => ?_)
        refine stp hF (p_assign rfl) (by decide) (fun a hF => ?_)
        refine nilN ?_
        refine xn ?_
        refine sq ?_
        refine rg ?_
        refine stp hF (p_move rfl) (by decide) (fun a hF => ?_)
        refine stp hF (p_move rfl) (by decide) (fun a hF => ?_)
        refine stp hF (p_move rfl) (by decide) (fun a hF => ?_)
        obtain ⟨hq1, H⟩ := hck H
        obtain ⟨ad1, h2, p1⟩ := p_idxr (P := Try.prog) (i := x2) (h1.mono hg1) un_27 ti_3 hq1.1 hq1.2
        refine stp hF (p1 rfl rfl) (by decide) (fun a hF => ?_)
        refine stp hF (p_ldr_int rfl hS h2 ia_3) (by decide) (fun a hF => ?_)
        obtain ⟨x3, hx1, H⟩ := hb H
        refine ste hF (e_call (fst := []) (vs := [(.int .i64 (rd x1 x2))]) (cap := []) rfl rfl go_38 (St.call (A := []) (B := []) hS (impl_ObjOk_1.spec k1 _ _ (rd x1 x2) _ hx1))) (by decide) (fun v w a hR hF => ?_)
        obtain ⟨s4, A2, hg2, hS, hR⟩ := hR
        obtain ⟨hv1, rfl⟩ := hR; obtain rfl := hv1.symm
        have hS : St e s4 w [] := hS
        refine nilN ?_
        refine xn ?_
        refine cnd hF rfl (fun hc2 => ?_) (fun hc2 => ?_)
        · replace H := hbt hc2 H
          refine sq ?_
          refine rg ?_
          refine stp hF (p_move rfl) (by decide) (fun a hF => ?_)
          refine stp hF (p_assign rfl) (by decide) (fun a hF => ?_)
          refine nilN ?_
          refine xn ?_
          refine rt ?_
          refine br (xr (xr (br (xr ?_))))
          obtain rfl := hsm H
          have H := hon1 HK1
          obtain rfl := hsm H
          exact ret1 hF rfl rfl hS ⟨rfl, rfl⟩
        · replace H := hbf hc2 H
          refine skN ?_
          refine bn (xn ?_)
          refine rg ?_
          refine stp hF (p_add (c := w64 (x2 + 1)) rfl rfl rfl) (by decide) (fun a hF => ?_)
          refine stp hF (p_move rfl) (by decide) (fun a hF => ?_)
          refine nilN ?_
          refine xn ?_
          exact ⟨(w64 (x2 + 1)), s4, hS, hF.cut ⟨rfl, rfl, rfl, rfl, trivial⟩, (hg1.trans hg2), H⟩
      · replace H := hbf hc1 H
        refine exi ?_
        refine xe (xe (hit (xn ?_)))
        obtain rfl := hsm H
        exact ⟨s3, hS, hF.cut trivial, hg1, HK1⟩
  · clear H HK1 hS hF
    rintro a w ⟨s2, hS, hF, hg3, H⟩
    unfold slices_IndexFunc_138.c1 at H
    refine sq ?_
    refine rg ?_
    refine stp hF (p_assign rfl) (by decide) (fun a hF => ?_)
    refine nilN ?_
    refine xn ?_
    refine rt ?_
    obtain rfl := hsm H
    exact ret1 hF rfl rfl hS ⟨rfl, rfl⟩

def slices_ContainsFunc_138.f (k : Nat) (x1 : (List Int)) : Option Bool :=
  ((slices_IndexFunc_138.f k x1).bind fun x2 => (some (decide (0 ≤ x2))))
set_option maxRecDepth 100000 in
set_option maxHeartbeats 4000000 in
theorem slices_ContainsFunc_138.spec (k : Nat) (s0 : HF) (w : World) (x1 : (List Int)) (v1 : Value) (h1 : Sl (Kd.int .i64) s0 v1 x1) (r : Bool) (H : slices_ContainsFunc_138.f k x1 = some r) :
    Law Try.prog 24 #[v1, (.func (.func 38) #[] #[])] s0 w [] (fun v s1 A1 => v = (.bool r) ∧ A1 = []) := by
  unfold slices_ContainsFunc_138.f at H
  refine Law.intro Try.func24 rfl [(0, v1), (1, (.func (.func 38) #[] #[]))] (Nat.le_of_ble_eq_true rfl) (enter_lk ⟨rfl, rfl, trivial⟩) (fun e a hS hF => ?_)
  have hF : Fr 9 a [(0, v1), (1, (.func (.func 38) #[] #[]))] := hF
  refine sq ?_
  refine rg ?_
  refine stp hF (p_assign rfl) (by decide) (fun a hF => ?_)
  refine nilN ?_
  refine xn ?_
  refine sq ?_
  refine rg ?_
  refine stp hF (p_move rfl) (by decide) (fun a hF => ?_)
  refine stp hF (p_move rfl) (by decide) (fun a hF => ?_)
  obtain ⟨x2, hx1, H⟩ := hb H
  refine ste hF (e_call (fst := []) (vs := [v1, (.func (.func 38) #[] #[])]) (cap := []) rfl rfl go_33 (St.call (A := []) (B := []) hS (slices_IndexFunc_138.spec k _ _ x1 v1 h1 _ hx1))) (by decide) (fun v w a hR hF => ?_)
  obtain ⟨s2, A2, hg1, hS, hR⟩ := hR
  obtain ⟨hv1, rfl⟩ := hR; obtain rfl := hv1.symm
  have hS : St e s2 w [] := hS
  refine stp hF (p_geq rfl rfl) (by decide) (fun a hF => ?_)
  refine stp hF (p_assign rfl) (by decide) (fun a hF => ?_)
  refine nilN ?_
  refine xn ?_
  refine rt ?_
  obtain rfl := hsm H
  exact ret1 hF rfl rfl hS ⟨rfl, rfl⟩

def impl_ObjOk_2.f (k : Nat) (x1 : Int) : Option Bool :=
  ((impl_in.f k x1 0 31).bind fun x2 => (some (!x2)))
set_option maxRecDepth 100000 in
set_option maxHeartbeats 4000000 in
theorem impl_ObjOk_2.spec (k : Nat) (s0 : HF) (w : World) (x1 : Int) (r : Bool) (H : impl_ObjOk_2.f k x1 = some r) :
    Law Try.prog 39 #[(.int .i64 x1)] s0 w [] (fun v s1 A1 => v = (.bool r) ∧ A1 = []) := by
  unfold impl_ObjOk_2.f at H
  refine Law.intro Try.func39 rfl [(0, (.int .i64 x1))] (Nat.le_of_ble_eq_true rfl) (enter_lk ⟨rfl, trivial⟩) (fun e a hS hF => ?_)
  have hF : Fr 6 a [(0, (.int .i64 x1))] := hF
  refine sq ?_
  refine rg ?_
  refine stp hF (p_assign rfl) (by decide) (fun a hF => ?_)
  refine nilN ?_
  refine xn ?_
  refine sq ?_
  refine rg ?_
  refine stp hF (p_move rfl) (by decide) (fun a hF => ?_)
  obtain ⟨x2, hx1, H⟩ := hb H
  refine ste hF (e_call (fst := []) (vs := [(.int .i64 x1), (.int .i64 0), (.int .i64 31)]) (cap := []) rfl rfl go_20 (St.call (A := []) (B := []) hS (impl_in.spec k _ _ x1 0 31 _ hx1))) (by decide) (fun v w a hR hF => ?_)
  obtain ⟨s2, A2, hg1, hS, hR⟩ := hR
  obtain ⟨hv1, rfl⟩ := hR; obtain rfl := hv1.symm
  have hS : St e s2 w [] := hS
  refine stp hF (p_not rfl) (by decide) (fun a hF => ?_)
  refine stp hF (p_assign rfl) (by decide) (fun a hF => ?_)
  refine nilN ?_
  refine xn ?_
  refine rt ?_
  obtain rfl := hsm H
  exact ret1 hF rfl rfl hS ⟨rfl, rfl⟩

def slices_IndexFunc_239.c1 (k : Nat) : Option Int :=
  (some (-1))
def slices_IndexFunc_239.l1 (x1 : (List Int)) : Nat → Int → Option (Ex Int Unit)
  | 0, _ => none
  | k + 1, x2 => (if (decide (x2 < (x1.length : Int))) = true then (if 0 ≤ x2 ∧ x2 < (x1.length : Int) then ((impl_ObjOk_2.f k (rd x1 x2)).bind fun x3 => (if x3 = true then (some (Ex.ret x2)) else ((slices_IndexFunc_239.l1 x1 k) (w64 (x2 + 1))))) else none) else (some (Ex.go ())))
def slices_IndexFunc_239.f (k : Nat) (x1 : (List Int)) : Option Int :=
  (((slices_IndexFunc_239.l1 x1 k 0) : Option (Ex Int Unit)).bind fun x4 => Ex.on x4 (fun r => some r) (fun y => slices_IndexFunc_239.c1 k))
set_option maxRecDepth 100000 in
set_option maxHeartbeats 4000000 in
theorem slices_IndexFunc_239.spec (k : Nat) (s0 : HF) (w : World) (x1 : (List Int)) (v1 : Value) (h1 : Sl (Kd.int .i64) s0 v1 x1) (r : Int) (H : slices_IndexFunc_239.f k x1 = some r) :
    Law Try.prog 33 #[v1, (.func (.func 39) #[] #[])] s0 w [] (fun v s1 A1 => v = (.int .i64 r) ∧ A1 = []) := by
  unfold slices_IndexFunc_239.f at H
  refine Law.intro Try.func33 rfl [(0, v1), (1, (.func (.func 39) #[] #[]))] (Nat.le_of_ble_eq_true rfl) (enter_lk ⟨rfl, rfl, trivial⟩) (fun e a hS hF => ?_)
  have hF : Fr 19 a [(0, v1), (1, (.func (.func 39) #[] #[]))] := hF
  refine sq ?_
  refine rg ?_
  refine stp hF (p_assign rfl) (by decide) (fun a hF => ?_)
  refine nilN ?_
  refine xn ?_
  obtain ⟨x4, H, HK1⟩ := hb H
  refine sqj (fun a w => ∃ (s2 : HF) , St e s2 w [] ∧ Fr 19 a [] ∧ Sub s0 s2 ∧ slices_IndexFunc_239.c1 k = some r) ?_ ?_
  · skip
    refine sq ?_
    refine rg ?_
    refine stp hF (p_move rfl) (by decide) (fun a hF => ?_)
    refine stp hF (p_lenr un_27 rfl h1) (by decide) (fun a hF => ?_)
    refine stp hF (p_move rfl) (by decide) (fun a hF => ?_)
    refine nilN ?_
    refine xn ?_
    refine blk ?_
    refine loop_ind (fun k1 a w => ∃ (x2 : Int) (s3 : HF) , St e s3 w [] ∧ Fr 19 a [(0, v1), (1, (.func (.func 39) #[] #[])), (7, (.int .i64 (x1.length : Int))), (8, (.int .i64 x2))] ∧ Sub s0 s3 ∧ slices_IndexFunc_239.l1 x1 k1 x2 = some x4) k ?_ ?_ ?_
    · skip
      exact ⟨0, s0, hS, hF.cut ⟨rfl, rfl, rfl, rfl, trivial⟩, (Sub.refl _), H⟩
    · clear H hS hF
      rintro a w ⟨x2, s3, hS, hF, hg1, H⟩
      exact absurd (show none = some _ from H) (by simp)
    · clear H hS hF
      rintro k1 a w ⟨x2, s3, hS, hF, hg1, H⟩
      rw [slices_IndexFunc_239.l1.eq_2] at H
      refine sq ?_
      refine rg ?_
      refine stp hF (p_lss rfl rfl) (by decide) (fun a hF => ?_)
      refine nilN ?_
      refine xn ?_
      refine sq ?_
      refine cnd hF rfl (fun hc1 => ?_) (fun hc1 => ?_)
      · replace H := hbt hc1 H
        refine skN ?_
        refine xn ?_
        refine sq ?_
        refine blk ?_
        refine sq ?_
        refine rg ?_
        refine stp hF (p_move rfl) (by decide) (fun a hF => ?_)
        refine stp hF (p_assign rfl) (by decide) (fun a hF => ?_)
        refine nilN ?_
        refine xn ?_
        refine sq ?_
        refine rg ?_
        refine stp hF (p_move rfl) (by decide) (fun a hF => ?_)
        refine stp hF (p_move rfl) (by decide) (fun a hF => ?_)
        refine stp hF (p_move rfl) (by decide) (fun a hF => ?_)
        obtain ⟨hq1, H⟩ := hck H
        obtain ⟨ad1, h2, p1⟩ := p_idxr (P := Try.prog) (i := x2) (h1.mono hg1) un_27 ti_3 hq1.1 hq1.2
        refine stp hF (p1 rfl rfl) (by decide) (fun a hF => ?_)
        refine stp hF (p_ldr_int rfl hS h2 ia_3) (by decide) (fun a hF => ?_)
        obtain ⟨x3, hx1, H⟩ := hb H
        refine ste hF (e_call (fst := []) (vs := [(.int .i64 (rd x1 x2))]) (cap := []) rfl rfl go_39 (St.call (A := []) (B := []) hS (impl_ObjOk_2.spec k1 _ _ (rd x1 x2) _ hx1))) (by decide) (fun v w a hR hF => ?_)
        obtain ⟨s4, A2, hg2, hS, hR⟩ := hR
        obtain ⟨hv1, rfl⟩ := hR; obtain rfl := hv1.symm
        have hS : St e s4 w [] := hS
        refine nilN ?_
        refine xn ?_
        refine cnd hF rfl (fun hc2 => ?_) (fun hc2 => ?_)
        · replace H := hbt hc2 H
          refine sq ?_
          refine rg ?_
          refine stp hF (p_move rfl) (by decide) (fun a hF => ?_)
          refine stp hF (p_assign rfl) (by decide) (fun a hF => ?_)
          refine nilN ?_
          refine xn ?_
          refine rt ?_
          refine br (xr (xr (br (xr ?_))))
          obtain rfl := hsm H
          have H := hon1 HK1
          obtain rfl := hsm H
          exact ret1 hF rfl rfl hS ⟨rfl, rfl⟩
        · replace H := hbf hc2 H
          refine skN ?_
          refine bn (xn ?_)
          refine rg ?_
          refine stp hF (p_add (c := w64 (x2 + 1)) rfl rfl rfl) (by decide) (fun a hF => ?_)
          refine stp hF (p_move rfl) (by decide) (fun a hF => ?_)
          refine nilN ?_
          refine xn ?_
          exact ⟨(w64 (x2 + 1)), s4, hS, hF.cut ⟨rfl, rfl, rfl, rfl, trivial⟩, (hg1.trans hg2), H⟩
      · replace H := hbf hc1 H
        refine exi ?_
        refine xe (xe (hit (xn ?_)))
        obtain rfl := hsm H
        exact ⟨s3, hS, hF.cut trivial, hg1, HK1⟩
  · clear H HK1 hS hF
    rintro a w ⟨s2, hS, hF, hg3, H⟩
    unfold slices_IndexFunc_239.c1 at H
    refine sq ?_
    refine rg ?_
    refine stp hF (p_assign rfl) (by decide) (fun a hF => ?_)
    refine nilN ?_
    refine xn ?_
    refine rt ?_
    obtain rfl := hsm H
    exact ret1 hF rfl rfl hS ⟨rfl, rfl⟩

def slices_ContainsFunc_239.f (k : Nat) (x1 : (List Int)) : Option Bool :=
  ((slices_IndexFunc_239.f k x1).bind fun x2 => (some (decide (0 ≤ x2))))
set_option maxRecDepth 100000 in
set_option maxHeartbeats 4000000 in
theorem slices_ContainsFunc_239.spec (k : Nat) (s0 : HF) (w : World) (x1 : (List Int)) (v1 : Value) (h1 : Sl (Kd.int .i64) s0 v1 x1) (r : Bool) (H : slices_ContainsFunc_239.f k x1 = some r) :
    Law Try.prog 24 #[v1, (.func (.func 39) #[] #[])] s0 w [] (fun v s1 A1 => v = (.bool r) ∧ A1 = []) := by
  unfold slices_ContainsFunc_239.f at H
  refine Law.intro Try.func24 rfl [(0, v1), (1, (.func (.func 39) #[] #[]))] (Nat.le_of_ble_eq_true rfl) (enter_lk ⟨rfl, rfl, trivial⟩) (fun e a hS hF => ?_)
  have hF : Fr 9 a [(0, v1), (1, (.func (.func 39) #[] #[]))] := hF
  refine sq ?_
  refine rg ?_
  refine stp hF (p_assign rfl) (by decide) (fun a hF => ?_)
  refine nilN ?_
  refine xn ?_
  refine sq ?_
  refine rg ?_
  refine stp hF (p_move rfl) (by decide) (fun a hF => ?_)
  refine stp hF (p_move rfl) (by decide) (fun a hF => ?_)
  obtain ⟨x2, hx1, H⟩ := hb H
  refine ste hF (e_call (fst := []) (vs := [v1, (.func (.func 39) #[] #[])]) (cap := []) rfl rfl go_33 (St.call (A := []) (B := []) hS (slices_IndexFunc_239.spec k _ _ x1 v1 h1 _ hx1))) (by decide) (fun v w a hR hF => ?_)
  obtain ⟨s2, A2, hg1, hS, hR⟩ := hR
  obtain ⟨hv1, rfl⟩ := hR; obtain rfl := hv1.symm
  have hS : St e s2 w [] := hS
  refine stp hF (p_geq rfl rfl) (by decide) (fun a hF => ?_)
  refine stp hF (p_assign rfl) (by decide) (fun a hF => ?_)
  refine nilN ?_
  refine xn ?_
  refine rt ?_
  obtain rfl := hsm H
  exact ret1 hF rfl rfl hS ⟨rfl, rfl⟩

def impl_ObjOk.c1 (k : Nat) (x1 : Bool) : Option Bool :=
  (some x1)
def impl_ObjOk.f (k : Nat) (x2 : TObj) : Option Bool :=
  ((impl_in.f k x2.Kind 1 99).bind fun x3 => (if (((!x3) || (decide (5 < (x2.Ints.length : Int)))) || (decide (5 < (x2.Refs.length : Int)))) = true then (some false) else ((slices_ContainsFunc_138.f k x2.Ints).bind fun x4 => ((if (!x4) = true then ((slices_ContainsFunc_239.f k x2.Refs).bind fun x5 => (some (!x5))) else (some false) : Option Bool).bind fun x6 => impl_ObjOk.c1 k x6))))
set_option maxRecDepth 100000 in
set_option maxHeartbeats 4000000 in
theorem impl_ObjOk.spec (k : Nat) (s0 : HF) (w : World) (x2 : TObj) (v1 : Value) (v2 : Value) (h1 : Sl (Kd.int .i64) s0 v1 x2.Ints) (h2 : Sl (Kd.int .i64) s0 v2 x2.Refs) (r : Bool) (H : impl_ObjOk.f k x2 = some r) :
    Law Try.prog 36 #[(.agg #[(.int .i64 x2.Kind), v1, v2])] s0 w [] (fun v s1 A1 => v = (.bool r) ∧ A1 = []) := by
  unfold impl_ObjOk.f at H
  refine Law.intro Try.func36 rfl [(0, (.agg #[(.int .i64 x2.Kind), v1, v2]))] (Nat.le_of_ble_eq_true rfl) (enter_lk ⟨rfl, trivial⟩) (fun e a hS hF => ?_)
  have hF : Fr 29 a [(0, (.agg #[(.int .i64 x2.Kind), v1, v2]))] := hF
  refine sq ?_
  refine rg ?_
  refine ste hF (e_box (cs := [(.int .i64 x2.Kind), v1, v2]) hS rfl rfl) (by decide) (fun v w a hR hF => ?_)
  obtain ⟨g1, rfl, hS⟩ := hR
  refine stp hF (p_assign rfl) (by decide) (fun a hF => ?_)
  refine nilN ?_
  refine xn ?_
  refine sq ?_
  refine sq ?_
  refine rg ?_
  refine stp hF (p_fldb (o' := 0) rfl fi_30_0 rfl) (by decide) (fun a hF => ?_)
  refine stp hF (p_ldb_one (i := 0) hS rfl rfl ia_3 rfl) (by decide) (fun a hF => ?_)
  obtain ⟨x3, hx1, H⟩ := hb H
  refine ste hF (e_call (fst := []) (vs := [(.int .i64 x2.Kind), (.int .i64 1), (.int .i64 99)]) (cap := []) rfl rfl go_20 (St.call (A := []) (B := [pt g1 30 ([(.int .i64 x2.Kind), v1, v2])]) hS (impl_in.spec k _ _ x2.Kind 1 99 _ hx1))) (by decide) (fun v w a hR hF => ?_)
  obtain ⟨s2, A2, hg1, hS, hR⟩ := hR
  obtain ⟨hv1, rfl⟩ := hR; obtain rfl := hv1.symm
  have hS : St e s2 w [pt g1 30 ([(.int .i64 x2.Kind), v1, v2])] := hS
  refine stp hF (p_not rfl) (by decide) (fun a hF => ?_)
  refine stp hF (p_move rfl) (by decide) (fun a hF => ?_)
  refine cutj 5 (fun a w => St e s2 w [pt g1 30 ([(.int .i64 x2.Kind), v1, v2])] ∧ Fr 29 a [(1, (.pointer (some ⟨g1, 0, none⟩))), (12, (.bool ((!x3) || (decide (5 < (x2.Ints.length : Int))))))]) rfl rfl ?_ ?_
  · rcases Bool.eq_false_or_eq_true ((!x3)) with hc1 | hc1
    · skip
      refine gofD (j := 4) hF rfl rfl (by rw [hc1]; decide) (by decide) (fun a hF => ?_)
      refine gofD (j := 4) hF rfl rfl (by rw [hc1]; decide) (by decide) (fun a hF => ?_)
      refine gofD (j := 4) hF rfl rfl (by rw [hc1]; decide) (by decide) (fun a hF => ?_)
      refine gofD (j := 4) hF rfl rfl (by rw [hc1]; decide) (by decide) (fun a hF => ?_)
      refine stp hF (p_orT (decide (5 < (x2.Ints.length : Int))) rfl hc1 rfl) (by decide) (fun a hF => ?_)
      refine nilN ?_
      refine xn ?_
      exact ⟨hS, hF.cut ⟨rfl, rfl, trivial⟩⟩
    · skip
      refine gonE (j := 4) hF rfl rfl hc1 ?_
      refine stp hF (p_fldb (o' := 1) rfl fi_30_1 rfl) (by decide) (fun a hF => ?_)
      refine gonE (j := 4) hF rfl rfl hc1 ?_
      refine stp hF (p_ldb_one (i := 0) hS rfl rfl ia_27 rfl) (by decide) (fun a hF => ?_)
      refine gonE (j := 4) hF rfl rfl hc1 ?_
      refine stp hF (p_lenr un_27 rfl (h1.mono hg1)) (by decide) (fun a hF => ?_)
      refine gonE (j := 4) hF rfl rfl hc1 ?_
      refine stp hF (p_gtr rfl rfl) (by decide) (fun a hF => ?_)
      refine stp hF (p_orF rfl hc1 rfl) (by decide) (fun a hF => ?_)
      refine nilN ?_
      refine xn ?_
      exact ⟨hS, hF.cut ⟨rfl, rfl, trivial⟩⟩
  clear hS hF
  rintro a w ⟨hS, hF⟩
  refine stp hF (p_move rfl) (by decide) (fun a hF => ?_)
  refine cutj 5 (fun a w => St e s2 w [pt g1 30 ([(.int .i64 x2.Kind), v1, v2])] ∧ Fr 29 a [(1, (.pointer (some ⟨g1, 0, none⟩))), (18, (.bool (((!x3) || (decide (5 < (x2.Ints.length : Int)))) || (decide (5 < (x2.Refs.length : Int))))))]) rfl rfl ?_ ?_
  · rcases Bool.eq_false_or_eq_true (((!x3) || (decide (5 < (x2.Ints.length : Int))))) with hc2 | hc2
    · skip
      refine gofD (j := 10) hF rfl rfl (by rw [hc2]; decide) (by decide) (fun a hF => ?_)
      refine gofD (j := 10) hF rfl rfl (by rw [hc2]; decide) (by decide) (fun a hF => ?_)
      refine gofD (j := 10) hF rfl rfl (by rw [hc2]; decide) (by decide) (fun a hF => ?_)
      refine gofD (j := 10) hF rfl rfl (by rw [hc2]; decide) (by decide) (fun a hF => ?_)
      refine stp hF (p_orT (decide (5 < (x2.Refs.length : Int))) rfl hc2 rfl) (by decide) (fun a hF => ?_)
      refine nilN ?_
      refine xn ?_
      exact ⟨hS, hF.cut ⟨rfl, rfl, trivial⟩⟩
    · skip
      refine gonE (j := 10) hF rfl rfl hc2 ?_
      refine stp hF (p_fldb (o' := 2) rfl fi_30_2 rfl) (by decide) (fun a hF => ?_)
      refine gonE (j := 10) hF rfl rfl hc2 ?_
      refine stp hF (p_ldb_one (i := 0) hS rfl rfl ia_27 rfl) (by decide) (fun a hF => ?_)
      refine gonE (j := 10) hF rfl rfl hc2 ?_
      refine stp hF (p_lenr un_27 rfl (h2.mono hg1)) (by decide) (fun a hF => ?_)
      refine gonE (j := 10) hF rfl rfl hc2 ?_
      refine stp hF (p_gtr rfl rfl) (by decide) (fun a hF => ?_)
      refine stp hF (p_orF rfl hc2 rfl) (by decide) (fun a hF => ?_)
      refine nilN ?_
      refine xn ?_
      exact ⟨hS, hF.cut ⟨rfl, rfl, trivial⟩⟩
  clear hS hF
  rintro a w ⟨hS, hF⟩
  refine nilN ?_
  refine xn ?_
  refine cnd hF rfl (fun hc3 => ?_) (fun hc3 => ?_)
  · replace H := hbt hc3 H
    refine sq ?_
    refine rg ?_
    refine stp hF (p_assign rfl) (by decide) (fun a hF => ?_)
    refine nilN ?_
    refine xn ?_
    refine rt ?_
    refine xr ?_
    obtain rfl := hsm H
    replace hS := hS.sel (is := []) (A' := []) rfl
    exact ret1 hF rfl rfl hS ⟨rfl, rfl⟩
  · replace H := hbf hc3 H
    refine skN ?_
    refine xn ?_
    refine sq ?_
    refine rg ?_
    refine stp hF (p_fldb (o' := 1) rfl fi_30_1 rfl) (by decide) (fun a hF => ?_)
    refine stp hF (p_ldb_one (i := 0) hS rfl rfl ia_27 rfl) (by decide) (fun a hF => ?_)
    obtain ⟨x4, hx2, H⟩ := hb H
    refine ste hF (e_call (fst := []) (vs := [v1, (.func (.func 38) #[] #[])]) (cap := []) rfl rfl go_24 (St.call (A := []) (B := [pt g1 30 ([(.int .i64 x2.Kind), v1, v2])]) hS (slices_ContainsFunc_138.spec k _ _ x2.Ints v1 (h1.mono hg1) _ hx2))) (by decide) (fun v w a hR hF => ?_)
    obtain ⟨s3, A3, hg2, hS, hR⟩ := hR
    obtain ⟨hv2, rfl⟩ := hR; obtain rfl := hv2.symm
    have hS : St e s3 w [pt g1 30 ([(.int .i64 x2.Kind), v1, v2])] := hS
    refine stp hF (p_not rfl) (by decide) (fun a hF => ?_)
    refine stp hF (p_move rfl) (by decide) (fun a hF => ?_)
    obtain ⟨x6, H, HK1⟩ := hb H
    refine cutj 5 (fun a w => ∃ (x1 : Bool) (s4 : HF) , St e s4 w [pt g1 30 ([(.int .i64 x2.Kind), v1, v2])] ∧ Fr 29 a [(28, (.bool x1))] ∧ Sub s3 s4 ∧ impl_ObjOk.c1 k x1 = some r) rfl rfl ?_ ?_
    · rcases Bool.eq_false_or_eq_true ((!x4)) with hc4 | hc4
      · replace H := hbt hc4 H
        refine gonE (j := 4) hF rfl rfl hc4 ?_
        refine stp hF (p_fldb (o' := 2) rfl fi_30_2 rfl) (by decide) (fun a hF => ?_)
        refine gonE (j := 4) hF rfl rfl hc4 ?_
        refine stp hF (p_ldb_one (i := 0) hS rfl rfl ia_27 rfl) (by decide) (fun a hF => ?_)
        obtain ⟨x5, hx3, H⟩ := hb H
        refine gonE (j := 4) hF rfl rfl hc4 ?_
        refine ste hF (e_call (fst := []) (vs := [v2, (.func (.func 39) #[] #[])]) (cap := []) rfl rfl go_24 (St.call (A := []) (B := [pt g1 30 ([(.int .i64 x2.Kind), v1, v2])]) hS (slices_ContainsFunc_239.spec k _ _ x2.Refs v2 ((h2.mono hg1).mono hg2) _ hx3))) (by decide) (fun v w a hR hF => ?_)
        obtain ⟨s5, A4, hg3, hS, hR⟩ := hR
        obtain ⟨hv3, rfl⟩ := hR; obtain rfl := hv3.symm
        have hS : St e s5 w [pt g1 30 ([(.int .i64 x2.Kind), v1, v2])] := hS
        refine gonE (j := 4) hF rfl rfl hc4 ?_
        refine stp hF (p_not rfl) (by decide) (fun a hF => ?_)
        refine stp hF (p_pickT rfl hc4 rfl) (by decide) (fun a hF => ?_)
        refine nilN ?_
        refine xn ?_
        obtain rfl := hsm H
        exact ⟨(!x5), s5, hS, hF.cut ⟨rfl, trivial⟩, hg3, HK1⟩
      · replace H := hbf hc4 H
        refine gofD (j := 4) hF rfl rfl (by rw [hc4]; decide) (by decide) (fun a hF => ?_)
        refine gofD (j := 4) hF rfl rfl (by rw [hc4]; decide) (by decide) (fun a hF => ?_)
        refine gofD (j := 4) hF rfl rfl (by rw [hc4]; decide) (by decide) (fun a hF => ?_)
        refine gofD (j := 4) hF rfl rfl (by rw [hc4]; decide) (by decide) (fun a hF => ?_)
        refine stp hF (p_pickF rfl hc4 rfl) (by decide) (fun a hF => ?_)
        refine nilN ?_
        refine xn ?_
        obtain rfl := hsm H
        exact ⟨false, s3, hS, hF.cut ⟨rfl, trivial⟩, (Sub.refl _), HK1⟩
    · clear H HK1 hS hF
      rintro a w ⟨x1, s4, hS, hF, hg4, H⟩
      unfold impl_ObjOk.c1 at H
      refine stp hF (p_assign rfl) (by decide) (fun a hF => ?_)
      refine nilN ?_
      refine xn ?_
      refine rt ?_
      obtain rfl := hsm H
      replace hS := hS.sel (is := []) (A' := []) rfl
      exact ret1 hF rfl rfl hS ⟨rfl, rfl⟩

def impl_slotOk.f (k : Nat) (x1 : TSlot) : Option Bool :=
  (if x1.Has = true then ((impl_ObjOk.f k x1.O).bind fun x2 => (some x2)) else ((impl_noObj.f k x1.O).bind fun x3 => (some x3)))
set_option maxRecDepth 100000 in
set_option maxHeartbeats 4000000 in
theorem impl_slotOk.spec (k : Nat) (s0 : HF) (w : World) (x1 : TSlot) (v1 : Value) (v2 : Value) (h1 : Sl (Kd.int .i64) s0 v1 x1.O.Ints) (h2 : Sl (Kd.int .i64) s0 v2 x1.O.Refs) (r : Bool) (H : impl_slotOk.f k x1 = some r) :
    Law Try.prog 29 #[(.agg #[(.bool x1.Has), (.int .i64 x1.O.Kind), v1, v2])] s0 w [] (fun v s1 A1 => v = (.bool r) ∧ A1 = []) := by
  unfold impl_slotOk.f at H
  refine Law.intro Try.func29 rfl [(0, (.agg #[(.bool x1.Has), (.int .i64 x1.O.Kind), v1, v2]))] (Nat.le_of_ble_eq_true rfl) (enter_lk ⟨rfl, trivial⟩) (fun e a hS hF => ?_)
  have hF : Fr 11 a [(0, (.agg #[(.bool x1.Has), (.int .i64 x1.O.Kind), v1, v2]))] := hF
  refine sq ?_
  refine rg ?_
  refine ste hF (e_box (cs := [(.bool x1.Has), (.int .i64 x1.O.Kind), v1, v2]) hS rfl rfl) (by decide) (fun v w a hR hF => ?_)
  obtain ⟨g1, rfl, hS⟩ := hR
  refine stp hF (p_assign rfl) (by decide) (fun a hF => ?_)
  refine nilN ?_
  refine xn ?_
  refine sq ?_
  refine sq ?_
  refine rg ?_
  refine stp hF (p_fldb (o' := 0) rfl fi_32_0 rfl) (by decide) (fun a hF => ?_)
  refine stp hF (p_ldb_one (i := 0) hS rfl rfl ia_4 rfl) (by decide) (fun a hF => ?_)
  refine nilN ?_
  refine xn ?_
  refine cnd hF rfl (fun hc1 => ?_) (fun hc1 => ?_)
  · replace H := hbt hc1 H
    refine sq ?_
    refine rg ?_
    refine stp hF (p_fldb (o' := 1) rfl fi_32_1 rfl) (by decide) (fun a hF => ?_)
    refine stp hF (p_ldb_agg (i := 0) (l := [(.bool x1.Has)]) (m := [(.int .i64 x1.O.Kind), v1, v2]) (r := []) hS rfl rfl ia_30 ti_30 rfl rfl rfl) (by decide) (fun a hF => ?_)
    obtain ⟨x2, hx1, H⟩ := hb H
    refine ste hF (e_call (fst := []) (vs := [(.agg #[(.int .i64 x1.O.Kind), v1, v2])]) (cap := []) rfl rfl go_36 (St.call (A := []) (B := [pt g1 32 ([(.bool x1.Has), (.int .i64 x1.O.Kind), v1, v2])]) hS (impl_ObjOk.spec k _ _ x1.O v1 v2 h1 h2 _ hx1))) (by decide) (fun v w a hR hF => ?_)
    obtain ⟨s2, A2, hg1, hS, hR⟩ := hR
    obtain ⟨hv1, rfl⟩ := hR; obtain rfl := hv1.symm
    have hS : St e s2 w [pt g1 32 ([(.bool x1.Has), (.int .i64 x1.O.Kind), v1, v2])] := hS
    refine stp hF (p_assign rfl) (by decide) (fun a hF => ?_)
    refine nilN ?_
    refine xn ?_
    refine rt ?_
    refine xr ?_
    obtain rfl := hsm H
    replace hS := hS.sel (is := []) (A' := []) rfl
    exact ret1 hF rfl rfl hS ⟨rfl, rfl⟩
  · replace H := hbf hc1 H
    refine skN ?_
    refine xn ?_
    refine sq ?_
    refine rg ?_
    refine stp hF (p_fldb (o' := 1) rfl fi_32_1 rfl) (by decide) (fun a hF => ?_)
    refine stp hF (p_ldb_agg (i := 0) (l := [(.bool x1.Has)]) (m := [(.int .i64 x1.O.Kind), v1, v2]) (r := []) hS rfl rfl ia_30 ti_30 rfl rfl rfl) (by decide) (fun a hF => ?_)
    obtain ⟨x3, hx2, H⟩ := hb H
    refine ste hF (e_call (fst := []) (vs := [(.agg #[(.int .i64 x1.O.Kind), v1, v2])]) (cap := []) rfl rfl go_34 (St.call (A := []) (B := [pt g1 32 ([(.bool x1.Has), (.int .i64 x1.O.Kind), v1, v2])]) hS (impl_noObj.spec k _ _ x1.O v1 v2 h1 h2 _ hx2))) (by decide) (fun v w a hR hF => ?_)
    obtain ⟨s3, A3, hg2, hS, hR⟩ := hR
    obtain ⟨hv2, rfl⟩ := hR; obtain rfl := hv2.symm
    have hS : St e s3 w [pt g1 32 ([(.bool x1.Has), (.int .i64 x1.O.Kind), v1, v2])] := hS
    refine stp hF (p_assign rfl) (by decide) (fun a hF => ?_)
    refine nilN ?_
    refine xn ?_
    refine rt ?_
    obtain rfl := hsm H
    replace hS := hS.sel (is := []) (A' := []) rfl
    exact ret1 hF rfl rfl hS ⟨rfl, rfl⟩

def impl_ViewOk_1.f (k : Nat) (x1 : TSlot) : Option Bool :=
  ((impl_slotOk.f k x1).bind fun x2 => (some (!x2)))
set_option maxRecDepth 100000 in
set_option maxHeartbeats 4000000 in
theorem impl_ViewOk_1.spec (k : Nat) (s0 : HF) (w : World) (x1 : TSlot) (v1 : Value) (v2 : Value) (h1 : Sl (Kd.int .i64) s0 v1 x1.O.Ints) (h2 : Sl (Kd.int .i64) s0 v2 x1.O.Refs) (r : Bool) (H : impl_ViewOk_1.f k x1 = some r) :
    Law Try.prog 28 #[(.agg #[(.bool x1.Has), (.int .i64 x1.O.Kind), v1, v2])] s0 w [] (fun v s1 A1 => v = (.bool r) ∧ A1 = []) := by
  unfold impl_ViewOk_1.f at H
  refine Law.intro Try.func28 rfl [(0, (.agg #[(.bool x1.Has), (.int .i64 x1.O.Kind), v1, v2]))] (Nat.le_of_ble_eq_true rfl) (enter_lk ⟨rfl, trivial⟩) (fun e a hS hF => ?_)
  have hF : Fr 6 a [(0, (.agg #[(.bool x1.Has), (.int .i64 x1.O.Kind), v1, v2]))] := hF
  refine sq ?_
  refine rg ?_
  refine ste hF (e_box (cs := [(.bool x1.Has), (.int .i64 x1.O.Kind), v1, v2]) hS rfl rfl) (by decide) (fun v w a hR hF => ?_)
  obtain ⟨g1, rfl, hS⟩ := hR
  refine stp hF (p_assign rfl) (by decide) (fun a hF => ?_)
  refine nilN ?_
  refine xn ?_
  refine sq ?_
  refine rg ?_
  refine stp hF (p_ldb_agg (i := 0) (l := []) (m := [(.bool x1.Has), (.int .i64 x1.O.Kind), v1, v2]) (r := []) hS rfl rfl ia_32 ti_32 rfl rfl rfl) (by decide) (fun a hF => ?_)
  obtain ⟨x2, hx1, H⟩ := hb H
  refine ste hF (e_call (fst := []) (vs := [(.agg #[(.bool x1.Has), (.int .i64 x1.O.Kind), v1, v2])]) (cap := []) rfl rfl go_29 (St.call (A := []) (B := [pt g1 32 ([(.bool x1.Has), (.int .i64 x1.O.Kind), v1, v2])]) hS (impl_slotOk.spec k _ _ x1 v1 v2 h1 h2 _ hx1))) (by decide) (fun v w a hR hF => ?_)
  obtain ⟨s2, A2, hg1, hS, hR⟩ := hR
  obtain ⟨hv1, rfl⟩ := hR; obtain rfl := hv1.symm
  have hS : St e s2 w [pt g1 32 ([(.bool x1.Has), (.int .i64 x1.O.Kind), v1, v2])] := hS
  refine stp hF (p_not rfl) (by decide) (fun a hF => ?_)
  refine stp hF (p_assign rfl) (by decide) (fun a hF => ?_)
  refine nilN ?_
  refine xn ?_
  refine rt ?_
  obtain rfl := hsm H
  replace hS := hS.sel (is := []) (A' := []) rfl
  exact ret1 hF rfl rfl hS ⟨rfl, rfl⟩

def impl_Slot_35_128.c1 (k : Nat) : Option Int :=
  (some (-1))
def impl_Slot_35_128.l1 (x1 : (List TSlot)) : Nat → Int → Option (Ex Int Unit)
  | 0, _ => none
  | k + 1, x2 => (if (decide (x2 < (x1.length : Int))) = true then (if 0 ≤ x2 ∧ x2 < (x1.length : Int) then ((impl_ViewOk_1.f k (rd x1 x2)).bind fun x3 => (if x3 = true then (some (Ex.ret x2)) else ((impl_Slot_35_128.l1 x1 k) (w64 (x2 + 1))))) else none) else (some (Ex.go ())))
def impl_Slot_35_128.f (k : Nat) (x1 : (List TSlot)) : Option Int :=
  (((impl_Slot_35_128.l1 x1 k 0) : Option (Ex Int Unit)).bind fun x4 => Ex.on x4 (fun r => some r) (fun y => impl_Slot_35_128.c1 k))
set_option maxRecDepth 100000 in
set_option maxHeartbeats 4000000 in
theorem impl_Slot_35_128.spec (k : Nat) (s0 : HF) (w : World) (x1 : (List TSlot)) (v1 : Value) (h1 : Sl kTSlot s0 v1 x1) (r : Int) (H : impl_Slot_35_128.f k x1 = some r) :
    Law Try.prog 35 #[v1, (.func (.func 28) #[] #[])] s0 w [] (fun v s1 A1 => v = (.int .i64 r) ∧ A1 = []) := by
  unfold impl_Slot_35_128.f at H
  refine Law.intro Try.func35 rfl [(0, v1), (1, (.func (.func 28) #[] #[]))] (Nat.le_of_ble_eq_true rfl) (enter_lk ⟨rfl, rfl, trivial⟩) (fun e a hS hF => ?_)
  have hF : Fr 19 a [(0, v1), (1, (.func (.func 28) #[] #[]))] := hF
  refine sq ?_
  refine rg ?_
  refine stp hF (p_assign rfl) (by decide) (fun a hF => ?_)
  refine nilN ?_
  refine xn ?_
  obtain ⟨x4, H, HK1⟩ := hb H
  refine sqj (fun a w => ∃ (s2 : HF) , St e s2 w [] ∧ Fr 19 a [] ∧ Sub s0 s2 ∧ impl_Slot_35_128.c1 k = some r) ?_ ?_
  · skip
    refine sq ?_
    refine rg ?_
    refine stp hF (p_move rfl) (by decide) (fun a hF => ?_)
    refine stp hF (p_lenr un_24 rfl h1) (by decide) (fun a hF => ?_)
    refine stp hF (p_move rfl) (by decide) (fun a hF => ?_)
    refine nilN ?_
    refine xn ?_
    refine blk ?_
    refine loop_ind (fun k1 a w => ∃ (x2 : Int) (s3 : HF) , St e s3 w [] ∧ Fr 19 a [(0, v1), (1, (.func (.func 28) #[] #[])), (7, (.int .i64 (x1.length : Int))), (8, (.int .i64 x2))] ∧ Sub s0 s3 ∧ impl_Slot_35_128.l1 x1 k1 x2 = some x4) k ?_ ?_ ?_
    · skip
      exact ⟨0, s0, hS, hF.cut ⟨rfl, rfl, rfl, rfl, trivial⟩, (Sub.refl _), H⟩
    · clear H hS hF
      rintro a w ⟨x2, s3, hS, hF, hg1, H⟩
      exact absurd (show none = some _ from H) (by simp)
    · clear H hS hF
      rintro k1 a w ⟨x2, s3, hS, hF, hg1, H⟩
      rw [impl_Slot_35_128.l1.eq_2] at H
      refine sq ?_
      refine rg ?_
      refine stp hF (p_lss rfl rfl) (by decide) (fun a hF => ?_)
      refine nilN ?_
      refine xn ?_
      refine sq ?_
      refine cnd hF rfl (fun hc1 => ?_) (fun hc1 => ?_)
      · replace H := hbt hc1 H
        refine skN ?_
        refine xn ?_
        refine sq ?_
        refine blk ?_
        refine sq ?_
        refine rg ?_
        refine stp hF (p_move rfl) (by decide) (fun a hF => ?_)
        refine stp hF (p_assign rfl) (by decide) (fun a hF => ?_)
        refine nilN ?_
        refine xn ?_
        refine sq ?_
        refine rg ?_
        refine stp hF (p_move rfl) (by decide) (fun a hF => ?_)
        refine stp hF (p_move rfl) (by decide) (fun a hF => ?_)
        refine stp hF (p_move rfl) (by decide) (fun a hF => ?_)
        obtain ⟨hq1, H⟩ := hck H
        obtain ⟨ad1, h2, p1⟩ := p_idxr (P := Try.prog) (i := x2) (h1.mono hg1) un_24 ti_32 hq1.1 hq1.2
        refine stp hF (p1 rfl rfl) (by decide) (fun a hF => ?_)
        obtain ⟨c2, h3, p2⟩ := p_ldr_agg (P := Try.prog) h2 ia_32 ti_32
        obtain ⟨v2, v3, rfl, h4, h5⟩ := kTSlot_open h3
        refine stp hF (p2 rfl hS.ro) (by decide) (fun a hF => ?_)
        obtain ⟨x3, hx1, H⟩ := hb H
        refine ste hF (e_call (fst := []) (vs := [(.agg #[(.bool ((rd x1 x2).Has)), (.int .i64 (((rd x1 x2).O).Kind)), v2, v3])]) (cap := []) rfl rfl go_28 (St.call (A := []) (B := []) hS (impl_ViewOk_1.spec k1 _ _ (rd x1 x2) v2 v3 h4 h5 _ hx1))) (by decide) (fun v w a hR hF => ?_)
        obtain ⟨s4, A2, hg2, hS, hR⟩ := hR
        obtain ⟨hv1, rfl⟩ := hR; obtain rfl := hv1.symm
        have hS : St e s4 w [] := hS
        refine nilN ?_
        refine xn ?_
        refine cnd hF rfl (fun hc2 => ?_) (fun hc2 => ?_)
        · replace H := hbt hc2 H
          refine sq ?_
          refine rg ?_
          refine stp hF (p_move rfl) (by decide) (fun a hF => ?_)
          refine stp hF (p_assign rfl) (by decide) (fun a hF => ?_)
          refine nilN ?_
          refine xn ?_
          refine rt ?_
          refine br (xr (xr (br (xr ?_))))
          obtain rfl := hsm H
          have H := hon1 HK1
          obtain rfl := hsm H
          exact ret1 hF rfl rfl hS ⟨rfl, rfl⟩
        · replace H := hbf hc2 H
          refine skN ?_
          refine bn (xn ?_)
          refine rg ?_
          refine stp hF (p_add (c := w64 (x2 + 1)) rfl rfl rfl) (by decide) (fun a hF => ?_)
          refine stp hF (p_move rfl) (by decide) (fun a hF => ?_)
          refine nilN ?_
          refine xn ?_
          exact ⟨(w64 (x2 + 1)), s4, hS, hF.cut ⟨rfl, rfl, rfl, rfl, trivial⟩, (hg1.trans hg2), H⟩
      · replace H := hbf hc1 H
        refine exi ?_
        refine xe (xe (hit (xn ?_)))
        obtain rfl := hsm H
        exact ⟨s3, hS, hF.cut trivial, hg1, HK1⟩
  · clear H HK1 hS hF
    rintro a w ⟨s2, hS, hF, hg3, H⟩
    unfold impl_Slot_35_128.c1 at H
    refine sq ?_
    refine rg ?_
    refine stp hF (p_assign rfl) (by decide) (fun a hF => ?_)
    refine nilN ?_
    refine xn ?_
    refine rt ?_
    obtain rfl := hsm H
    exact ret1 hF rfl rfl hS ⟨rfl, rfl⟩

def impl_Slot_27_128.f (k : Nat) (x1 : (List TSlot)) : Option Bool :=
  ((impl_Slot_35_128.f k x1).bind fun x2 => (some (decide (0 ≤ x2))))
set_option maxRecDepth 100000 in
set_option maxHeartbeats 4000000 in
theorem impl_Slot_27_128.spec (k : Nat) (s0 : HF) (w : World) (x1 : (List TSlot)) (v1 : Value) (h1 : Sl kTSlot s0 v1 x1) (r : Bool) (H : impl_Slot_27_128.f k x1 = some r) :
    Law Try.prog 27 #[v1, (.func (.func 28) #[] #[])] s0 w [] (fun v s1 A1 => v = (.bool r) ∧ A1 = []) := by
  unfold impl_Slot_27_128.f at H
  refine Law.intro Try.func27 rfl [(0, v1), (1, (.func (.func 28) #[] #[]))] (Nat.le_of_ble_eq_true rfl) (enter_lk ⟨rfl, rfl, trivial⟩) (fun e a hS hF => ?_)
  have hF : Fr 9 a [(0, v1), (1, (.func (.func 28) #[] #[]))] := hF
  refine sq ?_
  refine rg ?_
  refine stp hF (p_assign rfl) (by decide) (fun a hF => ?_)
  refine nilN ?_
  refine xn ?_
  refine sq ?_
  refine rg ?_
  refine stp hF (p_move rfl) (by decide) (fun a hF => ?_)
  refine stp hF (p_move rfl) (by decide) (fun a hF => ?_)
  obtain ⟨x2, hx1, H⟩ := hb H
  refine ste hF (e_call (fst := []) (vs := [v1, (.func (.func 28) #[] #[])]) (cap := []) rfl rfl go_35 (St.call (A := []) (B := []) hS (impl_Slot_35_128.spec k _ _ x1 v1 h1 _ hx1))) (by decide) (fun v w a hR hF => ?_)
  obtain ⟨s2, A2, hg1, hS, hR⟩ := hR
  obtain ⟨hv1, rfl⟩ := hR; obtain rfl := hv1.symm
  have hS : St e s2 w [] := hS
  refine stp hF (p_geq rfl rfl) (by decide) (fun a hF => ?_)
  refine stp hF (p_assign rfl) (by decide) (fun a hF => ?_)
  refine nilN ?_
  refine xn ?_
  refine rt ?_
  obtain rfl := hsm H
  exact ret1 hF rfl rfl hS ⟨rfl, rfl⟩

def impl_ViewOk.c1 (k : Nat) (x1 : Bool) : Option Bool :=
  (some x1)
def impl_ViewOk.c2 (k : Nat) (x2 : (List TSlot)) (x3 : Bool) : Option Bool :=
  ((if x3 = true then ((impl_Slot_27_128.f k x2).bind fun x4 => (some (!x4))) else (some false) : Option Bool).bind fun x5 => impl_ViewOk.c1 k x5)
def impl_ViewOk.f (k : Nat) (x2 : (List TSlot)) : Option Bool :=
  ((if (decide ((x2.length : Int) = 32)) = true then (if 0 ≤ (0 : Int) ∧ (0 : Int) < (x2.length : Int) then ((impl_noSlot.f k (rd x2 (0 : Int))).bind fun x6 => (some x6)) else none) else (some false) : Option Bool).bind fun x7 => impl_ViewOk.c2 k x2 x7)
set_option maxRecDepth 100000 in
set_option maxHeartbeats 4000000 in
theorem impl_ViewOk.spec (k : Nat) (s0 : HF) (w : World) (x2 : (List TSlot)) (v1 : Value) (h1 : Sl kTSlot s0 v1 x2) (r : Bool) (H : impl_ViewOk.f k x2 = some r) :
    Law Try.prog 14 #[v1] s0 w [] (fun v s1 A1 => v = (.bool r) ∧ A1 = []) := by
  unfold impl_ViewOk.f at H
  refine Law.intro Try.func14 rfl [(0, v1)] (Nat.le_of_ble_eq_true rfl) (enter_lk ⟨rfl, trivial⟩) (fun e a hS hF => ?_)
  have hF : Fr 17 a [(0, v1)] := hF
  refine sq ?_
  refine rg ?_
  refine stp hF (p_assign rfl) (by decide) (fun a hF => ?_)
  refine nilN ?_
  refine xn ?_
  refine sq ?_
  refine rg ?_
  refine stp hF (p_move rfl) (by decide) (fun a hF => ?_)
  refine stp hF (p_lenr un_24 rfl h1) (by decide) (fun a hF => ?_)
  refine stp hF (p_eql rfl rfl) (by decide) (fun a hF => ?_)
  refine stp hF (p_move rfl) (by decide) (fun a hF => ?_)
  obtain ⟨x7, H, HK1⟩ := hb H
  refine cutj 5 (fun a w => ∃ (x3 : Bool) (s2 : HF) , St e s2 w [] ∧ Fr 17 a [(0, v1), (11, (.bool x3))] ∧ Sub s0 s2 ∧ impl_ViewOk.c2 k x2 x3 = some r) rfl rfl ?_ ?_
  · rcases Bool.eq_false_or_eq_true (decide ((x2.length : Int) = 32)) with hc1 | hc1
    · replace H := hbt hc1 H
      refine gonE (j := 3) hF rfl rfl hc1 ?_
      refine stp hF (p_move rfl) (by decide) (fun a hF => ?_)
      obtain ⟨hq1, H⟩ := hck H
      obtain ⟨ad1, h2, p1⟩ := p_idxr (P := Try.prog) (i := (0 : Int)) h1 un_24 ti_32 hq1.1 hq1.2
      refine gonE (j := 3) hF rfl rfl hc1 ?_
      refine stp hF (p1 rfl rfl) (by decide) (fun a hF => ?_)
      obtain ⟨c3, h3, p2⟩ := p_ldr_agg (P := Try.prog) h2 ia_32 ti_32
      obtain ⟨v2, v3, rfl, h4, h5⟩ := kTSlot_open h3
      refine gonE (j := 3) hF rfl rfl hc1 ?_
      refine stp hF (p2 rfl hS.ro) (by decide) (fun a hF => ?_)
      obtain ⟨x6, hx1, H⟩ := hb H
      refine gonE (j := 3) hF rfl rfl hc1 ?_
      refine ste hF (e_call (fst := []) (vs := [(.agg #[(.bool ((rd x2 (0 : Int)).Has)), (.int .i64 (((rd x2 (0 : Int)).O).Kind)), v2, v3])]) (cap := []) rfl rfl go_26 (St.call (A := []) (B := []) hS (impl_noSlot.spec k _ _ (rd x2 (0 : Int)) v2 v3 h4 h5 _ hx1))) (by decide) (fun v w a hR hF => ?_)
      obtain ⟨s3, A2, hg1, hS, hR⟩ := hR
      obtain ⟨hv1, rfl⟩ := hR; obtain rfl := hv1.symm
      have hS : St e s3 w [] := hS
      refine stp hF (p_pickT rfl hc1 rfl) (by decide) (fun a hF => ?_)
      refine nilN ?_
      refine xn ?_
      obtain rfl := hsm H
      exact ⟨x6, s3, hS, hF.cut ⟨rfl, rfl, trivial⟩, hg1, HK1⟩
    · replace H := hbf hc1 H
      refine gofD (j := 3) hF rfl rfl (by rw [hc1]; decide) (by decide) (fun a hF => ?_)
      refine gofD (j := 3) hF rfl rfl (by rw [hc1]; decide) (by decide) (fun a hF => ?_)
      refine gofD (j := 3) hF rfl rfl (by rw [hc1]; decide) (by decide) (fun a hF => ?_)
      refine gofD (j := 3) hF rfl rfl (by rw [hc1]; decide) (by decide) (fun a hF => ?_)
      refine stp hF (p_pickF rfl hc1 rfl) (by decide) (fun a hF => ?_)
      refine nilN ?_
      refine xn ?_
      obtain rfl := hsm H
      exact ⟨false, s0, hS, hF.cut ⟨rfl, rfl, trivial⟩, (Sub.refl _), HK1⟩
  · clear H HK1 hS hF
    rintro a w ⟨x3, s2, hS, hF, hg2, H⟩
    unfold impl_ViewOk.c2 at H
    refine stp hF (p_move rfl) (by decide) (fun a hF => ?_)
    obtain ⟨x5, H, HK2⟩ := hb H
    refine cutj 4 (fun a w => ∃ (x1 : Bool) (s4 : HF) , St e s4 w [] ∧ Fr 17 a [(16, (.bool x1))] ∧ Sub s2 s4 ∧ impl_ViewOk.c1 k x1 = some r) rfl rfl ?_ ?_
    · rcases Bool.eq_false_or_eq_true (x3) with hc2 | hc2
      · replace H := hbt hc2 H
        refine gonE (j := 9) hF rfl rfl hc2 ?_
        refine stp hF (p_move rfl) (by decide) (fun a hF => ?_)
        obtain ⟨x4, hx2, H⟩ := hb H
        refine gonE (j := 9) hF rfl rfl hc2 ?_
        refine ste hF (e_call (fst := []) (vs := [v1, (.func (.func 28) #[] #[])]) (cap := []) rfl rfl go_27 (St.call (A := []) (B := []) hS (impl_Slot_27_128.spec k _ _ x2 v1 (h1.mono hg2) _ hx2))) (by decide) (fun v w a hR hF => ?_)
        obtain ⟨s5, A3, hg3, hS, hR⟩ := hR
        obtain ⟨hv2, rfl⟩ := hR; obtain rfl := hv2.symm
        have hS : St e s5 w [] := hS
        refine gonE (j := 9) hF rfl rfl hc2 ?_
        refine stp hF (p_not rfl) (by decide) (fun a hF => ?_)
        refine stp hF (p_pickT rfl hc2 rfl) (by decide) (fun a hF => ?_)
        refine nilN ?_
        refine xn ?_
        obtain rfl := hsm H
        exact ⟨(!x4), s5, hS, hF.cut ⟨rfl, trivial⟩, hg3, HK2⟩
      · replace H := hbf hc2 H
        refine gofD (j := 9) hF rfl rfl (by rw [hc2]; decide) (by decide) (fun a hF => ?_)
        refine gofD (j := 9) hF rfl rfl (by rw [hc2]; decide) (by decide) (fun a hF => ?_)
        refine gofD (j := 9) hF rfl rfl (by rw [hc2]; decide) (by decide) (fun a hF => ?_)
        refine stp hF (p_pickF rfl hc2 rfl) (by decide) (fun a hF => ?_)
        refine nilN ?_
        refine xn ?_
        obtain rfl := hsm H
        exact ⟨false, s2, hS, hF.cut ⟨rfl, trivial⟩, (Sub.refl _), HK2⟩
    · clear H HK2 hS hF
      rintro a w ⟨x1, s4, hS, hF, hg4, H⟩
      unfold impl_ViewOk.c1 at H
      refine stp hF (p_assign rfl) (by decide) (fun a hF => ?_)
      refine nilN ?_
      refine xn ?_
      refine rt ?_
      obtain rfl := hsm H
      exact ret1 hF rfl rfl hS ⟨rfl, rfl⟩

def impl_isOid.f (k : Nat) (x1 : Int) : Option Bool :=
  ((impl_in.f k x1 1 31).bind fun x2 => (some x2))
set_option maxRecDepth 100000 in
set_option maxHeartbeats 4000000 in
theorem impl_isOid.spec (k : Nat) (s0 : HF) (w : World) (x1 : Int) (r : Bool) (H : impl_isOid.f k x1 = some r) :
    Law Try.prog 17 #[(.int .i64 x1)] s0 w [] (fun v s1 A1 => v = (.bool r) ∧ A1 = []) := by
  unfold impl_isOid.f at H
  refine Law.intro Try.func17 rfl [(0, (.int .i64 x1))] (Nat.le_of_ble_eq_true rfl) (enter_lk ⟨rfl, trivial⟩) (fun e a hS hF => ?_)
  have hF : Fr 5 a [(0, (.int .i64 x1))] := hF
  refine sq ?_
  refine rg ?_
  refine stp hF (p_assign rfl) (by decide) (fun a hF => ?_)
  refine nilN ?_
  refine xn ?_
  refine sq ?_
  refine rg ?_
  refine stp hF (p_move rfl) (by decide) (fun a hF => ?_)
  obtain ⟨x2, hx1, H⟩ := hb H
  refine ste hF (e_call (fst := []) (vs := [(.int .i64 x1), (.int .i64 1), (.int .i64 31)]) (cap := []) rfl rfl go_20 (St.call (A := []) (B := []) hS (impl_in.spec k _ _ x1 1 31 _ hx1))) (by decide) (fun v w a hR hF => ?_)
  obtain ⟨s2, A2, hg1, hS, hR⟩ := hR
  obtain ⟨hv1, rfl⟩ := hR; obtain rfl := hv1.symm
  have hS : St e s2 w [] := hS
  refine stp hF (p_assign rfl) (by decide) (fun a hF => ?_)
  refine nilN ?_
  refine xn ?_
  refine rt ?_
  obtain rfl := hsm H
  exact ret1 hF rfl rfl hS ⟨rfl, rfl⟩

def impl_marksOf.c1 (k : Nat) (x1 : (List Int)) (x2 : (List Bool)) : Option (List Bool) :=
  (some x2)
def impl_marksOf.c2 (k : Nat) (rec_l1 : (List Int) → (List Bool) → Option ((List Int) × (List Bool))) (x3 : (List Int)) (x4 : (List Bool)) (x5 : (List TSlot)) (x6 : Bool) : Option ((List Int) × (List Bool)) :=
  (if x6 = true then (rec_l1 (cut x3 (1 : Int) (x3.length : Int)) x4) else (if 0 ≤ (rd x3 (0 : Int)) ∧ (rd x3 (0 : Int)) < (x4.length : Int) then (if 0 ≤ (rd x3 (0 : Int)) ∧ (rd x3 (0 : Int)) < (x5.length : Int) then (if (cut x3 (1 : Int) (x3.length : Int)).length + (((rd x5 (rd x3 (0 : Int))).O).Refs).length ≤ 17592186044416 then (rec_l1 ((cut x3 (1 : Int) (x3.length : Int)) ++ (((rd x5 (rd x3 (0 : Int))).O).Refs)) (wr x4 (rd x3 (0 : Int)) true)) else none) else none) else none))
def impl_marksOf.c3 (k : Nat) (rec_l1 : (List Int) → (List Bool) → Option ((List Int) × (List Bool))) (x3 : (List Int)) (x4 : (List Bool)) (x5 : (List TSlot)) (x7 : Bool) : Option ((List Int) × (List Bool)) :=
  ((if x7 = true then (some true) else (if 0 ≤ (rd x3 (0 : Int)) ∧ (rd x3 (0 : Int)) < (x4.length : Int) then (some (rd x4 (rd x3 (0 : Int)))) else none) : Option Bool).bind fun x8 => impl_marksOf.c2 k rec_l1 x3 x4 x5 x8)
def impl_marksOf.l1 (x5 : (List TSlot)) : Nat → (List Int) → (List Bool) → Option ((List Int) × (List Bool))
  | 0, _, _ => none
  | k + 1, x3, x4 => (if (decide (0 < (x3.length : Int))) = true then (if 0 ≤ (0 : Int) ∧ (0 : Int) < (x3.length : Int) then (if 0 ≤ (1 : Int) ∧ (1 : Int) ≤ (x3.length : Int) ∧ (x3.length : Int) ≤ (x3.length : Int) then ((if (decide ((rd x3 (0 : Int)) = 0)) = true then (some true) else (if 0 ≤ (rd x3 (0 : Int)) ∧ (rd x3 (0 : Int)) < (x5.length : Int) then (some (!((rd x5 (rd x3 (0 : Int))).Has))) else none) : Option Bool).bind fun x9 => impl_marksOf.c3 k (impl_marksOf.l1 x5 k) x3 x4 x5 x9) else none) else none) else (some (x3, x4)))
def impl_marksOf.f (k : Nat) (x5 : (List TSlot)) (x10 : Int) : Option (List Bool) :=
  (((impl_marksOf.l1 x5 k ([x10] : List Int) (List.replicate (32 : Int).toNat false)) : Option ((List Int) × (List Bool))).bind fun x11 => impl_marksOf.c1 k x11.1 x11.2)
set_option maxRecDepth 100000 in
set_option maxHeartbeats 4000000 in
theorem impl_marksOf.spec (k : Nat) (s0 : HF) (w : World) (x5 : (List TSlot)) (x10 : Int) (v1 : Value) (h1 : Sl kTSlot s0 v1 x5) (r : (List Bool)) (H : impl_marksOf.f k x5 x10 = some r) :
    Law Try.prog 19 #[v1, (.int .i64 x10)] s0 w [] (fun v s1 A1 => ∃ (u0 : Value), v = u0 ∧ A1 = [Ow Kd.bool 4 u0 r]) := by
  unfold impl_marksOf.f at H
  refine Law.intro Try.func19 rfl [(0, v1), (1, (.int .i64 x10))] (Nat.le_of_ble_eq_true rfl) (enter_lk ⟨rfl, rfl, trivial⟩) (fun e a hS hF => ?_)
  have hF : Fr 47 a [(0, v1), (1, (.int .i64 x10))] := hF
  refine sq ?_
  refine rg ?_
  refine stp hF (p_assign rfl) (by decide) (fun a hF => ?_)
  refine nilN ?_
  refine xn ?_
  refine sq ?_
  refine rg ?_
  refine ste hF (e_make (kd := Kd.bool) (x0 := false) (c := [(.bool false)]) hS rfl rfl un_37 ti_4 rfl rfl (by decide) (by decide) (by decide)) (by decide) (fun v2 w a hR hF => ?_)
  have hS : St e s0 w [Ow Kd.bool 4 v2 (List.replicate (32 : Int).toNat false)] := hR
  refine stp hF (p_assign rfl) (by decide) (fun a hF => ?_)
  refine nilN ?_
  refine xn ?_
  refine sq ?_
  refine rg ?_
  refine stp hF (p_move rfl) (by decide) (fun a hF => ?_)
  refine ste hF (e_bslice (kd := (Kd.int .i64)) (et := 3) (ps := [(0, (.tmp 9))]) (vs := [(0, (.int .i64 x10))]) (cs := [(.int .i64 x10)]) (xs := ([x10] : List Int)) hS rfl (by intro w; kernel_rfl) rfl (by decide) (Nat.le_of_ble_eq_true rfl) (by exact (rows_cons (kd := (Kd.int .i64)) (x := x10) (c := [(.int .i64 x10)]) (cs := []) rfl (Rows.nil _ _ _ _)))) (by decide) (fun v3 w a hR hF => ?_)
  have hS : St e s0 w [Ow (Kd.int .i64) 3 v3 ([x10] : List Int), Ow Kd.bool 4 v2 (List.replicate (32 : Int).toNat false)] := hR
  refine stp hF (p_assign rfl) (by decide) (fun a hF => ?_)
  refine nilN ?_
  refine xn ?_
  obtain ⟨x11, H, HK1⟩ := hb H
  refine sqj (fun a w => ∃ (x1 : (List Int)) (x2 : (List Bool)) (v4 : Value) (v5 : Value) , St e s0 w [Ow (Kd.int .i64) 3 v4 x1, Ow Kd.bool 4 v5 x2] ∧ Fr 47 a [(5, v5)] ∧ impl_marksOf.c1 k x1 x2 = some r) ?_ ?_
  · skip
    refine blk ?_
    refine loop_ind (fun k1 a w => ∃ (x3 : (List Int)) (x4 : (List Bool)) (v6 : Value) (v7 : Value) , St e s0 w [Ow (Kd.int .i64) 3 v6 x3, Ow Kd.bool 4 v7 x4] ∧ Fr 47 a [(0, v1), (5, v7), (6, v6)] ∧ impl_marksOf.l1 x5 k1 x3 x4 = some x11) k ?_ ?_ ?_
    · skip
      exact ⟨([x10] : List Int), (List.replicate (32 : Int).toNat false), v3, v2, hS, hF.cut ⟨rfl, rfl, rfl, trivial⟩, H⟩
    · clear H hS hF
      rintro a w ⟨x3, x4, v6, v7, hS, hF, H⟩
      exact absurd (show none = some _ from H) (by simp)
    · clear H hS hF
      rintro k1 a w ⟨x3, x4, v6, v7, hS, hF, H⟩
      rw [impl_marksOf.l1.eq_2] at H
      refine sq ?_
      refine sq ?_
      refine rg ?_
      refine stp hF (p_move rfl) (by decide) (fun a hF => ?_)
      refine stp hF (p_leno (i := 0) hS rfl un_27 rfl) (by decide) (fun a hF => ?_)
      refine stp hF (p_gtr rfl rfl) (by decide) (fun a hF => ?_)
      refine nilN ?_
      refine xn ?_
      refine cnd hF rfl (fun hc1 => ?_) (fun hc1 => ?_)
      · replace H := hbt hc1 H
        refine skN ?_
        refine xn ?_
        refine blk ?_
        refine sq ?_
        refine rg ?_
        refine stp hF (p_move rfl) (by decide) (fun a hF => ?_)
        obtain ⟨hq1, H⟩ := hck H
        obtain ⟨b1, o1, q1, rfl, p1⟩ := p_idxo (n := 0) (i := (0 : Int)) hS rfl un_27 ti_3 hq1.1 hq1.2
        refine stp hF (p1 rfl rfl) (by decide) (fun a hF => ?_)
        obtain ⟨u1, h2, p2⟩ := p_ldo_one (P := Try.prog) (n := 0) hS rfl (Lens.id _) hq1.1 hq1.2 rfl ia_3 rfl
        obtain rfl : u1 = .int .i64 (rd x3 (0 : Int)) := by injection h2
        refine stp hF (p2 rfl) (by decide) (fun a hF => ?_)
        refine stp hF (p_assign rfl) (by decide) (fun a hF => ?_)
        refine nilN ?_
        refine xn ?_
        refine sq ?_
        refine rg ?_
        refine stp hF (p_move rfl) (by decide) (fun a hF => ?_)
        obtain ⟨hq2, H⟩ := hck H
        obtain ⟨v8, hS, p3⟩ := p_slo (n := 0) (i := (1 : Int)) (j := (x3.length : Int)) hS rfl un_27 ti_3 hq2.1 hq2.2.1 hq2.2.2
        refine stp hF (p3 rfl rfl rfl) (by decide) (fun a hF => ?_)
        refine stp hF (p_assign rfl) (by decide) (fun a hF => ?_)
        refine nilN ?_
        refine xn ?_
        refine sq ?_
        refine sq ?_
        refine rg ?_
        refine stp hF (p_move rfl) (by decide) (fun a hF => ?_)
        refine stp hF (p_eql rfl rfl) (by decide) (fun a hF => ?_)
        refine stp hF (p_move rfl) (by decide) (fun a hF => ?_)
        obtain ⟨x9, H, HK2⟩ := hb H
        refine cutj 7 (fun a w => ∃ (x7 : Bool) , St e s0 w [Ow (Kd.int .i64) 3 v8 (cut x3 (1 : Int) (x3.length : Int)), Ow Kd.bool 4 v7 x4] ∧ Fr 47 a [(0, v1), (5, v7), (6, v8), (7, (.int .i64 (rd x3 (0 : Int)))), (28, (.bool x7))] ∧ impl_marksOf.c3 k1 (impl_marksOf.l1 x5 k1) x3 x4 x5 x7 = some x11) rfl rfl ?_ ?_
        · rcases Bool.eq_false_or_eq_true (decide ((rd x3 (0 : Int)) = 0)) with hc2 | hc2
          · replace H := hbt hc2 H
            refine gofD (j := 2) hF rfl rfl (by rw [hc2]; decide) (by decide) (fun a hF => ?_)
            refine gofD (j := 2) hF rfl rfl (by rw [hc2]; decide) (by decide) (fun a hF => ?_)
            refine gofD (j := 2) hF rfl rfl (by rw [hc2]; decide) (by decide) (fun a hF => ?_)
            refine gofD (j := 2) hF rfl rfl (by rw [hc2]; decide) (by decide) (fun a hF => ?_)
            refine gofD (j := 2) hF rfl rfl (by rw [hc2]; decide) (by decide) (fun a hF => ?_)
            refine gofD (j := 2) hF rfl rfl (by rw [hc2]; decide) (by decide) (fun a hF => ?_)
            refine stp hF (p_pickT rfl hc2 rfl) (by decide) (fun a hF => ?_)
            refine nilN ?_
            refine xn ?_
            obtain rfl := hsm H
            exact ⟨true, hS, hF.cut ⟨rfl, rfl, rfl, rfl, rfl, trivial⟩, HK2⟩
          · replace H := hbf hc2 H
            refine gonE (j := 2) hF rfl rfl hc2 ?_
            refine stp hF (p_move rfl) (by decide) (fun a hF => ?_)
            refine gonE (j := 2) hF rfl rfl hc2 ?_
            refine stp hF (p_move rfl) (by decide) (fun a hF => ?_)
            obtain ⟨hq3, H⟩ := hck H
            obtain ⟨ad1, h3, p4⟩ := p_idxr (P := Try.prog) (i := (rd x3 (0 : Int))) h1 un_24 ti_32 hq3.1 hq3.2
            refine gonE (j := 2) hF rfl rfl hc2 ?_
            refine stp hF (p4 rfl rfl) (by decide) (fun a hF => ?_)
            have h4 : Pr Kd.bool s0 (ad1.add 0) ((rd x5 (rd x3 (0 : Int))).Has) := h3.lens kTSlot_Has
            refine gonE (j := 2) hF rfl rfl hc2 ?_
            refine stp hF (p_fld rfl fi_32_0) (by decide) (fun a hF => ?_)
            refine gonE (j := 2) hF rfl rfl hc2 ?_
            refine stp hF (p_ldr_bool rfl hS h4 ia_4) (by decide) (fun a hF => ?_)
            refine gonE (j := 2) hF rfl rfl hc2 ?_
            refine stp hF (p_not rfl) (by decide) (fun a hF => ?_)
            refine stp hF (p_pickF rfl hc2 rfl) (by decide) (fun a hF => ?_)
            refine nilN ?_
            refine xn ?_
            obtain rfl := hsm H
            exact ⟨(!((rd x5 (rd x3 (0 : Int))).Has)), hS, hF.cut ⟨rfl, rfl, rfl, rfl, rfl, trivial⟩, HK2⟩
        · clear H HK2 hS hF
          rintro a w ⟨x7, hS, hF, H⟩
          unfold impl_marksOf.c3 at H
          refine stp hF (p_move rfl) (by decide) (fun a hF => ?_)
          obtain ⟨x8, H, HK3⟩ := hb H
          refine cutj 5 (fun a w => ∃ (x6 : Bool) (v9 : Value) , St e s0 w [Ow (Kd.int .i64) 3 v8 (cut x3 (1 : Int) (x3.length : Int)), Ow Kd.bool 4 v9 x4] ∧ Fr 47 a [(0, v1), (5, v9), (6, v8), (7, (.int .i64 (rd x3 (0 : Int)))), (34, (.bool x6))] ∧ impl_marksOf.c2 k1 (impl_marksOf.l1 x5 k1) x3 x4 x5 x6 = some x11) rfl rfl ?_ ?_
          · rcases Bool.eq_false_or_eq_true (x7) with hc3 | hc3
            · replace H := hbt hc3 H
              refine gofD (j := 10) hF rfl rfl (by rw [hc3]; decide) (by decide) (fun a hF => ?_)
              refine gofD (j := 10) hF rfl rfl (by rw [hc3]; decide) (by decide) (fun a hF => ?_)
              refine gofD (j := 10) hF rfl rfl (by rw [hc3]; decide) (by decide) (fun a hF => ?_)
              refine gofD (j := 10) hF rfl rfl (by rw [hc3]; decide) (by decide) (fun a hF => ?_)
              refine stp hF (p_pickT rfl hc3 rfl) (by decide) (fun a hF => ?_)
              refine nilN ?_
              refine xn ?_
              obtain rfl := hsm H
              exact ⟨true, v7, hS, hF.cut ⟨rfl, rfl, rfl, rfl, rfl, trivial⟩, HK3⟩
            · replace H := hbf hc3 H
              refine gonE (j := 10) hF rfl rfl hc3 ?_
              refine stp hF (p_move rfl) (by decide) (fun a hF => ?_)
              refine gonE (j := 10) hF rfl rfl hc3 ?_
              refine stp hF (p_move rfl) (by decide) (fun a hF => ?_)
              obtain ⟨hq4, H⟩ := hck H
              obtain ⟨b2, o2, q2, rfl, p5⟩ := p_idxo (n := 1) (i := (rd x3 (0 : Int))) hS rfl un_37 ti_4 hq4.1 hq4.2
              refine gonE (j := 10) hF rfl rfl hc3 ?_
              refine stp hF (p5 rfl rfl) (by decide) (fun a hF => ?_)
              obtain ⟨u2, h5, p6⟩ := p_ldo_one (P := Try.prog) (n := 1) hS rfl (Lens.id _) hq4.1 hq4.2 rfl ia_4 rfl
              obtain rfl : u2 = .bool (rd x4 (rd x3 (0 : Int))) := by injection h5
              refine gonE (j := 10) hF rfl rfl hc3 ?_
              refine stp hF (p6 rfl) (by decide) (fun a hF => ?_)
              refine stp hF (p_pickF rfl hc3 rfl) (by decide) (fun a hF => ?_)
              refine nilN ?_
              refine xn ?_
              obtain rfl := hsm H
              exact ⟨(rd x4 (rd x3 (0 : Int))), (.slice (some ⟨b2, o2, none⟩) x4.length q2), hS, hF.cut ⟨rfl, rfl, rfl, rfl, rfl, trivial⟩, HK3⟩
          · clear H HK3 hS hF
            rintro a w ⟨x6, v9, hS, hF, H⟩
            unfold impl_marksOf.c2 at H
            refine nilN ?_
            refine xn ?_
            refine cnd hF rfl (fun hc4 => ?_) (fun hc4 => ?_)
            · replace H := hbt hc4 H
              refine exi ?_
              refine xe (hit (xn ?_))
              exact ⟨(cut x3 (1 : Int) (x3.length : Int)), x4, v8, v9, hS, hF.cut ⟨rfl, rfl, rfl, trivial⟩, H⟩
            · replace H := hbf hc4 H
              refine skN ?_
              refine xn ?_
              refine sq ?_
              refine rg ?_
              refine stp hF (p_move rfl) (by decide) (fun a hF => ?_)
              refine stp hF (p_move rfl) (by decide) (fun a hF => ?_)
              obtain ⟨hq5, H⟩ := hck H
              obtain ⟨b3, o3, q3, rfl, p7⟩ := p_idxo (n := 1) (i := (rd x3 (0 : Int))) hS rfl un_37 ti_4 hq5.1 hq5.2
              refine stp hF (p7 rfl rfl) (by decide) (fun a hF => ?_)
              refine ste0 hF (e_sto (n := 1) (c := true) hS rfl (Lens.id _) hq5.1 hq5.2 rfl rfl rfl ti_4 rfl rfl) (fun v w a hR hF => ?_)
              have hS : St e s0 w [Ow Kd.bool 4 (.slice (some ⟨b3, o3, none⟩) x4.length q3) (wr x4 (rd x3 (0 : Int)) true), Ow (Kd.int .i64) 3 v8 (cut x3 (1 : Int) (x3.length : Int))] := hR
              refine nilN ?_
              refine xn ?_
              refine rg ?_
              refine stp hF (p_move rfl) (by decide) (fun a hF => ?_)
              refine stp hF (p_move rfl) (by decide) (fun a hF => ?_)
              refine stp hF (p_move rfl) (by decide) (fun a hF => ?_)
              obtain ⟨hq6, H⟩ := hck H
              obtain ⟨ad2, h6, p8⟩ := p_idxr (P := Try.prog) (i := (rd x3 (0 : Int))) h1 un_24 ti_32 hq6.1 hq6.2
              refine stp hF (p8 rfl rfl) (by decide) (fun a hF => ?_)
              have h7 : Pr kTObj s0 (ad2.add 1) ((rd x5 (rd x3 (0 : Int))).O) := h6.lens kTSlot_O
              refine stp hF (p_fld rfl fi_32_1) (by decide) (fun a hF => ?_)
              have h8 : Pr (Kd.slice (Kd.int .i64)) s0 ((ad2.add 1).add 2) (((rd x5 (rd x3 (0 : Int))).O).Refs) := h7.lens kTObj_Refs
              refine stp hF (p_fld rfl fi_30_2) (by decide) (fun a hF => ?_)
              obtain ⟨v10, h9, p9⟩ := p_ldr_slice (P := Try.prog) h8 ia_27
              refine stp hF (p9 rfl hS.ro) (by decide) (fun a hF => ?_)
              obtain ⟨hq7, H⟩ := hck H
              refine ste hF (e_append (n := 1) hS rfl rfl rfl (h9.src hS) un_27 ti_3 rfl (by decide) (by decide) (Nat.le_trans (Nat.mul_le_mul_right 8 hq7) (by decide))) (by decide) (fun v11 w a hR hF => ?_)
              have hS : St e s0 w [Ow (Kd.int .i64) 3 v11 ((cut x3 (1 : Int) (x3.length : Int)) ++ (((rd x5 (rd x3 (0 : Int))).O).Refs)), Ow Kd.bool 4 (.slice (some ⟨b3, o3, none⟩) x4.length q3) (wr x4 (rd x3 (0 : Int)) true)] := hR
              refine stp hF (p_assign rfl) (by decide) (fun a hF => ?_)
              refine nilN ?_
              refine bn (xn ?_)
              exact ⟨((cut x3 (1 : Int) (x3.length : Int)) ++ (((rd x5 (rd x3 (0 : Int))).O).Refs)), (wr x4 (rd x3 (0 : Int)) true), v11, (.slice (some ⟨b3, o3, none⟩) x4.length q3), hS, hF.cut ⟨rfl, rfl, rfl, trivial⟩, H⟩
      · replace H := hbf hc1 H
        refine exi ?_
        refine xe (xe (hit (xn ?_)))
        obtain rfl := hsm H
        exact ⟨x3, x4, v6, v7, hS, hF.cut ⟨rfl, trivial⟩, HK1⟩
  · clear H HK1 hS hF
    rintro a w ⟨x1, x2, v4, v5, hS, hF, H⟩
    unfold impl_marksOf.c1 at H
    refine sq ?_
    refine rg ?_
    refine stp hF (p_move rfl) (by decide) (fun a hF => ?_)
    refine stp hF (p_assign rfl) (by decide) (fun a hF => ?_)
    refine nilN ?_
    refine xn ?_
    refine rt ?_
    obtain rfl := hsm H
    replace hS := hS.sel (is := [1]) (A' := [Ow Kd.bool 4 v5 x2]) rfl
    exact ret1 hF rfl rfl hS ⟨v5, rfl, rfl⟩

def impl_marked.c1 (k : Nat) (x1 : (List Int)) : Option (List Int) :=
  (some x1)
def impl_marked.c2 (k : Nat) (rec_l1 : (List Int) → Int → Option (List Int)) (x2 : Int) (x3 : (List Int)) : Option (List Int) :=
  (rec_l1 x3 (w64 (x2 + 1)))
def impl_marked.l1 (x4 : (List Bool)) : Nat → (List Int) → Int → Option (List Int)
  | 0, _, _ => none
  | k + 1, x5, x2 => (if (decide (x2 < (x4.length : Int))) = true then (((if 0 ≤ x2 ∧ x2 < (x4.length : Int) then (if (rd x4 x2) = true then (if x5.length + 1 ≤ 17592186044416 then (some (x5 ++ ([x2] : List Int))) else none) else (some x5)) else none) : Option (List Int)).bind fun x6 => impl_marked.c2 k (impl_marked.l1 x4 k) x2 x6) else (some x5))
def impl_marked.f (k : Nat) (x4 : (List Bool)) : Option (List Int) :=
  (((impl_marked.l1 x4 k ([] : List Int) 0) : Option (List Int)).bind fun x7 => impl_marked.c1 k x7)
set_option maxRecDepth 100000 in
set_option maxHeartbeats 4000000 in
theorem impl_marked.spec (k : Nat) (s0 : HF) (w : World) (x4 : (List Bool)) (v1 : Value) (h1 : Sl Kd.bool s0 v1 x4) (r : (List Int)) (H : impl_marked.f k x4 = some r) :
    Law Try.prog 18 #[v1] s0 w [] (fun v s1 A1 => ∃ (u0 : Value), v = u0 ∧ A1 = [Ow (Kd.int .i64) 3 u0 r]) := by
  unfold impl_marked.f at H
  refine Law.intro Try.func18 rfl [(0, v1)] (Nat.le_of_ble_eq_true rfl) (enter_lk ⟨rfl, trivial⟩) (fun e a hS hF => ?_)
  have hF : Fr 21 a [(0, v1)] := hF
  refine sq ?_
  refine rg ?_
  refine stp hF (p_assign rfl) (by decide) (fun a hF => ?_)
  refine nilN ?_
  refine xn ?_
  refine sq ?_
  refine rg ?_
  refine ste hF (e_bslice (kd := (Kd.int .i64)) (et := 3) (ps := []) (vs := []) (cs := []) (xs := ([] : List Int)) hS rfl (by intro w; kernel_rfl) rfl (by decide) (Nat.le_of_ble_eq_true rfl) (by exact (Rows.nil _ _ _ _))) (by decide) (fun v2 w a hR hF => ?_)
  have hS : St e s0 w [Ow (Kd.int .i64) 3 v2 ([] : List Int)] := hR
  refine stp hF (p_assign rfl) (by decide) (fun a hF => ?_)
  refine nilN ?_
  refine xn ?_
  obtain ⟨x7, H, HK1⟩ := hb H
  refine sqj (fun a w => ∃ (x1 : (List Int)) (v3 : Value) , St e s0 w [Ow (Kd.int .i64) 3 v3 x1] ∧ Fr 21 a [(3, v3)] ∧ impl_marked.c1 k x1 = some r) ?_ ?_
  · skip
    refine sq ?_
    refine rg ?_
    refine stp hF (p_move rfl) (by decide) (fun a hF => ?_)
    refine stp hF (p_lenr un_37 rfl h1) (by decide) (fun a hF => ?_)
    refine stp hF (p_move rfl) (by decide) (fun a hF => ?_)
    refine nilN ?_
    refine xn ?_
    refine blk ?_
    refine loop_ind (fun k1 a w => ∃ (x5 : (List Int)) (x2 : Int) (v4 : Value) , St e s0 w [Ow (Kd.int .i64) 3 v4 x5] ∧ Fr 21 a [(3, v4), (7, v1), (8, (.int .i64 (x4.length : Int))), (9, (.int .i64 x2))] ∧ impl_marked.l1 x4 k1 x5 x2 = some x7) k ?_ ?_ ?_
    · skip
      exact ⟨([] : List Int), 0, v2, hS, hF.cut ⟨rfl, rfl, rfl, rfl, trivial⟩, H⟩
    · clear H hS hF
      rintro a w ⟨x5, x2, v4, hS, hF, H⟩
      exact absurd (show none = some _ from H) (by simp)
    · clear H hS hF
      rintro k1 a w ⟨x5, x2, v4, hS, hF, H⟩
      rw [impl_marked.l1.eq_2] at H
      refine sq ?_
      refine rg ?_
      refine stp hF (p_lss rfl rfl) (by decide) (fun a hF => ?_)
      refine nilN ?_
      refine xn ?_
      refine sq ?_
      refine cnd hF rfl (fun hc1 => ?_) (fun hc1 => ?_)
      · replace H := hbt hc1 H
        refine skN ?_
        refine xn ?_
        obtain ⟨x6, H, HK2⟩ := hb H
        refine sqj (fun a w => ∃ (x3 : (List Int)) (v5 : Value) , St e s0 w [Ow (Kd.int .i64) 3 v5 x3] ∧ Fr 21 a [(3, v5), (7, v1), (8, (.int .i64 (x4.length : Int))), (9, (.int .i64 x2))] ∧ impl_marked.c2 k1 (impl_marked.l1 x4 k1) x2 x3 = some x7) ?_ ?_
        · skip
          refine blk ?_
          refine sq ?_
          refine rg ?_
          refine stp hF (p_move rfl) (by decide) (fun a hF => ?_)
          obtain ⟨hq1, H⟩ := hck H
          obtain ⟨ad1, h2, p1⟩ := p_idxr (P := Try.prog) (i := x2) h1 un_37 ti_4 hq1.1 hq1.2
          refine stp hF (p1 rfl rfl) (by decide) (fun a hF => ?_)
          refine stp hF (p_ldr_bool rfl hS h2 ia_4) (by decide) (fun a hF => ?_)
          refine stp hF (p_assign rfl) (by decide) (fun a hF => ?_)
          refine stp hF (p_assign rfl) (by decide) (fun a hF => ?_)
          refine nilN ?_
          refine xn ?_
          refine sq ?_
          refine rg ?_
          refine stp hF (p_move rfl) (by decide) (fun a hF => ?_)
          refine nilN ?_
          refine xn ?_
          refine cnd hF rfl (fun hc2 => ?_) (fun hc2 => ?_)
          · replace H := hbt hc2 H
            refine rg ?_
            refine stp hF (p_move rfl) (by decide) (fun a hF => ?_)
            refine stp hF (p_move rfl) (by decide) (fun a hF => ?_)
            refine ste hF (e_bslice (kd := (Kd.int .i64)) (et := 3) (ps := [(0, (.tmp 16))]) (vs := [(0, (.int .i64 x2))]) (cs := [(.int .i64 x2)]) (xs := ([x2] : List Int)) hS rfl (by intro w; kernel_rfl) rfl (by decide) (Nat.le_of_ble_eq_true rfl) (by exact (rows_cons (kd := (Kd.int .i64)) (x := x2) (c := [(.int .i64 x2)]) (cs := []) rfl (Rows.nil _ _ _ _)))) (by decide) (fun v6 w a hR hF => ?_)
            have hS : St e s0 w [Ow (Kd.int .i64) 3 v6 ([x2] : List Int), Ow (Kd.int .i64) 3 v4 x5] := hR
            obtain ⟨hq2, H⟩ := hck H
            refine ste hF (e_append (n := 1) hS rfl rfl rfl (hS.src (n := 0) rfl) un_27 ti_3 rfl (by decide) (by decide) (Nat.le_trans (Nat.mul_le_mul_right 8 hq2) (by decide))) (by decide) (fun v7 w a hR hF => ?_)
            have hS : St e s0 w [Ow (Kd.int .i64) 3 v7 (x5 ++ ([x2] : List Int)), Ow (Kd.int .i64) 3 v6 ([x2] : List Int)] := hR
            replace hS := hS.sel (is := [0]) (A' := [Ow (Kd.int .i64) 3 v7 (x5 ++ ([x2] : List Int))]) rfl
            refine stp hF (p_assign rfl) (by decide) (fun a hF => ?_)
            refine nilN ?_
            refine bn (xn ?_)
            obtain rfl := hsm H
            exact ⟨(x5 ++ ([x2] : List Int)), v7, hS, hF.cut ⟨rfl, rfl, rfl, rfl, trivial⟩, HK2⟩
          · replace H := hbf hc2 H
            refine skN ?_
            refine bn (xn ?_)
            obtain rfl := hsm H
            exact ⟨x5, v4, hS, hF.cut ⟨rfl, rfl, rfl, rfl, trivial⟩, HK2⟩
        · clear H HK2 hS hF
          rintro a w ⟨x3, v5, hS, hF, H⟩
          unfold impl_marked.c2 at H
          refine rg ?_
          refine stp hF (p_add (c := w64 (x2 + 1)) rfl rfl rfl) (by decide) (fun a hF => ?_)
          refine stp hF (p_move rfl) (by decide) (fun a hF => ?_)
          refine nilN ?_
          refine xn ?_
          exact ⟨x3, (w64 (x2 + 1)), v5, hS, hF.cut ⟨rfl, rfl, rfl, rfl, trivial⟩, H⟩
      · replace H := hbf hc1 H
        refine exi ?_
        refine xe (xe (hit (xn ?_)))
        obtain rfl := hsm H
        exact ⟨x5, v4, hS, hF.cut ⟨rfl, trivial⟩, HK1⟩
  · clear H HK1 hS hF
    rintro a w ⟨x1, v3, hS, hF, H⟩
    unfold impl_marked.c1 at H
    refine sq ?_
    refine rg ?_
    refine stp hF (p_move rfl) (by decide) (fun a hF => ?_)
    refine stp hF (p_assign rfl) (by decide) (fun a hF => ?_)
    refine nilN ?_
    refine xn ?_
    refine rt ?_
    obtain rfl := hsm H
    exact ret1 hF rfl rfl hS ⟨v3, rfl, rfl⟩

def impl_Reach.c1 (k : Nat) (x1 : (List TSlot)) (x2 : Int) (x3 : Bool) : Option (List Int) :=
  (if x3 = true then (some ([] : List Int)) else ((impl_marksOf.f k x1 x2).bind fun x4 => ((impl_marked.f k x4).bind fun x5 => (some x5))))
def impl_Reach.f (k : Nat) (x1 : (List TSlot)) (x2 : Int) : Option (List Int) :=
  ((impl_ViewOk.f k x1).bind fun x6 => ((if (!x6) = true then (some true) else ((impl_isOid.f k x2).bind fun x7 => (some (!x7))) : Option Bool).bind fun x8 => impl_Reach.c1 k x1 x2 x8))
set_option maxRecDepth 100000 in
set_option maxHeartbeats 4000000 in
theorem impl_Reach.spec (k : Nat) (s0 : HF) (w : World) (x1 : (List TSlot)) (x2 : Int) (v1 : Value) (h1 : Sl kTSlot s0 v1 x1) (r : (List Int)) (H : impl_Reach.f k x1 x2 = some r) :
    Law Try.prog 8 #[v1, (.int .i64 x2)] s0 w [] (fun v s1 A1 => ∃ (u0 : Value), v = u0 ∧ A1 = [Ow (Kd.int .i64) 3 u0 r]) := by
  unfold impl_Reach.f at H
  refine Law.intro Try.func8 rfl [(0, v1), (1, (.int .i64 x2))] (Nat.le_of_ble_eq_true rfl) (enter_lk ⟨rfl, rfl, trivial⟩) (fun e a hS hF => ?_)
  have hF : Fr 17 a [(0, v1), (1, (.int .i64 x2))] := hF
  refine sq ?_
  refine rg ?_
  refine stp hF (p_assign rfl) (by decide) (fun a hF => ?_)
  refine nilN ?_
  refine xn ?_
  refine sq ?_
  refine sq ?_
  refine rg ?_
  refine stp hF (p_move rfl) (by decide) (fun a hF => ?_)
  obtain ⟨x6, hx1, H⟩ := hb H
  refine ste hF (e_call (fst := []) (vs := [v1]) (cap := []) rfl rfl go_14 (St.call (A := []) (B := []) hS (impl_ViewOk.spec k _ _ x1 v1 h1 _ hx1))) (by decide) (fun v w a hR hF => ?_)
  obtain ⟨s2, A2, hg1, hS, hR⟩ := hR
  obtain ⟨hv1, rfl⟩ := hR; obtain rfl := hv1.symm
  have hS : St e s2 w [] := hS
  refine stp hF (p_not rfl) (by decide) (fun a hF => ?_)
  refine stp hF (p_move rfl) (by decide) (fun a hF => ?_)
  obtain ⟨x8, H, HK1⟩ := hb H
  refine cutj 4 (fun a w => ∃ (x3 : Bool) (s3 : HF) , St e s3 w [] ∧ Fr 17 a [(0, v1), (1, (.int .i64 x2)), (12, (.bool x3))] ∧ Sub s2 s3 ∧ impl_Reach.c1 k x1 x2 x3 = some r) rfl rfl ?_ ?_
  · rcases Bool.eq_false_or_eq_true ((!x6)) with hc1 | hc1
    · replace H := hbt hc1 H
      refine gofD (j := 3) hF rfl rfl (by rw [hc1]; decide) (by decide) (fun a hF => ?_)
      refine gofD (j := 3) hF rfl rfl (by rw [hc1]; decide) (by decide) (fun a hF => ?_)
      refine gofD (j := 3) hF rfl rfl (by rw [hc1]; decide) (by decide) (fun a hF => ?_)
      refine stp hF (p_pickT rfl hc1 rfl) (by decide) (fun a hF => ?_)
      refine nilN ?_
      refine xn ?_
      obtain rfl := hsm H
      exact ⟨true, s2, hS, hF.cut ⟨rfl, rfl, rfl, trivial⟩, (Sub.refl _), HK1⟩
    · replace H := hbf hc1 H
      refine gonE (j := 3) hF rfl rfl hc1 ?_
      refine stp hF (p_move rfl) (by decide) (fun a hF => ?_)
      obtain ⟨x7, hx2, H⟩ := hb H
      refine gonE (j := 3) hF rfl rfl hc1 ?_
      refine ste hF (e_call (fst := []) (vs := [(.int .i64 x2)]) (cap := []) rfl rfl go_17 (St.call (A := []) (B := []) hS (impl_isOid.spec k _ _ x2 _ hx2))) (by decide) (fun v w a hR hF => ?_)
      obtain ⟨s4, A3, hg2, hS, hR⟩ := hR
      obtain ⟨hv2, rfl⟩ := hR; obtain rfl := hv2.symm
      have hS : St e s4 w [] := hS
      refine gonE (j := 3) hF rfl rfl hc1 ?_
      refine stp hF (p_not rfl) (by decide) (fun a hF => ?_)
      refine stp hF (p_pickF rfl hc1 rfl) (by decide) (fun a hF => ?_)
      refine nilN ?_
      refine xn ?_
      obtain rfl := hsm H
      exact ⟨(!x7), s4, hS, hF.cut ⟨rfl, rfl, rfl, trivial⟩, hg2, HK1⟩
  · clear H HK1 hS hF
    rintro a w ⟨x3, s3, hS, hF, hg3, H⟩
    unfold impl_Reach.c1 at H
    refine nilN ?_
    refine xn ?_
    refine cnd hF rfl (fun hc2 => ?_) (fun hc2 => ?_)
    · replace H := hbt hc2 H
      refine sq ?_
      refine rg ?_
      refine stp hF (p_assign rfl) (by decide) (fun a hF => ?_)
      refine nilN ?_
      refine xn ?_
      refine rt ?_
      refine xr ?_
      obtain rfl := hsm H
      replace hS := hS.ownNil (Kd.int .i64) 3 none
      exact ret1 hF rfl rfl hS ⟨(.slice none 0 0), rfl, rfl⟩
    · replace H := hbf hc2 H
      refine skN ?_
      refine xn ?_
      refine sq ?_
      refine rg ?_
      refine stp hF (p_move rfl) (by decide) (fun a hF => ?_)
      refine stp hF (p_move rfl) (by decide) (fun a hF => ?_)
      obtain ⟨x4, hx3, H⟩ := hb H
      refine ste hF (e_call (fst := []) (vs := [v1, (.int .i64 x2)]) (cap := []) rfl rfl go_19 (St.call (A := []) (B := []) hS (impl_marksOf.spec k _ _ x1 x2 v1 ((h1.mono hg1).mono hg3) _ hx3))) (by decide) (fun v w a hR hF => ?_)
      obtain ⟨s5, A4, hg4, hS, hR⟩ := hR
      obtain ⟨v2, hv3, rfl⟩ := hR; obtain rfl := hv3.symm
      have hS : St e s5 w [Ow Kd.bool 4 v2 x4] := hS
      obtain ⟨s6, hg5, hl1, hcall1⟩ := St.lend (P := Try.prog) (Bs := [Ow Kd.bool 4 v2 x4]) (A := []) (B := []) hS
      obtain ⟨h2, hl1⟩ := hl1.ow hg5
      obtain ⟨x5, hx4, H⟩ := hb H
      refine ste hF (e_call (fst := []) (vs := [v2]) (cap := []) rfl rfl go_18 (hcall1 (impl_marked.spec k _ _ x4 v2 h2 _ hx4) (by rintro v s1 A1 ⟨_, rfl, rfl⟩; exact ⟨Ow_flat flat_int _ _ _, trivial⟩))) (by decide) (fun v w a hR hF => ?_)
      obtain ⟨s7, s8, A5, hg6, hS, hR⟩ := hR
      obtain ⟨v3, hv4, rfl⟩ := hR; obtain rfl := hv4.symm
      have hS : St e s7 w [Ow Kd.bool 4 v2 x4, Ow (Kd.int .i64) 3 v3 x5] := hS
      refine stp hF (p_assign rfl) (by decide) (fun a hF => ?_)
      refine nilN ?_
      refine xn ?_
      refine rt ?_
      obtain rfl := hsm H
      replace hS := hS.sel (is := [1]) (A' := [Ow (Kd.int .i64) 3 v3 x5]) rfl
      exact ret1 hF rfl rfl hS ⟨v3, rfl, rfl⟩

def impl_Garbage.c1 (k : Nat) (x1 : (List Int)) : Option (List Int) :=
  (some x1)
def impl_Garbage.c2 (k : Nat) (rec_l1 : (List Int) → Int → Option (List Int)) (x2 : Int) (x3 : (List Int)) : Option (List Int) :=
  (rec_l1 x3 (w64 (x2 + 1)))
def impl_Garbage.l1 (x4 : (List Bool)) (x5 : (List TSlot)) : Nat → (List Int) → Int → Option (List Int)
  | 0, _, _ => none
  | k + 1, x6, x2 => (if (decide (x2 < (x4.length : Int))) = true then (((if 0 ≤ x2 ∧ x2 < (x4.length : Int) then (if 0 ≤ x2 ∧ x2 < (x5.length : Int) then (if (((rd x5 x2).Has) && (!(rd x4 x2))) = true then (if x6.length + 1 ≤ 17592186044416 then (some (x6 ++ ([x2] : List Int))) else none) else (some x6)) else none) else none) : Option (List Int)).bind fun x7 => impl_Garbage.c2 k (impl_Garbage.l1 x4 x5 k) x2 x7) else (some x6))
def impl_Garbage.c3 (k : Nat) (x5 : (List TSlot)) (x8 : Int) (x9 : Bool) : Option (List Int) :=
  (if x9 = true then (some ([] : List Int)) else ((((impl_marksOf.f k x5 x8).bind fun x4 => (impl_Garbage.l1 x4 x5 k ([] : List Int) 0)) : Option (List Int)).bind fun x10 => impl_Garbage.c1 k x10))
def impl_Garbage.f (k : Nat) (x5 : (List TSlot)) (x8 : Int) : Option (List Int) :=
  ((impl_ViewOk.f k x5).bind fun x11 => ((if (!x11) = true then (some true) else ((impl_isOid.f k x8).bind fun x12 => (some (!x12))) : Option Bool).bind fun x13 => impl_Garbage.c3 k x5 x8 x13))
set_option maxRecDepth 100000 in
set_option maxHeartbeats 4000000 in
theorem impl_Garbage.spec (k : Nat) (s0 : HF) (w : World) (x5 : (List TSlot)) (x8 : Int) (v1 : Value) (h1 : Sl kTSlot s0 v1 x5) (r : (List Int)) (H : impl_Garbage.f k x5 x8 = some r) :
    Law Try.prog 9 #[v1, (.int .i64 x8)] s0 w [] (fun v s1 A1 => ∃ (u0 : Value), v = u0 ∧ A1 = [Ow (Kd.int .i64) 3 u0 r]) := by
  unfold impl_Garbage.f at H
  refine Law.intro Try.func9 rfl [(0, v1), (1, (.int .i64 x8))] (Nat.le_of_ble_eq_true rfl) (enter_lk ⟨rfl, rfl, trivial⟩) (fun e a hS hF => ?_)
  have hF : Fr 41 a [(0, v1), (1, (.int .i64 x8))] := hF
  refine sq ?_
  refine rg ?_
  refine stp hF (p_assign rfl) (by decide) (fun a hF => ?_)
  refine nilN ?_
  refine xn ?_
  refine sq ?_
  refine sq ?_
  refine rg ?_
  refine stp hF (p_move rfl) (by decide) (fun a hF => ?_)
  obtain ⟨x11, hx1, H⟩ := hb H
  refine ste hF (e_call (fst := []) (vs := [v1]) (cap := []) rfl rfl go_14 (St.call (A := []) (B := []) hS (impl_ViewOk.spec k _ _ x5 v1 h1 _ hx1))) (by decide) (fun v w a hR hF => ?_)
  obtain ⟨s2, A2, hg1, hS, hR⟩ := hR
  obtain ⟨hv1, rfl⟩ := hR; obtain rfl := hv1.symm
  have hS : St e s2 w [] := hS
  refine stp hF (p_not rfl) (by decide) (fun a hF => ?_)
  refine stp hF (p_move rfl) (by decide) (fun a hF => ?_)
  obtain ⟨x13, H, HK1⟩ := hb H
  refine cutj 4 (fun a w => ∃ (x9 : Bool) (s3 : HF) , St e s3 w [] ∧ Fr 41 a [(0, v1), (1, (.int .i64 x8)), (15, (.bool x9))] ∧ Sub s2 s3 ∧ impl_Garbage.c3 k x5 x8 x9 = some r) rfl rfl ?_ ?_
  · rcases Bool.eq_false_or_eq_true ((!x11)) with hc1 | hc1
    · replace H := hbt hc1 H
      refine gofD (j := 3) hF rfl rfl (by rw [hc1]; decide) (by decide) (fun a hF => ?_)
      refine gofD (j := 3) hF rfl rfl (by rw [hc1]; decide) (by decide) (fun a hF => ?_)
      refine gofD (j := 3) hF rfl rfl (by rw [hc1]; decide) (by decide) (fun a hF => ?_)
      refine stp hF (p_pickT rfl hc1 rfl) (by decide) (fun a hF => ?_)
      refine nilN ?_
      refine xn ?_
      obtain rfl := hsm H
      exact ⟨true, s2, hS, hF.cut ⟨rfl, rfl, rfl, trivial⟩, (Sub.refl _), HK1⟩
    · replace H := hbf hc1 H
      refine gonE (j := 3) hF rfl rfl hc1 ?_
      refine stp hF (p_move rfl) (by decide) (fun a hF => ?_)
      obtain ⟨x12, hx2, H⟩ := hb H
      refine gonE (j := 3) hF rfl rfl hc1 ?_
      refine ste hF (e_call (fst := []) (vs := [(.int .i64 x8)]) (cap := []) rfl rfl go_17 (St.call (A := []) (B := []) hS (impl_isOid.spec k _ _ x8 _ hx2))) (by decide) (fun v w a hR hF => ?_)
      obtain ⟨s4, A3, hg2, hS, hR⟩ := hR
      obtain ⟨hv2, rfl⟩ := hR; obtain rfl := hv2.symm
      have hS : St e s4 w [] := hS
      refine gonE (j := 3) hF rfl rfl hc1 ?_
      refine stp hF (p_not rfl) (by decide) (fun a hF => ?_)
      refine stp hF (p_pickF rfl hc1 rfl) (by decide) (fun a hF => ?_)
      refine nilN ?_
      refine xn ?_
      obtain rfl := hsm H
      exact ⟨(!x12), s4, hS, hF.cut ⟨rfl, rfl, rfl, trivial⟩, hg2, HK1⟩
  · clear H HK1 hS hF
    rintro a w ⟨x9, s3, hS, hF, hg3, H⟩
    unfold impl_Garbage.c3 at H
    refine nilN ?_
    refine xn ?_
    refine cnd hF rfl (fun hc2 => ?_) (fun hc2 => ?_)
    · replace H := hbt hc2 H
      refine sq ?_
      refine rg ?_
      refine stp hF (p_assign rfl) (by decide) (fun a hF => ?_)
      refine nilN ?_
      refine xn ?_
      refine rt ?_
      refine xr ?_
      obtain rfl := hsm H
      replace hS := hS.ownNil (Kd.int .i64) 3 none
      exact ret1 hF rfl rfl hS ⟨(.slice none 0 0), rfl, rfl⟩
    · replace H := hbf hc2 H
      refine skN ?_
      refine xn ?_
      refine sq ?_
      refine rg ?_
      refine ste hF (e_bslice (kd := (Kd.int .i64)) (et := 3) (ps := []) (vs := []) (cs := []) (xs := ([] : List Int)) hS rfl (by intro w; kernel_rfl) rfl (by decide) (Nat.le_of_ble_eq_true rfl) (by exact (Rows.nil _ _ _ _))) (by decide) (fun v2 w a hR hF => ?_)
      have hS : St e s3 w [Ow (Kd.int .i64) 3 v2 ([] : List Int)] := hR
      refine stp hF (p_assign rfl) (by decide) (fun a hF => ?_)
      refine nilN ?_
      refine xn ?_
      obtain ⟨x10, H, HK2⟩ := hb H
      refine sqj (fun a w => ∃ (x1 : (List Int)) (s5 : HF) (v3 : Value) , St e s5 w [Ow (Kd.int .i64) 3 v3 x1] ∧ Fr 41 a [(5, v3)] ∧ Sub s3 s5 ∧ impl_Garbage.c1 k x1 = some r) ?_ ?_
      · skip
        refine sq ?_
        refine rg ?_
        refine stp hF (p_move rfl) (by decide) (fun a hF => ?_)
        refine stp hF (p_move rfl) (by decide) (fun a hF => ?_)
        obtain ⟨x4, hx3, H⟩ := hb H
        refine ste hF (e_call (fst := []) (vs := [v1, (.int .i64 x8)]) (cap := []) rfl rfl go_19 (St.call (A := []) (B := [Ow (Kd.int .i64) 3 v2 ([] : List Int)]) hS (impl_marksOf.spec k _ _ x5 x8 v1 ((h1.mono hg1).mono hg3) _ hx3))) (by decide) (fun v w a hR hF => ?_)
        obtain ⟨s6, A4, hg4, hS, hR⟩ := hR
        obtain ⟨v4, hv3, rfl⟩ := hR; obtain rfl := hv3.symm
        have hS : St e s6 w [Ow Kd.bool 4 v4 x4, Ow (Kd.int .i64) 3 v2 ([] : List Int)] := hS
        refine stp hF (p_leno (i := 0) hS rfl un_37 rfl) (by decide) (fun a hF => ?_)
        refine stp hF (p_move rfl) (by decide) (fun a hF => ?_)
        refine nilN ?_
        refine xn ?_
        refine blk ?_
        refine loop_ind (fun k1 a w => ∃ (x6 : (List Int)) (x2 : Int) (v5 : Value) (v6 : Value) , St e s6 w [Ow Kd.bool 4 v5 x4, Ow (Kd.int .i64) 3 v6 x6] ∧ Fr 41 a [(0, v1), (5, v6), (19, v5), (20, (.int .i64 (x4.length : Int))), (21, (.int .i64 x2))] ∧ impl_Garbage.l1 x4 x5 k1 x6 x2 = some x10) k ?_ ?_ ?_
        · skip
          exact ⟨([] : List Int), 0, v4, v2, hS, hF.cut ⟨rfl, rfl, rfl, rfl, rfl, trivial⟩, H⟩
        · clear H hS hF
          rintro a w ⟨x6, x2, v5, v6, hS, hF, H⟩
          exact absurd (show none = some _ from H) (by simp)
        · clear H hS hF
          rintro k1 a w ⟨x6, x2, v5, v6, hS, hF, H⟩
          rw [impl_Garbage.l1.eq_2] at H
          refine sq ?_
          refine rg ?_
          refine stp hF (p_lss rfl rfl) (by decide) (fun a hF => ?_)
          refine nilN ?_
          refine xn ?_
          refine sq ?_
          refine cnd hF rfl (fun hc3 => ?_) (fun hc3 => ?_)
          · replace H := hbt hc3 H
            refine skN ?_
            refine xn ?_
            obtain ⟨x7, H, HK3⟩ := hb H
            refine sqj (fun a w => ∃ (x3 : (List Int)) (v7 : Value) (v8 : Value) , St e s6 w [Ow Kd.bool 4 v7 x4, Ow (Kd.int .i64) 3 v8 x3] ∧ Fr 41 a [(0, v1), (5, v8), (19, v7), (20, (.int .i64 (x4.length : Int))), (21, (.int .i64 x2))] ∧ impl_Garbage.c2 k1 (impl_Garbage.l1 x4 x5 k1) x2 x3 = some x10) ?_ ?_
            · skip
              refine blk ?_
              refine sq ?_
              refine rg ?_
              refine stp hF (p_move rfl) (by decide) (fun a hF => ?_)
              obtain ⟨hq1, H⟩ := hck H
              obtain ⟨b1, o1, q1, rfl, p1⟩ := p_idxo (n := 0) (i := x2) hS rfl un_37 ti_4 hq1.1 hq1.2
              refine stp hF (p1 rfl rfl) (by decide) (fun a hF => ?_)
              obtain ⟨u1, h2, p2⟩ := p_ldo_one (P := Try.prog) (n := 0) hS rfl (Lens.id _) hq1.1 hq1.2 rfl ia_4 rfl
              obtain rfl : u1 = .bool (rd x4 x2) := by injection h2
              refine stp hF (p2 rfl) (by decide) (fun a hF => ?_)
              refine stp hF (p_assign rfl) (by decide) (fun a hF => ?_)
              refine stp hF (p_assign rfl) (by decide) (fun a hF => ?_)
              refine nilN ?_
              refine xn ?_
              refine sq ?_
              refine rg ?_
              refine stp hF (p_move rfl) (by decide) (fun a hF => ?_)
              refine stp hF (p_move rfl) (by decide) (fun a hF => ?_)
              obtain ⟨hq2, H⟩ := hck H
              obtain ⟨ad1, h3, p3⟩ := p_idxr (P := Try.prog) (i := x2) (((h1.mono hg1).mono hg3).mono hg4) un_24 ti_32 hq2.1 hq2.2
              refine stp hF (p3 rfl rfl) (by decide) (fun a hF => ?_)
              have h4 : Pr Kd.bool s6 (ad1.add 0) ((rd x5 x2).Has) := h3.lens kTSlot_Has
              refine stp hF (p_fld rfl fi_32_0) (by decide) (fun a hF => ?_)
              refine stp hF (p_ldr_bool rfl hS h4 ia_4) (by decide) (fun a hF => ?_)
              refine stp hF (p_move rfl) (by decide) (fun a hF => ?_)
              refine cutj 3 (fun a w => St e s6 w [Ow Kd.bool 4 (.slice (some ⟨b1, o1, none⟩) x4.length q1) x4, Ow (Kd.int .i64) 3 v6 x6] ∧ Fr 41 a [(0, v1), (5, v6), (6, (.int .i64 x2)), (19, (.slice (some ⟨b1, o1, none⟩) x4.length q1)), (20, (.int .i64 (x4.length : Int))), (21, (.int .i64 x2)), (34, (.bool (((rd x5 x2).Has) && (!(rd x4 x2)))))]) rfl rfl ?_ ?_
              · rcases Bool.eq_false_or_eq_true ((rd x5 x2).Has) with hc4 | hc4
                · skip
                  refine gonE (j := 5) hF rfl rfl hc4 ?_
                  refine stp hF (p_move rfl) (by decide) (fun a hF => ?_)
                  refine gonE (j := 5) hF rfl rfl hc4 ?_
                  refine stp hF (p_not rfl) (by decide) (fun a hF => ?_)
                  refine stp hF (p_andT rfl hc4 rfl) (by decide) (fun a hF => ?_)
                  refine nilN ?_
                  refine xn ?_
                  exact ⟨hS, hF.cut ⟨rfl, rfl, rfl, rfl, rfl, rfl, rfl, trivial⟩⟩
                · skip
                  refine gofD (j := 5) hF rfl rfl (by rw [hc4]; decide) (by decide) (fun a hF => ?_)
                  refine gofD (j := 5) hF rfl rfl (by rw [hc4]; decide) (by decide) (fun a hF => ?_)
                  refine stp hF (p_andF (!(rd x4 x2)) rfl hc4 rfl) (by decide) (fun a hF => ?_)
                  refine nilN ?_
                  refine xn ?_
                  exact ⟨hS, hF.cut ⟨rfl, rfl, rfl, rfl, rfl, rfl, rfl, trivial⟩⟩
              clear hS hF
              rintro a w ⟨hS, hF⟩
              refine nilN ?_
              refine xn ?_
              refine cnd hF rfl (fun hc5 => ?_) (fun hc5 => ?_)
              · replace H := hbt hc5 H
                refine rg ?_
                refine stp hF (p_move rfl) (by decide) (fun a hF => ?_)
                refine stp hF (p_move rfl) (by decide) (fun a hF => ?_)
                refine ste hF (e_bslice (kd := (Kd.int .i64)) (et := 3) (ps := [(0, (.tmp 36))]) (vs := [(0, (.int .i64 x2))]) (cs := [(.int .i64 x2)]) (xs := ([x2] : List Int)) hS rfl (by intro w; kernel_rfl) rfl (by decide) (Nat.le_of_ble_eq_true rfl) (by exact (rows_cons (kd := (Kd.int .i64)) (x := x2) (c := [(.int .i64 x2)]) (cs := []) rfl (Rows.nil _ _ _ _)))) (by decide) (fun v9 w a hR hF => ?_)
                have hS : St e s6 w [Ow (Kd.int .i64) 3 v9 ([x2] : List Int), Ow Kd.bool 4 (.slice (some ⟨b1, o1, none⟩) x4.length q1) x4, Ow (Kd.int .i64) 3 v6 x6] := hR
                obtain ⟨hq3, H⟩ := hck H
                refine ste hF (e_append (n := 2) hS rfl rfl rfl (hS.src (n := 0) rfl) un_27 ti_3 rfl (by decide) (by decide) (Nat.le_trans (Nat.mul_le_mul_right 8 hq3) (by decide))) (by decide) (fun v10 w a hR hF => ?_)
                have hS : St e s6 w [Ow (Kd.int .i64) 3 v10 (x6 ++ ([x2] : List Int)), Ow (Kd.int .i64) 3 v9 ([x2] : List Int), Ow Kd.bool 4 (.slice (some ⟨b1, o1, none⟩) x4.length q1) x4] := hR
                replace hS := hS.sel (is := [0, 1]) (A' := [Ow (Kd.int .i64) 3 v10 (x6 ++ ([x2] : List Int)), Ow Kd.bool 4 (.slice (some ⟨b1, o1, none⟩) x4.length q1) x4]) rfl
                refine stp hF (p_assign rfl) (by decide) (fun a hF => ?_)
                refine nilN ?_
                refine bn (xn ?_)
                obtain rfl := hsm H
                replace hS := hS.sel (is := [1, 0]) (A' := [Ow Kd.bool 4 (.slice (some ⟨b1, o1, none⟩) x4.length q1) x4, Ow (Kd.int .i64) 3 v10 (x6 ++ ([x2] : List Int))]) rfl
                exact ⟨(x6 ++ ([x2] : List Int)), (.slice (some ⟨b1, o1, none⟩) x4.length q1), v10, hS, hF.cut ⟨rfl, rfl, rfl, rfl, rfl, trivial⟩, HK3⟩
              · replace H := hbf hc5 H
                refine skN ?_
                refine bn (xn ?_)
                obtain rfl := hsm H
                exact ⟨x6, (.slice (some ⟨b1, o1, none⟩) x4.length q1), v6, hS, hF.cut ⟨rfl, rfl, rfl, rfl, rfl, trivial⟩, HK3⟩
            · clear H HK3 hS hF
              rintro a w ⟨x3, v7, v8, hS, hF, H⟩
              unfold impl_Garbage.c2 at H
              refine rg ?_
              refine stp hF (p_add (c := w64 (x2 + 1)) rfl rfl rfl) (by decide) (fun a hF => ?_)
              refine stp hF (p_move rfl) (by decide) (fun a hF => ?_)
              refine nilN ?_
              refine xn ?_
              exact ⟨x3, (w64 (x2 + 1)), v7, v8, hS, hF.cut ⟨rfl, rfl, rfl, rfl, rfl, trivial⟩, H⟩
          · replace H := hbf hc3 H
            refine exi ?_
            refine xe (xe (hit (xn ?_)))
            obtain rfl := hsm H
            replace hS := hS.sel (is := [1]) (A' := [Ow (Kd.int .i64) 3 v6 x6]) rfl
            exact ⟨x6, s6, v6, hS, hF.cut ⟨rfl, trivial⟩, hg4, HK2⟩
      · clear H HK2 hS hF
        rintro a w ⟨x1, s5, v3, hS, hF, hg5, H⟩
        unfold impl_Garbage.c1 at H
        refine sq ?_
        refine rg ?_
        refine stp hF (p_move rfl) (by decide) (fun a hF => ?_)
        refine stp hF (p_assign rfl) (by decide) (fun a hF => ?_)
        refine nilN ?_
        refine xn ?_
        refine rt ?_
        obtain rfl := hsm H
        exact ret1 hF rfl rfl hS ⟨v3, rfl, rfl⟩

def laws_among.c1 (k : Nat) : Option Bool :=
  (some false)
def laws_among.l1 (x1 : (List Int)) (x2 : Int) : Nat → Int → Option (Ex Bool Unit)
  | 0, _ => none
  | k + 1, x3 => (if (decide (x3 < (x1.length : Int))) = true then (if 0 ≤ x3 ∧ x3 < (x1.length : Int) then (if (decide ((rd x1 x3) = x2)) = true then (some (Ex.ret true)) else ((laws_among.l1 x1 x2 k) (w64 (x3 + 1)))) else none) else (some (Ex.go ())))
def laws_among.f (k : Nat) (x1 : (List Int)) (x2 : Int) : Option Bool :=
  (((laws_among.l1 x1 x2 k 0) : Option (Ex Bool Unit)).bind fun x4 => Ex.on x4 (fun r => some r) (fun y => laws_among.c1 k))
set_option maxRecDepth 100000 in
set_option maxHeartbeats 4000000 in
theorem laws_among.spec (k : Nat) (s0 : HF) (w : World) (x1 : (List Int)) (x2 : Int) (v1 : Value) (h1 : Sl (Kd.int .i64) s0 v1 x1) (r : Bool) (H : laws_among.f k x1 x2 = some r) :
    Law Try.prog 10 #[v1, (.int .i64 x2)] s0 w [] (fun v s1 A1 => v = (.bool r) ∧ A1 = []) := by
  unfold laws_among.f at H
  refine Law.intro Try.func10 rfl [(0, v1), (1, (.int .i64 x2))] (Nat.le_of_ble_eq_true rfl) (enter_lk ⟨rfl, rfl, trivial⟩) (fun e a hS hF => ?_)
  have hF : Fr 18 a [(0, v1), (1, (.int .i64 x2))] := hF
  refine sq ?_
  refine rg ?_
  refine stp hF (p_assign rfl) (by decide) (fun a hF => ?_)
  refine nilN ?_
  refine xn ?_
  obtain ⟨x4, H, HK1⟩ := hb H
  refine sqj (fun a w => St e s0 w [] ∧ Fr 18 a [] ∧ laws_among.c1 k = some r) ?_ ?_
  · skip
    refine sq ?_
    refine rg ?_
    refine stp hF (p_assign rfl) (by decide) (fun a hF => ?_)
    refine nilN ?_
    refine xn ?_
    refine blk ?_
    refine loop_ind (fun k1 a w => ∃ (x3 : Int) , St e s0 w [] ∧ Fr 18 a [(0, v1), (1, (.int .i64 x2)), (5, (.int .i64 x3))] ∧ laws_among.l1 x1 x2 k1 x3 = some x4) k ?_ ?_ ?_
    · skip
      exact ⟨0, hS, hF.cut ⟨rfl, rfl, rfl, trivial⟩, H⟩
    · clear H hS hF
      rintro a w ⟨x3, hS, hF, H⟩
      exact absurd (show none = some _ from H) (by simp)
    · clear H hS hF
      rintro k1 a w ⟨x3, hS, hF, H⟩
      rw [laws_among.l1.eq_2] at H
      refine sq ?_
      refine sq ?_
      refine rg ?_
      refine stp hF (p_move rfl) (by decide) (fun a hF => ?_)
      refine stp hF (p_move rfl) (by decide) (fun a hF => ?_)
      refine stp hF (p_lenr un_27 rfl h1) (by decide) (fun a hF => ?_)
      refine stp hF (p_lss rfl rfl) (by decide) (fun a hF => ?_)
      refine nilN ?_
      refine xn ?_
      refine cnd hF rfl (fun hc1 => ?_) (fun hc1 => ?_)
      · replace H := hbt hc1 H
        refine skN ?_
        refine xn ?_
        refine sq ?_
        refine blk ?_
        refine sq ?_
        refine rg ?_
        refine stp hF (p_move rfl) (by decide) (fun a hF => ?_)
        refine stp hF (p_move rfl) (by decide) (fun a hF => ?_)
        obtain ⟨hq1, H⟩ := hck H
        obtain ⟨ad1, h2, p1⟩ := p_idxr (P := Try.prog) (i := x3) h1 un_27 ti_3 hq1.1 hq1.2
        refine stp hF (p1 rfl rfl) (by decide) (fun a hF => ?_)
        refine stp hF (p_ldr_int rfl hS h2 ia_3) (by decide) (fun a hF => ?_)
        refine stp hF (p_move rfl) (by decide) (fun a hF => ?_)
        refine stp hF (p_eql rfl rfl) (by decide) (fun a hF => ?_)
        refine nilN ?_
        refine xn ?_
        refine cnd hF rfl (fun hc2 => ?_) (fun hc2 => ?_)
        · replace H := hbt hc2 H
          refine sq ?_
          refine rg ?_
          refine stp hF (p_assign rfl) (by decide) (fun a hF => ?_)
          refine nilN ?_
          refine xn ?_
          refine rt ?_
          refine br (xr (xr (br (xr ?_))))
          obtain rfl := hsm H
          have H := hon1 HK1
          obtain rfl := hsm H
          exact ret1 hF rfl rfl hS ⟨rfl, rfl⟩
        · replace H := hbf hc2 H
          refine skN ?_
          refine bn (xn ?_)
          refine rg ?_
          refine stp hF (p_move rfl) (by decide) (fun a hF => ?_)
          refine stp hF (p_add (c := w64 (x3 + 1)) rfl rfl rfl) (by decide) (fun a hF => ?_)
          refine stp hF (p_assign rfl) (by decide) (fun a hF => ?_)
          refine nilN ?_
          refine xn ?_
          exact ⟨(w64 (x3 + 1)), hS, hF.cut ⟨rfl, rfl, rfl, trivial⟩, H⟩
      · replace H := hbf hc1 H
        refine exi ?_
        refine xe (xe (hit (xn ?_)))
        obtain rfl := hsm H
        exact ⟨hS, hF.cut trivial, HK1⟩
  · clear H HK1 hS hF
    rintro a w ⟨hS, hF, H⟩
    unfold laws_among.c1 at H
    refine sq ?_
    refine rg ?_
    refine stp hF (p_assign rfl) (by decide) (fun a hF => ?_)
    refine nilN ?_
    refine xn ?_
    refine rt ?_
    obtain rfl := hsm H
    exact ret1 hF rfl rfl hS ⟨rfl, rfl⟩

def laws_sameInts.c1 (k : Nat) : Option Bool :=
  (some true)
def laws_sameInts.l1 (x1 : (List Int)) (x2 : (List Int)) : Nat → Int → Option (Ex Bool Unit)
  | 0, _ => none
  | k + 1, x3 => (if (decide (x3 < (x1.length : Int))) = true then (if 0 ≤ x3 ∧ x3 < (x1.length : Int) then (if 0 ≤ x3 ∧ x3 < (x2.length : Int) then (if (decide ((rd x1 x3) ≠ (rd x2 x3))) = true then (some (Ex.ret false)) else ((laws_sameInts.l1 x1 x2 k) (w64 (x3 + 1)))) else none) else none) else (some (Ex.go ())))
def laws_sameInts.f (k : Nat) (x1 : (List Int)) (x2 : (List Int)) : Option Bool :=
  (if (decide ((x1.length : Int) ≠ (x2.length : Int))) = true then (some false) else (((laws_sameInts.l1 x1 x2 k 0) : Option (Ex Bool Unit)).bind fun x4 => Ex.on x4 (fun r => some r) (fun y => laws_sameInts.c1 k)))
set_option maxRecDepth 100000 in
set_option maxHeartbeats 4000000 in
theorem laws_sameInts.spec (k : Nat) (s0 : HF) (w : World) (x1 : (List Int)) (x2 : (List Int)) (v1 : Value) (v2 : Value) (h1 : Sl (Kd.int .i64) s0 v1 x1) (h2 : Sl (Kd.int .i64) s0 v2 x2) (r : Bool) (H : laws_sameInts.f k x1 x2 = some r) :
    Law Try.prog 11 #[v1, v2] s0 w [] (fun v s1 A1 => v = (.bool r) ∧ A1 = []) := by
  unfold laws_sameInts.f at H
  refine Law.intro Try.func11 rfl [(0, v1), (1, v2)] (Nat.le_of_ble_eq_true rfl) (enter_lk ⟨rfl, rfl, trivial⟩) (fun e a hS hF => ?_)
  have hF : Fr 26 a [(0, v1), (1, v2)] := hF
  refine sq ?_
  refine rg ?_
  refine stp hF (p_assign rfl) (by decide) (fun a hF => ?_)
  refine nilN ?_
  refine xn ?_
  refine sq ?_
  refine sq ?_
  refine rg ?_
  refine stp hF (p_move rfl) (by decide) (fun a hF => ?_)
  refine stp hF (p_lenr un_27 rfl h1) (by decide) (fun a hF => ?_)
  refine stp hF (p_move rfl) (by decide) (fun a hF => ?_)
  refine stp hF (p_lenr un_27 rfl h2) (by decide) (fun a hF => ?_)
  refine stp hF (p_neq rfl rfl) (by decide) (fun a hF => ?_)
  refine nilN ?_
  refine xn ?_
  refine cnd hF rfl (fun hc1 => ?_) (fun hc1 => ?_)
  · replace H := hbt hc1 H
    refine sq ?_
    refine rg ?_
    refine stp hF (p_assign rfl) (by decide) (fun a hF => ?_)
    refine nilN ?_
    refine xn ?_
    refine rt ?_
    refine xr ?_
    obtain rfl := hsm H
    exact ret1 hF rfl rfl hS ⟨rfl, rfl⟩
  · replace H := hbf hc1 H
    refine skN ?_
    refine xn ?_
    obtain ⟨x4, H, HK1⟩ := hb H
    refine sqj (fun a w => St e s0 w [] ∧ Fr 26 a [] ∧ laws_sameInts.c1 k = some r) ?_ ?_
    · skip
      refine sq ?_
      refine rg ?_
      refine stp hF (p_assign rfl) (by decide) (fun a hF => ?_)
      refine nilN ?_
      refine xn ?_
      refine blk ?_
      refine loop_ind (fun k1 a w => ∃ (x3 : Int) , St e s0 w [] ∧ Fr 26 a [(0, v1), (1, v2), (5, (.int .i64 x3))] ∧ laws_sameInts.l1 x1 x2 k1 x3 = some x4) k ?_ ?_ ?_
      · skip
        exact ⟨0, hS, hF.cut ⟨rfl, rfl, rfl, trivial⟩, H⟩
      · clear H hS hF
        rintro a w ⟨x3, hS, hF, H⟩
        exact absurd (show none = some _ from H) (by simp)
      · clear H hS hF
        rintro k1 a w ⟨x3, hS, hF, H⟩
        rw [laws_sameInts.l1.eq_2] at H
        refine sq ?_
        refine sq ?_
        refine rg ?_
        refine stp hF (p_move rfl) (by decide) (fun a hF => ?_)
        refine stp hF (p_move rfl) (by decide) (fun a hF => ?_)
        refine stp hF (p_lenr un_27 rfl h1) (by decide) (fun a hF => ?_)
        refine stp hF (p_lss rfl rfl) (by decide) (fun a hF => ?_)
        refine nilN ?_
        refine xn ?_
        refine cnd hF rfl (fun hc2 => ?_) (fun hc2 => ?_)
        · replace H := hbt hc2 H
          refine skN ?_
          refine xn ?_
          refine sq ?_
          refine blk ?_
          refine sq ?_
          replace hS : St e s0 w.drew [] := hS.drewN 1
          refine drw [0, 1, 2, 3, 4, 5, 6, 7, 8] mixed (by kernel_rfl) (by decide) (hF.cut (L' := [(0, v1), (1, v2), (5, (.int .i64 x3)), (11, (.int .i64 x3)), (12, v1), (13, (.int .i64 (x1.length : Int))), (14, (.bool (decide (x3 < (x1.length : Int)))))]) ⟨rfl, rfl, rfl, rfl, rfl, rfl, rfl, trivial⟩) ?_
          clear hF
          generalize w.drew = w at hS ⊢
          refine pk1 rfl (by decide) rfl (by kernel_rfl) rfl (p_move rfl) ?_
          refine pk1 rfl (by decide) rfl (by kernel_rfl) rfl (p_move rfl) ?_
          obtain ⟨hq1, H⟩ := hck H
          obtain ⟨ad1, h3, p1⟩ := p_idxr (P := Try.prog) (i := x3) h1 un_27 ti_3 hq1.1 hq1.2
          refine pk1 rfl (by decide) rfl (by kernel_rfl) rfl (p1 rfl rfl) ?_
          refine pk1 rfl (by decide) rfl (by kernel_rfl) rfl (p_ldr_int rfl hS h3 ia_3) ?_
          refine pk1 rfl (by decide) rfl (by kernel_rfl) rfl (p_move rfl) ?_
          refine pk1 rfl (by decide) rfl (by kernel_rfl) rfl (p_move rfl) ?_
          obtain ⟨hq2, H⟩ := hck H
          obtain ⟨ad2, h4, p2⟩ := p_idxr (P := Try.prog) (i := x3) h2 un_27 ti_3 hq2.1 hq2.2
          refine pk1 rfl (by decide) rfl (by kernel_rfl) rfl (p2 rfl rfl) ?_
          refine pk1 rfl (by decide) rfl (by kernel_rfl) rfl (p_ldr_int rfl hS h4 ia_3) ?_
          refine pk1 rfl (by decide) rfl (by kernel_rfl) rfl (p_neq rfl rfl) ?_
          refine pkF (fun a hF => ?_)
          refine xn ?_
          refine cnd hF rfl (fun hc3 => ?_) (fun hc3 => ?_)
          · replace H := hbt hc3 H
            refine sq ?_
            refine rg ?_
            refine stp hF (p_assign rfl) (by decide) (fun a hF => ?_)
            refine nilN ?_
            refine xn ?_
            refine rt ?_
            refine br (xr (xr (br (xr ?_))))
            obtain rfl := hsm H
            have H := hon1 HK1
            obtain rfl := hsm H
            exact ret1 hF rfl rfl hS ⟨rfl, rfl⟩
          · replace H := hbf hc3 H
            refine skN ?_
            refine bn (xn ?_)
            refine rg ?_
            refine stp hF (p_move rfl) (by decide) (fun a hF => ?_)
            refine stp hF (p_add (c := w64 (x3 + 1)) rfl rfl rfl) (by decide) (fun a hF => ?_)
            refine stp hF (p_assign rfl) (by decide) (fun a hF => ?_)
            refine nilN ?_
            refine xn ?_
            exact ⟨(w64 (x3 + 1)), hS, hF.cut ⟨rfl, rfl, rfl, trivial⟩, H⟩
        · replace H := hbf hc2 H
          refine exi ?_
          refine xe (xe (hit (xn ?_)))
          obtain rfl := hsm H
          exact ⟨hS, hF.cut trivial, HK1⟩
    · clear H HK1 hS hF
      rintro a w ⟨hS, hF, H⟩
      unfold laws_sameInts.c1 at H
      refine sq ?_
      refine rg ?_
      refine stp hF (p_assign rfl) (by decide) (fun a hF => ?_)
      refine nilN ?_
      refine xn ?_
      refine rt ?_
      obtain rfl := hsm H
      exact ret1 hF rfl rfl hS ⟨rfl, rfl⟩

def impl_Dangling.c1 (k : Nat) (x1 : (List (List Int))) : Option (List (List Int)) :=
  (some x1)
def impl_Dangling.c2 (k : Nat) (rec_l1 : (List (List Int)) → Int → Option (List (List Int))) (x2 : Int) (x3 : (List (List Int))) : Option (List (List Int)) :=
  (rec_l1 x3 (w64 (x2 + 1)))
def impl_Dangling.c3 (k : Nat) (rec_l2 : (List (List Int)) → Int → Option (List (List Int))) (x4 : Int) (x5 : (List (List Int))) : Option (List (List Int)) :=
  (rec_l2 x5 (w64 (x4 + 1)))
def impl_Dangling.c4 (k : Nat) (x6 : (List (List Int))) (x2 : Int) (x7 : (List TSlot)) (x4 : Int) (x8 : Bool) : Option (List (List Int)) :=
  (if x8 = true then (if x6.length + 1 ≤ 8796093022208 then (some (x6 ++ ([[x2, rd (((rd x7 x2).O).Refs) x4]] : List (List Int)))) else none) else (some x6))
def impl_Dangling.l2 (x7 : (List TSlot)) (x2 : Int) : Nat → (List (List Int)) → Int → Option (List (List Int))
  | 0, _, _ => none
  | k + 1, x6, x4 => (if (decide (x4 < ((((rd x7 x2).O).Refs).length : Int))) = true then (((if 0 ≤ x4 ∧ x4 < ((((rd x7 x2).O).Refs).length : Int) then ((if (decide (0 < (rd (((rd x7 x2).O).Refs) x4))) = true then (if 0 ≤ (rd (((rd x7 x2).O).Refs) x4) ∧ (rd (((rd x7 x2).O).Refs) x4) < (x7.length : Int) then (some (!((rd x7 (rd (((rd x7 x2).O).Refs) x4)).Has))) else none) else (some false) : Option Bool).bind fun x9 => impl_Dangling.c4 k x6 x2 x7 x4 x9) else none) : Option (List (List Int))).bind fun x10 => impl_Dangling.c3 k (impl_Dangling.l2 x7 x2 k) x4 x10) else (some x6))
def impl_Dangling.l1 (x7 : (List TSlot)) : Nat → (List (List Int)) → Int → Option (List (List Int))
  | 0, _, _ => none
  | k + 1, x11, x2 => (if (decide (x2 < (x7.length : Int))) = true then (((if 0 ≤ x2 ∧ x2 < (x7.length : Int) then (impl_Dangling.l2 x7 x2 k x11 0) else none) : Option (List (List Int))).bind fun x12 => impl_Dangling.c2 k (impl_Dangling.l1 x7 k) x2 x12) else (some x11))
def impl_Dangling.f (k : Nat) (x7 : (List TSlot)) : Option (List (List Int)) :=
  ((impl_ViewOk.f k x7).bind fun x13 => (if (!x13) = true then (some ([] : List (List Int))) else (((impl_Dangling.l1 x7 k ([] : List (List Int)) 0) : Option (List (List Int))).bind fun x14 => impl_Dangling.c1 k x14)))
set_option maxRecDepth 100000 in
set_option maxHeartbeats 4000000 in
theorem impl_Dangling.spec (k : Nat) (s0 : HF) (w : World) (x7 : (List TSlot)) (v1 : Value) (h1 : Sl kTSlot s0 v1 x7) (r : (List (List Int))) (H : impl_Dangling.f k x7 = some r) :
    Law Try.prog 12 #[v1] s0 w [] (fun v s1 A1 => ∃ (u0 : Value), v = u0 ∧ A1 = [Ow (Kd.arr 2 (Kd.int .i64)) 47 u0 r]) := by
  unfold impl_Dangling.f at H
  refine Law.intro Try.func12 rfl [(0, v1)] (Nat.le_of_ble_eq_true rfl) (enter_lk ⟨rfl, trivial⟩) (fun e a hS hF => ?_)
  have hF : Fr 46 a [(0, v1)] := hF
  refine sq ?_
  refine rg ?_
  refine stp hF (p_assign rfl) (by decide) (fun a hF => ?_)
  refine nilN ?_
  refine xn ?_
  refine sq ?_
  refine sq ?_
  refine rg ?_
  refine stp hF (p_move rfl) (by decide) (fun a hF => ?_)
  obtain ⟨x13, hx1, H⟩ := hb H
  refine ste hF (e_call (fst := []) (vs := [v1]) (cap := []) rfl rfl go_14 (St.call (A := []) (B := []) hS (impl_ViewOk.spec k _ _ x7 v1 h1 _ hx1))) (by decide) (fun v w a hR hF => ?_)
  obtain ⟨s2, A2, hg1, hS, hR⟩ := hR
  obtain ⟨hv1, rfl⟩ := hR; obtain rfl := hv1.symm
  have hS : St e s2 w [] := hS
  refine stp hF (p_not rfl) (by decide) (fun a hF => ?_)
  refine nilN ?_
  refine xn ?_
  refine cnd hF rfl (fun hc1 => ?_) (fun hc1 => ?_)
  · replace H := hbt hc1 H
    refine sq ?_
    refine rg ?_
    refine stp hF (p_assign rfl) (by decide) (fun a hF => ?_)
    refine nilN ?_
    refine xn ?_
    refine rt ?_
    refine xr ?_
    obtain rfl := hsm H
    replace hS := hS.ownNil (Kd.arr 2 (Kd.int .i64)) 47 none
    exact ret1 hF rfl rfl hS ⟨(.slice none 0 0), rfl, rfl⟩
  · replace H := hbf hc1 H
    refine skN ?_
    refine xn ?_
    refine sq ?_
    refine rg ?_
    refine ste hF (e_bslice (kd := (Kd.arr 2 (Kd.int .i64))) (et := 47) (ps := []) (vs := []) (cs := []) (xs := ([] : List (List Int))) hS rfl (by intro w; kernel_rfl) rfl (by decide) (Nat.le_of_ble_eq_true rfl) (by exact (Rows.nil _ _ _ _))) (by decide) (fun v2 w a hR hF => ?_)
    have hS : St e s2 w [Ow (Kd.arr 2 (Kd.int .i64)) 47 v2 ([] : List (List Int))] := hR
    refine stp hF (p_assign rfl) (by decide) (fun a hF => ?_)
    refine nilN ?_
    refine xn ?_
    obtain ⟨x14, H, HK1⟩ := hb H
    refine sqj (fun a w => ∃ (x1 : (List (List Int))) (v3 : Value) , St e s2 w [Ow (Kd.arr 2 (Kd.int .i64)) 47 v3 x1] ∧ Fr 46 a [(3, v3)] ∧ impl_Dangling.c1 k x1 = some r) ?_ ?_
    · skip
      refine sq ?_
      refine rg ?_
      refine stp hF (p_move rfl) (by decide) (fun a hF => ?_)
      refine stp hF (p_lenr un_24 rfl (h1.mono hg1)) (by decide) (fun a hF => ?_)
      refine stp hF (p_move rfl) (by decide) (fun a hF => ?_)
      refine nilN ?_
      refine xn ?_
      refine blk ?_
      refine loop_ind (fun k1 a w => ∃ (x11 : (List (List Int))) (x2 : Int) (v4 : Value) , St e s2 w [Ow (Kd.arr 2 (Kd.int .i64)) 47 v4 x11] ∧ Fr 46 a [(0, v1), (3, v4), (12, v1), (13, (.int .i64 (x7.length : Int))), (14, (.int .i64 x2))] ∧ impl_Dangling.l1 x7 k1 x11 x2 = some x14) k ?_ ?_ ?_
      · skip
        exact ⟨([] : List (List Int)), 0, v2, hS, hF.cut ⟨rfl, rfl, rfl, rfl, rfl, trivial⟩, H⟩
      · clear H hS hF
        rintro a w ⟨x11, x2, v4, hS, hF, H⟩
        exact absurd (show none = some _ from H) (by simp)
      · clear H hS hF
        rintro k1 a w ⟨x11, x2, v4, hS, hF, H⟩
        rw [impl_Dangling.l1.eq_2] at H
        refine sq ?_
        refine rg ?_
        refine stp hF (p_lss rfl rfl) (by decide) (fun a hF => ?_)
        refine nilN ?_
        refine xn ?_
        refine sq ?_
        refine cnd hF rfl (fun hc2 => ?_) (fun hc2 => ?_)
        · replace H := hbt hc2 H
          refine skN ?_
          refine xn ?_
          obtain ⟨x12, H, HK2⟩ := hb H
          refine sqj (fun a w => ∃ (x3 : (List (List Int))) (v5 : Value) , St e s2 w [Ow (Kd.arr 2 (Kd.int .i64)) 47 v5 x3] ∧ Fr 46 a [(0, v1), (3, v5), (12, v1), (13, (.int .i64 (x7.length : Int))), (14, (.int .i64 x2))] ∧ impl_Dangling.c2 k1 (impl_Dangling.l1 x7 k1) x2 x3 = some x14) ?_ ?_
          · skip
            refine blk ?_
            refine sq ?_
            refine rg ?_
            refine stp hF (p_move rfl) (by decide) (fun a hF => ?_)
            obtain ⟨hq1, H⟩ := hck H
            obtain ⟨ad1, h2, p1⟩ := p_idxr (P := Try.prog) (i := x2) (h1.mono hg1) un_24 ti_32 hq1.1 hq1.2
            refine stp hF (p1 rfl rfl) (by decide) (fun a hF => ?_)
            obtain ⟨c5, h3, p2⟩ := p_ldr_agg (P := Try.prog) h2 ia_32 ti_32
            obtain ⟨v6, v7, rfl, h4, h5⟩ := kTSlot_open h3
            refine stp hF (p2 rfl hS.ro) (by decide) (fun a hF => ?_)
            refine ste hF (e_alloc (cs := [(.bool false), (.int .i64 0), (.slice none 0 0), (.slice none 0 0)]) hS ti_32 rfl) (by decide) (fun v w a hR hF => ?_)
            obtain ⟨g1, rfl, hS⟩ := hR
            refine stp hF (p_assign rfl) (by decide) (fun a hF => ?_)
            refine ste0 hF (e_stb (i := 0) (l := []) (m := [(.bool false), (.int .i64 0), (.slice none 0 0), (.slice none 0 0)]) (r := []) (m' := [(.bool ((rd x7 x2).Has)), (.int .i64 (((rd x7 x2).O).Kind)), v6, v7]) (cs' := [(.bool ((rd x7 x2).Has)), (.int .i64 (((rd x7 x2).O).Kind)), v6, v7]) hS rfl rfl rfl ti_32 rfl rfl rfl rfl rfl (one_cons rfl (one_cons rfl (one_cons (one_sl h4) (one_cons (one_sl h5) one_nil)))) rfl) (fun v w a hR hF => ?_)
            have hS : St e s2 w [pt g1 32 ([(.bool ((rd x7 x2).Has)), (.int .i64 (((rd x7 x2).O).Kind)), v6, v7]), Ow (Kd.arr 2 (Kd.int .i64)) 47 v4 x11] := hR
            refine nilN ?_
            refine xn ?_
            refine sq ?_
            refine rg ?_
            refine stp hF (p_fldb (o' := 1) rfl fi_32_1 rfl) (by decide) (fun a hF => ?_)
            refine stp hF (p_fldb (o' := 3) rfl fi_30_2 rfl) (by decide) (fun a hF => ?_)
            refine stp hF (p_ldb_one (i := 0) hS rfl rfl ia_27 rfl) (by decide) (fun a hF => ?_)
            refine stp hF (p_lenr un_27 rfl h5) (by decide) (fun a hF => ?_)
            refine stp hF (p_move rfl) (by decide) (fun a hF => ?_)
            refine nilN ?_
            refine xn ?_
            refine blk ?_
            refine loop_ind (fun k2 a w => ∃ (x6 : (List (List Int))) (x4 : Int) (v8 : Value) , St e s2 w [pt g1 32 ([(.bool ((rd x7 x2).Has)), (.int .i64 (((rd x7 x2).O).Kind)), v6, v7]), Ow (Kd.arr 2 (Kd.int .i64)) 47 v8 x6] ∧ Fr 46 a [(0, v1), (3, v8), (4, (.int .i64 x2)), (12, v1), (13, (.int .i64 (x7.length : Int))), (14, (.int .i64 x2)), (21, v7), (22, (.int .i64 ((((rd x7 x2).O).Refs).length : Int))), (23, (.int .i64 x4))] ∧ impl_Dangling.l2 x7 x2 k2 x6 x4 = some x12) k1 ?_ ?_ ?_
            · skip
              exact ⟨x11, 0, v4, hS, hF.cut ⟨rfl, rfl, rfl, rfl, rfl, rfl, rfl, rfl, rfl, trivial⟩, H⟩
            · clear H hS hF
              rintro a w ⟨x6, x4, v8, hS, hF, H⟩
              exact absurd (show none = some _ from H) (by simp)
            · clear H hS hF
              rintro k2 a w ⟨x6, x4, v8, hS, hF, H⟩
              rw [impl_Dangling.l2.eq_2] at H
              refine sq ?_
              refine rg ?_
              refine stp hF (p_lss rfl rfl) (by decide) (fun a hF => ?_)
              refine nilN ?_
              refine xn ?_
              refine sq ?_
              refine cnd hF rfl (fun hc3 => ?_) (fun hc3 => ?_)
              · replace H := hbt hc3 H
                refine skN ?_
                refine xn ?_
                obtain ⟨x10, H, HK3⟩ := hb H
                refine sqj (fun a w => ∃ (x5 : (List (List Int))) (v9 : Value) , St e s2 w [pt g1 32 ([(.bool ((rd x7 x2).Has)), (.int .i64 (((rd x7 x2).O).Kind)), v6, v7]), Ow (Kd.arr 2 (Kd.int .i64)) 47 v9 x5] ∧ Fr 46 a [(0, v1), (3, v9), (4, (.int .i64 x2)), (12, v1), (13, (.int .i64 (x7.length : Int))), (14, (.int .i64 x2)), (21, v7), (22, (.int .i64 ((((rd x7 x2).O).Refs).length : Int))), (23, (.int .i64 x4))] ∧ impl_Dangling.c3 k2 (impl_Dangling.l2 x7 x2 k2) x4 x5 = some x12) ?_ ?_
                · skip
                  refine blk ?_
                  refine sq ?_
                  refine rg ?_
                  obtain ⟨hq2, H⟩ := hck H
                  obtain ⟨ad2, h6, p3⟩ := p_idxr (P := Try.prog) (i := x4) h5 un_27 ti_3 hq2.1 hq2.2
                  refine stp hF (p3 rfl rfl) (by decide) (fun a hF => ?_)
                  refine stp hF (p_ldr_int rfl hS h6 ia_3) (by decide) (fun a hF => ?_)
                  refine stp hF (p_assign rfl) (by decide) (fun a hF => ?_)
                  refine nilN ?_
                  refine xn ?_
                  refine sq ?_
                  refine rg ?_
                  refine stp hF (p_move rfl) (by decide) (fun a hF => ?_)
                  refine stp hF (p_gtr rfl rfl) (by decide) (fun a hF => ?_)
                  refine stp hF (p_move rfl) (by decide) (fun a hF => ?_)
                  obtain ⟨x9, H, HK4⟩ := hb H
                  refine cutj 7 (fun a w => ∃ (x8 : Bool) , St e s2 w [pt g1 32 ([(.bool ((rd x7 x2).Has)), (.int .i64 (((rd x7 x2).O).Kind)), v6, v7]), Ow (Kd.arr 2 (Kd.int .i64)) 47 v8 x6] ∧ Fr 46 a [(0, v1), (3, v8), (4, (.int .i64 x2)), (7, (.int .i64 (rd (((rd x7 x2).O).Refs) x4))), (12, v1), (13, (.int .i64 (x7.length : Int))), (14, (.int .i64 x2)), (21, v7), (22, (.int .i64 ((((rd x7 x2).O).Refs).length : Int))), (23, (.int .i64 x4)), (36, (.bool x8))] ∧ impl_Dangling.c4 k2 x6 x2 x7 x4 x8 = some x10) rfl rfl ?_ ?_
                  · rcases Bool.eq_false_or_eq_true (decide (0 < (rd (((rd x7 x2).O).Refs) x4))) with hc4 | hc4
                    · replace H := hbt hc4 H
                      refine gonE (j := 2) hF rfl rfl hc4 ?_
                      refine stp hF (p_move rfl) (by decide) (fun a hF => ?_)
                      refine gonE (j := 2) hF rfl rfl hc4 ?_
                      refine stp hF (p_move rfl) (by decide) (fun a hF => ?_)
                      obtain ⟨hq3, H⟩ := hck H
                      obtain ⟨ad3, h7, p4⟩ := p_idxr (P := Try.prog) (i := (rd (((rd x7 x2).O).Refs) x4)) (h1.mono hg1) un_24 ti_32 hq3.1 hq3.2
                      refine gonE (j := 2) hF rfl rfl hc4 ?_
                      refine stp hF (p4 rfl rfl) (by decide) (fun a hF => ?_)
                      have h8 : Pr Kd.bool s2 (ad3.add 0) ((rd x7 (rd (((rd x7 x2).O).Refs) x4)).Has) := h7.lens kTSlot_Has
                      refine gonE (j := 2) hF rfl rfl hc4 ?_
                      refine stp hF (p_fld rfl fi_32_0) (by decide) (fun a hF => ?_)
                      refine gonE (j := 2) hF rfl rfl hc4 ?_
                      refine stp hF (p_ldr_bool rfl hS h8 ia_4) (by decide) (fun a hF => ?_)
                      refine gonE (j := 2) hF rfl rfl hc4 ?_
                      refine stp hF (p_not rfl) (by decide) (fun a hF => ?_)
                      refine stp hF (p_pickT rfl hc4 rfl) (by decide) (fun a hF => ?_)
                      refine nilN ?_
                      refine xn ?_
                      obtain rfl := hsm H
                      exact ⟨(!((rd x7 (rd (((rd x7 x2).O).Refs) x4)).Has)), hS, hF.cut ⟨rfl, rfl, rfl, rfl, rfl, rfl, rfl, rfl, rfl, rfl, rfl, trivial⟩, HK4⟩
                    · replace H := hbf hc4 H
                      refine gofD (j := 2) hF rfl rfl (by rw [hc4]; decide) (by decide) (fun a hF => ?_)
                      refine gofD (j := 2) hF rfl rfl (by rw [hc4]; decide) (by decide) (fun a hF => ?_)
                      refine gofD (j := 2) hF rfl rfl (by rw [hc4]; decide) (by decide) (fun a hF => ?_)
                      refine gofD (j := 2) hF rfl rfl (by rw [hc4]; decide) (by decide) (fun a hF => ?_)
                      refine gofD (j := 2) hF rfl rfl (by rw [hc4]; decide) (by decide) (fun a hF => ?_)
                      refine gofD (j := 2) hF rfl rfl (by rw [hc4]; decide) (by decide) (fun a hF => ?_)
                      refine stp hF (p_pickF rfl hc4 rfl) (by decide) (fun a hF => ?_)
                      refine nilN ?_
                      refine xn ?_
                      obtain rfl := hsm H
                      exact ⟨false, hS, hF.cut ⟨rfl, rfl, rfl, rfl, rfl, rfl, rfl, rfl, rfl, rfl, rfl, trivial⟩, HK4⟩
                  · clear H HK4 hS hF
                    rintro a w ⟨x8, hS, hF, H⟩
                    unfold impl_Dangling.c4 at H
                    refine nilN ?_
                    refine xn ?_
                    refine cnd hF rfl (fun hc5 => ?_) (fun hc5 => ?_)
                    · replace H := hbt hc5 H
                      refine rg ?_
                      refine stp hF (p_move rfl) (by decide) (fun a hF => ?_)
                      refine stp hF (p_move rfl) (by decide) (fun a hF => ?_)
                      refine stp hF (p_move rfl) (by decide) (fun a hF => ?_)
                      refine stp hF (p_build (ps := [(0, (.tmp 38)), (1, (.tmp 39))]) (vs := [(0, (.int .i64 x2)), (1, (.int .i64 (rd (((rd x7 x2).O).Refs) x4)))]) (v := (.agg #[(.int .i64 x2), (.int .i64 (rd (((rd x7 x2).O).Refs) x4))])) rfl (by intro w; kernel_rfl)) (by decide) (fun a hF => ?_)
                      refine ste hF (e_bslice (kd := (Kd.arr 2 (Kd.int .i64))) (et := 47) (ps := [(0, (.tmp 40))]) (vs := [(0, (.agg #[(.int .i64 x2), (.int .i64 (rd (((rd x7 x2).O).Refs) x4))]))]) (cs := [(.int .i64 x2), (.int .i64 (rd (((rd x7 x2).O).Refs) x4))]) (xs := ([[x2, rd (((rd x7 x2).O).Refs) x4]] : List (List Int))) hS rfl (by intro w; kernel_rfl) rfl (by decide) (Nat.le_of_ble_eq_true rfl) (by exact (rows_cons (kd := (Kd.arr 2 (Kd.int .i64))) (x := [x2, rd (((rd x7 x2).O).Refs) x4]) (c := [(.int .i64 x2), (.int .i64 (rd (((rd x7 x2).O).Refs) x4))]) (cs := []) (by exact (arr_cons (x := x2) (c := [(.int .i64 x2)]) (cs := [(.int .i64 (rd (((rd x7 x2).O).Refs) x4))]) rfl (arr_cons (x := rd (((rd x7 x2).O).Refs) x4) (c := [(.int .i64 (rd (((rd x7 x2).O).Refs) x4))]) (cs := []) rfl arr_nil))) (Rows.nil _ _ _ _)))) (by decide) (fun v10 w a hR hF => ?_)
                      have hS : St e s2 w [Ow (Kd.arr 2 (Kd.int .i64)) 47 v10 ([[x2, rd (((rd x7 x2).O).Refs) x4]] : List (List Int)), pt g1 32 ([(.bool ((rd x7 x2).Has)), (.int .i64 (((rd x7 x2).O).Kind)), v6, v7]), Ow (Kd.arr 2 (Kd.int .i64)) 47 v8 x6] := hR
                      obtain ⟨hq4, H⟩ := hck H
                      refine ste hF (e_append (n := 2) hS rfl rfl rfl (hS.src (n := 0) rfl) un_35 ti_47 rfl (by decide) (by decide) (Nat.le_trans (Nat.mul_le_mul_right 16 hq4) (by decide))) (by decide) (fun v11 w a hR hF => ?_)
                      have hS : St e s2 w [Ow (Kd.arr 2 (Kd.int .i64)) 47 v11 (x6 ++ ([[x2, rd (((rd x7 x2).O).Refs) x4]] : List (List Int))), Ow (Kd.arr 2 (Kd.int .i64)) 47 v10 ([[x2, rd (((rd x7 x2).O).Refs) x4]] : List (List Int)), pt g1 32 ([(.bool ((rd x7 x2).Has)), (.int .i64 (((rd x7 x2).O).Kind)), v6, v7])] := hR
                      replace hS := hS.sel (is := [0, 1]) (A' := [Ow (Kd.arr 2 (Kd.int .i64)) 47 v11 (x6 ++ ([[x2, rd (((rd x7 x2).O).Refs) x4]] : List (List Int))), pt g1 32 ([(.bool ((rd x7 x2).Has)), (.int .i64 (((rd x7 x2).O).Kind)), v6, v7])]) rfl
                      refine stp hF (p_assign rfl) (by decide) (fun a hF => ?_)
                      refine nilN ?_
                      refine bn (xn ?_)
                      obtain rfl := hsm H
                      replace hS := hS.sel (is := [1, 0]) (A' := [pt g1 32 ([(.bool ((rd x7 x2).Has)), (.int .i64 (((rd x7 x2).O).Kind)), v6, v7]), Ow (Kd.arr 2 (Kd.int .i64)) 47 v11 (x6 ++ ([[x2, rd (((rd x7 x2).O).Refs) x4]] : List (List Int)))]) rfl
                      exact ⟨(x6 ++ ([[x2, rd (((rd x7 x2).O).Refs) x4]] : List (List Int))), v11, hS, hF.cut ⟨rfl, rfl, rfl, rfl, rfl, rfl, rfl, rfl, rfl, trivial⟩, HK3⟩
                    · replace H := hbf hc5 H
                      refine skN ?_
                      refine bn (xn ?_)
                      obtain rfl := hsm H
                      exact ⟨x6, v8, hS, hF.cut ⟨rfl, rfl, rfl, rfl, rfl, rfl, rfl, rfl, rfl, trivial⟩, HK3⟩
                · clear H HK3 hS hF
                  rintro a w ⟨x5, v9, hS, hF, H⟩
                  unfold impl_Dangling.c3 at H
                  refine rg ?_
                  refine stp hF (p_add (c := w64 (x4 + 1)) rfl rfl rfl) (by decide) (fun a hF => ?_)
                  refine stp hF (p_move rfl) (by decide) (fun a hF => ?_)
                  refine nilN ?_
                  refine xn ?_
                  exact ⟨x5, (w64 (x4 + 1)), v9, hS, hF.cut ⟨rfl, rfl, rfl, rfl, rfl, rfl, rfl, rfl, rfl, trivial⟩, H⟩
              · replace H := hbf hc3 H
                refine exi ?_
                refine xe (xe (hit (bn (xn ?_))))
                obtain rfl := hsm H
                replace hS := hS.sel (is := [1]) (A' := [Ow (Kd.arr 2 (Kd.int .i64)) 47 v8 x6]) rfl
                exact ⟨x6, v8, hS, hF.cut ⟨rfl, rfl, rfl, rfl, rfl, trivial⟩, HK2⟩
          · clear H HK2 hS hF
            rintro a w ⟨x3, v5, hS, hF, H⟩
            unfold impl_Dangling.c2 at H
            refine rg ?_
            refine stp hF (p_add (c := w64 (x2 + 1)) rfl rfl rfl) (by decide) (fun a hF => ?_)
            refine stp hF (p_move rfl) (by decide) (fun a hF => ?_)
            refine nilN ?_
            refine xn ?_
            exact ⟨x3, (w64 (x2 + 1)), v5, hS, hF.cut ⟨rfl, rfl, rfl, rfl, rfl, trivial⟩, H⟩
        · replace H := hbf hc2 H
          refine exi ?_
          refine xe (xe (hit (xn ?_)))
          obtain rfl := hsm H
          exact ⟨x11, v4, hS, hF.cut ⟨rfl, trivial⟩, HK1⟩
    · clear H HK1 hS hF
      rintro a w ⟨x1, v3, hS, hF, H⟩
      unfold impl_Dangling.c1 at H
      refine sq ?_
      refine rg ?_
      refine stp hF (p_move rfl) (by decide) (fun a hF => ?_)
      refine stp hF (p_assign rfl) (by decide) (fun a hF => ?_)
      refine nilN ?_
      refine xn ?_
      refine rt ?_
      obtain rfl := hsm H
      exact ret1 hF rfl rfl hS ⟨v3, rfl, rfl⟩
end Go.Proofs.Ytplgbgcfgnobdaa
