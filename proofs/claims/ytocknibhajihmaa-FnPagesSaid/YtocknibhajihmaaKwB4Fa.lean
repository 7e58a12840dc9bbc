/- Functions of this place as plain functions, and that the machine comes to what they say. Conditions: none. -/
import Derived.Test.YtocknibhajihmaaKwB4T
set_option linter.unusedVariables false
set_option linter.unusedSimpArgs false
namespace Go.Proofs.Ytocknibhajihmaa
open Go.Kw

def laws_big.f (k : Nat) (x1 : (List Int)) : Option Bool :=
  (some (decide (1048576 < (x1.length : Int))))
set_option maxRecDepth 100000 in
set_option maxHeartbeats 4000000 in
theorem laws_big.spec (k : Nat) (s0 : HF) (w : World) (x1 : (List Int)) (v1 : Value) (h1 : Sl (Kd.int .u8) s0 v1 x1) (r : Bool) (H : laws_big.f k x1 = some r) :
    Law Try.prog 20 #[v1] s0 w [] (fun v s1 A1 => v = (.bool r) ∧ A1 = []) := by
  unfold laws_big.f at H
  refine Law.intro Try.func20 rfl [(0, v1)] (Nat.le_of_ble_eq_true rfl) (enter_lk ⟨rfl, trivial⟩) (fun e a hS hF => ?_)
  have hF : Fr 6 a [(0, v1)] := hF
  refine sq ?_
  refine rg ?_
  refine stp hF (p_assign rfl) (by decide) (fun a hF => ?_)
  refine nilN ?_
  refine xn ?_
  refine sq ?_
  refine rg ?_
  refine stp hF (p_move rfl) (by decide) (fun a hF => ?_)
  refine stp hF (p_lenr un_24 rfl h1) (by decide) (fun a hF => ?_)
  refine stp hF (p_gtr rfl rfl) (by decide) (fun a hF => ?_)
  refine stp hF (p_assign rfl) (by decide) (fun a hF => ?_)
  refine nilN ?_
  refine xn ?_
  refine rt ?_
  obtain rfl := hsm H
  exact ret1 hF rfl rfl hS ⟨rfl, rfl⟩

def spec_l1New.c1 (k : Nat) (x1 : (List Int)) (x2 : Int) : Option Tl1Cur :=
  (some (⟨x1, 0, x2⟩ : Tl1Cur))
def spec_l1New.l1 (x1 : (List Int)) : Nat → Int → Int → Option Int
  | 0, _, _ => none
  | k + 1, x3, x4 => (if ((decide (x4 < (x1.length : Int))) && (decide (x4 < 4000))) = true then (if 0 ≤ x4 ∧ x4 < (x1.length : Int) then ((spec_l1New.l1 x1 k) (band .i64 (w64 ((w64 ((w64 (x3 * 137)) + (w64 (rd x1 x4)))) + 11)) 1073741823) (w64 (x4 + 1))) else none) else (some x3))
def spec_l1New.f (k : Nat) (x1 : (List Int)) : Option Tl1Cur :=
  (((spec_l1New.l1 x1 k (w64 (278278 + (x1.length : Int))) 0) : Option Int).bind fun x5 => spec_l1New.c1 k x1 x5)
set_option maxRecDepth 100000 in
set_option maxHeartbeats 4000000 in
theorem spec_l1New.spec (k : Nat) (s0 : HF) (w : World) (x1 : (List Int)) (v1 : Value) (h1 : Sl (Kd.int .u8) s0 v1 x1) (r : Tl1Cur) (H : spec_l1New.f k x1 = some r) :
    Law Try.prog 73 #[v1] s0 w [] (fun v s1 A1 => ∃ (u0 : Nat) (u1 : Value), v = (.pointer (some ⟨u0, 0, none⟩)) ∧ A1 = [pt u0 139 ([u1, (.int .i64 r.i), (.int .i64 r.h_)])] ∧ Sl (Kd.int .u8) s1 u1 r.b) := by
  unfold spec_l1New.f at H
  refine Law.intro Try.func73 rfl [(0, v1)] (Nat.le_of_ble_eq_true rfl) (enter_lk ⟨rfl, trivial⟩) (fun e a hS hF => ?_)
  have hF : Fr 32 a [(0, v1)] := hF
  refine sq ?_
  refine rg ?_
  refine stp hF (p_assign rfl) (by decide) (fun a hF => ?_)
  refine nilN ?_
  refine xn ?_
  refine sq ?_
  refine rg ?_
  refine stp hF (p_move rfl) (by decide) (fun a hF => ?_)
  refine stp hF (p_lenr un_24 rfl h1) (by decide) (fun a hF => ?_)
  refine stp hF (p_add (c := w64 (278278 + (x1.length : Int))) rfl rfl rfl) (by decide) (fun a hF => ?_)
  refine stp hF (p_assign rfl) (by decide) (fun a hF => ?_)
  refine nilN ?_
  refine xn ?_
  obtain ⟨x5, H, HK1⟩ := hb H
  refine sqj (fun a w => ∃ (x2 : Int) , St e s0 w [] ∧ Fr 32 a [(0, v1), (3, (.int .i64 x2))] ∧ spec_l1New.c1 k x1 x2 = some r) ?_ ?_
  · skip
    refine sq ?_
    refine rg ?_
    refine stp hF (p_assign rfl) (by decide) (fun a hF => ?_)
    refine nilN ?_
    refine xn ?_
    refine blk ?_
    refine loop_ind (fun k1 a w => ∃ (x3 : Int) (x4 : Int) , St e s0 w [] ∧ Fr 32 a [(0, v1), (3, (.int .i64 x3)), (4, (.int .i64 x4))] ∧ spec_l1New.l1 x1 k1 x3 x4 = some x5) k ?_ ?_ ?_
    · skip
      exact ⟨(w64 (278278 + (x1.length : Int))), 0, hS, hF.cut ⟨rfl, rfl, rfl, trivial⟩, H⟩
    · clear H hS hF
      rintro a w ⟨x3, x4, hS, hF, H⟩
      exact absurd (show none = some _ from H) (by simp)
    · clear H hS hF
      rintro k1 a w ⟨x3, x4, hS, hF, H⟩
      rw [spec_l1New.l1.eq_2] at H
      refine sq ?_
      refine sq ?_
      refine rg ?_
      refine stp hF (p_move rfl) (by decide) (fun a hF => ?_)
      refine stp hF (p_move rfl) (by decide) (fun a hF => ?_)
      refine stp hF (p_lenr un_24 rfl h1) (by decide) (fun a hF => ?_)
      refine stp hF (p_lss rfl rfl) (by decide) (fun a hF => ?_)
      refine stp hF (p_move rfl) (by decide) (fun a hF => ?_)
      refine cutj 3 (fun a w => St e s0 w [] ∧ Fr 32 a [(0, v1), (3, (.int .i64 x3)), (4, (.int .i64 x4)), (15, (.bool ((decide (x4 < (x1.length : Int))) && (decide (x4 < 4000)))))]) rfl rfl ?_ ?_
      · rcases Bool.eq_false_or_eq_true (decide (x4 < (x1.length : Int))) with hc1 | hc1
        · skip
          refine gonE (j := 4) hF rfl rfl hc1 ?_
          refine stp hF (p_move rfl) (by decide) (fun a hF => ?_)
          refine gonE (j := 4) hF rfl rfl hc1 ?_
          refine stp hF (p_lss rfl rfl) (by decide) (fun a hF => ?_)
          refine stp hF (p_andT rfl hc1 rfl) (by decide) (fun a hF => ?_)
          refine nilN ?_
          refine xn ?_
          exact ⟨hS, hF.cut ⟨rfl, rfl, rfl, rfl, trivial⟩⟩
        · skip
          refine gofD (j := 4) hF rfl rfl (by rw [hc1]; decide) (by decide) (fun a hF => ?_)
          refine gofD (j := 4) hF rfl rfl (by rw [hc1]; decide) (by decide) (fun a hF => ?_)
          refine stp hF (p_andF (decide (x4 < 4000)) rfl hc1 rfl) (by decide) (fun a hF => ?_)
          refine nilN ?_
          refine xn ?_
          exact ⟨hS, hF.cut ⟨rfl, rfl, rfl, rfl, trivial⟩⟩
      clear hS hF
      rintro a w ⟨hS, hF⟩
      refine nilN ?_
      refine xn ?_
      refine cnd hF rfl (fun hc2 => ?_) (fun hc2 => ?_)
      · replace H := hbt hc2 H
        refine skN ?_
        refine xn ?_
        refine sq ?_
        refine blk ?_
        refine rg ?_
        refine stp hF (p_move rfl) (by decide) (fun a hF => ?_)
        refine stp hF (p_mul (c := w64 (x3 * 137)) rfl rfl rfl) (by decide) (fun a hF => ?_)
        refine stp hF (p_move rfl) (by decide) (fun a hF => ?_)
        refine stp hF (p_move rfl) (by decide) (fun a hF => ?_)
        obtain ⟨hq1, H⟩ := hck H
        obtain ⟨ad1, h2, p1⟩ := p_idxr (P := Try.prog) (i := x4) h1 un_24 ti_5 hq1.1 hq1.2
        refine stp hF (p1 rfl rfl) (by decide) (fun a hF => ?_)
        refine stp hF (p_ldr_int rfl hS h2 ia_5) (by decide) (fun a hF => ?_)
        refine stp hF (p_cvint (c := w64 (rd x1 x4)) un_5 un_3 rfl rfl) (by decide) (fun a hF => ?_)
        refine stp hF (p_add (c := w64 ((w64 (x3 * 137)) + (w64 (rd x1 x4)))) rfl rfl rfl) (by decide) (fun a hF => ?_)
        refine stp hF (p_add (c := w64 ((w64 ((w64 (x3 * 137)) + (w64 (rd x1 x4)))) + 11)) rfl rfl rfl) (by decide) (fun a hF => ?_)
        refine stp hF (p_and (c := band .i64 (w64 ((w64 ((w64 (x3 * 137)) + (w64 (rd x1 x4)))) + 11)) 1073741823) rfl rfl rfl) (by decide) (fun a hF => ?_)
        refine stp hF (p_assign rfl) (by decide) (fun a hF => ?_)
        refine nilN ?_
        refine bn (xn ?_)
        refine rg ?_
        refine stp hF (p_move rfl) (by decide) (fun a hF => ?_)
        refine stp hF (p_add (c := w64 (x4 + 1)) rfl rfl rfl) (by decide) (fun a hF => ?_)
        refine stp hF (p_assign rfl) (by decide) (fun a hF => ?_)
        refine nilN ?_
        refine xn ?_
        exact ⟨(band .i64 (w64 ((w64 ((w64 (x3 * 137)) + (w64 (rd x1 x4)))) + 11)) 1073741823), (w64 (x4 + 1)), hS, hF.cut ⟨rfl, rfl, rfl, trivial⟩, H⟩
      · replace H := hbf hc2 H
        refine exi ?_
        refine xe (xe (hit (xn ?_)))
        obtain rfl := hsm H
        exact ⟨x3, hS, hF.cut ⟨rfl, rfl, trivial⟩, HK1⟩
  · clear H HK1 hS hF
    rintro a w ⟨x2, hS, hF, H⟩
    unfold spec_l1New.c1 at H
    refine sq ?_
    refine rg ?_
    refine stp hF (p_move rfl) (by decide) (fun a hF => ?_)
    refine stp hF (p_move rfl) (by decide) (fun a hF => ?_)
    refine stp hF (p_build (ps := [(0, (.tmp 28)), (2, (.tmp 29))]) (vs := [(0, v1), (2, (.int .i64 x2))]) (v := (.agg #[v1, (.int .i64 0), (.int .i64 x2)])) rfl (by intro w; obtain ⟨_, _, _, e1⟩ := Sl.el h1; rw [e1]; kernel_rfl)) (by decide) (fun a hF => ?_)
    refine ste hF (e_box (cs := [v1, (.int .i64 0), (.int .i64 x2)]) hS rfl rfl) (by decide) (fun v w a hR hF => ?_)
    obtain ⟨g1, rfl, hS⟩ := hR
    refine stp hF (p_assign rfl) (by decide) (fun a hF => ?_)
    refine nilN ?_
    refine xn ?_
    refine rt ?_
    obtain rfl := hsm H
    exact ret1 hF rfl rfl hS ⟨g1, v1, rfl, rfl, h1⟩

def spec_l1Byte.c1 (k : Nat) (x1 : (List Int)) (x2 : Int) (x3 : Int) (x4 : Int) : Option (Int × (List Int) × Int × Int) :=
  (some (x4, x1, x3, w64 ((w64 (x2 * 6364136223846793005)) + 1442695040888963407)))
def spec_l1Byte.f (k : Nat) (x1 : (List Int)) (x5 : Int) (x2 : Int) : Option (Int × (List Int) × Int × Int) :=
  (((if (decide (x5 < (x1.length : Int))) = true then (if 0 ≤ x5 ∧ x5 < (x1.length : Int) then (some (w64 (x5 + 1), band .i64 (w64 ((band .i64 (bxor .i64 (bshr .i64 (w64 ((w64 (x2 * 6364136223846793005)) + 1442695040888963407)) 33) (bshr .i64 (w64 ((w64 (x2 * 6364136223846793005)) + 1442695040888963407)) 47)) 255) + (w64 (rd x1 x5)))) 255)) else none) else (some (x5, band .i64 (bxor .i64 (bshr .i64 (w64 ((w64 (x2 * 6364136223846793005)) + 1442695040888963407)) 33) (bshr .i64 (w64 ((w64 (x2 * 6364136223846793005)) + 1442695040888963407)) 47)) 255))) : Option (Int × Int)).bind fun x6 => spec_l1Byte.c1 k x1 x2 x6.1 x6.2)
set_option maxRecDepth 100000 in
set_option maxHeartbeats 4000000 in
theorem spec_l1Byte.spec (k : Nat) (s0 : HF) (w : World) (x1 : (List Int)) (x5 : Int) (x2 : Int) (v1 : Value) (g1 : Nat) (h1 : Sl (Kd.int .u8) s0 v1 x1) (r : Int × (List Int) × Int × Int) (H : spec_l1Byte.f k x1 x5 x2 = some r) :
    Law Try.prog 172 #[(.pointer (some ⟨g1, 0, none⟩))] s0 w [pt g1 139 ([v1, (.int .i64 x5), (.int .i64 x2)])] (fun v s1 A1 => ∃ (u0 : Value), v = (.int .i64 r.1) ∧ A1 = [pt g1 139 ([u0, (.int .i64 r.2.2.1), (.int .i64 r.2.2.2)])] ∧ Sl (Kd.int .u8) s1 u0 r.2.1) := by
  unfold spec_l1Byte.f at H
  refine Law.intro Try.func172 rfl [(0, (.pointer (some ⟨g1, 0, none⟩)))] (Nat.le_of_ble_eq_true rfl) (enter_lk ⟨rfl, trivial⟩) (fun e a hS hF => ?_)
  have hF : Fr 58 a [(0, (.pointer (some ⟨g1, 0, none⟩)))] := hF
  refine sq ?_
  refine rg ?_
  refine stp hF (p_assign rfl) (by decide) (fun a hF => ?_)
  refine nilN ?_
  refine xn ?_
  refine sq ?_
  refine rg ?_
  refine stp hF (p_move rfl) (by decide) (fun a hF => ?_)
  refine stp hF (p_move rfl) (by decide) (fun a hF => ?_)
  refine stp hF (p_nilck rfl) (by decide) (fun a hF => ?_)
  refine stp hF (p_fldb (o' := 2) rfl fi_139_2 rfl) (by decide) (fun a hF => ?_)
  refine stp hF (p_ldb_one (i := 0) hS rfl rfl ia_3 rfl) (by decide) (fun a hF => ?_)
  refine stp hF (p_mul (c := w64 (x2 * 6364136223846793005)) rfl rfl rfl) (by decide) (fun a hF => ?_)
  refine stp hF (p_add (c := w64 ((w64 (x2 * 6364136223846793005)) + 1442695040888963407)) rfl rfl rfl) (by decide) (fun a hF => ?_)
  refine stp hF (p_nilck rfl) (by decide) (fun a hF => ?_)
  refine stp hF (p_fldb (o' := 2) rfl fi_139_2 rfl) (by decide) (fun a hF => ?_)
  refine ste0 hF (e_stb (i := 0) (l := [v1, (.int .i64 x5)]) (m := [(.int .i64 x2)]) (r := []) (m' := [(.int .i64 (w64 ((w64 (x2 * 6364136223846793005)) + 1442695040888963407)))]) (cs' := [v1, (.int .i64 x5), (.int .i64 (w64 ((w64 (x2 * 6364136223846793005)) + 1442695040888963407)))]) hS rfl rfl rfl ti_3 rfl rfl rfl rfl rfl (one_cons rfl one_nil) rfl) (fun v w a hR hF => ?_)
  have hS : St e s0 w [pt g1 139 ([v1, (.int .i64 x5), (.int .i64 (w64 ((w64 (x2 * 6364136223846793005)) + 1442695040888963407)))])] := hR
  refine nilN ?_
  refine xn ?_
  refine sq ?_
  replace hS : St e s0 w.drew [pt g1 139 ([v1, (.int .i64 x5), (.int .i64 (w64 ((w64 (x2 * 6364136223846793005)) + 1442695040888963407)))])] := hS.drewN 1
  refine drw [0, 1, 2, 3, 4, 5, 6, 7, 8, 9, 10, 11, 12] mixed (by kernel_rfl) (by decide) (hF.cut (L' := [(0, (.pointer (some ⟨g1, 0, none⟩))), (2, (.int .i64 0)), (4, (.pointer (some ⟨g1, 0, none⟩))), (5, (.pointer (some ⟨g1, 0, none⟩))), (6, (.pointer (some ⟨g1, 0, none⟩))), (7, (.pointer (some ⟨g1, 2, none⟩))), (8, (.int .i64 x2)), (9, (.int .i64 (w64 (x2 * 6364136223846793005)))), (10, (.int .i64 (w64 ((w64 (x2 * 6364136223846793005)) + 1442695040888963407)))), (11, (.pointer (some ⟨g1, 0, none⟩))), (12, (.pointer (some ⟨g1, 2, none⟩)))]) ⟨rfl, rfl, rfl, rfl, rfl, rfl, rfl, rfl, rfl, rfl, rfl, trivial⟩) ?_
  clear hF
  generalize w.drew = w at hS ⊢
  refine pk1 rfl (by decide) rfl (by kernel_rfl) rfl (p_move rfl) ?_
  refine pk1 rfl (by decide) rfl (by kernel_rfl) rfl (p_nilck rfl) ?_
  refine pk1 rfl (by decide) rfl (by kernel_rfl) rfl (p_fldb (o' := 2) rfl fi_139_2 rfl) ?_
  refine pk1 rfl (by decide) rfl (by kernel_rfl) rfl (p_ldb_one (i := 0) hS rfl rfl ia_3 rfl) ?_
  refine pk1 rfl (by decide) rfl (by kernel_rfl) rfl (p_shr (c := bshr .i64 (w64 ((w64 (x2 * 6364136223846793005)) + 1442695040888963407)) 33) rfl rfl (by decide) rfl) ?_
  refine pk1 rfl (by decide) rfl (by kernel_rfl) rfl (p_move rfl) ?_
  refine pk1 rfl (by decide) rfl (by kernel_rfl) rfl (p_nilck rfl) ?_
  refine pk1 rfl (by decide) rfl (by kernel_rfl) rfl (p_fldb (o' := 2) rfl fi_139_2 rfl) ?_
  refine pk1 rfl (by decide) rfl (by kernel_rfl) rfl (p_ldb_one (i := 0) hS rfl rfl ia_3 rfl) ?_
  refine pk1 rfl (by decide) rfl (by kernel_rfl) rfl (p_shr (c := bshr .i64 (w64 ((w64 (x2 * 6364136223846793005)) + 1442695040888963407)) 47) rfl rfl (by decide) rfl) ?_
  refine pk1 rfl (by decide) rfl (by kernel_rfl) rfl (p_xor (c := bxor .i64 (bshr .i64 (w64 ((w64 (x2 * 6364136223846793005)) + 1442695040888963407)) 33) (bshr .i64 (w64 ((w64 (x2 * 6364136223846793005)) + 1442695040888963407)) 47)) rfl rfl rfl) ?_
  refine pk1 rfl (by decide) rfl (by kernel_rfl) rfl (p_and (c := band .i64 (bxor .i64 (bshr .i64 (w64 ((w64 (x2 * 6364136223846793005)) + 1442695040888963407)) 33) (bshr .i64 (w64 ((w64 (x2 * 6364136223846793005)) + 1442695040888963407)) 47)) 255) rfl rfl rfl) ?_
  refine pkE [] rfl (by decide) (by kernel_rfl) (by kernel_rfl) (puEf (p_assign rfl)) ?_
  rintro v w' ⟨hv, rfl⟩
  obtain rfl := hv.symm
  refine ⟨trivial, ?_⟩
  refine pkF (fun a hF => ?_)
  refine xn ?_
  obtain ⟨x6, H, HK1⟩ := hb H
  refine sqj (fun a w => ∃ (x3 : Int) (x4 : Int) , St e s0 w [pt g1 139 ([v1, (.int .i64 x3), (.int .i64 (w64 ((w64 (x2 * 6364136223846793005)) + 1442695040888963407)))])] ∧ Fr 58 a [(3, (.int .i64 x4))] ∧ spec_l1Byte.c1 k x1 x2 x3 x4 = some r) ?_ ?_
  · skip
    refine sq ?_
    replace hS : St e s0 w.drew [pt g1 139 ([v1, (.int .i64 x5), (.int .i64 (w64 ((w64 (x2 * 6364136223846793005)) + 1442695040888963407)))])] := hS.drewN 1
    refine drw [0, 1, 2, 3, 4, 5, 6, 7, 8, 9] mixed (by kernel_rfl) (by decide) (hF.cut (L' := [(0, (.pointer (some ⟨g1, 0, none⟩))), (2, (.int .i64 0)), (3, (.int .i64 (band .i64 (bxor .i64 (bshr .i64 (w64 ((w64 (x2 * 6364136223846793005)) + 1442695040888963407)) 33) (bshr .i64 (w64 ((w64 (x2 * 6364136223846793005)) + 1442695040888963407)) 47)) 255))), (4, (.pointer (some ⟨g1, 0, none⟩))), (5, (.pointer (some ⟨g1, 0, none⟩))), (6, (.pointer (some ⟨g1, 0, none⟩))), (7, (.pointer (some ⟨g1, 2, none⟩))), (8, (.int .i64 x2)), (9, (.int .i64 (w64 (x2 * 6364136223846793005)))), (10, (.int .i64 (w64 ((w64 (x2 * 6364136223846793005)) + 1442695040888963407)))), (11, (.pointer (some ⟨g1, 0, none⟩))), (12, (.pointer (some ⟨g1, 2, none⟩))), (13, (.pointer (some ⟨g1, 0, none⟩))), (14, (.pointer (some ⟨g1, 0, none⟩))), (15, (.pointer (some ⟨g1, 2, none⟩))), (16, (.int .i64 (w64 ((w64 (x2 * 6364136223846793005)) + 1442695040888963407)))), (17, (.int .i64 (bshr .i64 (w64 ((w64 (x2 * 6364136223846793005)) + 1442695040888963407)) 33))), (18, (.pointer (some ⟨g1, 0, none⟩))), (19, (.pointer (some ⟨g1, 0, none⟩))), (20, (.pointer (some ⟨g1, 2, none⟩))), (21, (.int .i64 (w64 ((w64 (x2 * 6364136223846793005)) + 1442695040888963407)))), (22, (.int .i64 (bshr .i64 (w64 ((w64 (x2 * 6364136223846793005)) + 1442695040888963407)) 47))), (23, (.int .i64 (bxor .i64 (bshr .i64 (w64 ((w64 (x2 * 6364136223846793005)) + 1442695040888963407)) 33) (bshr .i64 (w64 ((w64 (x2 * 6364136223846793005)) + 1442695040888963407)) 47)))), (24, (.int .i64 (band .i64 (bxor .i64 (bshr .i64 (w64 ((w64 (x2 * 6364136223846793005)) + 1442695040888963407)) 33) (bshr .i64 (w64 ((w64 (x2 * 6364136223846793005)) + 1442695040888963407)) 47)) 255)))]) ⟨rfl, rfl, rfl, rfl, rfl, rfl, rfl, rfl, rfl, rfl, rfl, rfl, rfl, rfl, rfl, rfl, rfl, rfl, rfl, rfl, rfl, rfl, rfl, rfl, trivial⟩) ?_
    clear hF
    generalize w.drew = w at hS ⊢
    refine pk1 rfl (by decide) rfl (by kernel_rfl) rfl (p_move rfl) ?_
    refine pk1 rfl (by decide) rfl (by kernel_rfl) rfl (p_nilck rfl) ?_
    refine pk1 rfl (by decide) rfl (by kernel_rfl) rfl (p_fldb (o' := 1) rfl fi_139_1 rfl) ?_
    refine pk1 rfl (by decide) rfl (by kernel_rfl) rfl (p_ldb_one (i := 0) hS rfl rfl ia_3 rfl) ?_
    refine pk1 rfl (by decide) rfl (by kernel_rfl) rfl (p_move rfl) ?_
    refine pk1 rfl (by decide) rfl (by kernel_rfl) rfl (p_nilck rfl) ?_
    refine pk1 rfl (by decide) rfl (by kernel_rfl) rfl (p_fldb (o' := 0) rfl fi_139_0 rfl) ?_
    refine pk1 rfl (by decide) rfl (by kernel_rfl) rfl (p_ldb_one (i := 0) hS rfl rfl ia_24 rfl) ?_
    refine pk1 rfl (by decide) rfl (by kernel_rfl) rfl (p_lenr un_24 rfl h1) ?_
    refine pk1 rfl (by decide) rfl (by kernel_rfl) rfl (p_lss rfl rfl) ?_
    refine pkF (fun a hF => ?_)
    refine xn ?_
    refine cnd hF rfl (fun hc1 => ?_) (fun hc1 => ?_)
    · replace H := hbt hc1 H
      refine sq ?_
      replace hS : St e s0 w.drew [pt g1 139 ([v1, (.int .i64 x5), (.int .i64 (w64 ((w64 (x2 * 6364136223846793005)) + 1442695040888963407)))])] := hS.drewN 1
      refine drw [0, 1, 2, 3, 4, 5, 6, 7, 8, 9, 10, 11, 12, 13, 14] mixed (by kernel_rfl) (by decide) (hF.cut (L' := [(0, (.pointer (some ⟨g1, 0, none⟩))), (2, (.int .i64 0)), (3, (.int .i64 (band .i64 (bxor .i64 (bshr .i64 (w64 ((w64 (x2 * 6364136223846793005)) + 1442695040888963407)) 33) (bshr .i64 (w64 ((w64 (x2 * 6364136223846793005)) + 1442695040888963407)) 47)) 255))), (4, (.pointer (some ⟨g1, 0, none⟩))), (5, (.pointer (some ⟨g1, 0, none⟩))), (6, (.pointer (some ⟨g1, 0, none⟩))), (7, (.pointer (some ⟨g1, 2, none⟩))), (8, (.int .i64 x2)), (9, (.int .i64 (w64 (x2 * 6364136223846793005)))), (10, (.int .i64 (w64 ((w64 (x2 * 6364136223846793005)) + 1442695040888963407)))), (11, (.pointer (some ⟨g1, 0, none⟩))), (12, (.pointer (some ⟨g1, 2, none⟩))), (13, (.pointer (some ⟨g1, 0, none⟩))), (14, (.pointer (some ⟨g1, 0, none⟩))), (15, (.pointer (some ⟨g1, 2, none⟩))), (16, (.int .i64 (w64 ((w64 (x2 * 6364136223846793005)) + 1442695040888963407)))), (17, (.int .i64 (bshr .i64 (w64 ((w64 (x2 * 6364136223846793005)) + 1442695040888963407)) 33))), (18, (.pointer (some ⟨g1, 0, none⟩))), (19, (.pointer (some ⟨g1, 0, none⟩))), (20, (.pointer (some ⟨g1, 2, none⟩))), (21, (.int .i64 (w64 ((w64 (x2 * 6364136223846793005)) + 1442695040888963407)))), (22, (.int .i64 (bshr .i64 (w64 ((w64 (x2 * 6364136223846793005)) + 1442695040888963407)) 47))), (23, (.int .i64 (bxor .i64 (bshr .i64 (w64 ((w64 (x2 * 6364136223846793005)) + 1442695040888963407)) 33) (bshr .i64 (w64 ((w64 (x2 * 6364136223846793005)) + 1442695040888963407)) 47)))), (24, (.int .i64 (band .i64 (bxor .i64 (bshr .i64 (w64 ((w64 (x2 * 6364136223846793005)) + 1442695040888963407)) 33) (bshr .i64 (w64 ((w64 (x2 * 6364136223846793005)) + 1442695040888963407)) 47)) 255))), (25, (.pointer (some ⟨g1, 0, none⟩))), (26, (.pointer (some ⟨g1, 0, none⟩))), (27, (.pointer (some ⟨g1, 1, none⟩))), (28, (.int .i64 x5)), (29, (.pointer (some ⟨g1, 0, none⟩))), (30, (.pointer (some ⟨g1, 0, none⟩))), (31, (.pointer (some ⟨g1, 0, none⟩))), (32, v1), (33, (.int .i64 (x1.length : Int))), (34, (.bool (decide (x5 < (x1.length : Int)))))]) ⟨rfl, rfl, rfl, rfl, rfl, rfl, rfl, rfl, rfl, rfl, rfl, rfl, rfl, rfl, rfl, rfl, rfl, rfl, rfl, rfl, rfl, rfl, rfl, rfl, rfl, rfl, rfl, rfl, rfl, rfl, rfl, rfl, rfl, rfl, trivial⟩) ?_
      clear hF
      generalize w.drew = w at hS ⊢
      refine pk1 rfl (by decide) rfl (by kernel_rfl) rfl (p_move rfl) ?_
      refine pk1 rfl (by decide) rfl (by kernel_rfl) rfl (p_move rfl) ?_
      refine pk1 rfl (by decide) rfl (by kernel_rfl) rfl (p_nilck rfl) ?_
      refine pk1 rfl (by decide) rfl (by kernel_rfl) rfl (p_fldb (o' := 0) rfl fi_139_0 rfl) ?_
      refine pk1 rfl (by decide) rfl (by kernel_rfl) rfl (p_ldb_one (i := 0) hS rfl rfl ia_24 rfl) ?_
      refine pk1 rfl (by decide) rfl (by kernel_rfl) rfl (p_move rfl) ?_
      refine pk1 rfl (by decide) rfl (by kernel_rfl) rfl (p_nilck rfl) ?_
      refine pk1 rfl (by decide) rfl (by kernel_rfl) rfl (p_fldb (o' := 1) rfl fi_139_1 rfl) ?_
      refine pk1 rfl (by decide) rfl (by kernel_rfl) rfl (p_ldb_one (i := 0) hS rfl rfl ia_3 rfl) ?_
      obtain ⟨hq1, H⟩ := hck H
      obtain ⟨ad1, h2, p1⟩ := p_idxr (P := Try.prog) (i := x5) h1 un_24 ti_5 hq1.1 hq1.2
      refine pk1 rfl (by decide) rfl (by kernel_rfl) rfl (p1 rfl rfl) ?_
      refine pk1 rfl (by decide) rfl (by kernel_rfl) rfl (p_ldr_int rfl hS h2 ia_5) ?_
      refine pk1 rfl (by decide) rfl (by kernel_rfl) rfl (p_cvint (c := w64 (rd x1 x5)) un_5 un_3 rfl rfl) ?_
      refine pk1 rfl (by decide) rfl (by kernel_rfl) rfl (p_add (c := w64 ((band .i64 (bxor .i64 (bshr .i64 (w64 ((w64 (x2 * 6364136223846793005)) + 1442695040888963407)) 33) (bshr .i64 (w64 ((w64 (x2 * 6364136223846793005)) + 1442695040888963407)) 47)) 255) + (w64 (rd x1 x5)))) rfl rfl rfl) ?_
      refine pk1 rfl (by decide) rfl (by kernel_rfl) rfl (p_and (c := band .i64 (w64 ((band .i64 (bxor .i64 (bshr .i64 (w64 ((w64 (x2 * 6364136223846793005)) + 1442695040888963407)) 33) (bshr .i64 (w64 ((w64 (x2 * 6364136223846793005)) + 1442695040888963407)) 47)) 255) + (w64 (rd x1 x5)))) 255) rfl rfl rfl) ?_
      refine pkE [] rfl (by decide) (by kernel_rfl) (by kernel_rfl) (puEf (p_assign rfl)) ?_
      rintro v w' ⟨hv, rfl⟩
      obtain rfl := hv.symm
      refine ⟨trivial, ?_⟩
      refine pkF (fun a hF => ?_)
      refine xn ?_
      refine rg ?_
      refine stp hF (p_move rfl) (by decide) (fun a hF => ?_)
      refine stp hF (p_move rfl) (by decide) (fun a hF => ?_)
      refine stp hF (p_nilck rfl) (by decide) (fun a hF => ?_)
      refine stp hF (p_fldb (o' := 1) rfl fi_139_1 rfl) (by decide) (fun a hF => ?_)
      refine stp hF (p_ldb_one (i := 0) hS rfl rfl ia_3 rfl) (by decide) (fun a hF => ?_)
      refine stp hF (p_add (c := w64 (x5 + 1)) rfl rfl rfl) (by decide) (fun a hF => ?_)
      refine stp hF (p_nilck rfl) (by decide) (fun a hF => ?_)
      refine stp hF (p_fldb (o' := 1) rfl fi_139_1 rfl) (by decide) (fun a hF => ?_)
      refine ste0 hF (e_stb (i := 0) (l := [v1]) (m := [(.int .i64 x5)]) (r := [(.int .i64 (w64 ((w64 (x2 * 6364136223846793005)) + 1442695040888963407)))]) (m' := [(.int .i64 (w64 (x5 + 1)))]) (cs' := [v1, (.int .i64 (w64 (x5 + 1))), (.int .i64 (w64 ((w64 (x2 * 6364136223846793005)) + 1442695040888963407)))]) hS rfl rfl rfl ti_3 rfl rfl rfl rfl rfl (one_cons rfl one_nil) rfl) (fun v w a hR hF => ?_)
      have hS : St e s0 w [pt g1 139 ([v1, (.int .i64 (w64 (x5 + 1))), (.int .i64 (w64 ((w64 (x2 * 6364136223846793005)) + 1442695040888963407)))])] := hR
      refine nilN ?_
      refine xn ?_
      obtain rfl := hsm H
      exact ⟨(w64 (x5 + 1)), (band .i64 (w64 ((band .i64 (bxor .i64 (bshr .i64 (w64 ((w64 (x2 * 6364136223846793005)) + 1442695040888963407)) 33) (bshr .i64 (w64 ((w64 (x2 * 6364136223846793005)) + 1442695040888963407)) 47)) 255) + (w64 (rd x1 x5)))) 255), hS, hF.cut ⟨rfl, trivial⟩, HK1⟩
    · replace H := hbf hc1 H
      refine skN ?_
      refine xn ?_
      obtain rfl := hsm H
      exact ⟨x5, (band .i64 (bxor .i64 (bshr .i64 (w64 ((w64 (x2 * 6364136223846793005)) + 1442695040888963407)) 33) (bshr .i64 (w64 ((w64 (x2 * 6364136223846793005)) + 1442695040888963407)) 47)) 255), hS, hF.cut ⟨rfl, trivial⟩, HK1⟩
  · clear H HK1 hS hF
    rintro a w ⟨x3, x4, hS, hF, H⟩
    unfold spec_l1Byte.c1 at H
    refine sq ?_
    refine rg ?_
    refine stp hF (p_move rfl) (by decide) (fun a hF => ?_)
    refine stp hF (p_assign rfl) (by decide) (fun a hF => ?_)
    refine nilN ?_
    refine xn ?_
    refine rt ?_
    obtain rfl := hsm H
    exact ret1 hF rfl rfl hS ⟨v1, rfl, rfl, h1⟩

def spec_l1Below.f (k : Nat) (x1 : (List Int)) (x2 : Int) (x3 : Int) (x4 : Int) : Option (Int × (List Int) × Int × Int) :=
  (if (decide (x4 ≤ 0)) = true then (some (0, x1, x2, x3)) else (if (decide (x4 ≤ 256)) = true then ((spec_l1Byte.f k x1 x2 x3).bind fun x5 => (if x4 ≠ 0 then (some (x5.1.tmod x4, x5.2.1, x5.2.2.1, x5.2.2.2)) else none)) else ((spec_l1Byte.f k x1 x2 x3).bind fun x6 => ((spec_l1Byte.f k x6.2.1 x6.2.2.1 x6.2.2.2).bind fun x7 => ((spec_l1Byte.f k x7.2.1 x7.2.2.1 x7.2.2.2).bind fun x8 => (if x4 ≠ 0 then (some ((w64 ((w64 ((w64 (x6.1 * 65536)) + (w64 (x7.1 * 256)))) + x8.1)).tmod x4, x8.2.1, x8.2.2.1, x8.2.2.2)) else none))))))
set_option maxRecDepth 100000 in
set_option maxHeartbeats 4000000 in
theorem spec_l1Below.spec (k : Nat) (s0 : HF) (w : World) (x1 : (List Int)) (x2 : Int) (x3 : Int) (x4 : Int) (v1 : Value) (g1 : Nat) (h1 : Sl (Kd.int .u8) s0 v1 x1) (r : Int × (List Int) × Int × Int) (H : spec_l1Below.f k x1 x2 x3 x4 = some r) :
    Law Try.prog 145 #[(.pointer (some ⟨g1, 0, none⟩)), (.int .i64 x4)] s0 w [pt g1 139 ([v1, (.int .i64 x2), (.int .i64 x3)])] (fun v s1 A1 => ∃ (u0 : Value), v = (.int .i64 r.1) ∧ A1 = [pt g1 139 ([u0, (.int .i64 r.2.2.1), (.int .i64 r.2.2.2)])] ∧ Sl (Kd.int .u8) s1 u0 r.2.1) := by
  unfold spec_l1Below.f at H
  refine Law.intro Try.func145 rfl [(0, (.pointer (some ⟨g1, 0, none⟩))), (1, (.int .i64 x4))] (Nat.le_of_ble_eq_true rfl) (enter_lk ⟨rfl, rfl, trivial⟩) (fun e a hS hF => ?_)
  have hF : Fr 31 a [(0, (.pointer (some ⟨g1, 0, none⟩))), (1, (.int .i64 x4))] := hF
  refine sq ?_
  refine rg ?_
  refine stp hF (p_assign rfl) (by decide) (fun a hF => ?_)
  refine nilN ?_
  refine xn ?_
  refine sq ?_
  refine sq ?_
  refine rg ?_
  refine stp hF (p_move rfl) (by decide) (fun a hF => ?_)
  refine stp hF (p_leq rfl rfl) (by decide) (fun a hF => ?_)
  refine nilN ?_
  refine xn ?_
  refine cnd hF rfl (fun hc1 => ?_) (fun hc1 => ?_)
  · replace H := hbt hc1 H
    refine sq ?_
    refine rg ?_
    refine stp hF (p_assign rfl) (by decide) (fun a hF => ?_)
    refine nilN ?_
    refine xn ?_
    refine rt ?_
    refine xr ?_
    obtain rfl := hsm H
    exact ret1 hF rfl rfl hS ⟨v1, rfl, rfl, h1⟩
  · replace H := hbf hc1 H
    refine skN ?_
    refine xn ?_
    refine sq ?_
    refine sq ?_
    refine rg ?_
    refine stp hF (p_move rfl) (by decide) (fun a hF => ?_)
    refine stp hF (p_leq rfl rfl) (by decide) (fun a hF => ?_)
    refine nilN ?_
    refine xn ?_
    refine cnd hF rfl (fun hc2 => ?_) (fun hc2 => ?_)
    · replace H := hbt hc2 H
      refine sq ?_
      refine rg ?_
      refine stp hF (p_move rfl) (by decide) (fun a hF => ?_)
      obtain ⟨x5, hx1, H⟩ := hb H
      refine ste hF (e_callA (fst := []) (vs := [(.pointer (some ⟨g1, 0, none⟩))]) (cap := []) rfl rfl go_172 (St.call (A := [pt g1 139 ([v1, (.int .i64 x2), (.int .i64 x3)])]) (B := []) hS (spec_l1Byte.spec k _ _ x1 x2 x3 v1 g1 h1 _ hx1)) rfl) (by decide) (fun v w a hR hF => ?_)
      obtain ⟨s2, A2, hg1, hS, hR⟩ := hR
      obtain ⟨v2, hv1, rfl, h2⟩ := hR; obtain rfl := hv1.symm
      have hS : St e s2 w [pt g1 139 ([v2, (.int .i64 x5.2.2.1), (.int .i64 x5.2.2.2)])] := hS
      refine stp hF (p_move rfl) (by decide) (fun a hF => ?_)
      obtain ⟨hq1, H⟩ := hck H
      refine stp hF (p_rem (c := x5.1.tmod x4) rfl rfl hq1 rfl) (by decide) (fun a hF => ?_)
      refine stp hF (p_assign rfl) (by decide) (fun a hF => ?_)
      refine nilN ?_
      refine xn ?_
      refine rt ?_
      refine xr ?_
      obtain rfl := hsm H
      exact ret1 hF rfl rfl hS ⟨v2, rfl, rfl, h2⟩
    · replace H := hbf hc2 H
      refine skN ?_
      refine xn ?_
      refine sq ?_
      refine rg ?_
      refine stp hF (p_move rfl) (by decide) (fun a hF => ?_)
      obtain ⟨x6, hx2, H⟩ := hb H
      refine ste hF (e_callA (fst := []) (vs := [(.pointer (some ⟨g1, 0, none⟩))]) (cap := []) rfl rfl go_172 (St.call (A := [pt g1 139 ([v1, (.int .i64 x2), (.int .i64 x3)])]) (B := []) hS (spec_l1Byte.spec k _ _ x1 x2 x3 v1 g1 h1 _ hx2)) rfl) (by decide) (fun v w a hR hF => ?_)
      obtain ⟨s3, A3, hg2, hS, hR⟩ := hR
      obtain ⟨v3, hv2, rfl, h3⟩ := hR; obtain rfl := hv2.symm
      have hS : St e s3 w [pt g1 139 ([v3, (.int .i64 x6.2.2.1), (.int .i64 x6.2.2.2)])] := hS
      refine stp hF (p_assign rfl) (by decide) (fun a hF => ?_)
      refine nilN ?_
      refine xn ?_
      refine sq ?_
      refine rg ?_
      refine stp hF (p_move rfl) (by decide) (fun a hF => ?_)
      obtain ⟨x7, hx3, H⟩ := hb H
      refine ste hF (e_callA (fst := []) (vs := [(.pointer (some ⟨g1, 0, none⟩))]) (cap := []) rfl rfl go_172 (St.call (A := [pt g1 139 ([v3, (.int .i64 x6.2.2.1), (.int .i64 x6.2.2.2)])]) (B := []) hS (spec_l1Byte.spec k _ _ x6.2.1 x6.2.2.1 x6.2.2.2 v3 g1 h3 _ hx3)) rfl) (by decide) (fun v w a hR hF => ?_)
      obtain ⟨s4, A4, hg3, hS, hR⟩ := hR
      obtain ⟨v4, hv3, rfl, h4⟩ := hR; obtain rfl := hv3.symm
      have hS : St e s4 w [pt g1 139 ([v4, (.int .i64 x7.2.2.1), (.int .i64 x7.2.2.2)])] := hS
      refine stp hF (p_assign rfl) (by decide) (fun a hF => ?_)
      refine nilN ?_
      refine xn ?_
      refine sq ?_
      refine rg ?_
      refine stp hF (p_move rfl) (by decide) (fun a hF => ?_)
      obtain ⟨x8, hx4, H⟩ := hb H
      refine ste hF (e_callA (fst := []) (vs := [(.pointer (some ⟨g1, 0, none⟩))]) (cap := []) rfl rfl go_172 (St.call (A := [pt g1 139 ([v4, (.int .i64 x7.2.2.1), (.int .i64 x7.2.2.2)])]) (B := []) hS (spec_l1Byte.spec k _ _ x7.2.1 x7.2.2.1 x7.2.2.2 v4 g1 h4 _ hx4)) rfl) (by decide) (fun v w a hR hF => ?_)
      obtain ⟨s5, A5, hg4, hS, hR⟩ := hR
      obtain ⟨v5, hv4, rfl, h5⟩ := hR; obtain rfl := hv4.symm
      have hS : St e s5 w [pt g1 139 ([v5, (.int .i64 x8.2.2.1), (.int .i64 x8.2.2.2)])] := hS
      refine stp hF (p_assign rfl) (by decide) (fun a hF => ?_)
      refine nilN ?_
      refine xn ?_
      refine sq ?_
      refine rg ?_
      refine stp hF (p_move rfl) (by decide) (fun a hF => ?_)
      refine stp hF (p_mul (c := w64 (x6.1 * 65536)) rfl rfl rfl) (by decide) (fun a hF => ?_)
      refine stp hF (p_move rfl) (by decide) (fun a hF => ?_)
      refine stp hF (p_mul (c := w64 (x7.1 * 256)) rfl rfl rfl) (by decide) (fun a hF => ?_)
      refine stp hF (p_add (c := w64 ((w64 (x6.1 * 65536)) + (w64 (x7.1 * 256)))) rfl rfl rfl) (by decide) (fun a hF => ?_)
      refine stp hF (p_move rfl) (by decide) (fun a hF => ?_)
      refine stp hF (p_add (c := w64 ((w64 ((w64 (x6.1 * 65536)) + (w64 (x7.1 * 256)))) + x8.1)) rfl rfl rfl) (by decide) (fun a hF => ?_)
      refine stp hF (p_move rfl) (by decide) (fun a hF => ?_)
      obtain ⟨hq2, H⟩ := hck H
      refine stp hF (p_rem (c := (w64 ((w64 ((w64 (x6.1 * 65536)) + (w64 (x7.1 * 256)))) + x8.1)).tmod x4) rfl rfl hq2 rfl) (by decide) (fun a hF => ?_)
      refine stp hF (p_assign rfl) (by decide) (fun a hF => ?_)
      refine nilN ?_
      refine xn ?_
      refine rt ?_
      obtain rfl := hsm H
      exact ret1 hF rfl rfl hS ⟨v5, rfl, rfl, h5⟩

def spec_l1Int.f (k : Nat) (x1 : (List Int)) (x2 : Int) (x3 : Int) (x4 : (List Int)) : Option (Int × (List Int) × Int × Int) :=
  ((spec_l1Below.f k x1 x2 x3 (x4.length : Int)).bind fun x5 => (if 0 ≤ x5.1 ∧ x5.1 < (x4.length : Int) then (some (rd x4 x5.1, x5.2.1, x5.2.2.1, x5.2.2.2)) else none))
set_option maxRecDepth 100000 in
set_option maxHeartbeats 4000000 in
theorem spec_l1Int.spec (k : Nat) (s0 : HF) (w : World) (x1 : (List Int)) (x2 : Int) (x3 : Int) (x4 : (List Int)) (v1 : Value) (g1 : Nat) (v2 : Value) (h1 : Sl (Kd.int .u8) s0 v1 x1) (h2 : Sl (Kd.int .i64) s0 v2 x4) (r : Int × (List Int) × Int × Int) (H : spec_l1Int.f k x1 x2 x3 x4 = some r) :
    Law Try.prog 92 #[(.pointer (some ⟨g1, 0, none⟩)), v2] s0 w [pt g1 139 ([v1, (.int .i64 x2), (.int .i64 x3)])] (fun v s1 A1 => ∃ (u0 : Value), v = (.int .i64 r.1) ∧ A1 = [pt g1 139 ([u0, (.int .i64 r.2.2.1), (.int .i64 r.2.2.2)])] ∧ Sl (Kd.int .u8) s1 u0 r.2.1) := by
  unfold spec_l1Int.f at H
  refine Law.intro Try.func92 rfl [(0, (.pointer (some ⟨g1, 0, none⟩))), (1, v2)] (Nat.le_of_ble_eq_true rfl) (enter_lk ⟨rfl, rfl, trivial⟩) (fun e a hS hF => ?_)
  have hF : Fr 12 a [(0, (.pointer (some ⟨g1, 0, none⟩))), (1, v2)] := hF
  refine sq ?_
  refine rg ?_
  refine stp hF (p_assign rfl) (by decide) (fun a hF => ?_)
  refine nilN ?_
  refine xn ?_
  refine sq ?_
  refine rg ?_
  refine stp hF (p_move rfl) (by decide) (fun a hF => ?_)
  refine stp hF (p_move rfl) (by decide) (fun a hF => ?_)
  refine stp hF (p_move rfl) (by decide) (fun a hF => ?_)
  refine stp hF (p_lenr un_34 rfl h2) (by decide) (fun a hF => ?_)
  obtain ⟨x5, hx1, H⟩ := hb H
  refine ste hF (e_callA (fst := []) (vs := [(.pointer (some ⟨g1, 0, none⟩)), (.int .i64 (x4.length : Int))]) (cap := []) rfl rfl go_145 (St.call (A := [pt g1 139 ([v1, (.int .i64 x2), (.int .i64 x3)])]) (B := []) hS (spec_l1Below.spec k _ _ x1 x2 x3 (x4.length : Int) v1 g1 h1 _ hx1)) rfl) (by decide) (fun v w a hR hF => ?_)
  obtain ⟨s2, A2, hg1, hS, hR⟩ := hR
  obtain ⟨v3, hv1, rfl, h3⟩ := hR; obtain rfl := hv1.symm
  have hS : St e s2 w [pt g1 139 ([v3, (.int .i64 x5.2.2.1), (.int .i64 x5.2.2.2)])] := hS
  obtain ⟨hq1, H⟩ := hck H
  obtain ⟨ad1, h4, p1⟩ := p_idxr (P := Try.prog) (i := x5.1) (h2.mono hg1) un_34 ti_3 hq1.1 hq1.2
  refine stp hF (p1 rfl rfl) (by decide) (fun a hF => ?_)
  refine stp hF (p_ldr_int rfl hS h4 ia_3) (by decide) (fun a hF => ?_)
  refine stp hF (p_assign rfl) (by decide) (fun a hF => ?_)
  refine nilN ?_
  refine xn ?_
  refine rt ?_
  obtain rfl := hsm H
  exact ret1 hF rfl rfl hS ⟨v3, rfl, rfl, h3⟩

def spec_l1Once.f (k : Nat) (x1 : (List Int)) (x2 : Int) (x3 : Int) (x4 : Int) : Option (Bool × (List Int) × Int × Int) :=
  ((spec_l1Below.f k x1 x2 x3 x4).bind fun x5 => (some (decide (x5.1 = 0), x5.2.1, x5.2.2.1, x5.2.2.2)))
set_option maxRecDepth 100000 in
set_option maxHeartbeats 4000000 in
theorem spec_l1Once.spec (k : Nat) (s0 : HF) (w : World) (x1 : (List Int)) (x2 : Int) (x3 : Int) (x4 : Int) (v1 : Value) (g1 : Nat) (h1 : Sl (Kd.int .u8) s0 v1 x1) (r : Bool × (List Int) × Int × Int) (H : spec_l1Once.f k x1 x2 x3 x4 = some r) :
    Law Try.prog 91 #[(.pointer (some ⟨g1, 0, none⟩)), (.int .i64 x4)] s0 w [pt g1 139 ([v1, (.int .i64 x2), (.int .i64 x3)])] (fun v s1 A1 => ∃ (u0 : Value), v = (.bool r.1) ∧ A1 = [pt g1 139 ([u0, (.int .i64 r.2.2.1), (.int .i64 r.2.2.2)])] ∧ Sl (Kd.int .u8) s1 u0 r.2.1) := by
  unfold spec_l1Once.f at H
  refine Law.intro Try.func91 rfl [(0, (.pointer (some ⟨g1, 0, none⟩))), (1, (.int .i64 x4))] (Nat.le_of_ble_eq_true rfl) (enter_lk ⟨rfl, rfl, trivial⟩) (fun e a hS hF => ?_)
  have hF : Fr 9 a [(0, (.pointer (some ⟨g1, 0, none⟩))), (1, (.int .i64 x4))] := hF
  refine sq ?_
  refine rg ?_
  refine stp hF (p_assign rfl) (by decide) (fun a hF => ?_)
  refine nilN ?_
  refine xn ?_
  refine sq ?_
  refine rg ?_
  refine stp hF (p_move rfl) (by decide) (fun a hF => ?_)
  refine stp hF (p_move rfl) (by decide) (fun a hF => ?_)
  obtain ⟨x5, hx1, H⟩ := hb H
  refine ste hF (e_callA (fst := []) (vs := [(.pointer (some ⟨g1, 0, none⟩)), (.int .i64 x4)]) (cap := []) rfl rfl go_145 (St.call (A := [pt g1 139 ([v1, (.int .i64 x2), (.int .i64 x3)])]) (B := []) hS (spec_l1Below.spec k _ _ x1 x2 x3 x4 v1 g1 h1 _ hx1)) rfl) (by decide) (fun v w a hR hF => ?_)
  obtain ⟨s2, A2, hg1, hS, hR⟩ := hR
  obtain ⟨v2, hv1, rfl, h2⟩ := hR; obtain rfl := hv1.symm
  have hS : St e s2 w [pt g1 139 ([v2, (.int .i64 x5.2.2.1), (.int .i64 x5.2.2.2)])] := hS
  refine stp hF (p_eql rfl rfl) (by decide) (fun a hF => ?_)
  refine stp hF (p_assign rfl) (by decide) (fun a hF => ?_)
  refine nilN ?_
  refine xn ?_
  refine rt ?_
  obtain rfl := hsm H
  exact ret1 hF rfl rfl hS ⟨v2, rfl, rfl, h2⟩

def spec_l2Obj.c1 (k : Nat) (x1 : Int × (List Int) × Int × Int) (x2 : (List Int)) (x3 : (List Int)) (x4 : (List Int)) (x5 : Int) (x6 : Int) : Option (TObj × (List Int) × Int × Int) :=
  (some ((⟨w64 (1 + x1.1), x2, x3⟩ : TObj), x4, x5, x6))
def spec_l2Obj.l1 : Nat → (List Int) → Int → Int → (List Int) → Int → Option ((List Int) × (List Int) × Int × Int)
  | 0, _, _, _, _, _ => none
  | k + 1, x7, x8, x9, x10, x11 => (if (decide (0 < x11)) = true then ((spec_l1Below.f k x7 x8 x9 32).bind fun x12 => ((spec_l1Int.f k x12.2.1 x12.2.2.1 x12.2.2.2 ([0, 1, 2, 3, 5, 8, 12, 31, x12.1] : List Int)).bind fun x13 => (if x10.length + 1 ≤ 17592186044416 then ((spec_l2Obj.l1 k) x13.2.1 x13.2.2.1 x13.2.2.2 (x10 ++ ([x13.1] : List Int)) (w64 (x11 - 1))) else none))) else (some (x10, x7, x8, x9)))
def spec_l2Obj.c2 (k : Nat) (x1 : Int × (List Int) × Int × Int) (x2 : (List Int)) (x14 : (List Int)) (x15 : Int) (x16 : Int) : Option (TObj × (List Int) × Int × Int) :=
  ((((spec_l1Below.f k x14 x15 x16 4).bind fun x17 => (spec_l2Obj.l1 k x17.2.1 x17.2.2.1 x17.2.2.2 ([] : List Int) x17.1)) : Option ((List Int) × (List Int) × Int × Int)).bind fun x18 => spec_l2Obj.c1 k x1 x2 x18.1 x18.2.1 x18.2.2.1 x18.2.2.2)
def spec_l2Obj.l2 : Nat → (List Int) → Int → Int → (List Int) → Int → Option ((List Int) × (List Int) × Int × Int)
  | 0, _, _, _, _, _ => none
  | k + 1, x19, x20, x21, x22, x23 => (if (decide (0 < x23)) = true then ((spec_l1Below.f k x19 x20 x21 50).bind fun x24 => ((spec_l1Int.f k x24.2.1 x24.2.2.1 x24.2.2.2 ([0, 1, (-1), 7, 1000000, (-1000000), x24.1] : List Int)).bind fun x25 => (if x22.length + 1 ≤ 17592186044416 then ((spec_l2Obj.l2 k) x25.2.1 x25.2.2.1 x25.2.2.2 (x22 ++ ([x25.1] : List Int)) (w64 (x23 - 1))) else none))) else (some (x22, x19, x20, x21)))
def spec_l2Obj.f (k : Nat) (x26 : (List Int)) (x27 : Int) (x28 : Int) : Option (TObj × (List Int) × Int × Int) :=
  ((spec_l1Below.f k x26 x27 x28 5).bind fun x1 => ((((spec_l1Below.f k x1.2.1 x1.2.2.1 x1.2.2.2 3).bind fun x29 => (spec_l2Obj.l2 k x29.2.1 x29.2.2.1 x29.2.2.2 ([] : List Int) x29.1)) : Option ((List Int) × (List Int) × Int × Int)).bind fun x30 => spec_l2Obj.c2 k x1 x30.1 x30.2.1 x30.2.2.1 x30.2.2.2))
set_option maxRecDepth 100000 in
set_option maxHeartbeats 4000000 in
theorem spec_l2Obj.spec (k : Nat) (s0 : HF) (w : World) (x26 : (List Int)) (x27 : Int) (x28 : Int) (v1 : Value) (g1 : Nat) (h1 : Sl (Kd.int .u8) s0 v1 x26) (r : TObj × (List Int) × Int × Int) (H : spec_l2Obj.f k x26 x27 x28 = some r) :
    Law Try.prog 147 #[(.pointer (some ⟨g1, 0, none⟩))] s0 w [pt g1 139 ([v1, (.int .i64 x27), (.int .i64 x28)])] (fun v s1 A1 => ∃ (u0 : Value) (u1 : Value) (u2 : Value), v = (.agg #[(.int .i64 r.1.Kind), u1, u2]) ∧ A1 = [pt g1 139 ([u0, (.int .i64 r.2.2.1), (.int .i64 r.2.2.2)]), Ow (Kd.int .i64) 3 u1 r.1.Ints, Ow (Kd.int .i64) 3 u2 r.1.Refs] ∧ Sl (Kd.int .u8) s1 u0 r.2.1) := by
  unfold spec_l2Obj.f at H
  refine Law.intro Try.func147 rfl [(0, (.pointer (some ⟨g1, 0, none⟩)))] (Nat.le_of_ble_eq_true rfl) (enter_lk ⟨rfl, trivial⟩) (fun e a hS hF => ?_)
  have hF : Fr 43 a [(0, (.pointer (some ⟨g1, 0, none⟩)))] := hF
  refine sq ?_
  refine rg ?_
  refine ste hF (e_alloc (cs := [(.int .i64 0), (.slice none 0 0), (.slice none 0 0)]) hS ti_36 rfl) (by decide) (fun v w a hR hF => ?_)
  obtain ⟨g2, rfl, hS⟩ := hR
  refine nilN ?_
  refine xn ?_
  refine sq ?_
  refine rg ?_
  refine stp hF (p_move rfl) (by decide) (fun a hF => ?_)
  replace hS := hS.sel (is := [1, 0]) (A' := [pt g1 139 ([v1, (.int .i64 x27), (.int .i64 x28)]), pt g2 36 ([(.int .i64 0), (.slice none 0 0), (.slice none 0 0)])]) rfl
  obtain ⟨x1, hx1, H⟩ := hb H
  refine ste hF (e_callA (fst := []) (vs := [(.pointer (some ⟨g1, 0, none⟩)), (.int .i64 5)]) (cap := []) rfl rfl go_145 (St.call (A := [pt g1 139 ([v1, (.int .i64 x27), (.int .i64 x28)])]) (B := [pt g2 36 ([(.int .i64 0), (.slice none 0 0), (.slice none 0 0)])]) hS (spec_l1Below.spec k _ _ x26 x27 x28 5 v1 g1 h1 _ hx1)) rfl) (by decide) (fun v w a hR hF => ?_)
  obtain ⟨s2, A2, hg1, hS, hR⟩ := hR
  obtain ⟨v2, hv1, rfl, h2⟩ := hR; obtain rfl := hv1.symm
  have hS : St e s2 w [pt g1 139 ([v2, (.int .i64 x1.2.2.1), (.int .i64 x1.2.2.2)]), pt g2 36 ([(.int .i64 0), (.slice none 0 0), (.slice none 0 0)])] := hS
  refine stp hF (p_add (c := w64 (1 + x1.1)) rfl rfl rfl) (by decide) (fun a hF => ?_)
  refine stp hF (p_build (ps := [(0, (.tmp 8))]) (vs := [(0, (.int .i64 (w64 (1 + x1.1))))]) (v := (.agg #[(.int .i64 (w64 (1 + x1.1))), (.slice none 0 0), (.slice none 0 0)])) rfl (by intro w; kernel_rfl)) (by decide) (fun a hF => ?_)
  refine ste hF (e_alloc (cs := [(.int .i64 0), (.slice none 0 0), (.slice none 0 0)]) hS ti_36 rfl) (by decide) (fun v w a hR hF => ?_)
  obtain ⟨g3, rfl, hS⟩ := hR
  refine ste0 hF (e_stb (i := 0) (l := []) (m := [(.int .i64 0), (.slice none 0 0), (.slice none 0 0)]) (r := []) (m' := [(.int .i64 (w64 (1 + x1.1))), (.slice none 0 0), (.slice none 0 0)]) (cs' := [(.int .i64 (w64 (1 + x1.1))), (.slice none 0 0), (.slice none 0 0)]) hS rfl rfl rfl ti_36 rfl rfl rfl rfl rfl (one_cons rfl (one_cons rfl (one_cons rfl one_nil))) rfl) (fun v w a hR hF => ?_)
  have hS : St e s2 w [pt g3 36 ([(.int .i64 (w64 (1 + x1.1))), (.slice none 0 0), (.slice none 0 0)]), pt g1 139 ([v2, (.int .i64 x1.2.2.1), (.int .i64 x1.2.2.2)]), pt g2 36 ([(.int .i64 0), (.slice none 0 0), (.slice none 0 0)])] := hR
  refine nilN ?_
  refine xn ?_
  obtain ⟨x30, H, HK1⟩ := hb H
  refine sqj (fun a w => ∃ (x2 : (List Int)) (x14 : (List Int)) (x15 : Int) (x16 : Int) (s3 : HF) (v3 : Value) (v4 : Value) , St e s3 w [pt g3 36 ([(.int .i64 (w64 (1 + x1.1))), v3, (.slice none 0 0)]), Ow (Kd.int .i64) 3 v3 x2, pt g1 139 ([v4, (.int .i64 x15), (.int .i64 x16)]), pt g2 36 ([(.int .i64 0), (.slice none 0 0), (.slice none 0 0)])] ∧ Fr 43 a [(0, (.pointer (some ⟨g1, 0, none⟩))), (2, (.pointer (some ⟨g2, 0, none⟩))), (3, (.pointer (some ⟨g3, 0, none⟩)))] ∧ Sub s2 s3 ∧ Sl (Kd.int .u8) s3 v4 x14 ∧ spec_l2Obj.c2 k x1 x2 x14 x15 x16 = some r) ?_ ?_
  · skip
    refine sq ?_
    refine rg ?_
    refine stp hF (p_move rfl) (by decide) (fun a hF => ?_)
    replace hS := hS.sel (is := [1, 0, 0]) (A' := [pt g1 139 ([v2, (.int .i64 x1.2.2.1), (.int .i64 x1.2.2.2)]), pt g3 36 ([(.int .i64 (w64 (1 + x1.1))), (.slice none 0 0), (.slice none 0 0)]), pt g2 36 ([(.int .i64 0), (.slice none 0 0), (.slice none 0 0)])]) rfl
    obtain ⟨x29, hx2, H⟩ := hb H
    refine ste hF (e_callA (fst := []) (vs := [(.pointer (some ⟨g1, 0, none⟩)), (.int .i64 3)]) (cap := []) rfl rfl go_145 (St.call (A := [pt g1 139 ([v2, (.int .i64 x1.2.2.1), (.int .i64 x1.2.2.2)])]) (B := [pt g3 36 ([(.int .i64 (w64 (1 + x1.1))), (.slice none 0 0), (.slice none 0 0)]), pt g2 36 ([(.int .i64 0), (.slice none 0 0), (.slice none 0 0)])]) hS (spec_l1Below.spec k _ _ x1.2.1 x1.2.2.1 x1.2.2.2 3 v2 g1 h2 _ hx2)) rfl) (by decide) (fun v w a hR hF => ?_)
    obtain ⟨s4, A3, hg2, hS, hR⟩ := hR
    obtain ⟨v5, hv2, rfl, h3⟩ := hR; obtain rfl := hv2.symm
    have hS : St e s4 w [pt g1 139 ([v5, (.int .i64 x29.2.2.1), (.int .i64 x29.2.2.2)]), pt g3 36 ([(.int .i64 (w64 (1 + x1.1))), (.slice none 0 0), (.slice none 0 0)]), pt g2 36 ([(.int .i64 0), (.slice none 0 0), (.slice none 0 0)])] := hS
    refine stp hF (p_assign rfl) (by decide) (fun a hF => ?_)
    refine nilN ?_
    refine xn ?_
    refine blk ?_
    refine loop_ind (fun k1 a w => ∃ (x19 : (List Int)) (x20 : Int) (x21 : Int) (x22 : (List Int)) (x23 : Int) (s5 : HF) (v6 : Value) (v7 : Value) , St e s5 w [pt g1 139 ([v6, (.int .i64 x20), (.int .i64 x21)]), pt g3 36 ([(.int .i64 (w64 (1 + x1.1))), v7, (.slice none 0 0)]), Ow (Kd.int .i64) 3 v7 x22, pt g2 36 ([(.int .i64 0), (.slice none 0 0), (.slice none 0 0)])] ∧ Fr 43 a [(0, (.pointer (some ⟨g1, 0, none⟩))), (2, (.pointer (some ⟨g2, 0, none⟩))), (3, (.pointer (some ⟨g3, 0, none⟩))), (4, (.int .i64 x23))] ∧ Sub s4 s5 ∧ Sl (Kd.int .u8) s5 v6 x19 ∧ spec_l2Obj.l2 k1 x19 x20 x21 x22 x23 = some x30) k ?_ ?_ ?_
    · skip
      replace hS := hS.ownNil (Kd.int .i64) 3 none
      replace hS := hS.sel (is := [1, 1, 0, 0]) (A' := [pt g1 139 ([v5, (.int .i64 x29.2.2.1), (.int .i64 x29.2.2.2)]), pt g3 36 ([(.int .i64 (w64 (1 + x1.1))), (.slice none 0 0), (.slice none 0 0)]), Ow (Kd.int .i64) 3 (.slice none 0 0) ([] : List Int), pt g2 36 ([(.int .i64 0), (.slice none 0 0), (.slice none 0 0)])]) rfl
      exact ⟨x29.2.1, x29.2.2.1, x29.2.2.2, ([] : List Int), x29.1, s4, v5, (.slice none 0 0), hS, hF.cut ⟨rfl, rfl, rfl, rfl, trivial⟩, (Sub.refl _), h3, H⟩
    · clear H hS hF
      rintro a w ⟨x19, x20, x21, x22, x23, s5, v6, v7, hS, hF, hg3, h4, H⟩
      exact absurd (show none = some _ from H) (by simp)
    · clear H hS hF
      rintro k1 a w ⟨x19, x20, x21, x22, x23, s5, v6, v7, hS, hF, hg3, h4, H⟩
      rw [spec_l2Obj.l2.eq_2] at H
      refine sq ?_
      refine sq ?_
      refine rg ?_
      refine stp hF (p_move rfl) (by decide) (fun a hF => ?_)
      refine stp hF (p_gtr rfl rfl) (by decide) (fun a hF => ?_)
      refine nilN ?_
      refine xn ?_
      refine cnd hF rfl (fun hc1 => ?_) (fun hc1 => ?_)
      · replace H := hbt hc1 H
        refine skN ?_
        refine xn ?_
        refine sq ?_
        refine blk ?_
        replace hS : St e s5 w.drew [pt g1 139 ([v6, (.int .i64 x20), (.int .i64 x21)]), pt g3 36 ([(.int .i64 (w64 (1 + x1.1))), v7, (.slice none 0 0)]), Ow (Kd.int .i64) 3 v7 x22, pt g2 36 ([(.int .i64 0), (.slice none 0 0), (.slice none 0 0)])] := hS.drewN 1
        refine drw [0, 1, 2, 3, 4, 5, 6, 7, 8, 9, 10] mixed (by kernel_rfl) (by decide) (hF.cut (L' := [(0, (.pointer (some ⟨g1, 0, none⟩))), (2, (.pointer (some ⟨g2, 0, none⟩))), (3, (.pointer (some ⟨g3, 0, none⟩))), (4, (.int .i64 x23)), (12, (.int .i64 x23)), (13, (.bool (decide (0 < x23))))]) ⟨rfl, rfl, rfl, rfl, rfl, rfl, trivial⟩) ?_
        clear hF
        generalize w.drew = w at hS ⊢
        refine pk1 rfl (by decide) rfl (by kernel_rfl) rfl (p_fldb (o' := 1) rfl fi_36_1 rfl) ?_
        refine pk1 rfl (by decide) rfl (by kernel_rfl) rfl (p_ldb_one (i := 1) hS rfl rfl ia_34 rfl) ?_
        refine pk1 rfl (by decide) rfl (by kernel_rfl) rfl (p_move rfl) ?_
        refine pk1 rfl (by decide) rfl (by kernel_rfl) rfl (p_move rfl) ?_
        obtain ⟨x24, hx3, H⟩ := hb H
        refine pkE [2, 1, 0] rfl (by decide) (by kernel_rfl) (by kernel_rfl) (e_callA (fst := []) (vs := [(.pointer (some ⟨g1, 0, none⟩)), (.int .i64 50)]) (cap := []) rfl rfl go_145 (St.call (A := [pt g1 139 ([v6, (.int .i64 x20), (.int .i64 x21)])]) (B := [pt g3 36 ([(.int .i64 (w64 (1 + x1.1))), v7, (.slice none 0 0)]), Ow (Kd.int .i64) 3 v7 x22, pt g2 36 ([(.int .i64 0), (.slice none 0 0), (.slice none 0 0)])]) hS (spec_l1Below.spec k1 _ _ x19 x20 x21 50 v6 g1 h4 _ hx3)) rfl) ?_
        intro v w hR
        obtain ⟨s6, A4, hg4, hS, hR⟩ := hR
        obtain ⟨v8, hv3, rfl, h5⟩ := hR; obtain rfl := hv3.symm
        have hS : St e s6 w [pt g1 139 ([v8, (.int .i64 x24.2.2.1), (.int .i64 x24.2.2.2)]), pt g3 36 ([(.int .i64 (w64 (1 + x1.1))), v7, (.slice none 0 0)]), Ow (Kd.int .i64) 3 v7 x22, pt g2 36 ([(.int .i64 0), (.slice none 0 0), (.slice none 0 0)])] := hS
        refine ⟨⟨knw rfl rfl rfl (p_move rfl), ⟨knw rfl rfl rfl (p_ldb_one (i := 1) hS rfl rfl ia_34 rfl), ⟨knw rfl rfl rfl (p_fldb (o' := 1) rfl fi_36_1 rfl), trivial⟩⟩⟩, ?_⟩
        refine pkE [2, 1, 0] rfl (by decide) (by kernel_rfl) (by kernel_rfl) (e_bslice (kd := (Kd.int .i64)) (et := 3) (ps := [(0, (.const (.int .i64 0))), (1, (.const (.int .i64 1))), (2, (.const (.int .i64 (-1)))), (3, (.const (.int .i64 7))), (4, (.const (.int .i64 1000000))), (5, (.const (.int .i64 (-1000000)))), (6, (.tmp 20))]) (vs := [(0, (.int .i64 0)), (1, (.int .i64 1)), (2, (.int .i64 (-1))), (3, (.int .i64 7)), (4, (.int .i64 1000000)), (5, (.int .i64 (-1000000))), (6, (.int .i64 x24.1))]) (cs := [(.int .i64 0), (.int .i64 1), (.int .i64 (-1)), (.int .i64 7), (.int .i64 1000000), (.int .i64 (-1000000)), (.int .i64 x24.1)]) (xs := ([0, 1, (-1), 7, 1000000, (-1000000), x24.1] : List Int)) hS rfl (by intro w; kernel_rfl) rfl (by decide) (Nat.le_of_ble_eq_true rfl) (by exact (rows_cons (kd := (Kd.int .i64)) (x := 0) (c := [(.int .i64 0)]) (cs := [(.int .i64 1), (.int .i64 (-1)), (.int .i64 7), (.int .i64 1000000), (.int .i64 (-1000000)), (.int .i64 x24.1)]) rfl (rows_cons (kd := (Kd.int .i64)) (x := 1) (c := [(.int .i64 1)]) (cs := [(.int .i64 (-1)), (.int .i64 7), (.int .i64 1000000), (.int .i64 (-1000000)), (.int .i64 x24.1)]) rfl (rows_cons (kd := (Kd.int .i64)) (x := (-1)) (c := [(.int .i64 (-1))]) (cs := [(.int .i64 7), (.int .i64 1000000), (.int .i64 (-1000000)), (.int .i64 x24.1)]) rfl (rows_cons (kd := (Kd.int .i64)) (x := 7) (c := [(.int .i64 7)]) (cs := [(.int .i64 1000000), (.int .i64 (-1000000)), (.int .i64 x24.1)]) rfl (rows_cons (kd := (Kd.int .i64)) (x := 1000000) (c := [(.int .i64 1000000)]) (cs := [(.int .i64 (-1000000)), (.int .i64 x24.1)]) rfl (rows_cons (kd := (Kd.int .i64)) (x := (-1000000)) (c := [(.int .i64 (-1000000))]) (cs := [(.int .i64 x24.1)]) rfl (rows_cons (kd := (Kd.int .i64)) (x := x24.1) (c := [(.int .i64 x24.1)]) (cs := []) rfl (Rows.nil _ _ _ _)))))))))) ?_
        intro v9 w hR
        have hS : St e s6 w [Ow (Kd.int .i64) 3 v9 ([0, 1, (-1), 7, 1000000, (-1000000), x24.1] : List Int), pt g1 139 ([v8, (.int .i64 x24.2.2.1), (.int .i64 x24.2.2.2)]), pt g3 36 ([(.int .i64 (w64 (1 + x1.1))), v7, (.slice none 0 0)]), Ow (Kd.int .i64) 3 v7 x22, pt g2 36 ([(.int .i64 0), (.slice none 0 0), (.slice none 0 0)])] := hR
        refine ⟨⟨knw rfl rfl rfl (p_move rfl), ⟨knw rfl rfl rfl (p_ldb_one (i := 2) hS rfl rfl ia_34 rfl), ⟨knw rfl rfl rfl (p_fldb (o' := 1) rfl fi_36_1 rfl), trivial⟩⟩⟩, ?_⟩
        obtain ⟨s7, hg5, h6, hS⟩ := hS.freeze (i := 0) (kd := (Kd.int .i64)) (et := 3) (v := v9) (xs := ([0, 1, (-1), 7, 1000000, (-1000000), x24.1] : List Int)) (B := [pt g1 139 ([v8, (.int .i64 x24.2.2.1), (.int .i64 x24.2.2.2)]), pt g3 36 ([(.int .i64 (w64 (1 + x1.1))), v7, (.slice none 0 0)]), Ow (Kd.int .i64) 3 v7 x22, pt g2 36 ([(.int .i64 0), (.slice none 0 0), (.slice none 0 0)])]) rfl
        obtain ⟨x25, hx4, H⟩ := hb H
        refine pkE [1, 0] rfl (by decide) (by kernel_rfl) (by kernel_rfl) (e_callA (fst := []) (vs := [(.pointer (some ⟨g1, 0, none⟩)), v9]) (cap := []) rfl rfl go_92 (St.call (A := [pt g1 139 ([v8, (.int .i64 x24.2.2.1), (.int .i64 x24.2.2.2)])]) (B := [pt g3 36 ([(.int .i64 (w64 (1 + x1.1))), v7, (.slice none 0 0)]), Ow (Kd.int .i64) 3 v7 x22, pt g2 36 ([(.int .i64 0), (.slice none 0 0), (.slice none 0 0)])]) hS (spec_l1Int.spec k1 _ _ x24.2.1 x24.2.2.1 x24.2.2.2 ([0, 1, (-1), 7, 1000000, (-1000000), x24.1] : List Int) v8 g1 v9 (h5.mono hg5) h6 _ hx4)) rfl) ?_
        intro v w hR
        obtain ⟨s8, A5, hg6, hS, hR⟩ := hR
        obtain ⟨v10, hv4, rfl, h7⟩ := hR; obtain rfl := hv4.symm
        have hS : St e s8 w [pt g1 139 ([v10, (.int .i64 x25.2.2.1), (.int .i64 x25.2.2.2)]), pt g3 36 ([(.int .i64 (w64 (1 + x1.1))), v7, (.slice none 0 0)]), Ow (Kd.int .i64) 3 v7 x22, pt g2 36 ([(.int .i64 0), (.slice none 0 0), (.slice none 0 0)])] := hS
        refine ⟨⟨knw rfl rfl rfl (p_ldb_one (i := 1) hS rfl rfl ia_34 rfl), ⟨knw rfl rfl rfl (p_fldb (o' := 1) rfl fi_36_1 rfl), trivial⟩⟩, ?_⟩
        refine pkE [1, 0] rfl (by decide) (by kernel_rfl) (by kernel_rfl) (e_bslice (kd := (Kd.int .i64)) (et := 3) (ps := [(0, (.tmp 22))]) (vs := [(0, (.int .i64 x25.1))]) (cs := [(.int .i64 x25.1)]) (xs := ([x25.1] : List Int)) hS rfl (by intro w; kernel_rfl) rfl (by decide) (Nat.le_of_ble_eq_true rfl) (by exact (rows_cons (kd := (Kd.int .i64)) (x := x25.1) (c := [(.int .i64 x25.1)]) (cs := []) rfl (Rows.nil _ _ _ _)))) ?_
        intro v11 w hR
        have hS : St e s8 w [Ow (Kd.int .i64) 3 v11 ([x25.1] : List Int), pt g1 139 ([v10, (.int .i64 x25.2.2.1), (.int .i64 x25.2.2.2)]), pt g3 36 ([(.int .i64 (w64 (1 + x1.1))), v7, (.slice none 0 0)]), Ow (Kd.int .i64) 3 v7 x22, pt g2 36 ([(.int .i64 0), (.slice none 0 0), (.slice none 0 0)])] := hR
        refine ⟨⟨knw rfl rfl rfl (p_ldb_one (i := 2) hS rfl rfl ia_34 rfl), ⟨knw rfl rfl rfl (p_fldb (o' := 1) rfl fi_36_1 rfl), trivial⟩⟩, ?_⟩
        obtain ⟨hq1, H⟩ := hck H
        refine pkE [0] rfl (by decide) (by kernel_rfl) (by kernel_rfl) (e_append (n := 3) hS rfl rfl rfl (hS.src (n := 0) rfl) un_34 ti_3 rfl (by decide) (by decide) (Nat.le_trans (Nat.mul_le_mul_right 8 hq1) (by decide))) ?_
        intro v12 w hR
        have hS : St e s8 w [Ow (Kd.int .i64) 3 v12 (x22 ++ ([x25.1] : List Int)), Ow (Kd.int .i64) 3 v11 ([x25.1] : List Int), pt g1 139 ([v10, (.int .i64 x25.2.2.1), (.int .i64 x25.2.2.2)]), pt g3 36 ([(.int .i64 (w64 (1 + x1.1))), v7, (.slice none 0 0)]), pt g2 36 ([(.int .i64 0), (.slice none 0 0), (.slice none 0 0)])] := hR
        replace hS := hS.sel (is := [0, 1, 1, 1]) (A' := [Ow (Kd.int .i64) 3 v12 (x22 ++ ([x25.1] : List Int)), pt g1 139 ([v10, (.int .i64 x25.2.2.1), (.int .i64 x25.2.2.2)]), pt g3 36 ([(.int .i64 (w64 (1 + x1.1))), v7, (.slice none 0 0)]), pt g2 36 ([(.int .i64 0), (.slice none 0 0), (.slice none 0 0)])]) rfl
        refine ⟨⟨knw rfl rfl rfl (p_fldb (o' := 1) rfl fi_36_1 rfl), trivial⟩, ?_⟩
        refine pk1 rfl (by decide) rfl (by kernel_rfl) rfl (p_fldb (o' := 1) rfl fi_36_1 rfl) ?_
        refine pkE0 [] rfl (by kernel_rfl) (by kernel_rfl) (e_stb (i := 2) (l := [(.int .i64 (w64 (1 + x1.1)))]) (m := [v7]) (r := [(.slice none 0 0)]) (m' := [v12]) (cs' := [(.int .i64 (w64 (1 + x1.1))), v12, (.slice none 0 0)]) hS rfl rfl rfl ti_34 rfl rfl rfl (cells_one (hS.one_ow (i := 0) rfl)) rfl (one_cons (hS.one_ow (i := 0) rfl) one_nil) rfl) ?_
        intro v w hR
        have hS : St e s8 w [pt g3 36 ([(.int .i64 (w64 (1 + x1.1))), v12, (.slice none 0 0)]), Ow (Kd.int .i64) 3 v12 (x22 ++ ([x25.1] : List Int)), pt g1 139 ([v10, (.int .i64 x25.2.2.1), (.int .i64 x25.2.2.2)]), pt g2 36 ([(.int .i64 0), (.slice none 0 0), (.slice none 0 0)])] := hR
        refine ⟨trivial, ?_⟩
        refine pkF (fun a hF => ?_)
        refine bn (xn ?_)
        refine rg ?_
        refine stp hF (p_move rfl) (by decide) (fun a hF => ?_)
        refine stp hF (p_sub (c := w64 (x23 - 1)) rfl rfl rfl) (by decide) (fun a hF => ?_)
        refine stp hF (p_assign rfl) (by decide) (fun a hF => ?_)
        refine nilN ?_
        refine xn ?_
        replace hS := hS.sel (is := [2, 0, 0, 0]) (A' := [pt g1 139 ([v10, (.int .i64 x25.2.2.1), (.int .i64 x25.2.2.2)]), pt g3 36 ([(.int .i64 (w64 (1 + x1.1))), v12, (.slice none 0 0)]), Ow (Kd.int .i64) 3 v12 (x22 ++ ([x25.1] : List Int)), pt g2 36 ([(.int .i64 0), (.slice none 0 0), (.slice none 0 0)])]) rfl
        exact ⟨x25.2.1, x25.2.2.1, x25.2.2.2, (x22 ++ ([x25.1] : List Int)), (w64 (x23 - 1)), s8, v10, v12, hS, hF.cut ⟨rfl, rfl, rfl, rfl, trivial⟩, (((hg3.trans hg4).trans hg5).trans hg6), h7, H⟩
      · replace H := hbf hc1 H
        refine exi ?_
        refine xe (xe (hit (xn ?_)))
        obtain rfl := hsm H
        replace hS := hS.sel (is := [1, 1, 0, 0]) (A' := [pt g3 36 ([(.int .i64 (w64 (1 + x1.1))), v7, (.slice none 0 0)]), Ow (Kd.int .i64) 3 v7 x22, pt g1 139 ([v6, (.int .i64 x20), (.int .i64 x21)]), pt g2 36 ([(.int .i64 0), (.slice none 0 0), (.slice none 0 0)])]) rfl
        exact ⟨x22, x19, x20, x21, s5, v7, v6, hS, hF.cut ⟨rfl, rfl, rfl, trivial⟩, (hg2.trans hg3), h4, HK1⟩
  · clear H HK1 hS hF
    rintro a w ⟨x2, x14, x15, x16, s3, v3, v4, hS, hF, hg7, h8, H⟩
    unfold spec_l2Obj.c2 at H
    obtain ⟨x18, H, HK2⟩ := hb H
    refine sqj (fun a w => ∃ (x3 : (List Int)) (x4 : (List Int)) (x5 : Int) (x6 : Int) (s9 : HF) (v13 : Value) (v14 : Value) , St e s9 w [pt g3 36 ([(.int .i64 (w64 (1 + x1.1))), v3, v13]), Ow (Kd.int .i64) 3 v13 x3, Ow (Kd.int .i64) 3 v3 x2, pt g1 139 ([v14, (.int .i64 x5), (.int .i64 x6)]), pt g2 36 ([(.int .i64 0), (.slice none 0 0), (.slice none 0 0)])] ∧ Fr 43 a [(2, (.pointer (some ⟨g2, 0, none⟩))), (3, (.pointer (some ⟨g3, 0, none⟩)))] ∧ Sub s3 s9 ∧ Sl (Kd.int .u8) s9 v14 x4 ∧ spec_l2Obj.c1 k x1 x2 x3 x4 x5 x6 = some r) ?_ ?_
    · skip
      refine sq ?_
      refine rg ?_
      refine stp hF (p_move rfl) (by decide) (fun a hF => ?_)
      replace hS := hS.sel (is := [2, 0, 0, 0]) (A' := [pt g1 139 ([v4, (.int .i64 x15), (.int .i64 x16)]), pt g3 36 ([(.int .i64 (w64 (1 + x1.1))), v3, (.slice none 0 0)]), Ow (Kd.int .i64) 3 v3 x2, pt g2 36 ([(.int .i64 0), (.slice none 0 0), (.slice none 0 0)])]) rfl
      obtain ⟨x17, hx5, H⟩ := hb H
      refine ste hF (e_callA (fst := []) (vs := [(.pointer (some ⟨g1, 0, none⟩)), (.int .i64 4)]) (cap := []) rfl rfl go_145 (St.call (A := [pt g1 139 ([v4, (.int .i64 x15), (.int .i64 x16)])]) (B := [pt g3 36 ([(.int .i64 (w64 (1 + x1.1))), v3, (.slice none 0 0)]), Ow (Kd.int .i64) 3 v3 x2, pt g2 36 ([(.int .i64 0), (.slice none 0 0), (.slice none 0 0)])]) hS (spec_l1Below.spec k _ _ x14 x15 x16 4 v4 g1 h8 _ hx5)) rfl) (by decide) (fun v w a hR hF => ?_)
      obtain ⟨s10, A6, hg8, hS, hR⟩ := hR
      obtain ⟨v15, hv5, rfl, h9⟩ := hR; obtain rfl := hv5.symm
      have hS : St e s10 w [pt g1 139 ([v15, (.int .i64 x17.2.2.1), (.int .i64 x17.2.2.2)]), pt g3 36 ([(.int .i64 (w64 (1 + x1.1))), v3, (.slice none 0 0)]), Ow (Kd.int .i64) 3 v3 x2, pt g2 36 ([(.int .i64 0), (.slice none 0 0), (.slice none 0 0)])] := hS
      refine stp hF (p_assign rfl) (by decide) (fun a hF => ?_)
      refine nilN ?_
      refine xn ?_
      refine blk ?_
      refine loop_ind (fun k2 a w => ∃ (x7 : (List Int)) (x8 : Int) (x9 : Int) (x10 : (List Int)) (x11 : Int) (s11 : HF) (v16 : Value) (v17 : Value) , St e s11 w [pt g1 139 ([v16, (.int .i64 x8), (.int .i64 x9)]), pt g3 36 ([(.int .i64 (w64 (1 + x1.1))), v3, v17]), Ow (Kd.int .i64) 3 v17 x10, Ow (Kd.int .i64) 3 v3 x2, pt g2 36 ([(.int .i64 0), (.slice none 0 0), (.slice none 0 0)])] ∧ Fr 43 a [(0, (.pointer (some ⟨g1, 0, none⟩))), (2, (.pointer (some ⟨g2, 0, none⟩))), (3, (.pointer (some ⟨g3, 0, none⟩))), (5, (.int .i64 x11))] ∧ Sub s10 s11 ∧ Sl (Kd.int .u8) s11 v16 x7 ∧ spec_l2Obj.l1 k2 x7 x8 x9 x10 x11 = some x18) k ?_ ?_ ?_
      · skip
        replace hS := hS.ownNil (Kd.int .i64) 3 none
        replace hS := hS.sel (is := [1, 1, 0, 0, 0]) (A' := [pt g1 139 ([v15, (.int .i64 x17.2.2.1), (.int .i64 x17.2.2.2)]), pt g3 36 ([(.int .i64 (w64 (1 + x1.1))), v3, (.slice none 0 0)]), Ow (Kd.int .i64) 3 (.slice none 0 0) ([] : List Int), Ow (Kd.int .i64) 3 v3 x2, pt g2 36 ([(.int .i64 0), (.slice none 0 0), (.slice none 0 0)])]) rfl
        exact ⟨x17.2.1, x17.2.2.1, x17.2.2.2, ([] : List Int), x17.1, s10, v15, (.slice none 0 0), hS, hF.cut ⟨rfl, rfl, rfl, rfl, trivial⟩, (Sub.refl _), h9, H⟩
      · clear H hS hF
        rintro a w ⟨x7, x8, x9, x10, x11, s11, v16, v17, hS, hF, hg9, h10, H⟩
        exact absurd (show none = some _ from H) (by simp)
      · clear H hS hF
        rintro k2 a w ⟨x7, x8, x9, x10, x11, s11, v16, v17, hS, hF, hg9, h10, H⟩
        rw [spec_l2Obj.l1.eq_2] at H
        refine sq ?_
        refine sq ?_
        refine rg ?_
        refine stp hF (p_move rfl) (by decide) (fun a hF => ?_)
        refine stp hF (p_gtr rfl rfl) (by decide) (fun a hF => ?_)
        refine nilN ?_
        refine xn ?_
        refine cnd hF rfl (fun hc2 => ?_) (fun hc2 => ?_)
        · replace H := hbt hc2 H
          refine skN ?_
          refine xn ?_
          refine sq ?_
          refine blk ?_
          replace hS : St e s11 w.drew [pt g1 139 ([v16, (.int .i64 x8), (.int .i64 x9)]), pt g3 36 ([(.int .i64 (w64 (1 + x1.1))), v3, v17]), Ow (Kd.int .i64) 3 v17 x10, Ow (Kd.int .i64) 3 v3 x2, pt g2 36 ([(.int .i64 0), (.slice none 0 0), (.slice none 0 0)])] := hS.drewN 1
          refine drw [0, 1, 2, 3, 4, 5, 6, 7, 8, 9, 10] mixed (by kernel_rfl) (by decide) (hF.cut (L' := [(0, (.pointer (some ⟨g1, 0, none⟩))), (2, (.pointer (some ⟨g2, 0, none⟩))), (3, (.pointer (some ⟨g3, 0, none⟩))), (5, (.int .i64 x11)), (28, (.int .i64 x11)), (29, (.bool (decide (0 < x11))))]) ⟨rfl, rfl, rfl, rfl, rfl, rfl, trivial⟩) ?_
          clear hF
          generalize w.drew = w at hS ⊢
          refine pk1 rfl (by decide) rfl (by kernel_rfl) rfl (p_fldb (o' := 2) rfl fi_36_2 rfl) ?_
          refine pk1 rfl (by decide) rfl (by kernel_rfl) rfl (p_ldb_one (i := 1) hS rfl rfl ia_34 rfl) ?_
          refine pk1 rfl (by decide) rfl (by kernel_rfl) rfl (p_move rfl) ?_
          refine pk1 rfl (by decide) rfl (by kernel_rfl) rfl (p_move rfl) ?_
          obtain ⟨x12, hx6, H⟩ := hb H
          refine pkE [2, 1, 0] rfl (by decide) (by kernel_rfl) (by kernel_rfl) (e_callA (fst := []) (vs := [(.pointer (some ⟨g1, 0, none⟩)), (.int .i64 32)]) (cap := []) rfl rfl go_145 (St.call (A := [pt g1 139 ([v16, (.int .i64 x8), (.int .i64 x9)])]) (B := [pt g3 36 ([(.int .i64 (w64 (1 + x1.1))), v3, v17]), Ow (Kd.int .i64) 3 v17 x10, Ow (Kd.int .i64) 3 v3 x2, pt g2 36 ([(.int .i64 0), (.slice none 0 0), (.slice none 0 0)])]) hS (spec_l1Below.spec k2 _ _ x7 x8 x9 32 v16 g1 h10 _ hx6)) rfl) ?_
          intro v w hR
          obtain ⟨s12, A7, hg10, hS, hR⟩ := hR
          obtain ⟨v18, hv6, rfl, h11⟩ := hR; obtain rfl := hv6.symm
          have hS : St e s12 w [pt g1 139 ([v18, (.int .i64 x12.2.2.1), (.int .i64 x12.2.2.2)]), pt g3 36 ([(.int .i64 (w64 (1 + x1.1))), v3, v17]), Ow (Kd.int .i64) 3 v17 x10, Ow (Kd.int .i64) 3 v3 x2, pt g2 36 ([(.int .i64 0), (.slice none 0 0), (.slice none 0 0)])] := hS
          refine ⟨⟨knw rfl rfl rfl (p_move rfl), ⟨knw rfl rfl rfl (p_ldb_one (i := 1) hS rfl rfl ia_34 rfl), ⟨knw rfl rfl rfl (p_fldb (o' := 2) rfl fi_36_2 rfl), trivial⟩⟩⟩, ?_⟩
          refine pkE [2, 1, 0] rfl (by decide) (by kernel_rfl) (by kernel_rfl) (e_bslice (kd := (Kd.int .i64)) (et := 3) (ps := [(0, (.const (.int .i64 0))), (1, (.const (.int .i64 1))), (2, (.const (.int .i64 2))), (3, (.const (.int .i64 3))), (4, (.const (.int .i64 5))), (5, (.const (.int .i64 8))), (6, (.const (.int .i64 12))), (7, (.const (.int .i64 31))), (8, (.tmp 36))]) (vs := [(0, (.int .i64 0)), (1, (.int .i64 1)), (2, (.int .i64 2)), (3, (.int .i64 3)), (4, (.int .i64 5)), (5, (.int .i64 8)), (6, (.int .i64 12)), (7, (.int .i64 31)), (8, (.int .i64 x12.1))]) (cs := [(.int .i64 0), (.int .i64 1), (.int .i64 2), (.int .i64 3), (.int .i64 5), (.int .i64 8), (.int .i64 12), (.int .i64 31), (.int .i64 x12.1)]) (xs := ([0, 1, 2, 3, 5, 8, 12, 31, x12.1] : List Int)) hS rfl (by intro w; kernel_rfl) rfl (by decide) (Nat.le_of_ble_eq_true rfl) (by exact (rows_cons (kd := (Kd.int .i64)) (x := 0) (c := [(.int .i64 0)]) (cs := [(.int .i64 1), (.int .i64 2), (.int .i64 3), (.int .i64 5), (.int .i64 8), (.int .i64 12), (.int .i64 31), (.int .i64 x12.1)]) rfl (rows_cons (kd := (Kd.int .i64)) (x := 1) (c := [(.int .i64 1)]) (cs := [(.int .i64 2), (.int .i64 3), (.int .i64 5), (.int .i64 8), (.int .i64 12), (.int .i64 31), (.int .i64 x12.1)]) rfl (rows_cons (kd := (Kd.int .i64)) (x := 2) (c := [(.int .i64 2)]) (cs := [(.int .i64 3), (.int .i64 5), (.int .i64 8), (.int .i64 12), (.int .i64 31), (.int .i64 x12.1)]) rfl (rows_cons (kd := (Kd.int .i64)) (x := 3) (c := [(.int .i64 3)]) (cs := [(.int .i64 5), (.int .i64 8), (.int .i64 12), (.int .i64 31), (.int .i64 x12.1)]) rfl (rows_cons (kd := (Kd.int .i64)) (x := 5) (c := [(.int .i64 5)]) (cs := [(.int .i64 8), (.int .i64 12), (.int .i64 31), (.int .i64 x12.1)]) rfl (rows_cons (kd := (Kd.int .i64)) (x := 8) (c := [(.int .i64 8)]) (cs := [(.int .i64 12), (.int .i64 31), (.int .i64 x12.1)]) rfl (rows_cons (kd := (Kd.int .i64)) (x := 12) (c := [(.int .i64 12)]) (cs := [(.int .i64 31), (.int .i64 x12.1)]) rfl (rows_cons (kd := (Kd.int .i64)) (x := 31) (c := [(.int .i64 31)]) (cs := [(.int .i64 x12.1)]) rfl (rows_cons (kd := (Kd.int .i64)) (x := x12.1) (c := [(.int .i64 x12.1)]) (cs := []) rfl (Rows.nil _ _ _ _)))))))))))) ?_
          intro v19 w hR
          have hS : St e s12 w [Ow (Kd.int .i64) 3 v19 ([0, 1, 2, 3, 5, 8, 12, 31, x12.1] : List Int), pt g1 139 ([v18, (.int .i64 x12.2.2.1), (.int .i64 x12.2.2.2)]), pt g3 36 ([(.int .i64 (w64 (1 + x1.1))), v3, v17]), Ow (Kd.int .i64) 3 v17 x10, Ow (Kd.int .i64) 3 v3 x2, pt g2 36 ([(.int .i64 0), (.slice none 0 0), (.slice none 0 0)])] := hR
          refine ⟨⟨knw rfl rfl rfl (p_move rfl), ⟨knw rfl rfl rfl (p_ldb_one (i := 2) hS rfl rfl ia_34 rfl), ⟨knw rfl rfl rfl (p_fldb (o' := 2) rfl fi_36_2 rfl), trivial⟩⟩⟩, ?_⟩
          obtain ⟨s13, hg11, h12, hS⟩ := hS.freeze (i := 0) (kd := (Kd.int .i64)) (et := 3) (v := v19) (xs := ([0, 1, 2, 3, 5, 8, 12, 31, x12.1] : List Int)) (B := [pt g1 139 ([v18, (.int .i64 x12.2.2.1), (.int .i64 x12.2.2.2)]), pt g3 36 ([(.int .i64 (w64 (1 + x1.1))), v3, v17]), Ow (Kd.int .i64) 3 v17 x10, Ow (Kd.int .i64) 3 v3 x2, pt g2 36 ([(.int .i64 0), (.slice none 0 0), (.slice none 0 0)])]) rfl
          obtain ⟨x13, hx7, H⟩ := hb H
          refine pkE [1, 0] rfl (by decide) (by kernel_rfl) (by kernel_rfl) (e_callA (fst := []) (vs := [(.pointer (some ⟨g1, 0, none⟩)), v19]) (cap := []) rfl rfl go_92 (St.call (A := [pt g1 139 ([v18, (.int .i64 x12.2.2.1), (.int .i64 x12.2.2.2)])]) (B := [pt g3 36 ([(.int .i64 (w64 (1 + x1.1))), v3, v17]), Ow (Kd.int .i64) 3 v17 x10, Ow (Kd.int .i64) 3 v3 x2, pt g2 36 ([(.int .i64 0), (.slice none 0 0), (.slice none 0 0)])]) hS (spec_l1Int.spec k2 _ _ x12.2.1 x12.2.2.1 x12.2.2.2 ([0, 1, 2, 3, 5, 8, 12, 31, x12.1] : List Int) v18 g1 v19 (h11.mono hg11) h12 _ hx7)) rfl) ?_
          intro v w hR
          obtain ⟨s14, A8, hg12, hS, hR⟩ := hR
          obtain ⟨v20, hv7, rfl, h13⟩ := hR; obtain rfl := hv7.symm
          have hS : St e s14 w [pt g1 139 ([v20, (.int .i64 x13.2.2.1), (.int .i64 x13.2.2.2)]), pt g3 36 ([(.int .i64 (w64 (1 + x1.1))), v3, v17]), Ow (Kd.int .i64) 3 v17 x10, Ow (Kd.int .i64) 3 v3 x2, pt g2 36 ([(.int .i64 0), (.slice none 0 0), (.slice none 0 0)])] := hS
          refine ⟨⟨knw rfl rfl rfl (p_ldb_one (i := 1) hS rfl rfl ia_34 rfl), ⟨knw rfl rfl rfl (p_fldb (o' := 2) rfl fi_36_2 rfl), trivial⟩⟩, ?_⟩
          refine pkE [1, 0] rfl (by decide) (by kernel_rfl) (by kernel_rfl) (e_bslice (kd := (Kd.int .i64)) (et := 3) (ps := [(0, (.tmp 38))]) (vs := [(0, (.int .i64 x13.1))]) (cs := [(.int .i64 x13.1)]) (xs := ([x13.1] : List Int)) hS rfl (by intro w; kernel_rfl) rfl (by decide) (Nat.le_of_ble_eq_true rfl) (by exact (rows_cons (kd := (Kd.int .i64)) (x := x13.1) (c := [(.int .i64 x13.1)]) (cs := []) rfl (Rows.nil _ _ _ _)))) ?_
          intro v21 w hR
          have hS : St e s14 w [Ow (Kd.int .i64) 3 v21 ([x13.1] : List Int), pt g1 139 ([v20, (.int .i64 x13.2.2.1), (.int .i64 x13.2.2.2)]), pt g3 36 ([(.int .i64 (w64 (1 + x1.1))), v3, v17]), Ow (Kd.int .i64) 3 v17 x10, Ow (Kd.int .i64) 3 v3 x2, pt g2 36 ([(.int .i64 0), (.slice none 0 0), (.slice none 0 0)])] := hR
          refine ⟨⟨knw rfl rfl rfl (p_ldb_one (i := 2) hS rfl rfl ia_34 rfl), ⟨knw rfl rfl rfl (p_fldb (o' := 2) rfl fi_36_2 rfl), trivial⟩⟩, ?_⟩
          obtain ⟨hq2, H⟩ := hck H
          refine pkE [0] rfl (by decide) (by kernel_rfl) (by kernel_rfl) (e_append (n := 3) hS rfl rfl rfl (hS.src (n := 0) rfl) un_34 ti_3 rfl (by decide) (by decide) (Nat.le_trans (Nat.mul_le_mul_right 8 hq2) (by decide))) ?_
          intro v22 w hR
          have hS : St e s14 w [Ow (Kd.int .i64) 3 v22 (x10 ++ ([x13.1] : List Int)), Ow (Kd.int .i64) 3 v21 ([x13.1] : List Int), pt g1 139 ([v20, (.int .i64 x13.2.2.1), (.int .i64 x13.2.2.2)]), pt g3 36 ([(.int .i64 (w64 (1 + x1.1))), v3, v17]), Ow (Kd.int .i64) 3 v3 x2, pt g2 36 ([(.int .i64 0), (.slice none 0 0), (.slice none 0 0)])] := hR
          replace hS := hS.sel (is := [0, 1, 1, 1, 1]) (A' := [Ow (Kd.int .i64) 3 v22 (x10 ++ ([x13.1] : List Int)), pt g1 139 ([v20, (.int .i64 x13.2.2.1), (.int .i64 x13.2.2.2)]), pt g3 36 ([(.int .i64 (w64 (1 + x1.1))), v3, v17]), Ow (Kd.int .i64) 3 v3 x2, pt g2 36 ([(.int .i64 0), (.slice none 0 0), (.slice none 0 0)])]) rfl
          refine ⟨⟨knw rfl rfl rfl (p_fldb (o' := 2) rfl fi_36_2 rfl), trivial⟩, ?_⟩
          refine pk1 rfl (by decide) rfl (by kernel_rfl) rfl (p_fldb (o' := 2) rfl fi_36_2 rfl) ?_
          refine pkE0 [] rfl (by kernel_rfl) (by kernel_rfl) (e_stb (i := 2) (l := [(.int .i64 (w64 (1 + x1.1))), v3]) (m := [v17]) (r := []) (m' := [v22]) (cs' := [(.int .i64 (w64 (1 + x1.1))), v3, v22]) hS rfl rfl rfl ti_34 rfl rfl rfl (cells_one (hS.one_ow (i := 0) rfl)) rfl (one_cons (hS.one_ow (i := 0) rfl) one_nil) rfl) ?_
          intro v w hR
          have hS : St e s14 w [pt g3 36 ([(.int .i64 (w64 (1 + x1.1))), v3, v22]), Ow (Kd.int .i64) 3 v22 (x10 ++ ([x13.1] : List Int)), pt g1 139 ([v20, (.int .i64 x13.2.2.1), (.int .i64 x13.2.2.2)]), Ow (Kd.int .i64) 3 v3 x2, pt g2 36 ([(.int .i64 0), (.slice none 0 0), (.slice none 0 0)])] := hR
          refine ⟨trivial, ?_⟩
          refine pkF (fun a hF => ?_)
          refine bn (xn ?_)
          refine rg ?_
          refine stp hF (p_move rfl) (by decide) (fun a hF => ?_)
          refine stp hF (p_sub (c := w64 (x11 - 1)) rfl rfl rfl) (by decide) (fun a hF => ?_)
          refine stp hF (p_assign rfl) (by decide) (fun a hF => ?_)
          refine nilN ?_
          refine xn ?_
          replace hS := hS.sel (is := [2, 0, 0, 0, 0]) (A' := [pt g1 139 ([v20, (.int .i64 x13.2.2.1), (.int .i64 x13.2.2.2)]), pt g3 36 ([(.int .i64 (w64 (1 + x1.1))), v3, v22]), Ow (Kd.int .i64) 3 v22 (x10 ++ ([x13.1] : List Int)), Ow (Kd.int .i64) 3 v3 x2, pt g2 36 ([(.int .i64 0), (.slice none 0 0), (.slice none 0 0)])]) rfl
          exact ⟨x13.2.1, x13.2.2.1, x13.2.2.2, (x10 ++ ([x13.1] : List Int)), (w64 (x11 - 1)), s14, v20, v22, hS, hF.cut ⟨rfl, rfl, rfl, rfl, trivial⟩, (((hg9.trans hg10).trans hg11).trans hg12), h13, H⟩
        · replace H := hbf hc2 H
          refine exi ?_
          refine xe (xe (hit (xn ?_)))
          obtain rfl := hsm H
          replace hS := hS.sel (is := [1, 1, 1, 0, 0]) (A' := [pt g3 36 ([(.int .i64 (w64 (1 + x1.1))), v3, v17]), Ow (Kd.int .i64) 3 v17 x10, Ow (Kd.int .i64) 3 v3 x2, pt g1 139 ([v16, (.int .i64 x8), (.int .i64 x9)]), pt g2 36 ([(.int .i64 0), (.slice none 0 0), (.slice none 0 0)])]) rfl
          exact ⟨x10, x7, x8, x9, s11, v17, v16, hS, hF.cut ⟨rfl, rfl, trivial⟩, (hg8.trans hg9), h10, HK2⟩
    · clear H HK2 hS hF
      rintro a w ⟨x3, x4, x5, x6, s9, v13, v14, hS, hF, hg13, h14, H⟩
      unfold spec_l2Obj.c1 at H
      refine sq ?_
      refine rg ?_
      refine stp hF (p_ldb_agg (i := 0) (l := []) (m := [(.int .i64 (w64 (1 + x1.1))), v3, v13]) (r := []) hS rfl rfl ia_36 ti_36 rfl rfl rfl) (by decide) (fun a hF => ?_)
      refine ste0 hF (e_stb (i := 4) (l := []) (m := [(.int .i64 0), (.slice none 0 0), (.slice none 0 0)]) (r := []) (m' := [(.int .i64 (w64 (1 + x1.1))), v3, v13]) (cs' := [(.int .i64 (w64 (1 + x1.1))), v3, v13]) hS rfl rfl rfl ti_36 rfl rfl rfl rfl rfl (one_cons rfl (one_cons (hS.one_ow (i := 2) rfl) (one_cons (hS.one_ow (i := 1) rfl) one_nil))) rfl) (fun v w a hR hF => ?_)
      have hS : St e s9 w [pt g2 36 ([(.int .i64 (w64 (1 + x1.1))), v3, v13]), pt g3 36 ([(.int .i64 (w64 (1 + x1.1))), v3, v13]), Ow (Kd.int .i64) 3 v13 x3, Ow (Kd.int .i64) 3 v3 x2, pt g1 139 ([v14, (.int .i64 x5), (.int .i64 x6)])] := hR
      refine nilN ?_
      refine xn ?_
      refine rt ?_
      obtain rfl := hsm H
      have h15 : RvOk Try.prog _ w (.cell 2 36) _ := rvC (i := 0) hS rfl (show lk [(2, (.pointer (some ⟨g2, 0, none⟩)))] 2 = _ from rfl) ia_36 ti_36 rfl
      replace hS := hS.sel (is := [4, 3, 2]) (A' := [pt g1 139 ([v14, (.int .i64 x5), (.int .i64 x6)]), Ow (Kd.int .i64) 3 v3 x2, Ow (Kd.int .i64) 3 v13 x3]) rfl
      exact retc1 hF rfl h15 hS ⟨v14, v3, v13, rfl, rfl, h14⟩

def spec_l3DrawSlot.f (k : Nat) (x1 : (List Int)) (x2 : Int) (x3 : Int) : Option (TSlot × (List Int) × Int × Int) :=
  ((spec_l1Once.f k x1 x2 x3 3).bind fun x4 => (if x4.1 = true then (some ((⟨false, (⟨0, ([] : List Int), ([] : List Int)⟩ : TObj)⟩ : TSlot), x4.2.1, x4.2.2.1, x4.2.2.2)) else ((spec_l2Obj.f k x4.2.1 x4.2.2.1 x4.2.2.2).bind fun x5 => (some ((⟨true, (⟨x5.1.Kind, x5.1.Ints, x5.1.Refs⟩ : TObj)⟩ : TSlot), x5.2.1, x5.2.2.1, x5.2.2.2)))))
set_option maxRecDepth 100000 in
set_option maxHeartbeats 4000000 in
theorem spec_l3DrawSlot.spec (k : Nat) (s0 : HF) (w : World) (x1 : (List Int)) (x2 : Int) (x3 : Int) (v1 : Value) (g1 : Nat) (h1 : Sl (Kd.int .u8) s0 v1 x1) (r : TSlot × (List Int) × Int × Int) (H : spec_l3DrawSlot.f k x1 x2 x3 = some r) :
    Law Try.prog 90 #[(.pointer (some ⟨g1, 0, none⟩))] s0 w [pt g1 139 ([v1, (.int .i64 x2), (.int .i64 x3)])] (fun v s1 A1 => ∃ (u0 : Value) (u1 : Value) (u2 : Value), v = (.agg #[(.bool r.1.Has), (.int .i64 r.1.O.Kind), u1, u2]) ∧ A1 = [pt g1 139 ([u0, (.int .i64 r.2.2.1), (.int .i64 r.2.2.2)]), Ow (Kd.int .i64) 3 u1 r.1.O.Ints, Ow (Kd.int .i64) 3 u2 r.1.O.Refs] ∧ Sl (Kd.int .u8) s1 u0 r.2.1) := by
  unfold spec_l3DrawSlot.f at H
  refine Law.intro Try.func90 rfl [(0, (.pointer (some ⟨g1, 0, none⟩)))] (Nat.le_of_ble_eq_true rfl) (enter_lk ⟨rfl, trivial⟩) (fun e a hS hF => ?_)
  have hF : Fr 9 a [(0, (.pointer (some ⟨g1, 0, none⟩)))] := hF
  refine sq ?_
  refine rg ?_
  refine ste hF (e_alloc (cs := [(.bool false), (.int .i64 0), (.slice none 0 0), (.slice none 0 0)]) hS ti_38 rfl) (by decide) (fun v w a hR hF => ?_)
  obtain ⟨g2, rfl, hS⟩ := hR
  refine nilN ?_
  refine xn ?_
  refine sq ?_
  refine sq ?_
  refine rg ?_
  refine stp hF (p_move rfl) (by decide) (fun a hF => ?_)
  replace hS := hS.sel (is := [1, 0]) (A' := [pt g1 139 ([v1, (.int .i64 x2), (.int .i64 x3)]), pt g2 38 ([(.bool false), (.int .i64 0), (.slice none 0 0), (.slice none 0 0)])]) rfl
  obtain ⟨x4, hx1, H⟩ := hb H
  refine ste hF (e_callA (fst := []) (vs := [(.pointer (some ⟨g1, 0, none⟩)), (.int .i64 3)]) (cap := []) rfl rfl go_91 (St.call (A := [pt g1 139 ([v1, (.int .i64 x2), (.int .i64 x3)])]) (B := [pt g2 38 ([(.bool false), (.int .i64 0), (.slice none 0 0), (.slice none 0 0)])]) hS (spec_l1Once.spec k _ _ x1 x2 x3 3 v1 g1 h1 _ hx1)) rfl) (by decide) (fun v w a hR hF => ?_)
  obtain ⟨s2, A2, hg1, hS, hR⟩ := hR
  obtain ⟨v2, hv1, rfl, h2⟩ := hR; obtain rfl := hv1.symm
  have hS : St e s2 w [pt g1 139 ([v2, (.int .i64 x4.2.2.1), (.int .i64 x4.2.2.2)]), pt g2 38 ([(.bool false), (.int .i64 0), (.slice none 0 0), (.slice none 0 0)])] := hS
  refine nilN ?_
  refine xn ?_
  refine cnd hF rfl (fun hc1 => ?_) (fun hc1 => ?_)
  · replace H := hbt hc1 H
    refine sq ?_
    refine rg ?_
    refine stp hF (p_build (ps := []) (vs := []) (v := (.agg #[(.bool false), (.int .i64 0), (.slice none 0 0), (.slice none 0 0)])) rfl (by intro w; kernel_rfl)) (by decide) (fun a hF => ?_)
    refine ste0 hF (e_stb (i := 1) (l := []) (m := [(.bool false), (.int .i64 0), (.slice none 0 0), (.slice none 0 0)]) (r := []) (m' := [(.bool false), (.int .i64 0), (.slice none 0 0), (.slice none 0 0)]) (cs' := [(.bool false), (.int .i64 0), (.slice none 0 0), (.slice none 0 0)]) hS rfl rfl rfl ti_38 rfl rfl rfl rfl rfl (one_cons rfl (one_cons rfl (one_cons rfl (one_cons rfl one_nil)))) rfl) (fun v w a hR hF => ?_)
    have hS : St e s2 w [pt g2 38 ([(.bool false), (.int .i64 0), (.slice none 0 0), (.slice none 0 0)]), pt g1 139 ([v2, (.int .i64 x4.2.2.1), (.int .i64 x4.2.2.2)])] := hR
    refine nilN ?_
    refine xn ?_
    refine rt ?_
    refine xr ?_
    obtain rfl := hsm H
    have h3 : RvOk Try.prog _ w (.cell 2 38) _ := rvC (i := 0) hS rfl (show lk [(2, (.pointer (some ⟨g2, 0, none⟩)))] 2 = _ from rfl) ia_38 ti_38 rfl
    replace hS := hS.ownNil (Kd.int .i64) 3 none
    replace hS := hS.ownNil (Kd.int .i64) 3 none
    replace hS := hS.sel (is := [3, 1, 0]) (A' := [pt g1 139 ([v2, (.int .i64 x4.2.2.1), (.int .i64 x4.2.2.2)]), Ow (Kd.int .i64) 3 (.slice none 0 0) ([] : List Int), Ow (Kd.int .i64) 3 (.slice none 0 0) ([] : List Int)]) rfl
    exact retc1 hF rfl h3 hS ⟨v2, (.slice none 0 0), (.slice none 0 0), rfl, rfl, h2⟩
  · replace H := hbf hc1 H
    refine skN ?_
    refine xn ?_
    refine sq ?_
    refine rg ?_
    refine stp hF (p_move rfl) (by decide) (fun a hF => ?_)
    obtain ⟨x5, hx2, H⟩ := hb H
    refine ste hF (e_callA (fst := []) (vs := [(.pointer (some ⟨g1, 0, none⟩))]) (cap := []) rfl rfl go_147 (St.call (A := [pt g1 139 ([v2, (.int .i64 x4.2.2.1), (.int .i64 x4.2.2.2)])]) (B := [pt g2 38 ([(.bool false), (.int .i64 0), (.slice none 0 0), (.slice none 0 0)])]) hS (spec_l2Obj.spec k _ _ x4.2.1 x4.2.2.1 x4.2.2.2 v2 g1 h2 _ hx2)) rfl) (by decide) (fun v w a hR hF => ?_)
    obtain ⟨s3, A3, hg2, hS, hR⟩ := hR
    obtain ⟨v3, v4, v5, hv2, rfl, h4⟩ := hR; obtain rfl := hv2.symm
    have hS : St e s3 w [pt g1 139 ([v3, (.int .i64 x5.2.2.1), (.int .i64 x5.2.2.2)]), Ow (Kd.int .i64) 3 v4 x5.1.Ints, Ow (Kd.int .i64) 3 v5 x5.1.Refs, pt g2 38 ([(.bool false), (.int .i64 0), (.slice none 0 0), (.slice none 0 0)])] := hS
    refine stp hF (p_build (ps := [(0, (.const (.bool true))), (1, (.tmp 7))]) (vs := [(0, (.bool true)), (1, (.agg #[(.int .i64 x5.1.Kind), v4, v5]))]) (v := (.agg #[(.bool true), (.int .i64 x5.1.Kind), v4, v5])) rfl (by intro w; obtain ⟨_, _, _, e1⟩ := hS.el (i := 1) rfl; rw [e1]; obtain ⟨_, _, _, e2⟩ := hS.el (i := 2) rfl; rw [e2]; kernel_rfl)) (by decide) (fun a hF => ?_)
    refine ste0 hF (e_stb (i := 3) (l := []) (m := [(.bool false), (.int .i64 0), (.slice none 0 0), (.slice none 0 0)]) (r := []) (m' := [(.bool true), (.int .i64 x5.1.Kind), v4, v5]) (cs' := [(.bool true), (.int .i64 x5.1.Kind), v4, v5]) hS rfl rfl rfl ti_38 rfl rfl rfl rfl rfl (one_cons rfl (one_cons rfl (one_cons (hS.one_ow (i := 1) rfl) (one_cons (hS.one_ow (i := 2) rfl) one_nil)))) rfl) (fun v w a hR hF => ?_)
    have hS : St e s3 w [pt g2 38 ([(.bool true), (.int .i64 x5.1.Kind), v4, v5]), pt g1 139 ([v3, (.int .i64 x5.2.2.1), (.int .i64 x5.2.2.2)]), Ow (Kd.int .i64) 3 v4 x5.1.Ints, Ow (Kd.int .i64) 3 v5 x5.1.Refs] := hR
    refine nilN ?_
    refine xn ?_
    refine rt ?_
    obtain rfl := hsm H
    have h5 : RvOk Try.prog _ w (.cell 2 38) _ := rvC (i := 0) hS rfl (show lk [(2, (.pointer (some ⟨g2, 0, none⟩)))] 2 = _ from rfl) ia_38 ti_38 rfl
    replace hS := hS.sel (is := [1, 1, 1]) (A' := [pt g1 139 ([v3, (.int .i64 x5.2.2.1), (.int .i64 x5.2.2.2)]), Ow (Kd.int .i64) 3 v4 x5.1.Ints, Ow (Kd.int .i64) 3 v5 x5.1.Refs]) rfl
    exact retc1 hF rfl h5 hS ⟨v3, v4, v5, rfl, rfl, h4⟩

def impl_in.f (k : Nat) (x1 : Int) (x2 : Int) (x3 : Int) : Option Bool :=
  (some ((decide (x2 ≤ x1)) && (decide (x1 ≤ x3))))
set_option maxRecDepth 100000 in
set_option maxHeartbeats 4000000 in
theorem impl_in.spec (k : Nat) (s0 : HF) (w : World) (x1 : Int) (x2 : Int) (x3 : Int) (r : Bool) (H : impl_in.f k x1 x2 x3 = some r) :
    Law Try.prog 79 #[(.int .i64 x1), (.int .i64 x2), (.int .i64 x3)] s0 w [] (fun v s1 A1 => v = (.bool r) ∧ A1 = []) := by
  unfold impl_in.f at H
  refine Law.intro Try.func79 rfl [(0, (.int .i64 x1)), (1, (.int .i64 x2)), (2, (.int .i64 x3))] (Nat.le_of_ble_eq_true rfl) (enter_lk ⟨rfl, rfl, rfl, trivial⟩) (fun e a hS hF => ?_)
  have hF : Fr 15 a [(0, (.int .i64 x1)), (1, (.int .i64 x2)), (2, (.int .i64 x3))] := hF
  refine sq ?_
  refine rg ?_
  refine stp hF (p_assign rfl) (by decide) (fun a hF => ?_)
  refine nilN ?_
  refine xn ?_
  refine sq ?_
  refine rg ?_
  refine stp hF (p_move rfl) (by decide) (fun a hF => ?_)
  refine stp hF (p_move rfl) (by decide) (fun a hF => ?_)
  refine stp hF (p_geq rfl rfl) (by decide) (fun a hF => ?_)
  refine stp hF (p_move rfl) (by decide) (fun a hF => ?_)
  refine cutj 4 (fun a w => St e s0 w [] ∧ Fr 15 a [(14, (.bool ((decide (x2 ≤ x1)) && (decide (x1 ≤ x3)))))]) rfl rfl ?_ ?_
  · rcases Bool.eq_false_or_eq_true (decide (x2 ≤ x1)) with hc1 | hc1
    · skip
      refine gonE (j := 3) hF rfl rfl hc1 ?_
      refine stp hF (p_move rfl) (by decide) (fun a hF => ?_)
      refine gonE (j := 3) hF rfl rfl hc1 ?_
      refine stp hF (p_move rfl) (by decide) (fun a hF => ?_)
      refine gonE (j := 3) hF rfl rfl hc1 ?_
      refine stp hF (p_leq rfl rfl) (by decide) (fun a hF => ?_)
      refine stp hF (p_andT rfl hc1 rfl) (by decide) (fun a hF => ?_)
      refine nilN ?_
      refine xn ?_
      exact ⟨hS, hF.cut ⟨rfl, trivial⟩⟩
    · skip
      refine gofD (j := 3) hF rfl rfl (by rw [hc1]; decide) (by decide) (fun a hF => ?_)
      refine gofD (j := 3) hF rfl rfl (by rw [hc1]; decide) (by decide) (fun a hF => ?_)
      refine gofD (j := 3) hF rfl rfl (by rw [hc1]; decide) (by decide) (fun a hF => ?_)
      refine stp hF (p_andF (decide (x1 ≤ x3)) rfl hc1 rfl) (by decide) (fun a hF => ?_)
      refine nilN ?_
      refine xn ?_
      exact ⟨hS, hF.cut ⟨rfl, trivial⟩⟩
  clear hS hF
  rintro a w ⟨hS, hF⟩
  refine stp hF (p_assign rfl) (by decide) (fun a hF => ?_)
  refine nilN ?_
  refine xn ?_
  refine rt ?_
  obtain rfl := hsm H
  exact ret1 hF rfl rfl hS ⟨rfl, rfl⟩

def impl_noObj.f (k : Nat) (x1 : TObj) : Option Bool :=
  (some (((decide (x1.Kind = 0)) && (decide ((x1.Ints.length : Int) = 0))) && (decide ((x1.Refs.length : Int) = 0))))
set_option maxRecDepth 100000 in
set_option maxHeartbeats 4000000 in
theorem impl_noObj.spec (k : Nat) (s0 : HF) (w : World) (x1 : TObj) (v1 : Value) (v2 : Value) (h1 : Sl (Kd.int .i64) s0 v1 x1.Ints) (h2 : Sl (Kd.int .i64) s0 v2 x1.Refs) (r : Bool) (H : impl_noObj.f k x1 = some r) :
    Law Try.prog 140 #[(.agg #[(.int .i64 x1.Kind), v1, v2])] s0 w [] (fun v s1 A1 => v = (.bool r) ∧ A1 = []) := by
  unfold impl_noObj.f at H
  refine Law.intro Try.func140 rfl [(0, (.agg #[(.int .i64 x1.Kind), v1, v2]))] (Nat.le_of_ble_eq_true rfl) (enter_lk ⟨rfl, trivial⟩) (fun e a hS hF => ?_)
  have hF : Fr 18 a [(0, (.agg #[(.int .i64 x1.Kind), v1, v2]))] := hF
  refine sq ?_
  refine rg ?_
  refine ste hF (e_box (cs := [(.int .i64 x1.Kind), v1, v2]) hS rfl rfl) (by decide) (fun v w a hR hF => ?_)
  obtain ⟨g1, rfl, hS⟩ := hR
  refine stp hF (p_assign rfl) (by decide) (fun a hF => ?_)
  refine nilN ?_
  refine xn ?_
  refine sq ?_
  refine rg ?_
  refine stp hF (p_fldb (o' := 0) rfl fi_36_0 rfl) (by decide) (fun a hF => ?_)
  refine stp hF (p_ldb_one (i := 0) hS rfl rfl ia_3 rfl) (by decide) (fun a hF => ?_)
  refine stp hF (p_eql rfl rfl) (by decide) (fun a hF => ?_)
  refine stp hF (p_move rfl) (by decide) (fun a hF => ?_)
  refine cutj 5 (fun a w => St e s0 w [pt g1 36 ([(.int .i64 x1.Kind), v1, v2])] ∧ Fr 18 a [(1, (.pointer (some ⟨g1, 0, none⟩))), (11, (.bool ((decide (x1.Kind = 0)) && (decide ((x1.Ints.length : Int) = 0)))))]) rfl rfl ?_ ?_
  · rcases Bool.eq_false_or_eq_true (decide (x1.Kind = 0)) with hc1 | hc1
    · skip
      refine gonE (j := 3) hF rfl rfl hc1 ?_
      refine stp hF (p_fldb (o' := 1) rfl fi_36_1 rfl) (by decide) (fun a hF => ?_)
      refine gonE (j := 3) hF rfl rfl hc1 ?_
      refine stp hF (p_ldb_one (i := 0) hS rfl rfl ia_34 rfl) (by decide) (fun a hF => ?_)
      refine gonE (j := 3) hF rfl rfl hc1 ?_
      refine stp hF (p_lenr un_34 rfl h1) (by decide) (fun a hF => ?_)
      refine gonE (j := 3) hF rfl rfl hc1 ?_
      refine stp hF (p_eql rfl rfl) (by decide) (fun a hF => ?_)
      refine stp hF (p_andT rfl hc1 rfl) (by decide) (fun a hF => ?_)
      refine nilN ?_
      refine xn ?_
      exact ⟨hS, hF.cut ⟨rfl, rfl, trivial⟩⟩
    · skip
      refine gofD (j := 3) hF rfl rfl (by rw [hc1]; decide) (by decide) (fun a hF => ?_)
      refine gofD (j := 3) hF rfl rfl (by rw [hc1]; decide) (by decide) (fun a hF => ?_)
      refine gofD (j := 3) hF rfl rfl (by rw [hc1]; decide) (by decide) (fun a hF => ?_)
      refine gofD (j := 3) hF rfl rfl (by rw [hc1]; decide) (by decide) (fun a hF => ?_)
      refine stp hF (p_andF (decide ((x1.Ints.length : Int) = 0)) rfl hc1 rfl) (by decide) (fun a hF => ?_)
      refine nilN ?_
      refine xn ?_
      exact ⟨hS, hF.cut ⟨rfl, rfl, trivial⟩⟩
  clear hS hF
  rintro a w ⟨hS, hF⟩
  refine stp hF (p_move rfl) (by decide) (fun a hF => ?_)
  refine cutj 5 (fun a w => St e s0 w [pt g1 36 ([(.int .i64 x1.Kind), v1, v2])] ∧ Fr 18 a [(17, (.bool (((decide (x1.Kind = 0)) && (decide ((x1.Ints.length : Int) = 0))) && (decide ((x1.Refs.length : Int) = 0)))))]) rfl rfl ?_ ?_
  · rcases Bool.eq_false_or_eq_true (((decide (x1.Kind = 0)) && (decide ((x1.Ints.length : Int) = 0)))) with hc2 | hc2
    · skip
      refine gonE (j := 9) hF rfl rfl hc2 ?_
      refine stp hF (p_fldb (o' := 2) rfl fi_36_2 rfl) (by decide) (fun a hF => ?_)
      refine gonE (j := 9) hF rfl rfl hc2 ?_
      refine stp hF (p_ldb_one (i := 0) hS rfl rfl ia_34 rfl) (by decide) (fun a hF => ?_)
      refine gonE (j := 9) hF rfl rfl hc2 ?_
      refine stp hF (p_lenr un_34 rfl h2) (by decide) (fun a hF => ?_)
      refine gonE (j := 9) hF rfl rfl hc2 ?_
      refine stp hF (p_eql rfl rfl) (by decide) (fun a hF => ?_)
      refine stp hF (p_andT rfl hc2 rfl) (by decide) (fun a hF => ?_)
      refine nilN ?_
      refine xn ?_
      exact ⟨hS, hF.cut ⟨rfl, trivial⟩⟩
    · skip
      refine gofD (j := 9) hF rfl rfl (by rw [hc2]; decide) (by decide) (fun a hF => ?_)
      refine gofD (j := 9) hF rfl rfl (by rw [hc2]; decide) (by decide) (fun a hF => ?_)
      refine gofD (j := 9) hF rfl rfl (by rw [hc2]; decide) (by decide) (fun a hF => ?_)
      refine gofD (j := 9) hF rfl rfl (by rw [hc2]; decide) (by decide) (fun a hF => ?_)
      refine stp hF (p_andF (decide ((x1.Refs.length : Int) = 0)) rfl hc2 rfl) (by decide) (fun a hF => ?_)
      refine nilN ?_
      refine xn ?_
      exact ⟨hS, hF.cut ⟨rfl, trivial⟩⟩
  clear hS hF
  rintro a w ⟨hS, hF⟩
  refine stp hF (p_assign rfl) (by decide) (fun a hF => ?_)
  refine nilN ?_
  refine xn ?_
  refine rt ?_
  obtain rfl := hsm H
  replace hS := hS.sel (is := []) (A' := []) rfl
  exact ret1 hF rfl rfl hS ⟨rfl, rfl⟩

def impl_ObjOk_1.f (k : Nat) (x1 : Int) : Option Bool :=
  ((impl_in.f k x1 (-1000000) 1000000).bind fun x2 => (some (!x2)))
set_option maxRecDepth 100000 in
set_option maxHeartbeats 4000000 in
theorem impl_ObjOk_1.spec (k : Nat) (s0 : HF) (w : World) (x1 : Int) (r : Bool) (H : impl_ObjOk_1.f k x1 = some r) :
    Law Try.prog 169 #[(.int .i64 x1)] s0 w [] (fun v s1 A1 => v = (.bool r) ∧ A1 = []) := by
  unfold impl_ObjOk_1.f at H
  refine Law.intro Try.func169 rfl [(0, (.int .i64 x1))] (Nat.le_of_ble_eq_true rfl) (enter_lk ⟨rfl, trivial⟩) (fun e a hS hF => ?_)
  have hF : Fr 6 a [(0, (.int .i64 x1))] := hF
  refine sq ?_
  refine rg ?_
  refine stp hF (p_assign rfl) (by decide) (fun a hF => ?_)
  refine nilN ?_
  refine xn ?_
  refine sq ?_
  refine rg ?_
  refine stp hF (p_move rfl) (by decide) (fun a hF => ?_)
  obtain ⟨x2, hx1, H⟩ := hb H
  refine ste hF (e_callA (fst := []) (vs := [(.int .i64 x1), (.int .i64 (-1000000)), (.int .i64 1000000)]) (cap := []) rfl rfl go_79 (St.call (A := []) (B := []) hS (impl_in.spec k _ _ x1 (-1000000) 1000000 _ hx1)) rfl) (by decide) (fun v w a hR hF => ?_)
  obtain ⟨s2, A2, hg1, hS, hR⟩ := hR
  obtain ⟨hv1, rfl⟩ := hR; obtain rfl := hv1.symm
  have hS : St e s2 w [] := hS
  refine stp hF (p_not rfl) (by decide) (fun a hF => ?_)
  refine stp hF (p_assign rfl) (by decide) (fun a hF => ?_)
  refine nilN ?_
  refine xn ?_
  refine rt ?_
  obtain rfl := hsm H
  exact ret1 hF rfl rfl hS ⟨rfl, rfl⟩

def slices_IndexFunc_1169.c1 (k : Nat) : Option Int :=
  (some (-1))
def slices_IndexFunc_1169.l1 (x1 : (List Int)) : Nat → Int → Option (Ex Int Unit)
  | 0, _ => none
  | k + 1, x2 => (if (decide (x2 < (x1.length : Int))) = true then (if 0 ≤ x2 ∧ x2 < (x1.length : Int) then ((impl_ObjOk_1.f k (rd x1 x2)).bind fun x3 => (if x3 = true then (some (Ex.ret x2)) else ((slices_IndexFunc_1169.l1 x1 k) (w64 (x2 + 1))))) else none) else (some (Ex.go ())))
def slices_IndexFunc_1169.f (k : Nat) (x1 : (List Int)) : Option Int :=
  (((slices_IndexFunc_1169.l1 x1 k 0) : Option (Ex Int Unit)).bind fun x4 => Ex.on x4 (fun r => some r) (fun y => slices_IndexFunc_1169.c1 k))
set_option maxRecDepth 100000 in
set_option maxHeartbeats 4000000 in
theorem slices_IndexFunc_1169.spec (k : Nat) (s0 : HF) (w : World) (x1 : (List Int)) (v1 : Value) (h1 : Sl (Kd.int .i64) s0 v1 x1) (r : Int) (H : slices_IndexFunc_1169.f k x1 = some r) :
    Law Try.prog 177 #[v1, (.func (.func 169) #[] #[])] s0 w [] (fun v s1 A1 => v = (.int .i64 r) ∧ A1 = []) := by
  unfold slices_IndexFunc_1169.f at H
  refine Law.intro Try.func177 rfl [(0, v1), (1, (.func (.func 169) #[] #[]))] (Nat.le_of_ble_eq_true rfl) (enter_lk ⟨rfl, rfl, trivial⟩) (fun e a hS hF => ?_)
  have hF : Fr 19 a [(0, v1), (1, (.func (.func 169) #[] #[]))] := hF
  refine sq ?_
  refine rg ?_
  refine stp hF (p_assign rfl) (by decide) (fun a hF => ?_)
  refine nilN ?_
  refine xn ?_
  obtain ⟨x4, H, HK1⟩ := hb H
  refine sqj (fun a w => ∃ (s2 : HF) , St e s2 w [] ∧ Fr 19 a [] ∧ Sub s0 s2 ∧ slices_IndexFunc_1169.c1 k = some r) ?_ ?_
  · skip
    refine sq ?_
    refine rg ?_
    refine stp hF (p_move rfl) (by decide) (fun a hF => ?_)
    refine stp hF (p_lenr un_34 rfl h1) (by decide) (fun a hF => ?_)
    refine stp hF (p_move rfl) (by decide) (fun a hF => ?_)
    refine nilN ?_
    refine xn ?_
    refine blk ?_
    refine loop_ind (fun k1 a w => ∃ (x2 : Int) (s3 : HF) , St e s3 w [] ∧ Fr 19 a [(0, v1), (1, (.func (.func 169) #[] #[])), (7, (.int .i64 (x1.length : Int))), (8, (.int .i64 x2))] ∧ Sub s0 s3 ∧ slices_IndexFunc_1169.l1 x1 k1 x2 = some x4) k ?_ ?_ ?_
    · skip
      exact ⟨0, s0, hS, hF.cut ⟨rfl, rfl, rfl, rfl, trivial⟩, (Sub.refl _), H⟩
    · clear H hS hF
      rintro a w ⟨x2, s3, hS, hF, hg1, H⟩
      exact absurd (show none = some _ from H) (by simp)
    · clear H hS hF
      rintro k1 a w ⟨x2, s3, hS, hF, hg1, H⟩
      rw [slices_IndexFunc_1169.l1.eq_2] at H
      refine sq ?_
      refine rg ?_
      refine stp hF (p_lss rfl rfl) (by decide) (fun a hF => ?_)
      refine nilN ?_
      refine xn ?_
      refine sq ?_
      refine cnd hF rfl (fun hc1 => ?_) (fun hc1 => ?_)
      · replace H := hbt hc1 H
        refine skN ?_
        refine xn ?_
        refine sq ?_
        refine blk ?_
        refine sq ?_
        refine rg ?_
        refine stp hF (p_move rfl) (by decide) (fun a hF => ?_)
        refine stp hF (p_assign rfl) (by decide) (fun a hF => ?_)
        refine nilN ?_
        refine xn ?_
        refine sq ?_
        refine rg ?_
        refine stp hF (p_move rfl) (by decide) (fun a hF => ?_)
        refine stp hF (p_move rfl) (by decide) (fun a hF => ?_)
        refine stp hF (p_move rfl) (by decide) (fun a hF => ?_)
        obtain ⟨hq1, H⟩ := hck H
        obtain ⟨ad1, h2, p1⟩ := p_idxr (P := Try.prog) (i := x2) (h1.mono hg1) un_34 ti_3 hq1.1 hq1.2
        refine stp hF (p1 rfl rfl) (by decide) (fun a hF => ?_)
        refine stp hF (p_ldr_int rfl hS h2 ia_3) (by decide) (fun a hF => ?_)
        obtain ⟨x3, hx1, H⟩ := hb H
        refine ste hF (e_callA (fst := []) (vs := [(.int .i64 (rd x1 x2))]) (cap := []) rfl rfl go_169 (St.call (A := []) (B := []) hS (impl_ObjOk_1.spec k1 _ _ (rd x1 x2) _ hx1)) rfl) (by decide) (fun v w a hR hF => ?_)
        obtain ⟨s4, A2, hg2, hS, hR⟩ := hR
        obtain ⟨hv1, rfl⟩ := hR; obtain rfl := hv1.symm
        have hS : St e s4 w [] := hS
        refine nilN ?_
        refine xn ?_
        refine cnd hF rfl (fun hc2 => ?_) (fun hc2 => ?_)
        · replace H := hbt hc2 H
          refine sq ?_
          refine rg ?_
          refine stp hF (p_move rfl) (by decide) (fun a hF => ?_)
          refine stp hF (p_assign rfl) (by decide) (fun a hF => ?_)
          refine nilN ?_
          refine xn ?_
          refine rt ?_
          refine br (xr (xr (br (xr ?_))))
          obtain rfl := hsm H
          have H := hon1 HK1
          obtain rfl := hsm H
          exact ret1 hF rfl rfl hS ⟨rfl, rfl⟩
        · replace H := hbf hc2 H
          refine skN ?_
          refine bn (xn ?_)
          refine rg ?_
          refine stp hF (p_add (c := w64 (x2 + 1)) rfl rfl rfl) (by decide) (fun a hF => ?_)
          refine stp hF (p_move rfl) (by decide) (fun a hF => ?_)
          refine nilN ?_
          refine xn ?_
          exact ⟨(w64 (x2 + 1)), s4, hS, hF.cut ⟨rfl, rfl, rfl, rfl, trivial⟩, (hg1.trans hg2), H⟩
      · replace H := hbf hc1 H
        refine exi ?_
        refine xe (xe (hit (xn ?_)))
        obtain rfl := hsm H
        exact ⟨s3, hS, hF.cut trivial, hg1, HK1⟩
  · clear H HK1 hS hF
    rintro a w ⟨s2, hS, hF, hg3, H⟩
    unfold slices_IndexFunc_1169.c1 at H
    refine sq ?_
    refine rg ?_
    refine stp hF (p_assign rfl) (by decide) (fun a hF => ?_)
    refine nilN ?_
    refine xn ?_
    refine rt ?_
    obtain rfl := hsm H
    exact ret1 hF rfl rfl hS ⟨rfl, rfl⟩

def slices_ContainsFunc_1169.f (k : Nat) (x1 : (List Int)) : Option Bool :=
  ((slices_IndexFunc_1169.f k x1).bind fun x2 => (some (decide (0 ≤ x2))))
set_option maxRecDepth 100000 in
set_option maxHeartbeats 4000000 in
theorem slices_ContainsFunc_1169.spec (k : Nat) (s0 : HF) (w : World) (x1 : (List Int)) (v1 : Value) (h1 : Sl (Kd.int .i64) s0 v1 x1) (r : Bool) (H : slices_ContainsFunc_1169.f k x1 = some r) :
    Law Try.prog 168 #[v1, (.func (.func 169) #[] #[])] s0 w [] (fun v s1 A1 => v = (.bool r) ∧ A1 = []) := by
  unfold slices_ContainsFunc_1169.f at H
  refine Law.intro Try.func168 rfl [(0, v1), (1, (.func (.func 169) #[] #[]))] (Nat.le_of_ble_eq_true rfl) (enter_lk ⟨rfl, rfl, trivial⟩) (fun e a hS hF => ?_)
  have hF : Fr 9 a [(0, v1), (1, (.func (.func 169) #[] #[]))] := hF
  refine sq ?_
  refine rg ?_
  refine stp hF (p_assign rfl) (by decide) (fun a hF => ?_)
  refine nilN ?_
  refine xn ?_
  refine sq ?_
  refine rg ?_
  refine stp hF (p_move rfl) (by decide) (fun a hF => ?_)
  refine stp hF (p_move rfl) (by decide) (fun a hF => ?_)
  obtain ⟨x2, hx1, H⟩ := hb H
  refine ste hF (e_callA (fst := []) (vs := [v1, (.func (.func 169) #[] #[])]) (cap := []) rfl rfl go_177 (St.call (A := []) (B := []) hS (slices_IndexFunc_1169.spec k _ _ x1 v1 h1 _ hx1)) rfl) (by decide) (fun v w a hR hF => ?_)
  obtain ⟨s2, A2, hg1, hS, hR⟩ := hR
  obtain ⟨hv1, rfl⟩ := hR; obtain rfl := hv1.symm
  have hS : St e s2 w [] := hS
  refine stp hF (p_geq rfl rfl) (by decide) (fun a hF => ?_)
  refine stp hF (p_assign rfl) (by decide) (fun a hF => ?_)
  refine nilN ?_
  refine xn ?_
  refine rt ?_
  obtain rfl := hsm H
  exact ret1 hF rfl rfl hS ⟨rfl, rfl⟩

def impl_ObjOk_2.f (k : Nat) (x1 : Int) : Option Bool :=
  ((impl_in.f k x1 0 31).bind fun x2 => (some (!x2)))
set_option maxRecDepth 100000 in
set_option maxHeartbeats 4000000 in
theorem impl_ObjOk_2.spec (k : Nat) (s0 : HF) (w : World) (x1 : Int) (r : Bool) (H : impl_ObjOk_2.f k x1 = some r) :
    Law Try.prog 170 #[(.int .i64 x1)] s0 w [] (fun v s1 A1 => v = (.bool r) ∧ A1 = []) := by
  unfold impl_ObjOk_2.f at H
  refine Law.intro Try.func170 rfl [(0, (.int .i64 x1))] (Nat.le_of_ble_eq_true rfl) (enter_lk ⟨rfl, trivial⟩) (fun e a hS hF => ?_)
  have hF : Fr 6 a [(0, (.int .i64 x1))] := hF
  refine sq ?_
  refine rg ?_
  refine stp hF (p_assign rfl) (by decide) (fun a hF => ?_)
  refine nilN ?_
  refine xn ?_
  refine sq ?_
  refine rg ?_
  refine stp hF (p_move rfl) (by decide) (fun a hF => ?_)
  obtain ⟨x2, hx1, H⟩ := hb H
  refine ste hF (e_callA (fst := []) (vs := [(.int .i64 x1), (.int .i64 0), (.int .i64 31)]) (cap := []) rfl rfl go_79 (St.call (A := []) (B := []) hS (impl_in.spec k _ _ x1 0 31 _ hx1)) rfl) (by decide) (fun v w a hR hF => ?_)
  obtain ⟨s2, A2, hg1, hS, hR⟩ := hR
  obtain ⟨hv1, rfl⟩ := hR; obtain rfl := hv1.symm
  have hS : St e s2 w [] := hS
  refine stp hF (p_not rfl) (by decide) (fun a hF => ?_)
  refine stp hF (p_assign rfl) (by decide) (fun a hF => ?_)
  refine nilN ?_
  refine xn ?_
  refine rt ?_
  obtain rfl := hsm H
  exact ret1 hF rfl rfl hS ⟨rfl, rfl⟩

def slices_IndexFunc_2170.c1 (k : Nat) : Option Int :=
  (some (-1))
def slices_IndexFunc_2170.l1 (x1 : (List Int)) : Nat → Int → Option (Ex Int Unit)
  | 0, _ => none
  | k + 1, x2 => (if (decide (x2 < (x1.length : Int))) = true then (if 0 ≤ x2 ∧ x2 < (x1.length : Int) then ((impl_ObjOk_2.f k (rd x1 x2)).bind fun x3 => (if x3 = true then (some (Ex.ret x2)) else ((slices_IndexFunc_2170.l1 x1 k) (w64 (x2 + 1))))) else none) else (some (Ex.go ())))
def slices_IndexFunc_2170.f (k : Nat) (x1 : (List Int)) : Option Int :=
  (((slices_IndexFunc_2170.l1 x1 k 0) : Option (Ex Int Unit)).bind fun x4 => Ex.on x4 (fun r => some r) (fun y => slices_IndexFunc_2170.c1 k))
set_option maxRecDepth 100000 in
set_option maxHeartbeats 4000000 in
theorem slices_IndexFunc_2170.spec (k : Nat) (s0 : HF) (w : World) (x1 : (List Int)) (v1 : Value) (h1 : Sl (Kd.int .i64) s0 v1 x1) (r : Int) (H : slices_IndexFunc_2170.f k x1 = some r) :
    Law Try.prog 177 #[v1, (.func (.func 170) #[] #[])] s0 w [] (fun v s1 A1 => v = (.int .i64 r) ∧ A1 = []) := by
  unfold slices_IndexFunc_2170.f at H
  refine Law.intro Try.func177 rfl [(0, v1), (1, (.func (.func 170) #[] #[]))] (Nat.le_of_ble_eq_true rfl) (enter_lk ⟨rfl, rfl, trivial⟩) (fun e a hS hF => ?_)
  have hF : Fr 19 a [(0, v1), (1, (.func (.func 170) #[] #[]))] := hF
  refine sq ?_
  refine rg ?_
  refine stp hF (p_assign rfl) (by decide) (fun a hF => ?_)
  refine nilN ?_
  refine xn ?_
  obtain ⟨x4, H, HK1⟩ := hb H
  refine sqj (fun a w => ∃ (s2 : HF) , St e s2 w [] ∧ Fr 19 a [] ∧ Sub s0 s2 ∧ slices_IndexFunc_2170.c1 k = some r) ?_ ?_
  · skip
    refine sq ?_
    refine rg ?_
    refine stp hF (p_move rfl) (by decide) (fun a hF => ?_)
    refine stp hF (p_lenr un_34 rfl h1) (by decide) (fun a hF => ?_)
    refine stp hF (p_move rfl) (by decide) (fun a hF => ?_)
    refine nilN ?_
    refine xn ?_
    refine blk ?_
    refine loop_ind (fun k1 a w => ∃ (x2 : Int) (s3 : HF) , St e s3 w [] ∧ Fr 19 a [(0, v1), (1, (.func (.func 170) #[] #[])), (7, (.int .i64 (x1.length : Int))), (8, (.int .i64 x2))] ∧ Sub s0 s3 ∧ slices_IndexFunc_2170.l1 x1 k1 x2 = some x4) k ?_ ?_ ?_
    · skip
      exact ⟨0, s0, hS, hF.cut ⟨rfl, rfl, rfl, rfl, trivial⟩, (Sub.refl _), H⟩
    · clear H hS hF
      rintro a w ⟨x2, s3, hS, hF, hg1, H⟩
      exact absurd (show none = some _ from H) (by simp)
    · clear H hS hF
      rintro k1 a w ⟨x2, s3, hS, hF, hg1, H⟩
      rw [slices_IndexFunc_2170.l1.eq_2] at H
      refine sq ?_
      refine rg ?_
      refine stp hF (p_lss rfl rfl) (by decide) (fun a hF => ?_)
      refine nilN ?_
      refine xn ?_
      refine sq ?_
      refine cnd hF rfl (fun hc1 => ?_) (fun hc1 => ?_)
      · replace H := hbt hc1 H
        refine skN ?_
        refine xn ?_
        refine sq ?_
        refine blk ?_
        refine sq ?_
        refine rg ?_
        refine stp hF (p_move rfl) (by decide) (fun a hF => ?_)
        refine stp hF (p_assign rfl) (by decide) (fun a hF => ?_)
        refine nilN ?_
        refine xn ?_
        refine sq ?_
        refine rg ?_
        refine stp hF (p_move rfl) (by decide) (fun a hF => ?_)
        refine stp hF (p_move rfl) (by decide) (fun a hF => ?_)
        refine stp hF (p_move rfl) (by decide) (fun a hF => ?_)
        obtain ⟨hq1, H⟩ := hck H
        obtain ⟨ad1, h2, p1⟩ := p_idxr (P := Try.prog) (i := x2) (h1.mono hg1) un_34 ti_3 hq1.1 hq1.2
        refine stp hF (p1 rfl rfl) (by decide) (fun a hF => ?_)
        refine stp hF (p_ldr_int rfl hS h2 ia_3) (by decide) (fun a hF => ?_)
        obtain ⟨x3, hx1, H⟩ := hb H
        refine ste hF (e_callA (fst := []) (vs := [(.int .i64 (rd x1 x2))]) (cap := []) rfl rfl go_170 (St.call (A := []) (B := []) hS (impl_ObjOk_2.spec k1 _ _ (rd x1 x2) _ hx1)) rfl) (by decide) (fun v w a hR hF => ?_)
        obtain ⟨s4, A2, hg2, hS, hR⟩ := hR
        obtain ⟨hv1, rfl⟩ := hR; obtain rfl := hv1.symm
        have hS : St e s4 w [] := hS
        refine nilN ?_
        refine xn ?_
        refine cnd hF rfl (fun hc2 => ?_) (fun hc2 => ?_)
        · replace H := hbt hc2 H
          refine sq ?_
          refine rg ?_
          refine stp hF (p_move rfl) (by decide) (fun a hF => ?_)
          refine stp hF (p_assign rfl) (by decide) (fun a hF => ?_)
          refine nilN ?_
          refine xn ?_
          refine rt ?_
          refine br (xr (xr (br (xr ?_))))
          obtain rfl := hsm H
          have H := hon1 HK1
          obtain rfl := hsm H
          exact ret1 hF rfl rfl hS ⟨rfl, rfl⟩
        · replace H := hbf hc2 H
          refine skN ?_
          refine bn (xn ?_)
          refine rg ?_
          refine stp hF (p_add (c := w64 (x2 + 1)) rfl rfl rfl) (by decide) (fun a hF => ?_)
          refine stp hF (p_move rfl) (by decide) (fun a hF => ?_)
          refine nilN ?_
          refine xn ?_
          exact ⟨(w64 (x2 + 1)), s4, hS, hF.cut ⟨rfl, rfl, rfl, rfl, trivial⟩, (hg1.trans hg2), H⟩
      · replace H := hbf hc1 H
        refine exi ?_
        refine xe (xe (hit (xn ?_)))
        obtain rfl := hsm H
        exact ⟨s3, hS, hF.cut trivial, hg1, HK1⟩
  · clear H HK1 hS hF
    rintro a w ⟨s2, hS, hF, hg3, H⟩
    unfold slices_IndexFunc_2170.c1 at H
    refine sq ?_
    refine rg ?_
    refine stp hF (p_assign rfl) (by decide) (fun a hF => ?_)
    refine nilN ?_
    refine xn ?_
    refine rt ?_
    obtain rfl := hsm H
    exact ret1 hF rfl rfl hS ⟨rfl, rfl⟩

def slices_ContainsFunc_2170.f (k : Nat) (x1 : (List Int)) : Option Bool :=
  ((slices_IndexFunc_2170.f k x1).bind fun x2 => (some (decide (0 ≤ x2))))
set_option maxRecDepth 100000 in
set_option maxHeartbeats 4000000 in
theorem slices_ContainsFunc_2170.spec (k : Nat) (s0 : HF) (w : World) (x1 : (List Int)) (v1 : Value) (h1 : Sl (Kd.int .i64) s0 v1 x1) (r : Bool) (H : slices_ContainsFunc_2170.f k x1 = some r) :
    Law Try.prog 168 #[v1, (.func (.func 170) #[] #[])] s0 w [] (fun v s1 A1 => v = (.bool r) ∧ A1 = []) := by
  unfold slices_ContainsFunc_2170.f at H
  refine Law.intro Try.func168 rfl [(0, v1), (1, (.func (.func 170) #[] #[]))] (Nat.le_of_ble_eq_true rfl) (enter_lk ⟨rfl, rfl, trivial⟩) (fun e a hS hF => ?_)
  have hF : Fr 9 a [(0, v1), (1, (.func (.func 170) #[] #[]))] := hF
  refine sq ?_
  refine rg ?_
  refine stp hF (p_assign rfl) (by decide) (fun a hF => ?_)
  refine nilN ?_
  refine xn ?_
  refine sq ?_
  refine rg ?_
  refine stp hF (p_move rfl) (by decide) (fun a hF => ?_)
  refine stp hF (p_move rfl) (by decide) (fun a hF => ?_)
  obtain ⟨x2, hx1, H⟩ := hb H
  refine ste hF (e_callA (fst := []) (vs := [v1, (.func (.func 170) #[] #[])]) (cap := []) rfl rfl go_177 (St.call (A := []) (B := []) hS (slices_IndexFunc_2170.spec k _ _ x1 v1 h1 _ hx1)) rfl) (by decide) (fun v w a hR hF => ?_)
  obtain ⟨s2, A2, hg1, hS, hR⟩ := hR
  obtain ⟨hv1, rfl⟩ := hR; obtain rfl := hv1.symm
  have hS : St e s2 w [] := hS
  refine stp hF (p_geq rfl rfl) (by decide) (fun a hF => ?_)
  refine stp hF (p_assign rfl) (by decide) (fun a hF => ?_)
  refine nilN ?_
  refine xn ?_
  refine rt ?_
  obtain rfl := hsm H
  exact ret1 hF rfl rfl hS ⟨rfl, rfl⟩

def impl_ObjOk.c1 (k : Nat) (x1 : Bool) : Option Bool :=
  (some x1)
def impl_ObjOk.f (k : Nat) (x2 : TObj) : Option Bool :=
  ((impl_in.f k x2.Kind 1 99).bind fun x3 => (if (((!x3) || (decide (5 < (x2.Ints.length : Int)))) || (decide (5 < (x2.Refs.length : Int)))) = true then (some false) else ((slices_ContainsFunc_1169.f k x2.Ints).bind fun x4 => ((if (!x4) = true then ((slices_ContainsFunc_2170.f k x2.Refs).bind fun x5 => (some (!x5))) else (some false) : Option Bool).bind fun x6 => impl_ObjOk.c1 k x6))))
set_option maxRecDepth 100000 in
set_option maxHeartbeats 4000000 in
theorem impl_ObjOk.spec (k : Nat) (s0 : HF) (w : World) (x2 : TObj) (v1 : Value) (v2 : Value) (h1 : Sl (Kd.int .i64) s0 v1 x2.Ints) (h2 : Sl (Kd.int .i64) s0 v2 x2.Refs) (r : Bool) (H : impl_ObjOk.f k x2 = some r) :
    Law Try.prog 141 #[(.agg #[(.int .i64 x2.Kind), v1, v2])] s0 w [] (fun v s1 A1 => v = (.bool r) ∧ A1 = []) := by
  unfold impl_ObjOk.f at H
  refine Law.intro Try.func141 rfl [(0, (.agg #[(.int .i64 x2.Kind), v1, v2]))] (Nat.le_of_ble_eq_true rfl) (enter_lk ⟨rfl, trivial⟩) (fun e a hS hF => ?_)
  have hF : Fr 29 a [(0, (.agg #[(.int .i64 x2.Kind), v1, v2]))] := hF
  refine sq ?_
  refine rg ?_
  refine ste hF (e_box (cs := [(.int .i64 x2.Kind), v1, v2]) hS rfl rfl) (by decide) (fun v w a hR hF => ?_)
  obtain ⟨g1, rfl, hS⟩ := hR
  refine stp hF (p_assign rfl) (by decide) (fun a hF => ?_)
  refine nilN ?_
  refine xn ?_
  refine sq ?_
  refine sq ?_
  refine rg ?_
  refine stp hF (p_fldb (o' := 0) rfl fi_36_0 rfl) (by decide) (fun a hF => ?_)
  refine stp hF (p_ldb_one (i := 0) hS rfl rfl ia_3 rfl) (by decide) (fun a hF => ?_)
  obtain ⟨x3, hx1, H⟩ := hb H
  refine ste hF (e_callA (fst := []) (vs := [(.int .i64 x2.Kind), (.int .i64 1), (.int .i64 99)]) (cap := []) rfl rfl go_79 (St.call (A := []) (B := [pt g1 36 ([(.int .i64 x2.Kind), v1, v2])]) hS (impl_in.spec k _ _ x2.Kind 1 99 _ hx1)) rfl) (by decide) (fun v w a hR hF => ?_)
  obtain ⟨s2, A2, hg1, hS, hR⟩ := hR
  obtain ⟨hv1, rfl⟩ := hR; obtain rfl := hv1.symm
  have hS : St e s2 w [pt g1 36 ([(.int .i64 x2.Kind), v1, v2])] := hS
  refine stp hF (p_not rfl) (by decide) (fun a hF => ?_)
  refine stp hF (p_move rfl) (by decide) (fun a hF => ?_)
  refine cutj 5 (fun a w => St e s2 w [pt g1 36 ([(.int .i64 x2.Kind), v1, v2])] ∧ Fr 29 a [(1, (.pointer (some ⟨g1, 0, none⟩))), (12, (.bool ((!x3) || (decide (5 < (x2.Ints.length : Int))))))]) rfl rfl ?_ ?_
  · rcases Bool.eq_false_or_eq_true ((!x3)) with hc1 | hc1
    · skip
      refine gofD (j := 4) hF rfl rfl (by rw [hc1]; decide) (by decide) (fun a hF => ?_)
      refine gofD (j := 4) hF rfl rfl (by rw [hc1]; decide) (by decide) (fun a hF => ?_)
      refine gofD (j := 4) hF rfl rfl (by rw [hc1]; decide) (by decide) (fun a hF => ?_)
      refine gofD (j := 4) hF rfl rfl (by rw [hc1]; decide) (by decide) (fun a hF => ?_)
      refine stp hF (p_orT (decide (5 < (x2.Ints.length : Int))) rfl hc1 rfl) (by decide) (fun a hF => ?_)
      refine nilN ?_
      refine xn ?_
      exact ⟨hS, hF.cut ⟨rfl, rfl, trivial⟩⟩
    · skip
      refine gonE (j := 4) hF rfl rfl hc1 ?_
      refine stp hF (p_fldb (o' := 1) rfl fi_36_1 rfl) (by decide) (fun a hF => ?_)
      refine gonE (j := 4) hF rfl rfl hc1 ?_
      refine stp hF (p_ldb_one (i := 0) hS rfl rfl ia_34 rfl) (by decide) (fun a hF => ?_)
      refine gonE (j := 4) hF rfl rfl hc1 ?_
      refine stp hF (p_lenr un_34 rfl (h1.mono hg1)) (by decide) (fun a hF => ?_)
      refine gonE (j := 4) hF rfl rfl hc1 ?_
      refine stp hF (p_gtr rfl rfl) (by decide) (fun a hF => ?_)
      refine stp hF (p_orF rfl hc1 rfl) (by decide) (fun a hF => ?_)
      refine nilN ?_
      refine xn ?_
      exact ⟨hS, hF.cut ⟨rfl, rfl, trivial⟩⟩
  clear hS hF
  rintro a w ⟨hS, hF⟩
  refine stp hF (p_move rfl) (by decide) (fun a hF => ?_)
  refine cutj 5 (fun a w => St e s2 w [pt g1 36 ([(.int .i64 x2.Kind), v1, v2])] ∧ Fr 29 a [(1, (.pointer (some ⟨g1, 0, none⟩))), (18, (.bool (((!x3) || (decide (5 < (x2.Ints.length : Int)))) || (decide (5 < (x2.Refs.length : Int))))))]) rfl rfl ?_ ?_
  · rcases Bool.eq_false_or_eq_true (((!x3) || (decide (5 < (x2.Ints.length : Int))))) with hc2 | hc2
    · skip
      refine gofD (j := 10) hF rfl rfl (by rw [hc2]; decide) (by decide) (fun a hF => ?_)
      refine gofD (j := 10) hF rfl rfl (by rw [hc2]; decide) (by decide) (fun a hF => ?_)
      refine gofD (j := 10) hF rfl rfl (by rw [hc2]; decide) (by decide) (fun a hF => ?_)
      refine gofD (j := 10) hF rfl rfl (by rw [hc2]; decide) (by decide) (fun a hF => ?_)
      refine stp hF (p_orT (decide (5 < (x2.Refs.length : Int))) rfl hc2 rfl) (by decide) (fun a hF => ?_)
      refine nilN ?_
      refine xn ?_
      exact ⟨hS, hF.cut ⟨rfl, rfl, trivial⟩⟩
    · skip
      refine gonE (j := 10) hF rfl rfl hc2 ?_
      refine stp hF (p_fldb (o' := 2) rfl fi_36_2 rfl) (by decide) (fun a hF => ?_)
      refine gonE (j := 10) hF rfl rfl hc2 ?_
      refine stp hF (p_ldb_one (i := 0) hS rfl rfl ia_34 rfl) (by decide) (fun a hF => ?_)
      refine gonE (j := 10) hF rfl rfl hc2 ?_
      refine stp hF (p_lenr un_34 rfl (h2.mono hg1)) (by decide) (fun a hF => ?_)
      refine gonE (j := 10) hF rfl rfl hc2 ?_
      refine stp hF (p_gtr rfl rfl) (by decide) (fun a hF => ?_)
      refine stp hF (p_orF rfl hc2 rfl) (by decide) (fun a hF => ?_)
      refine nilN ?_
      refine xn ?_
      exact ⟨hS, hF.cut ⟨rfl, rfl, trivial⟩⟩
  clear hS hF
  rintro a w ⟨hS, hF⟩
  refine nilN ?_
  refine xn ?_
  refine cnd hF rfl (fun hc3 => ?_) (fun hc3 => ?_)
  · replace H := hbt hc3 H
    refine sq ?_
    refine rg ?_
    refine stp hF (p_assign rfl) (by decide) (fun a hF => ?_)
    refine nilN ?_
    refine xn ?_
    refine rt ?_
    refine xr ?_
    obtain rfl := hsm H
    replace hS := hS.sel (is := []) (A' := []) rfl
    exact ret1 hF rfl rfl hS ⟨rfl, rfl⟩
  · replace H := hbf hc3 H
    refine skN ?_
    refine xn ?_
    refine sq ?_
    refine rg ?_
    refine stp hF (p_fldb (o' := 1) rfl fi_36_1 rfl) (by decide) (fun a hF => ?_)
    refine stp hF (p_ldb_one (i := 0) hS rfl rfl ia_34 rfl) (by decide) (fun a hF => ?_)
    obtain ⟨x4, hx2, H⟩ := hb H
    refine ste hF (e_callA (fst := []) (vs := [v1, (.func (.func 169) #[] #[])]) (cap := []) rfl rfl go_168 (St.call (A := []) (B := [pt g1 36 ([(.int .i64 x2.Kind), v1, v2])]) hS (slices_ContainsFunc_1169.spec k _ _ x2.Ints v1 (h1.mono hg1) _ hx2)) rfl) (by decide) (fun v w a hR hF => ?_)
    obtain ⟨s3, A3, hg2, hS, hR⟩ := hR
    obtain ⟨hv2, rfl⟩ := hR; obtain rfl := hv2.symm
    have hS : St e s3 w [pt g1 36 ([(.int .i64 x2.Kind), v1, v2])] := hS
    refine stp hF (p_not rfl) (by decide) (fun a hF => ?_)
    refine stp hF (p_move rfl) (by decide) (fun a hF => ?_)
    obtain ⟨x6, H, HK1⟩ := hb H
    refine cutj 5 (fun a w => ∃ (x1 : Bool) (s4 : HF) , St e s4 w [pt g1 36 ([(.int .i64 x2.Kind), v1, v2])] ∧ Fr 29 a [(28, (.bool x1))] ∧ Sub s3 s4 ∧ impl_ObjOk.c1 k x1 = some r) rfl rfl ?_ ?_
    · rcases Bool.eq_false_or_eq_true ((!x4)) with hc4 | hc4
      · replace H := hbt hc4 H
        refine gonE (j := 4) hF rfl rfl hc4 ?_
        refine stp hF (p_fldb (o' := 2) rfl fi_36_2 rfl) (by decide) (fun a hF => ?_)
        refine gonE (j := 4) hF rfl rfl hc4 ?_
        refine stp hF (p_ldb_one (i := 0) hS rfl rfl ia_34 rfl) (by decide) (fun a hF => ?_)
        obtain ⟨x5, hx3, H⟩ := hb H
        refine gonE (j := 4) hF rfl rfl hc4 ?_
        refine ste hF (e_callA (fst := []) (vs := [v2, (.func (.func 170) #[] #[])]) (cap := []) rfl rfl go_168 (St.call (A := []) (B := [pt g1 36 ([(.int .i64 x2.Kind), v1, v2])]) hS (slices_ContainsFunc_2170.spec k _ _ x2.Refs v2 ((h2.mono hg1).mono hg2) _ hx3)) rfl) (by decide) (fun v w a hR hF => ?_)
        obtain ⟨s5, A4, hg3, hS, hR⟩ := hR
        obtain ⟨hv3, rfl⟩ := hR; obtain rfl := hv3.symm
        have hS : St e s5 w [pt g1 36 ([(.int .i64 x2.Kind), v1, v2])] := hS
        refine gonE (j := 4) hF rfl rfl hc4 ?_
        refine stp hF (p_not rfl) (by decide) (fun a hF => ?_)
        refine stp hF (p_pickT rfl hc4 rfl) (by decide) (fun a hF => ?_)
        refine nilN ?_
        refine xn ?_
        obtain rfl := hsm H
        exact ⟨(!x5), s5, hS, hF.cut ⟨rfl, trivial⟩, hg3, HK1⟩
      · replace H := hbf hc4 H
        refine gofD (j := 4) hF rfl rfl (by rw [hc4]; decide) (by decide) (fun a hF => ?_)
        refine gofD (j := 4) hF rfl rfl (by rw [hc4]; decide) (by decide) (fun a hF => ?_)
        refine gofD (j := 4) hF rfl rfl (by rw [hc4]; decide) (by decide) (fun a hF => ?_)
        refine gofD (j := 4) hF rfl rfl (by rw [hc4]; decide) (by decide) (fun a hF => ?_)
        refine stp hF (p_pickF rfl hc4 rfl) (by decide) (fun a hF => ?_)
        refine nilN ?_
        refine xn ?_
        obtain rfl := hsm H
        exact ⟨false, s3, hS, hF.cut ⟨rfl, trivial⟩, (Sub.refl _), HK1⟩
    · clear H HK1 hS hF
      rintro a w ⟨x1, s4, hS, hF, hg4, H⟩
      unfold impl_ObjOk.c1 at H
      refine stp hF (p_assign rfl) (by decide) (fun a hF => ?_)
      refine nilN ?_
      refine xn ?_
      refine rt ?_
      obtain rfl := hsm H
      replace hS := hS.sel (is := []) (A' := []) rfl
      exact ret1 hF rfl rfl hS ⟨rfl, rfl⟩

def impl_slotOk.f (k : Nat) (x1 : TSlot) : Option Bool :=
  (if x1.Has = true then ((impl_ObjOk.f k x1.O).bind fun x2 => (some x2)) else ((impl_noObj.f k x1.O).bind fun x3 => (some x3)))
set_option maxRecDepth 100000 in
set_option maxHeartbeats 4000000 in
theorem impl_slotOk.spec (k : Nat) (s0 : HF) (w : World) (x1 : TSlot) (v1 : Value) (v2 : Value) (h1 : Sl (Kd.int .i64) s0 v1 x1.O.Ints) (h2 : Sl (Kd.int .i64) s0 v2 x1.O.Refs) (r : Bool) (H : impl_slotOk.f k x1 = some r) :
    Law Try.prog 84 #[(.agg #[(.bool x1.Has), (.int .i64 x1.O.Kind), v1, v2])] s0 w [] (fun v s1 A1 => v = (.bool r) ∧ A1 = []) := by
  unfold impl_slotOk.f at H
  refine Law.intro Try.func84 rfl [(0, (.agg #[(.bool x1.Has), (.int .i64 x1.O.Kind), v1, v2]))] (Nat.le_of_ble_eq_true rfl) (enter_lk ⟨rfl, trivial⟩) (fun e a hS hF => ?_)
  have hF : Fr 11 a [(0, (.agg #[(.bool x1.Has), (.int .i64 x1.O.Kind), v1, v2]))] := hF
  refine sq ?_
  refine rg ?_
  refine ste hF (e_box (cs := [(.bool x1.Has), (.int .i64 x1.O.Kind), v1, v2]) hS rfl rfl) (by decide) (fun v w a hR hF => ?_)
  obtain ⟨g1, rfl, hS⟩ := hR
  refine stp hF (p_assign rfl) (by decide) (fun a hF => ?_)
  refine nilN ?_
  refine xn ?_
  refine sq ?_
  refine sq ?_
  refine rg ?_
  refine stp hF (p_fldb (o' := 0) rfl fi_38_0 rfl) (by decide) (fun a hF => ?_)
  refine stp hF (p_ldb_one (i := 0) hS rfl rfl ia_4 rfl) (by decide) (fun a hF => ?_)
  refine nilN ?_
  refine xn ?_
  refine cnd hF rfl (fun hc1 => ?_) (fun hc1 => ?_)
  · replace H := hbt hc1 H
    refine sq ?_
    refine rg ?_
    refine stp hF (p_fldb (o' := 1) rfl fi_38_1 rfl) (by decide) (fun a hF => ?_)
    refine stp hF (p_ldb_agg (i := 0) (l := [(.bool x1.Has)]) (m := [(.int .i64 x1.O.Kind), v1, v2]) (r := []) hS rfl rfl ia_36 ti_36 rfl rfl rfl) (by decide) (fun a hF => ?_)
    obtain ⟨x2, hx1, H⟩ := hb H
    refine ste hF (e_callA (fst := []) (vs := [(.agg #[(.int .i64 x1.O.Kind), v1, v2])]) (cap := []) rfl rfl go_141 (St.call (A := []) (B := [pt g1 38 ([(.bool x1.Has), (.int .i64 x1.O.Kind), v1, v2])]) hS (impl_ObjOk.spec k _ _ x1.O v1 v2 h1 h2 _ hx1)) rfl) (by decide) (fun v w a hR hF => ?_)
    obtain ⟨s2, A2, hg1, hS, hR⟩ := hR
    obtain ⟨hv1, rfl⟩ := hR; obtain rfl := hv1.symm
    have hS : St e s2 w [pt g1 38 ([(.bool x1.Has), (.int .i64 x1.O.Kind), v1, v2])] := hS
    refine stp hF (p_assign rfl) (by decide) (fun a hF => ?_)
    refine nilN ?_
    refine xn ?_
    refine rt ?_
    refine xr ?_
    obtain rfl := hsm H
    replace hS := hS.sel (is := []) (A' := []) rfl
    exact ret1 hF rfl rfl hS ⟨rfl, rfl⟩
  · replace H := hbf hc1 H
    refine skN ?_
    refine xn ?_
    refine sq ?_
    refine rg ?_
    refine stp hF (p_fldb (o' := 1) rfl fi_38_1 rfl) (by decide) (fun a hF => ?_)
    refine stp hF (p_ldb_agg (i := 0) (l := [(.bool x1.Has)]) (m := [(.int .i64 x1.O.Kind), v1, v2]) (r := []) hS rfl rfl ia_36 ti_36 rfl rfl rfl) (by decide) (fun a hF => ?_)
    obtain ⟨x3, hx2, H⟩ := hb H
    refine ste hF (e_callA (fst := []) (vs := [(.agg #[(.int .i64 x1.O.Kind), v1, v2])]) (cap := []) rfl rfl go_140 (St.call (A := []) (B := [pt g1 38 ([(.bool x1.Has), (.int .i64 x1.O.Kind), v1, v2])]) hS (impl_noObj.spec k _ _ x1.O v1 v2 h1 h2 _ hx2)) rfl) (by decide) (fun v w a hR hF => ?_)
    obtain ⟨s3, A3, hg2, hS, hR⟩ := hR
    obtain ⟨hv2, rfl⟩ := hR; obtain rfl := hv2.symm
    have hS : St e s3 w [pt g1 38 ([(.bool x1.Has), (.int .i64 x1.O.Kind), v1, v2])] := hS
    refine stp hF (p_assign rfl) (by decide) (fun a hF => ?_)
    refine nilN ?_
    refine xn ?_
    refine rt ?_
    obtain rfl := hsm H
    replace hS := hS.sel (is := []) (A' := []) rfl
    exact ret1 hF rfl rfl hS ⟨rfl, rfl⟩

def impl_putInt.c1 (k : Nat) (x1 : (List Int)) (x2 : Int) : Option (List Int) :=
  (if x1.length + 1 ≤ 140737488355328 then (some (x1 ++ ([w8 (x2)] : List Int))) else none)
def impl_putInt.l1 : Nat → (List Int) → Int → Option ((List Int) × Int)
  | 0, _, _ => none
  | k + 1, x3, x4 => (if (decide (127 < x4)) = true then (if x3.length + 1 ≤ 140737488355328 then ((impl_putInt.l1 k) (x3 ++ ([w8 (bor .i64 (band .i64 x4 127) 128)] : List Int)) (bshr .i64 x4 7)) else none) else (some (x3, x4)))
def impl_putInt.c2 (k : Nat) (x5 : (List Int)) (x6 : Int) : Option (List Int) :=
  (((impl_putInt.l1 k x5 x6) : Option ((List Int) × Int)).bind fun x7 => impl_putInt.c1 k x7.1 x7.2)
def impl_putInt.f (k : Nat) (x5 : (List Int)) (x8 : Int) : Option (List Int) :=
  (((if (decide ((imax (-1000000000000) (imin x8 1000000000000)) < 0)) = true then (some (w64 ((w64 ((-2) * (imax (-1000000000000) (imin x8 1000000000000)))) - 1))) else (some (w64 (2 * (imax (-1000000000000) (imin x8 1000000000000)))))) : Option Int).bind fun x9 => impl_putInt.c2 k x5 x9)
set_option maxRecDepth 100000 in
set_option maxHeartbeats 4000000 in
theorem impl_putInt.spec (k : Nat) (s0 : HF) (w : World) (x5 : (List Int)) (x8 : Int) (v1 : Value) (r : (List Int)) (H : impl_putInt.f k x5 x8 = some r) :
    Law Try.prog 68 #[v1, (.int .i64 x8)] s0 w [Ow (Kd.int .u8) 5 v1 x5] (fun v s1 A1 => ∃ (u0 : Value), v = u0 ∧ A1 = [Ow (Kd.int .u8) 5 u0 r]) := by
  unfold impl_putInt.f at H
  refine Law.intro Try.func68 rfl [(0, v1), (1, (.int .i64 x8))] (Nat.le_of_ble_eq_true rfl) (enter_lk ⟨rfl, rfl, trivial⟩) (fun e a hS hF => ?_)
  have hF : Fr 32 a [(0, v1), (1, (.int .i64 x8))] := hF
  refine sq ?_
  refine rg ?_
  refine stp hF (p_assign rfl) (by decide) (fun a hF => ?_)
  refine nilN ?_
  refine xn ?_
  refine sq ?_
  refine rg ?_
  refine stp hF (p_move rfl) (by decide) (fun a hF => ?_)
  refine stp hF (p_min rfl rfl) (by decide) (fun a hF => ?_)
  refine stp hF (p_max rfl rfl) (by decide) (fun a hF => ?_)
  refine stp hF (p_assign rfl) (by decide) (fun a hF => ?_)
  refine nilN ?_
  refine xn ?_
  refine sq ?_
  refine rg ?_
  refine stp hF (p_move rfl) (by decide) (fun a hF => ?_)
  refine stp hF (p_mul (c := w64 (2 * (imax (-1000000000000) (imin x8 1000000000000)))) rfl rfl rfl) (by decide) (fun a hF => ?_)
  refine stp hF (p_assign rfl) (by decide) (fun a hF => ?_)
  refine nilN ?_
  refine xn ?_
  obtain ⟨x9, H, HK1⟩ := hb H
  refine sqj (fun a w => ∃ (x6 : Int) , St e s0 w [Ow (Kd.int .u8) 5 v1 x5] ∧ Fr 32 a [(0, v1), (5, (.int .i64 x6))] ∧ impl_putInt.c2 k x5 x6 = some r) ?_ ?_
  · skip
    refine sq ?_
    refine rg ?_
    refine stp hF (p_move rfl) (by decide) (fun a hF => ?_)
    refine stp hF (p_lss rfl rfl) (by decide) (fun a hF => ?_)
    refine nilN ?_
    refine xn ?_
    refine cnd hF rfl (fun hc1 => ?_) (fun hc1 => ?_)
    · replace H := hbt hc1 H
      refine rg ?_
      refine stp hF (p_move rfl) (by decide) (fun a hF => ?_)
      refine stp hF (p_mul (c := w64 ((-2) * (imax (-1000000000000) (imin x8 1000000000000)))) rfl rfl rfl) (by decide) (fun a hF => ?_)
      refine stp hF (p_sub (c := w64 ((w64 ((-2) * (imax (-1000000000000) (imin x8 1000000000000)))) - 1)) rfl rfl rfl) (by decide) (fun a hF => ?_)
      refine stp hF (p_assign rfl) (by decide) (fun a hF => ?_)
      refine nilN ?_
      refine xn ?_
      obtain rfl := hsm H
      exact ⟨(w64 ((w64 ((-2) * (imax (-1000000000000) (imin x8 1000000000000)))) - 1)), hS, hF.cut ⟨rfl, rfl, trivial⟩, HK1⟩
    · replace H := hbf hc1 H
      refine skN ?_
      refine xn ?_
      obtain rfl := hsm H
      exact ⟨(w64 (2 * (imax (-1000000000000) (imin x8 1000000000000)))), hS, hF.cut ⟨rfl, rfl, trivial⟩, HK1⟩
  · clear H HK1 hS hF
    rintro a w ⟨x6, hS, hF, H⟩
    unfold impl_putInt.c2 at H
    obtain ⟨x7, H, HK2⟩ := hb H
    refine sqj (fun a w => ∃ (x1 : (List Int)) (x2 : Int) (v2 : Value) , St e s0 w [Ow (Kd.int .u8) 5 v2 x1] ∧ Fr 32 a [(0, v2), (5, (.int .i64 x2))] ∧ impl_putInt.c1 k x1 x2 = some r) ?_ ?_
    · skip
      refine blk ?_
      refine loop_ind (fun k1 a w => ∃ (x3 : (List Int)) (x4 : Int) (v3 : Value) , St e s0 w [Ow (Kd.int .u8) 5 v3 x3] ∧ Fr 32 a [(0, v3), (5, (.int .i64 x4))] ∧ impl_putInt.l1 k1 x3 x4 = some x7) k ?_ ?_ ?_
      · skip
        exact ⟨x5, x6, v1, hS, hF.cut ⟨rfl, rfl, trivial⟩, H⟩
      · clear H hS hF
        rintro a w ⟨x3, x4, v3, hS, hF, H⟩
        exact absurd (show none = some _ from H) (by simp)
      · clear H hS hF
        rintro k1 a w ⟨x3, x4, v3, hS, hF, H⟩
        rw [impl_putInt.l1.eq_2] at H
        refine sq ?_
        refine sq ?_
        refine rg ?_
        refine stp hF (p_move rfl) (by decide) (fun a hF => ?_)
        refine stp hF (p_gtr rfl rfl) (by decide) (fun a hF => ?_)
        refine nilN ?_
        refine xn ?_
        refine cnd hF rfl (fun hc2 => ?_) (fun hc2 => ?_)
        · replace H := hbt hc2 H
          refine skN ?_
          refine xn ?_
          refine blk ?_
          refine sq ?_
          refine rg ?_
          refine stp hF (p_move rfl) (by decide) (fun a hF => ?_)
          refine stp hF (p_move rfl) (by decide) (fun a hF => ?_)
          refine stp hF (p_and (c := band .i64 x4 127) rfl rfl rfl) (by decide) (fun a hF => ?_)
          refine stp hF (p_or (c := bor .i64 (band .i64 x4 127) 128) rfl rfl rfl) (by decide) (fun a hF => ?_)
          refine stp hF (p_cvint (c := w8 (bor .i64 (band .i64 x4 127) 128)) un_3 un_5 rfl rfl) (by decide) (fun a hF => ?_)
          refine ste hF (e_bslice (kd := (Kd.int .u8)) (et := 5) (ps := [(0, (.tmp 22))]) (vs := [(0, (.int .u8 (w8 (bor .i64 (band .i64 x4 127) 128))))]) (cs := [(.int .u8 (w8 (bor .i64 (band .i64 x4 127) 128)))]) (xs := ([w8 (bor .i64 (band .i64 x4 127) 128)] : List Int)) hS rfl (by intro w; kernel_rfl) rfl (by decide) (Nat.le_of_ble_eq_true rfl) (by exact (rows_cons (kd := (Kd.int .u8)) (x := w8 (bor .i64 (band .i64 x4 127) 128)) (c := [(.int .u8 (w8 (bor .i64 (band .i64 x4 127) 128)))]) (cs := []) rfl (Rows.nil _ _ _ _)))) (by decide) (fun v4 w a hR hF => ?_)
          have hS : St e s0 w [Ow (Kd.int .u8) 5 v4 ([w8 (bor .i64 (band .i64 x4 127) 128)] : List Int), Ow (Kd.int .u8) 5 v3 x3] := hR
          obtain ⟨hq1, H⟩ := hck H
          refine ste hF (e_append (n := 1) hS rfl rfl rfl (hS.src (n := 0) rfl) un_24 ti_5 rfl (by decide) (by decide) (Nat.le_trans (Nat.mul_le_mul_right 1 hq1) (by decide))) (by decide) (fun v5 w a hR hF => ?_)
          have hS : St e s0 w [Ow (Kd.int .u8) 5 v5 (x3 ++ ([w8 (bor .i64 (band .i64 x4 127) 128)] : List Int)), Ow (Kd.int .u8) 5 v4 ([w8 (bor .i64 (band .i64 x4 127) 128)] : List Int)] := hR
          replace hS := hS.sel (is := [0]) (A' := [Ow (Kd.int .u8) 5 v5 (x3 ++ ([w8 (bor .i64 (band .i64 x4 127) 128)] : List Int))]) rfl
          refine stp hF (p_assign rfl) (by decide) (fun a hF => ?_)
          refine nilN ?_
          refine xn ?_
          refine rg ?_
          refine stp hF (p_move rfl) (by decide) (fun a hF => ?_)
          refine stp hF (p_shr (c := bshr .i64 x4 7) rfl rfl (by decide) rfl) (by decide) (fun a hF => ?_)
          refine stp hF (p_assign rfl) (by decide) (fun a hF => ?_)
          refine nilN ?_
          refine bn (xn ?_)
          exact ⟨(x3 ++ ([w8 (bor .i64 (band .i64 x4 127) 128)] : List Int)), (bshr .i64 x4 7), v5, hS, hF.cut ⟨rfl, rfl, trivial⟩, H⟩
        · replace H := hbf hc2 H
          refine exi ?_
          refine xe (xe (hit (xn ?_)))
          obtain rfl := hsm H
          exact ⟨x3, x4, v3, hS, hF.cut ⟨rfl, rfl, trivial⟩, HK2⟩
    · clear H HK2 hS hF
      rintro a w ⟨x1, x2, v2, hS, hF, H⟩
      unfold impl_putInt.c1 at H
      refine sq ?_
      refine rg ?_
      refine stp hF (p_move rfl) (by decide) (fun a hF => ?_)
      refine stp hF (p_move rfl) (by decide) (fun a hF => ?_)
      refine stp hF (p_cvint (c := w8 (x2)) un_3 un_5 rfl rfl) (by decide) (fun a hF => ?_)
      refine ste hF (e_bslice (kd := (Kd.int .u8)) (et := 5) (ps := [(0, (.tmp 29))]) (vs := [(0, (.int .u8 (w8 (x2))))]) (cs := [(.int .u8 (w8 (x2)))]) (xs := ([w8 (x2)] : List Int)) hS rfl (by intro w; kernel_rfl) rfl (by decide) (Nat.le_of_ble_eq_true rfl) (by exact (rows_cons (kd := (Kd.int .u8)) (x := w8 (x2)) (c := [(.int .u8 (w8 (x2)))]) (cs := []) rfl (Rows.nil _ _ _ _)))) (by decide) (fun v6 w a hR hF => ?_)
      have hS : St e s0 w [Ow (Kd.int .u8) 5 v6 ([w8 (x2)] : List Int), Ow (Kd.int .u8) 5 v2 x1] := hR
      obtain ⟨hq2, H⟩ := hck H
      refine ste hF (e_append (n := 1) hS rfl rfl rfl (hS.src (n := 0) rfl) un_24 ti_5 rfl (by decide) (by decide) (Nat.le_trans (Nat.mul_le_mul_right 1 hq2) (by decide))) (by decide) (fun v7 w a hR hF => ?_)
      have hS : St e s0 w [Ow (Kd.int .u8) 5 v7 (x1 ++ ([w8 (x2)] : List Int)), Ow (Kd.int .u8) 5 v6 ([w8 (x2)] : List Int)] := hR
      replace hS := hS.sel (is := [0]) (A' := [Ow (Kd.int .u8) 5 v7 (x1 ++ ([w8 (x2)] : List Int))]) rfl
      refine stp hF (p_assign rfl) (by decide) (fun a hF => ?_)
      refine nilN ?_
      refine xn ?_
      refine rt ?_
      obtain rfl := hsm H
      exact ret1 hF rfl rfl hS ⟨v7, rfl, rfl⟩

def impl_putInts.c1 (k : Nat) (x1 : (List Int)) : Option (List Int) :=
  (some x1)
def impl_putInts.l1 (x2 : (List Int)) : Nat → (List Int) → Int → Option (List Int)
  | 0, _, _ => none
  | k + 1, x3, x4 => (if (decide (x4 < (x2.length : Int))) = true then (if 0 ≤ x4 ∧ x4 < (x2.length : Int) then ((impl_putInt.f k x3 (rd x2 x4)).bind fun x5 => ((impl_putInts.l1 x2 k) x5 (w64 (x4 + 1)))) else none) else (some x3))
def impl_putInts.f (k : Nat) (x6 : (List Int)) (x2 : (List Int)) : Option (List Int) :=
  ((impl_putInt.f k x6 (x2.length : Int)).bind fun x7 => (((impl_putInts.l1 x2 k x7 0) : Option (List Int)).bind fun x8 => impl_putInts.c1 k x8))
set_option maxRecDepth 100000 in
set_option maxHeartbeats 4000000 in
theorem impl_putInts.spec (k : Nat) (s0 : HF) (w : World) (x6 : (List Int)) (x2 : (List Int)) (v1 : Value) (v2 : Value) (h1 : Sl (Kd.int .i64) s0 v2 x2) (r : (List Int)) (H : impl_putInts.f k x6 x2 = some r) :
    Law Try.prog 164 #[v1, v2] s0 w [Ow (Kd.int .u8) 5 v1 x6] (fun v s1 A1 => ∃ (u0 : Value), v = u0 ∧ A1 = [Ow (Kd.int .u8) 5 u0 r]) := by
  unfold impl_putInts.f at H
  refine Law.intro Try.func164 rfl [(0, v1), (1, v2)] (Nat.le_of_ble_eq_true rfl) (enter_lk ⟨rfl, rfl, trivial⟩) (fun e a hS hF => ?_)
  have hF : Fr 22 a [(0, v1), (1, v2)] := hF
  refine sq ?_
  refine rg ?_
  refine stp hF (p_assign rfl) (by decide) (fun a hF => ?_)
  refine nilN ?_
  refine xn ?_
  refine sq ?_
  refine rg ?_
  refine stp hF (p_move rfl) (by decide) (fun a hF => ?_)
  refine stp hF (p_move rfl) (by decide) (fun a hF => ?_)
  refine stp hF (p_lenr un_34 rfl h1) (by decide) (fun a hF => ?_)
  obtain ⟨x7, hx1, H⟩ := hb H
  refine ste hF (e_callA (fst := []) (vs := [v1, (.int .i64 (x2.length : Int))]) (cap := []) rfl rfl go_68 (St.call (A := [Ow (Kd.int .u8) 5 v1 x6]) (B := []) hS (impl_putInt.spec k _ _ x6 (x2.length : Int) v1 _ hx1)) rfl) (by decide) (fun v w a hR hF => ?_)
  obtain ⟨s2, A2, hg1, hS, hR⟩ := hR
  obtain ⟨v3, hv1, rfl⟩ := hR; obtain rfl := hv1.symm
  have hS : St e s2 w [Ow (Kd.int .u8) 5 v3 x7] := hS
  refine stp hF (p_assign rfl) (by decide) (fun a hF => ?_)
  refine nilN ?_
  refine xn ?_
  obtain ⟨x8, H, HK1⟩ := hb H
  refine sqj (fun a w => ∃ (x1 : (List Int)) (s3 : HF) (v4 : Value) , St e s3 w [Ow (Kd.int .u8) 5 v4 x1] ∧ Fr 22 a [(0, v4)] ∧ Sub s2 s3 ∧ impl_putInts.c1 k x1 = some r) ?_ ?_
  · skip
    refine sq ?_
    refine rg ?_
    refine stp hF (p_move rfl) (by decide) (fun a hF => ?_)
    refine stp hF (p_lenr un_34 rfl (h1.mono hg1)) (by decide) (fun a hF => ?_)
    refine stp hF (p_move rfl) (by decide) (fun a hF => ?_)
    refine nilN ?_
    refine xn ?_
    refine blk ?_
    refine loop_ind (fun k1 a w => ∃ (x3 : (List Int)) (x4 : Int) (s4 : HF) (v5 : Value) , St e s4 w [Ow (Kd.int .u8) 5 v5 x3] ∧ Fr 22 a [(0, v5), (11, v2), (12, (.int .i64 (x2.length : Int))), (13, (.int .i64 x4))] ∧ Sub s2 s4 ∧ impl_putInts.l1 x2 k1 x3 x4 = some x8) k ?_ ?_ ?_
    · skip
      exact ⟨x7, 0, s2, v3, hS, hF.cut ⟨rfl, rfl, rfl, rfl, trivial⟩, (Sub.refl _), H⟩
    · clear H hS hF
      rintro a w ⟨x3, x4, s4, v5, hS, hF, hg2, H⟩
      exact absurd (show none = some _ from H) (by simp)
    · clear H hS hF
      rintro k1 a w ⟨x3, x4, s4, v5, hS, hF, hg2, H⟩
      rw [impl_putInts.l1.eq_2] at H
      refine sq ?_
      refine rg ?_
      refine stp hF (p_lss rfl rfl) (by decide) (fun a hF => ?_)
      refine nilN ?_
      refine xn ?_
      refine sq ?_
      refine cnd hF rfl (fun hc1 => ?_) (fun hc1 => ?_)
      · replace H := hbt hc1 H
        refine skN ?_
        refine xn ?_
        refine sq ?_
        refine blk ?_
        refine sq ?_
        refine rg ?_
        obtain ⟨hq1, H⟩ := hck H
        obtain ⟨ad1, h2, p1⟩ := p_idxr (P := Try.prog) (i := x4) ((h1.mono hg1).mono hg2) un_34 ti_3 hq1.1 hq1.2
        refine stp hF (p1 rfl rfl) (by decide) (fun a hF => ?_)
        refine stp hF (p_ldr_int rfl hS h2 ia_3) (by decide) (fun a hF => ?_)
        refine stp hF (p_assign rfl) (by decide) (fun a hF => ?_)
        refine nilN ?_
        refine xn ?_
        refine rg ?_
        refine stp hF (p_move rfl) (by decide) (fun a hF => ?_)
        refine stp hF (p_move rfl) (by decide) (fun a hF => ?_)
        obtain ⟨x5, hx2, H⟩ := hb H
        refine ste hF (e_callA (fst := []) (vs := [v5, (.int .i64 (rd x2 x4))]) (cap := []) rfl rfl go_68 (St.call (A := [Ow (Kd.int .u8) 5 v5 x3]) (B := []) hS (impl_putInt.spec k1 _ _ x3 (rd x2 x4) v5 _ hx2)) rfl) (by decide) (fun v w a hR hF => ?_)
        obtain ⟨s5, A3, hg3, hS, hR⟩ := hR
        obtain ⟨v6, hv2, rfl⟩ := hR; obtain rfl := hv2.symm
        have hS : St e s5 w [Ow (Kd.int .u8) 5 v6 x5] := hS
        refine stp hF (p_assign rfl) (by decide) (fun a hF => ?_)
        refine nilN ?_
        refine bn (xn ?_)
        refine rg ?_
        refine stp hF (p_add (c := w64 (x4 + 1)) rfl rfl rfl) (by decide) (fun a hF => ?_)
        refine stp hF (p_move rfl) (by decide) (fun a hF => ?_)
        refine nilN ?_
        refine xn ?_
        exact ⟨x5, (w64 (x4 + 1)), s5, v6, hS, hF.cut ⟨rfl, rfl, rfl, rfl, trivial⟩, (hg2.trans hg3), H⟩
      · replace H := hbf hc1 H
        refine exi ?_
        refine xe (xe (hit (xn ?_)))
        obtain rfl := hsm H
        exact ⟨x3, s4, v5, hS, hF.cut ⟨rfl, trivial⟩, hg2, HK1⟩
  · clear H HK1 hS hF
    rintro a w ⟨x1, s3, v4, hS, hF, hg4, H⟩
    unfold impl_putInts.c1 at H
    refine sq ?_
    refine rg ?_
    refine stp hF (p_move rfl) (by decide) (fun a hF => ?_)
    refine stp hF (p_assign rfl) (by decide) (fun a hF => ?_)
    refine nilN ?_
    refine xn ?_
    refine rt ?_
    obtain rfl := hsm H
    exact ret1 hF rfl rfl hS ⟨v4, rfl, rfl⟩

def impl_PutObj.f (k : Nat) (x1 : TObj) : Option (List Int) :=
  ((impl_ObjOk.f k x1).bind fun x2 => (if (!x2) = true then (some ([] : List Int)) else ((impl_putInt.f k ([] : List Int) x1.Kind).bind fun x3 => ((impl_putInts.f k x3 x1.Ints).bind fun x4 => ((impl_putInts.f k x4 x1.Refs).bind fun x5 => (some x5))))))
set_option maxRecDepth 100000 in
set_option maxHeartbeats 4000000 in
theorem impl_PutObj.spec (k : Nat) (s0 : HF) (w : World) (x1 : TObj) (v1 : Value) (v2 : Value) (h1 : Sl (Kd.int .i64) s0 v1 x1.Ints) (h2 : Sl (Kd.int .i64) s0 v2 x1.Refs) (r : (List Int)) (H : impl_PutObj.f k x1 = some r) :
    Law Try.prog 133 #[(.agg #[(.int .i64 x1.Kind), v1, v2])] s0 w [] (fun v s1 A1 => ∃ (u0 : Value), v = u0 ∧ A1 = [Ow (Kd.int .u8) 5 u0 r]) := by
  unfold impl_PutObj.f at H
  refine Law.intro Try.func133 rfl [(0, (.agg #[(.int .i64 x1.Kind), v1, v2]))] (Nat.le_of_ble_eq_true rfl) (enter_lk ⟨rfl, trivial⟩) (fun e a hS hF => ?_)
  have hF : Fr 15 a [(0, (.agg #[(.int .i64 x1.Kind), v1, v2]))] := hF
  refine sq ?_
  refine rg ?_
  refine ste hF (e_box (cs := [(.int .i64 x1.Kind), v1, v2]) hS rfl rfl) (by decide) (fun v w a hR hF => ?_)
  obtain ⟨g1, rfl, hS⟩ := hR
  refine stp hF (p_assign rfl) (by decide) (fun a hF => ?_)
  refine nilN ?_
  refine xn ?_
  refine sq ?_
  refine sq ?_
  refine rg ?_
  refine stp hF (p_ldb_agg (i := 0) (l := []) (m := [(.int .i64 x1.Kind), v1, v2]) (r := []) hS rfl rfl ia_36 ti_36 rfl rfl rfl) (by decide) (fun a hF => ?_)
  obtain ⟨x2, hx1, H⟩ := hb H
  refine ste hF (e_callA (fst := []) (vs := [(.agg #[(.int .i64 x1.Kind), v1, v2])]) (cap := []) rfl rfl go_141 (St.call (A := []) (B := [pt g1 36 ([(.int .i64 x1.Kind), v1, v2])]) hS (impl_ObjOk.spec k _ _ x1 v1 v2 h1 h2 _ hx1)) rfl) (by decide) (fun v w a hR hF => ?_)
  obtain ⟨s2, A2, hg1, hS, hR⟩ := hR
  obtain ⟨hv1, rfl⟩ := hR; obtain rfl := hv1.symm
  have hS : St e s2 w [pt g1 36 ([(.int .i64 x1.Kind), v1, v2])] := hS
  refine stp hF (p_not rfl) (by decide) (fun a hF => ?_)
  refine nilN ?_
  refine xn ?_
  refine cnd hF rfl (fun hc1 => ?_) (fun hc1 => ?_)
  · replace H := hbt hc1 H
    refine sq ?_
    refine rg ?_
    refine stp hF (p_assign rfl) (by decide) (fun a hF => ?_)
    refine nilN ?_
    refine xn ?_
    refine rt ?_
    refine xr ?_
    obtain rfl := hsm H
    replace hS := hS.ownNil (Kd.int .u8) 5 none
    replace hS := hS.sel (is := [0]) (A' := [Ow (Kd.int .u8) 5 (.slice none 0 0) ([] : List Int)]) rfl
    exact ret1 hF rfl rfl hS ⟨(.slice none 0 0), rfl, rfl⟩
  · replace H := hbf hc1 H
    refine skN ?_
    refine xn ?_
    refine sq ?_
    replace hS : St e s2 w.drew [pt g1 36 ([(.int .i64 x1.Kind), v1, v2])] := hS.drewN 1
    refine drw [0, 1, 2, 3, 4, 5, 6, 7, 8, 9] mixed (by kernel_rfl) (by decide) (hF.cut (L' := [(0, (.agg #[(.int .i64 x1.Kind), v1, v2])), (1, (.pointer (some ⟨g1, 0, none⟩))), (2, (.slice none 0 0)), (3, (.agg #[(.int .i64 x1.Kind), v1, v2])), (4, (.bool x2)), (5, (.bool (!x2)))]) ⟨rfl, rfl, rfl, rfl, rfl, rfl, trivial⟩) ?_
    clear hF
    generalize w.drew = w at hS ⊢
    refine pk1 rfl (by decide) rfl (by kernel_rfl) rfl (p_fldb (o' := 0) rfl fi_36_0 rfl) ?_
    refine pk1 rfl (by decide) rfl (by kernel_rfl) rfl (p_ldb_one (i := 0) hS rfl rfl ia_3 rfl) ?_
    refine pkPerm [3, 2, 4, 5, 6, 7, 8, 9] (by kernel_rfl) ?_
    refine pk1 rfl (by decide) rfl (by kernel_rfl) rfl (p_fldb (o' := 1) rfl fi_36_1 rfl) ?_
    refine pkPerm [4, 2, 5, 6, 7, 8, 9] (by kernel_rfl) ?_
    refine pk1 rfl (by decide) rfl (by kernel_rfl) rfl (p_ldb_one (i := 0) hS rfl rfl ia_34 rfl) ?_
    refine pkPerm [6, 2, 5, 7, 8, 9] (by kernel_rfl) ?_
    refine pk1 rfl (by decide) rfl (by kernel_rfl) rfl (p_fldb (o' := 2) rfl fi_36_2 rfl) ?_
    refine pkPerm [7, 2, 5, 8, 9] (by kernel_rfl) ?_
    refine pk1 rfl (by decide) rfl (by kernel_rfl) rfl (p_ldb_one (i := 0) hS rfl rfl ia_34 rfl) ?_
    replace hS := hS.ownNil (Kd.int .u8) 5 none
    obtain ⟨x3, hx2, H⟩ := hb H
    refine pkE [7, 6, 4, 3, 0] rfl (by decide) (by kernel_rfl) (by kernel_rfl) (e_callA (fst := []) (vs := [(.slice none 0 0), (.int .i64 x1.Kind)]) (cap := []) rfl rfl go_68 (St.call (A := [Ow (Kd.int .u8) 5 (.slice none 0 0) ([] : List Int)]) (B := [pt g1 36 ([(.int .i64 x1.Kind), v1, v2])]) hS (impl_putInt.spec k _ _ ([] : List Int) x1.Kind (.slice none 0 0) _ hx2)) rfl) ?_
    intro v w hR
    obtain ⟨s3, A3, hg2, hS, hR⟩ := hR
    obtain ⟨v3, hv2, rfl⟩ := hR; obtain rfl := hv2.symm
    have hS : St e s3 w [Ow (Kd.int .u8) 5 v3 x3, pt g1 36 ([(.int .i64 x1.Kind), v1, v2])] := hS
    refine ⟨⟨knw rfl rfl rfl (p_ldb_one (i := 1) hS rfl rfl ia_34 rfl), ⟨knw rfl rfl rfl (p_fldb (o' := 2) rfl fi_36_2 rfl), ⟨knw rfl rfl rfl (p_ldb_one (i := 1) hS rfl rfl ia_34 rfl), ⟨knw rfl rfl rfl (p_fldb (o' := 1) rfl fi_36_1 rfl), ⟨knw rfl rfl rfl (p_fldb (o' := 0) rfl fi_36_0 rfl), trivial⟩⟩⟩⟩⟩, ?_⟩
    obtain ⟨x4, hx3, H⟩ := hb H
    refine pkE [7, 6, 3, 0] rfl (by decide) (by kernel_rfl) (by kernel_rfl) (e_callA (fst := []) (vs := [v3, v1]) (cap := []) rfl rfl go_164 (St.call (A := [Ow (Kd.int .u8) 5 v3 x3]) (B := [pt g1 36 ([(.int .i64 x1.Kind), v1, v2])]) hS (impl_putInts.spec k _ _ x3 x1.Ints v3 v1 ((h1.mono hg1).mono hg2) _ hx3)) rfl) ?_
    intro v w hR
    obtain ⟨s4, A4, hg3, hS, hR⟩ := hR
    obtain ⟨v4, hv3, rfl⟩ := hR; obtain rfl := hv3.symm
    have hS : St e s4 w [Ow (Kd.int .u8) 5 v4 x4, pt g1 36 ([(.int .i64 x1.Kind), v1, v2])] := hS
    refine ⟨⟨knw rfl rfl rfl (p_ldb_one (i := 1) hS rfl rfl ia_34 rfl), ⟨knw rfl rfl rfl (p_fldb (o' := 2) rfl fi_36_2 rfl), ⟨knw rfl rfl rfl (p_fldb (o' := 1) rfl fi_36_1 rfl), ⟨knw rfl rfl rfl (p_fldb (o' := 0) rfl fi_36_0 rfl), trivial⟩⟩⟩⟩, ?_⟩
    obtain ⟨x5, hx4, H⟩ := hb H
    refine pkE [6, 3, 0] rfl (by decide) (by kernel_rfl) (by kernel_rfl) (e_callA (fst := []) (vs := [v4, v2]) (cap := []) rfl rfl go_164 (St.call (A := [Ow (Kd.int .u8) 5 v4 x4]) (B := [pt g1 36 ([(.int .i64 x1.Kind), v1, v2])]) hS (impl_putInts.spec k _ _ x4 x1.Refs v4 v2 (((h2.mono hg1).mono hg2).mono hg3) _ hx4)) rfl) ?_
    intro v w hR
    obtain ⟨s5, A5, hg4, hS, hR⟩ := hR
    obtain ⟨v5, hv4, rfl⟩ := hR; obtain rfl := hv4.symm
    have hS : St e s5 w [Ow (Kd.int .u8) 5 v5 x5, pt g1 36 ([(.int .i64 x1.Kind), v1, v2])] := hS
    refine ⟨⟨knw rfl rfl rfl (p_fldb (o' := 2) rfl fi_36_2 rfl), ⟨knw rfl rfl rfl (p_fldb (o' := 1) rfl fi_36_1 rfl), ⟨knw rfl rfl rfl (p_fldb (o' := 0) rfl fi_36_0 rfl), trivial⟩⟩⟩, ?_⟩
    refine pkE [] rfl (by decide) (by kernel_rfl) (by kernel_rfl) (puEf (p_assign rfl)) ?_
    rintro v w' ⟨hv, rfl⟩
    obtain rfl := hv.symm
    refine ⟨trivial, ?_⟩
    refine pkF (fun a hF => ?_)
    refine xn ?_
    refine rt ?_
    obtain rfl := hsm H
    replace hS := hS.sel (is := [0]) (A' := [Ow (Kd.int .u8) 5 v5 x5]) rfl
    exact ret1 hF rfl rfl hS ⟨v5, rfl, rfl⟩

def impl_putSlot.f (k : Nat) (x1 : (List Int)) (x2 : TSlot) : Option (List Int) :=
  (if (!x2.Has) = true then ((impl_putInt.f k x1 0).bind fun x3 => (some x3)) else ((impl_PutObj.f k x2.O).bind fun x4 => ((impl_putInt.f k x1 (x4.length : Int)).bind fun x5 => (if x5.length + x4.length ≤ 140737488355328 then (some (x5 ++ x4)) else none))))
set_option maxRecDepth 100000 in
set_option maxHeartbeats 4000000 in
theorem impl_putSlot.spec (k : Nat) (s0 : HF) (w : World) (x1 : (List Int)) (x2 : TSlot) (v1 : Value) (v2 : Value) (v3 : Value) (h1 : Sl (Kd.int .i64) s0 v2 x2.O.Ints) (h2 : Sl (Kd.int .i64) s0 v3 x2.O.Refs) (r : (List Int)) (H : impl_putSlot.f k x1 x2 = some r) :
    Law Try.prog 69 #[v1, (.agg #[(.bool x2.Has), (.int .i64 x2.O.Kind), v2, v3])] s0 w [Ow (Kd.int .u8) 5 v1 x1] (fun v s1 A1 => ∃ (u0 : Value), v = u0 ∧ A1 = [Ow (Kd.int .u8) 5 u0 r]) := by
  unfold impl_putSlot.f at H
  refine Law.intro Try.func69 rfl [(0, v1), (1, (.agg #[(.bool x2.Has), (.int .i64 x2.O.Kind), v2, v3]))] (Nat.le_of_ble_eq_true rfl) (enter_lk ⟨rfl, rfl, trivial⟩) (fun e a hS hF => ?_)
  have hF : Fr 20 a [(0, v1), (1, (.agg #[(.bool x2.Has), (.int .i64 x2.O.Kind), v2, v3]))] := hF
  refine sq ?_
  refine rg ?_
  refine ste hF (e_box (cs := [(.bool x2.Has), (.int .i64 x2.O.Kind), v2, v3]) hS rfl rfl) (by decide) (fun v w a hR hF => ?_)
  obtain ⟨g1, rfl, hS⟩ := hR
  refine stp hF (p_assign rfl) (by decide) (fun a hF => ?_)
  refine nilN ?_
  refine xn ?_
  refine sq ?_
  refine sq ?_
  refine rg ?_
  refine stp hF (p_fldb (o' := 0) rfl fi_38_0 rfl) (by decide) (fun a hF => ?_)
  refine stp hF (p_ldb_one (i := 0) hS rfl rfl ia_4 rfl) (by decide) (fun a hF => ?_)
  refine stp hF (p_not rfl) (by decide) (fun a hF => ?_)
  refine nilN ?_
  refine xn ?_
  refine cnd hF rfl (fun hc1 => ?_) (fun hc1 => ?_)
  · replace H := hbt hc1 H
    refine sq ?_
    refine rg ?_
    refine stp hF (p_move rfl) (by decide) (fun a hF => ?_)
    replace hS := hS.sel (is := [1, 0]) (A' := [Ow (Kd.int .u8) 5 v1 x1, pt g1 38 ([(.bool x2.Has), (.int .i64 x2.O.Kind), v2, v3])]) rfl
    obtain ⟨x3, hx1, H⟩ := hb H
    refine ste hF (e_callA (fst := []) (vs := [v1, (.int .i64 0)]) (cap := []) rfl rfl go_68 (St.call (A := [Ow (Kd.int .u8) 5 v1 x1]) (B := [pt g1 38 ([(.bool x2.Has), (.int .i64 x2.O.Kind), v2, v3])]) hS (impl_putInt.spec k _ _ x1 0 v1 _ hx1)) rfl) (by decide) (fun v w a hR hF => ?_)
    obtain ⟨s2, A2, hg1, hS, hR⟩ := hR
    obtain ⟨v4, hv1, rfl⟩ := hR; obtain rfl := hv1.symm
    have hS : St e s2 w [Ow (Kd.int .u8) 5 v4 x3, pt g1 38 ([(.bool x2.Has), (.int .i64 x2.O.Kind), v2, v3])] := hS
    refine stp hF (p_assign rfl) (by decide) (fun a hF => ?_)
    refine nilN ?_
    refine xn ?_
    refine rt ?_
    refine xr ?_
    obtain rfl := hsm H
    replace hS := hS.sel (is := [0]) (A' := [Ow (Kd.int .u8) 5 v4 x3]) rfl
    exact ret1 hF rfl rfl hS ⟨v4, rfl, rfl⟩
  · replace H := hbf hc1 H
    refine skN ?_
    refine xn ?_
    refine sq ?_
    refine rg ?_
    refine stp hF (p_fldb (o' := 1) rfl fi_38_1 rfl) (by decide) (fun a hF => ?_)
    refine stp hF (p_ldb_agg (i := 0) (l := [(.bool x2.Has)]) (m := [(.int .i64 x2.O.Kind), v2, v3]) (r := []) hS rfl rfl ia_36 ti_36 rfl rfl rfl) (by decide) (fun a hF => ?_)
    obtain ⟨x4, hx2, H⟩ := hb H
    refine ste hF (e_callA (fst := []) (vs := [(.agg #[(.int .i64 x2.O.Kind), v2, v3])]) (cap := []) rfl rfl go_133 (St.call (A := []) (B := [pt g1 38 ([(.bool x2.Has), (.int .i64 x2.O.Kind), v2, v3]), Ow (Kd.int .u8) 5 v1 x1]) hS (impl_PutObj.spec k _ _ x2.O v2 v3 h1 h2 _ hx2)) rfl) (by decide) (fun v w a hR hF => ?_)
    obtain ⟨s3, A3, hg2, hS, hR⟩ := hR
    obtain ⟨v5, hv2, rfl⟩ := hR; obtain rfl := hv2.symm
    have hS : St e s3 w [Ow (Kd.int .u8) 5 v5 x4, pt g1 38 ([(.bool x2.Has), (.int .i64 x2.O.Kind), v2, v3]), Ow (Kd.int .u8) 5 v1 x1] := hS
    refine stp hF (p_assign rfl) (by decide) (fun a hF => ?_)
    refine nilN ?_
    refine xn ?_
    refine sq ?_
    refine rg ?_
    refine stp hF (p_move rfl) (by decide) (fun a hF => ?_)
    refine stp hF (p_move rfl) (by decide) (fun a hF => ?_)
    refine stp hF (p_leno (i := 0) hS rfl un_24 rfl) (by decide) (fun a hF => ?_)
    replace hS := hS.sel (is := [2, 0, 0]) (A' := [Ow (Kd.int .u8) 5 v1 x1, Ow (Kd.int .u8) 5 v5 x4, pt g1 38 ([(.bool x2.Has), (.int .i64 x2.O.Kind), v2, v3])]) rfl
    obtain ⟨x5, hx3, H⟩ := hb H
    refine ste hF (e_callA (fst := []) (vs := [v1, (.int .i64 (x4.length : Int))]) (cap := []) rfl rfl go_68 (St.call (A := [Ow (Kd.int .u8) 5 v1 x1]) (B := [Ow (Kd.int .u8) 5 v5 x4, pt g1 38 ([(.bool x2.Has), (.int .i64 x2.O.Kind), v2, v3])]) hS (impl_putInt.spec k _ _ x1 (x4.length : Int) v1 _ hx3)) rfl) (by decide) (fun v w a hR hF => ?_)
    obtain ⟨s4, A4, hg3, hS, hR⟩ := hR
    obtain ⟨v6, hv3, rfl⟩ := hR; obtain rfl := hv3.symm
    have hS : St e s4 w [Ow (Kd.int .u8) 5 v6 x5, Ow (Kd.int .u8) 5 v5 x4, pt g1 38 ([(.bool x2.Has), (.int .i64 x2.O.Kind), v2, v3])] := hS
    refine stp hF (p_move rfl) (by decide) (fun a hF => ?_)
    obtain ⟨hq1, H⟩ := hck H
    refine ste hF (e_append (n := 0) hS rfl rfl rfl (hS.src (n := 1) rfl) un_24 ti_5 rfl (by decide) (by decide) (Nat.le_trans (Nat.mul_le_mul_right 1 hq1) (by decide))) (by decide) (fun v7 w a hR hF => ?_)
    have hS : St e s4 w [Ow (Kd.int .u8) 5 v7 (x5 ++ x4), Ow (Kd.int .u8) 5 v5 x4, pt g1 38 ([(.bool x2.Has), (.int .i64 x2.O.Kind), v2, v3])] := hR
    refine stp hF (p_assign rfl) (by decide) (fun a hF => ?_)
    refine nilN ?_
    refine xn ?_
    refine rt ?_
    obtain rfl := hsm H
    replace hS := hS.sel (is := [0]) (A' := [Ow (Kd.int .u8) 5 v7 (x5 ++ x4)]) rfl
    exact ret1 hF rfl rfl hS ⟨v7, rfl, rfl⟩

def spec_l1In.f (k : Nat) (x1 : Int) (x2 : Int) (x3 : Int) : Option Bool :=
  (some ((decide (x2 ≤ x1)) && (decide (x1 ≤ x3))))
set_option maxRecDepth 100000 in
set_option maxHeartbeats 4000000 in
theorem spec_l1In.spec (k : Nat) (s0 : HF) (w : World) (x1 : Int) (x2 : Int) (x3 : Int) (r : Bool) (H : spec_l1In.f k x1 x2 x3 = some r) :
    Law Try.prog 75 #[(.int .i64 x1), (.int .i64 x2), (.int .i64 x3)] s0 w [] (fun v s1 A1 => v = (.bool r) ∧ A1 = []) := by
  unfold spec_l1In.f at H
  refine Law.intro Try.func75 rfl [(0, (.int .i64 x1)), (1, (.int .i64 x2)), (2, (.int .i64 x3))] (Nat.le_of_ble_eq_true rfl) (enter_lk ⟨rfl, rfl, rfl, trivial⟩) (fun e a hS hF => ?_)
  have hF : Fr 15 a [(0, (.int .i64 x1)), (1, (.int .i64 x2)), (2, (.int .i64 x3))] := hF
  refine sq ?_
  refine rg ?_
  refine stp hF (p_assign rfl) (by decide) (fun a hF => ?_)
  refine nilN ?_
  refine xn ?_
  refine sq ?_
  refine rg ?_
  refine stp hF (p_move rfl) (by decide) (fun a hF => ?_)
  refine stp hF (p_move rfl) (by decide) (fun a hF => ?_)
  refine stp hF (p_geq rfl rfl) (by decide) (fun a hF => ?_)
  refine stp hF (p_move rfl) (by decide) (fun a hF => ?_)
  refine cutj 4 (fun a w => St e s0 w [] ∧ Fr 15 a [(14, (.bool ((decide (x2 ≤ x1)) && (decide (x1 ≤ x3)))))]) rfl rfl ?_ ?_
  · rcases Bool.eq_false_or_eq_true (decide (x2 ≤ x1)) with hc1 | hc1
    · skip
      refine gonE (j := 3) hF rfl rfl hc1 ?_
      refine stp hF (p_move rfl) (by decide) (fun a hF => ?_)
      refine gonE (j := 3) hF rfl rfl hc1 ?_
      refine stp hF (p_move rfl) (by decide) (fun a hF => ?_)
      refine gonE (j := 3) hF rfl rfl hc1 ?_
      refine stp hF (p_leq rfl rfl) (by decide) (fun a hF => ?_)
      refine stp hF (p_andT rfl hc1 rfl) (by decide) (fun a hF => ?_)
      refine nilN ?_
      refine xn ?_
      exact ⟨hS, hF.cut ⟨rfl, trivial⟩⟩
    · skip
      refine gofD (j := 3) hF rfl rfl (by rw [hc1]; decide) (by decide) (fun a hF => ?_)
      refine gofD (j := 3) hF rfl rfl (by rw [hc1]; decide) (by decide) (fun a hF => ?_)
      refine gofD (j := 3) hF rfl rfl (by rw [hc1]; decide) (by decide) (fun a hF => ?_)
      refine stp hF (p_andF (decide (x1 ≤ x3)) rfl hc1 rfl) (by decide) (fun a hF => ?_)
      refine nilN ?_
      refine xn ?_
      exact ⟨hS, hF.cut ⟨rfl, trivial⟩⟩
  clear hS hF
  rintro a w ⟨hS, hF⟩
  refine stp hF (p_assign rfl) (by decide) (fun a hF => ?_)
  refine nilN ?_
  refine xn ?_
  refine rt ?_
  obtain rfl := hsm H
  exact ret1 hF rfl rfl hS ⟨rfl, rfl⟩

def spec_ObjOk.c1 (k : Nat) : Option Bool :=
  (some true)
def spec_ObjOk.l1 (x1 : TObj) : Nat → Int → Option (Ex Bool Unit)
  | 0, _ => none
  | k + 1, x2 => (if (decide (x2 < (x1.Refs.length : Int))) = true then (if 0 ≤ x2 ∧ x2 < (x1.Refs.length : Int) then ((spec_l1In.f k (rd x1.Refs x2) 0 31).bind fun x3 => (if (!x3) = true then (some (Ex.ret false)) else ((spec_ObjOk.l1 x1 k) (w64 (x2 + 1))))) else none) else (some (Ex.go ())))
def spec_ObjOk.c2 (k : Nat) (x1 : TObj) : Option Bool :=
  (((spec_ObjOk.l1 x1 k 0) : Option (Ex Bool Unit)).bind fun x4 => Ex.on x4 (fun r => some r) (fun y => spec_ObjOk.c1 k))
def spec_ObjOk.l2 (x1 : TObj) : Nat → Int → Option (Ex Bool Unit)
  | 0, _ => none
  | k + 1, x5 => (if (decide (x5 < (x1.Ints.length : Int))) = true then (if 0 ≤ x5 ∧ x5 < (x1.Ints.length : Int) then ((spec_l1In.f k (rd x1.Ints x5) (-1000000) 1000000).bind fun x6 => (if (!x6) = true then (some (Ex.ret false)) else ((spec_ObjOk.l2 x1 k) (w64 (x5 + 1))))) else none) else (some (Ex.go ())))
def spec_ObjOk.f (k : Nat) (x1 : TObj) : Option Bool :=
  ((spec_l1In.f k x1.Kind 1 99).bind fun x7 => (if (((!x7) || (decide (5 < (x1.Ints.length : Int)))) || (decide (5 < (x1.Refs.length : Int)))) = true then (some false) else (((spec_ObjOk.l2 x1 k 0) : Option (Ex Bool Unit)).bind fun x8 => Ex.on x8 (fun r => some r) (fun y => spec_ObjOk.c2 k x1))))
set_option maxRecDepth 100000 in
set_option maxHeartbeats 4000000 in
theorem spec_ObjOk.spec (k : Nat) (s0 : HF) (w : World) (x1 : TObj) (v1 : Value) (v2 : Value) (h1 : Sl (Kd.int .i64) s0 v1 x1.Ints) (h2 : Sl (Kd.int .i64) s0 v2 x1.Refs) (r : Bool) (H : spec_ObjOk.f k x1 = some r) :
    Law Try.prog 127 #[(.agg #[(.int .i64 x1.Kind), v1, v2])] s0 w [] (fun v s1 A1 => v = (.bool r) ∧ A1 = []) := by
  unfold spec_ObjOk.f at H
  refine Law.intro Try.func127 rfl [(0, (.agg #[(.int .i64 x1.Kind), v1, v2]))] (Nat.le_of_ble_eq_true rfl) (enter_lk ⟨rfl, trivial⟩) (fun e a hS hF => ?_)
  have hF : Fr 49 a [(0, (.agg #[(.int .i64 x1.Kind), v1, v2]))] := hF
  refine sq ?_
  refine rg ?_
  refine ste hF (e_box (cs := [(.int .i64 x1.Kind), v1, v2]) hS rfl rfl) (by decide) (fun v w a hR hF => ?_)
  obtain ⟨g1, rfl, hS⟩ := hR
  refine stp hF (p_assign rfl) (by decide) (fun a hF => ?_)
  refine nilN ?_
  refine xn ?_
  refine sq ?_
  refine sq ?_
  refine rg ?_
  refine stp hF (p_fldb (o' := 0) rfl fi_36_0 rfl) (by decide) (fun a hF => ?_)
  refine stp hF (p_ldb_one (i := 0) hS rfl rfl ia_3 rfl) (by decide) (fun a hF => ?_)
  obtain ⟨x7, hx1, H⟩ := hb H
  refine ste hF (e_callA (fst := []) (vs := [(.int .i64 x1.Kind), (.int .i64 1), (.int .i64 99)]) (cap := []) rfl rfl go_75 (St.call (A := []) (B := [pt g1 36 ([(.int .i64 x1.Kind), v1, v2])]) hS (spec_l1In.spec k _ _ x1.Kind 1 99 _ hx1)) rfl) (by decide) (fun v w a hR hF => ?_)
  obtain ⟨s2, A2, hg1, hS, hR⟩ := hR
  obtain ⟨hv1, rfl⟩ := hR; obtain rfl := hv1.symm
  have hS : St e s2 w [pt g1 36 ([(.int .i64 x1.Kind), v1, v2])] := hS
  refine stp hF (p_not rfl) (by decide) (fun a hF => ?_)
  refine stp hF (p_move rfl) (by decide) (fun a hF => ?_)
  refine cutj 5 (fun a w => St e s2 w [pt g1 36 ([(.int .i64 x1.Kind), v1, v2])] ∧ Fr 49 a [(1, (.pointer (some ⟨g1, 0, none⟩))), (14, (.bool ((!x7) || (decide (5 < (x1.Ints.length : Int))))))]) rfl rfl ?_ ?_
  · rcases Bool.eq_false_or_eq_true ((!x7)) with hc1 | hc1
    · skip
      refine gofD (j := 4) hF rfl rfl (by rw [hc1]; decide) (by decide) (fun a hF => ?_)
      refine gofD (j := 4) hF rfl rfl (by rw [hc1]; decide) (by decide) (fun a hF => ?_)
      refine gofD (j := 4) hF rfl rfl (by rw [hc1]; decide) (by decide) (fun a hF => ?_)
      refine gofD (j := 4) hF rfl rfl (by rw [hc1]; decide) (by decide) (fun a hF => ?_)
      refine stp hF (p_orT (decide (5 < (x1.Ints.length : Int))) rfl hc1 rfl) (by decide) (fun a hF => ?_)
      refine nilN ?_
      refine xn ?_
      exact ⟨hS, hF.cut ⟨rfl, rfl, trivial⟩⟩
    · skip
      refine gonE (j := 4) hF rfl rfl hc1 ?_
      refine stp hF (p_fldb (o' := 1) rfl fi_36_1 rfl) (by decide) (fun a hF => ?_)
      refine gonE (j := 4) hF rfl rfl hc1 ?_
      refine stp hF (p_ldb_one (i := 0) hS rfl rfl ia_34 rfl) (by decide) (fun a hF => ?_)
      refine gonE (j := 4) hF rfl rfl hc1 ?_
      refine stp hF (p_lenr un_34 rfl (h1.mono hg1)) (by decide) (fun a hF => ?_)
      refine gonE (j := 4) hF rfl rfl hc1 ?_
      refine stp hF (p_gtr rfl rfl) (by decide) (fun a hF => ?_)
      refine stp hF (p_orF rfl hc1 rfl) (by decide) (fun a hF => ?_)
      refine nilN ?_
      refine xn ?_
      exact ⟨hS, hF.cut ⟨rfl, rfl, trivial⟩⟩
  clear hS hF
  rintro a w ⟨hS, hF⟩
  refine stp hF (p_move rfl) (by decide) (fun a hF => ?_)
  refine cutj 5 (fun a w => St e s2 w [pt g1 36 ([(.int .i64 x1.Kind), v1, v2])] ∧ Fr 49 a [(1, (.pointer (some ⟨g1, 0, none⟩))), (20, (.bool (((!x7) || (decide (5 < (x1.Ints.length : Int)))) || (decide (5 < (x1.Refs.length : Int))))))]) rfl rfl ?_ ?_
  · rcases Bool.eq_false_or_eq_true (((!x7) || (decide (5 < (x1.Ints.length : Int))))) with hc2 | hc2
    · skip
      refine gofD (j := 10) hF rfl rfl (by rw [hc2]; decide) (by decide) (fun a hF => ?_)
      refine gofD (j := 10) hF rfl rfl (by rw [hc2]; decide) (by decide) (fun a hF => ?_)
      refine gofD (j := 10) hF rfl rfl (by rw [hc2]; decide) (by decide) (fun a hF => ?_)
      refine gofD (j := 10) hF rfl rfl (by rw [hc2]; decide) (by decide) (fun a hF => ?_)
      refine stp hF (p_orT (decide (5 < (x1.Refs.length : Int))) rfl hc2 rfl) (by decide) (fun a hF => ?_)
      refine nilN ?_
      refine xn ?_
      exact ⟨hS, hF.cut ⟨rfl, rfl, trivial⟩⟩
    · skip
      refine gonE (j := 10) hF rfl rfl hc2 ?_
      refine stp hF (p_fldb (o' := 2) rfl fi_36_2 rfl) (by decide) (fun a hF => ?_)
      refine gonE (j := 10) hF rfl rfl hc2 ?_
      refine stp hF (p_ldb_one (i := 0) hS rfl rfl ia_34 rfl) (by decide) (fun a hF => ?_)
      refine gonE (j := 10) hF rfl rfl hc2 ?_
      refine stp hF (p_lenr un_34 rfl (h2.mono hg1)) (by decide) (fun a hF => ?_)
      refine gonE (j := 10) hF rfl rfl hc2 ?_
      refine stp hF (p_gtr rfl rfl) (by decide) (fun a hF => ?_)
      refine stp hF (p_orF rfl hc2 rfl) (by decide) (fun a hF => ?_)
      refine nilN ?_
      refine xn ?_
      exact ⟨hS, hF.cut ⟨rfl, rfl, trivial⟩⟩
  clear hS hF
  rintro a w ⟨hS, hF⟩
  refine nilN ?_
  refine xn ?_
  refine cnd hF rfl (fun hc3 => ?_) (fun hc3 => ?_)
  · replace H := hbt hc3 H
    refine sq ?_
    refine rg ?_
    refine stp hF (p_assign rfl) (by decide) (fun a hF => ?_)
    refine nilN ?_
    refine xn ?_
    refine rt ?_
    refine xr ?_
    obtain rfl := hsm H
    replace hS := hS.sel (is := []) (A' := []) rfl
    exact ret1 hF rfl rfl hS ⟨rfl, rfl⟩
  · replace H := hbf hc3 H
    refine skN ?_
    refine xn ?_
    obtain ⟨x8, H, HK1⟩ := hb H
    refine sqj (fun a w => ∃ (s3 : HF) , St e s3 w [pt g1 36 ([(.int .i64 x1.Kind), v1, v2])] ∧ Fr 49 a [(1, (.pointer (some ⟨g1, 0, none⟩)))] ∧ Sub s2 s3 ∧ spec_ObjOk.c2 k x1 = some r) ?_ ?_
    · skip
      refine sq ?_
      refine rg ?_
      refine stp hF (p_assign rfl) (by decide) (fun a hF => ?_)
      refine nilN ?_
      refine xn ?_
      refine blk ?_
      refine loop_ind (fun k1 a w => ∃ (x5 : Int) (s4 : HF) , St e s4 w [pt g1 36 ([(.int .i64 x1.Kind), v1, v2])] ∧ Fr 49 a [(1, (.pointer (some ⟨g1, 0, none⟩))), (3, (.int .i64 x5))] ∧ Sub s2 s4 ∧ spec_ObjOk.l2 x1 k1 x5 = some x8) k ?_ ?_ ?_
      · skip
        exact ⟨0, s2, hS, hF.cut ⟨rfl, rfl, trivial⟩, (Sub.refl _), H⟩
      · clear H hS hF
        rintro a w ⟨x5, s4, hS, hF, hg2, H⟩
        exact absurd (show none = some _ from H) (by simp)
      · clear H hS hF
        rintro k1 a w ⟨x5, s4, hS, hF, hg2, H⟩
        rw [spec_ObjOk.l2.eq_2] at H
        refine sq ?_
        refine sq ?_
        refine rg ?_
        refine stp hF (p_move rfl) (by decide) (fun a hF => ?_)
        refine stp hF (p_fldb (o' := 1) rfl fi_36_1 rfl) (by decide) (fun a hF => ?_)
        refine stp hF (p_ldb_one (i := 0) hS rfl rfl ia_34 rfl) (by decide) (fun a hF => ?_)
        refine stp hF (p_lenr un_34 rfl ((h1.mono hg1).mono hg2)) (by decide) (fun a hF => ?_)
        refine stp hF (p_lss rfl rfl) (by decide) (fun a hF => ?_)
        refine nilN ?_
        refine xn ?_
        refine cnd hF rfl (fun hc4 => ?_) (fun hc4 => ?_)
        · replace H := hbt hc4 H
          refine skN ?_
          refine xn ?_
          refine sq ?_
          refine blk ?_
          refine sq ?_
          refine rg ?_
          refine stp hF (p_fldb (o' := 1) rfl fi_36_1 rfl) (by decide) (fun a hF => ?_)
          refine stp hF (p_ldb_one (i := 0) hS rfl rfl ia_34 rfl) (by decide) (fun a hF => ?_)
          refine stp hF (p_move rfl) (by decide) (fun a hF => ?_)
          obtain ⟨hq1, H⟩ := hck H
          obtain ⟨ad1, h3, p1⟩ := p_idxr (P := Try.prog) (i := x5) ((h1.mono hg1).mono hg2) un_34 ti_3 hq1.1 hq1.2
          refine stp hF (p1 rfl rfl) (by decide) (fun a hF => ?_)
          refine stp hF (p_ldr_int rfl hS h3 ia_3) (by decide) (fun a hF => ?_)
          obtain ⟨x6, hx2, H⟩ := hb H
          refine ste hF (e_callA (fst := []) (vs := [(.int .i64 (rd x1.Ints x5)), (.int .i64 (-1000000)), (.int .i64 1000000)]) (cap := []) rfl rfl go_75 (St.call (A := []) (B := [pt g1 36 ([(.int .i64 x1.Kind), v1, v2])]) hS (spec_l1In.spec k1 _ _ (rd x1.Ints x5) (-1000000) 1000000 _ hx2)) rfl) (by decide) (fun v w a hR hF => ?_)
          obtain ⟨s5, A3, hg3, hS, hR⟩ := hR
          obtain ⟨hv2, rfl⟩ := hR; obtain rfl := hv2.symm
          have hS : St e s5 w [pt g1 36 ([(.int .i64 x1.Kind), v1, v2])] := hS
          refine stp hF (p_not rfl) (by decide) (fun a hF => ?_)
          refine nilN ?_
          refine xn ?_
          refine cnd hF rfl (fun hc5 => ?_) (fun hc5 => ?_)
          · replace H := hbt hc5 H
            refine sq ?_
            refine rg ?_
            refine stp hF (p_assign rfl) (by decide) (fun a hF => ?_)
            refine nilN ?_
            refine xn ?_
            refine rt ?_
            refine br (xr (xr (br (xr ?_))))
            obtain rfl := hsm H
            have H := hon1 HK1
            obtain rfl := hsm H
            replace hS := hS.sel (is := []) (A' := []) rfl
            exact ret1 hF rfl rfl hS ⟨rfl, rfl⟩
          · replace H := hbf hc5 H
            refine skN ?_
            refine bn (xn ?_)
            refine rg ?_
            refine stp hF (p_move rfl) (by decide) (fun a hF => ?_)
            refine stp hF (p_add (c := w64 (x5 + 1)) rfl rfl rfl) (by decide) (fun a hF => ?_)
            refine stp hF (p_assign rfl) (by decide) (fun a hF => ?_)
            refine nilN ?_
            refine xn ?_
            exact ⟨(w64 (x5 + 1)), s5, hS, hF.cut ⟨rfl, rfl, trivial⟩, (hg2.trans hg3), H⟩
        · replace H := hbf hc4 H
          refine exi ?_
          refine xe (xe (hit (xn ?_)))
          obtain rfl := hsm H
          exact ⟨s4, hS, hF.cut ⟨rfl, trivial⟩, hg2, HK1⟩
    · clear H HK1 hS hF
      rintro a w ⟨s3, hS, hF, hg4, H⟩
      unfold spec_ObjOk.c2 at H
      obtain ⟨x4, H, HK2⟩ := hb H
      refine sqj (fun a w => ∃ (s6 : HF) , St e s6 w [pt g1 36 ([(.int .i64 x1.Kind), v1, v2])] ∧ Fr 49 a [] ∧ Sub s3 s6 ∧ spec_ObjOk.c1 k = some r) ?_ ?_
      · skip
        refine sq ?_
        refine rg ?_
        refine stp hF (p_assign rfl) (by decide) (fun a hF => ?_)
        refine nilN ?_
        refine xn ?_
        refine blk ?_
        refine loop_ind (fun k2 a w => ∃ (x2 : Int) (s7 : HF) , St e s7 w [pt g1 36 ([(.int .i64 x1.Kind), v1, v2])] ∧ Fr 49 a [(1, (.pointer (some ⟨g1, 0, none⟩))), (4, (.int .i64 x2))] ∧ Sub s3 s7 ∧ spec_ObjOk.l1 x1 k2 x2 = some x4) k ?_ ?_ ?_
        · skip
          exact ⟨0, s3, hS, hF.cut ⟨rfl, rfl, trivial⟩, (Sub.refl _), H⟩
        · clear H hS hF
          rintro a w ⟨x2, s7, hS, hF, hg5, H⟩
          exact absurd (show none = some _ from H) (by simp)
        · clear H hS hF
          rintro k2 a w ⟨x2, s7, hS, hF, hg5, H⟩
          rw [spec_ObjOk.l1.eq_2] at H
          refine sq ?_
          refine sq ?_
          refine rg ?_
          refine stp hF (p_move rfl) (by decide) (fun a hF => ?_)
          refine stp hF (p_fldb (o' := 2) rfl fi_36_2 rfl) (by decide) (fun a hF => ?_)
          refine stp hF (p_ldb_one (i := 0) hS rfl rfl ia_34 rfl) (by decide) (fun a hF => ?_)
          refine stp hF (p_lenr un_34 rfl (((h2.mono hg1).mono hg4).mono hg5)) (by decide) (fun a hF => ?_)
          refine stp hF (p_lss rfl rfl) (by decide) (fun a hF => ?_)
          refine nilN ?_
          refine xn ?_
          refine cnd hF rfl (fun hc6 => ?_) (fun hc6 => ?_)
          · replace H := hbt hc6 H
            refine skN ?_
            refine xn ?_
            refine sq ?_
            refine blk ?_
            refine sq ?_
            refine rg ?_
            refine stp hF (p_fldb (o' := 2) rfl fi_36_2 rfl) (by decide) (fun a hF => ?_)
            refine stp hF (p_ldb_one (i := 0) hS rfl rfl ia_34 rfl) (by decide) (fun a hF => ?_)
            refine stp hF (p_move rfl) (by decide) (fun a hF => ?_)
            obtain ⟨hq2, H⟩ := hck H
            obtain ⟨ad2, h4, p2⟩ := p_idxr (P := Try.prog) (i := x2) (((h2.mono hg1).mono hg4).mono hg5) un_34 ti_3 hq2.1 hq2.2
            refine stp hF (p2 rfl rfl) (by decide) (fun a hF => ?_)
            refine stp hF (p_ldr_int rfl hS h4 ia_3) (by decide) (fun a hF => ?_)
            obtain ⟨x3, hx3, H⟩ := hb H
            refine ste hF (e_callA (fst := []) (vs := [(.int .i64 (rd x1.Refs x2)), (.int .i64 0), (.int .i64 31)]) (cap := []) rfl rfl go_75 (St.call (A := []) (B := [pt g1 36 ([(.int .i64 x1.Kind), v1, v2])]) hS (spec_l1In.spec k2 _ _ (rd x1.Refs x2) 0 31 _ hx3)) rfl) (by decide) (fun v w a hR hF => ?_)
            obtain ⟨s8, A4, hg6, hS, hR⟩ := hR
            obtain ⟨hv3, rfl⟩ := hR; obtain rfl := hv3.symm
            have hS : St e s8 w [pt g1 36 ([(.int .i64 x1.Kind), v1, v2])] := hS
            refine stp hF (p_not rfl) (by decide) (fun a hF => ?_)
            refine nilN ?_
            refine xn ?_
            refine cnd hF rfl (fun hc7 => ?_) (fun hc7 => ?_)
            · replace H := hbt hc7 H
              refine sq ?_
              refine rg ?_
              refine stp hF (p_assign rfl) (by decide) (fun a hF => ?_)
              refine nilN ?_
              refine xn ?_
              refine rt ?_
              refine br (xr (xr (br (xr ?_))))
              obtain rfl := hsm H
              have H := hon1 HK2
              obtain rfl := hsm H
              replace hS := hS.sel (is := []) (A' := []) rfl
              exact ret1 hF rfl rfl hS ⟨rfl, rfl⟩
            · replace H := hbf hc7 H
              refine skN ?_
              refine bn (xn ?_)
              refine rg ?_
              refine stp hF (p_move rfl) (by decide) (fun a hF => ?_)
              refine stp hF (p_add (c := w64 (x2 + 1)) rfl rfl rfl) (by decide) (fun a hF => ?_)
              refine stp hF (p_assign rfl) (by decide) (fun a hF => ?_)
              refine nilN ?_
              refine xn ?_
              exact ⟨(w64 (x2 + 1)), s8, hS, hF.cut ⟨rfl, rfl, trivial⟩, (hg5.trans hg6), H⟩
          · replace H := hbf hc6 H
            refine exi ?_
            refine xe (xe (hit (xn ?_)))
            obtain rfl := hsm H
            exact ⟨s7, hS, hF.cut trivial, hg5, HK2⟩
      · clear H HK2 hS hF
        rintro a w ⟨s6, hS, hF, hg7, H⟩
        unfold spec_ObjOk.c1 at H
        refine sq ?_
        refine rg ?_
        refine stp hF (p_assign rfl) (by decide) (fun a hF => ?_)
        refine nilN ?_
        refine xn ?_
        refine rt ?_
        obtain rfl := hsm H
        replace hS := hS.sel (is := []) (A' := []) rfl
        exact ret1 hF rfl rfl hS ⟨rfl, rfl⟩

def spec_l3Slot.f (k : Nat) (x1 : TSlot) : Option Bool :=
  (if x1.Has = true then ((spec_ObjOk.f k x1.O).bind fun x2 => (some x2)) else (some (((decide (x1.O.Kind = 0)) && (decide ((x1.O.Ints.length : Int) = 0))) && (decide ((x1.O.Refs.length : Int) = 0)))))
set_option maxRecDepth 100000 in
set_option maxHeartbeats 4000000 in
theorem spec_l3Slot.spec (k : Nat) (s0 : HF) (w : World) (x1 : TSlot) (v1 : Value) (v2 : Value) (h1 : Sl (Kd.int .i64) s0 v1 x1.O.Ints) (h2 : Sl (Kd.int .i64) s0 v2 x1.O.Refs) (r : Bool) (H : spec_l3Slot.f k x1 = some r) :
    Law Try.prog 76 #[(.agg #[(.bool x1.Has), (.int .i64 x1.O.Kind), v1, v2])] s0 w [] (fun v s1 A1 => v = (.bool r) ∧ A1 = []) := by
  unfold spec_l3Slot.f at H
  refine Law.intro Try.func76 rfl [(0, (.agg #[(.bool x1.Has), (.int .i64 x1.O.Kind), v1, v2]))] (Nat.le_of_ble_eq_true rfl) (enter_lk ⟨rfl, trivial⟩) (fun e a hS hF => ?_)
  have hF : Fr 26 a [(0, (.agg #[(.bool x1.Has), (.int .i64 x1.O.Kind), v1, v2]))] := hF
  refine sq ?_
  refine rg ?_
  refine ste hF (e_box (cs := [(.bool x1.Has), (.int .i64 x1.O.Kind), v1, v2]) hS rfl rfl) (by decide) (fun v w a hR hF => ?_)
  obtain ⟨g1, rfl, hS⟩ := hR
  refine stp hF (p_assign rfl) (by decide) (fun a hF => ?_)
  refine nilN ?_
  refine xn ?_
  refine sq ?_
  refine sq ?_
  refine rg ?_
  refine stp hF (p_fldb (o' := 0) rfl fi_38_0 rfl) (by decide) (fun a hF => ?_)
  refine stp hF (p_ldb_one (i := 0) hS rfl rfl ia_4 rfl) (by decide) (fun a hF => ?_)
  refine nilN ?_
  refine xn ?_
  refine cnd hF rfl (fun hc1 => ?_) (fun hc1 => ?_)
  · replace H := hbt hc1 H
    refine sq ?_
    refine rg ?_
    refine stp hF (p_fldb (o' := 1) rfl fi_38_1 rfl) (by decide) (fun a hF => ?_)
    refine stp hF (p_ldb_agg (i := 0) (l := [(.bool x1.Has)]) (m := [(.int .i64 x1.O.Kind), v1, v2]) (r := []) hS rfl rfl ia_36 ti_36 rfl rfl rfl) (by decide) (fun a hF => ?_)
    obtain ⟨x2, hx1, H⟩ := hb H
    refine ste hF (e_callA (fst := []) (vs := [(.agg #[(.int .i64 x1.O.Kind), v1, v2])]) (cap := []) rfl rfl go_127 (St.call (A := []) (B := [pt g1 38 ([(.bool x1.Has), (.int .i64 x1.O.Kind), v1, v2])]) hS (spec_ObjOk.spec k _ _ x1.O v1 v2 h1 h2 _ hx1)) rfl) (by decide) (fun v w a hR hF => ?_)
    obtain ⟨s2, A2, hg1, hS, hR⟩ := hR
    obtain ⟨hv1, rfl⟩ := hR; obtain rfl := hv1.symm
    have hS : St e s2 w [pt g1 38 ([(.bool x1.Has), (.int .i64 x1.O.Kind), v1, v2])] := hS
    refine stp hF (p_assign rfl) (by decide) (fun a hF => ?_)
    refine nilN ?_
    refine xn ?_
    refine rt ?_
    refine xr ?_
    obtain rfl := hsm H
    replace hS := hS.sel (is := []) (A' := []) rfl
    exact ret1 hF rfl rfl hS ⟨rfl, rfl⟩
  · replace H := hbf hc1 H
    refine skN ?_
    refine xn ?_
    refine sq ?_
    refine rg ?_
    refine stp hF (p_fldb (o' := 1) rfl fi_38_1 rfl) (by decide) (fun a hF => ?_)
    refine stp hF (p_fldb (o' := 1) rfl fi_36_0 rfl) (by decide) (fun a hF => ?_)
    refine stp hF (p_ldb_one (i := 0) hS rfl rfl ia_3 rfl) (by decide) (fun a hF => ?_)
    refine stp hF (p_eql rfl rfl) (by decide) (fun a hF => ?_)
    refine stp hF (p_move rfl) (by decide) (fun a hF => ?_)
    refine cutj 6 (fun a w => St e s0 w [pt g1 38 ([(.bool x1.Has), (.int .i64 x1.O.Kind), v1, v2])] ∧ Fr 26 a [(1, (.pointer (some ⟨g1, 0, none⟩))), (18, (.bool ((decide (x1.O.Kind = 0)) && (decide ((x1.O.Ints.length : Int) = 0)))))]) rfl rfl ?_ ?_
    · rcases Bool.eq_false_or_eq_true (decide (x1.O.Kind = 0)) with hc2 | hc2
      · skip
        refine gonE (j := 4) hF rfl rfl hc2 ?_
        refine stp hF (p_fldb (o' := 1) rfl fi_38_1 rfl) (by decide) (fun a hF => ?_)
        refine gonE (j := 4) hF rfl rfl hc2 ?_
        refine stp hF (p_fldb (o' := 2) rfl fi_36_1 rfl) (by decide) (fun a hF => ?_)
        refine gonE (j := 4) hF rfl rfl hc2 ?_
        refine stp hF (p_ldb_one (i := 0) hS rfl rfl ia_34 rfl) (by decide) (fun a hF => ?_)
        refine gonE (j := 4) hF rfl rfl hc2 ?_
        refine stp hF (p_lenr un_34 rfl h1) (by decide) (fun a hF => ?_)
        refine gonE (j := 4) hF rfl rfl hc2 ?_
        refine stp hF (p_eql rfl rfl) (by decide) (fun a hF => ?_)
        refine stp hF (p_andT rfl hc2 rfl) (by decide) (fun a hF => ?_)
        refine nilN ?_
        refine xn ?_
        exact ⟨hS, hF.cut ⟨rfl, rfl, trivial⟩⟩
      · skip
        refine gofD (j := 4) hF rfl rfl (by rw [hc2]; decide) (by decide) (fun a hF => ?_)
        refine gofD (j := 4) hF rfl rfl (by rw [hc2]; decide) (by decide) (fun a hF => ?_)
        refine gofD (j := 4) hF rfl rfl (by rw [hc2]; decide) (by decide) (fun a hF => ?_)
        refine gofD (j := 4) hF rfl rfl (by rw [hc2]; decide) (by decide) (fun a hF => ?_)
        refine gofD (j := 4) hF rfl rfl (by rw [hc2]; decide) (by decide) (fun a hF => ?_)
        refine stp hF (p_andF (decide ((x1.O.Ints.length : Int) = 0)) rfl hc2 rfl) (by decide) (fun a hF => ?_)
        refine nilN ?_
        refine xn ?_
        exact ⟨hS, hF.cut ⟨rfl, rfl, trivial⟩⟩
    clear hS hF
    rintro a w ⟨hS, hF⟩
    refine stp hF (p_move rfl) (by decide) (fun a hF => ?_)
    refine cutj 6 (fun a w => St e s0 w [pt g1 38 ([(.bool x1.Has), (.int .i64 x1.O.Kind), v1, v2])] ∧ Fr 26 a [(25, (.bool (((decide (x1.O.Kind = 0)) && (decide ((x1.O.Ints.length : Int) = 0))) && (decide ((x1.O.Refs.length : Int) = 0)))))]) rfl rfl ?_ ?_
    · rcases Bool.eq_false_or_eq_true (((decide (x1.O.Kind = 0)) && (decide ((x1.O.Ints.length : Int) = 0)))) with hc3 | hc3
      · skip
        refine gonE (j := 11) hF rfl rfl hc3 ?_
        refine stp hF (p_fldb (o' := 1) rfl fi_38_1 rfl) (by decide) (fun a hF => ?_)
        refine gonE (j := 11) hF rfl rfl hc3 ?_
        refine stp hF (p_fldb (o' := 3) rfl fi_36_2 rfl) (by decide) (fun a hF => ?_)
        refine gonE (j := 11) hF rfl rfl hc3 ?_
        refine stp hF (p_ldb_one (i := 0) hS rfl rfl ia_34 rfl) (by decide) (fun a hF => ?_)
        refine gonE (j := 11) hF rfl rfl hc3 ?_
        refine stp hF (p_lenr un_34 rfl h2) (by decide) (fun a hF => ?_)
        refine gonE (j := 11) hF rfl rfl hc3 ?_
        refine stp hF (p_eql rfl rfl) (by decide) (fun a hF => ?_)
        refine stp hF (p_andT rfl hc3 rfl) (by decide) (fun a hF => ?_)
        refine nilN ?_
        refine xn ?_
        exact ⟨hS, hF.cut ⟨rfl, trivial⟩⟩
      · skip
        refine gofD (j := 11) hF rfl rfl (by rw [hc3]; decide) (by decide) (fun a hF => ?_)
        refine gofD (j := 11) hF rfl rfl (by rw [hc3]; decide) (by decide) (fun a hF => ?_)
        refine gofD (j := 11) hF rfl rfl (by rw [hc3]; decide) (by decide) (fun a hF => ?_)
        refine gofD (j := 11) hF rfl rfl (by rw [hc3]; decide) (by decide) (fun a hF => ?_)
        refine gofD (j := 11) hF rfl rfl (by rw [hc3]; decide) (by decide) (fun a hF => ?_)
        refine stp hF (p_andF (decide ((x1.O.Refs.length : Int) = 0)) rfl hc3 rfl) (by decide) (fun a hF => ?_)
        refine nilN ?_
        refine xn ?_
        exact ⟨hS, hF.cut ⟨rfl, trivial⟩⟩
    clear hS hF
    rintro a w ⟨hS, hF⟩
    refine stp hF (p_assign rfl) (by decide) (fun a hF => ?_)
    refine nilN ?_
    refine xn ?_
    refine rt ?_
    obtain rfl := hsm H
    replace hS := hS.sel (is := []) (A' := []) rfl
    exact ret1 hF rfl rfl hS ⟨rfl, rfl⟩

def spec_l2SameInts.c1 (k : Nat) : Option Bool :=
  (some true)
def spec_l2SameInts.l1 (x1 : (List Int)) (x2 : (List Int)) : Nat → Int → Option (Ex Bool Unit)
  | 0, _ => none
  | k + 1, x3 => (if (decide (x3 < (x1.length : Int))) = true then (if 0 ≤ x3 ∧ x3 < (x1.length : Int) then (if 0 ≤ x3 ∧ x3 < (x2.length : Int) then (if (decide ((rd x1 x3) ≠ (rd x2 x3))) = true then (some (Ex.ret false)) else ((spec_l2SameInts.l1 x1 x2 k) (w64 (x3 + 1)))) else none) else none) else (some (Ex.go ())))
def spec_l2SameInts.f (k : Nat) (x1 : (List Int)) (x2 : (List Int)) : Option Bool :=
  (if (decide ((x1.length : Int) ≠ (x2.length : Int))) = true then (some false) else (((spec_l2SameInts.l1 x1 x2 k 0) : Option (Ex Bool Unit)).bind fun x4 => Ex.on x4 (fun r => some r) (fun y => spec_l2SameInts.c1 k)))
set_option maxRecDepth 100000 in
set_option maxHeartbeats 4000000 in
theorem spec_l2SameInts.spec (k : Nat) (s0 : HF) (w : World) (x1 : (List Int)) (x2 : (List Int)) (v1 : Value) (v2 : Value) (h1 : Sl (Kd.int .i64) s0 v1 x1) (h2 : Sl (Kd.int .i64) s0 v2 x2) (r : Bool) (H : spec_l2SameInts.f k x1 x2 = some r) :
    Law Try.prog 152 #[v1, v2] s0 w [] (fun v s1 A1 => v = (.bool r) ∧ A1 = []) := by
  unfold spec_l2SameInts.f at H
  refine Law.intro Try.func152 rfl [(0, v1), (1, v2)] (Nat.le_of_ble_eq_true rfl) (enter_lk ⟨rfl, rfl, trivial⟩) (fun e a hS hF => ?_)
  have hF : Fr 26 a [(0, v1), (1, v2)] := hF
  refine sq ?_
  refine rg ?_
  refine stp hF (p_assign rfl) (by decide) (fun a hF => ?_)
  refine nilN ?_
  refine xn ?_
  refine sq ?_
  refine sq ?_
  refine rg ?_
  refine stp hF (p_move rfl) (by decide) (fun a hF => ?_)
  refine stp hF (p_lenr un_34 rfl h1) (by decide) (fun a hF => ?_)
  refine stp hF (p_move rfl) (by decide) (fun a hF => ?_)
  refine stp hF (p_lenr un_34 rfl h2) (by decide) (fun a hF => ?_)
  refine stp hF (p_neq rfl rfl) (by decide) (fun a hF => ?_)
  refine nilN ?_
  refine xn ?_
  refine cnd hF rfl (fun hc1 => ?_) (fun hc1 => ?_)
  · replace H := hbt hc1 H
    refine sq ?_
    refine rg ?_
    refine stp hF (p_assign rfl) (by decide) (fun a hF => ?_)
    refine nilN ?_
    refine xn ?_
    refine rt ?_
    refine xr ?_
    obtain rfl := hsm H
    exact ret1 hF rfl rfl hS ⟨rfl, rfl⟩
  · replace H := hbf hc1 H
    refine skN ?_
    refine xn ?_
    obtain ⟨x4, H, HK1⟩ := hb H
    refine sqj (fun a w => St e s0 w [] ∧ Fr 26 a [] ∧ spec_l2SameInts.c1 k = some r) ?_ ?_
    · skip
      refine sq ?_
      refine rg ?_
      refine stp hF (p_assign rfl) (by decide) (fun a hF => ?_)
      refine nilN ?_
      refine xn ?_
      refine blk ?_
      refine loop_ind (fun k1 a w => ∃ (x3 : Int) , St e s0 w [] ∧ Fr 26 a [(0, v1), (1, v2), (5, (.int .i64 x3))] ∧ spec_l2SameInts.l1 x1 x2 k1 x3 = some x4) k ?_ ?_ ?_
      · skip
        exact ⟨0, hS, hF.cut ⟨rfl, rfl, rfl, trivial⟩, H⟩
      · clear H hS hF
        rintro a w ⟨x3, hS, hF, H⟩
        exact absurd (show none = some _ from H) (by simp)
      · clear H hS hF
        rintro k1 a w ⟨x3, hS, hF, H⟩
        rw [spec_l2SameInts.l1.eq_2] at H
        refine sq ?_
        refine sq ?_
        refine rg ?_
        refine stp hF (p_move rfl) (by decide) (fun a hF => ?_)
        refine stp hF (p_move rfl) (by decide) (fun a hF => ?_)
        refine stp hF (p_lenr un_34 rfl h1) (by decide) (fun a hF => ?_)
        refine stp hF (p_lss rfl rfl) (by decide) (fun a hF => ?_)
        refine nilN ?_
        refine xn ?_
        refine cnd hF rfl (fun hc2 => ?_) (fun hc2 => ?_)
        · replace H := hbt hc2 H
          refine skN ?_
          refine xn ?_
          refine sq ?_
          refine blk ?_
          refine sq ?_
          replace hS : St e s0 w.drew [] := hS.drewN 1
          refine drw [0, 1, 2, 3, 4, 5, 6, 7, 8] mixed (by kernel_rfl) (by decide) (hF.cut (L' := [(0, v1), (1, v2), (5, (.int .i64 x3)), (11, (.int .i64 x3)), (12, v1), (13, (.int .i64 (x1.length : Int))), (14, (.bool (decide (x3 < (x1.length : Int)))))]) ⟨rfl, rfl, rfl, rfl, rfl, rfl, rfl, trivial⟩) ?_
          clear hF
          generalize w.drew = w at hS ⊢
          refine pk1 rfl (by decide) rfl (by kernel_rfl) rfl (p_move rfl) ?_
          refine pk1 rfl (by decide) rfl (by kernel_rfl) rfl (p_move rfl) ?_
          obtain ⟨hq1, H⟩ := hck H
          obtain ⟨ad1, h3, p1⟩ := p_idxr (P := Try.prog) (i := x3) h1 un_34 ti_3 hq1.1 hq1.2
          refine pk1 rfl (by decide) rfl (by kernel_rfl) rfl (p1 rfl rfl) ?_
          refine pk1 rfl (by decide) rfl (by kernel_rfl) rfl (p_ldr_int rfl hS h3 ia_3) ?_
          refine pk1 rfl (by decide) rfl (by kernel_rfl) rfl (p_move rfl) ?_
          refine pk1 rfl (by decide) rfl (by kernel_rfl) rfl (p_move rfl) ?_
          obtain ⟨hq2, H⟩ := hck H
          obtain ⟨ad2, h4, p2⟩ := p_idxr (P := Try.prog) (i := x3) h2 un_34 ti_3 hq2.1 hq2.2
          refine pk1 rfl (by decide) rfl (by kernel_rfl) rfl (p2 rfl rfl) ?_
          refine pk1 rfl (by decide) rfl (by kernel_rfl) rfl (p_ldr_int rfl hS h4 ia_3) ?_
          refine pk1 rfl (by decide) rfl (by kernel_rfl) rfl (p_neq rfl rfl) ?_
          refine pkF (fun a hF => ?_)
          refine xn ?_
          refine cnd hF rfl (fun hc3 => ?_) (fun hc3 => ?_)
          · replace H := hbt hc3 H
            refine sq ?_
            refine rg ?_
            refine stp hF (p_assign rfl) (by decide) (fun a hF => ?_)
            refine nilN ?_
            refine xn ?_
            refine rt ?_
            refine br (xr (xr (br (xr ?_))))
            obtain rfl := hsm H
            have H := hon1 HK1
            obtain rfl := hsm H
            exact ret1 hF rfl rfl hS ⟨rfl, rfl⟩
          · replace H := hbf hc3 H
            refine skN ?_
            refine bn (xn ?_)
            refine rg ?_
            refine stp hF (p_move rfl) (by decide) (fun a hF => ?_)
            refine stp hF (p_add (c := w64 (x3 + 1)) rfl rfl rfl) (by decide) (fun a hF => ?_)
            refine stp hF (p_assign rfl) (by decide) (fun a hF => ?_)
            refine nilN ?_
            refine xn ?_
            exact ⟨(w64 (x3 + 1)), hS, hF.cut ⟨rfl, rfl, rfl, trivial⟩, H⟩
        · replace H := hbf hc2 H
          refine exi ?_
          refine xe (xe (hit (xn ?_)))
          obtain rfl := hsm H
          exact ⟨hS, hF.cut trivial, HK1⟩
    · clear H HK1 hS hF
      rintro a w ⟨hS, hF, H⟩
      unfold spec_l2SameInts.c1 at H
      refine sq ?_
      refine rg ?_
      refine stp hF (p_assign rfl) (by decide) (fun a hF => ?_)
      refine nilN ?_
      refine xn ?_
      refine rt ?_
      obtain rfl := hsm H
      exact ret1 hF rfl rfl hS ⟨rfl, rfl⟩

def spec_SameObj.c1 (k : Nat) (x1 : Bool) : Option Bool :=
  (some x1)
def spec_SameObj.c2 (k : Nat) (x2 : TObj) (x3 : TObj) (x4 : Bool) : Option Bool :=
  ((if x4 = true then ((spec_l2SameInts.f k x2.Refs x3.Refs).bind fun x5 => (some x5)) else (some false) : Option Bool).bind fun x6 => spec_SameObj.c1 k x6)
def spec_SameObj.f (k : Nat) (x2 : TObj) (x3 : TObj) : Option Bool :=
  ((if (decide (x2.Kind = x3.Kind)) = true then ((spec_l2SameInts.f k x2.Ints x3.Ints).bind fun x7 => (some x7)) else (some false) : Option Bool).bind fun x8 => spec_SameObj.c2 k x2 x3 x8)
set_option maxRecDepth 100000 in
set_option maxHeartbeats 4000000 in
theorem spec_SameObj.spec (k : Nat) (s0 : HF) (w : World) (x2 : TObj) (x3 : TObj) (v1 : Value) (v2 : Value) (v3 : Value) (v4 : Value) (h1 : Sl (Kd.int .i64) s0 v1 x2.Ints) (h2 : Sl (Kd.int .i64) s0 v2 x2.Refs) (h3 : Sl (Kd.int .i64) s0 v3 x3.Ints) (h4 : Sl (Kd.int .i64) s0 v4 x3.Refs) (r : Bool) (H : spec_SameObj.f k x2 x3 = some r) :
    Law Try.prog 100 #[(.agg #[(.int .i64 x2.Kind), v1, v2]), (.agg #[(.int .i64 x3.Kind), v3, v4])] s0 w [] (fun v s1 A1 => v = (.bool r) ∧ A1 = []) := by
  unfold spec_SameObj.f at H
  refine Law.intro Try.func100 rfl [(0, (.agg #[(.int .i64 x2.Kind), v1, v2])), (1, (.agg #[(.int .i64 x3.Kind), v3, v4]))] (Nat.le_of_ble_eq_true rfl) (enter_lk ⟨rfl, rfl, trivial⟩) (fun e a hS hF => ?_)
  have hF : Fr 24 a [(0, (.agg #[(.int .i64 x2.Kind), v1, v2])), (1, (.agg #[(.int .i64 x3.Kind), v3, v4]))] := hF
  refine sq ?_
  refine rg ?_
  refine ste hF (e_box (cs := [(.int .i64 x2.Kind), v1, v2]) hS rfl rfl) (by decide) (fun v w a hR hF => ?_)
  obtain ⟨g1, rfl, hS⟩ := hR
  refine ste hF (e_box (cs := [(.int .i64 x3.Kind), v3, v4]) hS rfl rfl) (by decide) (fun v w a hR hF => ?_)
  obtain ⟨g2, rfl, hS⟩ := hR
  refine stp hF (p_assign rfl) (by decide) (fun a hF => ?_)
  refine nilN ?_
  refine xn ?_
  refine sq ?_
  refine rg ?_
  refine stp hF (p_fldb (o' := 0) rfl fi_36_0 rfl) (by decide) (fun a hF => ?_)
  refine stp hF (p_ldb_one (i := 1) hS rfl rfl ia_3 rfl) (by decide) (fun a hF => ?_)
  refine stp hF (p_fldb (o' := 0) rfl fi_36_0 rfl) (by decide) (fun a hF => ?_)
  refine stp hF (p_ldb_one (i := 0) hS rfl rfl ia_3 rfl) (by decide) (fun a hF => ?_)
  refine stp hF (p_eql rfl rfl) (by decide) (fun a hF => ?_)
  refine stp hF (p_move rfl) (by decide) (fun a hF => ?_)
  obtain ⟨x8, H, HK1⟩ := hb H
  refine cutj 6 (fun a w => ∃ (x4 : Bool) (s2 : HF) , St e s2 w [pt g2 36 ([(.int .i64 x3.Kind), v3, v4]), pt g1 36 ([(.int .i64 x2.Kind), v1, v2])] ∧ Fr 24 a [(2, (.pointer (some ⟨g1, 0, none⟩))), (3, (.pointer (some ⟨g2, 0, none⟩))), (16, (.bool x4))] ∧ Sub s0 s2 ∧ spec_SameObj.c2 k x2 x3 x4 = some r) rfl rfl ?_ ?_
  · rcases Bool.eq_false_or_eq_true (decide (x2.Kind = x3.Kind)) with hc1 | hc1
    · replace H := hbt hc1 H
      refine gonE (j := 5) hF rfl rfl hc1 ?_
      refine stp hF (p_fldb (o' := 1) rfl fi_36_1 rfl) (by decide) (fun a hF => ?_)
      refine gonE (j := 5) hF rfl rfl hc1 ?_
      refine stp hF (p_ldb_one (i := 1) hS rfl rfl ia_34 rfl) (by decide) (fun a hF => ?_)
      refine gonE (j := 5) hF rfl rfl hc1 ?_
      refine stp hF (p_fldb (o' := 1) rfl fi_36_1 rfl) (by decide) (fun a hF => ?_)
      refine gonE (j := 5) hF rfl rfl hc1 ?_
      refine stp hF (p_ldb_one (i := 0) hS rfl rfl ia_34 rfl) (by decide) (fun a hF => ?_)
      obtain ⟨x7, hx1, H⟩ := hb H
      refine gonE (j := 5) hF rfl rfl hc1 ?_
      refine ste hF (e_callA (fst := []) (vs := [v1, v3]) (cap := []) rfl rfl go_152 (St.call (A := []) (B := [pt g2 36 ([(.int .i64 x3.Kind), v3, v4]), pt g1 36 ([(.int .i64 x2.Kind), v1, v2])]) hS (spec_l2SameInts.spec k _ _ x2.Ints x3.Ints v1 v3 h1 h3 _ hx1)) rfl) (by decide) (fun v w a hR hF => ?_)
      obtain ⟨s3, A2, hg1, hS, hR⟩ := hR
      obtain ⟨hv1, rfl⟩ := hR; obtain rfl := hv1.symm
      have hS : St e s3 w [pt g2 36 ([(.int .i64 x3.Kind), v3, v4]), pt g1 36 ([(.int .i64 x2.Kind), v1, v2])] := hS
      refine stp hF (p_pickT rfl hc1 rfl) (by decide) (fun a hF => ?_)
      refine nilN ?_
      refine xn ?_
      obtain rfl := hsm H
      exact ⟨x7, s3, hS, hF.cut ⟨rfl, rfl, rfl, trivial⟩, hg1, HK1⟩
    · replace H := hbf hc1 H
      refine gofD (j := 5) hF rfl rfl (by rw [hc1]; decide) (by decide) (fun a hF => ?_)
      refine gofD (j := 5) hF rfl rfl (by rw [hc1]; decide) (by decide) (fun a hF => ?_)
      refine gofD (j := 5) hF rfl rfl (by rw [hc1]; decide) (by decide) (fun a hF => ?_)
      refine gofD (j := 5) hF rfl rfl (by rw [hc1]; decide) (by decide) (fun a hF => ?_)
      refine gofD (j := 5) hF rfl rfl (by rw [hc1]; decide) (by decide) (fun a hF => ?_)
      refine stp hF (p_pickF rfl hc1 rfl) (by decide) (fun a hF => ?_)
      refine nilN ?_
      refine xn ?_
      obtain rfl := hsm H
      exact ⟨false, s0, hS, hF.cut ⟨rfl, rfl, rfl, trivial⟩, (Sub.refl _), HK1⟩
  · clear H HK1 hS hF
    rintro a w ⟨x4, s2, hS, hF, hg2, H⟩
    unfold spec_SameObj.c2 at H
    refine stp hF (p_move rfl) (by decide) (fun a hF => ?_)
    obtain ⟨x6, H, HK2⟩ := hb H
    refine cutj 6 (fun a w => ∃ (x1 : Bool) (s4 : HF) , St e s4 w [pt g2 36 ([(.int .i64 x3.Kind), v3, v4]), pt g1 36 ([(.int .i64 x2.Kind), v1, v2])] ∧ Fr 24 a [(23, (.bool x1))] ∧ Sub s2 s4 ∧ spec_SameObj.c1 k x1 = some r) rfl rfl ?_ ?_
    · rcases Bool.eq_false_or_eq_true (x4) with hc2 | hc2
      · replace H := hbt hc2 H
        refine gonE (j := 12) hF rfl rfl hc2 ?_
        refine stp hF (p_fldb (o' := 2) rfl fi_36_2 rfl) (by decide) (fun a hF => ?_)
        refine gonE (j := 12) hF rfl rfl hc2 ?_
        refine stp hF (p_ldb_one (i := 1) hS rfl rfl ia_34 rfl) (by decide) (fun a hF => ?_)
        refine gonE (j := 12) hF rfl rfl hc2 ?_
        refine stp hF (p_fldb (o' := 2) rfl fi_36_2 rfl) (by decide) (fun a hF => ?_)
        refine gonE (j := 12) hF rfl rfl hc2 ?_
        refine stp hF (p_ldb_one (i := 0) hS rfl rfl ia_34 rfl) (by decide) (fun a hF => ?_)
        obtain ⟨x5, hx2, H⟩ := hb H
        refine gonE (j := 12) hF rfl rfl hc2 ?_
        refine ste hF (e_callA (fst := []) (vs := [v2, v4]) (cap := []) rfl rfl go_152 (St.call (A := []) (B := [pt g2 36 ([(.int .i64 x3.Kind), v3, v4]), pt g1 36 ([(.int .i64 x2.Kind), v1, v2])]) hS (spec_l2SameInts.spec k _ _ x2.Refs x3.Refs v2 v4 (h2.mono hg2) (h4.mono hg2) _ hx2)) rfl) (by decide) (fun v w a hR hF => ?_)
        obtain ⟨s5, A3, hg3, hS, hR⟩ := hR
        obtain ⟨hv2, rfl⟩ := hR; obtain rfl := hv2.symm
        have hS : St e s5 w [pt g2 36 ([(.int .i64 x3.Kind), v3, v4]), pt g1 36 ([(.int .i64 x2.Kind), v1, v2])] := hS
        refine stp hF (p_pickT rfl hc2 rfl) (by decide) (fun a hF => ?_)
        refine nilN ?_
        refine xn ?_
        obtain rfl := hsm H
        exact ⟨x5, s5, hS, hF.cut ⟨rfl, trivial⟩, hg3, HK2⟩
      · replace H := hbf hc2 H
        refine gofD (j := 12) hF rfl rfl (by rw [hc2]; decide) (by decide) (fun a hF => ?_)
        refine gofD (j := 12) hF rfl rfl (by rw [hc2]; decide) (by decide) (fun a hF => ?_)
        refine gofD (j := 12) hF rfl rfl (by rw [hc2]; decide) (by decide) (fun a hF => ?_)
        refine gofD (j := 12) hF rfl rfl (by rw [hc2]; decide) (by decide) (fun a hF => ?_)
        refine gofD (j := 12) hF rfl rfl (by rw [hc2]; decide) (by decide) (fun a hF => ?_)
        refine stp hF (p_pickF rfl hc2 rfl) (by decide) (fun a hF => ?_)
        refine nilN ?_
        refine xn ?_
        obtain rfl := hsm H
        exact ⟨false, s2, hS, hF.cut ⟨rfl, trivial⟩, (Sub.refl _), HK2⟩
    · clear H HK2 hS hF
      rintro a w ⟨x1, s4, hS, hF, hg4, H⟩
      unfold spec_SameObj.c1 at H
      refine stp hF (p_assign rfl) (by decide) (fun a hF => ?_)
      refine nilN ?_
      refine xn ?_
      refine rt ?_
      obtain rfl := hsm H
      replace hS := hS.sel (is := []) (A' := []) rfl
      exact ret1 hF rfl rfl hS ⟨rfl, rfl⟩

def impl_groups.c1 (k : Nat) : Option (Int × Int × Bool × Bool) :=
  (some (0, 0, false, true))
def impl_groups.c2 (k : Nat) (rec_l1 : Int → Bool → Int → Option (Ex (Int × Int × Bool × Bool) Unit)) (x1 : (List Int)) (x2 : Int) (x3 : Int) (x4 : Int) (x5 : Bool) : Option (Ex (Int × Int × Bool × Bool) Unit) :=
  (if (decide (127 < (w64 (rd x1 (w64 (x2 + x3)))))) = true then (rec_l1 x4 x5 (w64 (x3 + 1))) else (some (Ex.ret (x4, w64 ((w64 (x2 + x3)) + 1), (x5 && ((decide ((w64 (rd x1 (w64 (x2 + x3)))) ≠ 0)) || (decide (x3 = 0)))), false))))
def impl_groups.l1 (x2 : Int) (x1 : (List Int)) : Nat → Int → Bool → Int → Option (Ex (Int × Int × Bool × Bool) Unit)
  | 0, _, _, _ => none
  | k + 1, x6, x7, x3 => (if (decide ((w64 (x2 + x3)) < (x1.length : Int))) = true then (if 0 ≤ (w64 (x2 + x3)) ∧ (w64 (x2 + x3)) < (x1.length : Int) then (((if (decide (x3 < 6)) = true then (if 0 ≤ (w64 (7 * x3)) then (some (bor .i64 x6 (bshl .i64 (band .i64 (w64 (rd x1 (w64 (x2 + x3)))) 127) (w64 (7 * x3))), x7)) else none) else (if (decide ((band .i64 (w64 (rd x1 (w64 (x2 + x3)))) 127) ≠ 0)) = true then (some (x6, false)) else (some (x6, x7)))) : Option (Int × Bool)).bind fun x8 => impl_groups.c2 k (impl_groups.l1 x2 x1 k) x1 x2 x3 x8.1 x8.2) else none) else (some (Ex.go ())))
def impl_groups.f (k : Nat) (x1 : (List Int)) (x2 : Int) : Option (Int × Int × Bool × Bool) :=
  (((impl_groups.l1 x2 x1 k 0 true 0) : Option (Ex (Int × Int × Bool × Bool) Unit)).bind fun x9 => Ex.on x9 (fun r => some r) (fun y => impl_groups.c1 k))
set_option maxRecDepth 100000 in
set_option maxHeartbeats 4000000 in
theorem impl_groups.spec (k : Nat) (s0 : HF) (w : World) (x1 : (List Int)) (x2 : Int) (v1 : Value) (h1 : Sl (Kd.int .u8) s0 v1 x1) (r : Int × Int × Bool × Bool) (H : impl_groups.f k x1 x2 = some r) :
    Law Try.prog 149 #[v1, (.int .i64 x2)] s0 w [] (fun v s1 A1 => v = (.tuple #[(.int .i64 r.1), (.int .i64 r.2.1), (.bool r.2.2.1), (.bool r.2.2.2)]) ∧ A1 = []) := by
  unfold impl_groups.f at H
  refine Law.intro Try.func149 rfl [(0, v1), (1, (.int .i64 x2))] (Nat.le_of_ble_eq_true rfl) (enter_lk ⟨rfl, rfl, trivial⟩) (fun e a hS hF => ?_)
  have hF : Fr 57 a [(0, v1), (1, (.int .i64 x2))] := hF
  refine sq ?_
  refine rg ?_
  refine stp hF (p_assign rfl) (by decide) (fun a hF => ?_)
  refine stp hF (p_assign rfl) (by decide) (fun a hF => ?_)
  refine stp hF (p_assign rfl) (by decide) (fun a hF => ?_)
  refine stp hF (p_assign rfl) (by decide) (fun a hF => ?_)
  refine nilN ?_
  refine xn ?_
  refine sq ?_
  refine rg ?_
  refine stp hF (p_assign rfl) (by decide) (fun a hF => ?_)
  refine nilN ?_
  refine xn ?_
  refine sq ?_
  refine rg ?_
  refine stp hF (p_assign rfl) (by decide) (fun a hF => ?_)
  refine nilN ?_
  refine xn ?_
  obtain ⟨x9, H, HK1⟩ := hb H
  refine sqj (fun a w => St e s0 w [] ∧ Fr 57 a [] ∧ impl_groups.c1 k = some r) ?_ ?_
  · skip
    refine sq ?_
    refine rg ?_
    refine stp hF (p_assign rfl) (by decide) (fun a hF => ?_)
    refine nilN ?_
    refine xn ?_
    refine blk ?_
    refine loop_ind (fun k1 a w => ∃ (x6 : Int) (x7 : Bool) (x3 : Int) , St e s0 w [] ∧ Fr 57 a [(0, v1), (1, (.int .i64 x2)), (8, (.int .i64 x6)), (9, (.bool x7)), (10, (.int .i64 x3))] ∧ impl_groups.l1 x2 x1 k1 x6 x7 x3 = some x9) k ?_ ?_ ?_
    · skip
      exact ⟨0, true, 0, hS, hF.cut ⟨rfl, rfl, rfl, rfl, rfl, trivial⟩, H⟩
    · clear H hS hF
      rintro a w ⟨x6, x7, x3, hS, hF, H⟩
      exact absurd (show none = some _ from H) (by simp)
    · clear H hS hF
      rintro k1 a w ⟨x6, x7, x3, hS, hF, H⟩
      rw [impl_groups.l1.eq_2] at H
      refine sq ?_
      refine sq ?_
      refine rg ?_
      refine stp hF (p_move rfl) (by decide) (fun a hF => ?_)
      refine stp hF (p_move rfl) (by decide) (fun a hF => ?_)
      refine stp hF (p_add (c := w64 (x2 + x3)) rfl rfl rfl) (by decide) (fun a hF => ?_)
      refine stp hF (p_move rfl) (by decide) (fun a hF => ?_)
      refine stp hF (p_lenr un_24 rfl h1) (by decide) (fun a hF => ?_)
      refine stp hF (p_lss rfl rfl) (by decide) (fun a hF => ?_)
      refine nilN ?_
      refine xn ?_
      refine cnd hF rfl (fun hc1 => ?_) (fun hc1 => ?_)
      · replace H := hbt hc1 H
        refine skN ?_
        refine xn ?_
        refine sq ?_
        refine blk ?_
        refine sq ?_
        refine rg ?_
        refine stp hF (p_move rfl) (by decide) (fun a hF => ?_)
        refine stp hF (p_move rfl) (by decide) (fun a hF => ?_)
        refine stp hF (p_move rfl) (by decide) (fun a hF => ?_)
        refine stp hF (p_add (c := w64 (x2 + x3)) rfl rfl rfl) (by decide) (fun a hF => ?_)
        obtain ⟨hq1, H⟩ := hck H
        obtain ⟨ad1, h2, p1⟩ := p_idxr (P := Try.prog) (i := (w64 (x2 + x3))) h1 un_24 ti_5 hq1.1 hq1.2
        refine stp hF (p1 rfl rfl) (by decide) (fun a hF => ?_)
        refine stp hF (p_ldr_int rfl hS h2 ia_5) (by decide) (fun a hF => ?_)
        refine stp hF (p_cvint (c := w64 (rd x1 (w64 (x2 + x3)))) un_5 un_3 rfl rfl) (by decide) (fun a hF => ?_)
        refine stp hF (p_assign rfl) (by decide) (fun a hF => ?_)
        refine nilN ?_
        refine xn ?_
        obtain ⟨x8, H, HK2⟩ := hb H
        refine sqj (fun a w => ∃ (x4 : Int) (x5 : Bool) , St e s0 w [] ∧ Fr 57 a [(0, v1), (1, (.int .i64 x2)), (8, (.int .i64 x4)), (9, (.bool x5)), (10, (.int .i64 x3)), (11, (.int .i64 (w64 (rd x1 (w64 (x2 + x3))))))] ∧ impl_groups.c2 k1 (impl_groups.l1 x2 x1 k1) x1 x2 x3 x4 x5 = some x9) ?_ ?_
        · skip
          refine blk ?_
          refine sq ?_
          refine rg ?_
          refine stp hF (p_move rfl) (by decide) (fun a hF => ?_)
          refine stp hF (p_lss rfl rfl) (by decide) (fun a hF => ?_)
          refine stp hF (p_assign rfl) (by decide) (fun a hF => ?_)
          refine nilN ?_
          refine xn ?_
          refine cnd hF rfl (fun hc2 => ?_) (fun hc2 => ?_)
          · replace H := hbt hc2 H
            refine rg ?_
            refine stp hF (p_move rfl) (by decide) (fun a hF => ?_)
            refine stp hF (p_move rfl) (by decide) (fun a hF => ?_)
            refine stp hF (p_and (c := band .i64 (w64 (rd x1 (w64 (x2 + x3)))) 127) rfl rfl rfl) (by decide) (fun a hF => ?_)
            refine stp hF (p_move rfl) (by decide) (fun a hF => ?_)
            refine stp hF (p_mul (c := w64 (7 * x3)) rfl rfl rfl) (by decide) (fun a hF => ?_)
            obtain ⟨hq2, H⟩ := hck H
            refine stp hF (p_shl (c := bshl .i64 (band .i64 (w64 (rd x1 (w64 (x2 + x3)))) 127) (w64 (7 * x3))) rfl rfl (Int.not_lt.mpr hq2) rfl) (by decide) (fun a hF => ?_)
            refine stp hF (p_or (c := bor .i64 x6 (bshl .i64 (band .i64 (w64 (rd x1 (w64 (x2 + x3)))) 127) (w64 (7 * x3)))) rfl rfl rfl) (by decide) (fun a hF => ?_)
            refine stp hF (p_assign rfl) (by decide) (fun a hF => ?_)
            refine nilN ?_
            refine bn (xn ?_)
            obtain rfl := hsm H
            exact ⟨(bor .i64 x6 (bshl .i64 (band .i64 (w64 (rd x1 (w64 (x2 + x3)))) 127) (w64 (7 * x3)))), x7, hS, hF.cut ⟨rfl, rfl, rfl, rfl, rfl, rfl, trivial⟩, HK2⟩
          · replace H := hbf hc2 H
            refine sq ?_
            refine rg ?_
            refine stp hF (p_move rfl) (by decide) (fun a hF => ?_)
            refine stp hF (p_and (c := band .i64 (w64 (rd x1 (w64 (x2 + x3)))) 127) rfl rfl rfl) (by decide) (fun a hF => ?_)
            refine stp hF (p_neq rfl rfl) (by decide) (fun a hF => ?_)
            refine stp hF (p_assign rfl) (by decide) (fun a hF => ?_)
            refine nilN ?_
            refine xn ?_
            refine cnd hF rfl (fun hc3 => ?_) (fun hc3 => ?_)
            · replace H := hbt hc3 H
              refine rg ?_
              refine stp hF (p_assign rfl) (by decide) (fun a hF => ?_)
              refine nilN ?_
              refine bn (xn ?_)
              obtain rfl := hsm H
              exact ⟨x6, false, hS, hF.cut ⟨rfl, rfl, rfl, rfl, rfl, rfl, trivial⟩, HK2⟩
            · replace H := hbf hc3 H
              refine skN ?_
              refine bn (xn ?_)
              obtain rfl := hsm H
              exact ⟨x6, x7, hS, hF.cut ⟨rfl, rfl, rfl, rfl, rfl, rfl, trivial⟩, HK2⟩
        · clear H HK2 hS hF
          rintro a w ⟨x4, x5, hS, hF, H⟩
          unfold impl_groups.c2 at H
          refine sq ?_
          refine sq ?_
          refine rg ?_
          refine stp hF (p_move rfl) (by decide) (fun a hF => ?_)
          refine stp hF (p_gtr rfl rfl) (by decide) (fun a hF => ?_)
          refine nilN ?_
          refine xn ?_
          refine cnd hF rfl (fun hc4 => ?_) (fun hc4 => ?_)
          · replace H := hbt hc4 H
            refine exi ?_
            refine xe (hit (xn ?_))
            refine rg ?_
            refine stp hF (p_move rfl) (by decide) (fun a hF => ?_)
            refine stp hF (p_add (c := w64 (x3 + 1)) rfl rfl rfl) (by decide) (fun a hF => ?_)
            refine stp hF (p_assign rfl) (by decide) (fun a hF => ?_)
            refine nilN ?_
            refine xn ?_
            exact ⟨x4, x5, (w64 (x3 + 1)), hS, hF.cut ⟨rfl, rfl, rfl, rfl, rfl, trivial⟩, H⟩
          · replace H := hbf hc4 H
            refine skN ?_
            refine xn ?_
            refine sq ?_
            refine rg ?_
            refine stp hF (p_move rfl) (by decide) (fun a hF => ?_)
            refine stp hF (p_move rfl) (by decide) (fun a hF => ?_)
            refine stp hF (p_move rfl) (by decide) (fun a hF => ?_)
            refine stp hF (p_add (c := w64 (x2 + x3)) rfl rfl rfl) (by decide) (fun a hF => ?_)
            refine stp hF (p_add (c := w64 ((w64 (x2 + x3)) + 1)) rfl rfl rfl) (by decide) (fun a hF => ?_)
            refine stp hF (p_move rfl) (by decide) (fun a hF => ?_)
            refine stp hF (p_move rfl) (by decide) (fun a hF => ?_)
            refine cutj 7 (fun a w => St e s0 w [] ∧ Fr 57 a [(43, (.int .i64 x4)), (47, (.int .i64 (w64 ((w64 (x2 + x3)) + 1)))), (56, (.bool (x5 && ((decide ((w64 (rd x1 (w64 (x2 + x3)))) ≠ 0)) || (decide (x3 = 0))))))]) rfl rfl ?_ ?_
            · rcases Bool.eq_false_or_eq_true (x5) with hc5 | hc5
              · skip
                refine gonE (j := 6) hF rfl rfl hc5 ?_
                refine stp hF (p_move rfl) (by decide) (fun a hF => ?_)
                refine gonE (j := 6) hF rfl rfl hc5 ?_
                refine stp hF (p_neq rfl rfl) (by decide) (fun a hF => ?_)
                refine gonE (j := 6) hF rfl rfl hc5 ?_
                refine stp hF (p_move rfl) (by decide) (fun a hF => ?_)
                refine cutj 3 (fun a w => St e s0 w [] ∧ Fr 57 a [(43, (.int .i64 x4)), (47, (.int .i64 (w64 ((w64 (x2 + x3)) + 1)))), (49, (.bool x5)), (55, (.bool ((decide ((w64 (rd x1 (w64 (x2 + x3)))) ≠ 0)) || (decide (x3 = 0)))))]) rfl rfl ?_ ?_
                · rcases Bool.eq_false_or_eq_true (decide ((w64 (rd x1 (w64 (x2 + x3)))) ≠ 0)) with hc6 | hc6
                  · skip
                    refine gofD (j := 9) hF rfl rfl (by rw [hc6]; decide) (by decide) (fun a hF => ?_)
                    refine gofD (j := 9) hF rfl rfl (by rw [hc6]; decide) (by decide) (fun a hF => ?_)
                    refine gonE (j := 6) hF rfl rfl hc5 ?_
                    refine stp hF (p_orT (decide (x3 = 0)) rfl hc6 rfl) (by decide) (fun a hF => ?_)
                    refine nilN ?_
                    refine xn ?_
                    exact ⟨hS, hF.cut ⟨rfl, rfl, rfl, rfl, trivial⟩⟩
                  · skip
                    refine gonE (j := 9) hF rfl rfl hc6 ?_
                    refine stp hF (p_move rfl) (by decide) (fun a hF => ?_)
                    refine gonE (j := 9) hF rfl rfl hc6 ?_
                    refine stp hF (p_eql rfl rfl) (by decide) (fun a hF => ?_)
                    refine gonE (j := 6) hF rfl rfl hc5 ?_
                    refine stp hF (p_orF rfl hc6 rfl) (by decide) (fun a hF => ?_)
                    refine nilN ?_
                    refine xn ?_
                    exact ⟨hS, hF.cut ⟨rfl, rfl, rfl, rfl, trivial⟩⟩
                clear hS hF
                rintro a w ⟨hS, hF⟩
                refine stp hF (p_andT rfl hc5 rfl) (by decide) (fun a hF => ?_)
                refine nilN ?_
                refine xn ?_
                exact ⟨hS, hF.cut ⟨rfl, rfl, rfl, trivial⟩⟩
              · skip
                refine gofD (j := 6) hF rfl rfl (by rw [hc5]; decide) (by decide) (fun a hF => ?_)
                refine gofD (j := 6) hF rfl rfl (by rw [hc5]; decide) (by decide) (fun a hF => ?_)
                refine gofD (j := 6) hF rfl rfl (by rw [hc5]; decide) (by decide) (fun a hF => ?_)
                refine gofU (j := 9) hF rfl rfl (by decide) (fun a hF => ?_)
                refine gofU (j := 9) hF rfl rfl (by decide) (fun a hF => ?_)
                refine gofD (j := 6) hF rfl rfl (by rw [hc5]; decide) (by decide) (fun a hF => ?_)
                refine stp hF (p_andF ((decide ((w64 (rd x1 (w64 (x2 + x3)))) ≠ 0)) || (decide (x3 = 0))) rfl hc5 rfl) (by decide) (fun a hF => ?_)
                refine nilN ?_
                refine xn ?_
                exact ⟨hS, hF.cut ⟨rfl, rfl, rfl, trivial⟩⟩
            clear hS hF
            rintro a w ⟨hS, hF⟩
            refine stp hF (p_assign rfl) (by decide) (fun a hF => ?_)
            refine stp hF (p_assign rfl) (by decide) (fun a hF => ?_)
            refine stp hF (p_assign rfl) (by decide) (fun a hF => ?_)
            refine stp hF (p_assign rfl) (by decide) (fun a hF => ?_)
            refine nilN ?_
            refine xn ?_
            refine rt ?_
            refine br (xr (xr (br (xr ?_))))
            obtain rfl := hsm H
            have H := hon1 HK1
            obtain rfl := hsm H
            exact ret4 hF rfl rfl rfl rfl rfl hS ⟨rfl, rfl⟩
      · replace H := hbf hc1 H
        refine exi ?_
        refine xe (xe (hit (xn ?_)))
        obtain rfl := hsm H
        exact ⟨hS, hF.cut trivial, HK1⟩
  · clear H HK1 hS hF
    rintro a w ⟨hS, hF, H⟩
    unfold impl_groups.c1 at H
    refine sq ?_
    refine rg ?_
    refine stp hF (p_assign rfl) (by decide) (fun a hF => ?_)
    refine stp hF (p_assign rfl) (by decide) (fun a hF => ?_)
    refine stp hF (p_assign rfl) (by decide) (fun a hF => ?_)
    refine stp hF (p_assign rfl) (by decide) (fun a hF => ?_)
    refine nilN ?_
    refine xn ?_
    refine rt ?_
    obtain rfl := hsm H
    exact ret4 hF rfl rfl rfl rfl rfl hS ⟨rfl, rfl⟩

def impl_GetInt.c1 (k : Nat) (x1 : Int) (x2 : Int × Int × Bool × Bool) (x3 : Bool) : Option (Int × Int × Bool) :=
  (if x3 = true then (some (0, 0, false)) else (some (x1, x2.2.1, true)))
def impl_GetInt.c2 (k : Nat) (x2 : Int × Int × Bool × Bool) (x1 : Int) : Option (Int × Int × Bool) :=
  ((if (!x2.2.2.1) = true then (some true) else ((impl_in.f k x1 (-1000000000000) 1000000000000).bind fun x4 => (some (!x4))) : Option Bool).bind fun x5 => impl_GetInt.c1 k x1 x2 x5)
def impl_GetInt.f (k : Nat) (x6 : (List Int)) (x7 : Int) : Option (Int × Int × Bool) :=
  ((impl_in.f k x7 0 (x6.length : Int)).bind fun x8 => (if (!x8) = true then (some (0, 0, false)) else ((impl_groups.f k x6 x7).bind fun x2 => (((if (decide ((x2.1.tmod 2) = 1)) = true then (some (w64 ((w64 (0 - (w64 (x2.1 + 1)))).tdiv 2))) else (some (w64 (x2.1.tdiv 2)))) : Option Int).bind fun x9 => impl_GetInt.c2 k x2 x9))))
set_option maxRecDepth 100000 in
set_option maxHeartbeats 4000000 in
theorem impl_GetInt.spec (k : Nat) (s0 : HF) (w : World) (x6 : (List Int)) (x7 : Int) (v1 : Value) (h1 : Sl (Kd.int .u8) s0 v1 x6) (r : Int × Int × Bool) (H : impl_GetInt.f k x6 x7 = some r) :
    Law Try.prog 142 #[v1, (.int .i64 x7)] s0 w [] (fun v s1 A1 => v = (.tuple #[(.int .i64 r.1), (.int .i64 r.2.1), (.bool r.2.2)]) ∧ A1 = []) := by
  unfold impl_GetInt.f at H
  refine Law.intro Try.func142 rfl [(0, v1), (1, (.int .i64 x7))] (Nat.le_of_ble_eq_true rfl) (enter_lk ⟨rfl, rfl, trivial⟩) (fun e a hS hF => ?_)
  have hF : Fr 43 a [(0, v1), (1, (.int .i64 x7))] := hF
  refine sq ?_
  refine rg ?_
  refine stp hF (p_assign rfl) (by decide) (fun a hF => ?_)
  refine stp hF (p_assign rfl) (by decide) (fun a hF => ?_)
  refine stp hF (p_assign rfl) (by decide) (fun a hF => ?_)
  refine nilN ?_
  refine xn ?_
  refine sq ?_
  refine sq ?_
  refine rg ?_
  refine stp hF (p_move rfl) (by decide) (fun a hF => ?_)
  refine stp hF (p_move rfl) (by decide) (fun a hF => ?_)
  refine stp hF (p_lenr un_24 rfl h1) (by decide) (fun a hF => ?_)
  obtain ⟨x8, hx1, H⟩ := hb H
  refine ste hF (e_callA (fst := []) (vs := [(.int .i64 x7), (.int .i64 0), (.int .i64 (x6.length : Int))]) (cap := []) rfl rfl go_79 (St.call (A := []) (B := []) hS (impl_in.spec k _ _ x7 0 (x6.length : Int) _ hx1)) rfl) (by decide) (fun v w a hR hF => ?_)
  obtain ⟨s2, A2, hg1, hS, hR⟩ := hR
  obtain ⟨hv1, rfl⟩ := hR; obtain rfl := hv1.symm
  have hS : St e s2 w [] := hS
  refine stp hF (p_not rfl) (by decide) (fun a hF => ?_)
  refine nilN ?_
  refine xn ?_
  refine cnd hF rfl (fun hc1 => ?_) (fun hc1 => ?_)
  · replace H := hbt hc1 H
    refine sq ?_
    refine rg ?_
    refine stp hF (p_assign rfl) (by decide) (fun a hF => ?_)
    refine stp hF (p_assign rfl) (by decide) (fun a hF => ?_)
    refine stp hF (p_assign rfl) (by decide) (fun a hF => ?_)
    refine nilN ?_
    refine xn ?_
    refine rt ?_
    refine xr ?_
    obtain rfl := hsm H
    exact ret3 hF rfl rfl rfl rfl hS ⟨rfl, rfl⟩
  · replace H := hbf hc1 H
    refine skN ?_
    refine xn ?_
    refine sq ?_
    refine rg ?_
    refine stp hF (p_move rfl) (by decide) (fun a hF => ?_)
    refine stp hF (p_move rfl) (by decide) (fun a hF => ?_)
    obtain ⟨x2, hx2, H⟩ := hb H
    refine ste hF (e_callA (fst := []) (vs := [v1, (.int .i64 x7)]) (cap := []) rfl rfl go_149 (St.call (A := []) (B := []) hS (impl_groups.spec k _ _ x6 x7 v1 (h1.mono hg1) _ hx2)) rfl) (by decide) (fun v w a hR hF => ?_)
    obtain ⟨s3, A3, hg2, hS, hR⟩ := hR
    obtain ⟨hv2, rfl⟩ := hR; obtain rfl := hv2.symm
    have hS : St e s3 w [] := hS
    refine stp hF (p_move rfl) (by decide) (fun a hF => ?_)
    refine stp hF (p_extract rfl rfl) (by decide) (fun a hF => ?_)
    refine stp hF (p_extract rfl rfl) (by decide) (fun a hF => ?_)
    refine stp hF (p_extract rfl rfl) (by decide) (fun a hF => ?_)
    refine stp hF (p_extract rfl rfl) (by decide) (fun a hF => ?_)
    refine stp hF (p_assign rfl) (by decide) (fun a hF => ?_)
    refine stp hF (p_assign rfl) (by decide) (fun a hF => ?_)
    refine stp hF (p_assign rfl) (by decide) (fun a hF => ?_)
    refine stp hF (p_assign rfl) (by decide) (fun a hF => ?_)
    refine nilN ?_
    refine xn ?_
    refine sq ?_
    refine rg ?_
    refine stp hF (p_move rfl) (by decide) (fun a hF => ?_)
    refine stp hF (p_quo (c := w64 (x2.1.tdiv 2)) rfl rfl (by decide) rfl) (by decide) (fun a hF => ?_)
    refine stp hF (p_assign rfl) (by decide) (fun a hF => ?_)
    refine nilN ?_
    refine xn ?_
    obtain ⟨x9, H, HK1⟩ := hb H
    refine sqj (fun a w => ∃ (x1 : Int) , St e s3 w [] ∧ Fr 43 a [(8, (.int .i64 x2.2.1)), (9, (.bool x2.2.2.1)), (11, (.int .i64 x1))] ∧ impl_GetInt.c2 k x2 x1 = some r) ?_ ?_
    · skip
      refine sq ?_
      refine rg ?_
      refine stp hF (p_move rfl) (by decide) (fun a hF => ?_)
      refine stp hF (p_rem (c := x2.1.tmod 2) rfl rfl (by decide) rfl) (by decide) (fun a hF => ?_)
      refine stp hF (p_eql rfl rfl) (by decide) (fun a hF => ?_)
      refine nilN ?_
      refine xn ?_
      refine cnd hF rfl (fun hc2 => ?_) (fun hc2 => ?_)
      · replace H := hbt hc2 H
        refine rg ?_
        refine stp hF (p_move rfl) (by decide) (fun a hF => ?_)
        refine stp hF (p_add (c := w64 (x2.1 + 1)) rfl rfl rfl) (by decide) (fun a hF => ?_)
        refine stp hF (p_neg (c := w64 (0 - (w64 (x2.1 + 1)))) rfl rfl) (by decide) (fun a hF => ?_)
        refine stp hF (p_quo (c := w64 ((w64 (0 - (w64 (x2.1 + 1)))).tdiv 2)) rfl rfl (by decide) rfl) (by decide) (fun a hF => ?_)
        refine stp hF (p_assign rfl) (by decide) (fun a hF => ?_)
        refine nilN ?_
        refine xn ?_
        obtain rfl := hsm H
        exact ⟨(w64 ((w64 (0 - (w64 (x2.1 + 1)))).tdiv 2)), hS, hF.cut ⟨rfl, rfl, rfl, trivial⟩, HK1⟩
      · replace H := hbf hc2 H
        refine skN ?_
        refine xn ?_
        obtain rfl := hsm H
        exact ⟨(w64 (x2.1.tdiv 2)), hS, hF.cut ⟨rfl, rfl, rfl, trivial⟩, HK1⟩
    · clear H HK1 hS hF
      rintro a w ⟨x1, hS, hF, H⟩
      unfold impl_GetInt.c2 at H
      refine sq ?_
      refine sq ?_
      refine rg ?_
      refine stp hF (p_move rfl) (by decide) (fun a hF => ?_)
      refine stp hF (p_not rfl) (by decide) (fun a hF => ?_)
      refine stp hF (p_move rfl) (by decide) (fun a hF => ?_)
      obtain ⟨x5, H, HK2⟩ := hb H
      refine cutj 4 (fun a w => ∃ (x3 : Bool) (s4 : HF) , St e s4 w [] ∧ Fr 43 a [(8, (.int .i64 x2.2.1)), (11, (.int .i64 x1)), (40, (.bool x3))] ∧ Sub s3 s4 ∧ impl_GetInt.c1 k x1 x2 x3 = some r) rfl rfl ?_ ?_
      · rcases Bool.eq_false_or_eq_true ((!x2.2.2.1)) with hc3 | hc3
        · replace H := hbt hc3 H
          refine gofD (j := 2) hF rfl rfl (by rw [hc3]; decide) (by decide) (fun a hF => ?_)
          refine gofD (j := 2) hF rfl rfl (by rw [hc3]; decide) (by decide) (fun a hF => ?_)
          refine gofD (j := 2) hF rfl rfl (by rw [hc3]; decide) (by decide) (fun a hF => ?_)
          refine stp hF (p_pickT rfl hc3 rfl) (by decide) (fun a hF => ?_)
          refine nilN ?_
          refine xn ?_
          obtain rfl := hsm H
          exact ⟨true, s3, hS, hF.cut ⟨rfl, rfl, rfl, trivial⟩, (Sub.refl _), HK2⟩
        · replace H := hbf hc3 H
          refine gonE (j := 2) hF rfl rfl hc3 ?_
          refine stp hF (p_move rfl) (by decide) (fun a hF => ?_)
          obtain ⟨x4, hx3, H⟩ := hb H
          refine gonE (j := 2) hF rfl rfl hc3 ?_
          refine ste hF (e_callA (fst := []) (vs := [(.int .i64 x1), (.int .i64 (-1000000000000)), (.int .i64 1000000000000)]) (cap := []) rfl rfl go_79 (St.call (A := []) (B := []) hS (impl_in.spec k _ _ x1 (-1000000000000) 1000000000000 _ hx3)) rfl) (by decide) (fun v w a hR hF => ?_)
          obtain ⟨s5, A4, hg3, hS, hR⟩ := hR
          obtain ⟨hv3, rfl⟩ := hR; obtain rfl := hv3.symm
          have hS : St e s5 w [] := hS
          refine gonE (j := 2) hF rfl rfl hc3 ?_
          refine stp hF (p_not rfl) (by decide) (fun a hF => ?_)
          refine stp hF (p_pickF rfl hc3 rfl) (by decide) (fun a hF => ?_)
          refine nilN ?_
          refine xn ?_
          obtain rfl := hsm H
          exact ⟨(!x4), s5, hS, hF.cut ⟨rfl, rfl, rfl, trivial⟩, hg3, HK2⟩
      · clear H HK2 hS hF
        rintro a w ⟨x3, s4, hS, hF, hg4, H⟩
        unfold impl_GetInt.c1 at H
        refine nilN ?_
        refine xn ?_
        refine cnd hF rfl (fun hc4 => ?_) (fun hc4 => ?_)
        · replace H := hbt hc4 H
          refine sq ?_
          refine rg ?_
          refine stp hF (p_assign rfl) (by decide) (fun a hF => ?_)
          refine stp hF (p_assign rfl) (by decide) (fun a hF => ?_)
          refine stp hF (p_assign rfl) (by decide) (fun a hF => ?_)
          refine nilN ?_
          refine xn ?_
          refine rt ?_
          refine xr ?_
          obtain rfl := hsm H
          exact ret3 hF rfl rfl rfl rfl hS ⟨rfl, rfl⟩
        · replace H := hbf hc4 H
          refine skN ?_
          refine xn ?_
          refine sq ?_
          refine rg ?_
          refine stp hF (p_move rfl) (by decide) (fun a hF => ?_)
          refine stp hF (p_move rfl) (by decide) (fun a hF => ?_)
          refine stp hF (p_assign rfl) (by decide) (fun a hF => ?_)
          refine stp hF (p_assign rfl) (by decide) (fun a hF => ?_)
          refine stp hF (p_assign rfl) (by decide) (fun a hF => ?_)
          refine nilN ?_
          refine xn ?_
          refine rt ?_
          obtain rfl := hsm H
          exact ret3 hF rfl rfl rfl rfl hS ⟨rfl, rfl⟩

def impl_reader_one.f (k : Nat) (x1 : (List Int)) (x2 : Int) (x3 : Bool) : Option (Int × (List Int) × Int × Bool) :=
  ((impl_GetInt.f k x1 x2).bind fun x4 => (if (x3 || (!x4.2.2)) = true then (some (0, x1, x2, true)) else (some (x4.1, x1, x4.2.1, x3))))
set_option maxRecDepth 100000 in
set_option maxHeartbeats 4000000 in
theorem impl_reader_one.spec (k : Nat) (s0 : HF) (w : World) (x1 : (List Int)) (x2 : Int) (x3 : Bool) (v1 : Value) (g1 : Nat) (h1 : Sl (Kd.int .u8) s0 v1 x1) (r : Int × (List Int) × Int × Bool) (H : impl_reader_one.f k x1 x2 x3 = some r) :
    Law Try.prog 85 #[(.pointer (some ⟨g1, 0, none⟩))] s0 w [pt g1 99 ([v1, (.int .i64 x2), (.bool x3)])] (fun v s1 A1 => ∃ (u0 : Value), v = (.int .i64 r.1) ∧ A1 = [pt g1 99 ([u0, (.int .i64 r.2.2.1), (.bool r.2.2.2)])] ∧ Sl (Kd.int .u8) s1 u0 r.2.1) := by
  unfold impl_reader_one.f at H
  refine Law.intro Try.func85 rfl [(0, (.pointer (some ⟨g1, 0, none⟩)))] (Nat.le_of_ble_eq_true rfl) (enter_lk ⟨rfl, trivial⟩) (fun e a hS hF => ?_)
  have hF : Fr 35 a [(0, (.pointer (some ⟨g1, 0, none⟩)))] := hF
  refine sq ?_
  refine rg ?_
  refine stp hF (p_assign rfl) (by decide) (fun a hF => ?_)
  refine nilN ?_
  refine xn ?_
  refine sq ?_
  replace hS : St e s0 w.drew [pt g1 99 ([v1, (.int .i64 x2), (.bool x3)])] := hS.drewN 1
  refine drw [0, 1, 2, 3, 4, 5, 6, 7, 8, 9, 10, 11, 12, 13, 14, 15] mixed (by kernel_rfl) (by decide) (hF.cut (L' := [(0, (.pointer (some ⟨g1, 0, none⟩))), (2, (.int .i64 0))]) ⟨rfl, rfl, trivial⟩) ?_
  clear hF
  generalize w.drew = w at hS ⊢
  refine pk1 rfl (by decide) rfl (by kernel_rfl) rfl (p_move rfl) ?_
  refine pk1 rfl (by decide) rfl (by kernel_rfl) rfl (p_nilck rfl) ?_
  refine pk1 rfl (by decide) rfl (by kernel_rfl) rfl (p_fldb (o' := 0) rfl fi_99_0 rfl) ?_
  refine pk1 rfl (by decide) rfl (by kernel_rfl) rfl (p_ldb_one (i := 0) hS rfl rfl ia_24 rfl) ?_
  refine pk1 rfl (by decide) rfl (by kernel_rfl) rfl (p_move rfl) ?_
  refine pk1 rfl (by decide) rfl (by kernel_rfl) rfl (p_nilck rfl) ?_
  refine pk1 rfl (by decide) rfl (by kernel_rfl) rfl (p_fldb (o' := 1) rfl fi_99_1 rfl) ?_
  refine pk1 rfl (by decide) rfl (by kernel_rfl) rfl (p_ldb_one (i := 0) hS rfl rfl ia_3 rfl) ?_
  obtain ⟨x4, hx1, H⟩ := hb H
  refine pkE [6, 5, 4, 2, 1, 0] rfl (by decide) (by kernel_rfl) (by kernel_rfl) (e_callA (fst := []) (vs := [v1, (.int .i64 x2)]) (cap := []) rfl rfl go_142 (St.call (A := []) (B := [pt g1 99 ([v1, (.int .i64 x2), (.bool x3)])]) hS (impl_GetInt.spec k _ _ x1 x2 v1 h1 _ hx1)) rfl) ?_
  intro v w hR
  obtain ⟨s2, A2, hg1, hS, hR⟩ := hR
  obtain ⟨hv1, rfl⟩ := hR; obtain rfl := hv1.symm
  have hS : St e s2 w [pt g1 99 ([v1, (.int .i64 x2), (.bool x3)])] := hS
  refine ⟨⟨knw rfl rfl rfl (p_fldb (o' := 1) rfl fi_99_1 rfl), ⟨knw rfl rfl rfl (p_nilck rfl), ⟨knw rfl rfl rfl (p_move rfl), ⟨knw rfl rfl rfl (p_fldb (o' := 0) rfl fi_99_0 rfl), ⟨knw rfl rfl rfl (p_nilck rfl), ⟨knw rfl rfl rfl (p_move rfl), trivial⟩⟩⟩⟩⟩⟩, ?_⟩
  refine pk1 rfl (by decide) rfl (by kernel_rfl) rfl (p_move rfl) ?_
  refine pk1 rfl (by decide) rfl (by kernel_rfl) rfl (p_extract rfl rfl) ?_
  refine pk1 rfl (by decide) rfl (by kernel_rfl) rfl (p_extract rfl rfl) ?_
  refine pk1 rfl (by decide) rfl (by kernel_rfl) rfl (p_extract rfl rfl) ?_
  refine pkE [12, 11] rfl (by decide) (by kernel_rfl) (by kernel_rfl) (puEf (p_assign rfl)) ?_
  rintro v w' ⟨hv, rfl⟩
  obtain rfl := hv.symm
  refine ⟨⟨knw rfl rfl rfl (p_extract rfl rfl), ⟨knw rfl rfl rfl (p_extract rfl rfl), trivial⟩⟩, ?_⟩
  refine pkE [12] rfl (by decide) (by kernel_rfl) (by kernel_rfl) (puEf (p_assign rfl)) ?_
  rintro v w' ⟨hv, rfl⟩
  obtain rfl := hv.symm
  refine ⟨⟨knw rfl rfl rfl (p_extract rfl rfl), trivial⟩, ?_⟩
  refine pkE [] rfl (by decide) (by kernel_rfl) (by kernel_rfl) (puEf (p_assign rfl)) ?_
  rintro v w' ⟨hv, rfl⟩
  obtain rfl := hv.symm
  refine ⟨trivial, ?_⟩
  refine pkF (fun a hF => ?_)
  refine xn ?_
  refine sq ?_
  refine sq ?_
  refine rg ?_
  refine stp hF (p_move rfl) (by decide) (fun a hF => ?_)
  refine stp hF (p_nilck rfl) (by decide) (fun a hF => ?_)
  refine stp hF (p_fldb (o' := 2) rfl fi_99_2 rfl) (by decide) (fun a hF => ?_)
  refine stp hF (p_ldb_one (i := 0) hS rfl rfl ia_4 rfl) (by decide) (fun a hF => ?_)
  refine stp hF (p_move rfl) (by decide) (fun a hF => ?_)
  refine cutj 3 (fun a w => St e s2 w [pt g1 99 ([v1, (.int .i64 x2), (.bool x3)])] ∧ Fr 35 a [(0, (.pointer (some ⟨g1, 0, none⟩))), (3, (.int .i64 x4.1)), (4, (.int .i64 x4.2.1)), (26, (.bool (x3 || (!x4.2.2))))]) rfl rfl ?_ ?_
  · rcases Bool.eq_false_or_eq_true (x3) with hc1 | hc1
    · skip
      refine gofD (j := 4) hF rfl rfl (by rw [hc1]; decide) (by decide) (fun a hF => ?_)
      refine gofD (j := 4) hF rfl rfl (by rw [hc1]; decide) (by decide) (fun a hF => ?_)
      refine stp hF (p_orT (!x4.2.2) rfl hc1 rfl) (by decide) (fun a hF => ?_)
      refine nilN ?_
      refine xn ?_
      exact ⟨hS, hF.cut ⟨rfl, rfl, rfl, rfl, trivial⟩⟩
    · skip
      refine gonE (j := 4) hF rfl rfl hc1 ?_
      refine stp hF (p_move rfl) (by decide) (fun a hF => ?_)
      refine gonE (j := 4) hF rfl rfl hc1 ?_
      refine stp hF (p_not rfl) (by decide) (fun a hF => ?_)
      refine stp hF (p_orF rfl hc1 rfl) (by decide) (fun a hF => ?_)
      refine nilN ?_
      refine xn ?_
      exact ⟨hS, hF.cut ⟨rfl, rfl, rfl, rfl, trivial⟩⟩
  clear hS hF
  rintro a w ⟨hS, hF⟩
  refine nilN ?_
  refine xn ?_
  refine cnd hF rfl (fun hc2 => ?_) (fun hc2 => ?_)
  · replace H := hbt hc2 H
    refine sq ?_
    refine rg ?_
    refine stp hF (p_move rfl) (by decide) (fun a hF => ?_)
    refine stp hF (p_nilck rfl) (by decide) (fun a hF => ?_)
    refine stp hF (p_fldb (o' := 2) rfl fi_99_2 rfl) (by decide) (fun a hF => ?_)
    refine ste0 hF (e_stb (i := 0) (l := [v1, (.int .i64 x2)]) (m := [(.bool x3)]) (r := []) (m' := [(.bool true)]) (cs' := [v1, (.int .i64 x2), (.bool true)]) hS rfl rfl rfl ti_4 rfl rfl rfl rfl rfl (one_cons rfl one_nil) rfl) (fun v w a hR hF => ?_)
    have hS : St e s2 w [pt g1 99 ([v1, (.int .i64 x2), (.bool true)])] := hR
    refine nilN ?_
    refine xn ?_
    refine sq ?_
    refine rg ?_
    refine stp hF (p_assign rfl) (by decide) (fun a hF => ?_)
    refine nilN ?_
    refine xn ?_
    refine rt ?_
    refine xr ?_
    obtain rfl := hsm H
    exact ret1 hF rfl rfl hS ⟨v1, rfl, rfl, (h1.mono hg1)⟩
  · replace H := hbf hc2 H
    refine skN ?_
    refine xn ?_
    refine sq ?_
    refine rg ?_
    refine stp hF (p_move rfl) (by decide) (fun a hF => ?_)
    refine stp hF (p_move rfl) (by decide) (fun a hF => ?_)
    refine stp hF (p_nilck rfl) (by decide) (fun a hF => ?_)
    refine stp hF (p_fldb (o' := 1) rfl fi_99_1 rfl) (by decide) (fun a hF => ?_)
    refine ste0 hF (e_stb (i := 0) (l := [v1]) (m := [(.int .i64 x2)]) (r := [(.bool x3)]) (m' := [(.int .i64 x4.2.1)]) (cs' := [v1, (.int .i64 x4.2.1), (.bool x3)]) hS rfl rfl rfl ti_3 rfl rfl rfl rfl rfl (one_cons rfl one_nil) rfl) (fun v w a hR hF => ?_)
    have hS : St e s2 w [pt g1 99 ([v1, (.int .i64 x4.2.1), (.bool x3)])] := hR
    refine nilN ?_
    refine xn ?_
    refine sq ?_
    refine rg ?_
    refine stp hF (p_move rfl) (by decide) (fun a hF => ?_)
    refine stp hF (p_assign rfl) (by decide) (fun a hF => ?_)
    refine nilN ?_
    refine xn ?_
    refine rt ?_
    obtain rfl := hsm H
    exact ret1 hF rfl rfl hS ⟨v1, rfl, rfl, (h1.mono hg1)⟩

def impl_reader_many.f (k : Nat) (x1 : (List Int)) (x2 : Int) (x3 : Bool) (x4 : Int) : Option (Int × (List Int) × Int × Bool) :=
  ((impl_reader_one.f k x1 x2 x3).bind fun x5 => ((impl_in.f k x5.1 0 x4).bind fun x6 => (if (!x6) = true then (some (0, x5.2.1, x5.2.2.1, true)) else (some (x5.1, x5.2.1, x5.2.2.1, x5.2.2.2)))))
set_option maxRecDepth 100000 in
set_option maxHeartbeats 4000000 in
theorem impl_reader_many.spec (k : Nat) (s0 : HF) (w : World) (x1 : (List Int)) (x2 : Int) (x3 : Bool) (x4 : Int) (v1 : Value) (g1 : Nat) (h1 : Sl (Kd.int .u8) s0 v1 x1) (r : Int × (List Int) × Int × Bool) (H : impl_reader_many.f k x1 x2 x3 x4 = some r) :
    Law Try.prog 87 #[(.pointer (some ⟨g1, 0, none⟩)), (.int .i64 x4)] s0 w [pt g1 99 ([v1, (.int .i64 x2), (.bool x3)])] (fun v s1 A1 => ∃ (u0 : Value), v = (.int .i64 r.1) ∧ A1 = [pt g1 99 ([u0, (.int .i64 r.2.2.1), (.bool r.2.2.2)])] ∧ Sl (Kd.int .u8) s1 u0 r.2.1) := by
  unfold impl_reader_many.f at H
  refine Law.intro Try.func87 rfl [(0, (.pointer (some ⟨g1, 0, none⟩))), (1, (.int .i64 x4))] (Nat.le_of_ble_eq_true rfl) (enter_lk ⟨rfl, rfl, trivial⟩) (fun e a hS hF => ?_)
  have hF : Fr 16 a [(0, (.pointer (some ⟨g1, 0, none⟩))), (1, (.int .i64 x4))] := hF
  refine sq ?_
  refine rg ?_
  refine stp hF (p_assign rfl) (by decide) (fun a hF => ?_)
  refine nilN ?_
  refine xn ?_
  refine sq ?_
  refine rg ?_
  refine stp hF (p_move rfl) (by decide) (fun a hF => ?_)
  obtain ⟨x5, hx1, H⟩ := hb H
  refine ste hF (e_callA (fst := []) (vs := [(.pointer (some ⟨g1, 0, none⟩))]) (cap := []) rfl rfl go_85 (St.call (A := [pt g1 99 ([v1, (.int .i64 x2), (.bool x3)])]) (B := []) hS (impl_reader_one.spec k _ _ x1 x2 x3 v1 g1 h1 _ hx1)) rfl) (by decide) (fun v w a hR hF => ?_)
  obtain ⟨s2, A2, hg1, hS, hR⟩ := hR
  obtain ⟨v2, hv1, rfl, h2⟩ := hR; obtain rfl := hv1.symm
  have hS : St e s2 w [pt g1 99 ([v2, (.int .i64 x5.2.2.1), (.bool x5.2.2.2)])] := hS
  refine stp hF (p_assign rfl) (by decide) (fun a hF => ?_)
  refine nilN ?_
  refine xn ?_
  refine sq ?_
  refine sq ?_
  refine rg ?_
  refine stp hF (p_move rfl) (by decide) (fun a hF => ?_)
  refine stp hF (p_move rfl) (by decide) (fun a hF => ?_)
  obtain ⟨x6, hx2, H⟩ := hb H
  refine ste hF (e_callA (fst := []) (vs := [(.int .i64 x5.1), (.int .i64 0), (.int .i64 x4)]) (cap := []) rfl rfl go_79 (St.call (A := []) (B := [pt g1 99 ([v2, (.int .i64 x5.2.2.1), (.bool x5.2.2.2)])]) hS (impl_in.spec k _ _ x5.1 0 x4 _ hx2)) rfl) (by decide) (fun v w a hR hF => ?_)
  obtain ⟨s3, A3, hg2, hS, hR⟩ := hR
  obtain ⟨hv2, rfl⟩ := hR; obtain rfl := hv2.symm
  have hS : St e s3 w [pt g1 99 ([v2, (.int .i64 x5.2.2.1), (.bool x5.2.2.2)])] := hS
  refine stp hF (p_not rfl) (by decide) (fun a hF => ?_)
  refine nilN ?_
  refine xn ?_
  refine cnd hF rfl (fun hc1 => ?_) (fun hc1 => ?_)
  · replace H := hbt hc1 H
    refine sq ?_
    refine rg ?_
    refine stp hF (p_move rfl) (by decide) (fun a hF => ?_)
    refine stp hF (p_nilck rfl) (by decide) (fun a hF => ?_)
    refine stp hF (p_fldb (o' := 2) rfl fi_99_2 rfl) (by decide) (fun a hF => ?_)
    refine ste0 hF (e_stb (i := 0) (l := [v2, (.int .i64 x5.2.2.1)]) (m := [(.bool x5.2.2.2)]) (r := []) (m' := [(.bool true)]) (cs' := [v2, (.int .i64 x5.2.2.1), (.bool true)]) hS rfl rfl rfl ti_4 rfl rfl rfl rfl rfl (one_cons rfl one_nil) rfl) (fun v w a hR hF => ?_)
    have hS : St e s3 w [pt g1 99 ([v2, (.int .i64 x5.2.2.1), (.bool true)])] := hR
    refine nilN ?_
    refine xn ?_
    refine sq ?_
    refine rg ?_
    refine stp hF (p_assign rfl) (by decide) (fun a hF => ?_)
    refine nilN ?_
    refine xn ?_
    refine rt ?_
    refine xr ?_
    obtain rfl := hsm H
    exact ret1 hF rfl rfl hS ⟨v2, rfl, rfl, (h2.mono hg2)⟩
  · replace H := hbf hc1 H
    refine skN ?_
    refine xn ?_
    refine sq ?_
    refine rg ?_
    refine stp hF (p_move rfl) (by decide) (fun a hF => ?_)
    refine stp hF (p_assign rfl) (by decide) (fun a hF => ?_)
    refine nilN ?_
    refine xn ?_
    refine rt ?_
    obtain rfl := hsm H
    exact ret1 hF rfl rfl hS ⟨v2, rfl, rfl, (h2.mono hg2)⟩

def impl_reader_ints.c1 (k : Nat) (x1 : (List Int)) (x2 : Int) (x3 : Bool) (x4 : (List Int)) : Option ((List Int) × (List Int) × Int × Bool) :=
  (some (x4, x1, x2, x3))
def impl_reader_ints.l1 (x5 : Int × (List Int) × Int × Bool) : Nat → (List Int) → Int → Bool → (List Int) → Int → Option ((List Int) × Int × Bool × (List Int))
  | 0, _, _, _, _, _ => none
  | k + 1, x6, x7, x8, x9, x10 => (if (decide (x10 < x5.1)) = true then ((impl_reader_one.f k x6 x7 x8).bind fun x11 => (if x9.length + 1 ≤ 17592186044416 then ((impl_reader_ints.l1 x5 k) x11.2.1 x11.2.2.1 x11.2.2.2 (x9 ++ ([x11.1] : List Int)) (w64 (x10 + 1))) else none)) else (some (x6, x7, x8, x9)))
def impl_reader_ints.f (k : Nat) (x12 : (List Int)) (x13 : Int) (x14 : Bool) (x15 : Int) : Option ((List Int) × (List Int) × Int × Bool) :=
  ((((impl_reader_many.f k x12 x13 x14 x15).bind fun x5 => (impl_reader_ints.l1 x5 k x5.2.1 x5.2.2.1 x5.2.2.2 ([] : List Int) 0)) : Option ((List Int) × Int × Bool × (List Int))).bind fun x16 => impl_reader_ints.c1 k x16.1 x16.2.1 x16.2.2.1 x16.2.2.2)
set_option maxRecDepth 100000 in
set_option maxHeartbeats 4000000 in
theorem impl_reader_ints.spec (k : Nat) (s0 : HF) (w : World) (x12 : (List Int)) (x13 : Int) (x14 : Bool) (x15 : Int) (v1 : Value) (g1 : Nat) (h1 : Sl (Kd.int .u8) s0 v1 x12) (r : (List Int) × (List Int) × Int × Bool) (H : impl_reader_ints.f k x12 x13 x14 x15 = some r) :
    Law Try.prog 171 #[(.pointer (some ⟨g1, 0, none⟩)), (.int .i64 x15)] s0 w [pt g1 99 ([v1, (.int .i64 x13), (.bool x14)])] (fun v s1 A1 => ∃ (u0 : Value) (u1 : Value), v = u1 ∧ A1 = [pt g1 99 ([u0, (.int .i64 r.2.2.1), (.bool r.2.2.2)]), Ow (Kd.int .i64) 3 u1 r.1] ∧ Sl (Kd.int .u8) s1 u0 r.2.1) := by
  unfold impl_reader_ints.f at H
  refine Law.intro Try.func171 rfl [(0, (.pointer (some ⟨g1, 0, none⟩))), (1, (.int .i64 x15))] (Nat.le_of_ble_eq_true rfl) (enter_lk ⟨rfl, rfl, trivial⟩) (fun e a hS hF => ?_)
  have hF : Fr 18 a [(0, (.pointer (some ⟨g1, 0, none⟩))), (1, (.int .i64 x15))] := hF
  refine sq ?_
  refine rg ?_
  refine stp hF (p_assign rfl) (by decide) (fun a hF => ?_)
  refine nilN ?_
  refine xn ?_
  refine sq ?_
  refine rg ?_
  refine stp hF (p_assign rfl) (by decide) (fun a hF => ?_)
  refine nilN ?_
  refine xn ?_
  obtain ⟨x16, H, HK1⟩ := hb H
  refine sqj (fun a w => ∃ (x1 : (List Int)) (x2 : Int) (x3 : Bool) (x4 : (List Int)) (s2 : HF) (v2 : Value) (v3 : Value) , St e s2 w [pt g1 99 ([v2, (.int .i64 x2), (.bool x3)]), Ow (Kd.int .i64) 3 v3 x4] ∧ Fr 18 a [(5, v3)] ∧ Sub s0 s2 ∧ Sl (Kd.int .u8) s2 v2 x1 ∧ impl_reader_ints.c1 k x1 x2 x3 x4 = some r) ?_ ?_
  · skip
    refine sq ?_
    refine rg ?_
    refine stp hF (p_move rfl) (by decide) (fun a hF => ?_)
    refine stp hF (p_move rfl) (by decide) (fun a hF => ?_)
    obtain ⟨x5, hx1, H⟩ := hb H
    refine ste hF (e_callA (fst := []) (vs := [(.pointer (some ⟨g1, 0, none⟩)), (.int .i64 x15)]) (cap := []) rfl rfl go_87 (St.call (A := [pt g1 99 ([v1, (.int .i64 x13), (.bool x14)])]) (B := []) hS (impl_reader_many.spec k _ _ x12 x13 x14 x15 v1 g1 h1 _ hx1)) rfl) (by decide) (fun v w a hR hF => ?_)
    obtain ⟨s3, A2, hg1, hS, hR⟩ := hR
    obtain ⟨v4, hv1, rfl, h2⟩ := hR; obtain rfl := hv1.symm
    have hS : St e s3 w [pt g1 99 ([v4, (.int .i64 x5.2.2.1), (.bool x5.2.2.2)])] := hS
    refine stp hF (p_move rfl) (by decide) (fun a hF => ?_)
    refine nilN ?_
    refine xn ?_
    refine blk ?_
    refine loop_ind (fun k1 a w => ∃ (x6 : (List Int)) (x7 : Int) (x8 : Bool) (x9 : (List Int)) (x10 : Int) (s4 : HF) (v5 : Value) (v6 : Value) , St e s4 w [pt g1 99 ([v5, (.int .i64 x7), (.bool x8)]), Ow (Kd.int .i64) 3 v6 x9] ∧ Fr 18 a [(0, (.pointer (some ⟨g1, 0, none⟩))), (5, v6), (8, (.int .i64 x5.1)), (9, (.int .i64 x10))] ∧ Sub s3 s4 ∧ Sl (Kd.int .u8) s4 v5 x6 ∧ impl_reader_ints.l1 x5 k1 x6 x7 x8 x9 x10 = some x16) k ?_ ?_ ?_
    · skip
      replace hS := hS.ownNil (Kd.int .i64) 3 none
      replace hS := hS.sel (is := [1, 0]) (A' := [pt g1 99 ([v4, (.int .i64 x5.2.2.1), (.bool x5.2.2.2)]), Ow (Kd.int .i64) 3 (.slice none 0 0) ([] : List Int)]) rfl
      exact ⟨x5.2.1, x5.2.2.1, x5.2.2.2, ([] : List Int), 0, s3, v4, (.slice none 0 0), hS, hF.cut ⟨rfl, rfl, rfl, rfl, trivial⟩, (Sub.refl _), h2, H⟩
    · clear H hS hF
      rintro a w ⟨x6, x7, x8, x9, x10, s4, v5, v6, hS, hF, hg2, h3, H⟩
      exact absurd (show none = some _ from H) (by simp)
    · clear H hS hF
      rintro k1 a w ⟨x6, x7, x8, x9, x10, s4, v5, v6, hS, hF, hg2, h3, H⟩
      rw [impl_reader_ints.l1.eq_2] at H
      refine sq ?_
      refine rg ?_
      refine stp hF (p_lss rfl rfl) (by decide) (fun a hF => ?_)
      refine nilN ?_
      refine xn ?_
      refine sq ?_
      refine cnd hF rfl (fun hc1 => ?_) (fun hc1 => ?_)
      · replace H := hbt hc1 H
        refine skN ?_
        refine xn ?_
        refine sq ?_
        refine blk ?_
        refine rg ?_
        refine stp hF (p_move rfl) (by decide) (fun a hF => ?_)
        refine stp hF (p_move rfl) (by decide) (fun a hF => ?_)
        obtain ⟨x11, hx2, H⟩ := hb H
        refine ste hF (e_callA (fst := []) (vs := [(.pointer (some ⟨g1, 0, none⟩))]) (cap := []) rfl rfl go_85 (St.call (A := [pt g1 99 ([v5, (.int .i64 x7), (.bool x8)])]) (B := [Ow (Kd.int .i64) 3 v6 x9]) hS (impl_reader_one.spec k1 _ _ x6 x7 x8 v5 g1 h3 _ hx2)) rfl) (by decide) (fun v w a hR hF => ?_)
        obtain ⟨s5, A3, hg3, hS, hR⟩ := hR
        obtain ⟨v7, hv2, rfl, h4⟩ := hR; obtain rfl := hv2.symm
        have hS : St e s5 w [pt g1 99 ([v7, (.int .i64 x11.2.2.1), (.bool x11.2.2.2)]), Ow (Kd.int .i64) 3 v6 x9] := hS
        refine ste hF (e_bslice (kd := (Kd.int .i64)) (et := 3) (ps := [(0, (.tmp 13))]) (vs := [(0, (.int .i64 x11.1))]) (cs := [(.int .i64 x11.1)]) (xs := ([x11.1] : List Int)) hS rfl (by intro w; kernel_rfl) rfl (by decide) (Nat.le_of_ble_eq_true rfl) (by exact (rows_cons (kd := (Kd.int .i64)) (x := x11.1) (c := [(.int .i64 x11.1)]) (cs := []) rfl (Rows.nil _ _ _ _)))) (by decide) (fun v8 w a hR hF => ?_)
        have hS : St e s5 w [Ow (Kd.int .i64) 3 v8 ([x11.1] : List Int), pt g1 99 ([v7, (.int .i64 x11.2.2.1), (.bool x11.2.2.2)]), Ow (Kd.int .i64) 3 v6 x9] := hR
        obtain ⟨hq1, H⟩ := hck H
        refine ste hF (e_append (n := 2) hS rfl rfl rfl (hS.src (n := 0) rfl) un_34 ti_3 rfl (by decide) (by decide) (Nat.le_trans (Nat.mul_le_mul_right 8 hq1) (by decide))) (by decide) (fun v9 w a hR hF => ?_)
        have hS : St e s5 w [Ow (Kd.int .i64) 3 v9 (x9 ++ ([x11.1] : List Int)), Ow (Kd.int .i64) 3 v8 ([x11.1] : List Int), pt g1 99 ([v7, (.int .i64 x11.2.2.1), (.bool x11.2.2.2)])] := hR
        replace hS := hS.sel (is := [0, 1]) (A' := [Ow (Kd.int .i64) 3 v9 (x9 ++ ([x11.1] : List Int)), pt g1 99 ([v7, (.int .i64 x11.2.2.1), (.bool x11.2.2.2)])]) rfl
        refine stp hF (p_assign rfl) (by decide) (fun a hF => ?_)
        refine nilN ?_
        refine bn (xn ?_)
        refine rg ?_
        refine stp hF (p_add (c := w64 (x10 + 1)) rfl rfl rfl) (by decide) (fun a hF => ?_)
        refine stp hF (p_move rfl) (by decide) (fun a hF => ?_)
        refine nilN ?_
        refine xn ?_
        replace hS := hS.sel (is := [1, 0]) (A' := [pt g1 99 ([v7, (.int .i64 x11.2.2.1), (.bool x11.2.2.2)]), Ow (Kd.int .i64) 3 v9 (x9 ++ ([x11.1] : List Int))]) rfl
        exact ⟨x11.2.1, x11.2.2.1, x11.2.2.2, (x9 ++ ([x11.1] : List Int)), (w64 (x10 + 1)), s5, v7, v9, hS, hF.cut ⟨rfl, rfl, rfl, rfl, trivial⟩, (hg2.trans hg3), h4, H⟩
      · replace H := hbf hc1 H
        refine exi ?_
        refine xe (xe (hit (xn ?_)))
        obtain rfl := hsm H
        exact ⟨x6, x7, x8, x9, s4, v5, v6, hS, hF.cut ⟨rfl, trivial⟩, (hg1.trans hg2), h3, HK1⟩
  · clear H HK1 hS hF
    rintro a w ⟨x1, x2, x3, x4, s2, v2, v3, hS, hF, hg4, h5, H⟩
    unfold impl_reader_ints.c1 at H
    refine sq ?_
    refine rg ?_
    refine stp hF (p_move rfl) (by decide) (fun a hF => ?_)
    refine stp hF (p_assign rfl) (by decide) (fun a hF => ?_)
    refine nilN ?_
    refine xn ?_
    refine rt ?_
    obtain rfl := hsm H
    exact ret1 hF rfl rfl hS ⟨v2, v3, rfl, rfl, h5⟩

def impl_reader_done.c1 (k : Nat) (x1 : (List Int)) (x2 : Int) (x3 : Bool) (x4 : Bool) : Option (Bool × (List Int) × Int × Bool) :=
  (some (x4, x1, x2, x3))
def impl_reader_done.f (k : Nat) (x1 : (List Int)) (x2 : Int) (x3 : Bool) : Option (Bool × (List Int) × Int × Bool) :=
  (((if (!x3) = true then (some (decide (x2 = (x1.length : Int)))) else (some false)) : Option Bool).bind fun x5 => impl_reader_done.c1 k x1 x2 x3 x5)
set_option maxRecDepth 100000 in
set_option maxHeartbeats 4000000 in
theorem impl_reader_done.spec (k : Nat) (s0 : HF) (w : World) (x1 : (List Int)) (x2 : Int) (x3 : Bool) (v1 : Value) (g1 : Nat) (h1 : Sl (Kd.int .u8) s0 v1 x1) (r : Bool × (List Int) × Int × Bool) (H : impl_reader_done.f k x1 x2 x3 = some r) :
    Law Try.prog 88 #[(.pointer (some ⟨g1, 0, none⟩))] s0 w [pt g1 99 ([v1, (.int .i64 x2), (.bool x3)])] (fun v s1 A1 => ∃ (u0 : Value), v = (.bool r.1) ∧ A1 = [pt g1 99 ([u0, (.int .i64 r.2.2.1), (.bool r.2.2.2)])] ∧ Sl (Kd.int .u8) s1 u0 r.2.1) := by
  unfold impl_reader_done.f at H
  refine Law.intro Try.func88 rfl [(0, (.pointer (some ⟨g1, 0, none⟩)))] (Nat.le_of_ble_eq_true rfl) (enter_lk ⟨rfl, trivial⟩) (fun e a hS hF => ?_)
  have hF : Fr 20 a [(0, (.pointer (some ⟨g1, 0, none⟩)))] := hF
  refine sq ?_
  refine rg ?_
  refine stp hF (p_assign rfl) (by decide) (fun a hF => ?_)
  refine nilN ?_
  refine xn ?_
  obtain ⟨x5, H, HK1⟩ := hb H
  refine sqj (fun a w => ∃ (x4 : Bool) , St e s0 w [pt g1 99 ([v1, (.int .i64 x2), (.bool x3)])] ∧ Fr 20 a [(2, (.bool x4))] ∧ impl_reader_done.c1 k x1 x2 x3 x4 = some r) ?_ ?_
  · skip
    replace hS : St e s0 w.drew [pt g1 99 ([v1, (.int .i64 x2), (.bool x3)])] := hS.drewN 1
    refine drw [0, 1, 2, 3, 4, 5, 6, 7, 8, 9, 10, 11, 12, 13, 14, 15, 16, 17] mixed (by kernel_rfl) (by decide) (hF.cut (L' := [(0, (.pointer (some ⟨g1, 0, none⟩))), (2, (.bool false))]) ⟨rfl, rfl, trivial⟩) ?_
    clear hF
    generalize w.drew = w at hS ⊢
    refine pk1 rfl (by decide) rfl (by kernel_rfl) rfl (p_move rfl) ?_
    refine pk1 rfl (by decide) rfl (by kernel_rfl) rfl (p_nilck rfl) ?_
    refine pk1 rfl (by decide) rfl (by kernel_rfl) rfl (p_fldb (o' := 2) rfl fi_99_2 rfl) ?_
    refine pk1 rfl (by decide) rfl (by kernel_rfl) rfl (p_ldb_one (i := 0) hS rfl rfl ia_4 rfl) ?_
    refine pk1 rfl (by decide) rfl (by kernel_rfl) rfl (p_not rfl) ?_
    refine pk1 rfl (by decide) rfl (by kernel_rfl) rfl (p_move rfl) ?_
    rcases Bool.eq_false_or_eq_true ((!x3)) with hc1 | hc1
    · replace H := hbt hc1 H
      refine pkOn (j := 5) rfl (by decide) rfl (by kernel_rfl) rfl rfl rfl hc1 (p_move rfl) ?_
      refine pkOn (j := 5) rfl (by decide) rfl (by kernel_rfl) rfl rfl rfl hc1 (p_nilck rfl) ?_
      refine pkOn (j := 5) rfl (by decide) rfl (by kernel_rfl) rfl rfl rfl hc1 (p_fldb (o' := 1) rfl fi_99_1 rfl) ?_
      refine pkOn (j := 5) rfl (by decide) rfl (by kernel_rfl) rfl rfl rfl hc1 (p_ldb_one (i := 0) hS rfl rfl ia_3 rfl) ?_
      refine pkOn (j := 5) rfl (by decide) rfl (by kernel_rfl) rfl rfl rfl hc1 (p_move rfl) ?_
      refine pkOn (j := 5) rfl (by decide) rfl (by kernel_rfl) rfl rfl rfl hc1 (p_nilck rfl) ?_
      refine pkOn (j := 5) rfl (by decide) rfl (by kernel_rfl) rfl rfl rfl hc1 (p_fldb (o' := 0) rfl fi_99_0 rfl) ?_
      refine pkOn (j := 5) rfl (by decide) rfl (by kernel_rfl) rfl rfl rfl hc1 (p_ldb_one (i := 0) hS rfl rfl ia_24 rfl) ?_
      refine pkOn (j := 5) rfl (by decide) rfl (by kernel_rfl) rfl rfl rfl hc1 (p_lenr un_24 rfl h1) ?_
      refine pkOn (j := 5) rfl (by decide) rfl (by kernel_rfl) rfl rfl rfl hc1 (p_eql rfl rfl) ?_
      refine pk1 rfl (by decide) rfl (by kernel_rfl) rfl (p_pickT rfl hc1 rfl) ?_
      refine pkE [] rfl (by decide) (by kernel_rfl) (by kernel_rfl) (puEf (p_assign rfl)) ?_
      rintro v w' ⟨hv, rfl⟩
      obtain rfl := hv.symm
      refine ⟨trivial, ?_⟩
      refine pkF (fun a hF => ?_)
      refine xn ?_
      obtain rfl := hsm H
      exact ⟨(decide (x2 = (x1.length : Int))), hS, hF.cut ⟨rfl, trivial⟩, HK1⟩
    · replace H := hbf hc1 H
      refine pkOff (j := 5) rfl (by decide) rfl (by kernel_rfl) rfl rfl rfl (by rw [hc1]; decide) ?_
      refine pkOff (j := 5) rfl (by decide) rfl (by kernel_rfl) rfl rfl rfl (by rw [hc1]; decide) ?_
      refine pkOff (j := 5) rfl (by decide) rfl (by kernel_rfl) rfl rfl rfl (by rw [hc1]; decide) ?_
      refine pkOff (j := 5) rfl (by decide) rfl (by kernel_rfl) rfl rfl rfl (by rw [hc1]; decide) ?_
      refine pkOff (j := 5) rfl (by decide) rfl (by kernel_rfl) rfl rfl rfl (by rw [hc1]; decide) ?_
      refine pkOff (j := 5) rfl (by decide) rfl (by kernel_rfl) rfl rfl rfl (by rw [hc1]; decide) ?_
      refine pkOff (j := 5) rfl (by decide) rfl (by kernel_rfl) rfl rfl rfl (by rw [hc1]; decide) ?_
      refine pkOff (j := 5) rfl (by decide) rfl (by kernel_rfl) rfl rfl rfl (by rw [hc1]; decide) ?_
      refine pkOff (j := 5) rfl (by decide) rfl (by kernel_rfl) rfl rfl rfl (by rw [hc1]; decide) ?_
      refine pkOff (j := 5) rfl (by decide) rfl (by kernel_rfl) rfl rfl rfl (by rw [hc1]; decide) ?_
      refine pk1 rfl (by decide) rfl (by kernel_rfl) rfl (p_pickF rfl hc1 rfl) ?_
      refine pkE [] rfl (by decide) (by kernel_rfl) (by kernel_rfl) (puEf (p_assign rfl)) ?_
      rintro v w' ⟨hv, rfl⟩
      obtain rfl := hv.symm
      refine ⟨trivial, ?_⟩
      refine pkF (fun a hF => ?_)
      refine xn ?_
      obtain rfl := hsm H
      exact ⟨false, hS, hF.cut ⟨rfl, trivial⟩, HK1⟩
  · clear H HK1 hS hF
    rintro a w ⟨x4, hS, hF, H⟩
    unfold impl_reader_done.c1 at H
    refine rt ?_
    obtain rfl := hsm H
    exact ret1 hF rfl rfl hS ⟨v1, rfl, rfl, h1⟩

def impl_GetObj.c1 (k : Nat) (x1 : Int × (List Int) × Int × Bool) (x2 : (List Int) × (List Int) × Int × Bool) (x3 : (List Int) × (List Int) × Int × Bool) (x4 : Bool) : Option (TObj × Bool) :=
  (if x4 = true then (some ((⟨0, ([] : List Int), ([] : List Int)⟩ : TObj), false)) else (some ((⟨x1.1, x2.1, x3.1⟩ : TObj), true)))
def impl_GetObj.f (k : Nat) (x5 : (List Int)) : Option (TObj × Bool) :=
  ((impl_reader_one.f k x5 0 false).bind fun x1 => ((impl_reader_ints.f k x1.2.1 x1.2.2.1 x1.2.2.2 5).bind fun x2 => ((impl_reader_ints.f k x2.2.1 x2.2.2.1 x2.2.2.2 5).bind fun x3 => ((impl_reader_done.f k x3.2.1 x3.2.2.1 x3.2.2.2).bind fun x6 => ((if (!x6.1) = true then (some true) else ((impl_ObjOk.f k (⟨x1.1, x2.1, x3.1⟩ : TObj)).bind fun x7 => (some (!x7))) : Option Bool).bind fun x8 => impl_GetObj.c1 k x1 x2 x3 x8)))))
set_option maxRecDepth 100000 in
set_option maxHeartbeats 4000000 in
theorem impl_GetObj.spec (k : Nat) (s0 : HF) (w : World) (x5 : (List Int)) (v1 : Value) (h1 : Sl (Kd.int .u8) s0 v1 x5) (r : TObj × Bool) (H : impl_GetObj.f k x5 = some r) :
    Law Try.prog 143 #[v1] s0 w [] (fun v s1 A1 => ∃ (u0 : Value) (u1 : Value), v = (.tuple #[(.agg #[(.int .i64 r.1.Kind), u0, u1]), (.bool r.2)]) ∧ A1 = [Ow (Kd.int .i64) 3 u0 r.1.Ints, Ow (Kd.int .i64) 3 u1 r.1.Refs]) := by
  unfold impl_GetObj.f at H
  refine Law.intro Try.func143 rfl [(0, v1)] (Nat.le_of_ble_eq_true rfl) (enter_lk ⟨rfl, trivial⟩) (fun e a hS hF => ?_)
  have hF : Fr 28 a [(0, v1)] := hF
  refine sq ?_
  refine rg ?_
  refine ste hF (e_alloc (cs := [(.int .i64 0), (.slice none 0 0), (.slice none 0 0)]) hS ti_36 rfl) (by decide) (fun v w a hR hF => ?_)
  obtain ⟨g1, rfl, hS⟩ := hR
  refine stp hF (p_assign rfl) (by decide) (fun a hF => ?_)
  refine nilN ?_
  refine xn ?_
  refine sq ?_
  refine rg ?_
  refine stp hF (p_move rfl) (by decide) (fun a hF => ?_)
  refine stp hF (p_build (ps := [(0, (.tmp 6))]) (vs := [(0, v1)]) (v := (.agg #[v1, (.int .i64 0), (.bool false)])) rfl (by intro w; obtain ⟨_, _, _, e1⟩ := Sl.el h1; rw [e1]; kernel_rfl)) (by decide) (fun a hF => ?_)
  refine ste hF (e_box (cs := [v1, (.int .i64 0), (.bool false)]) hS rfl rfl) (by decide) (fun v w a hR hF => ?_)
  obtain ⟨g2, rfl, hS⟩ := hR
  refine stp hF (p_assign rfl) (by decide) (fun a hF => ?_)
  refine nilN ?_
  refine xn ?_
  refine sq ?_
  refine rg ?_
  refine stp hF (p_move rfl) (by decide) (fun a hF => ?_)
  obtain ⟨x1, hx1, H⟩ := hb H
  refine ste hF (e_callA (fst := []) (vs := [(.pointer (some ⟨g2, 0, none⟩))]) (cap := []) rfl rfl go_85 (St.call (A := [pt g2 99 ([v1, (.int .i64 0), (.bool false)])]) (B := [pt g1 36 ([(.int .i64 0), (.slice none 0 0), (.slice none 0 0)])]) hS (impl_reader_one.spec k _ _ x5 0 false v1 g2 h1 _ hx1)) rfl) (by decide) (fun v w a hR hF => ?_)
  obtain ⟨s2, A2, hg1, hS, hR⟩ := hR
  obtain ⟨v2, hv1, rfl, h2⟩ := hR; obtain rfl := hv1.symm
  have hS : St e s2 w [pt g2 99 ([v2, (.int .i64 x1.2.2.1), (.bool x1.2.2.2)]), pt g1 36 ([(.int .i64 0), (.slice none 0 0), (.slice none 0 0)])] := hS
  refine stp hF (p_build (ps := [(0, (.tmp 10))]) (vs := [(0, (.int .i64 x1.1))]) (v := (.agg #[(.int .i64 x1.1), (.slice none 0 0), (.slice none 0 0)])) rfl (by intro w; kernel_rfl)) (by decide) (fun a hF => ?_)
  refine ste hF (e_alloc (cs := [(.int .i64 0), (.slice none 0 0), (.slice none 0 0)]) hS ti_36 rfl) (by decide) (fun v w a hR hF => ?_)
  obtain ⟨g3, rfl, hS⟩ := hR
  refine ste0 hF (e_stb (i := 0) (l := []) (m := [(.int .i64 0), (.slice none 0 0), (.slice none 0 0)]) (r := []) (m' := [(.int .i64 x1.1), (.slice none 0 0), (.slice none 0 0)]) (cs' := [(.int .i64 x1.1), (.slice none 0 0), (.slice none 0 0)]) hS rfl rfl rfl ti_36 rfl rfl rfl rfl rfl (one_cons rfl (one_cons rfl (one_cons rfl one_nil))) rfl) (fun v w a hR hF => ?_)
  have hS : St e s2 w [pt g3 36 ([(.int .i64 x1.1), (.slice none 0 0), (.slice none 0 0)]), pt g2 99 ([v2, (.int .i64 x1.2.2.1), (.bool x1.2.2.2)]), pt g1 36 ([(.int .i64 0), (.slice none 0 0), (.slice none 0 0)])] := hR
  refine nilN ?_
  refine xn ?_
  refine sq ?_
  refine rg ?_
  refine stp hF (p_move rfl) (by decide) (fun a hF => ?_)
  replace hS := hS.sel (is := [1, 0, 0]) (A' := [pt g2 99 ([v2, (.int .i64 x1.2.2.1), (.bool x1.2.2.2)]), pt g3 36 ([(.int .i64 x1.1), (.slice none 0 0), (.slice none 0 0)]), pt g1 36 ([(.int .i64 0), (.slice none 0 0), (.slice none 0 0)])]) rfl
  obtain ⟨x2, hx2, H⟩ := hb H
  refine ste hF (e_callA (fst := []) (vs := [(.pointer (some ⟨g2, 0, none⟩)), (.int .i64 5)]) (cap := []) rfl rfl go_171 (St.call (A := [pt g2 99 ([v2, (.int .i64 x1.2.2.1), (.bool x1.2.2.2)])]) (B := [pt g3 36 ([(.int .i64 x1.1), (.slice none 0 0), (.slice none 0 0)]), pt g1 36 ([(.int .i64 0), (.slice none 0 0), (.slice none 0 0)])]) hS (impl_reader_ints.spec k _ _ x1.2.1 x1.2.2.1 x1.2.2.2 5 v2 g2 h2 _ hx2)) rfl) (by decide) (fun v w a hR hF => ?_)
  obtain ⟨s3, A3, hg2, hS, hR⟩ := hR
  obtain ⟨v3, v4, hv2, rfl, h3⟩ := hR; obtain rfl := hv2.symm
  have hS : St e s3 w [pt g2 99 ([v3, (.int .i64 x2.2.2.1), (.bool x2.2.2.2)]), Ow (Kd.int .i64) 3 v4 x2.1, pt g3 36 ([(.int .i64 x1.1), (.slice none 0 0), (.slice none 0 0)]), pt g1 36 ([(.int .i64 0), (.slice none 0 0), (.slice none 0 0)])] := hS
  refine stp hF (p_fldb (o' := 1) rfl fi_36_1 rfl) (by decide) (fun a hF => ?_)
  refine ste0 hF (e_stb (i := 2) (l := [(.int .i64 x1.1)]) (m := [(.slice none 0 0)]) (r := [(.slice none 0 0)]) (m' := [v4]) (cs' := [(.int .i64 x1.1), v4, (.slice none 0 0)]) hS rfl rfl rfl ti_34 rfl rfl rfl (cells_one (hS.one_ow (i := 1) rfl)) rfl (one_cons (hS.one_ow (i := 1) rfl) one_nil) rfl) (fun v w a hR hF => ?_)
  have hS : St e s3 w [pt g3 36 ([(.int .i64 x1.1), v4, (.slice none 0 0)]), pt g2 99 ([v3, (.int .i64 x2.2.2.1), (.bool x2.2.2.2)]), Ow (Kd.int .i64) 3 v4 x2.1, pt g1 36 ([(.int .i64 0), (.slice none 0 0), (.slice none 0 0)])] := hR
  refine nilN ?_
  refine xn ?_
  refine sq ?_
  refine rg ?_
  refine stp hF (p_move rfl) (by decide) (fun a hF => ?_)
  replace hS := hS.sel (is := [1, 0, 0, 0]) (A' := [pt g2 99 ([v3, (.int .i64 x2.2.2.1), (.bool x2.2.2.2)]), pt g3 36 ([(.int .i64 x1.1), v4, (.slice none 0 0)]), Ow (Kd.int .i64) 3 v4 x2.1, pt g1 36 ([(.int .i64 0), (.slice none 0 0), (.slice none 0 0)])]) rfl
  obtain ⟨x3, hx3, H⟩ := hb H
  refine ste hF (e_callA (fst := []) (vs := [(.pointer (some ⟨g2, 0, none⟩)), (.int .i64 5)]) (cap := []) rfl rfl go_171 (St.call (A := [pt g2 99 ([v3, (.int .i64 x2.2.2.1), (.bool x2.2.2.2)])]) (B := [pt g3 36 ([(.int .i64 x1.1), v4, (.slice none 0 0)]), Ow (Kd.int .i64) 3 v4 x2.1, pt g1 36 ([(.int .i64 0), (.slice none 0 0), (.slice none 0 0)])]) hS (impl_reader_ints.spec k _ _ x2.2.1 x2.2.2.1 x2.2.2.2 5 v3 g2 h3 _ hx3)) rfl) (by decide) (fun v w a hR hF => ?_)
  obtain ⟨s4, A4, hg3, hS, hR⟩ := hR
  obtain ⟨v5, v6, hv3, rfl, h4⟩ := hR; obtain rfl := hv3.symm
  have hS : St e s4 w [pt g2 99 ([v5, (.int .i64 x3.2.2.1), (.bool x3.2.2.2)]), Ow (Kd.int .i64) 3 v6 x3.1, pt g3 36 ([(.int .i64 x1.1), v4, (.slice none 0 0)]), Ow (Kd.int .i64) 3 v4 x2.1, pt g1 36 ([(.int .i64 0), (.slice none 0 0), (.slice none 0 0)])] := hS
  refine stp hF (p_fldb (o' := 2) rfl fi_36_2 rfl) (by decide) (fun a hF => ?_)
  refine ste0 hF (e_stb (i := 2) (l := [(.int .i64 x1.1), v4]) (m := [(.slice none 0 0)]) (r := []) (m' := [v6]) (cs' := [(.int .i64 x1.1), v4, v6]) hS rfl rfl rfl ti_34 rfl rfl rfl (cells_one (hS.one_ow (i := 1) rfl)) rfl (one_cons (hS.one_ow (i := 1) rfl) one_nil) rfl) (fun v w a hR hF => ?_)
  have hS : St e s4 w [pt g3 36 ([(.int .i64 x1.1), v4, v6]), pt g2 99 ([v5, (.int .i64 x3.2.2.1), (.bool x3.2.2.2)]), Ow (Kd.int .i64) 3 v6 x3.1, Ow (Kd.int .i64) 3 v4 x2.1, pt g1 36 ([(.int .i64 0), (.slice none 0 0), (.slice none 0 0)])] := hR
  refine nilN ?_
  refine xn ?_
  refine sq ?_
  refine sq ?_
  refine rg ?_
  refine stp hF (p_move rfl) (by decide) (fun a hF => ?_)
  replace hS := hS.sel (is := [1, 0, 0, 0, 0]) (A' := [pt g2 99 ([v5, (.int .i64 x3.2.2.1), (.bool x3.2.2.2)]), pt g3 36 ([(.int .i64 x1.1), v4, v6]), Ow (Kd.int .i64) 3 v6 x3.1, Ow (Kd.int .i64) 3 v4 x2.1, pt g1 36 ([(.int .i64 0), (.slice none 0 0), (.slice none 0 0)])]) rfl
  obtain ⟨x6, hx4, H⟩ := hb H
  refine ste hF (e_callA (fst := []) (vs := [(.pointer (some ⟨g2, 0, none⟩))]) (cap := []) rfl rfl go_88 (St.call (A := [pt g2 99 ([v5, (.int .i64 x3.2.2.1), (.bool x3.2.2.2)])]) (B := [pt g3 36 ([(.int .i64 x1.1), v4, v6]), Ow (Kd.int .i64) 3 v6 x3.1, Ow (Kd.int .i64) 3 v4 x2.1, pt g1 36 ([(.int .i64 0), (.slice none 0 0), (.slice none 0 0)])]) hS (impl_reader_done.spec k _ _ x3.2.1 x3.2.2.1 x3.2.2.2 v5 g2 h4 _ hx4)) rfl) (by decide) (fun v w a hR hF => ?_)
  obtain ⟨s5, A5, hg4, hS, hR⟩ := hR
  obtain ⟨v7, hv4, rfl, h5⟩ := hR; obtain rfl := hv4.symm
  have hS : St e s5 w [pt g2 99 ([v7, (.int .i64 x6.2.2.1), (.bool x6.2.2.2)]), pt g3 36 ([(.int .i64 x1.1), v4, v6]), Ow (Kd.int .i64) 3 v6 x3.1, Ow (Kd.int .i64) 3 v4 x2.1, pt g1 36 ([(.int .i64 0), (.slice none 0 0), (.slice none 0 0)])] := hS
  refine stp hF (p_not rfl) (by decide) (fun a hF => ?_)
  refine stp hF (p_move rfl) (by decide) (fun a hF => ?_)
  obtain ⟨x8, H, HK1⟩ := hb H
  refine cutj 4 (fun a w => ∃ (x4 : Bool) (s6 : HF) , St e s6 w [pt g2 99 ([v7, (.int .i64 x6.2.2.1), (.bool x6.2.2.2)]), pt g3 36 ([(.int .i64 x1.1), v4, v6]), Ow (Kd.int .i64) 3 v6 x3.1, Ow (Kd.int .i64) 3 v4 x2.1, pt g1 36 ([(.int .i64 0), (.slice none 0 0), (.slice none 0 0)])] ∧ Fr 28 a [(2, (.pointer (some ⟨g1, 0, none⟩))), (5, (.pointer (some ⟨g3, 0, none⟩))), (25, (.bool x4))] ∧ Sub s5 s6 ∧ impl_GetObj.c1 k x1 x2 x3 x4 = some r) rfl rfl ?_ ?_
  · rcases Bool.eq_false_or_eq_true ((!x6.1)) with hc1 | hc1
    · replace H := hbt hc1 H
      refine gofD (j := 3) hF rfl rfl (by rw [hc1]; decide) (by decide) (fun a hF => ?_)
      refine gofD (j := 3) hF rfl rfl (by rw [hc1]; decide) (by decide) (fun a hF => ?_)
      refine gofD (j := 3) hF rfl rfl (by rw [hc1]; decide) (by decide) (fun a hF => ?_)
      refine stp hF (p_pickT rfl hc1 rfl) (by decide) (fun a hF => ?_)
      refine nilN ?_
      refine xn ?_
      obtain rfl := hsm H
      exact ⟨true, s5, hS, hF.cut ⟨rfl, rfl, rfl, trivial⟩, (Sub.refl _), HK1⟩
    · replace H := hbf hc1 H
      refine gonE (j := 3) hF rfl rfl hc1 ?_
      refine stp hF (p_ldb_agg (i := 1) (l := []) (m := [(.int .i64 x1.1), v4, v6]) (r := []) hS rfl rfl ia_36 ti_36 rfl rfl rfl) (by decide) (fun a hF => ?_)
      replace hS := hS.sel (is := [3, 2, 0, 0, 0]) (A' := [Ow (Kd.int .i64) 3 v4 x2.1, Ow (Kd.int .i64) 3 v6 x3.1, pt g2 99 ([v7, (.int .i64 x6.2.2.1), (.bool x6.2.2.2)]), pt g3 36 ([(.int .i64 x1.1), v4, v6]), pt g1 36 ([(.int .i64 0), (.slice none 0 0), (.slice none 0 0)])]) rfl
      obtain ⟨s7, hg5, hl1, hcall1⟩ := St.lend (P := Try.prog) (Bs := [Ow (Kd.int .i64) 3 v4 x2.1, Ow (Kd.int .i64) 3 v6 x3.1]) (A := []) (B := [pt g2 99 ([v7, (.int .i64 x6.2.2.1), (.bool x6.2.2.2)]), pt g3 36 ([(.int .i64 x1.1), v4, v6]), pt g1 36 ([(.int .i64 0), (.slice none 0 0), (.slice none 0 0)])]) hS
      obtain ⟨h6, hl1⟩ := hl1.ow hg5
      obtain ⟨h7, hl1⟩ := hl1.ow hg5
      obtain ⟨x7, hx5, H⟩ := hb H
      refine gonE (j := 3) hF rfl rfl hc1 ?_
      refine ste hF (e_callA (fst := []) (vs := [(.agg #[(.int .i64 x1.1), v4, v6])]) (cap := []) rfl rfl go_141 (hcall1 (impl_ObjOk.spec k _ _ (⟨x1.1, x2.1, x3.1⟩ : TObj) v4 v6 h6 h7 _ hx5) (by rintro v s1 A1 ⟨rfl, rfl⟩; exact trivial)) rfl) (by decide) (fun v w a hR hF => ?_)
      obtain ⟨s8, s9, A6, hg6, hS, hR⟩ := hR
      obtain ⟨hv5, rfl⟩ := hR; obtain rfl := hv5.symm
      have hS : St e s8 w [Ow (Kd.int .i64) 3 v4 x2.1, Ow (Kd.int .i64) 3 v6 x3.1, pt g2 99 ([v7, (.int .i64 x6.2.2.1), (.bool x6.2.2.2)]), pt g3 36 ([(.int .i64 x1.1), v4, v6]), pt g1 36 ([(.int .i64 0), (.slice none 0 0), (.slice none 0 0)])] := hS
      refine gonE (j := 3) hF rfl rfl hc1 ?_
      refine stp hF (p_not rfl) (by decide) (fun a hF => ?_)
      refine stp hF (p_pickF rfl hc1 rfl) (by decide) (fun a hF => ?_)
      refine nilN ?_
      refine xn ?_
      obtain rfl := hsm H
      replace hS := hS.sel (is := [2, 2, 1, 0, 0]) (A' := [pt g2 99 ([v7, (.int .i64 x6.2.2.1), (.bool x6.2.2.2)]), pt g3 36 ([(.int .i64 x1.1), v4, v6]), Ow (Kd.int .i64) 3 v6 x3.1, Ow (Kd.int .i64) 3 v4 x2.1, pt g1 36 ([(.int .i64 0), (.slice none 0 0), (.slice none 0 0)])]) rfl
      exact ⟨(!x7), s8, hS, hF.cut ⟨rfl, rfl, rfl, trivial⟩, hg6, HK1⟩
  · clear H HK1 hS hF
    rintro a w ⟨x4, s6, hS, hF, hg7, H⟩
    unfold impl_GetObj.c1 at H
    refine nilN ?_
    refine xn ?_
    refine cnd hF rfl (fun hc2 => ?_) (fun hc2 => ?_)
    · replace H := hbt hc2 H
      refine sq ?_
      refine rg ?_
      refine stp hF (p_build (ps := []) (vs := []) (v := (.agg #[(.int .i64 0), (.slice none 0 0), (.slice none 0 0)])) rfl (by intro w; kernel_rfl)) (by decide) (fun a hF => ?_)
      refine ste0 hF (e_stb (i := 4) (l := []) (m := [(.int .i64 0), (.slice none 0 0), (.slice none 0 0)]) (r := []) (m' := [(.int .i64 0), (.slice none 0 0), (.slice none 0 0)]) (cs' := [(.int .i64 0), (.slice none 0 0), (.slice none 0 0)]) hS rfl rfl rfl ti_36 rfl rfl rfl rfl rfl (one_cons rfl (one_cons rfl (one_cons rfl one_nil))) rfl) (fun v w a hR hF => ?_)
      have hS : St e s6 w [pt g1 36 ([(.int .i64 0), (.slice none 0 0), (.slice none 0 0)]), pt g2 99 ([v7, (.int .i64 x6.2.2.1), (.bool x6.2.2.2)]), pt g3 36 ([(.int .i64 x1.1), v4, v6]), Ow (Kd.int .i64) 3 v6 x3.1, Ow (Kd.int .i64) 3 v4 x2.1] := hR
      refine stp hF (p_assign rfl) (by decide) (fun a hF => ?_)
      refine nilN ?_
      refine xn ?_
      refine rt ?_
      refine xr ?_
      obtain rfl := hsm H
      have h8 : RvOk Try.prog _ w (.cell 2 36) _ := rvC (i := 0) hS rfl (show lk [(2, (.pointer (some ⟨g1, 0, none⟩))), (3, (.bool false))] 2 = _ from rfl) ia_36 ti_36 rfl
      replace hS := hS.ownNil (Kd.int .i64) 3 none
      replace hS := hS.ownNil (Kd.int .i64) 3 none
      replace hS := hS.sel (is := [1, 0]) (A' := [Ow (Kd.int .i64) 3 (.slice none 0 0) ([] : List Int), Ow (Kd.int .i64) 3 (.slice none 0 0) ([] : List Int)]) rfl
      exact retc2 hF rfl h8 (rvT rfl) hS ⟨(.slice none 0 0), (.slice none 0 0), rfl, rfl⟩
    · replace H := hbf hc2 H
      refine skN ?_
      refine xn ?_
      refine sq ?_
      refine rg ?_
      refine stp hF (p_ldb_agg (i := 1) (l := []) (m := [(.int .i64 x1.1), v4, v6]) (r := []) hS rfl rfl ia_36 ti_36 rfl rfl rfl) (by decide) (fun a hF => ?_)
      refine ste0 hF (e_stb (i := 4) (l := []) (m := [(.int .i64 0), (.slice none 0 0), (.slice none 0 0)]) (r := []) (m' := [(.int .i64 x1.1), v4, v6]) (cs' := [(.int .i64 x1.1), v4, v6]) hS rfl rfl rfl ti_36 rfl rfl rfl rfl rfl (one_cons rfl (one_cons (hS.one_ow (i := 3) rfl) (one_cons (hS.one_ow (i := 2) rfl) one_nil))) rfl) (fun v w a hR hF => ?_)
      have hS : St e s6 w [pt g1 36 ([(.int .i64 x1.1), v4, v6]), pt g2 99 ([v7, (.int .i64 x6.2.2.1), (.bool x6.2.2.2)]), pt g3 36 ([(.int .i64 x1.1), v4, v6]), Ow (Kd.int .i64) 3 v6 x3.1, Ow (Kd.int .i64) 3 v4 x2.1] := hR
      refine stp hF (p_assign rfl) (by decide) (fun a hF => ?_)
      refine nilN ?_
      refine xn ?_
      refine rt ?_
      obtain rfl := hsm H
      have h9 : RvOk Try.prog _ w (.cell 2 36) _ := rvC (i := 0) hS rfl (show lk [(2, (.pointer (some ⟨g1, 0, none⟩))), (3, (.bool true))] 2 = _ from rfl) ia_36 ti_36 rfl
      replace hS := hS.sel (is := [4, 3]) (A' := [Ow (Kd.int .i64) 3 v4 x2.1, Ow (Kd.int .i64) 3 v6 x3.1]) rfl
      exact retc2 hF rfl h9 (rvT rfl) hS ⟨v4, v6, rfl, rfl⟩
end Go.Proofs.Ytocknibhajihmaa
