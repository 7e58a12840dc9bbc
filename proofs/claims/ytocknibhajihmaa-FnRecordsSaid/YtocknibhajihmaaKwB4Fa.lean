/- Functions of this place as plain functions, and that the machine comes to what they say. Conditions: none. -/
import Derived.Test.YtocknibhajihmaaKwB4T
set_option linter.unusedVariables false
set_option linter.unusedSimpArgs false
namespace Go.Proofs.Ytocknibhajihmaa
open Go.Kw

def laws_big.f (k : Nat) (x1 : (List Int)) : Option Bool :=
  (some (decide (1048576 < (x1.length : Int))))
set_option maxRecDepth 100000 in
set_option maxHeartbeats 4000000 in
theorem laws_big.spec (k : Nat) (s0 : HF) (w : World) (x1 : (List Int)) (v1 : Value) (h1 : Sl (Kd.int .u8) s0 v1 x1) (r : Bool) (H : laws_big.f k x1 = some r) :
    Law Try.prog 20 #[v1] s0 w [] (fun v s1 A1 => v = (.bool r) ∧ A1 = []) := by
  unfold laws_big.f at H
  refine Law.intro Try.func20 rfl [(0, v1)] (Nat.le_of_ble_eq_true rfl) (enter_lk ⟨rfl, trivial⟩) (fun e a hS hF => ?_)
  have hF : Fr 6 a [(0, v1)] := hF
  refine sq ?_
  refine rg ?_
  refine stp hF (p_assign rfl) (by decide) (fun a hF => ?_)
  refine nilN ?_
  refine xn ?_
  refine sq ?_
  refine rg ?_
  refine stp hF (p_move rfl) (by decide) (fun a hF => ?_)
  refine stp hF (p_lenr un_24 rfl h1) (by decide) (fun a hF => ?_)
  refine stp hF (p_gtr rfl rfl) (by decide) (fun a hF => ?_)
  refine stp hF (p_assign rfl) (by decide) (fun a hF => ?_)
  refine nilN ?_
  refine xn ?_
  refine rt ?_
  obtain rfl := hsm H
  exact ret1 hF rfl rfl hS ⟨rfl, rfl⟩

def spec_l1New.c1 (k : Nat) (x1 : (List Int)) (x2 : Int) : Option Tl1Cur :=
  (some (⟨x1, 0, x2⟩ : Tl1Cur))
def spec_l1New.l1 (x1 : (List Int)) : Nat → Int → Int → Option Int
  | 0, _, _ => none
  | k + 1, x3, x4 => (if ((decide (x4 < (x1.length : Int))) && (decide (x4 < 4000))) = true then (if 0 ≤ x4 ∧ x4 < (x1.length : Int) then ((spec_l1New.l1 x1 k) (band .i64 (w64 ((w64 ((w64 (x3 * 137)) + (w64 (rd x1 x4)))) + 11)) 1073741823) (w64 (x4 + 1))) else none) else (some x3))
def spec_l1New.f (k : Nat) (x1 : (List Int)) : Option Tl1Cur :=
  (((spec_l1New.l1 x1 k (w64 (278278 + (x1.length : Int))) 0) : Option Int).bind fun x5 => spec_l1New.c1 k x1 x5)
set_option maxRecDepth 100000 in
set_option maxHeartbeats 4000000 in
theorem spec_l1New.spec (k : Nat) (s0 : HF) (w : World) (x1 : (List Int)) (v1 : Value) (h1 : Sl (Kd.int .u8) s0 v1 x1) (r : Tl1Cur) (H : spec_l1New.f k x1 = some r) :
    Law Try.prog 73 #[v1] s0 w [] (fun v s1 A1 => ∃ (u0 : Nat) (u1 : Value), v = (.pointer (some ⟨u0, 0, none⟩)) ∧ A1 = [pt u0 139 ([u1, (.int .i64 r.i), (.int .i64 r.h_)])] ∧ Sl (Kd.int .u8) s1 u1 r.b) := by
  unfold spec_l1New.f at H
  refine Law.intro Try.func73 rfl [(0, v1)] (Nat.le_of_ble_eq_true rfl) (enter_lk ⟨rfl, trivial⟩) (fun e a hS hF => ?_)
  have hF : Fr 32 a [(0, v1)] := hF
  refine sq ?_
  refine rg ?_
  refine stp hF (p_assign rfl) (by decide) (fun a hF => ?_)
  refine nilN ?_
  refine xn ?_
  refine sq ?_
  refine rg ?_
  refine stp hF (p_move rfl) (by decide) (fun a hF => ?_)
  refine stp hF (p_lenr un_24 rfl h1) (by decide) (fun a hF => ?_)
  refine stp hF (p_add (c := w64 (278278 + (x1.length : Int))) rfl rfl rfl) (by decide) (fun a hF => ?_)
  refine stp hF (p_assign rfl) (by decide) (fun a hF => ?_)
  refine nilN ?_
  refine xn ?_
  obtain ⟨x5, H, HK1⟩ := hb H
  refine sqj (fun a w => ∃ (x2 : Int) , St e s0 w [] ∧ Fr 32 a [(0, v1), (3, (.int .i64 x2))] ∧ spec_l1New.c1 k x1 x2 = some r) ?_ ?_
  · skip
    refine sq ?_
    refine rg ?_
    refine stp hF (p_assign rfl) (by decide) (fun a hF => ?_)
    refine nilN ?_
    refine xn ?_
    refine blk ?_
    refine loop_ind (fun k1 a w => ∃ (x3 : Int) (x4 : Int) , St e s0 w [] ∧ Fr 32 a [(0, v1), (3, (.int .i64 x3)), (4, (.int .i64 x4))] ∧ spec_l1New.l1 x1 k1 x3 x4 = some x5) k ?_ ?_ ?_
    · skip
      exact ⟨(w64 (278278 + (x1.length : Int))), 0, hS, hF.cut ⟨rfl, rfl, rfl, trivial⟩, H⟩
    · clear H hS hF
      rintro a w ⟨x3, x4, hS, hF, H⟩
      exact absurd (show none = some _ from H) (by simp)
    · clear H hS hF
      rintro k1 a w ⟨x3, x4, hS, hF, H⟩
      rw [spec_l1New.l1.eq_2] at H
      refine sq ?_
      refine sq ?_
      refine rg ?_
      refine stp hF (p_move rfl) (by decide) (fun a hF => ?_)
      refine stp hF (p_move rfl) (by decide) (fun a hF => ?_)
      refine stp hF (p_lenr un_24 rfl h1) (by decide) (fun a hF => ?_)
      refine stp hF (p_lss rfl rfl) (by decide) (fun a hF => ?_)
      refine stp hF (p_move rfl) (by decide) (fun a hF => ?_)
      refine cutj 3 (fun a w => St e s0 w [] ∧ Fr 32 a [(0, v1), (3, (.int .i64 x3)), (4, (.int .i64 x4)), (15, (.bool ((decide (x4 < (x1.length : Int))) && (decide (x4 < 4000)))))]) rfl rfl ?_ ?_
      · rcases Bool.eq_false_or_eq_true (decide (x4 < (x1.length : Int))) with hc1 | hc1
        · skip
          refine gonE (j := 4) hF rfl rfl hc1 ?_
          refine stp hF (p_move rfl) (by decide) (fun a hF => ?_)
          refine gonE (j := 4) hF rfl rfl hc1 ?_
          refine stp hF (p_lss rfl rfl) (by decide) (fun a hF => ?_)
          refine stp hF (p_andT rfl hc1 rfl) (by decide) (fun a hF => ?_)
          refine nilN ?_
          refine xn ?_
          exact ⟨hS, hF.cut ⟨rfl, rfl, rfl, rfl, trivial⟩⟩
        · skip
          refine gofD (j := 4) hF rfl rfl (by rw [hc1]; decide) (by decide) (fun a hF => ?_)
          refine gofD (j := 4) hF rfl rfl (by rw [hc1]; decide) (by decide) (fun a hF => ?_)
          refine stp hF (p_andF (decide (x4 < 4000)) rfl hc1 rfl) (by decide) (fun a hF => ?_)
          refine nilN ?_
          refine xn ?_
          exact ⟨hS, hF.cut ⟨rfl, rfl, rfl, rfl, trivial⟩⟩
      clear hS hF
      rintro a w ⟨hS, hF⟩
      refine nilN ?_
      refine xn ?_
      refine cnd hF rfl (fun hc2 => ?_) (fun hc2 => ?_)
      · replace H := hbt hc2 H
        refine skN ?_
        refine xn ?_
        refine sq ?_
        refine blk ?_
        refine rg ?_
        refine stp hF (p_move rfl) (by decide) (fun a hF => ?_)
        refine stp hF (p_mul (c := w64 (x3 * 137)) rfl rfl rfl) (by decide) (fun a hF => ?_)
        refine stp hF (p_move rfl) (by decide) (fun a hF => ?_)
        refine stp hF (p_move rfl) (by decide) (fun a hF => ?_)
        obtain ⟨hq1, H⟩ := hck H
        obtain ⟨ad1, h2, p1⟩ := p_idxr (P := Try.prog) (i := x4) h1 un_24 ti_5 hq1.1 hq1.2
        refine stp hF (p1 rfl rfl) (by decide) (fun a hF => ?_)
        refine stp hF (p_ldr_int rfl hS h2 ia_5) (by decide) (fun a hF => ?_)
        refine stp hF (p_cvint (c := w64 (rd x1 x4)) un_5 un_3 rfl rfl) (by decide) (fun a hF => ?_)
        refine stp hF (p_add (c := w64 ((w64 (x3 * 137)) + (w64 (rd x1 x4)))) rfl rfl rfl) (by decide) (fun a hF => ?_)
        refine stp hF (p_add (c := w64 ((w64 ((w64 (x3 * 137)) + (w64 (rd x1 x4)))) + 11)) rfl rfl rfl) (by decide) (fun a hF => ?_)
        refine stp hF (p_and (c := band .i64 (w64 ((w64 ((w64 (x3 * 137)) + (w64 (rd x1 x4)))) + 11)) 1073741823) rfl rfl rfl) (by decide) (fun a hF => ?_)
        refine stp hF (p_assign rfl) (by decide) (fun a hF => ?_)
        refine nilN ?_
        refine bn (xn ?_)
        refine rg ?_
        refine stp hF (p_move rfl) (by decide) (fun a hF => ?_)
        refine stp hF (p_add (c := w64 (x4 + 1)) rfl rfl rfl) (by decide) (fun a hF => ?_)
        refine stp hF (p_assign rfl) (by decide) (fun a hF => ?_)
        refine nilN ?_
        refine xn ?_
        exact ⟨(band .i64 (w64 ((w64 ((w64 (x3 * 137)) + (w64 (rd x1 x4)))) + 11)) 1073741823), (w64 (x4 + 1)), hS, hF.cut ⟨rfl, rfl, rfl, trivial⟩, H⟩
      · replace H := hbf hc2 H
        refine exi ?_
        refine xe (xe (hit (xn ?_)))
        obtain rfl := hsm H
        exact ⟨x3, hS, hF.cut ⟨rfl, rfl, trivial⟩, HK1⟩
  · clear H HK1 hS hF
    rintro a w ⟨x2, hS, hF, H⟩
    unfold spec_l1New.c1 at H
    refine sq ?_
    refine rg ?_
    refine stp hF (p_move rfl) (by decide) (fun a hF => ?_)
    refine stp hF (p_move rfl) (by decide) (fun a hF => ?_)
    refine stp hF (p_build (ps := [(0, (.tmp 28)), (2, (.tmp 29))]) (vs := [(0, v1), (2, (.int .i64 x2))]) (v := (.agg #[v1, (.int .i64 0), (.int .i64 x2)])) rfl (by intro w; obtain ⟨_, _, _, e1⟩ := Sl.el h1; rw [e1]; kernel_rfl)) (by decide) (fun a hF => ?_)
    refine ste hF (e_box (cs := [v1, (.int .i64 0), (.int .i64 x2)]) hS rfl rfl) (by decide) (fun v w a hR hF => ?_)
    obtain ⟨g1, rfl, hS⟩ := hR
    refine stp hF (p_assign rfl) (by decide) (fun a hF => ?_)
    refine nilN ?_
    refine xn ?_
    refine rt ?_
    obtain rfl := hsm H
    exact ret1 hF rfl rfl hS ⟨g1, v1, rfl, rfl, h1⟩

def spec_l1Byte.c1 (k : Nat) (x1 : (List Int)) (x2 : Int) (x3 : Int) (x4 : Int) : Option (Int × (List Int) × Int × Int) :=
  (some (x4, x1, x3, w64 ((w64 (x2 * 6364136223846793005)) + 1442695040888963407)))
def spec_l1Byte.f (k : Nat) (x1 : (List Int)) (x5 : Int) (x2 : Int) : Option (Int × (List Int) × Int × Int) :=
  (((if (decide (x5 < (x1.length : Int))) = true then (if 0 ≤ x5 ∧ x5 < (x1.length : Int) then (some (w64 (x5 + 1), band .i64 (w64 ((band .i64 (bxor .i64 (bshr .i64 (w64 ((w64 (x2 * 6364136223846793005)) + 1442695040888963407)) 33) (bshr .i64 (w64 ((w64 (x2 * 6364136223846793005)) + 1442695040888963407)) 47)) 255) + (w64 (rd x1 x5)))) 255)) else none) else (some (x5, band .i64 (bxor .i64 (bshr .i64 (w64 ((w64 (x2 * 6364136223846793005)) + 1442695040888963407)) 33) (bshr .i64 (w64 ((w64 (x2 * 6364136223846793005)) + 1442695040888963407)) 47)) 255))) : Option (Int × Int)).bind fun x6 => spec_l1Byte.c1 k x1 x2 x6.1 x6.2)
set_option maxRecDepth 100000 in
set_option maxHeartbeats 4000000 in
theorem spec_l1Byte.spec (k : Nat) (s0 : HF) (w : World) (x1 : (List Int)) (x5 : Int) (x2 : Int) (v1 : Value) (g1 : Nat) (h1 : Sl (Kd.int .u8) s0 v1 x1) (r : Int × (List Int) × Int × Int) (H : spec_l1Byte.f k x1 x5 x2 = some r) :
    Law Try.prog 172 #[(.pointer (some ⟨g1, 0, none⟩))] s0 w [pt g1 139 ([v1, (.int .i64 x5), (.int .i64 x2)])] (fun v s1 A1 => ∃ (u0 : Value), v = (.int .i64 r.1) ∧ A1 = [pt g1 139 ([u0, (.int .i64 r.2.2.1), (.int .i64 r.2.2.2)])] ∧ Sl (Kd.int .u8) s1 u0 r.2.1) := by
  unfold spec_l1Byte.f at H
  refine Law.intro Try.func172 rfl [(0, (.pointer (some ⟨g1, 0, none⟩)))] (Nat.le_of_ble_eq_true rfl) (enter_lk ⟨rfl, trivial⟩) (fun e a hS hF => ?_)
  have hF : Fr 58 a [(0, (.pointer (some ⟨g1, 0, none⟩)))] := hF
  refine sq ?_
  refine rg ?_
  refine stp hF (p_assign rfl) (by decide) (fun a hF => ?_)
  refine nilN ?_
  refine xn ?_
  refine sq ?_
  refine rg ?_
  refine stp hF (p_move rfl) (by decide) (fun a hF => ?_)
  refine stp hF (p_move rfl) (by decide) (fun a hF => ?_)
  refine stp hF (p_nilck rfl) (by decide) (fun a hF => ?_)
  refine stp hF (p_fldb (o' := 2) rfl fi_139_2 rfl) (by decide) (fun a hF => ?_)
  refine stp hF (p_ldb_one (i := 0) hS rfl rfl ia_3 rfl) (by decide) (fun a hF => ?_)
  refine stp hF (p_mul (c := w64 (x2 * 6364136223846793005)) rfl rfl rfl) (by decide) (fun a hF => ?_)
  refine stp hF (p_add (c := w64 ((w64 (x2 * 6364136223846793005)) + 1442695040888963407)) rfl rfl rfl) (by decide) (fun a hF => ?_)
  refine stp hF (p_nilck rfl) (by decide) (fun a hF => ?_)
  refine stp hF (p_fldb (o' := 2) rfl fi_139_2 rfl) (by decide) (fun a hF => ?_)
  refine ste0 hF (e_stb (i := 0) (l := [v1, (.int .i64 x5)]) (m := [(.int .i64 x2)]) (r := []) (m' := [(.int .i64 (w64 ((w64 (x2 * 6364136223846793005)) + 1442695040888963407)))]) (cs' := [v1, (.int .i64 x5), (.int .i64 (w64 ((w64 (x2 * 6364136223846793005)) + 1442695040888963407)))]) hS rfl rfl rfl ti_3 rfl rfl rfl rfl rfl (one_cons rfl one_nil) rfl) (fun v w a hR hF => ?_)
  have hS : St e s0 w [pt g1 139 ([v1, (.int .i64 x5), (.int .i64 (w64 ((w64 (x2 * 6364136223846793005)) + 1442695040888963407)))])] := hR
  refine nilN ?_
  refine xn ?_
  refine sq ?_
  replace hS : St e s0 w.drew [pt g1 139 ([v1, (.int .i64 x5), (.int .i64 (w64 ((w64 (x2 * 6364136223846793005)) + 1442695040888963407)))])] := hS.drewN 1
  refine drw [0, 1, 2, 3, 4, 5, 6, 7, 8, 9, 10, 11, 12] mixed (by kernel_rfl) (by decide) (hF.cut (L' := [(0, (.pointer (some ⟨g1, 0, none⟩))), (2, (.int .i64 0)), (4, (.pointer (some ⟨g1, 0, none⟩))), (5, (.pointer (some ⟨g1, 0, none⟩))), (6, (.pointer (some ⟨g1, 0, none⟩))), (7, (.pointer (some ⟨g1, 2, none⟩))), (8, (.int .i64 x2)), (9, (.int .i64 (w64 (x2 * 6364136223846793005)))), (10, (.int .i64 (w64 ((w64 (x2 * 6364136223846793005)) + 1442695040888963407)))), (11, (.pointer (some ⟨g1, 0, none⟩))), (12, (.pointer (some ⟨g1, 2, none⟩)))]) ⟨rfl, rfl, rfl, rfl, rfl, rfl, rfl, rfl, rfl, rfl, rfl, trivial⟩) ?_
  clear hF
  generalize w.drew = w at hS ⊢
  refine pk1 rfl (by decide) rfl (by kernel_rfl) rfl (p_move rfl) ?_
  refine pk1 rfl (by decide) rfl (by kernel_rfl) rfl (p_nilck rfl) ?_
  refine pk1 rfl (by decide) rfl (by kernel_rfl) rfl (p_fldb (o' := 2) rfl fi_139_2 rfl) ?_
  refine pk1 rfl (by decide) rfl (by kernel_rfl) rfl (p_ldb_one (i := 0) hS rfl rfl ia_3 rfl) ?_
  refine pk1 rfl (by decide) rfl (by kernel_rfl) rfl (p_shr (c := bshr .i64 (w64 ((w64 (x2 * 6364136223846793005)) + 1442695040888963407)) 33) rfl rfl (by decide) rfl) ?_
  refine pk1 rfl (by decide) rfl (by kernel_rfl) rfl (p_move rfl) ?_
  refine pk1 rfl (by decide) rfl (by kernel_rfl) rfl (p_nilck rfl) ?_
  refine pk1 rfl (by decide) rfl (by kernel_rfl) rfl (p_fldb (o' := 2) rfl fi_139_2 rfl) ?_
  refine pk1 rfl (by decide) rfl (by kernel_rfl) rfl (p_ldb_one (i := 0) hS rfl rfl ia_3 rfl) ?_
  refine pk1 rfl (by decide) rfl (by kernel_rfl) rfl (p_shr (c := bshr .i64 (w64 ((w64 (x2 * 6364136223846793005)) + 1442695040888963407)) 47) rfl rfl (by decide) rfl) ?_
  refine pk1 rfl (by decide) rfl (by kernel_rfl) rfl (p_xor (c := bxor .i64 (bshr .i64 (w64 ((w64 (x2 * 6364136223846793005)) + 1442695040888963407)) 33) (bshr .i64 (w64 ((w64 (x2 * 6364136223846793005)) + 1442695040888963407)) 47)) rfl rfl rfl) ?_
  refine pk1 rfl (by decide) rfl (by kernel_rfl) rfl (p_and (c := band .i64 (bxor .i64 (bshr .i64 (w64 ((w64 (x2 * 6364136223846793005)) + 1442695040888963407)) 33) (bshr .i64 (w64 ((w64 (x2 * 6364136223846793005)) + 1442695040888963407)) 47)) 255) rfl rfl rfl) ?_
  refine pkE [] rfl (by decide) (by kernel_rfl) (by kernel_rfl) (puEf (p_assign rfl)) ?_
  rintro v w' ⟨hv, rfl⟩
  obtain rfl := hv.symm
  refine ⟨trivial, ?_⟩
  refine pkF (fun a hF => ?_)
  refine xn ?_
  obtain ⟨x6, H, HK1⟩ := hb H
  refine sqj (fun a w => ∃ (x3 : Int) (x4 : Int) , St e s0 w [pt g1 139 ([v1, (.int .i64 x3), (.int .i64 (w64 ((w64 (x2 * 6364136223846793005)) + 1442695040888963407)))])] ∧ Fr 58 a [(3, (.int .i64 x4))] ∧ spec_l1Byte.c1 k x1 x2 x3 x4 = some r) ?_ ?_
  · skip
    refine sq ?_
    replace hS : St e s0 w.drew [pt g1 139 ([v1, (.int .i64 x5), (.int .i64 (w64 ((w64 (x2 * 6364136223846793005)) + 1442695040888963407)))])] := hS.drewN 1
    refine drw [0, 1, 2, 3, 4, 5, 6, 7, 8, 9] mixed (by kernel_rfl) (by decide) (hF.cut (L' := [(0, (.pointer (some ⟨g1, 0, none⟩))), (2, (.int .i64 0)), (3, (.int .i64 (band .i64 (bxor .i64 (bshr .i64 (w64 ((w64 (x2 * 6364136223846793005)) + 1442695040888963407)) 33) (bshr .i64 (w64 ((w64 (x2 * 6364136223846793005)) + 1442695040888963407)) 47)) 255))), (4, (.pointer (some ⟨g1, 0, none⟩))), (5, (.pointer (some ⟨g1, 0, none⟩))), (6, (.pointer (some ⟨g1, 0, none⟩))), (7, (.pointer (some ⟨g1, 2, none⟩))), (8, (.int .i64 x2)), (9, (.int .i64 (w64 (x2 * 6364136223846793005)))), (10, (.int .i64 (w64 ((w64 (x2 * 6364136223846793005)) + 1442695040888963407)))), (11, (.pointer (some ⟨g1, 0, none⟩))), (12, (.pointer (some ⟨g1, 2, none⟩))), (13, (.pointer (some ⟨g1, 0, none⟩))), (14, (.pointer (some ⟨g1, 0, none⟩))), (15, (.pointer (some ⟨g1, 2, none⟩))), (16, (.int .i64 (w64 ((w64 (x2 * 6364136223846793005)) + 1442695040888963407)))), (17, (.int .i64 (bshr .i64 (w64 ((w64 (x2 * 6364136223846793005)) + 1442695040888963407)) 33))), (18, (.pointer (some ⟨g1, 0, none⟩))), (19, (.pointer (some ⟨g1, 0, none⟩))), (20, (.pointer (some ⟨g1, 2, none⟩))), (21, (.int .i64 (w64 ((w64 (x2 * 6364136223846793005)) + 1442695040888963407)))), (22, (.int .i64 (bshr .i64 (w64 ((w64 (x2 * 6364136223846793005)) + 1442695040888963407)) 47))), (23, (.int .i64 (bxor .i64 (bshr .i64 (w64 ((w64 (x2 * 6364136223846793005)) + 1442695040888963407)) 33) (bshr .i64 (w64 ((w64 (x2 * 6364136223846793005)) + 1442695040888963407)) 47)))), (24, (.int .i64 (band .i64 (bxor .i64 (bshr .i64 (w64 ((w64 (x2 * 6364136223846793005)) + 1442695040888963407)) 33) (bshr .i64 (w64 ((w64 (x2 * 6364136223846793005)) + 1442695040888963407)) 47)) 255)))]) ⟨rfl, rfl, rfl, rfl, rfl, rfl, rfl, rfl, rfl, rfl, rfl, rfl, rfl, rfl, rfl, rfl, rfl, rfl, rfl, rfl, rfl, rfl, rfl, rfl, trivial⟩) ?_
    clear hF
    generalize w.drew = w at hS ⊢
    refine pk1 rfl (by decide) rfl (by kernel_rfl) rfl (p_move rfl) ?_
    refine pk1 rfl (by decide) rfl (by kernel_rfl) rfl (p_nilck rfl) ?_
    refine pk1 rfl (by decide) rfl (by kernel_rfl) rfl (p_fldb (o' := 1) rfl fi_139_1 rfl) ?_
    refine pk1 rfl (by decide) rfl (by kernel_rfl) rfl (p_ldb_one (i := 0) hS rfl rfl ia_3 rfl) ?_
    refine pk1 rfl (by decide) rfl (by kernel_rfl) rfl (p_move rfl) ?_
    refine pk1 rfl (by decide) rfl (by kernel_rfl) rfl (p_nilck rfl) ?_
    refine pk1 rfl (by decide) rfl (by kernel_rfl) rfl (p_fldb (o' := 0) rfl fi_139_0 rfl) ?_
    refine pk1 rfl (by decide) rfl (by kernel_rfl) rfl (p_ldb_one (i := 0) hS rfl rfl ia_24 rfl) ?_
    refine pk1 rfl (by decide) rfl (by kernel_rfl) rfl (p_lenr un_24 rfl h1) ?_
    refine pk1 rfl (by decide) rfl (by kernel_rfl) rfl (p_lss rfl rfl) ?_
    refine pkF (fun a hF => ?_)
    refine xn ?_
    refine cnd hF rfl (fun hc1 => ?_) (fun hc1 => ?_)
    · replace H := hbt hc1 H
      refine sq ?_
      replace hS : St e s0 w.drew [pt g1 139 ([v1, (.int .i64 x5), (.int .i64 (w64 ((w64 (x2 * 6364136223846793005)) + 1442695040888963407)))])] := hS.drewN 1
      refine drw [0, 1, 2, 3, 4, 5, 6, 7, 8, 9, 10, 11, 12, 13, 14] mixed (by kernel_rfl) (by decide) (hF.cut (L' := [(0, (.pointer (some ⟨g1, 0, none⟩))), (2, (.int .i64 0)), (3, (.int .i64 (band .i64 (bxor .i64 (bshr .i64 (w64 ((w64 (x2 * 6364136223846793005)) + 1442695040888963407)) 33) (bshr .i64 (w64 ((w64 (x2 * 6364136223846793005)) + 1442695040888963407)) 47)) 255))), (4, (.pointer (some ⟨g1, 0, none⟩))), (5, (.pointer (some ⟨g1, 0, none⟩))), (6, (.pointer (some ⟨g1, 0, none⟩))), (7, (.pointer (some ⟨g1, 2, none⟩))), (8, (.int .i64 x2)), (9, (.int .i64 (w64 (x2 * 6364136223846793005)))), (10, (.int .i64 (w64 ((w64 (x2 * 6364136223846793005)) + 1442695040888963407)))), (11, (.pointer (some ⟨g1, 0, none⟩))), (12, (.pointer (some ⟨g1, 2, none⟩))), (13, (.pointer (some ⟨g1, 0, none⟩))), (14, (.pointer (some ⟨g1, 0, none⟩))), (15, (.pointer (some ⟨g1, 2, none⟩))), (16, (.int .i64 (w64 ((w64 (x2 * 6364136223846793005)) + 1442695040888963407)))), (17, (.int .i64 (bshr .i64 (w64 ((w64 (x2 * 6364136223846793005)) + 1442695040888963407)) 33))), (18, (.pointer (some ⟨g1, 0, none⟩))), (19, (.pointer (some ⟨g1, 0, none⟩))), (20, (.pointer (some ⟨g1, 2, none⟩))), (21, (.int .i64 (w64 ((w64 (x2 * 6364136223846793005)) + 1442695040888963407)))), (22, (.int .i64 (bshr .i64 (w64 ((w64 (x2 * 6364136223846793005)) + 1442695040888963407)) 47))), (23, (.int .i64 (bxor .i64 (bshr .i64 (w64 ((w64 (x2 * 6364136223846793005)) + 1442695040888963407)) 33) (bshr .i64 (w64 ((w64 (x2 * 6364136223846793005)) + 1442695040888963407)) 47)))), (24, (.int .i64 (band .i64 (bxor .i64 (bshr .i64 (w64 ((w64 (x2 * 6364136223846793005)) + 1442695040888963407)) 33) (bshr .i64 (w64 ((w64 (x2 * 6364136223846793005)) + 1442695040888963407)) 47)) 255))), (25, (.pointer (some ⟨g1, 0, none⟩))), (26, (.pointer (some ⟨g1, 0, none⟩))), (27, (.pointer (some ⟨g1, 1, none⟩))), (28, (.int .i64 x5)), (29, (.pointer (some ⟨g1, 0, none⟩))), (30, (.pointer (some ⟨g1, 0, none⟩))), (31, (.pointer (some ⟨g1, 0, none⟩))), (32, v1), (33, (.int .i64 (x1.length : Int))), (34, (.bool (decide (x5 < (x1.length : Int)))))]) ⟨rfl, rfl, rfl, rfl, rfl, rfl, rfl, rfl, rfl, rfl, rfl, rfl, rfl, rfl, rfl, rfl, rfl, rfl, rfl, rfl, rfl, rfl, rfl, rfl, rfl, rfl, rfl, rfl, rfl, rfl, rfl, rfl, rfl, rfl, trivial⟩) ?_
      clear hF
      generalize w.drew = w at hS ⊢
      refine pk1 rfl (by decide) rfl (by kernel_rfl) rfl (p_move rfl) ?_
      refine pk1 rfl (by decide) rfl (by kernel_rfl) rfl (p_move rfl) ?_
      refine pk1 rfl (by decide) rfl (by kernel_rfl) rfl (p_nilck rfl) ?_
      refine pk1 rfl (by decide) rfl (by kernel_rfl) rfl (p_fldb (o' := 0) rfl fi_139_0 rfl) ?_
      refine pk1 rfl (by decide) rfl (by kernel_rfl) rfl (p_ldb_one (i := 0) hS rfl rfl ia_24 rfl) ?_
      refine pk1 rfl (by decide) rfl (by kernel_rfl) rfl (p_move rfl) ?_
      refine pk1 rfl (by decide) rfl (by kernel_rfl) rfl (p_nilck rfl) ?_
      refine pk1 rfl (by decide) rfl (by kernel_rfl) rfl (p_fldb (o' := 1) rfl fi_139_1 rfl) ?_
      refine pk1 rfl (by decide) rfl (by kernel_rfl) rfl (p_ldb_one (i := 0) hS rfl rfl ia_3 rfl) ?_
      obtain ⟨hq1, H⟩ := hck H
      obtain ⟨ad1, h2, p1⟩ := p_idxr (P := Try.prog) (i := x5) h1 un_24 ti_5 hq1.1 hq1.2
      refine pk1 rfl (by decide) rfl (by kernel_rfl) rfl (p1 rfl rfl) ?_
      refine pk1 rfl (by decide) rfl (by kernel_rfl) rfl (p_ldr_int rfl hS h2 ia_5) ?_
      refine pk1 rfl (by decide) rfl (by kernel_rfl) rfl (p_cvint (c := w64 (rd x1 x5)) un_5 un_3 rfl rfl) ?_
      refine pk1 rfl (by decide) rfl (by kernel_rfl) rfl (p_add (c := w64 ((band .i64 (bxor .i64 (bshr .i64 (w64 ((w64 (x2 * 6364136223846793005)) + 1442695040888963407)) 33) (bshr .i64 (w64 ((w64 (x2 * 6364136223846793005)) + 1442695040888963407)) 47)) 255) + (w64 (rd x1 x5)))) rfl rfl rfl) ?_
      refine pk1 rfl (by decide) rfl (by kernel_rfl) rfl (p_and (c := band .i64 (w64 ((band .i64 (bxor .i64 (bshr .i64 (w64 ((w64 (x2 * 6364136223846793005)) + 1442695040888963407)) 33) (bshr .i64 (w64 ((w64 (x2 * 6364136223846793005)) + 1442695040888963407)) 47)) 255) + (w64 (rd x1 x5)))) 255) rfl rfl rfl) ?_
      refine pkE [] rfl (by decide) (by kernel_rfl) (by kernel_rfl) (puEf (p_assign rfl)) ?_
      rintro v w' ⟨hv, rfl⟩
      obtain rfl := hv.symm
      refine ⟨trivial, ?_⟩
      refine pkF (fun a hF => ?_)
      refine xn ?_
      refine rg ?_
      refine stp hF (p_move rfl) (by decide) (fun a hF => ?_)
      refine stp hF (p_move rfl) (by decide) (fun a hF => ?_)
      refine stp hF (p_nilck rfl) (by decide) (fun a hF => ?_)
      refine stp hF (p_fldb (o' := 1) rfl fi_139_1 rfl) (by decide) (fun a hF => ?_)
      refine stp hF (p_ldb_one (i := 0) hS rfl rfl ia_3 rfl) (by decide) (fun a hF => ?_)
      refine stp hF (p_add (c := w64 (x5 + 1)) rfl rfl rfl) (by decide) (fun a hF => ?_)
      refine stp hF (p_nilck rfl) (by decide) (fun a hF => ?_)
      refine stp hF (p_fldb (o' := 1) rfl fi_139_1 rfl) (by decide) (fun a hF => ?_)
      refine ste0 hF (e_stb (i := 0) (l := [v1]) (m := [(.int .i64 x5)]) (r := [(.int .i64 (w64 ((w64 (x2 * 6364136223846793005)) + 1442695040888963407)))]) (m' := [(.int .i64 (w64 (x5 + 1)))]) (cs' := [v1, (.int .i64 (w64 (x5 + 1))), (.int .i64 (w64 ((w64 (x2 * 6364136223846793005)) + 1442695040888963407)))]) hS rfl rfl rfl ti_3 rfl rfl rfl rfl rfl (one_cons rfl one_nil) rfl) (fun v w a hR hF => ?_)
      have hS : St e s0 w [pt g1 139 ([v1, (.int .i64 (w64 (x5 + 1))), (.int .i64 (w64 ((w64 (x2 * 6364136223846793005)) + 1442695040888963407)))])] := hR
      refine nilN ?_
      refine xn ?_
      obtain rfl := hsm H
      exact ⟨(w64 (x5 + 1)), (band .i64 (w64 ((band .i64 (bxor .i64 (bshr .i64 (w64 ((w64 (x2 * 6364136223846793005)) + 1442695040888963407)) 33) (bshr .i64 (w64 ((w64 (x2 * 6364136223846793005)) + 1442695040888963407)) 47)) 255) + (w64 (rd x1 x5)))) 255), hS, hF.cut ⟨rfl, trivial⟩, HK1⟩
    · replace H := hbf hc1 H
      refine skN ?_
      refine xn ?_
      obtain rfl := hsm H
      exact ⟨x5, (band .i64 (bxor .i64 (bshr .i64 (w64 ((w64 (x2 * 6364136223846793005)) + 1442695040888963407)) 33) (bshr .i64 (w64 ((w64 (x2 * 6364136223846793005)) + 1442695040888963407)) 47)) 255), hS, hF.cut ⟨rfl, trivial⟩, HK1⟩
  · clear H HK1 hS hF
    rintro a w ⟨x3, x4, hS, hF, H⟩
    unfold spec_l1Byte.c1 at H
    refine sq ?_
    refine rg ?_
    refine stp hF (p_move rfl) (by decide) (fun a hF => ?_)
    refine stp hF (p_assign rfl) (by decide) (fun a hF => ?_)
    refine nilN ?_
    refine xn ?_
    refine rt ?_
    obtain rfl := hsm H
    exact ret1 hF rfl rfl hS ⟨v1, rfl, rfl, h1⟩

def spec_l1Below.f (k : Nat) (x1 : (List Int)) (x2 : Int) (x3 : Int) (x4 : Int) : Option (Int × (List Int) × Int × Int) :=
  (if (decide (x4 ≤ 0)) = true then (some (0, x1, x2, x3)) else (if (decide (x4 ≤ 256)) = true then ((spec_l1Byte.f k x1 x2 x3).bind fun x5 => (if x4 ≠ 0 then (some (x5.1.tmod x4, x5.2.1, x5.2.2.1, x5.2.2.2)) else none)) else ((spec_l1Byte.f k x1 x2 x3).bind fun x6 => ((spec_l1Byte.f k x6.2.1 x6.2.2.1 x6.2.2.2).bind fun x7 => ((spec_l1Byte.f k x7.2.1 x7.2.2.1 x7.2.2.2).bind fun x8 => (if x4 ≠ 0 then (some ((w64 ((w64 ((w64 (x6.1 * 65536)) + (w64 (x7.1 * 256)))) + x8.1)).tmod x4, x8.2.1, x8.2.2.1, x8.2.2.2)) else none))))))
set_option maxRecDepth 100000 in
set_option maxHeartbeats 4000000 in
theorem spec_l1Below.spec (k : Nat) (s0 : HF) (w : World) (x1 : (List Int)) (x2 : Int) (x3 : Int) (x4 : Int) (v1 : Value) (g1 : Nat) (h1 : Sl (Kd.int .u8) s0 v1 x1) (r : Int × (List Int) × Int × Int) (H : spec_l1Below.f k x1 x2 x3 x4 = some r) :
    Law Try.prog 145 #[(.pointer (some ⟨g1, 0, none⟩)), (.int .i64 x4)] s0 w [pt g1 139 ([v1, (.int .i64 x2), (.int .i64 x3)])] (fun v s1 A1 => ∃ (u0 : Value), v = (.int .i64 r.1) ∧ A1 = [pt g1 139 ([u0, (.int .i64 r.2.2.1), (.int .i64 r.2.2.2)])] ∧ Sl (Kd.int .u8) s1 u0 r.2.1) := by
  unfold spec_l1Below.f at H
  refine Law.intro Try.func145 rfl [(0, (.pointer (some ⟨g1, 0, none⟩))), (1, (.int .i64 x4))] (Nat.le_of_ble_eq_true rfl) (enter_lk ⟨rfl, rfl, trivial⟩) (fun e a hS hF => ?_)
  have hF : Fr 31 a [(0, (.pointer (some ⟨g1, 0, none⟩))), (1, (.int .i64 x4))] := hF
  refine sq ?_
  refine rg ?_
  refine stp hF (p_assign rfl) (by decide) (fun a hF => ?_)
  refine nilN ?_
  refine xn ?_
  refine sq ?_
  refine sq ?_
  refine rg ?_
  refine stp hF (p_move rfl) (by decide) (fun a hF => ?_)
  refine stp hF (p_leq rfl rfl) (by decide) (fun a hF => ?_)
  refine nilN ?_
  refine xn ?_
  refine cnd hF rfl (fun hc1 => ?_) (fun hc1 => ?_)
  · replace H := hbt hc1 H
    refine sq ?_
    refine rg ?_
    refine stp hF (p_assign rfl) (by decide) (fun a hF => ?_)
    refine nilN ?_
    refine xn ?_
    refine rt ?_
    refine xr ?_
    obtain rfl := hsm H
    exact ret1 hF rfl rfl hS ⟨v1, rfl, rfl, h1⟩
  · replace H := hbf hc1 H
    refine skN ?_
    refine xn ?_
    refine sq ?_
    refine sq ?_
    refine rg ?_
    refine stp hF (p_move rfl) (by decide) (fun a hF => ?_)
    refine stp hF (p_leq rfl rfl) (by decide) (fun a hF => ?_)
    refine nilN ?_
    refine xn ?_
    refine cnd hF rfl (fun hc2 => ?_) (fun hc2 => ?_)
    · replace H := hbt hc2 H
      refine sq ?_
      refine rg ?_
      refine stp hF (p_move rfl) (by decide) (fun a hF => ?_)
      obtain ⟨x5, hx1, H⟩ := hb H
      refine ste hF (e_callA (fst := []) (vs := [(.pointer (some ⟨g1, 0, none⟩))]) (cap := []) rfl rfl go_172 (St.call (A := [pt g1 139 ([v1, (.int .i64 x2), (.int .i64 x3)])]) (B := []) hS (spec_l1Byte.spec k _ _ x1 x2 x3 v1 g1 h1 _ hx1)) rfl) (by decide) (fun v w a hR hF => ?_)
      obtain ⟨s2, A2, hg1, hS, hR⟩ := hR
      obtain ⟨v2, hv1, rfl, h2⟩ := hR; obtain rfl := hv1.symm
      have hS : St e s2 w [pt g1 139 ([v2, (.int .i64 x5.2.2.1), (.int .i64 x5.2.2.2)])] := hS
      refine stp hF (p_move rfl) (by decide) (fun a hF => ?_)
      obtain ⟨hq1, H⟩ := hck H
      refine stp hF (p_rem (c := x5.1.tmod x4) rfl rfl hq1 rfl) (by decide) (fun a hF => ?_)
      refine stp hF (p_assign rfl) (by decide) (fun a hF => ?_)
      refine nilN ?_
      refine xn ?_
      refine rt ?_
      refine xr ?_
      obtain rfl := hsm H
      exact ret1 hF rfl rfl hS ⟨v2, rfl, rfl, h2⟩
    · replace H := hbf hc2 H
      refine skN ?_
      refine xn ?_
      refine sq ?_
      refine rg ?_
      refine stp hF (p_move rfl) (by decide) (fun a hF => ?_)
      obtain ⟨x6, hx2, H⟩ := hb H
      refine ste hF (e_callA (fst := []) (vs := [(.pointer (some ⟨g1, 0, none⟩))]) (cap := []) rfl rfl go_172 (St.call (A := [pt g1 139 ([v1, (.int .i64 x2), (.int .i64 x3)])]) (B := []) hS (spec_l1Byte.spec k _ _ x1 x2 x3 v1 g1 h1 _ hx2)) rfl) (by decide) (fun v w a hR hF => ?_)
      obtain ⟨s3, A3, hg2, hS, hR⟩ := hR
      obtain ⟨v3, hv2, rfl, h3⟩ := hR; obtain rfl := hv2.symm
      have hS : St e s3 w [pt g1 139 ([v3, (.int .i64 x6.2.2.1), (.int .i64 x6.2.2.2)])] := hS
      refine stp hF (p_assign rfl) (by decide) (fun a hF => ?_)
      refine nilN ?_
      refine xn ?_
      refine sq ?_
      refine rg ?_
      refine stp hF (p_move rfl) (by decide) (fun a hF => ?_)
      obtain ⟨x7, hx3, H⟩ := hb H
      refine ste hF (e_callA (fst := []) (vs := [(.pointer (some ⟨g1, 0, none⟩))]) (cap := []) rfl rfl go_172 (St.call (A := [pt g1 139 ([v3, (.int .i64 x6.2.2.1), (.int .i64 x6.2.2.2)])]) (B := []) hS (spec_l1Byte.spec k _ _ x6.2.1 x6.2.2.1 x6.2.2.2 v3 g1 h3 _ hx3)) rfl) (by decide) (fun v w a hR hF => ?_)
      obtain ⟨s4, A4, hg3, hS, hR⟩ := hR
      obtain ⟨v4, hv3, rfl, h4⟩ := hR; obtain rfl := hv3.symm
      have hS : St e s4 w [pt g1 139 ([v4, (.int .i64 x7.2.2.1), (.int .i64 x7.2.2.2)])] := hS
      refine stp hF (p_assign rfl) (by decide) (fun a hF => ?_)
      refine nilN ?_
      refine xn ?_
      refine sq ?_
      refine rg ?_
      refine stp hF (p_move rfl) (by decide) (fun a hF => ?_)
      obtain ⟨x8, hx4, H⟩ := hb H
      refine ste hF (e_callA (fst := []) (vs := [(.pointer (some ⟨g1, 0, none⟩))]) (cap := []) rfl rfl go_172 (St.call (A := [pt g1 139 ([v4, (.int .i64 x7.2.2.1), (.int .i64 x7.2.2.2)])]) (B := []) hS (spec_l1Byte.spec k _ _ x7.2.1 x7.2.2.1 x7.2.2.2 v4 g1 h4 _ hx4)) rfl) (by decide) (fun v w a hR hF => ?_)
      obtain ⟨s5, A5, hg4, hS, hR⟩ := hR
      obtain ⟨v5, hv4, rfl, h5⟩ := hR; obtain rfl := hv4.symm
      have hS : St e s5 w [pt g1 139 ([v5, (.int .i64 x8.2.2.1), (.int .i64 x8.2.2.2)])] := hS
      refine stp hF (p_assign rfl) (by decide) (fun a hF => ?_)
      refine nilN ?_
      refine xn ?_
      refine sq ?_
      refine rg ?_
      refine stp hF (p_move rfl) (by decide) (fun a hF => ?_)
      refine stp hF (p_mul (c := w64 (x6.1 * 65536)) rfl rfl rfl) (by decide) (fun a hF => ?_)
      refine stp hF (p_move rfl) (by decide) (fun a hF => ?_)
      refine stp hF (p_mul (c := w64 (x7.1 * 256)) rfl rfl rfl) (by decide) (fun a hF => ?_)
      refine stp hF (p_add (c := w64 ((w64 (x6.1 * 65536)) + (w64 (x7.1 * 256)))) rfl rfl rfl) (by decide) (fun a hF => ?_)
      refine stp hF (p_move rfl) (by decide) (fun a hF => ?_)
      refine stp hF (p_add (c := w64 ((w64 ((w64 (x6.1 * 65536)) + (w64 (x7.1 * 256)))) + x8.1)) rfl rfl rfl) (by decide) (fun a hF => ?_)
      refine stp hF (p_move rfl) (by decide) (fun a hF => ?_)
      obtain ⟨hq2, H⟩ := hck H
      refine stp hF (p_rem (c := (w64 ((w64 ((w64 (x6.1 * 65536)) + (w64 (x7.1 * 256)))) + x8.1)).tmod x4) rfl rfl hq2 rfl) (by decide) (fun a hF => ?_)
      refine stp hF (p_assign rfl) (by decide) (fun a hF => ?_)
      refine nilN ?_
      refine xn ?_
      refine rt ?_
      obtain rfl := hsm H
      exact ret1 hF rfl rfl hS ⟨v5, rfl, rfl, h5⟩

def spec_l1Int.f (k : Nat) (x1 : (List Int)) (x2 : Int) (x3 : Int) (x4 : (List Int)) : Option (Int × (List Int) × Int × Int) :=
  ((spec_l1Below.f k x1 x2 x3 (x4.length : Int)).bind fun x5 => (if 0 ≤ x5.1 ∧ x5.1 < (x4.length : Int) then (some (rd x4 x5.1, x5.2.1, x5.2.2.1, x5.2.2.2)) else none))
set_option maxRecDepth 100000 in
set_option maxHeartbeats 4000000 in
theorem spec_l1Int.spec (k : Nat) (s0 : HF) (w : World) (x1 : (List Int)) (x2 : Int) (x3 : Int) (x4 : (List Int)) (v1 : Value) (g1 : Nat) (v2 : Value) (h1 : Sl (Kd.int .u8) s0 v1 x1) (h2 : Sl (Kd.int .i64) s0 v2 x4) (r : Int × (List Int) × Int × Int) (H : spec_l1Int.f k x1 x2 x3 x4 = some r) :
    Law Try.prog 92 #[(.pointer (some ⟨g1, 0, none⟩)), v2] s0 w [pt g1 139 ([v1, (.int .i64 x2), (.int .i64 x3)])] (fun v s1 A1 => ∃ (u0 : Value), v = (.int .i64 r.1) ∧ A1 = [pt g1 139 ([u0, (.int .i64 r.2.2.1), (.int .i64 r.2.2.2)])] ∧ Sl (Kd.int .u8) s1 u0 r.2.1) := by
  unfold spec_l1Int.f at H
  refine Law.intro Try.func92 rfl [(0, (.pointer (some ⟨g1, 0, none⟩))), (1, v2)] (Nat.le_of_ble_eq_true rfl) (enter_lk ⟨rfl, rfl, trivial⟩) (fun e a hS hF => ?_)
  have hF : Fr 12 a [(0, (.pointer (some ⟨g1, 0, none⟩))), (1, v2)] := hF
  refine sq ?_
  refine rg ?_
  refine stp hF (p_assign rfl) (by decide) (fun a hF => ?_)
  refine nilN ?_
  refine xn ?_
  refine sq ?_
  refine rg ?_
  refine stp hF (p_move rfl) (by decide) (fun a hF => ?_)
  refine stp hF (p_move rfl) (by decide) (fun a hF => ?_)
  refine stp hF (p_move rfl) (by decide) (fun a hF => ?_)
  refine stp hF (p_lenr un_34 rfl h2) (by decide) (fun a hF => ?_)
  obtain ⟨x5, hx1, H⟩ := hb H
  refine ste hF (e_callA (fst := []) (vs := [(.pointer (some ⟨g1, 0, none⟩)), (.int .i64 (x4.length : Int))]) (cap := []) rfl rfl go_145 (St.call (A := [pt g1 139 ([v1, (.int .i64 x2), (.int .i64 x3)])]) (B := []) hS (spec_l1Below.spec k _ _ x1 x2 x3 (x4.length : Int) v1 g1 h1 _ hx1)) rfl) (by decide) (fun v w a hR hF => ?_)
  obtain ⟨s2, A2, hg1, hS, hR⟩ := hR
  obtain ⟨v3, hv1, rfl, h3⟩ := hR; obtain rfl := hv1.symm
  have hS : St e s2 w [pt g1 139 ([v3, (.int .i64 x5.2.2.1), (.int .i64 x5.2.2.2)])] := hS
  obtain ⟨hq1, H⟩ := hck H
  obtain ⟨ad1, h4, p1⟩ := p_idxr (P := Try.prog) (i := x5.1) (h2.mono hg1) un_34 ti_3 hq1.1 hq1.2
  refine stp hF (p1 rfl rfl) (by decide) (fun a hF => ?_)
  refine stp hF (p_ldr_int rfl hS h4 ia_3) (by decide) (fun a hF => ?_)
  refine stp hF (p_assign rfl) (by decide) (fun a hF => ?_)
  refine nilN ?_
  refine xn ?_
  refine rt ?_
  obtain rfl := hsm H
  exact ret1 hF rfl rfl hS ⟨v3, rfl, rfl, h3⟩

def spec_l1Once.f (k : Nat) (x1 : (List Int)) (x2 : Int) (x3 : Int) (x4 : Int) : Option (Bool × (List Int) × Int × Int) :=
  ((spec_l1Below.f k x1 x2 x3 x4).bind fun x5 => (some (decide (x5.1 = 0), x5.2.1, x5.2.2.1, x5.2.2.2)))
set_option maxRecDepth 100000 in
set_option maxHeartbeats 4000000 in
theorem spec_l1Once.spec (k : Nat) (s0 : HF) (w : World) (x1 : (List Int)) (x2 : Int) (x3 : Int) (x4 : Int) (v1 : Value) (g1 : Nat) (h1 : Sl (Kd.int .u8) s0 v1 x1) (r : Bool × (List Int) × Int × Int) (H : spec_l1Once.f k x1 x2 x3 x4 = some r) :
    Law Try.prog 91 #[(.pointer (some ⟨g1, 0, none⟩)), (.int .i64 x4)] s0 w [pt g1 139 ([v1, (.int .i64 x2), (.int .i64 x3)])] (fun v s1 A1 => ∃ (u0 : Value), v = (.bool r.1) ∧ A1 = [pt g1 139 ([u0, (.int .i64 r.2.2.1), (.int .i64 r.2.2.2)])] ∧ Sl (Kd.int .u8) s1 u0 r.2.1) := by
  unfold spec_l1Once.f at H
  refine Law.intro Try.func91 rfl [(0, (.pointer (some ⟨g1, 0, none⟩))), (1, (.int .i64 x4))] (Nat.le_of_ble_eq_true rfl) (enter_lk ⟨rfl, rfl, trivial⟩) (fun e a hS hF => ?_)
  have hF : Fr 9 a [(0, (.pointer (some ⟨g1, 0, none⟩))), (1, (.int .i64 x4))] := hF
  refine sq ?_
  refine rg ?_
  refine stp hF (p_assign rfl) (by decide) (fun a hF => ?_)
  refine nilN ?_
  refine xn ?_
  refine sq ?_
  refine rg ?_
  refine stp hF (p_move rfl) (by decide) (fun a hF => ?_)
  refine stp hF (p_move rfl) (by decide) (fun a hF => ?_)
  obtain ⟨x5, hx1, H⟩ := hb H
  refine ste hF (e_callA (fst := []) (vs := [(.pointer (some ⟨g1, 0, none⟩)), (.int .i64 x4)]) (cap := []) rfl rfl go_145 (St.call (A := [pt g1 139 ([v1, (.int .i64 x2), (.int .i64 x3)])]) (B := []) hS (spec_l1Below.spec k _ _ x1 x2 x3 x4 v1 g1 h1 _ hx1)) rfl) (by decide) (fun v w a hR hF => ?_)
  obtain ⟨s2, A2, hg1, hS, hR⟩ := hR
  obtain ⟨v2, hv1, rfl, h2⟩ := hR; obtain rfl := hv1.symm
  have hS : St e s2 w [pt g1 139 ([v2, (.int .i64 x5.2.2.1), (.int .i64 x5.2.2.2)])] := hS
  refine stp hF (p_eql rfl rfl) (by decide) (fun a hF => ?_)
  refine stp hF (p_assign rfl) (by decide) (fun a hF => ?_)
  refine nilN ?_
  refine xn ?_
  refine rt ?_
  obtain rfl := hsm H
  exact ret1 hF rfl rfl hS ⟨v2, rfl, rfl, h2⟩

def spec_l2Obj.c1 (k : Nat) (x1 : Int × (List Int) × Int × Int) (x2 : (List Int)) (x3 : (List Int)) (x4 : (List Int)) (x5 : Int) (x6 : Int) : Option (TObj × (List Int) × Int × Int) :=
  (some ((⟨w64 (1 + x1.1), x2, x3⟩ : TObj), x4, x5, x6))
def spec_l2Obj.l1 : Nat → (List Int) → Int → Int → (List Int) → Int → Option ((List Int) × (List Int) × Int × Int)
  | 0, _, _, _, _, _ => none
  | k + 1, x7, x8, x9, x10, x11 => (if (decide (0 < x11)) = true then ((spec_l1Below.f k x7 x8 x9 32).bind fun x12 => ((spec_l1Int.f k x12.2.1 x12.2.2.1 x12.2.2.2 ([0, 1, 2, 3, 5, 8, 12, 31, x12.1] : List Int)).bind fun x13 => (if x10.length + 1 ≤ 17592186044416 then ((spec_l2Obj.l1 k) x13.2.1 x13.2.2.1 x13.2.2.2 (x10 ++ ([x13.1] : List Int)) (w64 (x11 - 1))) else none))) else (some (x10, x7, x8, x9)))
def spec_l2Obj.c2 (k : Nat) (x1 : Int × (List Int) × Int × Int) (x2 : (List Int)) (x14 : (List Int)) (x15 : Int) (x16 : Int) : Option (TObj × (List Int) × Int × Int) :=
  ((((spec_l1Below.f k x14 x15 x16 4).bind fun x17 => (spec_l2Obj.l1 k x17.2.1 x17.2.2.1 x17.2.2.2 ([] : List Int) x17.1)) : Option ((List Int) × (List Int) × Int × Int)).bind fun x18 => spec_l2Obj.c1 k x1 x2 x18.1 x18.2.1 x18.2.2.1 x18.2.2.2)
def spec_l2Obj.l2 : Nat → (List Int) → Int → Int → (List Int) → Int → Option ((List Int) × (List Int) × Int × Int)
  | 0, _, _, _, _, _ => none
  | k + 1, x19, x20, x21, x22, x23 => (if (decide (0 < x23)) = true then ((spec_l1Below.f k x19 x20 x21 50).bind fun x24 => ((spec_l1Int.f k x24.2.1 x24.2.2.1 x24.2.2.2 ([0, 1, (-1), 7, 1000000, (-1000000), x24.1] : List Int)).bind fun x25 => (if x22.length + 1 ≤ 17592186044416 then ((spec_l2Obj.l2 k) x25.2.1 x25.2.2.1 x25.2.2.2 (x22 ++ ([x25.1] : List Int)) (w64 (x23 - 1))) else none))) else (some (x22, x19, x20, x21)))
def spec_l2Obj.f (k : Nat) (x26 : (List Int)) (x27 : Int) (x28 : Int) : Option (TObj × (List Int) × Int × Int) :=
  ((spec_l1Below.f k x26 x27 x28 5).bind fun x1 => ((((spec_l1Below.f k x1.2.1 x1.2.2.1 x1.2.2.2 3).bind fun x29 => (spec_l2Obj.l2 k x29.2.1 x29.2.2.1 x29.2.2.2 ([] : List Int) x29.1)) : Option ((List Int) × (List Int) × Int × Int)).bind fun x30 => spec_l2Obj.c2 k x1 x30.1 x30.2.1 x30.2.2.1 x30.2.2.2))
set_option maxRecDepth 100000 in
set_option maxHeartbeats 4000000 in
theorem spec_l2Obj.spec (k : Nat) (s0 : HF) (w : World) (x26 : (List Int)) (x27 : Int) (x28 : Int) (v1 : Value) (g1 : Nat) (h1 : Sl (Kd.int .u8) s0 v1 x26) (r : TObj × (List Int) × Int × Int) (H : spec_l2Obj.f k x26 x27 x28 = some r) :
    Law Try.prog 147 #[(.pointer (some ⟨g1, 0, none⟩))] s0 w [pt g1 139 ([v1, (.int .i64 x27), (.int .i64 x28)])] (fun v s1 A1 => ∃ (u0 : Value) (u1 : Value) (u2 : Value), v = (.agg #[(.int .i64 r.1.Kind), u1, u2]) ∧ A1 = [pt g1 139 ([u0, (.int .i64 r.2.2.1), (.int .i64 r.2.2.2)]), Ow (Kd.int .i64) 3 u1 r.1.Ints, Ow (Kd.int .i64) 3 u2 r.1.Refs] ∧ Sl (Kd.int .u8) s1 u0 r.2.1) := by
  unfold spec_l2Obj.f at H
  refine Law.intro Try.func147 rfl [(0, (.pointer (some ⟨g1, 0, none⟩)))] (Nat.le_of_ble_eq_true rfl) (enter_lk ⟨rfl, trivial⟩) (fun e a hS hF => ?_)
  have hF : Fr 43 a [(0, (.pointer (some ⟨g1, 0, none⟩)))] := hF
  refine sq ?_
  refine rg ?_
  refine ste hF (e_alloc (cs := [(.int .i64 0), (.slice none 0 0), (.slice none 0 0)]) hS ti_36 rfl) (by decide) (fun v w a hR hF => ?_)
  obtain ⟨g2, rfl, hS⟩ := hR
  refine nilN ?_
  refine xn ?_
  refine sq ?_
  refine rg ?_
  refine stp hF (p_move rfl) (by decide) (fun a hF => ?_)
  replace hS := hS.sel (is := [1, 0]) (A' := [pt g1 139 ([v1, (.int .i64 x27), (.int .i64 x28)]), pt g2 36 ([(.int .i64 0), (.slice none 0 0), (.slice none 0 0)])]) rfl
  obtain ⟨x1, hx1, H⟩ := hb H
  refine ste hF (e_callA (fst := []) (vs := [(.pointer (some ⟨g1, 0, none⟩)), (.int .i64 5)]) (cap := []) rfl rfl go_145 (St.call (A := [pt g1 139 ([v1, (.int .i64 x27), (.int .i64 x28)])]) (B := [pt g2 36 ([(.int .i64 0), (.slice none 0 0), (.slice none 0 0)])]) hS (spec_l1Below.spec k _ _ x26 x27 x28 5 v1 g1 h1 _ hx1)) rfl) (by decide) (fun v w a hR hF => ?_)
  obtain ⟨s2, A2, hg1, hS, hR⟩ := hR
  obtain ⟨v2, hv1, rfl, h2⟩ := hR; obtain rfl := hv1.symm
  have hS : St e s2 w [pt g1 139 ([v2, (.int .i64 x1.2.2.1), (.int .i64 x1.2.2.2)]), pt g2 36 ([(.int .i64 0), (.slice none 0 0), (.slice none 0 0)])] := hS
  refine stp hF (p_add (c := w64 (1 + x1.1)) rfl rfl rfl) (by decide) (fun a hF => ?_)
  refine stp hF (p_build (ps := [(0, (.tmp 8))]) (vs := [(0, (.int .i64 (w64 (1 + x1.1))))]) (v := (.agg #[(.int .i64 (w64 (1 + x1.1))), (.slice none 0 0), (.slice none 0 0)])) rfl (by intro w; kernel_rfl)) (by decide) (fun a hF => ?_)
  refine ste hF (e_alloc (cs := [(.int .i64 0), (.slice none 0 0), (.slice none 0 0)]) hS ti_36 rfl) (by decide) (fun v w a hR hF => ?_)
  obtain ⟨g3, rfl, hS⟩ := hR
  refine ste0 hF (e_stb (i := 0) (l := []) (m := [(.int .i64 0), (.slice none 0 0), (.slice none 0 0)]) (r := []) (m' := [(.int .i64 (w64 (1 + x1.1))), (.slice none 0 0), (.slice none 0 0)]) (cs' := [(.int .i64 (w64 (1 + x1.1))), (.slice none 0 0), (.slice none 0 0)]) hS rfl rfl rfl ti_36 rfl rfl rfl rfl rfl (one_cons rfl (one_cons rfl (one_cons rfl one_nil))) rfl) (fun v w a hR hF => ?_)
  have hS : St e s2 w [pt g3 36 ([(.int .i64 (w64 (1 + x1.1))), (.slice none 0 0), (.slice none 0 0)]), pt g1 139 ([v2, (.int .i64 x1.2.2.1), (.int .i64 x1.2.2.2)]), pt g2 36 ([(.int .i64 0), (.slice none 0 0), (.slice none 0 0)])] := hR
  refine nilN ?_
  refine xn ?_
  obtain ⟨x30, H, HK1⟩ := hb H
  refine sqj (fun a w => ∃ (x2 : (List Int)) (x14 : (List Int)) (x15 : Int) (x16 : Int) (s3 : HF) (v3 : Value) (v4 : Value) , St e s3 w [pt g3 36 ([(.int .i64 (w64 (1 + x1.1))), v3, (.slice none 0 0)]), Ow (Kd.int .i64) 3 v3 x2, pt g1 139 ([v4, (.int .i64 x15), (.int .i64 x16)]), pt g2 36 ([(.int .i64 0), (.slice none 0 0), (.slice none 0 0)])] ∧ Fr 43 a [(0, (.pointer (some ⟨g1, 0, none⟩))), (2, (.pointer (some ⟨g2, 0, none⟩))), (3, (.pointer (some ⟨g3, 0, none⟩)))] ∧ Sub s2 s3 ∧ Sl (Kd.int .u8) s3 v4 x14 ∧ spec_l2Obj.c2 k x1 x2 x14 x15 x16 = some r) ?_ ?_
  · skip
    refine sq ?_
    refine rg ?_
    refine stp hF (p_move rfl) (by decide) (fun a hF => ?_)
    replace hS := hS.sel (is := [1, 0, 0]) (A' := [pt g1 139 ([v2, (.int .i64 x1.2.2.1), (.int .i64 x1.2.2.2)]), pt g3 36 ([(.int .i64 (w64 (1 + x1.1))), (.slice none 0 0), (.slice none 0 0)]), pt g2 36 ([(.int .i64 0), (.slice none 0 0), (.slice none 0 0)])]) rfl
    obtain ⟨x29, hx2, H⟩ := hb H
    refine ste hF (e_callA (fst := []) (vs := [(.pointer (some ⟨g1, 0, none⟩)), (.int .i64 3)]) (cap := []) rfl rfl go_145 (St.call (A := [pt g1 139 ([v2, (.int .i64 x1.2.2.1), (.int .i64 x1.2.2.2)])]) (B := [pt g3 36 ([(.int .i64 (w64 (1 + x1.1))), (.slice none 0 0), (.slice none 0 0)]), pt g2 36 ([(.int .i64 0), (.slice none 0 0), (.slice none 0 0)])]) hS (spec_l1Below.spec k _ _ x1.2.1 x1.2.2.1 x1.2.2.2 3 v2 g1 h2 _ hx2)) rfl) (by decide) (fun v w a hR hF => ?_)
    obtain ⟨s4, A3, hg2, hS, hR⟩ := hR
    obtain ⟨v5, hv2, rfl, h3⟩ := hR; obtain rfl := hv2.symm
    have hS : St e s4 w [pt g1 139 ([v5, (.int .i64 x29.2.2.1), (.int .i64 x29.2.2.2)]), pt g3 36 ([(.int .i64 (w64 (1 + x1.1))), (.slice none 0 0), (.slice none 0 0)]), pt g2 36 ([(.int .i64 0), (.slice none 0 0), (.slice none 0 0)])] := hS
    refine stp hF (p_assign rfl) (by decide) (fun a hF => ?_)
    refine nilN ?_
    refine xn ?_
    refine blk ?_
    refine loop_ind (fun k1 a w => ∃ (x19 : (List Int)) (x20 : Int) (x21 : Int) (x22 : (List Int)) (x23 : Int) (s5 : HF) (v6 : Value) (v7 : Value) , St e s5 w [pt g1 139 ([v6, (.int .i64 x20), (.int .i64 x21)]), pt g3 36 ([(.int .i64 (w64 (1 + x1.1))), v7, (.slice none 0 0)]), Ow (Kd.int .i64) 3 v7 x22, pt g2 36 ([(.int .i64 0), (.slice none 0 0), (.slice none 0 0)])] ∧ Fr 43 a [(0, (.pointer (some ⟨g1, 0, none⟩))), (2, (.pointer (some ⟨g2, 0, none⟩))), (3, (.pointer (some ⟨g3, 0, none⟩))), (4, (.int .i64 x23))] ∧ Sub s4 s5 ∧ Sl (Kd.int .u8) s5 v6 x19 ∧ spec_l2Obj.l2 k1 x19 x20 x21 x22 x23 = some x30) k ?_ ?_ ?_
    · skip
      replace hS := hS.ownNil (Kd.int .i64) 3 none
      replace hS := hS.sel (is := [1, 1, 0, 0]) (A' := [pt g1 139 ([v5, (.int .i64 x29.2.2.1), (.int .i64 x29.2.2.2)]), pt g3 36 ([(.int .i64 (w64 (1 + x1.1))), (.slice none 0 0), (.slice none 0 0)]), Ow (Kd.int .i64) 3 (.slice none 0 0) ([] : List Int), pt g2 36 ([(.int .i64 0), (.slice none 0 0), (.slice none 0 0)])]) rfl
      exact ⟨x29.2.1, x29.2.2.1, x29.2.2.2, ([] : List Int), x29.1, s4, v5, (.slice none 0 0), hS, hF.cut ⟨rfl, rfl, rfl, rfl, trivial⟩, (Sub.refl _), h3, H⟩
    · clear H hS hF
      rintro a w ⟨x19, x20, x21, x22, x23, s5, v6, v7, hS, hF, hg3, h4, H⟩
      exact absurd (show none = some _ from H) (by simp)
    · clear H hS hF
      rintro k1 a w ⟨x19, x20, x21, x22, x23, s5, v6, v7, hS, hF, hg3, h4, H⟩
      rw [spec_l2Obj.l2.eq_2] at H
      refine sq ?_
      refine sq ?_
      refine rg ?_
      refine stp hF (p_move rfl) (by decide) (fun a hF => ?_)
      refine stp hF (p_gtr rfl rfl) (by decide) (fun a hF => ?_)
      refine nilN ?_
      refine xn ?_
      refine cnd hF rfl (fun hc1 => ?_) (fun hc1 => ?_)
      · replace H := hbt hc1 H
        refine skN ?_
        refine xn ?_
        refine sq ?_
        refine blk ?_
        replace hS : St e s5 w.drew [pt g1 139 ([v6, (.int .i64 x20), (.int .i64 x21)]), pt g3 36 ([(.int .i64 (w64 (1 + x1.1))), v7, (.slice none 0 0)]), Ow (Kd.int .i64) 3 v7 x22, pt g2 36 ([(.int .i64 0), (.slice none 0 0), (.slice none 0 0)])] := hS.drewN 1
        refine drw [0, 1, 2, 3, 4, 5, 6, 7, 8, 9, 10] mixed (by kernel_rfl) (by decide) (hF.cut (L' := [(0, (.pointer (some ⟨g1, 0, none⟩))), (2, (.pointer (some ⟨g2, 0, none⟩))), (3, (.pointer (some ⟨g3, 0, none⟩))), (4, (.int .i64 x23)), (12, (.int .i64 x23)), (13, (.bool (decide (0 < x23))))]) ⟨rfl, rfl, rfl, rfl, rfl, rfl, trivial⟩) ?_
        clear hF
        generalize w.drew = w at hS ⊢
        refine pk1 rfl (by decide) rfl (by kernel_rfl) rfl (p_fldb (o' := 1) rfl fi_36_1 rfl) ?_
        refine pk1 rfl (by decide) rfl (by kernel_rfl) rfl (p_ldb_one (i := 1) hS rfl rfl ia_34 rfl) ?_
        refine pk1 rfl (by decide) rfl (by kernel_rfl) rfl (p_move rfl) ?_
        refine pk1 rfl (by decide) rfl (by kernel_rfl) rfl (p_move rfl) ?_
        obtain ⟨x24, hx3, H⟩ := hb H
        refine pkE [2, 1, 0] rfl (by decide) (by kernel_rfl) (by kernel_rfl) (e_callA (fst := []) (vs := [(.pointer (some ⟨g1, 0, none⟩)), (.int .i64 50)]) (cap := []) rfl rfl go_145 (St.call (A := [pt g1 139 ([v6, (.int .i64 x20), (.int .i64 x21)])]) (B := [pt g3 36 ([(.int .i64 (w64 (1 + x1.1))), v7, (.slice none 0 0)]), Ow (Kd.int .i64) 3 v7 x22, pt g2 36 ([(.int .i64 0), (.slice none 0 0), (.slice none 0 0)])]) hS (spec_l1Below.spec k1 _ _ x19 x20 x21 50 v6 g1 h4 _ hx3)) rfl) ?_
        intro v w hR
        obtain ⟨s6, A4, hg4, hS, hR⟩ := hR
        obtain ⟨v8, hv3, rfl, h5⟩ := hR; obtain rfl := hv3.symm
        have hS : St e s6 w [pt g1 139 ([v8, (.int .i64 x24.2.2.1), (.int .i64 x24.2.2.2)]), pt g3 36 ([(.int .i64 (w64 (1 + x1.1))), v7, (.slice none 0 0)]), Ow (Kd.int .i64) 3 v7 x22, pt g2 36 ([(.int .i64 0), (.slice none 0 0), (.slice none 0 0)])] := hS
        refine ⟨⟨knw rfl rfl rfl (p_move rfl), ⟨knw rfl rfl rfl (p_ldb_one (i := 1) hS rfl rfl ia_34 rfl), ⟨knw rfl rfl rfl (p_fldb (o' := 1) rfl fi_36_1 rfl), trivial⟩⟩⟩, ?_⟩
        refine pkE [2, 1, 0] rfl (by decide) (by kernel_rfl) (by kernel_rfl) (e_bslice (kd := (Kd.int .i64)) (et := 3) (ps := [(0, (.const (.int .i64 0))), (1, (.const (.int .i64 1))), (2, (.const (.int .i64 (-1)))), (3, (.const (.int .i64 7))), (4, (.const (.int .i64 1000000))), (5, (.const (.int .i64 (-1000000)))), (6, (.tmp 20))]) (vs := [(0, (.int .i64 0)), (1, (.int .i64 1)), (2, (.int .i64 (-1))), (3, (.int .i64 7)), (4, (.int .i64 1000000)), (5, (.int .i64 (-1000000))), (6, (.int .i64 x24.1))]) (cs := [(.int .i64 0), (.int .i64 1), (.int .i64 (-1)), (.int .i64 7), (.int .i64 1000000), (.int .i64 (-1000000)), (.int .i64 x24.1)]) (xs := ([0, 1, (-1), 7, 1000000, (-1000000), x24.1] : List Int)) hS rfl (by intro w; kernel_rfl) rfl (by decide) (Nat.le_of_ble_eq_true rfl) (by exact (rows_cons (kd := (Kd.int .i64)) (x := 0) (c := [(.int .i64 0)]) (cs := [(.int .i64 1), (.int .i64 (-1)), (.int .i64 7), (.int .i64 1000000), (.int .i64 (-1000000)), (.int .i64 x24.1)]) rfl (rows_cons (kd := (Kd.int .i64)) (x := 1) (c := [(.int .i64 1)]) (cs := [(.int .i64 (-1)), (.int .i64 7), (.int .i64 1000000), (.int .i64 (-1000000)), (.int .i64 x24.1)]) rfl (rows_cons (kd := (Kd.int .i64)) (x := (-1)) (c := [(.int .i64 (-1))]) (cs := [(.int .i64 7), (.int .i64 1000000), (.int .i64 (-1000000)), (.int .i64 x24.1)]) rfl (rows_cons (kd := (Kd.int .i64)) (x := 7) (c := [(.int .i64 7)]) (cs := [(.int .i64 1000000), (.int .i64 (-1000000)), (.int .i64 x24.1)]) rfl (rows_cons (kd := (Kd.int .i64)) (x := 1000000) (c := [(.int .i64 1000000)]) (cs := [(.int .i64 (-1000000)), (.int .i64 x24.1)]) rfl (rows_cons (kd := (Kd.int .i64)) (x := (-1000000)) (c := [(.int .i64 (-1000000))]) (cs := [(.int .i64 x24.1)]) rfl (rows_cons (kd := (Kd.int .i64)) (x := x24.1) (c := [(.int .i64 x24.1)]) (cs := []) rfl (Rows.nil _ _ _ _)))))))))) ?_
        intro v9 w hR
        have hS : St e s6 w [Ow (Kd.int .i64) 3 v9 ([0, 1, (-1), 7, 1000000, (-1000000), x24.1] : List Int), pt g1 139 ([v8, (.int .i64 x24.2.2.1), (.int .i64 x24.2.2.2)]), pt g3 36 ([(.int .i64 (w64 (1 + x1.1))), v7, (.slice none 0 0)]), Ow (Kd.int .i64) 3 v7 x22, pt g2 36 ([(.int .i64 0), (.slice none 0 0), (.slice none 0 0)])] := hR
        refine ⟨⟨knw rfl rfl rfl (p_move rfl), ⟨knw rfl rfl rfl (p_ldb_one (i := 2) hS rfl rfl ia_34 rfl), ⟨knw rfl rfl rfl (p_fldb (o' := 1) rfl fi_36_1 rfl), trivial⟩⟩⟩, ?_⟩
        obtain ⟨s7, hg5, h6, hS⟩ := hS.freeze (i := 0) (kd := (Kd.int .i64)) (et := 3) (v := v9) (xs := ([0, 1, (-1), 7, 1000000, (-1000000), x24.1] : List Int)) (B := [pt g1 139 ([v8, (.int .i64 x24.2.2.1), (.int .i64 x24.2.2.2)]), pt g3 36 ([(.int .i64 (w64 (1 + x1.1))), v7, (.slice none 0 0)]), Ow (Kd.int .i64) 3 v7 x22, pt g2 36 ([(.int .i64 0), (.slice none 0 0), (.slice none 0 0)])]) rfl
        obtain ⟨x25, hx4, H⟩ := hb H
        refine pkE [1, 0] rfl (by decide) (by kernel_rfl) (by kernel_rfl) (e_callA (fst := []) (vs := [(.pointer (some ⟨g1, 0, none⟩)), v9]) (cap := []) rfl rfl go_92 (St.call (A := [pt g1 139 ([v8, (.int .i64 x24.2.2.1), (.int .i64 x24.2.2.2)])]) (B := [pt g3 36 ([(.int .i64 (w64 (1 + x1.1))), v7, (.slice none 0 0)]), Ow (Kd.int .i64) 3 v7 x22, pt g2 36 ([(.int .i64 0), (.slice none 0 0), (.slice none 0 0)])]) hS (spec_l1Int.spec k1 _ _ x24.2.1 x24.2.2.1 x24.2.2.2 ([0, 1, (-1), 7, 1000000, (-1000000), x24.1] : List Int) v8 g1 v9 (h5.mono hg5) h6 _ hx4)) rfl) ?_
        intro v w hR
        obtain ⟨s8, A5, hg6, hS, hR⟩ := hR
        obtain ⟨v10, hv4, rfl, h7⟩ := hR; obtain rfl := hv4.symm
        have hS : St e s8 w [pt g1 139 ([v10, (.int .i64 x25.2.2.1), (.int .i64 x25.2.2.2)]), pt g3 36 ([(.int .i64 (w64 (1 + x1.1))), v7, (.slice none 0 0)]), Ow (Kd.int .i64) 3 v7 x22, pt g2 36 ([(.int .i64 0), (.slice none 0 0), (.slice none 0 0)])] := hS
        refine ⟨⟨knw rfl rfl rfl (p_ldb_one (i := 1) hS rfl rfl ia_34 rfl), ⟨knw rfl rfl rfl (p_fldb (o' := 1) rfl fi_36_1 rfl), trivial⟩⟩, ?_⟩
        refine pkE [1, 0] rfl (by decide) (by kernel_rfl) (by kernel_rfl) (e_bslice (kd := (Kd.int .i64)) (et := 3) (ps := [(0, (.tmp 22))]) (vs := [(0, (.int .i64 x25.1))]) (cs := [(.int .i64 x25.1)]) (xs := ([x25.1] : List Int)) hS rfl (by intro w; kernel_rfl) rfl (by decide) (Nat.le_of_ble_eq_true rfl) (by exact (rows_cons (kd := (Kd.int .i64)) (x := x25.1) (c := [(.int .i64 x25.1)]) (cs := []) rfl (Rows.nil _ _ _ _)))) ?_
        intro v11 w hR
        have hS : St e s8 w [Ow (Kd.int .i64) 3 v11 ([x25.1] : List Int), pt g1 139 ([v10, (.int .i64 x25.2.2.1), (.int .i64 x25.2.2.2)]), pt g3 36 ([(.int .i64 (w64 (1 + x1.1))), v7, (.slice none 0 0)]), Ow (Kd.int .i64) 3 v7 x22, pt g2 36 ([(.int .i64 0), (.slice none 0 0), (.slice none 0 0)])] := hR
        refine ⟨⟨knw rfl rfl rfl (p_ldb_one (i := 2) hS rfl rfl ia_34 rfl), ⟨knw rfl rfl rfl (p_fldb (o' := 1) rfl fi_36_1 rfl), trivial⟩⟩, ?_⟩
        obtain ⟨hq1, H⟩ := hck H
        refine pkE [0] rfl (by decide) (by kernel_rfl) (by kernel_rfl) (e_append (n := 3) hS rfl rfl rfl (hS.src (n := 0) rfl) un_34 ti_3 rfl (by decide) (by decide) (Nat.le_trans (Nat.mul_le_mul_right 8 hq1) (by decide))) ?_
        intro v12 w hR
        have hS : St e s8 w [Ow (Kd.int .i64) 3 v12 (x22 ++ ([x25.1] : List Int)), Ow (Kd.int .i64) 3 v11 ([x25.1] : List Int), pt g1 139 ([v10, (.int .i64 x25.2.2.1), (.int .i64 x25.2.2.2)]), pt g3 36 ([(.int .i64 (w64 (1 + x1.1))), v7, (.slice none 0 0)]), pt g2 36 ([(.int .i64 0), (.slice none 0 0), (.slice none 0 0)])] := hR
        replace hS := hS.sel (is := [0, 1, 1, 1]) (A' := [Ow (Kd.int .i64) 3 v12 (x22 ++ ([x25.1] : List Int)), pt g1 139 ([v10, (.int .i64 x25.2.2.1), (.int .i64 x25.2.2.2)]), pt g3 36 ([(.int .i64 (w64 (1 + x1.1))), v7, (.slice none 0 0)]), pt g2 36 ([(.int .i64 0), (.slice none 0 0), (.slice none 0 0)])]) rfl
        refine ⟨⟨knw rfl rfl rfl (p_fldb (o' := 1) rfl fi_36_1 rfl), trivial⟩, ?_⟩
        refine pk1 rfl (by decide) rfl (by kernel_rfl) rfl (p_fldb (o' := 1) rfl fi_36_1 rfl) ?_
        refine pkE0 [] rfl (by kernel_rfl) (by kernel_rfl) (e_stb (i := 2) (l := [(.int .i64 (w64 (1 + x1.1)))]) (m := [v7]) (r := [(.slice none 0 0)]) (m' := [v12]) (cs' := [(.int .i64 (w64 (1 + x1.1))), v12, (.slice none 0 0)]) hS rfl rfl rfl ti_34 rfl rfl rfl (cells_one (hS.one_ow (i := 0) rfl)) rfl (one_cons (hS.one_ow (i := 0) rfl) one_nil) rfl) ?_
        intro v w hR
        have hS : St e s8 w [pt g3 36 ([(.int .i64 (w64 (1 + x1.1))), v12, (.slice none 0 0)]), Ow (Kd.int .i64) 3 v12 (x22 ++ ([x25.1] : List Int)), pt g1 139 ([v10, (.int .i64 x25.2.2.1), (.int .i64 x25.2.2.2)]), pt g2 36 ([(.int .i64 0), (.slice none 0 0), (.slice none 0 0)])] := hR
        refine ⟨trivial, ?_⟩
        refine pkF (fun a hF => ?_)
        refine bn (xn ?_)
        refine rg ?_
        refine stp hF (p_move rfl) (by decide) (fun a hF => ?_)
        refine stp hF (p_sub (c := w64 (x23 - 1)) rfl rfl rfl) (by decide) (fun a hF => ?_)
        refine stp hF (p_assign rfl) (by decide) (fun a hF => ?_)
        refine nilN ?_
        refine xn ?_
        replace hS := hS.sel (is := [2, 0, 0, 0]) (A' := [pt g1 139 ([v10, (.int .i64 x25.2.2.1), (.int .i64 x25.2.2.2)]), pt g3 36 ([(.int .i64 (w64 (1 + x1.1))), v12, (.slice none 0 0)]), Ow (Kd.int .i64) 3 v12 (x22 ++ ([x25.1] : List Int)), pt g2 36 ([(.int .i64 0), (.slice none 0 0), (.slice none 0 0)])]) rfl
        exact ⟨x25.2.1, x25.2.2.1, x25.2.2.2, (x22 ++ ([x25.1] : List Int)), (w64 (x23 - 1)), s8, v10, v12, hS, hF.cut ⟨rfl, rfl, rfl, rfl, trivial⟩, (((hg3.trans hg4).trans hg5).trans hg6), h7, H⟩
      · replace H := hbf hc1 H
        refine exi ?_
        refine xe (xe (hit (xn ?_)))
        obtain rfl := hsm H
        replace hS := hS.sel (is := [1, 1, 0, 0]) (A' := [pt g3 36 ([(.int .i64 (w64 (1 + x1.1))), v7, (.slice none 0 0)]), Ow (Kd.int .i64) 3 v7 x22, pt g1 139 ([v6, (.int .i64 x20), (.int .i64 x21)]), pt g2 36 ([(.int .i64 0), (.slice none 0 0), (.slice none 0 0)])]) rfl
        exact ⟨x22, x19, x20, x21, s5, v7, v6, hS, hF.cut ⟨rfl, rfl, rfl, trivial⟩, (hg2.trans hg3), h4, HK1⟩
  · clear H HK1 hS hF
    rintro a w ⟨x2, x14, x15, x16, s3, v3, v4, hS, hF, hg7, h8, H⟩
    unfold spec_l2Obj.c2 at H
    obtain ⟨x18, H, HK2⟩ := hb H
    refine sqj (fun a w => ∃ (x3 : (List Int)) (x4 : (List Int)) (x5 : Int) (x6 : Int) (s9 : HF) (v13 : Value) (v14 : Value) , St e s9 w [pt g3 36 ([(.int .i64 (w64 (1 + x1.1))), v3, v13]), Ow (Kd.int .i64) 3 v13 x3, Ow (Kd.int .i64) 3 v3 x2, pt g1 139 ([v14, (.int .i64 x5), (.int .i64 x6)]), pt g2 36 ([(.int .i64 0), (.slice none 0 0), (.slice none 0 0)])] ∧ Fr 43 a [(2, (.pointer (some ⟨g2, 0, none⟩))), (3, (.pointer (some ⟨g3, 0, none⟩)))] ∧ Sub s3 s9 ∧ Sl (Kd.int .u8) s9 v14 x4 ∧ spec_l2Obj.c1 k x1 x2 x3 x4 x5 x6 = some r) ?_ ?_
    · skip
      refine sq ?_
      refine rg ?_
      refine stp hF (p_move rfl) (by decide) (fun a hF => ?_)
      replace hS := hS.sel (is := [2, 0, 0, 0]) (A' := [pt g1 139 ([v4, (.int .i64 x15), (.int .i64 x16)]), pt g3 36 ([(.int .i64 (w64 (1 + x1.1))), v3, (.slice none 0 0)]), Ow (Kd.int .i64) 3 v3 x2, pt g2 36 ([(.int .i64 0), (.slice none 0 0), (.slice none 0 0)])]) rfl
      obtain ⟨x17, hx5, H⟩ := hb H
      refine ste hF (e_callA (fst := []) (vs := [(.pointer (some ⟨g1, 0, none⟩)), (.int .i64 4)]) (cap := []) rfl rfl go_145 (St.call (A := [pt g1 139 ([v4, (.int .i64 x15), (.int .i64 x16)])]) (B := [pt g3 36 ([(.int .i64 (w64 (1 + x1.1))), v3, (.slice none 0 0)]), Ow (Kd.int .i64) 3 v3 x2, pt g2 36 ([(.int .i64 0), (.slice none 0 0), (.slice none 0 0)])]) hS (spec_l1Below.spec k _ _ x14 x15 x16 4 v4 g1 h8 _ hx5)) rfl) (by decide) (fun v w a hR hF => ?_)
      obtain ⟨s10, A6, hg8, hS, hR⟩ := hR
      obtain ⟨v15, hv5, rfl, h9⟩ := hR; obtain rfl := hv5.symm
      have hS : St e s10 w [pt g1 139 ([v15, (.int .i64 x17.2.2.1), (.int .i64 x17.2.2.2)]), pt g3 36 ([(.int .i64 (w64 (1 + x1.1))), v3, (.slice none 0 0)]), Ow (Kd.int .i64) 3 v3 x2, pt g2 36 ([(.int .i64 0), (.slice none 0 0), (.slice none 0 0)])] := hS
      refine stp hF (p_assign rfl) (by decide) (fun a hF => ?_)
      refine nilN ?_
      refine xn ?_
      refine blk ?_
      refine loop_ind (fun k2 a w => ∃ (x7 : (List Int)) (x8 : Int) (x9 : Int) (x10 : (List Int)) (x11 : Int) (s11 : HF) (v16 : Value) (v17 : Value) , St e s11 w [pt g1 139 ([v16, (.int .i64 x8), (.int .i64 x9)]), pt g3 36 ([(.int .i64 (w64 (1 + x1.1))), v3, v17]), Ow (Kd.int .i64) 3 v17 x10, Ow (Kd.int .i64) 3 v3 x2, pt g2 36 ([(.int .i64 0), (.slice none 0 0), (.slice none 0 0)])] ∧ Fr 43 a [(0, (.pointer (some ⟨g1, 0, none⟩))), (2, (.pointer (some ⟨g2, 0, none⟩))), (3, (.pointer (some ⟨g3, 0, none⟩))), (5, (.int .i64 x11))] ∧ Sub s10 s11 ∧ Sl (Kd.int .u8) s11 v16 x7 ∧ spec_l2Obj.l1 k2 x7 x8 x9 x10 x11 = some x18) k ?_ ?_ ?_
      · skip
        replace hS := hS.ownNil (Kd.int .i64) 3 none
        replace hS := hS.sel (is := [1, 1, 0, 0, 0]) (A' := [pt g1 139 ([v15, (.int .i64 x17.2.2.1), (.int .i64 x17.2.2.2)]), pt g3 36 ([(.int .i64 (w64 (1 + x1.1))), v3, (.slice none 0 0)]), Ow (Kd.int .i64) 3 (.slice none 0 0) ([] : List Int), Ow (Kd.int .i64) 3 v3 x2, pt g2 36 ([(.int .i64 0), (.slice none 0 0), (.slice none 0 0)])]) rfl
        exact ⟨x17.2.1, x17.2.2.1, x17.2.2.2, ([] : List Int), x17.1, s10, v15, (.slice none 0 0), hS, hF.cut ⟨rfl, rfl, rfl, rfl, trivial⟩, (Sub.refl _), h9, H⟩
      · clear H hS hF
        rintro a w ⟨x7, x8, x9, x10, x11, s11, v16, v17, hS, hF, hg9, h10, H⟩
        exact absurd (show none = some _ from H) (by simp)
      · clear H hS hF
        rintro k2 a w ⟨x7, x8, x9, x10, x11, s11, v16, v17, hS, hF, hg9, h10, H⟩
        rw [spec_l2Obj.l1.eq_2] at H
        refine sq ?_
        refine sq ?_
        refine rg ?_
        refine stp hF (p_move rfl) (by decide) (fun a hF => ?_)
        refine stp hF (p_gtr rfl rfl) (by decide) (fun a hF => ?_)
        refine nilN ?_
        refine xn ?_
        refine cnd hF rfl (fun hc2 => ?_) (fun hc2 => ?_)
        · replace H := hbt hc2 H
          refine skN ?_
          refine xn ?_
          refine sq ?_
          refine blk ?_
          replace hS : St e s11 w.drew [pt g1 139 ([v16, (.int .i64 x8), (.int .i64 x9)]), pt g3 36 ([(.int .i64 (w64 (1 + x1.1))), v3, v17]), Ow (Kd.int .i64) 3 v17 x10, Ow (Kd.int .i64) 3 v3 x2, pt g2 36 ([(.int .i64 0), (.slice none 0 0), (.slice none 0 0)])] := hS.drewN 1
          refine drw [0, 1, 2, 3, 4, 5, 6, 7, 8, 9, 10] mixed (by kernel_rfl) (by decide) (hF.cut (L' := [(0, (.pointer (some ⟨g1, 0, none⟩))), (2, (.pointer (some ⟨g2, 0, none⟩))), (3, (.pointer (some ⟨g3, 0, none⟩))), (5, (.int .i64 x11)), (28, (.int .i64 x11)), (29, (.bool (decide (0 < x11))))]) ⟨rfl, rfl, rfl, rfl, rfl, rfl, trivial⟩) ?_
          clear hF
          generalize w.drew = w at hS ⊢
          refine pk1 rfl (by decide) rfl (by kernel_rfl) rfl (p_fldb (o' := 2) rfl fi_36_2 rfl) ?_
          refine pk1 rfl (by decide) rfl (by kernel_rfl) rfl (p_ldb_one (i := 1) hS rfl rfl ia_34 rfl) ?_
          refine pk1 rfl (by decide) rfl (by kernel_rfl) rfl (p_move rfl) ?_
          refine pk1 rfl (by decide) rfl (by kernel_rfl) rfl (p_move rfl) ?_
          obtain ⟨x12, hx6, H⟩ := hb H
          refine pkE [2, 1, 0] rfl (by decide) (by kernel_rfl) (by kernel_rfl) (e_callA (fst := []) (vs := [(.pointer (some ⟨g1, 0, none⟩)), (.int .i64 32)]) (cap := []) rfl rfl go_145 (St.call (A := [pt g1 139 ([v16, (.int .i64 x8), (.int .i64 x9)])]) (B := [pt g3 36 ([(.int .i64 (w64 (1 + x1.1))), v3, v17]), Ow (Kd.int .i64) 3 v17 x10, Ow (Kd.int .i64) 3 v3 x2, pt g2 36 ([(.int .i64 0), (.slice none 0 0), (.slice none 0 0)])]) hS (spec_l1Below.spec k2 _ _ x7 x8 x9 32 v16 g1 h10 _ hx6)) rfl) ?_
          intro v w hR
          obtain ⟨s12, A7, hg10, hS, hR⟩ := hR
          obtain ⟨v18, hv6, rfl, h11⟩ := hR; obtain rfl := hv6.symm
          have hS : St e s12 w [pt g1 139 ([v18, (.int .i64 x12.2.2.1), (.int .i64 x12.2.2.2)]), pt g3 36 ([(.int .i64 (w64 (1 + x1.1))), v3, v17]), Ow (Kd.int .i64) 3 v17 x10, Ow (Kd.int .i64) 3 v3 x2, pt g2 36 ([(.int .i64 0), (.slice none 0 0), (.slice none 0 0)])] := hS
          refine ⟨⟨knw rfl rfl rfl (p_move rfl), ⟨knw rfl rfl rfl (p_ldb_one (i := 1) hS rfl rfl ia_34 rfl), ⟨knw rfl rfl rfl (p_fldb (o' := 2) rfl fi_36_2 rfl), trivial⟩⟩⟩, ?_⟩
          refine pkE [2, 1, 0] rfl (by decide) (by kernel_rfl) (by kernel_rfl) (e_bslice (kd := (Kd.int .i64)) (et := 3) (ps := [(0, (.const (.int .i64 0))), (1, (.const (.int .i64 1))), (2, (.const (.int .i64 2))), (3, (.const (.int .i64 3))), (4, (.const (.int .i64 5))), (5, (.const (.int .i64 8))), (6, (.const (.int .i64 12))), (7, (.const (.int .i64 31))), (8, (.tmp 36))]) (vs := [(0, (.int .i64 0)), (1, (.int .i64 1)), (2, (.int .i64 2)), (3, (.int .i64 3)), (4, (.int .i64 5)), (5, (.int .i64 8)), (6, (.int .i64 12)), (7, (.int .i64 31)), (8, (.int .i64 x12.1))]) (cs := [(.int .i64 0), (.int .i64 1), (.int .i64 2), (.int .i64 3), (.int .i64 5), (.int .i64 8), (.int .i64 12), (.int .i64 31), (.int .i64 x12.1)]) (xs := ([0, 1, 2, 3, 5, 8, 12, 31, x12.1] : List Int)) hS rfl (by intro w; kernel_rfl) rfl (by decide) (Nat.le_of_ble_eq_true rfl) (by exact (rows_cons (kd := (Kd.int .i64)) (x := 0) (c := [(.int .i64 0)]) (cs := [(.int .i64 1), (.int .i64 2), (.int .i64 3), (.int .i64 5), (.int .i64 8), (.int .i64 12), (.int .i64 31), (.int .i64 x12.1)]) rfl (rows_cons (kd := (Kd.int .i64)) (x := 1) (c := [(.int .i64 1)]) (cs := [(.int .i64 2), (.int .i64 3), (.int .i64 5), (.int .i64 8), (.int .i64 12), (.int .i64 31), (.int .i64 x12.1)]) rfl (rows_cons (kd := (Kd.int .i64)) (x := 2) (c := [(.int .i64 2)]) (cs := [(.int .i64 3), (.int .i64 5), (.int .i64 8), (.int .i64 12), (.int .i64 31), (.int .i64 x12.1)]) rfl (rows_cons (kd := (Kd.int .i64)) (x := 3) (c := [(.int .i64 3)]) (cs := [(.int .i64 5), (.int .i64 8), (.int .i64 12), (.int .i64 31), (.int .i64 x12.1)]) rfl (rows_cons (kd := (Kd.int .i64)) (x := 5) (c := [(.int .i64 5)]) (cs := [(.int .i64 8), (.int .i64 12), (.int .i64 31), (.int .i64 x12.1)]) rfl (rows_cons (kd := (Kd.int .i64)) (x := 8) (c := [(.int .i64 8)]) (cs := [(.int .i64 12), (.int .i64 31), (.int .i64 x12.1)]) rfl (rows_cons (kd := (Kd.int .i64)) (x := 12) (c := [(.int .i64 12)]) (cs := [(.int .i64 31), (.int .i64 x12.1)]) rfl (rows_cons (kd := (Kd.int .i64)) (x := 31) (c := [(.int .i64 31)]) (cs := [(.int .i64 x12.1)]) rfl (rows_cons (kd := (Kd.int .i64)) (x := x12.1) (c := [(.int .i64 x12.1)]) (cs := []) rfl (Rows.nil _ _ _ _)))))))))))) ?_
          intro v19 w hR
          have hS : St e s12 w [Ow (Kd.int .i64) 3 v19 ([0, 1, 2, 3, 5, 8, 12, 31, x12.1] : List Int), pt g1 139 ([v18, (.int .i64 x12.2.2.1), (.int .i64 x12.2.2.2)]), pt g3 36 ([(.int .i64 (w64 (1 + x1.1))), v3, v17]), Ow (Kd.int .i64) 3 v17 x10, Ow (Kd.int .i64) 3 v3 x2, pt g2 36 ([(.int .i64 0), (.slice none 0 0), (.slice none 0 0)])] := hR
          refine ⟨⟨knw rfl rfl rfl (p_move rfl), ⟨knw rfl rfl rfl (p_ldb_one (i := 2) hS rfl rfl ia_34 rfl), ⟨knw rfl rfl rfl (p_fldb (o' := 2) rfl fi_36_2 rfl), trivial⟩⟩⟩, ?_⟩
          obtain ⟨s13, hg11, h12, hS⟩ := hS.freeze (i := 0) (kd := (Kd.int .i64)) (et := 3) (v := v19) (xs := ([0, 1, 2, 3, 5, 8, 12, 31, x12.1] : List Int)) (B := [pt g1 139 ([v18, (.int .i64 x12.2.2.1), (.int .i64 x12.2.2.2)]), pt g3 36 ([(.int .i64 (w64 (1 + x1.1))), v3, v17]), Ow (Kd.int .i64) 3 v17 x10, Ow (Kd.int .i64) 3 v3 x2, pt g2 36 ([(.int .i64 0), (.slice none 0 0), (.slice none 0 0)])]) rfl
          obtain ⟨x13, hx7, H⟩ := hb H
          refine pkE [1, 0] rfl (by decide) (by kernel_rfl) (by kernel_rfl) (e_callA (fst := []) (vs := [(.pointer (some ⟨g1, 0, none⟩)), v19]) (cap := []) rfl rfl go_92 (St.call (A := [pt g1 139 ([v18, (.int .i64 x12.2.2.1), (.int .i64 x12.2.2.2)])]) (B := [pt g3 36 ([(.int .i64 (w64 (1 + x1.1))), v3, v17]), Ow (Kd.int .i64) 3 v17 x10, Ow (Kd.int .i64) 3 v3 x2, pt g2 36 ([(.int .i64 0), (.slice none 0 0), (.slice none 0 0)])]) hS (spec_l1Int.spec k2 _ _ x12.2.1 x12.2.2.1 x12.2.2.2 ([0, 1, 2, 3, 5, 8, 12, 31, x12.1] : List Int) v18 g1 v19 (h11.mono hg11) h12 _ hx7)) rfl) ?_
          intro v w hR
          obtain ⟨s14, A8, hg12, hS, hR⟩ := hR
          obtain ⟨v20, hv7, rfl, h13⟩ := hR; obtain rfl := hv7.symm
          have hS : St e s14 w [pt g1 139 ([v20, (.int .i64 x13.2.2.1), (.int .i64 x13.2.2.2)]), pt g3 36 ([(.int .i64 (w64 (1 + x1.1))), v3, v17]), Ow (Kd.int .i64) 3 v17 x10, Ow (Kd.int .i64) 3 v3 x2, pt g2 36 ([(.int .i64 0), (.slice none 0 0), (.slice none 0 0)])] := hS
          refine ⟨⟨knw rfl rfl rfl (p_ldb_one (i := 1) hS rfl rfl ia_34 rfl), ⟨knw rfl rfl rfl (p_fldb (o' := 2) rfl fi_36_2 rfl), trivial⟩⟩, ?_⟩
          refine pkE [1, 0] rfl (by decide) (by kernel_rfl) (by kernel_rfl) (e_bslice (kd := (Kd.int .i64)) (et := 3) (ps := [(0, (.tmp 38))]) (vs := [(0, (.int .i64 x13.1))]) (cs := [(.int .i64 x13.1)]) (xs := ([x13.1] : List Int)) hS rfl (by intro w; kernel_rfl) rfl (by decide) (Nat.le_of_ble_eq_true rfl) (by exact (rows_cons (kd := (Kd.int .i64)) (x := x13.1) (c := [(.int .i64 x13.1)]) (cs := []) rfl (Rows.nil _ _ _ _)))) ?_
          intro v21 w hR
          have hS : St e s14 w [Ow (Kd.int .i64) 3 v21 ([x13.1] : List Int), pt g1 139 ([v20, (.int .i64 x13.2.2.1), (.int .i64 x13.2.2.2)]), pt g3 36 ([(.int .i64 (w64 (1 + x1.1))), v3, v17]), Ow (Kd.int .i64) 3 v17 x10, Ow (Kd.int .i64) 3 v3 x2, pt g2 36 ([(.int .i64 0), (.slice none 0 0), (.slice none 0 0)])] := hR
          refine ⟨⟨knw rfl rfl rfl (p_ldb_one (i := 2) hS rfl rfl ia_34 rfl), ⟨knw rfl rfl rfl (p_fldb (o' := 2) rfl fi_36_2 rfl), trivial⟩⟩, ?_⟩
          obtain ⟨hq2, H⟩ := hck H
          refine pkE [0] rfl (by decide) (by kernel_rfl) (by kernel_rfl) (e_append (n := 3) hS rfl rfl rfl (hS.src (n := 0) rfl) un_34 ti_3 rfl (by decide) (by decide) (Nat.le_trans (Nat.mul_le_mul_right 8 hq2) (by decide))) ?_
          intro v22 w hR
          have hS : St e s14 w [Ow (Kd.int .i64) 3 v22 (x10 ++ ([x13.1] : List Int)), Ow (Kd.int .i64) 3 v21 ([x13.1] : List Int), pt g1 139 ([v20, (.int .i64 x13.2.2.1), (.int .i64 x13.2.2.2)]), pt g3 36 ([(.int .i64 (w64 (1 + x1.1))), v3, v17]), Ow (Kd.int .i64) 3 v3 x2, pt g2 36 ([(.int .i64 0), (.slice none 0 0), (.slice none 0 0)])] := hR
          replace hS := hS.sel (is := [0, 1, 1, 1, 1]) (A' := [Ow (Kd.int .i64) 3 v22 (x10 ++ ([x13.1] : List Int)), pt g1 139 ([v20, (.int .i64 x13.2.2.1), (.int .i64 x13.2.2.2)]), pt g3 36 ([(.int .i64 (w64 (1 + x1.1))), v3, v17]), Ow (Kd.int .i64) 3 v3 x2, pt g2 36 ([(.int .i64 0), (.slice none 0 0), (.slice none 0 0)])]) rfl
          refine ⟨⟨knw rfl rfl rfl (p_fldb (o' := 2) rfl fi_36_2 rfl), trivial⟩, ?_⟩
          refine pk1 rfl (by decide) rfl (by kernel_rfl) rfl (p_fldb (o' := 2) rfl fi_36_2 rfl) ?_
          refine pkE0 [] rfl (by kernel_rfl) (by kernel_rfl) (e_stb (i := 2) (l := [(.int .i64 (w64 (1 + x1.1))), v3]) (m := [v17]) (r := []) (m' := [v22]) (cs' := [(.int .i64 (w64 (1 + x1.1))), v3, v22]) hS rfl rfl rfl ti_34 rfl rfl rfl (cells_one (hS.one_ow (i := 0) rfl)) rfl (one_cons (hS.one_ow (i := 0) rfl) one_nil) rfl) ?_
          intro v w hR
          have hS : St e s14 w [pt g3 36 ([(.int .i64 (w64 (1 + x1.1))), v3, v22]), Ow (Kd.int .i64) 3 v22 (x10 ++ ([x13.1] : List Int)), pt g1 139 ([v20, (.int .i64 x13.2.2.1), (.int .i64 x13.2.2.2)]), Ow (Kd.int .i64) 3 v3 x2, pt g2 36 ([(.int .i64 0), (.slice none 0 0), (.slice none 0 0)])] := hR
          refine ⟨trivial, ?_⟩
          refine pkF (fun a hF => ?_)
          refine bn (xn ?_)
          refine rg ?_
          refine stp hF (p_move rfl) (by decide) (fun a hF => ?_)
          refine stp hF (p_sub (c := w64 (x11 - 1)) rfl rfl rfl) (by decide) (fun a hF => ?_)
          refine stp hF (p_assign rfl) (by decide) (fun a hF => ?_)
          refine nilN ?_
          refine xn ?_
          replace hS := hS.sel (is := [2, 0, 0, 0, 0]) (A' := [pt g1 139 ([v20, (.int .i64 x13.2.2.1), (.int .i64 x13.2.2.2)]), pt g3 36 ([(.int .i64 (w64 (1 + x1.1))), v3, v22]), Ow (Kd.int .i64) 3 v22 (x10 ++ ([x13.1] : List Int)), Ow (Kd.int .i64) 3 v3 x2, pt g2 36 ([(.int .i64 0), (.slice none 0 0), (.slice none 0 0)])]) rfl
          exact ⟨x13.2.1, x13.2.2.1, x13.2.2.2, (x10 ++ ([x13.1] : List Int)), (w64 (x11 - 1)), s14, v20, v22, hS, hF.cut ⟨rfl, rfl, rfl, rfl, trivial⟩, (((hg9.trans hg10).trans hg11).trans hg12), h13, H⟩
        · replace H := hbf hc2 H
          refine exi ?_
          refine xe (xe (hit (xn ?_)))
          obtain rfl := hsm H
          replace hS := hS.sel (is := [1, 1, 1, 0, 0]) (A' := [pt g3 36 ([(.int .i64 (w64 (1 + x1.1))), v3, v17]), Ow (Kd.int .i64) 3 v17 x10, Ow (Kd.int .i64) 3 v3 x2, pt g1 139 ([v16, (.int .i64 x8), (.int .i64 x9)]), pt g2 36 ([(.int .i64 0), (.slice none 0 0), (.slice none 0 0)])]) rfl
          exact ⟨x10, x7, x8, x9, s11, v17, v16, hS, hF.cut ⟨rfl, rfl, trivial⟩, (hg8.trans hg9), h10, HK2⟩
    · clear H HK2 hS hF
      rintro a w ⟨x3, x4, x5, x6, s9, v13, v14, hS, hF, hg13, h14, H⟩
      unfold spec_l2Obj.c1 at H
      refine sq ?_
      refine rg ?_
      refine stp hF (p_ldb_agg (i := 0) (l := []) (m := [(.int .i64 (w64 (1 + x1.1))), v3, v13]) (r := []) hS rfl rfl ia_36 ti_36 rfl rfl rfl) (by decide) (fun a hF => ?_)
      refine ste0 hF (e_stb (i := 4) (l := []) (m := [(.int .i64 0), (.slice none 0 0), (.slice none 0 0)]) (r := []) (m' := [(.int .i64 (w64 (1 + x1.1))), v3, v13]) (cs' := [(.int .i64 (w64 (1 + x1.1))), v3, v13]) hS rfl rfl rfl ti_36 rfl rfl rfl rfl rfl (one_cons rfl (one_cons (hS.one_ow (i := 2) rfl) (one_cons (hS.one_ow (i := 1) rfl) one_nil))) rfl) (fun v w a hR hF => ?_)
      have hS : St e s9 w [pt g2 36 ([(.int .i64 (w64 (1 + x1.1))), v3, v13]), pt g3 36 ([(.int .i64 (w64 (1 + x1.1))), v3, v13]), Ow (Kd.int .i64) 3 v13 x3, Ow (Kd.int .i64) 3 v3 x2, pt g1 139 ([v14, (.int .i64 x5), (.int .i64 x6)])] := hR
      refine nilN ?_
      refine xn ?_
      refine rt ?_
      obtain rfl := hsm H
      have h15 : RvOk Try.prog _ w (.cell 2 36) _ := rvC (i := 0) hS rfl (show lk [(2, (.pointer (some ⟨g2, 0, none⟩)))] 2 = _ from rfl) ia_36 ti_36 rfl
      replace hS := hS.sel (is := [4, 3, 2]) (A' := [pt g1 139 ([v14, (.int .i64 x5), (.int .i64 x6)]), Ow (Kd.int .i64) 3 v3 x2, Ow (Kd.int .i64) 3 v13 x3]) rfl
      exact retc1 hF rfl h15 hS ⟨v14, v3, v13, rfl, rfl, h14⟩

def spec_l3DrawSlot.f (k : Nat) (x1 : (List Int)) (x2 : Int) (x3 : Int) : Option (TSlot × (List Int) × Int × Int) :=
  ((spec_l1Once.f k x1 x2 x3 3).bind fun x4 => (if x4.1 = true then (some ((⟨false, (⟨0, ([] : List Int), ([] : List Int)⟩ : TObj)⟩ : TSlot), x4.2.1, x4.2.2.1, x4.2.2.2)) else ((spec_l2Obj.f k x4.2.1 x4.2.2.1 x4.2.2.2).bind fun x5 => (some ((⟨true, (⟨x5.1.Kind, x5.1.Ints, x5.1.Refs⟩ : TObj)⟩ : TSlot), x5.2.1, x5.2.2.1, x5.2.2.2)))))
set_option maxRecDepth 100000 in
set_option maxHeartbeats 4000000 in
theorem spec_l3DrawSlot.spec (k : Nat) (s0 : HF) (w : World) (x1 : (List Int)) (x2 : Int) (x3 : Int) (v1 : Value) (g1 : Nat) (h1 : Sl (Kd.int .u8) s0 v1 x1) (r : TSlot × (List Int) × Int × Int) (H : spec_l3DrawSlot.f k x1 x2 x3 = some r) :
    Law Try.prog 90 #[(.pointer (some ⟨g1, 0, none⟩))] s0 w [pt g1 139 ([v1, (.int .i64 x2), (.int .i64 x3)])] (fun v s1 A1 => ∃ (u0 : Value) (u1 : Value) (u2 : Value), v = (.agg #[(.bool r.1.Has), (.int .i64 r.1.O.Kind), u1, u2]) ∧ A1 = [pt g1 139 ([u0, (.int .i64 r.2.2.1), (.int .i64 r.2.2.2)]), Ow (Kd.int .i64) 3 u1 r.1.O.Ints, Ow (Kd.int .i64) 3 u2 r.1.O.Refs] ∧ Sl (Kd.int .u8) s1 u0 r.2.1) := by
  unfold spec_l3DrawSlot.f at H
  refine Law.intro Try.func90 rfl [(0, (.pointer (some ⟨g1, 0, none⟩)))] (Nat.le_of_ble_eq_true rfl) (enter_lk ⟨rfl, trivial⟩) (fun e a hS hF => ?_)
  have hF : Fr 9 a [(0, (.pointer (some ⟨g1, 0, none⟩)))] := hF
  refine sq ?_
  refine rg ?_
  refine ste hF (e_alloc (cs := [(.bool false), (.int .i64 0), (.slice none 0 0), (.slice none 0 0)]) hS ti_38 rfl) (by decide) (fun v w a hR hF => ?_)
  obtain ⟨g2, rfl, hS⟩ := hR
  refine nilN ?_
  refine xn ?_
  refine sq ?_
  refine sq ?_
  refine rg ?_
  refine stp hF (p_move rfl) (by decide) (fun a hF => ?_)
  replace hS := hS.sel (is := [1, 0]) (A' := [pt g1 139 ([v1, (.int .i64 x2), (.int .i64 x3)]), pt g2 38 ([(.bool false), (.int .i64 0), (.slice none 0 0), (.slice none 0 0)])]) rfl
  obtain ⟨x4, hx1, H⟩ := hb H
  refine ste hF (e_callA (fst := []) (vs := [(.pointer (some ⟨g1, 0, none⟩)), (.int .i64 3)]) (cap := []) rfl rfl go_91 (St.call (A := [pt g1 139 ([v1, (.int .i64 x2), (.int .i64 x3)])]) (B := [pt g2 38 ([(.bool false), (.int .i64 0), (.slice none 0 0), (.slice none 0 0)])]) hS (spec_l1Once.spec k _ _ x1 x2 x3 3 v1 g1 h1 _ hx1)) rfl) (by decide) (fun v w a hR hF => ?_)
  obtain ⟨s2, A2, hg1, hS, hR⟩ := hR
  obtain ⟨v2, hv1, rfl, h2⟩ := hR; obtain rfl := hv1.symm
  have hS : St e s2 w [pt g1 139 ([v2, (.int .i64 x4.2.2.1), (.int .i64 x4.2.2.2)]), pt g2 38 ([(.bool false), (.int .i64 0), (.slice none 0 0), (.slice none 0 0)])] := hS
  refine nilN ?_
  refine xn ?_
  refine cnd hF rfl (fun hc1 => ?_) (fun hc1 => ?_)
  · replace H := hbt hc1 H
    refine sq ?_
    refine rg ?_
    refine stp hF (p_build (ps := []) (vs := []) (v := (.agg #[(.bool false), (.int .i64 0), (.slice none 0 0), (.slice none 0 0)])) rfl (by intro w; kernel_rfl)) (by decide) (fun a hF => ?_)
    refine ste0 hF (e_stb (i := 1) (l := []) (m := [(.bool false), (.int .i64 0), (.slice none 0 0), (.slice none 0 0)]) (r := []) (m' := [(.bool false), (.int .i64 0), (.slice none 0 0), (.slice none 0 0)]) (cs' := [(.bool false), (.int .i64 0), (.slice none 0 0), (.slice none 0 0)]) hS rfl rfl rfl ti_38 rfl rfl rfl rfl rfl (one_cons rfl (one_cons rfl (one_cons rfl (one_cons rfl one_nil)))) rfl) (fun v w a hR hF => ?_)
    have hS : St e s2 w [pt g2 38 ([(.bool false), (.int .i64 0), (.slice none 0 0), (.slice none 0 0)]), pt g1 139 ([v2, (.int .i64 x4.2.2.1), (.int .i64 x4.2.2.2)])] := hR
    refine nilN ?_
    refine xn ?_
    refine rt ?_
    refine xr ?_
    obtain rfl := hsm H
    have h3 : RvOk Try.prog _ w (.cell 2 38) _ := rvC (i := 0) hS rfl (show lk [(2, (.pointer (some ⟨g2, 0, none⟩)))] 2 = _ from rfl) ia_38 ti_38 rfl
    replace hS := hS.ownNil (Kd.int .i64) 3 none
    replace hS := hS.ownNil (Kd.int .i64) 3 none
    replace hS := hS.sel (is := [3, 1, 0]) (A' := [pt g1 139 ([v2, (.int .i64 x4.2.2.1), (.int .i64 x4.2.2.2)]), Ow (Kd.int .i64) 3 (.slice none 0 0) ([] : List Int), Ow (Kd.int .i64) 3 (.slice none 0 0) ([] : List Int)]) rfl
    exact retc1 hF rfl h3 hS ⟨v2, (.slice none 0 0), (.slice none 0 0), rfl, rfl, h2⟩
  · replace H := hbf hc1 H
    refine skN ?_
    refine xn ?_
    refine sq ?_
    refine rg ?_
    refine stp hF (p_move rfl) (by decide) (fun a hF => ?_)
    obtain ⟨x5, hx2, H⟩ := hb H
    refine ste hF (e_callA (fst := []) (vs := [(.pointer (some ⟨g1, 0, none⟩))]) (cap := []) rfl rfl go_147 (St.call (A := [pt g1 139 ([v2, (.int .i64 x4.2.2.1), (.int .i64 x4.2.2.2)])]) (B := [pt g2 38 ([(.bool false), (.int .i64 0), (.slice none 0 0), (.slice none 0 0)])]) hS (spec_l2Obj.spec k _ _ x4.2.1 x4.2.2.1 x4.2.2.2 v2 g1 h2 _ hx2)) rfl) (by decide) (fun v w a hR hF => ?_)
    obtain ⟨s3, A3, hg2, hS, hR⟩ := hR
    obtain ⟨v3, v4, v5, hv2, rfl, h4⟩ := hR; obtain rfl := hv2.symm
    have hS : St e s3 w [pt g1 139 ([v3, (.int .i64 x5.2.2.1), (.int .i64 x5.2.2.2)]), Ow (Kd.int .i64) 3 v4 x5.1.Ints, Ow (Kd.int .i64) 3 v5 x5.1.Refs, pt g2 38 ([(.bool false), (.int .i64 0), (.slice none 0 0), (.slice none 0 0)])] := hS
    refine stp hF (p_build (ps := [(0, (.const (.bool true))), (1, (.tmp 7))]) (vs := [(0, (.bool true)), (1, (.agg #[(.int .i64 x5.1.Kind), v4, v5]))]) (v := (.agg #[(.bool true), (.int .i64 x5.1.Kind), v4, v5])) rfl (by intro w; obtain ⟨_, _, _, e1⟩ := hS.el (i := 1) rfl; rw [e1]; obtain ⟨_, _, _, e2⟩ := hS.el (i := 2) rfl; rw [e2]; kernel_rfl)) (by decide) (fun a hF => ?_)
    refine ste0 hF (e_stb (i := 3) (l := []) (m := [(.bool false), (.int .i64 0), (.slice none 0 0), (.slice none 0 0)]) (r := []) (m' := [(.bool true), (.int .i64 x5.1.Kind), v4, v5]) (cs' := [(.bool true), (.int .i64 x5.1.Kind), v4, v5]) hS rfl rfl rfl ti_38 rfl rfl rfl rfl rfl (one_cons rfl (one_cons rfl (one_cons (hS.one_ow (i := 1) rfl) (one_cons (hS.one_ow (i := 2) rfl) one_nil)))) rfl) (fun v w a hR hF => ?_)
    have hS : St e s3 w [pt g2 38 ([(.bool true), (.int .i64 x5.1.Kind), v4, v5]), pt g1 139 ([v3, (.int .i64 x5.2.2.1), (.int .i64 x5.2.2.2)]), Ow (Kd.int .i64) 3 v4 x5.1.Ints, Ow (Kd.int .i64) 3 v5 x5.1.Refs] := hR
    refine nilN ?_
    refine xn ?_
    refine rt ?_
    obtain rfl := hsm H
    have h5 : RvOk Try.prog _ w (.cell 2 38) _ := rvC (i := 0) hS rfl (show lk [(2, (.pointer (some ⟨g2, 0, none⟩)))] 2 = _ from rfl) ia_38 ti_38 rfl
    replace hS := hS.sel (is := [1, 1, 1]) (A' := [pt g1 139 ([v3, (.int .i64 x5.2.2.1), (.int .i64 x5.2.2.2)]), Ow (Kd.int .i64) 3 v4 x5.1.Ints, Ow (Kd.int .i64) 3 v5 x5.1.Refs]) rfl
    exact retc1 hF rfl h5 hS ⟨v3, v4, v5, rfl, rfl, h4⟩

def spec_l4Draw.c1 (k : Nat) (x1 : Int × (List Int) × Int × Int) (x2 : Int × (List Int) × Int × Int) (x3 : Int) (x4 : Int) (x5 : Int) (x6 : Bool) (x7 : Int) (x8 : (List Int)) (x9 : (List Int)) (x10 : Bool) (x11 : Int) (x12 : (List Int)) (x13 : (List Int)) (x14 : Int) (x15 : (List TLive)) (x16 : (List Int)) (x17 : Int) (x18 : Int) : Option (TRec × (List Int) × Int × Int) :=
  (some ((⟨w64 (5 + x1.1), x3, x4, w64 (1 + x2.1), x5, (⟨x6, (⟨x7, x8, x9⟩ : TObj)⟩ : TSlot), (⟨x10, (⟨x11, x12, x13⟩ : TObj)⟩ : TSlot), x14, x15⟩ : TRec), x16, x17, x18))
def spec_l4Draw.c2 (k : Nat) (rec_l1 : (List TLive) → (List Int) → Int → Int → Int → Option (Int × Int × Int × Bool × Int × (List Int) × (List Int) × Bool × Int × (List Int) × (List Int) × Int × (List TLive) × (List Int) × Int × Int)) (x19 : Int) (x20 : (List TLive)) (x21 : (List Int)) (x22 : Int) (x23 : Int) : Option (Int × Int × Int × Bool × Int × (List Int) × (List Int) × Bool × Int × (List Int) × (List Int) × Int × (List TLive) × (List Int) × Int × Int) :=
  (rec_l1 x20 x21 x22 x23 (w64 (x19 + 1)))
def spec_l4Draw.l1 : Nat → (List TLive) → (List Int) → Int → Int → Int → Option (Int × Int × Int × Bool × Int × (List Int) × (List Int) × Bool × Int × (List Int) × (List Int) × Int × (List TLive) × (List Int) × Int × Int)
  | 0, _, _, _, _, _ => none
  | k + 1, x24, x25, x26, x27, x19 => (if (decide (x19 < 5)) = true then ((((spec_l1Once.f k x25 x26 x27 2).bind fun x28 => (if x28.1 = true then ((spec_l1Below.f k x28.2.1 x28.2.2.1 x28.2.2.2 4).bind fun x29 => ((spec_l1Once.f k x29.2.1 x29.2.2.1 x29.2.2.2 2).bind fun x30 => (if x24.length + 1 ≤ 5864062014805 then (some ((x24 ++ ([(⟨x19, w64 (1 + x29.1), x30.1⟩ : TLive)] : List TLive)), x30.2.1, x30.2.2.1, x30.2.2.2)) else none))) else (some (x24, x28.2.1, x28.2.2.1, x28.2.2.2)))) : Option ((List TLive) × (List Int) × Int × Int)).bind fun x31 => spec_l4Draw.c2 k (spec_l4Draw.l1 k) x19 x31.1 x31.2.1 x31.2.2.1 x31.2.2.2) else (some (0, 0, 0, false, 0, ([] : List Int), ([] : List Int), false, 0, ([] : List Int), ([] : List Int), 0, x24, x25, x26, x27)))
def spec_l4Draw.f (k : Nat) (x32 : (List Int)) (x33 : Int) (x34 : Int) : Option (TRec × (List Int) × Int × Int) :=
  ((spec_l1Below.f k x32 x33 x34 40).bind fun x1 => ((spec_l1Below.f k x1.2.1 x1.2.2.1 x1.2.2.2 4).bind fun x35 => ((spec_l1Below.f k x35.2.1 x35.2.2.1 x35.2.2.2 6).bind fun x2 => ((spec_l1Int.f k x2.2.1 x2.2.2.1 x2.2.2.2 ([0, 1, 4, w64 ((w64 (5 + x1.1)) - 1)] : List Int)).bind fun x36 => (((if (decide ((w64 (1 + x2.1)) = 1)) = true then ((spec_l1Below.f k x36.2.1 x36.2.2.1 x36.2.2.2 31).bind fun x37 => ((spec_l3DrawSlot.f k x37.2.1 x37.2.2.1 x37.2.2.2).bind fun x38 => ((spec_l3DrawSlot.f k x38.2.1 x38.2.2.1 x38.2.2.2).bind fun x39 => (some (w64 (1 + x35.1), x36.1, w64 (1 + x37.1), x38.1.Has, x38.1.O.Kind, x38.1.O.Ints, x38.1.O.Refs, x39.1.Has, x39.1.O.Kind, x39.1.O.Ints, x39.1.O.Refs, 0, ([] : List TLive), x39.2.1, x39.2.2.1, x39.2.2.2))))) else (if (decide ((w64 (1 + x2.1)) = 4)) = true then ((spec_l1Below.f k x36.2.1 x36.2.2.1 x36.2.2.2 31).bind fun x40 => ((spec_l3DrawSlot.f k x40.2.1 x40.2.2.1 x40.2.2.2).bind fun x41 => ((spec_l1Int.f k x41.2.1 x41.2.2.1 x41.2.2.2 ([0, 1, w64 ((w64 (5 + x1.1)) - 1)] : List Int)).bind fun x42 => (some (w64 (1 + x35.1), x36.1, w64 (1 + x40.1), false, 0, ([] : List Int), ([] : List Int), x41.1.Has, x41.1.O.Kind, x41.1.O.Ints, x41.1.O.Refs, x42.1, ([] : List TLive), x42.2.1, x42.2.2.1, x42.2.2.2))))) else (if (decide ((w64 (1 + x2.1)) = 6)) = true then (spec_l4Draw.l1 k ([] : List TLive) x36.2.1 x36.2.2.1 x36.2.2.2 1) else (some (w64 (1 + x35.1), x36.1, 0, false, 0, ([] : List Int), ([] : List Int), false, 0, ([] : List Int), ([] : List Int), 0, ([] : List TLive), x36.2.1, x36.2.2.1, x36.2.2.2))))) : Option (Int × Int × Int × Bool × Int × (List Int) × (List Int) × Bool × Int × (List Int) × (List Int) × Int × (List TLive) × (List Int) × Int × Int)).bind fun x43 => spec_l4Draw.c1 k x1 x2 x43.1 x43.2.1 x43.2.2.1 x43.2.2.2.1 x43.2.2.2.2.1 x43.2.2.2.2.2.1 x43.2.2.2.2.2.2.1 x43.2.2.2.2.2.2.2.1 x43.2.2.2.2.2.2.2.2.1 x43.2.2.2.2.2.2.2.2.2.1 x43.2.2.2.2.2.2.2.2.2.2.1 x43.2.2.2.2.2.2.2.2.2.2.2.1 x43.2.2.2.2.2.2.2.2.2.2.2.2.1 x43.2.2.2.2.2.2.2.2.2.2.2.2.2.1 x43.2.2.2.2.2.2.2.2.2.2.2.2.2.2.1 x43.2.2.2.2.2.2.2.2.2.2.2.2.2.2.2)))))
set_option maxRecDepth 100000 in
set_option maxHeartbeats 4000000 in
theorem spec_l4Draw.spec (k : Nat) (s0 : HF) (w : World) (x32 : (List Int)) (x33 : Int) (x34 : Int) (v1 : Value) (g1 : Nat) (h1 : Sl (Kd.int .u8) s0 v1 x32) (r : TRec × (List Int) × Int × Int) (H : spec_l4Draw.f k x32 x33 x34 = some r) :
    Law Try.prog 137 #[(.pointer (some ⟨g1, 0, none⟩))] s0 w [pt g1 139 ([v1, (.int .i64 x33), (.int .i64 x34)])] (fun v s1 A1 => ∃ (u0 : Value) (u1 : Value) (u2 : Value) (u3 : Value) (u4 : Value) (u5 : Value), v = (.agg #[(.int .i64 r.1.Lsn), (.int .i64 r.1.Tx), (.int .i64 r.1.Prev), (.int .i64 r.1.Kind), (.int .i64 r.1.Oid), (.bool r.1.Before.Has), (.int .i64 r.1.Before.O.Kind), u1, u2, (.bool r.1.After.Has), (.int .i64 r.1.After.O.Kind), u3, u4, (.int .i64 r.1.Next), u5]) ∧ A1 = [pt g1 139 ([u0, (.int .i64 r.2.2.1), (.int .i64 r.2.2.2)]), Ow (Kd.int .i64) 3 u1 r.1.Before.O.Ints, Ow (Kd.int .i64) 3 u2 r.1.Before.O.Refs, Ow (Kd.int .i64) 3 u3 r.1.After.O.Ints, Ow (Kd.int .i64) 3 u4 r.1.After.O.Refs, Ow kTLive 91 u5 r.1.Txs] ∧ Sl (Kd.int .u8) s1 u0 r.2.1) := by
  unfold spec_l4Draw.f at H
  refine Law.intro Try.func137 rfl [(0, (.pointer (some ⟨g1, 0, none⟩)))] (Nat.le_of_ble_eq_true rfl) (enter_lk ⟨rfl, trivial⟩) (fun e a hS hF => ?_)
  have hF : Fr 75 a [(0, (.pointer (some ⟨g1, 0, none⟩)))] := hF
  refine sq ?_
  refine rg ?_
  refine ste hF (e_alloc (cs := [(.int .i64 0), (.int .i64 0), (.int .i64 0), (.int .i64 0), (.int .i64 0), (.bool false), (.int .i64 0), (.slice none 0 0), (.slice none 0 0), (.bool false), (.int .i64 0), (.slice none 0 0), (.slice none 0 0), (.int .i64 0), (.slice none 0 0)]) hS ti_41 rfl) (by decide) (fun v w a hR hF => ?_)
  obtain ⟨g2, rfl, hS⟩ := hR
  refine nilN ?_
  refine xn ?_
  refine sq ?_
  refine rg ?_
  refine stp hF (p_move rfl) (by decide) (fun a hF => ?_)
  replace hS := hS.sel (is := [1, 0]) (A' := [pt g1 139 ([v1, (.int .i64 x33), (.int .i64 x34)]), pt g2 41 ([(.int .i64 0), (.int .i64 0), (.int .i64 0), (.int .i64 0), (.int .i64 0), (.bool false), (.int .i64 0), (.slice none 0 0), (.slice none 0 0), (.bool false), (.int .i64 0), (.slice none 0 0), (.slice none 0 0), (.int .i64 0), (.slice none 0 0)])]) rfl
  obtain ⟨x1, hx1, H⟩ := hb H
  refine ste hF (e_callA (fst := []) (vs := [(.pointer (some ⟨g1, 0, none⟩)), (.int .i64 40)]) (cap := []) rfl rfl go_145 (St.call (A := [pt g1 139 ([v1, (.int .i64 x33), (.int .i64 x34)])]) (B := [pt g2 41 ([(.int .i64 0), (.int .i64 0), (.int .i64 0), (.int .i64 0), (.int .i64 0), (.bool false), (.int .i64 0), (.slice none 0 0), (.slice none 0 0), (.bool false), (.int .i64 0), (.slice none 0 0), (.slice none 0 0), (.int .i64 0), (.slice none 0 0)])]) hS (spec_l1Below.spec k _ _ x32 x33 x34 40 v1 g1 h1 _ hx1)) rfl) (by decide) (fun v w a hR hF => ?_)
  obtain ⟨s2, A2, hg1, hS, hR⟩ := hR
  obtain ⟨v2, hv1, rfl, h2⟩ := hR; obtain rfl := hv1.symm
  have hS : St e s2 w [pt g1 139 ([v2, (.int .i64 x1.2.2.1), (.int .i64 x1.2.2.2)]), pt g2 41 ([(.int .i64 0), (.int .i64 0), (.int .i64 0), (.int .i64 0), (.int .i64 0), (.bool false), (.int .i64 0), (.slice none 0 0), (.slice none 0 0), (.bool false), (.int .i64 0), (.slice none 0 0), (.slice none 0 0), (.int .i64 0), (.slice none 0 0)])] := hS
  refine stp hF (p_add (c := w64 (5 + x1.1)) rfl rfl rfl) (by decide) (fun a hF => ?_)
  refine stp hF (p_move rfl) (by decide) (fun a hF => ?_)
  obtain ⟨x35, hx2, H⟩ := hb H
  refine ste hF (e_callA (fst := []) (vs := [(.pointer (some ⟨g1, 0, none⟩)), (.int .i64 4)]) (cap := []) rfl rfl go_145 (St.call (A := [pt g1 139 ([v2, (.int .i64 x1.2.2.1), (.int .i64 x1.2.2.2)])]) (B := [pt g2 41 ([(.int .i64 0), (.int .i64 0), (.int .i64 0), (.int .i64 0), (.int .i64 0), (.bool false), (.int .i64 0), (.slice none 0 0), (.slice none 0 0), (.bool false), (.int .i64 0), (.slice none 0 0), (.slice none 0 0), (.int .i64 0), (.slice none 0 0)])]) hS (spec_l1Below.spec k _ _ x1.2.1 x1.2.2.1 x1.2.2.2 4 v2 g1 h2 _ hx2)) rfl) (by decide) (fun v w a hR hF => ?_)
  obtain ⟨s3, A3, hg2, hS, hR⟩ := hR
  obtain ⟨v3, hv2, rfl, h3⟩ := hR; obtain rfl := hv2.symm
  have hS : St e s3 w [pt g1 139 ([v3, (.int .i64 x35.2.2.1), (.int .i64 x35.2.2.2)]), pt g2 41 ([(.int .i64 0), (.int .i64 0), (.int .i64 0), (.int .i64 0), (.int .i64 0), (.bool false), (.int .i64 0), (.slice none 0 0), (.slice none 0 0), (.bool false), (.int .i64 0), (.slice none 0 0), (.slice none 0 0), (.int .i64 0), (.slice none 0 0)])] := hS
  refine stp hF (p_add (c := w64 (1 + x35.1)) rfl rfl rfl) (by decide) (fun a hF => ?_)
  refine stp hF (p_move rfl) (by decide) (fun a hF => ?_)
  obtain ⟨x2, hx3, H⟩ := hb H
  refine ste hF (e_callA (fst := []) (vs := [(.pointer (some ⟨g1, 0, none⟩)), (.int .i64 6)]) (cap := []) rfl rfl go_145 (St.call (A := [pt g1 139 ([v3, (.int .i64 x35.2.2.1), (.int .i64 x35.2.2.2)])]) (B := [pt g2 41 ([(.int .i64 0), (.int .i64 0), (.int .i64 0), (.int .i64 0), (.int .i64 0), (.bool false), (.int .i64 0), (.slice none 0 0), (.slice none 0 0), (.bool false), (.int .i64 0), (.slice none 0 0), (.slice none 0 0), (.int .i64 0), (.slice none 0 0)])]) hS (spec_l1Below.spec k _ _ x35.2.1 x35.2.2.1 x35.2.2.2 6 v3 g1 h3 _ hx3)) rfl) (by decide) (fun v w a hR hF => ?_)
  obtain ⟨s4, A4, hg3, hS, hR⟩ := hR
  obtain ⟨v4, hv3, rfl, h4⟩ := hR; obtain rfl := hv3.symm
  have hS : St e s4 w [pt g1 139 ([v4, (.int .i64 x2.2.2.1), (.int .i64 x2.2.2.2)]), pt g2 41 ([(.int .i64 0), (.int .i64 0), (.int .i64 0), (.int .i64 0), (.int .i64 0), (.bool false), (.int .i64 0), (.slice none 0 0), (.slice none 0 0), (.bool false), (.int .i64 0), (.slice none 0 0), (.slice none 0 0), (.int .i64 0), (.slice none 0 0)])] := hS
  refine stp hF (p_add (c := w64 (1 + x2.1)) rfl rfl rfl) (by decide) (fun a hF => ?_)
  refine stp hF (p_build (ps := [(0, (.tmp 7)), (1, (.tmp 10)), (3, (.tmp 13))]) (vs := [(0, (.int .i64 (w64 (5 + x1.1)))), (1, (.int .i64 (w64 (1 + x35.1)))), (3, (.int .i64 (w64 (1 + x2.1))))]) (v := (.agg #[(.int .i64 (w64 (5 + x1.1))), (.int .i64 (w64 (1 + x35.1))), (.int .i64 0), (.int .i64 (w64 (1 + x2.1))), (.int .i64 0), (.bool false), (.int .i64 0), (.slice none 0 0), (.slice none 0 0), (.bool false), (.int .i64 0), (.slice none 0 0), (.slice none 0 0), (.int .i64 0), (.slice none 0 0)])) rfl (by intro w; kernel_rfl)) (by decide) (fun a hF => ?_)
  refine ste hF (e_alloc (cs := [(.int .i64 0), (.int .i64 0), (.int .i64 0), (.int .i64 0), (.int .i64 0), (.bool false), (.int .i64 0), (.slice none 0 0), (.slice none 0 0), (.bool false), (.int .i64 0), (.slice none 0 0), (.slice none 0 0), (.int .i64 0), (.slice none 0 0)]) hS ti_41 rfl) (by decide) (fun v w a hR hF => ?_)
  obtain ⟨g3, rfl, hS⟩ := hR
  refine ste0 hF (e_stb (i := 0) (l := []) (m := [(.int .i64 0), (.int .i64 0), (.int .i64 0), (.int .i64 0), (.int .i64 0), (.bool false), (.int .i64 0), (.slice none 0 0), (.slice none 0 0), (.bool false), (.int .i64 0), (.slice none 0 0), (.slice none 0 0), (.int .i64 0), (.slice none 0 0)]) (r := []) (m' := [(.int .i64 (w64 (5 + x1.1))), (.int .i64 (w64 (1 + x35.1))), (.int .i64 0), (.int .i64 (w64 (1 + x2.1))), (.int .i64 0), (.bool false), (.int .i64 0), (.slice none 0 0), (.slice none 0 0), (.bool false), (.int .i64 0), (.slice none 0 0), (.slice none 0 0), (.int .i64 0), (.slice none 0 0)]) (cs' := [(.int .i64 (w64 (5 + x1.1))), (.int .i64 (w64 (1 + x35.1))), (.int .i64 0), (.int .i64 (w64 (1 + x2.1))), (.int .i64 0), (.bool false), (.int .i64 0), (.slice none 0 0), (.slice none 0 0), (.bool false), (.int .i64 0), (.slice none 0 0), (.slice none 0 0), (.int .i64 0), (.slice none 0 0)]) hS rfl rfl rfl ti_41 rfl rfl rfl rfl rfl (one_cons rfl (one_cons rfl (one_cons rfl (one_cons rfl (one_cons rfl (one_cons rfl (one_cons rfl (one_cons rfl (one_cons rfl (one_cons rfl (one_cons rfl (one_cons rfl (one_cons rfl (one_cons rfl (one_cons rfl one_nil))))))))))))))) rfl) (fun v w a hR hF => ?_)
  have hS : St e s4 w [pt g3 41 ([(.int .i64 (w64 (5 + x1.1))), (.int .i64 (w64 (1 + x35.1))), (.int .i64 0), (.int .i64 (w64 (1 + x2.1))), (.int .i64 0), (.bool false), (.int .i64 0), (.slice none 0 0), (.slice none 0 0), (.bool false), (.int .i64 0), (.slice none 0 0), (.slice none 0 0), (.int .i64 0), (.slice none 0 0)]), pt g1 139 ([v4, (.int .i64 x2.2.2.1), (.int .i64 x2.2.2.2)]), pt g2 41 ([(.int .i64 0), (.int .i64 0), (.int .i64 0), (.int .i64 0), (.int .i64 0), (.bool false), (.int .i64 0), (.slice none 0 0), (.slice none 0 0), (.bool false), (.int .i64 0), (.slice none 0 0), (.slice none 0 0), (.int .i64 0), (.slice none 0 0)])] := hR
  refine nilN ?_
  refine xn ?_
  refine sq ?_
  refine rg ?_
  refine stp hF (p_move rfl) (by decide) (fun a hF => ?_)
  refine stp hF (p_fldb (o' := 0) rfl fi_41_0 rfl) (by decide) (fun a hF => ?_)
  refine stp hF (p_ldb_one (i := 0) hS rfl rfl ia_3 rfl) (by decide) (fun a hF => ?_)
  refine stp hF (p_sub (c := w64 ((w64 (5 + x1.1)) - 1)) rfl rfl rfl) (by decide) (fun a hF => ?_)
  refine ste hF (e_bslice (kd := (Kd.int .i64)) (et := 3) (ps := [(0, (.const (.int .i64 0))), (1, (.const (.int .i64 1))), (2, (.const (.int .i64 4))), (3, (.tmp 18))]) (vs := [(0, (.int .i64 0)), (1, (.int .i64 1)), (2, (.int .i64 4)), (3, (.int .i64 (w64 ((w64 (5 + x1.1)) - 1))))]) (cs := [(.int .i64 0), (.int .i64 1), (.int .i64 4), (.int .i64 (w64 ((w64 (5 + x1.1)) - 1)))]) (xs := ([0, 1, 4, w64 ((w64 (5 + x1.1)) - 1)] : List Int)) hS rfl (by intro w; kernel_rfl) rfl (by decide) (Nat.le_of_ble_eq_true rfl) (by exact (rows_cons (kd := (Kd.int .i64)) (x := 0) (c := [(.int .i64 0)]) (cs := [(.int .i64 1), (.int .i64 4), (.int .i64 (w64 ((w64 (5 + x1.1)) - 1)))]) rfl (rows_cons (kd := (Kd.int .i64)) (x := 1) (c := [(.int .i64 1)]) (cs := [(.int .i64 4), (.int .i64 (w64 ((w64 (5 + x1.1)) - 1)))]) rfl (rows_cons (kd := (Kd.int .i64)) (x := 4) (c := [(.int .i64 4)]) (cs := [(.int .i64 (w64 ((w64 (5 + x1.1)) - 1)))]) rfl (rows_cons (kd := (Kd.int .i64)) (x := w64 ((w64 (5 + x1.1)) - 1)) (c := [(.int .i64 (w64 ((w64 (5 + x1.1)) - 1)))]) (cs := []) rfl (Rows.nil _ _ _ _))))))) (by decide) (fun v5 w a hR hF => ?_)
  have hS : St e s4 w [Ow (Kd.int .i64) 3 v5 ([0, 1, 4, w64 ((w64 (5 + x1.1)) - 1)] : List Int), pt g3 41 ([(.int .i64 (w64 (5 + x1.1))), (.int .i64 (w64 (1 + x35.1))), (.int .i64 0), (.int .i64 (w64 (1 + x2.1))), (.int .i64 0), (.bool false), (.int .i64 0), (.slice none 0 0), (.slice none 0 0), (.bool false), (.int .i64 0), (.slice none 0 0), (.slice none 0 0), (.int .i64 0), (.slice none 0 0)]), pt g1 139 ([v4, (.int .i64 x2.2.2.1), (.int .i64 x2.2.2.2)]), pt g2 41 ([(.int .i64 0), (.int .i64 0), (.int .i64 0), (.int .i64 0), (.int .i64 0), (.bool false), (.int .i64 0), (.slice none 0 0), (.slice none 0 0), (.bool false), (.int .i64 0), (.slice none 0 0), (.slice none 0 0), (.int .i64 0), (.slice none 0 0)])] := hR
  obtain ⟨s5, hg4, h5, hS⟩ := hS.freeze (i := 0) (kd := (Kd.int .i64)) (et := 3) (v := v5) (xs := ([0, 1, 4, w64 ((w64 (5 + x1.1)) - 1)] : List Int)) (B := [pt g3 41 ([(.int .i64 (w64 (5 + x1.1))), (.int .i64 (w64 (1 + x35.1))), (.int .i64 0), (.int .i64 (w64 (1 + x2.1))), (.int .i64 0), (.bool false), (.int .i64 0), (.slice none 0 0), (.slice none 0 0), (.bool false), (.int .i64 0), (.slice none 0 0), (.slice none 0 0), (.int .i64 0), (.slice none 0 0)]), pt g1 139 ([v4, (.int .i64 x2.2.2.1), (.int .i64 x2.2.2.2)]), pt g2 41 ([(.int .i64 0), (.int .i64 0), (.int .i64 0), (.int .i64 0), (.int .i64 0), (.bool false), (.int .i64 0), (.slice none 0 0), (.slice none 0 0), (.bool false), (.int .i64 0), (.slice none 0 0), (.slice none 0 0), (.int .i64 0), (.slice none 0 0)])]) rfl
  replace hS := hS.sel (is := [1, 0, 0]) (A' := [pt g1 139 ([v4, (.int .i64 x2.2.2.1), (.int .i64 x2.2.2.2)]), pt g3 41 ([(.int .i64 (w64 (5 + x1.1))), (.int .i64 (w64 (1 + x35.1))), (.int .i64 0), (.int .i64 (w64 (1 + x2.1))), (.int .i64 0), (.bool false), (.int .i64 0), (.slice none 0 0), (.slice none 0 0), (.bool false), (.int .i64 0), (.slice none 0 0), (.slice none 0 0), (.int .i64 0), (.slice none 0 0)]), pt g2 41 ([(.int .i64 0), (.int .i64 0), (.int .i64 0), (.int .i64 0), (.int .i64 0), (.bool false), (.int .i64 0), (.slice none 0 0), (.slice none 0 0), (.bool false), (.int .i64 0), (.slice none 0 0), (.slice none 0 0), (.int .i64 0), (.slice none 0 0)])]) rfl
  obtain ⟨x36, hx4, H⟩ := hb H
  refine ste hF (e_callA (fst := []) (vs := [(.pointer (some ⟨g1, 0, none⟩)), v5]) (cap := []) rfl rfl go_92 (St.call (A := [pt g1 139 ([v4, (.int .i64 x2.2.2.1), (.int .i64 x2.2.2.2)])]) (B := [pt g3 41 ([(.int .i64 (w64 (5 + x1.1))), (.int .i64 (w64 (1 + x35.1))), (.int .i64 0), (.int .i64 (w64 (1 + x2.1))), (.int .i64 0), (.bool false), (.int .i64 0), (.slice none 0 0), (.slice none 0 0), (.bool false), (.int .i64 0), (.slice none 0 0), (.slice none 0 0), (.int .i64 0), (.slice none 0 0)]), pt g2 41 ([(.int .i64 0), (.int .i64 0), (.int .i64 0), (.int .i64 0), (.int .i64 0), (.bool false), (.int .i64 0), (.slice none 0 0), (.slice none 0 0), (.bool false), (.int .i64 0), (.slice none 0 0), (.slice none 0 0), (.int .i64 0), (.slice none 0 0)])]) hS (spec_l1Int.spec k _ _ x2.2.1 x2.2.2.1 x2.2.2.2 ([0, 1, 4, w64 ((w64 (5 + x1.1)) - 1)] : List Int) v4 g1 v5 (h4.mono hg4) h5 _ hx4)) rfl) (by decide) (fun v w a hR hF => ?_)
  obtain ⟨s6, A5, hg5, hS, hR⟩ := hR
  obtain ⟨v6, hv4, rfl, h6⟩ := hR; obtain rfl := hv4.symm
  have hS : St e s6 w [pt g1 139 ([v6, (.int .i64 x36.2.2.1), (.int .i64 x36.2.2.2)]), pt g3 41 ([(.int .i64 (w64 (5 + x1.1))), (.int .i64 (w64 (1 + x35.1))), (.int .i64 0), (.int .i64 (w64 (1 + x2.1))), (.int .i64 0), (.bool false), (.int .i64 0), (.slice none 0 0), (.slice none 0 0), (.bool false), (.int .i64 0), (.slice none 0 0), (.slice none 0 0), (.int .i64 0), (.slice none 0 0)]), pt g2 41 ([(.int .i64 0), (.int .i64 0), (.int .i64 0), (.int .i64 0), (.int .i64 0), (.bool false), (.int .i64 0), (.slice none 0 0), (.slice none 0 0), (.bool false), (.int .i64 0), (.slice none 0 0), (.slice none 0 0), (.int .i64 0), (.slice none 0 0)])] := hS
  refine stp hF (p_fldb (o' := 2) rfl fi_41_2 rfl) (by decide) (fun a hF => ?_)
  refine ste0 hF (e_stb (i := 1) (l := [(.int .i64 (w64 (5 + x1.1))), (.int .i64 (w64 (1 + x35.1)))]) (m := [(.int .i64 0)]) (r := [(.int .i64 (w64 (1 + x2.1))), (.int .i64 0), (.bool false), (.int .i64 0), (.slice none 0 0), (.slice none 0 0), (.bool false), (.int .i64 0), (.slice none 0 0), (.slice none 0 0), (.int .i64 0), (.slice none 0 0)]) (m' := [(.int .i64 x36.1)]) (cs' := [(.int .i64 (w64 (5 + x1.1))), (.int .i64 (w64 (1 + x35.1))), (.int .i64 x36.1), (.int .i64 (w64 (1 + x2.1))), (.int .i64 0), (.bool false), (.int .i64 0), (.slice none 0 0), (.slice none 0 0), (.bool false), (.int .i64 0), (.slice none 0 0), (.slice none 0 0), (.int .i64 0), (.slice none 0 0)]) hS rfl rfl rfl ti_3 rfl rfl rfl rfl rfl (one_cons rfl one_nil) rfl) (fun v w a hR hF => ?_)
  have hS : St e s6 w [pt g3 41 ([(.int .i64 (w64 (5 + x1.1))), (.int .i64 (w64 (1 + x35.1))), (.int .i64 x36.1), (.int .i64 (w64 (1 + x2.1))), (.int .i64 0), (.bool false), (.int .i64 0), (.slice none 0 0), (.slice none 0 0), (.bool false), (.int .i64 0), (.slice none 0 0), (.slice none 0 0), (.int .i64 0), (.slice none 0 0)]), pt g1 139 ([v6, (.int .i64 x36.2.2.1), (.int .i64 x36.2.2.2)]), pt g2 41 ([(.int .i64 0), (.int .i64 0), (.int .i64 0), (.int .i64 0), (.int .i64 0), (.bool false), (.int .i64 0), (.slice none 0 0), (.slice none 0 0), (.bool false), (.int .i64 0), (.slice none 0 0), (.slice none 0 0), (.int .i64 0), (.slice none 0 0)])] := hR
  refine nilN ?_
  refine xn ?_
  obtain ⟨x43, H, HK1⟩ := hb H
  refine sqj (fun a w => ∃ (x3 : Int) (x4 : Int) (x5 : Int) (x6 : Bool) (x7 : Int) (x8 : (List Int)) (x9 : (List Int)) (x10 : Bool) (x11 : Int) (x12 : (List Int)) (x13 : (List Int)) (x14 : Int) (x15 : (List TLive)) (x16 : (List Int)) (x17 : Int) (x18 : Int) (s7 : HF) (v7 : Value) (v8 : Value) (v9 : Value) (v10 : Value) (v11 : Value) (v12 : Value) , St e s7 w [pt g3 41 ([(.int .i64 (w64 (5 + x1.1))), (.int .i64 x3), (.int .i64 x4), (.int .i64 (w64 (1 + x2.1))), (.int .i64 x5), (.bool x6), (.int .i64 x7), v7, v8, (.bool x10), (.int .i64 x11), v9, v10, (.int .i64 x14), v11]), Ow (Kd.int .i64) 3 v7 x8, Ow (Kd.int .i64) 3 v8 x9, Ow (Kd.int .i64) 3 v9 x12, Ow (Kd.int .i64) 3 v10 x13, Ow kTLive 91 v11 x15, pt g1 139 ([v12, (.int .i64 x17), (.int .i64 x18)]), pt g2 41 ([(.int .i64 0), (.int .i64 0), (.int .i64 0), (.int .i64 0), (.int .i64 0), (.bool false), (.int .i64 0), (.slice none 0 0), (.slice none 0 0), (.bool false), (.int .i64 0), (.slice none 0 0), (.slice none 0 0), (.int .i64 0), (.slice none 0 0)])] ∧ Fr 75 a [(2, (.pointer (some ⟨g2, 0, none⟩))), (3, (.pointer (some ⟨g3, 0, none⟩)))] ∧ Sub s6 s7 ∧ Sl (Kd.int .u8) s7 v12 x16 ∧ spec_l4Draw.c1 k x1 x2 x3 x4 x5 x6 x7 x8 x9 x10 x11 x12 x13 x14 x15 x16 x17 x18 = some r) ?_ ?_
  · skip
    refine sq ?_
    refine rg ?_
    refine stp hF (p_fldb (o' := 3) rfl fi_41_3 rfl) (by decide) (fun a hF => ?_)
    refine stp hF (p_ldb_one (i := 0) hS rfl rfl ia_3 rfl) (by decide) (fun a hF => ?_)
    refine nilN ?_
    refine xn ?_
    refine blk ?_
    refine sq ?_
    refine rg ?_
    refine stp hF (p_eql rfl rfl) (by decide) (fun a hF => ?_)
    refine stp hF (p_assign rfl) (by decide) (fun a hF => ?_)
    refine nilN ?_
    refine xn ?_
    refine cnd hF rfl (fun hc1 => ?_) (fun hc1 => ?_)
    · replace H := hbt hc1 H
      refine sq ?_
      refine rg ?_
      refine stp hF (p_move rfl) (by decide) (fun a hF => ?_)
      replace hS := hS.sel (is := [1, 0, 0]) (A' := [pt g1 139 ([v6, (.int .i64 x36.2.2.1), (.int .i64 x36.2.2.2)]), pt g3 41 ([(.int .i64 (w64 (5 + x1.1))), (.int .i64 (w64 (1 + x35.1))), (.int .i64 x36.1), (.int .i64 (w64 (1 + x2.1))), (.int .i64 0), (.bool false), (.int .i64 0), (.slice none 0 0), (.slice none 0 0), (.bool false), (.int .i64 0), (.slice none 0 0), (.slice none 0 0), (.int .i64 0), (.slice none 0 0)]), pt g2 41 ([(.int .i64 0), (.int .i64 0), (.int .i64 0), (.int .i64 0), (.int .i64 0), (.bool false), (.int .i64 0), (.slice none 0 0), (.slice none 0 0), (.bool false), (.int .i64 0), (.slice none 0 0), (.slice none 0 0), (.int .i64 0), (.slice none 0 0)])]) rfl
      obtain ⟨x37, hx5, H⟩ := hb H
      refine ste hF (e_callA (fst := []) (vs := [(.pointer (some ⟨g1, 0, none⟩)), (.int .i64 31)]) (cap := []) rfl rfl go_145 (St.call (A := [pt g1 139 ([v6, (.int .i64 x36.2.2.1), (.int .i64 x36.2.2.2)])]) (B := [pt g3 41 ([(.int .i64 (w64 (5 + x1.1))), (.int .i64 (w64 (1 + x35.1))), (.int .i64 x36.1), (.int .i64 (w64 (1 + x2.1))), (.int .i64 0), (.bool false), (.int .i64 0), (.slice none 0 0), (.slice none 0 0), (.bool false), (.int .i64 0), (.slice none 0 0), (.slice none 0 0), (.int .i64 0), (.slice none 0 0)]), pt g2 41 ([(.int .i64 0), (.int .i64 0), (.int .i64 0), (.int .i64 0), (.int .i64 0), (.bool false), (.int .i64 0), (.slice none 0 0), (.slice none 0 0), (.bool false), (.int .i64 0), (.slice none 0 0), (.slice none 0 0), (.int .i64 0), (.slice none 0 0)])]) hS (spec_l1Below.spec k _ _ x36.2.1 x36.2.2.1 x36.2.2.2 31 v6 g1 h6 _ hx5)) rfl) (by decide) (fun v w a hR hF => ?_)
      obtain ⟨s8, A6, hg6, hS, hR⟩ := hR
      obtain ⟨v13, hv5, rfl, h7⟩ := hR; obtain rfl := hv5.symm
      have hS : St e s8 w [pt g1 139 ([v13, (.int .i64 x37.2.2.1), (.int .i64 x37.2.2.2)]), pt g3 41 ([(.int .i64 (w64 (5 + x1.1))), (.int .i64 (w64 (1 + x35.1))), (.int .i64 x36.1), (.int .i64 (w64 (1 + x2.1))), (.int .i64 0), (.bool false), (.int .i64 0), (.slice none 0 0), (.slice none 0 0), (.bool false), (.int .i64 0), (.slice none 0 0), (.slice none 0 0), (.int .i64 0), (.slice none 0 0)]), pt g2 41 ([(.int .i64 0), (.int .i64 0), (.int .i64 0), (.int .i64 0), (.int .i64 0), (.bool false), (.int .i64 0), (.slice none 0 0), (.slice none 0 0), (.bool false), (.int .i64 0), (.slice none 0 0), (.slice none 0 0), (.int .i64 0), (.slice none 0 0)])] := hS
      refine stp hF (p_add (c := w64 (1 + x37.1)) rfl rfl rfl) (by decide) (fun a hF => ?_)
      refine stp hF (p_fldb (o' := 4) rfl fi_41_4 rfl) (by decide) (fun a hF => ?_)
      refine ste0 hF (e_stb (i := 1) (l := [(.int .i64 (w64 (5 + x1.1))), (.int .i64 (w64 (1 + x35.1))), (.int .i64 x36.1), (.int .i64 (w64 (1 + x2.1)))]) (m := [(.int .i64 0)]) (r := [(.bool false), (.int .i64 0), (.slice none 0 0), (.slice none 0 0), (.bool false), (.int .i64 0), (.slice none 0 0), (.slice none 0 0), (.int .i64 0), (.slice none 0 0)]) (m' := [(.int .i64 (w64 (1 + x37.1)))]) (cs' := [(.int .i64 (w64 (5 + x1.1))), (.int .i64 (w64 (1 + x35.1))), (.int .i64 x36.1), (.int .i64 (w64 (1 + x2.1))), (.int .i64 (w64 (1 + x37.1))), (.bool false), (.int .i64 0), (.slice none 0 0), (.slice none 0 0), (.bool false), (.int .i64 0), (.slice none 0 0), (.slice none 0 0), (.int .i64 0), (.slice none 0 0)]) hS rfl rfl rfl ti_3 rfl rfl rfl rfl rfl (one_cons rfl one_nil) rfl) (fun v w a hR hF => ?_)
      have hS : St e s8 w [pt g3 41 ([(.int .i64 (w64 (5 + x1.1))), (.int .i64 (w64 (1 + x35.1))), (.int .i64 x36.1), (.int .i64 (w64 (1 + x2.1))), (.int .i64 (w64 (1 + x37.1))), (.bool false), (.int .i64 0), (.slice none 0 0), (.slice none 0 0), (.bool false), (.int .i64 0), (.slice none 0 0), (.slice none 0 0), (.int .i64 0), (.slice none 0 0)]), pt g1 139 ([v13, (.int .i64 x37.2.2.1), (.int .i64 x37.2.2.2)]), pt g2 41 ([(.int .i64 0), (.int .i64 0), (.int .i64 0), (.int .i64 0), (.int .i64 0), (.bool false), (.int .i64 0), (.slice none 0 0), (.slice none 0 0), (.bool false), (.int .i64 0), (.slice none 0 0), (.slice none 0 0), (.int .i64 0), (.slice none 0 0)])] := hR
      refine nilN ?_
      refine xn ?_
      refine sq ?_
      refine rg ?_
      refine stp hF (p_move rfl) (by decide) (fun a hF => ?_)
      replace hS := hS.sel (is := [1, 0, 0]) (A' := [pt g1 139 ([v13, (.int .i64 x37.2.2.1), (.int .i64 x37.2.2.2)]), pt g3 41 ([(.int .i64 (w64 (5 + x1.1))), (.int .i64 (w64 (1 + x35.1))), (.int .i64 x36.1), (.int .i64 (w64 (1 + x2.1))), (.int .i64 (w64 (1 + x37.1))), (.bool false), (.int .i64 0), (.slice none 0 0), (.slice none 0 0), (.bool false), (.int .i64 0), (.slice none 0 0), (.slice none 0 0), (.int .i64 0), (.slice none 0 0)]), pt g2 41 ([(.int .i64 0), (.int .i64 0), (.int .i64 0), (.int .i64 0), (.int .i64 0), (.bool false), (.int .i64 0), (.slice none 0 0), (.slice none 0 0), (.bool false), (.int .i64 0), (.slice none 0 0), (.slice none 0 0), (.int .i64 0), (.slice none 0 0)])]) rfl
      obtain ⟨x38, hx6, H⟩ := hb H
      refine ste hF (e_callA (fst := []) (vs := [(.pointer (some ⟨g1, 0, none⟩))]) (cap := []) rfl rfl go_90 (St.call (A := [pt g1 139 ([v13, (.int .i64 x37.2.2.1), (.int .i64 x37.2.2.2)])]) (B := [pt g3 41 ([(.int .i64 (w64 (5 + x1.1))), (.int .i64 (w64 (1 + x35.1))), (.int .i64 x36.1), (.int .i64 (w64 (1 + x2.1))), (.int .i64 (w64 (1 + x37.1))), (.bool false), (.int .i64 0), (.slice none 0 0), (.slice none 0 0), (.bool false), (.int .i64 0), (.slice none 0 0), (.slice none 0 0), (.int .i64 0), (.slice none 0 0)]), pt g2 41 ([(.int .i64 0), (.int .i64 0), (.int .i64 0), (.int .i64 0), (.int .i64 0), (.bool false), (.int .i64 0), (.slice none 0 0), (.slice none 0 0), (.bool false), (.int .i64 0), (.slice none 0 0), (.slice none 0 0), (.int .i64 0), (.slice none 0 0)])]) hS (spec_l3DrawSlot.spec k _ _ x37.2.1 x37.2.2.1 x37.2.2.2 v13 g1 h7 _ hx6)) rfl) (by decide) (fun v w a hR hF => ?_)
      obtain ⟨s9, A7, hg7, hS, hR⟩ := hR
      obtain ⟨v14, v15, v16, hv6, rfl, h8⟩ := hR; obtain rfl := hv6.symm
      have hS : St e s9 w [pt g1 139 ([v14, (.int .i64 x38.2.2.1), (.int .i64 x38.2.2.2)]), Ow (Kd.int .i64) 3 v15 x38.1.O.Ints, Ow (Kd.int .i64) 3 v16 x38.1.O.Refs, pt g3 41 ([(.int .i64 (w64 (5 + x1.1))), (.int .i64 (w64 (1 + x35.1))), (.int .i64 x36.1), (.int .i64 (w64 (1 + x2.1))), (.int .i64 (w64 (1 + x37.1))), (.bool false), (.int .i64 0), (.slice none 0 0), (.slice none 0 0), (.bool false), (.int .i64 0), (.slice none 0 0), (.slice none 0 0), (.int .i64 0), (.slice none 0 0)]), pt g2 41 ([(.int .i64 0), (.int .i64 0), (.int .i64 0), (.int .i64 0), (.int .i64 0), (.bool false), (.int .i64 0), (.slice none 0 0), (.slice none 0 0), (.bool false), (.int .i64 0), (.slice none 0 0), (.slice none 0 0), (.int .i64 0), (.slice none 0 0)])] := hS
      refine stp hF (p_fldb (o' := 5) rfl fi_41_5 rfl) (by decide) (fun a hF => ?_)
      refine ste0 hF (e_stb (i := 3) (l := [(.int .i64 (w64 (5 + x1.1))), (.int .i64 (w64 (1 + x35.1))), (.int .i64 x36.1), (.int .i64 (w64 (1 + x2.1))), (.int .i64 (w64 (1 + x37.1)))]) (m := [(.bool false), (.int .i64 0), (.slice none 0 0), (.slice none 0 0)]) (r := [(.bool false), (.int .i64 0), (.slice none 0 0), (.slice none 0 0), (.int .i64 0), (.slice none 0 0)]) (m' := [(.bool x38.1.Has), (.int .i64 x38.1.O.Kind), v15, v16]) (cs' := [(.int .i64 (w64 (5 + x1.1))), (.int .i64 (w64 (1 + x35.1))), (.int .i64 x36.1), (.int .i64 (w64 (1 + x2.1))), (.int .i64 (w64 (1 + x37.1))), (.bool x38.1.Has), (.int .i64 x38.1.O.Kind), v15, v16, (.bool false), (.int .i64 0), (.slice none 0 0), (.slice none 0 0), (.int .i64 0), (.slice none 0 0)]) hS rfl rfl rfl ti_38 rfl rfl rfl rfl rfl (one_cons rfl (one_cons rfl (one_cons (hS.one_ow (i := 1) rfl) (one_cons (hS.one_ow (i := 2) rfl) one_nil)))) rfl) (fun v w a hR hF => ?_)
      have hS : St e s9 w [pt g3 41 ([(.int .i64 (w64 (5 + x1.1))), (.int .i64 (w64 (1 + x35.1))), (.int .i64 x36.1), (.int .i64 (w64 (1 + x2.1))), (.int .i64 (w64 (1 + x37.1))), (.bool x38.1.Has), (.int .i64 x38.1.O.Kind), v15, v16, (.bool false), (.int .i64 0), (.slice none 0 0), (.slice none 0 0), (.int .i64 0), (.slice none 0 0)]), pt g1 139 ([v14, (.int .i64 x38.2.2.1), (.int .i64 x38.2.2.2)]), Ow (Kd.int .i64) 3 v15 x38.1.O.Ints, Ow (Kd.int .i64) 3 v16 x38.1.O.Refs, pt g2 41 ([(.int .i64 0), (.int .i64 0), (.int .i64 0), (.int .i64 0), (.int .i64 0), (.bool false), (.int .i64 0), (.slice none 0 0), (.slice none 0 0), (.bool false), (.int .i64 0), (.slice none 0 0), (.slice none 0 0), (.int .i64 0), (.slice none 0 0)])] := hR
      refine nilN ?_
      refine xn ?_
      refine rg ?_
      refine stp hF (p_move rfl) (by decide) (fun a hF => ?_)
      replace hS := hS.sel (is := [1, 0, 0, 0, 0]) (A' := [pt g1 139 ([v14, (.int .i64 x38.2.2.1), (.int .i64 x38.2.2.2)]), pt g3 41 ([(.int .i64 (w64 (5 + x1.1))), (.int .i64 (w64 (1 + x35.1))), (.int .i64 x36.1), (.int .i64 (w64 (1 + x2.1))), (.int .i64 (w64 (1 + x37.1))), (.bool x38.1.Has), (.int .i64 x38.1.O.Kind), v15, v16, (.bool false), (.int .i64 0), (.slice none 0 0), (.slice none 0 0), (.int .i64 0), (.slice none 0 0)]), Ow (Kd.int .i64) 3 v15 x38.1.O.Ints, Ow (Kd.int .i64) 3 v16 x38.1.O.Refs, pt g2 41 ([(.int .i64 0), (.int .i64 0), (.int .i64 0), (.int .i64 0), (.int .i64 0), (.bool false), (.int .i64 0), (.slice none 0 0), (.slice none 0 0), (.bool false), (.int .i64 0), (.slice none 0 0), (.slice none 0 0), (.int .i64 0), (.slice none 0 0)])]) rfl
      obtain ⟨x39, hx7, H⟩ := hb H
      refine ste hF (e_callA (fst := []) (vs := [(.pointer (some ⟨g1, 0, none⟩))]) (cap := []) rfl rfl go_90 (St.call (A := [pt g1 139 ([v14, (.int .i64 x38.2.2.1), (.int .i64 x38.2.2.2)])]) (B := [pt g3 41 ([(.int .i64 (w64 (5 + x1.1))), (.int .i64 (w64 (1 + x35.1))), (.int .i64 x36.1), (.int .i64 (w64 (1 + x2.1))), (.int .i64 (w64 (1 + x37.1))), (.bool x38.1.Has), (.int .i64 x38.1.O.Kind), v15, v16, (.bool false), (.int .i64 0), (.slice none 0 0), (.slice none 0 0), (.int .i64 0), (.slice none 0 0)]), Ow (Kd.int .i64) 3 v15 x38.1.O.Ints, Ow (Kd.int .i64) 3 v16 x38.1.O.Refs, pt g2 41 ([(.int .i64 0), (.int .i64 0), (.int .i64 0), (.int .i64 0), (.int .i64 0), (.bool false), (.int .i64 0), (.slice none 0 0), (.slice none 0 0), (.bool false), (.int .i64 0), (.slice none 0 0), (.slice none 0 0), (.int .i64 0), (.slice none 0 0)])]) hS (spec_l3DrawSlot.spec k _ _ x38.2.1 x38.2.2.1 x38.2.2.2 v14 g1 h8 _ hx7)) rfl) (by decide) (fun v w a hR hF => ?_)
      obtain ⟨s10, A8, hg8, hS, hR⟩ := hR
      obtain ⟨v17, v18, v19, hv7, rfl, h9⟩ := hR; obtain rfl := hv7.symm
      have hS : St e s10 w [pt g1 139 ([v17, (.int .i64 x39.2.2.1), (.int .i64 x39.2.2.2)]), Ow (Kd.int .i64) 3 v18 x39.1.O.Ints, Ow (Kd.int .i64) 3 v19 x39.1.O.Refs, pt g3 41 ([(.int .i64 (w64 (5 + x1.1))), (.int .i64 (w64 (1 + x35.1))), (.int .i64 x36.1), (.int .i64 (w64 (1 + x2.1))), (.int .i64 (w64 (1 + x37.1))), (.bool x38.1.Has), (.int .i64 x38.1.O.Kind), v15, v16, (.bool false), (.int .i64 0), (.slice none 0 0), (.slice none 0 0), (.int .i64 0), (.slice none 0 0)]), Ow (Kd.int .i64) 3 v15 x38.1.O.Ints, Ow (Kd.int .i64) 3 v16 x38.1.O.Refs, pt g2 41 ([(.int .i64 0), (.int .i64 0), (.int .i64 0), (.int .i64 0), (.int .i64 0), (.bool false), (.int .i64 0), (.slice none 0 0), (.slice none 0 0), (.bool false), (.int .i64 0), (.slice none 0 0), (.slice none 0 0), (.int .i64 0), (.slice none 0 0)])] := hS
      refine stp hF (p_fldb (o' := 9) rfl fi_41_6 rfl) (by decide) (fun a hF => ?_)
      refine ste0 hF (e_stb (i := 3) (l := [(.int .i64 (w64 (5 + x1.1))), (.int .i64 (w64 (1 + x35.1))), (.int .i64 x36.1), (.int .i64 (w64 (1 + x2.1))), (.int .i64 (w64 (1 + x37.1))), (.bool x38.1.Has), (.int .i64 x38.1.O.Kind), v15, v16]) (m := [(.bool false), (.int .i64 0), (.slice none 0 0), (.slice none 0 0)]) (r := [(.int .i64 0), (.slice none 0 0)]) (m' := [(.bool x39.1.Has), (.int .i64 x39.1.O.Kind), v18, v19]) (cs' := [(.int .i64 (w64 (5 + x1.1))), (.int .i64 (w64 (1 + x35.1))), (.int .i64 x36.1), (.int .i64 (w64 (1 + x2.1))), (.int .i64 (w64 (1 + x37.1))), (.bool x38.1.Has), (.int .i64 x38.1.O.Kind), v15, v16, (.bool x39.1.Has), (.int .i64 x39.1.O.Kind), v18, v19, (.int .i64 0), (.slice none 0 0)]) hS rfl rfl rfl ti_38 rfl rfl rfl rfl rfl (one_cons rfl (one_cons rfl (one_cons (hS.one_ow (i := 1) rfl) (one_cons (hS.one_ow (i := 2) rfl) one_nil)))) rfl) (fun v w a hR hF => ?_)
      have hS : St e s10 w [pt g3 41 ([(.int .i64 (w64 (5 + x1.1))), (.int .i64 (w64 (1 + x35.1))), (.int .i64 x36.1), (.int .i64 (w64 (1 + x2.1))), (.int .i64 (w64 (1 + x37.1))), (.bool x38.1.Has), (.int .i64 x38.1.O.Kind), v15, v16, (.bool x39.1.Has), (.int .i64 x39.1.O.Kind), v18, v19, (.int .i64 0), (.slice none 0 0)]), pt g1 139 ([v17, (.int .i64 x39.2.2.1), (.int .i64 x39.2.2.2)]), Ow (Kd.int .i64) 3 v18 x39.1.O.Ints, Ow (Kd.int .i64) 3 v19 x39.1.O.Refs, Ow (Kd.int .i64) 3 v15 x38.1.O.Ints, Ow (Kd.int .i64) 3 v16 x38.1.O.Refs, pt g2 41 ([(.int .i64 0), (.int .i64 0), (.int .i64 0), (.int .i64 0), (.int .i64 0), (.bool false), (.int .i64 0), (.slice none 0 0), (.slice none 0 0), (.bool false), (.int .i64 0), (.slice none 0 0), (.slice none 0 0), (.int .i64 0), (.slice none 0 0)])] := hR
      refine nilN ?_
      refine bn (xn ?_)
      obtain rfl := hsm H
      replace hS := hS.ownNil kTLive 91 none
      replace hS := hS.sel (is := [1, 4, 4, 2, 2, 0, 0, 0]) (A' := [pt g3 41 ([(.int .i64 (w64 (5 + x1.1))), (.int .i64 (w64 (1 + x35.1))), (.int .i64 x36.1), (.int .i64 (w64 (1 + x2.1))), (.int .i64 (w64 (1 + x37.1))), (.bool x38.1.Has), (.int .i64 x38.1.O.Kind), v15, v16, (.bool x39.1.Has), (.int .i64 x39.1.O.Kind), v18, v19, (.int .i64 0), (.slice none 0 0)]), Ow (Kd.int .i64) 3 v15 x38.1.O.Ints, Ow (Kd.int .i64) 3 v16 x38.1.O.Refs, Ow (Kd.int .i64) 3 v18 x39.1.O.Ints, Ow (Kd.int .i64) 3 v19 x39.1.O.Refs, Ow kTLive 91 (.slice none 0 0) ([] : List TLive), pt g1 139 ([v17, (.int .i64 x39.2.2.1), (.int .i64 x39.2.2.2)]), pt g2 41 ([(.int .i64 0), (.int .i64 0), (.int .i64 0), (.int .i64 0), (.int .i64 0), (.bool false), (.int .i64 0), (.slice none 0 0), (.slice none 0 0), (.bool false), (.int .i64 0), (.slice none 0 0), (.slice none 0 0), (.int .i64 0), (.slice none 0 0)])]) rfl
      exact ⟨(w64 (1 + x35.1)), x36.1, (w64 (1 + x37.1)), x38.1.Has, x38.1.O.Kind, x38.1.O.Ints, x38.1.O.Refs, x39.1.Has, x39.1.O.Kind, x39.1.O.Ints, x39.1.O.Refs, 0, ([] : List TLive), x39.2.1, x39.2.2.1, x39.2.2.2, s10, v15, v16, v18, v19, (.slice none 0 0), v17, hS, hF.cut ⟨rfl, rfl, trivial⟩, ((hg6.trans hg7).trans hg8), h9, HK1⟩
    · replace H := hbf hc1 H
      refine sq ?_
      refine rg ?_
      refine stp hF (p_eql rfl rfl) (by decide) (fun a hF => ?_)
      refine stp hF (p_assign rfl) (by decide) (fun a hF => ?_)
      refine nilN ?_
      refine xn ?_
      refine cnd hF rfl (fun hc2 => ?_) (fun hc2 => ?_)
      · replace H := hbt hc2 H
        refine sq ?_
        refine rg ?_
        refine stp hF (p_move rfl) (by decide) (fun a hF => ?_)
        replace hS := hS.sel (is := [1, 0, 0]) (A' := [pt g1 139 ([v6, (.int .i64 x36.2.2.1), (.int .i64 x36.2.2.2)]), pt g3 41 ([(.int .i64 (w64 (5 + x1.1))), (.int .i64 (w64 (1 + x35.1))), (.int .i64 x36.1), (.int .i64 (w64 (1 + x2.1))), (.int .i64 0), (.bool false), (.int .i64 0), (.slice none 0 0), (.slice none 0 0), (.bool false), (.int .i64 0), (.slice none 0 0), (.slice none 0 0), (.int .i64 0), (.slice none 0 0)]), pt g2 41 ([(.int .i64 0), (.int .i64 0), (.int .i64 0), (.int .i64 0), (.int .i64 0), (.bool false), (.int .i64 0), (.slice none 0 0), (.slice none 0 0), (.bool false), (.int .i64 0), (.slice none 0 0), (.slice none 0 0), (.int .i64 0), (.slice none 0 0)])]) rfl
        obtain ⟨x40, hx8, H⟩ := hb H
        refine ste hF (e_callA (fst := []) (vs := [(.pointer (some ⟨g1, 0, none⟩)), (.int .i64 31)]) (cap := []) rfl rfl go_145 (St.call (A := [pt g1 139 ([v6, (.int .i64 x36.2.2.1), (.int .i64 x36.2.2.2)])]) (B := [pt g3 41 ([(.int .i64 (w64 (5 + x1.1))), (.int .i64 (w64 (1 + x35.1))), (.int .i64 x36.1), (.int .i64 (w64 (1 + x2.1))), (.int .i64 0), (.bool false), (.int .i64 0), (.slice none 0 0), (.slice none 0 0), (.bool false), (.int .i64 0), (.slice none 0 0), (.slice none 0 0), (.int .i64 0), (.slice none 0 0)]), pt g2 41 ([(.int .i64 0), (.int .i64 0), (.int .i64 0), (.int .i64 0), (.int .i64 0), (.bool false), (.int .i64 0), (.slice none 0 0), (.slice none 0 0), (.bool false), (.int .i64 0), (.slice none 0 0), (.slice none 0 0), (.int .i64 0), (.slice none 0 0)])]) hS (spec_l1Below.spec k _ _ x36.2.1 x36.2.2.1 x36.2.2.2 31 v6 g1 h6 _ hx8)) rfl) (by decide) (fun v w a hR hF => ?_)
        obtain ⟨s11, A9, hg9, hS, hR⟩ := hR
        obtain ⟨v20, hv8, rfl, h10⟩ := hR; obtain rfl := hv8.symm
        have hS : St e s11 w [pt g1 139 ([v20, (.int .i64 x40.2.2.1), (.int .i64 x40.2.2.2)]), pt g3 41 ([(.int .i64 (w64 (5 + x1.1))), (.int .i64 (w64 (1 + x35.1))), (.int .i64 x36.1), (.int .i64 (w64 (1 + x2.1))), (.int .i64 0), (.bool false), (.int .i64 0), (.slice none 0 0), (.slice none 0 0), (.bool false), (.int .i64 0), (.slice none 0 0), (.slice none 0 0), (.int .i64 0), (.slice none 0 0)]), pt g2 41 ([(.int .i64 0), (.int .i64 0), (.int .i64 0), (.int .i64 0), (.int .i64 0), (.bool false), (.int .i64 0), (.slice none 0 0), (.slice none 0 0), (.bool false), (.int .i64 0), (.slice none 0 0), (.slice none 0 0), (.int .i64 0), (.slice none 0 0)])] := hS
        refine stp hF (p_add (c := w64 (1 + x40.1)) rfl rfl rfl) (by decide) (fun a hF => ?_)
        refine stp hF (p_fldb (o' := 4) rfl fi_41_4 rfl) (by decide) (fun a hF => ?_)
        refine ste0 hF (e_stb (i := 1) (l := [(.int .i64 (w64 (5 + x1.1))), (.int .i64 (w64 (1 + x35.1))), (.int .i64 x36.1), (.int .i64 (w64 (1 + x2.1)))]) (m := [(.int .i64 0)]) (r := [(.bool false), (.int .i64 0), (.slice none 0 0), (.slice none 0 0), (.bool false), (.int .i64 0), (.slice none 0 0), (.slice none 0 0), (.int .i64 0), (.slice none 0 0)]) (m' := [(.int .i64 (w64 (1 + x40.1)))]) (cs' := [(.int .i64 (w64 (5 + x1.1))), (.int .i64 (w64 (1 + x35.1))), (.int .i64 x36.1), (.int .i64 (w64 (1 + x2.1))), (.int .i64 (w64 (1 + x40.1))), (.bool false), (.int .i64 0), (.slice none 0 0), (.slice none 0 0), (.bool false), (.int .i64 0), (.slice none 0 0), (.slice none 0 0), (.int .i64 0), (.slice none 0 0)]) hS rfl rfl rfl ti_3 rfl rfl rfl rfl rfl (one_cons rfl one_nil) rfl) (fun v w a hR hF => ?_)
        have hS : St e s11 w [pt g3 41 ([(.int .i64 (w64 (5 + x1.1))), (.int .i64 (w64 (1 + x35.1))), (.int .i64 x36.1), (.int .i64 (w64 (1 + x2.1))), (.int .i64 (w64 (1 + x40.1))), (.bool false), (.int .i64 0), (.slice none 0 0), (.slice none 0 0), (.bool false), (.int .i64 0), (.slice none 0 0), (.slice none 0 0), (.int .i64 0), (.slice none 0 0)]), pt g1 139 ([v20, (.int .i64 x40.2.2.1), (.int .i64 x40.2.2.2)]), pt g2 41 ([(.int .i64 0), (.int .i64 0), (.int .i64 0), (.int .i64 0), (.int .i64 0), (.bool false), (.int .i64 0), (.slice none 0 0), (.slice none 0 0), (.bool false), (.int .i64 0), (.slice none 0 0), (.slice none 0 0), (.int .i64 0), (.slice none 0 0)])] := hR
        refine nilN ?_
        refine xn ?_
        refine sq ?_
        refine rg ?_
        refine stp hF (p_move rfl) (by decide) (fun a hF => ?_)
        replace hS := hS.sel (is := [1, 0, 0]) (A' := [pt g1 139 ([v20, (.int .i64 x40.2.2.1), (.int .i64 x40.2.2.2)]), pt g3 41 ([(.int .i64 (w64 (5 + x1.1))), (.int .i64 (w64 (1 + x35.1))), (.int .i64 x36.1), (.int .i64 (w64 (1 + x2.1))), (.int .i64 (w64 (1 + x40.1))), (.bool false), (.int .i64 0), (.slice none 0 0), (.slice none 0 0), (.bool false), (.int .i64 0), (.slice none 0 0), (.slice none 0 0), (.int .i64 0), (.slice none 0 0)]), pt g2 41 ([(.int .i64 0), (.int .i64 0), (.int .i64 0), (.int .i64 0), (.int .i64 0), (.bool false), (.int .i64 0), (.slice none 0 0), (.slice none 0 0), (.bool false), (.int .i64 0), (.slice none 0 0), (.slice none 0 0), (.int .i64 0), (.slice none 0 0)])]) rfl
        obtain ⟨x41, hx9, H⟩ := hb H
        refine ste hF (e_callA (fst := []) (vs := [(.pointer (some ⟨g1, 0, none⟩))]) (cap := []) rfl rfl go_90 (St.call (A := [pt g1 139 ([v20, (.int .i64 x40.2.2.1), (.int .i64 x40.2.2.2)])]) (B := [pt g3 41 ([(.int .i64 (w64 (5 + x1.1))), (.int .i64 (w64 (1 + x35.1))), (.int .i64 x36.1), (.int .i64 (w64 (1 + x2.1))), (.int .i64 (w64 (1 + x40.1))), (.bool false), (.int .i64 0), (.slice none 0 0), (.slice none 0 0), (.bool false), (.int .i64 0), (.slice none 0 0), (.slice none 0 0), (.int .i64 0), (.slice none 0 0)]), pt g2 41 ([(.int .i64 0), (.int .i64 0), (.int .i64 0), (.int .i64 0), (.int .i64 0), (.bool false), (.int .i64 0), (.slice none 0 0), (.slice none 0 0), (.bool false), (.int .i64 0), (.slice none 0 0), (.slice none 0 0), (.int .i64 0), (.slice none 0 0)])]) hS (spec_l3DrawSlot.spec k _ _ x40.2.1 x40.2.2.1 x40.2.2.2 v20 g1 h10 _ hx9)) rfl) (by decide) (fun v w a hR hF => ?_)
        obtain ⟨s12, A10, hg10, hS, hR⟩ := hR
        obtain ⟨v21, v22, v23, hv9, rfl, h11⟩ := hR; obtain rfl := hv9.symm
        have hS : St e s12 w [pt g1 139 ([v21, (.int .i64 x41.2.2.1), (.int .i64 x41.2.2.2)]), Ow (Kd.int .i64) 3 v22 x41.1.O.Ints, Ow (Kd.int .i64) 3 v23 x41.1.O.Refs, pt g3 41 ([(.int .i64 (w64 (5 + x1.1))), (.int .i64 (w64 (1 + x35.1))), (.int .i64 x36.1), (.int .i64 (w64 (1 + x2.1))), (.int .i64 (w64 (1 + x40.1))), (.bool false), (.int .i64 0), (.slice none 0 0), (.slice none 0 0), (.bool false), (.int .i64 0), (.slice none 0 0), (.slice none 0 0), (.int .i64 0), (.slice none 0 0)]), pt g2 41 ([(.int .i64 0), (.int .i64 0), (.int .i64 0), (.int .i64 0), (.int .i64 0), (.bool false), (.int .i64 0), (.slice none 0 0), (.slice none 0 0), (.bool false), (.int .i64 0), (.slice none 0 0), (.slice none 0 0), (.int .i64 0), (.slice none 0 0)])] := hS
        refine stp hF (p_fldb (o' := 9) rfl fi_41_6 rfl) (by decide) (fun a hF => ?_)
        refine ste0 hF (e_stb (i := 3) (l := [(.int .i64 (w64 (5 + x1.1))), (.int .i64 (w64 (1 + x35.1))), (.int .i64 x36.1), (.int .i64 (w64 (1 + x2.1))), (.int .i64 (w64 (1 + x40.1))), (.bool false), (.int .i64 0), (.slice none 0 0), (.slice none 0 0)]) (m := [(.bool false), (.int .i64 0), (.slice none 0 0), (.slice none 0 0)]) (r := [(.int .i64 0), (.slice none 0 0)]) (m' := [(.bool x41.1.Has), (.int .i64 x41.1.O.Kind), v22, v23]) (cs' := [(.int .i64 (w64 (5 + x1.1))), (.int .i64 (w64 (1 + x35.1))), (.int .i64 x36.1), (.int .i64 (w64 (1 + x2.1))), (.int .i64 (w64 (1 + x40.1))), (.bool false), (.int .i64 0), (.slice none 0 0), (.slice none 0 0), (.bool x41.1.Has), (.int .i64 x41.1.O.Kind), v22, v23, (.int .i64 0), (.slice none 0 0)]) hS rfl rfl rfl ti_38 rfl rfl rfl rfl rfl (one_cons rfl (one_cons rfl (one_cons (hS.one_ow (i := 1) rfl) (one_cons (hS.one_ow (i := 2) rfl) one_nil)))) rfl) (fun v w a hR hF => ?_)
        have hS : St e s12 w [pt g3 41 ([(.int .i64 (w64 (5 + x1.1))), (.int .i64 (w64 (1 + x35.1))), (.int .i64 x36.1), (.int .i64 (w64 (1 + x2.1))), (.int .i64 (w64 (1 + x40.1))), (.bool false), (.int .i64 0), (.slice none 0 0), (.slice none 0 0), (.bool x41.1.Has), (.int .i64 x41.1.O.Kind), v22, v23, (.int .i64 0), (.slice none 0 0)]), pt g1 139 ([v21, (.int .i64 x41.2.2.1), (.int .i64 x41.2.2.2)]), Ow (Kd.int .i64) 3 v22 x41.1.O.Ints, Ow (Kd.int .i64) 3 v23 x41.1.O.Refs, pt g2 41 ([(.int .i64 0), (.int .i64 0), (.int .i64 0), (.int .i64 0), (.int .i64 0), (.bool false), (.int .i64 0), (.slice none 0 0), (.slice none 0 0), (.bool false), (.int .i64 0), (.slice none 0 0), (.slice none 0 0), (.int .i64 0), (.slice none 0 0)])] := hR
        refine nilN ?_
        refine xn ?_
        refine rg ?_
        refine stp hF (p_move rfl) (by decide) (fun a hF => ?_)
        refine stp hF (p_fldb (o' := 0) rfl fi_41_0 rfl) (by decide) (fun a hF => ?_)
        refine stp hF (p_ldb_one (i := 0) hS rfl rfl ia_3 rfl) (by decide) (fun a hF => ?_)
        refine stp hF (p_sub (c := w64 ((w64 (5 + x1.1)) - 1)) rfl rfl rfl) (by decide) (fun a hF => ?_)
        refine ste hF (e_bslice (kd := (Kd.int .i64)) (et := 3) (ps := [(0, (.const (.int .i64 0))), (1, (.const (.int .i64 1))), (2, (.tmp 48))]) (vs := [(0, (.int .i64 0)), (1, (.int .i64 1)), (2, (.int .i64 (w64 ((w64 (5 + x1.1)) - 1))))]) (cs := [(.int .i64 0), (.int .i64 1), (.int .i64 (w64 ((w64 (5 + x1.1)) - 1)))]) (xs := ([0, 1, w64 ((w64 (5 + x1.1)) - 1)] : List Int)) hS rfl (by intro w; kernel_rfl) rfl (by decide) (Nat.le_of_ble_eq_true rfl) (by exact (rows_cons (kd := (Kd.int .i64)) (x := 0) (c := [(.int .i64 0)]) (cs := [(.int .i64 1), (.int .i64 (w64 ((w64 (5 + x1.1)) - 1)))]) rfl (rows_cons (kd := (Kd.int .i64)) (x := 1) (c := [(.int .i64 1)]) (cs := [(.int .i64 (w64 ((w64 (5 + x1.1)) - 1)))]) rfl (rows_cons (kd := (Kd.int .i64)) (x := w64 ((w64 (5 + x1.1)) - 1)) (c := [(.int .i64 (w64 ((w64 (5 + x1.1)) - 1)))]) (cs := []) rfl (Rows.nil _ _ _ _)))))) (by decide) (fun v24 w a hR hF => ?_)
        have hS : St e s12 w [Ow (Kd.int .i64) 3 v24 ([0, 1, w64 ((w64 (5 + x1.1)) - 1)] : List Int), pt g3 41 ([(.int .i64 (w64 (5 + x1.1))), (.int .i64 (w64 (1 + x35.1))), (.int .i64 x36.1), (.int .i64 (w64 (1 + x2.1))), (.int .i64 (w64 (1 + x40.1))), (.bool false), (.int .i64 0), (.slice none 0 0), (.slice none 0 0), (.bool x41.1.Has), (.int .i64 x41.1.O.Kind), v22, v23, (.int .i64 0), (.slice none 0 0)]), pt g1 139 ([v21, (.int .i64 x41.2.2.1), (.int .i64 x41.2.2.2)]), Ow (Kd.int .i64) 3 v22 x41.1.O.Ints, Ow (Kd.int .i64) 3 v23 x41.1.O.Refs, pt g2 41 ([(.int .i64 0), (.int .i64 0), (.int .i64 0), (.int .i64 0), (.int .i64 0), (.bool false), (.int .i64 0), (.slice none 0 0), (.slice none 0 0), (.bool false), (.int .i64 0), (.slice none 0 0), (.slice none 0 0), (.int .i64 0), (.slice none 0 0)])] := hR
        obtain ⟨s13, hg11, h12, hS⟩ := hS.freeze (i := 0) (kd := (Kd.int .i64)) (et := 3) (v := v24) (xs := ([0, 1, w64 ((w64 (5 + x1.1)) - 1)] : List Int)) (B := [pt g3 41 ([(.int .i64 (w64 (5 + x1.1))), (.int .i64 (w64 (1 + x35.1))), (.int .i64 x36.1), (.int .i64 (w64 (1 + x2.1))), (.int .i64 (w64 (1 + x40.1))), (.bool false), (.int .i64 0), (.slice none 0 0), (.slice none 0 0), (.bool x41.1.Has), (.int .i64 x41.1.O.Kind), v22, v23, (.int .i64 0), (.slice none 0 0)]), pt g1 139 ([v21, (.int .i64 x41.2.2.1), (.int .i64 x41.2.2.2)]), Ow (Kd.int .i64) 3 v22 x41.1.O.Ints, Ow (Kd.int .i64) 3 v23 x41.1.O.Refs, pt g2 41 ([(.int .i64 0), (.int .i64 0), (.int .i64 0), (.int .i64 0), (.int .i64 0), (.bool false), (.int .i64 0), (.slice none 0 0), (.slice none 0 0), (.bool false), (.int .i64 0), (.slice none 0 0), (.slice none 0 0), (.int .i64 0), (.slice none 0 0)])]) rfl
        replace hS := hS.sel (is := [1, 0, 0, 0, 0]) (A' := [pt g1 139 ([v21, (.int .i64 x41.2.2.1), (.int .i64 x41.2.2.2)]), pt g3 41 ([(.int .i64 (w64 (5 + x1.1))), (.int .i64 (w64 (1 + x35.1))), (.int .i64 x36.1), (.int .i64 (w64 (1 + x2.1))), (.int .i64 (w64 (1 + x40.1))), (.bool false), (.int .i64 0), (.slice none 0 0), (.slice none 0 0), (.bool x41.1.Has), (.int .i64 x41.1.O.Kind), v22, v23, (.int .i64 0), (.slice none 0 0)]), Ow (Kd.int .i64) 3 v22 x41.1.O.Ints, Ow (Kd.int .i64) 3 v23 x41.1.O.Refs, pt g2 41 ([(.int .i64 0), (.int .i64 0), (.int .i64 0), (.int .i64 0), (.int .i64 0), (.bool false), (.int .i64 0), (.slice none 0 0), (.slice none 0 0), (.bool false), (.int .i64 0), (.slice none 0 0), (.slice none 0 0), (.int .i64 0), (.slice none 0 0)])]) rfl
        obtain ⟨x42, hx10, H⟩ := hb H
        refine ste hF (e_callA (fst := []) (vs := [(.pointer (some ⟨g1, 0, none⟩)), v24]) (cap := []) rfl rfl go_92 (St.call (A := [pt g1 139 ([v21, (.int .i64 x41.2.2.1), (.int .i64 x41.2.2.2)])]) (B := [pt g3 41 ([(.int .i64 (w64 (5 + x1.1))), (.int .i64 (w64 (1 + x35.1))), (.int .i64 x36.1), (.int .i64 (w64 (1 + x2.1))), (.int .i64 (w64 (1 + x40.1))), (.bool false), (.int .i64 0), (.slice none 0 0), (.slice none 0 0), (.bool x41.1.Has), (.int .i64 x41.1.O.Kind), v22, v23, (.int .i64 0), (.slice none 0 0)]), Ow (Kd.int .i64) 3 v22 x41.1.O.Ints, Ow (Kd.int .i64) 3 v23 x41.1.O.Refs, pt g2 41 ([(.int .i64 0), (.int .i64 0), (.int .i64 0), (.int .i64 0), (.int .i64 0), (.bool false), (.int .i64 0), (.slice none 0 0), (.slice none 0 0), (.bool false), (.int .i64 0), (.slice none 0 0), (.slice none 0 0), (.int .i64 0), (.slice none 0 0)])]) hS (spec_l1Int.spec k _ _ x41.2.1 x41.2.2.1 x41.2.2.2 ([0, 1, w64 ((w64 (5 + x1.1)) - 1)] : List Int) v21 g1 v24 (h11.mono hg11) h12 _ hx10)) rfl) (by decide) (fun v w a hR hF => ?_)
        obtain ⟨s14, A11, hg12, hS, hR⟩ := hR
        obtain ⟨v25, hv10, rfl, h13⟩ := hR; obtain rfl := hv10.symm
        have hS : St e s14 w [pt g1 139 ([v25, (.int .i64 x42.2.2.1), (.int .i64 x42.2.2.2)]), pt g3 41 ([(.int .i64 (w64 (5 + x1.1))), (.int .i64 (w64 (1 + x35.1))), (.int .i64 x36.1), (.int .i64 (w64 (1 + x2.1))), (.int .i64 (w64 (1 + x40.1))), (.bool false), (.int .i64 0), (.slice none 0 0), (.slice none 0 0), (.bool x41.1.Has), (.int .i64 x41.1.O.Kind), v22, v23, (.int .i64 0), (.slice none 0 0)]), Ow (Kd.int .i64) 3 v22 x41.1.O.Ints, Ow (Kd.int .i64) 3 v23 x41.1.O.Refs, pt g2 41 ([(.int .i64 0), (.int .i64 0), (.int .i64 0), (.int .i64 0), (.int .i64 0), (.bool false), (.int .i64 0), (.slice none 0 0), (.slice none 0 0), (.bool false), (.int .i64 0), (.slice none 0 0), (.slice none 0 0), (.int .i64 0), (.slice none 0 0)])] := hS
        refine stp hF (p_fldb (o' := 13) rfl fi_41_7 rfl) (by decide) (fun a hF => ?_)
        refine ste0 hF (e_stb (i := 1) (l := [(.int .i64 (w64 (5 + x1.1))), (.int .i64 (w64 (1 + x35.1))), (.int .i64 x36.1), (.int .i64 (w64 (1 + x2.1))), (.int .i64 (w64 (1 + x40.1))), (.bool false), (.int .i64 0), (.slice none 0 0), (.slice none 0 0), (.bool x41.1.Has), (.int .i64 x41.1.O.Kind), v22, v23]) (m := [(.int .i64 0)]) (r := [(.slice none 0 0)]) (m' := [(.int .i64 x42.1)]) (cs' := [(.int .i64 (w64 (5 + x1.1))), (.int .i64 (w64 (1 + x35.1))), (.int .i64 x36.1), (.int .i64 (w64 (1 + x2.1))), (.int .i64 (w64 (1 + x40.1))), (.bool false), (.int .i64 0), (.slice none 0 0), (.slice none 0 0), (.bool x41.1.Has), (.int .i64 x41.1.O.Kind), v22, v23, (.int .i64 x42.1), (.slice none 0 0)]) hS rfl rfl rfl ti_3 rfl rfl rfl rfl rfl (one_cons rfl one_nil) rfl) (fun v w a hR hF => ?_)
        have hS : St e s14 w [pt g3 41 ([(.int .i64 (w64 (5 + x1.1))), (.int .i64 (w64 (1 + x35.1))), (.int .i64 x36.1), (.int .i64 (w64 (1 + x2.1))), (.int .i64 (w64 (1 + x40.1))), (.bool false), (.int .i64 0), (.slice none 0 0), (.slice none 0 0), (.bool x41.1.Has), (.int .i64 x41.1.O.Kind), v22, v23, (.int .i64 x42.1), (.slice none 0 0)]), pt g1 139 ([v25, (.int .i64 x42.2.2.1), (.int .i64 x42.2.2.2)]), Ow (Kd.int .i64) 3 v22 x41.1.O.Ints, Ow (Kd.int .i64) 3 v23 x41.1.O.Refs, pt g2 41 ([(.int .i64 0), (.int .i64 0), (.int .i64 0), (.int .i64 0), (.int .i64 0), (.bool false), (.int .i64 0), (.slice none 0 0), (.slice none 0 0), (.bool false), (.int .i64 0), (.slice none 0 0), (.slice none 0 0), (.int .i64 0), (.slice none 0 0)])] := hR
        refine nilN ?_
        refine bn (xn ?_)
        obtain rfl := hsm H
        replace hS := hS.ownNil (Kd.int .i64) 3 none
        replace hS := hS.ownNil (Kd.int .i64) 3 none
        replace hS := hS.ownNil kTLive 91 none
        replace hS := hS.sel (is := [3, 2, 1, 2, 2, 0, 0, 0]) (A' := [pt g3 41 ([(.int .i64 (w64 (5 + x1.1))), (.int .i64 (w64 (1 + x35.1))), (.int .i64 x36.1), (.int .i64 (w64 (1 + x2.1))), (.int .i64 (w64 (1 + x40.1))), (.bool false), (.int .i64 0), (.slice none 0 0), (.slice none 0 0), (.bool x41.1.Has), (.int .i64 x41.1.O.Kind), v22, v23, (.int .i64 x42.1), (.slice none 0 0)]), Ow (Kd.int .i64) 3 (.slice none 0 0) ([] : List Int), Ow (Kd.int .i64) 3 (.slice none 0 0) ([] : List Int), Ow (Kd.int .i64) 3 v22 x41.1.O.Ints, Ow (Kd.int .i64) 3 v23 x41.1.O.Refs, Ow kTLive 91 (.slice none 0 0) ([] : List TLive), pt g1 139 ([v25, (.int .i64 x42.2.2.1), (.int .i64 x42.2.2.2)]), pt g2 41 ([(.int .i64 0), (.int .i64 0), (.int .i64 0), (.int .i64 0), (.int .i64 0), (.bool false), (.int .i64 0), (.slice none 0 0), (.slice none 0 0), (.bool false), (.int .i64 0), (.slice none 0 0), (.slice none 0 0), (.int .i64 0), (.slice none 0 0)])]) rfl
        exact ⟨(w64 (1 + x35.1)), x36.1, (w64 (1 + x40.1)), false, 0, ([] : List Int), ([] : List Int), x41.1.Has, x41.1.O.Kind, x41.1.O.Ints, x41.1.O.Refs, x42.1, ([] : List TLive), x42.2.1, x42.2.2.1, x42.2.2.2, s14, (.slice none 0 0), (.slice none 0 0), v22, v23, (.slice none 0 0), v25, hS, hF.cut ⟨rfl, rfl, trivial⟩, (((hg9.trans hg10).trans hg11).trans hg12), h13, HK1⟩
      · replace H := hbf hc2 H
        refine sq ?_
        refine rg ?_
        refine stp hF (p_eql rfl rfl) (by decide) (fun a hF => ?_)
        refine stp hF (p_assign rfl) (by decide) (fun a hF => ?_)
        refine nilN ?_
        refine xn ?_
        refine cnd hF rfl (fun hc3 => ?_) (fun hc3 => ?_)
        · replace H := hbt hc3 H
          refine sq ?_
          refine rg ?_
          refine stp hF (p_fldb (o' := 1) rfl fi_41_1 rfl) (by decide) (fun a hF => ?_)
          refine ste0 hF (e_stb (i := 0) (l := [(.int .i64 (w64 (5 + x1.1)))]) (m := [(.int .i64 (w64 (1 + x35.1)))]) (r := [(.int .i64 x36.1), (.int .i64 (w64 (1 + x2.1))), (.int .i64 0), (.bool false), (.int .i64 0), (.slice none 0 0), (.slice none 0 0), (.bool false), (.int .i64 0), (.slice none 0 0), (.slice none 0 0), (.int .i64 0), (.slice none 0 0)]) (m' := [(.int .i64 0)]) (cs' := [(.int .i64 (w64 (5 + x1.1))), (.int .i64 0), (.int .i64 x36.1), (.int .i64 (w64 (1 + x2.1))), (.int .i64 0), (.bool false), (.int .i64 0), (.slice none 0 0), (.slice none 0 0), (.bool false), (.int .i64 0), (.slice none 0 0), (.slice none 0 0), (.int .i64 0), (.slice none 0 0)]) hS rfl rfl rfl ti_3 rfl rfl rfl rfl rfl (one_cons rfl one_nil) rfl) (fun v w a hR hF => ?_)
          have hS : St e s6 w [pt g3 41 ([(.int .i64 (w64 (5 + x1.1))), (.int .i64 0), (.int .i64 x36.1), (.int .i64 (w64 (1 + x2.1))), (.int .i64 0), (.bool false), (.int .i64 0), (.slice none 0 0), (.slice none 0 0), (.bool false), (.int .i64 0), (.slice none 0 0), (.slice none 0 0), (.int .i64 0), (.slice none 0 0)]), pt g1 139 ([v6, (.int .i64 x36.2.2.1), (.int .i64 x36.2.2.2)]), pt g2 41 ([(.int .i64 0), (.int .i64 0), (.int .i64 0), (.int .i64 0), (.int .i64 0), (.bool false), (.int .i64 0), (.slice none 0 0), (.slice none 0 0), (.bool false), (.int .i64 0), (.slice none 0 0), (.slice none 0 0), (.int .i64 0), (.slice none 0 0)])] := hR
          refine nilN ?_
          refine xn ?_
          refine sq ?_
          refine rg ?_
          refine stp hF (p_fldb (o' := 2) rfl fi_41_2 rfl) (by decide) (fun a hF => ?_)
          refine ste0 hF (e_stb (i := 0) (l := [(.int .i64 (w64 (5 + x1.1))), (.int .i64 0)]) (m := [(.int .i64 x36.1)]) (r := [(.int .i64 (w64 (1 + x2.1))), (.int .i64 0), (.bool false), (.int .i64 0), (.slice none 0 0), (.slice none 0 0), (.bool false), (.int .i64 0), (.slice none 0 0), (.slice none 0 0), (.int .i64 0), (.slice none 0 0)]) (m' := [(.int .i64 0)]) (cs' := [(.int .i64 (w64 (5 + x1.1))), (.int .i64 0), (.int .i64 0), (.int .i64 (w64 (1 + x2.1))), (.int .i64 0), (.bool false), (.int .i64 0), (.slice none 0 0), (.slice none 0 0), (.bool false), (.int .i64 0), (.slice none 0 0), (.slice none 0 0), (.int .i64 0), (.slice none 0 0)]) hS rfl rfl rfl ti_3 rfl rfl rfl rfl rfl (one_cons rfl one_nil) rfl) (fun v w a hR hF => ?_)
          have hS : St e s6 w [pt g3 41 ([(.int .i64 (w64 (5 + x1.1))), (.int .i64 0), (.int .i64 0), (.int .i64 (w64 (1 + x2.1))), (.int .i64 0), (.bool false), (.int .i64 0), (.slice none 0 0), (.slice none 0 0), (.bool false), (.int .i64 0), (.slice none 0 0), (.slice none 0 0), (.int .i64 0), (.slice none 0 0)]), pt g1 139 ([v6, (.int .i64 x36.2.2.1), (.int .i64 x36.2.2.2)]), pt g2 41 ([(.int .i64 0), (.int .i64 0), (.int .i64 0), (.int .i64 0), (.int .i64 0), (.bool false), (.int .i64 0), (.slice none 0 0), (.slice none 0 0), (.bool false), (.int .i64 0), (.slice none 0 0), (.slice none 0 0), (.int .i64 0), (.slice none 0 0)])] := hR
          refine nilN ?_
          refine xn ?_
          refine sq ?_
          refine rg ?_
          refine stp hF (p_assign rfl) (by decide) (fun a hF => ?_)
          refine nilN ?_
          refine xn ?_
          refine blk ?_
          refine loop_ind (fun k1 a w => ∃ (x24 : (List TLive)) (x25 : (List Int)) (x26 : Int) (x27 : Int) (x19 : Int) (s15 : HF) (v26 : Value) (v27 : Value) , St e s15 w [pt g3 41 ([(.int .i64 (w64 (5 + x1.1))), (.int .i64 0), (.int .i64 0), (.int .i64 (w64 (1 + x2.1))), (.int .i64 0), (.bool false), (.int .i64 0), (.slice none 0 0), (.slice none 0 0), (.bool false), (.int .i64 0), (.slice none 0 0), (.slice none 0 0), (.int .i64 0), v26]), Ow kTLive 91 v26 x24, pt g1 139 ([v27, (.int .i64 x26), (.int .i64 x27)]), pt g2 41 ([(.int .i64 0), (.int .i64 0), (.int .i64 0), (.int .i64 0), (.int .i64 0), (.bool false), (.int .i64 0), (.slice none 0 0), (.slice none 0 0), (.bool false), (.int .i64 0), (.slice none 0 0), (.slice none 0 0), (.int .i64 0), (.slice none 0 0)])] ∧ Fr 75 a [(0, (.pointer (some ⟨g1, 0, none⟩))), (2, (.pointer (some ⟨g2, 0, none⟩))), (3, (.pointer (some ⟨g3, 0, none⟩))), (4, (.int .i64 x19))] ∧ Sub s6 s15 ∧ Sl (Kd.int .u8) s15 v27 x25 ∧ spec_l4Draw.l1 k1 x24 x25 x26 x27 x19 = some x43) k ?_ ?_ ?_
          · skip
            replace hS := hS.ownNil kTLive 91 none
            replace hS := hS.sel (is := [1, 0, 0, 0]) (A' := [pt g3 41 ([(.int .i64 (w64 (5 + x1.1))), (.int .i64 0), (.int .i64 0), (.int .i64 (w64 (1 + x2.1))), (.int .i64 0), (.bool false), (.int .i64 0), (.slice none 0 0), (.slice none 0 0), (.bool false), (.int .i64 0), (.slice none 0 0), (.slice none 0 0), (.int .i64 0), (.slice none 0 0)]), Ow kTLive 91 (.slice none 0 0) ([] : List TLive), pt g1 139 ([v6, (.int .i64 x36.2.2.1), (.int .i64 x36.2.2.2)]), pt g2 41 ([(.int .i64 0), (.int .i64 0), (.int .i64 0), (.int .i64 0), (.int .i64 0), (.bool false), (.int .i64 0), (.slice none 0 0), (.slice none 0 0), (.bool false), (.int .i64 0), (.slice none 0 0), (.slice none 0 0), (.int .i64 0), (.slice none 0 0)])]) rfl
            exact ⟨([] : List TLive), x36.2.1, x36.2.2.1, x36.2.2.2, 1, s6, (.slice none 0 0), v6, hS, hF.cut ⟨rfl, rfl, rfl, rfl, trivial⟩, (Sub.refl _), h6, H⟩
          · clear H hS hF
            rintro a w ⟨x24, x25, x26, x27, x19, s15, v26, v27, hS, hF, hg13, h14, H⟩
            exact absurd (show none = some _ from H) (by simp)
          · clear H hS hF
            rintro k1 a w ⟨x24, x25, x26, x27, x19, s15, v26, v27, hS, hF, hg13, h14, H⟩
            rw [spec_l4Draw.l1.eq_2] at H
            refine sq ?_
            refine sq ?_
            refine rg ?_
            refine stp hF (p_move rfl) (by decide) (fun a hF => ?_)
            refine stp hF (p_lss rfl rfl) (by decide) (fun a hF => ?_)
            refine nilN ?_
            refine xn ?_
            refine cnd hF rfl (fun hc4 => ?_) (fun hc4 => ?_)
            · replace H := hbt hc4 H
              refine skN ?_
              refine xn ?_
              obtain ⟨x31, H, HK2⟩ := hb H
              refine sqj (fun a w => ∃ (x20 : (List TLive)) (x21 : (List Int)) (x22 : Int) (x23 : Int) (s16 : HF) (v28 : Value) (v29 : Value) , St e s16 w [pt g3 41 ([(.int .i64 (w64 (5 + x1.1))), (.int .i64 0), (.int .i64 0), (.int .i64 (w64 (1 + x2.1))), (.int .i64 0), (.bool false), (.int .i64 0), (.slice none 0 0), (.slice none 0 0), (.bool false), (.int .i64 0), (.slice none 0 0), (.slice none 0 0), (.int .i64 0), v28]), Ow kTLive 91 v28 x20, pt g1 139 ([v29, (.int .i64 x22), (.int .i64 x23)]), pt g2 41 ([(.int .i64 0), (.int .i64 0), (.int .i64 0), (.int .i64 0), (.int .i64 0), (.bool false), (.int .i64 0), (.slice none 0 0), (.slice none 0 0), (.bool false), (.int .i64 0), (.slice none 0 0), (.slice none 0 0), (.int .i64 0), (.slice none 0 0)])] ∧ Fr 75 a [(0, (.pointer (some ⟨g1, 0, none⟩))), (2, (.pointer (some ⟨g2, 0, none⟩))), (3, (.pointer (some ⟨g3, 0, none⟩))), (4, (.int .i64 x19))] ∧ Sub s15 s16 ∧ Sl (Kd.int .u8) s16 v29 x21 ∧ spec_l4Draw.c2 k1 (spec_l4Draw.l1 k1) x19 x20 x21 x22 x23 = some x43) ?_ ?_
              · skip
                refine blk ?_
                refine sq ?_
                refine rg ?_
                refine stp hF (p_move rfl) (by decide) (fun a hF => ?_)
                replace hS := hS.sel (is := [2, 0, 0, 0]) (A' := [pt g1 139 ([v27, (.int .i64 x26), (.int .i64 x27)]), pt g3 41 ([(.int .i64 (w64 (5 + x1.1))), (.int .i64 0), (.int .i64 0), (.int .i64 (w64 (1 + x2.1))), (.int .i64 0), (.bool false), (.int .i64 0), (.slice none 0 0), (.slice none 0 0), (.bool false), (.int .i64 0), (.slice none 0 0), (.slice none 0 0), (.int .i64 0), v26]), Ow kTLive 91 v26 x24, pt g2 41 ([(.int .i64 0), (.int .i64 0), (.int .i64 0), (.int .i64 0), (.int .i64 0), (.bool false), (.int .i64 0), (.slice none 0 0), (.slice none 0 0), (.bool false), (.int .i64 0), (.slice none 0 0), (.slice none 0 0), (.int .i64 0), (.slice none 0 0)])]) rfl
                obtain ⟨x28, hx11, H⟩ := hb H
                refine ste hF (e_callA (fst := []) (vs := [(.pointer (some ⟨g1, 0, none⟩)), (.int .i64 2)]) (cap := []) rfl rfl go_91 (St.call (A := [pt g1 139 ([v27, (.int .i64 x26), (.int .i64 x27)])]) (B := [pt g3 41 ([(.int .i64 (w64 (5 + x1.1))), (.int .i64 0), (.int .i64 0), (.int .i64 (w64 (1 + x2.1))), (.int .i64 0), (.bool false), (.int .i64 0), (.slice none 0 0), (.slice none 0 0), (.bool false), (.int .i64 0), (.slice none 0 0), (.slice none 0 0), (.int .i64 0), v26]), Ow kTLive 91 v26 x24, pt g2 41 ([(.int .i64 0), (.int .i64 0), (.int .i64 0), (.int .i64 0), (.int .i64 0), (.bool false), (.int .i64 0), (.slice none 0 0), (.slice none 0 0), (.bool false), (.int .i64 0), (.slice none 0 0), (.slice none 0 0), (.int .i64 0), (.slice none 0 0)])]) hS (spec_l1Once.spec k1 _ _ x25 x26 x27 2 v27 g1 h14 _ hx11)) rfl) (by decide) (fun v w a hR hF => ?_)
                obtain ⟨s17, A12, hg14, hS, hR⟩ := hR
                obtain ⟨v30, hv11, rfl, h15⟩ := hR; obtain rfl := hv11.symm
                have hS : St e s17 w [pt g1 139 ([v30, (.int .i64 x28.2.2.1), (.int .i64 x28.2.2.2)]), pt g3 41 ([(.int .i64 (w64 (5 + x1.1))), (.int .i64 0), (.int .i64 0), (.int .i64 (w64 (1 + x2.1))), (.int .i64 0), (.bool false), (.int .i64 0), (.slice none 0 0), (.slice none 0 0), (.bool false), (.int .i64 0), (.slice none 0 0), (.slice none 0 0), (.int .i64 0), v26]), Ow kTLive 91 v26 x24, pt g2 41 ([(.int .i64 0), (.int .i64 0), (.int .i64 0), (.int .i64 0), (.int .i64 0), (.bool false), (.int .i64 0), (.slice none 0 0), (.slice none 0 0), (.bool false), (.int .i64 0), (.slice none 0 0), (.slice none 0 0), (.int .i64 0), (.slice none 0 0)])] := hS
                refine nilN ?_
                refine xn ?_
                refine cnd hF rfl (fun hc5 => ?_) (fun hc5 => ?_)
                · replace H := hbt hc5 H
                  replace hS : St e s17 w.drew [pt g1 139 ([v30, (.int .i64 x28.2.2.1), (.int .i64 x28.2.2.2)]), pt g3 41 ([(.int .i64 (w64 (5 + x1.1))), (.int .i64 0), (.int .i64 0), (.int .i64 (w64 (1 + x2.1))), (.int .i64 0), (.bool false), (.int .i64 0), (.slice none 0 0), (.slice none 0 0), (.bool false), (.int .i64 0), (.slice none 0 0), (.slice none 0 0), (.int .i64 0), v26]), Ow kTLive 91 v26 x24, pt g2 41 ([(.int .i64 0), (.int .i64 0), (.int .i64 0), (.int .i64 0), (.int .i64 0), (.bool false), (.int .i64 0), (.slice none 0 0), (.slice none 0 0), (.bool false), (.int .i64 0), (.slice none 0 0), (.slice none 0 0), (.int .i64 0), (.slice none 0 0)])] := hS.drewN 1
                  refine drw [0, 1, 2, 3, 4, 5, 6, 7, 8, 9, 10, 11, 12] mixed (by kernel_rfl) (by decide) (hF.cut (L' := [(0, (.pointer (some ⟨g1, 0, none⟩))), (2, (.pointer (some ⟨g2, 0, none⟩))), (3, (.pointer (some ⟨g3, 0, none⟩))), (4, (.int .i64 x19)), (56, (.int .i64 x19)), (57, (.bool (decide (x19 < 5)))), (60, (.pointer (some ⟨g1, 0, none⟩))), (61, (.bool x28.1))]) ⟨rfl, rfl, rfl, rfl, rfl, rfl, rfl, rfl, trivial⟩) ?_
                  clear hF
                  generalize w.drew = w at hS ⊢
                  refine pk1 rfl (by decide) rfl (by kernel_rfl) rfl (p_fldb (o' := 14) rfl fi_41_8 rfl) ?_
                  refine pk1 rfl (by decide) rfl (by kernel_rfl) rfl (p_ldb_one (i := 1) hS rfl rfl ia_39 rfl) ?_
                  refine pk1 rfl (by decide) rfl (by kernel_rfl) rfl (p_move rfl) ?_
                  refine pk1 rfl (by decide) rfl (by kernel_rfl) rfl (p_move rfl) ?_
                  refine pkPerm [6, 4, 5, 7, 8, 9, 10, 11, 12] (by kernel_rfl) ?_
                  refine pk1 rfl (by decide) rfl (by kernel_rfl) rfl (p_move rfl) ?_
                  obtain ⟨x29, hx12, H⟩ := hb H
                  refine pkE [6, 2, 1, 0] rfl (by decide) (by kernel_rfl) (by kernel_rfl) (e_callA (fst := []) (vs := [(.pointer (some ⟨g1, 0, none⟩)), (.int .i64 4)]) (cap := []) rfl rfl go_145 (St.call (A := [pt g1 139 ([v30, (.int .i64 x28.2.2.1), (.int .i64 x28.2.2.2)])]) (B := [pt g3 41 ([(.int .i64 (w64 (5 + x1.1))), (.int .i64 0), (.int .i64 0), (.int .i64 (w64 (1 + x2.1))), (.int .i64 0), (.bool false), (.int .i64 0), (.slice none 0 0), (.slice none 0 0), (.bool false), (.int .i64 0), (.slice none 0 0), (.slice none 0 0), (.int .i64 0), v26]), Ow kTLive 91 v26 x24, pt g2 41 ([(.int .i64 0), (.int .i64 0), (.int .i64 0), (.int .i64 0), (.int .i64 0), (.bool false), (.int .i64 0), (.slice none 0 0), (.slice none 0 0), (.bool false), (.int .i64 0), (.slice none 0 0), (.slice none 0 0), (.int .i64 0), (.slice none 0 0)])]) hS (spec_l1Below.spec k1 _ _ x28.2.1 x28.2.2.1 x28.2.2.2 4 v30 g1 h15 _ hx12)) rfl) ?_
                  intro v w hR
                  obtain ⟨s18, A13, hg15, hS, hR⟩ := hR
                  obtain ⟨v31, hv12, rfl, h16⟩ := hR; obtain rfl := hv12.symm
                  have hS : St e s18 w [pt g1 139 ([v31, (.int .i64 x29.2.2.1), (.int .i64 x29.2.2.2)]), pt g3 41 ([(.int .i64 (w64 (5 + x1.1))), (.int .i64 0), (.int .i64 0), (.int .i64 (w64 (1 + x2.1))), (.int .i64 0), (.bool false), (.int .i64 0), (.slice none 0 0), (.slice none 0 0), (.bool false), (.int .i64 0), (.slice none 0 0), (.slice none 0 0), (.int .i64 0), v26]), Ow kTLive 91 v26 x24, pt g2 41 ([(.int .i64 0), (.int .i64 0), (.int .i64 0), (.int .i64 0), (.int .i64 0), (.bool false), (.int .i64 0), (.slice none 0 0), (.slice none 0 0), (.bool false), (.int .i64 0), (.slice none 0 0), (.slice none 0 0), (.int .i64 0), (.slice none 0 0)])] := hS
                  refine ⟨⟨knw rfl rfl rfl (p_move rfl), ⟨knw rfl rfl rfl (p_move rfl), ⟨knw rfl rfl rfl (p_ldb_one (i := 1) hS rfl rfl ia_39 rfl), ⟨knw rfl rfl rfl (p_fldb (o' := 14) rfl fi_41_8 rfl), trivial⟩⟩⟩⟩, ?_⟩
                  refine pk1 rfl (by decide) rfl (by kernel_rfl) rfl (p_add (c := w64 (1 + x29.1)) rfl rfl rfl) ?_
                  obtain ⟨x30, hx13, H⟩ := hb H
                  refine pkE [5, 2, 1, 0] rfl (by decide) (by kernel_rfl) (by kernel_rfl) (e_callA (fst := []) (vs := [(.pointer (some ⟨g1, 0, none⟩)), (.int .i64 2)]) (cap := []) rfl rfl go_91 (St.call (A := [pt g1 139 ([v31, (.int .i64 x29.2.2.1), (.int .i64 x29.2.2.2)])]) (B := [pt g3 41 ([(.int .i64 (w64 (5 + x1.1))), (.int .i64 0), (.int .i64 0), (.int .i64 (w64 (1 + x2.1))), (.int .i64 0), (.bool false), (.int .i64 0), (.slice none 0 0), (.slice none 0 0), (.bool false), (.int .i64 0), (.slice none 0 0), (.slice none 0 0), (.int .i64 0), v26]), Ow kTLive 91 v26 x24, pt g2 41 ([(.int .i64 0), (.int .i64 0), (.int .i64 0), (.int .i64 0), (.int .i64 0), (.bool false), (.int .i64 0), (.slice none 0 0), (.slice none 0 0), (.bool false), (.int .i64 0), (.slice none 0 0), (.slice none 0 0), (.int .i64 0), (.slice none 0 0)])]) hS (spec_l1Once.spec k1 _ _ x29.2.1 x29.2.2.1 x29.2.2.2 2 v31 g1 h16 _ hx13)) rfl) ?_
                  intro v w hR
                  obtain ⟨s19, A14, hg16, hS, hR⟩ := hR
                  obtain ⟨v32, hv13, rfl, h17⟩ := hR; obtain rfl := hv13.symm
                  have hS : St e s19 w [pt g1 139 ([v32, (.int .i64 x30.2.2.1), (.int .i64 x30.2.2.2)]), pt g3 41 ([(.int .i64 (w64 (5 + x1.1))), (.int .i64 0), (.int .i64 0), (.int .i64 (w64 (1 + x2.1))), (.int .i64 0), (.bool false), (.int .i64 0), (.slice none 0 0), (.slice none 0 0), (.bool false), (.int .i64 0), (.slice none 0 0), (.slice none 0 0), (.int .i64 0), v26]), Ow kTLive 91 v26 x24, pt g2 41 ([(.int .i64 0), (.int .i64 0), (.int .i64 0), (.int .i64 0), (.int .i64 0), (.bool false), (.int .i64 0), (.slice none 0 0), (.slice none 0 0), (.bool false), (.int .i64 0), (.slice none 0 0), (.slice none 0 0), (.int .i64 0), (.slice none 0 0)])] := hS
                  refine ⟨⟨knw rfl rfl rfl (p_add (c := w64 (1 + x29.1)) rfl rfl rfl), ⟨knw rfl rfl rfl (p_move rfl), ⟨knw rfl rfl rfl (p_ldb_one (i := 1) hS rfl rfl ia_39 rfl), ⟨knw rfl rfl rfl (p_fldb (o' := 14) rfl fi_41_8 rfl), trivial⟩⟩⟩⟩, ?_⟩
                  refine pk1 rfl (by decide) rfl (by kernel_rfl) rfl (p_build (ps := [(0, (.tmp 64)), (1, (.tmp 67)), (2, (.tmp 69))]) (vs := [(0, (.int .i64 x19)), (1, (.int .i64 (w64 (1 + x29.1)))), (2, (.bool x30.1))]) (v := (.agg #[(.int .i64 x19), (.int .i64 (w64 (1 + x29.1))), (.bool x30.1)])) rfl (by intro w; kernel_rfl)) ?_
                  refine pkE [5, 2, 1, 0] rfl (by decide) (by kernel_rfl) (by kernel_rfl) (e_bslice (kd := kTLive) (et := 91) (ps := [(0, (.tmp 70))]) (vs := [(0, (.agg #[(.int .i64 x19), (.int .i64 (w64 (1 + x29.1))), (.bool x30.1)]))]) (cs := [(.int .i64 x19), (.int .i64 (w64 (1 + x29.1))), (.bool x30.1)]) (xs := ([(⟨x19, w64 (1 + x29.1), x30.1⟩ : TLive)] : List TLive)) hS rfl (by intro w; kernel_rfl) rfl (by decide) (Nat.le_of_ble_eq_true rfl) (by exact (rows_cons (kd := kTLive) (x := (⟨x19, w64 (1 + x29.1), x30.1⟩ : TLive)) (c := [(.int .i64 x19), (.int .i64 (w64 (1 + x29.1))), (.bool x30.1)]) (cs := []) (kTLive_mk (x := (⟨x19, w64 (1 + x29.1), x30.1⟩ : TLive)) ) (Rows.nil _ _ _ _)))) ?_
                  intro v33 w hR
                  have hS : St e s19 w [Ow kTLive 91 v33 ([(⟨x19, w64 (1 + x29.1), x30.1⟩ : TLive)] : List TLive), pt g1 139 ([v32, (.int .i64 x30.2.2.1), (.int .i64 x30.2.2.2)]), pt g3 41 ([(.int .i64 (w64 (5 + x1.1))), (.int .i64 0), (.int .i64 0), (.int .i64 (w64 (1 + x2.1))), (.int .i64 0), (.bool false), (.int .i64 0), (.slice none 0 0), (.slice none 0 0), (.bool false), (.int .i64 0), (.slice none 0 0), (.slice none 0 0), (.int .i64 0), v26]), Ow kTLive 91 v26 x24, pt g2 41 ([(.int .i64 0), (.int .i64 0), (.int .i64 0), (.int .i64 0), (.int .i64 0), (.bool false), (.int .i64 0), (.slice none 0 0), (.slice none 0 0), (.bool false), (.int .i64 0), (.slice none 0 0), (.slice none 0 0), (.int .i64 0), (.slice none 0 0)])] := hR
                  refine ⟨⟨knw rfl rfl rfl (p_add (c := w64 (1 + x29.1)) rfl rfl rfl), ⟨knw rfl rfl rfl (p_move rfl), ⟨knw rfl rfl rfl (p_ldb_one (i := 2) hS rfl rfl ia_39 rfl), ⟨knw rfl rfl rfl (p_fldb (o' := 14) rfl fi_41_8 rfl), trivial⟩⟩⟩⟩, ?_⟩
                  obtain ⟨hq1, H⟩ := hck H
                  refine pkE [5, 2, 0] rfl (by decide) (by kernel_rfl) (by kernel_rfl) (e_append (n := 3) hS rfl rfl rfl (hS.src (n := 0) rfl) un_39 ti_91 rfl (by decide) (by decide) (Nat.le_trans (Nat.mul_le_mul_right 24 hq1) (by decide))) ?_
                  intro v34 w hR
                  have hS : St e s19 w [Ow kTLive 91 v34 (x24 ++ ([(⟨x19, w64 (1 + x29.1), x30.1⟩ : TLive)] : List TLive)), Ow kTLive 91 v33 ([(⟨x19, w64 (1 + x29.1), x30.1⟩ : TLive)] : List TLive), pt g1 139 ([v32, (.int .i64 x30.2.2.1), (.int .i64 x30.2.2.2)]), pt g3 41 ([(.int .i64 (w64 (5 + x1.1))), (.int .i64 0), (.int .i64 0), (.int .i64 (w64 (1 + x2.1))), (.int .i64 0), (.bool false), (.int .i64 0), (.slice none 0 0), (.slice none 0 0), (.bool false), (.int .i64 0), (.slice none 0 0), (.slice none 0 0), (.int .i64 0), v26]), pt g2 41 ([(.int .i64 0), (.int .i64 0), (.int .i64 0), (.int .i64 0), (.int .i64 0), (.bool false), (.int .i64 0), (.slice none 0 0), (.slice none 0 0), (.bool false), (.int .i64 0), (.slice none 0 0), (.slice none 0 0), (.int .i64 0), (.slice none 0 0)])] := hR
                  replace hS := hS.sel (is := [0, 1, 1, 1]) (A' := [Ow kTLive 91 v34 (x24 ++ ([(⟨x19, w64 (1 + x29.1), x30.1⟩ : TLive)] : List TLive)), pt g1 139 ([v32, (.int .i64 x30.2.2.1), (.int .i64 x30.2.2.2)]), pt g3 41 ([(.int .i64 (w64 (5 + x1.1))), (.int .i64 0), (.int .i64 0), (.int .i64 (w64 (1 + x2.1))), (.int .i64 0), (.bool false), (.int .i64 0), (.slice none 0 0), (.slice none 0 0), (.bool false), (.int .i64 0), (.slice none 0 0), (.slice none 0 0), (.int .i64 0), v26]), pt g2 41 ([(.int .i64 0), (.int .i64 0), (.int .i64 0), (.int .i64 0), (.int .i64 0), (.bool false), (.int .i64 0), (.slice none 0 0), (.slice none 0 0), (.bool false), (.int .i64 0), (.slice none 0 0), (.slice none 0 0), (.int .i64 0), (.slice none 0 0)])]) rfl
                  refine ⟨⟨knw rfl rfl rfl (p_add (c := w64 (1 + x29.1)) rfl rfl rfl), ⟨knw rfl rfl rfl (p_move rfl), ⟨knw rfl rfl rfl (p_fldb (o' := 14) rfl fi_41_8 rfl), trivial⟩⟩⟩, ?_⟩
                  refine pk1 rfl (by decide) rfl (by kernel_rfl) rfl (p_fldb (o' := 14) rfl fi_41_8 rfl) ?_
                  refine pkE0 [] rfl (by kernel_rfl) (by kernel_rfl) (e_stb (i := 2) (l := [(.int .i64 (w64 (5 + x1.1))), (.int .i64 0), (.int .i64 0), (.int .i64 (w64 (1 + x2.1))), (.int .i64 0), (.bool false), (.int .i64 0), (.slice none 0 0), (.slice none 0 0), (.bool false), (.int .i64 0), (.slice none 0 0), (.slice none 0 0), (.int .i64 0)]) (m := [v26]) (r := []) (m' := [v34]) (cs' := [(.int .i64 (w64 (5 + x1.1))), (.int .i64 0), (.int .i64 0), (.int .i64 (w64 (1 + x2.1))), (.int .i64 0), (.bool false), (.int .i64 0), (.slice none 0 0), (.slice none 0 0), (.bool false), (.int .i64 0), (.slice none 0 0), (.slice none 0 0), (.int .i64 0), v34]) hS rfl rfl rfl ti_39 rfl rfl rfl (cells_one (hS.one_ow (i := 0) rfl)) rfl (one_cons (hS.one_ow (i := 0) rfl) one_nil) rfl) ?_
                  intro v w hR
                  have hS : St e s19 w [pt g3 41 ([(.int .i64 (w64 (5 + x1.1))), (.int .i64 0), (.int .i64 0), (.int .i64 (w64 (1 + x2.1))), (.int .i64 0), (.bool false), (.int .i64 0), (.slice none 0 0), (.slice none 0 0), (.bool false), (.int .i64 0), (.slice none 0 0), (.slice none 0 0), (.int .i64 0), v34]), Ow kTLive 91 v34 (x24 ++ ([(⟨x19, w64 (1 + x29.1), x30.1⟩ : TLive)] : List TLive)), pt g1 139 ([v32, (.int .i64 x30.2.2.1), (.int .i64 x30.2.2.2)]), pt g2 41 ([(.int .i64 0), (.int .i64 0), (.int .i64 0), (.int .i64 0), (.int .i64 0), (.bool false), (.int .i64 0), (.slice none 0 0), (.slice none 0 0), (.bool false), (.int .i64 0), (.slice none 0 0), (.slice none 0 0), (.int .i64 0), (.slice none 0 0)])] := hR
                  refine ⟨trivial, ?_⟩
                  refine pkF (fun a hF => ?_)
                  refine bn (xn ?_)
                  obtain rfl := hsm H
                  exact ⟨(x24 ++ ([(⟨x19, w64 (1 + x29.1), x30.1⟩ : TLive)] : List TLive)), x30.2.1, x30.2.2.1, x30.2.2.2, s19, v34, v32, hS, hF.cut ⟨rfl, rfl, rfl, rfl, trivial⟩, ((hg14.trans hg15).trans hg16), h17, HK2⟩
                · replace H := hbf hc5 H
                  refine skN ?_
                  refine bn (xn ?_)
                  obtain rfl := hsm H
                  replace hS := hS.sel (is := [1, 1, 0, 0]) (A' := [pt g3 41 ([(.int .i64 (w64 (5 + x1.1))), (.int .i64 0), (.int .i64 0), (.int .i64 (w64 (1 + x2.1))), (.int .i64 0), (.bool false), (.int .i64 0), (.slice none 0 0), (.slice none 0 0), (.bool false), (.int .i64 0), (.slice none 0 0), (.slice none 0 0), (.int .i64 0), v26]), Ow kTLive 91 v26 x24, pt g1 139 ([v30, (.int .i64 x28.2.2.1), (.int .i64 x28.2.2.2)]), pt g2 41 ([(.int .i64 0), (.int .i64 0), (.int .i64 0), (.int .i64 0), (.int .i64 0), (.bool false), (.int .i64 0), (.slice none 0 0), (.slice none 0 0), (.bool false), (.int .i64 0), (.slice none 0 0), (.slice none 0 0), (.int .i64 0), (.slice none 0 0)])]) rfl
                  exact ⟨x24, x28.2.1, x28.2.2.1, x28.2.2.2, s17, v26, v30, hS, hF.cut ⟨rfl, rfl, rfl, rfl, trivial⟩, hg14, h15, HK2⟩
              · clear H HK2 hS hF
                rintro a w ⟨x20, x21, x22, x23, s16, v28, v29, hS, hF, hg17, h18, H⟩
                unfold spec_l4Draw.c2 at H
                refine rg ?_
                refine stp hF (p_move rfl) (by decide) (fun a hF => ?_)
                refine stp hF (p_add (c := w64 (x19 + 1)) rfl rfl rfl) (by decide) (fun a hF => ?_)
                refine stp hF (p_assign rfl) (by decide) (fun a hF => ?_)
                refine nilN ?_
                refine xn ?_
                exact ⟨x20, x21, x22, x23, (w64 (x19 + 1)), s16, v28, v29, hS, hF.cut ⟨rfl, rfl, rfl, rfl, trivial⟩, (hg13.trans hg17), h18, H⟩
            · replace H := hbf hc4 H
              refine exi ?_
              refine xe (xe (hit (bn (xn ?_))))
              obtain rfl := hsm H
              replace hS := hS.ownNil (Kd.int .i64) 3 none
              replace hS := hS.ownNil (Kd.int .i64) 3 none
              replace hS := hS.ownNil (Kd.int .i64) 3 none
              replace hS := hS.ownNil (Kd.int .i64) 3 none
              replace hS := hS.sel (is := [4, 3, 2, 1, 0, 0, 0, 0]) (A' := [pt g3 41 ([(.int .i64 (w64 (5 + x1.1))), (.int .i64 0), (.int .i64 0), (.int .i64 (w64 (1 + x2.1))), (.int .i64 0), (.bool false), (.int .i64 0), (.slice none 0 0), (.slice none 0 0), (.bool false), (.int .i64 0), (.slice none 0 0), (.slice none 0 0), (.int .i64 0), v26]), Ow (Kd.int .i64) 3 (.slice none 0 0) ([] : List Int), Ow (Kd.int .i64) 3 (.slice none 0 0) ([] : List Int), Ow (Kd.int .i64) 3 (.slice none 0 0) ([] : List Int), Ow (Kd.int .i64) 3 (.slice none 0 0) ([] : List Int), Ow kTLive 91 v26 x24, pt g1 139 ([v27, (.int .i64 x26), (.int .i64 x27)]), pt g2 41 ([(.int .i64 0), (.int .i64 0), (.int .i64 0), (.int .i64 0), (.int .i64 0), (.bool false), (.int .i64 0), (.slice none 0 0), (.slice none 0 0), (.bool false), (.int .i64 0), (.slice none 0 0), (.slice none 0 0), (.int .i64 0), (.slice none 0 0)])]) rfl
              exact ⟨0, 0, 0, false, 0, ([] : List Int), ([] : List Int), false, 0, ([] : List Int), ([] : List Int), 0, x24, x25, x26, x27, s15, (.slice none 0 0), (.slice none 0 0), (.slice none 0 0), (.slice none 0 0), v26, v27, hS, hF.cut ⟨rfl, rfl, trivial⟩, hg13, h14, HK1⟩
        · replace H := hbf hc3 H
          refine skN ?_
          refine bn (xn ?_)
          obtain rfl := hsm H
          replace hS := hS.ownNil (Kd.int .i64) 3 none
          replace hS := hS.ownNil (Kd.int .i64) 3 none
          replace hS := hS.ownNil (Kd.int .i64) 3 none
          replace hS := hS.ownNil (Kd.int .i64) 3 none
          replace hS := hS.ownNil kTLive 91 none
          replace hS := hS.sel (is := [5, 4, 3, 2, 1, 0, 0, 0]) (A' := [pt g3 41 ([(.int .i64 (w64 (5 + x1.1))), (.int .i64 (w64 (1 + x35.1))), (.int .i64 x36.1), (.int .i64 (w64 (1 + x2.1))), (.int .i64 0), (.bool false), (.int .i64 0), (.slice none 0 0), (.slice none 0 0), (.bool false), (.int .i64 0), (.slice none 0 0), (.slice none 0 0), (.int .i64 0), (.slice none 0 0)]), Ow (Kd.int .i64) 3 (.slice none 0 0) ([] : List Int), Ow (Kd.int .i64) 3 (.slice none 0 0) ([] : List Int), Ow (Kd.int .i64) 3 (.slice none 0 0) ([] : List Int), Ow (Kd.int .i64) 3 (.slice none 0 0) ([] : List Int), Ow kTLive 91 (.slice none 0 0) ([] : List TLive), pt g1 139 ([v6, (.int .i64 x36.2.2.1), (.int .i64 x36.2.2.2)]), pt g2 41 ([(.int .i64 0), (.int .i64 0), (.int .i64 0), (.int .i64 0), (.int .i64 0), (.bool false), (.int .i64 0), (.slice none 0 0), (.slice none 0 0), (.bool false), (.int .i64 0), (.slice none 0 0), (.slice none 0 0), (.int .i64 0), (.slice none 0 0)])]) rfl
          exact ⟨(w64 (1 + x35.1)), x36.1, 0, false, 0, ([] : List Int), ([] : List Int), false, 0, ([] : List Int), ([] : List Int), 0, ([] : List TLive), x36.2.1, x36.2.2.1, x36.2.2.2, s6, (.slice none 0 0), (.slice none 0 0), (.slice none 0 0), (.slice none 0 0), (.slice none 0 0), v6, hS, hF.cut ⟨rfl, rfl, trivial⟩, (Sub.refl _), h6, HK1⟩
  · clear H HK1 hS hF
    rintro a w ⟨x3, x4, x5, x6, x7, x8, x9, x10, x11, x12, x13, x14, x15, x16, x17, x18, s7, v7, v8, v9, v10, v11, v12, hS, hF, hg18, h19, H⟩
    unfold spec_l4Draw.c1 at H
    refine sq ?_
    refine rg ?_
    refine stp hF (p_ldb_agg (i := 0) (l := []) (m := [(.int .i64 (w64 (5 + x1.1))), (.int .i64 x3), (.int .i64 x4), (.int .i64 (w64 (1 + x2.1))), (.int .i64 x5), (.bool x6), (.int .i64 x7), v7, v8, (.bool x10), (.int .i64 x11), v9, v10, (.int .i64 x14), v11]) (r := []) hS rfl rfl ia_41 ti_41 rfl rfl rfl) (by decide) (fun a hF => ?_)
    refine ste0 hF (e_stb (i := 7) (l := []) (m := [(.int .i64 0), (.int .i64 0), (.int .i64 0), (.int .i64 0), (.int .i64 0), (.bool false), (.int .i64 0), (.slice none 0 0), (.slice none 0 0), (.bool false), (.int .i64 0), (.slice none 0 0), (.slice none 0 0), (.int .i64 0), (.slice none 0 0)]) (r := []) (m' := [(.int .i64 (w64 (5 + x1.1))), (.int .i64 x3), (.int .i64 x4), (.int .i64 (w64 (1 + x2.1))), (.int .i64 x5), (.bool x6), (.int .i64 x7), v7, v8, (.bool x10), (.int .i64 x11), v9, v10, (.int .i64 x14), v11]) (cs' := [(.int .i64 (w64 (5 + x1.1))), (.int .i64 x3), (.int .i64 x4), (.int .i64 (w64 (1 + x2.1))), (.int .i64 x5), (.bool x6), (.int .i64 x7), v7, v8, (.bool x10), (.int .i64 x11), v9, v10, (.int .i64 x14), v11]) hS rfl rfl rfl ti_41 rfl rfl rfl rfl rfl (one_cons rfl (one_cons rfl (one_cons rfl (one_cons rfl (one_cons rfl (one_cons rfl (one_cons rfl (one_cons (hS.one_ow (i := 1) rfl) (one_cons (hS.one_ow (i := 2) rfl) (one_cons rfl (one_cons rfl (one_cons (hS.one_ow (i := 3) rfl) (one_cons (hS.one_ow (i := 4) rfl) (one_cons rfl (one_cons (hS.one_ow (i := 5) rfl) one_nil))))))))))))))) rfl) (fun v w a hR hF => ?_)
    have hS : St e s7 w [pt g2 41 ([(.int .i64 (w64 (5 + x1.1))), (.int .i64 x3), (.int .i64 x4), (.int .i64 (w64 (1 + x2.1))), (.int .i64 x5), (.bool x6), (.int .i64 x7), v7, v8, (.bool x10), (.int .i64 x11), v9, v10, (.int .i64 x14), v11]), pt g3 41 ([(.int .i64 (w64 (5 + x1.1))), (.int .i64 x3), (.int .i64 x4), (.int .i64 (w64 (1 + x2.1))), (.int .i64 x5), (.bool x6), (.int .i64 x7), v7, v8, (.bool x10), (.int .i64 x11), v9, v10, (.int .i64 x14), v11]), Ow (Kd.int .i64) 3 v7 x8, Ow (Kd.int .i64) 3 v8 x9, Ow (Kd.int .i64) 3 v9 x12, Ow (Kd.int .i64) 3 v10 x13, Ow kTLive 91 v11 x15, pt g1 139 ([v12, (.int .i64 x17), (.int .i64 x18)])] := hR
    refine nilN ?_
    refine xn ?_
    refine rt ?_
    obtain rfl := hsm H
    have h20 : RvOk Try.prog _ w (.cell 2 41) _ := rvC (i := 0) hS rfl (show lk [(2, (.pointer (some ⟨g2, 0, none⟩)))] 2 = _ from rfl) ia_41 ti_41 rfl
    replace hS := hS.sel (is := [7, 2, 2, 2, 2, 2]) (A' := [pt g1 139 ([v12, (.int .i64 x17), (.int .i64 x18)]), Ow (Kd.int .i64) 3 v7 x8, Ow (Kd.int .i64) 3 v8 x9, Ow (Kd.int .i64) 3 v9 x12, Ow (Kd.int .i64) 3 v10 x13, Ow kTLive 91 v11 x15]) rfl
    exact retc1 hF rfl h20 hS ⟨v12, v7, v8, v9, v10, v11, rfl, rfl, h19⟩

def spec_l4Bend.c1 (k : Nat) (x1 : TRec) (x2 : Int) (x3 : Int) (x4 : Int) (x5 : Int) (x6 : Int) (x7 : Int) (x8 : (List TLive)) (x9 : (List Int)) (x10 : Int) (x11 : Int) : Option (TRec × (List Int) × Int × Int) :=
  (some ((⟨x2, x3, x4, x5, x6, (⟨x1.Before.Has, (⟨x1.Before.O.Kind, x1.Before.O.Ints, x1.Before.O.Refs⟩ : TObj)⟩ : TSlot), (⟨x1.After.Has, (⟨x1.After.O.Kind, x1.After.O.Ints, x1.After.O.Refs⟩ : TObj)⟩ : TSlot), x7, x8⟩ : TRec), x9, x10, x11))
def spec_l4Bend.f (k : Nat) (x12 : (List Int)) (x13 : Int) (x14 : Int) (x1 : TRec) : Option (TRec × (List Int) × Int × Int) :=
  ((((spec_l1Below.f k x12 x13 x14 8).bind fun x15 => (if (decide (x15.1 = 0)) = true then ((spec_l1Int.f k x15.2.1 x15.2.2.1 x15.2.2.2 ([0, 1, 1000000, 1000001] : List Int)).bind fun x16 => (some (x16.1, x1.Tx, x1.Prev, x1.Kind, x1.Oid, x1.Next, x1.Txs, x16.2.1, x16.2.2.1, x16.2.2.2))) else (if (decide (x15.1 = 1)) = true then ((spec_l1Int.f k x15.2.1 x15.2.2.1 x15.2.2.2 ([0, 1000, 1001] : List Int)).bind fun x17 => (some (x1.Lsn, x17.1, x1.Prev, x1.Kind, x1.Oid, x1.Next, x1.Txs, x17.2.1, x17.2.2.1, x17.2.2.2))) else (if (decide (x15.1 = 2)) = true then ((spec_l1Int.f k x15.2.1 x15.2.2.1 x15.2.2.2 ([(-1), x1.Lsn, 0] : List Int)).bind fun x18 => (some (x1.Lsn, x1.Tx, x18.1, x1.Kind, x1.Oid, x1.Next, x1.Txs, x18.2.1, x18.2.2.1, x18.2.2.2))) else (if (decide (x15.1 = 3)) = true then ((spec_l1Int.f k x15.2.1 x15.2.2.1 x15.2.2.2 ([0, 7, 1, 4] : List Int)).bind fun x19 => (some (x1.Lsn, x1.Tx, x1.Prev, x19.1, x1.Oid, x1.Next, x1.Txs, x19.2.1, x19.2.2.1, x19.2.2.2))) else (if (decide (x15.1 = 4)) = true then ((spec_l1Int.f k x15.2.1 x15.2.2.1 x15.2.2.2 ([0, 31, 32] : List Int)).bind fun x20 => (some (x1.Lsn, x1.Tx, x1.Prev, x1.Kind, x20.1, x1.Next, x1.Txs, x20.2.1, x20.2.2.1, x20.2.2.2))) else (if (decide (x15.1 = 5)) = true then ((spec_l1Int.f k x15.2.1 x15.2.2.1 x15.2.2.2 ([1, (-1), x1.Lsn] : List Int)).bind fun x21 => (some (x1.Lsn, x1.Tx, x1.Prev, x1.Kind, x1.Oid, x21.1, x1.Txs, x21.2.1, x21.2.2.1, x21.2.2.2))) else (if (decide (x15.1 = 6)) = true then (if ([] : List TLive).length + x1.Txs.length ≤ 5864062014805 then ((spec_l1Int.f k x15.2.1 x15.2.2.1 x15.2.2.2 ([1, 9, 0] : List Int)).bind fun x22 => ((spec_l1Int.f k x22.2.1 x22.2.2.1 x22.2.2.2 ([0, 1, 99] : List Int)).bind fun x23 => (if (([] : List TLive) ++ x1.Txs).length + 1 ≤ 5864062014805 then (some (x1.Lsn, x1.Tx, x1.Prev, x1.Kind, x1.Oid, x1.Next, ((([] : List TLive) ++ x1.Txs) ++ ([(⟨x22.1, x23.1, false⟩ : TLive)] : List TLive)), x23.2.1, x23.2.2.1, x23.2.2.2)) else none))) else none) else (some (x1.Lsn, x1.Tx, x1.Prev, x1.Kind, x1.Oid, x1.Next, x1.Txs, x15.2.1, x15.2.2.1, x15.2.2.2)))))))))) : Option (Int × Int × Int × Int × Int × Int × (List TLive) × (List Int) × Int × Int)).bind fun x24 => spec_l4Bend.c1 k x1 x24.1 x24.2.1 x24.2.2.1 x24.2.2.2.1 x24.2.2.2.2.1 x24.2.2.2.2.2.1 x24.2.2.2.2.2.2.1 x24.2.2.2.2.2.2.2.1 x24.2.2.2.2.2.2.2.2.1 x24.2.2.2.2.2.2.2.2.2)
set_option maxRecDepth 100000 in
set_option maxHeartbeats 4000000 in
theorem spec_l4Bend.spec (k : Nat) (s0 : HF) (w : World) (x12 : (List Int)) (x13 : Int) (x14 : Int) (x1 : TRec) (v1 : Value) (g1 : Nat) (v2 : Value) (v3 : Value) (v4 : Value) (v5 : Value) (v6 : Value) (h1 : Sl (Kd.int .u8) s0 v1 x12) (h2 : Sl (Kd.int .i64) s0 v2 x1.Before.O.Ints) (h3 : Sl (Kd.int .i64) s0 v3 x1.Before.O.Refs) (h4 : Sl (Kd.int .i64) s0 v4 x1.After.O.Ints) (h5 : Sl (Kd.int .i64) s0 v5 x1.After.O.Refs) (h6 : Sl kTLive s0 v6 x1.Txs) (r : TRec × (List Int) × Int × Int) (H : spec_l4Bend.f k x12 x13 x14 x1 = some r) :
    Law Try.prog 138 #[(.pointer (some ⟨g1, 0, none⟩)), (.agg #[(.int .i64 x1.Lsn), (.int .i64 x1.Tx), (.int .i64 x1.Prev), (.int .i64 x1.Kind), (.int .i64 x1.Oid), (.bool x1.Before.Has), (.int .i64 x1.Before.O.Kind), v2, v3, (.bool x1.After.Has), (.int .i64 x1.After.O.Kind), v4, v5, (.int .i64 x1.Next), v6])] s0 w [pt g1 139 ([v1, (.int .i64 x13), (.int .i64 x14)])] (fun v s1 A1 => ∃ (u0 : Value) (u1 : Value) (u2 : Value) (u3 : Value) (u4 : Value) (u5 : Value), v = (.agg #[(.int .i64 r.1.Lsn), (.int .i64 r.1.Tx), (.int .i64 r.1.Prev), (.int .i64 r.1.Kind), (.int .i64 r.1.Oid), (.bool r.1.Before.Has), (.int .i64 r.1.Before.O.Kind), u1, u2, (.bool r.1.After.Has), (.int .i64 r.1.After.O.Kind), u3, u4, (.int .i64 r.1.Next), u5]) ∧ A1 = [pt g1 139 ([u0, (.int .i64 r.2.2.1), (.int .i64 r.2.2.2)])] ∧ Sl (Kd.int .u8) s1 u0 r.2.1 ∧ Sl (Kd.int .i64) s1 u1 r.1.Before.O.Ints ∧ Sl (Kd.int .i64) s1 u2 r.1.Before.O.Refs ∧ Sl (Kd.int .i64) s1 u3 r.1.After.O.Ints ∧ Sl (Kd.int .i64) s1 u4 r.1.After.O.Refs ∧ Sl kTLive s1 u5 r.1.Txs) := by
  unfold spec_l4Bend.f at H
  refine Law.intro Try.func138 rfl [(0, (.pointer (some ⟨g1, 0, none⟩))), (1, (.agg #[(.int .i64 x1.Lsn), (.int .i64 x1.Tx), (.int .i64 x1.Prev), (.int .i64 x1.Kind), (.int .i64 x1.Oid), (.bool x1.Before.Has), (.int .i64 x1.Before.O.Kind), v2, v3, (.bool x1.After.Has), (.int .i64 x1.After.O.Kind), v4, v5, (.int .i64 x1.Next), v6]))] (Nat.le_of_ble_eq_true rfl) (enter_lk ⟨rfl, rfl, trivial⟩) (fun e a hS hF => ?_)
  have hF : Fr 64 a [(0, (.pointer (some ⟨g1, 0, none⟩))), (1, (.agg #[(.int .i64 x1.Lsn), (.int .i64 x1.Tx), (.int .i64 x1.Prev), (.int .i64 x1.Kind), (.int .i64 x1.Oid), (.bool x1.Before.Has), (.int .i64 x1.Before.O.Kind), v2, v3, (.bool x1.After.Has), (.int .i64 x1.After.O.Kind), v4, v5, (.int .i64 x1.Next), v6]))] := hF
  refine sq ?_
  refine rg ?_
  refine ste hF (e_box (cs := [(.int .i64 x1.Lsn), (.int .i64 x1.Tx), (.int .i64 x1.Prev), (.int .i64 x1.Kind), (.int .i64 x1.Oid), (.bool x1.Before.Has), (.int .i64 x1.Before.O.Kind), v2, v3, (.bool x1.After.Has), (.int .i64 x1.After.O.Kind), v4, v5, (.int .i64 x1.Next), v6]) hS rfl rfl) (by decide) (fun v w a hR hF => ?_)
  obtain ⟨g2, rfl, hS⟩ := hR
  refine ste hF (e_alloc (cs := [(.int .i64 0), (.int .i64 0), (.int .i64 0), (.int .i64 0), (.int .i64 0), (.bool false), (.int .i64 0), (.slice none 0 0), (.slice none 0 0), (.bool false), (.int .i64 0), (.slice none 0 0), (.slice none 0 0), (.int .i64 0), (.slice none 0 0)]) hS ti_41 rfl) (by decide) (fun v w a hR hF => ?_)
  obtain ⟨g3, rfl, hS⟩ := hR
  refine nilN ?_
  refine xn ?_
  obtain ⟨x24, H, HK1⟩ := hb H
  refine sqj (fun a w => ∃ (x2 : Int) (x3 : Int) (x4 : Int) (x5 : Int) (x6 : Int) (x7 : Int) (x8 : (List TLive)) (x9 : (List Int)) (x10 : Int) (x11 : Int) (s2 : HF) (v7 : Value) (v8 : Value) , St e s2 w [pt g3 41 ([(.int .i64 0), (.int .i64 0), (.int .i64 0), (.int .i64 0), (.int .i64 0), (.bool false), (.int .i64 0), (.slice none 0 0), (.slice none 0 0), (.bool false), (.int .i64 0), (.slice none 0 0), (.slice none 0 0), (.int .i64 0), (.slice none 0 0)]), pt g2 41 ([(.int .i64 x2), (.int .i64 x3), (.int .i64 x4), (.int .i64 x5), (.int .i64 x6), (.bool x1.Before.Has), (.int .i64 x1.Before.O.Kind), v2, v3, (.bool x1.After.Has), (.int .i64 x1.After.O.Kind), v4, v5, (.int .i64 x7), v7]), pt g1 139 ([v8, (.int .i64 x10), (.int .i64 x11)])] ∧ Fr 64 a [(3, (.pointer (some ⟨g2, 0, none⟩))), (4, (.pointer (some ⟨g3, 0, none⟩)))] ∧ Sub s0 s2 ∧ Sl kTLive s2 v7 x8 ∧ Sl (Kd.int .u8) s2 v8 x9 ∧ spec_l4Bend.c1 k x1 x2 x3 x4 x5 x6 x7 x8 x9 x10 x11 = some r) ?_ ?_
  · skip
    refine sq ?_
    refine rg ?_
    refine stp hF (p_move rfl) (by decide) (fun a hF => ?_)
    replace hS := hS.sel (is := [2, 0, 0]) (A' := [pt g1 139 ([v1, (.int .i64 x13), (.int .i64 x14)]), pt g3 41 ([(.int .i64 0), (.int .i64 0), (.int .i64 0), (.int .i64 0), (.int .i64 0), (.bool false), (.int .i64 0), (.slice none 0 0), (.slice none 0 0), (.bool false), (.int .i64 0), (.slice none 0 0), (.slice none 0 0), (.int .i64 0), (.slice none 0 0)]), pt g2 41 ([(.int .i64 x1.Lsn), (.int .i64 x1.Tx), (.int .i64 x1.Prev), (.int .i64 x1.Kind), (.int .i64 x1.Oid), (.bool x1.Before.Has), (.int .i64 x1.Before.O.Kind), v2, v3, (.bool x1.After.Has), (.int .i64 x1.After.O.Kind), v4, v5, (.int .i64 x1.Next), v6])]) rfl
    obtain ⟨x15, hx1, H⟩ := hb H
    refine ste hF (e_callA (fst := []) (vs := [(.pointer (some ⟨g1, 0, none⟩)), (.int .i64 8)]) (cap := []) rfl rfl go_145 (St.call (A := [pt g1 139 ([v1, (.int .i64 x13), (.int .i64 x14)])]) (B := [pt g3 41 ([(.int .i64 0), (.int .i64 0), (.int .i64 0), (.int .i64 0), (.int .i64 0), (.bool false), (.int .i64 0), (.slice none 0 0), (.slice none 0 0), (.bool false), (.int .i64 0), (.slice none 0 0), (.slice none 0 0), (.int .i64 0), (.slice none 0 0)]), pt g2 41 ([(.int .i64 x1.Lsn), (.int .i64 x1.Tx), (.int .i64 x1.Prev), (.int .i64 x1.Kind), (.int .i64 x1.Oid), (.bool x1.Before.Has), (.int .i64 x1.Before.O.Kind), v2, v3, (.bool x1.After.Has), (.int .i64 x1.After.O.Kind), v4, v5, (.int .i64 x1.Next), v6])]) hS (spec_l1Below.spec k _ _ x12 x13 x14 8 v1 g1 h1 _ hx1)) rfl) (by decide) (fun v w a hR hF => ?_)
    obtain ⟨s3, A2, hg1, hS, hR⟩ := hR
    obtain ⟨v9, hv1, rfl, h7⟩ := hR; obtain rfl := hv1.symm
    have hS : St e s3 w [pt g1 139 ([v9, (.int .i64 x15.2.2.1), (.int .i64 x15.2.2.2)]), pt g3 41 ([(.int .i64 0), (.int .i64 0), (.int .i64 0), (.int .i64 0), (.int .i64 0), (.bool false), (.int .i64 0), (.slice none 0 0), (.slice none 0 0), (.bool false), (.int .i64 0), (.slice none 0 0), (.slice none 0 0), (.int .i64 0), (.slice none 0 0)]), pt g2 41 ([(.int .i64 x1.Lsn), (.int .i64 x1.Tx), (.int .i64 x1.Prev), (.int .i64 x1.Kind), (.int .i64 x1.Oid), (.bool x1.Before.Has), (.int .i64 x1.Before.O.Kind), v2, v3, (.bool x1.After.Has), (.int .i64 x1.After.O.Kind), v4, v5, (.int .i64 x1.Next), v6])] := hS
    refine nilN ?_
    refine xn ?_
    refine blk ?_
    refine sq ?_
    refine rg ?_
    refine stp hF (p_eql rfl rfl) (by decide) (fun a hF => ?_)
    refine stp hF (p_assign rfl) (by decide) (fun a hF => ?_)
    refine nilN ?_
    refine xn ?_
    refine cnd hF rfl (fun hc1 => ?_) (fun hc1 => ?_)
    · replace H := hbt hc1 H
      refine rg ?_
      refine stp hF (p_move rfl) (by decide) (fun a hF => ?_)
      refine ste hF (e_bslice (kd := (Kd.int .i64)) (et := 3) (ps := [(0, (.const (.int .i64 0))), (1, (.const (.int .i64 1))), (2, (.const (.int .i64 1000000))), (3, (.const (.int .i64 1000001)))]) (vs := [(0, (.int .i64 0)), (1, (.int .i64 1)), (2, (.int .i64 1000000)), (3, (.int .i64 1000001))]) (cs := [(.int .i64 0), (.int .i64 1), (.int .i64 1000000), (.int .i64 1000001)]) (xs := ([0, 1, 1000000, 1000001] : List Int)) hS rfl (by intro w; kernel_rfl) rfl (by decide) (Nat.le_of_ble_eq_true rfl) (by exact (rows_cons (kd := (Kd.int .i64)) (x := 0) (c := [(.int .i64 0)]) (cs := [(.int .i64 1), (.int .i64 1000000), (.int .i64 1000001)]) rfl (rows_cons (kd := (Kd.int .i64)) (x := 1) (c := [(.int .i64 1)]) (cs := [(.int .i64 1000000), (.int .i64 1000001)]) rfl (rows_cons (kd := (Kd.int .i64)) (x := 1000000) (c := [(.int .i64 1000000)]) (cs := [(.int .i64 1000001)]) rfl (rows_cons (kd := (Kd.int .i64)) (x := 1000001) (c := [(.int .i64 1000001)]) (cs := []) rfl (Rows.nil _ _ _ _))))))) (by decide) (fun v10 w a hR hF => ?_)
      have hS : St e s3 w [Ow (Kd.int .i64) 3 v10 ([0, 1, 1000000, 1000001] : List Int), pt g1 139 ([v9, (.int .i64 x15.2.2.1), (.int .i64 x15.2.2.2)]), pt g3 41 ([(.int .i64 0), (.int .i64 0), (.int .i64 0), (.int .i64 0), (.int .i64 0), (.bool false), (.int .i64 0), (.slice none 0 0), (.slice none 0 0), (.bool false), (.int .i64 0), (.slice none 0 0), (.slice none 0 0), (.int .i64 0), (.slice none 0 0)]), pt g2 41 ([(.int .i64 x1.Lsn), (.int .i64 x1.Tx), (.int .i64 x1.Prev), (.int .i64 x1.Kind), (.int .i64 x1.Oid), (.bool x1.Before.Has), (.int .i64 x1.Before.O.Kind), v2, v3, (.bool x1.After.Has), (.int .i64 x1.After.O.Kind), v4, v5, (.int .i64 x1.Next), v6])] := hR
      obtain ⟨s4, hg2, h8, hS⟩ := hS.freeze (i := 0) (kd := (Kd.int .i64)) (et := 3) (v := v10) (xs := ([0, 1, 1000000, 1000001] : List Int)) (B := [pt g1 139 ([v9, (.int .i64 x15.2.2.1), (.int .i64 x15.2.2.2)]), pt g3 41 ([(.int .i64 0), (.int .i64 0), (.int .i64 0), (.int .i64 0), (.int .i64 0), (.bool false), (.int .i64 0), (.slice none 0 0), (.slice none 0 0), (.bool false), (.int .i64 0), (.slice none 0 0), (.slice none 0 0), (.int .i64 0), (.slice none 0 0)]), pt g2 41 ([(.int .i64 x1.Lsn), (.int .i64 x1.Tx), (.int .i64 x1.Prev), (.int .i64 x1.Kind), (.int .i64 x1.Oid), (.bool x1.Before.Has), (.int .i64 x1.Before.O.Kind), v2, v3, (.bool x1.After.Has), (.int .i64 x1.After.O.Kind), v4, v5, (.int .i64 x1.Next), v6])]) rfl
      obtain ⟨x16, hx2, H⟩ := hb H
      refine ste hF (e_callA (fst := []) (vs := [(.pointer (some ⟨g1, 0, none⟩)), v10]) (cap := []) rfl rfl go_92 (St.call (A := [pt g1 139 ([v9, (.int .i64 x15.2.2.1), (.int .i64 x15.2.2.2)])]) (B := [pt g3 41 ([(.int .i64 0), (.int .i64 0), (.int .i64 0), (.int .i64 0), (.int .i64 0), (.bool false), (.int .i64 0), (.slice none 0 0), (.slice none 0 0), (.bool false), (.int .i64 0), (.slice none 0 0), (.slice none 0 0), (.int .i64 0), (.slice none 0 0)]), pt g2 41 ([(.int .i64 x1.Lsn), (.int .i64 x1.Tx), (.int .i64 x1.Prev), (.int .i64 x1.Kind), (.int .i64 x1.Oid), (.bool x1.Before.Has), (.int .i64 x1.Before.O.Kind), v2, v3, (.bool x1.After.Has), (.int .i64 x1.After.O.Kind), v4, v5, (.int .i64 x1.Next), v6])]) hS (spec_l1Int.spec k _ _ x15.2.1 x15.2.2.1 x15.2.2.2 ([0, 1, 1000000, 1000001] : List Int) v9 g1 v10 (h7.mono hg2) h8 _ hx2)) rfl) (by decide) (fun v w a hR hF => ?_)
      obtain ⟨s5, A3, hg3, hS, hR⟩ := hR
      obtain ⟨v11, hv2, rfl, h9⟩ := hR; obtain rfl := hv2.symm
      have hS : St e s5 w [pt g1 139 ([v11, (.int .i64 x16.2.2.1), (.int .i64 x16.2.2.2)]), pt g3 41 ([(.int .i64 0), (.int .i64 0), (.int .i64 0), (.int .i64 0), (.int .i64 0), (.bool false), (.int .i64 0), (.slice none 0 0), (.slice none 0 0), (.bool false), (.int .i64 0), (.slice none 0 0), (.slice none 0 0), (.int .i64 0), (.slice none 0 0)]), pt g2 41 ([(.int .i64 x1.Lsn), (.int .i64 x1.Tx), (.int .i64 x1.Prev), (.int .i64 x1.Kind), (.int .i64 x1.Oid), (.bool x1.Before.Has), (.int .i64 x1.Before.O.Kind), v2, v3, (.bool x1.After.Has), (.int .i64 x1.After.O.Kind), v4, v5, (.int .i64 x1.Next), v6])] := hS
      refine stp hF (p_fldb (o' := 0) rfl fi_41_0 rfl) (by decide) (fun a hF => ?_)
      refine ste0 hF (e_stb (i := 2) (l := []) (m := [(.int .i64 x1.Lsn)]) (r := [(.int .i64 x1.Tx), (.int .i64 x1.Prev), (.int .i64 x1.Kind), (.int .i64 x1.Oid), (.bool x1.Before.Has), (.int .i64 x1.Before.O.Kind), v2, v3, (.bool x1.After.Has), (.int .i64 x1.After.O.Kind), v4, v5, (.int .i64 x1.Next), v6]) (m' := [(.int .i64 x16.1)]) (cs' := [(.int .i64 x16.1), (.int .i64 x1.Tx), (.int .i64 x1.Prev), (.int .i64 x1.Kind), (.int .i64 x1.Oid), (.bool x1.Before.Has), (.int .i64 x1.Before.O.Kind), v2, v3, (.bool x1.After.Has), (.int .i64 x1.After.O.Kind), v4, v5, (.int .i64 x1.Next), v6]) hS rfl rfl rfl ti_3 rfl rfl rfl rfl rfl (one_cons rfl one_nil) rfl) (fun v w a hR hF => ?_)
      have hS : St e s5 w [pt g2 41 ([(.int .i64 x16.1), (.int .i64 x1.Tx), (.int .i64 x1.Prev), (.int .i64 x1.Kind), (.int .i64 x1.Oid), (.bool x1.Before.Has), (.int .i64 x1.Before.O.Kind), v2, v3, (.bool x1.After.Has), (.int .i64 x1.After.O.Kind), v4, v5, (.int .i64 x1.Next), v6]), pt g1 139 ([v11, (.int .i64 x16.2.2.1), (.int .i64 x16.2.2.2)]), pt g3 41 ([(.int .i64 0), (.int .i64 0), (.int .i64 0), (.int .i64 0), (.int .i64 0), (.bool false), (.int .i64 0), (.slice none 0 0), (.slice none 0 0), (.bool false), (.int .i64 0), (.slice none 0 0), (.slice none 0 0), (.int .i64 0), (.slice none 0 0)])] := hR
      refine nilN ?_
      refine bn (xn ?_)
      obtain rfl := hsm H
      replace hS := hS.sel (is := [2, 0, 0]) (A' := [pt g3 41 ([(.int .i64 0), (.int .i64 0), (.int .i64 0), (.int .i64 0), (.int .i64 0), (.bool false), (.int .i64 0), (.slice none 0 0), (.slice none 0 0), (.bool false), (.int .i64 0), (.slice none 0 0), (.slice none 0 0), (.int .i64 0), (.slice none 0 0)]), pt g2 41 ([(.int .i64 x16.1), (.int .i64 x1.Tx), (.int .i64 x1.Prev), (.int .i64 x1.Kind), (.int .i64 x1.Oid), (.bool x1.Before.Has), (.int .i64 x1.Before.O.Kind), v2, v3, (.bool x1.After.Has), (.int .i64 x1.After.O.Kind), v4, v5, (.int .i64 x1.Next), v6]), pt g1 139 ([v11, (.int .i64 x16.2.2.1), (.int .i64 x16.2.2.2)])]) rfl
      exact ⟨x16.1, x1.Tx, x1.Prev, x1.Kind, x1.Oid, x1.Next, x1.Txs, x16.2.1, x16.2.2.1, x16.2.2.2, s5, v6, v11, hS, hF.cut ⟨rfl, rfl, trivial⟩, ((hg1.trans hg2).trans hg3), (((h6.mono hg1).mono hg2).mono hg3), h9, HK1⟩
    · replace H := hbf hc1 H
      refine sq ?_
      refine rg ?_
      refine stp hF (p_eql rfl rfl) (by decide) (fun a hF => ?_)
      refine stp hF (p_assign rfl) (by decide) (fun a hF => ?_)
      refine nilN ?_
      refine xn ?_
      refine cnd hF rfl (fun hc2 => ?_) (fun hc2 => ?_)
      · replace H := hbt hc2 H
        refine rg ?_
        refine stp hF (p_move rfl) (by decide) (fun a hF => ?_)
        refine ste hF (e_bslice (kd := (Kd.int .i64)) (et := 3) (ps := [(0, (.const (.int .i64 0))), (1, (.const (.int .i64 1000))), (2, (.const (.int .i64 1001)))]) (vs := [(0, (.int .i64 0)), (1, (.int .i64 1000)), (2, (.int .i64 1001))]) (cs := [(.int .i64 0), (.int .i64 1000), (.int .i64 1001)]) (xs := ([0, 1000, 1001] : List Int)) hS rfl (by intro w; kernel_rfl) rfl (by decide) (Nat.le_of_ble_eq_true rfl) (by exact (rows_cons (kd := (Kd.int .i64)) (x := 0) (c := [(.int .i64 0)]) (cs := [(.int .i64 1000), (.int .i64 1001)]) rfl (rows_cons (kd := (Kd.int .i64)) (x := 1000) (c := [(.int .i64 1000)]) (cs := [(.int .i64 1001)]) rfl (rows_cons (kd := (Kd.int .i64)) (x := 1001) (c := [(.int .i64 1001)]) (cs := []) rfl (Rows.nil _ _ _ _)))))) (by decide) (fun v12 w a hR hF => ?_)
        have hS : St e s3 w [Ow (Kd.int .i64) 3 v12 ([0, 1000, 1001] : List Int), pt g1 139 ([v9, (.int .i64 x15.2.2.1), (.int .i64 x15.2.2.2)]), pt g3 41 ([(.int .i64 0), (.int .i64 0), (.int .i64 0), (.int .i64 0), (.int .i64 0), (.bool false), (.int .i64 0), (.slice none 0 0), (.slice none 0 0), (.bool false), (.int .i64 0), (.slice none 0 0), (.slice none 0 0), (.int .i64 0), (.slice none 0 0)]), pt g2 41 ([(.int .i64 x1.Lsn), (.int .i64 x1.Tx), (.int .i64 x1.Prev), (.int .i64 x1.Kind), (.int .i64 x1.Oid), (.bool x1.Before.Has), (.int .i64 x1.Before.O.Kind), v2, v3, (.bool x1.After.Has), (.int .i64 x1.After.O.Kind), v4, v5, (.int .i64 x1.Next), v6])] := hR
        obtain ⟨s6, hg4, h10, hS⟩ := hS.freeze (i := 0) (kd := (Kd.int .i64)) (et := 3) (v := v12) (xs := ([0, 1000, 1001] : List Int)) (B := [pt g1 139 ([v9, (.int .i64 x15.2.2.1), (.int .i64 x15.2.2.2)]), pt g3 41 ([(.int .i64 0), (.int .i64 0), (.int .i64 0), (.int .i64 0), (.int .i64 0), (.bool false), (.int .i64 0), (.slice none 0 0), (.slice none 0 0), (.bool false), (.int .i64 0), (.slice none 0 0), (.slice none 0 0), (.int .i64 0), (.slice none 0 0)]), pt g2 41 ([(.int .i64 x1.Lsn), (.int .i64 x1.Tx), (.int .i64 x1.Prev), (.int .i64 x1.Kind), (.int .i64 x1.Oid), (.bool x1.Before.Has), (.int .i64 x1.Before.O.Kind), v2, v3, (.bool x1.After.Has), (.int .i64 x1.After.O.Kind), v4, v5, (.int .i64 x1.Next), v6])]) rfl
        obtain ⟨x17, hx3, H⟩ := hb H
        refine ste hF (e_callA (fst := []) (vs := [(.pointer (some ⟨g1, 0, none⟩)), v12]) (cap := []) rfl rfl go_92 (St.call (A := [pt g1 139 ([v9, (.int .i64 x15.2.2.1), (.int .i64 x15.2.2.2)])]) (B := [pt g3 41 ([(.int .i64 0), (.int .i64 0), (.int .i64 0), (.int .i64 0), (.int .i64 0), (.bool false), (.int .i64 0), (.slice none 0 0), (.slice none 0 0), (.bool false), (.int .i64 0), (.slice none 0 0), (.slice none 0 0), (.int .i64 0), (.slice none 0 0)]), pt g2 41 ([(.int .i64 x1.Lsn), (.int .i64 x1.Tx), (.int .i64 x1.Prev), (.int .i64 x1.Kind), (.int .i64 x1.Oid), (.bool x1.Before.Has), (.int .i64 x1.Before.O.Kind), v2, v3, (.bool x1.After.Has), (.int .i64 x1.After.O.Kind), v4, v5, (.int .i64 x1.Next), v6])]) hS (spec_l1Int.spec k _ _ x15.2.1 x15.2.2.1 x15.2.2.2 ([0, 1000, 1001] : List Int) v9 g1 v12 (h7.mono hg4) h10 _ hx3)) rfl) (by decide) (fun v w a hR hF => ?_)
        obtain ⟨s7, A4, hg5, hS, hR⟩ := hR
        obtain ⟨v13, hv3, rfl, h11⟩ := hR; obtain rfl := hv3.symm
        have hS : St e s7 w [pt g1 139 ([v13, (.int .i64 x17.2.2.1), (.int .i64 x17.2.2.2)]), pt g3 41 ([(.int .i64 0), (.int .i64 0), (.int .i64 0), (.int .i64 0), (.int .i64 0), (.bool false), (.int .i64 0), (.slice none 0 0), (.slice none 0 0), (.bool false), (.int .i64 0), (.slice none 0 0), (.slice none 0 0), (.int .i64 0), (.slice none 0 0)]), pt g2 41 ([(.int .i64 x1.Lsn), (.int .i64 x1.Tx), (.int .i64 x1.Prev), (.int .i64 x1.Kind), (.int .i64 x1.Oid), (.bool x1.Before.Has), (.int .i64 x1.Before.O.Kind), v2, v3, (.bool x1.After.Has), (.int .i64 x1.After.O.Kind), v4, v5, (.int .i64 x1.Next), v6])] := hS
        refine stp hF (p_fldb (o' := 1) rfl fi_41_1 rfl) (by decide) (fun a hF => ?_)
        refine ste0 hF (e_stb (i := 2) (l := [(.int .i64 x1.Lsn)]) (m := [(.int .i64 x1.Tx)]) (r := [(.int .i64 x1.Prev), (.int .i64 x1.Kind), (.int .i64 x1.Oid), (.bool x1.Before.Has), (.int .i64 x1.Before.O.Kind), v2, v3, (.bool x1.After.Has), (.int .i64 x1.After.O.Kind), v4, v5, (.int .i64 x1.Next), v6]) (m' := [(.int .i64 x17.1)]) (cs' := [(.int .i64 x1.Lsn), (.int .i64 x17.1), (.int .i64 x1.Prev), (.int .i64 x1.Kind), (.int .i64 x1.Oid), (.bool x1.Before.Has), (.int .i64 x1.Before.O.Kind), v2, v3, (.bool x1.After.Has), (.int .i64 x1.After.O.Kind), v4, v5, (.int .i64 x1.Next), v6]) hS rfl rfl rfl ti_3 rfl rfl rfl rfl rfl (one_cons rfl one_nil) rfl) (fun v w a hR hF => ?_)
        have hS : St e s7 w [pt g2 41 ([(.int .i64 x1.Lsn), (.int .i64 x17.1), (.int .i64 x1.Prev), (.int .i64 x1.Kind), (.int .i64 x1.Oid), (.bool x1.Before.Has), (.int .i64 x1.Before.O.Kind), v2, v3, (.bool x1.After.Has), (.int .i64 x1.After.O.Kind), v4, v5, (.int .i64 x1.Next), v6]), pt g1 139 ([v13, (.int .i64 x17.2.2.1), (.int .i64 x17.2.2.2)]), pt g3 41 ([(.int .i64 0), (.int .i64 0), (.int .i64 0), (.int .i64 0), (.int .i64 0), (.bool false), (.int .i64 0), (.slice none 0 0), (.slice none 0 0), (.bool false), (.int .i64 0), (.slice none 0 0), (.slice none 0 0), (.int .i64 0), (.slice none 0 0)])] := hR
        refine nilN ?_
        refine bn (xn ?_)
        obtain rfl := hsm H
        replace hS := hS.sel (is := [2, 0, 0]) (A' := [pt g3 41 ([(.int .i64 0), (.int .i64 0), (.int .i64 0), (.int .i64 0), (.int .i64 0), (.bool false), (.int .i64 0), (.slice none 0 0), (.slice none 0 0), (.bool false), (.int .i64 0), (.slice none 0 0), (.slice none 0 0), (.int .i64 0), (.slice none 0 0)]), pt g2 41 ([(.int .i64 x1.Lsn), (.int .i64 x17.1), (.int .i64 x1.Prev), (.int .i64 x1.Kind), (.int .i64 x1.Oid), (.bool x1.Before.Has), (.int .i64 x1.Before.O.Kind), v2, v3, (.bool x1.After.Has), (.int .i64 x1.After.O.Kind), v4, v5, (.int .i64 x1.Next), v6]), pt g1 139 ([v13, (.int .i64 x17.2.2.1), (.int .i64 x17.2.2.2)])]) rfl
        exact ⟨x1.Lsn, x17.1, x1.Prev, x1.Kind, x1.Oid, x1.Next, x1.Txs, x17.2.1, x17.2.2.1, x17.2.2.2, s7, v6, v13, hS, hF.cut ⟨rfl, rfl, trivial⟩, ((hg1.trans hg4).trans hg5), (((h6.mono hg1).mono hg4).mono hg5), h11, HK1⟩
      · replace H := hbf hc2 H
        refine sq ?_
        refine rg ?_
        refine stp hF (p_eql rfl rfl) (by decide) (fun a hF => ?_)
        refine stp hF (p_assign rfl) (by decide) (fun a hF => ?_)
        refine nilN ?_
        refine xn ?_
        refine cnd hF rfl (fun hc3 => ?_) (fun hc3 => ?_)
        · replace H := hbt hc3 H
          refine rg ?_
          refine stp hF (p_move rfl) (by decide) (fun a hF => ?_)
          refine stp hF (p_fldb (o' := 0) rfl fi_41_0 rfl) (by decide) (fun a hF => ?_)
          refine stp hF (p_ldb_one (i := 2) hS rfl rfl ia_3 rfl) (by decide) (fun a hF => ?_)
          refine ste hF (e_bslice (kd := (Kd.int .i64)) (et := 3) (ps := [(0, (.const (.int .i64 (-1)))), (1, (.tmp 23)), (2, (.const (.int .i64 0)))]) (vs := [(0, (.int .i64 (-1))), (1, (.int .i64 x1.Lsn)), (2, (.int .i64 0))]) (cs := [(.int .i64 (-1)), (.int .i64 x1.Lsn), (.int .i64 0)]) (xs := ([(-1), x1.Lsn, 0] : List Int)) hS rfl (by intro w; kernel_rfl) rfl (by decide) (Nat.le_of_ble_eq_true rfl) (by exact (rows_cons (kd := (Kd.int .i64)) (x := (-1)) (c := [(.int .i64 (-1))]) (cs := [(.int .i64 x1.Lsn), (.int .i64 0)]) rfl (rows_cons (kd := (Kd.int .i64)) (x := x1.Lsn) (c := [(.int .i64 x1.Lsn)]) (cs := [(.int .i64 0)]) rfl (rows_cons (kd := (Kd.int .i64)) (x := 0) (c := [(.int .i64 0)]) (cs := []) rfl (Rows.nil _ _ _ _)))))) (by decide) (fun v14 w a hR hF => ?_)
          have hS : St e s3 w [Ow (Kd.int .i64) 3 v14 ([(-1), x1.Lsn, 0] : List Int), pt g1 139 ([v9, (.int .i64 x15.2.2.1), (.int .i64 x15.2.2.2)]), pt g3 41 ([(.int .i64 0), (.int .i64 0), (.int .i64 0), (.int .i64 0), (.int .i64 0), (.bool false), (.int .i64 0), (.slice none 0 0), (.slice none 0 0), (.bool false), (.int .i64 0), (.slice none 0 0), (.slice none 0 0), (.int .i64 0), (.slice none 0 0)]), pt g2 41 ([(.int .i64 x1.Lsn), (.int .i64 x1.Tx), (.int .i64 x1.Prev), (.int .i64 x1.Kind), (.int .i64 x1.Oid), (.bool x1.Before.Has), (.int .i64 x1.Before.O.Kind), v2, v3, (.bool x1.After.Has), (.int .i64 x1.After.O.Kind), v4, v5, (.int .i64 x1.Next), v6])] := hR
          obtain ⟨s8, hg6, h12, hS⟩ := hS.freeze (i := 0) (kd := (Kd.int .i64)) (et := 3) (v := v14) (xs := ([(-1), x1.Lsn, 0] : List Int)) (B := [pt g1 139 ([v9, (.int .i64 x15.2.2.1), (.int .i64 x15.2.2.2)]), pt g3 41 ([(.int .i64 0), (.int .i64 0), (.int .i64 0), (.int .i64 0), (.int .i64 0), (.bool false), (.int .i64 0), (.slice none 0 0), (.slice none 0 0), (.bool false), (.int .i64 0), (.slice none 0 0), (.slice none 0 0), (.int .i64 0), (.slice none 0 0)]), pt g2 41 ([(.int .i64 x1.Lsn), (.int .i64 x1.Tx), (.int .i64 x1.Prev), (.int .i64 x1.Kind), (.int .i64 x1.Oid), (.bool x1.Before.Has), (.int .i64 x1.Before.O.Kind), v2, v3, (.bool x1.After.Has), (.int .i64 x1.After.O.Kind), v4, v5, (.int .i64 x1.Next), v6])]) rfl
          obtain ⟨x18, hx4, H⟩ := hb H
          refine ste hF (e_callA (fst := []) (vs := [(.pointer (some ⟨g1, 0, none⟩)), v14]) (cap := []) rfl rfl go_92 (St.call (A := [pt g1 139 ([v9, (.int .i64 x15.2.2.1), (.int .i64 x15.2.2.2)])]) (B := [pt g3 41 ([(.int .i64 0), (.int .i64 0), (.int .i64 0), (.int .i64 0), (.int .i64 0), (.bool false), (.int .i64 0), (.slice none 0 0), (.slice none 0 0), (.bool false), (.int .i64 0), (.slice none 0 0), (.slice none 0 0), (.int .i64 0), (.slice none 0 0)]), pt g2 41 ([(.int .i64 x1.Lsn), (.int .i64 x1.Tx), (.int .i64 x1.Prev), (.int .i64 x1.Kind), (.int .i64 x1.Oid), (.bool x1.Before.Has), (.int .i64 x1.Before.O.Kind), v2, v3, (.bool x1.After.Has), (.int .i64 x1.After.O.Kind), v4, v5, (.int .i64 x1.Next), v6])]) hS (spec_l1Int.spec k _ _ x15.2.1 x15.2.2.1 x15.2.2.2 ([(-1), x1.Lsn, 0] : List Int) v9 g1 v14 (h7.mono hg6) h12 _ hx4)) rfl) (by decide) (fun v w a hR hF => ?_)
          obtain ⟨s9, A5, hg7, hS, hR⟩ := hR
          obtain ⟨v15, hv4, rfl, h13⟩ := hR; obtain rfl := hv4.symm
          have hS : St e s9 w [pt g1 139 ([v15, (.int .i64 x18.2.2.1), (.int .i64 x18.2.2.2)]), pt g3 41 ([(.int .i64 0), (.int .i64 0), (.int .i64 0), (.int .i64 0), (.int .i64 0), (.bool false), (.int .i64 0), (.slice none 0 0), (.slice none 0 0), (.bool false), (.int .i64 0), (.slice none 0 0), (.slice none 0 0), (.int .i64 0), (.slice none 0 0)]), pt g2 41 ([(.int .i64 x1.Lsn), (.int .i64 x1.Tx), (.int .i64 x1.Prev), (.int .i64 x1.Kind), (.int .i64 x1.Oid), (.bool x1.Before.Has), (.int .i64 x1.Before.O.Kind), v2, v3, (.bool x1.After.Has), (.int .i64 x1.After.O.Kind), v4, v5, (.int .i64 x1.Next), v6])] := hS
          refine stp hF (p_fldb (o' := 2) rfl fi_41_2 rfl) (by decide) (fun a hF => ?_)
          refine ste0 hF (e_stb (i := 2) (l := [(.int .i64 x1.Lsn), (.int .i64 x1.Tx)]) (m := [(.int .i64 x1.Prev)]) (r := [(.int .i64 x1.Kind), (.int .i64 x1.Oid), (.bool x1.Before.Has), (.int .i64 x1.Before.O.Kind), v2, v3, (.bool x1.After.Has), (.int .i64 x1.After.O.Kind), v4, v5, (.int .i64 x1.Next), v6]) (m' := [(.int .i64 x18.1)]) (cs' := [(.int .i64 x1.Lsn), (.int .i64 x1.Tx), (.int .i64 x18.1), (.int .i64 x1.Kind), (.int .i64 x1.Oid), (.bool x1.Before.Has), (.int .i64 x1.Before.O.Kind), v2, v3, (.bool x1.After.Has), (.int .i64 x1.After.O.Kind), v4, v5, (.int .i64 x1.Next), v6]) hS rfl rfl rfl ti_3 rfl rfl rfl rfl rfl (one_cons rfl one_nil) rfl) (fun v w a hR hF => ?_)
          have hS : St e s9 w [pt g2 41 ([(.int .i64 x1.Lsn), (.int .i64 x1.Tx), (.int .i64 x18.1), (.int .i64 x1.Kind), (.int .i64 x1.Oid), (.bool x1.Before.Has), (.int .i64 x1.Before.O.Kind), v2, v3, (.bool x1.After.Has), (.int .i64 x1.After.O.Kind), v4, v5, (.int .i64 x1.Next), v6]), pt g1 139 ([v15, (.int .i64 x18.2.2.1), (.int .i64 x18.2.2.2)]), pt g3 41 ([(.int .i64 0), (.int .i64 0), (.int .i64 0), (.int .i64 0), (.int .i64 0), (.bool false), (.int .i64 0), (.slice none 0 0), (.slice none 0 0), (.bool false), (.int .i64 0), (.slice none 0 0), (.slice none 0 0), (.int .i64 0), (.slice none 0 0)])] := hR
          refine nilN ?_
          refine bn (xn ?_)
          obtain rfl := hsm H
          replace hS := hS.sel (is := [2, 0, 0]) (A' := [pt g3 41 ([(.int .i64 0), (.int .i64 0), (.int .i64 0), (.int .i64 0), (.int .i64 0), (.bool false), (.int .i64 0), (.slice none 0 0), (.slice none 0 0), (.bool false), (.int .i64 0), (.slice none 0 0), (.slice none 0 0), (.int .i64 0), (.slice none 0 0)]), pt g2 41 ([(.int .i64 x1.Lsn), (.int .i64 x1.Tx), (.int .i64 x18.1), (.int .i64 x1.Kind), (.int .i64 x1.Oid), (.bool x1.Before.Has), (.int .i64 x1.Before.O.Kind), v2, v3, (.bool x1.After.Has), (.int .i64 x1.After.O.Kind), v4, v5, (.int .i64 x1.Next), v6]), pt g1 139 ([v15, (.int .i64 x18.2.2.1), (.int .i64 x18.2.2.2)])]) rfl
          exact ⟨x1.Lsn, x1.Tx, x18.1, x1.Kind, x1.Oid, x1.Next, x1.Txs, x18.2.1, x18.2.2.1, x18.2.2.2, s9, v6, v15, hS, hF.cut ⟨rfl, rfl, trivial⟩, ((hg1.trans hg6).trans hg7), (((h6.mono hg1).mono hg6).mono hg7), h13, HK1⟩
        · replace H := hbf hc3 H
          refine sq ?_
          refine rg ?_
          refine stp hF (p_eql rfl rfl) (by decide) (fun a hF => ?_)
          refine stp hF (p_assign rfl) (by decide) (fun a hF => ?_)
          refine nilN ?_
          refine xn ?_
          refine cnd hF rfl (fun hc4 => ?_) (fun hc4 => ?_)
          · replace H := hbt hc4 H
            refine rg ?_
            refine stp hF (p_move rfl) (by decide) (fun a hF => ?_)
            refine ste hF (e_bslice (kd := (Kd.int .i64)) (et := 3) (ps := [(0, (.const (.int .i64 0))), (1, (.const (.int .i64 7))), (2, (.const (.int .i64 1))), (3, (.const (.int .i64 4)))]) (vs := [(0, (.int .i64 0)), (1, (.int .i64 7)), (2, (.int .i64 1)), (3, (.int .i64 4))]) (cs := [(.int .i64 0), (.int .i64 7), (.int .i64 1), (.int .i64 4)]) (xs := ([0, 7, 1, 4] : List Int)) hS rfl (by intro w; kernel_rfl) rfl (by decide) (Nat.le_of_ble_eq_true rfl) (by exact (rows_cons (kd := (Kd.int .i64)) (x := 0) (c := [(.int .i64 0)]) (cs := [(.int .i64 7), (.int .i64 1), (.int .i64 4)]) rfl (rows_cons (kd := (Kd.int .i64)) (x := 7) (c := [(.int .i64 7)]) (cs := [(.int .i64 1), (.int .i64 4)]) rfl (rows_cons (kd := (Kd.int .i64)) (x := 1) (c := [(.int .i64 1)]) (cs := [(.int .i64 4)]) rfl (rows_cons (kd := (Kd.int .i64)) (x := 4) (c := [(.int .i64 4)]) (cs := []) rfl (Rows.nil _ _ _ _))))))) (by decide) (fun v16 w a hR hF => ?_)
            have hS : St e s3 w [Ow (Kd.int .i64) 3 v16 ([0, 7, 1, 4] : List Int), pt g1 139 ([v9, (.int .i64 x15.2.2.1), (.int .i64 x15.2.2.2)]), pt g3 41 ([(.int .i64 0), (.int .i64 0), (.int .i64 0), (.int .i64 0), (.int .i64 0), (.bool false), (.int .i64 0), (.slice none 0 0), (.slice none 0 0), (.bool false), (.int .i64 0), (.slice none 0 0), (.slice none 0 0), (.int .i64 0), (.slice none 0 0)]), pt g2 41 ([(.int .i64 x1.Lsn), (.int .i64 x1.Tx), (.int .i64 x1.Prev), (.int .i64 x1.Kind), (.int .i64 x1.Oid), (.bool x1.Before.Has), (.int .i64 x1.Before.O.Kind), v2, v3, (.bool x1.After.Has), (.int .i64 x1.After.O.Kind), v4, v5, (.int .i64 x1.Next), v6])] := hR
            obtain ⟨s10, hg8, h14, hS⟩ := hS.freeze (i := 0) (kd := (Kd.int .i64)) (et := 3) (v := v16) (xs := ([0, 7, 1, 4] : List Int)) (B := [pt g1 139 ([v9, (.int .i64 x15.2.2.1), (.int .i64 x15.2.2.2)]), pt g3 41 ([(.int .i64 0), (.int .i64 0), (.int .i64 0), (.int .i64 0), (.int .i64 0), (.bool false), (.int .i64 0), (.slice none 0 0), (.slice none 0 0), (.bool false), (.int .i64 0), (.slice none 0 0), (.slice none 0 0), (.int .i64 0), (.slice none 0 0)]), pt g2 41 ([(.int .i64 x1.Lsn), (.int .i64 x1.Tx), (.int .i64 x1.Prev), (.int .i64 x1.Kind), (.int .i64 x1.Oid), (.bool x1.Before.Has), (.int .i64 x1.Before.O.Kind), v2, v3, (.bool x1.After.Has), (.int .i64 x1.After.O.Kind), v4, v5, (.int .i64 x1.Next), v6])]) rfl
            obtain ⟨x19, hx5, H⟩ := hb H
            refine ste hF (e_callA (fst := []) (vs := [(.pointer (some ⟨g1, 0, none⟩)), v16]) (cap := []) rfl rfl go_92 (St.call (A := [pt g1 139 ([v9, (.int .i64 x15.2.2.1), (.int .i64 x15.2.2.2)])]) (B := [pt g3 41 ([(.int .i64 0), (.int .i64 0), (.int .i64 0), (.int .i64 0), (.int .i64 0), (.bool false), (.int .i64 0), (.slice none 0 0), (.slice none 0 0), (.bool false), (.int .i64 0), (.slice none 0 0), (.slice none 0 0), (.int .i64 0), (.slice none 0 0)]), pt g2 41 ([(.int .i64 x1.Lsn), (.int .i64 x1.Tx), (.int .i64 x1.Prev), (.int .i64 x1.Kind), (.int .i64 x1.Oid), (.bool x1.Before.Has), (.int .i64 x1.Before.O.Kind), v2, v3, (.bool x1.After.Has), (.int .i64 x1.After.O.Kind), v4, v5, (.int .i64 x1.Next), v6])]) hS (spec_l1Int.spec k _ _ x15.2.1 x15.2.2.1 x15.2.2.2 ([0, 7, 1, 4] : List Int) v9 g1 v16 (h7.mono hg8) h14 _ hx5)) rfl) (by decide) (fun v w a hR hF => ?_)
            obtain ⟨s11, A6, hg9, hS, hR⟩ := hR
            obtain ⟨v17, hv5, rfl, h15⟩ := hR; obtain rfl := hv5.symm
            have hS : St e s11 w [pt g1 139 ([v17, (.int .i64 x19.2.2.1), (.int .i64 x19.2.2.2)]), pt g3 41 ([(.int .i64 0), (.int .i64 0), (.int .i64 0), (.int .i64 0), (.int .i64 0), (.bool false), (.int .i64 0), (.slice none 0 0), (.slice none 0 0), (.bool false), (.int .i64 0), (.slice none 0 0), (.slice none 0 0), (.int .i64 0), (.slice none 0 0)]), pt g2 41 ([(.int .i64 x1.Lsn), (.int .i64 x1.Tx), (.int .i64 x1.Prev), (.int .i64 x1.Kind), (.int .i64 x1.Oid), (.bool x1.Before.Has), (.int .i64 x1.Before.O.Kind), v2, v3, (.bool x1.After.Has), (.int .i64 x1.After.O.Kind), v4, v5, (.int .i64 x1.Next), v6])] := hS
            refine stp hF (p_fldb (o' := 3) rfl fi_41_3 rfl) (by decide) (fun a hF => ?_)
            refine ste0 hF (e_stb (i := 2) (l := [(.int .i64 x1.Lsn), (.int .i64 x1.Tx), (.int .i64 x1.Prev)]) (m := [(.int .i64 x1.Kind)]) (r := [(.int .i64 x1.Oid), (.bool x1.Before.Has), (.int .i64 x1.Before.O.Kind), v2, v3, (.bool x1.After.Has), (.int .i64 x1.After.O.Kind), v4, v5, (.int .i64 x1.Next), v6]) (m' := [(.int .i64 x19.1)]) (cs' := [(.int .i64 x1.Lsn), (.int .i64 x1.Tx), (.int .i64 x1.Prev), (.int .i64 x19.1), (.int .i64 x1.Oid), (.bool x1.Before.Has), (.int .i64 x1.Before.O.Kind), v2, v3, (.bool x1.After.Has), (.int .i64 x1.After.O.Kind), v4, v5, (.int .i64 x1.Next), v6]) hS rfl rfl rfl ti_3 rfl rfl rfl rfl rfl (one_cons rfl one_nil) rfl) (fun v w a hR hF => ?_)
            have hS : St e s11 w [pt g2 41 ([(.int .i64 x1.Lsn), (.int .i64 x1.Tx), (.int .i64 x1.Prev), (.int .i64 x19.1), (.int .i64 x1.Oid), (.bool x1.Before.Has), (.int .i64 x1.Before.O.Kind), v2, v3, (.bool x1.After.Has), (.int .i64 x1.After.O.Kind), v4, v5, (.int .i64 x1.Next), v6]), pt g1 139 ([v17, (.int .i64 x19.2.2.1), (.int .i64 x19.2.2.2)]), pt g3 41 ([(.int .i64 0), (.int .i64 0), (.int .i64 0), (.int .i64 0), (.int .i64 0), (.bool false), (.int .i64 0), (.slice none 0 0), (.slice none 0 0), (.bool false), (.int .i64 0), (.slice none 0 0), (.slice none 0 0), (.int .i64 0), (.slice none 0 0)])] := hR
            refine nilN ?_
            refine bn (xn ?_)
            obtain rfl := hsm H
            replace hS := hS.sel (is := [2, 0, 0]) (A' := [pt g3 41 ([(.int .i64 0), (.int .i64 0), (.int .i64 0), (.int .i64 0), (.int .i64 0), (.bool false), (.int .i64 0), (.slice none 0 0), (.slice none 0 0), (.bool false), (.int .i64 0), (.slice none 0 0), (.slice none 0 0), (.int .i64 0), (.slice none 0 0)]), pt g2 41 ([(.int .i64 x1.Lsn), (.int .i64 x1.Tx), (.int .i64 x1.Prev), (.int .i64 x19.1), (.int .i64 x1.Oid), (.bool x1.Before.Has), (.int .i64 x1.Before.O.Kind), v2, v3, (.bool x1.After.Has), (.int .i64 x1.After.O.Kind), v4, v5, (.int .i64 x1.Next), v6]), pt g1 139 ([v17, (.int .i64 x19.2.2.1), (.int .i64 x19.2.2.2)])]) rfl
            exact ⟨x1.Lsn, x1.Tx, x1.Prev, x19.1, x1.Oid, x1.Next, x1.Txs, x19.2.1, x19.2.2.1, x19.2.2.2, s11, v6, v17, hS, hF.cut ⟨rfl, rfl, trivial⟩, ((hg1.trans hg8).trans hg9), (((h6.mono hg1).mono hg8).mono hg9), h15, HK1⟩
          · replace H := hbf hc4 H
            refine sq ?_
            refine rg ?_
            refine stp hF (p_eql rfl rfl) (by decide) (fun a hF => ?_)
            refine stp hF (p_assign rfl) (by decide) (fun a hF => ?_)
            refine nilN ?_
            refine xn ?_
            refine cnd hF rfl (fun hc5 => ?_) (fun hc5 => ?_)
            · replace H := hbt hc5 H
              refine rg ?_
              refine stp hF (p_move rfl) (by decide) (fun a hF => ?_)
              refine ste hF (e_bslice (kd := (Kd.int .i64)) (et := 3) (ps := [(0, (.const (.int .i64 0))), (1, (.const (.int .i64 31))), (2, (.const (.int .i64 32)))]) (vs := [(0, (.int .i64 0)), (1, (.int .i64 31)), (2, (.int .i64 32))]) (cs := [(.int .i64 0), (.int .i64 31), (.int .i64 32)]) (xs := ([0, 31, 32] : List Int)) hS rfl (by intro w; kernel_rfl) rfl (by decide) (Nat.le_of_ble_eq_true rfl) (by exact (rows_cons (kd := (Kd.int .i64)) (x := 0) (c := [(.int .i64 0)]) (cs := [(.int .i64 31), (.int .i64 32)]) rfl (rows_cons (kd := (Kd.int .i64)) (x := 31) (c := [(.int .i64 31)]) (cs := [(.int .i64 32)]) rfl (rows_cons (kd := (Kd.int .i64)) (x := 32) (c := [(.int .i64 32)]) (cs := []) rfl (Rows.nil _ _ _ _)))))) (by decide) (fun v18 w a hR hF => ?_)
              have hS : St e s3 w [Ow (Kd.int .i64) 3 v18 ([0, 31, 32] : List Int), pt g1 139 ([v9, (.int .i64 x15.2.2.1), (.int .i64 x15.2.2.2)]), pt g3 41 ([(.int .i64 0), (.int .i64 0), (.int .i64 0), (.int .i64 0), (.int .i64 0), (.bool false), (.int .i64 0), (.slice none 0 0), (.slice none 0 0), (.bool false), (.int .i64 0), (.slice none 0 0), (.slice none 0 0), (.int .i64 0), (.slice none 0 0)]), pt g2 41 ([(.int .i64 x1.Lsn), (.int .i64 x1.Tx), (.int .i64 x1.Prev), (.int .i64 x1.Kind), (.int .i64 x1.Oid), (.bool x1.Before.Has), (.int .i64 x1.Before.O.Kind), v2, v3, (.bool x1.After.Has), (.int .i64 x1.After.O.Kind), v4, v5, (.int .i64 x1.Next), v6])] := hR
              obtain ⟨s12, hg10, h16, hS⟩ := hS.freeze (i := 0) (kd := (Kd.int .i64)) (et := 3) (v := v18) (xs := ([0, 31, 32] : List Int)) (B := [pt g1 139 ([v9, (.int .i64 x15.2.2.1), (.int .i64 x15.2.2.2)]), pt g3 41 ([(.int .i64 0), (.int .i64 0), (.int .i64 0), (.int .i64 0), (.int .i64 0), (.bool false), (.int .i64 0), (.slice none 0 0), (.slice none 0 0), (.bool false), (.int .i64 0), (.slice none 0 0), (.slice none 0 0), (.int .i64 0), (.slice none 0 0)]), pt g2 41 ([(.int .i64 x1.Lsn), (.int .i64 x1.Tx), (.int .i64 x1.Prev), (.int .i64 x1.Kind), (.int .i64 x1.Oid), (.bool x1.Before.Has), (.int .i64 x1.Before.O.Kind), v2, v3, (.bool x1.After.Has), (.int .i64 x1.After.O.Kind), v4, v5, (.int .i64 x1.Next), v6])]) rfl
              obtain ⟨x20, hx6, H⟩ := hb H
              refine ste hF (e_callA (fst := []) (vs := [(.pointer (some ⟨g1, 0, none⟩)), v18]) (cap := []) rfl rfl go_92 (St.call (A := [pt g1 139 ([v9, (.int .i64 x15.2.2.1), (.int .i64 x15.2.2.2)])]) (B := [pt g3 41 ([(.int .i64 0), (.int .i64 0), (.int .i64 0), (.int .i64 0), (.int .i64 0), (.bool false), (.int .i64 0), (.slice none 0 0), (.slice none 0 0), (.bool false), (.int .i64 0), (.slice none 0 0), (.slice none 0 0), (.int .i64 0), (.slice none 0 0)]), pt g2 41 ([(.int .i64 x1.Lsn), (.int .i64 x1.Tx), (.int .i64 x1.Prev), (.int .i64 x1.Kind), (.int .i64 x1.Oid), (.bool x1.Before.Has), (.int .i64 x1.Before.O.Kind), v2, v3, (.bool x1.After.Has), (.int .i64 x1.After.O.Kind), v4, v5, (.int .i64 x1.Next), v6])]) hS (spec_l1Int.spec k _ _ x15.2.1 x15.2.2.1 x15.2.2.2 ([0, 31, 32] : List Int) v9 g1 v18 (h7.mono hg10) h16 _ hx6)) rfl) (by decide) (fun v w a hR hF => ?_)
              obtain ⟨s13, A7, hg11, hS, hR⟩ := hR
              obtain ⟨v19, hv6, rfl, h17⟩ := hR; obtain rfl := hv6.symm
              have hS : St e s13 w [pt g1 139 ([v19, (.int .i64 x20.2.2.1), (.int .i64 x20.2.2.2)]), pt g3 41 ([(.int .i64 0), (.int .i64 0), (.int .i64 0), (.int .i64 0), (.int .i64 0), (.bool false), (.int .i64 0), (.slice none 0 0), (.slice none 0 0), (.bool false), (.int .i64 0), (.slice none 0 0), (.slice none 0 0), (.int .i64 0), (.slice none 0 0)]), pt g2 41 ([(.int .i64 x1.Lsn), (.int .i64 x1.Tx), (.int .i64 x1.Prev), (.int .i64 x1.Kind), (.int .i64 x1.Oid), (.bool x1.Before.Has), (.int .i64 x1.Before.O.Kind), v2, v3, (.bool x1.After.Has), (.int .i64 x1.After.O.Kind), v4, v5, (.int .i64 x1.Next), v6])] := hS
              refine stp hF (p_fldb (o' := 4) rfl fi_41_4 rfl) (by decide) (fun a hF => ?_)
              refine ste0 hF (e_stb (i := 2) (l := [(.int .i64 x1.Lsn), (.int .i64 x1.Tx), (.int .i64 x1.Prev), (.int .i64 x1.Kind)]) (m := [(.int .i64 x1.Oid)]) (r := [(.bool x1.Before.Has), (.int .i64 x1.Before.O.Kind), v2, v3, (.bool x1.After.Has), (.int .i64 x1.After.O.Kind), v4, v5, (.int .i64 x1.Next), v6]) (m' := [(.int .i64 x20.1)]) (cs' := [(.int .i64 x1.Lsn), (.int .i64 x1.Tx), (.int .i64 x1.Prev), (.int .i64 x1.Kind), (.int .i64 x20.1), (.bool x1.Before.Has), (.int .i64 x1.Before.O.Kind), v2, v3, (.bool x1.After.Has), (.int .i64 x1.After.O.Kind), v4, v5, (.int .i64 x1.Next), v6]) hS rfl rfl rfl ti_3 rfl rfl rfl rfl rfl (one_cons rfl one_nil) rfl) (fun v w a hR hF => ?_)
              have hS : St e s13 w [pt g2 41 ([(.int .i64 x1.Lsn), (.int .i64 x1.Tx), (.int .i64 x1.Prev), (.int .i64 x1.Kind), (.int .i64 x20.1), (.bool x1.Before.Has), (.int .i64 x1.Before.O.Kind), v2, v3, (.bool x1.After.Has), (.int .i64 x1.After.O.Kind), v4, v5, (.int .i64 x1.Next), v6]), pt g1 139 ([v19, (.int .i64 x20.2.2.1), (.int .i64 x20.2.2.2)]), pt g3 41 ([(.int .i64 0), (.int .i64 0), (.int .i64 0), (.int .i64 0), (.int .i64 0), (.bool false), (.int .i64 0), (.slice none 0 0), (.slice none 0 0), (.bool false), (.int .i64 0), (.slice none 0 0), (.slice none 0 0), (.int .i64 0), (.slice none 0 0)])] := hR
              refine nilN ?_
              refine bn (xn ?_)
              obtain rfl := hsm H
              replace hS := hS.sel (is := [2, 0, 0]) (A' := [pt g3 41 ([(.int .i64 0), (.int .i64 0), (.int .i64 0), (.int .i64 0), (.int .i64 0), (.bool false), (.int .i64 0), (.slice none 0 0), (.slice none 0 0), (.bool false), (.int .i64 0), (.slice none 0 0), (.slice none 0 0), (.int .i64 0), (.slice none 0 0)]), pt g2 41 ([(.int .i64 x1.Lsn), (.int .i64 x1.Tx), (.int .i64 x1.Prev), (.int .i64 x1.Kind), (.int .i64 x20.1), (.bool x1.Before.Has), (.int .i64 x1.Before.O.Kind), v2, v3, (.bool x1.After.Has), (.int .i64 x1.After.O.Kind), v4, v5, (.int .i64 x1.Next), v6]), pt g1 139 ([v19, (.int .i64 x20.2.2.1), (.int .i64 x20.2.2.2)])]) rfl
              exact ⟨x1.Lsn, x1.Tx, x1.Prev, x1.Kind, x20.1, x1.Next, x1.Txs, x20.2.1, x20.2.2.1, x20.2.2.2, s13, v6, v19, hS, hF.cut ⟨rfl, rfl, trivial⟩, ((hg1.trans hg10).trans hg11), (((h6.mono hg1).mono hg10).mono hg11), h17, HK1⟩
            · replace H := hbf hc5 H
              refine sq ?_
              refine rg ?_
              refine stp hF (p_eql rfl rfl) (by decide) (fun a hF => ?_)
              refine stp hF (p_assign rfl) (by decide) (fun a hF => ?_)
              refine nilN ?_
              refine xn ?_
              refine cnd hF rfl (fun hc6 => ?_) (fun hc6 => ?_)
              · replace H := hbt hc6 H
                refine rg ?_
                refine stp hF (p_move rfl) (by decide) (fun a hF => ?_)
                refine stp hF (p_fldb (o' := 0) rfl fi_41_0 rfl) (by decide) (fun a hF => ?_)
                refine stp hF (p_ldb_one (i := 2) hS rfl rfl ia_3 rfl) (by decide) (fun a hF => ?_)
                refine ste hF (e_bslice (kd := (Kd.int .i64)) (et := 3) (ps := [(0, (.const (.int .i64 1))), (1, (.const (.int .i64 (-1)))), (2, (.tmp 43))]) (vs := [(0, (.int .i64 1)), (1, (.int .i64 (-1))), (2, (.int .i64 x1.Lsn))]) (cs := [(.int .i64 1), (.int .i64 (-1)), (.int .i64 x1.Lsn)]) (xs := ([1, (-1), x1.Lsn] : List Int)) hS rfl (by intro w; kernel_rfl) rfl (by decide) (Nat.le_of_ble_eq_true rfl) (by exact (rows_cons (kd := (Kd.int .i64)) (x := 1) (c := [(.int .i64 1)]) (cs := [(.int .i64 (-1)), (.int .i64 x1.Lsn)]) rfl (rows_cons (kd := (Kd.int .i64)) (x := (-1)) (c := [(.int .i64 (-1))]) (cs := [(.int .i64 x1.Lsn)]) rfl (rows_cons (kd := (Kd.int .i64)) (x := x1.Lsn) (c := [(.int .i64 x1.Lsn)]) (cs := []) rfl (Rows.nil _ _ _ _)))))) (by decide) (fun v20 w a hR hF => ?_)
                have hS : St e s3 w [Ow (Kd.int .i64) 3 v20 ([1, (-1), x1.Lsn] : List Int), pt g1 139 ([v9, (.int .i64 x15.2.2.1), (.int .i64 x15.2.2.2)]), pt g3 41 ([(.int .i64 0), (.int .i64 0), (.int .i64 0), (.int .i64 0), (.int .i64 0), (.bool false), (.int .i64 0), (.slice none 0 0), (.slice none 0 0), (.bool false), (.int .i64 0), (.slice none 0 0), (.slice none 0 0), (.int .i64 0), (.slice none 0 0)]), pt g2 41 ([(.int .i64 x1.Lsn), (.int .i64 x1.Tx), (.int .i64 x1.Prev), (.int .i64 x1.Kind), (.int .i64 x1.Oid), (.bool x1.Before.Has), (.int .i64 x1.Before.O.Kind), v2, v3, (.bool x1.After.Has), (.int .i64 x1.After.O.Kind), v4, v5, (.int .i64 x1.Next), v6])] := hR
                obtain ⟨s14, hg12, h18, hS⟩ := hS.freeze (i := 0) (kd := (Kd.int .i64)) (et := 3) (v := v20) (xs := ([1, (-1), x1.Lsn] : List Int)) (B := [pt g1 139 ([v9, (.int .i64 x15.2.2.1), (.int .i64 x15.2.2.2)]), pt g3 41 ([(.int .i64 0), (.int .i64 0), (.int .i64 0), (.int .i64 0), (.int .i64 0), (.bool false), (.int .i64 0), (.slice none 0 0), (.slice none 0 0), (.bool false), (.int .i64 0), (.slice none 0 0), (.slice none 0 0), (.int .i64 0), (.slice none 0 0)]), pt g2 41 ([(.int .i64 x1.Lsn), (.int .i64 x1.Tx), (.int .i64 x1.Prev), (.int .i64 x1.Kind), (.int .i64 x1.Oid), (.bool x1.Before.Has), (.int .i64 x1.Before.O.Kind), v2, v3, (.bool x1.After.Has), (.int .i64 x1.After.O.Kind), v4, v5, (.int .i64 x1.Next), v6])]) rfl
                obtain ⟨x21, hx7, H⟩ := hb H
                refine ste hF (e_callA (fst := []) (vs := [(.pointer (some ⟨g1, 0, none⟩)), v20]) (cap := []) rfl rfl go_92 (St.call (A := [pt g1 139 ([v9, (.int .i64 x15.2.2.1), (.int .i64 x15.2.2.2)])]) (B := [pt g3 41 ([(.int .i64 0), (.int .i64 0), (.int .i64 0), (.int .i64 0), (.int .i64 0), (.bool false), (.int .i64 0), (.slice none 0 0), (.slice none 0 0), (.bool false), (.int .i64 0), (.slice none 0 0), (.slice none 0 0), (.int .i64 0), (.slice none 0 0)]), pt g2 41 ([(.int .i64 x1.Lsn), (.int .i64 x1.Tx), (.int .i64 x1.Prev), (.int .i64 x1.Kind), (.int .i64 x1.Oid), (.bool x1.Before.Has), (.int .i64 x1.Before.O.Kind), v2, v3, (.bool x1.After.Has), (.int .i64 x1.After.O.Kind), v4, v5, (.int .i64 x1.Next), v6])]) hS (spec_l1Int.spec k _ _ x15.2.1 x15.2.2.1 x15.2.2.2 ([1, (-1), x1.Lsn] : List Int) v9 g1 v20 (h7.mono hg12) h18 _ hx7)) rfl) (by decide) (fun v w a hR hF => ?_)
                obtain ⟨s15, A8, hg13, hS, hR⟩ := hR
                obtain ⟨v21, hv7, rfl, h19⟩ := hR; obtain rfl := hv7.symm
                have hS : St e s15 w [pt g1 139 ([v21, (.int .i64 x21.2.2.1), (.int .i64 x21.2.2.2)]), pt g3 41 ([(.int .i64 0), (.int .i64 0), (.int .i64 0), (.int .i64 0), (.int .i64 0), (.bool false), (.int .i64 0), (.slice none 0 0), (.slice none 0 0), (.bool false), (.int .i64 0), (.slice none 0 0), (.slice none 0 0), (.int .i64 0), (.slice none 0 0)]), pt g2 41 ([(.int .i64 x1.Lsn), (.int .i64 x1.Tx), (.int .i64 x1.Prev), (.int .i64 x1.Kind), (.int .i64 x1.Oid), (.bool x1.Before.Has), (.int .i64 x1.Before.O.Kind), v2, v3, (.bool x1.After.Has), (.int .i64 x1.After.O.Kind), v4, v5, (.int .i64 x1.Next), v6])] := hS
                refine stp hF (p_fldb (o' := 13) rfl fi_41_7 rfl) (by decide) (fun a hF => ?_)
                refine ste0 hF (e_stb (i := 2) (l := [(.int .i64 x1.Lsn), (.int .i64 x1.Tx), (.int .i64 x1.Prev), (.int .i64 x1.Kind), (.int .i64 x1.Oid), (.bool x1.Before.Has), (.int .i64 x1.Before.O.Kind), v2, v3, (.bool x1.After.Has), (.int .i64 x1.After.O.Kind), v4, v5]) (m := [(.int .i64 x1.Next)]) (r := [v6]) (m' := [(.int .i64 x21.1)]) (cs' := [(.int .i64 x1.Lsn), (.int .i64 x1.Tx), (.int .i64 x1.Prev), (.int .i64 x1.Kind), (.int .i64 x1.Oid), (.bool x1.Before.Has), (.int .i64 x1.Before.O.Kind), v2, v3, (.bool x1.After.Has), (.int .i64 x1.After.O.Kind), v4, v5, (.int .i64 x21.1), v6]) hS rfl rfl rfl ti_3 rfl rfl rfl rfl rfl (one_cons rfl one_nil) rfl) (fun v w a hR hF => ?_)
                have hS : St e s15 w [pt g2 41 ([(.int .i64 x1.Lsn), (.int .i64 x1.Tx), (.int .i64 x1.Prev), (.int .i64 x1.Kind), (.int .i64 x1.Oid), (.bool x1.Before.Has), (.int .i64 x1.Before.O.Kind), v2, v3, (.bool x1.After.Has), (.int .i64 x1.After.O.Kind), v4, v5, (.int .i64 x21.1), v6]), pt g1 139 ([v21, (.int .i64 x21.2.2.1), (.int .i64 x21.2.2.2)]), pt g3 41 ([(.int .i64 0), (.int .i64 0), (.int .i64 0), (.int .i64 0), (.int .i64 0), (.bool false), (.int .i64 0), (.slice none 0 0), (.slice none 0 0), (.bool false), (.int .i64 0), (.slice none 0 0), (.slice none 0 0), (.int .i64 0), (.slice none 0 0)])] := hR
                refine nilN ?_
                refine bn (xn ?_)
                obtain rfl := hsm H
                replace hS := hS.sel (is := [2, 0, 0]) (A' := [pt g3 41 ([(.int .i64 0), (.int .i64 0), (.int .i64 0), (.int .i64 0), (.int .i64 0), (.bool false), (.int .i64 0), (.slice none 0 0), (.slice none 0 0), (.bool false), (.int .i64 0), (.slice none 0 0), (.slice none 0 0), (.int .i64 0), (.slice none 0 0)]), pt g2 41 ([(.int .i64 x1.Lsn), (.int .i64 x1.Tx), (.int .i64 x1.Prev), (.int .i64 x1.Kind), (.int .i64 x1.Oid), (.bool x1.Before.Has), (.int .i64 x1.Before.O.Kind), v2, v3, (.bool x1.After.Has), (.int .i64 x1.After.O.Kind), v4, v5, (.int .i64 x21.1), v6]), pt g1 139 ([v21, (.int .i64 x21.2.2.1), (.int .i64 x21.2.2.2)])]) rfl
                exact ⟨x1.Lsn, x1.Tx, x1.Prev, x1.Kind, x1.Oid, x21.1, x1.Txs, x21.2.1, x21.2.2.1, x21.2.2.2, s15, v6, v21, hS, hF.cut ⟨rfl, rfl, trivial⟩, ((hg1.trans hg12).trans hg13), (((h6.mono hg1).mono hg12).mono hg13), h19, HK1⟩
              · replace H := hbf hc6 H
                refine sq ?_
                refine rg ?_
                refine stp hF (p_eql rfl rfl) (by decide) (fun a hF => ?_)
                refine stp hF (p_assign rfl) (by decide) (fun a hF => ?_)
                refine nilN ?_
                refine xn ?_
                refine cnd hF rfl (fun hc7 => ?_) (fun hc7 => ?_)
                · replace H := hbt hc7 H
                  refine rg ?_
                  refine ste hF (e_bslice (kd := kTLive) (et := 91) (ps := []) (vs := []) (cs := []) (xs := ([] : List TLive)) hS rfl (by intro w; kernel_rfl) rfl (by decide) (Nat.le_of_ble_eq_true rfl) (by exact (Rows.nil _ _ _ _))) (by decide) (fun v22 w a hR hF => ?_)
                  have hS : St e s3 w [Ow kTLive 91 v22 ([] : List TLive), pt g1 139 ([v9, (.int .i64 x15.2.2.1), (.int .i64 x15.2.2.2)]), pt g3 41 ([(.int .i64 0), (.int .i64 0), (.int .i64 0), (.int .i64 0), (.int .i64 0), (.bool false), (.int .i64 0), (.slice none 0 0), (.slice none 0 0), (.bool false), (.int .i64 0), (.slice none 0 0), (.slice none 0 0), (.int .i64 0), (.slice none 0 0)]), pt g2 41 ([(.int .i64 x1.Lsn), (.int .i64 x1.Tx), (.int .i64 x1.Prev), (.int .i64 x1.Kind), (.int .i64 x1.Oid), (.bool x1.Before.Has), (.int .i64 x1.Before.O.Kind), v2, v3, (.bool x1.After.Has), (.int .i64 x1.After.O.Kind), v4, v5, (.int .i64 x1.Next), v6])] := hR
                  refine stp hF (p_fldb (o' := 14) rfl fi_41_8 rfl) (by decide) (fun a hF => ?_)
                  refine stp hF (p_ldb_one (i := 3) hS rfl rfl ia_39 rfl) (by decide) (fun a hF => ?_)
                  obtain ⟨hq1, H⟩ := hck H
                  refine ste hF (e_append (n := 0) hS rfl rfl rfl ((h6.mono hg1).src hS) un_39 ti_91 rfl (by decide) (by decide) (Nat.le_trans (Nat.mul_le_mul_right 24 hq1) (by decide))) (by decide) (fun v23 w a hR hF => ?_)
                  have hS : St e s3 w [Ow kTLive 91 v23 (([] : List TLive) ++ x1.Txs), pt g1 139 ([v9, (.int .i64 x15.2.2.1), (.int .i64 x15.2.2.2)]), pt g3 41 ([(.int .i64 0), (.int .i64 0), (.int .i64 0), (.int .i64 0), (.int .i64 0), (.bool false), (.int .i64 0), (.slice none 0 0), (.slice none 0 0), (.bool false), (.int .i64 0), (.slice none 0 0), (.slice none 0 0), (.int .i64 0), (.slice none 0 0)]), pt g2 41 ([(.int .i64 x1.Lsn), (.int .i64 x1.Tx), (.int .i64 x1.Prev), (.int .i64 x1.Kind), (.int .i64 x1.Oid), (.bool x1.Before.Has), (.int .i64 x1.Before.O.Kind), v2, v3, (.bool x1.After.Has), (.int .i64 x1.After.O.Kind), v4, v5, (.int .i64 x1.Next), v6])] := hR
                  refine stp hF (p_move rfl) (by decide) (fun a hF => ?_)
                  refine ste hF (e_bslice (kd := (Kd.int .i64)) (et := 3) (ps := [(0, (.const (.int .i64 1))), (1, (.const (.int .i64 9))), (2, (.const (.int .i64 0)))]) (vs := [(0, (.int .i64 1)), (1, (.int .i64 9)), (2, (.int .i64 0))]) (cs := [(.int .i64 1), (.int .i64 9), (.int .i64 0)]) (xs := ([1, 9, 0] : List Int)) hS rfl (by intro w; kernel_rfl) rfl (by decide) (Nat.le_of_ble_eq_true rfl) (by exact (rows_cons (kd := (Kd.int .i64)) (x := 1) (c := [(.int .i64 1)]) (cs := [(.int .i64 9), (.int .i64 0)]) rfl (rows_cons (kd := (Kd.int .i64)) (x := 9) (c := [(.int .i64 9)]) (cs := [(.int .i64 0)]) rfl (rows_cons (kd := (Kd.int .i64)) (x := 0) (c := [(.int .i64 0)]) (cs := []) rfl (Rows.nil _ _ _ _)))))) (by decide) (fun v24 w a hR hF => ?_)
                  have hS : St e s3 w [Ow (Kd.int .i64) 3 v24 ([1, 9, 0] : List Int), Ow kTLive 91 v23 (([] : List TLive) ++ x1.Txs), pt g1 139 ([v9, (.int .i64 x15.2.2.1), (.int .i64 x15.2.2.2)]), pt g3 41 ([(.int .i64 0), (.int .i64 0), (.int .i64 0), (.int .i64 0), (.int .i64 0), (.bool false), (.int .i64 0), (.slice none 0 0), (.slice none 0 0), (.bool false), (.int .i64 0), (.slice none 0 0), (.slice none 0 0), (.int .i64 0), (.slice none 0 0)]), pt g2 41 ([(.int .i64 x1.Lsn), (.int .i64 x1.Tx), (.int .i64 x1.Prev), (.int .i64 x1.Kind), (.int .i64 x1.Oid), (.bool x1.Before.Has), (.int .i64 x1.Before.O.Kind), v2, v3, (.bool x1.After.Has), (.int .i64 x1.After.O.Kind), v4, v5, (.int .i64 x1.Next), v6])] := hR
                  obtain ⟨s16, hg14, h20, hS⟩ := hS.freeze (i := 0) (kd := (Kd.int .i64)) (et := 3) (v := v24) (xs := ([1, 9, 0] : List Int)) (B := [Ow kTLive 91 v23 (([] : List TLive) ++ x1.Txs), pt g1 139 ([v9, (.int .i64 x15.2.2.1), (.int .i64 x15.2.2.2)]), pt g3 41 ([(.int .i64 0), (.int .i64 0), (.int .i64 0), (.int .i64 0), (.int .i64 0), (.bool false), (.int .i64 0), (.slice none 0 0), (.slice none 0 0), (.bool false), (.int .i64 0), (.slice none 0 0), (.slice none 0 0), (.int .i64 0), (.slice none 0 0)]), pt g2 41 ([(.int .i64 x1.Lsn), (.int .i64 x1.Tx), (.int .i64 x1.Prev), (.int .i64 x1.Kind), (.int .i64 x1.Oid), (.bool x1.Before.Has), (.int .i64 x1.Before.O.Kind), v2, v3, (.bool x1.After.Has), (.int .i64 x1.After.O.Kind), v4, v5, (.int .i64 x1.Next), v6])]) rfl
                  replace hS := hS.sel (is := [1, 0, 0, 0]) (A' := [pt g1 139 ([v9, (.int .i64 x15.2.2.1), (.int .i64 x15.2.2.2)]), Ow kTLive 91 v23 (([] : List TLive) ++ x1.Txs), pt g3 41 ([(.int .i64 0), (.int .i64 0), (.int .i64 0), (.int .i64 0), (.int .i64 0), (.bool false), (.int .i64 0), (.slice none 0 0), (.slice none 0 0), (.bool false), (.int .i64 0), (.slice none 0 0), (.slice none 0 0), (.int .i64 0), (.slice none 0 0)]), pt g2 41 ([(.int .i64 x1.Lsn), (.int .i64 x1.Tx), (.int .i64 x1.Prev), (.int .i64 x1.Kind), (.int .i64 x1.Oid), (.bool x1.Before.Has), (.int .i64 x1.Before.O.Kind), v2, v3, (.bool x1.After.Has), (.int .i64 x1.After.O.Kind), v4, v5, (.int .i64 x1.Next), v6])]) rfl
                  obtain ⟨x22, hx8, H⟩ := hb H
                  refine ste hF (e_callA (fst := []) (vs := [(.pointer (some ⟨g1, 0, none⟩)), v24]) (cap := []) rfl rfl go_92 (St.call (A := [pt g1 139 ([v9, (.int .i64 x15.2.2.1), (.int .i64 x15.2.2.2)])]) (B := [Ow kTLive 91 v23 (([] : List TLive) ++ x1.Txs), pt g3 41 ([(.int .i64 0), (.int .i64 0), (.int .i64 0), (.int .i64 0), (.int .i64 0), (.bool false), (.int .i64 0), (.slice none 0 0), (.slice none 0 0), (.bool false), (.int .i64 0), (.slice none 0 0), (.slice none 0 0), (.int .i64 0), (.slice none 0 0)]), pt g2 41 ([(.int .i64 x1.Lsn), (.int .i64 x1.Tx), (.int .i64 x1.Prev), (.int .i64 x1.Kind), (.int .i64 x1.Oid), (.bool x1.Before.Has), (.int .i64 x1.Before.O.Kind), v2, v3, (.bool x1.After.Has), (.int .i64 x1.After.O.Kind), v4, v5, (.int .i64 x1.Next), v6])]) hS (spec_l1Int.spec k _ _ x15.2.1 x15.2.2.1 x15.2.2.2 ([1, 9, 0] : List Int) v9 g1 v24 (h7.mono hg14) h20 _ hx8)) rfl) (by decide) (fun v w a hR hF => ?_)
                  obtain ⟨s17, A9, hg15, hS, hR⟩ := hR
                  obtain ⟨v25, hv8, rfl, h21⟩ := hR; obtain rfl := hv8.symm
                  have hS : St e s17 w [pt g1 139 ([v25, (.int .i64 x22.2.2.1), (.int .i64 x22.2.2.2)]), Ow kTLive 91 v23 (([] : List TLive) ++ x1.Txs), pt g3 41 ([(.int .i64 0), (.int .i64 0), (.int .i64 0), (.int .i64 0), (.int .i64 0), (.bool false), (.int .i64 0), (.slice none 0 0), (.slice none 0 0), (.bool false), (.int .i64 0), (.slice none 0 0), (.slice none 0 0), (.int .i64 0), (.slice none 0 0)]), pt g2 41 ([(.int .i64 x1.Lsn), (.int .i64 x1.Tx), (.int .i64 x1.Prev), (.int .i64 x1.Kind), (.int .i64 x1.Oid), (.bool x1.Before.Has), (.int .i64 x1.Before.O.Kind), v2, v3, (.bool x1.After.Has), (.int .i64 x1.After.O.Kind), v4, v5, (.int .i64 x1.Next), v6])] := hS
                  refine stp hF (p_move rfl) (by decide) (fun a hF => ?_)
                  refine ste hF (e_bslice (kd := (Kd.int .i64)) (et := 3) (ps := [(0, (.const (.int .i64 0))), (1, (.const (.int .i64 1))), (2, (.const (.int .i64 99)))]) (vs := [(0, (.int .i64 0)), (1, (.int .i64 1)), (2, (.int .i64 99))]) (cs := [(.int .i64 0), (.int .i64 1), (.int .i64 99)]) (xs := ([0, 1, 99] : List Int)) hS rfl (by intro w; kernel_rfl) rfl (by decide) (Nat.le_of_ble_eq_true rfl) (by exact (rows_cons (kd := (Kd.int .i64)) (x := 0) (c := [(.int .i64 0)]) (cs := [(.int .i64 1), (.int .i64 99)]) rfl (rows_cons (kd := (Kd.int .i64)) (x := 1) (c := [(.int .i64 1)]) (cs := [(.int .i64 99)]) rfl (rows_cons (kd := (Kd.int .i64)) (x := 99) (c := [(.int .i64 99)]) (cs := []) rfl (Rows.nil _ _ _ _)))))) (by decide) (fun v26 w a hR hF => ?_)
                  have hS : St e s17 w [Ow (Kd.int .i64) 3 v26 ([0, 1, 99] : List Int), pt g1 139 ([v25, (.int .i64 x22.2.2.1), (.int .i64 x22.2.2.2)]), Ow kTLive 91 v23 (([] : List TLive) ++ x1.Txs), pt g3 41 ([(.int .i64 0), (.int .i64 0), (.int .i64 0), (.int .i64 0), (.int .i64 0), (.bool false), (.int .i64 0), (.slice none 0 0), (.slice none 0 0), (.bool false), (.int .i64 0), (.slice none 0 0), (.slice none 0 0), (.int .i64 0), (.slice none 0 0)]), pt g2 41 ([(.int .i64 x1.Lsn), (.int .i64 x1.Tx), (.int .i64 x1.Prev), (.int .i64 x1.Kind), (.int .i64 x1.Oid), (.bool x1.Before.Has), (.int .i64 x1.Before.O.Kind), v2, v3, (.bool x1.After.Has), (.int .i64 x1.After.O.Kind), v4, v5, (.int .i64 x1.Next), v6])] := hR
                  obtain ⟨s18, hg16, h22, hS⟩ := hS.freeze (i := 0) (kd := (Kd.int .i64)) (et := 3) (v := v26) (xs := ([0, 1, 99] : List Int)) (B := [pt g1 139 ([v25, (.int .i64 x22.2.2.1), (.int .i64 x22.2.2.2)]), Ow kTLive 91 v23 (([] : List TLive) ++ x1.Txs), pt g3 41 ([(.int .i64 0), (.int .i64 0), (.int .i64 0), (.int .i64 0), (.int .i64 0), (.bool false), (.int .i64 0), (.slice none 0 0), (.slice none 0 0), (.bool false), (.int .i64 0), (.slice none 0 0), (.slice none 0 0), (.int .i64 0), (.slice none 0 0)]), pt g2 41 ([(.int .i64 x1.Lsn), (.int .i64 x1.Tx), (.int .i64 x1.Prev), (.int .i64 x1.Kind), (.int .i64 x1.Oid), (.bool x1.Before.Has), (.int .i64 x1.Before.O.Kind), v2, v3, (.bool x1.After.Has), (.int .i64 x1.After.O.Kind), v4, v5, (.int .i64 x1.Next), v6])]) rfl
                  obtain ⟨x23, hx9, H⟩ := hb H
                  refine ste hF (e_callA (fst := []) (vs := [(.pointer (some ⟨g1, 0, none⟩)), v26]) (cap := []) rfl rfl go_92 (St.call (A := [pt g1 139 ([v25, (.int .i64 x22.2.2.1), (.int .i64 x22.2.2.2)])]) (B := [Ow kTLive 91 v23 (([] : List TLive) ++ x1.Txs), pt g3 41 ([(.int .i64 0), (.int .i64 0), (.int .i64 0), (.int .i64 0), (.int .i64 0), (.bool false), (.int .i64 0), (.slice none 0 0), (.slice none 0 0), (.bool false), (.int .i64 0), (.slice none 0 0), (.slice none 0 0), (.int .i64 0), (.slice none 0 0)]), pt g2 41 ([(.int .i64 x1.Lsn), (.int .i64 x1.Tx), (.int .i64 x1.Prev), (.int .i64 x1.Kind), (.int .i64 x1.Oid), (.bool x1.Before.Has), (.int .i64 x1.Before.O.Kind), v2, v3, (.bool x1.After.Has), (.int .i64 x1.After.O.Kind), v4, v5, (.int .i64 x1.Next), v6])]) hS (spec_l1Int.spec k _ _ x22.2.1 x22.2.2.1 x22.2.2.2 ([0, 1, 99] : List Int) v25 g1 v26 (h21.mono hg16) h22 _ hx9)) rfl) (by decide) (fun v w a hR hF => ?_)
                  obtain ⟨s19, A10, hg17, hS, hR⟩ := hR
                  obtain ⟨v27, hv9, rfl, h23⟩ := hR; obtain rfl := hv9.symm
                  have hS : St e s19 w [pt g1 139 ([v27, (.int .i64 x23.2.2.1), (.int .i64 x23.2.2.2)]), Ow kTLive 91 v23 (([] : List TLive) ++ x1.Txs), pt g3 41 ([(.int .i64 0), (.int .i64 0), (.int .i64 0), (.int .i64 0), (.int .i64 0), (.bool false), (.int .i64 0), (.slice none 0 0), (.slice none 0 0), (.bool false), (.int .i64 0), (.slice none 0 0), (.slice none 0 0), (.int .i64 0), (.slice none 0 0)]), pt g2 41 ([(.int .i64 x1.Lsn), (.int .i64 x1.Tx), (.int .i64 x1.Prev), (.int .i64 x1.Kind), (.int .i64 x1.Oid), (.bool x1.Before.Has), (.int .i64 x1.Before.O.Kind), v2, v3, (.bool x1.After.Has), (.int .i64 x1.After.O.Kind), v4, v5, (.int .i64 x1.Next), v6])] := hS
                  refine stp hF (p_build (ps := [(0, (.tmp 55)), (1, (.tmp 58))]) (vs := [(0, (.int .i64 x22.1)), (1, (.int .i64 x23.1))]) (v := (.agg #[(.int .i64 x22.1), (.int .i64 x23.1), (.bool false)])) rfl (by intro w; kernel_rfl)) (by decide) (fun a hF => ?_)
                  refine ste hF (e_bslice (kd := kTLive) (et := 91) (ps := [(0, (.tmp 59))]) (vs := [(0, (.agg #[(.int .i64 x22.1), (.int .i64 x23.1), (.bool false)]))]) (cs := [(.int .i64 x22.1), (.int .i64 x23.1), (.bool false)]) (xs := ([(⟨x22.1, x23.1, false⟩ : TLive)] : List TLive)) hS rfl (by intro w; kernel_rfl) rfl (by decide) (Nat.le_of_ble_eq_true rfl) (by exact (rows_cons (kd := kTLive) (x := (⟨x22.1, x23.1, false⟩ : TLive)) (c := [(.int .i64 x22.1), (.int .i64 x23.1), (.bool false)]) (cs := []) (kTLive_mk (x := (⟨x22.1, x23.1, false⟩ : TLive)) ) (Rows.nil _ _ _ _)))) (by decide) (fun v28 w a hR hF => ?_)
                  have hS : St e s19 w [Ow kTLive 91 v28 ([(⟨x22.1, x23.1, false⟩ : TLive)] : List TLive), pt g1 139 ([v27, (.int .i64 x23.2.2.1), (.int .i64 x23.2.2.2)]), Ow kTLive 91 v23 (([] : List TLive) ++ x1.Txs), pt g3 41 ([(.int .i64 0), (.int .i64 0), (.int .i64 0), (.int .i64 0), (.int .i64 0), (.bool false), (.int .i64 0), (.slice none 0 0), (.slice none 0 0), (.bool false), (.int .i64 0), (.slice none 0 0), (.slice none 0 0), (.int .i64 0), (.slice none 0 0)]), pt g2 41 ([(.int .i64 x1.Lsn), (.int .i64 x1.Tx), (.int .i64 x1.Prev), (.int .i64 x1.Kind), (.int .i64 x1.Oid), (.bool x1.Before.Has), (.int .i64 x1.Before.O.Kind), v2, v3, (.bool x1.After.Has), (.int .i64 x1.After.O.Kind), v4, v5, (.int .i64 x1.Next), v6])] := hR
                  obtain ⟨hq2, H⟩ := hck H
                  refine ste hF (e_append (n := 2) hS rfl rfl rfl (hS.src (n := 0) rfl) un_39 ti_91 rfl (by decide) (by decide) (Nat.le_trans (Nat.mul_le_mul_right 24 hq2) (by decide))) (by decide) (fun v29 w a hR hF => ?_)
                  have hS : St e s19 w [Ow kTLive 91 v29 ((([] : List TLive) ++ x1.Txs) ++ ([(⟨x22.1, x23.1, false⟩ : TLive)] : List TLive)), Ow kTLive 91 v28 ([(⟨x22.1, x23.1, false⟩ : TLive)] : List TLive), pt g1 139 ([v27, (.int .i64 x23.2.2.1), (.int .i64 x23.2.2.2)]), pt g3 41 ([(.int .i64 0), (.int .i64 0), (.int .i64 0), (.int .i64 0), (.int .i64 0), (.bool false), (.int .i64 0), (.slice none 0 0), (.slice none 0 0), (.bool false), (.int .i64 0), (.slice none 0 0), (.slice none 0 0), (.int .i64 0), (.slice none 0 0)]), pt g2 41 ([(.int .i64 x1.Lsn), (.int .i64 x1.Tx), (.int .i64 x1.Prev), (.int .i64 x1.Kind), (.int .i64 x1.Oid), (.bool x1.Before.Has), (.int .i64 x1.Before.O.Kind), v2, v3, (.bool x1.After.Has), (.int .i64 x1.After.O.Kind), v4, v5, (.int .i64 x1.Next), v6])] := hR
                  replace hS := hS.sel (is := [0, 1, 1, 1]) (A' := [Ow kTLive 91 v29 ((([] : List TLive) ++ x1.Txs) ++ ([(⟨x22.1, x23.1, false⟩ : TLive)] : List TLive)), pt g1 139 ([v27, (.int .i64 x23.2.2.1), (.int .i64 x23.2.2.2)]), pt g3 41 ([(.int .i64 0), (.int .i64 0), (.int .i64 0), (.int .i64 0), (.int .i64 0), (.bool false), (.int .i64 0), (.slice none 0 0), (.slice none 0 0), (.bool false), (.int .i64 0), (.slice none 0 0), (.slice none 0 0), (.int .i64 0), (.slice none 0 0)]), pt g2 41 ([(.int .i64 x1.Lsn), (.int .i64 x1.Tx), (.int .i64 x1.Prev), (.int .i64 x1.Kind), (.int .i64 x1.Oid), (.bool x1.Before.Has), (.int .i64 x1.Before.O.Kind), v2, v3, (.bool x1.After.Has), (.int .i64 x1.After.O.Kind), v4, v5, (.int .i64 x1.Next), v6])]) rfl
                  refine stp hF (p_fldb (o' := 14) rfl fi_41_8 rfl) (by decide) (fun a hF => ?_)
                  refine ste0 hF (e_stb (i := 3) (l := [(.int .i64 x1.Lsn), (.int .i64 x1.Tx), (.int .i64 x1.Prev), (.int .i64 x1.Kind), (.int .i64 x1.Oid), (.bool x1.Before.Has), (.int .i64 x1.Before.O.Kind), v2, v3, (.bool x1.After.Has), (.int .i64 x1.After.O.Kind), v4, v5, (.int .i64 x1.Next)]) (m := [v6]) (r := []) (m' := [v29]) (cs' := [(.int .i64 x1.Lsn), (.int .i64 x1.Tx), (.int .i64 x1.Prev), (.int .i64 x1.Kind), (.int .i64 x1.Oid), (.bool x1.Before.Has), (.int .i64 x1.Before.O.Kind), v2, v3, (.bool x1.After.Has), (.int .i64 x1.After.O.Kind), v4, v5, (.int .i64 x1.Next), v29]) hS rfl rfl rfl ti_39 rfl rfl rfl (cells_one (hS.one_ow (i := 0) rfl)) rfl (one_cons (hS.one_ow (i := 0) rfl) one_nil) rfl) (fun v w a hR hF => ?_)
                  have hS : St e s19 w [pt g2 41 ([(.int .i64 x1.Lsn), (.int .i64 x1.Tx), (.int .i64 x1.Prev), (.int .i64 x1.Kind), (.int .i64 x1.Oid), (.bool x1.Before.Has), (.int .i64 x1.Before.O.Kind), v2, v3, (.bool x1.After.Has), (.int .i64 x1.After.O.Kind), v4, v5, (.int .i64 x1.Next), v29]), Ow kTLive 91 v29 ((([] : List TLive) ++ x1.Txs) ++ ([(⟨x22.1, x23.1, false⟩ : TLive)] : List TLive)), pt g1 139 ([v27, (.int .i64 x23.2.2.1), (.int .i64 x23.2.2.2)]), pt g3 41 ([(.int .i64 0), (.int .i64 0), (.int .i64 0), (.int .i64 0), (.int .i64 0), (.bool false), (.int .i64 0), (.slice none 0 0), (.slice none 0 0), (.bool false), (.int .i64 0), (.slice none 0 0), (.slice none 0 0), (.int .i64 0), (.slice none 0 0)])] := hR
                  refine nilN ?_
                  refine bn (xn ?_)
                  obtain rfl := hsm H
                  obtain ⟨s20, hg18, h24, hS⟩ := hS.freeze (i := 1) (kd := kTLive) (et := 91) (v := v29) (xs := ((([] : List TLive) ++ x1.Txs) ++ ([(⟨x22.1, x23.1, false⟩ : TLive)] : List TLive))) (B := [pt g2 41 ([(.int .i64 x1.Lsn), (.int .i64 x1.Tx), (.int .i64 x1.Prev), (.int .i64 x1.Kind), (.int .i64 x1.Oid), (.bool x1.Before.Has), (.int .i64 x1.Before.O.Kind), v2, v3, (.bool x1.After.Has), (.int .i64 x1.After.O.Kind), v4, v5, (.int .i64 x1.Next), v29]), pt g1 139 ([v27, (.int .i64 x23.2.2.1), (.int .i64 x23.2.2.2)]), pt g3 41 ([(.int .i64 0), (.int .i64 0), (.int .i64 0), (.int .i64 0), (.int .i64 0), (.bool false), (.int .i64 0), (.slice none 0 0), (.slice none 0 0), (.bool false), (.int .i64 0), (.slice none 0 0), (.slice none 0 0), (.int .i64 0), (.slice none 0 0)])]) rfl
                  replace hS := hS.sel (is := [2, 0, 0]) (A' := [pt g3 41 ([(.int .i64 0), (.int .i64 0), (.int .i64 0), (.int .i64 0), (.int .i64 0), (.bool false), (.int .i64 0), (.slice none 0 0), (.slice none 0 0), (.bool false), (.int .i64 0), (.slice none 0 0), (.slice none 0 0), (.int .i64 0), (.slice none 0 0)]), pt g2 41 ([(.int .i64 x1.Lsn), (.int .i64 x1.Tx), (.int .i64 x1.Prev), (.int .i64 x1.Kind), (.int .i64 x1.Oid), (.bool x1.Before.Has), (.int .i64 x1.Before.O.Kind), v2, v3, (.bool x1.After.Has), (.int .i64 x1.After.O.Kind), v4, v5, (.int .i64 x1.Next), v29]), pt g1 139 ([v27, (.int .i64 x23.2.2.1), (.int .i64 x23.2.2.2)])]) rfl
                  exact ⟨x1.Lsn, x1.Tx, x1.Prev, x1.Kind, x1.Oid, x1.Next, ((([] : List TLive) ++ x1.Txs) ++ ([(⟨x22.1, x23.1, false⟩ : TLive)] : List TLive)), x23.2.1, x23.2.2.1, x23.2.2.2, s20, v29, v27, hS, hF.cut ⟨rfl, rfl, trivial⟩, (((((hg1.trans hg14).trans hg15).trans hg16).trans hg17).trans hg18), h24, (h23.mono hg18), HK1⟩
                · replace H := hbf hc7 H
                  refine skN ?_
                  refine bn (xn ?_)
                  obtain rfl := hsm H
                  replace hS := hS.sel (is := [1, 1, 0]) (A' := [pt g3 41 ([(.int .i64 0), (.int .i64 0), (.int .i64 0), (.int .i64 0), (.int .i64 0), (.bool false), (.int .i64 0), (.slice none 0 0), (.slice none 0 0), (.bool false), (.int .i64 0), (.slice none 0 0), (.slice none 0 0), (.int .i64 0), (.slice none 0 0)]), pt g2 41 ([(.int .i64 x1.Lsn), (.int .i64 x1.Tx), (.int .i64 x1.Prev), (.int .i64 x1.Kind), (.int .i64 x1.Oid), (.bool x1.Before.Has), (.int .i64 x1.Before.O.Kind), v2, v3, (.bool x1.After.Has), (.int .i64 x1.After.O.Kind), v4, v5, (.int .i64 x1.Next), v6]), pt g1 139 ([v9, (.int .i64 x15.2.2.1), (.int .i64 x15.2.2.2)])]) rfl
                  exact ⟨x1.Lsn, x1.Tx, x1.Prev, x1.Kind, x1.Oid, x1.Next, x1.Txs, x15.2.1, x15.2.2.1, x15.2.2.2, s3, v6, v9, hS, hF.cut ⟨rfl, rfl, trivial⟩, hg1, (h6.mono hg1), h7, HK1⟩
  · clear H HK1 hS hF
    rintro a w ⟨x2, x3, x4, x5, x6, x7, x8, x9, x10, x11, s2, v7, v8, hS, hF, hg19, h25, h26, H⟩
    unfold spec_l4Bend.c1 at H
    refine sq ?_
    refine rg ?_
    refine stp hF (p_ldb_agg (i := 1) (l := []) (m := [(.int .i64 x2), (.int .i64 x3), (.int .i64 x4), (.int .i64 x5), (.int .i64 x6), (.bool x1.Before.Has), (.int .i64 x1.Before.O.Kind), v2, v3, (.bool x1.After.Has), (.int .i64 x1.After.O.Kind), v4, v5, (.int .i64 x7), v7]) (r := []) hS rfl rfl ia_41 ti_41 rfl rfl rfl) (by decide) (fun a hF => ?_)
    refine ste0 hF (e_stb (i := 0) (l := []) (m := [(.int .i64 0), (.int .i64 0), (.int .i64 0), (.int .i64 0), (.int .i64 0), (.bool false), (.int .i64 0), (.slice none 0 0), (.slice none 0 0), (.bool false), (.int .i64 0), (.slice none 0 0), (.slice none 0 0), (.int .i64 0), (.slice none 0 0)]) (r := []) (m' := [(.int .i64 x2), (.int .i64 x3), (.int .i64 x4), (.int .i64 x5), (.int .i64 x6), (.bool x1.Before.Has), (.int .i64 x1.Before.O.Kind), v2, v3, (.bool x1.After.Has), (.int .i64 x1.After.O.Kind), v4, v5, (.int .i64 x7), v7]) (cs' := [(.int .i64 x2), (.int .i64 x3), (.int .i64 x4), (.int .i64 x5), (.int .i64 x6), (.bool x1.Before.Has), (.int .i64 x1.Before.O.Kind), v2, v3, (.bool x1.After.Has), (.int .i64 x1.After.O.Kind), v4, v5, (.int .i64 x7), v7]) hS rfl rfl rfl ti_41 rfl rfl rfl rfl rfl (one_cons rfl (one_cons rfl (one_cons rfl (one_cons rfl (one_cons rfl (one_cons rfl (one_cons rfl (one_cons (one_sl (h2.mono hg19)) (one_cons (one_sl (h3.mono hg19)) (one_cons rfl (one_cons rfl (one_cons (one_sl (h4.mono hg19)) (one_cons (one_sl (h5.mono hg19)) (one_cons rfl (one_cons (one_sl h25) one_nil))))))))))))))) rfl) (fun v w a hR hF => ?_)
    have hS : St e s2 w [pt g3 41 ([(.int .i64 x2), (.int .i64 x3), (.int .i64 x4), (.int .i64 x5), (.int .i64 x6), (.bool x1.Before.Has), (.int .i64 x1.Before.O.Kind), v2, v3, (.bool x1.After.Has), (.int .i64 x1.After.O.Kind), v4, v5, (.int .i64 x7), v7]), pt g2 41 ([(.int .i64 x2), (.int .i64 x3), (.int .i64 x4), (.int .i64 x5), (.int .i64 x6), (.bool x1.Before.Has), (.int .i64 x1.Before.O.Kind), v2, v3, (.bool x1.After.Has), (.int .i64 x1.After.O.Kind), v4, v5, (.int .i64 x7), v7]), pt g1 139 ([v8, (.int .i64 x10), (.int .i64 x11)])] := hR
    refine nilN ?_
    refine xn ?_
    refine rt ?_
    obtain rfl := hsm H
    have h27 : RvOk Try.prog _ w (.cell 4 41) _ := rvC (i := 0) hS rfl (show lk [(4, (.pointer (some ⟨g3, 0, none⟩)))] 4 = _ from rfl) ia_41 ti_41 rfl
    replace hS := hS.sel (is := [2]) (A' := [pt g1 139 ([v8, (.int .i64 x10), (.int .i64 x11)])]) rfl
    exact retc1 hF rfl h27 hS ⟨v8, v2, v3, v4, v5, v7, rfl, rfl, h26, (h2.mono hg19), (h3.mono hg19), (h4.mono hg19), (h5.mono hg19), h25⟩
end Go.Proofs.Ytocknibhajihmaa
