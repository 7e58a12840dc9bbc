/- Functions of this place as plain functions, and that the machine comes to what they say. Conditions: none. -/
import Derived.Test.YtbcpkopchnlefaaKwYFb
set_option linter.unusedVariables false
set_option linter.unusedSimpArgs false
namespace Go.Proofs.Ytbcpkopchnlefaa
open Go.Kw

def impl_Grant_63_164.c1 (k : Nat) : Option Int :=
  (some (-1))
def impl_Grant_63_164.l1 (x1 : (List TGrant)) (x2 : Int) : Nat → Int → Option (Ex Int Unit)
  | 0, _ => none
  | k + 1, x3 => (if (decide (x3 < (x1.length : Int))) = true then (if 0 ≤ x3 ∧ x3 < (x1.length : Int) then ((impl_waitAt_1.f k (rd x1 x3) x2).bind fun x4 => (if x4 = true then (some (Ex.ret x3)) else ((impl_Grant_63_164.l1 x1 x2 k) (w64 (x3 + 1))))) else none) else (some (Ex.go ())))
def impl_Grant_63_164.f (k : Nat) (x1 : (List TGrant)) (x2 : Int) : Option Int :=
  (((impl_Grant_63_164.l1 x1 x2 k 0) : Option (Ex Int Unit)).bind fun x5 => Ex.on x5 (fun r => some r) (fun y => impl_Grant_63_164.c1 k))
set_option maxRecDepth 100000 in
set_option maxHeartbeats 4000000 in
theorem impl_Grant_63_164.spec (k : Nat) (s0 : HF) (w : World) (x1 : (List TGrant)) (x2 : Int) (v1 : Value) (ad1 : Addr) (h1 : Sl kTGrant s0 v1 x1) (h2 : Pr (Kd.int .i64) s0 ad1 x2) (r : Int) (H : impl_Grant_63_164.f k x1 x2 = some r) :
    Law Try.prog 63 #[v1, (.func (.func 64) #[] #[(.pointer (some ad1))])] s0 w [] (fun v s1 A1 => v = (.int .i64 r) ∧ A1 = []) := by
  unfold impl_Grant_63_164.f at H
  refine Law.intro Try.func63 rfl [(0, v1), (1, (.func (.func 64) #[] #[(.pointer (some ad1))]))] (Nat.le_of_ble_eq_true rfl) (enter_lk ⟨rfl, rfl, trivial⟩) (fun e a hS hF => ?_)
  have hF : Fr 19 a [(0, v1), (1, (.func (.func 64) #[] #[(.pointer (some ad1))]))] := hF
  refine sq ?_
  refine rg ?_
  refine stp hF (p_assign rfl) (by decide) (fun a hF => ?_)
  refine nilN ?_
  refine xn ?_
  obtain ⟨x5, H, HK1⟩ := hb H
  refine sqj (fun a w => ∃ (s2 : HF) , St e s2 w [] ∧ Fr 19 a [] ∧ Sub s0 s2 ∧ impl_Grant_63_164.c1 k = some r) ?_ ?_
  · skip
    refine sq ?_
    refine rg ?_
    refine stp hF (p_move rfl) (by decide) (fun a hF => ?_)
    refine stp hF (p_lenr un_24 rfl h1) (by decide) (fun a hF => ?_)
    refine stp hF (p_move rfl) (by decide) (fun a hF => ?_)
    refine nilN ?_
    refine xn ?_
    refine blk ?_
    refine loop_ind (fun k1 a w => ∃ (x3 : Int) (s3 : HF) , St e s3 w [] ∧ Fr 19 a [(0, v1), (1, (.func (.func 64) #[] #[(.pointer (some ad1))])), (7, (.int .i64 (x1.length : Int))), (8, (.int .i64 x3))] ∧ Sub s0 s3 ∧ impl_Grant_63_164.l1 x1 x2 k1 x3 = some x5) k ?_ ?_ ?_
    · skip
      exact ⟨0, s0, hS, hF.cut ⟨rfl, rfl, rfl, rfl, trivial⟩, (Sub.refl _), H⟩
    · clear H hS hF
      rintro a w ⟨x3, s3, hS, hF, hg1, H⟩
      exact absurd (show none = some _ from H) (by simp)
    · clear H hS hF
      rintro k1 a w ⟨x3, s3, hS, hF, hg1, H⟩
      rw [impl_Grant_63_164.l1.eq_2] at H
      refine sq ?_
      refine rg ?_
      refine stp hF (p_lss rfl rfl) (by decide) (fun a hF => ?_)
      refine nilN ?_
      refine xn ?_
      refine sq ?_
      refine cnd hF rfl (fun hc1 => ?_) (fun hc1 => ?_)
      · replace H := hbt hc1 H
        refine skN ?_
        refine xn ?_
        refine sq ?_
        refine blk ?_
        refine sq ?_
        refine rg ?_
        refine stp hF (p_move rfl) (by decide) (fun a hF => ?_)
        refine stp hF (p_assign rfl) (by decide) (fun a hF => ?_)
        refine nilN ?_
        refine xn ?_
        refine sq ?_
        refine rg ?_
        refine stp hF (p_move rfl) (by decide) (fun a hF => ?_)
        refine stp hF (p_move rfl) (by decide) (fun a hF => ?_)
        refine stp hF (p_move rfl) (by decide) (fun a hF => ?_)
        obtain ⟨hq1, H⟩ := hck H
        obtain ⟨ad2, h3, p1⟩ := p_idxr (P := Try.prog) (i := x3) (h1.mono hg1) un_24 ti_33 hq1.1 hq1.2
        refine stp hF (p1 rfl rfl) (by decide) (fun a hF => ?_)
        obtain ⟨c2, h4, p2⟩ := p_ldr_agg (P := Try.prog) h3 ia_33 ti_33
        obtain rfl := kTGrant_open h4
        refine stp hF (p2 rfl hS.ro) (by decide) (fun a hF => ?_)
        obtain ⟨x4, hx1, H⟩ := hb H
        refine ste hF (e_call (fst := []) (vs := [(.agg #[(.int .i64 ((rd x1 x3).Tx)), (.int .i64 ((rd x1 x3).Res)), (.int .i64 ((rd x1 x3).Mode))])]) (cap := [(.pointer (some ad1))]) rfl rfl go_64 (St.call (A := []) (B := []) hS (impl_waitAt_1.spec k1 _ _ (rd x1 x3) x2 ad1 (h2.mono hg1) _ hx1))) (by decide) (fun v w a hR hF => ?_)
        obtain ⟨s4, A2, hg2, hS, hR⟩ := hR
        obtain ⟨hv1, rfl⟩ := hR; obtain rfl := hv1.symm
        have hS : St e s4 w [] := hS
        refine nilN ?_
        refine xn ?_
        refine cnd hF rfl (fun hc2 => ?_) (fun hc2 => ?_)
        · replace H := hbt hc2 H
          refine sq ?_
          refine rg ?_
          refine stp hF (p_move rfl) (by decide) (fun a hF => ?_)
          refine stp hF (p_assign rfl) (by decide) (fun a hF => ?_)
          refine nilN ?_
          refine xn ?_
          refine rt ?_
          refine br (xr (xr (br (xr ?_))))
          obtain rfl := hsm H
          have H := hon1 HK1
          obtain rfl := hsm H
          exact ret1 hF rfl rfl hS ⟨rfl, rfl⟩
        · replace H := hbf hc2 H
          refine skN ?_
          refine bn (xn ?_)
          refine rg ?_
          refine stp hF (p_add (c := w64 (x3 + 1)) rfl rfl rfl) (by decide) (fun a hF => ?_)
          refine stp hF (p_move rfl) (by decide) (fun a hF => ?_)
          refine nilN ?_
          refine xn ?_
          exact ⟨(w64 (x3 + 1)), s4, hS, hF.cut ⟨rfl, rfl, rfl, rfl, trivial⟩, (hg1.trans hg2), H⟩
      · replace H := hbf hc1 H
        refine exi ?_
        refine xe (xe (hit (xn ?_)))
        obtain rfl := hsm H
        exact ⟨s3, hS, hF.cut trivial, hg1, HK1⟩
  · clear H HK1 hS hF
    rintro a w ⟨s2, hS, hF, hg3, H⟩
    unfold impl_Grant_63_164.c1 at H
    refine sq ?_
    refine rg ?_
    refine stp hF (p_assign rfl) (by decide) (fun a hF => ?_)
    refine nilN ?_
    refine xn ?_
    refine rt ?_
    obtain rfl := hsm H
    exact ret1 hF rfl rfl hS ⟨rfl, rfl⟩

def impl_waitAt.f (k : Nat) (x1 : TLocks) (x2 : Int) : Option Int :=
  ((impl_Grant_63_164.f k x1.Waits x2).bind fun x3 => (some x3))
set_option maxRecDepth 100000 in
set_option maxHeartbeats 4000000 in
theorem impl_waitAt.spec (k : Nat) (s0 : HF) (w : World) (x1 : TLocks) (x2 : Int) (v1 : Value) (v2 : Value) (h1 : Sl kTGrant s0 v1 x1.Given) (h2 : Sl kTGrant s0 v2 x1.Waits) (r : Int) (H : impl_waitAt.f k x1 x2 = some r) :
    Law Try.prog 33 #[(.agg #[v1, v2]), (.int .i64 x2)] s0 w [] (fun v s1 A1 => v = (.int .i64 r) ∧ A1 = []) := by
  unfold impl_waitAt.f at H
  refine Law.intro Try.func33 rfl [(0, (.agg #[v1, v2])), (1, (.int .i64 x2))] (Nat.le_of_ble_eq_true rfl) (enter_lk ⟨rfl, rfl, trivial⟩) (fun e a hS hF => ?_)
  have hF : Fr 9 a [(0, (.agg #[v1, v2])), (1, (.int .i64 x2))] := hF
  refine sq ?_
  refine rg ?_
  refine ste hF (e_box (cs := [v1, v2]) hS rfl rfl) (by decide) (fun v w a hR hF => ?_)
  obtain ⟨g1, rfl, hS⟩ := hR
  refine ste hF (e_box (cs := [(.int .i64 x2)]) hS rfl rfl) (by decide) (fun v w a hR hF => ?_)
  obtain ⟨g2, rfl, hS⟩ := hR
  refine stp hF (p_assign rfl) (by decide) (fun a hF => ?_)
  refine nilN ?_
  refine xn ?_
  refine sq ?_
  refine rg ?_
  refine stp hF (p_fldb (o' := 1) rfl fi_26_1 rfl) (by decide) (fun a hF => ?_)
  refine stp hF (p_ldb_one (i := 1) hS rfl rfl ia_24 rfl) (by decide) (fun a hF => ?_)
  obtain ⟨s2, hg1, h3, hS⟩ := hS.freezeB (i := 0) (g := g2) (T := 3) (cs := [(.int .i64 x2)]) (B := [pt g1 26 ([v1, v2])]) rfl
  have h4 : Pr (Kd.int .i64) s2 ⟨g2, 0, none⟩ x2 := Pr.box h3 (by exact rfl)
  refine stp hF (p_makefunc (fs := []) (cs := [(.tmp 3)]) rfl rfl) (by decide) (fun a hF => ?_)
  obtain ⟨x3, hx1, H⟩ := hb H
  refine ste hF (e_call (fst := []) (vs := [v2, (.func (.func 64) #[] #[(.pointer (some (⟨g2, 0, none⟩ : Addr)))])]) (cap := []) rfl rfl go_63 (St.call (A := []) (B := [pt g1 26 ([v1, v2])]) hS (impl_Grant_63_164.spec k _ _ x1.Waits x2 v2 (⟨g2, 0, none⟩ : Addr) (h2.mono hg1) h4 _ hx1))) (by decide) (fun v w a hR hF => ?_)
  obtain ⟨s3, A2, hg2, hS, hR⟩ := hR
  obtain ⟨hv1, rfl⟩ := hR; obtain rfl := hv1.symm
  have hS : St e s3 w [pt g1 26 ([v1, v2])] := hS
  refine stp hF (p_assign rfl) (by decide) (fun a hF => ?_)
  refine nilN ?_
  refine xn ?_
  refine rt ?_
  obtain rfl := hsm H
  replace hS := hS.sel (is := []) (A' := []) rfl
  exact ret1 hF rfl rfl hS ⟨rfl, rfl⟩

def impl_LocksOk.c1 (k : Nat) : Option Bool :=
  (some true)
def impl_LocksOk.c2 (k : Nat) (rec_l1 : Int → Option (Ex Bool Unit)) (x1 : Int) (x2 : Bool) : Option (Ex Bool Unit) :=
  (if x2 = true then (some (Ex.ret false)) else (rec_l1 (w64 (x1 + 1))))
def impl_LocksOk.l1 (x3 : TLocks) : Nat → Int → Option (Ex Bool Unit)
  | 0, _ => none
  | k + 1, x1 => (if (decide (x1 < (x3.Waits.length : Int))) = true then (if 0 ≤ x1 ∧ x1 < (x3.Waits.length : Int) then ((impl_grantOk.f k (rd x3.Waits x1)).bind fun x4 => ((if (!x4) = true then (some true) else ((impl_waitAt.f k x3 ((rd x3.Waits x1).Tx)).bind fun x5 => (some (decide (x5 ≠ x1)))) : Option Bool).bind fun x6 => impl_LocksOk.c2 k (impl_LocksOk.l1 x3 k) x1 x6)) else none) else (some (Ex.go ())))
def impl_LocksOk.c3 (k : Nat) (x3 : TLocks) : Option Bool :=
  (((impl_LocksOk.l1 x3 k 0) : Option (Ex Bool Unit)).bind fun x7 => Ex.on x7 (fun r => some r) (fun y => impl_LocksOk.c1 k))
def impl_LocksOk.c4 (k : Nat) (rec_l2 : Int → Option (Ex Bool Unit)) (x8 : Int) (x9 : Bool) : Option (Ex Bool Unit) :=
  (if x9 = true then (some (Ex.ret false)) else (rec_l2 (w64 (x8 + 1))))
def impl_LocksOk.l2 (x3 : TLocks) : Nat → Int → Option (Ex Bool Unit)
  | 0, _ => none
  | k + 1, x8 => (if (decide (x8 < (x3.Given.length : Int))) = true then (if 0 ≤ x8 ∧ x8 < (x3.Given.length : Int) then ((impl_grantOk.f k (rd x3.Given x8)).bind fun x10 => ((if (!x10) = true then (some true) else (if 0 ≤ (0 : Int) ∧ (0 : Int) ≤ x8 ∧ x8 ≤ (x3.Given.length : Int) then ((impl_Grant_36_145.f k (cut x3.Given (0 : Int) x8) (rd x3.Given x8)).bind fun x11 => (some x11)) else none) : Option Bool).bind fun x12 => impl_LocksOk.c4 k (impl_LocksOk.l2 x3 k) x8 x12)) else none) else (some (Ex.go ())))
def impl_LocksOk.f (k : Nat) (x3 : TLocks) : Option Bool :=
  (if ((decide (60 < (x3.Given.length : Int))) || (decide (60 < (x3.Waits.length : Int)))) = true then (some false) else (((impl_LocksOk.l2 x3 k 0) : Option (Ex Bool Unit)).bind fun x13 => Ex.on x13 (fun r => some r) (fun y => impl_LocksOk.c3 k x3)))
set_option maxRecDepth 100000 in
set_option maxHeartbeats 4000000 in
theorem impl_LocksOk.spec (k : Nat) (s0 : HF) (w : World) (x3 : TLocks) (v1 : Value) (v2 : Value) (h1 : Sl kTGrant s0 v1 x3.Given) (h2 : Sl kTGrant s0 v2 x3.Waits) (r : Bool) (H : impl_LocksOk.f k x3 = some r) :
    Law Try.prog 10 #[(.agg #[v1, v2])] s0 w [] (fun v s1 A1 => v = (.bool r) ∧ A1 = []) := by
  unfold impl_LocksOk.f at H
  refine Law.intro Try.func10 rfl [(0, (.agg #[v1, v2]))] (Nat.le_of_ble_eq_true rfl) (enter_lk ⟨rfl, trivial⟩) (fun e a hS hF => ?_)
  have hF : Fr 57 a [(0, (.agg #[v1, v2]))] := hF
  refine sq ?_
  refine rg ?_
  refine ste hF (e_box (cs := [v1, v2]) hS rfl rfl) (by decide) (fun v w a hR hF => ?_)
  obtain ⟨g1, rfl, hS⟩ := hR
  refine stp hF (p_assign rfl) (by decide) (fun a hF => ?_)
  refine nilN ?_
  refine xn ?_
  refine sq ?_
  refine sq ?_
  refine rg ?_
  refine stp hF (p_fldb (o' := 0) rfl fi_26_0 rfl) (by decide) (fun a hF => ?_)
  refine stp hF (p_ldb_one (i := 0) hS rfl rfl ia_24 rfl) (by decide) (fun a hF => ?_)
  refine stp hF (p_lenr un_24 rfl h1) (by decide) (fun a hF => ?_)
  refine stp hF (p_gtr rfl rfl) (by decide) (fun a hF => ?_)
  refine stp hF (p_move rfl) (by decide) (fun a hF => ?_)
  refine cutj 5 (fun a w => St e s0 w [pt g1 26 ([v1, v2])] ∧ Fr 57 a [(1, (.pointer (some ⟨g1, 0, none⟩))), (16, (.bool ((decide (60 < (x3.Given.length : Int))) || (decide (60 < (x3.Waits.length : Int))))))]) rfl rfl ?_ ?_
  · rcases Bool.eq_false_or_eq_true (decide (60 < (x3.Given.length : Int))) with hc1 | hc1
    · skip
      refine gofD (j := 4) hF rfl rfl (by rw [hc1]; decide) (by decide) (fun a hF => ?_)
      refine gofD (j := 4) hF rfl rfl (by rw [hc1]; decide) (by decide) (fun a hF => ?_)
      refine gofD (j := 4) hF rfl rfl (by rw [hc1]; decide) (by decide) (fun a hF => ?_)
      refine gofD (j := 4) hF rfl rfl (by rw [hc1]; decide) (by decide) (fun a hF => ?_)
      refine stp hF (p_orT (decide (60 < (x3.Waits.length : Int))) rfl hc1 rfl) (by decide) (fun a hF => ?_)
      refine nilN ?_
      refine xn ?_
      exact ⟨hS, hF.cut ⟨rfl, rfl, trivial⟩⟩
    · skip
      refine gonE (j := 4) hF rfl rfl hc1 ?_
      refine stp hF (p_fldb (o' := 1) rfl fi_26_1 rfl) (by decide) (fun a hF => ?_)
      refine gonE (j := 4) hF rfl rfl hc1 ?_
      refine stp hF (p_ldb_one (i := 0) hS rfl rfl ia_24 rfl) (by decide) (fun a hF => ?_)
      refine gonE (j := 4) hF rfl rfl hc1 ?_
      refine stp hF (p_lenr un_24 rfl h2) (by decide) (fun a hF => ?_)
      refine gonE (j := 4) hF rfl rfl hc1 ?_
      refine stp hF (p_gtr rfl rfl) (by decide) (fun a hF => ?_)
      refine stp hF (p_orF rfl hc1 rfl) (by decide) (fun a hF => ?_)
      refine nilN ?_
      refine xn ?_
      exact ⟨hS, hF.cut ⟨rfl, rfl, trivial⟩⟩
  clear hS hF
  rintro a w ⟨hS, hF⟩
  refine nilN ?_
  refine xn ?_
  refine cnd hF rfl (fun hc2 => ?_) (fun hc2 => ?_)
  · replace H := hbt hc2 H
    refine sq ?_
    refine rg ?_
    refine stp hF (p_assign rfl) (by decide) (fun a hF => ?_)
    refine nilN ?_
    refine xn ?_
    refine rt ?_
    refine xr ?_
    obtain rfl := hsm H
    replace hS := hS.sel (is := []) (A' := []) rfl
    exact ret1 hF rfl rfl hS ⟨rfl, rfl⟩
  · replace H := hbf hc2 H
    refine skN ?_
    refine xn ?_
    obtain ⟨x13, H, HK1⟩ := hb H
    refine sqj (fun a w => ∃ (s2 : HF) , St e s2 w [pt g1 26 ([v1, v2])] ∧ Fr 57 a [(1, (.pointer (some ⟨g1, 0, none⟩)))] ∧ Sub s0 s2 ∧ impl_LocksOk.c3 k x3 = some r) ?_ ?_
    · skip
      refine sq ?_
      refine rg ?_
      refine stp hF (p_fldb (o' := 0) rfl fi_26_0 rfl) (by decide) (fun a hF => ?_)
      refine stp hF (p_ldb_one (i := 0) hS rfl rfl ia_24 rfl) (by decide) (fun a hF => ?_)
      refine stp hF (p_lenr un_24 rfl h1) (by decide) (fun a hF => ?_)
      refine stp hF (p_move rfl) (by decide) (fun a hF => ?_)
      refine nilN ?_
      refine xn ?_
      refine blk ?_
      refine loop_ind (fun k1 a w => ∃ (x8 : Int) (s3 : HF) , St e s3 w [pt g1 26 ([v1, v2])] ∧ Fr 57 a [(1, (.pointer (some ⟨g1, 0, none⟩))), (18, v1), (19, (.int .i64 (x3.Given.length : Int))), (20, (.int .i64 x8))] ∧ Sub s0 s3 ∧ impl_LocksOk.l2 x3 k1 x8 = some x13) k ?_ ?_ ?_
      · skip
        exact ⟨0, s0, hS, hF.cut ⟨rfl, rfl, rfl, rfl, trivial⟩, (Sub.refl _), H⟩
      · clear H hS hF
        rintro a w ⟨x8, s3, hS, hF, hg1, H⟩
        exact absurd (show none = some _ from H) (by simp)
      · clear H hS hF
        rintro k1 a w ⟨x8, s3, hS, hF, hg1, H⟩
        rw [impl_LocksOk.l2.eq_2] at H
        refine sq ?_
        refine rg ?_
        refine stp hF (p_lss rfl rfl) (by decide) (fun a hF => ?_)
        refine nilN ?_
        refine xn ?_
        refine sq ?_
        refine cnd hF rfl (fun hc3 => ?_) (fun hc3 => ?_)
        · replace H := hbt hc3 H
          refine skN ?_
          refine xn ?_
          refine sq ?_
          refine blk ?_
          refine sq ?_
          refine rg ?_
          refine stp hF (p_move rfl) (by decide) (fun a hF => ?_)
          obtain ⟨hq1, H⟩ := hck H
          obtain ⟨ad1, h3, p1⟩ := p_idxr (P := Try.prog) (i := x8) (h1.mono hg1) un_24 ti_33 hq1.1 hq1.2
          refine stp hF (p1 rfl rfl) (by decide) (fun a hF => ?_)
          obtain ⟨c5, h4, p2⟩ := p_ldr_agg (P := Try.prog) h3 ia_33 ti_33
          obtain rfl := kTGrant_open h4
          refine stp hF (p2 rfl hS.ro) (by decide) (fun a hF => ?_)
          refine ste hF (e_alloc (cs := [(.int .i64 0), (.int .i64 0), (.int .i64 0)]) hS ti_33 rfl) (by decide) (fun v w a hR hF => ?_)
          obtain ⟨g2, rfl, hS⟩ := hR
          refine stp hF (p_assign rfl) (by decide) (fun a hF => ?_)
          refine ste0 hF (e_stb (i := 0) (l := []) (m := [(.int .i64 0), (.int .i64 0), (.int .i64 0)]) (r := []) (m' := [(.int .i64 ((rd x3.Given x8).Tx)), (.int .i64 ((rd x3.Given x8).Res)), (.int .i64 ((rd x3.Given x8).Mode))]) (cs' := [(.int .i64 ((rd x3.Given x8).Tx)), (.int .i64 ((rd x3.Given x8).Res)), (.int .i64 ((rd x3.Given x8).Mode))]) hS rfl rfl rfl ti_33 rfl rfl rfl rfl rfl (one_cons rfl (one_cons rfl (one_cons rfl one_nil))) rfl) (fun v w a hR hF => ?_)
          have hS : St e s3 w [pt g2 33 ([(.int .i64 ((rd x3.Given x8).Tx)), (.int .i64 ((rd x3.Given x8).Res)), (.int .i64 ((rd x3.Given x8).Mode))]), pt g1 26 ([v1, v2])] := hR
          refine nilN ?_
          refine xn ?_
          refine sq ?_
          refine rg ?_
          refine stp hF (p_ldb_agg (i := 0) (l := []) (m := [(.int .i64 ((rd x3.Given x8).Tx)), (.int .i64 ((rd x3.Given x8).Res)), (.int .i64 ((rd x3.Given x8).Mode))]) (r := []) hS rfl rfl ia_33 ti_33 rfl rfl rfl) (by decide) (fun a hF => ?_)
          obtain ⟨x10, hx1, H⟩ := hb H
          refine ste hF (e_call (fst := []) (vs := [(.agg #[(.int .i64 ((rd x3.Given x8).Tx)), (.int .i64 ((rd x3.Given x8).Res)), (.int .i64 ((rd x3.Given x8).Mode))])]) (cap := []) rfl rfl go_32 (St.call (A := []) (B := [pt g2 33 ([(.int .i64 ((rd x3.Given x8).Tx)), (.int .i64 ((rd x3.Given x8).Res)), (.int .i64 ((rd x3.Given x8).Mode))]), pt g1 26 ([v1, v2])]) hS (impl_grantOk.spec k1 _ _ (rd x3.Given x8) _ hx1))) (by decide) (fun v w a hR hF => ?_)
          obtain ⟨s4, A2, hg2, hS, hR⟩ := hR
          obtain ⟨hv1, rfl⟩ := hR; obtain rfl := hv1.symm
          have hS : St e s4 w [pt g2 33 ([(.int .i64 ((rd x3.Given x8).Tx)), (.int .i64 ((rd x3.Given x8).Res)), (.int .i64 ((rd x3.Given x8).Mode))]), pt g1 26 ([v1, v2])] := hS
          refine stp hF (p_not rfl) (by decide) (fun a hF => ?_)
          refine stp hF (p_move rfl) (by decide) (fun a hF => ?_)
          obtain ⟨x12, H, HK2⟩ := hb H
          refine cutj 7 (fun a w => ∃ (x9 : Bool) (s5 : HF) , St e s5 w [pt g1 26 ([v1, v2])] ∧ Fr 57 a [(1, (.pointer (some ⟨g1, 0, none⟩))), (18, v1), (19, (.int .i64 (x3.Given.length : Int))), (20, (.int .i64 x8)), (35, (.bool x9))] ∧ Sub s4 s5 ∧ impl_LocksOk.c4 k1 (impl_LocksOk.l2 x3 k1) x8 x9 = some x13) rfl rfl ?_ ?_
          · rcases Bool.eq_false_or_eq_true ((!x10)) with hc4 | hc4
            · replace H := hbt hc4 H
              refine gofD (j := 3) hF rfl rfl (by rw [hc4]; decide) (by decide) (fun a hF => ?_)
              refine gofD (j := 3) hF rfl rfl (by rw [hc4]; decide) (by decide) (fun a hF => ?_)
              refine gofD (j := 3) hF rfl rfl (by rw [hc4]; decide) (by decide) (fun a hF => ?_)
              refine gofD (j := 3) hF rfl rfl (by rw [hc4]; decide) (by decide) (fun a hF => ?_)
              refine gofD (j := 3) hF rfl rfl (by rw [hc4]; decide) (by decide) (fun a hF => ?_)
              refine gofD (j := 3) hF rfl rfl (by rw [hc4]; decide) (by decide) (fun a hF => ?_)
              refine stp hF (p_pickT rfl hc4 rfl) (by decide) (fun a hF => ?_)
              refine nilN ?_
              refine xn ?_
              obtain rfl := hsm H
              replace hS := hS.sel (is := [1]) (A' := [pt g1 26 ([v1, v2])]) rfl
              exact ⟨true, s4, hS, hF.cut ⟨rfl, rfl, rfl, rfl, rfl, trivial⟩, (Sub.refl _), HK2⟩
            · replace H := hbf hc4 H
              refine gonE (j := 3) hF rfl rfl hc4 ?_
              refine stp hF (p_fldb (o' := 0) rfl fi_26_0 rfl) (by decide) (fun a hF => ?_)
              refine gonE (j := 3) hF rfl rfl hc4 ?_
              refine stp hF (p_ldb_one (i := 1) hS rfl rfl ia_24 rfl) (by decide) (fun a hF => ?_)
              refine gonE (j := 3) hF rfl rfl hc4 ?_
              refine stp hF (p_move rfl) (by decide) (fun a hF => ?_)
              obtain ⟨hq2, H⟩ := hck H
              obtain ⟨v3, h5, p3⟩ := p_slr (i := (0 : Int)) (j := x8) un_24 ti_33 ((h1.mono hg1).mono hg2) hq2.1 hq2.2.1 hq2.2.2
              refine gonE (j := 3) hF rfl rfl hc4 ?_
              refine stp hF (p3 rfl rfl rfl) (by decide) (fun a hF => ?_)
              obtain ⟨s6, hg3, h6, hS⟩ := hS.freezeB (i := 0) (g := g2) (T := 33) (cs := [(.int .i64 ((rd x3.Given x8).Tx)), (.int .i64 ((rd x3.Given x8).Res)), (.int .i64 ((rd x3.Given x8).Mode))]) (B := [pt g1 26 ([v1, v2])]) rfl
              have h7 : Pr kTGrant s6 ⟨g2, 0, none⟩ (rd x3.Given x8) := Pr.box h6 (by exact (kTGrant_mk (x := (rd x3.Given x8)) ))
              refine gonE (j := 3) hF rfl rfl hc4 ?_
              refine stp hF (p_makefunc (fs := []) (cs := [(.tmp 4)]) rfl rfl) (by decide) (fun a hF => ?_)
              obtain ⟨x11, hx2, H⟩ := hb H
              refine gonE (j := 3) hF rfl rfl hc4 ?_
              refine ste hF (e_call (fst := []) (vs := [v3, (.func (.func 45) #[] #[(.pointer (some (⟨g2, 0, none⟩ : Addr)))])]) (cap := []) rfl rfl go_36 (St.call (A := []) (B := [pt g1 26 ([v1, v2])]) hS (impl_Grant_36_145.spec k1 _ _ (cut x3.Given (0 : Int) x8) (rd x3.Given x8) v3 (⟨g2, 0, none⟩ : Addr) (h5.mono hg3) h7 _ hx2))) (by decide) (fun v w a hR hF => ?_)
              obtain ⟨s7, A3, hg4, hS, hR⟩ := hR
              obtain ⟨hv2, rfl⟩ := hR; obtain rfl := hv2.symm
              have hS : St e s7 w [pt g1 26 ([v1, v2])] := hS
              refine stp hF (p_pickF rfl hc4 rfl) (by decide) (fun a hF => ?_)
              refine nilN ?_
              refine xn ?_
              obtain rfl := hsm H
              exact ⟨x11, s7, hS, hF.cut ⟨rfl, rfl, rfl, rfl, rfl, trivial⟩, (hg3.trans hg4), HK2⟩
          · clear H HK2 hS hF
            rintro a w ⟨x9, s5, hS, hF, hg5, H⟩
            unfold impl_LocksOk.c4 at H
            refine nilN ?_
            refine xn ?_
            refine cnd hF rfl (fun hc5 => ?_) (fun hc5 => ?_)
            · replace H := hbt hc5 H
              refine sq ?_
              refine rg ?_
              refine stp hF (p_assign rfl) (by decide) (fun a hF => ?_)
              refine nilN ?_
              refine xn ?_
              refine rt ?_
              refine br (xr (xr (br (xr ?_))))
              obtain rfl := hsm H
              have H := hon1 HK1
              obtain rfl := hsm H
              replace hS := hS.sel (is := []) (A' := []) rfl
              exact ret1 hF rfl rfl hS ⟨rfl, rfl⟩
            · replace H := hbf hc5 H
              refine skN ?_
              refine bn (xn ?_)
              refine rg ?_
              refine stp hF (p_add (c := w64 (x8 + 1)) rfl rfl rfl) (by decide) (fun a hF => ?_)
              refine stp hF (p_move rfl) (by decide) (fun a hF => ?_)
              refine nilN ?_
              refine xn ?_
              exact ⟨(w64 (x8 + 1)), s5, hS, hF.cut ⟨rfl, rfl, rfl, rfl, trivial⟩, ((hg1.trans hg2).trans hg5), H⟩
        · replace H := hbf hc3 H
          refine exi ?_
          refine xe (xe (hit (xn ?_)))
          obtain rfl := hsm H
          exact ⟨s3, hS, hF.cut ⟨rfl, trivial⟩, hg1, HK1⟩
    · clear H HK1 hS hF
      rintro a w ⟨s2, hS, hF, hg6, H⟩
      unfold impl_LocksOk.c3 at H
      obtain ⟨x7, H, HK3⟩ := hb H
      refine sqj (fun a w => ∃ (s8 : HF) , St e s8 w [pt g1 26 ([v1, v2])] ∧ Fr 57 a [] ∧ Sub s2 s8 ∧ impl_LocksOk.c1 k = some r) ?_ ?_
      · skip
        refine sq ?_
        refine rg ?_
        refine stp hF (p_fldb (o' := 1) rfl fi_26_1 rfl) (by decide) (fun a hF => ?_)
        refine stp hF (p_ldb_one (i := 0) hS rfl rfl ia_24 rfl) (by decide) (fun a hF => ?_)
        refine stp hF (p_lenr un_24 rfl (h2.mono hg6)) (by decide) (fun a hF => ?_)
        refine stp hF (p_move rfl) (by decide) (fun a hF => ?_)
        refine nilN ?_
        refine xn ?_
        refine blk ?_
        refine loop_ind (fun k2 a w => ∃ (x1 : Int) (s9 : HF) , St e s9 w [pt g1 26 ([v1, v2])] ∧ Fr 57 a [(1, (.pointer (some ⟨g1, 0, none⟩))), (38, v2), (39, (.int .i64 (x3.Waits.length : Int))), (40, (.int .i64 x1))] ∧ Sub s2 s9 ∧ impl_LocksOk.l1 x3 k2 x1 = some x7) k ?_ ?_ ?_
        · skip
          exact ⟨0, s2, hS, hF.cut ⟨rfl, rfl, rfl, rfl, trivial⟩, (Sub.refl _), H⟩
        · clear H hS hF
          rintro a w ⟨x1, s9, hS, hF, hg7, H⟩
          exact absurd (show none = some _ from H) (by simp)
        · clear H hS hF
          rintro k2 a w ⟨x1, s9, hS, hF, hg7, H⟩
          rw [impl_LocksOk.l1.eq_2] at H
          refine sq ?_
          refine rg ?_
          refine stp hF (p_lss rfl rfl) (by decide) (fun a hF => ?_)
          refine nilN ?_
          refine xn ?_
          refine sq ?_
          refine cnd hF rfl (fun hc6 => ?_) (fun hc6 => ?_)
          · replace H := hbt hc6 H
            refine skN ?_
            refine xn ?_
            refine sq ?_
            refine blk ?_
            refine sq ?_
            refine rg ?_
            refine stp hF (p_move rfl) (by decide) (fun a hF => ?_)
            obtain ⟨hq3, H⟩ := hck H
            obtain ⟨ad2, h8, p4⟩ := p_idxr (P := Try.prog) (i := x1) ((h2.mono hg6).mono hg7) un_24 ti_33 hq3.1 hq3.2
            refine stp hF (p4 rfl rfl) (by decide) (fun a hF => ?_)
            obtain ⟨c6, h9, p5⟩ := p_ldr_agg (P := Try.prog) h8 ia_33 ti_33
            obtain rfl := kTGrant_open h9
            refine stp hF (p5 rfl hS.ro) (by decide) (fun a hF => ?_)
            refine ste hF (e_alloc (cs := [(.int .i64 0), (.int .i64 0), (.int .i64 0)]) hS ti_33 rfl) (by decide) (fun v w a hR hF => ?_)
            obtain ⟨g3, rfl, hS⟩ := hR
            refine stp hF (p_assign rfl) (by decide) (fun a hF => ?_)
            refine ste0 hF (e_stb (i := 0) (l := []) (m := [(.int .i64 0), (.int .i64 0), (.int .i64 0)]) (r := []) (m' := [(.int .i64 ((rd x3.Waits x1).Tx)), (.int .i64 ((rd x3.Waits x1).Res)), (.int .i64 ((rd x3.Waits x1).Mode))]) (cs' := [(.int .i64 ((rd x3.Waits x1).Tx)), (.int .i64 ((rd x3.Waits x1).Res)), (.int .i64 ((rd x3.Waits x1).Mode))]) hS rfl rfl rfl ti_33 rfl rfl rfl rfl rfl (one_cons rfl (one_cons rfl (one_cons rfl one_nil))) rfl) (fun v w a hR hF => ?_)
            have hS : St e s9 w [pt g3 33 ([(.int .i64 ((rd x3.Waits x1).Tx)), (.int .i64 ((rd x3.Waits x1).Res)), (.int .i64 ((rd x3.Waits x1).Mode))]), pt g1 26 ([v1, v2])] := hR
            refine nilN ?_
            refine xn ?_
            refine sq ?_
            refine rg ?_
            refine stp hF (p_ldb_agg (i := 0) (l := []) (m := [(.int .i64 ((rd x3.Waits x1).Tx)), (.int .i64 ((rd x3.Waits x1).Res)), (.int .i64 ((rd x3.Waits x1).Mode))]) (r := []) hS rfl rfl ia_33 ti_33 rfl rfl rfl) (by decide) (fun a hF => ?_)
            obtain ⟨x4, hx3, H⟩ := hb H
            refine ste hF (e_call (fst := []) (vs := [(.agg #[(.int .i64 ((rd x3.Waits x1).Tx)), (.int .i64 ((rd x3.Waits x1).Res)), (.int .i64 ((rd x3.Waits x1).Mode))])]) (cap := []) rfl rfl go_32 (St.call (A := []) (B := [pt g3 33 ([(.int .i64 ((rd x3.Waits x1).Tx)), (.int .i64 ((rd x3.Waits x1).Res)), (.int .i64 ((rd x3.Waits x1).Mode))]), pt g1 26 ([v1, v2])]) hS (impl_grantOk.spec k2 _ _ (rd x3.Waits x1) _ hx3))) (by decide) (fun v w a hR hF => ?_)
            obtain ⟨s10, A4, hg8, hS, hR⟩ := hR
            obtain ⟨hv3, rfl⟩ := hR; obtain rfl := hv3.symm
            have hS : St e s10 w [pt g3 33 ([(.int .i64 ((rd x3.Waits x1).Tx)), (.int .i64 ((rd x3.Waits x1).Res)), (.int .i64 ((rd x3.Waits x1).Mode))]), pt g1 26 ([v1, v2])] := hS
            refine stp hF (p_not rfl) (by decide) (fun a hF => ?_)
            refine stp hF (p_move rfl) (by decide) (fun a hF => ?_)
            obtain ⟨x6, H, HK4⟩ := hb H
            refine cutj 7 (fun a w => ∃ (x2 : Bool) (s11 : HF) , St e s11 w [pt g3 33 ([(.int .i64 ((rd x3.Waits x1).Tx)), (.int .i64 ((rd x3.Waits x1).Res)), (.int .i64 ((rd x3.Waits x1).Mode))]), pt g1 26 ([v1, v2])] ∧ Fr 57 a [(1, (.pointer (some ⟨g1, 0, none⟩))), (38, v2), (39, (.int .i64 (x3.Waits.length : Int))), (40, (.int .i64 x1)), (55, (.bool x2))] ∧ Sub s10 s11 ∧ impl_LocksOk.c2 k2 (impl_LocksOk.l1 x3 k2) x1 x2 = some x7) rfl rfl ?_ ?_
            · rcases Bool.eq_false_or_eq_true ((!x4)) with hc7 | hc7
              · replace H := hbt hc7 H
                refine gofD (j := 3) hF rfl rfl (by rw [hc7]; decide) (by decide) (fun a hF => ?_)
                refine gofD (j := 3) hF rfl rfl (by rw [hc7]; decide) (by decide) (fun a hF => ?_)
                refine gofD (j := 3) hF rfl rfl (by rw [hc7]; decide) (by decide) (fun a hF => ?_)
                refine gofD (j := 3) hF rfl rfl (by rw [hc7]; decide) (by decide) (fun a hF => ?_)
                refine gofD (j := 3) hF rfl rfl (by rw [hc7]; decide) (by decide) (fun a hF => ?_)
                refine gofD (j := 3) hF rfl rfl (by rw [hc7]; decide) (by decide) (fun a hF => ?_)
                refine stp hF (p_pickT rfl hc7 rfl) (by decide) (fun a hF => ?_)
                refine nilN ?_
                refine xn ?_
                obtain rfl := hsm H
                exact ⟨true, s10, hS, hF.cut ⟨rfl, rfl, rfl, rfl, rfl, trivial⟩, (Sub.refl _), HK4⟩
              · replace H := hbf hc7 H
                refine gonE (j := 3) hF rfl rfl hc7 ?_
                refine stp hF (p_ldb_agg (i := 1) (l := []) (m := [v1, v2]) (r := []) hS rfl rfl ia_26 ti_26 rfl rfl rfl) (by decide) (fun a hF => ?_)
                refine gonE (j := 3) hF rfl rfl hc7 ?_
                refine stp hF (p_fldb (o' := 0) rfl fi_33_0 rfl) (by decide) (fun a hF => ?_)
                refine gonE (j := 3) hF rfl rfl hc7 ?_
                refine stp hF (p_ldb_one (i := 0) hS rfl rfl ia_3 rfl) (by decide) (fun a hF => ?_)
                obtain ⟨x5, hx4, H⟩ := hb H
                refine gonE (j := 3) hF rfl rfl hc7 ?_
                refine ste hF (e_call (fst := []) (vs := [(.agg #[v1, v2]), (.int .i64 ((rd x3.Waits x1).Tx))]) (cap := []) rfl rfl go_33 (St.call (A := []) (B := [pt g3 33 ([(.int .i64 ((rd x3.Waits x1).Tx)), (.int .i64 ((rd x3.Waits x1).Res)), (.int .i64 ((rd x3.Waits x1).Mode))]), pt g1 26 ([v1, v2])]) hS (impl_waitAt.spec k2 _ _ x3 ((rd x3.Waits x1).Tx) v1 v2 (((h1.mono hg6).mono hg7).mono hg8) (((h2.mono hg6).mono hg7).mono hg8) _ hx4))) (by decide) (fun v w a hR hF => ?_)
                obtain ⟨s12, A5, hg9, hS, hR⟩ := hR
                obtain ⟨hv4, rfl⟩ := hR; obtain rfl := hv4.symm
                have hS : St e s12 w [pt g3 33 ([(.int .i64 ((rd x3.Waits x1).Tx)), (.int .i64 ((rd x3.Waits x1).Res)), (.int .i64 ((rd x3.Waits x1).Mode))]), pt g1 26 ([v1, v2])] := hS
                refine gonE (j := 3) hF rfl rfl hc7 ?_
                refine stp hF (p_move rfl) (by decide) (fun a hF => ?_)
                refine gonE (j := 3) hF rfl rfl hc7 ?_
                refine stp hF (p_neq rfl rfl) (by decide) (fun a hF => ?_)
                refine stp hF (p_pickF rfl hc7 rfl) (by decide) (fun a hF => ?_)
                refine nilN ?_
                refine xn ?_
                obtain rfl := hsm H
                exact ⟨(decide (x5 ≠ x1)), s12, hS, hF.cut ⟨rfl, rfl, rfl, rfl, rfl, trivial⟩, hg9, HK4⟩
            · clear H HK4 hS hF
              rintro a w ⟨x2, s11, hS, hF, hg10, H⟩
              unfold impl_LocksOk.c2 at H
              refine nilN ?_
              refine xn ?_
              refine cnd hF rfl (fun hc8 => ?_) (fun hc8 => ?_)
              · replace H := hbt hc8 H
                refine sq ?_
                refine rg ?_
                refine stp hF (p_assign rfl) (by decide) (fun a hF => ?_)
                refine nilN ?_
                refine xn ?_
                refine rt ?_
                refine br (xr (xr (br (xr ?_))))
                obtain rfl := hsm H
                have H := hon1 HK3
                obtain rfl := hsm H
                replace hS := hS.sel (is := []) (A' := []) rfl
                exact ret1 hF rfl rfl hS ⟨rfl, rfl⟩
              · replace H := hbf hc8 H
                refine skN ?_
                refine bn (xn ?_)
                refine rg ?_
                refine stp hF (p_add (c := w64 (x1 + 1)) rfl rfl rfl) (by decide) (fun a hF => ?_)
                refine stp hF (p_move rfl) (by decide) (fun a hF => ?_)
                refine nilN ?_
                refine xn ?_
                replace hS := hS.sel (is := [1]) (A' := [pt g1 26 ([v1, v2])]) rfl
                exact ⟨(w64 (x1 + 1)), s11, hS, hF.cut ⟨rfl, rfl, rfl, rfl, trivial⟩, ((hg7.trans hg8).trans hg10), H⟩
          · replace H := hbf hc6 H
            refine exi ?_
            refine xe (xe (hit (xn ?_)))
            obtain rfl := hsm H
            exact ⟨s9, hS, hF.cut trivial, hg7, HK3⟩
      · clear H HK3 hS hF
        rintro a w ⟨s8, hS, hF, hg11, H⟩
        unfold impl_LocksOk.c1 at H
        refine sq ?_
        refine rg ?_
        refine stp hF (p_assign rfl) (by decide) (fun a hF => ?_)
        refine nilN ?_
        refine xn ?_
        refine rt ?_
        obtain rfl := hsm H
        replace hS := hS.sel (is := []) (A' := []) rfl
        exact ret1 hF rfl rfl hS ⟨rfl, rfl⟩

def impl_givenAt_1.f (k : Nat) (x1 : TGrant) (x2 : Int) (x3 : Int) : Option Bool :=
  (some ((decide (x1.Tx = x2)) && (decide (x1.Res = x3))))
set_option maxRecDepth 100000 in
set_option maxHeartbeats 4000000 in
theorem impl_givenAt_1.spec (k : Nat) (s0 : HF) (w : World) (x1 : TGrant) (x2 : Int) (x3 : Int) (ad1 : Addr) (ad2 : Addr) (h1 : Pr (Kd.int .i64) s0 ad1 x2) (h2 : Pr (Kd.int .i64) s0 ad2 x3) (r : Bool) (H : impl_givenAt_1.f k x1 x2 x3 = some r) :
    Law Try.prog 65 #[(.agg #[(.int .i64 x1.Tx), (.int .i64 x1.Res), (.int .i64 x1.Mode)]), (.pointer (some ad1)), (.pointer (some ad2))] s0 w [] (fun v s1 A1 => v = (.bool r) ∧ A1 = []) := by
  unfold impl_givenAt_1.f at H
  refine Law.intro Try.func65 rfl [(0, (.agg #[(.int .i64 x1.Tx), (.int .i64 x1.Res), (.int .i64 x1.Mode)])), (1, (.pointer (some ad1))), (2, (.pointer (some ad2)))] (Nat.le_of_ble_eq_true rfl) (enter_lk ⟨rfl, rfl, rfl, trivial⟩) (fun e a hS hF => ?_)
  have hF : Fr 15 a [(0, (.agg #[(.int .i64 x1.Tx), (.int .i64 x1.Res), (.int .i64 x1.Mode)])), (1, (.pointer (some ad1))), (2, (.pointer (some ad2)))] := hF
  refine sq ?_
  refine rg ?_
  refine ste hF (e_box (cs := [(.int .i64 x1.Tx), (.int .i64 x1.Res), (.int .i64 x1.Mode)]) hS rfl rfl) (by decide) (fun v w a hR hF => ?_)
  obtain ⟨g1, rfl, hS⟩ := hR
  refine stp hF (p_assign rfl) (by decide) (fun a hF => ?_)
  refine nilN ?_
  refine xn ?_
  refine sq ?_
  refine rg ?_
  refine stp hF (p_fldb (o' := 0) rfl fi_33_0 rfl) (by decide) (fun a hF => ?_)
  refine stp hF (p_ldb_one (i := 0) hS rfl rfl ia_3 rfl) (by decide) (fun a hF => ?_)
  refine stp hF (p_ldr_int rfl hS h1 ia_3) (by decide) (fun a hF => ?_)
  refine stp hF (p_eql rfl rfl) (by decide) (fun a hF => ?_)
  refine stp hF (p_move rfl) (by decide) (fun a hF => ?_)
  refine cutj 5 (fun a w => St e s0 w [pt g1 33 ([(.int .i64 x1.Tx), (.int .i64 x1.Res), (.int .i64 x1.Mode)])] ∧ Fr 15 a [(14, (.bool ((decide (x1.Tx = x2)) && (decide (x1.Res = x3)))))]) rfl rfl ?_ ?_
  · rcases Bool.eq_false_or_eq_true (decide (x1.Tx = x2)) with hc1 | hc1
    · skip
      refine gonE (j := 4) hF rfl rfl hc1 ?_
      refine stp hF (p_fldb (o' := 1) rfl fi_33_1 rfl) (by decide) (fun a hF => ?_)
      refine gonE (j := 4) hF rfl rfl hc1 ?_
      refine stp hF (p_ldb_one (i := 0) hS rfl rfl ia_3 rfl) (by decide) (fun a hF => ?_)
      refine gonE (j := 4) hF rfl rfl hc1 ?_
      refine stp hF (p_ldr_int rfl hS h2 ia_3) (by decide) (fun a hF => ?_)
      refine gonE (j := 4) hF rfl rfl hc1 ?_
      refine stp hF (p_eql rfl rfl) (by decide) (fun a hF => ?_)
      refine stp hF (p_andT rfl hc1 rfl) (by decide) (fun a hF => ?_)
      refine nilN ?_
      refine xn ?_
      exact ⟨hS, hF.cut ⟨rfl, trivial⟩⟩
    · skip
      refine gofD (j := 4) hF rfl rfl (by rw [hc1]; decide) (by decide) (fun a hF => ?_)
      refine gofD (j := 4) hF rfl rfl (by rw [hc1]; decide) (by decide) (fun a hF => ?_)
      refine gofD (j := 4) hF rfl rfl (by rw [hc1]; decide) (by decide) (fun a hF => ?_)
      refine gofD (j := 4) hF rfl rfl (by rw [hc1]; decide) (by decide) (fun a hF => ?_)
      refine stp hF (p_andF (decide (x1.Res = x3)) rfl hc1 rfl) (by decide) (fun a hF => ?_)
      refine nilN ?_
      refine xn ?_
      exact ⟨hS, hF.cut ⟨rfl, trivial⟩⟩
  clear hS hF
  rintro a w ⟨hS, hF⟩
  refine stp hF (p_assign rfl) (by decide) (fun a hF => ?_)
  refine nilN ?_
  refine xn ?_
  refine rt ?_
  obtain rfl := hsm H
  replace hS := hS.sel (is := []) (A' := []) rfl
  exact ret1 hF rfl rfl hS ⟨rfl, rfl⟩

def impl_Grant_63_165.c1 (k : Nat) : Option Int :=
  (some (-1))
def impl_Grant_63_165.l1 (x1 : (List TGrant)) (x2 : Int) (x3 : Int) : Nat → Int → Option (Ex Int Unit)
  | 0, _ => none
  | k + 1, x4 => (if (decide (x4 < (x1.length : Int))) = true then (if 0 ≤ x4 ∧ x4 < (x1.length : Int) then ((impl_givenAt_1.f k (rd x1 x4) x2 x3).bind fun x5 => (if x5 = true then (some (Ex.ret x4)) else ((impl_Grant_63_165.l1 x1 x2 x3 k) (w64 (x4 + 1))))) else none) else (some (Ex.go ())))
def impl_Grant_63_165.f (k : Nat) (x1 : (List TGrant)) (x2 : Int) (x3 : Int) : Option Int :=
  (((impl_Grant_63_165.l1 x1 x2 x3 k 0) : Option (Ex Int Unit)).bind fun x6 => Ex.on x6 (fun r => some r) (fun y => impl_Grant_63_165.c1 k))
set_option maxRecDepth 100000 in
set_option maxHeartbeats 4000000 in
theorem impl_Grant_63_165.spec (k : Nat) (s0 : HF) (w : World) (x1 : (List TGrant)) (x2 : Int) (x3 : Int) (v1 : Value) (ad1 : Addr) (ad2 : Addr) (h1 : Sl kTGrant s0 v1 x1) (h2 : Pr (Kd.int .i64) s0 ad1 x2) (h3 : Pr (Kd.int .i64) s0 ad2 x3) (r : Int) (H : impl_Grant_63_165.f k x1 x2 x3 = some r) :
    Law Try.prog 63 #[v1, (.func (.func 65) #[] #[(.pointer (some ad1)), (.pointer (some ad2))])] s0 w [] (fun v s1 A1 => v = (.int .i64 r) ∧ A1 = []) := by
  unfold impl_Grant_63_165.f at H
  refine Law.intro Try.func63 rfl [(0, v1), (1, (.func (.func 65) #[] #[(.pointer (some ad1)), (.pointer (some ad2))]))] (Nat.le_of_ble_eq_true rfl) (enter_lk ⟨rfl, rfl, trivial⟩) (fun e a hS hF => ?_)
  have hF : Fr 19 a [(0, v1), (1, (.func (.func 65) #[] #[(.pointer (some ad1)), (.pointer (some ad2))]))] := hF
  refine sq ?_
  refine rg ?_
  refine stp hF (p_assign rfl) (by decide) (fun a hF => ?_)
  refine nilN ?_
  refine xn ?_
  obtain ⟨x6, H, HK1⟩ := hb H
  refine sqj (fun a w => ∃ (s2 : HF) , St e s2 w [] ∧ Fr 19 a [] ∧ Sub s0 s2 ∧ impl_Grant_63_165.c1 k = some r) ?_ ?_
  · skip
    refine sq ?_
    refine rg ?_
    refine stp hF (p_move rfl) (by decide) (fun a hF => ?_)
    refine stp hF (p_lenr un_24 rfl h1) (by decide) (fun a hF => ?_)
    refine stp hF (p_move rfl) (by decide) (fun a hF => ?_)
    refine nilN ?_
    refine xn ?_
    refine blk ?_
    refine loop_ind (fun k1 a w => ∃ (x4 : Int) (s3 : HF) , St e s3 w [] ∧ Fr 19 a [(0, v1), (1, (.func (.func 65) #[] #[(.pointer (some ad1)), (.pointer (some ad2))])), (7, (.int .i64 (x1.length : Int))), (8, (.int .i64 x4))] ∧ Sub s0 s3 ∧ impl_Grant_63_165.l1 x1 x2 x3 k1 x4 = some x6) k ?_ ?_ ?_
    · skip
      exact ⟨0, s0, hS, hF.cut ⟨rfl, rfl, rfl, rfl, trivial⟩, (Sub.refl _), H⟩
    · clear H hS hF
      rintro a w ⟨x4, s3, hS, hF, hg1, H⟩
      exact absurd (show none = some _ from H) (by simp)
    · clear H hS hF
      rintro k1 a w ⟨x4, s3, hS, hF, hg1, H⟩
      rw [impl_Grant_63_165.l1.eq_2] at H
      refine sq ?_
      refine rg ?_
      refine stp hF (p_lss rfl rfl) (by decide) (fun a hF => ?_)
      refine nilN ?_
      refine xn ?_
      refine sq ?_
      refine cnd hF rfl (fun hc1 => ?_) (fun hc1 => ?_)
      · replace H := hbt hc1 H
        refine skN ?_
        refine xn ?_
        refine sq ?_
        refine blk ?_
        refine sq ?_
        refine rg ?_
        refine stp hF (p_move rfl) (by decide) (fun a hF => ?_)
        refine stp hF (p_assign rfl) (by decide) (fun a hF => ?_)
        refine nilN ?_
        refine xn ?_
        refine sq ?_
        refine rg ?_
        refine stp hF (p_move rfl) (by decide) (fun a hF => ?_)
        refine stp hF (p_move rfl) (by decide) (fun a hF => ?_)
        refine stp hF (p_move rfl) (by decide) (fun a hF => ?_)
        obtain ⟨hq1, H⟩ := hck H
        obtain ⟨ad3, h4, p1⟩ := p_idxr (P := Try.prog) (i := x4) (h1.mono hg1) un_24 ti_33 hq1.1 hq1.2
        refine stp hF (p1 rfl rfl) (by decide) (fun a hF => ?_)
        obtain ⟨c2, h5, p2⟩ := p_ldr_agg (P := Try.prog) h4 ia_33 ti_33
        obtain rfl := kTGrant_open h5
        refine stp hF (p2 rfl hS.ro) (by decide) (fun a hF => ?_)
        obtain ⟨x5, hx1, H⟩ := hb H
        refine ste hF (e_call (fst := []) (vs := [(.agg #[(.int .i64 ((rd x1 x4).Tx)), (.int .i64 ((rd x1 x4).Res)), (.int .i64 ((rd x1 x4).Mode))])]) (cap := [(.pointer (some ad1)), (.pointer (some ad2))]) rfl rfl go_65 (St.call (A := []) (B := []) hS (impl_givenAt_1.spec k1 _ _ (rd x1 x4) x2 x3 ad1 ad2 (h2.mono hg1) (h3.mono hg1) _ hx1))) (by decide) (fun v w a hR hF => ?_)
        obtain ⟨s4, A2, hg2, hS, hR⟩ := hR
        obtain ⟨hv1, rfl⟩ := hR; obtain rfl := hv1.symm
        have hS : St e s4 w [] := hS
        refine nilN ?_
        refine xn ?_
        refine cnd hF rfl (fun hc2 => ?_) (fun hc2 => ?_)
        · replace H := hbt hc2 H
          refine sq ?_
          refine rg ?_
          refine stp hF (p_move rfl) (by decide) (fun a hF => ?_)
          refine stp hF (p_assign rfl) (by decide) (fun a hF => ?_)
          refine nilN ?_
          refine xn ?_
          refine rt ?_
          refine br (xr (xr (br (xr ?_))))
          obtain rfl := hsm H
          have H := hon1 HK1
          obtain rfl := hsm H
          exact ret1 hF rfl rfl hS ⟨rfl, rfl⟩
        · replace H := hbf hc2 H
          refine skN ?_
          refine bn (xn ?_)
          refine rg ?_
          refine stp hF (p_add (c := w64 (x4 + 1)) rfl rfl rfl) (by decide) (fun a hF => ?_)
          refine stp hF (p_move rfl) (by decide) (fun a hF => ?_)
          refine nilN ?_
          refine xn ?_
          exact ⟨(w64 (x4 + 1)), s4, hS, hF.cut ⟨rfl, rfl, rfl, rfl, trivial⟩, (hg1.trans hg2), H⟩
      · replace H := hbf hc1 H
        refine exi ?_
        refine xe (xe (hit (xn ?_)))
        obtain rfl := hsm H
        exact ⟨s3, hS, hF.cut trivial, hg1, HK1⟩
  · clear H HK1 hS hF
    rintro a w ⟨s2, hS, hF, hg3, H⟩
    unfold impl_Grant_63_165.c1 at H
    refine sq ?_
    refine rg ?_
    refine stp hF (p_assign rfl) (by decide) (fun a hF => ?_)
    refine nilN ?_
    refine xn ?_
    refine rt ?_
    obtain rfl := hsm H
    exact ret1 hF rfl rfl hS ⟨rfl, rfl⟩

def impl_givenAt.f (k : Nat) (x1 : TLocks) (x2 : Int) (x3 : Int) : Option Int :=
  ((impl_Grant_63_165.f k x1.Given x2 x3).bind fun x4 => (some x4))
set_option maxRecDepth 100000 in
set_option maxHeartbeats 4000000 in
theorem impl_givenAt.spec (k : Nat) (s0 : HF) (w : World) (x1 : TLocks) (x2 : Int) (x3 : Int) (v1 : Value) (v2 : Value) (h1 : Sl kTGrant s0 v1 x1.Given) (r : Int) (H : impl_givenAt.f k x1 x2 x3 = some r) :
    Law Try.prog 35 #[(.agg #[v1, v2]), (.int .i64 x2), (.int .i64 x3)] s0 w [] (fun v s1 A1 => v = (.int .i64 r) ∧ A1 = []) := by
  unfold impl_givenAt.f at H
  refine Law.intro Try.func35 rfl [(0, (.agg #[v1, v2])), (1, (.int .i64 x2)), (2, (.int .i64 x3))] (Nat.le_of_ble_eq_true rfl) (enter_lk ⟨rfl, rfl, rfl, trivial⟩) (fun e a hS hF => ?_)
  have hF : Fr 11 a [(0, (.agg #[v1, v2])), (1, (.int .i64 x2)), (2, (.int .i64 x3))] := hF
  refine sq ?_
  refine rg ?_
  refine ste hF (e_box (cs := [v1, v2]) hS rfl rfl) (by decide) (fun v w a hR hF => ?_)
  obtain ⟨g1, rfl, hS⟩ := hR
  refine ste hF (e_box (cs := [(.int .i64 x2)]) hS rfl rfl) (by decide) (fun v w a hR hF => ?_)
  obtain ⟨g2, rfl, hS⟩ := hR
  refine ste hF (e_box (cs := [(.int .i64 x3)]) hS rfl rfl) (by decide) (fun v w a hR hF => ?_)
  obtain ⟨g3, rfl, hS⟩ := hR
  refine stp hF (p_assign rfl) (by decide) (fun a hF => ?_)
  refine nilN ?_
  refine xn ?_
  refine sq ?_
  refine rg ?_
  refine stp hF (p_fldb (o' := 0) rfl fi_26_0 rfl) (by decide) (fun a hF => ?_)
  refine stp hF (p_ldb_one (i := 2) hS rfl rfl ia_24 rfl) (by decide) (fun a hF => ?_)
  obtain ⟨s2, hg1, h2, hS⟩ := hS.freezeB (i := 1) (g := g2) (T := 3) (cs := [(.int .i64 x2)]) (B := [pt g3 3 ([(.int .i64 x3)]), pt g1 26 ([v1, v2])]) rfl
  have h3 : Pr (Kd.int .i64) s2 ⟨g2, 0, none⟩ x2 := Pr.box h2 (by exact rfl)
  obtain ⟨s3, hg2, h4, hS⟩ := hS.freezeB (i := 0) (g := g3) (T := 3) (cs := [(.int .i64 x3)]) (B := [pt g1 26 ([v1, v2])]) rfl
  have h5 : Pr (Kd.int .i64) s3 ⟨g3, 0, none⟩ x3 := Pr.box h4 (by exact rfl)
  refine stp hF (p_makefunc (fs := []) (cs := [(.tmp 4), (.tmp 5)]) rfl rfl) (by decide) (fun a hF => ?_)
  obtain ⟨x4, hx1, H⟩ := hb H
  refine ste hF (e_call (fst := []) (vs := [v1, (.func (.func 65) #[] #[(.pointer (some (⟨g2, 0, none⟩ : Addr))), (.pointer (some (⟨g3, 0, none⟩ : Addr)))])]) (cap := []) rfl rfl go_63 (St.call (A := []) (B := [pt g1 26 ([v1, v2])]) hS (impl_Grant_63_165.spec k _ _ x1.Given x2 x3 v1 (⟨g2, 0, none⟩ : Addr) (⟨g3, 0, none⟩ : Addr) ((h1.mono hg1).mono hg2) (h3.mono hg2) h5 _ hx1))) (by decide) (fun v w a hR hF => ?_)
  obtain ⟨s4, A2, hg3, hS, hR⟩ := hR
  obtain ⟨hv1, rfl⟩ := hR; obtain rfl := hv1.symm
  have hS : St e s4 w [pt g1 26 ([v1, v2])] := hS
  refine stp hF (p_assign rfl) (by decide) (fun a hF => ?_)
  refine nilN ?_
  refine xn ?_
  refine rt ?_
  obtain rfl := hsm H
  replace hS := hS.sel (is := []) (A' := []) rfl
  exact ret1 hF rfl rfl hS ⟨rfl, rfl⟩

def impl_Both.c1 (k : Nat) (x1 : Int) (x2 : Int) (x3 : Bool) : Option Int :=
  (if x3 = true then (some 0) else (if ((decide (x1 = x2)) || (decide (x2 = 1))) = true then (some x1) else (if (decide (x1 = 1)) = true then (some x2) else (some 4))))
def impl_Both.f (k : Nat) (x1 : Int) (x2 : Int) : Option Int :=
  ((impl_isMode.f k x1).bind fun x4 => ((if (!x4) = true then (some true) else ((impl_isMode.f k x2).bind fun x5 => (some (!x5))) : Option Bool).bind fun x6 => impl_Both.c1 k x1 x2 x6))
set_option maxRecDepth 100000 in
set_option maxHeartbeats 4000000 in
theorem impl_Both.spec (k : Nat) (s0 : HF) (w : World) (x1 : Int) (x2 : Int) (r : Int) (H : impl_Both.f k x1 x2 = some r) :
    Law Try.prog 11 #[(.int .i64 x1), (.int .i64 x2)] s0 w [] (fun v s1 A1 => v = (.int .i64 r) ∧ A1 = []) := by
  unfold impl_Both.f at H
  refine Law.intro Try.func11 rfl [(0, (.int .i64 x1)), (1, (.int .i64 x2))] (Nat.le_of_ble_eq_true rfl) (enter_lk ⟨rfl, rfl, trivial⟩) (fun e a hS hF => ?_)
  have hF : Fr 27 a [(0, (.int .i64 x1)), (1, (.int .i64 x2))] := hF
  refine sq ?_
  refine rg ?_
  refine stp hF (p_assign rfl) (by decide) (fun a hF => ?_)
  refine nilN ?_
  refine xn ?_
  refine sq ?_
  refine blk ?_
  refine sq ?_
  refine rg ?_
  refine stp hF (p_move rfl) (by decide) (fun a hF => ?_)
  obtain ⟨x4, hx1, H⟩ := hb H
  refine ste hF (e_call (fst := []) (vs := [(.int .i64 x1)]) (cap := []) rfl rfl go_47 (St.call (A := []) (B := []) hS (impl_isMode.spec k _ _ x1 _ hx1))) (by decide) (fun v w a hR hF => ?_)
  obtain ⟨s2, A2, hg1, hS, hR⟩ := hR
  obtain ⟨hv1, rfl⟩ := hR; obtain rfl := hv1.symm
  have hS : St e s2 w [] := hS
  refine stp hF (p_not rfl) (by decide) (fun a hF => ?_)
  refine stp hF (p_move rfl) (by decide) (fun a hF => ?_)
  obtain ⟨x6, H, HK1⟩ := hb H
  refine cutj 4 (fun a w => ∃ (x3 : Bool) (s3 : HF) , St e s3 w [] ∧ Fr 27 a [(0, (.int .i64 x1)), (1, (.int .i64 x2)), (13, (.bool x3))] ∧ Sub s2 s3 ∧ impl_Both.c1 k x1 x2 x3 = some r) rfl rfl ?_ ?_
  · rcases Bool.eq_false_or_eq_true ((!x4)) with hc1 | hc1
    · replace H := hbt hc1 H
      refine gofD (j := 3) hF rfl rfl (by rw [hc1]; decide) (by decide) (fun a hF => ?_)
      refine gofD (j := 3) hF rfl rfl (by rw [hc1]; decide) (by decide) (fun a hF => ?_)
      refine gofD (j := 3) hF rfl rfl (by rw [hc1]; decide) (by decide) (fun a hF => ?_)
      refine stp hF (p_pickT rfl hc1 rfl) (by decide) (fun a hF => ?_)
      refine nilN ?_
      refine xn ?_
      obtain rfl := hsm H
      exact ⟨true, s2, hS, hF.cut ⟨rfl, rfl, rfl, trivial⟩, (Sub.refl _), HK1⟩
    · replace H := hbf hc1 H
      refine gonE (j := 3) hF rfl rfl hc1 ?_
      refine stp hF (p_move rfl) (by decide) (fun a hF => ?_)
      obtain ⟨x5, hx2, H⟩ := hb H
      refine gonE (j := 3) hF rfl rfl hc1 ?_
      refine ste hF (e_call (fst := []) (vs := [(.int .i64 x2)]) (cap := []) rfl rfl go_47 (St.call (A := []) (B := []) hS (impl_isMode.spec k _ _ x2 _ hx2))) (by decide) (fun v w a hR hF => ?_)
      obtain ⟨s4, A3, hg2, hS, hR⟩ := hR
      obtain ⟨hv2, rfl⟩ := hR; obtain rfl := hv2.symm
      have hS : St e s4 w [] := hS
      refine gonE (j := 3) hF rfl rfl hc1 ?_
      refine stp hF (p_not rfl) (by decide) (fun a hF => ?_)
      refine stp hF (p_pickF rfl hc1 rfl) (by decide) (fun a hF => ?_)
      refine nilN ?_
      refine xn ?_
      obtain rfl := hsm H
      exact ⟨(!x5), s4, hS, hF.cut ⟨rfl, rfl, rfl, trivial⟩, hg2, HK1⟩
  · clear H HK1 hS hF
    rintro a w ⟨x3, s3, hS, hF, hg3, H⟩
    unfold impl_Both.c1 at H
    refine stp hF (p_assign rfl) (by decide) (fun a hF => ?_)
    refine nilN ?_
    refine xn ?_
    refine cnd hF rfl (fun hc2 => ?_) (fun hc2 => ?_)
    · replace H := hbt hc2 H
      refine sq ?_
      refine rg ?_
      refine stp hF (p_assign rfl) (by decide) (fun a hF => ?_)
      refine nilN ?_
      refine xn ?_
      refine rt ?_
      refine br (xr ?_)
      obtain rfl := hsm H
      exact ret1 hF rfl rfl hS ⟨rfl, rfl⟩
    · replace H := hbf hc2 H
      refine sq ?_
      refine rg ?_
      refine stp hF (p_move rfl) (by decide) (fun a hF => ?_)
      refine stp hF (p_move rfl) (by decide) (fun a hF => ?_)
      refine stp hF (p_eql rfl rfl) (by decide) (fun a hF => ?_)
      refine stp hF (p_move rfl) (by decide) (fun a hF => ?_)
      refine cutj 3 (fun a w => St e s3 w [] ∧ Fr 27 a [(0, (.int .i64 x1)), (1, (.int .i64 x2)), (21, (.bool ((decide (x1 = x2)) || (decide (x2 = 1)))))]) rfl rfl ?_ ?_
      · rcases Bool.eq_false_or_eq_true (decide (x1 = x2)) with hc3 | hc3
        · skip
          refine gofD (j := 3) hF rfl rfl (by rw [hc3]; decide) (by decide) (fun a hF => ?_)
          refine gofD (j := 3) hF rfl rfl (by rw [hc3]; decide) (by decide) (fun a hF => ?_)
          refine stp hF (p_orT (decide (x2 = 1)) rfl hc3 rfl) (by decide) (fun a hF => ?_)
          refine nilN ?_
          refine xn ?_
          exact ⟨hS, hF.cut ⟨rfl, rfl, rfl, trivial⟩⟩
        · skip
          refine gonE (j := 3) hF rfl rfl hc3 ?_
          refine stp hF (p_move rfl) (by decide) (fun a hF => ?_)
          refine gonE (j := 3) hF rfl rfl hc3 ?_
          refine stp hF (p_eql rfl rfl) (by decide) (fun a hF => ?_)
          refine stp hF (p_orF rfl hc3 rfl) (by decide) (fun a hF => ?_)
          refine nilN ?_
          refine xn ?_
          exact ⟨hS, hF.cut ⟨rfl, rfl, rfl, trivial⟩⟩
      clear hS hF
      rintro a w ⟨hS, hF⟩
      refine stp hF (p_assign rfl) (by decide) (fun a hF => ?_)
      refine nilN ?_
      refine xn ?_
      refine cnd hF rfl (fun hc4 => ?_) (fun hc4 => ?_)
      · replace H := hbt hc4 H
        refine sq ?_
        refine rg ?_
        refine stp hF (p_move rfl) (by decide) (fun a hF => ?_)
        refine stp hF (p_assign rfl) (by decide) (fun a hF => ?_)
        refine nilN ?_
        refine xn ?_
        refine rt ?_
        refine br (xr ?_)
        obtain rfl := hsm H
        exact ret1 hF rfl rfl hS ⟨rfl, rfl⟩
      · replace H := hbf hc4 H
        refine sq ?_
        refine rg ?_
        refine stp hF (p_move rfl) (by decide) (fun a hF => ?_)
        refine stp hF (p_eql rfl rfl) (by decide) (fun a hF => ?_)
        refine stp hF (p_assign rfl) (by decide) (fun a hF => ?_)
        refine nilN ?_
        refine xn ?_
        refine cnd hF rfl (fun hc5 => ?_) (fun hc5 => ?_)
        · replace H := hbt hc5 H
          refine sq ?_
          refine rg ?_
          refine stp hF (p_move rfl) (by decide) (fun a hF => ?_)
          refine stp hF (p_assign rfl) (by decide) (fun a hF => ?_)
          refine nilN ?_
          refine xn ?_
          refine rt ?_
          refine br (xr ?_)
          obtain rfl := hsm H
          exact ret1 hF rfl rfl hS ⟨rfl, rfl⟩
        · replace H := hbf hc5 H
          refine skN ?_
          refine bn (xn ?_)
          refine sq ?_
          refine rg ?_
          refine stp hF (p_assign rfl) (by decide) (fun a hF => ?_)
          refine nilN ?_
          refine xn ?_
          refine rt ?_
          obtain rfl := hsm H
          exact ret1 hF rfl rfl hS ⟨rfl, rfl⟩

def impl_would.f (k : Nat) (x1 : TLocks) (x2 : TGrant) : Option Int :=
  ((impl_givenAt.f k (⟨x1.Given, []⟩ : TLocks) x2.Tx x2.Res).bind fun x3 => (if (decide (0 ≤ x3)) = true then (if 0 ≤ x3 ∧ x3 < (x1.Given.length : Int) then ((impl_Both.f k x2.Mode ((rd x1.Given x3).Mode)).bind fun x4 => (some x4)) else none) else (some x2.Mode)))
set_option maxRecDepth 100000 in
set_option maxHeartbeats 4000000 in
theorem impl_would.spec (k : Nat) (s0 : HF) (w : World) (x1 : TLocks) (x2 : TGrant) (v1 : Value) (v2 : Value) (h1 : Sl kTGrant s0 v1 x1.Given) (r : Int) (H : impl_would.f k x1 x2 = some r) :
    Law Try.prog 34 #[(.agg #[v1, v2]), (.agg #[(.int .i64 x2.Tx), (.int .i64 x2.Res), (.int .i64 x2.Mode)])] s0 w [] (fun v s1 A1 => v = (.int .i64 r) ∧ A1 = []) := by
  unfold impl_would.f at H
  refine Law.intro Try.func34 rfl [(0, (.agg #[v1, v2])), (1, (.agg #[(.int .i64 x2.Tx), (.int .i64 x2.Res), (.int .i64 x2.Mode)]))] (Nat.le_of_ble_eq_true rfl) (enter_lk ⟨rfl, rfl, trivial⟩) (fun e a hS hF => ?_)
  have hF : Fr 25 a [(0, (.agg #[v1, v2])), (1, (.agg #[(.int .i64 x2.Tx), (.int .i64 x2.Res), (.int .i64 x2.Mode)]))] := hF
  refine sq ?_
  refine rg ?_
  refine ste hF (e_box (cs := [v1, v2]) hS rfl rfl) (by decide) (fun v w a hR hF => ?_)
  obtain ⟨g1, rfl, hS⟩ := hR
  refine ste hF (e_box (cs := [(.int .i64 x2.Tx), (.int .i64 x2.Res), (.int .i64 x2.Mode)]) hS rfl rfl) (by decide) (fun v w a hR hF => ?_)
  obtain ⟨g2, rfl, hS⟩ := hR
  refine stp hF (p_assign rfl) (by decide) (fun a hF => ?_)
  refine nilN ?_
  refine xn ?_
  refine sq ?_
  refine sq ?_
  refine rg ?_
  refine stp hF (p_ldb_agg (i := 1) (l := []) (m := [v1, v2]) (r := []) hS rfl rfl ia_26 ti_26 rfl rfl rfl) (by decide) (fun a hF => ?_)
  refine stp hF (p_fldb (o' := 0) rfl fi_33_0 rfl) (by decide) (fun a hF => ?_)
  refine stp hF (p_ldb_one (i := 0) hS rfl rfl ia_3 rfl) (by decide) (fun a hF => ?_)
  refine stp hF (p_fldb (o' := 1) rfl fi_33_1 rfl) (by decide) (fun a hF => ?_)
  refine stp hF (p_ldb_one (i := 0) hS rfl rfl ia_3 rfl) (by decide) (fun a hF => ?_)
  obtain ⟨x3, hx1, H⟩ := hb H
  refine ste hF (e_call (fst := []) (vs := [(.agg #[v1, v2]), (.int .i64 x2.Tx), (.int .i64 x2.Res)]) (cap := []) rfl rfl go_35 (St.call (A := []) (B := [pt g2 33 ([(.int .i64 x2.Tx), (.int .i64 x2.Res), (.int .i64 x2.Mode)]), pt g1 26 ([v1, v2])]) hS (impl_givenAt.spec k _ _ (⟨x1.Given, []⟩ : TLocks) x2.Tx x2.Res v1 v2 h1 _ hx1))) (by decide) (fun v w a hR hF => ?_)
  obtain ⟨s2, A2, hg1, hS, hR⟩ := hR
  obtain ⟨hv1, rfl⟩ := hR; obtain rfl := hv1.symm
  have hS : St e s2 w [pt g2 33 ([(.int .i64 x2.Tx), (.int .i64 x2.Res), (.int .i64 x2.Mode)]), pt g1 26 ([v1, v2])] := hS
  refine stp hF (p_assign rfl) (by decide) (fun a hF => ?_)
  refine nilN ?_
  refine xn ?_
  refine sq ?_
  refine rg ?_
  refine stp hF (p_move rfl) (by decide) (fun a hF => ?_)
  refine stp hF (p_geq rfl rfl) (by decide) (fun a hF => ?_)
  refine nilN ?_
  refine xn ?_
  refine cnd hF rfl (fun hc1 => ?_) (fun hc1 => ?_)
  · replace H := hbt hc1 H
    refine sq ?_
    replace hS : St e s2 w.drew [pt g2 33 ([(.int .i64 x2.Tx), (.int .i64 x2.Res), (.int .i64 x2.Mode)]), pt g1 26 ([v1, v2])] := hS.drewN 1
    refine drw [0, 1, 2, 3, 4, 5, 6, 7, 8, 9] mixed (by kernel_rfl) (by decide) (hF.cut (L' := [(0, (.agg #[v1, v2])), (1, (.agg #[(.int .i64 x2.Tx), (.int .i64 x2.Res), (.int .i64 x2.Mode)])), (2, (.pointer (some ⟨g1, 0, none⟩))), (3, (.pointer (some ⟨g2, 0, none⟩))), (4, (.int .i64 0)), (5, (.int .i64 x3)), (6, (.agg #[v1, v2])), (7, (.pointer (some ⟨g2, 0, none⟩))), (8, (.int .i64 x2.Tx)), (9, (.pointer (some ⟨g2, 1, none⟩))), (10, (.int .i64 x2.Res)), (11, (.int .i64 x3)), (12, (.int .i64 x3)), (13, (.bool (decide (0 ≤ x3))))]) ⟨rfl, rfl, rfl, rfl, rfl, rfl, rfl, rfl, rfl, rfl, rfl, rfl, rfl, rfl, trivial⟩) ?_
    clear hF
    generalize w.drew = w at hS ⊢
    refine pk1 rfl (by decide) rfl (by kernel_rfl) rfl (p_fldb (o' := 2) rfl fi_33_2 rfl) ?_
    refine pk1 rfl (by decide) rfl (by kernel_rfl) rfl (p_ldb_one (i := 0) hS rfl rfl ia_3 rfl) ?_
    refine pk1 rfl (by decide) rfl (by kernel_rfl) rfl (p_fldb (o' := 0) rfl fi_26_0 rfl) ?_
    refine pk1 rfl (by decide) rfl (by kernel_rfl) rfl (p_ldb_one (i := 1) hS rfl rfl ia_24 rfl) ?_
    refine pk1 rfl (by decide) rfl (by kernel_rfl) rfl (p_move rfl) ?_
    obtain ⟨hq1, H⟩ := hck H
    obtain ⟨ad1, h2, p1⟩ := p_idxr (P := Try.prog) (i := x3) (h1.mono hg1) un_24 ti_33 hq1.1 hq1.2
    refine pk1 rfl (by decide) rfl (by kernel_rfl) rfl (p1 rfl rfl) ?_
    have h3 : Pr (Kd.int .i64) s2 (ad1.add 2) ((rd x1.Given x3).Mode) := h2.lens kTGrant_Mode
    refine pk1 rfl (by decide) rfl (by kernel_rfl) rfl (p_fld rfl fi_33_2) ?_
    refine pk1 rfl (by decide) rfl (by kernel_rfl) rfl (p_ldr_int rfl hS h3 ia_3) ?_
    obtain ⟨x4, hx2, H⟩ := hb H
    refine pkE [6, 5, 4, 3, 2, 0] rfl (by decide) (by kernel_rfl) (by kernel_rfl) (e_call (fst := []) (vs := [(.int .i64 x2.Mode), (.int .i64 ((rd x1.Given x3).Mode))]) (cap := []) rfl rfl go_11 (St.call (A := []) (B := [pt g2 33 ([(.int .i64 x2.Tx), (.int .i64 x2.Res), (.int .i64 x2.Mode)]), pt g1 26 ([v1, v2])]) hS (impl_Both.spec k _ _ x2.Mode ((rd x1.Given x3).Mode) _ hx2))) ?_
    intro v w hR
    obtain ⟨s3, A3, hg2, hS, hR⟩ := hR
    obtain ⟨hv2, rfl⟩ := hR; obtain rfl := hv2.symm
    have hS : St e s3 w [pt g2 33 ([(.int .i64 x2.Tx), (.int .i64 x2.Res), (.int .i64 x2.Mode)]), pt g1 26 ([v1, v2])] := hS
    refine ⟨⟨knw rfl rfl rfl (p_fld rfl fi_33_2), ⟨knw rfl rfl rfl (p1 rfl rfl), ⟨knw rfl rfl rfl (p_move rfl), ⟨knw rfl rfl rfl (p_ldb_one (i := 1) hS rfl rfl ia_24 rfl), ⟨knw rfl rfl rfl (p_fldb (o' := 0) rfl fi_26_0 rfl), ⟨knw rfl rfl rfl (p_fldb (o' := 2) rfl fi_33_2 rfl), trivial⟩⟩⟩⟩⟩⟩, ?_⟩
    refine pkE [] rfl (by decide) (by kernel_rfl) (by kernel_rfl) (puEf (p_assign rfl)) ?_
    rintro v w' ⟨rfl, rfl⟩
    refine ⟨trivial, ?_⟩
    refine pkF (fun a hF => ?_)
    refine xn ?_
    refine rt ?_
    refine xr ?_
    obtain rfl := hsm H
    replace hS := hS.sel (is := []) (A' := []) rfl
    exact ret1 hF rfl rfl hS ⟨rfl, rfl⟩
  · replace H := hbf hc1 H
    refine skN ?_
    refine xn ?_
    refine sq ?_
    refine rg ?_
    refine stp hF (p_fldb (o' := 2) rfl fi_33_2 rfl) (by decide) (fun a hF => ?_)
    refine stp hF (p_ldb_one (i := 0) hS rfl rfl ia_3 rfl) (by decide) (fun a hF => ?_)
    refine stp hF (p_assign rfl) (by decide) (fun a hF => ?_)
    refine nilN ?_
    refine xn ?_
    refine rt ?_
    obtain rfl := hsm H
    replace hS := hS.sel (is := []) (A' := []) rfl
    exact ret1 hF rfl rfl hS ⟨rfl, rfl⟩

def impl_Ask_1.f (k : Nat) (x1 : TGrant) (x2 : Int) : Option Bool :=
  (some (decide (x1.Res = x2)))
set_option maxRecDepth 100000 in
set_option maxHeartbeats 4000000 in
theorem impl_Ask_1.spec (k : Nat) (s0 : HF) (w : World) (x1 : TGrant) (x2 : Int) (ad1 : Addr) (h1 : Pr (Kd.int .i64) s0 ad1 x2) (r : Bool) (H : impl_Ask_1.f k x1 x2 = some r) :
    Law Try.prog 37 #[(.agg #[(.int .i64 x1.Tx), (.int .i64 x1.Res), (.int .i64 x1.Mode)]), (.pointer (some ad1))] s0 w [] (fun v s1 A1 => v = (.bool r) ∧ A1 = []) := by
  unfold impl_Ask_1.f at H
  refine Law.intro Try.func37 rfl [(0, (.agg #[(.int .i64 x1.Tx), (.int .i64 x1.Res), (.int .i64 x1.Mode)])), (1, (.pointer (some ad1)))] (Nat.le_of_ble_eq_true rfl) (enter_lk ⟨rfl, rfl, trivial⟩) (fun e a hS hF => ?_)
  have hF : Fr 8 a [(0, (.agg #[(.int .i64 x1.Tx), (.int .i64 x1.Res), (.int .i64 x1.Mode)])), (1, (.pointer (some ad1)))] := hF
  refine sq ?_
  refine rg ?_
  refine ste hF (e_box (cs := [(.int .i64 x1.Tx), (.int .i64 x1.Res), (.int .i64 x1.Mode)]) hS rfl rfl) (by decide) (fun v w a hR hF => ?_)
  obtain ⟨g1, rfl, hS⟩ := hR
  refine stp hF (p_assign rfl) (by decide) (fun a hF => ?_)
  refine nilN ?_
  refine xn ?_
  refine sq ?_
  refine rg ?_
  refine stp hF (p_fldb (o' := 1) rfl fi_33_1 rfl) (by decide) (fun a hF => ?_)
  refine stp hF (p_ldb_one (i := 0) hS rfl rfl ia_3 rfl) (by decide) (fun a hF => ?_)
  refine stp hF (p_ldr_int rfl hS h1 ia_3) (by decide) (fun a hF => ?_)
  refine stp hF (p_eql rfl rfl) (by decide) (fun a hF => ?_)
  refine stp hF (p_assign rfl) (by decide) (fun a hF => ?_)
  refine nilN ?_
  refine xn ?_
  refine rt ?_
  obtain rfl := hsm H
  replace hS := hS.sel (is := []) (A' := []) rfl
  exact ret1 hF rfl rfl hS ⟨rfl, rfl⟩

def impl_Grant_63_137.c1 (k : Nat) : Option Int :=
  (some (-1))
def impl_Grant_63_137.l1 (x1 : (List TGrant)) (x2 : Int) : Nat → Int → Option (Ex Int Unit)
  | 0, _ => none
  | k + 1, x3 => (if (decide (x3 < (x1.length : Int))) = true then (if 0 ≤ x3 ∧ x3 < (x1.length : Int) then ((impl_Ask_1.f k (rd x1 x3) x2).bind fun x4 => (if x4 = true then (some (Ex.ret x3)) else ((impl_Grant_63_137.l1 x1 x2 k) (w64 (x3 + 1))))) else none) else (some (Ex.go ())))
def impl_Grant_63_137.f (k : Nat) (x1 : (List TGrant)) (x2 : Int) : Option Int :=
  (((impl_Grant_63_137.l1 x1 x2 k 0) : Option (Ex Int Unit)).bind fun x5 => Ex.on x5 (fun r => some r) (fun y => impl_Grant_63_137.c1 k))
set_option maxRecDepth 100000 in
set_option maxHeartbeats 4000000 in
theorem impl_Grant_63_137.spec (k : Nat) (s0 : HF) (w : World) (x1 : (List TGrant)) (x2 : Int) (v1 : Value) (ad1 : Addr) (h1 : Sl kTGrant s0 v1 x1) (h2 : Pr (Kd.int .i64) s0 ad1 x2) (r : Int) (H : impl_Grant_63_137.f k x1 x2 = some r) :
    Law Try.prog 63 #[v1, (.func (.func 37) #[] #[(.pointer (some ad1))])] s0 w [] (fun v s1 A1 => v = (.int .i64 r) ∧ A1 = []) := by
  unfold impl_Grant_63_137.f at H
  refine Law.intro Try.func63 rfl [(0, v1), (1, (.func (.func 37) #[] #[(.pointer (some ad1))]))] (Nat.le_of_ble_eq_true rfl) (enter_lk ⟨rfl, rfl, trivial⟩) (fun e a hS hF => ?_)
  have hF : Fr 19 a [(0, v1), (1, (.func (.func 37) #[] #[(.pointer (some ad1))]))] := hF
  refine sq ?_
  refine rg ?_
  refine stp hF (p_assign rfl) (by decide) (fun a hF => ?_)
  refine nilN ?_
  refine xn ?_
  obtain ⟨x5, H, HK1⟩ := hb H
  refine sqj (fun a w => ∃ (s2 : HF) , St e s2 w [] ∧ Fr 19 a [] ∧ Sub s0 s2 ∧ impl_Grant_63_137.c1 k = some r) ?_ ?_
  · skip
    refine sq ?_
    refine rg ?_
    refine stp hF (p_move rfl) (by decide) (fun a hF => ?_)
    refine stp hF (p_lenr un_24 rfl h1) (by decide) (fun a hF => ?_)
    refine stp hF (p_move rfl) (by decide) (fun a hF => ?_)
    refine nilN ?_
    refine xn ?_
    refine blk ?_
    refine loop_ind (fun k1 a w => ∃ (x3 : Int) (s3 : HF) , St e s3 w [] ∧ Fr 19 a [(0, v1), (1, (.func (.func 37) #[] #[(.pointer (some ad1))])), (7, (.int .i64 (x1.length : Int))), (8, (.int .i64 x3))] ∧ Sub s0 s3 ∧ impl_Grant_63_137.l1 x1 x2 k1 x3 = some x5) k ?_ ?_ ?_
    · skip
      exact ⟨0, s0, hS, hF.cut ⟨rfl, rfl, rfl, rfl, trivial⟩, (Sub.refl _), H⟩
    · clear H hS hF
      rintro a w ⟨x3, s3, hS, hF, hg1, H⟩
      exact absurd (show none = some _ from H) (by simp)
    · clear H hS hF
      rintro k1 a w ⟨x3, s3, hS, hF, hg1, H⟩
      rw [impl_Grant_63_137.l1.eq_2] at H
      refine sq ?_
      refine rg ?_
      refine stp hF (p_lss rfl rfl) (by decide) (fun a hF => ?_)
      refine nilN ?_
      refine xn ?_
      refine sq ?_
      refine cnd hF rfl (fun hc1 => ?_) (fun hc1 => ?_)
      · replace H := hbt hc1 H
        refine skN ?_
        refine xn ?_
        refine sq ?_
        refine blk ?_
        refine sq ?_
        refine rg ?_
        refine stp hF (p_move rfl) (by decide) (fun a hF => ?_)
        refine stp hF (p_assign rfl) (by decide) (fun a hF => ?_)
        refine nilN ?_
        refine xn ?_
        refine sq ?_
        refine rg ?_
        refine stp hF (p_move rfl) (by decide) (fun a hF => ?_)
        refine stp hF (p_move rfl) (by decide) (fun a hF => ?_)
        refine stp hF (p_move rfl) (by decide) (fun a hF => ?_)
        obtain ⟨hq1, H⟩ := hck H
        obtain ⟨ad2, h3, p1⟩ := p_idxr (P := Try.prog) (i := x3) (h1.mono hg1) un_24 ti_33 hq1.1 hq1.2
        refine stp hF (p1 rfl rfl) (by decide) (fun a hF => ?_)
        obtain ⟨c2, h4, p2⟩ := p_ldr_agg (P := Try.prog) h3 ia_33 ti_33
        obtain rfl := kTGrant_open h4
        refine stp hF (p2 rfl hS.ro) (by decide) (fun a hF => ?_)
        obtain ⟨x4, hx1, H⟩ := hb H
        refine ste hF (e_call (fst := []) (vs := [(.agg #[(.int .i64 ((rd x1 x3).Tx)), (.int .i64 ((rd x1 x3).Res)), (.int .i64 ((rd x1 x3).Mode))])]) (cap := [(.pointer (some ad1))]) rfl rfl go_37 (St.call (A := []) (B := []) hS (impl_Ask_1.spec k1 _ _ (rd x1 x3) x2 ad1 (h2.mono hg1) _ hx1))) (by decide) (fun v w a hR hF => ?_)
        obtain ⟨s4, A2, hg2, hS, hR⟩ := hR
        obtain ⟨hv1, rfl⟩ := hR; obtain rfl := hv1.symm
        have hS : St e s4 w [] := hS
        refine nilN ?_
        refine xn ?_
        refine cnd hF rfl (fun hc2 => ?_) (fun hc2 => ?_)
        · replace H := hbt hc2 H
          refine sq ?_
          refine rg ?_
          refine stp hF (p_move rfl) (by decide) (fun a hF => ?_)
          refine stp hF (p_assign rfl) (by decide) (fun a hF => ?_)
          refine nilN ?_
          refine xn ?_
          refine rt ?_
          refine br (xr (xr (br (xr ?_))))
          obtain rfl := hsm H
          have H := hon1 HK1
          obtain rfl := hsm H
          exact ret1 hF rfl rfl hS ⟨rfl, rfl⟩
        · replace H := hbf hc2 H
          refine skN ?_
          refine bn (xn ?_)
          refine rg ?_
          refine stp hF (p_add (c := w64 (x3 + 1)) rfl rfl rfl) (by decide) (fun a hF => ?_)
          refine stp hF (p_move rfl) (by decide) (fun a hF => ?_)
          refine nilN ?_
          refine xn ?_
          exact ⟨(w64 (x3 + 1)), s4, hS, hF.cut ⟨rfl, rfl, rfl, rfl, trivial⟩, (hg1.trans hg2), H⟩
      · replace H := hbf hc1 H
        refine exi ?_
        refine xe (xe (hit (xn ?_)))
        obtain rfl := hsm H
        exact ⟨s3, hS, hF.cut trivial, hg1, HK1⟩
  · clear H HK1 hS hF
    rintro a w ⟨s2, hS, hF, hg3, H⟩
    unfold impl_Grant_63_137.c1 at H
    refine sq ?_
    refine rg ?_
    refine stp hF (p_assign rfl) (by decide) (fun a hF => ?_)
    refine nilN ?_
    refine xn ?_
    refine rt ?_
    obtain rfl := hsm H
    exact ret1 hF rfl rfl hS ⟨rfl, rfl⟩

def impl_Grant_36_137.f (k : Nat) (x1 : (List TGrant)) (x2 : Int) : Option Bool :=
  ((impl_Grant_63_137.f k x1 x2).bind fun x3 => (some (decide (0 ≤ x3))))
set_option maxRecDepth 100000 in
set_option maxHeartbeats 4000000 in
theorem impl_Grant_36_137.spec (k : Nat) (s0 : HF) (w : World) (x1 : (List TGrant)) (x2 : Int) (v1 : Value) (ad1 : Addr) (h1 : Sl kTGrant s0 v1 x1) (h2 : Pr (Kd.int .i64) s0 ad1 x2) (r : Bool) (H : impl_Grant_36_137.f k x1 x2 = some r) :
    Law Try.prog 36 #[v1, (.func (.func 37) #[] #[(.pointer (some ad1))])] s0 w [] (fun v s1 A1 => v = (.bool r) ∧ A1 = []) := by
  unfold impl_Grant_36_137.f at H
  refine Law.intro Try.func36 rfl [(0, v1), (1, (.func (.func 37) #[] #[(.pointer (some ad1))]))] (Nat.le_of_ble_eq_true rfl) (enter_lk ⟨rfl, rfl, trivial⟩) (fun e a hS hF => ?_)
  have hF : Fr 9 a [(0, v1), (1, (.func (.func 37) #[] #[(.pointer (some ad1))]))] := hF
  refine sq ?_
  refine rg ?_
  refine stp hF (p_assign rfl) (by decide) (fun a hF => ?_)
  refine nilN ?_
  refine xn ?_
  refine sq ?_
  refine rg ?_
  refine stp hF (p_move rfl) (by decide) (fun a hF => ?_)
  refine stp hF (p_move rfl) (by decide) (fun a hF => ?_)
  obtain ⟨x3, hx1, H⟩ := hb H
  refine ste hF (e_call (fst := []) (vs := [v1, (.func (.func 37) #[] #[(.pointer (some ad1))])]) (cap := []) rfl rfl go_63 (St.call (A := []) (B := []) hS (impl_Grant_63_137.spec k _ _ x1 x2 v1 ad1 h1 h2 _ hx1))) (by decide) (fun v w a hR hF => ?_)
  obtain ⟨s2, A2, hg1, hS, hR⟩ := hR
  obtain ⟨hv1, rfl⟩ := hR; obtain rfl := hv1.symm
  have hS : St e s2 w [] := hS
  refine stp hF (p_geq rfl rfl) (by decide) (fun a hF => ?_)
  refine stp hF (p_assign rfl) (by decide) (fun a hF => ?_)
  refine nilN ?_
  refine xn ?_
  refine rt ?_
  obtain rfl := hsm H
  exact ret1 hF rfl rfl hS ⟨rfl, rfl⟩

def impl_allGo_1.c1 (k : Nat) (x1 : Bool) : Option Bool :=
  (some x1)
def impl_allGo_1.f (k : Nat) (x2 : TGrant) (x3 : TGrant) (x4 : Int) : Option Bool :=
  ((if ((decide (x2.Res = x3.Res)) && (decide (x2.Tx ≠ x3.Tx))) = true then ((impl_Goes.f k x4 x2.Mode).bind fun x5 => (some (!x5))) else (some false) : Option Bool).bind fun x6 => impl_allGo_1.c1 k x6)
set_option maxRecDepth 100000 in
set_option maxHeartbeats 4000000 in
theorem impl_allGo_1.spec (k : Nat) (s0 : HF) (w : World) (x2 : TGrant) (x3 : TGrant) (x4 : Int) (ad1 : Addr) (ad2 : Addr) (h1 : Pr kTGrant s0 ad1 x3) (h2 : Pr (Kd.int .i64) s0 ad2 x4) (r : Bool) (H : impl_allGo_1.f k x2 x3 x4 = some r) :
    Law Try.prog 66 #[(.agg #[(.int .i64 x2.Tx), (.int .i64 x2.Res), (.int .i64 x2.Mode)]), (.pointer (some ad1)), (.pointer (some ad2))] s0 w [] (fun v s1 A1 => v = (.bool r) ∧ A1 = []) := by
  unfold impl_allGo_1.f at H
  refine Law.intro Try.func66 rfl [(0, (.agg #[(.int .i64 x2.Tx), (.int .i64 x2.Res), (.int .i64 x2.Mode)])), (1, (.pointer (some ad1))), (2, (.pointer (some ad2)))] (Nat.le_of_ble_eq_true rfl) (enter_lk ⟨rfl, rfl, rfl, trivial⟩) (fun e a hS hF => ?_)
  have hF : Fr 24 a [(0, (.agg #[(.int .i64 x2.Tx), (.int .i64 x2.Res), (.int .i64 x2.Mode)])), (1, (.pointer (some ad1))), (2, (.pointer (some ad2)))] := hF
  refine sq ?_
  refine rg ?_
  refine ste hF (e_box (cs := [(.int .i64 x2.Tx), (.int .i64 x2.Res), (.int .i64 x2.Mode)]) hS rfl rfl) (by decide) (fun v w a hR hF => ?_)
  obtain ⟨g1, rfl, hS⟩ := hR
  refine stp hF (p_assign rfl) (by decide) (fun a hF => ?_)
  refine nilN ?_
  refine xn ?_
  refine sq ?_
  refine rg ?_
  refine stp hF (p_fldb (o' := 1) rfl fi_33_1 rfl) (by decide) (fun a hF => ?_)
  refine stp hF (p_ldb_one (i := 0) hS rfl rfl ia_3 rfl) (by decide) (fun a hF => ?_)
  have h3 : Pr (Kd.int .i64) s0 (ad1.add 1) x3.Res := h1.lens kTGrant_Res
  refine stp hF (p_fld rfl fi_33_1) (by decide) (fun a hF => ?_)
  refine stp hF (p_ldr_int rfl hS h3 ia_3) (by decide) (fun a hF => ?_)
  refine stp hF (p_eql rfl rfl) (by decide) (fun a hF => ?_)
  refine stp hF (p_move rfl) (by decide) (fun a hF => ?_)
  refine cutj 6 (fun a w => St e s0 w [pt g1 33 ([(.int .i64 x2.Tx), (.int .i64 x2.Res), (.int .i64 x2.Mode)])] ∧ Fr 24 a [(2, (.pointer (some ad2))), (3, (.pointer (some ⟨g1, 0, none⟩))), (16, (.bool ((decide (x2.Res = x3.Res)) && (decide (x2.Tx ≠ x3.Tx)))))]) rfl rfl ?_ ?_
  · rcases Bool.eq_false_or_eq_true (decide (x2.Res = x3.Res)) with hc1 | hc1
    · skip
      refine gonE (j := 5) hF rfl rfl hc1 ?_
      refine stp hF (p_fldb (o' := 0) rfl fi_33_0 rfl) (by decide) (fun a hF => ?_)
      refine gonE (j := 5) hF rfl rfl hc1 ?_
      refine stp hF (p_ldb_one (i := 0) hS rfl rfl ia_3 rfl) (by decide) (fun a hF => ?_)
      have h4 : Pr (Kd.int .i64) s0 (ad1.add 0) x3.Tx := h1.lens kTGrant_Tx
      refine gonE (j := 5) hF rfl rfl hc1 ?_
      refine stp hF (p_fld rfl fi_33_0) (by decide) (fun a hF => ?_)
      refine gonE (j := 5) hF rfl rfl hc1 ?_
      refine stp hF (p_ldr_int rfl hS h4 ia_3) (by decide) (fun a hF => ?_)
      refine gonE (j := 5) hF rfl rfl hc1 ?_
      refine stp hF (p_neq rfl rfl) (by decide) (fun a hF => ?_)
      refine stp hF (p_andT rfl hc1 rfl) (by decide) (fun a hF => ?_)
      refine nilN ?_
      refine xn ?_
      exact ⟨hS, hF.cut ⟨rfl, rfl, rfl, trivial⟩⟩
    · skip
      refine gofD (j := 5) hF rfl rfl (by rw [hc1]; decide) (by decide) (fun a hF => ?_)
      refine gofD (j := 5) hF rfl rfl (by rw [hc1]; decide) (by decide) (fun a hF => ?_)
      refine gofD (j := 5) hF rfl rfl (by rw [hc1]; decide) (by decide) (fun a hF => ?_)
      refine gofD (j := 5) hF rfl rfl (by rw [hc1]; decide) (by decide) (fun a hF => ?_)
      refine gofD (j := 5) hF rfl rfl (by rw [hc1]; decide) (by decide) (fun a hF => ?_)
      refine stp hF (p_andF (decide (x2.Tx ≠ x3.Tx)) rfl hc1 rfl) (by decide) (fun a hF => ?_)
      refine nilN ?_
      refine xn ?_
      exact ⟨hS, hF.cut ⟨rfl, rfl, rfl, trivial⟩⟩
  clear hS hF
  rintro a w ⟨hS, hF⟩
  refine stp hF (p_move rfl) (by decide) (fun a hF => ?_)
  obtain ⟨x6, H, HK1⟩ := hb H
  refine cutj 6 (fun a w => ∃ (x1 : Bool) (s2 : HF) , St e s2 w [pt g1 33 ([(.int .i64 x2.Tx), (.int .i64 x2.Res), (.int .i64 x2.Mode)])] ∧ Fr 24 a [(23, (.bool x1))] ∧ Sub s0 s2 ∧ impl_allGo_1.c1 k x1 = some r) rfl rfl ?_ ?_
  · rcases Bool.eq_false_or_eq_true (((decide (x2.Res = x3.Res)) && (decide (x2.Tx ≠ x3.Tx)))) with hc2 | hc2
    · replace H := hbt hc2 H
      refine gonE (j := 12) hF rfl rfl hc2 ?_
      refine stp hF (p_ldr_int rfl hS h2 ia_3) (by decide) (fun a hF => ?_)
      refine gonE (j := 12) hF rfl rfl hc2 ?_
      refine stp hF (p_fldb (o' := 2) rfl fi_33_2 rfl) (by decide) (fun a hF => ?_)
      refine gonE (j := 12) hF rfl rfl hc2 ?_
      refine stp hF (p_ldb_one (i := 0) hS rfl rfl ia_3 rfl) (by decide) (fun a hF => ?_)
      obtain ⟨x5, hx1, H⟩ := hb H
      refine gonE (j := 12) hF rfl rfl hc2 ?_
      refine ste hF (e_call (fst := []) (vs := [(.int .i64 x4), (.int .i64 x2.Mode)]) (cap := []) rfl rfl go_46 (St.call (A := []) (B := [pt g1 33 ([(.int .i64 x2.Tx), (.int .i64 x2.Res), (.int .i64 x2.Mode)])]) hS (impl_Goes.spec k _ _ x4 x2.Mode _ hx1))) (by decide) (fun v w a hR hF => ?_)
      obtain ⟨s3, A2, hg1, hS, hR⟩ := hR
      obtain ⟨hv1, rfl⟩ := hR; obtain rfl := hv1.symm
      have hS : St e s3 w [pt g1 33 ([(.int .i64 x2.Tx), (.int .i64 x2.Res), (.int .i64 x2.Mode)])] := hS
      refine gonE (j := 12) hF rfl rfl hc2 ?_
      refine stp hF (p_not rfl) (by decide) (fun a hF => ?_)
      refine stp hF (p_pickT rfl hc2 rfl) (by decide) (fun a hF => ?_)
      refine nilN ?_
      refine xn ?_
      obtain rfl := hsm H
      exact ⟨(!x5), s3, hS, hF.cut ⟨rfl, trivial⟩, hg1, HK1⟩
    · replace H := hbf hc2 H
      refine gofD (j := 12) hF rfl rfl (by rw [hc2]; decide) (by decide) (fun a hF => ?_)
      refine gofD (j := 12) hF rfl rfl (by rw [hc2]; decide) (by decide) (fun a hF => ?_)
      refine gofD (j := 12) hF rfl rfl (by rw [hc2]; decide) (by decide) (fun a hF => ?_)
      refine gofD (j := 12) hF rfl rfl (by rw [hc2]; decide) (by decide) (fun a hF => ?_)
      refine gofD (j := 12) hF rfl rfl (by rw [hc2]; decide) (by decide) (fun a hF => ?_)
      refine stp hF (p_pickF rfl hc2 rfl) (by decide) (fun a hF => ?_)
      refine nilN ?_
      refine xn ?_
      obtain rfl := hsm H
      exact ⟨false, s0, hS, hF.cut ⟨rfl, trivial⟩, (Sub.refl _), HK1⟩
  · clear H HK1 hS hF
    rintro a w ⟨x1, s2, hS, hF, hg2, H⟩
    unfold impl_allGo_1.c1 at H
    refine stp hF (p_assign rfl) (by decide) (fun a hF => ?_)
    refine nilN ?_
    refine xn ?_
    refine rt ?_
    obtain rfl := hsm H
    replace hS := hS.sel (is := []) (A' := []) rfl
    exact ret1 hF rfl rfl hS ⟨rfl, rfl⟩

def impl_Grant_63_166.c1 (k : Nat) : Option Int :=
  (some (-1))
def impl_Grant_63_166.l1 (x1 : (List TGrant)) (x2 : TGrant) (x3 : Int) : Nat → Int → Option (Ex Int Unit)
  | 0, _ => none
  | k + 1, x4 => (if (decide (x4 < (x1.length : Int))) = true then (if 0 ≤ x4 ∧ x4 < (x1.length : Int) then ((impl_allGo_1.f k (rd x1 x4) x2 x3).bind fun x5 => (if x5 = true then (some (Ex.ret x4)) else ((impl_Grant_63_166.l1 x1 x2 x3 k) (w64 (x4 + 1))))) else none) else (some (Ex.go ())))
def impl_Grant_63_166.f (k : Nat) (x1 : (List TGrant)) (x2 : TGrant) (x3 : Int) : Option Int :=
  (((impl_Grant_63_166.l1 x1 x2 x3 k 0) : Option (Ex Int Unit)).bind fun x6 => Ex.on x6 (fun r => some r) (fun y => impl_Grant_63_166.c1 k))
set_option maxRecDepth 100000 in
set_option maxHeartbeats 4000000 in
theorem impl_Grant_63_166.spec (k : Nat) (s0 : HF) (w : World) (x1 : (List TGrant)) (x2 : TGrant) (x3 : Int) (v1 : Value) (ad1 : Addr) (ad2 : Addr) (h1 : Sl kTGrant s0 v1 x1) (h2 : Pr kTGrant s0 ad1 x2) (h3 : Pr (Kd.int .i64) s0 ad2 x3) (r : Int) (H : impl_Grant_63_166.f k x1 x2 x3 = some r) :
    Law Try.prog 63 #[v1, (.func (.func 66) #[] #[(.pointer (some ad1)), (.pointer (some ad2))])] s0 w [] (fun v s1 A1 => v = (.int .i64 r) ∧ A1 = []) := by
  unfold impl_Grant_63_166.f at H
  refine Law.intro Try.func63 rfl [(0, v1), (1, (.func (.func 66) #[] #[(.pointer (some ad1)), (.pointer (some ad2))]))] (Nat.le_of_ble_eq_true rfl) (enter_lk ⟨rfl, rfl, trivial⟩) (fun e a hS hF => ?_)
  have hF : Fr 19 a [(0, v1), (1, (.func (.func 66) #[] #[(.pointer (some ad1)), (.pointer (some ad2))]))] := hF
  refine sq ?_
  refine rg ?_
  refine stp hF (p_assign rfl) (by decide) (fun a hF => ?_)
  refine nilN ?_
  refine xn ?_
  obtain ⟨x6, H, HK1⟩ := hb H
  refine sqj (fun a w => ∃ (s2 : HF) , St e s2 w [] ∧ Fr 19 a [] ∧ Sub s0 s2 ∧ impl_Grant_63_166.c1 k = some r) ?_ ?_
  · skip
    refine sq ?_
    refine rg ?_
    refine stp hF (p_move rfl) (by decide) (fun a hF => ?_)
    refine stp hF (p_lenr un_24 rfl h1) (by decide) (fun a hF => ?_)
    refine stp hF (p_move rfl) (by decide) (fun a hF => ?_)
    refine nilN ?_
    refine xn ?_
    refine blk ?_
    refine loop_ind (fun k1 a w => ∃ (x4 : Int) (s3 : HF) , St e s3 w [] ∧ Fr 19 a [(0, v1), (1, (.func (.func 66) #[] #[(.pointer (some ad1)), (.pointer (some ad2))])), (7, (.int .i64 (x1.length : Int))), (8, (.int .i64 x4))] ∧ Sub s0 s3 ∧ impl_Grant_63_166.l1 x1 x2 x3 k1 x4 = some x6) k ?_ ?_ ?_
    · skip
      exact ⟨0, s0, hS, hF.cut ⟨rfl, rfl, rfl, rfl, trivial⟩, (Sub.refl _), H⟩
    · clear H hS hF
      rintro a w ⟨x4, s3, hS, hF, hg1, H⟩
      exact absurd (show none = some _ from H) (by simp)
    · clear H hS hF
      rintro k1 a w ⟨x4, s3, hS, hF, hg1, H⟩
      rw [impl_Grant_63_166.l1.eq_2] at H
      refine sq ?_
      refine rg ?_
      refine stp hF (p_lss rfl rfl) (by decide) (fun a hF => ?_)
      refine nilN ?_
      refine xn ?_
      refine sq ?_
      refine cnd hF rfl (fun hc1 => ?_) (fun hc1 => ?_)
      · replace H := hbt hc1 H
        refine skN ?_
        refine xn ?_
        refine sq ?_
        refine blk ?_
        refine sq ?_
        refine rg ?_
        refine stp hF (p_move rfl) (by decide) (fun a hF => ?_)
        refine stp hF (p_assign rfl) (by decide) (fun a hF => ?_)
        refine nilN ?_
        refine xn ?_
        refine sq ?_
        refine rg ?_
        refine stp hF (p_move rfl) (by decide) (fun a hF => ?_)
        refine stp hF (p_move rfl) (by decide) (fun a hF => ?_)
        refine stp hF (p_move rfl) (by decide) (fun a hF => ?_)
        obtain ⟨hq1, H⟩ := hck H
        obtain ⟨ad3, h4, p1⟩ := p_idxr (P := Try.prog) (i := x4) (h1.mono hg1) un_24 ti_33 hq1.1 hq1.2
        refine stp hF (p1 rfl rfl) (by decide) (fun a hF => ?_)
        obtain ⟨c2, h5, p2⟩ := p_ldr_agg (P := Try.prog) h4 ia_33 ti_33
        obtain rfl := kTGrant_open h5
        refine stp hF (p2 rfl hS.ro) (by decide) (fun a hF => ?_)
        obtain ⟨x5, hx1, H⟩ := hb H
        refine ste hF (e_call (fst := []) (vs := [(.agg #[(.int .i64 ((rd x1 x4).Tx)), (.int .i64 ((rd x1 x4).Res)), (.int .i64 ((rd x1 x4).Mode))])]) (cap := [(.pointer (some ad1)), (.pointer (some ad2))]) rfl rfl go_66 (St.call (A := []) (B := []) hS (impl_allGo_1.spec k1 _ _ (rd x1 x4) x2 x3 ad1 ad2 (h2.mono hg1) (h3.mono hg1) _ hx1))) (by decide) (fun v w a hR hF => ?_)
        obtain ⟨s4, A2, hg2, hS, hR⟩ := hR
        obtain ⟨hv1, rfl⟩ := hR; obtain rfl := hv1.symm
        have hS : St e s4 w [] := hS
        refine nilN ?_
        refine xn ?_
        refine cnd hF rfl (fun hc2 => ?_) (fun hc2 => ?_)
        · replace H := hbt hc2 H
          refine sq ?_
          refine rg ?_
          refine stp hF (p_move rfl) (by decide) (fun a hF => ?_)
          refine stp hF (p_assign rfl) (by decide) (fun a hF => ?_)
          refine nilN ?_
          refine xn ?_
          refine rt ?_
          refine br (xr (xr (br (xr ?_))))
          obtain rfl := hsm H
          have H := hon1 HK1
          obtain rfl := hsm H
          exact ret1 hF rfl rfl hS ⟨rfl, rfl⟩
        · replace H := hbf hc2 H
          refine skN ?_
          refine bn (xn ?_)
          refine rg ?_
          refine stp hF (p_add (c := w64 (x4 + 1)) rfl rfl rfl) (by decide) (fun a hF => ?_)
          refine stp hF (p_move rfl) (by decide) (fun a hF => ?_)
          refine nilN ?_
          refine xn ?_
          exact ⟨(w64 (x4 + 1)), s4, hS, hF.cut ⟨rfl, rfl, rfl, rfl, trivial⟩, (hg1.trans hg2), H⟩
      · replace H := hbf hc1 H
        refine exi ?_
        refine xe (xe (hit (xn ?_)))
        obtain rfl := hsm H
        exact ⟨s3, hS, hF.cut trivial, hg1, HK1⟩
  · clear H HK1 hS hF
    rintro a w ⟨s2, hS, hF, hg3, H⟩
    unfold impl_Grant_63_166.c1 at H
    refine sq ?_
    refine rg ?_
    refine stp hF (p_assign rfl) (by decide) (fun a hF => ?_)
    refine nilN ?_
    refine xn ?_
    refine rt ?_
    obtain rfl := hsm H
    exact ret1 hF rfl rfl hS ⟨rfl, rfl⟩

def impl_Grant_36_166.f (k : Nat) (x1 : (List TGrant)) (x2 : TGrant) (x3 : Int) : Option Bool :=
  ((impl_Grant_63_166.f k x1 x2 x3).bind fun x4 => (some (decide (0 ≤ x4))))
set_option maxRecDepth 100000 in
set_option maxHeartbeats 4000000 in
theorem impl_Grant_36_166.spec (k : Nat) (s0 : HF) (w : World) (x1 : (List TGrant)) (x2 : TGrant) (x3 : Int) (v1 : Value) (ad1 : Addr) (ad2 : Addr) (h1 : Sl kTGrant s0 v1 x1) (h2 : Pr kTGrant s0 ad1 x2) (h3 : Pr (Kd.int .i64) s0 ad2 x3) (r : Bool) (H : impl_Grant_36_166.f k x1 x2 x3 = some r) :
    Law Try.prog 36 #[v1, (.func (.func 66) #[] #[(.pointer (some ad1)), (.pointer (some ad2))])] s0 w [] (fun v s1 A1 => v = (.bool r) ∧ A1 = []) := by
  unfold impl_Grant_36_166.f at H
  refine Law.intro Try.func36 rfl [(0, v1), (1, (.func (.func 66) #[] #[(.pointer (some ad1)), (.pointer (some ad2))]))] (Nat.le_of_ble_eq_true rfl) (enter_lk ⟨rfl, rfl, trivial⟩) (fun e a hS hF => ?_)
  have hF : Fr 9 a [(0, v1), (1, (.func (.func 66) #[] #[(.pointer (some ad1)), (.pointer (some ad2))]))] := hF
  refine sq ?_
  refine rg ?_
  refine stp hF (p_assign rfl) (by decide) (fun a hF => ?_)
  refine nilN ?_
  refine xn ?_
  refine sq ?_
  refine rg ?_
  refine stp hF (p_move rfl) (by decide) (fun a hF => ?_)
  refine stp hF (p_move rfl) (by decide) (fun a hF => ?_)
  obtain ⟨x4, hx1, H⟩ := hb H
  refine ste hF (e_call (fst := []) (vs := [v1, (.func (.func 66) #[] #[(.pointer (some ad1)), (.pointer (some ad2))])]) (cap := []) rfl rfl go_63 (St.call (A := []) (B := []) hS (impl_Grant_63_166.spec k _ _ x1 x2 x3 v1 ad1 ad2 h1 h2 h3 _ hx1))) (by decide) (fun v w a hR hF => ?_)
  obtain ⟨s2, A2, hg1, hS, hR⟩ := hR
  obtain ⟨hv1, rfl⟩ := hR; obtain rfl := hv1.symm
  have hS : St e s2 w [] := hS
  refine stp hF (p_geq rfl rfl) (by decide) (fun a hF => ?_)
  refine stp hF (p_assign rfl) (by decide) (fun a hF => ?_)
  refine nilN ?_
  refine xn ?_
  refine rt ?_
  obtain rfl := hsm H
  exact ret1 hF rfl rfl hS ⟨rfl, rfl⟩

def impl_allGo.f (k : Nat) (x1 : TLocks) (x2 : TGrant) (x3 : Int) : Option Bool :=
  ((impl_Grant_36_166.f k x1.Given x2 x3).bind fun x4 => (some (!x4)))
set_option maxRecDepth 100000 in
set_option maxHeartbeats 4000000 in
theorem impl_allGo.spec (k : Nat) (s0 : HF) (w : World) (x1 : TLocks) (x2 : TGrant) (x3 : Int) (v1 : Value) (v2 : Value) (h1 : Sl kTGrant s0 v1 x1.Given) (r : Bool) (H : impl_allGo.f k x1 x2 x3 = some r) :
    Law Try.prog 38 #[(.agg #[v1, v2]), (.agg #[(.int .i64 x2.Tx), (.int .i64 x2.Res), (.int .i64 x2.Mode)]), (.int .i64 x3)] s0 w [] (fun v s1 A1 => v = (.bool r) ∧ A1 = []) := by
  unfold impl_allGo.f at H
  refine Law.intro Try.func38 rfl [(0, (.agg #[v1, v2])), (1, (.agg #[(.int .i64 x2.Tx), (.int .i64 x2.Res), (.int .i64 x2.Mode)])), (2, (.int .i64 x3))] (Nat.le_of_ble_eq_true rfl) (enter_lk ⟨rfl, rfl, rfl, trivial⟩) (fun e a hS hF => ?_)
  have hF : Fr 12 a [(0, (.agg #[v1, v2])), (1, (.agg #[(.int .i64 x2.Tx), (.int .i64 x2.Res), (.int .i64 x2.Mode)])), (2, (.int .i64 x3))] := hF
  refine sq ?_
  refine rg ?_
  refine ste hF (e_box (cs := [v1, v2]) hS rfl rfl) (by decide) (fun v w a hR hF => ?_)
  obtain ⟨g1, rfl, hS⟩ := hR
  refine ste hF (e_box (cs := [(.int .i64 x2.Tx), (.int .i64 x2.Res), (.int .i64 x2.Mode)]) hS rfl rfl) (by decide) (fun v w a hR hF => ?_)
  obtain ⟨g2, rfl, hS⟩ := hR
  refine ste hF (e_box (cs := [(.int .i64 x3)]) hS rfl rfl) (by decide) (fun v w a hR hF => ?_)
  obtain ⟨g3, rfl, hS⟩ := hR
  refine stp hF (p_assign rfl) (by decide) (fun a hF => ?_)
  refine nilN ?_
  refine xn ?_
  refine sq ?_
  refine rg ?_
  refine stp hF (p_fldb (o' := 0) rfl fi_26_0 rfl) (by decide) (fun a hF => ?_)
  refine stp hF (p_ldb_one (i := 2) hS rfl rfl ia_24 rfl) (by decide) (fun a hF => ?_)
  obtain ⟨s2, hg1, h2, hS⟩ := hS.freezeB (i := 1) (g := g2) (T := 33) (cs := [(.int .i64 x2.Tx), (.int .i64 x2.Res), (.int .i64 x2.Mode)]) (B := [pt g3 3 ([(.int .i64 x3)]), pt g1 26 ([v1, v2])]) rfl
  have h3 : Pr kTGrant s2 ⟨g2, 0, none⟩ x2 := Pr.box h2 (by exact (kTGrant_mk (x := x2) ))
  obtain ⟨s3, hg2, h4, hS⟩ := hS.freezeB (i := 0) (g := g3) (T := 3) (cs := [(.int .i64 x3)]) (B := [pt g1 26 ([v1, v2])]) rfl
  have h5 : Pr (Kd.int .i64) s3 ⟨g3, 0, none⟩ x3 := Pr.box h4 (by exact rfl)
  refine stp hF (p_makefunc (fs := []) (cs := [(.tmp 4), (.tmp 5)]) rfl rfl) (by decide) (fun a hF => ?_)
  obtain ⟨x4, hx1, H⟩ := hb H
  refine ste hF (e_call (fst := []) (vs := [v1, (.func (.func 66) #[] #[(.pointer (some (⟨g2, 0, none⟩ : Addr))), (.pointer (some (⟨g3, 0, none⟩ : Addr)))])]) (cap := []) rfl rfl go_36 (St.call (A := []) (B := [pt g1 26 ([v1, v2])]) hS (impl_Grant_36_166.spec k _ _ x1.Given x2 x3 v1 (⟨g2, 0, none⟩ : Addr) (⟨g3, 0, none⟩ : Addr) ((h1.mono hg1).mono hg2) (h3.mono hg2) h5 _ hx1))) (by decide) (fun v w a hR hF => ?_)
  obtain ⟨s4, A2, hg3, hS, hR⟩ := hR
  obtain ⟨hv1, rfl⟩ := hR; obtain rfl := hv1.symm
  have hS : St e s4 w [pt g1 26 ([v1, v2])] := hS
  refine stp hF (p_not rfl) (by decide) (fun a hF => ?_)
  refine stp hF (p_assign rfl) (by decide) (fun a hF => ?_)
  refine nilN ?_
  refine xn ?_
  refine rt ?_
  obtain rfl := hsm H
  replace hS := hS.sel (is := []) (A' := []) rfl
  exact ret1 hF rfl rfl hS ⟨rfl, rfl⟩

def impl_Locks_give.f (k : Nat) (x1 : (List TGrant)) (x2 : TGrant) (x3 : Int) : Option (List TGrant) :=
  ((impl_givenAt.f k (⟨x1, []⟩ : TLocks) x2.Tx x2.Res).bind fun x4 => (if (decide (0 ≤ x4)) = true then (if 0 ≤ x4 ∧ x4 < (x1.length : Int) then (some (wr x1 x4 ({ (rd x1 x4) with Mode := x3 }))) else none) else (if x1.length + 1 ≤ 5864062014805 then (some (x1 ++ ([(⟨x2.Tx, x2.Res, x3⟩ : TGrant)] : List TGrant))) else none)))
set_option maxRecDepth 100000 in
set_option maxHeartbeats 4000000 in
theorem impl_Locks_give.spec (k : Nat) (s0 : HF) (w : World) (x1 : (List TGrant)) (x2 : TGrant) (x3 : Int) (v1 : Value) (v2 : Value) (g1 : Nat) (r : (List TGrant)) (H : impl_Locks_give.f k x1 x2 x3 = some r) :
    Law Try.prog 39 #[(.pointer (some ⟨g1, 0, none⟩)), (.agg #[(.int .i64 x2.Tx), (.int .i64 x2.Res), (.int .i64 x2.Mode)]), (.int .i64 x3)] s0 w [pt g1 26 ([v1, v2]), Ow kTGrant 33 v1 x1] (fun v s1 A1 => ∃ (u0 : Value), v = (.tuple #[]) ∧ A1 = [pt g1 26 ([u0, v2]), Ow kTGrant 33 u0 r]) := by
  unfold impl_Locks_give.f at H
  refine Law.intro Try.func39 rfl [(0, (.pointer (some ⟨g1, 0, none⟩))), (1, (.agg #[(.int .i64 x2.Tx), (.int .i64 x2.Res), (.int .i64 x2.Mode)])), (2, (.int .i64 x3))] (Nat.le_of_ble_eq_true rfl) (enter_lk ⟨rfl, rfl, rfl, trivial⟩) (fun e a hS hF => ?_)
  have hF : Fr 40 a [(0, (.pointer (some ⟨g1, 0, none⟩))), (1, (.agg #[(.int .i64 x2.Tx), (.int .i64 x2.Res), (.int .i64 x2.Mode)])), (2, (.int .i64 x3))] := hF
  refine sq ?_
  refine rg ?_
  refine ste hF (e_box (cs := [(.int .i64 x2.Tx), (.int .i64 x2.Res), (.int .i64 x2.Mode)]) hS rfl rfl) (by decide) (fun v w a hR hF => ?_)
  obtain ⟨g2, rfl, hS⟩ := hR
  refine nilN ?_
  refine xn ?_
  refine sq ?_
  refine sq ?_
  replace hS : St e s0 w.drew [pt g2 33 ([(.int .i64 x2.Tx), (.int .i64 x2.Res), (.int .i64 x2.Mode)]), pt g1 26 ([v1, v2]), Ow kTGrant 33 v1 x1] := hS.drewN 1
  refine drw [0, 1, 2, 3, 4, 5, 6, 7, 8] mixed (by kernel_rfl) (by decide) (hF.cut (L' := [(0, (.pointer (some ⟨g1, 0, none⟩))), (1, (.agg #[(.int .i64 x2.Tx), (.int .i64 x2.Res), (.int .i64 x2.Mode)])), (2, (.int .i64 x3)), (4, (.pointer (some ⟨g2, 0, none⟩)))]) ⟨rfl, rfl, rfl, rfl, trivial⟩) ?_
  clear hF
  generalize w.drew = w at hS ⊢
  refine pk1 rfl (by decide) rfl (by kernel_rfl) rfl (p_move rfl) ?_
  refine pk1 rfl (by decide) rfl (by kernel_rfl) rfl (p_nilck rfl) ?_
  refine pk1 rfl (by decide) rfl (by kernel_rfl) rfl (p_ldb_agg (i := 1) (l := []) (m := [v1, v2]) (r := []) hS rfl rfl ia_26 ti_26 rfl rfl rfl) ?_
  refine pk1 rfl (by decide) rfl (by kernel_rfl) rfl (p_fldb (o' := 0) rfl fi_33_0 rfl) ?_
  refine pk1 rfl (by decide) rfl (by kernel_rfl) rfl (p_ldb_one (i := 0) hS rfl rfl ia_3 rfl) ?_
  refine pk1 rfl (by decide) rfl (by kernel_rfl) rfl (p_fldb (o' := 1) rfl fi_33_1 rfl) ?_
  refine pk1 rfl (by decide) rfl (by kernel_rfl) rfl (p_ldb_one (i := 0) hS rfl rfl ia_3 rfl) ?_
  replace hS := hS.sel (is := [2, 0, 0]) (A' := [Ow kTGrant 33 v1 x1, pt g2 33 ([(.int .i64 x2.Tx), (.int .i64 x2.Res), (.int .i64 x2.Mode)]), pt g1 26 ([v1, v2])]) rfl
  obtain ⟨s2, hg1, hl1, hcall1⟩ := St.lend (P := Try.prog) (Bs := [Ow kTGrant 33 v1 x1]) (A := []) (B := [pt g2 33 ([(.int .i64 x2.Tx), (.int .i64 x2.Res), (.int .i64 x2.Mode)]), pt g1 26 ([v1, v2])]) hS
  obtain ⟨h1, hl1⟩ := hl1.ow hg1
  obtain ⟨x4, hx1, H⟩ := hb H
  refine pkE [5, 3, 1, 0] rfl (by decide) (by kernel_rfl) (by kernel_rfl) (e_call (fst := []) (vs := [(.agg #[v1, v2]), (.int .i64 x2.Tx), (.int .i64 x2.Res)]) (cap := []) rfl rfl go_35 (hcall1 (impl_givenAt.spec k _ _ (⟨x1, []⟩ : TLocks) x2.Tx x2.Res v1 v2 h1 _ hx1) (by rintro v s1 A1 ⟨rfl, rfl⟩; exact trivial))) ?_
  intro v w hR
  obtain ⟨s3, s4, A2, hg2, hS, hR⟩ := hR
  obtain ⟨hv1, rfl⟩ := hR; obtain rfl := hv1.symm
  have hS : St e s3 w [Ow kTGrant 33 v1 x1, pt g2 33 ([(.int .i64 x2.Tx), (.int .i64 x2.Res), (.int .i64 x2.Mode)]), pt g1 26 ([v1, v2])] := hS
  refine ⟨⟨knw rfl rfl rfl (p_fldb (o' := 1) rfl fi_33_1 rfl), ⟨knw rfl rfl rfl (p_fldb (o' := 0) rfl fi_33_0 rfl), ⟨knw rfl rfl rfl (p_nilck rfl), ⟨knw rfl rfl rfl (p_move rfl), trivial⟩⟩⟩⟩, ?_⟩
  refine pkE [] rfl (by decide) (by kernel_rfl) (by kernel_rfl) (puEf (p_assign rfl)) ?_
  rintro v w' ⟨rfl, rfl⟩
  refine ⟨trivial, ?_⟩
  refine pkF (fun a hF => ?_)
  refine xn ?_
  refine sq ?_
  refine rg ?_
  refine stp hF (p_move rfl) (by decide) (fun a hF => ?_)
  refine stp hF (p_geq rfl rfl) (by decide) (fun a hF => ?_)
  refine nilN ?_
  refine xn ?_
  refine cnd hF rfl (fun hc1 => ?_) (fun hc1 => ?_)
  · replace H := hbt hc1 H
    refine sq ?_
    refine rg ?_
    refine stp hF (p_move rfl) (by decide) (fun a hF => ?_)
    refine stp hF (p_nilck rfl) (by decide) (fun a hF => ?_)
    refine stp hF (p_fldb (o' := 0) rfl fi_26_0 rfl) (by decide) (fun a hF => ?_)
    refine stp hF (p_ldb_one (i := 2) hS rfl rfl ia_24 rfl) (by decide) (fun a hF => ?_)
    refine stp hF (p_move rfl) (by decide) (fun a hF => ?_)
    refine stp hF (p_move rfl) (by decide) (fun a hF => ?_)
    obtain ⟨hq1, H⟩ := hck H
    obtain ⟨b1, o1, q1, hv2, p1⟩ := p_idxo (n := 0) (i := x4) hS rfl un_24 ti_33 hq1.1 hq1.2
    refine stp hF (p1 rfl rfl) (by decide) (fun a hF => ?_)
    refine stp hF (p_fldb (o' := ((o1 + x4.toNat * kTGrant.sz) + 2)) rfl fi_33_2 rfl) (by decide) (fun a hF => ?_)
    refine ste0 hF (e_sto (n := 0) (c := x3) hS rfl hv2 kTGrant_Mode hq1.1 hq1.2 rfl rfl rfl ti_3 rfl rfl) (fun v w a hR hF => ?_)
    have hS : St e s3 w [Ow kTGrant 33 v1 (wr x1 x4 ({ (rd x1 x4) with Mode := x3 })), pt g2 33 ([(.int .i64 x2.Tx), (.int .i64 x2.Res), (.int .i64 x2.Mode)]), pt g1 26 ([v1, v2])] := hR
    refine nilN ?_
    refine xn ?_
    refine rt ?_
    refine xr ?_
    obtain rfl := hsm H
    replace hS := hS.sel (is := [2, 0]) (A' := [pt g1 26 ([v1, v2]), Ow kTGrant 33 v1 (wr x1 x4 ({ (rd x1 x4) with Mode := x3 }))]) rfl
    exact ret0 (Or.inl rfl) hF rfl hS ⟨v1, rfl, rfl⟩
  · replace H := hbf hc1 H
    refine skN ?_
    refine xn ?_
    replace hS : St e s3 w.drew [Ow kTGrant 33 v1 x1, pt g2 33 ([(.int .i64 x2.Tx), (.int .i64 x2.Res), (.int .i64 x2.Mode)]), pt g1 26 ([v1, v2])] := hS.drewN 1
    refine drw [0, 1, 2, 3, 4, 5, 6, 7, 8, 9, 10, 11, 12, 13, 14, 15] mixed (by kernel_rfl) (by decide) (hF.cut (L' := [(0, (.pointer (some ⟨g1, 0, none⟩))), (1, (.agg #[(.int .i64 x2.Tx), (.int .i64 x2.Res), (.int .i64 x2.Mode)])), (2, (.int .i64 x3)), (4, (.pointer (some ⟨g2, 0, none⟩))), (6, (.int .i64 x4)), (7, (.pointer (some ⟨g1, 0, none⟩))), (8, (.pointer (some ⟨g1, 0, none⟩))), (9, (.agg #[v1, v2])), (10, (.pointer (some ⟨g2, 0, none⟩))), (11, (.int .i64 x2.Tx)), (12, (.pointer (some ⟨g2, 1, none⟩))), (13, (.int .i64 x2.Res)), (14, (.int .i64 x4)), (15, (.int .i64 x4)), (16, (.bool (decide (0 ≤ x4))))]) ⟨rfl, rfl, rfl, rfl, rfl, rfl, rfl, rfl, rfl, rfl, rfl, rfl, rfl, rfl, rfl, trivial⟩) ?_
    clear hF
    generalize w.drew = w at hS ⊢
    refine pk1 rfl (by decide) rfl (by kernel_rfl) rfl (p_move rfl) ?_
    refine pk1 rfl (by decide) rfl (by kernel_rfl) rfl (p_move rfl) ?_
    refine pk1 rfl (by decide) rfl (by kernel_rfl) rfl (p_nilck rfl) ?_
    refine pk1 rfl (by decide) rfl (by kernel_rfl) rfl (p_fldb (o' := 0) rfl fi_26_0 rfl) ?_
    refine pk1 rfl (by decide) rfl (by kernel_rfl) rfl (p_ldb_one (i := 2) hS rfl rfl ia_24 rfl) ?_
    refine pk1 rfl (by decide) rfl (by kernel_rfl) rfl (p_fldb (o' := 0) rfl fi_33_0 rfl) ?_
    refine pk1 rfl (by decide) rfl (by kernel_rfl) rfl (p_ldb_one (i := 1) hS rfl rfl ia_3 rfl) ?_
    refine pk1 rfl (by decide) rfl (by kernel_rfl) rfl (p_fldb (o' := 1) rfl fi_33_1 rfl) ?_
    refine pk1 rfl (by decide) rfl (by kernel_rfl) rfl (p_ldb_one (i := 1) hS rfl rfl ia_3 rfl) ?_
    refine pk1 rfl (by decide) rfl (by kernel_rfl) rfl (p_move rfl) ?_
    refine pk1 rfl (by decide) rfl (by kernel_rfl) rfl (p_build (ps := [(0, (.tmp 31)), (1, (.tmp 33)), (2, (.tmp 34))]) (vs := [(0, (.int .i64 x2.Tx)), (1, (.int .i64 x2.Res)), (2, (.int .i64 x3))]) (v := (.agg #[(.int .i64 x2.Tx), (.int .i64 x2.Res), (.int .i64 x3)])) rfl (by intro w; kernel_rfl)) ?_
    refine pkE [9, 8, 7, 6, 5, 4, 3, 2, 1, 0] rfl (by decide) (by kernel_rfl) (by kernel_rfl) (e_bslice (kd := kTGrant) (et := 33) (ps := [(0, (.tmp 35))]) (vs := [(0, (.agg #[(.int .i64 x2.Tx), (.int .i64 x2.Res), (.int .i64 x3)]))]) (cs := [(.int .i64 x2.Tx), (.int .i64 x2.Res), (.int .i64 x3)]) (xs := ([(⟨x2.Tx, x2.Res, x3⟩ : TGrant)] : List TGrant)) hS rfl (by intro w; kernel_rfl) rfl (by decide) (Nat.le_of_ble_eq_true rfl) (by exact (rows_cons (kd := kTGrant) (x := (⟨x2.Tx, x2.Res, x3⟩ : TGrant)) (c := [(.int .i64 x2.Tx), (.int .i64 x2.Res), (.int .i64 x3)]) (cs := []) (kTGrant_mk (x := (⟨x2.Tx, x2.Res, x3⟩ : TGrant)) ) (Rows.nil _ _ _ _)))) ?_
    intro v3 w hR
    have hS : St e s3 w [Ow kTGrant 33 v3 ([(⟨x2.Tx, x2.Res, x3⟩ : TGrant)] : List TGrant), Ow kTGrant 33 v1 x1, pt g2 33 ([(.int .i64 x2.Tx), (.int .i64 x2.Res), (.int .i64 x2.Mode)]), pt g1 26 ([v1, v2])] := hR
    refine ⟨⟨knw rfl rfl rfl (p_move rfl), ⟨knw rfl rfl rfl (p_ldb_one (i := 2) hS rfl rfl ia_3 rfl), ⟨knw rfl rfl rfl (p_fldb (o' := 1) rfl fi_33_1 rfl), ⟨knw rfl rfl rfl (p_ldb_one (i := 2) hS rfl rfl ia_3 rfl), ⟨knw rfl rfl rfl (p_fldb (o' := 0) rfl fi_33_0 rfl), ⟨knw rfl rfl rfl (p_ldb_one (i := 3) hS rfl rfl ia_24 rfl), ⟨knw rfl rfl rfl (p_fldb (o' := 0) rfl fi_26_0 rfl), ⟨knw rfl rfl rfl (p_nilck rfl), ⟨knw rfl rfl rfl (p_move rfl), ⟨knw rfl rfl rfl (p_move rfl), trivial⟩⟩⟩⟩⟩⟩⟩⟩⟩⟩, ?_⟩
    obtain ⟨hq2, H⟩ := hck H
    refine pkE [9, 8, 7, 6, 5, 3, 2, 1, 0] rfl (by decide) (by kernel_rfl) (by kernel_rfl) (e_append (n := 1) hS rfl rfl rfl (hS.src (n := 0) rfl) un_24 ti_33 rfl (by decide) (by decide) (Nat.le_trans (Nat.mul_le_mul_right 24 hq2) (by decide))) ?_
    intro v4 w hR
    have hS : St e s3 w [Ow kTGrant 33 v4 (x1 ++ ([(⟨x2.Tx, x2.Res, x3⟩ : TGrant)] : List TGrant)), Ow kTGrant 33 v3 ([(⟨x2.Tx, x2.Res, x3⟩ : TGrant)] : List TGrant), pt g2 33 ([(.int .i64 x2.Tx), (.int .i64 x2.Res), (.int .i64 x2.Mode)]), pt g1 26 ([v1, v2])] := hR
    replace hS := hS.sel (is := [0, 1, 1]) (A' := [Ow kTGrant 33 v4 (x1 ++ ([(⟨x2.Tx, x2.Res, x3⟩ : TGrant)] : List TGrant)), pt g2 33 ([(.int .i64 x2.Tx), (.int .i64 x2.Res), (.int .i64 x2.Mode)]), pt g1 26 ([v1, v2])]) rfl
    refine ⟨⟨knw rfl rfl rfl (p_move rfl), ⟨knw rfl rfl rfl (p_ldb_one (i := 1) hS rfl rfl ia_3 rfl), ⟨knw rfl rfl rfl (p_fldb (o' := 1) rfl fi_33_1 rfl), ⟨knw rfl rfl rfl (p_ldb_one (i := 1) hS rfl rfl ia_3 rfl), ⟨knw rfl rfl rfl (p_fldb (o' := 0) rfl fi_33_0 rfl), ⟨knw rfl rfl rfl (p_fldb (o' := 0) rfl fi_26_0 rfl), ⟨knw rfl rfl rfl (p_nilck rfl), ⟨knw rfl rfl rfl (p_move rfl), ⟨knw rfl rfl rfl (p_move rfl), trivial⟩⟩⟩⟩⟩⟩⟩⟩⟩, ?_⟩
    refine pk1 rfl (by decide) rfl (by kernel_rfl) rfl (p_nilck rfl) ?_
    refine pk1 rfl (by decide) rfl (by kernel_rfl) rfl (p_fldb (o' := 0) rfl fi_26_0 rfl) ?_
    refine pkE0 [13] rfl (by kernel_rfl) (by kernel_rfl) (e_stb (i := 2) (l := []) (m := [v1]) (r := [v2]) (m' := [v4]) (cs' := [v4, v2]) hS rfl rfl rfl ti_24 rfl rfl rfl (cells_one (hS.one_ow (i := 0) rfl)) rfl (one_cons (hS.one_ow (i := 0) rfl) one_nil) rfl) ?_
    intro v w hR
    have hS : St e s3 w [pt g1 26 ([v4, v2]), Ow kTGrant 33 v4 (x1 ++ ([(⟨x2.Tx, x2.Res, x3⟩ : TGrant)] : List TGrant)), pt g2 33 ([(.int .i64 x2.Tx), (.int .i64 x2.Res), (.int .i64 x2.Mode)])] := hR
    refine ⟨⟨knw rfl rfl rfl (p_nilck rfl), trivial⟩, ?_⟩
    refine pkF (fun a hF => ?_)
    obtain rfl := hsm H
    replace hS := hS.sel (is := [0, 0]) (A' := [pt g1 26 ([v4, v2]), Ow kTGrant 33 v4 (x1 ++ ([(⟨x2.Tx, x2.Res, x3⟩ : TGrant)] : List TGrant))]) rfl
    exact ret0 (Or.inr rfl) hF rfl hS ⟨v4, rfl, rfl⟩

def impl_Ask.c1 (k : Nat) (x1 : TLocks) (x2 : TLocks) (x3 : Int) (x4 : Int) (x5 : Int) (x6 : Int) (x7 : Int) (x8 : Bool) : Option (TLocks × Int) :=
  (if x8 = true then (some (x1, 0)) else ((impl_Grant_36_137.f k x2.Waits x3).bind fun x9 => ((impl_allGo.f k x2 (⟨x4, x3, x5⟩ : TGrant) x6).bind fun x10 => (if (x10 && ((decide (0 ≤ x7)) || (!x9))) = true then (if ((decide (x7 < 0)) && (decide (60 ≤ (x2.Given.length : Int)))) = true then (some (x1, 2)) else ((impl_Locks_give.f k x1.Given (⟨x4, x3, x5⟩ : TGrant) x6).bind fun x11 => (some ((⟨x11, x1.Waits⟩ : TLocks), 0)))) else (if (decide (60 ≤ (x2.Waits.length : Int))) = true then (some (x1, 2)) else (if x1.Waits.length + 1 ≤ 5864062014805 then (some ((⟨x1.Given, (x1.Waits ++ ([(⟨x4, x3, x5⟩ : TGrant)] : List TGrant))⟩ : TLocks), 1)) else none))))))
def impl_Ask.c2 (k : Nat) (x1 : TLocks) (x2 : TLocks) (x4 : Int) (x3 : Int) (x5 : Int) (x12 : Bool) : Option (TLocks × Int) :=
  (if x12 = true then (some (x1, 2)) else ((impl_would.f k x2 (⟨x4, x3, x5⟩ : TGrant)).bind fun x6 => ((impl_givenAt.f k x2 x4 x3).bind fun x7 => ((if (decide (0 ≤ x7)) = true then (if 0 ≤ x7 ∧ x7 < (x2.Given.length : Int) then (some (decide (((rd x2.Given x7).Mode) = x6))) else none) else (some false) : Option Bool).bind fun x13 => impl_Ask.c1 k x1 x2 x3 x4 x5 x6 x7 x13))))
def impl_Ask.c3 (k : Nat) (x2 : TLocks) (x4 : Int) (x1 : TLocks) (x3 : Int) (x5 : Int) (x14 : Bool) : Option (TLocks × Int) :=
  ((if x14 = true then (some true) else ((impl_waitAt.f k x2 x4).bind fun x15 => (some (decide (0 ≤ x15)))) : Option Bool).bind fun x16 => impl_Ask.c2 k x1 x2 x4 x3 x5 x16)
def impl_Ask.f (k : Nat) (x2 : TLocks) (x4 : Int) (x3 : Int) (x5 : Int) : Option (TLocks × Int) :=
  ((impl_cloneLocks.f k x2).bind fun x1 => ((impl_LocksOk.f k x2).bind fun x17 => ((if (!x17) = true then (some true) else ((impl_grantOk.f k (⟨x4, x3, x5⟩ : TGrant)).bind fun x18 => (some (!x18))) : Option Bool).bind fun x19 => impl_Ask.c3 k x2 x4 x1 x3 x5 x19)))
set_option maxRecDepth 100000 in
set_option maxHeartbeats 4000000 in
theorem impl_Ask.spec (k : Nat) (s0 : HF) (w : World) (x2 : TLocks) (x4 : Int) (x3 : Int) (x5 : Int) (v1 : Value) (v2 : Value) (h1 : Sl kTGrant s0 v1 x2.Given) (h2 : Sl kTGrant s0 v2 x2.Waits) (r : TLocks × Int) (H : impl_Ask.f k x2 x4 x3 x5 = some r) :
    Law Try.prog 8 #[(.agg #[v1, v2]), (.int .i64 x4), (.int .i64 x3), (.int .i64 x5)] s0 w [] (fun v s1 A1 => ∃ (u0 : Value) (u1 : Value), v = (.tuple #[(.agg #[u0, u1]), (.int .i64 r.2)]) ∧ A1 = [Ow kTGrant 33 u0 r.1.Given, Ow kTGrant 33 u1 r.1.Waits]) := by
  unfold impl_Ask.f at H
  refine Law.intro Try.func8 rfl [(0, (.agg #[v1, v2])), (1, (.int .i64 x4)), (2, (.int .i64 x3)), (3, (.int .i64 x5))] (Nat.le_of_ble_eq_true rfl) (enter_lk ⟨rfl, rfl, rfl, rfl, trivial⟩) (fun e a hS hF => ?_)
  have hF : Fr 97 a [(0, (.agg #[v1, v2])), (1, (.int .i64 x4)), (2, (.int .i64 x3)), (3, (.int .i64 x5))] := hF
  refine sq ?_
  refine rg ?_
  refine ste hF (e_box (cs := [v1, v2]) hS rfl rfl) (by decide) (fun v w a hR hF => ?_)
  obtain ⟨g1, rfl, hS⟩ := hR
  refine ste hF (e_box (cs := [(.int .i64 x3)]) hS rfl rfl) (by decide) (fun v w a hR hF => ?_)
  obtain ⟨g2, rfl, hS⟩ := hR
  refine ste hF (e_alloc (cs := [(.slice none 0 0), (.slice none 0 0)]) hS ti_26 rfl) (by decide) (fun v w a hR hF => ?_)
  obtain ⟨g3, rfl, hS⟩ := hR
  refine stp hF (p_assign rfl) (by decide) (fun a hF => ?_)
  refine nilN ?_
  refine xn ?_
  refine sq ?_
  refine rg ?_
  refine stp hF (p_ldb_agg (i := 2) (l := []) (m := [v1, v2]) (r := []) hS rfl rfl ia_26 ti_26 rfl rfl rfl) (by decide) (fun a hF => ?_)
  obtain ⟨x1, hx1, H⟩ := hb H
  refine ste hF (e_call (fst := []) (vs := [(.agg #[v1, v2])]) (cap := []) rfl rfl go_31 (St.call (A := []) (B := [pt g3 26 ([(.slice none 0 0), (.slice none 0 0)]), pt g2 3 ([(.int .i64 x3)]), pt g1 26 ([v1, v2])]) hS (impl_cloneLocks.spec k _ _ x2 v1 v2 h1 h2 _ hx1))) (by decide) (fun v w a hR hF => ?_)
  obtain ⟨s2, A2, hg1, hS, hR⟩ := hR
  obtain ⟨v3, v4, hv1, rfl⟩ := hR; obtain rfl := hv1.symm
  have hS : St e s2 w [Ow kTGrant 33 v3 x1.Given, Ow kTGrant 33 v4 x1.Waits, pt g3 26 ([(.slice none 0 0), (.slice none 0 0)]), pt g2 3 ([(.int .i64 x3)]), pt g1 26 ([v1, v2])] := hS
  refine ste hF (e_alloc (cs := [(.slice none 0 0), (.slice none 0 0)]) hS ti_26 rfl) (by decide) (fun v w a hR hF => ?_)
  obtain ⟨g4, rfl, hS⟩ := hR
  refine ste0 hF (e_stb (i := 0) (l := []) (m := [(.slice none 0 0), (.slice none 0 0)]) (r := []) (m' := [v3, v4]) (cs' := [v3, v4]) hS rfl rfl rfl ti_26 rfl rfl rfl rfl rfl (one_cons (hS.one_ow (i := 1) rfl) (one_cons (hS.one_ow (i := 2) rfl) one_nil)) rfl) (fun v w a hR hF => ?_)
  have hS : St e s2 w [pt g4 26 ([v3, v4]), Ow kTGrant 33 v3 x1.Given, Ow kTGrant 33 v4 x1.Waits, pt g3 26 ([(.slice none 0 0), (.slice none 0 0)]), pt g2 3 ([(.int .i64 x3)]), pt g1 26 ([v1, v2])] := hR
  refine nilN ?_
  refine xn ?_
  refine sq ?_
  refine rg ?_
  refine stp hF (p_move rfl) (by decide) (fun a hF => ?_)
  refine stp hF (p_ldb_one (i := 4) hS rfl rfl ia_3 rfl) (by decide) (fun a hF => ?_)
  refine stp hF (p_move rfl) (by decide) (fun a hF => ?_)
  refine stp hF (p_build (ps := [(0, (.tmp 17)), (1, (.tmp 18)), (2, (.tmp 19))]) (vs := [(0, (.int .i64 x4)), (1, (.int .i64 x3)), (2, (.int .i64 x5))]) (v := (.agg #[(.int .i64 x4), (.int .i64 x3), (.int .i64 x5)])) rfl (by intro w; kernel_rfl)) (by decide) (fun a hF => ?_)
  refine ste hF (e_alloc (cs := [(.int .i64 0), (.int .i64 0), (.int .i64 0)]) hS ti_33 rfl) (by decide) (fun v w a hR hF => ?_)
  obtain ⟨g5, rfl, hS⟩ := hR
  refine ste0 hF (e_stb (i := 0) (l := []) (m := [(.int .i64 0), (.int .i64 0), (.int .i64 0)]) (r := []) (m' := [(.int .i64 x4), (.int .i64 x3), (.int .i64 x5)]) (cs' := [(.int .i64 x4), (.int .i64 x3), (.int .i64 x5)]) hS rfl rfl rfl ti_33 rfl rfl rfl rfl rfl (one_cons rfl (one_cons rfl (one_cons rfl one_nil))) rfl) (fun v w a hR hF => ?_)
  have hS : St e s2 w [pt g5 33 ([(.int .i64 x4), (.int .i64 x3), (.int .i64 x5)]), pt g4 26 ([v3, v4]), Ow kTGrant 33 v3 x1.Given, Ow kTGrant 33 v4 x1.Waits, pt g3 26 ([(.slice none 0 0), (.slice none 0 0)]), pt g2 3 ([(.int .i64 x3)]), pt g1 26 ([v1, v2])] := hR
  refine nilN ?_
  refine xn ?_
  refine sq ?_
  refine sq ?_
  refine rg ?_
  refine stp hF (p_ldb_agg (i := 6) (l := []) (m := [v1, v2]) (r := []) hS rfl rfl ia_26 ti_26 rfl rfl rfl) (by decide) (fun a hF => ?_)
  obtain ⟨x17, hx2, H⟩ := hb H
  refine ste hF (e_call (fst := []) (vs := [(.agg #[v1, v2])]) (cap := []) rfl rfl go_10 (St.call (A := []) (B := [pt g5 33 ([(.int .i64 x4), (.int .i64 x3), (.int .i64 x5)]), pt g4 26 ([v3, v4]), Ow kTGrant 33 v3 x1.Given, Ow kTGrant 33 v4 x1.Waits, pt g3 26 ([(.slice none 0 0), (.slice none 0 0)]), pt g2 3 ([(.int .i64 x3)]), pt g1 26 ([v1, v2])]) hS (impl_LocksOk.spec k _ _ x2 v1 v2 (h1.mono hg1) (h2.mono hg1) _ hx2))) (by decide) (fun v w a hR hF => ?_)
  obtain ⟨s3, A3, hg2, hS, hR⟩ := hR
  obtain ⟨hv2, rfl⟩ := hR; obtain rfl := hv2.symm
  have hS : St e s3 w [pt g5 33 ([(.int .i64 x4), (.int .i64 x3), (.int .i64 x5)]), pt g4 26 ([v3, v4]), Ow kTGrant 33 v3 x1.Given, Ow kTGrant 33 v4 x1.Waits, pt g3 26 ([(.slice none 0 0), (.slice none 0 0)]), pt g2 3 ([(.int .i64 x3)]), pt g1 26 ([v1, v2])] := hS
  refine stp hF (p_not rfl) (by decide) (fun a hF => ?_)
  refine stp hF (p_move rfl) (by decide) (fun a hF => ?_)
  obtain ⟨x19, H, HK1⟩ := hb H
  refine cutj 4 (fun a w => ∃ (x14 : Bool) (s4 : HF) , St e s4 w [pt g5 33 ([(.int .i64 x4), (.int .i64 x3), (.int .i64 x5)]), pt g4 26 ([v3, v4]), Ow kTGrant 33 v3 x1.Given, Ow kTGrant 33 v4 x1.Waits, pt g3 26 ([(.slice none 0 0), (.slice none 0 0)]), pt g2 3 ([(.int .i64 x3)]), pt g1 26 ([v1, v2])] ∧ Fr 97 a [(1, (.int .i64 x4)), (4, (.pointer (some ⟨g1, 0, none⟩))), (6, (.pointer (some ⟨g2, 0, none⟩))), (8, (.pointer (some ⟨g3, 0, none⟩))), (10, (.pointer (some ⟨g4, 0, none⟩))), (11, (.pointer (some ⟨g5, 0, none⟩))), (28, (.bool x14))] ∧ Sub s3 s4 ∧ impl_Ask.c3 k x2 x4 x1 x3 x5 x14 = some r) rfl rfl ?_ ?_
  · rcases Bool.eq_false_or_eq_true ((!x17)) with hc1 | hc1
    · replace H := hbt hc1 H
      refine gofD (j := 3) hF rfl rfl (by rw [hc1]; decide) (by decide) (fun a hF => ?_)
      refine gofD (j := 3) hF rfl rfl (by rw [hc1]; decide) (by decide) (fun a hF => ?_)
      refine gofD (j := 3) hF rfl rfl (by rw [hc1]; decide) (by decide) (fun a hF => ?_)
      refine stp hF (p_pickT rfl hc1 rfl) (by decide) (fun a hF => ?_)
      refine nilN ?_
      refine xn ?_
      obtain rfl := hsm H
      exact ⟨true, s3, hS, hF.cut ⟨rfl, rfl, rfl, rfl, rfl, rfl, rfl, trivial⟩, (Sub.refl _), HK1⟩
    · replace H := hbf hc1 H
      refine gonE (j := 3) hF rfl rfl hc1 ?_
      refine stp hF (p_ldb_agg (i := 0) (l := []) (m := [(.int .i64 x4), (.int .i64 x3), (.int .i64 x5)]) (r := []) hS rfl rfl ia_33 ti_33 rfl rfl rfl) (by decide) (fun a hF => ?_)
      obtain ⟨x18, hx3, H⟩ := hb H
      refine gonE (j := 3) hF rfl rfl hc1 ?_
      refine ste hF (e_call (fst := []) (vs := [(.agg #[(.int .i64 x4), (.int .i64 x3), (.int .i64 x5)])]) (cap := []) rfl rfl go_32 (St.call (A := []) (B := [pt g5 33 ([(.int .i64 x4), (.int .i64 x3), (.int .i64 x5)]), pt g4 26 ([v3, v4]), Ow kTGrant 33 v3 x1.Given, Ow kTGrant 33 v4 x1.Waits, pt g3 26 ([(.slice none 0 0), (.slice none 0 0)]), pt g2 3 ([(.int .i64 x3)]), pt g1 26 ([v1, v2])]) hS (impl_grantOk.spec k _ _ (⟨x4, x3, x5⟩ : TGrant) _ hx3))) (by decide) (fun v w a hR hF => ?_)
      obtain ⟨s5, A4, hg3, hS, hR⟩ := hR
      obtain ⟨hv3, rfl⟩ := hR; obtain rfl := hv3.symm
      have hS : St e s5 w [pt g5 33 ([(.int .i64 x4), (.int .i64 x3), (.int .i64 x5)]), pt g4 26 ([v3, v4]), Ow kTGrant 33 v3 x1.Given, Ow kTGrant 33 v4 x1.Waits, pt g3 26 ([(.slice none 0 0), (.slice none 0 0)]), pt g2 3 ([(.int .i64 x3)]), pt g1 26 ([v1, v2])] := hS
      refine gonE (j := 3) hF rfl rfl hc1 ?_
      refine stp hF (p_not rfl) (by decide) (fun a hF => ?_)
      refine stp hF (p_pickF rfl hc1 rfl) (by decide) (fun a hF => ?_)
      refine nilN ?_
      refine xn ?_
      obtain rfl := hsm H
      exact ⟨(!x18), s5, hS, hF.cut ⟨rfl, rfl, rfl, rfl, rfl, rfl, rfl, trivial⟩, hg3, HK1⟩
  · clear H HK1 hS hF
    rintro a w ⟨x14, s4, hS, hF, hg4, H⟩
    unfold impl_Ask.c3 at H
    refine stp hF (p_move rfl) (by decide) (fun a hF => ?_)
    obtain ⟨x16, H, HK2⟩ := hb H
    refine cutj 5 (fun a w => ∃ (x12 : Bool) (s6 : HF) , St e s6 w [pt g5 33 ([(.int .i64 x4), (.int .i64 x3), (.int .i64 x5)]), pt g4 26 ([v3, v4]), Ow kTGrant 33 v3 x1.Given, Ow kTGrant 33 v4 x1.Waits, pt g3 26 ([(.slice none 0 0), (.slice none 0 0)]), pt g2 3 ([(.int .i64 x3)]), pt g1 26 ([v1, v2])] ∧ Fr 97 a [(1, (.int .i64 x4)), (4, (.pointer (some ⟨g1, 0, none⟩))), (6, (.pointer (some ⟨g2, 0, none⟩))), (8, (.pointer (some ⟨g3, 0, none⟩))), (10, (.pointer (some ⟨g4, 0, none⟩))), (11, (.pointer (some ⟨g5, 0, none⟩))), (34, (.bool x12))] ∧ Sub s4 s6 ∧ impl_Ask.c2 k x1 x2 x4 x3 x5 x12 = some r) rfl rfl ?_ ?_
    · rcases Bool.eq_false_or_eq_true (x14) with hc2 | hc2
      · replace H := hbt hc2 H
        refine gofD (j := 8) hF rfl rfl (by rw [hc2]; decide) (by decide) (fun a hF => ?_)
        refine gofD (j := 8) hF rfl rfl (by rw [hc2]; decide) (by decide) (fun a hF => ?_)
        refine gofD (j := 8) hF rfl rfl (by rw [hc2]; decide) (by decide) (fun a hF => ?_)
        refine gofD (j := 8) hF rfl rfl (by rw [hc2]; decide) (by decide) (fun a hF => ?_)
        refine stp hF (p_pickT rfl hc2 rfl) (by decide) (fun a hF => ?_)
        refine nilN ?_
        refine xn ?_
        obtain rfl := hsm H
        exact ⟨true, s4, hS, hF.cut ⟨rfl, rfl, rfl, rfl, rfl, rfl, rfl, trivial⟩, (Sub.refl _), HK2⟩
      · replace H := hbf hc2 H
        refine gonE (j := 8) hF rfl rfl hc2 ?_
        refine stp hF (p_ldb_agg (i := 6) (l := []) (m := [v1, v2]) (r := []) hS rfl rfl ia_26 ti_26 rfl rfl rfl) (by decide) (fun a hF => ?_)
        refine gonE (j := 8) hF rfl rfl hc2 ?_
        refine stp hF (p_move rfl) (by decide) (fun a hF => ?_)
        obtain ⟨x15, hx4, H⟩ := hb H
        refine gonE (j := 8) hF rfl rfl hc2 ?_
        refine ste hF (e_call (fst := []) (vs := [(.agg #[v1, v2]), (.int .i64 x4)]) (cap := []) rfl rfl go_33 (St.call (A := []) (B := [pt g5 33 ([(.int .i64 x4), (.int .i64 x3), (.int .i64 x5)]), pt g4 26 ([v3, v4]), Ow kTGrant 33 v3 x1.Given, Ow kTGrant 33 v4 x1.Waits, pt g3 26 ([(.slice none 0 0), (.slice none 0 0)]), pt g2 3 ([(.int .i64 x3)]), pt g1 26 ([v1, v2])]) hS (impl_waitAt.spec k _ _ x2 x4 v1 v2 (((h1.mono hg1).mono hg2).mono hg4) (((h2.mono hg1).mono hg2).mono hg4) _ hx4))) (by decide) (fun v w a hR hF => ?_)
        obtain ⟨s7, A5, hg5, hS, hR⟩ := hR
        obtain ⟨hv4, rfl⟩ := hR; obtain rfl := hv4.symm
        have hS : St e s7 w [pt g5 33 ([(.int .i64 x4), (.int .i64 x3), (.int .i64 x5)]), pt g4 26 ([v3, v4]), Ow kTGrant 33 v3 x1.Given, Ow kTGrant 33 v4 x1.Waits, pt g3 26 ([(.slice none 0 0), (.slice none 0 0)]), pt g2 3 ([(.int .i64 x3)]), pt g1 26 ([v1, v2])] := hS
        refine gonE (j := 8) hF rfl rfl hc2 ?_
        refine stp hF (p_geq rfl rfl) (by decide) (fun a hF => ?_)
        refine stp hF (p_pickF rfl hc2 rfl) (by decide) (fun a hF => ?_)
        refine nilN ?_
        refine xn ?_
        obtain rfl := hsm H
        exact ⟨(decide (0 ≤ x15)), s7, hS, hF.cut ⟨rfl, rfl, rfl, rfl, rfl, rfl, rfl, trivial⟩, hg5, HK2⟩
    · clear H HK2 hS hF
      rintro a w ⟨x12, s6, hS, hF, hg6, H⟩
      unfold impl_Ask.c2 at H
      refine nilN ?_
      refine xn ?_
      refine cnd hF rfl (fun hc3 => ?_) (fun hc3 => ?_)
      · replace H := hbt hc3 H
        refine sq ?_
        refine rg ?_
        refine stp hF (p_ldb_agg (i := 1) (l := []) (m := [v3, v4]) (r := []) hS rfl rfl ia_26 ti_26 rfl rfl rfl) (by decide) (fun a hF => ?_)
        refine ste0 hF (e_stb (i := 4) (l := []) (m := [(.slice none 0 0), (.slice none 0 0)]) (r := []) (m' := [v3, v4]) (cs' := [v3, v4]) hS rfl rfl rfl ti_26 rfl rfl rfl rfl rfl (one_cons (hS.one_ow (i := 2) rfl) (one_cons (hS.one_ow (i := 3) rfl) one_nil)) rfl) (fun v w a hR hF => ?_)
        have hS : St e s6 w [pt g3 26 ([v3, v4]), pt g5 33 ([(.int .i64 x4), (.int .i64 x3), (.int .i64 x5)]), pt g4 26 ([v3, v4]), Ow kTGrant 33 v3 x1.Given, Ow kTGrant 33 v4 x1.Waits, pt g2 3 ([(.int .i64 x3)]), pt g1 26 ([v1, v2])] := hR
        refine stp hF (p_assign rfl) (by decide) (fun a hF => ?_)
        refine nilN ?_
        refine xn ?_
        refine rt ?_
        refine xr ?_
        obtain rfl := hsm H
        have h3 : RvOk Try.prog _ w (.cell 8 26) _ := rvC (i := 0) hS rfl (show lk [(8, (.pointer (some ⟨g3, 0, none⟩))), (9, (.int .i64 2))] 8 = _ from rfl) ia_26 ti_26 rfl
        replace hS := hS.sel (is := [3, 3]) (A' := [Ow kTGrant 33 v3 x1.Given, Ow kTGrant 33 v4 x1.Waits]) rfl
        exact retc2 hF rfl h3 (rvT rfl) hS ⟨v3, v4, rfl, rfl⟩
      · replace H := hbf hc3 H
        refine skN ?_
        refine xn ?_
        refine sq ?_
        refine rg ?_
        refine stp hF (p_ldb_agg (i := 6) (l := []) (m := [v1, v2]) (r := []) hS rfl rfl ia_26 ti_26 rfl rfl rfl) (by decide) (fun a hF => ?_)
        refine stp hF (p_ldb_agg (i := 0) (l := []) (m := [(.int .i64 x4), (.int .i64 x3), (.int .i64 x5)]) (r := []) hS rfl rfl ia_33 ti_33 rfl rfl rfl) (by decide) (fun a hF => ?_)
        obtain ⟨x6, hx5, H⟩ := hb H
        refine ste hF (e_call (fst := []) (vs := [(.agg #[v1, v2]), (.agg #[(.int .i64 x4), (.int .i64 x3), (.int .i64 x5)])]) (cap := []) rfl rfl go_34 (St.call (A := []) (B := [pt g5 33 ([(.int .i64 x4), (.int .i64 x3), (.int .i64 x5)]), pt g4 26 ([v3, v4]), Ow kTGrant 33 v3 x1.Given, Ow kTGrant 33 v4 x1.Waits, pt g3 26 ([(.slice none 0 0), (.slice none 0 0)]), pt g2 3 ([(.int .i64 x3)]), pt g1 26 ([v1, v2])]) hS (impl_would.spec k _ _ x2 (⟨x4, x3, x5⟩ : TGrant) v1 v2 ((((h1.mono hg1).mono hg2).mono hg4).mono hg6) _ hx5))) (by decide) (fun v w a hR hF => ?_)
        obtain ⟨s8, A6, hg7, hS, hR⟩ := hR
        obtain ⟨hv5, rfl⟩ := hR; obtain rfl := hv5.symm
        have hS : St e s8 w [pt g5 33 ([(.int .i64 x4), (.int .i64 x3), (.int .i64 x5)]), pt g4 26 ([v3, v4]), Ow kTGrant 33 v3 x1.Given, Ow kTGrant 33 v4 x1.Waits, pt g3 26 ([(.slice none 0 0), (.slice none 0 0)]), pt g2 3 ([(.int .i64 x3)]), pt g1 26 ([v1, v2])] := hS
        refine stp hF (p_assign rfl) (by decide) (fun a hF => ?_)
        refine nilN ?_
        refine xn ?_
        refine sq ?_
        refine rg ?_
        refine stp hF (p_ldb_agg (i := 6) (l := []) (m := [v1, v2]) (r := []) hS rfl rfl ia_26 ti_26 rfl rfl rfl) (by decide) (fun a hF => ?_)
        refine stp hF (p_move rfl) (by decide) (fun a hF => ?_)
        refine stp hF (p_ldb_one (i := 5) hS rfl rfl ia_3 rfl) (by decide) (fun a hF => ?_)
        obtain ⟨x7, hx6, H⟩ := hb H
        refine ste hF (e_call (fst := []) (vs := [(.agg #[v1, v2]), (.int .i64 x4), (.int .i64 x3)]) (cap := []) rfl rfl go_35 (St.call (A := []) (B := [pt g5 33 ([(.int .i64 x4), (.int .i64 x3), (.int .i64 x5)]), pt g4 26 ([v3, v4]), Ow kTGrant 33 v3 x1.Given, Ow kTGrant 33 v4 x1.Waits, pt g3 26 ([(.slice none 0 0), (.slice none 0 0)]), pt g2 3 ([(.int .i64 x3)]), pt g1 26 ([v1, v2])]) hS (impl_givenAt.spec k _ _ x2 x4 x3 v1 v2 (((((h1.mono hg1).mono hg2).mono hg4).mono hg6).mono hg7) _ hx6))) (by decide) (fun v w a hR hF => ?_)
        obtain ⟨s9, A7, hg8, hS, hR⟩ := hR
        obtain ⟨hv6, rfl⟩ := hR; obtain rfl := hv6.symm
        have hS : St e s9 w [pt g5 33 ([(.int .i64 x4), (.int .i64 x3), (.int .i64 x5)]), pt g4 26 ([v3, v4]), Ow kTGrant 33 v3 x1.Given, Ow kTGrant 33 v4 x1.Waits, pt g3 26 ([(.slice none 0 0), (.slice none 0 0)]), pt g2 3 ([(.int .i64 x3)]), pt g1 26 ([v1, v2])] := hS
        refine stp hF (p_assign rfl) (by decide) (fun a hF => ?_)
        refine nilN ?_
        refine xn ?_
        refine sq ?_
        refine sq ?_
        refine rg ?_
        refine stp hF (p_move rfl) (by decide) (fun a hF => ?_)
        refine stp hF (p_geq rfl rfl) (by decide) (fun a hF => ?_)
        refine stp hF (p_move rfl) (by decide) (fun a hF => ?_)
        obtain ⟨x13, H, HK3⟩ := hb H
        refine cutj 9 (fun a w => ∃ (x8 : Bool) , St e s9 w [pt g5 33 ([(.int .i64 x4), (.int .i64 x3), (.int .i64 x5)]), pt g4 26 ([v3, v4]), Ow kTGrant 33 v3 x1.Given, Ow kTGrant 33 v4 x1.Waits, pt g3 26 ([(.slice none 0 0), (.slice none 0 0)]), pt g2 3 ([(.int .i64 x3)]), pt g1 26 ([v1, v2])] ∧ Fr 97 a [(4, (.pointer (some ⟨g1, 0, none⟩))), (6, (.pointer (some ⟨g2, 0, none⟩))), (8, (.pointer (some ⟨g3, 0, none⟩))), (10, (.pointer (some ⟨g4, 0, none⟩))), (11, (.pointer (some ⟨g5, 0, none⟩))), (12, (.int .i64 x6)), (13, (.int .i64 x7)), (54, (.bool x8))] ∧ impl_Ask.c1 k x1 x2 x3 x4 x5 x6 x7 x8 = some r) rfl rfl ?_ ?_
        · rcases Bool.eq_false_or_eq_true (decide (0 ≤ x7)) with hc4 | hc4
          · replace H := hbt hc4 H
            refine gonE (j := 2) hF rfl rfl hc4 ?_
            refine stp hF (p_fldb (o' := 0) rfl fi_26_0 rfl) (by decide) (fun a hF => ?_)
            refine gonE (j := 2) hF rfl rfl hc4 ?_
            refine stp hF (p_ldb_one (i := 6) hS rfl rfl ia_24 rfl) (by decide) (fun a hF => ?_)
            refine gonE (j := 2) hF rfl rfl hc4 ?_
            refine stp hF (p_move rfl) (by decide) (fun a hF => ?_)
            obtain ⟨hq1, H⟩ := hck H
            obtain ⟨ad1, h4, p1⟩ := p_idxr (P := Try.prog) (i := x7) ((((((h1.mono hg1).mono hg2).mono hg4).mono hg6).mono hg7).mono hg8) un_24 ti_33 hq1.1 hq1.2
            refine gonE (j := 2) hF rfl rfl hc4 ?_
            refine stp hF (p1 rfl rfl) (by decide) (fun a hF => ?_)
            have h5 : Pr (Kd.int .i64) s9 (ad1.add 2) ((rd x2.Given x7).Mode) := h4.lens kTGrant_Mode
            refine gonE (j := 2) hF rfl rfl hc4 ?_
            refine stp hF (p_fld rfl fi_33_2) (by decide) (fun a hF => ?_)
            refine gonE (j := 2) hF rfl rfl hc4 ?_
            refine stp hF (p_ldr_int rfl hS h5 ia_3) (by decide) (fun a hF => ?_)
            refine gonE (j := 2) hF rfl rfl hc4 ?_
            refine stp hF (p_move rfl) (by decide) (fun a hF => ?_)
            refine gonE (j := 2) hF rfl rfl hc4 ?_
            refine stp hF (p_eql rfl rfl) (by decide) (fun a hF => ?_)
            refine stp hF (p_pickT rfl hc4 rfl) (by decide) (fun a hF => ?_)
            refine nilN ?_
            refine xn ?_
            obtain rfl := hsm H
            exact ⟨(decide (((rd x2.Given x7).Mode) = x6)), hS, hF.cut ⟨rfl, rfl, rfl, rfl, rfl, rfl, rfl, rfl, trivial⟩, HK3⟩
          · replace H := hbf hc4 H
            refine gofD (j := 2) hF rfl rfl (by rw [hc4]; decide) (by decide) (fun a hF => ?_)
            refine gofD (j := 2) hF rfl rfl (by rw [hc4]; decide) (by decide) (fun a hF => ?_)
            refine gofD (j := 2) hF rfl rfl (by rw [hc4]; decide) (by decide) (fun a hF => ?_)
            refine gofD (j := 2) hF rfl rfl (by rw [hc4]; decide) (by decide) (fun a hF => ?_)
            refine gofD (j := 2) hF rfl rfl (by rw [hc4]; decide) (by decide) (fun a hF => ?_)
            refine gofD (j := 2) hF rfl rfl (by rw [hc4]; decide) (by decide) (fun a hF => ?_)
            refine gofD (j := 2) hF rfl rfl (by rw [hc4]; decide) (by decide) (fun a hF => ?_)
            refine gofD (j := 2) hF rfl rfl (by rw [hc4]; decide) (by decide) (fun a hF => ?_)
            refine stp hF (p_pickF rfl hc4 rfl) (by decide) (fun a hF => ?_)
            refine nilN ?_
            refine xn ?_
            obtain rfl := hsm H
            exact ⟨false, hS, hF.cut ⟨rfl, rfl, rfl, rfl, rfl, rfl, rfl, rfl, trivial⟩, HK3⟩
        · clear H HK3 hS hF
          rintro a w ⟨x8, hS, hF, H⟩
          unfold impl_Ask.c1 at H
          refine nilN ?_
          refine xn ?_
          refine cnd hF rfl (fun hc5 => ?_) (fun hc5 => ?_)
          · replace H := hbt hc5 H
            refine sq ?_
            refine rg ?_
            refine stp hF (p_ldb_agg (i := 1) (l := []) (m := [v3, v4]) (r := []) hS rfl rfl ia_26 ti_26 rfl rfl rfl) (by decide) (fun a hF => ?_)
            refine ste0 hF (e_stb (i := 4) (l := []) (m := [(.slice none 0 0), (.slice none 0 0)]) (r := []) (m' := [v3, v4]) (cs' := [v3, v4]) hS rfl rfl rfl ti_26 rfl rfl rfl rfl rfl (one_cons (hS.one_ow (i := 2) rfl) (one_cons (hS.one_ow (i := 3) rfl) one_nil)) rfl) (fun v w a hR hF => ?_)
            have hS : St e s9 w [pt g3 26 ([v3, v4]), pt g5 33 ([(.int .i64 x4), (.int .i64 x3), (.int .i64 x5)]), pt g4 26 ([v3, v4]), Ow kTGrant 33 v3 x1.Given, Ow kTGrant 33 v4 x1.Waits, pt g2 3 ([(.int .i64 x3)]), pt g1 26 ([v1, v2])] := hR
            refine stp hF (p_assign rfl) (by decide) (fun a hF => ?_)
            refine nilN ?_
            refine xn ?_
            refine rt ?_
            refine xr ?_
            obtain rfl := hsm H
            have h6 : RvOk Try.prog _ w (.cell 8 26) _ := rvC (i := 0) hS rfl (show lk [(8, (.pointer (some ⟨g3, 0, none⟩))), (9, (.int .i64 0))] 8 = _ from rfl) ia_26 ti_26 rfl
            replace hS := hS.sel (is := [3, 3]) (A' := [Ow kTGrant 33 v3 x1.Given, Ow kTGrant 33 v4 x1.Waits]) rfl
            exact retc2 hF rfl h6 (rvT rfl) hS ⟨v3, v4, rfl, rfl⟩
          · replace H := hbf hc5 H
            refine skN ?_
            refine xn ?_
            refine sq ?_
            refine rg ?_
            refine stp hF (p_fldb (o' := 1) rfl fi_26_1 rfl) (by decide) (fun a hF => ?_)
            refine stp hF (p_ldb_one (i := 6) hS rfl rfl ia_24 rfl) (by decide) (fun a hF => ?_)
            obtain ⟨s10, hg9, h7, hS⟩ := hS.freezeB (i := 5) (g := g2) (T := 3) (cs := [(.int .i64 x3)]) (B := [pt g5 33 ([(.int .i64 x4), (.int .i64 x3), (.int .i64 x5)]), pt g4 26 ([v3, v4]), Ow kTGrant 33 v3 x1.Given, Ow kTGrant 33 v4 x1.Waits, pt g3 26 ([(.slice none 0 0), (.slice none 0 0)]), pt g1 26 ([v1, v2])]) rfl
            have h8 : Pr (Kd.int .i64) s10 ⟨g2, 0, none⟩ x3 := Pr.box h7 (by exact rfl)
            refine stp hF (p_makefunc (fs := []) (cs := [(.tmp 6)]) rfl rfl) (by decide) (fun a hF => ?_)
            obtain ⟨x9, hx7, H⟩ := hb H
            refine ste hF (e_call (fst := []) (vs := [v2, (.func (.func 37) #[] #[(.pointer (some (⟨g2, 0, none⟩ : Addr)))])]) (cap := []) rfl rfl go_36 (St.call (A := []) (B := [pt g5 33 ([(.int .i64 x4), (.int .i64 x3), (.int .i64 x5)]), pt g4 26 ([v3, v4]), Ow kTGrant 33 v3 x1.Given, Ow kTGrant 33 v4 x1.Waits, pt g3 26 ([(.slice none 0 0), (.slice none 0 0)]), pt g1 26 ([v1, v2])]) hS (impl_Grant_36_137.spec k _ _ x2.Waits x3 v2 (⟨g2, 0, none⟩ : Addr) (((((((h2.mono hg1).mono hg2).mono hg4).mono hg6).mono hg7).mono hg8).mono hg9) h8 _ hx7))) (by decide) (fun v w a hR hF => ?_)
            obtain ⟨s11, A8, hg10, hS, hR⟩ := hR
            obtain ⟨hv7, rfl⟩ := hR; obtain rfl := hv7.symm
            have hS : St e s11 w [pt g5 33 ([(.int .i64 x4), (.int .i64 x3), (.int .i64 x5)]), pt g4 26 ([v3, v4]), Ow kTGrant 33 v3 x1.Given, Ow kTGrant 33 v4 x1.Waits, pt g3 26 ([(.slice none 0 0), (.slice none 0 0)]), pt g1 26 ([v1, v2])] := hS
            refine stp hF (p_assign rfl) (by decide) (fun a hF => ?_)
            refine nilN ?_
            refine xn ?_
            refine sq ?_
            refine sq ?_
            refine rg ?_
            refine stp hF (p_ldb_agg (i := 5) (l := []) (m := [v1, v2]) (r := []) hS rfl rfl ia_26 ti_26 rfl rfl rfl) (by decide) (fun a hF => ?_)
            refine stp hF (p_ldb_agg (i := 0) (l := []) (m := [(.int .i64 x4), (.int .i64 x3), (.int .i64 x5)]) (r := []) hS rfl rfl ia_33 ti_33 rfl rfl rfl) (by decide) (fun a hF => ?_)
            refine stp hF (p_move rfl) (by decide) (fun a hF => ?_)
            obtain ⟨x10, hx8, H⟩ := hb H
            refine ste hF (e_call (fst := []) (vs := [(.agg #[v1, v2]), (.agg #[(.int .i64 x4), (.int .i64 x3), (.int .i64 x5)]), (.int .i64 x6)]) (cap := []) rfl rfl go_38 (St.call (A := []) (B := [pt g5 33 ([(.int .i64 x4), (.int .i64 x3), (.int .i64 x5)]), pt g4 26 ([v3, v4]), Ow kTGrant 33 v3 x1.Given, Ow kTGrant 33 v4 x1.Waits, pt g3 26 ([(.slice none 0 0), (.slice none 0 0)]), pt g1 26 ([v1, v2])]) hS (impl_allGo.spec k _ _ x2 (⟨x4, x3, x5⟩ : TGrant) x6 v1 v2 ((((((((h1.mono hg1).mono hg2).mono hg4).mono hg6).mono hg7).mono hg8).mono hg9).mono hg10) _ hx8))) (by decide) (fun v w a hR hF => ?_)
            obtain ⟨s12, A9, hg11, hS, hR⟩ := hR
            obtain ⟨hv8, rfl⟩ := hR; obtain rfl := hv8.symm
            have hS : St e s12 w [pt g5 33 ([(.int .i64 x4), (.int .i64 x3), (.int .i64 x5)]), pt g4 26 ([v3, v4]), Ow kTGrant 33 v3 x1.Given, Ow kTGrant 33 v4 x1.Waits, pt g3 26 ([(.slice none 0 0), (.slice none 0 0)]), pt g1 26 ([v1, v2])] := hS
            refine stp hF (p_move rfl) (by decide) (fun a hF => ?_)
            refine cutj 7 (fun a w => St e s12 w [pt g5 33 ([(.int .i64 x4), (.int .i64 x3), (.int .i64 x5)]), pt g4 26 ([v3, v4]), Ow kTGrant 33 v3 x1.Given, Ow kTGrant 33 v4 x1.Waits, pt g3 26 ([(.slice none 0 0), (.slice none 0 0)]), pt g1 26 ([v1, v2])] ∧ Fr 97 a [(4, (.pointer (some ⟨g1, 0, none⟩))), (8, (.pointer (some ⟨g3, 0, none⟩))), (10, (.pointer (some ⟨g4, 0, none⟩))), (11, (.pointer (some ⟨g5, 0, none⟩))), (12, (.int .i64 x6)), (13, (.int .i64 x7)), (71, (.bool (x10 && ((decide (0 ≤ x7)) || (!x9)))))]) rfl rfl ?_ ?_
            · rcases Bool.eq_false_or_eq_true (x10) with hc6 | hc6
              · skip
                refine gonE (j := 4) hF rfl rfl hc6 ?_
                refine stp hF (p_move rfl) (by decide) (fun a hF => ?_)
                refine gonE (j := 4) hF rfl rfl hc6 ?_
                refine stp hF (p_geq rfl rfl) (by decide) (fun a hF => ?_)
                refine gonE (j := 4) hF rfl rfl hc6 ?_
                refine stp hF (p_move rfl) (by decide) (fun a hF => ?_)
                refine cutj 3 (fun a w => St e s12 w [pt g5 33 ([(.int .i64 x4), (.int .i64 x3), (.int .i64 x5)]), pt g4 26 ([v3, v4]), Ow kTGrant 33 v3 x1.Given, Ow kTGrant 33 v4 x1.Waits, pt g3 26 ([(.slice none 0 0), (.slice none 0 0)]), pt g1 26 ([v1, v2])] ∧ Fr 97 a [(4, (.pointer (some ⟨g1, 0, none⟩))), (8, (.pointer (some ⟨g3, 0, none⟩))), (10, (.pointer (some ⟨g4, 0, none⟩))), (11, (.pointer (some ⟨g5, 0, none⟩))), (12, (.int .i64 x6)), (13, (.int .i64 x7)), (64, (.bool x10)), (70, (.bool ((decide (0 ≤ x7)) || (!x9))))]) rfl rfl ?_ ?_
                · rcases Bool.eq_false_or_eq_true (decide (0 ≤ x7)) with hc7 | hc7
                  · skip
                    refine gofD (j := 7) hF rfl rfl (by rw [hc7]; decide) (by decide) (fun a hF => ?_)
                    refine gofD (j := 7) hF rfl rfl (by rw [hc7]; decide) (by decide) (fun a hF => ?_)
                    refine gonE (j := 4) hF rfl rfl hc6 ?_
                    refine stp hF (p_orT (!x9) rfl hc7 rfl) (by decide) (fun a hF => ?_)
                    refine nilN ?_
                    refine xn ?_
                    exact ⟨hS, hF.cut ⟨rfl, rfl, rfl, rfl, rfl, rfl, rfl, rfl, trivial⟩⟩
                  · skip
                    refine gonE (j := 7) hF rfl rfl hc7 ?_
                    refine stp hF (p_move rfl) (by decide) (fun a hF => ?_)
                    refine gonE (j := 7) hF rfl rfl hc7 ?_
                    refine stp hF (p_not rfl) (by decide) (fun a hF => ?_)
                    refine gonE (j := 4) hF rfl rfl hc6 ?_
                    refine stp hF (p_orF rfl hc7 rfl) (by decide) (fun a hF => ?_)
                    refine nilN ?_
                    refine xn ?_
                    exact ⟨hS, hF.cut ⟨rfl, rfl, rfl, rfl, rfl, rfl, rfl, rfl, trivial⟩⟩
                clear hS hF
                rintro a w ⟨hS, hF⟩
                refine stp hF (p_andT rfl hc6 rfl) (by decide) (fun a hF => ?_)
                refine nilN ?_
                refine xn ?_
                exact ⟨hS, hF.cut ⟨rfl, rfl, rfl, rfl, rfl, rfl, rfl, trivial⟩⟩
              · skip
                refine gofD (j := 4) hF rfl rfl (by rw [hc6]; decide) (by decide) (fun a hF => ?_)
                refine gofD (j := 4) hF rfl rfl (by rw [hc6]; decide) (by decide) (fun a hF => ?_)
                refine gofD (j := 4) hF rfl rfl (by rw [hc6]; decide) (by decide) (fun a hF => ?_)
                refine gofU (j := 7) hF rfl rfl (by decide) (fun a hF => ?_)
                refine gofU (j := 7) hF rfl rfl (by decide) (fun a hF => ?_)
                refine gofD (j := 4) hF rfl rfl (by rw [hc6]; decide) (by decide) (fun a hF => ?_)
                refine stp hF (p_andF ((decide (0 ≤ x7)) || (!x9)) rfl hc6 rfl) (by decide) (fun a hF => ?_)
                refine nilN ?_
                refine xn ?_
                exact ⟨hS, hF.cut ⟨rfl, rfl, rfl, rfl, rfl, rfl, rfl, trivial⟩⟩
            clear hS hF
            rintro a w ⟨hS, hF⟩
            refine nilN ?_
            refine xn ?_
            refine cnd hF rfl (fun hc8 => ?_) (fun hc8 => ?_)
            · replace H := hbt hc8 H
              refine sq ?_
              refine sq ?_
              refine rg ?_
              refine stp hF (p_move rfl) (by decide) (fun a hF => ?_)
              refine stp hF (p_lss rfl rfl) (by decide) (fun a hF => ?_)
              refine stp hF (p_move rfl) (by decide) (fun a hF => ?_)
              refine cutj 5 (fun a w => St e s12 w [pt g5 33 ([(.int .i64 x4), (.int .i64 x3), (.int .i64 x5)]), pt g4 26 ([v3, v4]), Ow kTGrant 33 v3 x1.Given, Ow kTGrant 33 v4 x1.Waits, pt g3 26 ([(.slice none 0 0), (.slice none 0 0)]), pt g1 26 ([v1, v2])] ∧ Fr 97 a [(8, (.pointer (some ⟨g3, 0, none⟩))), (10, (.pointer (some ⟨g4, 0, none⟩))), (11, (.pointer (some ⟨g5, 0, none⟩))), (12, (.int .i64 x6)), (79, (.bool ((decide (x7 < 0)) && (decide (60 ≤ (x2.Given.length : Int))))))]) rfl rfl ?_ ?_
              · rcases Bool.eq_false_or_eq_true (decide (x7 < 0)) with hc9 | hc9
                · skip
                  refine gonE (j := 2) hF rfl rfl hc9 ?_
                  refine stp hF (p_fldb (o' := 0) rfl fi_26_0 rfl) (by decide) (fun a hF => ?_)
                  refine gonE (j := 2) hF rfl rfl hc9 ?_
                  refine stp hF (p_ldb_one (i := 5) hS rfl rfl ia_24 rfl) (by decide) (fun a hF => ?_)
                  refine gonE (j := 2) hF rfl rfl hc9 ?_
                  refine stp hF (p_lenr un_24 rfl (((((((((h1.mono hg1).mono hg2).mono hg4).mono hg6).mono hg7).mono hg8).mono hg9).mono hg10).mono hg11)) (by decide) (fun a hF => ?_)
                  refine gonE (j := 2) hF rfl rfl hc9 ?_
                  refine stp hF (p_geq rfl rfl) (by decide) (fun a hF => ?_)
                  refine stp hF (p_andT rfl hc9 rfl) (by decide) (fun a hF => ?_)
                  refine nilN ?_
                  refine xn ?_
                  exact ⟨hS, hF.cut ⟨rfl, rfl, rfl, rfl, rfl, trivial⟩⟩
                · skip
                  refine gofD (j := 2) hF rfl rfl (by rw [hc9]; decide) (by decide) (fun a hF => ?_)
                  refine gofD (j := 2) hF rfl rfl (by rw [hc9]; decide) (by decide) (fun a hF => ?_)
                  refine gofD (j := 2) hF rfl rfl (by rw [hc9]; decide) (by decide) (fun a hF => ?_)
                  refine gofD (j := 2) hF rfl rfl (by rw [hc9]; decide) (by decide) (fun a hF => ?_)
                  refine stp hF (p_andF (decide (60 ≤ (x2.Given.length : Int))) rfl hc9 rfl) (by decide) (fun a hF => ?_)
                  refine nilN ?_
                  refine xn ?_
                  exact ⟨hS, hF.cut ⟨rfl, rfl, rfl, rfl, rfl, trivial⟩⟩
              clear hS hF
              rintro a w ⟨hS, hF⟩
              refine nilN ?_
              refine xn ?_
              refine cnd hF rfl (fun hc10 => ?_) (fun hc10 => ?_)
              · replace H := hbt hc10 H
                refine sq ?_
                refine rg ?_
                refine stp hF (p_ldb_agg (i := 1) (l := []) (m := [v3, v4]) (r := []) hS rfl rfl ia_26 ti_26 rfl rfl rfl) (by decide) (fun a hF => ?_)
                refine ste0 hF (e_stb (i := 4) (l := []) (m := [(.slice none 0 0), (.slice none 0 0)]) (r := []) (m' := [v3, v4]) (cs' := [v3, v4]) hS rfl rfl rfl ti_26 rfl rfl rfl rfl rfl (one_cons (hS.one_ow (i := 2) rfl) (one_cons (hS.one_ow (i := 3) rfl) one_nil)) rfl) (fun v w a hR hF => ?_)
                have hS : St e s12 w [pt g3 26 ([v3, v4]), pt g5 33 ([(.int .i64 x4), (.int .i64 x3), (.int .i64 x5)]), pt g4 26 ([v3, v4]), Ow kTGrant 33 v3 x1.Given, Ow kTGrant 33 v4 x1.Waits, pt g1 26 ([v1, v2])] := hR
                refine stp hF (p_assign rfl) (by decide) (fun a hF => ?_)
                refine nilN ?_
                refine xn ?_
                refine rt ?_
                refine xr (xr ?_)
                obtain rfl := hsm H
                have h9 : RvOk Try.prog _ w (.cell 8 26) _ := rvC (i := 0) hS rfl (show lk [(8, (.pointer (some ⟨g3, 0, none⟩))), (9, (.int .i64 2))] 8 = _ from rfl) ia_26 ti_26 rfl
                replace hS := hS.sel (is := [3, 3]) (A' := [Ow kTGrant 33 v3 x1.Given, Ow kTGrant 33 v4 x1.Waits]) rfl
                exact retc2 hF rfl h9 (rvT rfl) hS ⟨v3, v4, rfl, rfl⟩
              · replace H := hbf hc10 H
                refine skN ?_
                refine xn ?_
                refine sq ?_
                refine rg ?_
                refine stp hF (p_ldb_agg (i := 0) (l := []) (m := [(.int .i64 x4), (.int .i64 x3), (.int .i64 x5)]) (r := []) hS rfl rfl ia_33 ti_33 rfl rfl rfl) (by decide) (fun a hF => ?_)
                refine stp hF (p_move rfl) (by decide) (fun a hF => ?_)
                replace hS := hS.sel (is := [1, 1, 0, 0, 0, 0]) (A' := [pt g4 26 ([v3, v4]), Ow kTGrant 33 v3 x1.Given, pt g5 33 ([(.int .i64 x4), (.int .i64 x3), (.int .i64 x5)]), Ow kTGrant 33 v4 x1.Waits, pt g3 26 ([(.slice none 0 0), (.slice none 0 0)]), pt g1 26 ([v1, v2])]) rfl
                obtain ⟨x11, hx9, H⟩ := hb H
                refine ste hF (e_call (fst := []) (vs := [(.pointer (some ⟨g4, 0, none⟩)), (.agg #[(.int .i64 x4), (.int .i64 x3), (.int .i64 x5)]), (.int .i64 x6)]) (cap := []) rfl rfl go_39 (St.call (A := [pt g4 26 ([v3, v4]), Ow kTGrant 33 v3 x1.Given]) (B := [pt g5 33 ([(.int .i64 x4), (.int .i64 x3), (.int .i64 x5)]), Ow kTGrant 33 v4 x1.Waits, pt g3 26 ([(.slice none 0 0), (.slice none 0 0)]), pt g1 26 ([v1, v2])]) hS (impl_Locks_give.spec k _ _ x1.Given (⟨x4, x3, x5⟩ : TGrant) x6 v3 v4 g4 _ hx9))) (by decide) (fun v w a hR hF => ?_)
                obtain ⟨s13, A10, hg12, hS, hR⟩ := hR
                obtain ⟨v5, hv9, rfl⟩ := hR; obtain rfl := hv9.symm
                have hS : St e s13 w [pt g4 26 ([v5, v4]), Ow kTGrant 33 v5 x11, pt g5 33 ([(.int .i64 x4), (.int .i64 x3), (.int .i64 x5)]), Ow kTGrant 33 v4 x1.Waits, pt g3 26 ([(.slice none 0 0), (.slice none 0 0)]), pt g1 26 ([v1, v2])] := hS
                refine nilN ?_
                refine xn ?_
                refine sq ?_
                refine rg ?_
                refine stp hF (p_ldb_agg (i := 0) (l := []) (m := [v5, v4]) (r := []) hS rfl rfl ia_26 ti_26 rfl rfl rfl) (by decide) (fun a hF => ?_)
                refine ste0 hF (e_stb (i := 4) (l := []) (m := [(.slice none 0 0), (.slice none 0 0)]) (r := []) (m' := [v5, v4]) (cs' := [v5, v4]) hS rfl rfl rfl ti_26 rfl rfl rfl rfl rfl (one_cons (hS.one_ow (i := 1) rfl) (one_cons (hS.one_ow (i := 3) rfl) one_nil)) rfl) (fun v w a hR hF => ?_)
                have hS : St e s13 w [pt g3 26 ([v5, v4]), pt g4 26 ([v5, v4]), Ow kTGrant 33 v5 x11, pt g5 33 ([(.int .i64 x4), (.int .i64 x3), (.int .i64 x5)]), Ow kTGrant 33 v4 x1.Waits, pt g1 26 ([v1, v2])] := hR
                refine stp hF (p_assign rfl) (by decide) (fun a hF => ?_)
                refine nilN ?_
                refine xn ?_
                refine rt ?_
                refine xr ?_
                obtain rfl := hsm H
                have h10 : RvOk Try.prog _ w (.cell 8 26) _ := rvC (i := 0) hS rfl (show lk [(8, (.pointer (some ⟨g3, 0, none⟩))), (9, (.int .i64 0))] 8 = _ from rfl) ia_26 ti_26 rfl
                replace hS := hS.sel (is := [2, 3]) (A' := [Ow kTGrant 33 v5 x11, Ow kTGrant 33 v4 x1.Waits]) rfl
                exact retc2 hF rfl h10 (rvT rfl) hS ⟨v5, v4, rfl, rfl⟩
            · replace H := hbf hc8 H
              refine skN ?_
              refine xn ?_
              refine sq ?_
              refine sq ?_
              refine rg ?_
              refine stp hF (p_fldb (o' := 1) rfl fi_26_1 rfl) (by decide) (fun a hF => ?_)
              refine stp hF (p_ldb_one (i := 5) hS rfl rfl ia_24 rfl) (by decide) (fun a hF => ?_)
              refine stp hF (p_lenr un_24 rfl (((((((((h2.mono hg1).mono hg2).mono hg4).mono hg6).mono hg7).mono hg8).mono hg9).mono hg10).mono hg11)) (by decide) (fun a hF => ?_)
              refine stp hF (p_geq rfl rfl) (by decide) (fun a hF => ?_)
              refine nilN ?_
              refine xn ?_
              refine cnd hF rfl (fun hc11 => ?_) (fun hc11 => ?_)
              · replace H := hbt hc11 H
                refine sq ?_
                refine rg ?_
                refine stp hF (p_ldb_agg (i := 1) (l := []) (m := [v3, v4]) (r := []) hS rfl rfl ia_26 ti_26 rfl rfl rfl) (by decide) (fun a hF => ?_)
                refine ste0 hF (e_stb (i := 4) (l := []) (m := [(.slice none 0 0), (.slice none 0 0)]) (r := []) (m' := [v3, v4]) (cs' := [v3, v4]) hS rfl rfl rfl ti_26 rfl rfl rfl rfl rfl (one_cons (hS.one_ow (i := 2) rfl) (one_cons (hS.one_ow (i := 3) rfl) one_nil)) rfl) (fun v w a hR hF => ?_)
                have hS : St e s12 w [pt g3 26 ([v3, v4]), pt g5 33 ([(.int .i64 x4), (.int .i64 x3), (.int .i64 x5)]), pt g4 26 ([v3, v4]), Ow kTGrant 33 v3 x1.Given, Ow kTGrant 33 v4 x1.Waits, pt g1 26 ([v1, v2])] := hR
                refine stp hF (p_assign rfl) (by decide) (fun a hF => ?_)
                refine nilN ?_
                refine xn ?_
                refine rt ?_
                refine xr ?_
                obtain rfl := hsm H
                have h11 : RvOk Try.prog _ w (.cell 8 26) _ := rvC (i := 0) hS rfl (show lk [(8, (.pointer (some ⟨g3, 0, none⟩))), (9, (.int .i64 2))] 8 = _ from rfl) ia_26 ti_26 rfl
                replace hS := hS.sel (is := [3, 3]) (A' := [Ow kTGrant 33 v3 x1.Given, Ow kTGrant 33 v4 x1.Waits]) rfl
                exact retc2 hF rfl h11 (rvT rfl) hS ⟨v3, v4, rfl, rfl⟩
              · replace H := hbf hc11 H
                refine skN ?_
                refine xn ?_
                refine sq ?_
                refine rg ?_
                refine stp hF (p_fldb (o' := 1) rfl fi_26_1 rfl) (by decide) (fun a hF => ?_)
                refine stp hF (p_ldb_one (i := 1) hS rfl rfl ia_24 rfl) (by decide) (fun a hF => ?_)
                refine stp hF (p_ldb_agg (i := 0) (l := []) (m := [(.int .i64 x4), (.int .i64 x3), (.int .i64 x5)]) (r := []) hS rfl rfl ia_33 ti_33 rfl rfl rfl) (by decide) (fun a hF => ?_)
                refine ste hF (e_bslice (kd := kTGrant) (et := 33) (ps := [(0, (.tmp 92))]) (vs := [(0, (.agg #[(.int .i64 x4), (.int .i64 x3), (.int .i64 x5)]))]) (cs := [(.int .i64 x4), (.int .i64 x3), (.int .i64 x5)]) (xs := ([(⟨x4, x3, x5⟩ : TGrant)] : List TGrant)) hS rfl (by intro w; kernel_rfl) rfl (by decide) (Nat.le_of_ble_eq_true rfl) (by exact (rows_cons (kd := kTGrant) (x := (⟨x4, x3, x5⟩ : TGrant)) (c := [(.int .i64 x4), (.int .i64 x3), (.int .i64 x5)]) (cs := []) (kTGrant_mk (x := (⟨x4, x3, x5⟩ : TGrant)) ) (Rows.nil _ _ _ _)))) (by decide) (fun v6 w a hR hF => ?_)
                have hS : St e s12 w [Ow kTGrant 33 v6 ([(⟨x4, x3, x5⟩ : TGrant)] : List TGrant), pt g5 33 ([(.int .i64 x4), (.int .i64 x3), (.int .i64 x5)]), pt g4 26 ([v3, v4]), Ow kTGrant 33 v3 x1.Given, Ow kTGrant 33 v4 x1.Waits, pt g3 26 ([(.slice none 0 0), (.slice none 0 0)]), pt g1 26 ([v1, v2])] := hR
                obtain ⟨hq2, H⟩ := hck H
                refine ste hF (e_append (n := 4) hS rfl rfl rfl (hS.src (n := 0) rfl) un_24 ti_33 rfl (by decide) (by decide) (Nat.le_trans (Nat.mul_le_mul_right 24 hq2) (by decide))) (by decide) (fun v7 w a hR hF => ?_)
                have hS : St e s12 w [Ow kTGrant 33 v7 (x1.Waits ++ ([(⟨x4, x3, x5⟩ : TGrant)] : List TGrant)), Ow kTGrant 33 v6 ([(⟨x4, x3, x5⟩ : TGrant)] : List TGrant), pt g5 33 ([(.int .i64 x4), (.int .i64 x3), (.int .i64 x5)]), pt g4 26 ([v3, v4]), Ow kTGrant 33 v3 x1.Given, pt g3 26 ([(.slice none 0 0), (.slice none 0 0)]), pt g1 26 ([v1, v2])] := hR
                replace hS := hS.sel (is := [0, 1, 1, 1, 1, 1]) (A' := [Ow kTGrant 33 v7 (x1.Waits ++ ([(⟨x4, x3, x5⟩ : TGrant)] : List TGrant)), pt g5 33 ([(.int .i64 x4), (.int .i64 x3), (.int .i64 x5)]), pt g4 26 ([v3, v4]), Ow kTGrant 33 v3 x1.Given, pt g3 26 ([(.slice none 0 0), (.slice none 0 0)]), pt g1 26 ([v1, v2])]) rfl
                refine stp hF (p_fldb (o' := 1) rfl fi_26_1 rfl) (by decide) (fun a hF => ?_)
                refine ste0 hF (e_stb (i := 2) (l := [v3]) (m := [v4]) (r := []) (m' := [v7]) (cs' := [v3, v7]) hS rfl rfl rfl ti_24 rfl rfl rfl (cells_one (hS.one_ow (i := 0) rfl)) rfl (one_cons (hS.one_ow (i := 0) rfl) one_nil) rfl) (fun v w a hR hF => ?_)
                have hS : St e s12 w [pt g4 26 ([v3, v7]), Ow kTGrant 33 v7 (x1.Waits ++ ([(⟨x4, x3, x5⟩ : TGrant)] : List TGrant)), pt g5 33 ([(.int .i64 x4), (.int .i64 x3), (.int .i64 x5)]), Ow kTGrant 33 v3 x1.Given, pt g3 26 ([(.slice none 0 0), (.slice none 0 0)]), pt g1 26 ([v1, v2])] := hR
                refine nilN ?_
                refine xn ?_
                refine sq ?_
                refine rg ?_
                refine stp hF (p_ldb_agg (i := 0) (l := []) (m := [v3, v7]) (r := []) hS rfl rfl ia_26 ti_26 rfl rfl rfl) (by decide) (fun a hF => ?_)
                refine ste0 hF (e_stb (i := 4) (l := []) (m := [(.slice none 0 0), (.slice none 0 0)]) (r := []) (m' := [v3, v7]) (cs' := [v3, v7]) hS rfl rfl rfl ti_26 rfl rfl rfl rfl rfl (one_cons (hS.one_ow (i := 3) rfl) (one_cons (hS.one_ow (i := 1) rfl) one_nil)) rfl) (fun v w a hR hF => ?_)
                have hS : St e s12 w [pt g3 26 ([v3, v7]), pt g4 26 ([v3, v7]), Ow kTGrant 33 v7 (x1.Waits ++ ([(⟨x4, x3, x5⟩ : TGrant)] : List TGrant)), pt g5 33 ([(.int .i64 x4), (.int .i64 x3), (.int .i64 x5)]), Ow kTGrant 33 v3 x1.Given, pt g1 26 ([v1, v2])] := hR
                refine stp hF (p_assign rfl) (by decide) (fun a hF => ?_)
                refine nilN ?_
                refine xn ?_
                refine rt ?_
                obtain rfl := hsm H
                have h12 : RvOk Try.prog _ w (.cell 8 26) _ := rvC (i := 0) hS rfl (show lk [(8, (.pointer (some ⟨g3, 0, none⟩))), (9, (.int .i64 1))] 8 = _ from rfl) ia_26 ti_26 rfl
                replace hS := hS.sel (is := [4, 2]) (A' := [Ow kTGrant 33 v3 x1.Given, Ow kTGrant 33 v7 (x1.Waits ++ ([(⟨x4, x3, x5⟩ : TGrant)] : List TGrant))]) rfl
                exact retc2 hF rfl h12 (rvT rfl) hS ⟨v3, v7, rfl, rfl⟩

def spec_l9Copy.c1 (k : Nat) (x1 : (List TGrant)) (x2 : (List TGrant)) : Option TLocks :=
  (some (⟨x1, x2⟩ : TLocks))
def spec_l9Copy.f (k : Nat) (x3 : TLocks) : Option TLocks :=
  (((if ([] : List TGrant).length + x3.Given.length ≤ 5864062014805 then (if ([] : List TGrant).length + x3.Waits.length ≤ 5864062014805 then (some ((([] : List TGrant) ++ x3.Given), (([] : List TGrant) ++ x3.Waits))) else none) else none) : Option ((List TGrant) × (List TGrant))).bind fun x4 => spec_l9Copy.c1 k x4.1 x4.2)
set_option maxRecDepth 100000 in
set_option maxHeartbeats 4000000 in
theorem spec_l9Copy.spec (k : Nat) (s0 : HF) (w : World) (x3 : TLocks) (v1 : Value) (v2 : Value) (h1 : Sl kTGrant s0 v1 x3.Given) (h2 : Sl kTGrant s0 v2 x3.Waits) (r : TLocks) (H : spec_l9Copy.f k x3 = some r) :
    Law Try.prog 40 #[(.agg #[v1, v2])] s0 w [] (fun v s1 A1 => ∃ (u0 : Value) (u1 : Value), v = (.agg #[u0, u1]) ∧ A1 = [Ow kTGrant 33 u0 r.Given, Ow kTGrant 33 u1 r.Waits]) := by
  unfold spec_l9Copy.f at H
  refine Law.intro Try.func40 rfl [(0, (.agg #[v1, v2]))] (Nat.le_of_ble_eq_true rfl) (enter_lk ⟨rfl, trivial⟩) (fun e a hS hF => ?_)
  have hF : Fr 12 a [(0, (.agg #[v1, v2]))] := hF
  refine sq ?_
  refine rg ?_
  refine ste hF (e_box (cs := [v1, v2]) hS rfl rfl) (by decide) (fun v w a hR hF => ?_)
  obtain ⟨g1, rfl, hS⟩ := hR
  refine ste hF (e_alloc (cs := [(.slice none 0 0), (.slice none 0 0)]) hS ti_26 rfl) (by decide) (fun v w a hR hF => ?_)
  obtain ⟨g2, rfl, hS⟩ := hR
  refine nilN ?_
  refine xn ?_
  obtain ⟨x4, H, HK1⟩ := hb H
  refine sqj (fun a w => ∃ (x1 : (List TGrant)) (x2 : (List TGrant)) (v3 : Value) (v4 : Value) , St e s0 w [pt g2 26 ([v3, v4]), Ow kTGrant 33 v3 x1, Ow kTGrant 33 v4 x2, pt g1 26 ([v1, v2])] ∧ Fr 12 a [(2, (.pointer (some ⟨g2, 0, none⟩)))] ∧ spec_l9Copy.c1 k x1 x2 = some r) ?_ ?_
  · skip
    replace hS : St e s0 w.drew [pt g2 26 ([(.slice none 0 0), (.slice none 0 0)]), pt g1 26 ([v1, v2])] := hS.drewN 1
    refine drw [0, 1, 2, 3, 4, 5, 6, 7, 8, 9] mixed (by kernel_rfl) (by decide) (hF.cut (L' := [(0, (.agg #[v1, v2])), (1, (.pointer (some ⟨g1, 0, none⟩))), (2, (.pointer (some ⟨g2, 0, none⟩)))]) ⟨rfl, rfl, rfl, trivial⟩) ?_
    clear hF
    generalize w.drew = w at hS ⊢
    refine pkPerm [1, 0, 2, 3, 4, 5, 6, 7, 8, 9] (by kernel_rfl) ?_
    refine pk1 rfl (by decide) rfl (by kernel_rfl) rfl (p_fldb (o' := 0) rfl fi_26_0 rfl) ?_
    refine pkPerm [2, 0, 3, 4, 5, 6, 7, 8, 9] (by kernel_rfl) ?_
    refine pk1 rfl (by decide) rfl (by kernel_rfl) rfl (p_ldb_one (i := 1) hS rfl rfl ia_24 rfl) ?_
    refine pkPerm [5, 0, 3, 4, 6, 7, 8, 9] (by kernel_rfl) ?_
    refine pk1 rfl (by decide) rfl (by kernel_rfl) rfl (p_fldb (o' := 1) rfl fi_26_1 rfl) ?_
    refine pkPerm [6, 0, 3, 4, 7, 8, 9] (by kernel_rfl) ?_
    refine pk1 rfl (by decide) rfl (by kernel_rfl) rfl (p_ldb_one (i := 1) hS rfl rfl ia_24 rfl) ?_
    refine pkAlt [0, 4] (by kernel_rfl) rfl ⟨?_, ?_, trivial⟩
    · skip
      refine altE [6, 5, 2, 1] [3, 4, 7, 8, 9] rfl rfl rfl (by decide) (by kernel_rfl) (e_bslice (kd := kTGrant) (et := 33) (ps := []) (vs := []) (cs := []) (xs := ([] : List TGrant)) hS rfl (by intro w; kernel_rfl) rfl (by decide) (Nat.le_of_ble_eq_true rfl) (by exact (Rows.nil _ _ _ _))) ?_
      intro v5 w hR
      have hS : St e s0 w [Ow kTGrant 33 v5 ([] : List TGrant), pt g2 26 ([(.slice none 0 0), (.slice none 0 0)]), pt g1 26 ([v1, v2])] := hR
      refine ⟨⟨knw rfl rfl rfl (p_ldb_one (i := 2) hS rfl rfl ia_24 rfl), ⟨knw rfl rfl rfl (p_fldb (o' := 1) rfl fi_26_1 rfl), ⟨knw rfl rfl rfl (p_ldb_one (i := 2) hS rfl rfl ia_24 rfl), ⟨knw rfl rfl rfl (p_fldb (o' := 0) rfl fi_26_0 rfl), trivial⟩⟩⟩⟩, ?_⟩
      refine pkAlt [3, 4] (by kernel_rfl) rfl ⟨?_, ?_, trivial⟩
      · skip
        obtain ⟨hq1, H⟩ := hck H
        refine altE [6, 5, 1] [4, 7, 8, 9] rfl rfl rfl (by decide) (by kernel_rfl) (e_append (n := 0) hS rfl rfl rfl (h1.src hS) un_24 ti_33 rfl (by decide) (by decide) (Nat.le_trans (Nat.mul_le_mul_right 24 hq1) (by decide))) ?_
        intro v6 w hR
        have hS : St e s0 w [Ow kTGrant 33 v6 (([] : List TGrant) ++ x3.Given), pt g2 26 ([(.slice none 0 0), (.slice none 0 0)]), pt g1 26 ([v1, v2])] := hR
        refine ⟨⟨knw rfl rfl rfl (p_ldb_one (i := 2) hS rfl rfl ia_24 rfl), ⟨knw rfl rfl rfl (p_fldb (o' := 1) rfl fi_26_1 rfl), ⟨knw rfl rfl rfl (p_fldb (o' := 0) rfl fi_26_0 rfl), trivial⟩⟩⟩, ?_⟩
        refine pkE [6, 5, 1] rfl (by decide) (by kernel_rfl) (by kernel_rfl) (e_bslice (kd := kTGrant) (et := 33) (ps := []) (vs := []) (cs := []) (xs := ([] : List TGrant)) hS rfl (by intro w; kernel_rfl) rfl (by decide) (Nat.le_of_ble_eq_true rfl) (by exact (Rows.nil _ _ _ _))) ?_
        intro v7 w hR
        have hS : St e s0 w [Ow kTGrant 33 v7 ([] : List TGrant), Ow kTGrant 33 v6 (([] : List TGrant) ++ x3.Given), pt g2 26 ([(.slice none 0 0), (.slice none 0 0)]), pt g1 26 ([v1, v2])] := hR
        refine ⟨⟨knw rfl rfl rfl (p_ldb_one (i := 3) hS rfl rfl ia_24 rfl), ⟨knw rfl rfl rfl (p_fldb (o' := 1) rfl fi_26_1 rfl), ⟨knw rfl rfl rfl (p_fldb (o' := 0) rfl fi_26_0 rfl), trivial⟩⟩⟩, ?_⟩
        obtain ⟨hq2, H⟩ := hck H
        refine pkE [5, 1] rfl (by decide) (by kernel_rfl) (by kernel_rfl) (e_append (n := 0) hS rfl rfl rfl (h2.src hS) un_24 ti_33 rfl (by decide) (by decide) (Nat.le_trans (Nat.mul_le_mul_right 24 hq2) (by decide))) ?_
        intro v8 w hR
        have hS : St e s0 w [Ow kTGrant 33 v8 (([] : List TGrant) ++ x3.Waits), Ow kTGrant 33 v6 (([] : List TGrant) ++ x3.Given), pt g2 26 ([(.slice none 0 0), (.slice none 0 0)]), pt g1 26 ([v1, v2])] := hR
        refine ⟨⟨knw rfl rfl rfl (p_fldb (o' := 1) rfl fi_26_1 rfl), ⟨knw rfl rfl rfl (p_fldb (o' := 0) rfl fi_26_0 rfl), trivial⟩⟩, ?_⟩
        refine pk1 rfl (by decide) rfl (by kernel_rfl) rfl (p_build (ps := [(0, (.tmp 6)), (1, (.tmp 10))]) (vs := [(0, v6), (1, v8)]) (v := (.agg #[v6, v8])) rfl (by intro w; obtain ⟨_, _, _, e1⟩ := hS.el (i := 1) rfl; rw [e1]; obtain ⟨_, _, _, e2⟩ := hS.el (i := 0) rfl; rw [e2]; kernel_rfl)) ?_
        refine pkE0 [] rfl (by kernel_rfl) (by kernel_rfl) (e_stb (i := 2) (l := []) (m := [(.slice none 0 0), (.slice none 0 0)]) (r := []) (m' := [v6, v8]) (cs' := [v6, v8]) hS rfl rfl rfl ti_26 rfl rfl rfl rfl rfl (one_cons (hS.one_ow (i := 1) rfl) (one_cons (hS.one_ow (i := 0) rfl) one_nil)) rfl) ?_
        intro v w hR
        have hS : St e s0 w [pt g2 26 ([v6, v8]), Ow kTGrant 33 v8 (([] : List TGrant) ++ x3.Waits), Ow kTGrant 33 v6 (([] : List TGrant) ++ x3.Given), pt g1 26 ([v1, v2])] := hR
        refine ⟨trivial, ?_⟩
        refine pkF (fun a hF => ?_)
        refine xn ?_
        obtain rfl := hsm H
        replace hS := hS.sel (is := [0, 1, 0, 0]) (A' := [pt g2 26 ([v6, v8]), Ow kTGrant 33 v6 (([] : List TGrant) ++ x3.Given), Ow kTGrant 33 v8 (([] : List TGrant) ++ x3.Waits), pt g1 26 ([v1, v2])]) rfl
        exact ⟨(([] : List TGrant) ++ x3.Given), (([] : List TGrant) ++ x3.Waits), v6, v8, hS, hF.cut ⟨rfl, trivial⟩, HK1⟩
      · skip
        refine altE [6, 5, 2, 1] [3, 7, 8, 9] rfl rfl rfl (by decide) (by kernel_rfl) (e_bslice (kd := kTGrant) (et := 33) (ps := []) (vs := []) (cs := []) (xs := ([] : List TGrant)) hS rfl (by intro w; kernel_rfl) rfl (by decide) (Nat.le_of_ble_eq_true rfl) (by exact (Rows.nil _ _ _ _))) ?_
        intro v9 w hR
        have hS : St e s0 w [Ow kTGrant 33 v9 ([] : List TGrant), Ow kTGrant 33 v5 ([] : List TGrant), pt g2 26 ([(.slice none 0 0), (.slice none 0 0)]), pt g1 26 ([v1, v2])] := hR
        refine ⟨⟨knw rfl rfl rfl (p_ldb_one (i := 3) hS rfl rfl ia_24 rfl), ⟨knw rfl rfl rfl (p_fldb (o' := 1) rfl fi_26_1 rfl), ⟨knw rfl rfl rfl (p_ldb_one (i := 3) hS rfl rfl ia_24 rfl), ⟨knw rfl rfl rfl (p_fldb (o' := 0) rfl fi_26_0 rfl), trivial⟩⟩⟩⟩, ?_⟩
        obtain ⟨hq3, H⟩ := hck H
        refine pkE [6, 5, 1] rfl (by decide) (by kernel_rfl) (by kernel_rfl) (e_append (n := 1) hS rfl rfl rfl (h1.src hS) un_24 ti_33 rfl (by decide) (by decide) (Nat.le_trans (Nat.mul_le_mul_right 24 hq3) (by decide))) ?_
        intro v10 w hR
        have hS : St e s0 w [Ow kTGrant 33 v10 (([] : List TGrant) ++ x3.Given), Ow kTGrant 33 v9 ([] : List TGrant), pt g2 26 ([(.slice none 0 0), (.slice none 0 0)]), pt g1 26 ([v1, v2])] := hR
        refine ⟨⟨knw rfl rfl rfl (p_ldb_one (i := 3) hS rfl rfl ia_24 rfl), ⟨knw rfl rfl rfl (p_fldb (o' := 1) rfl fi_26_1 rfl), ⟨knw rfl rfl rfl (p_fldb (o' := 0) rfl fi_26_0 rfl), trivial⟩⟩⟩, ?_⟩
        obtain ⟨hq4, H⟩ := hck H
        refine pkE [5, 1] rfl (by decide) (by kernel_rfl) (by kernel_rfl) (e_append (n := 1) hS rfl rfl rfl (h2.src hS) un_24 ti_33 rfl (by decide) (by decide) (Nat.le_trans (Nat.mul_le_mul_right 24 hq4) (by decide))) ?_
        intro v11 w hR
        have hS : St e s0 w [Ow kTGrant 33 v11 (([] : List TGrant) ++ x3.Waits), Ow kTGrant 33 v10 (([] : List TGrant) ++ x3.Given), pt g2 26 ([(.slice none 0 0), (.slice none 0 0)]), pt g1 26 ([v1, v2])] := hR
        refine ⟨⟨knw rfl rfl rfl (p_fldb (o' := 1) rfl fi_26_1 rfl), ⟨knw rfl rfl rfl (p_fldb (o' := 0) rfl fi_26_0 rfl), trivial⟩⟩, ?_⟩
        refine pk1 rfl (by decide) rfl (by kernel_rfl) rfl (p_build (ps := [(0, (.tmp 6)), (1, (.tmp 10))]) (vs := [(0, v10), (1, v11)]) (v := (.agg #[v10, v11])) rfl (by intro w; obtain ⟨_, _, _, e3⟩ := hS.el (i := 1) rfl; rw [e3]; obtain ⟨_, _, _, e4⟩ := hS.el (i := 0) rfl; rw [e4]; kernel_rfl)) ?_
        refine pkE0 [] rfl (by kernel_rfl) (by kernel_rfl) (e_stb (i := 2) (l := []) (m := [(.slice none 0 0), (.slice none 0 0)]) (r := []) (m' := [v10, v11]) (cs' := [v10, v11]) hS rfl rfl rfl ti_26 rfl rfl rfl rfl rfl (one_cons (hS.one_ow (i := 1) rfl) (one_cons (hS.one_ow (i := 0) rfl) one_nil)) rfl) ?_
        intro v w hR
        have hS : St e s0 w [pt g2 26 ([v10, v11]), Ow kTGrant 33 v11 (([] : List TGrant) ++ x3.Waits), Ow kTGrant 33 v10 (([] : List TGrant) ++ x3.Given), pt g1 26 ([v1, v2])] := hR
        refine ⟨trivial, ?_⟩
        refine pkF (fun a hF => ?_)
        refine xn ?_
        obtain rfl := hsm H
        replace hS := hS.sel (is := [0, 1, 0, 0]) (A' := [pt g2 26 ([v10, v11]), Ow kTGrant 33 v10 (([] : List TGrant) ++ x3.Given), Ow kTGrant 33 v11 (([] : List TGrant) ++ x3.Waits), pt g1 26 ([v1, v2])]) rfl
        exact ⟨(([] : List TGrant) ++ x3.Given), (([] : List TGrant) ++ x3.Waits), v10, v11, hS, hF.cut ⟨rfl, trivial⟩, HK1⟩
    · skip
      refine altE [6, 5, 2, 1] [0, 3, 7, 8, 9] rfl rfl rfl (by decide) (by kernel_rfl) (e_bslice (kd := kTGrant) (et := 33) (ps := []) (vs := []) (cs := []) (xs := ([] : List TGrant)) hS rfl (by intro w; kernel_rfl) rfl (by decide) (Nat.le_of_ble_eq_true rfl) (by exact (Rows.nil _ _ _ _))) ?_
      intro v12 w hR
      have hS : St e s0 w [Ow kTGrant 33 v12 ([] : List TGrant), pt g2 26 ([(.slice none 0 0), (.slice none 0 0)]), pt g1 26 ([v1, v2])] := hR
      refine ⟨⟨knw rfl rfl rfl (p_ldb_one (i := 2) hS rfl rfl ia_24 rfl), ⟨knw rfl rfl rfl (p_fldb (o' := 1) rfl fi_26_1 rfl), ⟨knw rfl rfl rfl (p_ldb_one (i := 2) hS rfl rfl ia_24 rfl), ⟨knw rfl rfl rfl (p_fldb (o' := 0) rfl fi_26_0 rfl), trivial⟩⟩⟩⟩, ?_⟩
      refine pkE [6, 5, 2, 1] rfl (by decide) (by kernel_rfl) (by kernel_rfl) (e_bslice (kd := kTGrant) (et := 33) (ps := []) (vs := []) (cs := []) (xs := ([] : List TGrant)) hS rfl (by intro w; kernel_rfl) rfl (by decide) (Nat.le_of_ble_eq_true rfl) (by exact (Rows.nil _ _ _ _))) ?_
      intro v13 w hR
      have hS : St e s0 w [Ow kTGrant 33 v13 ([] : List TGrant), Ow kTGrant 33 v12 ([] : List TGrant), pt g2 26 ([(.slice none 0 0), (.slice none 0 0)]), pt g1 26 ([v1, v2])] := hR
      refine ⟨⟨knw rfl rfl rfl (p_ldb_one (i := 3) hS rfl rfl ia_24 rfl), ⟨knw rfl rfl rfl (p_fldb (o' := 1) rfl fi_26_1 rfl), ⟨knw rfl rfl rfl (p_ldb_one (i := 3) hS rfl rfl ia_24 rfl), ⟨knw rfl rfl rfl (p_fldb (o' := 0) rfl fi_26_0 rfl), trivial⟩⟩⟩⟩, ?_⟩
      obtain ⟨hq5, H⟩ := hck H
      refine pkE [6, 5, 1] rfl (by decide) (by kernel_rfl) (by kernel_rfl) (e_append (n := 0) hS rfl rfl rfl (h1.src hS) un_24 ti_33 rfl (by decide) (by decide) (Nat.le_trans (Nat.mul_le_mul_right 24 hq5) (by decide))) ?_
      intro v14 w hR
      have hS : St e s0 w [Ow kTGrant 33 v14 (([] : List TGrant) ++ x3.Given), Ow kTGrant 33 v12 ([] : List TGrant), pt g2 26 ([(.slice none 0 0), (.slice none 0 0)]), pt g1 26 ([v1, v2])] := hR
      refine ⟨⟨knw rfl rfl rfl (p_ldb_one (i := 3) hS rfl rfl ia_24 rfl), ⟨knw rfl rfl rfl (p_fldb (o' := 1) rfl fi_26_1 rfl), ⟨knw rfl rfl rfl (p_fldb (o' := 0) rfl fi_26_0 rfl), trivial⟩⟩⟩, ?_⟩
      obtain ⟨hq6, H⟩ := hck H
      refine pkE [5, 1] rfl (by decide) (by kernel_rfl) (by kernel_rfl) (e_append (n := 1) hS rfl rfl rfl (h2.src hS) un_24 ti_33 rfl (by decide) (by decide) (Nat.le_trans (Nat.mul_le_mul_right 24 hq6) (by decide))) ?_
      intro v15 w hR
      have hS : St e s0 w [Ow kTGrant 33 v15 (([] : List TGrant) ++ x3.Waits), Ow kTGrant 33 v14 (([] : List TGrant) ++ x3.Given), pt g2 26 ([(.slice none 0 0), (.slice none 0 0)]), pt g1 26 ([v1, v2])] := hR
      refine ⟨⟨knw rfl rfl rfl (p_fldb (o' := 1) rfl fi_26_1 rfl), ⟨knw rfl rfl rfl (p_fldb (o' := 0) rfl fi_26_0 rfl), trivial⟩⟩, ?_⟩
      refine pk1 rfl (by decide) rfl (by kernel_rfl) rfl (p_build (ps := [(0, (.tmp 6)), (1, (.tmp 10))]) (vs := [(0, v14), (1, v15)]) (v := (.agg #[v14, v15])) rfl (by intro w; obtain ⟨_, _, _, e5⟩ := hS.el (i := 1) rfl; rw [e5]; obtain ⟨_, _, _, e6⟩ := hS.el (i := 0) rfl; rw [e6]; kernel_rfl)) ?_
      refine pkE0 [] rfl (by kernel_rfl) (by kernel_rfl) (e_stb (i := 2) (l := []) (m := [(.slice none 0 0), (.slice none 0 0)]) (r := []) (m' := [v14, v15]) (cs' := [v14, v15]) hS rfl rfl rfl ti_26 rfl rfl rfl rfl rfl (one_cons (hS.one_ow (i := 1) rfl) (one_cons (hS.one_ow (i := 0) rfl) one_nil)) rfl) ?_
      intro v w hR
      have hS : St e s0 w [pt g2 26 ([v14, v15]), Ow kTGrant 33 v15 (([] : List TGrant) ++ x3.Waits), Ow kTGrant 33 v14 (([] : List TGrant) ++ x3.Given), pt g1 26 ([v1, v2])] := hR
      refine ⟨trivial, ?_⟩
      refine pkF (fun a hF => ?_)
      refine xn ?_
      obtain rfl := hsm H
      replace hS := hS.sel (is := [0, 1, 0, 0]) (A' := [pt g2 26 ([v14, v15]), Ow kTGrant 33 v14 (([] : List TGrant) ++ x3.Given), Ow kTGrant 33 v15 (([] : List TGrant) ++ x3.Waits), pt g1 26 ([v1, v2])]) rfl
      exact ⟨(([] : List TGrant) ++ x3.Given), (([] : List TGrant) ++ x3.Waits), v14, v15, hS, hF.cut ⟨rfl, trivial⟩, HK1⟩
  · clear H HK1 hS hF
    rintro a w ⟨x1, x2, v3, v4, hS, hF, H⟩
    unfold spec_l9Copy.c1 at H
    refine rt ?_
    obtain rfl := hsm H
    have h3 : RvOk Try.prog _ w (.cell 2 26) _ := rvC (i := 0) hS rfl (show lk [(2, (.pointer (some ⟨g2, 0, none⟩)))] 2 = _ from rfl) ia_26 ti_26 rfl
    replace hS := hS.sel (is := [1, 1]) (A' := [Ow kTGrant 33 v3 x1, Ow kTGrant 33 v4 x2]) rfl
    exact retc1 hF rfl h3 hS ⟨v3, v4, rfl, rfl⟩

def spec_l9Grant.c1 (k : Nat) (x1 : Bool) : Option Bool :=
  (some x1)
def spec_l9Grant.c2 (k : Nat) (x2 : TGrant) (x3 : Bool) : Option Bool :=
  ((if x3 = true then ((spec_l9Mode.f k x2.Mode).bind fun x4 => (some x4)) else (some false) : Option Bool).bind fun x5 => spec_l9Grant.c1 k x5)
def spec_l9Grant.f (k : Nat) (x2 : TGrant) : Option Bool :=
  ((spec_l1In.f k x2.Tx 1 99).bind fun x6 => ((if x6 = true then ((spec_l1In.f k x2.Res 0 99).bind fun x7 => (some x7)) else (some false) : Option Bool).bind fun x8 => spec_l9Grant.c2 k x2 x8))
set_option maxRecDepth 100000 in
set_option maxHeartbeats 4000000 in
theorem spec_l9Grant.spec (k : Nat) (s0 : HF) (w : World) (x2 : TGrant) (r : Bool) (H : spec_l9Grant.f k x2 = some r) :
    Law Try.prog 42 #[(.agg #[(.int .i64 x2.Tx), (.int .i64 x2.Res), (.int .i64 x2.Mode)])] s0 w [] (fun v s1 A1 => v = (.bool r) ∧ A1 = []) := by
  unfold spec_l9Grant.f at H
  refine Law.intro Try.func42 rfl [(0, (.agg #[(.int .i64 x2.Tx), (.int .i64 x2.Res), (.int .i64 x2.Mode)]))] (Nat.le_of_ble_eq_true rfl) (enter_lk ⟨rfl, trivial⟩) (fun e a hS hF => ?_)
  have hF : Fr 16 a [(0, (.agg #[(.int .i64 x2.Tx), (.int .i64 x2.Res), (.int .i64 x2.Mode)]))] := hF
  refine sq ?_
  refine rg ?_
  refine ste hF (e_box (cs := [(.int .i64 x2.Tx), (.int .i64 x2.Res), (.int .i64 x2.Mode)]) hS rfl rfl) (by decide) (fun v w a hR hF => ?_)
  obtain ⟨g1, rfl, hS⟩ := hR
  refine stp hF (p_assign rfl) (by decide) (fun a hF => ?_)
  refine nilN ?_
  refine xn ?_
  refine sq ?_
  refine rg ?_
  refine stp hF (p_fldb (o' := 0) rfl fi_33_0 rfl) (by decide) (fun a hF => ?_)
  refine stp hF (p_ldb_one (i := 0) hS rfl rfl ia_3 rfl) (by decide) (fun a hF => ?_)
  obtain ⟨x6, hx1, H⟩ := hb H
  refine ste hF (e_call (fst := []) (vs := [(.int .i64 x2.Tx), (.int .i64 1), (.int .i64 99)]) (cap := []) rfl rfl go_68 (St.call (A := []) (B := [pt g1 33 ([(.int .i64 x2.Tx), (.int .i64 x2.Res), (.int .i64 x2.Mode)])]) hS (spec_l1In.spec k _ _ x2.Tx 1 99 _ hx1))) (by decide) (fun v w a hR hF => ?_)
  obtain ⟨s2, A2, hg1, hS, hR⟩ := hR
  obtain ⟨hv1, rfl⟩ := hR; obtain rfl := hv1.symm
  have hS : St e s2 w [pt g1 33 ([(.int .i64 x2.Tx), (.int .i64 x2.Res), (.int .i64 x2.Mode)])] := hS
  refine stp hF (p_move rfl) (by decide) (fun a hF => ?_)
  obtain ⟨x8, H, HK1⟩ := hb H
  refine cutj 4 (fun a w => ∃ (x3 : Bool) (s3 : HF) , St e s3 w [pt g1 33 ([(.int .i64 x2.Tx), (.int .i64 x2.Res), (.int .i64 x2.Mode)])] ∧ Fr 16 a [(1, (.pointer (some ⟨g1, 0, none⟩))), (10, (.bool x3))] ∧ Sub s2 s3 ∧ spec_l9Grant.c2 k x2 x3 = some r) rfl rfl ?_ ?_
  · rcases Bool.eq_false_or_eq_true (x6) with hc1 | hc1
    · replace H := hbt hc1 H
      refine gonE (j := 3) hF rfl rfl hc1 ?_
      refine stp hF (p_fldb (o' := 1) rfl fi_33_1 rfl) (by decide) (fun a hF => ?_)
      refine gonE (j := 3) hF rfl rfl hc1 ?_
      refine stp hF (p_ldb_one (i := 0) hS rfl rfl ia_3 rfl) (by decide) (fun a hF => ?_)
      obtain ⟨x7, hx2, H⟩ := hb H
      refine gonE (j := 3) hF rfl rfl hc1 ?_
      refine ste hF (e_call (fst := []) (vs := [(.int .i64 x2.Res), (.int .i64 0), (.int .i64 99)]) (cap := []) rfl rfl go_68 (St.call (A := []) (B := [pt g1 33 ([(.int .i64 x2.Tx), (.int .i64 x2.Res), (.int .i64 x2.Mode)])]) hS (spec_l1In.spec k _ _ x2.Res 0 99 _ hx2))) (by decide) (fun v w a hR hF => ?_)
      obtain ⟨s4, A3, hg2, hS, hR⟩ := hR
      obtain ⟨hv2, rfl⟩ := hR; obtain rfl := hv2.symm
      have hS : St e s4 w [pt g1 33 ([(.int .i64 x2.Tx), (.int .i64 x2.Res), (.int .i64 x2.Mode)])] := hS
      refine stp hF (p_pickT rfl hc1 rfl) (by decide) (fun a hF => ?_)
      refine nilN ?_
      refine xn ?_
      obtain rfl := hsm H
      exact ⟨x7, s4, hS, hF.cut ⟨rfl, rfl, trivial⟩, hg2, HK1⟩
    · replace H := hbf hc1 H
      refine gofD (j := 3) hF rfl rfl (by rw [hc1]; decide) (by decide) (fun a hF => ?_)
      refine gofD (j := 3) hF rfl rfl (by rw [hc1]; decide) (by decide) (fun a hF => ?_)
      refine gofD (j := 3) hF rfl rfl (by rw [hc1]; decide) (by decide) (fun a hF => ?_)
      refine stp hF (p_pickF rfl hc1 rfl) (by decide) (fun a hF => ?_)
      refine nilN ?_
      refine xn ?_
      obtain rfl := hsm H
      exact ⟨false, s2, hS, hF.cut ⟨rfl, rfl, trivial⟩, (Sub.refl _), HK1⟩
  · clear H HK1 hS hF
    rintro a w ⟨x3, s3, hS, hF, hg3, H⟩
    unfold spec_l9Grant.c2 at H
    refine stp hF (p_move rfl) (by decide) (fun a hF => ?_)
    obtain ⟨x5, H, HK2⟩ := hb H
    refine cutj 4 (fun a w => ∃ (x1 : Bool) (s5 : HF) , St e s5 w [pt g1 33 ([(.int .i64 x2.Tx), (.int .i64 x2.Res), (.int .i64 x2.Mode)])] ∧ Fr 16 a [(15, (.bool x1))] ∧ Sub s3 s5 ∧ spec_l9Grant.c1 k x1 = some r) rfl rfl ?_ ?_
    · rcases Bool.eq_false_or_eq_true (x3) with hc2 | hc2
      · replace H := hbt hc2 H
        refine gonE (j := 8) hF rfl rfl hc2 ?_
        refine stp hF (p_fldb (o' := 2) rfl fi_33_2 rfl) (by decide) (fun a hF => ?_)
        refine gonE (j := 8) hF rfl rfl hc2 ?_
        refine stp hF (p_ldb_one (i := 0) hS rfl rfl ia_3 rfl) (by decide) (fun a hF => ?_)
        obtain ⟨x4, hx3, H⟩ := hb H
        refine gonE (j := 8) hF rfl rfl hc2 ?_
        refine ste hF (e_call (fst := []) (vs := [(.int .i64 x2.Mode)]) (cap := []) rfl rfl go_69 (St.call (A := []) (B := [pt g1 33 ([(.int .i64 x2.Tx), (.int .i64 x2.Res), (.int .i64 x2.Mode)])]) hS (spec_l9Mode.spec k _ _ x2.Mode _ hx3))) (by decide) (fun v w a hR hF => ?_)
        obtain ⟨s6, A4, hg4, hS, hR⟩ := hR
        obtain ⟨hv3, rfl⟩ := hR; obtain rfl := hv3.symm
        have hS : St e s6 w [pt g1 33 ([(.int .i64 x2.Tx), (.int .i64 x2.Res), (.int .i64 x2.Mode)])] := hS
        refine stp hF (p_pickT rfl hc2 rfl) (by decide) (fun a hF => ?_)
        refine nilN ?_
        refine xn ?_
        obtain rfl := hsm H
        exact ⟨x4, s6, hS, hF.cut ⟨rfl, trivial⟩, hg4, HK2⟩
      · replace H := hbf hc2 H
        refine gofD (j := 8) hF rfl rfl (by rw [hc2]; decide) (by decide) (fun a hF => ?_)
        refine gofD (j := 8) hF rfl rfl (by rw [hc2]; decide) (by decide) (fun a hF => ?_)
        refine gofD (j := 8) hF rfl rfl (by rw [hc2]; decide) (by decide) (fun a hF => ?_)
        refine stp hF (p_pickF rfl hc2 rfl) (by decide) (fun a hF => ?_)
        refine nilN ?_
        refine xn ?_
        obtain rfl := hsm H
        exact ⟨false, s3, hS, hF.cut ⟨rfl, trivial⟩, (Sub.refl _), HK2⟩
    · clear H HK2 hS hF
      rintro a w ⟨x1, s5, hS, hF, hg5, H⟩
      unfold spec_l9Grant.c1 at H
      refine stp hF (p_assign rfl) (by decide) (fun a hF => ?_)
      refine nilN ?_
      refine xn ?_
      refine rt ?_
      obtain rfl := hsm H
      replace hS := hS.sel (is := []) (A' := []) rfl
      exact ret1 hF rfl rfl hS ⟨rfl, rfl⟩

def spec_LocksOk.c1 (k : Nat) : Option Bool :=
  (some true)
def spec_LocksOk.c2 (k : Nat) (rec_l1 : Int → Option (Ex Bool Unit)) (x1 : Int) : Option (Ex Bool Unit) :=
  (rec_l1 (w64 (x1 + 1)))
def spec_LocksOk.l2 (x1 : Int) (x2 : TLocks) : Nat → Int → Option (Ex Bool Unit)
  | 0, _ => none
  | k + 1, x3 => (if (decide (x3 < x1)) = true then (if 0 ≤ x3 ∧ x3 < (x2.Waits.length : Int) then (if 0 ≤ x1 ∧ x1 < (x2.Waits.length : Int) then (if (decide (((rd x2.Waits x3).Tx) = ((rd x2.Waits x1).Tx))) = true then (some (Ex.ret false)) else ((spec_LocksOk.l2 x1 x2 k) (w64 (x3 + 1)))) else none) else none) else (some (Ex.go ())))
def spec_LocksOk.l1 (x2 : TLocks) : Nat → Int → Option (Ex Bool Unit)
  | 0, _ => none
  | k + 1, x1 => (if (decide (x1 < (x2.Waits.length : Int))) = true then (((if 0 ≤ x1 ∧ x1 < (x2.Waits.length : Int) then ((spec_l9Grant.f k (rd x2.Waits x1)).bind fun x4 => (if (!x4) = true then (some (Ex.ret false)) else (spec_LocksOk.l2 x1 x2 k 0))) else none) : Option (Ex Bool Unit)).bind fun x5 => Ex.on x5 (fun r => some (Ex.ret r)) (fun y => spec_LocksOk.c2 k (spec_LocksOk.l1 x2 k) x1)) else (some (Ex.go ())))
def spec_LocksOk.c3 (k : Nat) (x2 : TLocks) : Option Bool :=
  (((spec_LocksOk.l1 x2 k 0) : Option (Ex Bool Unit)).bind fun x6 => Ex.on x6 (fun r => some r) (fun y => spec_LocksOk.c1 k))
def spec_LocksOk.c4 (k : Nat) (rec_l3 : Int → Option (Ex Bool Unit)) (x7 : Int) : Option (Ex Bool Unit) :=
  (rec_l3 (w64 (x7 + 1)))
def spec_LocksOk.c5 (k : Nat) (rec_l4 : Int → Option (Ex Bool Unit)) (x8 : Int) (x9 : Bool) : Option (Ex Bool Unit) :=
  (if x9 = true then (some (Ex.ret false)) else (rec_l4 (w64 (x8 + 1))))
def spec_LocksOk.c6 (k : Nat) (x10 : Bool) : Option Bool :=
  (some x10)
def spec_LocksOk.l4 (x7 : Int) (x2 : TLocks) : Nat → Int → Option (Ex Bool Unit)
  | 0, _ => none
  | k + 1, x8 => (if (decide (x8 < x7)) = true then (if 0 ≤ x8 ∧ x8 < (x2.Given.length : Int) then ((if (decide (((rd x2.Given x8).Res) = ((rd x2.Given x7).Res))) = true then ((if (decide (((rd x2.Given x8).Tx) = ((rd x2.Given x7).Tx))) = true then (some true) else ((spec_Goes.f k ((rd x2.Given x8).Mode) ((rd x2.Given x7).Mode)).bind fun x11 => (some (!x11))) : Option Bool).bind fun x12 => spec_LocksOk.c6 k x12) else (some false) : Option Bool).bind fun x13 => spec_LocksOk.c5 k (spec_LocksOk.l4 x7 x2 k) x8 x13) else none) else (some (Ex.go ())))
def spec_LocksOk.l3 (x2 : TLocks) : Nat → Int → Option (Ex Bool Unit)
  | 0, _ => none
  | k + 1, x7 => (if (decide (x7 < (x2.Given.length : Int))) = true then (((if 0 ≤ x7 ∧ x7 < (x2.Given.length : Int) then ((spec_l9Grant.f k (rd x2.Given x7)).bind fun x14 => (if (!x14) = true then (some (Ex.ret false)) else (spec_LocksOk.l4 x7 x2 k 0))) else none) : Option (Ex Bool Unit)).bind fun x15 => Ex.on x15 (fun r => some (Ex.ret r)) (fun y => spec_LocksOk.c4 k (spec_LocksOk.l3 x2 k) x7)) else (some (Ex.go ())))
def spec_LocksOk.f (k : Nat) (x2 : TLocks) : Option Bool :=
  (if ((decide (60 < (x2.Given.length : Int))) || (decide (60 < (x2.Waits.length : Int)))) = true then (some false) else (((spec_LocksOk.l3 x2 k 0) : Option (Ex Bool Unit)).bind fun x16 => Ex.on x16 (fun r => some r) (fun y => spec_LocksOk.c3 k x2)))
set_option maxRecDepth 100000 in
set_option maxHeartbeats 4000000 in
theorem spec_LocksOk.spec (k : Nat) (s0 : HF) (w : World) (x2 : TLocks) (v1 : Value) (v2 : Value) (h1 : Sl kTGrant s0 v1 x2.Given) (h2 : Sl kTGrant s0 v2 x2.Waits) (r : Bool) (H : spec_LocksOk.f k x2 = some r) :
    Law Try.prog 41 #[(.agg #[v1, v2])] s0 w [] (fun v s1 A1 => v = (.bool r) ∧ A1 = []) := by
  unfold spec_LocksOk.f at H
  refine Law.intro Try.func41 rfl [(0, (.agg #[v1, v2]))] (Nat.le_of_ble_eq_true rfl) (enter_lk ⟨rfl, trivial⟩) (fun e a hS hF => ?_)
  have hF : Fr 96 a [(0, (.agg #[v1, v2]))] := hF
  refine sq ?_
  refine rg ?_
  refine ste hF (e_box (cs := [v1, v2]) hS rfl rfl) (by decide) (fun v w a hR hF => ?_)
  obtain ⟨g1, rfl, hS⟩ := hR
  refine stp hF (p_assign rfl) (by decide) (fun a hF => ?_)
  refine nilN ?_
  refine xn ?_
  refine sq ?_
  refine sq ?_
  refine rg ?_
  refine stp hF (p_fldb (o' := 0) rfl fi_26_0 rfl) (by decide) (fun a hF => ?_)
  refine stp hF (p_ldb_one (i := 0) hS rfl rfl ia_24 rfl) (by decide) (fun a hF => ?_)
  refine stp hF (p_lenr un_24 rfl h1) (by decide) (fun a hF => ?_)
  refine stp hF (p_gtr rfl rfl) (by decide) (fun a hF => ?_)
  refine stp hF (p_move rfl) (by decide) (fun a hF => ?_)
  refine cutj 5 (fun a w => St e s0 w [pt g1 26 ([v1, v2])] ∧ Fr 96 a [(1, (.pointer (some ⟨g1, 0, none⟩))), (18, (.bool ((decide (60 < (x2.Given.length : Int))) || (decide (60 < (x2.Waits.length : Int))))))]) rfl rfl ?_ ?_
  · rcases Bool.eq_false_or_eq_true (decide (60 < (x2.Given.length : Int))) with hc1 | hc1
    · skip
      refine gofD (j := 4) hF rfl rfl (by rw [hc1]; decide) (by decide) (fun a hF => ?_)
      refine gofD (j := 4) hF rfl rfl (by rw [hc1]; decide) (by decide) (fun a hF => ?_)
      refine gofD (j := 4) hF rfl rfl (by rw [hc1]; decide) (by decide) (fun a hF => ?_)
      refine gofD (j := 4) hF rfl rfl (by rw [hc1]; decide) (by decide) (fun a hF => ?_)
      refine stp hF (p_orT (decide (60 < (x2.Waits.length : Int))) rfl hc1 rfl) (by decide) (fun a hF => ?_)
      refine nilN ?_
      refine xn ?_
      exact ⟨hS, hF.cut ⟨rfl, rfl, trivial⟩⟩
    · skip
      refine gonE (j := 4) hF rfl rfl hc1 ?_
      refine stp hF (p_fldb (o' := 1) rfl fi_26_1 rfl) (by decide) (fun a hF => ?_)
      refine gonE (j := 4) hF rfl rfl hc1 ?_
      refine stp hF (p_ldb_one (i := 0) hS rfl rfl ia_24 rfl) (by decide) (fun a hF => ?_)
      refine gonE (j := 4) hF rfl rfl hc1 ?_
      refine stp hF (p_lenr un_24 rfl h2) (by decide) (fun a hF => ?_)
      refine gonE (j := 4) hF rfl rfl hc1 ?_
      refine stp hF (p_gtr rfl rfl) (by decide) (fun a hF => ?_)
      refine stp hF (p_orF rfl hc1 rfl) (by decide) (fun a hF => ?_)
      refine nilN ?_
      refine xn ?_
      exact ⟨hS, hF.cut ⟨rfl, rfl, trivial⟩⟩
  clear hS hF
  rintro a w ⟨hS, hF⟩
  refine nilN ?_
  refine xn ?_
  refine cnd hF rfl (fun hc2 => ?_) (fun hc2 => ?_)
  · replace H := hbt hc2 H
    refine sq ?_
    refine rg ?_
    refine stp hF (p_assign rfl) (by decide) (fun a hF => ?_)
    refine nilN ?_
    refine xn ?_
    refine rt ?_
    refine xr ?_
    obtain rfl := hsm H
    replace hS := hS.sel (is := []) (A' := []) rfl
    exact ret1 hF rfl rfl hS ⟨rfl, rfl⟩
  · replace H := hbf hc2 H
    refine skN ?_
    refine xn ?_
    obtain ⟨x16, H, HK1⟩ := hb H
    refine sqj (fun a w => ∃ (s2 : HF) , St e s2 w [pt g1 26 ([v1, v2])] ∧ Fr 96 a [(1, (.pointer (some ⟨g1, 0, none⟩)))] ∧ Sub s0 s2 ∧ spec_LocksOk.c3 k x2 = some r) ?_ ?_
    · skip
      refine sq ?_
      refine rg ?_
      refine stp hF (p_assign rfl) (by decide) (fun a hF => ?_)
      refine nilN ?_
      refine xn ?_
      refine blk ?_
      refine loop_ind (fun k1 a w => ∃ (x7 : Int) (s3 : HF) , St e s3 w [pt g1 26 ([v1, v2])] ∧ Fr 96 a [(1, (.pointer (some ⟨g1, 0, none⟩))), (3, (.int .i64 x7))] ∧ Sub s0 s3 ∧ spec_LocksOk.l3 x2 k1 x7 = some x16) k ?_ ?_ ?_
      · skip
        exact ⟨0, s0, hS, hF.cut ⟨rfl, rfl, trivial⟩, (Sub.refl _), H⟩
      · clear H hS hF
        rintro a w ⟨x7, s3, hS, hF, hg1, H⟩
        exact absurd (show none = some _ from H) (by simp)
      · clear H hS hF
        rintro k1 a w ⟨x7, s3, hS, hF, hg1, H⟩
        rw [spec_LocksOk.l3.eq_2] at H
        refine sq ?_
        refine sq ?_
        refine rg ?_
        refine stp hF (p_move rfl) (by decide) (fun a hF => ?_)
        refine stp hF (p_fldb (o' := 0) rfl fi_26_0 rfl) (by decide) (fun a hF => ?_)
        refine stp hF (p_ldb_one (i := 0) hS rfl rfl ia_24 rfl) (by decide) (fun a hF => ?_)
        refine stp hF (p_lenr un_24 rfl (h1.mono hg1)) (by decide) (fun a hF => ?_)
        refine stp hF (p_lss rfl rfl) (by decide) (fun a hF => ?_)
        refine nilN ?_
        refine xn ?_
        refine cnd hF rfl (fun hc3 => ?_) (fun hc3 => ?_)
        · replace H := hbt hc3 H
          refine skN ?_
          refine xn ?_
          obtain ⟨x15, H, HK2⟩ := hb H
          refine sqj (fun a w => ∃ (s4 : HF) , St e s4 w [pt g1 26 ([v1, v2])] ∧ Fr 96 a [(1, (.pointer (some ⟨g1, 0, none⟩))), (3, (.int .i64 x7))] ∧ Sub s3 s4 ∧ spec_LocksOk.c4 k1 (spec_LocksOk.l3 x2 k1) x7 = some x16) ?_ ?_
          · skip
            refine blk ?_
            refine sq ?_
            refine rg ?_
            refine stp hF (p_fldb (o' := 0) rfl fi_26_0 rfl) (by decide) (fun a hF => ?_)
            refine stp hF (p_ldb_one (i := 0) hS rfl rfl ia_24 rfl) (by decide) (fun a hF => ?_)
            refine stp hF (p_move rfl) (by decide) (fun a hF => ?_)
            obtain ⟨hq1, H⟩ := hck H
            obtain ⟨ad1, h3, p1⟩ := p_idxr (P := Try.prog) (i := x7) (h1.mono hg1) un_24 ti_33 hq1.1 hq1.2
            refine stp hF (p1 rfl rfl) (by decide) (fun a hF => ?_)
            obtain ⟨c7, h4, p2⟩ := p_ldr_agg (P := Try.prog) h3 ia_33 ti_33
            obtain rfl := kTGrant_open h4
            refine stp hF (p2 rfl hS.ro) (by decide) (fun a hF => ?_)
            refine ste hF (e_alloc (cs := [(.int .i64 0), (.int .i64 0), (.int .i64 0)]) hS ti_33 rfl) (by decide) (fun v w a hR hF => ?_)
            obtain ⟨g2, rfl, hS⟩ := hR
            refine ste0 hF (e_stb (i := 0) (l := []) (m := [(.int .i64 0), (.int .i64 0), (.int .i64 0)]) (r := []) (m' := [(.int .i64 ((rd x2.Given x7).Tx)), (.int .i64 ((rd x2.Given x7).Res)), (.int .i64 ((rd x2.Given x7).Mode))]) (cs' := [(.int .i64 ((rd x2.Given x7).Tx)), (.int .i64 ((rd x2.Given x7).Res)), (.int .i64 ((rd x2.Given x7).Mode))]) hS rfl rfl rfl ti_33 rfl rfl rfl rfl rfl (one_cons rfl (one_cons rfl (one_cons rfl one_nil))) rfl) (fun v w a hR hF => ?_)
            have hS : St e s3 w [pt g2 33 ([(.int .i64 ((rd x2.Given x7).Tx)), (.int .i64 ((rd x2.Given x7).Res)), (.int .i64 ((rd x2.Given x7).Mode))]), pt g1 26 ([v1, v2])] := hR
            refine nilN ?_
            refine xn ?_
            refine sq ?_
            refine sq ?_
            refine rg ?_
            refine stp hF (p_ldb_agg (i := 0) (l := []) (m := [(.int .i64 ((rd x2.Given x7).Tx)), (.int .i64 ((rd x2.Given x7).Res)), (.int .i64 ((rd x2.Given x7).Mode))]) (r := []) hS rfl rfl ia_33 ti_33 rfl rfl rfl) (by decide) (fun a hF => ?_)
            obtain ⟨x14, hx1, H⟩ := hb H
            refine ste hF (e_call (fst := []) (vs := [(.agg #[(.int .i64 ((rd x2.Given x7).Tx)), (.int .i64 ((rd x2.Given x7).Res)), (.int .i64 ((rd x2.Given x7).Mode))])]) (cap := []) rfl rfl go_42 (St.call (A := []) (B := [pt g2 33 ([(.int .i64 ((rd x2.Given x7).Tx)), (.int .i64 ((rd x2.Given x7).Res)), (.int .i64 ((rd x2.Given x7).Mode))]), pt g1 26 ([v1, v2])]) hS (spec_l9Grant.spec k1 _ _ (rd x2.Given x7) _ hx1))) (by decide) (fun v w a hR hF => ?_)
            obtain ⟨s5, A2, hg2, hS, hR⟩ := hR
            obtain ⟨hv1, rfl⟩ := hR; obtain rfl := hv1.symm
            have hS : St e s5 w [pt g2 33 ([(.int .i64 ((rd x2.Given x7).Tx)), (.int .i64 ((rd x2.Given x7).Res)), (.int .i64 ((rd x2.Given x7).Mode))]), pt g1 26 ([v1, v2])] := hS
            refine stp hF (p_not rfl) (by decide) (fun a hF => ?_)
            refine nilN ?_
            refine xn ?_
            refine cnd hF rfl (fun hc4 => ?_) (fun hc4 => ?_)
            · replace H := hbt hc4 H
              refine sq ?_
              refine rg ?_
              refine stp hF (p_assign rfl) (by decide) (fun a hF => ?_)
              refine nilN ?_
              refine xn ?_
              refine rt ?_
              refine xr (br (xr (xr (br (xr ?_)))))
              obtain rfl := hsm H
              have H := hon1 HK2
              obtain rfl := hsm H
              have H := hon1 HK1
              obtain rfl := hsm H
              replace hS := hS.sel (is := []) (A' := []) rfl
              exact ret1 hF rfl rfl hS ⟨rfl, rfl⟩
            · replace H := hbf hc4 H
              refine skN ?_
              refine xn ?_
              refine sq ?_
              refine rg ?_
              refine stp hF (p_assign rfl) (by decide) (fun a hF => ?_)
              refine nilN ?_
              refine xn ?_
              refine blk ?_
              refine loop_ind (fun k2 a w => ∃ (x8 : Int) (s6 : HF) , St e s6 w [pt g2 33 ([(.int .i64 ((rd x2.Given x7).Tx)), (.int .i64 ((rd x2.Given x7).Res)), (.int .i64 ((rd x2.Given x7).Mode))]), pt g1 26 ([v1, v2])] ∧ Fr 96 a [(1, (.pointer (some ⟨g1, 0, none⟩))), (3, (.int .i64 x7)), (4, (.pointer (some ⟨g2, 0, none⟩))), (5, (.int .i64 x8))] ∧ Sub s5 s6 ∧ spec_LocksOk.l4 x7 x2 k2 x8 = some x15) k1 ?_ ?_ ?_
              · skip
                exact ⟨0, s5, hS, hF.cut ⟨rfl, rfl, rfl, rfl, trivial⟩, (Sub.refl _), H⟩
              · clear H hS hF
                rintro a w ⟨x8, s6, hS, hF, hg3, H⟩
                exact absurd (show none = some _ from H) (by simp)
              · clear H hS hF
                rintro k2 a w ⟨x8, s6, hS, hF, hg3, H⟩
                rw [spec_LocksOk.l4.eq_2] at H
                refine sq ?_
                refine sq ?_
                refine rg ?_
                refine stp hF (p_move rfl) (by decide) (fun a hF => ?_)
                refine stp hF (p_move rfl) (by decide) (fun a hF => ?_)
                refine stp hF (p_lss rfl rfl) (by decide) (fun a hF => ?_)
                refine nilN ?_
                refine xn ?_
                refine cnd hF rfl (fun hc5 => ?_) (fun hc5 => ?_)
                · replace H := hbt hc5 H
                  refine skN ?_
                  refine xn ?_
                  refine sq ?_
                  refine blk ?_
                  refine sq ?_
                  refine rg ?_
                  refine stp hF (p_fldb (o' := 0) rfl fi_26_0 rfl) (by decide) (fun a hF => ?_)
                  refine stp hF (p_ldb_one (i := 1) hS rfl rfl ia_24 rfl) (by decide) (fun a hF => ?_)
                  refine stp hF (p_move rfl) (by decide) (fun a hF => ?_)
                  obtain ⟨hq2, H⟩ := hck H
                  obtain ⟨ad2, h5, p3⟩ := p_idxr (P := Try.prog) (i := x8) (((h1.mono hg1).mono hg2).mono hg3) un_24 ti_33 hq2.1 hq2.2
                  refine stp hF (p3 rfl rfl) (by decide) (fun a hF => ?_)
                  obtain ⟨c8, h6, p4⟩ := p_ldr_agg (P := Try.prog) h5 ia_33 ti_33
                  obtain rfl := kTGrant_open h6
                  refine stp hF (p4 rfl hS.ro) (by decide) (fun a hF => ?_)
                  refine ste hF (e_alloc (cs := [(.int .i64 0), (.int .i64 0), (.int .i64 0)]) hS ti_33 rfl) (by decide) (fun v w a hR hF => ?_)
                  obtain ⟨g3, rfl, hS⟩ := hR
                  refine ste0 hF (e_stb (i := 0) (l := []) (m := [(.int .i64 0), (.int .i64 0), (.int .i64 0)]) (r := []) (m' := [(.int .i64 ((rd x2.Given x8).Tx)), (.int .i64 ((rd x2.Given x8).Res)), (.int .i64 ((rd x2.Given x8).Mode))]) (cs' := [(.int .i64 ((rd x2.Given x8).Tx)), (.int .i64 ((rd x2.Given x8).Res)), (.int .i64 ((rd x2.Given x8).Mode))]) hS rfl rfl rfl ti_33 rfl rfl rfl rfl rfl (one_cons rfl (one_cons rfl (one_cons rfl one_nil))) rfl) (fun v w a hR hF => ?_)
                  have hS : St e s6 w [pt g3 33 ([(.int .i64 ((rd x2.Given x8).Tx)), (.int .i64 ((rd x2.Given x8).Res)), (.int .i64 ((rd x2.Given x8).Mode))]), pt g2 33 ([(.int .i64 ((rd x2.Given x7).Tx)), (.int .i64 ((rd x2.Given x7).Res)), (.int .i64 ((rd x2.Given x7).Mode))]), pt g1 26 ([v1, v2])] := hR
                  refine nilN ?_
                  refine xn ?_
                  refine sq ?_
                  refine rg ?_
                  refine stp hF (p_fldb (o' := 1) rfl fi_33_1 rfl) (by decide) (fun a hF => ?_)
                  refine stp hF (p_ldb_one (i := 0) hS rfl rfl ia_3 rfl) (by decide) (fun a hF => ?_)
                  refine stp hF (p_fldb (o' := 1) rfl fi_33_1 rfl) (by decide) (fun a hF => ?_)
                  refine stp hF (p_ldb_one (i := 1) hS rfl rfl ia_3 rfl) (by decide) (fun a hF => ?_)
                  refine stp hF (p_eql rfl rfl) (by decide) (fun a hF => ?_)
                  refine stp hF (p_move rfl) (by decide) (fun a hF => ?_)
                  obtain ⟨x13, H, HK3⟩ := hb H
                  refine cutj 14 (fun a w => ∃ (x9 : Bool) (s7 : HF) , St e s7 w [pt g3 33 ([(.int .i64 ((rd x2.Given x8).Tx)), (.int .i64 ((rd x2.Given x8).Res)), (.int .i64 ((rd x2.Given x8).Mode))]), pt g2 33 ([(.int .i64 ((rd x2.Given x7).Tx)), (.int .i64 ((rd x2.Given x7).Res)), (.int .i64 ((rd x2.Given x7).Mode))]), pt g1 26 ([v1, v2])] ∧ Fr 96 a [(1, (.pointer (some ⟨g1, 0, none⟩))), (3, (.int .i64 x7)), (4, (.pointer (some ⟨g2, 0, none⟩))), (5, (.int .i64 x8)), (63, (.bool x9))] ∧ Sub s6 s7 ∧ spec_LocksOk.c5 k2 (spec_LocksOk.l4 x7 x2 k2) x8 x9 = some x15) rfl rfl ?_ ?_
                  · rcases Bool.eq_false_or_eq_true (decide (((rd x2.Given x8).Res) = ((rd x2.Given x7).Res))) with hc6 | hc6
                    · replace H := hbt hc6 H
                      refine gonE (j := 5) hF rfl rfl hc6 ?_
                      refine stp hF (p_fldb (o' := 0) rfl fi_33_0 rfl) (by decide) (fun a hF => ?_)
                      refine gonE (j := 5) hF rfl rfl hc6 ?_
                      refine stp hF (p_ldb_one (i := 0) hS rfl rfl ia_3 rfl) (by decide) (fun a hF => ?_)
                      refine gonE (j := 5) hF rfl rfl hc6 ?_
                      refine stp hF (p_fldb (o' := 0) rfl fi_33_0 rfl) (by decide) (fun a hF => ?_)
                      refine gonE (j := 5) hF rfl rfl hc6 ?_
                      refine stp hF (p_ldb_one (i := 1) hS rfl rfl ia_3 rfl) (by decide) (fun a hF => ?_)
                      refine gonE (j := 5) hF rfl rfl hc6 ?_
                      refine stp hF (p_eql rfl rfl) (by decide) (fun a hF => ?_)
                      refine gonE (j := 5) hF rfl rfl hc6 ?_
                      refine stp hF (p_move rfl) (by decide) (fun a hF => ?_)
                      obtain ⟨x12, H, HK4⟩ := hb H
                      refine cutj 7 (fun a w => ∃ (x10 : Bool) (s8 : HF) , St e s8 w [pt g3 33 ([(.int .i64 ((rd x2.Given x8).Tx)), (.int .i64 ((rd x2.Given x8).Res)), (.int .i64 ((rd x2.Given x8).Mode))]), pt g2 33 ([(.int .i64 ((rd x2.Given x7).Tx)), (.int .i64 ((rd x2.Given x7).Res)), (.int .i64 ((rd x2.Given x7).Mode))]), pt g1 26 ([v1, v2])] ∧ Fr 96 a [(1, (.pointer (some ⟨g1, 0, none⟩))), (3, (.int .i64 x7)), (4, (.pointer (some ⟨g2, 0, none⟩))), (5, (.int .i64 x8)), (49, (.bool (decide (((rd x2.Given x8).Res) = ((rd x2.Given x7).Res))))), (62, (.bool x10))] ∧ Sub s6 s8 ∧ spec_LocksOk.c6 k2 x10 = some x13) rfl rfl ?_ ?_
                      · rcases Bool.eq_false_or_eq_true (decide (((rd x2.Given x8).Tx) = ((rd x2.Given x7).Tx))) with hc7 | hc7
                        · replace H := hbt hc7 H
                          refine gofD (j := 11) hF rfl rfl (by rw [hc7]; decide) (by decide) (fun a hF => ?_)
                          refine gofD (j := 11) hF rfl rfl (by rw [hc7]; decide) (by decide) (fun a hF => ?_)
                          refine gofD (j := 11) hF rfl rfl (by rw [hc7]; decide) (by decide) (fun a hF => ?_)
                          refine gofD (j := 11) hF rfl rfl (by rw [hc7]; decide) (by decide) (fun a hF => ?_)
                          refine gofD (j := 11) hF rfl rfl (by rw [hc7]; decide) (by decide) (fun a hF => ?_)
                          refine gofD (j := 11) hF rfl rfl (by rw [hc7]; decide) (by decide) (fun a hF => ?_)
                          refine gonE (j := 5) hF rfl rfl hc6 ?_
                          refine stp hF (p_pickT rfl hc7 rfl) (by decide) (fun a hF => ?_)
                          refine nilN ?_
                          refine xn ?_
                          obtain rfl := hsm H
                          exact ⟨true, s6, hS, hF.cut ⟨rfl, rfl, rfl, rfl, rfl, rfl, trivial⟩, (Sub.refl _), HK4⟩
                        · replace H := hbf hc7 H
                          refine gonE (j := 11) hF rfl rfl hc7 ?_
                          refine stp hF (p_fldb (o' := 2) rfl fi_33_2 rfl) (by decide) (fun a hF => ?_)
                          refine gonE (j := 11) hF rfl rfl hc7 ?_
                          refine stp hF (p_ldb_one (i := 0) hS rfl rfl ia_3 rfl) (by decide) (fun a hF => ?_)
                          refine gonE (j := 11) hF rfl rfl hc7 ?_
                          refine stp hF (p_fldb (o' := 2) rfl fi_33_2 rfl) (by decide) (fun a hF => ?_)
                          refine gonE (j := 11) hF rfl rfl hc7 ?_
                          refine stp hF (p_ldb_one (i := 1) hS rfl rfl ia_3 rfl) (by decide) (fun a hF => ?_)
                          obtain ⟨x11, hx2, H⟩ := hb H
                          refine gonE (j := 11) hF rfl rfl hc7 ?_
                          refine ste hF (e_call (fst := []) (vs := [(.int .i64 ((rd x2.Given x8).Mode)), (.int .i64 ((rd x2.Given x7).Mode))]) (cap := []) rfl rfl go_67 (St.call (A := []) (B := [pt g3 33 ([(.int .i64 ((rd x2.Given x8).Tx)), (.int .i64 ((rd x2.Given x8).Res)), (.int .i64 ((rd x2.Given x8).Mode))]), pt g2 33 ([(.int .i64 ((rd x2.Given x7).Tx)), (.int .i64 ((rd x2.Given x7).Res)), (.int .i64 ((rd x2.Given x7).Mode))]), pt g1 26 ([v1, v2])]) hS (spec_Goes.spec k2 _ _ ((rd x2.Given x8).Mode) ((rd x2.Given x7).Mode) _ hx2))) (by decide) (fun v w a hR hF => ?_)
                          obtain ⟨s9, A3, hg4, hS, hR⟩ := hR
                          obtain ⟨hv2, rfl⟩ := hR; obtain rfl := hv2.symm
                          have hS : St e s9 w [pt g3 33 ([(.int .i64 ((rd x2.Given x8).Tx)), (.int .i64 ((rd x2.Given x8).Res)), (.int .i64 ((rd x2.Given x8).Mode))]), pt g2 33 ([(.int .i64 ((rd x2.Given x7).Tx)), (.int .i64 ((rd x2.Given x7).Res)), (.int .i64 ((rd x2.Given x7).Mode))]), pt g1 26 ([v1, v2])] := hS
                          refine gonE (j := 11) hF rfl rfl hc7 ?_
                          refine stp hF (p_not rfl) (by decide) (fun a hF => ?_)
                          refine gonE (j := 5) hF rfl rfl hc6 ?_
                          refine stp hF (p_pickF rfl hc7 rfl) (by decide) (fun a hF => ?_)
                          refine nilN ?_
                          refine xn ?_
                          obtain rfl := hsm H
                          exact ⟨(!x11), s9, hS, hF.cut ⟨rfl, rfl, rfl, rfl, rfl, rfl, trivial⟩, hg4, HK4⟩
                      · clear H HK4 hS hF
                        rintro a w ⟨x10, s8, hS, hF, hg5, H⟩
                        unfold spec_LocksOk.c6 at H
                        refine stp hF (p_pickT rfl hc6 rfl) (by decide) (fun a hF => ?_)
                        refine nilN ?_
                        refine xn ?_
                        obtain rfl := hsm H
                        exact ⟨x10, s8, hS, hF.cut ⟨rfl, rfl, rfl, rfl, rfl, trivial⟩, hg5, HK3⟩
                    · replace H := hbf hc6 H
                      refine gofD (j := 5) hF rfl rfl (by rw [hc6]; decide) (by decide) (fun a hF => ?_)
                      refine gofD (j := 5) hF rfl rfl (by rw [hc6]; decide) (by decide) (fun a hF => ?_)
                      refine gofD (j := 5) hF rfl rfl (by rw [hc6]; decide) (by decide) (fun a hF => ?_)
                      refine gofD (j := 5) hF rfl rfl (by rw [hc6]; decide) (by decide) (fun a hF => ?_)
                      refine gofD (j := 5) hF rfl rfl (by rw [hc6]; decide) (by decide) (fun a hF => ?_)
                      refine gofD (j := 5) hF rfl rfl (by rw [hc6]; decide) (by decide) (fun a hF => ?_)
                      refine gofU (j := 11) hF rfl rfl (by decide) (fun a hF => ?_)
                      refine gofU (j := 11) hF rfl rfl (by decide) (fun a hF => ?_)
                      refine gofU (j := 11) hF rfl rfl (by decide) (fun a hF => ?_)
                      refine gofU (j := 11) hF rfl rfl (by decide) (fun a hF => ?_)
                      refine gofU (j := 11) hF rfl rfl (by decide) (fun a hF => ?_)
                      refine gofU (j := 11) hF rfl rfl (by decide) (fun a hF => ?_)
                      refine gofD (j := 5) hF rfl rfl (by rw [hc6]; decide) (by decide) (fun a hF => ?_)
                      refine stp hF (p_pickF rfl hc6 rfl) (by decide) (fun a hF => ?_)
                      refine nilN ?_
                      refine xn ?_
                      obtain rfl := hsm H
                      exact ⟨false, s6, hS, hF.cut ⟨rfl, rfl, rfl, rfl, rfl, trivial⟩, (Sub.refl _), HK3⟩
                  · clear H HK3 hS hF
                    rintro a w ⟨x9, s7, hS, hF, hg6, H⟩
                    unfold spec_LocksOk.c5 at H
                    refine nilN ?_
                    refine xn ?_
                    refine cnd hF rfl (fun hc8 => ?_) (fun hc8 => ?_)
                    · replace H := hbt hc8 H
                      refine sq ?_
                      refine rg ?_
                      refine stp hF (p_assign rfl) (by decide) (fun a hF => ?_)
                      refine nilN ?_
                      refine xn ?_
                      refine rt ?_
                      refine br (xr (xr (br (br (xr (xr (br (xr ?_))))))))
                      obtain rfl := hsm H
                      have H := hon1 HK2
                      obtain rfl := hsm H
                      have H := hon1 HK1
                      obtain rfl := hsm H
                      replace hS := hS.sel (is := []) (A' := []) rfl
                      exact ret1 hF rfl rfl hS ⟨rfl, rfl⟩
                    · replace H := hbf hc8 H
                      refine skN ?_
                      refine bn (xn ?_)
                      refine rg ?_
                      refine stp hF (p_move rfl) (by decide) (fun a hF => ?_)
                      refine stp hF (p_add (c := w64 (x8 + 1)) rfl rfl rfl) (by decide) (fun a hF => ?_)
                      refine stp hF (p_assign rfl) (by decide) (fun a hF => ?_)
                      refine nilN ?_
                      refine xn ?_
                      replace hS := hS.sel (is := [1, 1]) (A' := [pt g2 33 ([(.int .i64 ((rd x2.Given x7).Tx)), (.int .i64 ((rd x2.Given x7).Res)), (.int .i64 ((rd x2.Given x7).Mode))]), pt g1 26 ([v1, v2])]) rfl
                      exact ⟨(w64 (x8 + 1)), s7, hS, hF.cut ⟨rfl, rfl, rfl, rfl, trivial⟩, (hg3.trans hg6), H⟩
                · replace H := hbf hc5 H
                  refine exi ?_
                  refine xe (xe (hit (bn (xn ?_))))
                  obtain rfl := hsm H
                  replace hS := hS.sel (is := [1]) (A' := [pt g1 26 ([v1, v2])]) rfl
                  exact ⟨s6, hS, hF.cut ⟨rfl, rfl, trivial⟩, (hg2.trans hg3), HK2⟩
          · clear H HK2 hS hF
            rintro a w ⟨s4, hS, hF, hg7, H⟩
            unfold spec_LocksOk.c4 at H
            refine rg ?_
            refine stp hF (p_move rfl) (by decide) (fun a hF => ?_)
            refine stp hF (p_add (c := w64 (x7 + 1)) rfl rfl rfl) (by decide) (fun a hF => ?_)
            refine stp hF (p_assign rfl) (by decide) (fun a hF => ?_)
            refine nilN ?_
            refine xn ?_
            exact ⟨(w64 (x7 + 1)), s4, hS, hF.cut ⟨rfl, rfl, trivial⟩, (hg1.trans hg7), H⟩
        · replace H := hbf hc3 H
          refine exi ?_
          refine xe (xe (hit (xn ?_)))
          obtain rfl := hsm H
          exact ⟨s3, hS, hF.cut ⟨rfl, trivial⟩, hg1, HK1⟩
    · clear H HK1 hS hF
      rintro a w ⟨s2, hS, hF, hg8, H⟩
      unfold spec_LocksOk.c3 at H
      obtain ⟨x6, H, HK5⟩ := hb H
      refine sqj (fun a w => ∃ (s10 : HF) , St e s10 w [pt g1 26 ([v1, v2])] ∧ Fr 96 a [] ∧ Sub s2 s10 ∧ spec_LocksOk.c1 k = some r) ?_ ?_
      · skip
        refine sq ?_
        refine rg ?_
        refine stp hF (p_assign rfl) (by decide) (fun a hF => ?_)
        refine nilN ?_
        refine xn ?_
        refine blk ?_
        refine loop_ind (fun k3 a w => ∃ (x1 : Int) (s11 : HF) , St e s11 w [pt g1 26 ([v1, v2])] ∧ Fr 96 a [(1, (.pointer (some ⟨g1, 0, none⟩))), (7, (.int .i64 x1))] ∧ Sub s2 s11 ∧ spec_LocksOk.l1 x2 k3 x1 = some x6) k ?_ ?_ ?_
        · skip
          exact ⟨0, s2, hS, hF.cut ⟨rfl, rfl, trivial⟩, (Sub.refl _), H⟩
        · clear H hS hF
          rintro a w ⟨x1, s11, hS, hF, hg9, H⟩
          exact absurd (show none = some _ from H) (by simp)
        · clear H hS hF
          rintro k3 a w ⟨x1, s11, hS, hF, hg9, H⟩
          rw [spec_LocksOk.l1.eq_2] at H
          refine sq ?_
          refine sq ?_
          refine rg ?_
          refine stp hF (p_move rfl) (by decide) (fun a hF => ?_)
          refine stp hF (p_fldb (o' := 1) rfl fi_26_1 rfl) (by decide) (fun a hF => ?_)
          refine stp hF (p_ldb_one (i := 0) hS rfl rfl ia_24 rfl) (by decide) (fun a hF => ?_)
          refine stp hF (p_lenr un_24 rfl ((h2.mono hg8).mono hg9)) (by decide) (fun a hF => ?_)
          refine stp hF (p_lss rfl rfl) (by decide) (fun a hF => ?_)
          refine nilN ?_
          refine xn ?_
          refine cnd hF rfl (fun hc9 => ?_) (fun hc9 => ?_)
          · replace H := hbt hc9 H
            refine skN ?_
            refine xn ?_
            obtain ⟨x5, H, HK6⟩ := hb H
            refine sqj (fun a w => ∃ (s12 : HF) , St e s12 w [pt g1 26 ([v1, v2])] ∧ Fr 96 a [(1, (.pointer (some ⟨g1, 0, none⟩))), (7, (.int .i64 x1))] ∧ Sub s11 s12 ∧ spec_LocksOk.c2 k3 (spec_LocksOk.l1 x2 k3) x1 = some x6) ?_ ?_
            · skip
              refine blk ?_
              refine sq ?_
              refine sq ?_
              refine rg ?_
              refine stp hF (p_fldb (o' := 1) rfl fi_26_1 rfl) (by decide) (fun a hF => ?_)
              refine stp hF (p_ldb_one (i := 0) hS rfl rfl ia_24 rfl) (by decide) (fun a hF => ?_)
              refine stp hF (p_move rfl) (by decide) (fun a hF => ?_)
              obtain ⟨hq3, H⟩ := hck H
              obtain ⟨ad3, h7, p5⟩ := p_idxr (P := Try.prog) (i := x1) ((h2.mono hg8).mono hg9) un_24 ti_33 hq3.1 hq3.2
              refine stp hF (p5 rfl rfl) (by decide) (fun a hF => ?_)
              obtain ⟨c9, h8, p6⟩ := p_ldr_agg (P := Try.prog) h7 ia_33 ti_33
              obtain rfl := kTGrant_open h8
              refine stp hF (p6 rfl hS.ro) (by decide) (fun a hF => ?_)
              obtain ⟨x4, hx3, H⟩ := hb H
              refine ste hF (e_call (fst := []) (vs := [(.agg #[(.int .i64 ((rd x2.Waits x1).Tx)), (.int .i64 ((rd x2.Waits x1).Res)), (.int .i64 ((rd x2.Waits x1).Mode))])]) (cap := []) rfl rfl go_42 (St.call (A := []) (B := [pt g1 26 ([v1, v2])]) hS (spec_l9Grant.spec k3 _ _ (rd x2.Waits x1) _ hx3))) (by decide) (fun v w a hR hF => ?_)
              obtain ⟨s13, A4, hg10, hS, hR⟩ := hR
              obtain ⟨hv3, rfl⟩ := hR; obtain rfl := hv3.symm
              have hS : St e s13 w [pt g1 26 ([v1, v2])] := hS
              refine stp hF (p_not rfl) (by decide) (fun a hF => ?_)
              refine nilN ?_
              refine xn ?_
              refine cnd hF rfl (fun hc10 => ?_) (fun hc10 => ?_)
              · replace H := hbt hc10 H
                refine sq ?_
                refine rg ?_
                refine stp hF (p_assign rfl) (by decide) (fun a hF => ?_)
                refine nilN ?_
                refine xn ?_
                refine rt ?_
                refine xr (br (xr (xr (br (xr ?_)))))
                obtain rfl := hsm H
                have H := hon1 HK6
                obtain rfl := hsm H
                have H := hon1 HK5
                obtain rfl := hsm H
                replace hS := hS.sel (is := []) (A' := []) rfl
                exact ret1 hF rfl rfl hS ⟨rfl, rfl⟩
              · replace H := hbf hc10 H
                refine skN ?_
                refine xn ?_
                refine sq ?_
                refine rg ?_
                refine stp hF (p_assign rfl) (by decide) (fun a hF => ?_)
                refine nilN ?_
                refine xn ?_
                refine blk ?_
                refine loop_ind (fun k4 a w => ∃ (x3 : Int) , St e s13 w [pt g1 26 ([v1, v2])] ∧ Fr 96 a [(1, (.pointer (some ⟨g1, 0, none⟩))), (7, (.int .i64 x1)), (8, (.int .i64 x3))] ∧ spec_LocksOk.l2 x1 x2 k4 x3 = some x5) k3 ?_ ?_ ?_
                · skip
                  exact ⟨0, hS, hF.cut ⟨rfl, rfl, rfl, trivial⟩, H⟩
                · clear H hS hF
                  rintro a w ⟨x3, hS, hF, H⟩
                  exact absurd (show none = some _ from H) (by simp)
                · clear H hS hF
                  rintro k4 a w ⟨x3, hS, hF, H⟩
                  rw [spec_LocksOk.l2.eq_2] at H
                  refine sq ?_
                  refine sq ?_
                  refine rg ?_
                  refine stp hF (p_move rfl) (by decide) (fun a hF => ?_)
                  refine stp hF (p_move rfl) (by decide) (fun a hF => ?_)
                  refine stp hF (p_lss rfl rfl) (by decide) (fun a hF => ?_)
                  refine nilN ?_
                  refine xn ?_
                  refine cnd hF rfl (fun hc11 => ?_) (fun hc11 => ?_)
                  · replace H := hbt hc11 H
                    refine skN ?_
                    refine xn ?_
                    refine sq ?_
                    refine blk ?_
                    refine sq ?_
                    replace hS : St e s13 w.drew [pt g1 26 ([v1, v2])] := hS.drewN 1
                    refine drw [0, 1, 2, 3, 4, 5, 6, 7, 8, 9, 10, 11, 12] mixed (by kernel_rfl) (by decide) (hF.cut (L' := [(1, (.pointer (some ⟨g1, 0, none⟩))), (7, (.int .i64 x1)), (8, (.int .i64 x3)), (78, (.int .i64 x3)), (79, (.int .i64 x1)), (80, (.bool (decide (x3 < x1))))]) ⟨rfl, rfl, rfl, rfl, rfl, rfl, trivial⟩) ?_
                    clear hF
                    generalize w.drew = w at hS ⊢
                    refine pk1 rfl (by decide) rfl (by kernel_rfl) rfl (p_fldb (o' := 1) rfl fi_26_1 rfl) ?_
                    refine pk1 rfl (by decide) rfl (by kernel_rfl) rfl (p_ldb_one (i := 0) hS rfl rfl ia_24 rfl) ?_
                    refine pk1 rfl (by decide) rfl (by kernel_rfl) rfl (p_move rfl) ?_
                    obtain ⟨hq4, H⟩ := hck H
                    obtain ⟨ad4, h9, p7⟩ := p_idxr (P := Try.prog) (i := x3) (((h2.mono hg8).mono hg9).mono hg10) un_24 ti_33 hq4.1 hq4.2
                    refine pk1 rfl (by decide) rfl (by kernel_rfl) rfl (p7 rfl rfl) ?_
                    have h10 : Pr (Kd.int .i64) s13 (ad4.add 0) ((rd x2.Waits x3).Tx) := h9.lens kTGrant_Tx
                    refine pk1 rfl (by decide) rfl (by kernel_rfl) rfl (p_fld rfl fi_33_0) ?_
                    refine pk1 rfl (by decide) rfl (by kernel_rfl) rfl (p_ldr_int rfl hS h10 ia_3) ?_
                    refine pk1 rfl (by decide) rfl (by kernel_rfl) rfl (p_fldb (o' := 1) rfl fi_26_1 rfl) ?_
                    refine pk1 rfl (by decide) rfl (by kernel_rfl) rfl (p_ldb_one (i := 0) hS rfl rfl ia_24 rfl) ?_
                    refine pk1 rfl (by decide) rfl (by kernel_rfl) rfl (p_move rfl) ?_
                    obtain ⟨hq5, H⟩ := hck H
                    obtain ⟨ad5, h11, p8⟩ := p_idxr (P := Try.prog) (i := x1) (((h2.mono hg8).mono hg9).mono hg10) un_24 ti_33 hq5.1 hq5.2
                    refine pk1 rfl (by decide) rfl (by kernel_rfl) rfl (p8 rfl rfl) ?_
                    have h12 : Pr (Kd.int .i64) s13 (ad5.add 0) ((rd x2.Waits x1).Tx) := h11.lens kTGrant_Tx
                    refine pk1 rfl (by decide) rfl (by kernel_rfl) rfl (p_fld rfl fi_33_0) ?_
                    refine pk1 rfl (by decide) rfl (by kernel_rfl) rfl (p_ldr_int rfl hS h12 ia_3) ?_
                    refine pk1 rfl (by decide) rfl (by kernel_rfl) rfl (p_eql rfl rfl) ?_
                    refine pkF (fun a hF => ?_)
                    refine xn ?_
                    refine cnd hF rfl (fun hc12 => ?_) (fun hc12 => ?_)
                    · replace H := hbt hc12 H
                      refine sq ?_
                      refine rg ?_
                      refine stp hF (p_assign rfl) (by decide) (fun a hF => ?_)
                      refine nilN ?_
                      refine xn ?_
                      refine rt ?_
                      refine br (xr (xr (br (br (xr (xr (br (xr ?_))))))))
                      obtain rfl := hsm H
                      have H := hon1 HK6
                      obtain rfl := hsm H
                      have H := hon1 HK5
                      obtain rfl := hsm H
                      replace hS := hS.sel (is := []) (A' := []) rfl
                      exact ret1 hF rfl rfl hS ⟨rfl, rfl⟩
                    · replace H := hbf hc12 H
                      refine skN ?_
                      refine bn (xn ?_)
                      refine rg ?_
                      refine stp hF (p_move rfl) (by decide) (fun a hF => ?_)
                      refine stp hF (p_add (c := w64 (x3 + 1)) rfl rfl rfl) (by decide) (fun a hF => ?_)
                      refine stp hF (p_assign rfl) (by decide) (fun a hF => ?_)
                      refine nilN ?_
                      refine xn ?_
                      exact ⟨(w64 (x3 + 1)), hS, hF.cut ⟨rfl, rfl, rfl, trivial⟩, H⟩
                  · replace H := hbf hc11 H
                    refine exi ?_
                    refine xe (xe (hit (bn (xn ?_))))
                    obtain rfl := hsm H
                    exact ⟨s13, hS, hF.cut ⟨rfl, rfl, trivial⟩, hg10, HK6⟩
            · clear H HK6 hS hF
              rintro a w ⟨s12, hS, hF, hg11, H⟩
              unfold spec_LocksOk.c2 at H
              refine rg ?_
              refine stp hF (p_move rfl) (by decide) (fun a hF => ?_)
              refine stp hF (p_add (c := w64 (x1 + 1)) rfl rfl rfl) (by decide) (fun a hF => ?_)
              refine stp hF (p_assign rfl) (by decide) (fun a hF => ?_)
              refine nilN ?_
              refine xn ?_
              exact ⟨(w64 (x1 + 1)), s12, hS, hF.cut ⟨rfl, rfl, trivial⟩, (hg9.trans hg11), H⟩
          · replace H := hbf hc9 H
            refine exi ?_
            refine xe (xe (hit (xn ?_)))
            obtain rfl := hsm H
            exact ⟨s11, hS, hF.cut trivial, hg9, HK5⟩
      · clear H HK5 hS hF
        rintro a w ⟨s10, hS, hF, hg12, H⟩
        unfold spec_LocksOk.c1 at H
        refine sq ?_
        refine rg ?_
        refine stp hF (p_assign rfl) (by decide) (fun a hF => ?_)
        refine nilN ?_
        refine xn ?_
        refine rt ?_
        obtain rfl := hsm H
        replace hS := hS.sel (is := []) (A' := []) rfl
        exact ret1 hF rfl rfl hS ⟨rfl, rfl⟩

def spec_Ask.c1 (k : Nat) (x1 : TLocks) (x2 : TLocks) (x3 : Int) (x4 : Int) (x5 : Int) (x6 : Bool) : Option (TLocks × Int) :=
  (if ((x6 || (decide ((x1.Given.length : Int) = 60))) || (decide ((x1.Waits.length : Int) = 60))) = true then (some (x2, 2)) else ((spec_l9Ask.f k x2.Given x2.Waits (⟨x3, x4, x5⟩ : TGrant)).bind fun x7 => (some ((⟨x7.2.1, x7.2.2⟩ : TLocks), x7.1))))
def spec_Ask.c2 (k : Nat) (x1 : TLocks) (x3 : Int) (x2 : TLocks) (x4 : Int) (x5 : Int) (x8 : Bool) : Option (TLocks × Int) :=
  ((if x8 = true then (some true) else ((spec_l9Waits.f k x1 x3).bind fun x9 => (some x9)) : Option Bool).bind fun x10 => spec_Ask.c1 k x1 x2 x3 x4 x5 x10)
def spec_Ask.f (k : Nat) (x1 : TLocks) (x3 : Int) (x4 : Int) (x5 : Int) : Option (TLocks × Int) :=
  ((spec_l9Copy.f k x1).bind fun x2 => ((spec_LocksOk.f k x1).bind fun x11 => ((if (!x11) = true then (some true) else ((spec_l9Grant.f k (⟨x3, x4, x5⟩ : TGrant)).bind fun x12 => (some (!x12))) : Option Bool).bind fun x13 => spec_Ask.c2 k x1 x3 x2 x4 x5 x13)))
set_option maxRecDepth 100000 in
set_option maxHeartbeats 4000000 in
theorem spec_Ask.spec (k : Nat) (s0 : HF) (w : World) (x1 : TLocks) (x3 : Int) (x4 : Int) (x5 : Int) (v1 : Value) (v2 : Value) (h1 : Sl kTGrant s0 v1 x1.Given) (h2 : Sl kTGrant s0 v2 x1.Waits) (r : TLocks × Int) (H : spec_Ask.f k x1 x3 x4 x5 = some r) :
    Law Try.prog 9 #[(.agg #[v1, v2]), (.int .i64 x3), (.int .i64 x4), (.int .i64 x5)] s0 w [] (fun v s1 A1 => ∃ (u0 : Value) (u1 : Value), v = (.tuple #[(.agg #[u0, u1]), (.int .i64 r.2)]) ∧ A1 = [Ow kTGrant 33 u0 r.1.Given, Ow kTGrant 33 u1 r.1.Waits]) := by
  unfold spec_Ask.f at H
  refine Law.intro Try.func9 rfl [(0, (.agg #[v1, v2])), (1, (.int .i64 x3)), (2, (.int .i64 x4)), (3, (.int .i64 x5))] (Nat.le_of_ble_eq_true rfl) (enter_lk ⟨rfl, rfl, rfl, rfl, trivial⟩) (fun e a hS hF => ?_)
  have hF : Fr 49 a [(0, (.agg #[v1, v2])), (1, (.int .i64 x3)), (2, (.int .i64 x4)), (3, (.int .i64 x5))] := hF
  refine sq ?_
  refine rg ?_
  refine ste hF (e_box (cs := [v1, v2]) hS rfl rfl) (by decide) (fun v w a hR hF => ?_)
  obtain ⟨g1, rfl, hS⟩ := hR
  refine ste hF (e_alloc (cs := [(.slice none 0 0), (.slice none 0 0)]) hS ti_26 rfl) (by decide) (fun v w a hR hF => ?_)
  obtain ⟨g2, rfl, hS⟩ := hR
  refine stp hF (p_assign rfl) (by decide) (fun a hF => ?_)
  refine nilN ?_
  refine xn ?_
  refine sq ?_
  refine rg ?_
  refine stp hF (p_ldb_agg (i := 1) (l := []) (m := [v1, v2]) (r := []) hS rfl rfl ia_26 ti_26 rfl rfl rfl) (by decide) (fun a hF => ?_)
  obtain ⟨x2, hx1, H⟩ := hb H
  refine ste hF (e_call (fst := []) (vs := [(.agg #[v1, v2])]) (cap := []) rfl rfl go_40 (St.call (A := []) (B := [pt g2 26 ([(.slice none 0 0), (.slice none 0 0)]), pt g1 26 ([v1, v2])]) hS (spec_l9Copy.spec k _ _ x1 v1 v2 h1 h2 _ hx1))) (by decide) (fun v w a hR hF => ?_)
  obtain ⟨s2, A2, hg1, hS, hR⟩ := hR
  obtain ⟨v3, v4, hv1, rfl⟩ := hR; obtain rfl := hv1.symm
  have hS : St e s2 w [Ow kTGrant 33 v3 x2.Given, Ow kTGrant 33 v4 x2.Waits, pt g2 26 ([(.slice none 0 0), (.slice none 0 0)]), pt g1 26 ([v1, v2])] := hS
  refine ste hF (e_alloc (cs := [(.slice none 0 0), (.slice none 0 0)]) hS ti_26 rfl) (by decide) (fun v w a hR hF => ?_)
  obtain ⟨g3, rfl, hS⟩ := hR
  refine ste0 hF (e_stb (i := 0) (l := []) (m := [(.slice none 0 0), (.slice none 0 0)]) (r := []) (m' := [v3, v4]) (cs' := [v3, v4]) hS rfl rfl rfl ti_26 rfl rfl rfl rfl rfl (one_cons (hS.one_ow (i := 1) rfl) (one_cons (hS.one_ow (i := 2) rfl) one_nil)) rfl) (fun v w a hR hF => ?_)
  have hS : St e s2 w [pt g3 26 ([v3, v4]), Ow kTGrant 33 v3 x2.Given, Ow kTGrant 33 v4 x2.Waits, pt g2 26 ([(.slice none 0 0), (.slice none 0 0)]), pt g1 26 ([v1, v2])] := hR
  refine nilN ?_
  refine xn ?_
  refine sq ?_
  refine rg ?_
  refine stp hF (p_move rfl) (by decide) (fun a hF => ?_)
  refine stp hF (p_move rfl) (by decide) (fun a hF => ?_)
  refine stp hF (p_move rfl) (by decide) (fun a hF => ?_)
  refine stp hF (p_build (ps := [(0, (.tmp 15)), (1, (.tmp 16)), (2, (.tmp 17))]) (vs := [(0, (.int .i64 x3)), (1, (.int .i64 x4)), (2, (.int .i64 x5))]) (v := (.agg #[(.int .i64 x3), (.int .i64 x4), (.int .i64 x5)])) rfl (by intro w; kernel_rfl)) (by decide) (fun a hF => ?_)
  refine ste hF (e_alloc (cs := [(.int .i64 0), (.int .i64 0), (.int .i64 0)]) hS ti_33 rfl) (by decide) (fun v w a hR hF => ?_)
  obtain ⟨g4, rfl, hS⟩ := hR
  refine ste0 hF (e_stb (i := 0) (l := []) (m := [(.int .i64 0), (.int .i64 0), (.int .i64 0)]) (r := []) (m' := [(.int .i64 x3), (.int .i64 x4), (.int .i64 x5)]) (cs' := [(.int .i64 x3), (.int .i64 x4), (.int .i64 x5)]) hS rfl rfl rfl ti_33 rfl rfl rfl rfl rfl (one_cons rfl (one_cons rfl (one_cons rfl one_nil))) rfl) (fun v w a hR hF => ?_)
  have hS : St e s2 w [pt g4 33 ([(.int .i64 x3), (.int .i64 x4), (.int .i64 x5)]), pt g3 26 ([v3, v4]), Ow kTGrant 33 v3 x2.Given, Ow kTGrant 33 v4 x2.Waits, pt g2 26 ([(.slice none 0 0), (.slice none 0 0)]), pt g1 26 ([v1, v2])] := hR
  refine nilN ?_
  refine xn ?_
  refine sq ?_
  refine sq ?_
  refine rg ?_
  refine stp hF (p_ldb_agg (i := 5) (l := []) (m := [v1, v2]) (r := []) hS rfl rfl ia_26 ti_26 rfl rfl rfl) (by decide) (fun a hF => ?_)
  obtain ⟨x11, hx2, H⟩ := hb H
  refine ste hF (e_call (fst := []) (vs := [(.agg #[v1, v2])]) (cap := []) rfl rfl go_41 (St.call (A := []) (B := [pt g4 33 ([(.int .i64 x3), (.int .i64 x4), (.int .i64 x5)]), pt g3 26 ([v3, v4]), Ow kTGrant 33 v3 x2.Given, Ow kTGrant 33 v4 x2.Waits, pt g2 26 ([(.slice none 0 0), (.slice none 0 0)]), pt g1 26 ([v1, v2])]) hS (spec_LocksOk.spec k _ _ x1 v1 v2 (h1.mono hg1) (h2.mono hg1) _ hx2))) (by decide) (fun v w a hR hF => ?_)
  obtain ⟨s3, A3, hg2, hS, hR⟩ := hR
  obtain ⟨hv2, rfl⟩ := hR; obtain rfl := hv2.symm
  have hS : St e s3 w [pt g4 33 ([(.int .i64 x3), (.int .i64 x4), (.int .i64 x5)]), pt g3 26 ([v3, v4]), Ow kTGrant 33 v3 x2.Given, Ow kTGrant 33 v4 x2.Waits, pt g2 26 ([(.slice none 0 0), (.slice none 0 0)]), pt g1 26 ([v1, v2])] := hS
  refine stp hF (p_not rfl) (by decide) (fun a hF => ?_)
  refine stp hF (p_move rfl) (by decide) (fun a hF => ?_)
  obtain ⟨x13, H, HK1⟩ := hb H
  refine cutj 4 (fun a w => ∃ (x8 : Bool) (s4 : HF) , St e s4 w [pt g4 33 ([(.int .i64 x3), (.int .i64 x4), (.int .i64 x5)]), pt g3 26 ([v3, v4]), Ow kTGrant 33 v3 x2.Given, Ow kTGrant 33 v4 x2.Waits, pt g2 26 ([(.slice none 0 0), (.slice none 0 0)]), pt g1 26 ([v1, v2])] ∧ Fr 49 a [(1, (.int .i64 x3)), (4, (.pointer (some ⟨g1, 0, none⟩))), (8, (.pointer (some ⟨g2, 0, none⟩))), (10, (.pointer (some ⟨g3, 0, none⟩))), (11, (.pointer (some ⟨g4, 0, none⟩))), (26, (.bool x8))] ∧ Sub s3 s4 ∧ spec_Ask.c2 k x1 x3 x2 x4 x5 x8 = some r) rfl rfl ?_ ?_
  · rcases Bool.eq_false_or_eq_true ((!x11)) with hc1 | hc1
    · replace H := hbt hc1 H
      refine gofD (j := 3) hF rfl rfl (by rw [hc1]; decide) (by decide) (fun a hF => ?_)
      refine gofD (j := 3) hF rfl rfl (by rw [hc1]; decide) (by decide) (fun a hF => ?_)
      refine gofD (j := 3) hF rfl rfl (by rw [hc1]; decide) (by decide) (fun a hF => ?_)
      refine stp hF (p_pickT rfl hc1 rfl) (by decide) (fun a hF => ?_)
      refine nilN ?_
      refine xn ?_
      obtain rfl := hsm H
      exact ⟨true, s3, hS, hF.cut ⟨rfl, rfl, rfl, rfl, rfl, rfl, trivial⟩, (Sub.refl _), HK1⟩
    · replace H := hbf hc1 H
      refine gonE (j := 3) hF rfl rfl hc1 ?_
      refine stp hF (p_ldb_agg (i := 0) (l := []) (m := [(.int .i64 x3), (.int .i64 x4), (.int .i64 x5)]) (r := []) hS rfl rfl ia_33 ti_33 rfl rfl rfl) (by decide) (fun a hF => ?_)
      obtain ⟨x12, hx3, H⟩ := hb H
      refine gonE (j := 3) hF rfl rfl hc1 ?_
      refine ste hF (e_call (fst := []) (vs := [(.agg #[(.int .i64 x3), (.int .i64 x4), (.int .i64 x5)])]) (cap := []) rfl rfl go_42 (St.call (A := []) (B := [pt g4 33 ([(.int .i64 x3), (.int .i64 x4), (.int .i64 x5)]), pt g3 26 ([v3, v4]), Ow kTGrant 33 v3 x2.Given, Ow kTGrant 33 v4 x2.Waits, pt g2 26 ([(.slice none 0 0), (.slice none 0 0)]), pt g1 26 ([v1, v2])]) hS (spec_l9Grant.spec k _ _ (⟨x3, x4, x5⟩ : TGrant) _ hx3))) (by decide) (fun v w a hR hF => ?_)
      obtain ⟨s5, A4, hg3, hS, hR⟩ := hR
      obtain ⟨hv3, rfl⟩ := hR; obtain rfl := hv3.symm
      have hS : St e s5 w [pt g4 33 ([(.int .i64 x3), (.int .i64 x4), (.int .i64 x5)]), pt g3 26 ([v3, v4]), Ow kTGrant 33 v3 x2.Given, Ow kTGrant 33 v4 x2.Waits, pt g2 26 ([(.slice none 0 0), (.slice none 0 0)]), pt g1 26 ([v1, v2])] := hS
      refine gonE (j := 3) hF rfl rfl hc1 ?_
      refine stp hF (p_not rfl) (by decide) (fun a hF => ?_)
      refine stp hF (p_pickF rfl hc1 rfl) (by decide) (fun a hF => ?_)
      refine nilN ?_
      refine xn ?_
      obtain rfl := hsm H
      exact ⟨(!x12), s5, hS, hF.cut ⟨rfl, rfl, rfl, rfl, rfl, rfl, trivial⟩, hg3, HK1⟩
  · clear H HK1 hS hF
    rintro a w ⟨x8, s4, hS, hF, hg4, H⟩
    unfold spec_Ask.c2 at H
    refine stp hF (p_move rfl) (by decide) (fun a hF => ?_)
    obtain ⟨x10, H, HK2⟩ := hb H
    refine cutj 4 (fun a w => ∃ (x6 : Bool) (s6 : HF) , St e s6 w [pt g4 33 ([(.int .i64 x3), (.int .i64 x4), (.int .i64 x5)]), pt g3 26 ([v3, v4]), Ow kTGrant 33 v3 x2.Given, Ow kTGrant 33 v4 x2.Waits, pt g2 26 ([(.slice none 0 0), (.slice none 0 0)]), pt g1 26 ([v1, v2])] ∧ Fr 49 a [(4, (.pointer (some ⟨g1, 0, none⟩))), (8, (.pointer (some ⟨g2, 0, none⟩))), (10, (.pointer (some ⟨g3, 0, none⟩))), (11, (.pointer (some ⟨g4, 0, none⟩))), (31, (.bool x6))] ∧ Sub s4 s6 ∧ spec_Ask.c1 k x1 x2 x3 x4 x5 x6 = some r) rfl rfl ?_ ?_
    · rcases Bool.eq_false_or_eq_true (x8) with hc2 | hc2
      · replace H := hbt hc2 H
        refine gofD (j := 8) hF rfl rfl (by rw [hc2]; decide) (by decide) (fun a hF => ?_)
        refine gofD (j := 8) hF rfl rfl (by rw [hc2]; decide) (by decide) (fun a hF => ?_)
        refine gofD (j := 8) hF rfl rfl (by rw [hc2]; decide) (by decide) (fun a hF => ?_)
        refine stp hF (p_pickT rfl hc2 rfl) (by decide) (fun a hF => ?_)
        refine nilN ?_
        refine xn ?_
        obtain rfl := hsm H
        exact ⟨true, s4, hS, hF.cut ⟨rfl, rfl, rfl, rfl, rfl, trivial⟩, (Sub.refl _), HK2⟩
      · replace H := hbf hc2 H
        refine gonE (j := 8) hF rfl rfl hc2 ?_
        refine stp hF (p_ldb_agg (i := 5) (l := []) (m := [v1, v2]) (r := []) hS rfl rfl ia_26 ti_26 rfl rfl rfl) (by decide) (fun a hF => ?_)
        refine gonE (j := 8) hF rfl rfl hc2 ?_
        refine stp hF (p_move rfl) (by decide) (fun a hF => ?_)
        obtain ⟨x9, hx4, H⟩ := hb H
        refine gonE (j := 8) hF rfl rfl hc2 ?_
        refine ste hF (e_call (fst := []) (vs := [(.agg #[v1, v2]), (.int .i64 x3)]) (cap := []) rfl rfl go_43 (St.call (A := []) (B := [pt g4 33 ([(.int .i64 x3), (.int .i64 x4), (.int .i64 x5)]), pt g3 26 ([v3, v4]), Ow kTGrant 33 v3 x2.Given, Ow kTGrant 33 v4 x2.Waits, pt g2 26 ([(.slice none 0 0), (.slice none 0 0)]), pt g1 26 ([v1, v2])]) hS (spec_l9Waits.spec k _ _ x1 x3 v1 v2 (((h1.mono hg1).mono hg2).mono hg4) (((h2.mono hg1).mono hg2).mono hg4) _ hx4))) (by decide) (fun v w a hR hF => ?_)
        obtain ⟨s7, A5, hg5, hS, hR⟩ := hR
        obtain ⟨hv4, rfl⟩ := hR; obtain rfl := hv4.symm
        have hS : St e s7 w [pt g4 33 ([(.int .i64 x3), (.int .i64 x4), (.int .i64 x5)]), pt g3 26 ([v3, v4]), Ow kTGrant 33 v3 x2.Given, Ow kTGrant 33 v4 x2.Waits, pt g2 26 ([(.slice none 0 0), (.slice none 0 0)]), pt g1 26 ([v1, v2])] := hS
        refine stp hF (p_pickF rfl hc2 rfl) (by decide) (fun a hF => ?_)
        refine nilN ?_
        refine xn ?_
        obtain rfl := hsm H
        exact ⟨x9, s7, hS, hF.cut ⟨rfl, rfl, rfl, rfl, rfl, trivial⟩, hg5, HK2⟩
    · clear H HK2 hS hF
      rintro a w ⟨x6, s6, hS, hF, hg6, H⟩
      unfold spec_Ask.c1 at H
      refine stp hF (p_move rfl) (by decide) (fun a hF => ?_)
      refine cutj 5 (fun a w => St e s6 w [pt g4 33 ([(.int .i64 x3), (.int .i64 x4), (.int .i64 x5)]), pt g3 26 ([v3, v4]), Ow kTGrant 33 v3 x2.Given, Ow kTGrant 33 v4 x2.Waits, pt g2 26 ([(.slice none 0 0), (.slice none 0 0)]), pt g1 26 ([v1, v2])] ∧ Fr 49 a [(4, (.pointer (some ⟨g1, 0, none⟩))), (8, (.pointer (some ⟨g2, 0, none⟩))), (10, (.pointer (some ⟨g3, 0, none⟩))), (11, (.pointer (some ⟨g4, 0, none⟩))), (37, (.bool (x6 || (decide ((x1.Given.length : Int) = 60)))))]) rfl rfl ?_ ?_
      · rcases Bool.eq_false_or_eq_true (x6) with hc3 | hc3
        · skip
          refine gofD (j := 13) hF rfl rfl (by rw [hc3]; decide) (by decide) (fun a hF => ?_)
          refine gofD (j := 13) hF rfl rfl (by rw [hc3]; decide) (by decide) (fun a hF => ?_)
          refine gofD (j := 13) hF rfl rfl (by rw [hc3]; decide) (by decide) (fun a hF => ?_)
          refine gofD (j := 13) hF rfl rfl (by rw [hc3]; decide) (by decide) (fun a hF => ?_)
          refine stp hF (p_orT (decide ((x1.Given.length : Int) = 60)) rfl hc3 rfl) (by decide) (fun a hF => ?_)
          refine nilN ?_
          refine xn ?_
          exact ⟨hS, hF.cut ⟨rfl, rfl, rfl, rfl, rfl, trivial⟩⟩
        · skip
          refine gonE (j := 13) hF rfl rfl hc3 ?_
          refine stp hF (p_fldb (o' := 0) rfl fi_26_0 rfl) (by decide) (fun a hF => ?_)
          refine gonE (j := 13) hF rfl rfl hc3 ?_
          refine stp hF (p_ldb_one (i := 5) hS rfl rfl ia_24 rfl) (by decide) (fun a hF => ?_)
          refine gonE (j := 13) hF rfl rfl hc3 ?_
          refine stp hF (p_lenr un_24 rfl ((((h1.mono hg1).mono hg2).mono hg4).mono hg6)) (by decide) (fun a hF => ?_)
          refine gonE (j := 13) hF rfl rfl hc3 ?_
          refine stp hF (p_eql rfl rfl) (by decide) (fun a hF => ?_)
          refine stp hF (p_orF rfl hc3 rfl) (by decide) (fun a hF => ?_)
          refine nilN ?_
          refine xn ?_
          exact ⟨hS, hF.cut ⟨rfl, rfl, rfl, rfl, rfl, trivial⟩⟩
      clear hS hF
      rintro a w ⟨hS, hF⟩
      refine stp hF (p_move rfl) (by decide) (fun a hF => ?_)
      refine cutj 5 (fun a w => St e s6 w [pt g4 33 ([(.int .i64 x3), (.int .i64 x4), (.int .i64 x5)]), pt g3 26 ([v3, v4]), Ow kTGrant 33 v3 x2.Given, Ow kTGrant 33 v4 x2.Waits, pt g2 26 ([(.slice none 0 0), (.slice none 0 0)]), pt g1 26 ([v1, v2])] ∧ Fr 49 a [(8, (.pointer (some ⟨g2, 0, none⟩))), (10, (.pointer (some ⟨g3, 0, none⟩))), (11, (.pointer (some ⟨g4, 0, none⟩))), (43, (.bool ((x6 || (decide ((x1.Given.length : Int) = 60))) || (decide ((x1.Waits.length : Int) = 60)))))]) rfl rfl ?_ ?_
      · rcases Bool.eq_false_or_eq_true ((x6 || (decide ((x1.Given.length : Int) = 60)))) with hc4 | hc4
        · skip
          refine gofD (j := 19) hF rfl rfl (by rw [hc4]; decide) (by decide) (fun a hF => ?_)
          refine gofD (j := 19) hF rfl rfl (by rw [hc4]; decide) (by decide) (fun a hF => ?_)
          refine gofD (j := 19) hF rfl rfl (by rw [hc4]; decide) (by decide) (fun a hF => ?_)
          refine gofD (j := 19) hF rfl rfl (by rw [hc4]; decide) (by decide) (fun a hF => ?_)
          refine stp hF (p_orT (decide ((x1.Waits.length : Int) = 60)) rfl hc4 rfl) (by decide) (fun a hF => ?_)
          refine nilN ?_
          refine xn ?_
          exact ⟨hS, hF.cut ⟨rfl, rfl, rfl, rfl, trivial⟩⟩
        · skip
          refine gonE (j := 19) hF rfl rfl hc4 ?_
          refine stp hF (p_fldb (o' := 1) rfl fi_26_1 rfl) (by decide) (fun a hF => ?_)
          refine gonE (j := 19) hF rfl rfl hc4 ?_
          refine stp hF (p_ldb_one (i := 5) hS rfl rfl ia_24 rfl) (by decide) (fun a hF => ?_)
          refine gonE (j := 19) hF rfl rfl hc4 ?_
          refine stp hF (p_lenr un_24 rfl ((((h2.mono hg1).mono hg2).mono hg4).mono hg6)) (by decide) (fun a hF => ?_)
          refine gonE (j := 19) hF rfl rfl hc4 ?_
          refine stp hF (p_eql rfl rfl) (by decide) (fun a hF => ?_)
          refine stp hF (p_orF rfl hc4 rfl) (by decide) (fun a hF => ?_)
          refine nilN ?_
          refine xn ?_
          exact ⟨hS, hF.cut ⟨rfl, rfl, rfl, rfl, trivial⟩⟩
      clear hS hF
      rintro a w ⟨hS, hF⟩
      refine nilN ?_
      refine xn ?_
      refine cnd hF rfl (fun hc5 => ?_) (fun hc5 => ?_)
      · replace H := hbt hc5 H
        refine sq ?_
        refine rg ?_
        refine stp hF (p_ldb_agg (i := 1) (l := []) (m := [v3, v4]) (r := []) hS rfl rfl ia_26 ti_26 rfl rfl rfl) (by decide) (fun a hF => ?_)
        refine ste0 hF (e_stb (i := 4) (l := []) (m := [(.slice none 0 0), (.slice none 0 0)]) (r := []) (m' := [v3, v4]) (cs' := [v3, v4]) hS rfl rfl rfl ti_26 rfl rfl rfl rfl rfl (one_cons (hS.one_ow (i := 2) rfl) (one_cons (hS.one_ow (i := 3) rfl) one_nil)) rfl) (fun v w a hR hF => ?_)
        have hS : St e s6 w [pt g2 26 ([v3, v4]), pt g4 33 ([(.int .i64 x3), (.int .i64 x4), (.int .i64 x5)]), pt g3 26 ([v3, v4]), Ow kTGrant 33 v3 x2.Given, Ow kTGrant 33 v4 x2.Waits, pt g1 26 ([v1, v2])] := hR
        refine stp hF (p_assign rfl) (by decide) (fun a hF => ?_)
        refine nilN ?_
        refine xn ?_
        refine rt ?_
        refine xr ?_
        obtain rfl := hsm H
        have h3 : RvOk Try.prog _ w (.cell 8 26) _ := rvC (i := 0) hS rfl (show lk [(8, (.pointer (some ⟨g2, 0, none⟩))), (9, (.int .i64 2))] 8 = _ from rfl) ia_26 ti_26 rfl
        replace hS := hS.sel (is := [3, 3]) (A' := [Ow kTGrant 33 v3 x2.Given, Ow kTGrant 33 v4 x2.Waits]) rfl
        exact retc2 hF rfl h3 (rvT rfl) hS ⟨v3, v4, rfl, rfl⟩
      · replace H := hbf hc5 H
        refine skN ?_
        refine xn ?_
        refine sq ?_
        refine rg ?_
        refine stp hF (p_ldb_agg (i := 0) (l := []) (m := [(.int .i64 x3), (.int .i64 x4), (.int .i64 x5)]) (r := []) hS rfl rfl ia_33 ti_33 rfl rfl rfl) (by decide) (fun a hF => ?_)
        replace hS := hS.sel (is := [1, 1, 1, 0, 0, 0]) (A' := [pt g3 26 ([v3, v4]), Ow kTGrant 33 v3 x2.Given, Ow kTGrant 33 v4 x2.Waits, pt g4 33 ([(.int .i64 x3), (.int .i64 x4), (.int .i64 x5)]), pt g2 26 ([(.slice none 0 0), (.slice none 0 0)]), pt g1 26 ([v1, v2])]) rfl
        obtain ⟨x7, hx5, H⟩ := hb H
        refine ste hF (e_call (fst := []) (vs := [(.pointer (some ⟨g3, 0, none⟩)), (.agg #[(.int .i64 x3), (.int .i64 x4), (.int .i64 x5)])]) (cap := []) rfl rfl go_44 (St.call (A := [pt g3 26 ([v3, v4]), Ow kTGrant 33 v3 x2.Given, Ow kTGrant 33 v4 x2.Waits]) (B := [pt g4 33 ([(.int .i64 x3), (.int .i64 x4), (.int .i64 x5)]), pt g2 26 ([(.slice none 0 0), (.slice none 0 0)]), pt g1 26 ([v1, v2])]) hS (spec_l9Ask.spec k _ _ x2.Given x2.Waits (⟨x3, x4, x5⟩ : TGrant) v3 v4 g3 _ hx5))) (by decide) (fun v w a hR hF => ?_)
        obtain ⟨s8, A6, hg7, hS, hR⟩ := hR
        obtain ⟨v5, v6, hv5, rfl⟩ := hR; obtain rfl := hv5.symm
        have hS : St e s8 w [pt g3 26 ([v5, v6]), Ow kTGrant 33 v5 x7.2.1, Ow kTGrant 33 v6 x7.2.2, pt g4 33 ([(.int .i64 x3), (.int .i64 x4), (.int .i64 x5)]), pt g2 26 ([(.slice none 0 0), (.slice none 0 0)]), pt g1 26 ([v1, v2])] := hS
        refine stp hF (p_assign rfl) (by decide) (fun a hF => ?_)
        refine nilN ?_
        refine xn ?_
        refine sq ?_
        refine rg ?_
        refine stp hF (p_ldb_agg (i := 0) (l := []) (m := [v5, v6]) (r := []) hS rfl rfl ia_26 ti_26 rfl rfl rfl) (by decide) (fun a hF => ?_)
        refine stp hF (p_move rfl) (by decide) (fun a hF => ?_)
        refine ste0 hF (e_stb (i := 4) (l := []) (m := [(.slice none 0 0), (.slice none 0 0)]) (r := []) (m' := [v5, v6]) (cs' := [v5, v6]) hS rfl rfl rfl ti_26 rfl rfl rfl rfl rfl (one_cons (hS.one_ow (i := 1) rfl) (one_cons (hS.one_ow (i := 2) rfl) one_nil)) rfl) (fun v w a hR hF => ?_)
        have hS : St e s8 w [pt g2 26 ([v5, v6]), pt g3 26 ([v5, v6]), Ow kTGrant 33 v5 x7.2.1, Ow kTGrant 33 v6 x7.2.2, pt g4 33 ([(.int .i64 x3), (.int .i64 x4), (.int .i64 x5)]), pt g1 26 ([v1, v2])] := hR
        refine stp hF (p_assign rfl) (by decide) (fun a hF => ?_)
        refine nilN ?_
        refine xn ?_
        refine rt ?_
        obtain rfl := hsm H
        have h4 : RvOk Try.prog _ w (.cell 8 26) _ := rvC (i := 0) hS rfl (show lk [(8, (.pointer (some ⟨g2, 0, none⟩))), (9, (.int .i64 x7.1))] 8 = _ from rfl) ia_26 ti_26 rfl
        replace hS := hS.sel (is := [2, 2]) (A' := [Ow kTGrant 33 v5 x7.2.1, Ow kTGrant 33 v6 x7.2.2]) rfl
        exact retc2 hF rfl h4 (rvT rfl) hS ⟨v5, v6, rfl, rfl⟩
end Go.Proofs.Ytbcpkopchnlefaa
