/- Functions of this place as plain functions, and that the machine comes to what they say. Conditions: none. -/
import Derived.Test.YtbcpkopchnlefaaKwYFd
set_option linter.unusedVariables false
set_option linter.unusedSimpArgs false
namespace Go.Proofs.Ytbcpkopchnlefaa
open Go.Kw

def spec_l9Back.c1 (k : Nat) (x1 : (List Int)) : Option Bool :=
  (some false)
def spec_l9Back.c2 (k : Nat) (rec_l1 : (List Int) → Int → Option (Ex Bool (List Int))) (x2 : Int) (x3 : (List Int)) : Option (Ex Bool (List Int)) :=
  (rec_l1 x3 (w64 (x2 + 1)))
def spec_l9Back.c3 (k : Nat) (rec_l2 : (List Int) → Int → Option (Ex Bool (List Int))) (x4 : Int) (x5 : (List Int)) : Option (Ex Bool (List Int)) :=
  (rec_l2 x5 (w64 (x4 + 1)))
def spec_l9Back.c4 (k : Nat) (rec_l3 : (List Int) → Int → Option (Ex Bool (List Int))) (x6 : Int) (x7 : (List Int)) : Option (Ex Bool (List Int)) :=
  (rec_l3 x7 (w64 (x6 + 1)))
def spec_l9Back.l3 (x8 : (List Int)) (x9 : Int) : Nat → (List Int) → Int → Option (Ex Bool (List Int))
  | 0, _, _ => none
  | k + 1, x10, x6 => (if (decide (x6 < (x8.length : Int))) = true then (((if 0 ≤ x6 ∧ x6 < (x8.length : Int) then (if (decide ((rd x8 x6) = x9)) = true then (some (Ex.ret true)) else (if 0 ≤ x6 ∧ x6 < (x8.length : Int) then ((spec_l9Among.f k x10 (rd x8 x6)).bind fun x11 => (if (!x11) = true then (if 0 ≤ x6 ∧ x6 < (x8.length : Int) then (if x10.length + 1 ≤ 17592186044416 then (some (Ex.go (x10 ++ ([(rd x8 x6)] : List Int)))) else none) else none) else (some (Ex.go x10)))) else none)) else none) : Option (Ex Bool (List Int))).bind fun x12 => Ex.on x12 (fun r => some (Ex.ret r)) (fun y => spec_l9Back.c4 k (spec_l9Back.l3 x8 x9 k) x6 y)) else (some (Ex.go x10)))
def spec_l9Back.l2 (x13 : TLocks) (x2 : Int) (x9 : Int) : Nat → (List Int) → Int → Option (Ex Bool (List Int))
  | 0, _, _ => none
  | k + 1, x14, x4 => (if (decide (x4 < (x13.Waits.length : Int))) = true then (((if 0 ≤ x4 ∧ x4 < (x13.Waits.length : Int) then (if 0 ≤ x2 ∧ x2 < (x14.length : Int) then (if (decide (((rd x13.Waits x4).Tx) ≠ (rd x14 x2))) = true then (some (Ex.go x14)) else ((spec_l9For.f k x13 x4).bind fun x8 => (spec_l9Back.l3 x8 x9 k x14 0))) else none) else none) : Option (Ex Bool (List Int))).bind fun x15 => Ex.on x15 (fun r => some (Ex.ret r)) (fun y => spec_l9Back.c3 k (spec_l9Back.l2 x13 x2 x9 k) x4 y)) else (some (Ex.go x14)))
def spec_l9Back.l1 (x13 : TLocks) (x9 : Int) : Nat → (List Int) → Int → Option (Ex Bool (List Int))
  | 0, _, _ => none
  | k + 1, x16, x2 => (if (decide (x2 < (x16.length : Int))) = true then (((spec_l9Back.l2 x13 x2 x9 k x16 0) : Option (Ex Bool (List Int))).bind fun x17 => Ex.on x17 (fun r => some (Ex.ret r)) (fun y => spec_l9Back.c2 k (spec_l9Back.l1 x13 x9 k) x2 y)) else (some (Ex.go x16)))
def spec_l9Back.f (k : Nat) (x13 : TLocks) (x9 : Int) : Option Bool :=
  (((spec_l9Back.l1 x13 x9 k ([x9] : List Int) 0) : Option (Ex Bool (List Int))).bind fun x18 => Ex.on x18 (fun r => some r) (fun y => spec_l9Back.c1 k y))
set_option maxRecDepth 100000 in
set_option maxHeartbeats 4000000 in
theorem spec_l9Back.spec (k : Nat) (s0 : HF) (w : World) (x13 : TLocks) (x9 : Int) (v1 : Value) (v2 : Value) (h1 : Sl kTGrant s0 v1 x13.Given) (h2 : Sl kTGrant s0 v2 x13.Waits) (r : Bool) (H : spec_l9Back.f k x13 x9 = some r) :
    Law Try.prog 59 #[(.agg #[v1, v2]), (.int .i64 x9)] s0 w [] (fun v s1 A1 => v = (.bool r) ∧ A1 = []) := by
  unfold spec_l9Back.f at H
  refine Law.intro Try.func59 rfl [(0, (.agg #[v1, v2])), (1, (.int .i64 x9))] (Nat.le_of_ble_eq_true rfl) (enter_lk ⟨rfl, rfl, trivial⟩) (fun e a hS hF => ?_)
  have hF : Fr 65 a [(0, (.agg #[v1, v2])), (1, (.int .i64 x9))] := hF
  refine sq ?_
  refine rg ?_
  refine ste hF (e_box (cs := [v1, v2]) hS rfl rfl) (by decide) (fun v w a hR hF => ?_)
  obtain ⟨g1, rfl, hS⟩ := hR
  refine stp hF (p_assign rfl) (by decide) (fun a hF => ?_)
  refine nilN ?_
  refine xn ?_
  refine sq ?_
  refine rg ?_
  refine stp hF (p_move rfl) (by decide) (fun a hF => ?_)
  refine ste hF (e_bslice (kd := (Kd.int .i64)) (et := 3) (ps := [(0, (.tmp 10))]) (vs := [(0, (.int .i64 x9))]) (cs := [(.int .i64 x9)]) (xs := ([x9] : List Int)) hS rfl (by intro w; kernel_rfl) rfl (by decide) (Nat.le_of_ble_eq_true rfl) (by exact (rows_cons (kd := (Kd.int .i64)) (x := x9) (c := [(.int .i64 x9)]) (cs := []) rfl (Rows.nil _ _ _ _)))) (by decide) (fun v3 w a hR hF => ?_)
  have hS : St e s0 w [Ow (Kd.int .i64) 3 v3 ([x9] : List Int), pt g1 26 ([v1, v2])] := hR
  refine stp hF (p_assign rfl) (by decide) (fun a hF => ?_)
  refine nilN ?_
  refine xn ?_
  obtain ⟨x18, H, HK1⟩ := hb H
  refine sqj (fun a w => ∃ (x1 : (List Int)) (s2 : HF) (v4 : Value) , St e s2 w [Ow (Kd.int .i64) 3 v4 x1, pt g1 26 ([v1, v2])] ∧ Fr 65 a [] ∧ Sub s0 s2 ∧ spec_l9Back.c1 k x1 = some r) ?_ ?_
  · skip
    refine sq ?_
    refine rg ?_
    refine stp hF (p_assign rfl) (by decide) (fun a hF => ?_)
    refine nilN ?_
    refine xn ?_
    refine blk ?_
    refine loop_ind (fun k1 a w => ∃ (x16 : (List Int)) (x2 : Int) (s3 : HF) (v5 : Value) , St e s3 w [Ow (Kd.int .i64) 3 v5 x16, pt g1 26 ([v1, v2])] ∧ Fr 65 a [(1, (.int .i64 x9)), (2, (.pointer (some ⟨g1, 0, none⟩))), (5, v5), (6, (.int .i64 x2))] ∧ Sub s0 s3 ∧ spec_l9Back.l1 x13 x9 k1 x16 x2 = some x18) k ?_ ?_ ?_
    · skip
      exact ⟨([x9] : List Int), 0, s0, v3, hS, hF.cut ⟨rfl, rfl, rfl, rfl, trivial⟩, (Sub.refl _), H⟩
    · clear H hS hF
      rintro a w ⟨x16, x2, s3, v5, hS, hF, hg1, H⟩
      exact absurd (show none = some _ from H) (by simp)
    · clear H hS hF
      rintro k1 a w ⟨x16, x2, s3, v5, hS, hF, hg1, H⟩
      rw [spec_l9Back.l1.eq_2] at H
      refine sq ?_
      refine sq ?_
      refine rg ?_
      refine stp hF (p_move rfl) (by decide) (fun a hF => ?_)
      refine stp hF (p_move rfl) (by decide) (fun a hF => ?_)
      refine stp hF (p_leno (i := 0) hS rfl un_39 rfl) (by decide) (fun a hF => ?_)
      refine stp hF (p_lss rfl rfl) (by decide) (fun a hF => ?_)
      refine nilN ?_
      refine xn ?_
      refine cnd hF rfl (fun hc1 => ?_) (fun hc1 => ?_)
      · replace H := hbt hc1 H
        refine skN ?_
        refine xn ?_
        obtain ⟨x17, H, HK2⟩ := hb H
        refine sqj (fun a w => ∃ (x3 : (List Int)) (s4 : HF) (v6 : Value) , St e s4 w [Ow (Kd.int .i64) 3 v6 x3, pt g1 26 ([v1, v2])] ∧ Fr 65 a [(1, (.int .i64 x9)), (2, (.pointer (some ⟨g1, 0, none⟩))), (5, v6), (6, (.int .i64 x2))] ∧ Sub s3 s4 ∧ spec_l9Back.c2 k1 (spec_l9Back.l1 x13 x9 k1) x2 x3 = some x18) ?_ ?_
        · skip
          refine blk ?_
          refine sq ?_
          refine rg ?_
          refine stp hF (p_assign rfl) (by decide) (fun a hF => ?_)
          refine nilN ?_
          refine xn ?_
          refine blk ?_
          refine loop_ind (fun k2 a w => ∃ (x14 : (List Int)) (x4 : Int) (s5 : HF) (v7 : Value) , St e s5 w [Ow (Kd.int .i64) 3 v7 x14, pt g1 26 ([v1, v2])] ∧ Fr 65 a [(1, (.int .i64 x9)), (2, (.pointer (some ⟨g1, 0, none⟩))), (5, v7), (6, (.int .i64 x2)), (7, (.int .i64 x4))] ∧ Sub s3 s5 ∧ spec_l9Back.l2 x13 x2 x9 k2 x14 x4 = some x17) k1 ?_ ?_ ?_
          · skip
            exact ⟨x16, 0, s3, v5, hS, hF.cut ⟨rfl, rfl, rfl, rfl, rfl, trivial⟩, (Sub.refl _), H⟩
          · clear H hS hF
            rintro a w ⟨x14, x4, s5, v7, hS, hF, hg2, H⟩
            exact absurd (show none = some _ from H) (by simp)
          · clear H hS hF
            rintro k2 a w ⟨x14, x4, s5, v7, hS, hF, hg2, H⟩
            rw [spec_l9Back.l2.eq_2] at H
            refine sq ?_
            refine sq ?_
            refine rg ?_
            refine stp hF (p_move rfl) (by decide) (fun a hF => ?_)
            refine stp hF (p_fldb (o' := 1) rfl fi_26_1 rfl) (by decide) (fun a hF => ?_)
            refine stp hF (p_ldb_one (i := 1) hS rfl rfl ia_24 rfl) (by decide) (fun a hF => ?_)
            refine stp hF (p_lenr un_24 rfl ((h2.mono hg1).mono hg2)) (by decide) (fun a hF => ?_)
            refine stp hF (p_lss rfl rfl) (by decide) (fun a hF => ?_)
            refine nilN ?_
            refine xn ?_
            refine cnd hF rfl (fun hc2 => ?_) (fun hc2 => ?_)
            · replace H := hbt hc2 H
              refine skN ?_
              refine xn ?_
              obtain ⟨x15, H, HK3⟩ := hb H
              refine sqj (fun a w => ∃ (x5 : (List Int)) (s6 : HF) (v8 : Value) , St e s6 w [Ow (Kd.int .i64) 3 v8 x5, pt g1 26 ([v1, v2])] ∧ Fr 65 a [(1, (.int .i64 x9)), (2, (.pointer (some ⟨g1, 0, none⟩))), (5, v8), (6, (.int .i64 x2)), (7, (.int .i64 x4))] ∧ Sub s5 s6 ∧ spec_l9Back.c3 k2 (spec_l9Back.l2 x13 x2 x9 k2) x4 x5 = some x17) ?_ ?_
              · skip
                refine blk ?_
                refine sq ?_
                refine sq ?_
                replace hS : St e s5 w.drew [Ow (Kd.int .i64) 3 v7 x14, pt g1 26 ([v1, v2])] := hS.drewN 1
                refine drw [0, 1, 2, 3, 4, 5, 6, 7, 8, 9, 10] mixed (by kernel_rfl) (by decide) (hF.cut (L' := [(1, (.int .i64 x9)), (2, (.pointer (some ⟨g1, 0, none⟩))), (5, v7), (6, (.int .i64 x2)), (7, (.int .i64 x4)), (18, (.int .i64 x4)), (19, (.pointer (some ⟨g1, 1, none⟩))), (20, v2), (21, (.int .i64 (x13.Waits.length : Int))), (22, (.bool (decide (x4 < (x13.Waits.length : Int)))))]) ⟨rfl, rfl, rfl, rfl, rfl, rfl, rfl, rfl, rfl, rfl, trivial⟩) ?_
                clear hF
                generalize w.drew = w at hS ⊢
                refine pk1 rfl (by decide) rfl (by kernel_rfl) rfl (p_fldb (o' := 1) rfl fi_26_1 rfl) ?_
                refine pk1 rfl (by decide) rfl (by kernel_rfl) rfl (p_ldb_one (i := 1) hS rfl rfl ia_24 rfl) ?_
                refine pk1 rfl (by decide) rfl (by kernel_rfl) rfl (p_move rfl) ?_
                obtain ⟨hq1, H⟩ := hck H
                obtain ⟨ad1, h3, p1⟩ := p_idxr (P := Try.prog) (i := x4) ((h2.mono hg1).mono hg2) un_24 ti_33 hq1.1 hq1.2
                refine pk1 rfl (by decide) rfl (by kernel_rfl) rfl (p1 rfl rfl) ?_
                have h4 : Pr (Kd.int .i64) s5 (ad1.add 0) ((rd x13.Waits x4).Tx) := h3.lens kTGrant_Tx
                refine pk1 rfl (by decide) rfl (by kernel_rfl) rfl (p_fld rfl fi_33_0) ?_
                refine pk1 rfl (by decide) rfl (by kernel_rfl) rfl (p_ldr_int rfl hS h4 ia_3) ?_
                refine pk1 rfl (by decide) rfl (by kernel_rfl) rfl (p_move rfl) ?_
                refine pk1 rfl (by decide) rfl (by kernel_rfl) rfl (p_move rfl) ?_
                obtain ⟨hq2, H⟩ := hck H
                obtain ⟨b1, o1, q1, hv1, p2⟩ := p_idxo (n := 0) (i := x2) hS rfl un_39 ti_3 hq2.1 hq2.2
                refine pk1 rfl (by decide) rfl (by kernel_rfl) rfl (p2 rfl rfl) ?_
                obtain ⟨u1, h5, p3⟩ := p_ldo_one (P := Try.prog) (n := 0) hS rfl hv1 (Lens.id _) hq2.1 hq2.2 rfl ia_3 rfl
                obtain rfl : u1 = .int .i64 (rd x14 x2) := by injection h5
                refine pk1 rfl (by decide) rfl (by kernel_rfl) rfl (p3 rfl) ?_
                refine pk1 rfl (by decide) rfl (by kernel_rfl) rfl (p_neq rfl rfl) ?_
                refine pkF (fun a hF => ?_)
                refine xn ?_
                refine cnd hF rfl (fun hc3 => ?_) (fun hc3 => ?_)
                · replace H := hbt hc3 H
                  refine exi ?_
                  refine xe (hit (xn ?_))
                  obtain rfl := hsm H
                  exact ⟨x14, s5, v7, hS, hF.cut ⟨rfl, rfl, rfl, rfl, rfl, trivial⟩, (Sub.refl _), HK3⟩
                · replace H := hbf hc3 H
                  refine skN ?_
                  refine xn ?_
                  refine sq ?_
                  refine rg ?_
                  refine stp hF (p_ldb_agg (i := 1) (l := []) (m := [v1, v2]) (r := []) hS rfl rfl ia_26 ti_26 rfl rfl rfl) (by decide) (fun a hF => ?_)
                  refine stp hF (p_move rfl) (by decide) (fun a hF => ?_)
                  obtain ⟨x8, hx1, H⟩ := hb H
                  refine ste hF (e_call (fst := []) (vs := [(.agg #[v1, v2]), (.int .i64 x4)]) (cap := []) rfl rfl go_81 (St.call (A := []) (B := [Ow (Kd.int .i64) 3 v7 x14, pt g1 26 ([v1, v2])]) hS (spec_l9For.spec k2 _ _ x13 x4 v1 v2 ((h1.mono hg1).mono hg2) ((h2.mono hg1).mono hg2) _ hx1))) (by decide) (fun v w a hR hF => ?_)
                  obtain ⟨s7, A2, hg3, hS, hR⟩ := hR
                  obtain ⟨v9, hv2, rfl⟩ := hR; obtain rfl := hv2.symm
                  have hS : St e s7 w [Ow (Kd.int .i64) 3 v9 x8, Ow (Kd.int .i64) 3 v7 x14, pt g1 26 ([v1, v2])] := hS
                  refine stp hF (p_assign rfl) (by decide) (fun a hF => ?_)
                  refine nilN ?_
                  refine xn ?_
                  refine sq ?_
                  refine rg ?_
                  refine stp hF (p_assign rfl) (by decide) (fun a hF => ?_)
                  refine nilN ?_
                  refine xn ?_
                  refine blk ?_
                  refine loop_ind (fun k3 a w => ∃ (x10 : (List Int)) (x6 : Int) (s8 : HF) (v10 : Value) , St e s8 w [Ow (Kd.int .i64) 3 v9 x8, Ow (Kd.int .i64) 3 v10 x10, pt g1 26 ([v1, v2])] ∧ Fr 65 a [(1, (.int .i64 x9)), (2, (.pointer (some ⟨g1, 0, none⟩))), (5, v10), (6, (.int .i64 x2)), (7, (.int .i64 x4)), (8, v9), (9, (.int .i64 x6))] ∧ Sub s7 s8 ∧ spec_l9Back.l3 x8 x9 k3 x10 x6 = some x15) k2 ?_ ?_ ?_
                  · skip
                    exact ⟨x14, 0, s7, v7, hS, hF.cut ⟨rfl, rfl, rfl, rfl, rfl, rfl, rfl, trivial⟩, (Sub.refl _), H⟩
                  · clear H hS hF
                    rintro a w ⟨x10, x6, s8, v10, hS, hF, hg4, H⟩
                    exact absurd (show none = some _ from H) (by simp)
                  · clear H hS hF
                    rintro k3 a w ⟨x10, x6, s8, v10, hS, hF, hg4, H⟩
                    rw [spec_l9Back.l3.eq_2] at H
                    refine sq ?_
                    refine sq ?_
                    refine rg ?_
                    refine stp hF (p_move rfl) (by decide) (fun a hF => ?_)
                    refine stp hF (p_move rfl) (by decide) (fun a hF => ?_)
                    refine stp hF (p_leno (i := 0) hS rfl un_39 rfl) (by decide) (fun a hF => ?_)
                    refine stp hF (p_lss rfl rfl) (by decide) (fun a hF => ?_)
                    refine nilN ?_
                    refine xn ?_
                    refine cnd hF rfl (fun hc4 => ?_) (fun hc4 => ?_)
                    · replace H := hbt hc4 H
                      refine skN ?_
                      refine xn ?_
                      obtain ⟨x12, H, HK4⟩ := hb H
                      refine sqj (fun a w => ∃ (x7 : (List Int)) (s9 : HF) (v11 : Value) , St e s9 w [Ow (Kd.int .i64) 3 v9 x8, Ow (Kd.int .i64) 3 v11 x7, pt g1 26 ([v1, v2])] ∧ Fr 65 a [(1, (.int .i64 x9)), (2, (.pointer (some ⟨g1, 0, none⟩))), (5, v11), (6, (.int .i64 x2)), (7, (.int .i64 x4)), (8, v9), (9, (.int .i64 x6))] ∧ Sub s8 s9 ∧ spec_l9Back.c4 k3 (spec_l9Back.l3 x8 x9 k3) x6 x7 = some x15) ?_ ?_
                      · skip
                        refine blk ?_
                        refine sq ?_
                        refine sq ?_
                        refine rg ?_
                        refine stp hF (p_move rfl) (by decide) (fun a hF => ?_)
                        refine stp hF (p_move rfl) (by decide) (fun a hF => ?_)
                        obtain ⟨hq3, H⟩ := hck H
                        obtain ⟨b2, o2, q2, hv3, p4⟩ := p_idxo (n := 0) (i := x6) hS rfl un_39 ti_3 hq3.1 hq3.2
                        refine stp hF (p4 rfl rfl) (by decide) (fun a hF => ?_)
                        obtain ⟨u2, h6, p5⟩ := p_ldo_one (P := Try.prog) (n := 0) hS rfl hv3 (Lens.id _) hq3.1 hq3.2 rfl ia_3 rfl
                        obtain rfl : u2 = .int .i64 (rd x8 x6) := by injection h6
                        refine stp hF (p5 rfl) (by decide) (fun a hF => ?_)
                        refine stp hF (p_move rfl) (by decide) (fun a hF => ?_)
                        refine stp hF (p_eql rfl rfl) (by decide) (fun a hF => ?_)
                        refine nilN ?_
                        refine xn ?_
                        refine cnd hF rfl (fun hc5 => ?_) (fun hc5 => ?_)
                        · replace H := hbt hc5 H
                          refine sq ?_
                          refine rg ?_
                          refine stp hF (p_assign rfl) (by decide) (fun a hF => ?_)
                          refine nilN ?_
                          refine xn ?_
                          refine rt ?_
                          refine xr (br (xr (xr (br (br (xr (xr (br (br (xr (xr (br (xr ?_)))))))))))))
                          obtain rfl := hsm H
                          have H := hon1 HK4
                          obtain rfl := hsm H
                          have H := hon1 HK3
                          obtain rfl := hsm H
                          have H := hon1 HK2
                          obtain rfl := hsm H
                          have H := hon1 HK1
                          obtain rfl := hsm H
                          replace hS := hS.sel (is := []) (A' := []) rfl
                          exact ret1 hF rfl rfl hS ⟨rfl, rfl⟩
                        · replace H := hbf hc5 H
                          refine skN ?_
                          refine xn ?_
                          refine sq ?_
                          refine rg ?_
                          refine stp hF (p_move rfl) (by decide) (fun a hF => ?_)
                          refine stp hF (p_move rfl) (by decide) (fun a hF => ?_)
                          refine stp hF (p_move rfl) (by decide) (fun a hF => ?_)
                          obtain ⟨hq4, H⟩ := hck H
                          obtain ⟨b3, o3, q3, hv4, p6⟩ := p_idxo (n := 0) (i := x6) hS rfl un_39 ti_3 hq4.1 hq4.2
                          refine stp hF (p6 rfl rfl) (by decide) (fun a hF => ?_)
                          obtain ⟨u3, h7, p7⟩ := p_ldo_one (P := Try.prog) (n := 0) hS rfl hv4 (Lens.id _) hq4.1 hq4.2 rfl ia_3 rfl
                          obtain rfl : u3 = .int .i64 (rd x8 x6) := by injection h7
                          refine stp hF (p7 rfl) (by decide) (fun a hF => ?_)
                          replace hS := hS.sel (is := [1, 0, 0]) (A' := [Ow (Kd.int .i64) 3 v10 x10, Ow (Kd.int .i64) 3 v9 x8, pt g1 26 ([v1, v2])]) rfl
                          obtain ⟨s10, hg5, hl1, hcall1⟩ := St.lend (P := Try.prog) (Bs := [Ow (Kd.int .i64) 3 v10 x10]) (A := []) (B := [Ow (Kd.int .i64) 3 v9 x8, pt g1 26 ([v1, v2])]) hS
                          obtain ⟨h8, hl1⟩ := hl1.ow hg5
                          obtain ⟨x11, hx2, H⟩ := hb H
                          refine ste hF (e_call (fst := []) (vs := [v10, (.int .i64 (rd x8 x6))]) (cap := []) rfl rfl go_82 (hcall1 (spec_l9Among.spec k3 _ _ x10 (rd x8 x6) v10 h8 _ hx2) (by rintro v s1 A1 ⟨rfl, rfl⟩; exact trivial))) (by decide) (fun v w a hR hF => ?_)
                          obtain ⟨s11, s12, A3, hg6, hS, hR⟩ := hR
                          obtain ⟨hv5, rfl⟩ := hR; obtain rfl := hv5.symm
                          have hS : St e s11 w [Ow (Kd.int .i64) 3 v10 x10, Ow (Kd.int .i64) 3 v9 x8, pt g1 26 ([v1, v2])] := hS
                          refine stp hF (p_not rfl) (by decide) (fun a hF => ?_)
                          refine nilN ?_
                          refine xn ?_
                          refine cnd hF rfl (fun hc6 => ?_) (fun hc6 => ?_)
                          · replace H := hbt hc6 H
                            refine rg ?_
                            refine stp hF (p_move rfl) (by decide) (fun a hF => ?_)
                            refine stp hF (p_move rfl) (by decide) (fun a hF => ?_)
                            refine stp hF (p_move rfl) (by decide) (fun a hF => ?_)
                            obtain ⟨hq5, H⟩ := hck H
                            obtain ⟨b4, o4, q4, hv6, p8⟩ := p_idxo (n := 1) (i := x6) hS rfl un_39 ti_3 hq5.1 hq5.2
                            refine stp hF (p8 rfl rfl) (by decide) (fun a hF => ?_)
                            obtain ⟨u4, h9, p9⟩ := p_ldo_one (P := Try.prog) (n := 1) hS rfl hv6 (Lens.id _) hq5.1 hq5.2 rfl ia_3 rfl
                            obtain rfl : u4 = .int .i64 (rd x8 x6) := by injection h9
                            refine stp hF (p9 rfl) (by decide) (fun a hF => ?_)
                            refine ste hF (e_bslice (kd := (Kd.int .i64)) (et := 3) (ps := [(0, (.tmp 62))]) (vs := [(0, (.int .i64 (rd x8 x6)))]) (cs := [(.int .i64 (rd x8 x6))]) (xs := ([(rd x8 x6)] : List Int)) hS rfl (by intro w; kernel_rfl) rfl (by decide) (Nat.le_of_ble_eq_true rfl) (by exact (rows_cons (kd := (Kd.int .i64)) (x := (rd x8 x6)) (c := [(.int .i64 (rd x8 x6))]) (cs := []) rfl (Rows.nil _ _ _ _)))) (by decide) (fun v12 w a hR hF => ?_)
                            have hS : St e s11 w [Ow (Kd.int .i64) 3 v12 ([(rd x8 x6)] : List Int), Ow (Kd.int .i64) 3 v10 x10, Ow (Kd.int .i64) 3 v9 x8, pt g1 26 ([v1, v2])] := hR
                            obtain ⟨hq6, H⟩ := hck H
                            refine ste hF (e_append (n := 1) hS rfl rfl rfl (hS.src (n := 0) rfl) un_39 ti_3 rfl (by decide) (by decide) (Nat.le_trans (Nat.mul_le_mul_right 8 hq6) (by decide))) (by decide) (fun v13 w a hR hF => ?_)
                            have hS : St e s11 w [Ow (Kd.int .i64) 3 v13 (x10 ++ ([(rd x8 x6)] : List Int)), Ow (Kd.int .i64) 3 v12 ([(rd x8 x6)] : List Int), Ow (Kd.int .i64) 3 v9 x8, pt g1 26 ([v1, v2])] := hR
                            replace hS := hS.sel (is := [0, 1, 1]) (A' := [Ow (Kd.int .i64) 3 v13 (x10 ++ ([(rd x8 x6)] : List Int)), Ow (Kd.int .i64) 3 v9 x8, pt g1 26 ([v1, v2])]) rfl
                            refine stp hF (p_assign rfl) (by decide) (fun a hF => ?_)
                            refine nilN ?_
                            refine bn (xn ?_)
                            obtain rfl := hsm H
                            replace hS := hS.sel (is := [1, 0, 0]) (A' := [Ow (Kd.int .i64) 3 v9 x8, Ow (Kd.int .i64) 3 v13 (x10 ++ ([(rd x8 x6)] : List Int)), pt g1 26 ([v1, v2])]) rfl
                            exact ⟨(x10 ++ ([(rd x8 x6)] : List Int)), s11, v13, hS, hF.cut ⟨rfl, rfl, rfl, rfl, rfl, rfl, rfl, trivial⟩, hg6, HK4⟩
                          · replace H := hbf hc6 H
                            refine skN ?_
                            refine bn (xn ?_)
                            obtain rfl := hsm H
                            replace hS := hS.sel (is := [1, 0, 0]) (A' := [Ow (Kd.int .i64) 3 v9 x8, Ow (Kd.int .i64) 3 v10 x10, pt g1 26 ([v1, v2])]) rfl
                            exact ⟨x10, s11, v10, hS, hF.cut ⟨rfl, rfl, rfl, rfl, rfl, rfl, rfl, trivial⟩, hg6, HK4⟩
                      · clear H HK4 hS hF
                        rintro a w ⟨x7, s9, v11, hS, hF, hg7, H⟩
                        unfold spec_l9Back.c4 at H
                        refine rg ?_
                        refine stp hF (p_move rfl) (by decide) (fun a hF => ?_)
                        refine stp hF (p_add (c := w64 (x6 + 1)) rfl rfl rfl) (by decide) (fun a hF => ?_)
                        refine stp hF (p_assign rfl) (by decide) (fun a hF => ?_)
                        refine nilN ?_
                        refine xn ?_
                        exact ⟨x7, (w64 (x6 + 1)), s9, v11, hS, hF.cut ⟨rfl, rfl, rfl, rfl, rfl, rfl, rfl, trivial⟩, (hg4.trans hg7), H⟩
                    · replace H := hbf hc4 H
                      refine exi ?_
                      refine xe (xe (hit (bn (xn ?_))))
                      obtain rfl := hsm H
                      replace hS := hS.sel (is := [1, 1]) (A' := [Ow (Kd.int .i64) 3 v10 x10, pt g1 26 ([v1, v2])]) rfl
                      exact ⟨x10, s8, v10, hS, hF.cut ⟨rfl, rfl, rfl, rfl, rfl, trivial⟩, (hg3.trans hg4), HK3⟩
              · clear H HK3 hS hF
                rintro a w ⟨x5, s6, v8, hS, hF, hg8, H⟩
                unfold spec_l9Back.c3 at H
                refine rg ?_
                refine stp hF (p_move rfl) (by decide) (fun a hF => ?_)
                refine stp hF (p_add (c := w64 (x4 + 1)) rfl rfl rfl) (by decide) (fun a hF => ?_)
                refine stp hF (p_assign rfl) (by decide) (fun a hF => ?_)
                refine nilN ?_
                refine xn ?_
                exact ⟨x5, (w64 (x4 + 1)), s6, v8, hS, hF.cut ⟨rfl, rfl, rfl, rfl, rfl, trivial⟩, (hg2.trans hg8), H⟩
            · replace H := hbf hc2 H
              refine exi ?_
              refine xe (xe (hit (bn (xn ?_))))
              obtain rfl := hsm H
              exact ⟨x14, s5, v7, hS, hF.cut ⟨rfl, rfl, rfl, rfl, trivial⟩, hg2, HK2⟩
        · clear H HK2 hS hF
          rintro a w ⟨x3, s4, v6, hS, hF, hg9, H⟩
          unfold spec_l9Back.c2 at H
          refine rg ?_
          refine stp hF (p_move rfl) (by decide) (fun a hF => ?_)
          refine stp hF (p_add (c := w64 (x2 + 1)) rfl rfl rfl) (by decide) (fun a hF => ?_)
          refine stp hF (p_assign rfl) (by decide) (fun a hF => ?_)
          refine nilN ?_
          refine xn ?_
          exact ⟨x3, (w64 (x2 + 1)), s4, v6, hS, hF.cut ⟨rfl, rfl, rfl, rfl, trivial⟩, (hg1.trans hg9), H⟩
      · replace H := hbf hc1 H
        refine exi ?_
        refine xe (xe (hit (xn ?_)))
        obtain rfl := hsm H
        exact ⟨x16, s3, v5, hS, hF.cut trivial, hg1, HK1⟩
  · clear H HK1 hS hF
    rintro a w ⟨x1, s2, v4, hS, hF, hg10, H⟩
    unfold spec_l9Back.c1 at H
    refine sq ?_
    refine rg ?_
    refine stp hF (p_assign rfl) (by decide) (fun a hF => ?_)
    refine nilN ?_
    refine xn ?_
    refine rt ?_
    obtain rfl := hsm H
    replace hS := hS.sel (is := []) (A' := []) rfl
    exact ret1 hF rfl rfl hS ⟨rfl, rfl⟩

def spec_Stuck.c1 (k : Nat) (x1 : Int) : Option Int :=
  (some x1)
def spec_Stuck.c2 (k : Nat) (rec_l1 : Int → Int → Option Int) (x2 : Int) (x3 : Int) : Option Int :=
  (rec_l1 x3 (w64 (x2 + 1)))
def spec_Stuck.c3 (k : Nat) (x2 : Int) (x4 : TLocks) (x5 : Int) (x6 : Bool) : Option Int :=
  (if x6 = true then (if 0 ≤ x2 ∧ x2 < (x4.Waits.length : Int) then (some ((rd x4.Waits x2).Tx)) else none) else (some x5))
def spec_Stuck.c4 (k : Nat) (rec_l1 : Int → Int → Option Int) (x2 : Int) (x4 : TLocks) (x5 : Int) (x7 : Bool) : Option Int :=
  (if x7 = true then (((((if 0 ≤ x2 ∧ x2 < (x4.Waits.length : Int) then (if (decide (x5 < ((rd x4.Waits x2).Tx))) = true then (if 0 ≤ x2 ∧ x2 < (x4.Waits.length : Int) then ((spec_l9Back.f k x4 ((rd x4.Waits x2).Tx)).bind fun x8 => (some x8)) else none) else (some false)) else none) : Option Bool).bind fun x9 => spec_Stuck.c3 k x2 x4 x5 x9) : Option Int).bind fun x10 => spec_Stuck.c2 k rec_l1 x2 x10) else (some x5))
def spec_Stuck.l1 (x4 : TLocks) : Nat → Int → Int → Option Int
  | 0, _, _ => none
  | k + 1, x5, x2 => ((if (decide (x2 < (x4.Waits.length : Int))) = true then ((spec_LocksOk.f k x4).bind fun x11 => (some x11)) else (some false) : Option Bool).bind fun x12 => spec_Stuck.c4 k (spec_Stuck.l1 x4 k) x2 x4 x5 x12)
def spec_Stuck.f (k : Nat) (x4 : TLocks) : Option Int :=
  (((spec_Stuck.l1 x4 k 0 0) : Option Int).bind fun x13 => spec_Stuck.c1 k x13)
set_option maxRecDepth 100000 in
set_option maxHeartbeats 4000000 in
theorem spec_Stuck.spec (k : Nat) (s0 : HF) (w : World) (x4 : TLocks) (v1 : Value) (v2 : Value) (h1 : Sl kTGrant s0 v1 x4.Given) (h2 : Sl kTGrant s0 v2 x4.Waits) (r : Int) (H : spec_Stuck.f k x4 = some r) :
    Law Try.prog 26 #[(.agg #[v1, v2])] s0 w [] (fun v s1 A1 => v = (.int .i64 r) ∧ A1 = []) := by
  unfold spec_Stuck.f at H
  refine Law.intro Try.func26 rfl [(0, (.agg #[v1, v2]))] (Nat.le_of_ble_eq_true rfl) (enter_lk ⟨rfl, trivial⟩) (fun e a hS hF => ?_)
  have hF : Fr 41 a [(0, (.agg #[v1, v2]))] := hF
  refine sq ?_
  refine rg ?_
  refine ste hF (e_box (cs := [v1, v2]) hS rfl rfl) (by decide) (fun v w a hR hF => ?_)
  obtain ⟨g1, rfl, hS⟩ := hR
  refine stp hF (p_assign rfl) (by decide) (fun a hF => ?_)
  refine nilN ?_
  refine xn ?_
  refine sq ?_
  refine rg ?_
  refine stp hF (p_assign rfl) (by decide) (fun a hF => ?_)
  refine nilN ?_
  refine xn ?_
  obtain ⟨x13, H, HK1⟩ := hb H
  refine sqj (fun a w => ∃ (x1 : Int) (s2 : HF) , St e s2 w [pt g1 26 ([v1, v2])] ∧ Fr 41 a [(3, (.int .i64 x1))] ∧ Sub s0 s2 ∧ spec_Stuck.c1 k x1 = some r) ?_ ?_
  · skip
    refine sq ?_
    refine rg ?_
    refine stp hF (p_assign rfl) (by decide) (fun a hF => ?_)
    refine nilN ?_
    refine xn ?_
    refine blk ?_
    refine loop_ind (fun k1 a w => ∃ (x5 : Int) (x2 : Int) (s3 : HF) , St e s3 w [pt g1 26 ([v1, v2])] ∧ Fr 41 a [(1, (.pointer (some ⟨g1, 0, none⟩))), (3, (.int .i64 x5)), (4, (.int .i64 x2))] ∧ Sub s0 s3 ∧ spec_Stuck.l1 x4 k1 x5 x2 = some x13) k ?_ ?_ ?_
    · skip
      exact ⟨0, 0, s0, hS, hF.cut ⟨rfl, rfl, rfl, trivial⟩, (Sub.refl _), H⟩
    · clear H hS hF
      rintro a w ⟨x5, x2, s3, hS, hF, hg1, H⟩
      exact absurd (show none = some _ from H) (by simp)
    · clear H hS hF
      rintro k1 a w ⟨x5, x2, s3, hS, hF, hg1, H⟩
      rw [spec_Stuck.l1.eq_2] at H
      refine sq ?_
      refine sq ?_
      refine rg ?_
      refine stp hF (p_move rfl) (by decide) (fun a hF => ?_)
      refine stp hF (p_fldb (o' := 1) rfl fi_26_1 rfl) (by decide) (fun a hF => ?_)
      refine stp hF (p_ldb_one (i := 0) hS rfl rfl ia_24 rfl) (by decide) (fun a hF => ?_)
      refine stp hF (p_lenr un_24 rfl (h2.mono hg1)) (by decide) (fun a hF => ?_)
      refine stp hF (p_lss rfl rfl) (by decide) (fun a hF => ?_)
      refine stp hF (p_move rfl) (by decide) (fun a hF => ?_)
      obtain ⟨x12, H, HK2⟩ := hb H
      refine cutj 3 (fun a w => ∃ (x7 : Bool) (s4 : HF) , St e s4 w [pt g1 26 ([v1, v2])] ∧ Fr 41 a [(1, (.pointer (some ⟨g1, 0, none⟩))), (3, (.int .i64 x5)), (4, (.int .i64 x2)), (13, (.bool x7))] ∧ Sub s3 s4 ∧ spec_Stuck.c4 k1 (spec_Stuck.l1 x4 k1) x2 x4 x5 x7 = some x13) rfl rfl ?_ ?_
      · rcases Bool.eq_false_or_eq_true (decide (x2 < (x4.Waits.length : Int))) with hc1 | hc1
        · replace H := hbt hc1 H
          refine gonE (j := 5) hF rfl rfl hc1 ?_
          refine stp hF (p_ldb_agg (i := 0) (l := []) (m := [v1, v2]) (r := []) hS rfl rfl ia_26 ti_26 rfl rfl rfl) (by decide) (fun a hF => ?_)
          obtain ⟨x11, hx1, H⟩ := hb H
          refine gonE (j := 5) hF rfl rfl hc1 ?_
          refine ste hF (e_call (fst := []) (vs := [(.agg #[v1, v2])]) (cap := []) rfl rfl go_41 (St.call (A := []) (B := [pt g1 26 ([v1, v2])]) hS (spec_LocksOk.spec k1 _ _ x4 v1 v2 (h1.mono hg1) (h2.mono hg1) _ hx1))) (by decide) (fun v w a hR hF => ?_)
          obtain ⟨s5, A2, hg2, hS, hR⟩ := hR
          obtain ⟨hv1, rfl⟩ := hR; obtain rfl := hv1.symm
          have hS : St e s5 w [pt g1 26 ([v1, v2])] := hS
          refine stp hF (p_pickT rfl hc1 rfl) (by decide) (fun a hF => ?_)
          refine nilN ?_
          refine xn ?_
          obtain rfl := hsm H
          exact ⟨x11, s5, hS, hF.cut ⟨rfl, rfl, rfl, rfl, trivial⟩, hg2, HK2⟩
        · replace H := hbf hc1 H
          refine gofD (j := 5) hF rfl rfl (by rw [hc1]; decide) (by decide) (fun a hF => ?_)
          refine gofD (j := 5) hF rfl rfl (by rw [hc1]; decide) (by decide) (fun a hF => ?_)
          refine stp hF (p_pickF rfl hc1 rfl) (by decide) (fun a hF => ?_)
          refine nilN ?_
          refine xn ?_
          obtain rfl := hsm H
          exact ⟨false, s3, hS, hF.cut ⟨rfl, rfl, rfl, rfl, trivial⟩, (Sub.refl _), HK2⟩
      · clear H HK2 hS hF
        rintro a w ⟨x7, s4, hS, hF, hg3, H⟩
        unfold spec_Stuck.c4 at H
        refine nilN ?_
        refine xn ?_
        refine cnd hF rfl (fun hc2 => ?_) (fun hc2 => ?_)
        · replace H := hbt hc2 H
          refine skN ?_
          refine xn ?_
          obtain ⟨x10, H, HK3⟩ := hb H
          refine sqj (fun a w => ∃ (x3 : Int) (s6 : HF) , St e s6 w [pt g1 26 ([v1, v2])] ∧ Fr 41 a [(1, (.pointer (some ⟨g1, 0, none⟩))), (3, (.int .i64 x3)), (4, (.int .i64 x2))] ∧ Sub s4 s6 ∧ spec_Stuck.c2 k1 (spec_Stuck.l1 x4 k1) x2 x3 = some x13) ?_ ?_
          · skip
            refine blk ?_
            obtain ⟨x9, H, HK4⟩ := hb H
            refine sqj (fun a w => ∃ (x6 : Bool) (s7 : HF) , St e s7 w [pt g1 26 ([v1, v2])] ∧ Fr 41 a [(1, (.pointer (some ⟨g1, 0, none⟩))), (3, (.int .i64 x5)), (4, (.int .i64 x2)), (33, (.bool x6))] ∧ Sub s4 s7 ∧ spec_Stuck.c3 k1 x2 x4 x5 x6 = some x10) ?_ ?_
            · skip
              replace hS : St e s4 w.drew [pt g1 26 ([v1, v2])] := hS.drewN 1
              refine drw [0, 1, 2, 3, 4, 5, 6, 7, 8, 9, 10, 11, 12, 13, 14, 15, 16, 17] mixed (by kernel_rfl) (by decide) (hF.cut (L' := [(1, (.pointer (some ⟨g1, 0, none⟩))), (3, (.int .i64 x5)), (4, (.int .i64 x2)), (13, (.bool x7))]) ⟨rfl, rfl, rfl, rfl, trivial⟩) ?_
              clear hF
              generalize w.drew = w at hS ⊢
              refine pk1 rfl (by decide) rfl (by kernel_rfl) rfl (p_fldb (o' := 1) rfl fi_26_1 rfl) ?_
              refine pk1 rfl (by decide) rfl (by kernel_rfl) rfl (p_ldb_one (i := 0) hS rfl rfl ia_24 rfl) ?_
              refine pk1 rfl (by decide) rfl (by kernel_rfl) rfl (p_move rfl) ?_
              obtain ⟨hq1, H⟩ := hck H
              obtain ⟨ad1, h3, p1⟩ := p_idxr (P := Try.prog) (i := x2) ((h2.mono hg1).mono hg3) un_24 ti_33 hq1.1 hq1.2
              refine pk1 rfl (by decide) rfl (by kernel_rfl) rfl (p1 rfl rfl) ?_
              have h4 : Pr (Kd.int .i64) s4 (ad1.add 0) ((rd x4.Waits x2).Tx) := h3.lens kTGrant_Tx
              refine pk1 rfl (by decide) rfl (by kernel_rfl) rfl (p_fld rfl fi_33_0) ?_
              refine pk1 rfl (by decide) rfl (by kernel_rfl) rfl (p_ldr_int rfl hS h4 ia_3) ?_
              refine pk1 rfl (by decide) rfl (by kernel_rfl) rfl (p_move rfl) ?_
              refine pk1 rfl (by decide) rfl (by kernel_rfl) rfl (p_gtr rfl rfl) ?_
              refine pk1 rfl (by decide) rfl (by kernel_rfl) rfl (p_move rfl) ?_
              rcases Bool.eq_false_or_eq_true (decide (x5 < ((rd x4.Waits x2).Tx))) with hc3 | hc3
              · replace H := hbt hc3 H
                refine pkOn (j := 8) rfl (by decide) rfl (by kernel_rfl) rfl rfl rfl hc3 (p_ldb_agg (i := 0) (l := []) (m := [v1, v2]) (r := []) hS rfl rfl ia_26 ti_26 rfl rfl rfl) ?_
                refine pkOn (j := 8) rfl (by decide) rfl (by kernel_rfl) rfl rfl rfl hc3 (p_fldb (o' := 1) rfl fi_26_1 rfl) ?_
                refine pkOn (j := 8) rfl (by decide) rfl (by kernel_rfl) rfl rfl rfl hc3 (p_ldb_one (i := 0) hS rfl rfl ia_24 rfl) ?_
                refine pkOn (j := 8) rfl (by decide) rfl (by kernel_rfl) rfl rfl rfl hc3 (p_move rfl) ?_
                obtain ⟨hq2, H⟩ := hck H
                obtain ⟨ad2, h5, p2⟩ := p_idxr (P := Try.prog) (i := x2) ((h2.mono hg1).mono hg3) un_24 ti_33 hq2.1 hq2.2
                refine pkOn (j := 8) rfl (by decide) rfl (by kernel_rfl) rfl rfl rfl hc3 (p2 rfl rfl) ?_
                have h6 : Pr (Kd.int .i64) s4 (ad2.add 0) ((rd x4.Waits x2).Tx) := h5.lens kTGrant_Tx
                refine pkOn (j := 8) rfl (by decide) rfl (by kernel_rfl) rfl rfl rfl hc3 (p_fld rfl fi_33_0) ?_
                refine pkOn (j := 8) rfl (by decide) rfl (by kernel_rfl) rfl rfl rfl hc3 (p_ldr_int rfl hS h6 ia_3) ?_
                obtain ⟨x8, hx2, H⟩ := hb H
                refine pkEOn (j := 8) [14, 13, 12, 11, 10, 7, 6, 5, 4, 3, 2, 1, 0] rfl rfl rfl hc3 (by decide) (by kernel_rfl) (by kernel_rfl) (e_call (fst := []) (vs := [(.agg #[v1, v2]), (.int .i64 ((rd x4.Waits x2).Tx))]) (cap := []) rfl rfl go_59 (St.call (A := []) (B := [pt g1 26 ([v1, v2])]) hS (spec_l9Back.spec k1 _ _ x4 ((rd x4.Waits x2).Tx) v1 v2 ((h1.mono hg1).mono hg3) ((h2.mono hg1).mono hg3) _ hx2))) ?_
                intro v w hR
                obtain ⟨s8, A3, hg4, hS, hR⟩ := hR
                obtain ⟨hv2, rfl⟩ := hR; obtain rfl := hv2.symm
                have hS : St e s8 w [pt g1 26 ([v1, v2])] := hS
                refine ⟨⟨knwOn (j := 8) rfl rfl rfl rfl rfl hc3 (p_fld rfl fi_33_0), ⟨knwOn (j := 8) rfl rfl rfl rfl rfl hc3 (p2 rfl rfl), ⟨knwOn (j := 8) rfl rfl rfl rfl rfl hc3 (p_move rfl), ⟨knwOn (j := 8) rfl rfl rfl rfl rfl hc3 (p_ldb_one (i := 0) hS rfl rfl ia_24 rfl), ⟨knwOn (j := 8) rfl rfl rfl rfl rfl hc3 (p_fldb (o' := 1) rfl fi_26_1 rfl), ⟨knw rfl rfl rfl (p_gtr rfl rfl), ⟨knw rfl rfl rfl (p_move rfl), ⟨knw rfl rfl rfl (p_ldr_int rfl hS (h4.mono hg4) ia_3), ⟨knw rfl rfl rfl (p_fld rfl fi_33_0), ⟨knw rfl rfl rfl (p1 rfl rfl), ⟨knw rfl rfl rfl (p_move rfl), ⟨knw rfl rfl rfl (p_ldb_one (i := 0) hS rfl rfl ia_24 rfl), ⟨knw rfl rfl rfl (p_fldb (o' := 1) rfl fi_26_1 rfl), trivial⟩⟩⟩⟩⟩⟩⟩⟩⟩⟩⟩⟩⟩, ?_⟩
                refine pk1 rfl (by decide) rfl (by kernel_rfl) rfl (p_pickT rfl hc3 rfl) ?_
                refine pkF (fun a hF => ?_)
                refine xn ?_
                obtain rfl := hsm H
                exact ⟨x8, s8, hS, hF.cut ⟨rfl, rfl, rfl, rfl, trivial⟩, hg4, HK4⟩
              · replace H := hbf hc3 H
                refine pkOff (j := 8) rfl (by decide) rfl (by kernel_rfl) rfl rfl rfl (by rw [hc3]; decide) ?_
                refine pkOff (j := 8) rfl (by decide) rfl (by kernel_rfl) rfl rfl rfl (by rw [hc3]; decide) ?_
                refine pkOff (j := 8) rfl (by decide) rfl (by kernel_rfl) rfl rfl rfl (by rw [hc3]; decide) ?_
                refine pkOff (j := 8) rfl (by decide) rfl (by kernel_rfl) rfl rfl rfl (by rw [hc3]; decide) ?_
                refine pkOff (j := 8) rfl (by decide) rfl (by kernel_rfl) rfl rfl rfl (by rw [hc3]; decide) ?_
                refine pkOff (j := 8) rfl (by decide) rfl (by kernel_rfl) rfl rfl rfl (by rw [hc3]; decide) ?_
                refine pkOff (j := 8) rfl (by decide) rfl (by kernel_rfl) rfl rfl rfl (by rw [hc3]; decide) ?_
                refine pkOff (j := 8) rfl (by decide) rfl (by kernel_rfl) rfl rfl rfl (by rw [hc3]; decide) ?_
                refine pk1 rfl (by decide) rfl (by kernel_rfl) rfl (p_pickF rfl hc3 rfl) ?_
                refine pkF (fun a hF => ?_)
                refine xn ?_
                obtain rfl := hsm H
                exact ⟨false, s4, hS, hF.cut ⟨rfl, rfl, rfl, rfl, trivial⟩, (Sub.refl _), HK4⟩
            · clear H HK4 hS hF
              rintro a w ⟨x6, s7, hS, hF, hg5, H⟩
              unfold spec_Stuck.c3 at H
              refine cnd hF rfl (fun hc4 => ?_) (fun hc4 => ?_)
              · replace H := hbt hc4 H
                refine rg ?_
                refine stp hF (p_fldb (o' := 1) rfl fi_26_1 rfl) (by decide) (fun a hF => ?_)
                refine stp hF (p_ldb_one (i := 0) hS rfl rfl ia_24 rfl) (by decide) (fun a hF => ?_)
                refine stp hF (p_move rfl) (by decide) (fun a hF => ?_)
                obtain ⟨hq3, H⟩ := hck H
                obtain ⟨ad3, h7, p3⟩ := p_idxr (P := Try.prog) (i := x2) (((h2.mono hg1).mono hg3).mono hg5) un_24 ti_33 hq3.1 hq3.2
                refine stp hF (p3 rfl rfl) (by decide) (fun a hF => ?_)
                have h8 : Pr (Kd.int .i64) s7 (ad3.add 0) ((rd x4.Waits x2).Tx) := h7.lens kTGrant_Tx
                refine stp hF (p_fld rfl fi_33_0) (by decide) (fun a hF => ?_)
                refine stp hF (p_ldr_int rfl hS h8 ia_3) (by decide) (fun a hF => ?_)
                refine stp hF (p_assign rfl) (by decide) (fun a hF => ?_)
                refine nilN ?_
                refine bn (xn ?_)
                obtain rfl := hsm H
                exact ⟨((rd x4.Waits x2).Tx), s7, hS, hF.cut ⟨rfl, rfl, rfl, trivial⟩, hg5, HK3⟩
              · replace H := hbf hc4 H
                refine skN ?_
                refine bn (xn ?_)
                obtain rfl := hsm H
                exact ⟨x5, s7, hS, hF.cut ⟨rfl, rfl, rfl, trivial⟩, hg5, HK3⟩
          · clear H HK3 hS hF
            rintro a w ⟨x3, s6, hS, hF, hg6, H⟩
            unfold spec_Stuck.c2 at H
            refine rg ?_
            refine stp hF (p_move rfl) (by decide) (fun a hF => ?_)
            refine stp hF (p_add (c := w64 (x2 + 1)) rfl rfl rfl) (by decide) (fun a hF => ?_)
            refine stp hF (p_assign rfl) (by decide) (fun a hF => ?_)
            refine nilN ?_
            refine xn ?_
            exact ⟨x3, (w64 (x2 + 1)), s6, hS, hF.cut ⟨rfl, rfl, rfl, trivial⟩, ((hg1.trans hg3).trans hg6), H⟩
        · replace H := hbf hc2 H
          refine exi ?_
          refine xe (xe (hit (xn ?_)))
          obtain rfl := hsm H
          exact ⟨x5, s4, hS, hF.cut ⟨rfl, trivial⟩, (hg1.trans hg3), HK1⟩
  · clear H HK1 hS hF
    rintro a w ⟨x1, s2, hS, hF, hg7, H⟩
    unfold spec_Stuck.c1 at H
    refine sq ?_
    refine rg ?_
    refine stp hF (p_move rfl) (by decide) (fun a hF => ?_)
    refine stp hF (p_assign rfl) (by decide) (fun a hF => ?_)
    refine nilN ?_
    refine xn ?_
    refine rt ?_
    obtain rfl := hsm H
    replace hS := hS.sel (is := []) (A' := []) rfl
    exact ret1 hF rfl rfl hS ⟨rfl, rfl⟩

def laws_FnDropped.c1 (k : Nat) (x1 : Bool) : Option Bool :=
  (some x1)
def laws_FnDropped.c2 (k : Nat) (x2 : Bool) : Option Bool :=
  (some x2)
def laws_FnDropped.c3 (k : Nat) (x3 : Int) (x4 : TLocks × (List Int)) (x5 : Bool) : Option Bool :=
  ((if x5 = true then ((if (decide (x3 = 0)) = true then (some true) else ((impl_Stuck.f k x4.1).bind fun x6 => (some (decide (x6 ≠ x3)))) : Option Bool).bind fun x7 => laws_FnDropped.c2 k x7) else (some false) : Option Bool).bind fun x8 => laws_FnDropped.c1 k x8)
def laws_FnDropped.c4 (k : Nat) (x9 : TLocks) (x10 : TLocks × (List Int)) (x11 : Int) : Option Bool :=
  ((impl_Stuck.f k x9).bind fun x3 => ((impl_DropAll.f k x9 x3).bind fun x4 => ((if (decide ((w64 ((x10.1.Waits.length : Int) + (x10.2.length : Int))) = x11)) = true then ((spec_Stuck.f k x9).bind fun x12 => (some (decide (x3 = x12)))) else (some false) : Option Bool).bind fun x13 => laws_FnDropped.c3 k x3 x4 x13)))
def laws_FnDropped.c5 (k : Nat) (rec_l1 : Int → Int → Option Int) (x14 : Int) (x15 : Int) : Option Int :=
  (rec_l1 x15 (w64 (x14 + 1)))
def laws_FnDropped.l1 (x9 : TLocks) (x16 : Int) : Nat → Int → Int → Option Int
  | 0, _, _ => none
  | k + 1, x17, x14 => (if (decide (x14 < (x9.Waits.length : Int))) = true then (((if 0 ≤ x14 ∧ x14 < (x9.Waits.length : Int) then (if (decide (((rd x9.Waits x14).Tx) ≠ (w64 (1 + (x16.tmod 5))))) = true then (some (w64 (x17 + 1))) else (some x17)) else none) : Option Int).bind fun x18 => laws_FnDropped.c5 k (laws_FnDropped.l1 x9 x16 k) x14 x18) else (some x17))
def laws_FnDropped.c6 (k : Nat) (x9 : TLocks) (x16 : Int) (x10 : TLocks × (List Int)) : Option Bool :=
  (((laws_FnDropped.l1 x9 x16 k 0 0) : Option Int).bind fun x19 => laws_FnDropped.c4 k x9 x10 x19)
def laws_FnDropped.l2 (x10 : TLocks × (List Int)) (x16 : Int) : Nat → Int → Option (Ex Bool Unit)
  | 0, _ => none
  | k + 1, x20 => (if (decide (x20 < (x10.1.Given.length : Int))) = true then (if 0 ≤ x20 ∧ x20 < (x10.1.Given.length : Int) then (if (decide (((rd x10.1.Given x20).Tx) = (w64 (1 + (x16.tmod 5))))) = true then (some (Ex.ret false)) else ((laws_FnDropped.l2 x10 x16 k) (w64 (x20 + 1)))) else none) else (some (Ex.go ())))
def laws_FnDropped.c7 (k : Nat) (x10 : TLocks × (List Int)) (x16 : Int) (x9 : TLocks) (x21 : Bool) : Option Bool :=
  (if x21 = true then (some false) else (((laws_FnDropped.l2 x10 x16 k 0) : Option (Ex Bool Unit)).bind fun x22 => Ex.on x22 (fun r => some r) (fun y => laws_FnDropped.c6 k x9 x16 x10)))
def laws_FnDropped.f (k : Nat) (x23 : (List Int)) : Option Bool :=
  ((laws_big.f k x23).bind fun x24 => (if x24 = true then (some true) else ((spec_DrawLocks.f k x23).bind fun x9 => ((laws_at.f k x23 2).bind fun x16 => ((impl_DropAll.f k x9 (w64 (1 + (x16.tmod 5)))).bind fun x10 => ((spec_DropAll.f k x9 (w64 (1 + (x16.tmod 5)))).bind fun x25 => ((laws_sameInts.f k x10.2 x25.2).bind fun x26 => ((if (!x26) = true then (some true) else ((impl_LocksOk.f k x10.1).bind fun x27 => (some (!x27))) : Option Bool).bind fun x28 => laws_FnDropped.c7 k x10 x16 x9 x28))))))))
set_option maxRecDepth 100000 in
set_option maxHeartbeats 4000000 in
theorem laws_FnDropped.spec (k : Nat) (s0 : HF) (w : World) (x23 : (List Int)) (v1 : Value) (h1 : Sl (Kd.int .u8) s0 v1 x23) (r : Bool) (H : laws_FnDropped.f k x23 = some r) :
    Law Try.prog 5 #[v1] s0 w [] (fun v s1 A1 => v = (.bool r) ∧ A1 = []) := by
  unfold laws_FnDropped.f at H
  refine Law.intro Try.func5 rfl [(0, v1)] (Nat.le_of_ble_eq_true rfl) (enter_lk ⟨rfl, trivial⟩) (fun e a hS hF => ?_)
  have hF : Fr 108 a [(0, v1)] := hF
  refine sq ?_
  refine rg ?_
  refine stp hF (p_assign rfl) (by decide) (fun a hF => ?_)
  refine nilN ?_
  refine xn ?_
  refine sq ?_
  refine sq ?_
  refine rg ?_
  refine stp hF (p_move rfl) (by decide) (fun a hF => ?_)
  obtain ⟨x24, hx1, H⟩ := hb H
  refine ste hF (e_call (fst := []) (vs := [v1]) (cap := []) rfl rfl go_6 (St.call (A := []) (B := []) hS (laws_big.spec k _ _ x23 v1 h1 _ hx1))) (by decide) (fun v w a hR hF => ?_)
  obtain ⟨s2, A2, hg1, hS, hR⟩ := hR
  obtain ⟨hv1, rfl⟩ := hR; obtain rfl := hv1.symm
  have hS : St e s2 w [] := hS
  refine nilN ?_
  refine xn ?_
  refine cnd hF rfl (fun hc1 => ?_) (fun hc1 => ?_)
  · replace H := hbt hc1 H
    refine sq ?_
    refine rg ?_
    refine stp hF (p_assign rfl) (by decide) (fun a hF => ?_)
    refine nilN ?_
    refine xn ?_
    refine rt ?_
    refine xr ?_
    obtain rfl := hsm H
    exact ret1 hF rfl rfl hS ⟨rfl, rfl⟩
  · replace H := hbf hc1 H
    refine skN ?_
    refine xn ?_
    refine sq ?_
    refine rg ?_
    refine stp hF (p_move rfl) (by decide) (fun a hF => ?_)
    obtain ⟨x9, hx2, H⟩ := hb H
    refine ste hF (e_call (fst := []) (vs := [v1]) (cap := []) rfl rfl go_22 (St.call (A := []) (B := []) hS (spec_DrawLocks.spec k _ _ x23 v1 (h1.mono hg1) _ hx2))) (by decide) (fun v w a hR hF => ?_)
    obtain ⟨s3, A3, hg2, hS, hR⟩ := hR
    obtain ⟨v2, v3, hv2, rfl⟩ := hR; obtain rfl := hv2.symm
    have hS : St e s3 w [Ow kTGrant 33 v2 x9.Given, Ow kTGrant 33 v3 x9.Waits] := hS
    refine ste hF (e_alloc (cs := [(.slice none 0 0), (.slice none 0 0)]) hS ti_26 rfl) (by decide) (fun v w a hR hF => ?_)
    obtain ⟨g1, rfl, hS⟩ := hR
    refine ste0 hF (e_stb (i := 0) (l := []) (m := [(.slice none 0 0), (.slice none 0 0)]) (r := []) (m' := [v2, v3]) (cs' := [v2, v3]) hS rfl rfl rfl ti_26 rfl rfl rfl rfl rfl (one_cons (hS.one_ow (i := 1) rfl) (one_cons (hS.one_ow (i := 2) rfl) one_nil)) rfl) (fun v w a hR hF => ?_)
    have hS : St e s3 w [pt g1 26 ([v2, v3]), Ow kTGrant 33 v2 x9.Given, Ow kTGrant 33 v3 x9.Waits] := hR
    refine nilN ?_
    refine xn ?_
    refine sq ?_
    refine rg ?_
    refine stp hF (p_move rfl) (by decide) (fun a hF => ?_)
    obtain ⟨x16, hx3, H⟩ := hb H
    refine ste hF (e_call (fst := []) (vs := [v1, (.int .i64 2)]) (cap := []) rfl rfl go_23 (St.call (A := []) (B := [pt g1 26 ([v2, v3]), Ow kTGrant 33 v2 x9.Given, Ow kTGrant 33 v3 x9.Waits]) hS (laws_at.spec k _ _ x23 2 v1 ((h1.mono hg1).mono hg2) _ hx3))) (by decide) (fun v w a hR hF => ?_)
    obtain ⟨s4, A4, hg3, hS, hR⟩ := hR
    obtain ⟨hv3, rfl⟩ := hR; obtain rfl := hv3.symm
    have hS : St e s4 w [pt g1 26 ([v2, v3]), Ow kTGrant 33 v2 x9.Given, Ow kTGrant 33 v3 x9.Waits] := hS
    refine stp hF (p_rem (c := x16.tmod 5) rfl rfl (by decide) rfl) (by decide) (fun a hF => ?_)
    refine stp hF (p_add (c := w64 (1 + (x16.tmod 5))) rfl rfl rfl) (by decide) (fun a hF => ?_)
    refine stp hF (p_assign rfl) (by decide) (fun a hF => ?_)
    refine nilN ?_
    refine xn ?_
    refine sq ?_
    refine rg ?_
    refine stp hF (p_ldb_agg (i := 0) (l := []) (m := [v2, v3]) (r := []) hS rfl rfl ia_26 ti_26 rfl rfl rfl) (by decide) (fun a hF => ?_)
    refine stp hF (p_move rfl) (by decide) (fun a hF => ?_)
    replace hS := hS.sel (is := [1, 1, 0]) (A' := [Ow kTGrant 33 v2 x9.Given, Ow kTGrant 33 v3 x9.Waits, pt g1 26 ([v2, v3])]) rfl
    obtain ⟨s5, hg4, hl1, hcall1⟩ := St.lend (P := Try.prog) (Bs := [Ow kTGrant 33 v2 x9.Given, Ow kTGrant 33 v3 x9.Waits]) (A := []) (B := [pt g1 26 ([v2, v3])]) hS
    obtain ⟨h2, hl1⟩ := hl1.ow hg4
    obtain ⟨h3, hl1⟩ := hl1.ow hg4
    obtain ⟨x10, hx4, H⟩ := hb H
    refine ste hF (e_call (fst := []) (vs := [(.agg #[v2, v3]), (.int .i64 (w64 (1 + (x16.tmod 5))))]) (cap := []) rfl rfl go_15 (hcall1 (impl_DropAll.spec k _ _ x9 (w64 (1 + (x16.tmod 5))) v2 v3 h2 h3 _ hx4) (by rintro v s1 A1 ⟨_, _, _, rfl, rfl⟩; exact ⟨Ow_flat kTGrant_flat _ _ _, ⟨Ow_flat kTGrant_flat _ _ _, ⟨Ow_flat flat_int _ _ _, trivial⟩⟩⟩))) (by decide) (fun v w a hR hF => ?_)
    obtain ⟨s6, s7, A5, hg5, hS, hR⟩ := hR
    obtain ⟨v4, v5, v6, hv4, rfl⟩ := hR; obtain rfl := hv4.symm
    have hS : St e s6 w [Ow kTGrant 33 v2 x9.Given, Ow kTGrant 33 v3 x9.Waits, Ow kTGrant 33 v4 x10.1.Given, Ow kTGrant 33 v5 x10.1.Waits, Ow (Kd.int .i64) 3 v6 x10.2, pt g1 26 ([v2, v3])] := hS
    refine stp hF (p_move rfl) (by decide) (fun a hF => ?_)
    refine stp hF (p_extract rfl rfl) (by decide) (fun a hF => ?_)
    refine stp hF (p_extract rfl rfl) (by decide) (fun a hF => ?_)
    refine ste hF (e_alloc (cs := [(.slice none 0 0), (.slice none 0 0)]) hS ti_26 rfl) (by decide) (fun v w a hR hF => ?_)
    obtain ⟨g2, rfl, hS⟩ := hR
    refine ste0 hF (e_stb (i := 0) (l := []) (m := [(.slice none 0 0), (.slice none 0 0)]) (r := []) (m' := [v4, v5]) (cs' := [v4, v5]) hS rfl rfl rfl ti_26 rfl rfl rfl rfl rfl (one_cons (hS.one_ow (i := 3) rfl) (one_cons (hS.one_ow (i := 4) rfl) one_nil)) rfl) (fun v w a hR hF => ?_)
    have hS : St e s6 w [pt g2 26 ([v4, v5]), Ow kTGrant 33 v2 x9.Given, Ow kTGrant 33 v3 x9.Waits, Ow kTGrant 33 v4 x10.1.Given, Ow kTGrant 33 v5 x10.1.Waits, Ow (Kd.int .i64) 3 v6 x10.2, pt g1 26 ([v2, v3])] := hR
    refine stp hF (p_assign rfl) (by decide) (fun a hF => ?_)
    refine nilN ?_
    refine xn ?_
    refine sq ?_
    refine rg ?_
    refine stp hF (p_ldb_agg (i := 6) (l := []) (m := [v2, v3]) (r := []) hS rfl rfl ia_26 ti_26 rfl rfl rfl) (by decide) (fun a hF => ?_)
    refine stp hF (p_move rfl) (by decide) (fun a hF => ?_)
    replace hS := hS.sel (is := [1, 1, 0, 0, 0, 0, 0]) (A' := [Ow kTGrant 33 v2 x9.Given, Ow kTGrant 33 v3 x9.Waits, pt g2 26 ([v4, v5]), Ow kTGrant 33 v4 x10.1.Given, Ow kTGrant 33 v5 x10.1.Waits, Ow (Kd.int .i64) 3 v6 x10.2, pt g1 26 ([v2, v3])]) rfl
    obtain ⟨s8, hg6, hl2, hcall2⟩ := St.lend (P := Try.prog) (Bs := [Ow kTGrant 33 v2 x9.Given, Ow kTGrant 33 v3 x9.Waits]) (A := []) (B := [pt g2 26 ([v4, v5]), Ow kTGrant 33 v4 x10.1.Given, Ow kTGrant 33 v5 x10.1.Waits, Ow (Kd.int .i64) 3 v6 x10.2, pt g1 26 ([v2, v3])]) hS
    obtain ⟨h4, hl2⟩ := hl2.ow hg6
    obtain ⟨h5, hl2⟩ := hl2.ow hg6
    obtain ⟨x25, hx5, H⟩ := hb H
    refine ste hF (e_call (fst := []) (vs := [(.agg #[v2, v3]), (.int .i64 (w64 (1 + (x16.tmod 5))))]) (cap := []) rfl rfl go_13 (hcall2 (spec_DropAll.spec k _ _ x9 (w64 (1 + (x16.tmod 5))) v2 v3 h4 h5 _ hx5) (by rintro v s1 A1 ⟨_, _, _, rfl, rfl⟩; exact ⟨Ow_flat kTGrant_flat _ _ _, ⟨Ow_flat kTGrant_flat _ _ _, ⟨Ow_flat flat_int _ _ _, trivial⟩⟩⟩))) (by decide) (fun v w a hR hF => ?_)
    obtain ⟨s9, s10, A6, hg7, hS, hR⟩ := hR
    obtain ⟨v7, v8, v9, hv5, rfl⟩ := hR; obtain rfl := hv5.symm
    have hS : St e s9 w [Ow kTGrant 33 v2 x9.Given, Ow kTGrant 33 v3 x9.Waits, Ow kTGrant 33 v7 x25.1.Given, Ow kTGrant 33 v8 x25.1.Waits, Ow (Kd.int .i64) 3 v9 x25.2, pt g2 26 ([v4, v5]), Ow kTGrant 33 v4 x10.1.Given, Ow kTGrant 33 v5 x10.1.Waits, Ow (Kd.int .i64) 3 v6 x10.2, pt g1 26 ([v2, v3])] := hS
    refine stp hF (p_move rfl) (by decide) (fun a hF => ?_)
    refine stp hF (p_extract rfl rfl) (by decide) (fun a hF => ?_)
    refine stp hF (p_extract rfl rfl) (by decide) (fun a hF => ?_)
    refine ste hF (e_alloc (cs := [(.slice none 0 0), (.slice none 0 0)]) hS ti_26 rfl) (by decide) (fun v w a hR hF => ?_)
    obtain ⟨g3, rfl, hS⟩ := hR
    refine ste0 hF (e_stb (i := 0) (l := []) (m := [(.slice none 0 0), (.slice none 0 0)]) (r := []) (m' := [v7, v8]) (cs' := [v7, v8]) hS rfl rfl rfl ti_26 rfl rfl rfl rfl rfl (one_cons (hS.one_ow (i := 3) rfl) (one_cons (hS.one_ow (i := 4) rfl) one_nil)) rfl) (fun v w a hR hF => ?_)
    have hS : St e s9 w [pt g3 26 ([v7, v8]), Ow kTGrant 33 v2 x9.Given, Ow kTGrant 33 v3 x9.Waits, Ow kTGrant 33 v7 x25.1.Given, Ow kTGrant 33 v8 x25.1.Waits, Ow (Kd.int .i64) 3 v9 x25.2, pt g2 26 ([v4, v5]), Ow kTGrant 33 v4 x10.1.Given, Ow kTGrant 33 v5 x10.1.Waits, Ow (Kd.int .i64) 3 v6 x10.2, pt g1 26 ([v2, v3])] := hR
    refine stp hF (p_assign rfl) (by decide) (fun a hF => ?_)
    refine nilN ?_
    refine xn ?_
    refine sq ?_
    refine sq ?_
    refine rg ?_
    refine stp hF (p_move rfl) (by decide) (fun a hF => ?_)
    refine stp hF (p_move rfl) (by decide) (fun a hF => ?_)
    replace hS := hS.sel (is := [9, 5, 0, 0, 0, 0, 0, 0, 0, 0, 0]) (A' := [Ow (Kd.int .i64) 3 v6 x10.2, Ow (Kd.int .i64) 3 v9 x25.2, pt g3 26 ([v7, v8]), Ow kTGrant 33 v2 x9.Given, Ow kTGrant 33 v3 x9.Waits, Ow kTGrant 33 v7 x25.1.Given, Ow kTGrant 33 v8 x25.1.Waits, pt g2 26 ([v4, v5]), Ow kTGrant 33 v4 x10.1.Given, Ow kTGrant 33 v5 x10.1.Waits, pt g1 26 ([v2, v3])]) rfl
    obtain ⟨s11, hg8, hl3, hcall3⟩ := St.lend (P := Try.prog) (Bs := [Ow (Kd.int .i64) 3 v6 x10.2, Ow (Kd.int .i64) 3 v9 x25.2]) (A := []) (B := [pt g3 26 ([v7, v8]), Ow kTGrant 33 v2 x9.Given, Ow kTGrant 33 v3 x9.Waits, Ow kTGrant 33 v7 x25.1.Given, Ow kTGrant 33 v8 x25.1.Waits, pt g2 26 ([v4, v5]), Ow kTGrant 33 v4 x10.1.Given, Ow kTGrant 33 v5 x10.1.Waits, pt g1 26 ([v2, v3])]) hS
    obtain ⟨h6, hl3⟩ := hl3.ow hg8
    obtain ⟨h7, hl3⟩ := hl3.ow hg8
    obtain ⟨x26, hx6, H⟩ := hb H
    refine ste hF (e_call (fst := []) (vs := [v6, v9]) (cap := []) rfl rfl go_24 (hcall3 (laws_sameInts.spec k _ _ x10.2 x25.2 v6 v9 h6 h7 _ hx6) (by rintro v s1 A1 ⟨rfl, rfl⟩; exact trivial))) (by decide) (fun v w a hR hF => ?_)
    obtain ⟨s12, s13, A7, hg9, hS, hR⟩ := hR
    obtain ⟨hv6, rfl⟩ := hR; obtain rfl := hv6.symm
    have hS : St e s12 w [Ow (Kd.int .i64) 3 v6 x10.2, Ow (Kd.int .i64) 3 v9 x25.2, pt g3 26 ([v7, v8]), Ow kTGrant 33 v2 x9.Given, Ow kTGrant 33 v3 x9.Waits, Ow kTGrant 33 v7 x25.1.Given, Ow kTGrant 33 v8 x25.1.Waits, pt g2 26 ([v4, v5]), Ow kTGrant 33 v4 x10.1.Given, Ow kTGrant 33 v5 x10.1.Waits, pt g1 26 ([v2, v3])] := hS
    refine stp hF (p_not rfl) (by decide) (fun a hF => ?_)
    refine stp hF (p_move rfl) (by decide) (fun a hF => ?_)
    obtain ⟨x28, H, HK1⟩ := hb H
    refine cutj 4 (fun a w => ∃ (x21 : Bool) (s14 : HF) , St e s14 w [Ow (Kd.int .i64) 3 v6 x10.2, Ow (Kd.int .i64) 3 v9 x25.2, pt g3 26 ([v7, v8]), Ow kTGrant 33 v2 x9.Given, Ow kTGrant 33 v3 x9.Waits, Ow kTGrant 33 v7 x25.1.Given, Ow kTGrant 33 v8 x25.1.Waits, pt g2 26 ([v4, v5]), Ow kTGrant 33 v4 x10.1.Given, Ow kTGrant 33 v5 x10.1.Waits, pt g1 26 ([v2, v3])] ∧ Fr 108 a [(3, (.pointer (some ⟨g1, 0, none⟩))), (4, (.int .i64 (w64 (1 + (x16.tmod 5))))), (5, (.pointer (some ⟨g2, 0, none⟩))), (6, v6), (43, (.bool x21))] ∧ Sub s12 s14 ∧ laws_FnDropped.c7 k x10 x16 x9 x21 = some r) rfl rfl ?_ ?_
    · rcases Bool.eq_false_or_eq_true ((!x26)) with hc2 | hc2
      · replace H := hbt hc2 H
        refine gofD (j := 4) hF rfl rfl (by rw [hc2]; decide) (by decide) (fun a hF => ?_)
        refine gofD (j := 4) hF rfl rfl (by rw [hc2]; decide) (by decide) (fun a hF => ?_)
        refine gofD (j := 4) hF rfl rfl (by rw [hc2]; decide) (by decide) (fun a hF => ?_)
        refine stp hF (p_pickT rfl hc2 rfl) (by decide) (fun a hF => ?_)
        refine nilN ?_
        refine xn ?_
        obtain rfl := hsm H
        exact ⟨true, s12, hS, hF.cut ⟨rfl, rfl, rfl, rfl, rfl, trivial⟩, (Sub.refl _), HK1⟩
      · replace H := hbf hc2 H
        refine gonE (j := 4) hF rfl rfl hc2 ?_
        refine stp hF (p_ldb_agg (i := 7) (l := []) (m := [v4, v5]) (r := []) hS rfl rfl ia_26 ti_26 rfl rfl rfl) (by decide) (fun a hF => ?_)
        replace hS := hS.sel (is := [8, 8, 0, 0, 0, 0, 0, 0, 0, 0, 0]) (A' := [Ow kTGrant 33 v4 x10.1.Given, Ow kTGrant 33 v5 x10.1.Waits, Ow (Kd.int .i64) 3 v6 x10.2, Ow (Kd.int .i64) 3 v9 x25.2, pt g3 26 ([v7, v8]), Ow kTGrant 33 v2 x9.Given, Ow kTGrant 33 v3 x9.Waits, Ow kTGrant 33 v7 x25.1.Given, Ow kTGrant 33 v8 x25.1.Waits, pt g2 26 ([v4, v5]), pt g1 26 ([v2, v3])]) rfl
        obtain ⟨s15, hg10, hl4, hcall4⟩ := St.lend (P := Try.prog) (Bs := [Ow kTGrant 33 v4 x10.1.Given, Ow kTGrant 33 v5 x10.1.Waits]) (A := []) (B := [Ow (Kd.int .i64) 3 v6 x10.2, Ow (Kd.int .i64) 3 v9 x25.2, pt g3 26 ([v7, v8]), Ow kTGrant 33 v2 x9.Given, Ow kTGrant 33 v3 x9.Waits, Ow kTGrant 33 v7 x25.1.Given, Ow kTGrant 33 v8 x25.1.Waits, pt g2 26 ([v4, v5]), pt g1 26 ([v2, v3])]) hS
        obtain ⟨h8, hl4⟩ := hl4.ow hg10
        obtain ⟨h9, hl4⟩ := hl4.ow hg10
        obtain ⟨x27, hx7, H⟩ := hb H
        refine gonE (j := 4) hF rfl rfl hc2 ?_
        refine ste hF (e_call (fst := []) (vs := [(.agg #[v4, v5])]) (cap := []) rfl rfl go_10 (hcall4 (impl_LocksOk.spec k _ _ x10.1 v4 v5 h8 h9 _ hx7) (by rintro v s1 A1 ⟨rfl, rfl⟩; exact trivial))) (by decide) (fun v w a hR hF => ?_)
        obtain ⟨s16, s17, A8, hg11, hS, hR⟩ := hR
        obtain ⟨hv7, rfl⟩ := hR; obtain rfl := hv7.symm
        have hS : St e s16 w [Ow kTGrant 33 v4 x10.1.Given, Ow kTGrant 33 v5 x10.1.Waits, Ow (Kd.int .i64) 3 v6 x10.2, Ow (Kd.int .i64) 3 v9 x25.2, pt g3 26 ([v7, v8]), Ow kTGrant 33 v2 x9.Given, Ow kTGrant 33 v3 x9.Waits, Ow kTGrant 33 v7 x25.1.Given, Ow kTGrant 33 v8 x25.1.Waits, pt g2 26 ([v4, v5]), pt g1 26 ([v2, v3])] := hS
        refine gonE (j := 4) hF rfl rfl hc2 ?_
        refine stp hF (p_not rfl) (by decide) (fun a hF => ?_)
        refine stp hF (p_pickF rfl hc2 rfl) (by decide) (fun a hF => ?_)
        refine nilN ?_
        refine xn ?_
        obtain rfl := hsm H
        replace hS := hS.sel (is := [2, 2, 2, 2, 2, 2, 2, 2, 0, 0, 0]) (A' := [Ow (Kd.int .i64) 3 v6 x10.2, Ow (Kd.int .i64) 3 v9 x25.2, pt g3 26 ([v7, v8]), Ow kTGrant 33 v2 x9.Given, Ow kTGrant 33 v3 x9.Waits, Ow kTGrant 33 v7 x25.1.Given, Ow kTGrant 33 v8 x25.1.Waits, pt g2 26 ([v4, v5]), Ow kTGrant 33 v4 x10.1.Given, Ow kTGrant 33 v5 x10.1.Waits, pt g1 26 ([v2, v3])]) rfl
        exact ⟨(!x27), s16, hS, hF.cut ⟨rfl, rfl, rfl, rfl, rfl, trivial⟩, hg11, HK1⟩
    · clear H HK1 hS hF
      rintro a w ⟨x21, s14, hS, hF, hg12, H⟩
      unfold laws_FnDropped.c7 at H
      refine nilN ?_
      refine xn ?_
      refine cnd hF rfl (fun hc3 => ?_) (fun hc3 => ?_)
      · replace H := hbt hc3 H
        refine sq ?_
        refine rg ?_
        refine stp hF (p_assign rfl) (by decide) (fun a hF => ?_)
        refine nilN ?_
        refine xn ?_
        refine rt ?_
        refine xr ?_
        obtain rfl := hsm H
        replace hS := hS.sel (is := []) (A' := []) rfl
        exact ret1 hF rfl rfl hS ⟨rfl, rfl⟩
      · replace H := hbf hc3 H
        refine skN ?_
        refine xn ?_
        obtain ⟨x22, H, HK2⟩ := hb H
        refine sqj (fun a w => St e s14 w [Ow (Kd.int .i64) 3 v6 x10.2, Ow (Kd.int .i64) 3 v9 x25.2, pt g3 26 ([v7, v8]), Ow kTGrant 33 v2 x9.Given, Ow kTGrant 33 v3 x9.Waits, Ow kTGrant 33 v7 x25.1.Given, Ow kTGrant 33 v8 x25.1.Waits, pt g2 26 ([v4, v5]), Ow kTGrant 33 v4 x10.1.Given, Ow kTGrant 33 v5 x10.1.Waits, pt g1 26 ([v2, v3])] ∧ Fr 108 a [(3, (.pointer (some ⟨g1, 0, none⟩))), (4, (.int .i64 (w64 (1 + (x16.tmod 5))))), (5, (.pointer (some ⟨g2, 0, none⟩))), (6, v6)] ∧ laws_FnDropped.c6 k x9 x16 x10 = some r) ?_ ?_
        · skip
          refine sq ?_
          refine rg ?_
          refine stp hF (p_assign rfl) (by decide) (fun a hF => ?_)
          refine nilN ?_
          refine xn ?_
          refine blk ?_
          refine loop_ind (fun k1 a w => ∃ (x20 : Int) , St e s14 w [Ow (Kd.int .i64) 3 v6 x10.2, Ow (Kd.int .i64) 3 v9 x25.2, pt g3 26 ([v7, v8]), Ow kTGrant 33 v2 x9.Given, Ow kTGrant 33 v3 x9.Waits, Ow kTGrant 33 v7 x25.1.Given, Ow kTGrant 33 v8 x25.1.Waits, pt g2 26 ([v4, v5]), Ow kTGrant 33 v4 x10.1.Given, Ow kTGrant 33 v5 x10.1.Waits, pt g1 26 ([v2, v3])] ∧ Fr 108 a [(3, (.pointer (some ⟨g1, 0, none⟩))), (4, (.int .i64 (w64 (1 + (x16.tmod 5))))), (5, (.pointer (some ⟨g2, 0, none⟩))), (6, v6), (9, (.int .i64 x20))] ∧ laws_FnDropped.l2 x10 x16 k1 x20 = some x22) k ?_ ?_ ?_
          · skip
            exact ⟨0, hS, hF.cut ⟨rfl, rfl, rfl, rfl, rfl, trivial⟩, H⟩
          · clear H hS hF
            rintro a w ⟨x20, hS, hF, H⟩
            exact absurd (show none = some _ from H) (by simp)
          · clear H hS hF
            rintro k1 a w ⟨x20, hS, hF, H⟩
            rw [laws_FnDropped.l2.eq_2] at H
            refine sq ?_
            refine sq ?_
            refine rg ?_
            refine stp hF (p_move rfl) (by decide) (fun a hF => ?_)
            refine stp hF (p_fldb (o' := 0) rfl fi_26_0 rfl) (by decide) (fun a hF => ?_)
            refine stp hF (p_ldb_one (i := 7) hS rfl rfl ia_24 rfl) (by decide) (fun a hF => ?_)
            refine stp hF (p_leno (i := 8) hS rfl un_24 rfl) (by decide) (fun a hF => ?_)
            refine stp hF (p_lss rfl rfl) (by decide) (fun a hF => ?_)
            refine nilN ?_
            refine xn ?_
            refine cnd hF rfl (fun hc4 => ?_) (fun hc4 => ?_)
            · replace H := hbt hc4 H
              refine skN ?_
              refine xn ?_
              refine sq ?_
              refine blk ?_
              refine sq ?_
              refine rg ?_
              refine stp hF (p_fldb (o' := 0) rfl fi_26_0 rfl) (by decide) (fun a hF => ?_)
              refine stp hF (p_ldb_one (i := 7) hS rfl rfl ia_24 rfl) (by decide) (fun a hF => ?_)
              refine stp hF (p_move rfl) (by decide) (fun a hF => ?_)
              obtain ⟨hq1, H⟩ := hck H
              obtain ⟨b1, o1, q1, hv8, p1⟩ := p_idxo (n := 8) (i := x20) hS rfl un_24 ti_33 hq1.1 hq1.2
              refine stp hF (p1 rfl rfl) (by decide) (fun a hF => ?_)
              refine stp hF (p_fldb (o' := (o1 + x20.toNat * kTGrant.sz)) rfl fi_33_0 rfl) (by decide) (fun a hF => ?_)
              obtain ⟨u1, h10, p2⟩ := p_ldo_one (P := Try.prog) (n := 8) hS rfl hv8 kTGrant_Tx hq1.1 hq1.2 rfl ia_3 rfl
              obtain rfl : u1 = .int .i64 ((rd x10.1.Given x20).Tx) := by injection h10
              refine stp hF (p2 rfl) (by decide) (fun a hF => ?_)
              refine stp hF (p_move rfl) (by decide) (fun a hF => ?_)
              refine stp hF (p_eql rfl rfl) (by decide) (fun a hF => ?_)
              refine nilN ?_
              refine xn ?_
              refine cnd hF rfl (fun hc5 => ?_) (fun hc5 => ?_)
              · replace H := hbt hc5 H
                refine sq ?_
                refine rg ?_
                refine stp hF (p_assign rfl) (by decide) (fun a hF => ?_)
                refine nilN ?_
                refine xn ?_
                refine rt ?_
                refine br (xr (xr (br (xr ?_))))
                obtain rfl := hsm H
                have H := hon1 HK2
                obtain rfl := hsm H
                replace hS := hS.sel (is := []) (A' := []) rfl
                exact ret1 hF rfl rfl hS ⟨rfl, rfl⟩
              · replace H := hbf hc5 H
                refine skN ?_
                refine bn (xn ?_)
                refine rg ?_
                refine stp hF (p_move rfl) (by decide) (fun a hF => ?_)
                refine stp hF (p_add (c := w64 (x20 + 1)) rfl rfl rfl) (by decide) (fun a hF => ?_)
                refine stp hF (p_assign rfl) (by decide) (fun a hF => ?_)
                refine nilN ?_
                refine xn ?_
                exact ⟨(w64 (x20 + 1)), hS, hF.cut ⟨rfl, rfl, rfl, rfl, rfl, trivial⟩, H⟩
            · replace H := hbf hc4 H
              refine exi ?_
              refine xe (xe (hit (xn ?_)))
              obtain rfl := hsm H
              exact ⟨hS, hF.cut ⟨rfl, rfl, rfl, rfl, trivial⟩, HK2⟩
        · clear H HK2 hS hF
          rintro a w ⟨hS, hF, H⟩
          unfold laws_FnDropped.c6 at H
          refine sq ?_
          refine rg ?_
          refine stp hF (p_assign rfl) (by decide) (fun a hF => ?_)
          refine nilN ?_
          refine xn ?_
          obtain ⟨x19, H, HK3⟩ := hb H
          refine sqj (fun a w => ∃ (x11 : Int) , St e s14 w [Ow (Kd.int .i64) 3 v6 x10.2, Ow (Kd.int .i64) 3 v9 x25.2, pt g3 26 ([v7, v8]), Ow kTGrant 33 v2 x9.Given, Ow kTGrant 33 v3 x9.Waits, Ow kTGrant 33 v7 x25.1.Given, Ow kTGrant 33 v8 x25.1.Waits, pt g2 26 ([v4, v5]), Ow kTGrant 33 v4 x10.1.Given, Ow kTGrant 33 v5 x10.1.Waits, pt g1 26 ([v2, v3])] ∧ Fr 108 a [(3, (.pointer (some ⟨g1, 0, none⟩))), (5, (.pointer (some ⟨g2, 0, none⟩))), (6, v6), (10, (.int .i64 x11))] ∧ laws_FnDropped.c4 k x9 x10 x11 = some r) ?_ ?_
          · skip
            refine sq ?_
            refine rg ?_
            refine stp hF (p_assign rfl) (by decide) (fun a hF => ?_)
            refine nilN ?_
            refine xn ?_
            refine blk ?_
            refine loop_ind (fun k2 a w => ∃ (x17 : Int) (x14 : Int) , St e s14 w [Ow (Kd.int .i64) 3 v6 x10.2, Ow (Kd.int .i64) 3 v9 x25.2, pt g3 26 ([v7, v8]), Ow kTGrant 33 v2 x9.Given, Ow kTGrant 33 v3 x9.Waits, Ow kTGrant 33 v7 x25.1.Given, Ow kTGrant 33 v8 x25.1.Waits, pt g2 26 ([v4, v5]), Ow kTGrant 33 v4 x10.1.Given, Ow kTGrant 33 v5 x10.1.Waits, pt g1 26 ([v2, v3])] ∧ Fr 108 a [(3, (.pointer (some ⟨g1, 0, none⟩))), (4, (.int .i64 (w64 (1 + (x16.tmod 5))))), (5, (.pointer (some ⟨g2, 0, none⟩))), (6, v6), (10, (.int .i64 x17)), (11, (.int .i64 x14))] ∧ laws_FnDropped.l1 x9 x16 k2 x17 x14 = some x19) k ?_ ?_ ?_
            · skip
              exact ⟨0, 0, hS, hF.cut ⟨rfl, rfl, rfl, rfl, rfl, rfl, trivial⟩, H⟩
            · clear H hS hF
              rintro a w ⟨x17, x14, hS, hF, H⟩
              exact absurd (show none = some _ from H) (by simp)
            · clear H hS hF
              rintro k2 a w ⟨x17, x14, hS, hF, H⟩
              rw [laws_FnDropped.l1.eq_2] at H
              refine sq ?_
              refine sq ?_
              refine rg ?_
              refine stp hF (p_move rfl) (by decide) (fun a hF => ?_)
              refine stp hF (p_fldb (o' := 1) rfl fi_26_1 rfl) (by decide) (fun a hF => ?_)
              refine stp hF (p_ldb_one (i := 10) hS rfl rfl ia_24 rfl) (by decide) (fun a hF => ?_)
              refine stp hF (p_leno (i := 4) hS rfl un_24 rfl) (by decide) (fun a hF => ?_)
              refine stp hF (p_lss rfl rfl) (by decide) (fun a hF => ?_)
              refine nilN ?_
              refine xn ?_
              refine cnd hF rfl (fun hc6 => ?_) (fun hc6 => ?_)
              · replace H := hbt hc6 H
                refine skN ?_
                refine xn ?_
                obtain ⟨x18, H, HK4⟩ := hb H
                refine sqj (fun a w => ∃ (x15 : Int) , St e s14 w [Ow (Kd.int .i64) 3 v6 x10.2, Ow (Kd.int .i64) 3 v9 x25.2, pt g3 26 ([v7, v8]), Ow kTGrant 33 v2 x9.Given, Ow kTGrant 33 v3 x9.Waits, Ow kTGrant 33 v7 x25.1.Given, Ow kTGrant 33 v8 x25.1.Waits, pt g2 26 ([v4, v5]), Ow kTGrant 33 v4 x10.1.Given, Ow kTGrant 33 v5 x10.1.Waits, pt g1 26 ([v2, v3])] ∧ Fr 108 a [(3, (.pointer (some ⟨g1, 0, none⟩))), (4, (.int .i64 (w64 (1 + (x16.tmod 5))))), (5, (.pointer (some ⟨g2, 0, none⟩))), (6, v6), (10, (.int .i64 x15)), (11, (.int .i64 x14))] ∧ laws_FnDropped.c5 k2 (laws_FnDropped.l1 x9 x16 k2) x14 x15 = some x19) ?_ ?_
                · skip
                  refine blk ?_
                  refine sq ?_
                  refine rg ?_
                  refine stp hF (p_fldb (o' := 1) rfl fi_26_1 rfl) (by decide) (fun a hF => ?_)
                  refine stp hF (p_ldb_one (i := 10) hS rfl rfl ia_24 rfl) (by decide) (fun a hF => ?_)
                  refine stp hF (p_move rfl) (by decide) (fun a hF => ?_)
                  obtain ⟨hq2, H⟩ := hck H
                  obtain ⟨b2, o2, q2, hv9, p3⟩ := p_idxo (n := 4) (i := x14) hS rfl un_24 ti_33 hq2.1 hq2.2
                  refine stp hF (p3 rfl rfl) (by decide) (fun a hF => ?_)
                  refine stp hF (p_fldb (o' := (o2 + x14.toNat * kTGrant.sz)) rfl fi_33_0 rfl) (by decide) (fun a hF => ?_)
                  obtain ⟨u2, h11, p4⟩ := p_ldo_one (P := Try.prog) (n := 4) hS rfl hv9 kTGrant_Tx hq2.1 hq2.2 rfl ia_3 rfl
                  obtain rfl : u2 = .int .i64 ((rd x9.Waits x14).Tx) := by injection h11
                  refine stp hF (p4 rfl) (by decide) (fun a hF => ?_)
                  refine stp hF (p_move rfl) (by decide) (fun a hF => ?_)
                  refine stp hF (p_neq rfl rfl) (by decide) (fun a hF => ?_)
                  refine nilN ?_
                  refine xn ?_
                  refine cnd hF rfl (fun hc7 => ?_) (fun hc7 => ?_)
                  · replace H := hbt hc7 H
                    refine rg ?_
                    refine stp hF (p_move rfl) (by decide) (fun a hF => ?_)
                    refine stp hF (p_add (c := w64 (x17 + 1)) rfl rfl rfl) (by decide) (fun a hF => ?_)
                    refine stp hF (p_assign rfl) (by decide) (fun a hF => ?_)
                    refine nilN ?_
                    refine bn (xn ?_)
                    obtain rfl := hsm H
                    exact ⟨(w64 (x17 + 1)), hS, hF.cut ⟨rfl, rfl, rfl, rfl, rfl, rfl, trivial⟩, HK4⟩
                  · replace H := hbf hc7 H
                    refine skN ?_
                    refine bn (xn ?_)
                    obtain rfl := hsm H
                    exact ⟨x17, hS, hF.cut ⟨rfl, rfl, rfl, rfl, rfl, rfl, trivial⟩, HK4⟩
                · clear H HK4 hS hF
                  rintro a w ⟨x15, hS, hF, H⟩
                  unfold laws_FnDropped.c5 at H
                  refine rg ?_
                  refine stp hF (p_move rfl) (by decide) (fun a hF => ?_)
                  refine stp hF (p_add (c := w64 (x14 + 1)) rfl rfl rfl) (by decide) (fun a hF => ?_)
                  refine stp hF (p_assign rfl) (by decide) (fun a hF => ?_)
                  refine nilN ?_
                  refine xn ?_
                  exact ⟨x15, (w64 (x14 + 1)), hS, hF.cut ⟨rfl, rfl, rfl, rfl, rfl, rfl, trivial⟩, H⟩
              · replace H := hbf hc6 H
                refine exi ?_
                refine xe (xe (hit (xn ?_)))
                obtain rfl := hsm H
                exact ⟨x17, hS, hF.cut ⟨rfl, rfl, rfl, rfl, trivial⟩, HK3⟩
          · clear H HK3 hS hF
            rintro a w ⟨x11, hS, hF, H⟩
            unfold laws_FnDropped.c4 at H
            refine sq ?_
            refine rg ?_
            refine stp hF (p_ldb_agg (i := 10) (l := []) (m := [v2, v3]) (r := []) hS rfl rfl ia_26 ti_26 rfl rfl rfl) (by decide) (fun a hF => ?_)
            replace hS := hS.sel (is := [3, 3, 0, 0, 0, 0, 0, 0, 0, 0, 0]) (A' := [Ow kTGrant 33 v2 x9.Given, Ow kTGrant 33 v3 x9.Waits, Ow (Kd.int .i64) 3 v6 x10.2, Ow (Kd.int .i64) 3 v9 x25.2, pt g3 26 ([v7, v8]), Ow kTGrant 33 v7 x25.1.Given, Ow kTGrant 33 v8 x25.1.Waits, pt g2 26 ([v4, v5]), Ow kTGrant 33 v4 x10.1.Given, Ow kTGrant 33 v5 x10.1.Waits, pt g1 26 ([v2, v3])]) rfl
            obtain ⟨s18, hg13, hl5, hcall5⟩ := St.lend (P := Try.prog) (Bs := [Ow kTGrant 33 v2 x9.Given, Ow kTGrant 33 v3 x9.Waits]) (A := []) (B := [Ow (Kd.int .i64) 3 v6 x10.2, Ow (Kd.int .i64) 3 v9 x25.2, pt g3 26 ([v7, v8]), Ow kTGrant 33 v7 x25.1.Given, Ow kTGrant 33 v8 x25.1.Waits, pt g2 26 ([v4, v5]), Ow kTGrant 33 v4 x10.1.Given, Ow kTGrant 33 v5 x10.1.Waits, pt g1 26 ([v2, v3])]) hS
            obtain ⟨h12, hl5⟩ := hl5.ow hg13
            obtain ⟨h13, hl5⟩ := hl5.ow hg13
            obtain ⟨x3, hx8, H⟩ := hb H
            refine ste hF (e_call (fst := []) (vs := [(.agg #[v2, v3])]) (cap := []) rfl rfl go_25 (hcall5 (impl_Stuck.spec k _ _ x9 v2 v3 h12 h13 _ hx8) (by rintro v s1 A1 ⟨rfl, rfl⟩; exact trivial))) (by decide) (fun v w a hR hF => ?_)
            obtain ⟨s19, s20, A9, hg14, hS, hR⟩ := hR
            obtain ⟨hv10, rfl⟩ := hR; obtain rfl := hv10.symm
            have hS : St e s19 w [Ow kTGrant 33 v2 x9.Given, Ow kTGrant 33 v3 x9.Waits, Ow (Kd.int .i64) 3 v6 x10.2, Ow (Kd.int .i64) 3 v9 x25.2, pt g3 26 ([v7, v8]), Ow kTGrant 33 v7 x25.1.Given, Ow kTGrant 33 v8 x25.1.Waits, pt g2 26 ([v4, v5]), Ow kTGrant 33 v4 x10.1.Given, Ow kTGrant 33 v5 x10.1.Waits, pt g1 26 ([v2, v3])] := hS
            refine stp hF (p_assign rfl) (by decide) (fun a hF => ?_)
            refine nilN ?_
            refine xn ?_
            refine sq ?_
            refine rg ?_
            refine stp hF (p_ldb_agg (i := 10) (l := []) (m := [v2, v3]) (r := []) hS rfl rfl ia_26 ti_26 rfl rfl rfl) (by decide) (fun a hF => ?_)
            refine stp hF (p_move rfl) (by decide) (fun a hF => ?_)
            obtain ⟨s21, hg15, hl6, hcall6⟩ := St.lend (P := Try.prog) (Bs := [Ow kTGrant 33 v2 x9.Given, Ow kTGrant 33 v3 x9.Waits]) (A := []) (B := [Ow (Kd.int .i64) 3 v6 x10.2, Ow (Kd.int .i64) 3 v9 x25.2, pt g3 26 ([v7, v8]), Ow kTGrant 33 v7 x25.1.Given, Ow kTGrant 33 v8 x25.1.Waits, pt g2 26 ([v4, v5]), Ow kTGrant 33 v4 x10.1.Given, Ow kTGrant 33 v5 x10.1.Waits, pt g1 26 ([v2, v3])]) hS
            obtain ⟨h14, hl6⟩ := hl6.ow hg15
            obtain ⟨h15, hl6⟩ := hl6.ow hg15
            obtain ⟨x4, hx9, H⟩ := hb H
            refine ste hF (e_call (fst := []) (vs := [(.agg #[v2, v3]), (.int .i64 x3)]) (cap := []) rfl rfl go_15 (hcall6 (impl_DropAll.spec k _ _ x9 x3 v2 v3 h14 h15 _ hx9) (by rintro v s1 A1 ⟨_, _, _, rfl, rfl⟩; exact ⟨Ow_flat kTGrant_flat _ _ _, ⟨Ow_flat kTGrant_flat _ _ _, ⟨Ow_flat flat_int _ _ _, trivial⟩⟩⟩))) (by decide) (fun v w a hR hF => ?_)
            obtain ⟨s22, s23, A10, hg16, hS, hR⟩ := hR
            obtain ⟨v10, v11, v12, hv11, rfl⟩ := hR; obtain rfl := hv11.symm
            have hS : St e s22 w [Ow kTGrant 33 v2 x9.Given, Ow kTGrant 33 v3 x9.Waits, Ow kTGrant 33 v10 x4.1.Given, Ow kTGrant 33 v11 x4.1.Waits, Ow (Kd.int .i64) 3 v12 x4.2, Ow (Kd.int .i64) 3 v6 x10.2, Ow (Kd.int .i64) 3 v9 x25.2, pt g3 26 ([v7, v8]), Ow kTGrant 33 v7 x25.1.Given, Ow kTGrant 33 v8 x25.1.Waits, pt g2 26 ([v4, v5]), Ow kTGrant 33 v4 x10.1.Given, Ow kTGrant 33 v5 x10.1.Waits, pt g1 26 ([v2, v3])] := hS
            refine stp hF (p_move rfl) (by decide) (fun a hF => ?_)
            refine stp hF (p_extract rfl rfl) (by decide) (fun a hF => ?_)
            refine stp hF (p_extract rfl rfl) (by decide) (fun a hF => ?_)
            refine ste hF (e_alloc (cs := [(.slice none 0 0), (.slice none 0 0)]) hS ti_26 rfl) (by decide) (fun v w a hR hF => ?_)
            obtain ⟨g4, rfl, hS⟩ := hR
            refine ste0 hF (e_stb (i := 0) (l := []) (m := [(.slice none 0 0), (.slice none 0 0)]) (r := []) (m' := [v10, v11]) (cs' := [v10, v11]) hS rfl rfl rfl ti_26 rfl rfl rfl rfl rfl (one_cons (hS.one_ow (i := 3) rfl) (one_cons (hS.one_ow (i := 4) rfl) one_nil)) rfl) (fun v w a hR hF => ?_)
            have hS : St e s22 w [pt g4 26 ([v10, v11]), Ow kTGrant 33 v2 x9.Given, Ow kTGrant 33 v3 x9.Waits, Ow kTGrant 33 v10 x4.1.Given, Ow kTGrant 33 v11 x4.1.Waits, Ow (Kd.int .i64) 3 v12 x4.2, Ow (Kd.int .i64) 3 v6 x10.2, Ow (Kd.int .i64) 3 v9 x25.2, pt g3 26 ([v7, v8]), Ow kTGrant 33 v7 x25.1.Given, Ow kTGrant 33 v8 x25.1.Waits, pt g2 26 ([v4, v5]), Ow kTGrant 33 v4 x10.1.Given, Ow kTGrant 33 v5 x10.1.Waits, pt g1 26 ([v2, v3])] := hR
            refine stp hF (p_assign rfl) (by decide) (fun a hF => ?_)
            refine nilN ?_
            refine xn ?_
            refine sq ?_
            refine rg ?_
            refine stp hF (p_fldb (o' := 1) rfl fi_26_1 rfl) (by decide) (fun a hF => ?_)
            refine stp hF (p_ldb_one (i := 11) hS rfl rfl ia_24 rfl) (by decide) (fun a hF => ?_)
            refine stp hF (p_leno (i := 13) hS rfl un_24 rfl) (by decide) (fun a hF => ?_)
            refine stp hF (p_move rfl) (by decide) (fun a hF => ?_)
            refine stp hF (p_leno (i := 6) hS rfl un_39 rfl) (by decide) (fun a hF => ?_)
            refine stp hF (p_add (c := w64 ((x10.1.Waits.length : Int) + (x10.2.length : Int))) rfl rfl rfl) (by decide) (fun a hF => ?_)
            refine stp hF (p_move rfl) (by decide) (fun a hF => ?_)
            refine stp hF (p_eql rfl rfl) (by decide) (fun a hF => ?_)
            refine stp hF (p_move rfl) (by decide) (fun a hF => ?_)
            obtain ⟨x13, H, HK5⟩ := hb H
            refine cutj 5 (fun a w => ∃ (x5 : Bool) (s24 : HF) , St e s24 w [pt g4 26 ([v10, v11]), Ow kTGrant 33 v2 x9.Given, Ow kTGrant 33 v3 x9.Waits, Ow kTGrant 33 v10 x4.1.Given, Ow kTGrant 33 v11 x4.1.Waits, Ow (Kd.int .i64) 3 v12 x4.2, Ow (Kd.int .i64) 3 v6 x10.2, Ow (Kd.int .i64) 3 v9 x25.2, pt g3 26 ([v7, v8]), Ow kTGrant 33 v7 x25.1.Given, Ow kTGrant 33 v8 x25.1.Waits, pt g2 26 ([v4, v5]), Ow kTGrant 33 v4 x10.1.Given, Ow kTGrant 33 v5 x10.1.Waits, pt g1 26 ([v2, v3])] ∧ Fr 108 a [(12, (.int .i64 x3)), (13, (.pointer (some ⟨g4, 0, none⟩))), (97, (.bool x5))] ∧ Sub s22 s24 ∧ laws_FnDropped.c3 k x3 x4 x5 = some r) rfl rfl ?_ ?_
            · rcases Bool.eq_false_or_eq_true (decide ((w64 ((x10.1.Waits.length : Int) + (x10.2.length : Int))) = x11)) with hc8 | hc8
              · replace H := hbt hc8 H
                refine gonE (j := 8) hF rfl rfl hc8 ?_
                refine stp hF (p_move rfl) (by decide) (fun a hF => ?_)
                refine gonE (j := 8) hF rfl rfl hc8 ?_
                refine stp hF (p_ldb_agg (i := 14) (l := []) (m := [v2, v3]) (r := []) hS rfl rfl ia_26 ti_26 rfl rfl rfl) (by decide) (fun a hF => ?_)
                replace hS := hS.sel (is := [1, 1, 0, 0, 0, 0, 0, 0, 0, 0, 0, 0, 0, 0, 0]) (A' := [Ow kTGrant 33 v2 x9.Given, Ow kTGrant 33 v3 x9.Waits, pt g4 26 ([v10, v11]), Ow kTGrant 33 v10 x4.1.Given, Ow kTGrant 33 v11 x4.1.Waits, Ow (Kd.int .i64) 3 v12 x4.2, Ow (Kd.int .i64) 3 v6 x10.2, Ow (Kd.int .i64) 3 v9 x25.2, pt g3 26 ([v7, v8]), Ow kTGrant 33 v7 x25.1.Given, Ow kTGrant 33 v8 x25.1.Waits, pt g2 26 ([v4, v5]), Ow kTGrant 33 v4 x10.1.Given, Ow kTGrant 33 v5 x10.1.Waits, pt g1 26 ([v2, v3])]) rfl
                obtain ⟨s25, hg17, hl7, hcall7⟩ := St.lend (P := Try.prog) (Bs := [Ow kTGrant 33 v2 x9.Given, Ow kTGrant 33 v3 x9.Waits]) (A := []) (B := [pt g4 26 ([v10, v11]), Ow kTGrant 33 v10 x4.1.Given, Ow kTGrant 33 v11 x4.1.Waits, Ow (Kd.int .i64) 3 v12 x4.2, Ow (Kd.int .i64) 3 v6 x10.2, Ow (Kd.int .i64) 3 v9 x25.2, pt g3 26 ([v7, v8]), Ow kTGrant 33 v7 x25.1.Given, Ow kTGrant 33 v8 x25.1.Waits, pt g2 26 ([v4, v5]), Ow kTGrant 33 v4 x10.1.Given, Ow kTGrant 33 v5 x10.1.Waits, pt g1 26 ([v2, v3])]) hS
                obtain ⟨h16, hl7⟩ := hl7.ow hg17
                obtain ⟨h17, hl7⟩ := hl7.ow hg17
                obtain ⟨x12, hx10, H⟩ := hb H
                refine gonE (j := 8) hF rfl rfl hc8 ?_
                refine ste hF (e_call (fst := []) (vs := [(.agg #[v2, v3])]) (cap := []) rfl rfl go_26 (hcall7 (spec_Stuck.spec k _ _ x9 v2 v3 h16 h17 _ hx10) (by rintro v s1 A1 ⟨rfl, rfl⟩; exact trivial))) (by decide) (fun v w a hR hF => ?_)
                obtain ⟨s26, s27, A11, hg18, hS, hR⟩ := hR
                obtain ⟨hv12, rfl⟩ := hR; obtain rfl := hv12.symm
                have hS : St e s26 w [Ow kTGrant 33 v2 x9.Given, Ow kTGrant 33 v3 x9.Waits, pt g4 26 ([v10, v11]), Ow kTGrant 33 v10 x4.1.Given, Ow kTGrant 33 v11 x4.1.Waits, Ow (Kd.int .i64) 3 v12 x4.2, Ow (Kd.int .i64) 3 v6 x10.2, Ow (Kd.int .i64) 3 v9 x25.2, pt g3 26 ([v7, v8]), Ow kTGrant 33 v7 x25.1.Given, Ow kTGrant 33 v8 x25.1.Waits, pt g2 26 ([v4, v5]), Ow kTGrant 33 v4 x10.1.Given, Ow kTGrant 33 v5 x10.1.Waits, pt g1 26 ([v2, v3])] := hS
                refine gonE (j := 8) hF rfl rfl hc8 ?_
                refine stp hF (p_eql rfl rfl) (by decide) (fun a hF => ?_)
                refine stp hF (p_pickT rfl hc8 rfl) (by decide) (fun a hF => ?_)
                refine nilN ?_
                refine xn ?_
                obtain rfl := hsm H
                replace hS := hS.sel (is := [2, 0, 0, 0, 0, 0, 0, 0, 0, 0, 0, 0, 0, 0, 0]) (A' := [pt g4 26 ([v10, v11]), Ow kTGrant 33 v2 x9.Given, Ow kTGrant 33 v3 x9.Waits, Ow kTGrant 33 v10 x4.1.Given, Ow kTGrant 33 v11 x4.1.Waits, Ow (Kd.int .i64) 3 v12 x4.2, Ow (Kd.int .i64) 3 v6 x10.2, Ow (Kd.int .i64) 3 v9 x25.2, pt g3 26 ([v7, v8]), Ow kTGrant 33 v7 x25.1.Given, Ow kTGrant 33 v8 x25.1.Waits, pt g2 26 ([v4, v5]), Ow kTGrant 33 v4 x10.1.Given, Ow kTGrant 33 v5 x10.1.Waits, pt g1 26 ([v2, v3])]) rfl
                exact ⟨(decide (x3 = x12)), s26, hS, hF.cut ⟨rfl, rfl, rfl, trivial⟩, hg18, HK5⟩
              · replace H := hbf hc8 H
                refine gofD (j := 8) hF rfl rfl (by rw [hc8]; decide) (by decide) (fun a hF => ?_)
                refine gofD (j := 8) hF rfl rfl (by rw [hc8]; decide) (by decide) (fun a hF => ?_)
                refine gofD (j := 8) hF rfl rfl (by rw [hc8]; decide) (by decide) (fun a hF => ?_)
                refine gofD (j := 8) hF rfl rfl (by rw [hc8]; decide) (by decide) (fun a hF => ?_)
                refine stp hF (p_pickF rfl hc8 rfl) (by decide) (fun a hF => ?_)
                refine nilN ?_
                refine xn ?_
                obtain rfl := hsm H
                exact ⟨false, s22, hS, hF.cut ⟨rfl, rfl, rfl, trivial⟩, (Sub.refl _), HK5⟩
            · clear H HK5 hS hF
              rintro a w ⟨x5, s24, hS, hF, hg19, H⟩
              unfold laws_FnDropped.c3 at H
              refine stp hF (p_move rfl) (by decide) (fun a hF => ?_)
              obtain ⟨x8, H, HK6⟩ := hb H
              refine cutj 9 (fun a w => ∃ (x1 : Bool) (s28 : HF) , St e s28 w [pt g4 26 ([v10, v11]), Ow kTGrant 33 v2 x9.Given, Ow kTGrant 33 v3 x9.Waits, Ow kTGrant 33 v10 x4.1.Given, Ow kTGrant 33 v11 x4.1.Waits, Ow (Kd.int .i64) 3 v12 x4.2, Ow (Kd.int .i64) 3 v6 x10.2, Ow (Kd.int .i64) 3 v9 x25.2, pt g3 26 ([v7, v8]), Ow kTGrant 33 v7 x25.1.Given, Ow kTGrant 33 v8 x25.1.Waits, pt g2 26 ([v4, v5]), Ow kTGrant 33 v4 x10.1.Given, Ow kTGrant 33 v5 x10.1.Waits, pt g1 26 ([v2, v3])] ∧ Fr 108 a [(107, (.bool x1))] ∧ Sub s24 s28 ∧ laws_FnDropped.c1 k x1 = some r) rfl rfl ?_ ?_
              · rcases Bool.eq_false_or_eq_true (x5) with hc9 | hc9
                · replace H := hbt hc9 H
                  refine gonE (j := 14) hF rfl rfl hc9 ?_
                  refine stp hF (p_move rfl) (by decide) (fun a hF => ?_)
                  refine gonE (j := 14) hF rfl rfl hc9 ?_
                  refine stp hF (p_eql rfl rfl) (by decide) (fun a hF => ?_)
                  refine gonE (j := 14) hF rfl rfl hc9 ?_
                  refine stp hF (p_move rfl) (by decide) (fun a hF => ?_)
                  obtain ⟨x7, H, HK7⟩ := hb H
                  refine cutj 5 (fun a w => ∃ (x2 : Bool) (s29 : HF) , St e s29 w [pt g4 26 ([v10, v11]), Ow kTGrant 33 v2 x9.Given, Ow kTGrant 33 v3 x9.Waits, Ow kTGrant 33 v10 x4.1.Given, Ow kTGrant 33 v11 x4.1.Waits, Ow (Kd.int .i64) 3 v12 x4.2, Ow (Kd.int .i64) 3 v6 x10.2, Ow (Kd.int .i64) 3 v9 x25.2, pt g3 26 ([v7, v8]), Ow kTGrant 33 v7 x25.1.Given, Ow kTGrant 33 v8 x25.1.Waits, pt g2 26 ([v4, v5]), Ow kTGrant 33 v4 x10.1.Given, Ow kTGrant 33 v5 x10.1.Waits, pt g1 26 ([v2, v3])] ∧ Fr 108 a [(98, (.bool x5)), (106, (.bool x2))] ∧ Sub s24 s29 ∧ laws_FnDropped.c2 k x2 = some x8) rfl rfl ?_ ?_
                  · rcases Bool.eq_false_or_eq_true (decide (x3 = 0)) with hc10 | hc10
                    · replace H := hbt hc10 H
                      refine gofD (j := 17) hF rfl rfl (by rw [hc10]; decide) (by decide) (fun a hF => ?_)
                      refine gofD (j := 17) hF rfl rfl (by rw [hc10]; decide) (by decide) (fun a hF => ?_)
                      refine gofD (j := 17) hF rfl rfl (by rw [hc10]; decide) (by decide) (fun a hF => ?_)
                      refine gofD (j := 17) hF rfl rfl (by rw [hc10]; decide) (by decide) (fun a hF => ?_)
                      refine gonE (j := 14) hF rfl rfl hc9 ?_
                      refine stp hF (p_pickT rfl hc10 rfl) (by decide) (fun a hF => ?_)
                      refine nilN ?_
                      refine xn ?_
                      obtain rfl := hsm H
                      exact ⟨true, s24, hS, hF.cut ⟨rfl, rfl, trivial⟩, (Sub.refl _), HK7⟩
                    · replace H := hbf hc10 H
                      refine gonE (j := 17) hF rfl rfl hc10 ?_
                      refine stp hF (p_ldb_agg (i := 0) (l := []) (m := [v10, v11]) (r := []) hS rfl rfl ia_26 ti_26 rfl rfl rfl) (by decide) (fun a hF => ?_)
                      replace hS := hS.sel (is := [3, 3, 0, 0, 0, 0, 0, 0, 0, 0, 0, 0, 0, 0, 0]) (A' := [Ow kTGrant 33 v10 x4.1.Given, Ow kTGrant 33 v11 x4.1.Waits, pt g4 26 ([v10, v11]), Ow kTGrant 33 v2 x9.Given, Ow kTGrant 33 v3 x9.Waits, Ow (Kd.int .i64) 3 v12 x4.2, Ow (Kd.int .i64) 3 v6 x10.2, Ow (Kd.int .i64) 3 v9 x25.2, pt g3 26 ([v7, v8]), Ow kTGrant 33 v7 x25.1.Given, Ow kTGrant 33 v8 x25.1.Waits, pt g2 26 ([v4, v5]), Ow kTGrant 33 v4 x10.1.Given, Ow kTGrant 33 v5 x10.1.Waits, pt g1 26 ([v2, v3])]) rfl
                      obtain ⟨s30, hg20, hl8, hcall8⟩ := St.lend (P := Try.prog) (Bs := [Ow kTGrant 33 v10 x4.1.Given, Ow kTGrant 33 v11 x4.1.Waits]) (A := []) (B := [pt g4 26 ([v10, v11]), Ow kTGrant 33 v2 x9.Given, Ow kTGrant 33 v3 x9.Waits, Ow (Kd.int .i64) 3 v12 x4.2, Ow (Kd.int .i64) 3 v6 x10.2, Ow (Kd.int .i64) 3 v9 x25.2, pt g3 26 ([v7, v8]), Ow kTGrant 33 v7 x25.1.Given, Ow kTGrant 33 v8 x25.1.Waits, pt g2 26 ([v4, v5]), Ow kTGrant 33 v4 x10.1.Given, Ow kTGrant 33 v5 x10.1.Waits, pt g1 26 ([v2, v3])]) hS
                      obtain ⟨h18, hl8⟩ := hl8.ow hg20
                      obtain ⟨h19, hl8⟩ := hl8.ow hg20
                      obtain ⟨x6, hx11, H⟩ := hb H
                      refine gonE (j := 17) hF rfl rfl hc10 ?_
                      refine ste hF (e_call (fst := []) (vs := [(.agg #[v10, v11])]) (cap := []) rfl rfl go_25 (hcall8 (impl_Stuck.spec k _ _ x4.1 v10 v11 h18 h19 _ hx11) (by rintro v s1 A1 ⟨rfl, rfl⟩; exact trivial))) (by decide) (fun v w a hR hF => ?_)
                      obtain ⟨s31, s32, A12, hg21, hS, hR⟩ := hR
                      obtain ⟨hv13, rfl⟩ := hR; obtain rfl := hv13.symm
                      have hS : St e s31 w [Ow kTGrant 33 v10 x4.1.Given, Ow kTGrant 33 v11 x4.1.Waits, pt g4 26 ([v10, v11]), Ow kTGrant 33 v2 x9.Given, Ow kTGrant 33 v3 x9.Waits, Ow (Kd.int .i64) 3 v12 x4.2, Ow (Kd.int .i64) 3 v6 x10.2, Ow (Kd.int .i64) 3 v9 x25.2, pt g3 26 ([v7, v8]), Ow kTGrant 33 v7 x25.1.Given, Ow kTGrant 33 v8 x25.1.Waits, pt g2 26 ([v4, v5]), Ow kTGrant 33 v4 x10.1.Given, Ow kTGrant 33 v5 x10.1.Waits, pt g1 26 ([v2, v3])] := hS
                      refine gonE (j := 17) hF rfl rfl hc10 ?_
                      refine stp hF (p_move rfl) (by decide) (fun a hF => ?_)
                      refine gonE (j := 17) hF rfl rfl hc10 ?_
                      refine stp hF (p_neq rfl rfl) (by decide) (fun a hF => ?_)
                      refine gonE (j := 14) hF rfl rfl hc9 ?_
                      refine stp hF (p_pickF rfl hc10 rfl) (by decide) (fun a hF => ?_)
                      refine nilN ?_
                      refine xn ?_
                      obtain rfl := hsm H
                      replace hS := hS.sel (is := [2, 2, 2, 0, 0, 0, 0, 0, 0, 0, 0, 0, 0, 0, 0]) (A' := [pt g4 26 ([v10, v11]), Ow kTGrant 33 v2 x9.Given, Ow kTGrant 33 v3 x9.Waits, Ow kTGrant 33 v10 x4.1.Given, Ow kTGrant 33 v11 x4.1.Waits, Ow (Kd.int .i64) 3 v12 x4.2, Ow (Kd.int .i64) 3 v6 x10.2, Ow (Kd.int .i64) 3 v9 x25.2, pt g3 26 ([v7, v8]), Ow kTGrant 33 v7 x25.1.Given, Ow kTGrant 33 v8 x25.1.Waits, pt g2 26 ([v4, v5]), Ow kTGrant 33 v4 x10.1.Given, Ow kTGrant 33 v5 x10.1.Waits, pt g1 26 ([v2, v3])]) rfl
                      exact ⟨(decide (x6 ≠ x3)), s31, hS, hF.cut ⟨rfl, rfl, trivial⟩, hg21, HK7⟩
                  · clear H HK7 hS hF
                    rintro a w ⟨x2, s29, hS, hF, hg22, H⟩
                    unfold laws_FnDropped.c2 at H
                    refine stp hF (p_pickT rfl hc9 rfl) (by decide) (fun a hF => ?_)
                    refine nilN ?_
                    refine xn ?_
                    obtain rfl := hsm H
                    exact ⟨x2, s29, hS, hF.cut ⟨rfl, trivial⟩, hg22, HK6⟩
                · replace H := hbf hc9 H
                  refine gofD (j := 14) hF rfl rfl (by rw [hc9]; decide) (by decide) (fun a hF => ?_)
                  refine gofD (j := 14) hF rfl rfl (by rw [hc9]; decide) (by decide) (fun a hF => ?_)
                  refine gofD (j := 14) hF rfl rfl (by rw [hc9]; decide) (by decide) (fun a hF => ?_)
                  refine gofU (j := 17) hF rfl rfl (by decide) (fun a hF => ?_)
                  refine gofU (j := 17) hF rfl rfl (by decide) (fun a hF => ?_)
                  refine gofU (j := 17) hF rfl rfl (by decide) (fun a hF => ?_)
                  refine gofU (j := 17) hF rfl rfl (by decide) (fun a hF => ?_)
                  refine gofD (j := 14) hF rfl rfl (by rw [hc9]; decide) (by decide) (fun a hF => ?_)
                  refine stp hF (p_pickF rfl hc9 rfl) (by decide) (fun a hF => ?_)
                  refine nilN ?_
                  refine xn ?_
                  obtain rfl := hsm H
                  exact ⟨false, s24, hS, hF.cut ⟨rfl, trivial⟩, (Sub.refl _), HK6⟩
              · clear H HK6 hS hF
                rintro a w ⟨x1, s28, hS, hF, hg23, H⟩
                unfold laws_FnDropped.c1 at H
                refine stp hF (p_assign rfl) (by decide) (fun a hF => ?_)
                refine nilN ?_
                refine xn ?_
                refine rt ?_
                obtain rfl := hsm H
                replace hS := hS.sel (is := []) (A' := []) rfl
                exact ret1 hF rfl rfl hS ⟨rfl, rfl⟩
end Go.Proofs.Ytbcpkopchnlefaa
