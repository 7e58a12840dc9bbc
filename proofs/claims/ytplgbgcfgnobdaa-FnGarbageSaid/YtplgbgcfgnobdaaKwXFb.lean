/- Functions of this place as plain functions, and that the machine comes to what they say. Conditions: none. -/
import Derived.Test.YtplgbgcfgnobdaaKwXFa
set_option linter.unusedVariables false
set_option linter.unusedSimpArgs false
namespace Go.Proofs.Ytplgbgcfgnobdaa
open Go.Kw

def laws_FnGarbage.c1 (k : Nat) (x1 : Bool) : Option Bool :=
  (some x1)
def laws_FnGarbage.c2 (k : Nat) (x2 : Bool) : Option Bool :=
  (some x2)
def laws_FnGarbage.c3 (k : Nat) (x3 : (List Int)) (x4 : (List TSlot)) (x5 : (List TSlot)) (x6 : Bool) : Option Bool :=
  ((if x6 = true then ((if (decide ((x3.length : Int) = 0)) = true then (some true) else ((impl_Dangling.f k x4).bind fun x7 => ((impl_Dangling.f k x5).bind fun x8 => (some (decide ((x7.length : Int) ≤ (x8.length : Int)))))) : Option Bool).bind fun x9 => laws_FnGarbage.c2 k x9) else (some false) : Option Bool).bind fun x10 => laws_FnGarbage.c1 k x10)
def laws_FnGarbage.c4 (k : Nat) (x4 : (List TSlot)) (x11 : Int) (x3 : (List Int)) (x5 : (List TSlot)) : Option Bool :=
  ((impl_Reach.f k x4 (w64 (1 + (x11.tmod 31)))).bind fun x12 => ((laws_sameInts.f k x12 x3).bind fun x13 => ((if x13 = true then ((impl_Garbage.f k x4 (w64 (1 + (x11.tmod 31)))).bind fun x14 => (some (decide ((x14.length : Int) = 0)))) else (some false) : Option Bool).bind fun x15 => laws_FnGarbage.c3 k x3 x4 x5 x15)))
def laws_FnGarbage.c5 (k : Nat) (rec_l1 : Int → Option (Ex Bool Unit)) (x16 : Int) : Option (Ex Bool Unit) :=
  (rec_l1 (w64 (x16 + 1)))
def laws_FnGarbage.l2 (x5 : (List TSlot)) (x3 : (List Int)) (x16 : Int) (x17 : (List Int)) : Nat → Int → Option (Ex Bool Unit)
  | 0, _ => none
  | k + 1, x18 => (if (decide (x18 < (((rd x5 (rd x3 x16)).O.Refs).length : Int))) = true then (if 0 ≤ x18 ∧ x18 < (((rd x5 (rd x3 x16)).O.Refs).length : Int) then ((laws_among.f k x17 (rd ((rd x5 (rd x3 x16)).O.Refs) x18)).bind fun x19 => (if x19 = true then (some (Ex.ret false)) else ((laws_FnGarbage.l2 x5 x3 x16 x17 k) (w64 (x18 + 1))))) else none) else (some (Ex.go ())))
def laws_FnGarbage.l1 (x3 : (List Int)) (x5 : (List TSlot)) (x17 : (List Int)) : Nat → Int → Option (Ex Bool Unit)
  | 0, _ => none
  | k + 1, x16 => (if (decide (x16 < (x3.length : Int))) = true then (((if 0 ≤ x16 ∧ x16 < (x3.length : Int) then (if 0 ≤ (rd x3 x16) ∧ (rd x3 x16) < (x5.length : Int) then (laws_FnGarbage.l2 x5 x3 x16 x17 k 0) else none) else none) : Option (Ex Bool Unit)).bind fun x20 => Ex.on x20 (fun r => some (Ex.ret r)) (fun y => laws_FnGarbage.c5 k (laws_FnGarbage.l1 x3 x5 x17 k) x16)) else (some (Ex.go ())))
def laws_FnGarbage.c6 (k : Nat) (x3 : (List Int)) (x5 : (List TSlot)) (x17 : (List Int)) (x11 : Int) (x4 : (List TSlot)) : Option Bool :=
  (((laws_FnGarbage.l1 x3 x5 x17 k 0) : Option (Ex Bool Unit)).bind fun x21 => Ex.on x21 (fun r => some r) (fun y => laws_FnGarbage.c4 k x4 x11 x3 x5))
def laws_FnGarbage.l3 (x17 : (List Int)) : Nat → (List TSlot) → Int → Option (List TSlot)
  | 0, _, _ => none
  | k + 1, x22, x23 => (if (decide (x23 < (x17.length : Int))) = true then (if 0 ≤ x23 ∧ x23 < (x17.length : Int) then (if 0 ≤ (rd x17 x23) ∧ (rd x17 x23) < (x22.length : Int) then ((laws_FnGarbage.l3 x17 k) (wr x22 (rd x17 x23) (⟨false, (⟨0, ([] : List Int), ([] : List Int)⟩ : TObj)⟩ : TSlot)) (w64 (x23 + 1))) else none) else none) else (some x22))
def laws_FnGarbage.c7 (k : Nat) (x3 : (List Int)) (x17 : (List Int)) (x5 : (List TSlot)) (x11 : Int) (x24 : Int) : Option Bool :=
  (if (decide ((w64 ((x3.length : Int) + (x17.length : Int))) ≠ x24)) = true then (some false) else (if ([] : List TSlot).length + x5.length ≤ 2199023255552 then (((laws_FnGarbage.l3 x17 k (([] : List TSlot) ++ x5) 0) : Option (List TSlot)).bind fun x25 => laws_FnGarbage.c6 k x3 x5 x17 x11 x25) else none))
def laws_FnGarbage.c8 (k : Nat) (rec_l4 : Int → Int → Option Int) (x26 : Int) (x27 : Int) : Option Int :=
  (rec_l4 x27 (w64 (x26 + 1)))
def laws_FnGarbage.l4 (x5 : (List TSlot)) : Nat → Int → Int → Option Int
  | 0, _, _ => none
  | k + 1, x28, x26 => (if (decide (x26 < (x5.length : Int))) = true then (((if 0 ≤ x26 ∧ x26 < (x5.length : Int) then (if ((rd x5 x26).Has) = true then (some (w64 (x28 + 1))) else (some x28)) else none) : Option Int).bind fun x29 => laws_FnGarbage.c8 k (laws_FnGarbage.l4 x5 k) x26 x29) else (some x28))
def laws_FnGarbage.f (k : Nat) (x30 : (List Int)) : Option Bool :=
  ((laws_big.f k x30).bind fun x31 => (if x31 = true then (some true) else ((spec_DrawHeap.f k x30).bind fun x5 => ((laws_at.f k x30 2).bind fun x11 => ((impl_Reach.f k x5 (w64 (1 + (x11.tmod 31)))).bind fun x3 => ((impl_Garbage.f k x5 (w64 (1 + (x11.tmod 31)))).bind fun x17 => (((laws_FnGarbage.l4 x5 k 0 0) : Option Int).bind fun x32 => laws_FnGarbage.c7 k x3 x17 x5 x11 x32)))))))
set_option maxRecDepth 100000 in
set_option maxHeartbeats 4000000 in
theorem laws_FnGarbage.spec (k : Nat) (s0 : HF) (w : World) (x30 : (List Int)) (v1 : Value) (h1 : Sl (Kd.int .u8) s0 v1 x30) (r : Bool) (H : laws_FnGarbage.f k x30 = some r) :
    Law Try.prog 3 #[v1] s0 w [] (fun v s1 A1 => v = (.bool r) ∧ A1 = []) := by
  unfold laws_FnGarbage.f at H
  refine Law.intro Try.func3 rfl [(0, v1)] (Nat.le_of_ble_eq_true rfl) (enter_lk ⟨rfl, trivial⟩) (fun e a hS hF => ?_)
  have hF : Fr 117 a [(0, v1)] := hF
  refine sq ?_
  refine rg ?_
  refine stp hF (p_assign rfl) (by decide) (fun a hF => ?_)
  refine nilN ?_
  refine xn ?_
  refine sq ?_
  refine sq ?_
  refine rg ?_
  refine stp hF (p_move rfl) (by decide) (fun a hF => ?_)
  obtain ⟨x31, hx1, H⟩ := hb H
  refine ste hF (e_call (fst := []) (vs := [v1]) (cap := []) rfl rfl go_5 (St.call (A := []) (B := []) hS (laws_big.spec k _ _ x30 v1 h1 _ hx1))) (by decide) (fun v w a hR hF => ?_)
  obtain ⟨s2, A2, hg1, hS, hR⟩ := hR
  obtain ⟨hv1, rfl⟩ := hR; obtain rfl := hv1.symm
  have hS : St e s2 w [] := hS
  refine nilN ?_
  refine xn ?_
  refine cnd hF rfl (fun hc1 => ?_) (fun hc1 => ?_)
  · replace H := hbt hc1 H
    refine sq ?_
    refine rg ?_
    refine stp hF (p_assign rfl) (by decide) (fun a hF => ?_)
    refine nilN ?_
    refine xn ?_
    refine rt ?_
    refine xr ?_
    obtain rfl := hsm H
    exact ret1 hF rfl rfl hS ⟨rfl, rfl⟩
  · replace H := hbf hc1 H
    refine skN ?_
    refine xn ?_
    refine sq ?_
    refine rg ?_
    refine stp hF (p_move rfl) (by decide) (fun a hF => ?_)
    obtain ⟨x5, hx2, H⟩ := hb H
    refine ste hF (e_call (fst := []) (vs := [v1]) (cap := []) rfl rfl go_6 (St.call (A := []) (B := []) hS (spec_DrawHeap.spec k _ _ x30 v1 (h1.mono hg1) _ hx2))) (by decide) (fun v w a hR hF => ?_)
    obtain ⟨s3, A3, hg2, hS, hR⟩ := hR
    obtain ⟨v2, hv2, rfl⟩ := hR; obtain rfl := hv2.symm
    have hS : St e s3 w [Ow kTSlot 32 v2 x5] := hS
    refine stp hF (p_assign rfl) (by decide) (fun a hF => ?_)
    refine nilN ?_
    refine xn ?_
    refine sq ?_
    refine rg ?_
    refine stp hF (p_move rfl) (by decide) (fun a hF => ?_)
    obtain ⟨x11, hx3, H⟩ := hb H
    refine ste hF (e_call (fst := []) (vs := [v1, (.int .i64 2)]) (cap := []) rfl rfl go_7 (St.call (A := []) (B := [Ow kTSlot 32 v2 x5]) hS (laws_at.spec k _ _ x30 2 v1 ((h1.mono hg1).mono hg2) _ hx3))) (by decide) (fun v w a hR hF => ?_)
    obtain ⟨s4, A4, hg3, hS, hR⟩ := hR
    obtain ⟨hv3, rfl⟩ := hR; obtain rfl := hv3.symm
    have hS : St e s4 w [Ow kTSlot 32 v2 x5] := hS
    refine stp hF (p_rem (c := x11.tmod 31) rfl rfl (by decide) rfl) (by decide) (fun a hF => ?_)
    refine stp hF (p_add (c := w64 (1 + (x11.tmod 31))) rfl rfl rfl) (by decide) (fun a hF => ?_)
    refine stp hF (p_assign rfl) (by decide) (fun a hF => ?_)
    refine nilN ?_
    refine xn ?_
    refine sq ?_
    refine rg ?_
    refine stp hF (p_move rfl) (by decide) (fun a hF => ?_)
    refine stp hF (p_move rfl) (by decide) (fun a hF => ?_)
    obtain ⟨s5, hg4, hl1, hcall1⟩ := St.lend (P := Try.prog) (Bs := [Ow kTSlot 32 v2 x5]) (A := []) (B := []) hS
    obtain ⟨h2, hl1⟩ := hl1.ow hg4
    obtain ⟨x3, hx4, H⟩ := hb H
    refine ste hF (e_call (fst := []) (vs := [v2, (.int .i64 (w64 (1 + (x11.tmod 31))))]) (cap := []) rfl rfl go_8 (hcall1 (impl_Reach.spec k _ _ x5 (w64 (1 + (x11.tmod 31))) v2 h2 _ hx4) (by rintro v s1 A1 ⟨_, rfl, rfl⟩; exact ⟨Ow_flat flat_int _ _ _, trivial⟩))) (by decide) (fun v w a hR hF => ?_)
    obtain ⟨s6, s7, A5, hg5, hS, hR⟩ := hR
    obtain ⟨v3, hv4, rfl⟩ := hR; obtain rfl := hv4.symm
    have hS : St e s6 w [Ow kTSlot 32 v2 x5, Ow (Kd.int .i64) 3 v3 x3] := hS
    refine stp hF (p_assign rfl) (by decide) (fun a hF => ?_)
    refine nilN ?_
    refine xn ?_
    refine sq ?_
    refine rg ?_
    refine stp hF (p_move rfl) (by decide) (fun a hF => ?_)
    refine stp hF (p_move rfl) (by decide) (fun a hF => ?_)
    obtain ⟨s8, hg6, hl2, hcall2⟩ := St.lend (P := Try.prog) (Bs := [Ow kTSlot 32 v2 x5]) (A := []) (B := [Ow (Kd.int .i64) 3 v3 x3]) hS
    obtain ⟨h3, hl2⟩ := hl2.ow hg6
    obtain ⟨x17, hx5, H⟩ := hb H
    refine ste hF (e_call (fst := []) (vs := [v2, (.int .i64 (w64 (1 + (x11.tmod 31))))]) (cap := []) rfl rfl go_9 (hcall2 (impl_Garbage.spec k _ _ x5 (w64 (1 + (x11.tmod 31))) v2 h3 _ hx5) (by rintro v s1 A1 ⟨_, rfl, rfl⟩; exact ⟨Ow_flat flat_int _ _ _, trivial⟩))) (by decide) (fun v w a hR hF => ?_)
    obtain ⟨s9, s10, A6, hg7, hS, hR⟩ := hR
    obtain ⟨v4, hv5, rfl⟩ := hR; obtain rfl := hv5.symm
    have hS : St e s9 w [Ow kTSlot 32 v2 x5, Ow (Kd.int .i64) 3 v4 x17, Ow (Kd.int .i64) 3 v3 x3] := hS
    refine stp hF (p_assign rfl) (by decide) (fun a hF => ?_)
    refine nilN ?_
    refine xn ?_
    refine sq ?_
    refine rg ?_
    refine stp hF (p_assign rfl) (by decide) (fun a hF => ?_)
    refine nilN ?_
    refine xn ?_
    obtain ⟨x32, H, HK1⟩ := hb H
    refine sqj (fun a w => ∃ (x24 : Int) (v5 : Value) , St e s9 w [Ow kTSlot 32 v5 x5, Ow (Kd.int .i64) 3 v4 x17, Ow (Kd.int .i64) 3 v3 x3] ∧ Fr 117 a [(3, v5), (4, (.int .i64 (w64 (1 + (x11.tmod 31))))), (5, v3), (6, v4), (7, (.int .i64 x24))] ∧ laws_FnGarbage.c7 k x3 x17 x5 x11 x24 = some r) ?_ ?_
    · skip
      refine sq ?_
      refine rg ?_
      refine stp hF (p_assign rfl) (by decide) (fun a hF => ?_)
      refine nilN ?_
      refine xn ?_
      refine blk ?_
      refine loop_ind (fun k1 a w => ∃ (x28 : Int) (x26 : Int) (v6 : Value) , St e s9 w [Ow kTSlot 32 v6 x5, Ow (Kd.int .i64) 3 v4 x17, Ow (Kd.int .i64) 3 v3 x3] ∧ Fr 117 a [(3, v6), (4, (.int .i64 (w64 (1 + (x11.tmod 31))))), (5, v3), (6, v4), (7, (.int .i64 x28)), (8, (.int .i64 x26))] ∧ laws_FnGarbage.l4 x5 k1 x28 x26 = some x32) k ?_ ?_ ?_
      · skip
        exact ⟨0, 0, v2, hS, hF.cut ⟨rfl, rfl, rfl, rfl, rfl, rfl, trivial⟩, H⟩
      · clear H hS hF
        rintro a w ⟨x28, x26, v6, hS, hF, H⟩
        exact absurd (show none = some _ from H) (by simp)
      · clear H hS hF
        rintro k1 a w ⟨x28, x26, v6, hS, hF, H⟩
        rw [laws_FnGarbage.l4.eq_2] at H
        refine sq ?_
        refine sq ?_
        refine rg ?_
        refine stp hF (p_move rfl) (by decide) (fun a hF => ?_)
        refine stp hF (p_move rfl) (by decide) (fun a hF => ?_)
        refine stp hF (p_leno (i := 0) hS rfl un_24 rfl) (by decide) (fun a hF => ?_)
        refine stp hF (p_lss rfl rfl) (by decide) (fun a hF => ?_)
        refine nilN ?_
        refine xn ?_
        refine cnd hF rfl (fun hc2 => ?_) (fun hc2 => ?_)
        · replace H := hbt hc2 H
          refine skN ?_
          refine xn ?_
          obtain ⟨x29, H, HK2⟩ := hb H
          refine sqj (fun a w => ∃ (x27 : Int) (v7 : Value) , St e s9 w [Ow kTSlot 32 v7 x5, Ow (Kd.int .i64) 3 v4 x17, Ow (Kd.int .i64) 3 v3 x3] ∧ Fr 117 a [(3, v7), (4, (.int .i64 (w64 (1 + (x11.tmod 31))))), (5, v3), (6, v4), (7, (.int .i64 x27)), (8, (.int .i64 x26))] ∧ laws_FnGarbage.c8 k1 (laws_FnGarbage.l4 x5 k1) x26 x27 = some x32) ?_ ?_
          · skip
            refine blk ?_
            refine sq ?_
            refine rg ?_
            refine stp hF (p_move rfl) (by decide) (fun a hF => ?_)
            refine stp hF (p_move rfl) (by decide) (fun a hF => ?_)
            obtain ⟨hq1, H⟩ := hck H
            obtain ⟨b1, o1, q1, rfl, p1⟩ := p_idxo (n := 0) (i := x26) hS rfl un_24 ti_32 hq1.1 hq1.2
            refine stp hF (p1 rfl rfl) (by decide) (fun a hF => ?_)
            refine stp hF (p_fldb (o' := (o1 + x26.toNat * kTSlot.sz)) rfl fi_32_0 rfl) (by decide) (fun a hF => ?_)
            obtain ⟨u1, h4, p2⟩ := p_ldo_one (P := Try.prog) (n := 0) hS rfl kTSlot_Has hq1.1 hq1.2 rfl ia_4 rfl
            obtain rfl : u1 = .bool ((rd x5 x26).Has) := by injection h4
            refine stp hF (p2 rfl) (by decide) (fun a hF => ?_)
            refine nilN ?_
            refine xn ?_
            refine cnd hF rfl (fun hc3 => ?_) (fun hc3 => ?_)
            · replace H := hbt hc3 H
              refine rg ?_
              refine stp hF (p_move rfl) (by decide) (fun a hF => ?_)
              refine stp hF (p_add (c := w64 (x28 + 1)) rfl rfl rfl) (by decide) (fun a hF => ?_)
              refine stp hF (p_assign rfl) (by decide) (fun a hF => ?_)
              refine nilN ?_
              refine bn (xn ?_)
              obtain rfl := hsm H
              exact ⟨(w64 (x28 + 1)), (.slice (some ⟨b1, o1, none⟩) x5.length q1), hS, hF.cut ⟨rfl, rfl, rfl, rfl, rfl, rfl, trivial⟩, HK2⟩
            · replace H := hbf hc3 H
              refine skN ?_
              refine bn (xn ?_)
              obtain rfl := hsm H
              exact ⟨x28, (.slice (some ⟨b1, o1, none⟩) x5.length q1), hS, hF.cut ⟨rfl, rfl, rfl, rfl, rfl, rfl, trivial⟩, HK2⟩
          · clear H HK2 hS hF
            rintro a w ⟨x27, v7, hS, hF, H⟩
            unfold laws_FnGarbage.c8 at H
            refine rg ?_
            refine stp hF (p_move rfl) (by decide) (fun a hF => ?_)
            refine stp hF (p_add (c := w64 (x26 + 1)) rfl rfl rfl) (by decide) (fun a hF => ?_)
            refine stp hF (p_assign rfl) (by decide) (fun a hF => ?_)
            refine nilN ?_
            refine xn ?_
            exact ⟨x27, (w64 (x26 + 1)), v7, hS, hF.cut ⟨rfl, rfl, rfl, rfl, rfl, rfl, trivial⟩, H⟩
        · replace H := hbf hc2 H
          refine exi ?_
          refine xe (xe (hit (xn ?_)))
          obtain rfl := hsm H
          exact ⟨x28, v6, hS, hF.cut ⟨rfl, rfl, rfl, rfl, rfl, trivial⟩, HK1⟩
    · clear H HK1 hS hF
      rintro a w ⟨x24, v5, hS, hF, H⟩
      unfold laws_FnGarbage.c7 at H
      refine sq ?_
      refine sq ?_
      refine rg ?_
      refine stp hF (p_move rfl) (by decide) (fun a hF => ?_)
      refine stp hF (p_leno (i := 2) hS rfl un_27 rfl) (by decide) (fun a hF => ?_)
      refine stp hF (p_move rfl) (by decide) (fun a hF => ?_)
      refine stp hF (p_leno (i := 1) hS rfl un_27 rfl) (by decide) (fun a hF => ?_)
      refine stp hF (p_add (c := w64 ((x3.length : Int) + (x17.length : Int))) rfl rfl rfl) (by decide) (fun a hF => ?_)
      refine stp hF (p_move rfl) (by decide) (fun a hF => ?_)
      refine stp hF (p_neq rfl rfl) (by decide) (fun a hF => ?_)
      refine nilN ?_
      refine xn ?_
      refine cnd hF rfl (fun hc4 => ?_) (fun hc4 => ?_)
      · replace H := hbt hc4 H
        refine sq ?_
        refine rg ?_
        refine stp hF (p_assign rfl) (by decide) (fun a hF => ?_)
        refine nilN ?_
        refine xn ?_
        refine rt ?_
        refine xr ?_
        obtain rfl := hsm H
        replace hS := hS.sel (is := []) (A' := []) rfl
        exact ret1 hF rfl rfl hS ⟨rfl, rfl⟩
      · replace H := hbf hc4 H
        refine skN ?_
        refine xn ?_
        refine sq ?_
        refine rg ?_
        refine ste hF (e_bslice (kd := kTSlot) (et := 32) (ps := []) (vs := []) (cs := []) (xs := ([] : List TSlot)) hS rfl (by intro w; kernel_rfl) rfl (by decide) (Nat.le_of_ble_eq_true rfl) (by exact (Rows.nil _ _ _ _))) (by decide) (fun v8 w a hR hF => ?_)
        have hS : St e s9 w [Ow kTSlot 32 v8 ([] : List TSlot), Ow kTSlot 32 v5 x5, Ow (Kd.int .i64) 3 v4 x17, Ow (Kd.int .i64) 3 v3 x3] := hR
        refine stp hF (p_move rfl) (by decide) (fun a hF => ?_)
        obtain ⟨hq2, H⟩ := hck H
        refine ste hF (e_append (n := 0) hS rfl rfl rfl (hS.src (n := 1) rfl) un_24 ti_32 rfl (by decide) (by decide) (Nat.le_trans (Nat.mul_le_mul_right 64 hq2) (by decide))) (by decide) (fun v9 w a hR hF => ?_)
        have hS : St e s9 w [Ow kTSlot 32 v9 (([] : List TSlot) ++ x5), Ow kTSlot 32 v5 x5, Ow (Kd.int .i64) 3 v4 x17, Ow (Kd.int .i64) 3 v3 x3] := hR
        refine stp hF (p_assign rfl) (by decide) (fun a hF => ?_)
        refine nilN ?_
        refine xn ?_
        obtain ⟨x25, H, HK3⟩ := hb H
        refine sqj (fun a w => ∃ (x4 : (List TSlot)) (v10 : Value) (v11 : Value) , St e s9 w [Ow kTSlot 32 v10 x4, Ow kTSlot 32 v5 x5, Ow (Kd.int .i64) 3 v11 x17, Ow (Kd.int .i64) 3 v3 x3] ∧ Fr 117 a [(3, v5), (4, (.int .i64 (w64 (1 + (x11.tmod 31))))), (5, v3), (6, v11), (9, v10)] ∧ laws_FnGarbage.c6 k x3 x5 x17 x11 x4 = some r) ?_ ?_
        · skip
          refine sq ?_
          refine rg ?_
          refine stp hF (p_assign rfl) (by decide) (fun a hF => ?_)
          refine nilN ?_
          refine xn ?_
          refine blk ?_
          refine loop_ind (fun k2 a w => ∃ (x22 : (List TSlot)) (x23 : Int) (v12 : Value) (v13 : Value) , St e s9 w [Ow kTSlot 32 v12 x22, Ow kTSlot 32 v5 x5, Ow (Kd.int .i64) 3 v13 x17, Ow (Kd.int .i64) 3 v3 x3] ∧ Fr 117 a [(3, v5), (4, (.int .i64 (w64 (1 + (x11.tmod 31))))), (5, v3), (6, v13), (9, v12), (10, (.int .i64 x23))] ∧ laws_FnGarbage.l3 x17 k2 x22 x23 = some x25) k ?_ ?_ ?_
          · skip
            exact ⟨(([] : List TSlot) ++ x5), 0, v9, v4, hS, hF.cut ⟨rfl, rfl, rfl, rfl, rfl, rfl, trivial⟩, H⟩
          · clear H hS hF
            rintro a w ⟨x22, x23, v12, v13, hS, hF, H⟩
            exact absurd (show none = some _ from H) (by simp)
          · clear H hS hF
            rintro k2 a w ⟨x22, x23, v12, v13, hS, hF, H⟩
            rw [laws_FnGarbage.l3.eq_2] at H
            refine sq ?_
            refine sq ?_
            refine rg ?_
            refine stp hF (p_move rfl) (by decide) (fun a hF => ?_)
            refine stp hF (p_move rfl) (by decide) (fun a hF => ?_)
            refine stp hF (p_leno (i := 2) hS rfl un_27 rfl) (by decide) (fun a hF => ?_)
            refine stp hF (p_lss rfl rfl) (by decide) (fun a hF => ?_)
            refine nilN ?_
            refine xn ?_
            refine cnd hF rfl (fun hc5 => ?_) (fun hc5 => ?_)
            · replace H := hbt hc5 H
              refine skN ?_
              refine xn ?_
              refine sq ?_
              refine blk ?_
              refine rg ?_
              refine stp hF (p_move rfl) (by decide) (fun a hF => ?_)
              refine stp hF (p_move rfl) (by decide) (fun a hF => ?_)
              refine stp hF (p_move rfl) (by decide) (fun a hF => ?_)
              obtain ⟨hq3, H⟩ := hck H
              obtain ⟨b2, o2, q2, rfl, p3⟩ := p_idxo (n := 2) (i := x23) hS rfl un_27 ti_3 hq3.1 hq3.2
              refine stp hF (p3 rfl rfl) (by decide) (fun a hF => ?_)
              obtain ⟨u2, h5, p4⟩ := p_ldo_one (P := Try.prog) (n := 2) hS rfl (Lens.id _) hq3.1 hq3.2 rfl ia_3 rfl
              obtain rfl : u2 = .int .i64 (rd x17 x23) := by injection h5
              refine stp hF (p4 rfl) (by decide) (fun a hF => ?_)
              refine stp hF (p_build (ps := []) (vs := []) (v := (.agg #[(.bool false), (.int .i64 0), (.slice none 0 0), (.slice none 0 0)])) rfl (by intro w; kernel_rfl)) (by decide) (fun a hF => ?_)
              obtain ⟨hq4, H⟩ := hck H
              obtain ⟨b3, o3, q3, rfl, p5⟩ := p_idxo (n := 0) (i := (rd x17 x23)) hS rfl un_24 ti_32 hq4.1 hq4.2
              refine stp hF (p5 rfl rfl) (by decide) (fun a hF => ?_)
              refine ste0 hF (e_sto (n := 0) (c := (⟨false, (⟨0, ([] : List Int), ([] : List Int)⟩ : TObj)⟩ : TSlot)) hS rfl (Lens.id _) hq4.1 hq4.2 rfl rfl rfl ti_32 rfl (kTSlot_mk (x := (⟨false, (⟨0, ([] : List Int), ([] : List Int)⟩ : TObj)⟩ : TSlot)) (Sl.nil _ _ _ _) (Sl.nil _ _ _ _))) (fun v w a hR hF => ?_)
              have hS : St e s9 w [Ow kTSlot 32 (.slice (some ⟨b3, o3, none⟩) x22.length q3) (wr x22 (rd x17 x23) (⟨false, (⟨0, ([] : List Int), ([] : List Int)⟩ : TObj)⟩ : TSlot)), Ow kTSlot 32 v5 x5, Ow (Kd.int .i64) 3 (.slice (some ⟨b2, o2, none⟩) x17.length q2) x17, Ow (Kd.int .i64) 3 v3 x3] := hR
              refine nilN ?_
              refine bn (xn ?_)
              refine rg ?_
              refine stp hF (p_move rfl) (by decide) (fun a hF => ?_)
              refine stp hF (p_add (c := w64 (x23 + 1)) rfl rfl rfl) (by decide) (fun a hF => ?_)
              refine stp hF (p_assign rfl) (by decide) (fun a hF => ?_)
              refine nilN ?_
              refine xn ?_
              exact ⟨(wr x22 (rd x17 x23) (⟨false, (⟨0, ([] : List Int), ([] : List Int)⟩ : TObj)⟩ : TSlot)), (w64 (x23 + 1)), (.slice (some ⟨b3, o3, none⟩) x22.length q3), (.slice (some ⟨b2, o2, none⟩) x17.length q2), hS, hF.cut ⟨rfl, rfl, rfl, rfl, rfl, rfl, trivial⟩, H⟩
            · replace H := hbf hc5 H
              refine exi ?_
              refine xe (xe (hit (xn ?_)))
              obtain rfl := hsm H
              exact ⟨x22, v12, v13, hS, hF.cut ⟨rfl, rfl, rfl, rfl, rfl, trivial⟩, HK3⟩
        · clear H HK3 hS hF
          rintro a w ⟨x4, v10, v11, hS, hF, H⟩
          unfold laws_FnGarbage.c6 at H
          obtain ⟨x21, H, HK4⟩ := hb H
          refine sqj (fun a w => ∃ (s11 : HF) (v14 : Value) (v15 : Value) , St e s11 w [Ow kTSlot 32 v10 x4, Ow kTSlot 32 v14 x5, Ow (Kd.int .i64) 3 v11 x17, Ow (Kd.int .i64) 3 v15 x3] ∧ Fr 117 a [(3, v14), (4, (.int .i64 (w64 (1 + (x11.tmod 31))))), (5, v15), (9, v10)] ∧ Sub s9 s11 ∧ laws_FnGarbage.c4 k x4 x11 x3 x5 = some r) ?_ ?_
          · skip
            refine sq ?_
            refine rg ?_
            refine stp hF (p_assign rfl) (by decide) (fun a hF => ?_)
            refine nilN ?_
            refine xn ?_
            refine blk ?_
            refine loop_ind (fun k3 a w => ∃ (x16 : Int) (s12 : HF) (v16 : Value) (v17 : Value) , St e s12 w [Ow kTSlot 32 v10 x4, Ow kTSlot 32 v16 x5, Ow (Kd.int .i64) 3 v11 x17, Ow (Kd.int .i64) 3 v17 x3] ∧ Fr 117 a [(3, v16), (4, (.int .i64 (w64 (1 + (x11.tmod 31))))), (5, v17), (6, v11), (9, v10), (11, (.int .i64 x16))] ∧ Sub s9 s12 ∧ laws_FnGarbage.l1 x3 x5 x17 k3 x16 = some x21) k ?_ ?_ ?_
            · skip
              exact ⟨0, s9, v5, v3, hS, hF.cut ⟨rfl, rfl, rfl, rfl, rfl, rfl, trivial⟩, (Sub.refl _), H⟩
            · clear H hS hF
              rintro a w ⟨x16, s12, v16, v17, hS, hF, hg8, H⟩
              exact absurd (show none = some _ from H) (by simp)
            · clear H hS hF
              rintro k3 a w ⟨x16, s12, v16, v17, hS, hF, hg8, H⟩
              rw [laws_FnGarbage.l1.eq_2] at H
              refine sq ?_
              refine sq ?_
              refine rg ?_
              refine stp hF (p_move rfl) (by decide) (fun a hF => ?_)
              refine stp hF (p_move rfl) (by decide) (fun a hF => ?_)
              refine stp hF (p_leno (i := 3) hS rfl un_27 rfl) (by decide) (fun a hF => ?_)
              refine stp hF (p_lss rfl rfl) (by decide) (fun a hF => ?_)
              refine nilN ?_
              refine xn ?_
              refine cnd hF rfl (fun hc6 => ?_) (fun hc6 => ?_)
              · replace H := hbt hc6 H
                refine skN ?_
                refine xn ?_
                obtain ⟨x20, H, HK5⟩ := hb H
                refine sqj (fun a w => ∃ (s13 : HF) (v18 : Value) (v19 : Value) , St e s13 w [Ow kTSlot 32 v10 x4, Ow kTSlot 32 v18 x5, Ow (Kd.int .i64) 3 v11 x17, Ow (Kd.int .i64) 3 v19 x3] ∧ Fr 117 a [(3, v18), (4, (.int .i64 (w64 (1 + (x11.tmod 31))))), (5, v19), (6, v11), (9, v10), (11, (.int .i64 x16))] ∧ Sub s12 s13 ∧ laws_FnGarbage.c5 k3 (laws_FnGarbage.l1 x3 x5 x17 k3) x16 = some x21) ?_ ?_
                · skip
                  refine blk ?_
                  refine sq ?_
                  refine rg ?_
                  refine stp hF (p_move rfl) (by decide) (fun a hF => ?_)
                  refine stp hF (p_move rfl) (by decide) (fun a hF => ?_)
                  refine stp hF (p_move rfl) (by decide) (fun a hF => ?_)
                  obtain ⟨hq5, H⟩ := hck H
                  obtain ⟨b4, o4, q4, rfl, p6⟩ := p_idxo (n := 3) (i := x16) hS rfl un_27 ti_3 hq5.1 hq5.2
                  refine stp hF (p6 rfl rfl) (by decide) (fun a hF => ?_)
                  obtain ⟨u3, h6, p7⟩ := p_ldo_one (P := Try.prog) (n := 3) hS rfl (Lens.id _) hq5.1 hq5.2 rfl ia_3 rfl
                  obtain rfl : u3 = .int .i64 (rd x3 x16) := by injection h6
                  refine stp hF (p7 rfl) (by decide) (fun a hF => ?_)
                  obtain ⟨hq6, H⟩ := hck H
                  obtain ⟨b5, o5, q5, rfl, p8⟩ := p_idxo (n := 1) (i := (rd x3 x16)) hS rfl un_24 ti_32 hq6.1 hq6.2
                  refine stp hF (p8 rfl rfl) (by decide) (fun a hF => ?_)
                  refine stp hF (p_fldb (o' := ((o5 + (rd x3 x16).toNat * kTSlot.sz) + 1)) rfl fi_32_1 rfl) (by decide) (fun a hF => ?_)
                  refine stp hF (p_fldb (o' := (((o5 + (rd x3 x16).toNat * kTSlot.sz) + 1) + 2)) rfl fi_30_2 rfl) (by decide) (fun a hF => ?_)
                  obtain ⟨u4, h7, p9⟩ := p_ldo_one (P := Try.prog) (n := 1) hS rfl (kTSlot_O.comp kTObj_Refs) hq6.1 hq6.2 rfl ia_27 rfl
                  obtain ⟨v20, rfl, h8⟩ : ∃ v, v = u4 ∧ Sl (Kd.int .i64) s12 v ((rd x5 (rd x3 x16)).O.Refs) := by obtain ⟨v, e, h⟩ := h7; exact ⟨v, by injection e with e; exact e.symm, h⟩
                  refine stp hF (p9 rfl) (by decide) (fun a hF => ?_)
                  refine stp hF (p_assign rfl) (by decide) (fun a hF => ?_)
                  refine nilN ?_
                  refine xn ?_
                  refine sq ?_
                  refine rg ?_
                  refine stp hF (p_assign rfl) (by decide) (fun a hF => ?_)
                  refine nilN ?_
                  refine xn ?_
                  refine blk ?_
                  refine loop_ind (fun k4 a w => ∃ (x18 : Int) (s14 : HF) , St e s14 w [Ow kTSlot 32 v10 x4, Ow kTSlot 32 (.slice (some ⟨b5, o5, none⟩) x5.length q5) x5, Ow (Kd.int .i64) 3 v11 x17, Ow (Kd.int .i64) 3 (.slice (some ⟨b4, o4, none⟩) x3.length q4) x3] ∧ Fr 117 a [(3, (.slice (some ⟨b5, o5, none⟩) x5.length q5)), (4, (.int .i64 (w64 (1 + (x11.tmod 31))))), (5, (.slice (some ⟨b4, o4, none⟩) x3.length q4)), (6, v11), (9, v10), (11, (.int .i64 x16)), (12, v20), (13, (.int .i64 x18))] ∧ Sub s12 s14 ∧ laws_FnGarbage.l2 x5 x3 x16 x17 k4 x18 = some x20) k3 ?_ ?_ ?_
                  · skip
                    exact ⟨0, s12, hS, hF.cut ⟨rfl, rfl, rfl, rfl, rfl, rfl, rfl, rfl, trivial⟩, (Sub.refl _), H⟩
                  · clear H hS hF
                    rintro a w ⟨x18, s14, hS, hF, hg9, H⟩
                    exact absurd (show none = some _ from H) (by simp)
                  · clear H hS hF
                    rintro k4 a w ⟨x18, s14, hS, hF, hg9, H⟩
                    rw [laws_FnGarbage.l2.eq_2] at H
                    refine sq ?_
                    refine sq ?_
                    refine rg ?_
                    refine stp hF (p_move rfl) (by decide) (fun a hF => ?_)
                    refine stp hF (p_move rfl) (by decide) (fun a hF => ?_)
                    refine stp hF (p_lenr un_27 rfl (h8.mono hg9)) (by decide) (fun a hF => ?_)
                    refine stp hF (p_lss rfl rfl) (by decide) (fun a hF => ?_)
                    refine nilN ?_
                    refine xn ?_
                    refine cnd hF rfl (fun hc7 => ?_) (fun hc7 => ?_)
                    · replace H := hbt hc7 H
                      refine skN ?_
                      refine xn ?_
                      refine sq ?_
                      refine blk ?_
                      refine sq ?_
                      refine rg ?_
                      refine stp hF (p_move rfl) (by decide) (fun a hF => ?_)
                      refine stp hF (p_move rfl) (by decide) (fun a hF => ?_)
                      refine stp hF (p_move rfl) (by decide) (fun a hF => ?_)
                      obtain ⟨hq7, H⟩ := hck H
                      obtain ⟨ad1, h9, p10⟩ := p_idxr (P := Try.prog) (i := x18) (h8.mono hg9) un_27 ti_3 hq7.1 hq7.2
                      refine stp hF (p10 rfl rfl) (by decide) (fun a hF => ?_)
                      refine stp hF (p_ldr_int rfl hS h9 ia_3) (by decide) (fun a hF => ?_)
                      replace hS := hS.sel (is := [2, 0, 0, 0]) (A' := [Ow (Kd.int .i64) 3 v11 x17, Ow kTSlot 32 v10 x4, Ow kTSlot 32 (.slice (some ⟨b5, o5, none⟩) x5.length q5) x5, Ow (Kd.int .i64) 3 (.slice (some ⟨b4, o4, none⟩) x3.length q4) x3]) rfl
                      obtain ⟨s15, hg10, hl3, hcall3⟩ := St.lend (P := Try.prog) (Bs := [Ow (Kd.int .i64) 3 v11 x17]) (A := []) (B := [Ow kTSlot 32 v10 x4, Ow kTSlot 32 (.slice (some ⟨b5, o5, none⟩) x5.length q5) x5, Ow (Kd.int .i64) 3 (.slice (some ⟨b4, o4, none⟩) x3.length q4) x3]) hS
                      obtain ⟨h10, hl3⟩ := hl3.ow hg10
                      obtain ⟨x19, hx6, H⟩ := hb H
                      refine ste hF (e_call (fst := []) (vs := [v11, (.int .i64 (rd ((rd x5 (rd x3 x16)).O.Refs) x18))]) (cap := []) rfl rfl go_10 (hcall3 (laws_among.spec k4 _ _ x17 (rd ((rd x5 (rd x3 x16)).O.Refs) x18) v11 h10 _ hx6) (by rintro v s1 A1 ⟨rfl, rfl⟩; exact trivial))) (by decide) (fun v w a hR hF => ?_)
                      obtain ⟨s16, s17, A7, hg11, hS, hR⟩ := hR
                      obtain ⟨hv6, rfl⟩ := hR; obtain rfl := hv6.symm
                      have hS : St e s16 w [Ow (Kd.int .i64) 3 v11 x17, Ow kTSlot 32 v10 x4, Ow kTSlot 32 (.slice (some ⟨b5, o5, none⟩) x5.length q5) x5, Ow (Kd.int .i64) 3 (.slice (some ⟨b4, o4, none⟩) x3.length q4) x3] := hS
                      refine nilN ?_
                      refine xn ?_
                      refine cnd hF rfl (fun hc8 => ?_) (fun hc8 => ?_)
                      · replace H := hbt hc8 H
                        refine sq ?_
                        refine rg ?_
                        refine stp hF (p_assign rfl) (by decide) (fun a hF => ?_)
                        refine nilN ?_
                        refine xn ?_
                        refine rt ?_
                        refine br (xr (xr (br (br (xr (xr (br (xr ?_))))))))
                        obtain rfl := hsm H
                        have H := hon1 HK5
                        obtain rfl := hsm H
                        have H := hon1 HK4
                        obtain rfl := hsm H
                        replace hS := hS.sel (is := []) (A' := []) rfl
                        exact ret1 hF rfl rfl hS ⟨rfl, rfl⟩
                      · replace H := hbf hc8 H
                        refine skN ?_
                        refine bn (xn ?_)
                        refine rg ?_
                        refine stp hF (p_move rfl) (by decide) (fun a hF => ?_)
                        refine stp hF (p_add (c := w64 (x18 + 1)) rfl rfl rfl) (by decide) (fun a hF => ?_)
                        refine stp hF (p_assign rfl) (by decide) (fun a hF => ?_)
                        refine nilN ?_
                        refine xn ?_
                        replace hS := hS.sel (is := [1, 1, 0, 0]) (A' := [Ow kTSlot 32 v10 x4, Ow kTSlot 32 (.slice (some ⟨b5, o5, none⟩) x5.length q5) x5, Ow (Kd.int .i64) 3 v11 x17, Ow (Kd.int .i64) 3 (.slice (some ⟨b4, o4, none⟩) x3.length q4) x3]) rfl
                        exact ⟨(w64 (x18 + 1)), s16, hS, hF.cut ⟨rfl, rfl, rfl, rfl, rfl, rfl, rfl, rfl, trivial⟩, (hg9.trans hg11), H⟩
                    · replace H := hbf hc7 H
                      refine exi ?_
                      refine xe (xe (hit (bn (xn ?_))))
                      obtain rfl := hsm H
                      exact ⟨s14, (.slice (some ⟨b5, o5, none⟩) x5.length q5), (.slice (some ⟨b4, o4, none⟩) x3.length q4), hS, hF.cut ⟨rfl, rfl, rfl, rfl, rfl, rfl, trivial⟩, hg9, HK5⟩
                · clear H HK5 hS hF
                  rintro a w ⟨s13, v18, v19, hS, hF, hg12, H⟩
                  unfold laws_FnGarbage.c5 at H
                  refine rg ?_
                  refine stp hF (p_move rfl) (by decide) (fun a hF => ?_)
                  refine stp hF (p_add (c := w64 (x16 + 1)) rfl rfl rfl) (by decide) (fun a hF => ?_)
                  refine stp hF (p_assign rfl) (by decide) (fun a hF => ?_)
                  refine nilN ?_
                  refine xn ?_
                  exact ⟨(w64 (x16 + 1)), s13, v18, v19, hS, hF.cut ⟨rfl, rfl, rfl, rfl, rfl, rfl, trivial⟩, (hg8.trans hg12), H⟩
              · replace H := hbf hc6 H
                refine exi ?_
                refine xe (xe (hit (xn ?_)))
                obtain rfl := hsm H
                exact ⟨s12, v16, v17, hS, hF.cut ⟨rfl, rfl, rfl, rfl, trivial⟩, hg8, HK4⟩
          · clear H HK4 hS hF
            rintro a w ⟨s11, v14, v15, hS, hF, hg13, H⟩
            unfold laws_FnGarbage.c4 at H
            refine sq ?_
            refine rg ?_
            refine stp hF (p_move rfl) (by decide) (fun a hF => ?_)
            refine stp hF (p_move rfl) (by decide) (fun a hF => ?_)
            obtain ⟨s18, hg14, hl4, hcall4⟩ := St.lend (P := Try.prog) (Bs := [Ow kTSlot 32 v10 x4]) (A := []) (B := [Ow kTSlot 32 v14 x5, Ow (Kd.int .i64) 3 v11 x17, Ow (Kd.int .i64) 3 v15 x3]) hS
            obtain ⟨h11, hl4⟩ := hl4.ow hg14
            obtain ⟨x12, hx7, H⟩ := hb H
            refine ste hF (e_call (fst := []) (vs := [v10, (.int .i64 (w64 (1 + (x11.tmod 31))))]) (cap := []) rfl rfl go_8 (hcall4 (impl_Reach.spec k _ _ x4 (w64 (1 + (x11.tmod 31))) v10 h11 _ hx7) (by rintro v s1 A1 ⟨_, rfl, rfl⟩; exact ⟨Ow_flat flat_int _ _ _, trivial⟩))) (by decide) (fun v w a hR hF => ?_)
            obtain ⟨s19, s20, A8, hg15, hS, hR⟩ := hR
            obtain ⟨v21, hv7, rfl⟩ := hR; obtain rfl := hv7.symm
            have hS : St e s19 w [Ow kTSlot 32 v10 x4, Ow (Kd.int .i64) 3 v21 x12, Ow kTSlot 32 v14 x5, Ow (Kd.int .i64) 3 v11 x17, Ow (Kd.int .i64) 3 v15 x3] := hS
            refine stp hF (p_move rfl) (by decide) (fun a hF => ?_)
            replace hS := hS.sel (is := [1, 3, 0, 0, 0]) (A' := [Ow (Kd.int .i64) 3 v21 x12, Ow (Kd.int .i64) 3 v15 x3, Ow kTSlot 32 v10 x4, Ow kTSlot 32 v14 x5, Ow (Kd.int .i64) 3 v11 x17]) rfl
            obtain ⟨s21, hg16, hl5, hcall5⟩ := St.lend (P := Try.prog) (Bs := [Ow (Kd.int .i64) 3 v21 x12, Ow (Kd.int .i64) 3 v15 x3]) (A := []) (B := [Ow kTSlot 32 v10 x4, Ow kTSlot 32 v14 x5, Ow (Kd.int .i64) 3 v11 x17]) hS
            obtain ⟨h12, hl5⟩ := hl5.ow hg16
            obtain ⟨h13, hl5⟩ := hl5.ow hg16
            obtain ⟨x13, hx8, H⟩ := hb H
            refine ste hF (e_call (fst := []) (vs := [v21, v15]) (cap := []) rfl rfl go_11 (hcall5 (laws_sameInts.spec k _ _ x12 x3 v21 v15 h12 h13 _ hx8) (by rintro v s1 A1 ⟨rfl, rfl⟩; exact trivial))) (by decide) (fun v w a hR hF => ?_)
            obtain ⟨s22, s23, A9, hg17, hS, hR⟩ := hR
            obtain ⟨hv8, rfl⟩ := hR; obtain rfl := hv8.symm
            have hS : St e s22 w [Ow (Kd.int .i64) 3 v21 x12, Ow (Kd.int .i64) 3 v15 x3, Ow kTSlot 32 v10 x4, Ow kTSlot 32 v14 x5, Ow (Kd.int .i64) 3 v11 x17] := hS
            refine stp hF (p_move rfl) (by decide) (fun a hF => ?_)
            obtain ⟨x15, H, HK6⟩ := hb H
            refine cutj 6 (fun a w => ∃ (x6 : Bool) (s24 : HF) , St e s24 w [Ow (Kd.int .i64) 3 v21 x12, Ow (Kd.int .i64) 3 v15 x3, Ow kTSlot 32 v10 x4, Ow kTSlot 32 v14 x5, Ow (Kd.int .i64) 3 v11 x17] ∧ Fr 117 a [(3, v14), (5, v15), (9, v10), (102, (.bool x6))] ∧ Sub s22 s24 ∧ laws_FnGarbage.c3 k x3 x4 x5 x6 = some r) rfl rfl ?_ ?_
            · rcases Bool.eq_false_or_eq_true (x13) with hc9 | hc9
              · replace H := hbt hc9 H
                refine gonE (j := 5) hF rfl rfl hc9 ?_
                refine stp hF (p_move rfl) (by decide) (fun a hF => ?_)
                refine gonE (j := 5) hF rfl rfl hc9 ?_
                refine stp hF (p_move rfl) (by decide) (fun a hF => ?_)
                replace hS := hS.sel (is := [2, 0, 0, 0, 0]) (A' := [Ow kTSlot 32 v10 x4, Ow (Kd.int .i64) 3 v21 x12, Ow (Kd.int .i64) 3 v15 x3, Ow kTSlot 32 v14 x5, Ow (Kd.int .i64) 3 v11 x17]) rfl
                obtain ⟨s25, hg18, hl6, hcall6⟩ := St.lend (P := Try.prog) (Bs := [Ow kTSlot 32 v10 x4]) (A := []) (B := [Ow (Kd.int .i64) 3 v21 x12, Ow (Kd.int .i64) 3 v15 x3, Ow kTSlot 32 v14 x5, Ow (Kd.int .i64) 3 v11 x17]) hS
                obtain ⟨h14, hl6⟩ := hl6.ow hg18
                obtain ⟨x14, hx9, H⟩ := hb H
                refine gonE (j := 5) hF rfl rfl hc9 ?_
                refine ste hF (e_call (fst := []) (vs := [v10, (.int .i64 (w64 (1 + (x11.tmod 31))))]) (cap := []) rfl rfl go_9 (hcall6 (impl_Garbage.spec k _ _ x4 (w64 (1 + (x11.tmod 31))) v10 h14 _ hx9) (by rintro v s1 A1 ⟨_, rfl, rfl⟩; exact ⟨Ow_flat flat_int _ _ _, trivial⟩))) (by decide) (fun v w a hR hF => ?_)
                obtain ⟨s26, s27, A10, hg19, hS, hR⟩ := hR
                obtain ⟨v22, hv9, rfl⟩ := hR; obtain rfl := hv9.symm
                have hS : St e s26 w [Ow kTSlot 32 v10 x4, Ow (Kd.int .i64) 3 v22 x14, Ow (Kd.int .i64) 3 v21 x12, Ow (Kd.int .i64) 3 v15 x3, Ow kTSlot 32 v14 x5, Ow (Kd.int .i64) 3 v11 x17] := hS
                refine gonE (j := 5) hF rfl rfl hc9 ?_
                refine stp hF (p_leno (i := 1) hS rfl un_27 rfl) (by decide) (fun a hF => ?_)
                refine gonE (j := 5) hF rfl rfl hc9 ?_
                refine stp hF (p_eql rfl rfl) (by decide) (fun a hF => ?_)
                refine stp hF (p_pickT rfl hc9 rfl) (by decide) (fun a hF => ?_)
                refine nilN ?_
                refine xn ?_
                obtain rfl := hsm H
                replace hS := hS.sel (is := [2, 2, 0, 1, 1]) (A' := [Ow (Kd.int .i64) 3 v21 x12, Ow (Kd.int .i64) 3 v15 x3, Ow kTSlot 32 v10 x4, Ow kTSlot 32 v14 x5, Ow (Kd.int .i64) 3 v11 x17]) rfl
                exact ⟨(decide ((x14.length : Int) = 0)), s26, hS, hF.cut ⟨rfl, rfl, rfl, rfl, trivial⟩, hg19, HK6⟩
              · replace H := hbf hc9 H
                refine gofD (j := 5) hF rfl rfl (by rw [hc9]; decide) (by decide) (fun a hF => ?_)
                refine gofD (j := 5) hF rfl rfl (by rw [hc9]; decide) (by decide) (fun a hF => ?_)
                refine gofD (j := 5) hF rfl rfl (by rw [hc9]; decide) (by decide) (fun a hF => ?_)
                refine gofD (j := 5) hF rfl rfl (by rw [hc9]; decide) (by decide) (fun a hF => ?_)
                refine gofD (j := 5) hF rfl rfl (by rw [hc9]; decide) (by decide) (fun a hF => ?_)
                refine stp hF (p_pickF rfl hc9 rfl) (by decide) (fun a hF => ?_)
                refine nilN ?_
                refine xn ?_
                obtain rfl := hsm H
                exact ⟨false, s22, hS, hF.cut ⟨rfl, rfl, rfl, rfl, trivial⟩, (Sub.refl _), HK6⟩
            · clear H HK6 hS hF
              rintro a w ⟨x6, s24, hS, hF, hg20, H⟩
              unfold laws_FnGarbage.c3 at H
              refine stp hF (p_move rfl) (by decide) (fun a hF => ?_)
              obtain ⟨x10, H, HK7⟩ := hb H
              refine cutj 13 (fun a w => ∃ (x1 : Bool) (s28 : HF) , St e s28 w [Ow (Kd.int .i64) 3 v21 x12, Ow (Kd.int .i64) 3 v15 x3, Ow kTSlot 32 v10 x4, Ow kTSlot 32 v14 x5, Ow (Kd.int .i64) 3 v11 x17] ∧ Fr 117 a [(116, (.bool x1))] ∧ Sub s24 s28 ∧ laws_FnGarbage.c1 k x1 = some r) rfl rfl ?_ ?_
              · rcases Bool.eq_false_or_eq_true (x6) with hc10 | hc10
                · replace H := hbt hc10 H
                  refine gonE (j := 12) hF rfl rfl hc10 ?_
                  refine stp hF (p_move rfl) (by decide) (fun a hF => ?_)
                  refine gonE (j := 12) hF rfl rfl hc10 ?_
                  refine stp hF (p_leno (i := 1) hS rfl un_27 rfl) (by decide) (fun a hF => ?_)
                  refine gonE (j := 12) hF rfl rfl hc10 ?_
                  refine stp hF (p_eql rfl rfl) (by decide) (fun a hF => ?_)
                  refine gonE (j := 12) hF rfl rfl hc10 ?_
                  refine stp hF (p_move rfl) (by decide) (fun a hF => ?_)
                  obtain ⟨x9, H, HK8⟩ := hb H
                  refine cutj 8 (fun a w => ∃ (x2 : Bool) (s29 : HF) , St e s29 w [Ow (Kd.int .i64) 3 v21 x12, Ow (Kd.int .i64) 3 v15 x3, Ow kTSlot 32 v10 x4, Ow kTSlot 32 v14 x5, Ow (Kd.int .i64) 3 v11 x17] ∧ Fr 117 a [(103, (.bool x6)), (115, (.bool x2))] ∧ Sub s24 s29 ∧ laws_FnGarbage.c2 k x2 = some x10) rfl rfl ?_ ?_
                  · rcases Bool.eq_false_or_eq_true (decide ((x3.length : Int) = 0)) with hc11 | hc11
                    · replace H := hbt hc11 H
                      refine gofD (j := 16) hF rfl rfl (by rw [hc11]; decide) (by decide) (fun a hF => ?_)
                      refine gofD (j := 16) hF rfl rfl (by rw [hc11]; decide) (by decide) (fun a hF => ?_)
                      refine gofD (j := 16) hF rfl rfl (by rw [hc11]; decide) (by decide) (fun a hF => ?_)
                      refine gofD (j := 16) hF rfl rfl (by rw [hc11]; decide) (by decide) (fun a hF => ?_)
                      refine gofD (j := 16) hF rfl rfl (by rw [hc11]; decide) (by decide) (fun a hF => ?_)
                      refine gofD (j := 16) hF rfl rfl (by rw [hc11]; decide) (by decide) (fun a hF => ?_)
                      refine gofD (j := 16) hF rfl rfl (by rw [hc11]; decide) (by decide) (fun a hF => ?_)
                      refine gonE (j := 12) hF rfl rfl hc10 ?_
                      refine stp hF (p_pickT rfl hc11 rfl) (by decide) (fun a hF => ?_)
                      refine nilN ?_
                      refine xn ?_
                      obtain rfl := hsm H
                      exact ⟨true, s24, hS, hF.cut ⟨rfl, rfl, trivial⟩, (Sub.refl _), HK8⟩
                    · replace H := hbf hc11 H
                      refine gonE (j := 16) hF rfl rfl hc11 ?_
                      refine stp hF (p_move rfl) (by decide) (fun a hF => ?_)
                      replace hS := hS.sel (is := [2, 0, 0, 0, 0]) (A' := [Ow kTSlot 32 v10 x4, Ow (Kd.int .i64) 3 v21 x12, Ow (Kd.int .i64) 3 v15 x3, Ow kTSlot 32 v14 x5, Ow (Kd.int .i64) 3 v11 x17]) rfl
                      obtain ⟨s30, hg21, hl7, hcall7⟩ := St.lend (P := Try.prog) (Bs := [Ow kTSlot 32 v10 x4]) (A := []) (B := [Ow (Kd.int .i64) 3 v21 x12, Ow (Kd.int .i64) 3 v15 x3, Ow kTSlot 32 v14 x5, Ow (Kd.int .i64) 3 v11 x17]) hS
                      obtain ⟨h15, hl7⟩ := hl7.ow hg21
                      obtain ⟨x7, hx10, H⟩ := hb H
                      refine gonE (j := 16) hF rfl rfl hc11 ?_
                      refine ste hF (e_call (fst := []) (vs := [v10]) (cap := []) rfl rfl go_12 (hcall7 (impl_Dangling.spec k _ _ x4 v10 h15 _ hx10) (by rintro v s1 A1 ⟨_, rfl, rfl⟩; exact ⟨Ow_flat (flat_arr flat_int) _ _ _, trivial⟩))) (by decide) (fun v w a hR hF => ?_)
                      obtain ⟨s31, s32, A11, hg22, hS, hR⟩ := hR
                      obtain ⟨v23, hv10, rfl⟩ := hR; obtain rfl := hv10.symm
                      have hS : St e s31 w [Ow kTSlot 32 v10 x4, Ow (Kd.arr 2 (Kd.int .i64)) 47 v23 x7, Ow (Kd.int .i64) 3 v21 x12, Ow (Kd.int .i64) 3 v15 x3, Ow kTSlot 32 v14 x5, Ow (Kd.int .i64) 3 v11 x17] := hS
                      refine gonE (j := 16) hF rfl rfl hc11 ?_
                      refine stp hF (p_leno (i := 1) hS rfl un_35 rfl) (by decide) (fun a hF => ?_)
                      refine gonE (j := 16) hF rfl rfl hc11 ?_
                      refine stp hF (p_move rfl) (by decide) (fun a hF => ?_)
                      replace hS := hS.sel (is := [4, 0, 0, 0, 0, 0]) (A' := [Ow kTSlot 32 v14 x5, Ow kTSlot 32 v10 x4, Ow (Kd.arr 2 (Kd.int .i64)) 47 v23 x7, Ow (Kd.int .i64) 3 v21 x12, Ow (Kd.int .i64) 3 v15 x3, Ow (Kd.int .i64) 3 v11 x17]) rfl
                      obtain ⟨s33, hg23, hl8, hcall8⟩ := St.lend (P := Try.prog) (Bs := [Ow kTSlot 32 v14 x5]) (A := []) (B := [Ow kTSlot 32 v10 x4, Ow (Kd.arr 2 (Kd.int .i64)) 47 v23 x7, Ow (Kd.int .i64) 3 v21 x12, Ow (Kd.int .i64) 3 v15 x3, Ow (Kd.int .i64) 3 v11 x17]) hS
                      obtain ⟨h16, hl8⟩ := hl8.ow hg23
                      obtain ⟨x8, hx11, H⟩ := hb H
                      refine gonE (j := 16) hF rfl rfl hc11 ?_
                      refine ste hF (e_call (fst := []) (vs := [v14]) (cap := []) rfl rfl go_12 (hcall8 (impl_Dangling.spec k _ _ x5 v14 h16 _ hx11) (by rintro v s1 A1 ⟨_, rfl, rfl⟩; exact ⟨Ow_flat (flat_arr flat_int) _ _ _, trivial⟩))) (by decide) (fun v w a hR hF => ?_)
                      obtain ⟨s34, s35, A12, hg24, hS, hR⟩ := hR
                      obtain ⟨v24, hv11, rfl⟩ := hR; obtain rfl := hv11.symm
                      have hS : St e s34 w [Ow kTSlot 32 v14 x5, Ow (Kd.arr 2 (Kd.int .i64)) 47 v24 x8, Ow kTSlot 32 v10 x4, Ow (Kd.arr 2 (Kd.int .i64)) 47 v23 x7, Ow (Kd.int .i64) 3 v21 x12, Ow (Kd.int .i64) 3 v15 x3, Ow (Kd.int .i64) 3 v11 x17] := hS
                      refine gonE (j := 16) hF rfl rfl hc11 ?_
                      refine stp hF (p_leno (i := 1) hS rfl un_35 rfl) (by decide) (fun a hF => ?_)
                      refine gonE (j := 16) hF rfl rfl hc11 ?_
                      refine stp hF (p_leq rfl rfl) (by decide) (fun a hF => ?_)
                      refine gonE (j := 12) hF rfl rfl hc10 ?_
                      refine stp hF (p_pickF rfl hc11 rfl) (by decide) (fun a hF => ?_)
                      refine nilN ?_
                      refine xn ?_
                      obtain rfl := hsm H
                      replace hS := hS.sel (is := [4, 4, 2, 0, 2]) (A' := [Ow (Kd.int .i64) 3 v21 x12, Ow (Kd.int .i64) 3 v15 x3, Ow kTSlot 32 v10 x4, Ow kTSlot 32 v14 x5, Ow (Kd.int .i64) 3 v11 x17]) rfl
                      exact ⟨(decide ((x7.length : Int) ≤ (x8.length : Int))), s34, hS, hF.cut ⟨rfl, rfl, trivial⟩, (hg22.trans hg24), HK8⟩
                  · clear H HK8 hS hF
                    rintro a w ⟨x2, s29, hS, hF, hg25, H⟩
                    unfold laws_FnGarbage.c2 at H
                    refine stp hF (p_pickT rfl hc10 rfl) (by decide) (fun a hF => ?_)
                    refine nilN ?_
                    refine xn ?_
                    obtain rfl := hsm H
                    exact ⟨x2, s29, hS, hF.cut ⟨rfl, trivial⟩, hg25, HK7⟩
                · replace H := hbf hc10 H
                  refine gofD (j := 12) hF rfl rfl (by rw [hc10]; decide) (by decide) (fun a hF => ?_)
                  refine gofD (j := 12) hF rfl rfl (by rw [hc10]; decide) (by decide) (fun a hF => ?_)
                  refine gofD (j := 12) hF rfl rfl (by rw [hc10]; decide) (by decide) (fun a hF => ?_)
                  refine gofD (j := 12) hF rfl rfl (by rw [hc10]; decide) (by decide) (fun a hF => ?_)
                  refine gofU (j := 16) hF rfl rfl (by decide) (fun a hF => ?_)
                  refine gofU (j := 16) hF rfl rfl (by decide) (fun a hF => ?_)
                  refine gofU (j := 16) hF rfl rfl (by decide) (fun a hF => ?_)
                  refine gofU (j := 16) hF rfl rfl (by decide) (fun a hF => ?_)
                  refine gofU (j := 16) hF rfl rfl (by decide) (fun a hF => ?_)
                  refine gofU (j := 16) hF rfl rfl (by decide) (fun a hF => ?_)
                  refine gofU (j := 16) hF rfl rfl (by decide) (fun a hF => ?_)
                  refine gofD (j := 12) hF rfl rfl (by rw [hc10]; decide) (by decide) (fun a hF => ?_)
                  refine stp hF (p_pickF rfl hc10 rfl) (by decide) (fun a hF => ?_)
                  refine nilN ?_
                  refine xn ?_
                  obtain rfl := hsm H
                  exact ⟨false, s24, hS, hF.cut ⟨rfl, trivial⟩, (Sub.refl _), HK7⟩
              · clear H HK7 hS hF
                rintro a w ⟨x1, s28, hS, hF, hg26, H⟩
                unfold laws_FnGarbage.c1 at H
                refine stp hF (p_assign rfl) (by decide) (fun a hF => ?_)
                refine nilN ?_
                refine xn ?_
                refine rt ?_
                obtain rfl := hsm H
                replace hS := hS.sel (is := []) (A' := []) rfl
                exact ret1 hF rfl rfl hS ⟨rfl, rfl⟩
end Go.Proofs.Ytplgbgcfgnobdaa
