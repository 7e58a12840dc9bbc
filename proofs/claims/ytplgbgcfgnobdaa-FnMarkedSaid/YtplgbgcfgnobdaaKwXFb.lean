/- Functions of this place as plain functions, and that the machine comes to what they say. Conditions: none. -/
import Derived.Test.YtplgbgcfgnobdaaKwXFa
set_option linter.unusedVariables false
set_option linter.unusedSimpArgs false
namespace Go.Proofs.Ytplgbgcfgnobdaa
open Go.Kw

def laws_FnGarbage.c1 (k : Nat) (x1 : Bool) : Option Bool :=
  (some x1)
def laws_FnGarbage.c2 (k : Nat) (x2 : Bool) : Option Bool :=
  (some x2)
def laws_FnGarbage.c3 (k : Nat) (x3 : (List Int)) (x4 : (List TSlot)) (x5 : (List TSlot)) (x6 : Bool) : Option Bool :=
  ((if x6 = true then ((if (decide ((x3.length : Int) = 0)) = true then (some true) else ((impl_Dangling.f k x4).bind fun x7 => ((impl_Dangling.f k x5).bind fun x8 => (some (decide ((x7.length : Int) ≤ (x8.length : Int)))))) : Option Bool).bind fun x9 => laws_FnGarbage.c2 k x9) else (some false) : Option Bool).bind fun x10 => laws_FnGarbage.c1 k x10)
def laws_FnGarbage.c4 (k : Nat) (x4 : (List TSlot)) (x11 : Int) (x3 : (List Int)) (x5 : (List TSlot)) : Option Bool :=
  ((impl_Reach.f k x4 (w64 (1 + (x11.tmod 31)))).bind fun x12 => ((laws_sameInts.f k x12 x3).bind fun x13 => ((if x13 = true then ((impl_Garbage.f k x4 (w64 (1 + (x11.tmod 31)))).bind fun x14 => (some (decide ((x14.length : Int) = 0)))) else (some false) : Option Bool).bind fun x15 => laws_FnGarbage.c3 k x3 x4 x5 x15)))
def laws_FnGarbage.c5 (k : Nat) (rec_l1 : Int → Option (Ex Bool Unit)) (x16 : Int) : Option (Ex Bool Unit) :=
  (rec_l1 (w64 (x16 + 1)))
def laws_FnGarbage.l2 (x5 : (List TSlot)) (x3 : (List Int)) (x16 : Int) (x17 : (List Int)) : Nat → Int → Option (Ex Bool Unit)
  | 0, _ => none
  | k + 1, x18 => (if (decide (x18 < (((rd x5 (rd x3 x16)).O.Refs).length : Int))) = true then (if 0 ≤ x18 ∧ x18 < (((rd x5 (rd x3 x16)).O.Refs).length : Int) then ((laws_among.f k x17 (rd ((rd x5 (rd x3 x16)).O.Refs) x18)).bind fun x19 => (if x19 = true then (some (Ex.ret false)) else ((laws_FnGarbage.l2 x5 x3 x16 x17 k) (w64 (x18 + 1))))) else none) else (some (Ex.go ())))
def laws_FnGarbage.l1 (x3 : (List Int)) (x5 : (List TSlot)) (x17 : (List Int)) : Nat → Int → Option (Ex Bool Unit)
  | 0, _ => none
  | k + 1, x16 => (if (decide (x16 < (x3.length : Int))) = true then (((if 0 ≤ x16 ∧ x16 < (x3.length : Int) then (if 0 ≤ (rd x3 x16) ∧ (rd x3 x16) < (x5.length : Int) then (laws_FnGarbage.l2 x5 x3 x16 x17 k 0) else none) else none) : Option (Ex Bool Unit)).bind fun x20 => Ex.on x20 (fun r => some (Ex.ret r)) (fun y => laws_FnGarbage.c5 k (laws_FnGarbage.l1 x3 x5 x17 k) x16)) else (some (Ex.go ())))
def laws_FnGarbage.c6 (k : Nat) (x3 : (List Int)) (x5 : (List TSlot)) (x17 : (List Int)) (x11 : Int) (x4 : (List TSlot)) : Option Bool :=
  (((laws_FnGarbage.l1 x3 x5 x17 k 0) : Option (Ex Bool Unit)).bind fun x21 => Ex.on x21 (fun r => some r) (fun y => laws_FnGarbage.c4 k x4 x11 x3 x5))
def laws_FnGarbage.l3 (x17 : (List Int)) : Nat → (List TSlot) → Int → Option (List TSlot)
  | 0, _, _ => none
  | k + 1, x22, x23 => (if (decide (x23 < (x17.length : Int))) = true then (if 0 ≤ x23 ∧ x23 < (x17.length : Int) then (if 0 ≤ (rd x17 x23) ∧ (rd x17 x23) < (x22.length : Int) then ((laws_FnGarbage.l3 x17 k) (wr x22 (rd x17 x23) (⟨false, (⟨0, ([] : List Int), ([] : List Int)⟩ : TObj)⟩ : TSlot)) (w64 (x23 + 1))) else none) else none) else (some x22))
def laws_FnGarbage.c7 (k : Nat) (x3 : (List Int)) (x17 : (List Int)) (x5 : (List TSlot)) (x11 : Int) (x24 : Int) : Option Bool :=
  (if (decide ((w64 ((x3.length : Int) + (x17.length : Int))) ≠ x24)) = true then (some false) else (if ([] : List TSlot).length + x5.length ≤ 2199023255552 then (((laws_FnGarbage.l3 x17 k (([] : List TSlot) ++ x5) 0) : Option (List TSlot)).bind fun x25 => laws_FnGarbage.c6 k x3 x5 x17 x11 x25) else none))
def laws_FnGarbage.c8 (k : Nat) (rec_l4 : Int → Int → Option Int) (x26 : Int) (x27 : Int) : Option Int :=
  (rec_l4 x27 (w64 (x26 + 1)))
def laws_FnGarbage.l4 (x5 : (List TSlot)) : Nat → Int → Int → Option Int
  | 0, _, _ => none
  | k + 1, x28, x26 => (if (decide (x26 < (x5.length : Int))) = true then (((if 0 ≤ x26 ∧ x26 < (x5.length : Int) then (if ((rd x5 x26).Has) = true then (some (w64 (x28 + 1))) else (some x28)) else none) : Option Int).bind fun x29 => laws_FnGarbage.c8 k (laws_FnGarbage.l4 x5 k) x26 x29) else (some x28))
def laws_FnGarbage.f (k : Nat) (x30 : (List Int)) : Option Bool :=
  ((laws_big.f k x30).bind fun x31 => (if x31 = true then (some true) else ((spec_DrawHeap.f k x30).bind fun x5 => ((laws_at.f k x30 2).bind fun x11 => ((impl_Reach.f k x5 (w64 (1 + (x11.tmod 31)))).bind fun x3 => ((impl_Garbage.f k x5 (w64 (1 + (x11.tmod 31)))).bind fun x17 => (((laws_FnGarbage.l4 x5 k 0 0) : Option Int).bind fun x32 => laws_FnGarbage.c7 k x3 x17 x5 x11 x32)))))))
set_option maxRecDepth 100000 in
set_option maxHeartbeats 4000000 in
theorem laws_FnGarbage.spec (k : Nat) (s0 : HF) (w : World) (x30 : (List Int)) (v1 : Value) (h1 : Sl (Kd.int .u8) s0 v1 x30) (r : Bool) (H : laws_FnGarbage.f k x30 = some r) :
    Law Try.prog 3 #[v1] s0 w [] (fun v s1 A1 => v = (.bool r) ∧ A1 = []) := by
  unfold laws_FnGarbage.f at H
  refine Law.intro Try.func3 rfl [(0, v1)] (Nat.le_of_ble_eq_true rfl) (enter_lk ⟨rfl, trivial⟩) (fun e a hS hF => ?_)
  have hF : Fr 117 a [(0, v1)] := hF
  refine sq ?_
  refine rg ?_
  refine stp hF (p_assign rfl) (by decide) (fun a hF => ?_)
  refine nilN ?_
  refine xn ?_
  refine sq ?_
  refine sq ?_
  refine rg ?_
  refine stp hF (p_move rfl) (by decide) (fun a hF => ?_)
  obtain ⟨x31, hx1, H⟩ := hb H
  refine ste hF (e_call (fst := []) (vs := [v1]) (cap := []) rfl rfl go_5 (St.call (A := []) (B := []) hS (laws_big.spec k _ _ x30 v1 h1 _ hx1))) (by decide) (fun v w a hR hF => ?_)
  obtain ⟨s2, A2, hg1, hS, hR⟩ := hR
  obtain ⟨hv1, rfl⟩ := hR; obtain rfl := hv1.symm
  have hS : St e s2 w [] := hS
  refine nilN ?_
  refine xn ?_
  refine cnd hF rfl (fun hc1 => ?_) (fun hc1 => ?_)
  · replace H := hbt hc1 H
    refine sq ?_
    refine rg ?_
    refine stp hF (p_assign rfl) (by decide) (fun a hF => ?_)
    refine nilN ?_
    refine xn ?_
    refine rt ?_
    refine xr ?_
    obtain rfl := hsm H
    exact ret1 hF rfl rfl hS ⟨rfl, rfl⟩
  · replace H := hbf hc1 H
    refine skN ?_
    refine xn ?_
    refine sq ?_
    refine rg ?_
    refine stp hF (p_move rfl) (by decide) (fun a hF => ?_)
    obtain ⟨x5, hx2, H⟩ := hb H
    refine ste hF (e_call (fst := []) (vs := [v1]) (cap := []) rfl rfl go_6 (St.call (A := []) (B := []) hS (spec_DrawHeap.spec k _ _ x30 v1 (h1.mono hg1) _ hx2))) (by decide) (fun v w a hR hF => ?_)
    obtain ⟨s3, A3, hg2, hS, hR⟩ := hR
    obtain ⟨v2, hv2, rfl⟩ := hR; obtain rfl := hv2.symm
    have hS : St e s3 w [Ow kTSlot 32 v2 x5] := hS
    refine stp hF (p_assign rfl) (by decide) (fun a hF => ?_)
    refine nilN ?_
    refine xn ?_
    refine sq ?_
    refine rg ?_
    refine stp hF (p_move rfl) (by decide) (fun a hF => ?_)
    obtain ⟨x11, hx3, H⟩ := hb H
    refine ste hF (e_call (fst := []) (vs := [v1, (.int .i64 2)]) (cap := []) rfl rfl go_7 (St.call (A := []) (B := [Ow kTSlot 32 v2 x5]) hS (laws_at.spec k _ _ x30 2 v1 ((h1.mono hg1).mono hg2) _ hx3))) (by decide) (fun v w a hR hF => ?_)
    obtain ⟨s4, A4, hg3, hS, hR⟩ := hR
    obtain ⟨hv3, rfl⟩ := hR; obtain rfl := hv3.symm
    have hS : St e s4 w [Ow kTSlot 32 v2 x5] := hS
    refine stp hF (p_rem (c := x11.tmod 31) rfl rfl (by decide) rfl) (by decide) (fun a hF => ?_)
    refine stp hF (p_add (c := w64 (1 + (x11.tmod 31))) rfl rfl rfl) (by decide) (fun a hF => ?_)
    refine stp hF (p_assign rfl) (by decide) (fun a hF => ?_)
    refine nilN ?_
    refine xn ?_
    refine sq ?_
    refine rg ?_
    refine stp hF (p_move rfl) (by decide) (fun a hF => ?_)
    refine stp hF (p_move rfl) (by decide) (fun a hF => ?_)
    obtain ⟨s5, hg4, hl1, hcall1⟩ := St.lend (P := Try.prog) (Bs := [Ow kTSlot 32 v2 x5]) (A := []) (B := []) hS
    obtain ⟨h2, hl1⟩ := hl1.ow hg4
    obtain ⟨x3, hx4, H⟩ := hb H
    refine ste hF (e_call (fst := []) (vs := [v2, (.int .i64 (w64 (1 + (x11.tmod 31))))]) (cap := []) rfl rfl go_8 (hcall1 (impl_Reach.spec k _ _ x5 (w64 (1 + (x11.tmod 31))) v2 h2 _ hx4) (by rintro v s1 A1 ⟨_, rfl, rfl⟩; exact ⟨Ow_flat flat_int _ _ _, trivial⟩))) (by decide) (fun v w a hR hF => ?_)
    obtain ⟨s6, s7, A5, hg5, hS, hR⟩ := hR
    obtain ⟨v3, hv4, rfl⟩ := hR; obtain rfl := hv4.symm
    have hS : St e s6 w [Ow kTSlot 32 v2 x5, Ow (Kd.int .i64) 3 v3 x3] := hS
    refine stp hF (p_assign rfl) (by decide) (fun a hF => ?_)
    refine nilN ?_
    refine xn ?_
    refine sq ?_
    refine rg ?_
    refine stp hF (p_move rfl) (by decide) (fun a hF => ?_)
    refine stp hF (p_move rfl) (by decide) (fun a hF => ?_)
    obtain ⟨s8, hg6, hl2, hcall2⟩ := St.lend (P := Try.prog) (Bs := [Ow kTSlot 32 v2 x5]) (A := []) (B := [Ow (Kd.int .i64) 3 v3 x3]) hS
    obtain ⟨h3, hl2⟩ := hl2.ow hg6
    obtain ⟨x17, hx5, H⟩ := hb H
    refine ste hF (e_call (fst := []) (vs := [v2, (.int .i64 (w64 (1 + (x11.tmod 31))))]) (cap := []) rfl rfl go_9 (hcall2 (impl_Garbage.spec k _ _ x5 (w64 (1 + (x11.tmod 31))) v2 h3 _ hx5) (by rintro v s1 A1 ⟨_, rfl, rfl⟩; exact ⟨Ow_flat flat_int _ _ _, trivial⟩))) (by decide) (fun v w a hR hF => ?_)
    obtain ⟨s9, s10, A6, hg7, hS, hR⟩ := hR
    obtain ⟨v4, hv5, rfl⟩ := hR; obtain rfl := hv5.symm
    have hS : St e s9 w [Ow kTSlot 32 v2 x5, Ow (Kd.int .i64) 3 v4 x17, Ow (Kd.int .i64) 3 v3 x3] := hS
    refine stp hF (p_assign rfl) (by decide) (fun a hF => ?_)
    refine nilN ?_
    refine xn ?_
    refine sq ?_
    refine rg ?_
    refine stp hF (p_assign rfl) (by decide) (fun a hF => ?_)
    refine nilN ?_
    refine xn ?_
    obtain ⟨x32, H, HK1⟩ := hb H
    refine sqj (fun a w => ∃ (x24 : Int) (v5 : Value) , St e s9 w [Ow kTSlot 32 v5 x5, Ow (Kd.int .i64) 3 v4 x17, Ow (Kd.int .i64) 3 v3 x3] ∧ Fr 117 a [(3, v5), (4, (.int .i64 (w64 (1 + (x11.tmod 31))))), (5, v3), (6, v4), (7, (.int .i64 x24))] ∧ laws_FnGarbage.c7 k x3 x17 x5 x11 x24 = some r) ?_ ?_
    · skip
      refine sq ?_
      refine rg ?_
      refine stp hF (p_assign rfl) (by decide) (fun a hF => ?_)
      refine nilN ?_
      refine xn ?_
      refine blk ?_
      refine loop_ind (fun k1 a w => ∃ (x28 : Int) (x26 : Int) (v6 : Value) , St e s9 w [Ow kTSlot 32 v6 x5, Ow (Kd.int .i64) 3 v4 x17, Ow (Kd.int .i64) 3 v3 x3] ∧ Fr 117 a [(3, v6), (4, (.int .i64 (w64 (1 + (x11.tmod 31))))), (5, v3), (6, v4), (7, (.int .i64 x28)), (8, (.int .i64 x26))] ∧ laws_FnGarbage.l4 x5 k1 x28 x26 = some x32) k ?_ ?_ ?_
      · skip
        exact ⟨0, 0, v2, hS, hF.cut ⟨rfl, rfl, rfl, rfl, rfl, rfl, trivial⟩, H⟩
      · clear H hS hF
        rintro a w ⟨x28, x26, v6, hS, hF, H⟩
        exact absurd (show none = some _ from H) (by simp)
      · clear H hS hF
        rintro k1 a w ⟨x28, x26, v6, hS, hF, H⟩
        rw [laws_FnGarbage.l4.eq_2] at H
        refine sq ?_
        refine sq ?_
        refine rg ?_
        refine stp hF (p_move rfl) (by decide) (fun a hF => ?_)
        refine stp hF (p_move rfl) (by decide) (fun a hF => ?_)
        refine stp hF (p_leno (i := 0) hS rfl un_24 rfl) (by decide) (fun a hF => ?_)
        refine stp hF (p_lss rfl rfl) (by decide) (fun a hF => ?_)
        refine nilN ?_
        refine xn ?_
        refine cnd hF rfl (fun hc2 => ?_) (fun hc2 => ?_)
        · replace H := hbt hc2 H
          refine skN ?_
          refine xn ?_
          obtain ⟨x29, H, HK2⟩ := hb H
          refine sqj (fun a w => ∃ (x27 : Int) (v7 : Value) , St e s9 w [Ow kTSlot 32 v7 x5, Ow (Kd.int .i64) 3 v4 x17, Ow (Kd.int .i64) 3 v3 x3] ∧ Fr 117 a [(3, v7), (4, (.int .i64 (w64 (1 + (x11.tmod 31))))), (5, v3), (6, v4), (7, (.int .i64 x27)), (8, (.int .i64 x26))] ∧ laws_FnGarbage.c8 k1 (laws_FnGarbage.l4 x5 k1) x26 x27 = some x32) ?_ ?_
          · skip
            refine blk ?_
            refine sq ?_
            refine rg ?_
            refine stp hF (p_move rfl) (by decide) (fun a hF => ?_)
            refine stp hF (p_move rfl) (by decide) (fun a hF => ?_)
            obtain ⟨hq1, H⟩ := hck H
            obtain ⟨b1, o1, q1, rfl, p1⟩ := p_idxo (n := 0) (i := x26) hS rfl un_24 ti_32 hq1.1 hq1.2
            refine stp hF (p1 rfl rfl) (by decide) (fun a hF => ?_)
            refine stp hF (p_fldb (o' := (o1 + x26.toNat * kTSlot.sz)) rfl fi_32_0 rfl) (by decide) (fun a hF => ?_)
            obtain ⟨u1, h4, p2⟩ := p_ldo_one (P := Try.prog) (n := 0) hS rfl kTSlot_Has hq1.1 hq1.2 rfl ia_4 rfl
            obtain rfl : u1 = .bool ((rd x5 x26).Has) := by injection h4
            refine stp hF (p2 rfl) (by decide) (fun a hF => ?_)
            refine nilN ?_
            refine xn ?_
            refine cnd hF rfl (fun hc3 => ?_) (fun hc3 => ?_)
            · replace H := hbt hc3 H
              refine rg ?_
              refine stp hF (p_move rfl) (by decide) (fun a hF => ?_)
              refine stp hF (p_add (c := w64 (x28 + 1)) rfl rfl rfl) (by decide) (fun a hF => ?_)
              refine stp hF (p_assign rfl) (by decide) (fun a hF => ?_)
              refine nilN ?_
              refine bn (xn ?_)
              obtain rfl := hsm H
              exact ⟨(w64 (x28 + 1)), (.slice (some ⟨b1, o1, none⟩) x5.length q1), hS, hF.cut ⟨rfl, rfl, rfl, rfl, rfl, rfl, trivial⟩, HK2⟩
            · replace H := hbf hc3 H
              refine skN ?_
              refine bn (xn ?_)
              obtain rfl := hsm H
              exact ⟨x28, (.slice (some ⟨b1, o1, none⟩) x5.length q1), hS, hF.cut ⟨rfl, rfl, rfl, rfl, rfl, rfl, trivial⟩, HK2⟩
          · clear H HK2 hS hF
            rintro a w ⟨x27, v7, hS, hF, H⟩
            unfold laws_FnGarbage.c8 at H
            refine rg ?_
            refine stp hF (p_move rfl) (by decide) (fun a hF => ?_)
            refine stp hF (p_add (c := w64 (x26 + 1)) rfl rfl rfl) (by decide) (fun a hF => ?_)
            refine stp hF (p_assign rfl) (by decide) (fun a hF => ?_)
            refine nilN ?_
            refine xn ?_
            exact ⟨x27, (w64 (x26 + 1)), v7, hS, hF.cut ⟨rfl, rfl, rfl, rfl, rfl, rfl, trivial⟩, H⟩
        · replace H := hbf hc2 H
          refine exi ?_
          refine xe (xe (hit (xn ?_)))
          obtain rfl := hsm H
          exact ⟨x28, v6, hS, hF.cut ⟨rfl, rfl, rfl, rfl, rfl, trivial⟩, HK1⟩
    · clear H HK1 hS hF
      rintro a w ⟨x24, v5, hS, hF, H⟩
      unfold laws_FnGarbage.c7 at H
      refine sq ?_
      refine sq ?_
      refine rg ?_
      refine stp hF (p_move rfl) (by decide) (fun a hF => ?_)
      refine stp hF (p_leno (i := 2) hS rfl un_27 rfl) (by decide) (fun a hF => ?_)
      refine stp hF (p_move rfl) (by decide) (fun a hF => ?_)
      refine stp hF (p_leno (i := 1) hS rfl un_27 rfl) (by decide) (fun a hF => ?_)
      refine stp hF (p_add (c := w64 ((x3.length : Int) + (x17.length : Int))) rfl rfl rfl) (by decide) (fun a hF => ?_)
      refine stp hF (p_move rfl) (by decide) (fun a hF => ?_)
      refine stp hF (p_neq rfl rfl) (by decide) (fun a hF => ?_)
      refine nilN ?_
      refine xn ?_
      refine cnd hF rfl (fun hc4 => ?_) (fun hc4 => ?_)
      · replace H := hbt hc4 H
        refine sq ?_
        refine rg ?_
        refine stp hF (p_assign rfl) (by decide) (fun a hF => ?_)
        refine nilN ?_
        refine xn ?_
        refine rt ?_
        refine xr ?_
        obtain rfl := hsm H
        replace hS := hS.sel (is := []) (A' := []) rfl
        exact ret1 hF rfl rfl hS ⟨rfl, rfl⟩
      · replace H := hbf hc4 H
        refine skN ?_
        refine xn ?_
        refine sq ?_
        refine rg ?_
        refine ste hF (e_bslice (kd := kTSlot) (et := 32) (ps := []) (vs := []) (cs := []) (xs := ([] : List TSlot)) hS rfl (by intro w; kernel_rfl) rfl (by decide) (Nat.le_of_ble_eq_true rfl) (by exact (Rows.nil _ _ _ _))) (by decide) (fun v8 w a hR hF => ?_)
        have hS : St e s9 w [Ow kTSlot 32 v8 ([] : List TSlot), Ow kTSlot 32 v5 x5, Ow (Kd.int .i64) 3 v4 x17, Ow (Kd.int .i64) 3 v3 x3] := hR
        refine stp hF (p_move rfl) (by decide) (fun a hF => ?_)
        obtain ⟨hq2, H⟩ := hck H
        refine ste hF (e_append (n := 0) hS rfl rfl rfl (hS.src (n := 1) rfl) un_24 ti_32 rfl (by decide) (by decide) (Nat.le_trans (Nat.mul_le_mul_right 64 hq2) (by decide))) (by decide) (fun v9 w a hR hF => ?_)
        have hS : St e s9 w [Ow kTSlot 32 v9 (([] : List TSlot) ++ x5), Ow kTSlot 32 v5 x5, Ow (Kd.int .i64) 3 v4 x17, Ow (Kd.int .i64) 3 v3 x3] := hR
        refine stp hF (p_assign rfl) (by decide) (fun a hF => ?_)
        refine nilN ?_
        refine xn ?_
        obtain ⟨x25, H, HK3⟩ := hb H
        refine sqj (fun a w => ∃ (x4 : (List TSlot)) (v10 : Value) (v11 : Value) , St e s9 w [Ow kTSlot 32 v10 x4, Ow kTSlot 32 v5 x5, Ow (Kd.int .i64) 3 v11 x17, Ow (Kd.int .i64) 3 v3 x3] ∧ Fr 117 a [(3, v5), (4, (.int .i64 (w64 (1 + (x11.tmod 31))))), (5, v3), (6, v11), (9, v10)] ∧ laws_FnGarbage.c6 k x3 x5 x17 x11 x4 = some r) ?_ ?_
        · skip
          refine sq ?_
          refine rg ?_
          refine stp hF (p_assign rfl) (by decide) (fun a hF => ?_)
          refine nilN ?_
          refine xn ?_
          refine blk ?_
          refine loop_ind (fun k2 a w => ∃ (x22 : (List TSlot)) (x23 : Int) (v12 : Value) (v13 : Value) , St e s9 w [Ow kTSlot 32 v12 x22, Ow kTSlot 32 v5 x5, Ow (Kd.int .i64) 3 v13 x17, Ow (Kd.int .i64) 3 v3 x3] ∧ Fr 117 a [(3, v5), (4, (.int .i64 (w64 (1 + (x11.tmod 31))))), (5, v3), (6, v13), (9, v12), (10, (.int .i64 x23))] ∧ laws_FnGarbage.l3 x17 k2 x22 x23 = some x25) k ?_ ?_ ?_
          · skip
            exact ⟨(([] : List TSlot) ++ x5), 0, v9, v4, hS, hF.cut ⟨rfl, rfl, rfl, rfl, rfl, rfl, trivial⟩, H⟩
          · clear H hS hF
            rintro a w ⟨x22, x23, v12, v13, hS, hF, H⟩
            exact absurd (show none = some _ from H) (by simp)
          · clear H hS hF
            rintro k2 a w ⟨x22, x23, v12, v13, hS, hF, H⟩
            rw [laws_FnGarbage.l3.eq_2] at H
            refine sq ?_
            refine sq ?_
            refine rg ?_
            refine stp hF (p_move rfl) (by decide) (fun a hF => ?_)
            refine stp hF (p_move rfl) (by decide) (fun a hF => ?_)
            refine stp hF (p_leno (i := 2) hS rfl un_27 rfl) (by decide) (fun a hF => ?_)
            refine stp hF (p_lss rfl rfl) (by decide) (fun a hF => ?_)
            refine nilN ?_
            refine xn ?_
            refine cnd hF rfl (fun hc5 => ?_) (fun hc5 => ?_)
            · replace H := hbt hc5 H
              refine skN ?_
              refine xn ?_
              refine sq ?_
              refine blk ?_
              refine rg ?_
              refine stp hF (p_move rfl) (by decide) (fun a hF => ?_)
              refine stp hF (p_move rfl) (by decide) (fun a hF => ?_)
              refine stp hF (p_move rfl) (by decide) (fun a hF => ?_)
              obtain ⟨hq3, H⟩ := hck H
              obtain ⟨b2, o2, q2, rfl, p3⟩ := p_idxo (n := 2) (i := x23) hS rfl un_27 ti_3 hq3.1 hq3.2
              refine stp hF (p3 rfl rfl) (by decide) (fun a hF => ?_)
              obtain ⟨u2, h5, p4⟩ := p_ldo_one (P := Try.prog) (n := 2) hS rfl (Lens.id _) hq3.1 hq3.2 rfl ia_3 rfl
              obtain rfl : u2 = .int .i64 (rd x17 x23) := by injection h5
              refine stp hF (p4 rfl) (by decide) (fun a hF => ?_)
              refine stp hF (p_build (ps := []) (vs := []) (v := (.agg #[(.bool false), (.int .i64 0), (.slice none 0 0), (.slice none 0 0)])) rfl (by intro w; kernel_rfl)) (by decide) (fun a hF => ?_)
              obtain ⟨hq4, H⟩ := hck H
              obtain ⟨b3, o3, q3, rfl, p5⟩ := p_idxo (n := 0) (i := (rd x17 x23)) hS rfl un_24 ti_32 hq4.1 hq4.2
              refine stp hF (p5 rfl rfl) (by decide) (fun a hF => ?_)
              refine ste0 hF (e_sto (n := 0) (c := (⟨false, (⟨0, ([] : List Int), ([] : List Int)⟩ : TObj)⟩ : TSlot)) hS rfl (Lens.id _) hq4.1 hq4.2 rfl rfl rfl ti_32 rfl (kTSlot_mk (x := (⟨false, (⟨0, ([] : List Int), ([] : List Int)⟩ : TObj)⟩ : TSlot)) (Sl.nil _ _ _ _) (Sl.nil _ _ _ _))) (fun v w a hR hF => ?_)
              have hS : St e s9 w [Ow kTSlot 32 (.slice (some ⟨b3, o3, none⟩) x22.length q3) (wr x22 (rd x17 x23) (⟨false, (⟨0, ([] : List Int), ([] : List Int)⟩ : TObj)⟩ : TSlot)), Ow kTSlot 32 v5 x5, Ow (Kd.int .i64) 3 (.slice (some ⟨b2, o2, none⟩) x17.length q2) x17, Ow (Kd.int .i64) 3 v3 x3] := hR
              refine nilN ?_
              refine bn (xn ?_)
              refine rg ?_
              refine stp hF (p_move rfl) (by decide) (fun a hF => ?_)
              refine stp hF (p_add (c := w64 (x23 + 1)) rfl rfl rfl) (by decide) (fun a hF => ?_)
              refine stp hF (p_assign rfl) (by decide) (fun a hF => ?_)
              refine nilN ?_
              refine xn ?_
              exact ⟨(wr x22 (rd x17 x23) (⟨false, (⟨0, ([] : List Int), ([] : List Int)⟩ : TObj)⟩ : TSlot)), (w64 (x23 + 1)), (.slice (some ⟨b3, o3, none⟩) x22.length q3), (.slice (some ⟨b2, o2, none⟩) x17.length q2), hS, hF.cut ⟨rfl, rfl, rfl, rfl, rfl, rfl, trivial⟩, H⟩
            · replace H := hbf hc5 H
              refine exi ?_
              refine xe (xe (hit (xn ?_)))
              obtain rfl := hsm H
              exact ⟨x22, v12, v13, hS, hF.cut ⟨rfl, rfl, rfl, rfl, rfl, trivial⟩, HK3⟩
        · clear H HK3 hS hF
          rintro a w ⟨x4, v10, v11, hS, hF, H⟩
          unfold laws_FnGarbage.c6 at H
          obtain ⟨x21, H, HK4⟩ := hb H
          refine sqj (fun a w => ∃ (s11 : HF) (v14 : Value) (v15 : Value) , St e s11 w [Ow kTSlot 32 v10 x4, Ow kTSlot 32 v14 x5, Ow (Kd.int .i64) 3 v11 x17, Ow (Kd.int .i64) 3 v15 x3] ∧ Fr 117 a [(3, v14), (4, (.int .i64 (w64 (1 + (x11.tmod 31))))), (5, v15), (9, v10)] ∧ Sub s9 s11 ∧ laws_FnGarbage.c4 k x4 x11 x3 x5 = some r) ?_ ?_
          · skip
            refine sq ?_
            refine rg ?_
            refine stp hF (p_assign rfl) (by decide) (fun a hF => ?_)
            refine nilN ?_
            refine xn ?_
            refine blk ?_
            refine loop_ind (fun k3 a w => ∃ (x16 : Int) (s12 : HF) (v16 : Value) (v17 : Value) , St e s12 w [Ow kTSlot 32 v10 x4, Ow kTSlot 32 v16 x5, Ow (Kd.int .i64) 3 v11 x17, Ow (Kd.int .i64) 3 v17 x3] ∧ Fr 117 a [(3, v16), (4, (.int .i64 (w64 (1 + (x11.tmod 31))))), (5, v17), (6, v11), (9, v10), (11, (.int .i64 x16))] ∧ Sub s9 s12 ∧ laws_FnGarbage.l1 x3 x5 x17 k3 x16 = some x21) k ?_ ?_ ?_
            · skip
              exact ⟨0, s9, v5, v3, hS, hF.cut ⟨rfl, rfl, rfl, rfl, rfl, rfl, trivial⟩, (Sub.refl _), H⟩
            · clear H hS hF
              rintro a w ⟨x16, s12, v16, v17, hS, hF, hg8, H⟩
              exact absurd (show none = some _ from H) (by simp)
            · clear H hS hF
              rintro k3 a w ⟨x16, s12, v16, v17, hS, hF, hg8, H⟩
              rw [laws_FnGarbage.l1.eq_2] at H
              refine sq ?_
              refine sq ?_
              refine rg ?_
              refine stp hF (p_move rfl) (by decide) (fun a hF => ?_)
              refine stp hF (p_move rfl) (by decide) (fun a hF => ?_)
              refine stp hF (p_leno (i := 3) hS rfl un_27 rfl) (by decide) (fun a hF => ?_)
              refine stp hF (p_lss rfl rfl) (by decide) (fun a hF => ?_)
              refine nilN ?_
              refine xn ?_
              refine cnd hF rfl (fun hc6 => ?_) (fun hc6 => ?_)
              · replace H := hbt hc6 H
                refine skN ?_
                refine xn ?_
                obtain ⟨x20, H, HK5⟩ := hb H
                refine sqj (fun a w => ∃ (s13 : HF) (v18 : Value) (v19 : Value) , St e s13 w [Ow kTSlot 32 v10 x4, Ow kTSlot 32 v18 x5, Ow (Kd.int .i64) 3 v11 x17, Ow (Kd.int .i64) 3 v19 x3] ∧ Fr 117 a [(3, v18), (4, (.int .i64 (w64 (1 + (x11.tmod 31))))), (5, v19), (6, v11), (9, v10), (11, (.int .i64 x16))] ∧ Sub s12 s13 ∧ laws_FnGarbage.c5 k3 (laws_FnGarbage.l1 x3 x5 x17 k3) x16 = some x21) ?_ ?_
                · skip
                  refine blk ?_
                  refine sq ?_
                  refine rg ?_
                  refine stp hF (p_move rfl) (by decide) (fun a hF => ?_)
                  refine stp hF (p_move rfl) (by decide) (fun a hF => ?_)
                  refine stp hF (p_move rfl) (by decide) (fun a hF => ?_)
                  obtain ⟨hq5, H⟩ := hck H
                  obtain ⟨b4, o4, q4, rfl, p6⟩ := p_idxo (n := 3) (i := x16) hS rfl un_27 ti_3 hq5.1 hq5.2
                  refine stp hF (p6 rfl rfl) (by decide) (fun a hF => ?_)
                  obtain ⟨u3, h6, p7⟩ := p_ldo_one (P := Try.prog) (n := 3) hS rfl (Lens.id _) hq5.1 hq5.2 rfl ia_3 rfl
                  obtain rfl : u3 = .int .i64 (rd x3 x16) := by injection h6
                  refine stp hF (p7 rfl) (by decide) (fun a hF => ?_)
                  obtain ⟨hq6, H⟩ := hck H
                  obtain ⟨b5, o5, q5, rfl, p8⟩ := p_idxo (n := 1) (i := (rd x3 x16)) hS rfl un_24 ti_32 hq6.1 hq6.2
                  refine stp hF (p8 rfl rfl) (by decide) (fun a hF => ?_)
                  refine stp hF (p_fldb (o' := ((o5 + (rd x3 x16).toNat * kTSlot.sz) + 1)) rfl fi_32_1 rfl) (by decide) (fun a hF => ?_)
                  refine stp hF (p_fldb (o' := (((o5 + (rd x3 x16).toNat * kTSlot.sz) + 1) + 2)) rfl fi_30_2 rfl) (by decide) (fun a hF => ?_)
                  obtain ⟨u4, h7, p9⟩ := p_ldo_one (P := Try.prog) (n := 1) hS rfl (kTSlot_O.comp kTObj_Refs) hq6.1 hq6.2 rfl ia_27 rfl
                  obtain ⟨v20, rfl, h8⟩ : ∃ v, v = u4 ∧ Sl (Kd.int .i64) s12 v ((rd x5 (rd x3 x16)).O.Refs) := by obtain ⟨v, e, h⟩ := h7; exact ⟨v, by injection e with e; exact e.symm, h⟩
                  refine stp hF (p9 rfl) (by decide) (fun a hF => ?_)
                  refine stp hF (p_assign rfl) (by decide) (fun a hF => ?_)
                  refine nilN ?_
                  refine xn ?_
                  refine sq ?_
                  refine rg ?_
                  refine stp hF (p_assign rfl) (by decide) (fun a hF => ?_)
                  refine nilN ?_
                  refine xn ?_
                  refine blk ?_
                  refine loop_ind (fun k4 a w => ∃ (x18 : Int) (s14 : HF) , St e s14 w [Ow kTSlot 32 v10 x4, Ow kTSlot 32 (.slice (some ⟨b5, o5, none⟩) x5.length q5) x5, Ow (Kd.int .i64) 3 v11 x17, Ow (Kd.int .i64) 3 (.slice (some ⟨b4, o4, none⟩) x3.length q4) x3] ∧ Fr 117 a [(3, (.slice (some ⟨b5, o5, none⟩) x5.length q5)), (4, (.int .i64 (w64 (1 + (x11.tmod 31))))), (5, (.slice (some ⟨b4, o4, none⟩) x3.length q4)), (6, v11), (9, v10), (11, (.int .i64 x16)), (12, v20), (13, (.int .i64 x18))] ∧ Sub s12 s14 ∧ laws_FnGarbage.l2 x5 x3 x16 x17 k4 x18 = some x20) k3 ?_ ?_ ?_
                  · skip
                    exact ⟨0, s12, hS, hF.cut ⟨rfl, rfl, rfl, rfl, rfl, rfl, rfl, rfl, trivial⟩, (Sub.refl _), H⟩
                  · clear H hS hF
                    rintro a w ⟨x18, s14, hS, hF, hg9, H⟩
                    exact absurd (show none = some _ from H) (by simp)
                  · clear H hS hF
                    rintro k4 a w ⟨x18, s14, hS, hF, hg9, H⟩
                    rw [laws_FnGarbage.l2.eq_2] at H
                    refine sq ?_
                    refine sq ?_
                    refine rg ?_
                    refine stp hF (p_move rfl) (by decide) (fun a hF => ?_)
                    refine stp hF (p_move rfl) (by decide) (fun a hF => ?_)
                    refine stp hF (p_lenr un_27 rfl (h8.mono hg9)) (by decide) (fun a hF => ?_)
                    refine stp hF (p_lss rfl rfl) (by decide) (fun a hF => ?_)
                    refine nilN ?_
                    refine xn ?_
                    refine cnd hF rfl (fun hc7 => ?_) (fun hc7 => ?_)
                    · replace H := hbt hc7 H
                      refine skN ?_
                      refine xn ?_
                      refine sq ?_
                      refine blk ?_
                      refine sq ?_
                      refine rg ?_
                      refine stp hF (p_move rfl) (by decide) (fun a hF => ?_)
                      refine stp hF (p_move rfl) (by decide) (fun a hF => ?_)
                      refine stp hF (p_move rfl) (by decide) (fun a hF => ?_)
                      obtain ⟨hq7, H⟩ := hck H
                      obtain ⟨ad1, h9, p10⟩ := p_idxr (P := Try.prog) (i := x18) (h8.mono hg9) un_27 ti_3 hq7.1 hq7.2
                      refine stp hF (p10 rfl rfl) (by decide) (fun a hF => ?_)
                      refine stp hF (p_ldr_int rfl hS h9 ia_3) (by decide) (fun a hF => ?_)
                      replace hS := hS.sel (is := [2, 0, 0, 0]) (A' := [Ow (Kd.int .i64) 3 v11 x17, Ow kTSlot 32 v10 x4, Ow kTSlot 32 (.slice (some ⟨b5, o5, none⟩) x5.length q5) x5, Ow (Kd.int .i64) 3 (.slice (some ⟨b4, o4, none⟩) x3.length q4) x3]) rfl
                      obtain ⟨s15, hg10, hl3, hcall3⟩ := St.lend (P := Try.prog) (Bs := [Ow (Kd.int .i64) 3 v11 x17]) (A := []) (B := [Ow kTSlot 32 v10 x4, Ow kTSlot 32 (.slice (some ⟨b5, o5, none⟩) x5.length q5) x5, Ow (Kd.int .i64) 3 (.slice (some ⟨b4, o4, none⟩) x3.length q4) x3]) hS
                      obtain ⟨h10, hl3⟩ := hl3.ow hg10
                      obtain ⟨x19, hx6, H⟩ := hb H
                      refine ste hF (e_call (fst := []) (vs := [v11, (.int .i64 (rd ((rd x5 (rd x3 x16)).O.Refs) x18))]) (cap := []) rfl rfl go_10 (hcall3 (laws_among.spec k4 _ _ x17 (rd ((rd x5 (rd x3 x16)).O.Refs) x18) v11 h10 _ hx6) (by rintro v s1 A1 ⟨rfl, rfl⟩; exact trivial))) (by decide) (fun v w a hR hF => ?_)
                      obtain ⟨s16, s17, A7, hg11, hS, hR⟩ := hR
                      obtain ⟨hv6, rfl⟩ := hR; obtain rfl := hv6.symm
                      have hS : St e s16 w [Ow (Kd.int .i64) 3 v11 x17, Ow kTSlot 32 v10 x4, Ow kTSlot 32 (.slice (some ⟨b5, o5, none⟩) x5.length q5) x5, Ow (Kd.int .i64) 3 (.slice (some ⟨b4, o4, none⟩) x3.length q4) x3] := hS
                      refine nilN ?_
                      refine xn ?_
                      refine cnd hF rfl (fun hc8 => ?_) (fun hc8 => ?_)
                      · replace H := hbt hc8 H
                        refine sq ?_
                        refine rg ?_
                        refine stp hF (p_assign rfl) (by decide) (fun a hF => ?_)
                        refine nilN ?_
                        refine xn ?_
                        refine rt ?_
                        refine br (xr (xr (br (br (xr (xr (br (xr ?_))))))))
                        obtain rfl := hsm H
                        have H := hon1 HK5
                        obtain rfl := hsm H
                        have H := hon1 HK4
                        obtain rfl := hsm H
                        replace hS := hS.sel (is := []) (A' := []) rfl
                        exact ret1 hF rfl rfl hS ⟨rfl, rfl⟩
                      · replace H := hbf hc8 H
                        refine skN ?_
                        refine bn (xn ?_)
                        refine rg ?_
                        refine stp hF (p_move rfl) (by decide) (fun a hF => ?_)
                        refine stp hF (p_add (c := w64 (x18 + 1)) rfl rfl rfl) (by decide) (fun a hF => ?_)
                        refine stp hF (p_assign rfl) (by decide) (fun a hF => ?_)
                        refine nilN ?_
                        refine xn ?_
                        replace hS := hS.sel (is := [1, 1, 0, 0]) (A' := [Ow kTSlot 32 v10 x4, Ow kTSlot 32 (.slice (some ⟨b5, o5, none⟩) x5.length q5) x5, Ow (Kd.int .i64) 3 v11 x17, Ow (Kd.int .i64) 3 (.slice (some ⟨b4, o4, none⟩) x3.length q4) x3]) rfl
                        exact ⟨(w64 (x18 + 1)), s16, hS, hF.cut ⟨rfl, rfl, rfl, rfl, rfl, rfl, rfl, rfl, trivial⟩, (hg9.trans hg11), H⟩
                    · replace H := hbf hc7 H
                      refine exi ?_
                      refine xe (xe (hit (bn (xn ?_))))
                      obtain rfl := hsm H
                      exact ⟨s14, (.slice (some ⟨b5, o5, none⟩) x5.length q5), (.slice (some ⟨b4, o4, none⟩) x3.length q4), hS, hF.cut ⟨rfl, rfl, rfl, rfl, rfl, rfl, trivial⟩, hg9, HK5⟩
                · clear H HK5 hS hF
                  rintro a w ⟨s13, v18, v19, hS, hF, hg12, H⟩
                  unfold laws_FnGarbage.c5 at H
                  refine rg ?_
                  refine stp hF (p_move rfl) (by decide) (fun a hF => ?_)
                  refine stp hF (p_add (c := w64 (x16 + 1)) rfl rfl rfl) (by decide) (fun a hF => ?_)
                  refine stp hF (p_assign rfl) (by decide) (fun a hF => ?_)
                  refine nilN ?_
                  refine xn ?_
                  exact ⟨(w64 (x16 + 1)), s13, v18, v19, hS, hF.cut ⟨rfl, rfl, rfl, rfl, rfl, rfl, trivial⟩, (hg8.trans hg12), H⟩
              · replace H := hbf hc6 H
                refine exi ?_
                refine xe (xe (hit (xn ?_)))
                obtain rfl := hsm H
                exact ⟨s12, v16, v17, hS, hF.cut ⟨rfl, rfl, rfl, rfl, trivial⟩, hg8, HK4⟩
          · clear H HK4 hS hF
            rintro a w ⟨s11, v14, v15, hS, hF, hg13, H⟩
            unfold laws_FnGarbage.c4 at H
            refine sq ?_
            refine rg ?_
            refine stp hF (p_move rfl) (by decide) (fun a hF => ?_)
            refine stp hF (p_move rfl) (by decide) (fun a hF => ?_)
            obtain ⟨s18, hg14, hl4, hcall4⟩ := St.lend (P := Try.prog) (Bs := [Ow kTSlot 32 v10 x4]) (A := []) (B := [Ow kTSlot 32 v14 x5, Ow (Kd.int .i64) 3 v11 x17, Ow (Kd.int .i64) 3 v15 x3]) hS
            obtain ⟨h11, hl4⟩ := hl4.ow hg14
            obtain ⟨x12, hx7, H⟩ := hb H
            refine ste hF (e_call (fst := []) (vs := [v10, (.int .i64 (w64 (1 + (x11.tmod 31))))]) (cap := []) rfl rfl go_8 (hcall4 (impl_Reach.spec k _ _ x4 (w64 (1 + (x11.tmod 31))) v10 h11 _ hx7) (by rintro v s1 A1 ⟨_, rfl, rfl⟩; exact ⟨Ow_flat flat_int _ _ _, trivial⟩))) (by decide) (fun v w a hR hF => ?_)
            obtain ⟨s19, s20, A8, hg15, hS, hR⟩ := hR
            obtain ⟨v21, hv7, rfl⟩ := hR; obtain rfl := hv7.symm
            have hS : St e s19 w [Ow kTSlot 32 v10 x4, Ow (Kd.int .i64) 3 v21 x12, Ow kTSlot 32 v14 x5, Ow (Kd.int .i64) 3 v11 x17, Ow (Kd.int .i64) 3 v15 x3] := hS
            refine stp hF (p_move rfl) (by decide) (fun a hF => ?_)
            replace hS := hS.sel (is := [1, 3, 0, 0, 0]) (A' := [Ow (Kd.int .i64) 3 v21 x12, Ow (Kd.int .i64) 3 v15 x3, Ow kTSlot 32 v10 x4, Ow kTSlot 32 v14 x5, Ow (Kd.int .i64) 3 v11 x17]) rfl
            obtain ⟨s21, hg16, hl5, hcall5⟩ := St.lend (P := Try.prog) (Bs := [Ow (Kd.int .i64) 3 v21 x12, Ow (Kd.int .i64) 3 v15 x3]) (A := []) (B := [Ow kTSlot 32 v10 x4, Ow kTSlot 32 v14 x5, Ow (Kd.int .i64) 3 v11 x17]) hS
            obtain ⟨h12, hl5⟩ := hl5.ow hg16
            obtain ⟨h13, hl5⟩ := hl5.ow hg16
            obtain ⟨x13, hx8, H⟩ := hb H
            refine ste hF (e_call (fst := []) (vs := [v21, v15]) (cap := []) rfl rfl go_11 (hcall5 (laws_sameInts.spec k _ _ x12 x3 v21 v15 h12 h13 _ hx8) (by rintro v s1 A1 ⟨rfl, rfl⟩; exact trivial))) (by decide) (fun v w a hR hF => ?_)
            obtain ⟨s22, s23, A9, hg17, hS, hR⟩ := hR
            obtain ⟨hv8, rfl⟩ := hR; obtain rfl := hv8.symm
            have hS : St e s22 w [Ow (Kd.int .i64) 3 v21 x12, Ow (Kd.int .i64) 3 v15 x3, Ow kTSlot 32 v10 x4, Ow kTSlot 32 v14 x5, Ow (Kd.int .i64) 3 v11 x17] := hS
            refine stp hF (p_move rfl) (by decide) (fun a hF => ?_)
            obtain ⟨x15, H, HK6⟩ := hb H
            refine cutj 6 (fun a w => ∃ (x6 : Bool) (s24 : HF) , St e s24 w [Ow (Kd.int .i64) 3 v21 x12, Ow (Kd.int .i64) 3 v15 x3, Ow kTSlot 32 v10 x4, Ow kTSlot 32 v14 x5, Ow (Kd.int .i64) 3 v11 x17] ∧ Fr 117 a [(3, v14), (5, v15), (9, v10), (102, (.bool x6))] ∧ Sub s22 s24 ∧ laws_FnGarbage.c3 k x3 x4 x5 x6 = some r) rfl rfl ?_ ?_
            · rcases Bool.eq_false_or_eq_true (x13) with hc9 | hc9
              · replace H := hbt hc9 H
                refine gonE (j := 5) hF rfl rfl hc9 ?_
                refine stp hF (p_move rfl) (by decide) (fun a hF => ?_)
                refine gonE (j := 5) hF rfl rfl hc9 ?_
                refine stp hF (p_move rfl) (by decide) (fun a hF => ?_)
                replace hS := hS.sel (is := [2, 0, 0, 0, 0]) (A' := [Ow kTSlot 32 v10 x4, Ow (Kd.int .i64) 3 v21 x12, Ow (Kd.int .i64) 3 v15 x3, Ow kTSlot 32 v14 x5, Ow (Kd.int .i64) 3 v11 x17]) rfl
                obtain ⟨s25, hg18, hl6, hcall6⟩ := St.lend (P := Try.prog) (Bs := [Ow kTSlot 32 v10 x4]) (A := []) (B := [Ow (Kd.int .i64) 3 v21 x12, Ow (Kd.int .i64) 3 v15 x3, Ow kTSlot 32 v14 x5, Ow (Kd.int .i64) 3 v11 x17]) hS
                obtain ⟨h14, hl6⟩ := hl6.ow hg18
                obtain ⟨x14, hx9, H⟩ := hb H
                refine gonE (j := 5) hF rfl rfl hc9 ?_
                refine ste hF (e_call (fst := []) (vs := [v10, (.int .i64 (w64 (1 + (x11.tmod 31))))]) (cap := []) rfl rfl go_9 (hcall6 (impl_Garbage.spec k _ _ x4 (w64 (1 + (x11.tmod 31))) v10 h14 _ hx9) (by rintro v s1 A1 ⟨_, rfl, rfl⟩; exact ⟨Ow_flat flat_int _ _ _, trivial⟩))) (by decide) (fun v w a hR hF => ?_)
                obtain ⟨s26, s27, A10, hg19, hS, hR⟩ := hR
                obtain ⟨v22, hv9, rfl⟩ := hR; obtain rfl := hv9.symm
                have hS : St e s26 w [Ow kTSlot 32 v10 x4, Ow (Kd.int .i64) 3 v22 x14, Ow (Kd.int .i64) 3 v21 x12, Ow (Kd.int .i64) 3 v15 x3, Ow kTSlot 32 v14 x5, Ow (Kd.int .i64) 3 v11 x17] := hS
                refine gonE (j := 5) hF rfl rfl hc9 ?_
                refine stp hF (p_leno (i := 1) hS rfl un_27 rfl) (by decide) (fun a hF => ?_)
                refine gonE (j := 5) hF rfl rfl hc9 ?_
                refine stp hF (p_eql rfl rfl) (by decide) (fun a hF => ?_)
                refine stp hF (p_pickT rfl hc9 rfl) (by decide) (fun a hF => ?_)
                refine nilN ?_
                refine xn ?_
                obtain rfl := hsm H
                replace hS := hS.sel (is := [2, 2, 0, 1, 1]) (A' := [Ow (Kd.int .i64) 3 v21 x12, Ow (Kd.int .i64) 3 v15 x3, Ow kTSlot 32 v10 x4, Ow kTSlot 32 v14 x5, Ow (Kd.int .i64) 3 v11 x17]) rfl
                exact ⟨(decide ((x14.length : Int) = 0)), s26, hS, hF.cut ⟨rfl, rfl, rfl, rfl, trivial⟩, hg19, HK6⟩
              · replace H := hbf hc9 H
                refine gofD (j := 5) hF rfl rfl (by rw [hc9]; decide) (by decide) (fun a hF => ?_)
                refine gofD (j := 5) hF rfl rfl (by rw [hc9]; decide) (by decide) (fun a hF => ?_)
                refine gofD (j := 5) hF rfl rfl (by rw [hc9]; decide) (by decide) (fun a hF => ?_)
                refine gofD (j := 5) hF rfl rfl (by rw [hc9]; decide) (by decide) (fun a hF => ?_)
                refine gofD (j := 5) hF rfl rfl (by rw [hc9]; decide) (by decide) (fun a hF => ?_)
                refine stp hF (p_pickF rfl hc9 rfl) (by decide) (fun a hF => ?_)
                refine nilN ?_
                refine xn ?_
                obtain rfl := hsm H
                exact ⟨false, s22, hS, hF.cut ⟨rfl, rfl, rfl, rfl, trivial⟩, (Sub.refl _), HK6⟩
            · clear H HK6 hS hF
              rintro a w ⟨x6, s24, hS, hF, hg20, H⟩
              unfold laws_FnGarbage.c3 at H
              refine stp hF (p_move rfl) (by decide) (fun a hF => ?_)
              obtain ⟨x10, H, HK7⟩ := hb H
              refine cutj 13 (fun a w => ∃ (x1 : Bool) (s28 : HF) , St e s28 w [Ow (Kd.int .i64) 3 v21 x12, Ow (Kd.int .i64) 3 v15 x3, Ow kTSlot 32 v10 x4, Ow kTSlot 32 v14 x5, Ow (Kd.int .i64) 3 v11 x17] ∧ Fr 117 a [(116, (.bool x1))] ∧ Sub s24 s28 ∧ laws_FnGarbage.c1 k x1 = some r) rfl rfl ?_ ?_
              · rcases Bool.eq_false_or_eq_true (x6) with hc10 | hc10
                · replace H := hbt hc10 H
                  refine gonE (j := 12) hF rfl rfl hc10 ?_
                  refine stp hF (p_move rfl) (by decide) (fun a hF => ?_)
                  refine gonE (j := 12) hF rfl rfl hc10 ?_
                  refine stp hF (p_leno (i := 1) hS rfl un_27 rfl) (by decide) (fun a hF => ?_)
                  refine gonE (j := 12) hF rfl rfl hc10 ?_
                  refine stp hF (p_eql rfl rfl) (by decide) (fun a hF => ?_)
                  refine gonE (j := 12) hF rfl rfl hc10 ?_
                  refine stp hF (p_move rfl) (by decide) (fun a hF => ?_)
                  obtain ⟨x9, H, HK8⟩ := hb H
                  refine cutj 8 (fun a w => ∃ (x2 : Bool) (s29 : HF) , St e s29 w [Ow (Kd.int .i64) 3 v21 x12, Ow (Kd.int .i64) 3 v15 x3, Ow kTSlot 32 v10 x4, Ow kTSlot 32 v14 x5, Ow (Kd.int .i64) 3 v11 x17] ∧ Fr 117 a [(103, (.bool x6)), (115, (.bool x2))] ∧ Sub s24 s29 ∧ laws_FnGarbage.c2 k x2 = some x10) rfl rfl ?_ ?_
                  · rcases Bool.eq_false_or_eq_true (decide ((x3.length : Int) = 0)) with hc11 | hc11
                    · replace H := hbt hc11 H
                      refine gofD (j := 16) hF rfl rfl (by rw [hc11]; decide) (by decide) (fun a hF => ?_)
                      refine gofD (j := 16) hF rfl rfl (by rw [hc11]; decide) (by decide) (fun a hF => ?_)
                      refine gofD (j := 16) hF rfl rfl (by rw [hc11]; decide) (by decide) (fun a hF => ?_)
                      refine gofD (j := 16) hF rfl rfl (by rw [hc11]; decide) (by decide) (fun a hF => ?_)
                      refine gofD (j := 16) hF rfl rfl (by rw [hc11]; decide) (by decide) (fun a hF => ?_)
                      refine gofD (j := 16) hF rfl rfl (by rw [hc11]; decide) (by decide) (fun a hF => ?_)
                      refine gofD (j := 16) hF rfl rfl (by rw [hc11]; decide) (by decide) (fun a hF => ?_)
                      refine gonE (j := 12) hF rfl rfl hc10 ?_
                      refine stp hF (p_pickT rfl hc11 rfl) (by decide) (fun a hF => ?_)
                      refine nilN ?_
                      refine xn ?_
                      obtain rfl := hsm H
                      exact ⟨true, s24, hS, hF.cut ⟨rfl, rfl, trivial⟩, (Sub.refl _), HK8⟩
                    · replace H := hbf hc11 H
                      refine gonE (j := 16) hF rfl rfl hc11 ?_
                      refine stp hF (p_move rfl) (by decide) (fun a hF => ?_)
                      replace hS := hS.sel (is := [2, 0, 0, 0, 0]) (A' := [Ow kTSlot 32 v10 x4, Ow (Kd.int .i64) 3 v21 x12, Ow (Kd.int .i64) 3 v15 x3, Ow kTSlot 32 v14 x5, Ow (Kd.int .i64) 3 v11 x17]) rfl
                      obtain ⟨s30, hg21, hl7, hcall7⟩ := St.lend (P := Try.prog) (Bs := [Ow kTSlot 32 v10 x4]) (A := []) (B := [Ow (Kd.int .i64) 3 v21 x12, Ow (Kd.int .i64) 3 v15 x3, Ow kTSlot 32 v14 x5, Ow (Kd.int .i64) 3 v11 x17]) hS
                      obtain ⟨h15, hl7⟩ := hl7.ow hg21
                      obtain ⟨x7, hx10, H⟩ := hb H
                      refine gonE (j := 16) hF rfl rfl hc11 ?_
                      refine ste hF (e_call (fst := []) (vs := [v10]) (cap := []) rfl rfl go_12 (hcall7 (impl_Dangling.spec k _ _ x4 v10 h15 _ hx10) (by rintro v s1 A1 ⟨_, rfl, rfl⟩; exact ⟨Ow_flat (flat_arr flat_int) _ _ _, trivial⟩))) (by decide) (fun v w a hR hF => ?_)
                      obtain ⟨s31, s32, A11, hg22, hS, hR⟩ := hR
                      obtain ⟨v23, hv10, rfl⟩ := hR; obtain rfl := hv10.symm
                      have hS : St e s31 w [Ow kTSlot 32 v10 x4, Ow (Kd.arr 2 (Kd.int .i64)) 47 v23 x7, Ow (Kd.int .i64) 3 v21 x12, Ow (Kd.int .i64) 3 v15 x3, Ow kTSlot 32 v14 x5, Ow (Kd.int .i64) 3 v11 x17] := hS
                      refine gonE (j := 16) hF rfl rfl hc11 ?_
                      refine stp hF (p_leno (i := 1) hS rfl un_35 rfl) (by decide) (fun a hF => ?_)
                      refine gonE (j := 16) hF rfl rfl hc11 ?_
                      refine stp hF (p_move rfl) (by decide) (fun a hF => ?_)
                      replace hS := hS.sel (is := [4, 0, 0, 0, 0, 0]) (A' := [Ow kTSlot 32 v14 x5, Ow kTSlot 32 v10 x4, Ow (Kd.arr 2 (Kd.int .i64)) 47 v23 x7, Ow (Kd.int .i64) 3 v21 x12, Ow (Kd.int .i64) 3 v15 x3, Ow (Kd.int .i64) 3 v11 x17]) rfl
                      obtain ⟨s33, hg23, hl8, hcall8⟩ := St.lend (P := Try.prog) (Bs := [Ow kTSlot 32 v14 x5]) (A := []) (B := [Ow kTSlot 32 v10 x4, Ow (Kd.arr 2 (Kd.int .i64)) 47 v23 x7, Ow (Kd.int .i64) 3 v21 x12, Ow (Kd.int .i64) 3 v15 x3, Ow (Kd.int .i64) 3 v11 x17]) hS
                      obtain ⟨h16, hl8⟩ := hl8.ow hg23
                      obtain ⟨x8, hx11, H⟩ := hb H
                      refine gonE (j := 16) hF rfl rfl hc11 ?_
                      refine ste hF (e_call (fst := []) (vs := [v14]) (cap := []) rfl rfl go_12 (hcall8 (impl_Dangling.spec k _ _ x5 v14 h16 _ hx11) (by rintro v s1 A1 ⟨_, rfl, rfl⟩; exact ⟨Ow_flat (flat_arr flat_int) _ _ _, trivial⟩))) (by decide) (fun v w a hR hF => ?_)
                      obtain ⟨s34, s35, A12, hg24, hS, hR⟩ := hR
                      obtain ⟨v24, hv11, rfl⟩ := hR; obtain rfl := hv11.symm
                      have hS : St e s34 w [Ow kTSlot 32 v14 x5, Ow (Kd.arr 2 (Kd.int .i64)) 47 v24 x8, Ow kTSlot 32 v10 x4, Ow (Kd.arr 2 (Kd.int .i64)) 47 v23 x7, Ow (Kd.int .i64) 3 v21 x12, Ow (Kd.int .i64) 3 v15 x3, Ow (Kd.int .i64) 3 v11 x17] := hS
                      refine gonE (j := 16) hF rfl rfl hc11 ?_
                      refine stp hF (p_leno (i := 1) hS rfl un_35 rfl) (by decide) (fun a hF => ?_)
                      refine gonE (j := 16) hF rfl rfl hc11 ?_
                      refine stp hF (p_leq rfl rfl) (by decide) (fun a hF => ?_)
                      refine gonE (j := 12) hF rfl rfl hc10 ?_
                      refine stp hF (p_pickF rfl hc11 rfl) (by decide) (fun a hF => ?_)
                      refine nilN ?_
                      refine xn ?_
                      obtain rfl := hsm H
                      replace hS := hS.sel (is := [4, 4, 2, 0, 2]) (A' := [Ow (Kd.int .i64) 3 v21 x12, Ow (Kd.int .i64) 3 v15 x3, Ow kTSlot 32 v10 x4, Ow kTSlot 32 v14 x5, Ow (Kd.int .i64) 3 v11 x17]) rfl
                      exact ⟨(decide ((x7.length : Int) ≤ (x8.length : Int))), s34, hS, hF.cut ⟨rfl, rfl, trivial⟩, (hg22.trans hg24), HK8⟩
                  · clear H HK8 hS hF
                    rintro a w ⟨x2, s29, hS, hF, hg25, H⟩
                    unfold laws_FnGarbage.c2 at H
                    refine stp hF (p_pickT rfl hc10 rfl) (by decide) (fun a hF => ?_)
                    refine nilN ?_
                    refine xn ?_
                    obtain rfl := hsm H
                    exact ⟨x2, s29, hS, hF.cut ⟨rfl, trivial⟩, hg25, HK7⟩
                · replace H := hbf hc10 H
                  refine gofD (j := 12) hF rfl rfl (by rw [hc10]; decide) (by decide) (fun a hF => ?_)
                  refine gofD (j := 12) hF rfl rfl (by rw [hc10]; decide) (by decide) (fun a hF => ?_)
                  refine gofD (j := 12) hF rfl rfl (by rw [hc10]; decide) (by decide) (fun a hF => ?_)
                  refine gofD (j := 12) hF rfl rfl (by rw [hc10]; decide) (by decide) (fun a hF => ?_)
                  refine gofU (j := 16) hF rfl rfl (by decide) (fun a hF => ?_)
                  refine gofU (j := 16) hF rfl rfl (by decide) (fun a hF => ?_)
                  refine gofU (j := 16) hF rfl rfl (by decide) (fun a hF => ?_)
                  refine gofU (j := 16) hF rfl rfl (by decide) (fun a hF => ?_)
                  refine gofU (j := 16) hF rfl rfl (by decide) (fun a hF => ?_)
                  refine gofU (j := 16) hF rfl rfl (by decide) (fun a hF => ?_)
                  refine gofU (j := 16) hF rfl rfl (by decide) (fun a hF => ?_)
                  refine gofD (j := 12) hF rfl rfl (by rw [hc10]; decide) (by decide) (fun a hF => ?_)
                  refine stp hF (p_pickF rfl hc10 rfl) (by decide) (fun a hF => ?_)
                  refine nilN ?_
                  refine xn ?_
                  obtain rfl := hsm H
                  exact ⟨false, s24, hS, hF.cut ⟨rfl, trivial⟩, (Sub.refl _), HK7⟩
              · clear H HK7 hS hF
                rintro a w ⟨x1, s28, hS, hF, hg26, H⟩
                unfold laws_FnGarbage.c1 at H
                refine stp hF (p_assign rfl) (by decide) (fun a hF => ?_)
                refine nilN ?_
                refine xn ?_
                refine rt ?_
                obtain rfl := hsm H
                replace hS := hS.sel (is := []) (A' := []) rfl
                exact ret1 hF rfl rfl hS ⟨rfl, rfl⟩

def impl_marker_put.f (k : Nat) (x1 : (List TSlot)) (x2 : (List Bool)) (x3 : (List Int)) (x4 : Int) (x5 : Bool) (x6 : Int) : Option ((List TSlot) × (List Bool) × (List Int) × Int × Bool) :=
  (if (decide (x4 ≤ (x3.length : Int))) = true then (some (x1, x2, x3, x4, true)) else (if x3.length + 1 ≤ 17592186044416 then (some (x1, x2, (x3 ++ ([x6] : List Int)), x4, x5)) else none))
set_option maxRecDepth 100000 in
set_option maxHeartbeats 4000000 in
theorem impl_marker_put.spec (k : Nat) (s0 : HF) (w : World) (x1 : (List TSlot)) (x2 : (List Bool)) (x3 : (List Int)) (x4 : Int) (x5 : Bool) (x6 : Int) (v1 : Value) (v2 : Value) (v3 : Value) (g1 : Nat) (h1 : Sl kTSlot s0 v1 x1) (r : (List TSlot) × (List Bool) × (List Int) × Int × Bool) (H : impl_marker_put.f k x1 x2 x3 x4 x5 x6 = some r) :
    Law Try.prog 21 #[(.pointer (some ⟨g1, 0, none⟩)), (.int .i64 x6)] s0 w [pt g1 51 ([v1, v2, v3, (.int .i64 x4), (.bool x5)]), Ow Kd.bool 4 v2 x2, Ow (Kd.int .i64) 3 v3 x3] (fun v s1 A1 => ∃ (u0 : Value) (u1 : Value) (u2 : Value), v = (.tuple #[]) ∧ A1 = [pt g1 51 ([u0, u1, u2, (.int .i64 r.2.2.2.1), (.bool r.2.2.2.2)]), Ow Kd.bool 4 u1 r.2.1, Ow (Kd.int .i64) 3 u2 r.2.2.1] ∧ Sl kTSlot s1 u0 r.1) := by
  unfold impl_marker_put.f at H
  refine Law.intro Try.func21 rfl [(0, (.pointer (some ⟨g1, 0, none⟩))), (1, (.int .i64 x6))] (Nat.le_of_ble_eq_true rfl) (enter_lk ⟨rfl, rfl, trivial⟩) (fun e a hS hF => ?_)
  have hF : Fr 27 a [(0, (.pointer (some ⟨g1, 0, none⟩))), (1, (.int .i64 x6))] := hF
  refine sq ?_
  refine sq ?_
  replace hS : St e s0 w.drew [pt g1 51 ([v1, v2, v3, (.int .i64 x4), (.bool x5)]), Ow Kd.bool 4 v2 x2, Ow (Kd.int .i64) 3 v3 x3] := hS.drewN 1
  refine drw [0, 1, 2, 3, 4, 5, 6, 7, 8, 9] mixed (by kernel_rfl) (by decide) (hF.cut (L' := [(0, (.pointer (some ⟨g1, 0, none⟩))), (1, (.int .i64 x6))]) ⟨rfl, rfl, trivial⟩) ?_
  clear hF
  generalize w.drew = w at hS ⊢
  refine pk1 rfl (by decide) rfl (by kernel_rfl) rfl (p_move rfl) ?_
  refine pk1 rfl (by decide) rfl (by kernel_rfl) rfl (p_nilck rfl) ?_
  refine pk1 rfl (by decide) rfl (by kernel_rfl) rfl (p_fldb (o' := 2) rfl fi_51_2 rfl) ?_
  refine pk1 rfl (by decide) rfl (by kernel_rfl) rfl (p_ldb_one (i := 0) hS rfl rfl ia_27 rfl) ?_
  refine pk1 rfl (by decide) rfl (by kernel_rfl) rfl (p_leno (i := 2) hS rfl un_27 rfl) ?_
  refine pk1 rfl (by decide) rfl (by kernel_rfl) rfl (p_move rfl) ?_
  refine pk1 rfl (by decide) rfl (by kernel_rfl) rfl (p_nilck rfl) ?_
  refine pk1 rfl (by decide) rfl (by kernel_rfl) rfl (p_fldb (o' := 3) rfl fi_51_3 rfl) ?_
  refine pk1 rfl (by decide) rfl (by kernel_rfl) rfl (p_ldb_one (i := 0) hS rfl rfl ia_3 rfl) ?_
  refine pk1 rfl (by decide) rfl (by kernel_rfl) rfl (p_geq rfl rfl) ?_
  refine pkF (fun a hF => ?_)
  refine xn ?_
  refine cnd hF rfl (fun hc1 => ?_) (fun hc1 => ?_)
  · replace H := hbt hc1 H
    refine sq ?_
    refine rg ?_
    refine stp hF (p_move rfl) (by decide) (fun a hF => ?_)
    refine stp hF (p_nilck rfl) (by decide) (fun a hF => ?_)
    refine stp hF (p_fldb (o' := 4) rfl fi_51_4 rfl) (by decide) (fun a hF => ?_)
    refine ste0 hF (e_stb (i := 0) (l := [v1, v2, v3, (.int .i64 x4)]) (m := [(.bool x5)]) (r := []) (m' := [(.bool true)]) (cs' := [v1, v2, v3, (.int .i64 x4), (.bool true)]) hS rfl rfl rfl ti_4 rfl rfl rfl rfl rfl (one_cons rfl one_nil) rfl) (fun v w a hR hF => ?_)
    have hS : St e s0 w [pt g1 51 ([v1, v2, v3, (.int .i64 x4), (.bool true)]), Ow Kd.bool 4 v2 x2, Ow (Kd.int .i64) 3 v3 x3] := hR
    refine nilN ?_
    refine xn ?_
    refine rt ?_
    refine xr ?_
    obtain rfl := hsm H
    exact ret0 (Or.inl rfl) hF rfl hS ⟨v1, v2, v3, rfl, rfl, h1⟩
  · replace H := hbf hc1 H
    refine skN ?_
    refine xn ?_
    refine rg ?_
    refine stp hF (p_move rfl) (by decide) (fun a hF => ?_)
    refine stp hF (p_move rfl) (by decide) (fun a hF => ?_)
    refine stp hF (p_nilck rfl) (by decide) (fun a hF => ?_)
    refine stp hF (p_fldb (o' := 2) rfl fi_51_2 rfl) (by decide) (fun a hF => ?_)
    refine stp hF (p_ldb_one (i := 0) hS rfl rfl ia_27 rfl) (by decide) (fun a hF => ?_)
    refine stp hF (p_move rfl) (by decide) (fun a hF => ?_)
    refine ste hF (e_bslice (kd := (Kd.int .i64)) (et := 3) (ps := [(0, (.tmp 22))]) (vs := [(0, (.int .i64 x6))]) (cs := [(.int .i64 x6)]) (xs := ([x6] : List Int)) hS rfl (by intro w; kernel_rfl) rfl (by decide) (Nat.le_of_ble_eq_true rfl) (by exact (rows_cons (kd := (Kd.int .i64)) (x := x6) (c := [(.int .i64 x6)]) (cs := []) rfl (Rows.nil _ _ _ _)))) (by decide) (fun v4 w a hR hF => ?_)
    have hS : St e s0 w [Ow (Kd.int .i64) 3 v4 ([x6] : List Int), pt g1 51 ([v1, v2, v3, (.int .i64 x4), (.bool x5)]), Ow Kd.bool 4 v2 x2, Ow (Kd.int .i64) 3 v3 x3] := hR
    obtain ⟨hq1, H⟩ := hck H
    refine ste hF (e_append (n := 3) hS rfl rfl rfl (hS.src (n := 0) rfl) un_27 ti_3 rfl (by decide) (by decide) (Nat.le_trans (Nat.mul_le_mul_right 8 hq1) (by decide))) (by decide) (fun v5 w a hR hF => ?_)
    have hS : St e s0 w [Ow (Kd.int .i64) 3 v5 (x3 ++ ([x6] : List Int)), Ow (Kd.int .i64) 3 v4 ([x6] : List Int), pt g1 51 ([v1, v2, v3, (.int .i64 x4), (.bool x5)]), Ow Kd.bool 4 v2 x2] := hR
    replace hS := hS.sel (is := [0, 1, 1]) (A' := [Ow (Kd.int .i64) 3 v5 (x3 ++ ([x6] : List Int)), pt g1 51 ([v1, v2, v3, (.int .i64 x4), (.bool x5)]), Ow Kd.bool 4 v2 x2]) rfl
    refine stp hF (p_nilck rfl) (by decide) (fun a hF => ?_)
    refine stp hF (p_fldb (o' := 2) rfl fi_51_2 rfl) (by decide) (fun a hF => ?_)
    refine ste0 hF (e_stb (i := 1) (l := [v1, v2]) (m := [v3]) (r := [(.int .i64 x4), (.bool x5)]) (m' := [v5]) (cs' := [v1, v2, v5, (.int .i64 x4), (.bool x5)]) hS rfl rfl rfl ti_27 rfl rfl rfl (cells_one (hS.one_ow (i := 0) rfl)) rfl (one_cons (hS.one_ow (i := 0) rfl) one_nil) rfl) (fun v w a hR hF => ?_)
    have hS : St e s0 w [pt g1 51 ([v1, v2, v5, (.int .i64 x4), (.bool x5)]), Ow (Kd.int .i64) 3 v5 (x3 ++ ([x6] : List Int)), Ow Kd.bool 4 v2 x2] := hR
    refine nilN ?_
    obtain rfl := hsm H
    replace hS := hS.sel (is := [0, 1, 0]) (A' := [pt g1 51 ([v1, v2, v5, (.int .i64 x4), (.bool x5)]), Ow Kd.bool 4 v2 x2, Ow (Kd.int .i64) 3 v5 (x3 ++ ([x6] : List Int))]) rfl
    exact ret0 (Or.inr rfl) hF rfl hS ⟨v1, v2, v5, rfl, rfl, h1⟩

def impl_marker_unmarked.c1 (k : Nat) (x1 : (List TSlot)) (x2 : (List Bool)) (x3 : (List Int)) (x4 : Int) (x5 : Bool) (x6 : Bool) : Option (Bool × (List TSlot) × (List Bool) × (List Int) × Int × Bool) :=
  (some (x6, x1, x2, x3, x4, x5))
def impl_marker_unmarked.c2 (k : Nat) (x7 : Int) (x2 : (List Bool)) (x1 : (List TSlot)) (x3 : (List Int)) (x4 : Int) (x5 : Bool) (x8 : Bool) : Option (Bool × (List TSlot) × (List Bool) × (List Int) × Int × Bool) :=
  ((if x8 = true then (if 0 ≤ x7 ∧ x7 < (x2.length : Int) then (some (!(rd x2 x7))) else none) else (some false) : Option Bool).bind fun x9 => impl_marker_unmarked.c1 k x1 x2 x3 x4 x5 x9)
def impl_marker_unmarked.f (k : Nat) (x1 : (List TSlot)) (x2 : (List Bool)) (x3 : (List Int)) (x4 : Int) (x5 : Bool) (x7 : Int) : Option (Bool × (List TSlot) × (List Bool) × (List Int) × Int × Bool) :=
  ((if (decide (0 < x7)) = true then (if 0 ≤ x7 ∧ x7 < (x1.length : Int) then (some ((rd x1 x7).Has)) else none) else (some false) : Option Bool).bind fun x10 => impl_marker_unmarked.c2 k x7 x2 x1 x3 x4 x5 x10)
set_option maxRecDepth 100000 in
set_option maxHeartbeats 4000000 in
theorem impl_marker_unmarked.spec (k : Nat) (s0 : HF) (w : World) (x1 : (List TSlot)) (x2 : (List Bool)) (x3 : (List Int)) (x4 : Int) (x5 : Bool) (x7 : Int) (v1 : Value) (v2 : Value) (v3 : Value) (g1 : Nat) (h1 : Sl kTSlot s0 v1 x1) (r : Bool × (List TSlot) × (List Bool) × (List Int) × Int × Bool) (H : impl_marker_unmarked.f k x1 x2 x3 x4 x5 x7 = some r) :
    Law Try.prog 25 #[(.pointer (some ⟨g1, 0, none⟩)), (.int .i64 x7)] s0 w [pt g1 51 ([v1, v2, v3, (.int .i64 x4), (.bool x5)]), Ow Kd.bool 4 v2 x2, Ow (Kd.int .i64) 3 v3 x3] (fun v s1 A1 => ∃ (u0 : Value) (u1 : Value) (u2 : Value), v = (.bool r.1) ∧ A1 = [pt g1 51 ([u0, u1, u2, (.int .i64 r.2.2.2.2.1), (.bool r.2.2.2.2.2)]), Ow Kd.bool 4 u1 r.2.2.1, Ow (Kd.int .i64) 3 u2 r.2.2.2.1] ∧ Sl kTSlot s1 u0 r.2.1) := by
  unfold impl_marker_unmarked.f at H
  refine Law.intro Try.func25 rfl [(0, (.pointer (some ⟨g1, 0, none⟩))), (1, (.int .i64 x7))] (Nat.le_of_ble_eq_true rfl) (enter_lk ⟨rfl, rfl, trivial⟩) (fun e a hS hF => ?_)
  have hF : Fr 27 a [(0, (.pointer (some ⟨g1, 0, none⟩))), (1, (.int .i64 x7))] := hF
  refine sq ?_
  refine rg ?_
  refine stp hF (p_assign rfl) (by decide) (fun a hF => ?_)
  refine nilN ?_
  refine xn ?_
  refine sq ?_
  refine rg ?_
  refine stp hF (p_move rfl) (by decide) (fun a hF => ?_)
  refine stp hF (p_gtr rfl rfl) (by decide) (fun a hF => ?_)
  refine stp hF (p_move rfl) (by decide) (fun a hF => ?_)
  obtain ⟨x10, H, HK1⟩ := hb H
  refine cutj 9 (fun a w => ∃ (x8 : Bool) , St e s0 w [pt g1 51 ([v1, v2, v3, (.int .i64 x4), (.bool x5)]), Ow Kd.bool 4 v2 x2, Ow (Kd.int .i64) 3 v3 x3] ∧ Fr 27 a [(0, (.pointer (some ⟨g1, 0, none⟩))), (1, (.int .i64 x7)), (16, (.bool x8))] ∧ impl_marker_unmarked.c2 k x7 x2 x1 x3 x4 x5 x8 = some r) rfl rfl ?_ ?_
  · rcases Bool.eq_false_or_eq_true (decide (0 < x7)) with hc1 | hc1
    · replace H := hbt hc1 H
      refine gonE (j := 2) hF rfl rfl hc1 ?_
      refine stp hF (p_move rfl) (by decide) (fun a hF => ?_)
      refine gonE (j := 2) hF rfl rfl hc1 ?_
      refine stp hF (p_nilck rfl) (by decide) (fun a hF => ?_)
      refine gonE (j := 2) hF rfl rfl hc1 ?_
      refine stp hF (p_fldb (o' := 0) rfl fi_51_0 rfl) (by decide) (fun a hF => ?_)
      refine gonE (j := 2) hF rfl rfl hc1 ?_
      refine stp hF (p_ldb_one (i := 0) hS rfl rfl ia_24 rfl) (by decide) (fun a hF => ?_)
      refine gonE (j := 2) hF rfl rfl hc1 ?_
      refine stp hF (p_move rfl) (by decide) (fun a hF => ?_)
      obtain ⟨hq1, H⟩ := hck H
      obtain ⟨ad1, h2, p1⟩ := p_idxr (P := Try.prog) (i := x7) h1 un_24 ti_32 hq1.1 hq1.2
      refine gonE (j := 2) hF rfl rfl hc1 ?_
      refine stp hF (p1 rfl rfl) (by decide) (fun a hF => ?_)
      have h3 : Pr Kd.bool s0 (ad1.add 0) ((rd x1 x7).Has) := h2.lens kTSlot_Has
      refine gonE (j := 2) hF rfl rfl hc1 ?_
      refine stp hF (p_fld rfl fi_32_0) (by decide) (fun a hF => ?_)
      refine gonE (j := 2) hF rfl rfl hc1 ?_
      refine stp hF (p_ldr_bool rfl hS h3 ia_4) (by decide) (fun a hF => ?_)
      refine stp hF (p_pickT rfl hc1 rfl) (by decide) (fun a hF => ?_)
      refine nilN ?_
      refine xn ?_
      obtain rfl := hsm H
      exact ⟨((rd x1 x7).Has), hS, hF.cut ⟨rfl, rfl, rfl, trivial⟩, HK1⟩
    · replace H := hbf hc1 H
      refine gofD (j := 2) hF rfl rfl (by rw [hc1]; decide) (by decide) (fun a hF => ?_)
      refine gofD (j := 2) hF rfl rfl (by rw [hc1]; decide) (by decide) (fun a hF => ?_)
      refine gofD (j := 2) hF rfl rfl (by rw [hc1]; decide) (by decide) (fun a hF => ?_)
      refine gofD (j := 2) hF rfl rfl (by rw [hc1]; decide) (by decide) (fun a hF => ?_)
      refine gofD (j := 2) hF rfl rfl (by rw [hc1]; decide) (by decide) (fun a hF => ?_)
      refine gofD (j := 2) hF rfl rfl (by rw [hc1]; decide) (by decide) (fun a hF => ?_)
      refine gofD (j := 2) hF rfl rfl (by rw [hc1]; decide) (by decide) (fun a hF => ?_)
      refine gofD (j := 2) hF rfl rfl (by rw [hc1]; decide) (by decide) (fun a hF => ?_)
      refine stp hF (p_pickF rfl hc1 rfl) (by decide) (fun a hF => ?_)
      refine nilN ?_
      refine xn ?_
      obtain rfl := hsm H
      exact ⟨false, hS, hF.cut ⟨rfl, rfl, rfl, trivial⟩, HK1⟩
  · clear H HK1 hS hF
    rintro a w ⟨x8, hS, hF, H⟩
    unfold impl_marker_unmarked.c2 at H
    refine stp hF (p_move rfl) (by decide) (fun a hF => ?_)
    obtain ⟨x9, H, HK2⟩ := hb H
    refine cutj 9 (fun a w => ∃ (x6 : Bool) (v4 : Value) , St e s0 w [pt g1 51 ([v1, v4, v3, (.int .i64 x4), (.bool x5)]), Ow Kd.bool 4 v4 x2, Ow (Kd.int .i64) 3 v3 x3] ∧ Fr 27 a [(26, (.bool x6))] ∧ impl_marker_unmarked.c1 k x1 x2 x3 x4 x5 x6 = some r) rfl rfl ?_ ?_
    · rcases Bool.eq_false_or_eq_true (x8) with hc2 | hc2
      · replace H := hbt hc2 H
        refine gonE (j := 12) hF rfl rfl hc2 ?_
        refine stp hF (p_move rfl) (by decide) (fun a hF => ?_)
        refine gonE (j := 12) hF rfl rfl hc2 ?_
        refine stp hF (p_nilck rfl) (by decide) (fun a hF => ?_)
        refine gonE (j := 12) hF rfl rfl hc2 ?_
        refine stp hF (p_fldb (o' := 1) rfl fi_51_1 rfl) (by decide) (fun a hF => ?_)
        refine gonE (j := 12) hF rfl rfl hc2 ?_
        refine stp hF (p_ldb_one (i := 0) hS rfl rfl ia_37 rfl) (by decide) (fun a hF => ?_)
        refine gonE (j := 12) hF rfl rfl hc2 ?_
        refine stp hF (p_move rfl) (by decide) (fun a hF => ?_)
        obtain ⟨hq2, H⟩ := hck H
        obtain ⟨b1, o1, q1, rfl, p2⟩ := p_idxo (n := 1) (i := x7) hS rfl un_37 ti_4 hq2.1 hq2.2
        refine gonE (j := 12) hF rfl rfl hc2 ?_
        refine stp hF (p2 rfl rfl) (by decide) (fun a hF => ?_)
        obtain ⟨u1, h4, p3⟩ := p_ldo_one (P := Try.prog) (n := 1) hS rfl (Lens.id _) hq2.1 hq2.2 rfl ia_4 rfl
        obtain rfl : u1 = .bool (rd x2 x7) := by injection h4
        refine gonE (j := 12) hF rfl rfl hc2 ?_
        refine stp hF (p3 rfl) (by decide) (fun a hF => ?_)
        refine gonE (j := 12) hF rfl rfl hc2 ?_
        refine stp hF (p_not rfl) (by decide) (fun a hF => ?_)
        refine stp hF (p_pickT rfl hc2 rfl) (by decide) (fun a hF => ?_)
        refine nilN ?_
        refine xn ?_
        obtain rfl := hsm H
        exact ⟨(!(rd x2 x7)), (.slice (some ⟨b1, o1, none⟩) x2.length q1), hS, hF.cut ⟨rfl, trivial⟩, HK2⟩
      · replace H := hbf hc2 H
        refine gofD (j := 12) hF rfl rfl (by rw [hc2]; decide) (by decide) (fun a hF => ?_)
        refine gofD (j := 12) hF rfl rfl (by rw [hc2]; decide) (by decide) (fun a hF => ?_)
        refine gofD (j := 12) hF rfl rfl (by rw [hc2]; decide) (by decide) (fun a hF => ?_)
        refine gofD (j := 12) hF rfl rfl (by rw [hc2]; decide) (by decide) (fun a hF => ?_)
        refine gofD (j := 12) hF rfl rfl (by rw [hc2]; decide) (by decide) (fun a hF => ?_)
        refine gofD (j := 12) hF rfl rfl (by rw [hc2]; decide) (by decide) (fun a hF => ?_)
        refine gofD (j := 12) hF rfl rfl (by rw [hc2]; decide) (by decide) (fun a hF => ?_)
        refine gofD (j := 12) hF rfl rfl (by rw [hc2]; decide) (by decide) (fun a hF => ?_)
        refine stp hF (p_pickF rfl hc2 rfl) (by decide) (fun a hF => ?_)
        refine nilN ?_
        refine xn ?_
        obtain rfl := hsm H
        exact ⟨false, v2, hS, hF.cut ⟨rfl, trivial⟩, HK2⟩
    · clear H HK2 hS hF
      rintro a w ⟨x6, v4, hS, hF, H⟩
      unfold impl_marker_unmarked.c1 at H
      refine stp hF (p_assign rfl) (by decide) (fun a hF => ?_)
      refine nilN ?_
      refine xn ?_
      refine rt ?_
      obtain rfl := hsm H
      exact ret1 hF rfl rfl hS ⟨v1, v4, v3, rfl, rfl, h1⟩

def impl_marker_drain.c1 (k : Nat) (rec_l1 : (List TSlot) → (List Bool) → (List Int) → Int → Bool → Int → Option ((List TSlot) × (List Bool) × (List Int) × Int × Bool)) (x1 : Int) (x2 : (List TSlot)) (x3 : (List Bool)) (x4 : (List Int)) (x5 : Int) (x6 : Bool) : Option ((List TSlot) × (List Bool) × (List Int) × Int × Bool) :=
  (rec_l1 x2 x3 x4 x5 x6 (w64 (x1 + 1)))
def impl_marker_drain.l1 (rec_l2 : (List TSlot) → (List Bool) → (List Int) → Int → Bool → Option ((List TSlot) × (List Bool) × (List Int) × Int × Bool)) (x7 : (List TSlot)) (x8 : (List Int)) : Nat → (List TSlot) → (List Bool) → (List Int) → Int → Bool → Int → Option ((List TSlot) × (List Bool) × (List Int) × Int × Bool)
  | 0, _, _, _, _, _, _ => none
  | k + 1, x9, x10, x11, x12, x13, x1 => (if (decide (x1 < ((((rd x7 (rd x8 (w64 ((x8.length : Int) - 1)))).O).Refs).length : Int))) = true then (((if 0 ≤ x1 ∧ x1 < ((((rd x7 (rd x8 (w64 ((x8.length : Int) - 1)))).O).Refs).length : Int) then ((impl_marker_unmarked.f k x9 x10 x11 x12 x13 (rd (((rd x7 (rd x8 (w64 ((x8.length : Int) - 1)))).O).Refs) x1)).bind fun x14 => (if x14.1 = true then (if 0 ≤ (rd (((rd x7 (rd x8 (w64 ((x8.length : Int) - 1)))).O).Refs) x1) ∧ (rd (((rd x7 (rd x8 (w64 ((x8.length : Int) - 1)))).O).Refs) x1) < (x14.2.2.1.length : Int) then ((impl_marker_put.f k x14.2.1 (wr x14.2.2.1 (rd (((rd x7 (rd x8 (w64 ((x8.length : Int) - 1)))).O).Refs) x1) true) x14.2.2.2.1 x14.2.2.2.2.1 x14.2.2.2.2.2 (rd (((rd x7 (rd x8 (w64 ((x8.length : Int) - 1)))).O).Refs) x1)).bind fun x15 => (some (x15.1, x15.2.1, x15.2.2.1, x15.2.2.2.1, x15.2.2.2.2))) else none) else (some (x14.2.1, x14.2.2.1, x14.2.2.2.1, x14.2.2.2.2.1, x14.2.2.2.2.2)))) else none) : Option ((List TSlot) × (List Bool) × (List Int) × Int × Bool)).bind fun x16 => impl_marker_drain.c1 k (impl_marker_drain.l1 rec_l2 x7 x8 k) x1 x16.1 x16.2.1 x16.2.2.1 x16.2.2.2.1 x16.2.2.2.2) else (rec_l2 x9 x10 x11 x12 x13))
def impl_marker_drain.l2 : Nat → (List TSlot) → (List Bool) → (List Int) → Int → Bool → Option ((List TSlot) × (List Bool) × (List Int) × Int × Bool)
  | 0, _, _, _, _, _ => none
  | k + 1, x7, x17, x8, x18, x19 => (if (decide (0 < (x8.length : Int))) = true then (if 0 ≤ (w64 ((x8.length : Int) - 1)) ∧ (w64 ((x8.length : Int) - 1)) < (x8.length : Int) then (if 0 ≤ (0 : Int) ∧ (0 : Int) ≤ (w64 ((x8.length : Int) - 1)) ∧ (w64 ((x8.length : Int) - 1)) ≤ (x8.length : Int) then (if 0 ≤ (rd x8 (w64 ((x8.length : Int) - 1))) ∧ (rd x8 (w64 ((x8.length : Int) - 1))) < (x7.length : Int) then (impl_marker_drain.l1 (impl_marker_drain.l2 k) x7 x8 k x7 x17 (cut x8 (0 : Int) (w64 ((x8.length : Int) - 1))) x18 x19 0) else none) else none) else none) else (some (x7, x17, x8, x18, x19)))
def impl_marker_drain.f (k : Nat) (x20 : (List TSlot)) (x21 : (List Bool)) (x22 : (List Int)) (x23 : Int) (x24 : Bool) : Option ((List TSlot) × (List Bool) × (List Int) × Int × Bool) :=
  (impl_marker_drain.l2 k x20 x21 x22 x23 x24)
set_option maxRecDepth 100000 in
set_option maxHeartbeats 4000000 in
theorem impl_marker_drain.spec (k : Nat) (s0 : HF) (w : World) (x20 : (List TSlot)) (x21 : (List Bool)) (x22 : (List Int)) (x23 : Int) (x24 : Bool) (v1 : Value) (v2 : Value) (v3 : Value) (g1 : Nat) (h1 : Sl kTSlot s0 v1 x20) (r : (List TSlot) × (List Bool) × (List Int) × Int × Bool) (H : impl_marker_drain.f k x20 x21 x22 x23 x24 = some r) :
    Law Try.prog 22 #[(.pointer (some ⟨g1, 0, none⟩))] s0 w [pt g1 51 ([v1, v2, v3, (.int .i64 x23), (.bool x24)]), Ow Kd.bool 4 v2 x21, Ow (Kd.int .i64) 3 v3 x22] (fun v s1 A1 => ∃ (u0 : Value) (u1 : Value) (u2 : Value), v = (.tuple #[]) ∧ A1 = [pt g1 51 ([u0, u1, u2, (.int .i64 r.2.2.2.1), (.bool r.2.2.2.2)]), Ow Kd.bool 4 u1 r.2.1, Ow (Kd.int .i64) 3 u2 r.2.2.1] ∧ Sl kTSlot s1 u0 r.1) := by
  unfold impl_marker_drain.f at H
  refine Law.intro Try.func22 rfl [(0, (.pointer (some ⟨g1, 0, none⟩)))] (Nat.le_of_ble_eq_true rfl) (enter_lk ⟨rfl, trivial⟩) (fun e a hS hF => ?_)
  have hF : Fr 64 a [(0, (.pointer (some ⟨g1, 0, none⟩)))] := hF
  refine blk ?_
  refine loop_ind (fun k1 a w => ∃ (x7 : (List TSlot)) (x17 : (List Bool)) (x8 : (List Int)) (x18 : Int) (x19 : Bool) (s2 : HF) (v4 : Value) (v5 : Value) (v6 : Value) , St e s2 w [pt g1 51 ([v4, v5, v6, (.int .i64 x18), (.bool x19)]), Ow Kd.bool 4 v5 x17, Ow (Kd.int .i64) 3 v6 x8] ∧ Fr 64 a [(0, (.pointer (some ⟨g1, 0, none⟩)))] ∧ Sub s0 s2 ∧ Sl kTSlot s2 v4 x7 ∧ impl_marker_drain.l2 k1 x7 x17 x8 x18 x19 = some r) k ?_ ?_ ?_
  · skip
    exact ⟨x20, x21, x22, x23, x24, s0, v1, v2, v3, hS, hF.cut ⟨rfl, trivial⟩, (Sub.refl _), h1, H⟩
  · clear H hS hF
    rintro a w ⟨x7, x17, x8, x18, x19, s2, v4, v5, v6, hS, hF, hg1, h2, H⟩
    exact absurd (show none = some _ from H) (by simp)
  · clear H hS hF
    rintro k1 a w ⟨x7, x17, x8, x18, x19, s2, v4, v5, v6, hS, hF, hg1, h2, H⟩
    rw [impl_marker_drain.l2.eq_2] at H
    refine sq ?_
    refine sq ?_
    refine rg ?_
    refine stp hF (p_move rfl) (by decide) (fun a hF => ?_)
    refine stp hF (p_nilck rfl) (by decide) (fun a hF => ?_)
    refine stp hF (p_fldb (o' := 2) rfl fi_51_2 rfl) (by decide) (fun a hF => ?_)
    refine stp hF (p_ldb_one (i := 0) hS rfl rfl ia_27 rfl) (by decide) (fun a hF => ?_)
    refine stp hF (p_leno (i := 2) hS rfl un_27 rfl) (by decide) (fun a hF => ?_)
    refine stp hF (p_gtr rfl rfl) (by decide) (fun a hF => ?_)
    refine nilN ?_
    refine xn ?_
    refine cnd hF rfl (fun hc1 => ?_) (fun hc1 => ?_)
    · replace H := hbt hc1 H
      refine skN ?_
      refine xn ?_
      refine blk ?_
      refine sq ?_
      replace hS : St e s2 w.drew [pt g1 51 ([v4, v5, v6, (.int .i64 x18), (.bool x19)]), Ow Kd.bool 4 v5 x17, Ow (Kd.int .i64) 3 v6 x8] := hS.drewN 1
      refine drw [0, 1, 2, 3, 4, 5, 6, 7, 8, 9, 10, 11, 12] mixed (by kernel_rfl) (by decide) (hF.cut (L' := [(0, (.pointer (some ⟨g1, 0, none⟩))), (5, (.pointer (some ⟨g1, 0, none⟩))), (6, (.pointer (some ⟨g1, 0, none⟩))), (7, (.pointer (some ⟨g1, 2, none⟩))), (8, v6), (9, (.int .i64 (x8.length : Int))), (10, (.bool (decide (0 < (x8.length : Int)))))]) ⟨rfl, rfl, rfl, rfl, rfl, rfl, rfl, trivial⟩) ?_
      clear hF
      generalize w.drew = w at hS ⊢
      refine pk1 rfl (by decide) rfl (by kernel_rfl) rfl (p_move rfl) ?_
      refine pk1 rfl (by decide) rfl (by kernel_rfl) rfl (p_nilck rfl) ?_
      refine pk1 rfl (by decide) rfl (by kernel_rfl) rfl (p_fldb (o' := 2) rfl fi_51_2 rfl) ?_
      refine pk1 rfl (by decide) rfl (by kernel_rfl) rfl (p_ldb_one (i := 0) hS rfl rfl ia_27 rfl) ?_
      refine pk1 rfl (by decide) rfl (by kernel_rfl) rfl (p_move rfl) ?_
      refine pk1 rfl (by decide) rfl (by kernel_rfl) rfl (p_nilck rfl) ?_
      refine pk1 rfl (by decide) rfl (by kernel_rfl) rfl (p_fldb (o' := 2) rfl fi_51_2 rfl) ?_
      refine pk1 rfl (by decide) rfl (by kernel_rfl) rfl (p_ldb_one (i := 0) hS rfl rfl ia_27 rfl) ?_
      refine pk1 rfl (by decide) rfl (by kernel_rfl) rfl (p_leno (i := 2) hS rfl un_27 rfl) ?_
      refine pk1 rfl (by decide) rfl (by kernel_rfl) rfl (p_sub (c := w64 ((x8.length : Int) - 1)) rfl rfl rfl) ?_
      obtain ⟨hq1, H⟩ := hck H
      obtain ⟨b1, o1, q1, rfl, p1⟩ := p_idxo (n := 2) (i := (w64 ((x8.length : Int) - 1))) hS rfl un_27 ti_3 hq1.1 hq1.2
      refine pk1 rfl (by decide) rfl (by kernel_rfl) rfl (p1 rfl rfl) ?_
      obtain ⟨u1, h3, p2⟩ := p_ldo_one (P := Try.prog) (n := 2) hS rfl (Lens.id _) hq1.1 hq1.2 rfl ia_3 rfl
      obtain rfl : u1 = .int .i64 (rd x8 (w64 ((x8.length : Int) - 1))) := by injection h3
      refine pk1 rfl (by decide) rfl (by kernel_rfl) rfl (p2 rfl) ?_
      refine pkE [] rfl (by decide) (by kernel_rfl) (by kernel_rfl) (puEf (p_assign rfl)) ?_
      rintro v w' ⟨rfl, rfl⟩
      refine ⟨trivial, ?_⟩
      refine pkF (fun a hF => ?_)
      refine xn ?_
      refine sq ?_
      replace hS : St e s2 w.drew [pt g1 51 ([v4, v5, (.slice (some ⟨b1, o1, none⟩) x8.length q1), (.int .i64 x18), (.bool x19)]), Ow Kd.bool 4 v5 x17, Ow (Kd.int .i64) 3 (.slice (some ⟨b1, o1, none⟩) x8.length q1) x8] := hS.drewN 1
      refine drw [0, 1, 2, 3, 4, 5, 6, 7, 8, 9, 10, 11, 12, 13, 14] mixed (by kernel_rfl) (by decide) (hF.cut (L' := [(0, (.pointer (some ⟨g1, 0, none⟩))), (2, (.int .i64 (rd x8 (w64 ((x8.length : Int) - 1))))), (5, (.pointer (some ⟨g1, 0, none⟩))), (6, (.pointer (some ⟨g1, 0, none⟩))), (7, (.pointer (some ⟨g1, 2, none⟩))), (8, (.slice (some ⟨b1, o1, none⟩) x8.length q1)), (9, (.int .i64 (x8.length : Int))), (10, (.bool (decide (0 < (x8.length : Int))))), (11, (.pointer (some ⟨g1, 0, none⟩))), (12, (.pointer (some ⟨g1, 0, none⟩))), (13, (.pointer (some ⟨g1, 2, none⟩))), (14, (.slice (some ⟨b1, o1, none⟩) x8.length q1)), (15, (.pointer (some ⟨g1, 0, none⟩))), (16, (.pointer (some ⟨g1, 0, none⟩))), (17, (.pointer (some ⟨g1, 2, none⟩))), (18, (.slice (some ⟨b1, o1, none⟩) x8.length q1)), (19, (.int .i64 (x8.length : Int))), (20, (.int .i64 (w64 ((x8.length : Int) - 1)))), (21, (.pointer (some ⟨b1, (o1 + (w64 ((x8.length : Int) - 1)).toNat * (Kd.int .i64).sz), none⟩))), (22, (.int .i64 (rd x8 (w64 ((x8.length : Int) - 1)))))]) ⟨rfl, rfl, rfl, rfl, rfl, rfl, rfl, rfl, rfl, rfl, rfl, rfl, rfl, rfl, rfl, rfl, rfl, rfl, rfl, rfl, trivial⟩) ?_
      clear hF
      generalize w.drew = w at hS ⊢
      refine pk1 rfl (by decide) rfl (by kernel_rfl) rfl (p_move rfl) ?_
      refine pk1 rfl (by decide) rfl (by kernel_rfl) rfl (p_move rfl) ?_
      refine pk1 rfl (by decide) rfl (by kernel_rfl) rfl (p_nilck rfl) ?_
      refine pk1 rfl (by decide) rfl (by kernel_rfl) rfl (p_fldb (o' := 2) rfl fi_51_2 rfl) ?_
      refine pk1 rfl (by decide) rfl (by kernel_rfl) rfl (p_ldb_one (i := 0) hS rfl rfl ia_27 rfl) ?_
      refine pk1 rfl (by decide) rfl (by kernel_rfl) rfl (p_move rfl) ?_
      refine pk1 rfl (by decide) rfl (by kernel_rfl) rfl (p_nilck rfl) ?_
      refine pk1 rfl (by decide) rfl (by kernel_rfl) rfl (p_fldb (o' := 2) rfl fi_51_2 rfl) ?_
      refine pk1 rfl (by decide) rfl (by kernel_rfl) rfl (p_ldb_one (i := 0) hS rfl rfl ia_27 rfl) ?_
      refine pk1 rfl (by decide) rfl (by kernel_rfl) rfl (p_leno (i := 2) hS rfl un_27 rfl) ?_
      refine pk1 rfl (by decide) rfl (by kernel_rfl) rfl (p_sub (c := w64 ((x8.length : Int) - 1)) rfl rfl rfl) ?_
      obtain ⟨hq2, H⟩ := hck H
      obtain ⟨v7, hS, p3⟩ := p_slo (n := 2) (i := (0 : Int)) (j := (w64 ((x8.length : Int) - 1))) hS rfl un_27 ti_3 hq2.1 hq2.2.1 hq2.2.2
      refine pk1 rfl (by decide) rfl (by kernel_rfl) rfl (p3 rfl rfl rfl) ?_
      refine pk1 rfl (by decide) rfl (by kernel_rfl) rfl (p_nilck rfl) ?_
      refine pk1 rfl (by decide) rfl (by kernel_rfl) rfl (p_fldb (o' := 2) rfl fi_51_2 rfl) ?_
      refine pkE0 [12] rfl (by kernel_rfl) (by kernel_rfl) (e_stb (i := 1) (l := [v4, v5]) (m := [(.slice (some ⟨b1, o1, none⟩) x8.length q1)]) (r := [(.int .i64 x18), (.bool x19)]) (m' := [v7]) (cs' := [v4, v5, v7, (.int .i64 x18), (.bool x19)]) hS rfl rfl rfl ti_27 rfl rfl rfl (cells_one (hS.one_ow (i := 0) rfl)) rfl (one_cons (hS.one_ow (i := 0) rfl) one_nil) rfl) ?_
      intro v w hR
      have hS : St e s2 w [pt g1 51 ([v4, v5, v7, (.int .i64 x18), (.bool x19)]), Ow (Kd.int .i64) 3 v7 (cut x8 (0 : Int) (w64 ((x8.length : Int) - 1))), Ow Kd.bool 4 v5 x17] := hR
      refine ⟨⟨knw rfl rfl rfl (p_nilck rfl), trivial⟩, ?_⟩
      refine pkF (fun a hF => ?_)
      refine xn ?_
      refine sq ?_
      refine rg ?_
      refine stp hF (p_move rfl) (by decide) (fun a hF => ?_)
      refine stp hF (p_nilck rfl) (by decide) (fun a hF => ?_)
      refine stp hF (p_fldb (o' := 0) rfl fi_51_0 rfl) (by decide) (fun a hF => ?_)
      refine stp hF (p_ldb_one (i := 0) hS rfl rfl ia_24 rfl) (by decide) (fun a hF => ?_)
      refine stp hF (p_move rfl) (by decide) (fun a hF => ?_)
      obtain ⟨hq3, H⟩ := hck H
      obtain ⟨ad1, h4, p4⟩ := p_idxr (P := Try.prog) (i := (rd x8 (w64 ((x8.length : Int) - 1)))) h2 un_24 ti_32 hq3.1 hq3.2
      refine stp hF (p4 rfl rfl) (by decide) (fun a hF => ?_)
      have h5 : Pr kTObj s2 (ad1.add 1) ((rd x7 (rd x8 (w64 ((x8.length : Int) - 1)))).O) := h4.lens kTSlot_O
      refine stp hF (p_fld rfl fi_32_1) (by decide) (fun a hF => ?_)
      have h6 : Pr (Kd.slice (Kd.int .i64)) s2 ((ad1.add 1).add 2) (((rd x7 (rd x8 (w64 ((x8.length : Int) - 1)))).O).Refs) := h5.lens kTObj_Refs
      refine stp hF (p_fld rfl fi_30_2) (by decide) (fun a hF => ?_)
      obtain ⟨v8, h7, p5⟩ := p_ldr_slice (P := Try.prog) h6 ia_27
      refine stp hF (p5 rfl hS.ro) (by decide) (fun a hF => ?_)
      refine stp hF (p_lenr un_27 rfl h7) (by decide) (fun a hF => ?_)
      refine stp hF (p_move rfl) (by decide) (fun a hF => ?_)
      refine nilN ?_
      refine xn ?_
      refine blk ?_
      refine loop_ind (fun k2 a w => ∃ (x9 : (List TSlot)) (x10 : (List Bool)) (x11 : (List Int)) (x12 : Int) (x13 : Bool) (x1 : Int) (s3 : HF) (v9 : Value) (v10 : Value) (v11 : Value) , St e s3 w [pt g1 51 ([v9, v10, v11, (.int .i64 x12), (.bool x13)]), Ow Kd.bool 4 v10 x10, Ow (Kd.int .i64) 3 v11 x11] ∧ Fr 64 a [(0, (.pointer (some ⟨g1, 0, none⟩))), (45, v8), (46, (.int .i64 ((((rd x7 (rd x8 (w64 ((x8.length : Int) - 1)))).O).Refs).length : Int))), (47, (.int .i64 x1))] ∧ Sub s2 s3 ∧ Sl kTSlot s3 v9 x9 ∧ impl_marker_drain.l1 (impl_marker_drain.l2 k1) x7 x8 k2 x9 x10 x11 x12 x13 x1 = some r) k1 ?_ ?_ ?_
      · skip
        replace hS := hS.sel (is := [0, 1, 0]) (A' := [pt g1 51 ([v4, v5, v7, (.int .i64 x18), (.bool x19)]), Ow Kd.bool 4 v5 x17, Ow (Kd.int .i64) 3 v7 (cut x8 (0 : Int) (w64 ((x8.length : Int) - 1)))]) rfl
        exact ⟨x7, x17, (cut x8 (0 : Int) (w64 ((x8.length : Int) - 1))), x18, x19, 0, s2, v4, v5, v7, hS, hF.cut ⟨rfl, rfl, rfl, rfl, trivial⟩, (Sub.refl _), h2, H⟩
      · clear H hS hF
        rintro a w ⟨x9, x10, x11, x12, x13, x1, s3, v9, v10, v11, hS, hF, hg2, h8, H⟩
        exact absurd (show none = some _ from H) (by simp)
      · clear H hS hF
        rintro k2 a w ⟨x9, x10, x11, x12, x13, x1, s3, v9, v10, v11, hS, hF, hg2, h8, H⟩
        rw [impl_marker_drain.l1.eq_2] at H
        refine sq ?_
        refine rg ?_
        refine stp hF (p_lss rfl rfl) (by decide) (fun a hF => ?_)
        refine nilN ?_
        refine xn ?_
        refine sq ?_
        refine cnd hF rfl (fun hc2 => ?_) (fun hc2 => ?_)
        · replace H := hbt hc2 H
          refine skN ?_
          refine xn ?_
          obtain ⟨x16, H, HK1⟩ := hb H
          refine sqj (fun a w => ∃ (x2 : (List TSlot)) (x3 : (List Bool)) (x4 : (List Int)) (x5 : Int) (x6 : Bool) (s4 : HF) (v12 : Value) (v13 : Value) (v14 : Value) , St e s4 w [pt g1 51 ([v12, v13, v14, (.int .i64 x5), (.bool x6)]), Ow Kd.bool 4 v13 x3, Ow (Kd.int .i64) 3 v14 x4] ∧ Fr 64 a [(0, (.pointer (some ⟨g1, 0, none⟩))), (45, v8), (46, (.int .i64 ((((rd x7 (rd x8 (w64 ((x8.length : Int) - 1)))).O).Refs).length : Int))), (47, (.int .i64 x1))] ∧ Sub s3 s4 ∧ Sl kTSlot s4 v12 x2 ∧ impl_marker_drain.c1 k2 (impl_marker_drain.l1 (impl_marker_drain.l2 k1) x7 x8 k2) x1 x2 x3 x4 x5 x6 = some r) ?_ ?_
          · skip
            refine blk ?_
            refine sq ?_
            refine rg ?_
            obtain ⟨hq4, H⟩ := hck H
            obtain ⟨ad2, h9, p6⟩ := p_idxr (P := Try.prog) (i := x1) (h7.mono hg2) un_27 ti_3 hq4.1 hq4.2
            refine stp hF (p6 rfl rfl) (by decide) (fun a hF => ?_)
            refine stp hF (p_ldr_int rfl hS h9 ia_3) (by decide) (fun a hF => ?_)
            refine stp hF (p_assign rfl) (by decide) (fun a hF => ?_)
            refine nilN ?_
            refine xn ?_
            refine sq ?_
            refine rg ?_
            refine stp hF (p_move rfl) (by decide) (fun a hF => ?_)
            refine stp hF (p_move rfl) (by decide) (fun a hF => ?_)
            obtain ⟨x14, hx1, H⟩ := hb H
            refine ste hF (e_call (fst := []) (vs := [(.pointer (some ⟨g1, 0, none⟩)), (.int .i64 (rd (((rd x7 (rd x8 (w64 ((x8.length : Int) - 1)))).O).Refs) x1))]) (cap := []) rfl rfl go_25 (St.call (A := [pt g1 51 ([v9, v10, v11, (.int .i64 x12), (.bool x13)]), Ow Kd.bool 4 v10 x10, Ow (Kd.int .i64) 3 v11 x11]) (B := []) hS (impl_marker_unmarked.spec k2 _ _ x9 x10 x11 x12 x13 (rd (((rd x7 (rd x8 (w64 ((x8.length : Int) - 1)))).O).Refs) x1) v9 v10 v11 g1 h8 _ hx1))) (by decide) (fun v w a hR hF => ?_)
            obtain ⟨s5, A2, hg3, hS, hR⟩ := hR
            obtain ⟨v15, v16, v17, hv1, rfl, h10⟩ := hR; obtain rfl := hv1.symm
            have hS : St e s5 w [pt g1 51 ([v15, v16, v17, (.int .i64 x14.2.2.2.2.1), (.bool x14.2.2.2.2.2)]), Ow Kd.bool 4 v16 x14.2.2.1, Ow (Kd.int .i64) 3 v17 x14.2.2.2.1] := hS
            refine nilN ?_
            refine xn ?_
            refine cnd hF rfl (fun hc3 => ?_) (fun hc3 => ?_)
            · replace H := hbt hc3 H
              refine sq ?_
              refine rg ?_
              refine stp hF (p_move rfl) (by decide) (fun a hF => ?_)
              refine stp hF (p_nilck rfl) (by decide) (fun a hF => ?_)
              refine stp hF (p_fldb (o' := 1) rfl fi_51_1 rfl) (by decide) (fun a hF => ?_)
              refine stp hF (p_ldb_one (i := 0) hS rfl rfl ia_37 rfl) (by decide) (fun a hF => ?_)
              refine stp hF (p_move rfl) (by decide) (fun a hF => ?_)
              obtain ⟨hq5, H⟩ := hck H
              obtain ⟨b2, o2, q2, rfl, p7⟩ := p_idxo (n := 1) (i := (rd (((rd x7 (rd x8 (w64 ((x8.length : Int) - 1)))).O).Refs) x1)) hS rfl un_37 ti_4 hq5.1 hq5.2
              refine stp hF (p7 rfl rfl) (by decide) (fun a hF => ?_)
              refine ste0 hF (e_sto (n := 1) (c := true) hS rfl (Lens.id _) hq5.1 hq5.2 rfl rfl rfl ti_4 rfl rfl) (fun v w a hR hF => ?_)
              have hS : St e s5 w [Ow Kd.bool 4 (.slice (some ⟨b2, o2, none⟩) x14.2.2.1.length q2) (wr x14.2.2.1 (rd (((rd x7 (rd x8 (w64 ((x8.length : Int) - 1)))).O).Refs) x1) true), pt g1 51 ([v15, (.slice (some ⟨b2, o2, none⟩) x14.2.2.1.length q2), v17, (.int .i64 x14.2.2.2.2.1), (.bool x14.2.2.2.2.2)]), Ow (Kd.int .i64) 3 v17 x14.2.2.2.1] := hR
              refine nilN ?_
              refine xn ?_
              refine rg ?_
              refine stp hF (p_move rfl) (by decide) (fun a hF => ?_)
              refine stp hF (p_move rfl) (by decide) (fun a hF => ?_)
              replace hS := hS.sel (is := [1, 0, 0]) (A' := [pt g1 51 ([v15, (.slice (some ⟨b2, o2, none⟩) x14.2.2.1.length q2), v17, (.int .i64 x14.2.2.2.2.1), (.bool x14.2.2.2.2.2)]), Ow Kd.bool 4 (.slice (some ⟨b2, o2, none⟩) x14.2.2.1.length q2) (wr x14.2.2.1 (rd (((rd x7 (rd x8 (w64 ((x8.length : Int) - 1)))).O).Refs) x1) true), Ow (Kd.int .i64) 3 v17 x14.2.2.2.1]) rfl
              obtain ⟨x15, hx2, H⟩ := hb H
              refine ste hF (e_call (fst := []) (vs := [(.pointer (some ⟨g1, 0, none⟩)), (.int .i64 (rd (((rd x7 (rd x8 (w64 ((x8.length : Int) - 1)))).O).Refs) x1))]) (cap := []) rfl rfl go_21 (St.call (A := [pt g1 51 ([v15, (.slice (some ⟨b2, o2, none⟩) x14.2.2.1.length q2), v17, (.int .i64 x14.2.2.2.2.1), (.bool x14.2.2.2.2.2)]), Ow Kd.bool 4 (.slice (some ⟨b2, o2, none⟩) x14.2.2.1.length q2) (wr x14.2.2.1 (rd (((rd x7 (rd x8 (w64 ((x8.length : Int) - 1)))).O).Refs) x1) true), Ow (Kd.int .i64) 3 v17 x14.2.2.2.1]) (B := []) hS (impl_marker_put.spec k2 _ _ x14.2.1 (wr x14.2.2.1 (rd (((rd x7 (rd x8 (w64 ((x8.length : Int) - 1)))).O).Refs) x1) true) x14.2.2.2.1 x14.2.2.2.2.1 x14.2.2.2.2.2 (rd (((rd x7 (rd x8 (w64 ((x8.length : Int) - 1)))).O).Refs) x1) v15 (.slice (some ⟨b2, o2, none⟩) x14.2.2.1.length q2) v17 g1 h10 _ hx2))) (by decide) (fun v w a hR hF => ?_)
              obtain ⟨s6, A3, hg4, hS, hR⟩ := hR
              obtain ⟨v18, v19, v20, hv2, rfl, h11⟩ := hR; obtain rfl := hv2.symm
              have hS : St e s6 w [pt g1 51 ([v18, v19, v20, (.int .i64 x15.2.2.2.1), (.bool x15.2.2.2.2)]), Ow Kd.bool 4 v19 x15.2.1, Ow (Kd.int .i64) 3 v20 x15.2.2.1] := hS
              refine nilN ?_
              refine bn (xn ?_)
              obtain rfl := hsm H
              exact ⟨x15.1, x15.2.1, x15.2.2.1, x15.2.2.2.1, x15.2.2.2.2, s6, v18, v19, v20, hS, hF.cut ⟨rfl, rfl, rfl, rfl, trivial⟩, (hg3.trans hg4), h11, HK1⟩
            · replace H := hbf hc3 H
              refine skN ?_
              refine bn (xn ?_)
              obtain rfl := hsm H
              exact ⟨x14.2.1, x14.2.2.1, x14.2.2.2.1, x14.2.2.2.2.1, x14.2.2.2.2.2, s5, v15, v16, v17, hS, hF.cut ⟨rfl, rfl, rfl, rfl, trivial⟩, hg3, h10, HK1⟩
          · clear H HK1 hS hF
            rintro a w ⟨x2, x3, x4, x5, x6, s4, v12, v13, v14, hS, hF, hg5, h12, H⟩
            unfold impl_marker_drain.c1 at H
            refine rg ?_
            refine stp hF (p_add (c := w64 (x1 + 1)) rfl rfl rfl) (by decide) (fun a hF => ?_)
            refine stp hF (p_move rfl) (by decide) (fun a hF => ?_)
            refine nilN ?_
            refine xn ?_
            exact ⟨x2, x3, x4, x5, x6, (w64 (x1 + 1)), s4, v12, v13, v14, hS, hF.cut ⟨rfl, rfl, rfl, rfl, trivial⟩, (hg2.trans hg5), h12, H⟩
        · replace H := hbf hc2 H
          refine exi ?_
          refine xe (xe (hit (bn (xn ?_))))
          exact ⟨x9, x10, x11, x12, x13, s3, v9, v10, v11, hS, hF.cut ⟨rfl, trivial⟩, (hg1.trans hg2), h8, H⟩
    · replace H := hbf hc1 H
      refine exi ?_
      refine xe (xe (hit ?_))
      obtain rfl := hsm H
      exact ret0 (Or.inr rfl) hF rfl hS ⟨v4, v5, v6, rfl, rfl, h2⟩

def slices_Clone.f (k : Nat) (x : (List Bool)) : Option (List Bool) := if (([] : (List Bool))).length + x.length ≤ 140737488355328 then some x else none
set_option maxRecDepth 100000 in
theorem slices_Clone.spec (k : Nat) (s0 : HF) (w : World) (x : (List Bool)) (v : Value) (h : Sl Kd.bool s0 v x) (r : (List Bool)) (H : slices_Clone.f k x = some r) :
    Law Try.prog 23 #[v] s0 w [] (fun v s1 A1 => ∃ (u0 : Value), v = u0 ∧ A1 = [Ow Kd.bool 4 u0 r]) := by
  unfold slices_Clone.f at H
  obtain ⟨hq, H⟩ := hck H
  obtain rfl := hsm H
  refine Law.intro Try.func23 rfl [(0, v)] (Nat.le_of_ble_eq_true rfl) (enter_lk ⟨rfl, trivial⟩) (fun e a hS hF => ?_)
  have hF : Fr 8 a [(0, v)] := hF
  refine sq ?_
  refine rg ?_
  refine stp hF (p_assign rfl) (by decide) (fun a hF => ?_)
  refine nilN ?_
  refine xn ?_
  refine sq ?_
  rcases Sl.cases h with ⟨c, rfl, rfl⟩ | ⟨A, c, hv⟩
  · refine sq ?_
    refine rg ?_
    refine stp hF (p_move rfl) (by decide) (fun a hF => ?_)
    refine stp hF (p_eqnil un_37 rfl rfl) (by decide) (fun a hF => ?_)
    refine nilN ?_
    refine xn ?_
    refine cnd hF rfl (fun hc => ?_) (fun hc => absurd hc (by decide))
    refine sq ?_
    refine rg ?_
    refine stp hF (p_assign rfl) (by decide) (fun a hF => ?_)
    refine nilN ?_
    refine xn ?_
    refine rt ?_
    refine xr ?_
    replace hS := hS.ownNil Kd.bool 4 none
    exact ret1 hF rfl rfl hS ⟨_, rfl, rfl⟩
  · subst hv
    refine sq ?_
    refine rg ?_
    refine stp hF (p_move rfl) (by decide) (fun a hF => ?_)
    refine stp hF (p_eqnil un_37 rfl rfl) (by decide) (fun a hF => ?_)
    refine nilN ?_
    refine xn ?_
    refine cnd hF rfl (fun hc => absurd hc (by simp)) (fun hc => ?_)
    refine skN ?_
    refine xn ?_
    refine sq ?_
    refine rg ?_
    refine ste hF (e_bslice (kd := Kd.bool) (et := 4) (ps := []) (vs := []) (cs := []) (xs := ([] : (List Bool))) hS rfl (fun w => by kernel_rfl) rfl (by decide) (Nat.le_of_ble_eq_true rfl) (Rows.nil _ _ _ _)) (by decide) (fun v9 w a hR hF => ?_)
    have hS : St e s0 w [Ow Kd.bool 4 v9 ([] : (List Bool))] := hR
    refine stp hF (p_move rfl) (by decide) (fun a hF => ?_)
    refine ste hF (e_append (n := 0) hS rfl rfl rfl (h.src hS) un_37 ti_4 rfl (by decide) (by decide) (Nat.le_trans (Nat.mul_le_mul_right 1 hq) (by decide))) (by decide) (fun v10 w a hR hF => ?_)
    have hS : St e s0 w [Ow Kd.bool 4 v10 x] := hR
    refine stp hF (p_assign rfl) (by decide) (fun a hF => ?_)
    refine nilN ?_
    refine xn ?_
    refine rt ?_
    exact ret1 hF rfl rfl hS ⟨_, rfl, rfl⟩

def slices_IndexFunc_unmarked25.c1 (k : Nat) (x1 : (List TSlot)) (x2 : (List Bool)) (x3 : (List Int)) (x4 : Int) (x5 : Bool) : Option (Int × (List TSlot) × (List Bool) × (List Int) × Int × Bool) :=
  (some ((-1), x1, x2, x3, x4, x5))
def slices_IndexFunc_unmarked25.l1 (x6 : (List Int)) : Nat → (List TSlot) → (List Bool) → (List Int) → Int → Bool → Int → Option (Ex (Int × (List TSlot) × (List Bool) × (List Int) × Int × Bool) ((List TSlot) × (List Bool) × (List Int) × Int × Bool))
  | 0, _, _, _, _, _, _ => none
  | k + 1, x7, x8, x9, x10, x11, x12 => (if (decide (x12 < (x6.length : Int))) = true then (if 0 ≤ x12 ∧ x12 < (x6.length : Int) then ((impl_marker_unmarked.f k x7 x8 x9 x10 x11 (rd x6 x12)).bind fun x13 => (if x13.1 = true then (some (Ex.ret (x12, x13.2.1, x13.2.2.1, x13.2.2.2.1, x13.2.2.2.2.1, x13.2.2.2.2.2))) else ((slices_IndexFunc_unmarked25.l1 x6 k) x13.2.1 x13.2.2.1 x13.2.2.2.1 x13.2.2.2.2.1 x13.2.2.2.2.2 (w64 (x12 + 1))))) else none) else (some (Ex.go (x7, x8, x9, x10, x11))))
def slices_IndexFunc_unmarked25.f (k : Nat) (x6 : (List Int)) (x14 : (List TSlot)) (x15 : (List Bool)) (x16 : (List Int)) (x17 : Int) (x18 : Bool) : Option (Int × (List TSlot) × (List Bool) × (List Int) × Int × Bool) :=
  (((slices_IndexFunc_unmarked25.l1 x6 k x14 x15 x16 x17 x18 0) : Option (Ex (Int × (List TSlot) × (List Bool) × (List Int) × Int × Bool) ((List TSlot) × (List Bool) × (List Int) × Int × Bool))).bind fun x19 => Ex.on x19 (fun r => some r) (fun y => slices_IndexFunc_unmarked25.c1 k y.1 y.2.1 y.2.2.1 y.2.2.2.1 y.2.2.2.2))
set_option maxRecDepth 100000 in
set_option maxHeartbeats 4000000 in
theorem slices_IndexFunc_unmarked25.spec (k : Nat) (s0 : HF) (w : World) (x6 : (List Int)) (x14 : (List TSlot)) (x15 : (List Bool)) (x16 : (List Int)) (x17 : Int) (x18 : Bool) (v1 : Value) (v2 : Value) (v3 : Value) (v4 : Value) (g1 : Nat) (h1 : Sl (Kd.int .i64) s0 v1 x6) (h2 : Sl kTSlot s0 v2 x14) (r : Int × (List TSlot) × (List Bool) × (List Int) × Int × Bool) (H : slices_IndexFunc_unmarked25.f k x6 x14 x15 x16 x17 x18 = some r) :
    Law Try.prog 33 #[v1, (.func (.func 25) #[(.pointer (some ⟨g1, 0, none⟩))] #[])] s0 w [pt g1 51 ([v2, v3, v4, (.int .i64 x17), (.bool x18)]), Ow Kd.bool 4 v3 x15, Ow (Kd.int .i64) 3 v4 x16] (fun v s1 A1 => ∃ (u0 : Value) (u1 : Value) (u2 : Value), v = (.int .i64 r.1) ∧ A1 = [pt g1 51 ([u0, u1, u2, (.int .i64 r.2.2.2.2.1), (.bool r.2.2.2.2.2)]), Ow Kd.bool 4 u1 r.2.2.1, Ow (Kd.int .i64) 3 u2 r.2.2.2.1] ∧ Sl kTSlot s1 u0 r.2.1) := by
  unfold slices_IndexFunc_unmarked25.f at H
  refine Law.intro Try.func33 rfl [(0, v1), (1, (.func (.func 25) #[(.pointer (some ⟨g1, 0, none⟩))] #[]))] (Nat.le_of_ble_eq_true rfl) (enter_lk ⟨rfl, rfl, trivial⟩) (fun e a hS hF => ?_)
  have hF : Fr 19 a [(0, v1), (1, (.func (.func 25) #[(.pointer (some ⟨g1, 0, none⟩))] #[]))] := hF
  refine sq ?_
  refine rg ?_
  refine stp hF (p_assign rfl) (by decide) (fun a hF => ?_)
  refine nilN ?_
  refine xn ?_
  obtain ⟨x19, H, HK1⟩ := hb H
  refine sqj (fun a w => ∃ (x1 : (List TSlot)) (x2 : (List Bool)) (x3 : (List Int)) (x4 : Int) (x5 : Bool) (s2 : HF) (v5 : Value) (v6 : Value) (v7 : Value) , St e s2 w [pt g1 51 ([v5, v6, v7, (.int .i64 x4), (.bool x5)]), Ow Kd.bool 4 v6 x2, Ow (Kd.int .i64) 3 v7 x3] ∧ Fr 19 a [] ∧ Sub s0 s2 ∧ Sl kTSlot s2 v5 x1 ∧ slices_IndexFunc_unmarked25.c1 k x1 x2 x3 x4 x5 = some r) ?_ ?_
  · skip
    refine sq ?_
    refine rg ?_
    refine stp hF (p_move rfl) (by decide) (fun a hF => ?_)
    refine stp hF (p_lenr un_27 rfl h1) (by decide) (fun a hF => ?_)
    refine stp hF (p_move rfl) (by decide) (fun a hF => ?_)
    refine nilN ?_
    refine xn ?_
    refine blk ?_
    refine loop_ind (fun k1 a w => ∃ (x7 : (List TSlot)) (x8 : (List Bool)) (x9 : (List Int)) (x10 : Int) (x11 : Bool) (x12 : Int) (s3 : HF) (v8 : Value) (v9 : Value) (v10 : Value) , St e s3 w [pt g1 51 ([v8, v9, v10, (.int .i64 x10), (.bool x11)]), Ow Kd.bool 4 v9 x8, Ow (Kd.int .i64) 3 v10 x9] ∧ Fr 19 a [(0, v1), (1, (.func (.func 25) #[(.pointer (some ⟨g1, 0, none⟩))] #[])), (7, (.int .i64 (x6.length : Int))), (8, (.int .i64 x12))] ∧ Sub s0 s3 ∧ Sl kTSlot s3 v8 x7 ∧ slices_IndexFunc_unmarked25.l1 x6 k1 x7 x8 x9 x10 x11 x12 = some x19) k ?_ ?_ ?_
    · skip
      exact ⟨x14, x15, x16, x17, x18, 0, s0, v2, v3, v4, hS, hF.cut ⟨rfl, rfl, rfl, rfl, trivial⟩, (Sub.refl _), h2, H⟩
    · clear H hS hF
      rintro a w ⟨x7, x8, x9, x10, x11, x12, s3, v8, v9, v10, hS, hF, hg1, h3, H⟩
      exact absurd (show none = some _ from H) (by simp)
    · clear H hS hF
      rintro k1 a w ⟨x7, x8, x9, x10, x11, x12, s3, v8, v9, v10, hS, hF, hg1, h3, H⟩
      rw [slices_IndexFunc_unmarked25.l1.eq_2] at H
      refine sq ?_
      refine rg ?_
      refine stp hF (p_lss rfl rfl) (by decide) (fun a hF => ?_)
      refine nilN ?_
      refine xn ?_
      refine sq ?_
      refine cnd hF rfl (fun hc1 => ?_) (fun hc1 => ?_)
      · replace H := hbt hc1 H
        refine skN ?_
        refine xn ?_
        refine sq ?_
        refine blk ?_
        refine sq ?_
        refine rg ?_
        refine stp hF (p_move rfl) (by decide) (fun a hF => ?_)
        refine stp hF (p_assign rfl) (by decide) (fun a hF => ?_)
        refine nilN ?_
        refine xn ?_
        refine sq ?_
        refine rg ?_
        refine stp hF (p_move rfl) (by decide) (fun a hF => ?_)
        refine stp hF (p_move rfl) (by decide) (fun a hF => ?_)
        refine stp hF (p_move rfl) (by decide) (fun a hF => ?_)
        obtain ⟨hq1, H⟩ := hck H
        obtain ⟨ad1, h4, p1⟩ := p_idxr (P := Try.prog) (i := x12) (h1.mono hg1) un_27 ti_3 hq1.1 hq1.2
        refine stp hF (p1 rfl rfl) (by decide) (fun a hF => ?_)
        refine stp hF (p_ldr_int rfl hS h4 ia_3) (by decide) (fun a hF => ?_)
        obtain ⟨x13, hx1, H⟩ := hb H
        refine ste hF (e_call (fst := [(.pointer (some ⟨g1, 0, none⟩))]) (vs := [(.int .i64 (rd x6 x12))]) (cap := []) rfl rfl go_25 (St.call (A := [pt g1 51 ([v8, v9, v10, (.int .i64 x10), (.bool x11)]), Ow Kd.bool 4 v9 x8, Ow (Kd.int .i64) 3 v10 x9]) (B := []) hS (impl_marker_unmarked.spec k1 _ _ x7 x8 x9 x10 x11 (rd x6 x12) v8 v9 v10 g1 h3 _ hx1))) (by decide) (fun v w a hR hF => ?_)
        obtain ⟨s4, A2, hg2, hS, hR⟩ := hR
        obtain ⟨v11, v12, v13, hv1, rfl, h5⟩ := hR; obtain rfl := hv1.symm
        have hS : St e s4 w [pt g1 51 ([v11, v12, v13, (.int .i64 x13.2.2.2.2.1), (.bool x13.2.2.2.2.2)]), Ow Kd.bool 4 v12 x13.2.2.1, Ow (Kd.int .i64) 3 v13 x13.2.2.2.1] := hS
        refine nilN ?_
        refine xn ?_
        refine cnd hF rfl (fun hc2 => ?_) (fun hc2 => ?_)
        · replace H := hbt hc2 H
          refine sq ?_
          refine rg ?_
          refine stp hF (p_move rfl) (by decide) (fun a hF => ?_)
          refine stp hF (p_assign rfl) (by decide) (fun a hF => ?_)
          refine nilN ?_
          refine xn ?_
          refine rt ?_
          refine br (xr (xr (br (xr ?_))))
          obtain rfl := hsm H
          have H := hon1 HK1
          obtain rfl := hsm H
          exact ret1 hF rfl rfl hS ⟨v11, v12, v13, rfl, rfl, h5⟩
        · replace H := hbf hc2 H
          refine skN ?_
          refine bn (xn ?_)
          refine rg ?_
          refine stp hF (p_add (c := w64 (x12 + 1)) rfl rfl rfl) (by decide) (fun a hF => ?_)
          refine stp hF (p_move rfl) (by decide) (fun a hF => ?_)
          refine nilN ?_
          refine xn ?_
          exact ⟨x13.2.1, x13.2.2.1, x13.2.2.2.1, x13.2.2.2.2.1, x13.2.2.2.2.2, (w64 (x12 + 1)), s4, v11, v12, v13, hS, hF.cut ⟨rfl, rfl, rfl, rfl, trivial⟩, (hg1.trans hg2), h5, H⟩
      · replace H := hbf hc1 H
        refine exi ?_
        refine xe (xe (hit (xn ?_)))
        obtain rfl := hsm H
        exact ⟨x7, x8, x9, x10, x11, s3, v8, v9, v10, hS, hF.cut trivial, hg1, h3, HK1⟩
  · clear H HK1 hS hF
    rintro a w ⟨x1, x2, x3, x4, x5, s2, v5, v6, v7, hS, hF, hg3, h6, H⟩
    unfold slices_IndexFunc_unmarked25.c1 at H
    refine sq ?_
    refine rg ?_
    refine stp hF (p_assign rfl) (by decide) (fun a hF => ?_)
    refine nilN ?_
    refine xn ?_
    refine rt ?_
    obtain rfl := hsm H
    exact ret1 hF rfl rfl hS ⟨v5, v6, v7, rfl, rfl, h6⟩

def slices_ContainsFunc_unmarked25.f (k : Nat) (x1 : (List Int)) (x2 : (List TSlot)) (x3 : (List Bool)) (x4 : (List Int)) (x5 : Int) (x6 : Bool) : Option (Bool × (List TSlot) × (List Bool) × (List Int) × Int × Bool) :=
  ((slices_IndexFunc_unmarked25.f k x1 x2 x3 x4 x5 x6).bind fun x7 => (some (decide (0 ≤ x7.1), x7.2.1, x7.2.2.1, x7.2.2.2.1, x7.2.2.2.2.1, x7.2.2.2.2.2)))
set_option maxRecDepth 100000 in
set_option maxHeartbeats 4000000 in
theorem slices_ContainsFunc_unmarked25.spec (k : Nat) (s0 : HF) (w : World) (x1 : (List Int)) (x2 : (List TSlot)) (x3 : (List Bool)) (x4 : (List Int)) (x5 : Int) (x6 : Bool) (v1 : Value) (v2 : Value) (v3 : Value) (v4 : Value) (g1 : Nat) (h1 : Sl (Kd.int .i64) s0 v1 x1) (h2 : Sl kTSlot s0 v2 x2) (r : Bool × (List TSlot) × (List Bool) × (List Int) × Int × Bool) (H : slices_ContainsFunc_unmarked25.f k x1 x2 x3 x4 x5 x6 = some r) :
    Law Try.prog 24 #[v1, (.func (.func 25) #[(.pointer (some ⟨g1, 0, none⟩))] #[])] s0 w [pt g1 51 ([v2, v3, v4, (.int .i64 x5), (.bool x6)]), Ow Kd.bool 4 v3 x3, Ow (Kd.int .i64) 3 v4 x4] (fun v s1 A1 => ∃ (u0 : Value) (u1 : Value) (u2 : Value), v = (.bool r.1) ∧ A1 = [pt g1 51 ([u0, u1, u2, (.int .i64 r.2.2.2.2.1), (.bool r.2.2.2.2.2)]), Ow Kd.bool 4 u1 r.2.2.1, Ow (Kd.int .i64) 3 u2 r.2.2.2.1] ∧ Sl kTSlot s1 u0 r.2.1) := by
  unfold slices_ContainsFunc_unmarked25.f at H
  refine Law.intro Try.func24 rfl [(0, v1), (1, (.func (.func 25) #[(.pointer (some ⟨g1, 0, none⟩))] #[]))] (Nat.le_of_ble_eq_true rfl) (enter_lk ⟨rfl, rfl, trivial⟩) (fun e a hS hF => ?_)
  have hF : Fr 9 a [(0, v1), (1, (.func (.func 25) #[(.pointer (some ⟨g1, 0, none⟩))] #[]))] := hF
  refine sq ?_
  refine rg ?_
  refine stp hF (p_assign rfl) (by decide) (fun a hF => ?_)
  refine nilN ?_
  refine xn ?_
  refine sq ?_
  refine rg ?_
  refine stp hF (p_move rfl) (by decide) (fun a hF => ?_)
  refine stp hF (p_move rfl) (by decide) (fun a hF => ?_)
  obtain ⟨x7, hx1, H⟩ := hb H
  refine ste hF (e_call (fst := []) (vs := [v1, (.func (.func 25) #[(.pointer (some ⟨g1, 0, none⟩))] #[])]) (cap := []) rfl rfl go_33 (St.call (A := [pt g1 51 ([v2, v3, v4, (.int .i64 x5), (.bool x6)]), Ow Kd.bool 4 v3 x3, Ow (Kd.int .i64) 3 v4 x4]) (B := []) hS (slices_IndexFunc_unmarked25.spec k _ _ x1 x2 x3 x4 x5 x6 v1 v2 v3 v4 g1 h1 h2 _ hx1))) (by decide) (fun v w a hR hF => ?_)
  obtain ⟨s2, A2, hg1, hS, hR⟩ := hR
  obtain ⟨v5, v6, v7, hv1, rfl, h3⟩ := hR; obtain rfl := hv1.symm
  have hS : St e s2 w [pt g1 51 ([v5, v6, v7, (.int .i64 x7.2.2.2.2.1), (.bool x7.2.2.2.2.2)]), Ow Kd.bool 4 v6 x7.2.2.1, Ow (Kd.int .i64) 3 v7 x7.2.2.2.1] := hS
  refine stp hF (p_geq rfl rfl) (by decide) (fun a hF => ?_)
  refine stp hF (p_assign rfl) (by decide) (fun a hF => ?_)
  refine nilN ?_
  refine xn ?_
  refine rt ?_
  obtain rfl := hsm H
  exact ret1 hF rfl rfl hS ⟨v5, v6, v7, rfl, rfl, h3⟩

def impl_Mark.c1 (k : Nat) (x1 : (List TSlot)) (x2 : (List Bool)) (x3 : (List Int)) (x4 : Int) (x5 : Bool) (x6 : Int) : Option ((List Bool) × Int) :=
  (some (x2, x6))
def impl_Mark.c2 (k : Nat) (rec_l1 : (List TSlot) → (List Bool) → (List Int) → Int → Bool → Int → Option ((List TSlot) × (List Bool) × (List Int) × Int × Bool × Int)) (x7 : (List TSlot)) (x8 : (List Bool)) (x9 : (List Int)) (x10 : Int) (x11 : Bool) (x12 : Int) : Option ((List TSlot) × (List Bool) × (List Int) × Int × Bool × Int) :=
  ((impl_marker_drain.f k x7 x8 x9 x10 x11).bind fun x13 => (rec_l1 x13.1 x13.2.1 x13.2.2.1 x13.2.2.2.1 x13.2.2.2.2 x12))
def impl_Mark.c3 (k : Nat) (rec_l2 : (List TSlot) → (List Bool) → (List Int) → Int → Bool → Int → Option ((List TSlot) × (List Bool) × (List Int) × Int × Bool × Int)) (x14 : Int) (x15 : (List TSlot)) (x16 : (List Bool)) (x17 : (List Int)) (x18 : Int) (x19 : Bool) : Option ((List TSlot) × (List Bool) × (List Int) × Int × Bool × Int) :=
  (rec_l2 x15 x16 x17 x18 x19 (w64 (x14 + 1)))
def impl_Mark.c4 (k : Nat) (x14 : Int) (x20 : (List TSlot)) (x21 : (List Bool)) (x22 : (List Int)) (x23 : Int) (x24 : Bool) (x25 : Bool) : Option ((List TSlot) × (List Bool) × (List Int) × Int × Bool) :=
  (if x25 = true then ((impl_marker_put.f k x20 x21 x22 x23 x24 x14).bind fun x26 => (some (x26.1, x26.2.1, x26.2.2.1, x26.2.2.2.1, x26.2.2.2.2))) else (some (x20, x21, x22, x23, x24)))
def impl_Mark.l2 (x27 : (List Bool)) (x28 : (List TSlot)) (x29 : Int) : Nat → (List TSlot) → (List Bool) → (List Int) → Int → Bool → Int → Option ((List TSlot) × (List Bool) × (List Int) × Int × Bool × Int)
  | 0, _, _, _, _, _, _ => none
  | k + 1, x30, x31, x32, x33, x34, x14 => (if (decide (x14 < (x27.length : Int))) = true then (((if 0 ≤ x14 ∧ x14 < (x27.length : Int) then ((if (rd x27 x14) = true then (if 0 ≤ x14 ∧ x14 < (x28.length : Int) then ((slices_ContainsFunc_unmarked25.f k (((rd x28 x14).O).Refs) x30 x31 x32 x33 x34).bind fun x35 => (some (x35.2.1, x35.2.2.1, x35.2.2.2.1, x35.2.2.2.2.1, x35.2.2.2.2.2, x35.1))) else none) else (some (x30, x31, x32, x33, x34, false)) : Option ((List TSlot) × (List Bool) × (List Int) × Int × Bool × Bool)).bind fun x36 => impl_Mark.c4 k x14 x36.1 x36.2.1 x36.2.2.1 x36.2.2.2.1 x36.2.2.2.2.1 x36.2.2.2.2.2) else none) : Option ((List TSlot) × (List Bool) × (List Int) × Int × Bool)).bind fun x37 => impl_Mark.c3 k (impl_Mark.l2 x27 x28 x29 k) x14 x37.1 x37.2.1 x37.2.2.1 x37.2.2.2.1 x37.2.2.2.2) else (some (x30, x31, x32, x33, x34, w64 (x29 + 1))))
def impl_Mark.l1 (x28 : (List TSlot)) : Nat → (List TSlot) → (List Bool) → (List Int) → Int → Bool → Int → Option ((List TSlot) × (List Bool) × (List Int) × Int × Bool × Int)
  | 0, _, _, _, _, _, _ => none
  | k + 1, x38, x39, x40, x41, x42, x29 => (if x42 = true then ((((slices_Clone.f k x39).bind fun x27 => (impl_Mark.l2 x27 x28 x29 k x38 x39 x40 x41 false 0)) : Option ((List TSlot) × (List Bool) × (List Int) × Int × Bool × Int)).bind fun x43 => impl_Mark.c2 k (impl_Mark.l1 x28 k) x43.1 x43.2.1 x43.2.2.1 x43.2.2.2.1 x43.2.2.2.2.1 x43.2.2.2.2.2) else (some (x38, x39, x40, x41, x42, x29)))
def impl_Mark.c5 (k : Nat) (x28 : (List TSlot)) (x44 : (List TSlot)) (x45 : (List Bool)) (x46 : (List Int)) (x47 : Int) (x48 : Bool) : Option ((List Bool) × Int) :=
  ((((impl_marker_drain.f k x44 x45 x46 x47 x48).bind fun x49 => (impl_Mark.l1 x28 k x49.1 x49.2.1 x49.2.2.1 x49.2.2.2.1 x49.2.2.2.2 0)) : Option ((List TSlot) × (List Bool) × (List Int) × Int × Bool × Int)).bind fun x50 => impl_Mark.c1 k x50.1 x50.2.1 x50.2.2.1 x50.2.2.2.1 x50.2.2.2.2.1 x50.2.2.2.2.2)
def impl_Mark.c6 (k : Nat) (x51 : Int) (x28 : (List TSlot)) (x52 : Int) (x53 : Bool) : Option ((List Bool) × Int) :=
  (if x53 = true then (some (([] : List Bool), 0)) else (((if 0 ≤ x51 ∧ x51 < (x28.length : Int) then (if ((rd x28 x51).Has) = true then (if 0 ≤ x51 ∧ x51 < ((List.replicate (32 : Int).toNat false).length : Int) then ((impl_marker_put.f k x28 (wr (List.replicate (32 : Int).toNat false) x51 true) ([] : List Int) x52 false x51).bind fun x54 => (some (x54.1, x54.2.1, x54.2.2.1, x54.2.2.2.1, x54.2.2.2.2))) else none) else (some (x28, (List.replicate (32 : Int).toNat false), ([] : List Int), x52, false))) else none) : Option ((List TSlot) × (List Bool) × (List Int) × Int × Bool)).bind fun x55 => impl_Mark.c5 k x28 x55.1 x55.2.1 x55.2.2.1 x55.2.2.2.1 x55.2.2.2.2))
def impl_Mark.c7 (k : Nat) (x52 : Int) (x51 : Int) (x28 : (List TSlot)) (x56 : Bool) : Option ((List Bool) × Int) :=
  ((if x56 = true then (some true) else ((impl_in.f k x52 1 40).bind fun x57 => (some (!x57))) : Option Bool).bind fun x58 => impl_Mark.c6 k x51 x28 x52 x58)
def impl_Mark.f (k : Nat) (x28 : (List TSlot)) (x51 : Int) (x52 : Int) : Option ((List Bool) × Int) :=
  ((impl_ViewOk.f k x28).bind fun x59 => ((if (!x59) = true then (some true) else ((impl_isOid.f k x51).bind fun x60 => (some (!x60))) : Option Bool).bind fun x61 => impl_Mark.c7 k x52 x51 x28 x61))
set_option maxRecDepth 100000 in
set_option maxHeartbeats 4000000 in
theorem impl_Mark.spec (k : Nat) (s0 : HF) (w : World) (x28 : (List TSlot)) (x51 : Int) (x52 : Int) (v1 : Value) (h1 : Sl kTSlot s0 v1 x28) (r : (List Bool) × Int) (H : impl_Mark.f k x28 x51 x52 = some r) :
    Law Try.prog 13 #[v1, (.int .i64 x51), (.int .i64 x52)] s0 w [] (fun v s1 A1 => ∃ (u0 : Value), v = (.tuple #[u0, (.int .i64 r.2)]) ∧ A1 = [Ow Kd.bool 4 u0 r.1]) := by
  unfold impl_Mark.f at H
  refine Law.intro Try.func13 rfl [(0, v1), (1, (.int .i64 x51)), (2, (.int .i64 x52))] (Nat.le_of_ble_eq_true rfl) (enter_lk ⟨rfl, rfl, rfl, trivial⟩) (fun e a hS hF => ?_)
  have hF : Fr 89 a [(0, v1), (1, (.int .i64 x51)), (2, (.int .i64 x52))] := hF
  refine sq ?_
  refine rg ?_
  refine stp hF (p_assign rfl) (by decide) (fun a hF => ?_)
  refine stp hF (p_assign rfl) (by decide) (fun a hF => ?_)
  refine nilN ?_
  refine xn ?_
  refine sq ?_
  refine sq ?_
  refine rg ?_
  refine stp hF (p_move rfl) (by decide) (fun a hF => ?_)
  obtain ⟨x59, hx1, H⟩ := hb H
  refine ste hF (e_call (fst := []) (vs := [v1]) (cap := []) rfl rfl go_14 (St.call (A := []) (B := []) hS (impl_ViewOk.spec k _ _ x28 v1 h1 _ hx1))) (by decide) (fun v w a hR hF => ?_)
  obtain ⟨s2, A2, hg1, hS, hR⟩ := hR
  obtain ⟨hv1, rfl⟩ := hR; obtain rfl := hv1.symm
  have hS : St e s2 w [] := hS
  refine stp hF (p_not rfl) (by decide) (fun a hF => ?_)
  refine stp hF (p_move rfl) (by decide) (fun a hF => ?_)
  obtain ⟨x61, H, HK1⟩ := hb H
  refine cutj 4 (fun a w => ∃ (x56 : Bool) (s3 : HF) , St e s3 w [] ∧ Fr 89 a [(0, v1), (1, (.int .i64 x51)), (2, (.int .i64 x52)), (19, (.bool x56))] ∧ Sub s2 s3 ∧ impl_Mark.c7 k x52 x51 x28 x56 = some r) rfl rfl ?_ ?_
  · rcases Bool.eq_false_or_eq_true ((!x59)) with hc1 | hc1
    · replace H := hbt hc1 H
      refine gofD (j := 3) hF rfl rfl (by rw [hc1]; decide) (by decide) (fun a hF => ?_)
      refine gofD (j := 3) hF rfl rfl (by rw [hc1]; decide) (by decide) (fun a hF => ?_)
      refine gofD (j := 3) hF rfl rfl (by rw [hc1]; decide) (by decide) (fun a hF => ?_)
      refine stp hF (p_pickT rfl hc1 rfl) (by decide) (fun a hF => ?_)
      refine nilN ?_
      refine xn ?_
      obtain rfl := hsm H
      exact ⟨true, s2, hS, hF.cut ⟨rfl, rfl, rfl, rfl, trivial⟩, (Sub.refl _), HK1⟩
    · replace H := hbf hc1 H
      refine gonE (j := 3) hF rfl rfl hc1 ?_
      refine stp hF (p_move rfl) (by decide) (fun a hF => ?_)
      obtain ⟨x60, hx2, H⟩ := hb H
      refine gonE (j := 3) hF rfl rfl hc1 ?_
      refine ste hF (e_call (fst := []) (vs := [(.int .i64 x51)]) (cap := []) rfl rfl go_17 (St.call (A := []) (B := []) hS (impl_isOid.spec k _ _ x51 _ hx2))) (by decide) (fun v w a hR hF => ?_)
      obtain ⟨s4, A3, hg2, hS, hR⟩ := hR
      obtain ⟨hv2, rfl⟩ := hR; obtain rfl := hv2.symm
      have hS : St e s4 w [] := hS
      refine gonE (j := 3) hF rfl rfl hc1 ?_
      refine stp hF (p_not rfl) (by decide) (fun a hF => ?_)
      refine stp hF (p_pickF rfl hc1 rfl) (by decide) (fun a hF => ?_)
      refine nilN ?_
      refine xn ?_
      obtain rfl := hsm H
      exact ⟨(!x60), s4, hS, hF.cut ⟨rfl, rfl, rfl, rfl, trivial⟩, hg2, HK1⟩
  · clear H HK1 hS hF
    rintro a w ⟨x56, s3, hS, hF, hg3, H⟩
    unfold impl_Mark.c7 at H
    refine stp hF (p_move rfl) (by decide) (fun a hF => ?_)
    obtain ⟨x58, H, HK2⟩ := hb H
    refine cutj 4 (fun a w => ∃ (x53 : Bool) (s5 : HF) , St e s5 w [] ∧ Fr 89 a [(0, v1), (1, (.int .i64 x51)), (2, (.int .i64 x52)), (24, (.bool x53))] ∧ Sub s3 s5 ∧ impl_Mark.c6 k x51 x28 x52 x53 = some r) rfl rfl ?_ ?_
    · rcases Bool.eq_false_or_eq_true (x56) with hc2 | hc2
      · replace H := hbt hc2 H
        refine gofD (j := 8) hF rfl rfl (by rw [hc2]; decide) (by decide) (fun a hF => ?_)
        refine gofD (j := 8) hF rfl rfl (by rw [hc2]; decide) (by decide) (fun a hF => ?_)
        refine gofD (j := 8) hF rfl rfl (by rw [hc2]; decide) (by decide) (fun a hF => ?_)
        refine stp hF (p_pickT rfl hc2 rfl) (by decide) (fun a hF => ?_)
        refine nilN ?_
        refine xn ?_
        obtain rfl := hsm H
        exact ⟨true, s3, hS, hF.cut ⟨rfl, rfl, rfl, rfl, trivial⟩, (Sub.refl _), HK2⟩
      · replace H := hbf hc2 H
        refine gonE (j := 8) hF rfl rfl hc2 ?_
        refine stp hF (p_move rfl) (by decide) (fun a hF => ?_)
        obtain ⟨x57, hx3, H⟩ := hb H
        refine gonE (j := 8) hF rfl rfl hc2 ?_
        refine ste hF (e_call (fst := []) (vs := [(.int .i64 x52), (.int .i64 1), (.int .i64 40)]) (cap := []) rfl rfl go_20 (St.call (A := []) (B := []) hS (impl_in.spec k _ _ x52 1 40 _ hx3))) (by decide) (fun v w a hR hF => ?_)
        obtain ⟨s6, A4, hg4, hS, hR⟩ := hR
        obtain ⟨hv3, rfl⟩ := hR; obtain rfl := hv3.symm
        have hS : St e s6 w [] := hS
        refine gonE (j := 8) hF rfl rfl hc2 ?_
        refine stp hF (p_not rfl) (by decide) (fun a hF => ?_)
        refine stp hF (p_pickF rfl hc2 rfl) (by decide) (fun a hF => ?_)
        refine nilN ?_
        refine xn ?_
        obtain rfl := hsm H
        exact ⟨(!x57), s6, hS, hF.cut ⟨rfl, rfl, rfl, rfl, trivial⟩, hg4, HK2⟩
    · clear H HK2 hS hF
      rintro a w ⟨x53, s5, hS, hF, hg5, H⟩
      unfold impl_Mark.c6 at H
      refine nilN ?_
      refine xn ?_
      refine cnd hF rfl (fun hc3 => ?_) (fun hc3 => ?_)
      · replace H := hbt hc3 H
        refine sq ?_
        refine rg ?_
        refine stp hF (p_assign rfl) (by decide) (fun a hF => ?_)
        refine stp hF (p_assign rfl) (by decide) (fun a hF => ?_)
        refine nilN ?_
        refine xn ?_
        refine rt ?_
        refine xr ?_
        obtain rfl := hsm H
        replace hS := hS.ownNil Kd.bool 4 none
        exact ret2 hF rfl rfl rfl hS ⟨(.slice none 0 0), rfl, rfl⟩
      · replace H := hbf hc3 H
        refine skN ?_
        refine xn ?_
        refine sq ?_
        refine rg ?_
        refine stp hF (p_move rfl) (by decide) (fun a hF => ?_)
        refine ste hF (e_make (kd := Kd.bool) (x0 := false) (c := [(.bool false)]) hS rfl rfl un_37 ti_4 rfl rfl (by decide) (by decide) (by decide)) (by decide) (fun v2 w a hR hF => ?_)
        have hS : St e s5 w [Ow Kd.bool 4 v2 (List.replicate (32 : Int).toNat false)] := hR
        refine stp hF (p_move rfl) (by decide) (fun a hF => ?_)
        refine stp hF (p_build (ps := [(0, (.tmp 25)), (1, (.tmp 26)), (3, (.tmp 27))]) (vs := [(0, v1), (1, v2), (3, (.int .i64 x52))]) (v := (.agg #[v1, v2, (.slice none 0 0), (.int .i64 x52), (.bool false)])) rfl (by intro w; obtain ⟨_, _, _, e1⟩ := Sl.el (((h1.mono hg1).mono hg3).mono hg5); rw [e1]; obtain ⟨_, _, _, e2⟩ := hS.el (i := 0) rfl; rw [e2]; kernel_rfl)) (by decide) (fun a hF => ?_)
        refine ste hF (e_box (cs := [v1, v2, (.slice none 0 0), (.int .i64 x52), (.bool false)]) hS rfl rfl) (by decide) (fun v w a hR hF => ?_)
        obtain ⟨g1, rfl, hS⟩ := hR
        refine stp hF (p_assign rfl) (by decide) (fun a hF => ?_)
        refine nilN ?_
        refine xn ?_
        obtain ⟨x55, H, HK3⟩ := hb H
        refine sqj (fun a w => ∃ (x44 : (List TSlot)) (x45 : (List Bool)) (x46 : (List Int)) (x47 : Int) (x48 : Bool) (s7 : HF) (v3 : Value) (v4 : Value) (v5 : Value) , St e s7 w [pt g1 51 ([v3, v4, v5, (.int .i64 x47), (.bool x48)]), Ow Kd.bool 4 v4 x45, Ow (Kd.int .i64) 3 v5 x46] ∧ Fr 89 a [(0, v1), (8, (.pointer (some ⟨g1, 0, none⟩)))] ∧ Sub s5 s7 ∧ Sl kTSlot s7 v3 x44 ∧ impl_Mark.c5 k x28 x44 x45 x46 x47 x48 = some r) ?_ ?_
        · skip
          refine sq ?_
          refine rg ?_
          refine stp hF (p_move rfl) (by decide) (fun a hF => ?_)
          refine stp hF (p_move rfl) (by decide) (fun a hF => ?_)
          obtain ⟨hq1, H⟩ := hck H
          obtain ⟨ad1, h2, p1⟩ := p_idxr (P := Try.prog) (i := x51) (((h1.mono hg1).mono hg3).mono hg5) un_24 ti_32 hq1.1 hq1.2
          refine stp hF (p1 rfl rfl) (by decide) (fun a hF => ?_)
          have h3 : Pr Kd.bool s5 (ad1.add 0) ((rd x28 x51).Has) := h2.lens kTSlot_Has
          refine stp hF (p_fld rfl fi_32_0) (by decide) (fun a hF => ?_)
          refine stp hF (p_ldr_bool rfl hS h3 ia_4) (by decide) (fun a hF => ?_)
          refine nilN ?_
          refine xn ?_
          refine cnd hF rfl (fun hc4 => ?_) (fun hc4 => ?_)
          · replace H := hbt hc4 H
            refine sq ?_
            refine rg ?_
            refine stp hF (p_move rfl) (by decide) (fun a hF => ?_)
            refine stp hF (p_nilck rfl) (by decide) (fun a hF => ?_)
            refine stp hF (p_fldb (o' := 1) rfl fi_51_1 rfl) (by decide) (fun a hF => ?_)
            refine stp hF (p_ldb_one (i := 0) hS rfl rfl ia_37 rfl) (by decide) (fun a hF => ?_)
            refine stp hF (p_move rfl) (by decide) (fun a hF => ?_)
            obtain ⟨hq2, H⟩ := hck H
            obtain ⟨b1, o1, q1, rfl, p2⟩ := p_idxo (n := 1) (i := x51) hS rfl un_37 ti_4 hq2.1 hq2.2
            refine stp hF (p2 rfl rfl) (by decide) (fun a hF => ?_)
            refine ste0 hF (e_sto (n := 1) (c := true) hS rfl (Lens.id _) hq2.1 hq2.2 rfl rfl rfl ti_4 rfl rfl) (fun v w a hR hF => ?_)
            have hS : St e s5 w [Ow Kd.bool 4 (.slice (some ⟨b1, o1, none⟩) (List.replicate (32 : Int).toNat false).length q1) (wr (List.replicate (32 : Int).toNat false) x51 true), pt g1 51 ([v1, (.slice (some ⟨b1, o1, none⟩) (List.replicate (32 : Int).toNat false).length q1), (.slice none 0 0), (.int .i64 x52), (.bool false)])] := hR
            refine nilN ?_
            refine xn ?_
            refine rg ?_
            refine stp hF (p_move rfl) (by decide) (fun a hF => ?_)
            refine stp hF (p_move rfl) (by decide) (fun a hF => ?_)
            replace hS := hS.ownNil (Kd.int .i64) 3 none
            replace hS := hS.sel (is := [2, 1, 0]) (A' := [pt g1 51 ([v1, (.slice (some ⟨b1, o1, none⟩) (List.replicate (32 : Int).toNat false).length q1), (.slice none 0 0), (.int .i64 x52), (.bool false)]), Ow Kd.bool 4 (.slice (some ⟨b1, o1, none⟩) (List.replicate (32 : Int).toNat false).length q1) (wr (List.replicate (32 : Int).toNat false) x51 true), Ow (Kd.int .i64) 3 (.slice none 0 0) ([] : List Int)]) rfl
            obtain ⟨x54, hx4, H⟩ := hb H
            refine ste hF (e_call (fst := []) (vs := [(.pointer (some ⟨g1, 0, none⟩)), (.int .i64 x51)]) (cap := []) rfl rfl go_21 (St.call (A := [pt g1 51 ([v1, (.slice (some ⟨b1, o1, none⟩) (List.replicate (32 : Int).toNat false).length q1), (.slice none 0 0), (.int .i64 x52), (.bool false)]), Ow Kd.bool 4 (.slice (some ⟨b1, o1, none⟩) (List.replicate (32 : Int).toNat false).length q1) (wr (List.replicate (32 : Int).toNat false) x51 true), Ow (Kd.int .i64) 3 (.slice none 0 0) ([] : List Int)]) (B := []) hS (impl_marker_put.spec k _ _ x28 (wr (List.replicate (32 : Int).toNat false) x51 true) ([] : List Int) x52 false x51 v1 (.slice (some ⟨b1, o1, none⟩) (List.replicate (32 : Int).toNat false).length q1) (.slice none 0 0) g1 (((h1.mono hg1).mono hg3).mono hg5) _ hx4))) (by decide) (fun v w a hR hF => ?_)
            obtain ⟨s8, A5, hg6, hS, hR⟩ := hR
            obtain ⟨v6, v7, v8, hv4, rfl, h4⟩ := hR; obtain rfl := hv4.symm
            have hS : St e s8 w [pt g1 51 ([v6, v7, v8, (.int .i64 x54.2.2.2.1), (.bool x54.2.2.2.2)]), Ow Kd.bool 4 v7 x54.2.1, Ow (Kd.int .i64) 3 v8 x54.2.2.1] := hS
            refine nilN ?_
            refine xn ?_
            obtain rfl := hsm H
            exact ⟨x54.1, x54.2.1, x54.2.2.1, x54.2.2.2.1, x54.2.2.2.2, s8, v6, v7, v8, hS, hF.cut ⟨rfl, rfl, trivial⟩, hg6, h4, HK3⟩
          · replace H := hbf hc4 H
            refine skN ?_
            refine xn ?_
            obtain rfl := hsm H
            replace hS := hS.ownNil (Kd.int .i64) 3 none
            replace hS := hS.sel (is := [1, 1, 0]) (A' := [pt g1 51 ([v1, v2, (.slice none 0 0), (.int .i64 x52), (.bool false)]), Ow Kd.bool 4 v2 (List.replicate (32 : Int).toNat false), Ow (Kd.int .i64) 3 (.slice none 0 0) ([] : List Int)]) rfl
            exact ⟨x28, (List.replicate (32 : Int).toNat false), ([] : List Int), x52, false, s5, v1, v2, (.slice none 0 0), hS, hF.cut ⟨rfl, rfl, trivial⟩, (Sub.refl _), (((h1.mono hg1).mono hg3).mono hg5), HK3⟩
        · clear H HK3 hS hF
          rintro a w ⟨x44, x45, x46, x47, x48, s7, v3, v4, v5, hS, hF, hg7, h5, H⟩
          unfold impl_Mark.c5 at H
          refine sq ?_
          refine rg ?_
          refine stp hF (p_assign rfl) (by decide) (fun a hF => ?_)
          refine nilN ?_
          refine xn ?_
          obtain ⟨x50, H, HK4⟩ := hb H
          refine sqj (fun a w => ∃ (x1 : (List TSlot)) (x2 : (List Bool)) (x3 : (List Int)) (x4 : Int) (x5 : Bool) (x6 : Int) (s9 : HF) (v9 : Value) (v10 : Value) (v11 : Value) , St e s9 w [pt g1 51 ([v9, v10, v11, (.int .i64 x4), (.bool x5)]), Ow Kd.bool 4 v10 x2, Ow (Kd.int .i64) 3 v11 x3] ∧ Fr 89 a [(8, (.pointer (some ⟨g1, 0, none⟩))), (9, (.int .i64 x6))] ∧ Sub s7 s9 ∧ Sl kTSlot s9 v9 x1 ∧ impl_Mark.c1 k x1 x2 x3 x4 x5 x6 = some r) ?_ ?_
          · skip
            refine sq ?_
            refine rg ?_
            refine stp hF (p_move rfl) (by decide) (fun a hF => ?_)
            obtain ⟨x49, hx5, H⟩ := hb H
            refine ste hF (e_call (fst := []) (vs := [(.pointer (some ⟨g1, 0, none⟩))]) (cap := []) rfl rfl go_22 (St.call (A := [pt g1 51 ([v3, v4, v5, (.int .i64 x47), (.bool x48)]), Ow Kd.bool 4 v4 x45, Ow (Kd.int .i64) 3 v5 x46]) (B := []) hS (impl_marker_drain.spec k _ _ x44 x45 x46 x47 x48 v3 v4 v5 g1 h5 _ hx5))) (by decide) (fun v w a hR hF => ?_)
            obtain ⟨s10, A6, hg8, hS, hR⟩ := hR
            obtain ⟨v12, v13, v14, hv5, rfl, h6⟩ := hR; obtain rfl := hv5.symm
            have hS : St e s10 w [pt g1 51 ([v12, v13, v14, (.int .i64 x49.2.2.2.1), (.bool x49.2.2.2.2)]), Ow Kd.bool 4 v13 x49.2.1, Ow (Kd.int .i64) 3 v14 x49.2.2.1] := hS
            refine nilN ?_
            refine xn ?_
            refine blk ?_
            refine loop_ind (fun k1 a w => ∃ (x38 : (List TSlot)) (x39 : (List Bool)) (x40 : (List Int)) (x41 : Int) (x42 : Bool) (x29 : Int) (s11 : HF) (v15 : Value) (v16 : Value) (v17 : Value) , St e s11 w [pt g1 51 ([v15, v16, v17, (.int .i64 x41), (.bool x42)]), Ow Kd.bool 4 v16 x39, Ow (Kd.int .i64) 3 v17 x40] ∧ Fr 89 a [(0, v1), (8, (.pointer (some ⟨g1, 0, none⟩))), (9, (.int .i64 x29))] ∧ Sub s10 s11 ∧ Sl kTSlot s11 v15 x38 ∧ impl_Mark.l1 x28 k1 x38 x39 x40 x41 x42 x29 = some x50) k ?_ ?_ ?_
            · skip
              exact ⟨x49.1, x49.2.1, x49.2.2.1, x49.2.2.2.1, x49.2.2.2.2, 0, s10, v12, v13, v14, hS, hF.cut ⟨rfl, rfl, rfl, trivial⟩, (Sub.refl _), h6, H⟩
            · clear H hS hF
              rintro a w ⟨x38, x39, x40, x41, x42, x29, s11, v15, v16, v17, hS, hF, hg9, h7, H⟩
              exact absurd (show none = some _ from H) (by simp)
            · clear H hS hF
              rintro k1 a w ⟨x38, x39, x40, x41, x42, x29, s11, v15, v16, v17, hS, hF, hg9, h7, H⟩
              rw [impl_Mark.l1.eq_2] at H
              refine sq ?_
              refine sq ?_
              refine rg ?_
              refine stp hF (p_move rfl) (by decide) (fun a hF => ?_)
              refine stp hF (p_nilck rfl) (by decide) (fun a hF => ?_)
              refine stp hF (p_fldb (o' := 4) rfl fi_51_4 rfl) (by decide) (fun a hF => ?_)
              refine stp hF (p_ldb_one (i := 0) hS rfl rfl ia_4 rfl) (by decide) (fun a hF => ?_)
              refine nilN ?_
              refine xn ?_
              refine cnd hF rfl (fun hc5 => ?_) (fun hc5 => ?_)
              · replace H := hbt hc5 H
                refine skN ?_
                refine xn ?_
                obtain ⟨x43, H, HK5⟩ := hb H
                refine sqj (fun a w => ∃ (x7 : (List TSlot)) (x8 : (List Bool)) (x9 : (List Int)) (x10 : Int) (x11 : Bool) (x12 : Int) (s12 : HF) (v18 : Value) (v19 : Value) (v20 : Value) , St e s12 w [pt g1 51 ([v18, v19, v20, (.int .i64 x10), (.bool x11)]), Ow Kd.bool 4 v19 x8, Ow (Kd.int .i64) 3 v20 x9] ∧ Fr 89 a [(0, v1), (8, (.pointer (some ⟨g1, 0, none⟩))), (9, (.int .i64 x12))] ∧ Sub s11 s12 ∧ Sl kTSlot s12 v18 x7 ∧ impl_Mark.c2 k1 (impl_Mark.l1 x28 k1) x7 x8 x9 x10 x11 x12 = some x50) ?_ ?_
                · skip
                  refine blk ?_
                  refine sq ?_
                  refine rg ?_
                  refine stp hF (p_move rfl) (by decide) (fun a hF => ?_)
                  refine stp hF (p_add (c := w64 (x29 + 1)) rfl rfl rfl) (by decide) (fun a hF => ?_)
                  refine stp hF (p_assign rfl) (by decide) (fun a hF => ?_)
                  refine nilN ?_
                  refine xn ?_
                  refine sq ?_
                  refine rg ?_
                  refine stp hF (p_move rfl) (by decide) (fun a hF => ?_)
                  refine stp hF (p_nilck rfl) (by decide) (fun a hF => ?_)
                  refine stp hF (p_fldb (o' := 4) rfl fi_51_4 rfl) (by decide) (fun a hF => ?_)
                  refine ste0 hF (e_stb (i := 0) (l := [v15, v16, v17, (.int .i64 x41)]) (m := [(.bool x42)]) (r := []) (m' := [(.bool false)]) (cs' := [v15, v16, v17, (.int .i64 x41), (.bool false)]) hS rfl rfl rfl ti_4 rfl rfl rfl rfl rfl (one_cons rfl one_nil) rfl) (fun v w a hR hF => ?_)
                  have hS : St e s11 w [pt g1 51 ([v15, v16, v17, (.int .i64 x41), (.bool false)]), Ow Kd.bool 4 v16 x39, Ow (Kd.int .i64) 3 v17 x40] := hR
                  refine nilN ?_
                  refine xn ?_
                  refine sq ?_
                  refine rg ?_
                  refine stp hF (p_move rfl) (by decide) (fun a hF => ?_)
                  refine stp hF (p_nilck rfl) (by decide) (fun a hF => ?_)
                  refine stp hF (p_fldb (o' := 1) rfl fi_51_1 rfl) (by decide) (fun a hF => ?_)
                  refine stp hF (p_ldb_one (i := 0) hS rfl rfl ia_37 rfl) (by decide) (fun a hF => ?_)
                  replace hS := hS.sel (is := [1, 0, 0]) (A' := [Ow Kd.bool 4 v16 x39, pt g1 51 ([v15, v16, v17, (.int .i64 x41), (.bool false)]), Ow (Kd.int .i64) 3 v17 x40]) rfl
                  obtain ⟨s13, hg10, hl1, hcall1⟩ := St.lend (P := Try.prog) (Bs := [Ow Kd.bool 4 v16 x39]) (A := []) (B := [pt g1 51 ([v15, v16, v17, (.int .i64 x41), (.bool false)]), Ow (Kd.int .i64) 3 v17 x40]) hS
                  obtain ⟨h8, hl1⟩ := hl1.ow hg10
                  obtain ⟨x27, hx6, H⟩ := hb H
                  refine ste hF (e_call (fst := []) (vs := [v16]) (cap := []) rfl rfl go_23 (hcall1 (slices_Clone.spec k1 _ _ x39 v16 h8 _ hx6) (by rintro v s1 A1 ⟨_, rfl, rfl⟩; exact ⟨Ow_flat flat_bool _ _ _, trivial⟩))) (by decide) (fun v w a hR hF => ?_)
                  obtain ⟨s14, s15, A7, hg11, hS, hR⟩ := hR
                  obtain ⟨v21, hv6, rfl⟩ := hR; obtain rfl := hv6.symm
                  have hS : St e s14 w [Ow Kd.bool 4 v16 x39, Ow Kd.bool 4 v21 x27, pt g1 51 ([v15, v16, v17, (.int .i64 x41), (.bool false)]), Ow (Kd.int .i64) 3 v17 x40] := hS
                  refine stp hF (p_leno (i := 1) hS rfl un_37 rfl) (by decide) (fun a hF => ?_)
                  refine stp hF (p_move rfl) (by decide) (fun a hF => ?_)
                  refine nilN ?_
                  refine xn ?_
                  refine blk ?_
                  refine loop_ind (fun k2 a w => ∃ (x30 : (List TSlot)) (x31 : (List Bool)) (x32 : (List Int)) (x33 : Int) (x34 : Bool) (x14 : Int) (s16 : HF) (v22 : Value) (v23 : Value) (v24 : Value) (v25 : Value) , St e s16 w [Ow Kd.bool 4 v22 x27, pt g1 51 ([v23, v24, v25, (.int .i64 x33), (.bool x34)]), Ow Kd.bool 4 v24 x31, Ow (Kd.int .i64) 3 v25 x32] ∧ Fr 89 a [(0, v1), (8, (.pointer (some ⟨g1, 0, none⟩))), (9, (.int .i64 (w64 (x29 + 1)))), (61, v22), (62, (.int .i64 (x27.length : Int))), (63, (.int .i64 x14))] ∧ Sub s14 s16 ∧ Sl kTSlot s16 v23 x30 ∧ impl_Mark.l2 x27 x28 x29 k2 x30 x31 x32 x33 x34 x14 = some x43) k1 ?_ ?_ ?_
                  · skip
                    replace hS := hS.sel (is := [1, 1, 0, 0]) (A' := [Ow Kd.bool 4 v21 x27, pt g1 51 ([v15, v16, v17, (.int .i64 x41), (.bool false)]), Ow Kd.bool 4 v16 x39, Ow (Kd.int .i64) 3 v17 x40]) rfl
                    exact ⟨x38, x39, x40, x41, false, 0, s14, v21, v15, v16, v17, hS, hF.cut ⟨rfl, rfl, rfl, rfl, rfl, rfl, trivial⟩, (Sub.refl _), (h7.mono hg11), H⟩
                  · clear H hS hF
                    rintro a w ⟨x30, x31, x32, x33, x34, x14, s16, v22, v23, v24, v25, hS, hF, hg12, h9, H⟩
                    exact absurd (show none = some _ from H) (by simp)
                  · clear H hS hF
                    rintro k2 a w ⟨x30, x31, x32, x33, x34, x14, s16, v22, v23, v24, v25, hS, hF, hg12, h9, H⟩
                    rw [impl_Mark.l2.eq_2] at H
                    refine sq ?_
                    refine rg ?_
                    refine stp hF (p_lss rfl rfl) (by decide) (fun a hF => ?_)
                    refine nilN ?_
                    refine xn ?_
                    refine sq ?_
                    refine cnd hF rfl (fun hc6 => ?_) (fun hc6 => ?_)
                    · replace H := hbt hc6 H
                      refine skN ?_
                      refine xn ?_
                      obtain ⟨x37, H, HK6⟩ := hb H
                      refine sqj (fun a w => ∃ (x15 : (List TSlot)) (x16 : (List Bool)) (x17 : (List Int)) (x18 : Int) (x19 : Bool) (s17 : HF) (v26 : Value) (v27 : Value) (v28 : Value) (v29 : Value) , St e s17 w [Ow Kd.bool 4 v26 x27, pt g1 51 ([v27, v28, v29, (.int .i64 x18), (.bool x19)]), Ow Kd.bool 4 v28 x16, Ow (Kd.int .i64) 3 v29 x17] ∧ Fr 89 a [(0, v1), (8, (.pointer (some ⟨g1, 0, none⟩))), (9, (.int .i64 (w64 (x29 + 1)))), (61, v26), (62, (.int .i64 (x27.length : Int))), (63, (.int .i64 x14))] ∧ Sub s16 s17 ∧ Sl kTSlot s17 v27 x15 ∧ impl_Mark.c3 k2 (impl_Mark.l2 x27 x28 x29 k2) x14 x15 x16 x17 x18 x19 = some x43) ?_ ?_
                      · skip
                        refine blk ?_
                        refine sq ?_
                        refine rg ?_
                        refine stp hF (p_move rfl) (by decide) (fun a hF => ?_)
                        obtain ⟨hq3, H⟩ := hck H
                        obtain ⟨b2, o2, q2, rfl, p3⟩ := p_idxo (n := 0) (i := x14) hS rfl un_37 ti_4 hq3.1 hq3.2
                        refine stp hF (p3 rfl rfl) (by decide) (fun a hF => ?_)
                        obtain ⟨u1, h10, p4⟩ := p_ldo_one (P := Try.prog) (n := 0) hS rfl (Lens.id _) hq3.1 hq3.2 rfl ia_4 rfl
                        obtain rfl : u1 = .bool (rd x27 x14) := by injection h10
                        refine stp hF (p4 rfl) (by decide) (fun a hF => ?_)
                        refine stp hF (p_assign rfl) (by decide) (fun a hF => ?_)
                        refine stp hF (p_assign rfl) (by decide) (fun a hF => ?_)
                        refine nilN ?_
                        refine xn ?_
                        refine sq ?_
                        refine rg ?_
                        refine stp hF (p_move rfl) (by decide) (fun a hF => ?_)
                        refine stp hF (p_move rfl) (by decide) (fun a hF => ?_)
                        obtain ⟨x36, H, HK7⟩ := hb H
                        refine cutj 10 (fun a w => ∃ (x20 : (List TSlot)) (x21 : (List Bool)) (x22 : (List Int)) (x23 : Int) (x24 : Bool) (x25 : Bool) (s18 : HF) (v30 : Value) (v31 : Value) (v32 : Value) , St e s18 w [Ow Kd.bool 4 (.slice (some ⟨b2, o2, none⟩) x27.length q2) x27, pt g1 51 ([v30, v31, v32, (.int .i64 x23), (.bool x24)]), Ow Kd.bool 4 v31 x21, Ow (Kd.int .i64) 3 v32 x22] ∧ Fr 89 a [(0, v1), (8, (.pointer (some ⟨g1, 0, none⟩))), (9, (.int .i64 (w64 (x29 + 1)))), (10, (.int .i64 x14)), (61, (.slice (some ⟨b2, o2, none⟩) x27.length q2)), (62, (.int .i64 (x27.length : Int))), (63, (.int .i64 x14)), (79, (.bool x25))] ∧ Sub s16 s18 ∧ Sl kTSlot s18 v30 x20 ∧ impl_Mark.c4 k2 x14 x20 x21 x22 x23 x24 x25 = some x37) rfl rfl ?_ ?_
                        · rcases Bool.eq_false_or_eq_true ((rd x27 x14)) with hc7 | hc7
                          · replace H := hbt hc7 H
                            refine gonE (j := 1) hF rfl rfl hc7 ?_
                            refine stp hF (p_move rfl) (by decide) (fun a hF => ?_)
                            refine gonE (j := 1) hF rfl rfl hc7 ?_
                            refine stp hF (p_move rfl) (by decide) (fun a hF => ?_)
                            obtain ⟨hq4, H⟩ := hck H
                            obtain ⟨ad2, h11, p5⟩ := p_idxr (P := Try.prog) (i := x14) ((((((((h1.mono hg1).mono hg3).mono hg5).mono hg7).mono hg8).mono hg9).mono hg11).mono hg12) un_24 ti_32 hq4.1 hq4.2
                            refine gonE (j := 1) hF rfl rfl hc7 ?_
                            refine stp hF (p5 rfl rfl) (by decide) (fun a hF => ?_)
                            have h12 : Pr kTObj s16 (ad2.add 1) ((rd x28 x14).O) := h11.lens kTSlot_O
                            refine gonE (j := 1) hF rfl rfl hc7 ?_
                            refine stp hF (p_fld rfl fi_32_1) (by decide) (fun a hF => ?_)
                            have h13 : Pr (Kd.slice (Kd.int .i64)) s16 ((ad2.add 1).add 2) (((rd x28 x14).O).Refs) := h12.lens kTObj_Refs
                            refine gonE (j := 1) hF rfl rfl hc7 ?_
                            refine stp hF (p_fld rfl fi_30_2) (by decide) (fun a hF => ?_)
                            obtain ⟨v33, h14, p6⟩ := p_ldr_slice (P := Try.prog) h13 ia_27
                            refine gonE (j := 1) hF rfl rfl hc7 ?_
                            refine stp hF (p6 rfl hS.ro) (by decide) (fun a hF => ?_)
                            refine gonE (j := 1) hF rfl rfl hc7 ?_
                            refine stp hF (p_move rfl) (by decide) (fun a hF => ?_)
                            refine gonE (j := 1) hF rfl rfl hc7 ?_
                            refine stp hF (p_makefunc (fs := [(.tmp 76)]) (cs := []) rfl rfl) (by decide) (fun a hF => ?_)
                            replace hS := hS.sel (is := [1, 1, 1, 0]) (A' := [pt g1 51 ([v23, v24, v25, (.int .i64 x33), (.bool x34)]), Ow Kd.bool 4 v24 x31, Ow (Kd.int .i64) 3 v25 x32, Ow Kd.bool 4 (.slice (some ⟨b2, o2, none⟩) x27.length q2) x27]) rfl
                            obtain ⟨x35, hx7, H⟩ := hb H
                            refine gonE (j := 1) hF rfl rfl hc7 ?_
                            refine ste hF (e_call (fst := []) (vs := [v33, (.func (.func 25) #[(.pointer (some ⟨g1, 0, none⟩))] #[])]) (cap := []) rfl rfl go_24 (St.call (A := [pt g1 51 ([v23, v24, v25, (.int .i64 x33), (.bool x34)]), Ow Kd.bool 4 v24 x31, Ow (Kd.int .i64) 3 v25 x32]) (B := [Ow Kd.bool 4 (.slice (some ⟨b2, o2, none⟩) x27.length q2) x27]) hS (slices_ContainsFunc_unmarked25.spec k2 _ _ (((rd x28 x14).O).Refs) x30 x31 x32 x33 x34 v33 v23 v24 v25 g1 h14 h9 _ hx7))) (by decide) (fun v w a hR hF => ?_)
                            obtain ⟨s19, A8, hg13, hS, hR⟩ := hR
                            obtain ⟨v34, v35, v36, hv7, rfl, h15⟩ := hR; obtain rfl := hv7.symm
                            have hS : St e s19 w [pt g1 51 ([v34, v35, v36, (.int .i64 x35.2.2.2.2.1), (.bool x35.2.2.2.2.2)]), Ow Kd.bool 4 v35 x35.2.2.1, Ow (Kd.int .i64) 3 v36 x35.2.2.2.1, Ow Kd.bool 4 (.slice (some ⟨b2, o2, none⟩) x27.length q2) x27] := hS
                            refine stp hF (p_pickT rfl hc7 rfl) (by decide) (fun a hF => ?_)
                            refine nilN ?_
                            refine xn ?_
                            obtain rfl := hsm H
                            replace hS := hS.sel (is := [3, 0, 0, 0]) (A' := [Ow Kd.bool 4 (.slice (some ⟨b2, o2, none⟩) x27.length q2) x27, pt g1 51 ([v34, v35, v36, (.int .i64 x35.2.2.2.2.1), (.bool x35.2.2.2.2.2)]), Ow Kd.bool 4 v35 x35.2.2.1, Ow (Kd.int .i64) 3 v36 x35.2.2.2.1]) rfl
                            exact ⟨x35.2.1, x35.2.2.1, x35.2.2.2.1, x35.2.2.2.2.1, x35.2.2.2.2.2, x35.1, s19, v34, v35, v36, hS, hF.cut ⟨rfl, rfl, rfl, rfl, rfl, rfl, rfl, rfl, trivial⟩, hg13, h15, HK7⟩
                          · replace H := hbf hc7 H
                            refine gofD (j := 1) hF rfl rfl (by rw [hc7]; decide) (by decide) (fun a hF => ?_)
                            refine gofD (j := 1) hF rfl rfl (by rw [hc7]; decide) (by decide) (fun a hF => ?_)
                            refine gofD (j := 1) hF rfl rfl (by rw [hc7]; decide) (by decide) (fun a hF => ?_)
                            refine gofD (j := 1) hF rfl rfl (by rw [hc7]; decide) (by decide) (fun a hF => ?_)
                            refine gofD (j := 1) hF rfl rfl (by rw [hc7]; decide) (by decide) (fun a hF => ?_)
                            refine gofD (j := 1) hF rfl rfl (by rw [hc7]; decide) (by decide) (fun a hF => ?_)
                            refine gofD (j := 1) hF rfl rfl (by rw [hc7]; decide) (by decide) (fun a hF => ?_)
                            refine gofD (j := 1) hF rfl rfl (by rw [hc7]; decide) (by decide) (fun a hF => ?_)
                            refine gofD (j := 1) hF rfl rfl (by rw [hc7]; decide) (by decide) (fun a hF => ?_)
                            refine stp hF (p_pickF rfl hc7 rfl) (by decide) (fun a hF => ?_)
                            refine nilN ?_
                            refine xn ?_
                            obtain rfl := hsm H
                            exact ⟨x30, x31, x32, x33, x34, false, s16, v23, v24, v25, hS, hF.cut ⟨rfl, rfl, rfl, rfl, rfl, rfl, rfl, rfl, trivial⟩, (Sub.refl _), h9, HK7⟩
                        · clear H HK7 hS hF
                          rintro a w ⟨x20, x21, x22, x23, x24, x25, s18, v30, v31, v32, hS, hF, hg14, h16, H⟩
                          unfold impl_Mark.c4 at H
                          refine nilN ?_
                          refine xn ?_
                          refine cnd hF rfl (fun hc8 => ?_) (fun hc8 => ?_)
                          · replace H := hbt hc8 H
                            refine rg ?_
                            refine stp hF (p_move rfl) (by decide) (fun a hF => ?_)
                            refine stp hF (p_move rfl) (by decide) (fun a hF => ?_)
                            replace hS := hS.sel (is := [1, 1, 1, 0]) (A' := [pt g1 51 ([v30, v31, v32, (.int .i64 x23), (.bool x24)]), Ow Kd.bool 4 v31 x21, Ow (Kd.int .i64) 3 v32 x22, Ow Kd.bool 4 (.slice (some ⟨b2, o2, none⟩) x27.length q2) x27]) rfl
                            obtain ⟨x26, hx8, H⟩ := hb H
                            refine ste hF (e_call (fst := []) (vs := [(.pointer (some ⟨g1, 0, none⟩)), (.int .i64 x14)]) (cap := []) rfl rfl go_21 (St.call (A := [pt g1 51 ([v30, v31, v32, (.int .i64 x23), (.bool x24)]), Ow Kd.bool 4 v31 x21, Ow (Kd.int .i64) 3 v32 x22]) (B := [Ow Kd.bool 4 (.slice (some ⟨b2, o2, none⟩) x27.length q2) x27]) hS (impl_marker_put.spec k2 _ _ x20 x21 x22 x23 x24 x14 v30 v31 v32 g1 h16 _ hx8))) (by decide) (fun v w a hR hF => ?_)
                            obtain ⟨s20, A9, hg15, hS, hR⟩ := hR
                            obtain ⟨v37, v38, v39, hv8, rfl, h17⟩ := hR; obtain rfl := hv8.symm
                            have hS : St e s20 w [pt g1 51 ([v37, v38, v39, (.int .i64 x26.2.2.2.1), (.bool x26.2.2.2.2)]), Ow Kd.bool 4 v38 x26.2.1, Ow (Kd.int .i64) 3 v39 x26.2.2.1, Ow Kd.bool 4 (.slice (some ⟨b2, o2, none⟩) x27.length q2) x27] := hS
                            refine nilN ?_
                            refine bn (xn ?_)
                            obtain rfl := hsm H
                            replace hS := hS.sel (is := [3, 0, 0, 0]) (A' := [Ow Kd.bool 4 (.slice (some ⟨b2, o2, none⟩) x27.length q2) x27, pt g1 51 ([v37, v38, v39, (.int .i64 x26.2.2.2.1), (.bool x26.2.2.2.2)]), Ow Kd.bool 4 v38 x26.2.1, Ow (Kd.int .i64) 3 v39 x26.2.2.1]) rfl
                            exact ⟨x26.1, x26.2.1, x26.2.2.1, x26.2.2.2.1, x26.2.2.2.2, s20, (.slice (some ⟨b2, o2, none⟩) x27.length q2), v37, v38, v39, hS, hF.cut ⟨rfl, rfl, rfl, rfl, rfl, rfl, trivial⟩, (hg14.trans hg15), h17, HK6⟩
                          · replace H := hbf hc8 H
                            refine skN ?_
                            refine bn (xn ?_)
                            obtain rfl := hsm H
                            exact ⟨x20, x21, x22, x23, x24, s18, (.slice (some ⟨b2, o2, none⟩) x27.length q2), v30, v31, v32, hS, hF.cut ⟨rfl, rfl, rfl, rfl, rfl, rfl, trivial⟩, hg14, h16, HK6⟩
                      · clear H HK6 hS hF
                        rintro a w ⟨x15, x16, x17, x18, x19, s17, v26, v27, v28, v29, hS, hF, hg16, h18, H⟩
                        unfold impl_Mark.c3 at H
                        refine rg ?_
                        refine stp hF (p_add (c := w64 (x14 + 1)) rfl rfl rfl) (by decide) (fun a hF => ?_)
                        refine stp hF (p_move rfl) (by decide) (fun a hF => ?_)
                        refine nilN ?_
                        refine xn ?_
                        exact ⟨x15, x16, x17, x18, x19, (w64 (x14 + 1)), s17, v26, v27, v28, v29, hS, hF.cut ⟨rfl, rfl, rfl, rfl, rfl, rfl, trivial⟩, (hg12.trans hg16), h18, H⟩
                    · replace H := hbf hc6 H
                      refine exi ?_
                      refine xe (xe (hit (bn (xn ?_))))
                      obtain rfl := hsm H
                      replace hS := hS.sel (is := [1, 1, 1]) (A' := [pt g1 51 ([v23, v24, v25, (.int .i64 x33), (.bool x34)]), Ow Kd.bool 4 v24 x31, Ow (Kd.int .i64) 3 v25 x32]) rfl
                      exact ⟨x30, x31, x32, x33, x34, (w64 (x29 + 1)), s16, v23, v24, v25, hS, hF.cut ⟨rfl, rfl, rfl, trivial⟩, (hg11.trans hg12), h9, HK5⟩
                · clear H HK5 hS hF
                  rintro a w ⟨x7, x8, x9, x10, x11, x12, s12, v18, v19, v20, hS, hF, hg17, h19, H⟩
                  unfold impl_Mark.c2 at H
                  refine rg ?_
                  refine stp hF (p_move rfl) (by decide) (fun a hF => ?_)
                  obtain ⟨x13, hx9, H⟩ := hb H
                  refine ste hF (e_call (fst := []) (vs := [(.pointer (some ⟨g1, 0, none⟩))]) (cap := []) rfl rfl go_22 (St.call (A := [pt g1 51 ([v18, v19, v20, (.int .i64 x10), (.bool x11)]), Ow Kd.bool 4 v19 x8, Ow (Kd.int .i64) 3 v20 x9]) (B := []) hS (impl_marker_drain.spec k1 _ _ x7 x8 x9 x10 x11 v18 v19 v20 g1 h19 _ hx9))) (by decide) (fun v w a hR hF => ?_)
                  obtain ⟨s21, A10, hg18, hS, hR⟩ := hR
                  obtain ⟨v40, v41, v42, hv9, rfl, h20⟩ := hR; obtain rfl := hv9.symm
                  have hS : St e s21 w [pt g1 51 ([v40, v41, v42, (.int .i64 x13.2.2.2.1), (.bool x13.2.2.2.2)]), Ow Kd.bool 4 v41 x13.2.1, Ow (Kd.int .i64) 3 v42 x13.2.2.1] := hS
                  refine nilN ?_
                  refine xn ?_
                  exact ⟨x13.1, x13.2.1, x13.2.2.1, x13.2.2.2.1, x13.2.2.2.2, x12, s21, v40, v41, v42, hS, hF.cut ⟨rfl, rfl, rfl, trivial⟩, ((hg9.trans hg17).trans hg18), h20, H⟩
              · replace H := hbf hc5 H
                refine exi ?_
                refine xe (xe (hit (xn ?_)))
                obtain rfl := hsm H
                exact ⟨x38, x39, x40, x41, x42, x29, s11, v15, v16, v17, hS, hF.cut ⟨rfl, rfl, trivial⟩, (hg8.trans hg9), h7, HK4⟩
          · clear H HK4 hS hF
            rintro a w ⟨x1, x2, x3, x4, x5, x6, s9, v9, v10, v11, hS, hF, hg19, h21, H⟩
            unfold impl_Mark.c1 at H
            refine sq ?_
            refine rg ?_
            refine stp hF (p_move rfl) (by decide) (fun a hF => ?_)
            refine stp hF (p_nilck rfl) (by decide) (fun a hF => ?_)
            refine stp hF (p_fldb (o' := 1) rfl fi_51_1 rfl) (by decide) (fun a hF => ?_)
            refine stp hF (p_ldb_one (i := 0) hS rfl rfl ia_37 rfl) (by decide) (fun a hF => ?_)
            refine stp hF (p_move rfl) (by decide) (fun a hF => ?_)
            refine stp hF (p_assign rfl) (by decide) (fun a hF => ?_)
            refine stp hF (p_assign rfl) (by decide) (fun a hF => ?_)
            refine nilN ?_
            refine xn ?_
            refine rt ?_
            obtain rfl := hsm H
            replace hS := hS.sel (is := [1]) (A' := [Ow Kd.bool 4 v10 x2]) rfl
            exact ret2 hF rfl rfl rfl hS ⟨v10, rfl, rfl⟩

def laws_FnMarked.c1 (k : Nat) (x1 : (List TSlot)) : Option Bool :=
  ((impl_ViewOk.f k x1).bind fun x2 => (some x2))
def laws_FnMarked.c2 (k : Nat) (rec_l1 : Int → Option (Ex Bool Unit)) (x3 : Int) (x4 : Bool) : Option (Ex Bool Unit) :=
  (if x4 = true then (some (Ex.ret false)) else (rec_l1 (w64 (x3 + 1))))
def laws_FnMarked.l1 (x5 : (List Bool) × Int) (x6 : (List Int)) (x7 : (List Bool) × Int) : Nat → Int → Option (Ex Bool Unit)
  | 0, _ => none
  | k + 1, x3 => (if (decide (x3 < (x5.1.length : Int))) = true then (((if 0 ≤ x3 ∧ x3 < (x5.1.length : Int) then ((laws_among.f k x6 x3).bind fun x8 => (if ((rd x5.1 x3) != x8) = true then (some true) else (if 0 ≤ x3 ∧ x3 < (x7.1.length : Int) then (if 0 ≤ x3 ∧ x3 < (x5.1.length : Int) then (some ((rd x7.1 x3) != (rd x5.1 x3))) else none) else none))) else none) : Option Bool).bind fun x9 => laws_FnMarked.c2 k (laws_FnMarked.l1 x5 x6 x7 k) x3 x9) else (some (Ex.go ())))
def laws_FnMarked.f (k : Nat) (x10 : (List Int)) : Option Bool :=
  ((laws_big.f k x10).bind fun x11 => (if x11 = true then (some true) else ((spec_DrawHeap.f k x10).bind fun x1 => ((laws_at.f k x10 2).bind fun x12 => ((impl_Reach.f k x1 (w64 (1 + (x12.tmod 31)))).bind fun x6 => ((laws_at.f k x10 3).bind fun x13 => ((impl_Mark.f k x1 (w64 (1 + (x12.tmod 31))) (w64 (1 + (x13.tmod 5)))).bind fun x5 => ((impl_Mark.f k x1 (w64 (1 + (x12.tmod 31))) 40).bind fun x7 => (if ((((decide ((x5.1.length : Int) ≠ 32)) || (decide ((x7.1.length : Int) ≠ 32))) || (decide (x7.2 ≠ 0))) || (decide (x5.2 < 0))) = true then (some false) else (((laws_FnMarked.l1 x5 x6 x7 k 0) : Option (Ex Bool Unit)).bind fun x14 => Ex.on x14 (fun r => some r) (fun y => laws_FnMarked.c1 k x1)))))))))))
set_option maxRecDepth 100000 in
set_option maxHeartbeats 4000000 in
theorem laws_FnMarked.spec (k : Nat) (s0 : HF) (w : World) (x10 : (List Int)) (v1 : Value) (h1 : Sl (Kd.int .u8) s0 v1 x10) (r : Bool) (H : laws_FnMarked.f k x10 = some r) :
    Law Try.prog 4 #[v1] s0 w [] (fun v s1 A1 => v = (.bool r) ∧ A1 = []) := by
  unfold laws_FnMarked.f at H
  refine Law.intro Try.func4 rfl [(0, v1)] (Nat.le_of_ble_eq_true rfl) (enter_lk ⟨rfl, trivial⟩) (fun e a hS hF => ?_)
  have hF : Fr 81 a [(0, v1)] := hF
  refine sq ?_
  refine rg ?_
  refine stp hF (p_assign rfl) (by decide) (fun a hF => ?_)
  refine nilN ?_
  refine xn ?_
  refine sq ?_
  refine sq ?_
  refine rg ?_
  refine stp hF (p_move rfl) (by decide) (fun a hF => ?_)
  obtain ⟨x11, hx1, H⟩ := hb H
  refine ste hF (e_call (fst := []) (vs := [v1]) (cap := []) rfl rfl go_5 (St.call (A := []) (B := []) hS (laws_big.spec k _ _ x10 v1 h1 _ hx1))) (by decide) (fun v w a hR hF => ?_)
  obtain ⟨s2, A2, hg1, hS, hR⟩ := hR
  obtain ⟨hv1, rfl⟩ := hR; obtain rfl := hv1.symm
  have hS : St e s2 w [] := hS
  refine nilN ?_
  refine xn ?_
  refine cnd hF rfl (fun hc1 => ?_) (fun hc1 => ?_)
  · replace H := hbt hc1 H
    refine sq ?_
    refine rg ?_
    refine stp hF (p_assign rfl) (by decide) (fun a hF => ?_)
    refine nilN ?_
    refine xn ?_
    refine rt ?_
    refine xr ?_
    obtain rfl := hsm H
    exact ret1 hF rfl rfl hS ⟨rfl, rfl⟩
  · replace H := hbf hc1 H
    refine skN ?_
    refine xn ?_
    refine sq ?_
    refine rg ?_
    refine stp hF (p_move rfl) (by decide) (fun a hF => ?_)
    obtain ⟨x1, hx2, H⟩ := hb H
    refine ste hF (e_call (fst := []) (vs := [v1]) (cap := []) rfl rfl go_6 (St.call (A := []) (B := []) hS (spec_DrawHeap.spec k _ _ x10 v1 (h1.mono hg1) _ hx2))) (by decide) (fun v w a hR hF => ?_)
    obtain ⟨s3, A3, hg2, hS, hR⟩ := hR
    obtain ⟨v2, hv2, rfl⟩ := hR; obtain rfl := hv2.symm
    have hS : St e s3 w [Ow kTSlot 32 v2 x1] := hS
    refine stp hF (p_assign rfl) (by decide) (fun a hF => ?_)
    refine nilN ?_
    refine xn ?_
    refine sq ?_
    refine rg ?_
    refine stp hF (p_move rfl) (by decide) (fun a hF => ?_)
    obtain ⟨x12, hx3, H⟩ := hb H
    refine ste hF (e_call (fst := []) (vs := [v1, (.int .i64 2)]) (cap := []) rfl rfl go_7 (St.call (A := []) (B := [Ow kTSlot 32 v2 x1]) hS (laws_at.spec k _ _ x10 2 v1 ((h1.mono hg1).mono hg2) _ hx3))) (by decide) (fun v w a hR hF => ?_)
    obtain ⟨s4, A4, hg3, hS, hR⟩ := hR
    obtain ⟨hv3, rfl⟩ := hR; obtain rfl := hv3.symm
    have hS : St e s4 w [Ow kTSlot 32 v2 x1] := hS
    refine stp hF (p_rem (c := x12.tmod 31) rfl rfl (by decide) rfl) (by decide) (fun a hF => ?_)
    refine stp hF (p_add (c := w64 (1 + (x12.tmod 31))) rfl rfl rfl) (by decide) (fun a hF => ?_)
    refine stp hF (p_assign rfl) (by decide) (fun a hF => ?_)
    refine nilN ?_
    refine xn ?_
    refine sq ?_
    refine rg ?_
    refine stp hF (p_move rfl) (by decide) (fun a hF => ?_)
    refine stp hF (p_move rfl) (by decide) (fun a hF => ?_)
    obtain ⟨s5, hg4, hl1, hcall1⟩ := St.lend (P := Try.prog) (Bs := [Ow kTSlot 32 v2 x1]) (A := []) (B := []) hS
    obtain ⟨h2, hl1⟩ := hl1.ow hg4
    obtain ⟨x6, hx4, H⟩ := hb H
    refine ste hF (e_call (fst := []) (vs := [v2, (.int .i64 (w64 (1 + (x12.tmod 31))))]) (cap := []) rfl rfl go_8 (hcall1 (impl_Reach.spec k _ _ x1 (w64 (1 + (x12.tmod 31))) v2 h2 _ hx4) (by rintro v s1 A1 ⟨_, rfl, rfl⟩; exact ⟨Ow_flat flat_int _ _ _, trivial⟩))) (by decide) (fun v w a hR hF => ?_)
    obtain ⟨s6, s7, A5, hg5, hS, hR⟩ := hR
    obtain ⟨v3, hv4, rfl⟩ := hR; obtain rfl := hv4.symm
    have hS : St e s6 w [Ow kTSlot 32 v2 x1, Ow (Kd.int .i64) 3 v3 x6] := hS
    refine stp hF (p_assign rfl) (by decide) (fun a hF => ?_)
    refine nilN ?_
    refine xn ?_
    refine sq ?_
    refine rg ?_
    refine stp hF (p_move rfl) (by decide) (fun a hF => ?_)
    refine stp hF (p_move rfl) (by decide) (fun a hF => ?_)
    refine stp hF (p_move rfl) (by decide) (fun a hF => ?_)
    obtain ⟨x13, hx5, H⟩ := hb H
    refine ste hF (e_call (fst := []) (vs := [v1, (.int .i64 3)]) (cap := []) rfl rfl go_7 (St.call (A := []) (B := [Ow kTSlot 32 v2 x1, Ow (Kd.int .i64) 3 v3 x6]) hS (laws_at.spec k _ _ x10 3 v1 ((((h1.mono hg1).mono hg2).mono hg3).mono hg5) _ hx5))) (by decide) (fun v w a hR hF => ?_)
    obtain ⟨s8, A6, hg6, hS, hR⟩ := hR
    obtain ⟨hv5, rfl⟩ := hR; obtain rfl := hv5.symm
    have hS : St e s8 w [Ow kTSlot 32 v2 x1, Ow (Kd.int .i64) 3 v3 x6] := hS
    refine stp hF (p_rem (c := x13.tmod 5) rfl rfl (by decide) rfl) (by decide) (fun a hF => ?_)
    refine stp hF (p_add (c := w64 (1 + (x13.tmod 5))) rfl rfl rfl) (by decide) (fun a hF => ?_)
    obtain ⟨s9, hg7, hl2, hcall2⟩ := St.lend (P := Try.prog) (Bs := [Ow kTSlot 32 v2 x1]) (A := []) (B := [Ow (Kd.int .i64) 3 v3 x6]) hS
    obtain ⟨h3, hl2⟩ := hl2.ow hg7
    obtain ⟨x5, hx6, H⟩ := hb H
    refine ste hF (e_call (fst := []) (vs := [v2, (.int .i64 (w64 (1 + (x12.tmod 31)))), (.int .i64 (w64 (1 + (x13.tmod 5))))]) (cap := []) rfl rfl go_13 (hcall2 (impl_Mark.spec k _ _ x1 (w64 (1 + (x12.tmod 31))) (w64 (1 + (x13.tmod 5))) v2 h3 _ hx6) (by rintro v s1 A1 ⟨_, rfl, rfl⟩; exact ⟨Ow_flat flat_bool _ _ _, trivial⟩))) (by decide) (fun v w a hR hF => ?_)
    obtain ⟨s10, s11, A7, hg8, hS, hR⟩ := hR
    obtain ⟨v4, hv6, rfl⟩ := hR; obtain rfl := hv6.symm
    have hS : St e s10 w [Ow kTSlot 32 v2 x1, Ow Kd.bool 4 v4 x5.1, Ow (Kd.int .i64) 3 v3 x6] := hS
    refine stp hF (p_move rfl) (by decide) (fun a hF => ?_)
    refine stp hF (p_extract rfl rfl) (by decide) (fun a hF => ?_)
    refine stp hF (p_extract rfl rfl) (by decide) (fun a hF => ?_)
    refine stp hF (p_assign rfl) (by decide) (fun a hF => ?_)
    refine stp hF (p_assign rfl) (by decide) (fun a hF => ?_)
    refine nilN ?_
    refine xn ?_
    refine sq ?_
    refine rg ?_
    refine stp hF (p_move rfl) (by decide) (fun a hF => ?_)
    refine stp hF (p_move rfl) (by decide) (fun a hF => ?_)
    obtain ⟨s12, hg9, hl3, hcall3⟩ := St.lend (P := Try.prog) (Bs := [Ow kTSlot 32 v2 x1]) (A := []) (B := [Ow Kd.bool 4 v4 x5.1, Ow (Kd.int .i64) 3 v3 x6]) hS
    obtain ⟨h4, hl3⟩ := hl3.ow hg9
    obtain ⟨x7, hx7, H⟩ := hb H
    refine ste hF (e_call (fst := []) (vs := [v2, (.int .i64 (w64 (1 + (x12.tmod 31)))), (.int .i64 40)]) (cap := []) rfl rfl go_13 (hcall3 (impl_Mark.spec k _ _ x1 (w64 (1 + (x12.tmod 31))) 40 v2 h4 _ hx7) (by rintro v s1 A1 ⟨_, rfl, rfl⟩; exact ⟨Ow_flat flat_bool _ _ _, trivial⟩))) (by decide) (fun v w a hR hF => ?_)
    obtain ⟨s13, s14, A8, hg10, hS, hR⟩ := hR
    obtain ⟨v5, hv7, rfl⟩ := hR; obtain rfl := hv7.symm
    have hS : St e s13 w [Ow kTSlot 32 v2 x1, Ow Kd.bool 4 v5 x7.1, Ow Kd.bool 4 v4 x5.1, Ow (Kd.int .i64) 3 v3 x6] := hS
    refine stp hF (p_move rfl) (by decide) (fun a hF => ?_)
    refine stp hF (p_extract rfl rfl) (by decide) (fun a hF => ?_)
    refine stp hF (p_extract rfl rfl) (by decide) (fun a hF => ?_)
    refine stp hF (p_assign rfl) (by decide) (fun a hF => ?_)
    refine stp hF (p_assign rfl) (by decide) (fun a hF => ?_)
    refine nilN ?_
    refine xn ?_
    refine sq ?_
    refine sq ?_
    refine rg ?_
    refine stp hF (p_move rfl) (by decide) (fun a hF => ?_)
    refine stp hF (p_leno (i := 2) hS rfl un_37 rfl) (by decide) (fun a hF => ?_)
    refine stp hF (p_neq rfl rfl) (by decide) (fun a hF => ?_)
    refine stp hF (p_move rfl) (by decide) (fun a hF => ?_)
    refine cutj 4 (fun a w => St e s13 w [Ow kTSlot 32 v2 x1, Ow Kd.bool 4 v5 x7.1, Ow Kd.bool 4 v4 x5.1, Ow (Kd.int .i64) 3 v3 x6] ∧ Fr 81 a [(3, v2), (5, v3), (6, v4), (7, (.int .i64 x5.2)), (8, v5), (9, (.int .i64 x7.2)), (45, (.bool ((decide ((x5.1.length : Int) ≠ 32)) || (decide ((x7.1.length : Int) ≠ 32)))))]) rfl rfl ?_ ?_
    · rcases Bool.eq_false_or_eq_true (decide ((x5.1.length : Int) ≠ 32)) with hc2 | hc2
      · skip
        refine gofD (j := 3) hF rfl rfl (by rw [hc2]; decide) (by decide) (fun a hF => ?_)
        refine gofD (j := 3) hF rfl rfl (by rw [hc2]; decide) (by decide) (fun a hF => ?_)
        refine gofD (j := 3) hF rfl rfl (by rw [hc2]; decide) (by decide) (fun a hF => ?_)
        refine stp hF (p_orT (decide ((x7.1.length : Int) ≠ 32)) rfl hc2 rfl) (by decide) (fun a hF => ?_)
        refine nilN ?_
        refine xn ?_
        exact ⟨hS, hF.cut ⟨rfl, rfl, rfl, rfl, rfl, rfl, rfl, trivial⟩⟩
      · skip
        refine gonE (j := 3) hF rfl rfl hc2 ?_
        refine stp hF (p_move rfl) (by decide) (fun a hF => ?_)
        refine gonE (j := 3) hF rfl rfl hc2 ?_
        refine stp hF (p_leno (i := 1) hS rfl un_37 rfl) (by decide) (fun a hF => ?_)
        refine gonE (j := 3) hF rfl rfl hc2 ?_
        refine stp hF (p_neq rfl rfl) (by decide) (fun a hF => ?_)
        refine stp hF (p_orF rfl hc2 rfl) (by decide) (fun a hF => ?_)
        refine nilN ?_
        refine xn ?_
        exact ⟨hS, hF.cut ⟨rfl, rfl, rfl, rfl, rfl, rfl, rfl, trivial⟩⟩
    clear hS hF
    rintro a w ⟨hS, hF⟩
    refine stp hF (p_move rfl) (by decide) (fun a hF => ?_)
    refine cutj 3 (fun a w => St e s13 w [Ow kTSlot 32 v2 x1, Ow Kd.bool 4 v5 x7.1, Ow Kd.bool 4 v4 x5.1, Ow (Kd.int .i64) 3 v3 x6] ∧ Fr 81 a [(3, v2), (5, v3), (6, v4), (7, (.int .i64 x5.2)), (8, v5), (49, (.bool (((decide ((x5.1.length : Int) ≠ 32)) || (decide ((x7.1.length : Int) ≠ 32))) || (decide (x7.2 ≠ 0)))))]) rfl rfl ?_ ?_
    · rcases Bool.eq_false_or_eq_true (((decide ((x5.1.length : Int) ≠ 32)) || (decide ((x7.1.length : Int) ≠ 32)))) with hc3 | hc3
      · skip
        refine gofD (j := 8) hF rfl rfl (by rw [hc3]; decide) (by decide) (fun a hF => ?_)
        refine gofD (j := 8) hF rfl rfl (by rw [hc3]; decide) (by decide) (fun a hF => ?_)
        refine stp hF (p_orT (decide (x7.2 ≠ 0)) rfl hc3 rfl) (by decide) (fun a hF => ?_)
        refine nilN ?_
        refine xn ?_
        exact ⟨hS, hF.cut ⟨rfl, rfl, rfl, rfl, rfl, rfl, trivial⟩⟩
      · skip
        refine gonE (j := 8) hF rfl rfl hc3 ?_
        refine stp hF (p_move rfl) (by decide) (fun a hF => ?_)
        refine gonE (j := 8) hF rfl rfl hc3 ?_
        refine stp hF (p_neq rfl rfl) (by decide) (fun a hF => ?_)
        refine stp hF (p_orF rfl hc3 rfl) (by decide) (fun a hF => ?_)
        refine nilN ?_
        refine xn ?_
        exact ⟨hS, hF.cut ⟨rfl, rfl, rfl, rfl, rfl, rfl, trivial⟩⟩
    clear hS hF
    rintro a w ⟨hS, hF⟩
    refine stp hF (p_move rfl) (by decide) (fun a hF => ?_)
    refine cutj 3 (fun a w => St e s13 w [Ow kTSlot 32 v2 x1, Ow Kd.bool 4 v5 x7.1, Ow Kd.bool 4 v4 x5.1, Ow (Kd.int .i64) 3 v3 x6] ∧ Fr 81 a [(3, v2), (5, v3), (6, v4), (8, v5), (53, (.bool ((((decide ((x5.1.length : Int) ≠ 32)) || (decide ((x7.1.length : Int) ≠ 32))) || (decide (x7.2 ≠ 0))) || (decide (x5.2 < 0)))))]) rfl rfl ?_ ?_
    · rcases Bool.eq_false_or_eq_true ((((decide ((x5.1.length : Int) ≠ 32)) || (decide ((x7.1.length : Int) ≠ 32))) || (decide (x7.2 ≠ 0)))) with hc4 | hc4
      · skip
        refine gofD (j := 12) hF rfl rfl (by rw [hc4]; decide) (by decide) (fun a hF => ?_)
        refine gofD (j := 12) hF rfl rfl (by rw [hc4]; decide) (by decide) (fun a hF => ?_)
        refine stp hF (p_orT (decide (x5.2 < 0)) rfl hc4 rfl) (by decide) (fun a hF => ?_)
        refine nilN ?_
        refine xn ?_
        exact ⟨hS, hF.cut ⟨rfl, rfl, rfl, rfl, rfl, trivial⟩⟩
      · skip
        refine gonE (j := 12) hF rfl rfl hc4 ?_
        refine stp hF (p_move rfl) (by decide) (fun a hF => ?_)
        refine gonE (j := 12) hF rfl rfl hc4 ?_
        refine stp hF (p_lss rfl rfl) (by decide) (fun a hF => ?_)
        refine stp hF (p_orF rfl hc4 rfl) (by decide) (fun a hF => ?_)
        refine nilN ?_
        refine xn ?_
        exact ⟨hS, hF.cut ⟨rfl, rfl, rfl, rfl, rfl, trivial⟩⟩
    clear hS hF
    rintro a w ⟨hS, hF⟩
    refine nilN ?_
    refine xn ?_
    refine cnd hF rfl (fun hc5 => ?_) (fun hc5 => ?_)
    · replace H := hbt hc5 H
      refine sq ?_
      refine rg ?_
      refine stp hF (p_assign rfl) (by decide) (fun a hF => ?_)
      refine nilN ?_
      refine xn ?_
      refine rt ?_
      refine xr ?_
      obtain rfl := hsm H
      replace hS := hS.sel (is := []) (A' := []) rfl
      exact ret1 hF rfl rfl hS ⟨rfl, rfl⟩
    · replace H := hbf hc5 H
      refine skN ?_
      refine xn ?_
      obtain ⟨x14, H, HK1⟩ := hb H
      refine sqj (fun a w => ∃ (s15 : HF) (v6 : Value) (v7 : Value) , St e s15 w [Ow kTSlot 32 v2 x1, Ow Kd.bool 4 v6 x7.1, Ow Kd.bool 4 v7 x5.1, Ow (Kd.int .i64) 3 v3 x6] ∧ Fr 81 a [(3, v2)] ∧ Sub s13 s15 ∧ laws_FnMarked.c1 k x1 = some r) ?_ ?_
      · skip
        refine sq ?_
        refine rg ?_
        refine stp hF (p_assign rfl) (by decide) (fun a hF => ?_)
        refine nilN ?_
        refine xn ?_
        refine blk ?_
        refine loop_ind (fun k1 a w => ∃ (x3 : Int) (s16 : HF) (v8 : Value) (v9 : Value) , St e s16 w [Ow kTSlot 32 v2 x1, Ow Kd.bool 4 v8 x7.1, Ow Kd.bool 4 v9 x5.1, Ow (Kd.int .i64) 3 v3 x6] ∧ Fr 81 a [(3, v2), (5, v3), (6, v9), (8, v8), (10, (.int .i64 x3))] ∧ Sub s13 s16 ∧ laws_FnMarked.l1 x5 x6 x7 k1 x3 = some x14) k ?_ ?_ ?_
        · skip
          exact ⟨0, s13, v5, v4, hS, hF.cut ⟨rfl, rfl, rfl, rfl, rfl, trivial⟩, (Sub.refl _), H⟩
        · clear H hS hF
          rintro a w ⟨x3, s16, v8, v9, hS, hF, hg11, H⟩
          exact absurd (show none = some _ from H) (by simp)
        · clear H hS hF
          rintro k1 a w ⟨x3, s16, v8, v9, hS, hF, hg11, H⟩
          rw [laws_FnMarked.l1.eq_2] at H
          refine sq ?_
          refine sq ?_
          refine rg ?_
          refine stp hF (p_move rfl) (by decide) (fun a hF => ?_)
          refine stp hF (p_move rfl) (by decide) (fun a hF => ?_)
          refine stp hF (p_leno (i := 2) hS rfl un_37 rfl) (by decide) (fun a hF => ?_)
          refine stp hF (p_lss rfl rfl) (by decide) (fun a hF => ?_)
          refine nilN ?_
          refine xn ?_
          refine cnd hF rfl (fun hc6 => ?_) (fun hc6 => ?_)
          · replace H := hbt hc6 H
            refine skN ?_
            refine xn ?_
            refine sq ?_
            refine blk ?_
            obtain ⟨x9, H, HK2⟩ := hb H
            refine sqj (fun a w => ∃ (x4 : Bool) (s17 : HF) (v10 : Value) (v11 : Value) , St e s17 w [Ow kTSlot 32 v2 x1, Ow Kd.bool 4 v10 x7.1, Ow Kd.bool 4 v11 x5.1, Ow (Kd.int .i64) 3 v3 x6] ∧ Fr 81 a [(3, v2), (5, v3), (6, v11), (8, v10), (10, (.int .i64 x3)), (78, (.bool x4))] ∧ Sub s16 s17 ∧ laws_FnMarked.c2 k1 (laws_FnMarked.l1 x5 x6 x7 k1) x3 x4 = some x14) ?_ ?_
            · skip
              replace hS : St e s16 w.drew [Ow kTSlot 32 v2 x1, Ow Kd.bool 4 v8 x7.1, Ow Kd.bool 4 v9 x5.1, Ow (Kd.int .i64) 3 v3 x6] := hS.drewN 1
              refine drw [0, 1, 2, 3, 4, 5, 6, 7, 8, 9, 10, 11, 12, 13, 14, 15, 16, 17, 18] mixed (by kernel_rfl) (by decide) (hF.cut (L' := [(3, v2), (5, v3), (6, v9), (8, v8), (10, (.int .i64 x3)), (54, (.int .i64 x3)), (55, v9), (56, (.int .i64 (x5.1.length : Int))), (57, (.bool (decide (x3 < (x5.1.length : Int)))))]) ⟨rfl, rfl, rfl, rfl, rfl, rfl, rfl, rfl, rfl, trivial⟩) ?_
              clear hF
              generalize w.drew = w at hS ⊢
              refine pk1 rfl (by decide) rfl (by kernel_rfl) rfl (p_move rfl) ?_
              refine pk1 rfl (by decide) rfl (by kernel_rfl) rfl (p_move rfl) ?_
              obtain ⟨hq1, H⟩ := hck H
              obtain ⟨b1, o1, q1, rfl, p1⟩ := p_idxo (n := 2) (i := x3) hS rfl un_37 ti_4 hq1.1 hq1.2
              refine pk1 rfl (by decide) rfl (by kernel_rfl) rfl (p1 rfl rfl) ?_
              obtain ⟨u1, h5, p2⟩ := p_ldo_one (P := Try.prog) (n := 2) hS rfl (Lens.id _) hq1.1 hq1.2 rfl ia_4 rfl
              obtain rfl : u1 = .bool (rd x5.1 x3) := by injection h5
              refine pk1 rfl (by decide) rfl (by kernel_rfl) rfl (p2 rfl) ?_
              refine pk1 rfl (by decide) rfl (by kernel_rfl) rfl (p_move rfl) ?_
              refine pk1 rfl (by decide) rfl (by kernel_rfl) rfl (p_move rfl) ?_
              replace hS := hS.sel (is := [3, 0, 0, 0]) (A' := [Ow (Kd.int .i64) 3 v3 x6, Ow kTSlot 32 v2 x1, Ow Kd.bool 4 v8 x7.1, Ow Kd.bool 4 (.slice (some ⟨b1, o1, none⟩) x5.1.length q1) x5.1]) rfl
              obtain ⟨s18, hg12, hl4, hcall4⟩ := St.lend (P := Try.prog) (Bs := [Ow (Kd.int .i64) 3 v3 x6]) (A := []) (B := [Ow kTSlot 32 v2 x1, Ow Kd.bool 4 v8 x7.1, Ow Kd.bool 4 (.slice (some ⟨b1, o1, none⟩) x5.1.length q1) x5.1]) hS
              obtain ⟨h6, hl4⟩ := hl4.ow hg12
              obtain ⟨x8, hx8, H⟩ := hb H
              refine pkE [3, 2, 1, 0] rfl (by decide) (by kernel_rfl) (by kernel_rfl) (e_call (fst := []) (vs := [v3, (.int .i64 x3)]) (cap := []) rfl rfl go_10 (hcall4 (laws_among.spec k1 _ _ x6 x3 v3 h6 _ hx8) (by rintro v s1 A1 ⟨rfl, rfl⟩; exact trivial))) ?_
              intro v w hR
              obtain ⟨s19, s20, A9, hg13, hS, hR⟩ := hR
              obtain ⟨hv8, rfl⟩ := hR; obtain rfl := hv8.symm
              have hS : St e s19 w [Ow (Kd.int .i64) 3 v3 x6, Ow kTSlot 32 v2 x1, Ow Kd.bool 4 v8 x7.1, Ow Kd.bool 4 (.slice (some ⟨b1, o1, none⟩) x5.1.length q1) x5.1] := hS
              obtain ⟨u2, h7, p3⟩ := p_ldo_one (P := Try.prog) (n := 3) hS rfl (Lens.id _) hq1.1 hq1.2 rfl ia_4 rfl
              obtain rfl : u2 = .bool (rd x5.1 x3) := by injection h7
              refine ⟨⟨knw rfl rfl rfl (p3 rfl), ⟨knw rfl rfl rfl (p1 rfl rfl), ⟨knw rfl rfl rfl (p_move rfl), ⟨knw rfl rfl rfl (p_move rfl), trivial⟩⟩⟩⟩, ?_⟩
              refine pk1 rfl (by decide) rfl (by kernel_rfl) rfl (p_neb un_4 rfl rfl) ?_
              refine pk1 rfl (by decide) rfl (by kernel_rfl) rfl (p_move rfl) ?_
              rcases Bool.eq_false_or_eq_true (((rd x5.1 x3) != x8)) with hc7 | hc7
              · replace H := hbt hc7 H
                refine pkOff (j := 8) rfl (by decide) rfl (by kernel_rfl) rfl rfl rfl (by rw [hc7]; decide) ?_
                refine pkOff (j := 8) rfl (by decide) rfl (by kernel_rfl) rfl rfl rfl (by rw [hc7]; decide) ?_
                refine pkOff (j := 8) rfl (by decide) rfl (by kernel_rfl) rfl rfl rfl (by rw [hc7]; decide) ?_
                refine pkOff (j := 8) rfl (by decide) rfl (by kernel_rfl) rfl rfl rfl (by rw [hc7]; decide) ?_
                refine pkOff (j := 8) rfl (by decide) rfl (by kernel_rfl) rfl rfl rfl (by rw [hc7]; decide) ?_
                refine pkOff (j := 8) rfl (by decide) rfl (by kernel_rfl) rfl rfl rfl (by rw [hc7]; decide) ?_
                refine pkOff (j := 8) rfl (by decide) rfl (by kernel_rfl) rfl rfl rfl (by rw [hc7]; decide) ?_
                refine pkOff (j := 8) rfl (by decide) rfl (by kernel_rfl) rfl rfl rfl (by rw [hc7]; decide) ?_
                refine pkOff (j := 8) rfl (by decide) rfl (by kernel_rfl) rfl rfl rfl (by rw [hc7]; decide) ?_
                refine pk1 rfl (by decide) rfl (by kernel_rfl) rfl (p_pickT rfl hc7 rfl) ?_
                refine pkF (fun a hF => ?_)
                refine xn ?_
                obtain rfl := hsm H
                replace hS := hS.sel (is := [1, 1, 1, 0]) (A' := [Ow kTSlot 32 v2 x1, Ow Kd.bool 4 v8 x7.1, Ow Kd.bool 4 (.slice (some ⟨b1, o1, none⟩) x5.1.length q1) x5.1, Ow (Kd.int .i64) 3 v3 x6]) rfl
                exact ⟨true, s19, v8, (.slice (some ⟨b1, o1, none⟩) x5.1.length q1), hS, hF.cut ⟨rfl, rfl, rfl, rfl, rfl, rfl, trivial⟩, hg13, HK2⟩
              · replace H := hbf hc7 H
                refine pkOn (j := 8) rfl (by decide) rfl (by kernel_rfl) rfl rfl rfl hc7 (p_move rfl) ?_
                refine pkOn (j := 8) rfl (by decide) rfl (by kernel_rfl) rfl rfl rfl hc7 (p_move rfl) ?_
                obtain ⟨hq2, H⟩ := hck H
                obtain ⟨b2, o2, q2, rfl, p4⟩ := p_idxo (n := 2) (i := x3) hS rfl un_37 ti_4 hq2.1 hq2.2
                refine pkOn (j := 8) rfl (by decide) rfl (by kernel_rfl) rfl rfl rfl hc7 (p4 rfl rfl) ?_
                obtain ⟨u3, h8, p5⟩ := p_ldo_one (P := Try.prog) (n := 2) hS rfl (Lens.id _) hq2.1 hq2.2 rfl ia_4 rfl
                obtain rfl : u3 = .bool (rd x7.1 x3) := by injection h8
                refine pkOn (j := 8) rfl (by decide) rfl (by kernel_rfl) rfl rfl rfl hc7 (p5 rfl) ?_
                refine pkOn (j := 8) rfl (by decide) rfl (by kernel_rfl) rfl rfl rfl hc7 (p_move rfl) ?_
                refine pkOn (j := 8) rfl (by decide) rfl (by kernel_rfl) rfl rfl rfl hc7 (p_move rfl) ?_
                obtain ⟨hq3, H⟩ := hck H
                refine pkOn (j := 8) rfl (by decide) rfl (by kernel_rfl) rfl rfl rfl hc7 (p_idxo2 (kd := Kd.bool) (xs := x5.1) rfl rfl un_37 ti_4 hq3.1 hq3.2) ?_
                obtain ⟨u4, h9, p6⟩ := p_ldo_one (P := Try.prog) (n := 3) hS rfl (Lens.id _) hq3.1 hq3.2 rfl ia_4 rfl
                obtain rfl : u4 = .bool (rd x5.1 x3) := by injection h9
                refine pkOn (j := 8) rfl (by decide) rfl (by kernel_rfl) rfl rfl rfl hc7 (p6 rfl) ?_
                refine pkOn (j := 8) rfl (by decide) rfl (by kernel_rfl) rfl rfl rfl hc7 (p_neb un_4 rfl rfl) ?_
                refine pk1 rfl (by decide) rfl (by kernel_rfl) rfl (p_pickF rfl hc7 rfl) ?_
                refine pkF (fun a hF => ?_)
                refine xn ?_
                obtain rfl := hsm H
                replace hS := hS.sel (is := [1, 1, 1, 0]) (A' := [Ow kTSlot 32 v2 x1, Ow Kd.bool 4 (.slice (some ⟨b2, o2, none⟩) x7.1.length q2) x7.1, Ow Kd.bool 4 (.slice (some ⟨b1, o1, none⟩) x5.1.length q1) x5.1, Ow (Kd.int .i64) 3 v3 x6]) rfl
                exact ⟨((rd x7.1 x3) != (rd x5.1 x3)), s19, (.slice (some ⟨b2, o2, none⟩) x7.1.length q2), (.slice (some ⟨b1, o1, none⟩) x5.1.length q1), hS, hF.cut ⟨rfl, rfl, rfl, rfl, rfl, rfl, trivial⟩, hg13, HK2⟩
            · clear H HK2 hS hF
              rintro a w ⟨x4, s17, v10, v11, hS, hF, hg14, H⟩
              unfold laws_FnMarked.c2 at H
              refine cnd hF rfl (fun hc8 => ?_) (fun hc8 => ?_)
              · replace H := hbt hc8 H
                refine sq ?_
                refine rg ?_
                refine stp hF (p_assign rfl) (by decide) (fun a hF => ?_)
                refine nilN ?_
                refine xn ?_
                refine rt ?_
                refine br (xr (xr (br (xr ?_))))
                obtain rfl := hsm H
                have H := hon1 HK1
                obtain rfl := hsm H
                replace hS := hS.sel (is := []) (A' := []) rfl
                exact ret1 hF rfl rfl hS ⟨rfl, rfl⟩
              · replace H := hbf hc8 H
                refine skN ?_
                refine bn (xn ?_)
                refine rg ?_
                refine stp hF (p_move rfl) (by decide) (fun a hF => ?_)
                refine stp hF (p_add (c := w64 (x3 + 1)) rfl rfl rfl) (by decide) (fun a hF => ?_)
                refine stp hF (p_assign rfl) (by decide) (fun a hF => ?_)
                refine nilN ?_
                refine xn ?_
                exact ⟨(w64 (x3 + 1)), s17, v10, v11, hS, hF.cut ⟨rfl, rfl, rfl, rfl, rfl, trivial⟩, (hg11.trans hg14), H⟩
          · replace H := hbf hc6 H
            refine exi ?_
            refine xe (xe (hit (xn ?_)))
            obtain rfl := hsm H
            exact ⟨s16, v8, v9, hS, hF.cut ⟨rfl, trivial⟩, hg11, HK1⟩
      · clear H HK1 hS hF
        rintro a w ⟨s15, v6, v7, hS, hF, hg15, H⟩
        unfold laws_FnMarked.c1 at H
        refine sq ?_
        refine rg ?_
        refine stp hF (p_move rfl) (by decide) (fun a hF => ?_)
        obtain ⟨s21, hg16, hl5, hcall5⟩ := St.lend (P := Try.prog) (Bs := [Ow kTSlot 32 v2 x1]) (A := []) (B := [Ow Kd.bool 4 v6 x7.1, Ow Kd.bool 4 v7 x5.1, Ow (Kd.int .i64) 3 v3 x6]) hS
        obtain ⟨h10, hl5⟩ := hl5.ow hg16
        obtain ⟨x2, hx9, H⟩ := hb H
        refine ste hF (e_call (fst := []) (vs := [v2]) (cap := []) rfl rfl go_14 (hcall5 (impl_ViewOk.spec k _ _ x1 v2 h10 _ hx9) (by rintro v s1 A1 ⟨rfl, rfl⟩; exact trivial))) (by decide) (fun v w a hR hF => ?_)
        obtain ⟨s22, s23, A10, hg17, hS, hR⟩ := hR
        obtain ⟨hv9, rfl⟩ := hR; obtain rfl := hv9.symm
        have hS : St e s22 w [Ow kTSlot 32 v2 x1, Ow Kd.bool 4 v6 x7.1, Ow Kd.bool 4 v7 x5.1, Ow (Kd.int .i64) 3 v3 x6] := hS
        refine stp hF (p_assign rfl) (by decide) (fun a hF => ?_)
        refine nilN ?_
        refine xn ?_
        refine rt ?_
        obtain rfl := hsm H
        replace hS := hS.sel (is := []) (A' := []) rfl
        exact ret1 hF rfl rfl hS ⟨rfl, rfl⟩
end Go.Proofs.Ytplgbgcfgnobdaa
