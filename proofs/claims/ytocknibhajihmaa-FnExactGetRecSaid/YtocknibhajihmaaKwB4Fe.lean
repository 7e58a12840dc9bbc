/- Functions of this place as plain functions, and that the machine comes to what they say. Conditions: none. -/
import Derived.Test.YtocknibhajihmaaKwB4Fd
set_option linter.unusedVariables false
set_option linter.unusedSimpArgs false
namespace Go.Proofs.Ytocknibhajihmaa
open Go.Kw

def laws_heldLiveS.c1 (k : Nat) (x1 : Int) : Option Int :=
  (some x1)
def laws_heldLiveS.l1 (x2 : (List TLive)) : Nat → Int → Int → Option (Ex Int Int)
  | 0, _, _ => none
  | k + 1, x3, x4 => (if (decide (x4 < (x2.length : Int))) = true then (if 0 ≤ x4 ∧ x4 < (x2.length : Int) then (if (decide (((rd x2 x4).Tx) ≠ x3)) = true then (some (Ex.ret (-1))) else (if 0 ≤ x4 ∧ x4 < (x2.length : Int) then (if (decide (((rd x2 x4).Last) ≠ (w64 (x3 + 1)))) = true then (some (Ex.ret (-1))) else (if 0 ≤ x4 ∧ x4 < (x2.length : Int) then (if (((rd x2 x4).Aborts) != (decide (((w64 ((w64 (x3 + 1)) + 1)).tmod 3) = 0))) = true then (some (Ex.ret (-1))) else ((laws_heldLiveS.l1 x2 k) (w64 ((w64 ((w64 (x3 + 1)) + 1)) + 1)) (w64 (x4 + 1)))) else none)) else none)) else none) else (some (Ex.go x3)))
def laws_heldLiveS.f (k : Nat) (x2 : (List TLive)) (x5 : Int) : Option Int :=
  (((laws_heldLiveS.l1 x2 k x5 0) : Option (Ex Int Int)).bind fun x6 => Ex.on x6 (fun r => some r) (fun y => laws_heldLiveS.c1 k y))
set_option maxRecDepth 100000 in
set_option maxHeartbeats 4000000 in
theorem laws_heldLiveS.spec (k : Nat) (s0 : HF) (w : World) (x2 : (List TLive)) (x5 : Int) (v1 : Value) (h1 : Sl kTLive s0 v1 x2) (r : Int) (H : laws_heldLiveS.f k x2 x5 = some r) :
    Law Try.prog 115 #[v1, (.int .i64 x5)] s0 w [] (fun v s1 A1 => v = (.int .i64 r) ∧ A1 = []) := by
  unfold laws_heldLiveS.f at H
  refine Law.intro Try.func115 rfl [(0, v1), (1, (.int .i64 x5))] (Nat.le_of_ble_eq_true rfl) (enter_lk ⟨rfl, rfl, trivial⟩) (fun e a hS hF => ?_)
  have hF : Fr 42 a [(0, v1), (1, (.int .i64 x5))] := hF
  refine sq ?_
  refine rg ?_
  refine stp hF (p_assign rfl) (by decide) (fun a hF => ?_)
  refine nilN ?_
  refine xn ?_
  obtain ⟨x6, H, HK1⟩ := hb H
  refine sqj (fun a w => ∃ (x1 : Int) , St e s0 w [] ∧ Fr 42 a [(1, (.int .i64 x1))] ∧ laws_heldLiveS.c1 k x1 = some r) ?_ ?_
  · skip
    refine sq ?_
    refine rg ?_
    refine stp hF (p_assign rfl) (by decide) (fun a hF => ?_)
    refine nilN ?_
    refine xn ?_
    refine blk ?_
    refine loop_ind (fun k1 a w => ∃ (x3 : Int) (x4 : Int) , St e s0 w [] ∧ Fr 42 a [(0, v1), (1, (.int .i64 x3)), (5, (.int .i64 x4))] ∧ laws_heldLiveS.l1 x2 k1 x3 x4 = some x6) k ?_ ?_ ?_
    · skip
      exact ⟨x5, 0, hS, hF.cut ⟨rfl, rfl, rfl, trivial⟩, H⟩
    · clear H hS hF
      rintro a w ⟨x3, x4, hS, hF, H⟩
      exact absurd (show none = some _ from H) (by simp)
    · clear H hS hF
      rintro k1 a w ⟨x3, x4, hS, hF, H⟩
      rw [laws_heldLiveS.l1.eq_2] at H
      refine sq ?_
      refine sq ?_
      refine rg ?_
      refine stp hF (p_move rfl) (by decide) (fun a hF => ?_)
      refine stp hF (p_move rfl) (by decide) (fun a hF => ?_)
      refine stp hF (p_lenr un_39 rfl h1) (by decide) (fun a hF => ?_)
      refine stp hF (p_lss rfl rfl) (by decide) (fun a hF => ?_)
      refine nilN ?_
      refine xn ?_
      refine cnd hF rfl (fun hc1 => ?_) (fun hc1 => ?_)
      · replace H := hbt hc1 H
        refine skN ?_
        refine xn ?_
        refine sq ?_
        refine blk ?_
        refine sq ?_
        refine sq ?_
        refine rg ?_
        refine stp hF (p_move rfl) (by decide) (fun a hF => ?_)
        refine stp hF (p_move rfl) (by decide) (fun a hF => ?_)
        obtain ⟨hq1, H⟩ := hck H
        obtain ⟨ad1, h2, p1⟩ := p_idxr (P := Try.prog) (i := x4) h1 un_39 ti_91 hq1.1 hq1.2
        refine stp hF (p1 rfl rfl) (by decide) (fun a hF => ?_)
        have h3 : Pr (Kd.int .i64) s0 (ad1.add 0) ((rd x2 x4).Tx) := h2.lens kTLive_Tx
        refine stp hF (p_fld rfl fi_91_0) (by decide) (fun a hF => ?_)
        refine stp hF (p_ldr_int rfl hS h3 ia_3) (by decide) (fun a hF => ?_)
        refine stp hF (p_move rfl) (by decide) (fun a hF => ?_)
        refine stp hF (p_neq rfl rfl) (by decide) (fun a hF => ?_)
        refine nilN ?_
        refine xn ?_
        refine cnd hF rfl (fun hc2 => ?_) (fun hc2 => ?_)
        · replace H := hbt hc2 H
          refine sq ?_
          refine rg ?_
          refine stp hF (p_assign rfl) (by decide) (fun a hF => ?_)
          refine nilN ?_
          refine xn ?_
          refine rt ?_
          refine xr (br (xr (xr (br (xr ?_)))))
          obtain rfl := hsm H
          have H := hon1 HK1
          obtain rfl := hsm H
          exact ret1 hF rfl rfl hS ⟨rfl, rfl⟩
        · replace H := hbf hc2 H
          refine skN ?_
          refine xn ?_
          refine sq ?_
          refine rg ?_
          refine stp hF (p_move rfl) (by decide) (fun a hF => ?_)
          refine stp hF (p_add (c := w64 (x3 + 1)) rfl rfl rfl) (by decide) (fun a hF => ?_)
          refine stp hF (p_assign rfl) (by decide) (fun a hF => ?_)
          refine nilN ?_
          refine xn ?_
          refine sq ?_
          refine sq ?_
          refine rg ?_
          refine stp hF (p_move rfl) (by decide) (fun a hF => ?_)
          refine stp hF (p_move rfl) (by decide) (fun a hF => ?_)
          obtain ⟨hq2, H⟩ := hck H
          obtain ⟨ad2, h4, p2⟩ := p_idxr (P := Try.prog) (i := x4) h1 un_39 ti_91 hq2.1 hq2.2
          refine stp hF (p2 rfl rfl) (by decide) (fun a hF => ?_)
          have h5 : Pr (Kd.int .i64) s0 (ad2.add 1) ((rd x2 x4).Last) := h4.lens kTLive_Last
          refine stp hF (p_fld rfl fi_91_1) (by decide) (fun a hF => ?_)
          refine stp hF (p_ldr_int rfl hS h5 ia_3) (by decide) (fun a hF => ?_)
          refine stp hF (p_move rfl) (by decide) (fun a hF => ?_)
          refine stp hF (p_neq rfl rfl) (by decide) (fun a hF => ?_)
          refine nilN ?_
          refine xn ?_
          refine cnd hF rfl (fun hc3 => ?_) (fun hc3 => ?_)
          · replace H := hbt hc3 H
            refine sq ?_
            refine rg ?_
            refine stp hF (p_assign rfl) (by decide) (fun a hF => ?_)
            refine nilN ?_
            refine xn ?_
            refine rt ?_
            refine xr (br (xr (xr (br (xr ?_)))))
            obtain rfl := hsm H
            have H := hon1 HK1
            obtain rfl := hsm H
            exact ret1 hF rfl rfl hS ⟨rfl, rfl⟩
          · replace H := hbf hc3 H
            refine skN ?_
            refine xn ?_
            refine sq ?_
            refine rg ?_
            refine stp hF (p_move rfl) (by decide) (fun a hF => ?_)
            refine stp hF (p_add (c := w64 ((w64 (x3 + 1)) + 1)) rfl rfl rfl) (by decide) (fun a hF => ?_)
            refine stp hF (p_assign rfl) (by decide) (fun a hF => ?_)
            refine nilN ?_
            refine xn ?_
            refine sq ?_
            refine sq ?_
            refine rg ?_
            refine stp hF (p_move rfl) (by decide) (fun a hF => ?_)
            refine stp hF (p_move rfl) (by decide) (fun a hF => ?_)
            obtain ⟨hq3, H⟩ := hck H
            obtain ⟨ad3, h6, p3⟩ := p_idxr (P := Try.prog) (i := x4) h1 un_39 ti_91 hq3.1 hq3.2
            refine stp hF (p3 rfl rfl) (by decide) (fun a hF => ?_)
            have h7 : Pr Kd.bool s0 (ad3.add 2) ((rd x2 x4).Aborts) := h6.lens kTLive_Aborts
            refine stp hF (p_fld rfl fi_91_2) (by decide) (fun a hF => ?_)
            refine stp hF (p_ldr_bool rfl hS h7 ia_4) (by decide) (fun a hF => ?_)
            refine stp hF (p_move rfl) (by decide) (fun a hF => ?_)
            refine stp hF (p_rem (c := (w64 ((w64 (x3 + 1)) + 1)).tmod 3) rfl rfl (by decide) rfl) (by decide) (fun a hF => ?_)
            refine stp hF (p_eql rfl rfl) (by decide) (fun a hF => ?_)
            refine stp hF (p_neb un_4 rfl rfl) (by decide) (fun a hF => ?_)
            refine nilN ?_
            refine xn ?_
            refine cnd hF rfl (fun hc4 => ?_) (fun hc4 => ?_)
            · replace H := hbt hc4 H
              refine sq ?_
              refine rg ?_
              refine stp hF (p_assign rfl) (by decide) (fun a hF => ?_)
              refine nilN ?_
              refine xn ?_
              refine rt ?_
              refine xr (br (xr (xr (br (xr ?_)))))
              obtain rfl := hsm H
              have H := hon1 HK1
              obtain rfl := hsm H
              exact ret1 hF rfl rfl hS ⟨rfl, rfl⟩
            · replace H := hbf hc4 H
              refine skN ?_
              refine xn ?_
              refine rg ?_
              refine stp hF (p_move rfl) (by decide) (fun a hF => ?_)
              refine stp hF (p_add (c := w64 ((w64 ((w64 (x3 + 1)) + 1)) + 1)) rfl rfl rfl) (by decide) (fun a hF => ?_)
              refine stp hF (p_assign rfl) (by decide) (fun a hF => ?_)
              refine nilN ?_
              refine bn (xn ?_)
              refine rg ?_
              refine stp hF (p_move rfl) (by decide) (fun a hF => ?_)
              refine stp hF (p_add (c := w64 (x4 + 1)) rfl rfl rfl) (by decide) (fun a hF => ?_)
              refine stp hF (p_assign rfl) (by decide) (fun a hF => ?_)
              refine nilN ?_
              refine xn ?_
              exact ⟨(w64 ((w64 ((w64 (x3 + 1)) + 1)) + 1)), (w64 (x4 + 1)), hS, hF.cut ⟨rfl, rfl, rfl, trivial⟩, H⟩
      · replace H := hbf hc1 H
        refine exi ?_
        refine xe (xe (hit (xn ?_)))
        obtain rfl := hsm H
        exact ⟨x3, hS, hF.cut ⟨rfl, trivial⟩, HK1⟩
  · clear H HK1 hS hF
    rintro a w ⟨x1, hS, hF, H⟩
    unfold laws_heldLiveS.c1 at H
    refine sq ?_
    refine rg ?_
    refine stp hF (p_move rfl) (by decide) (fun a hF => ?_)
    refine stp hF (p_assign rfl) (by decide) (fun a hF => ?_)
    refine nilN ?_
    refine xn ?_
    refine rt ?_
    obtain rfl := hsm H
    exact ret1 hF rfl rfl hS ⟨rfl, rfl⟩

def laws_heldRec.f (k : Nat) (x1 : TRec) (x2 : Int) : Option Int :=
  ((laws_heldSlot.f k x1.Before x2).bind fun x3 => (if (decide (x3 < 0)) = true then (some (-1)) else ((laws_heldSlot.f k x1.After x3).bind fun x4 => (if (decide (x4 < 0)) = true then (some (-1)) else ((laws_heldLiveS.f k x1.Txs x4).bind fun x5 => (if (decide (x5 < 0)) = true then (some (-1)) else (some x5)))))))
set_option maxRecDepth 100000 in
set_option maxHeartbeats 4000000 in
theorem laws_heldRec.spec (k : Nat) (s0 : HF) (w : World) (x1 : TRec) (x2 : Int) (v1 : Value) (v2 : Value) (v3 : Value) (v4 : Value) (v5 : Value) (h1 : Sl (Kd.int .i64) s0 v1 x1.Before.O.Ints) (h2 : Sl (Kd.int .i64) s0 v2 x1.Before.O.Refs) (h3 : Sl (Kd.int .i64) s0 v3 x1.After.O.Ints) (h4 : Sl (Kd.int .i64) s0 v4 x1.After.O.Refs) (h5 : Sl kTLive s0 v5 x1.Txs) (r : Int) (H : laws_heldRec.f k x1 x2 = some r) :
    Law Try.prog 45 #[(.agg #[(.int .i64 x1.Lsn), (.int .i64 x1.Tx), (.int .i64 x1.Prev), (.int .i64 x1.Kind), (.int .i64 x1.Oid), (.bool x1.Before.Has), (.int .i64 x1.Before.O.Kind), v1, v2, (.bool x1.After.Has), (.int .i64 x1.After.O.Kind), v3, v4, (.int .i64 x1.Next), v5]), (.int .i64 x2)] s0 w [] (fun v s1 A1 => v = (.int .i64 r) ∧ A1 = []) := by
  unfold laws_heldRec.f at H
  refine Law.intro Try.func45 rfl [(0, (.agg #[(.int .i64 x1.Lsn), (.int .i64 x1.Tx), (.int .i64 x1.Prev), (.int .i64 x1.Kind), (.int .i64 x1.Oid), (.bool x1.Before.Has), (.int .i64 x1.Before.O.Kind), v1, v2, (.bool x1.After.Has), (.int .i64 x1.After.O.Kind), v3, v4, (.int .i64 x1.Next), v5])), (1, (.int .i64 x2))] (Nat.le_of_ble_eq_true rfl) (enter_lk ⟨rfl, rfl, trivial⟩) (fun e a hS hF => ?_)
  have hF : Fr 24 a [(0, (.agg #[(.int .i64 x1.Lsn), (.int .i64 x1.Tx), (.int .i64 x1.Prev), (.int .i64 x1.Kind), (.int .i64 x1.Oid), (.bool x1.Before.Has), (.int .i64 x1.Before.O.Kind), v1, v2, (.bool x1.After.Has), (.int .i64 x1.After.O.Kind), v3, v4, (.int .i64 x1.Next), v5])), (1, (.int .i64 x2))] := hF
  refine sq ?_
  refine rg ?_
  refine ste hF (e_box (cs := [(.int .i64 x1.Lsn), (.int .i64 x1.Tx), (.int .i64 x1.Prev), (.int .i64 x1.Kind), (.int .i64 x1.Oid), (.bool x1.Before.Has), (.int .i64 x1.Before.O.Kind), v1, v2, (.bool x1.After.Has), (.int .i64 x1.After.O.Kind), v3, v4, (.int .i64 x1.Next), v5]) hS rfl rfl) (by decide) (fun v w a hR hF => ?_)
  obtain ⟨g1, rfl, hS⟩ := hR
  refine stp hF (p_assign rfl) (by decide) (fun a hF => ?_)
  refine nilN ?_
  refine xn ?_
  refine sq ?_
  refine rg ?_
  refine stp hF (p_fldb (o' := 5) rfl fi_41_5 rfl) (by decide) (fun a hF => ?_)
  refine stp hF (p_ldb_agg (i := 0) (l := [(.int .i64 x1.Lsn), (.int .i64 x1.Tx), (.int .i64 x1.Prev), (.int .i64 x1.Kind), (.int .i64 x1.Oid)]) (m := [(.bool x1.Before.Has), (.int .i64 x1.Before.O.Kind), v1, v2]) (r := [(.bool x1.After.Has), (.int .i64 x1.After.O.Kind), v3, v4, (.int .i64 x1.Next), v5]) hS rfl rfl ia_38 ti_38 rfl rfl rfl) (by decide) (fun a hF => ?_)
  refine stp hF (p_move rfl) (by decide) (fun a hF => ?_)
  obtain ⟨x3, hx1, H⟩ := hb H
  refine ste hF (e_callA (fst := []) (vs := [(.agg #[(.bool x1.Before.Has), (.int .i64 x1.Before.O.Kind), v1, v2]), (.int .i64 x2)]) (cap := []) rfl rfl go_114 (St.call (A := []) (B := [pt g1 41 ([(.int .i64 x1.Lsn), (.int .i64 x1.Tx), (.int .i64 x1.Prev), (.int .i64 x1.Kind), (.int .i64 x1.Oid), (.bool x1.Before.Has), (.int .i64 x1.Before.O.Kind), v1, v2, (.bool x1.After.Has), (.int .i64 x1.After.O.Kind), v3, v4, (.int .i64 x1.Next), v5])]) hS (laws_heldSlot.spec k _ _ x1.Before x2 v1 v2 h1 h2 _ hx1)) rfl) (by decide) (fun v w a hR hF => ?_)
  obtain ⟨s2, A2, hg1, hS, hR⟩ := hR
  obtain ⟨hv1, rfl⟩ := hR; obtain rfl := hv1.symm
  have hS : St e s2 w [pt g1 41 ([(.int .i64 x1.Lsn), (.int .i64 x1.Tx), (.int .i64 x1.Prev), (.int .i64 x1.Kind), (.int .i64 x1.Oid), (.bool x1.Before.Has), (.int .i64 x1.Before.O.Kind), v1, v2, (.bool x1.After.Has), (.int .i64 x1.After.O.Kind), v3, v4, (.int .i64 x1.Next), v5])] := hS
  refine stp hF (p_assign rfl) (by decide) (fun a hF => ?_)
  refine nilN ?_
  refine xn ?_
  refine sq ?_
  refine sq ?_
  refine rg ?_
  refine stp hF (p_move rfl) (by decide) (fun a hF => ?_)
  refine stp hF (p_lss rfl rfl) (by decide) (fun a hF => ?_)
  refine nilN ?_
  refine xn ?_
  refine cnd hF rfl (fun hc1 => ?_) (fun hc1 => ?_)
  · replace H := hbt hc1 H
    refine sq ?_
    refine rg ?_
    refine stp hF (p_assign rfl) (by decide) (fun a hF => ?_)
    refine nilN ?_
    refine xn ?_
    refine rt ?_
    refine xr ?_
    obtain rfl := hsm H
    replace hS := hS.sel (is := []) (A' := []) rfl
    exact ret1 hF rfl rfl hS ⟨rfl, rfl⟩
  · replace H := hbf hc1 H
    refine skN ?_
    refine xn ?_
    refine sq ?_
    refine rg ?_
    refine stp hF (p_fldb (o' := 9) rfl fi_41_6 rfl) (by decide) (fun a hF => ?_)
    refine stp hF (p_ldb_agg (i := 0) (l := [(.int .i64 x1.Lsn), (.int .i64 x1.Tx), (.int .i64 x1.Prev), (.int .i64 x1.Kind), (.int .i64 x1.Oid), (.bool x1.Before.Has), (.int .i64 x1.Before.O.Kind), v1, v2]) (m := [(.bool x1.After.Has), (.int .i64 x1.After.O.Kind), v3, v4]) (r := [(.int .i64 x1.Next), v5]) hS rfl rfl ia_38 ti_38 rfl rfl rfl) (by decide) (fun a hF => ?_)
    refine stp hF (p_move rfl) (by decide) (fun a hF => ?_)
    obtain ⟨x4, hx2, H⟩ := hb H
    refine ste hF (e_callA (fst := []) (vs := [(.agg #[(.bool x1.After.Has), (.int .i64 x1.After.O.Kind), v3, v4]), (.int .i64 x3)]) (cap := []) rfl rfl go_114 (St.call (A := []) (B := [pt g1 41 ([(.int .i64 x1.Lsn), (.int .i64 x1.Tx), (.int .i64 x1.Prev), (.int .i64 x1.Kind), (.int .i64 x1.Oid), (.bool x1.Before.Has), (.int .i64 x1.Before.O.Kind), v1, v2, (.bool x1.After.Has), (.int .i64 x1.After.O.Kind), v3, v4, (.int .i64 x1.Next), v5])]) hS (laws_heldSlot.spec k _ _ x1.After x3 v3 v4 (h3.mono hg1) (h4.mono hg1) _ hx2)) rfl) (by decide) (fun v w a hR hF => ?_)
    obtain ⟨s3, A3, hg2, hS, hR⟩ := hR
    obtain ⟨hv2, rfl⟩ := hR; obtain rfl := hv2.symm
    have hS : St e s3 w [pt g1 41 ([(.int .i64 x1.Lsn), (.int .i64 x1.Tx), (.int .i64 x1.Prev), (.int .i64 x1.Kind), (.int .i64 x1.Oid), (.bool x1.Before.Has), (.int .i64 x1.Before.O.Kind), v1, v2, (.bool x1.After.Has), (.int .i64 x1.After.O.Kind), v3, v4, (.int .i64 x1.Next), v5])] := hS
    refine stp hF (p_assign rfl) (by decide) (fun a hF => ?_)
    refine nilN ?_
    refine xn ?_
    refine sq ?_
    refine sq ?_
    refine rg ?_
    refine stp hF (p_move rfl) (by decide) (fun a hF => ?_)
    refine stp hF (p_lss rfl rfl) (by decide) (fun a hF => ?_)
    refine nilN ?_
    refine xn ?_
    refine cnd hF rfl (fun hc2 => ?_) (fun hc2 => ?_)
    · replace H := hbt hc2 H
      refine sq ?_
      refine rg ?_
      refine stp hF (p_assign rfl) (by decide) (fun a hF => ?_)
      refine nilN ?_
      refine xn ?_
      refine rt ?_
      refine xr ?_
      obtain rfl := hsm H
      replace hS := hS.sel (is := []) (A' := []) rfl
      exact ret1 hF rfl rfl hS ⟨rfl, rfl⟩
    · replace H := hbf hc2 H
      refine skN ?_
      refine xn ?_
      refine sq ?_
      refine rg ?_
      refine stp hF (p_fldb (o' := 14) rfl fi_41_8 rfl) (by decide) (fun a hF => ?_)
      refine stp hF (p_ldb_one (i := 0) hS rfl rfl ia_39 rfl) (by decide) (fun a hF => ?_)
      refine stp hF (p_move rfl) (by decide) (fun a hF => ?_)
      obtain ⟨x5, hx3, H⟩ := hb H
      refine ste hF (e_callA (fst := []) (vs := [v5, (.int .i64 x4)]) (cap := []) rfl rfl go_115 (St.call (A := []) (B := [pt g1 41 ([(.int .i64 x1.Lsn), (.int .i64 x1.Tx), (.int .i64 x1.Prev), (.int .i64 x1.Kind), (.int .i64 x1.Oid), (.bool x1.Before.Has), (.int .i64 x1.Before.O.Kind), v1, v2, (.bool x1.After.Has), (.int .i64 x1.After.O.Kind), v3, v4, (.int .i64 x1.Next), v5])]) hS (laws_heldLiveS.spec k _ _ x1.Txs x4 v5 ((h5.mono hg1).mono hg2) _ hx3)) rfl) (by decide) (fun v w a hR hF => ?_)
      obtain ⟨s4, A4, hg3, hS, hR⟩ := hR
      obtain ⟨hv3, rfl⟩ := hR; obtain rfl := hv3.symm
      have hS : St e s4 w [pt g1 41 ([(.int .i64 x1.Lsn), (.int .i64 x1.Tx), (.int .i64 x1.Prev), (.int .i64 x1.Kind), (.int .i64 x1.Oid), (.bool x1.Before.Has), (.int .i64 x1.Before.O.Kind), v1, v2, (.bool x1.After.Has), (.int .i64 x1.After.O.Kind), v3, v4, (.int .i64 x1.Next), v5])] := hS
      refine stp hF (p_assign rfl) (by decide) (fun a hF => ?_)
      refine nilN ?_
      refine xn ?_
      refine sq ?_
      refine sq ?_
      refine rg ?_
      refine stp hF (p_move rfl) (by decide) (fun a hF => ?_)
      refine stp hF (p_lss rfl rfl) (by decide) (fun a hF => ?_)
      refine nilN ?_
      refine xn ?_
      refine cnd hF rfl (fun hc3 => ?_) (fun hc3 => ?_)
      · replace H := hbt hc3 H
        refine sq ?_
        refine rg ?_
        refine stp hF (p_assign rfl) (by decide) (fun a hF => ?_)
        refine nilN ?_
        refine xn ?_
        refine rt ?_
        refine xr ?_
        obtain rfl := hsm H
        replace hS := hS.sel (is := []) (A' := []) rfl
        exact ret1 hF rfl rfl hS ⟨rfl, rfl⟩
      · replace H := hbf hc3 H
        refine skN ?_
        refine xn ?_
        refine sq ?_
        refine rg ?_
        refine stp hF (p_move rfl) (by decide) (fun a hF => ?_)
        refine stp hF (p_assign rfl) (by decide) (fun a hF => ?_)
        refine nilN ?_
        refine xn ?_
        refine rt ?_
        obtain rfl := hsm H
        replace hS := hS.sel (is := []) (A' := []) rfl
        exact ret1 hF rfl rfl hS ⟨rfl, rfl⟩

def laws_FnExactGetRec.c1 (k : Nat) (x1 : TRec × Bool) (x2 : TRec × Bool) (x3 : (List Int)) (x4 : Bool) : Option Bool :=
  (if (x4 || (x1.2 != x2.2)) = true then (some false) else ((laws_markRec.f k x1.1 1).bind fun x5 => ((laws_heldRec.f k (⟨x1.1.Lsn, x1.1.Tx, x1.1.Prev, x1.1.Kind, x1.1.Oid, (⟨x1.1.Before.Has, (⟨x1.1.Before.O.Kind, x5.2.1, x5.2.2.1⟩ : TObj)⟩ : TSlot), (⟨x1.1.After.Has, (⟨x1.1.After.O.Kind, x5.2.2.2.1, x5.2.2.2.2.1⟩ : TObj)⟩ : TSlot), x1.1.Next, x5.2.2.2.2.2⟩ : TRec) 1).bind fun x6 => (if (decide (x6 < 0)) = true then (some false) else (if (decide (x6 ≠ x5.1)) = true then (some false) else ((laws_toByteS.f k x3).bind fun x7 => ((impl_GetRec.f k x7).bind fun x8 => ((laws_eqRec.f k x8.1 x2.1).bind fun x9 => (if ((!x9) || (x8.2 != x2.2)) = true then (some false) else ((laws_heldRec.f k (⟨x1.1.Lsn, x1.1.Tx, x1.1.Prev, x1.1.Kind, x1.1.Oid, (⟨x1.1.Before.Has, (⟨x1.1.Before.O.Kind, x5.2.1, x5.2.2.1⟩ : TObj)⟩ : TSlot), (⟨x1.1.After.Has, (⟨x1.1.After.O.Kind, x5.2.2.2.1, x5.2.2.2.2.1⟩ : TObj)⟩ : TSlot), x1.1.Next, x5.2.2.2.2.2⟩ : TRec) 1).bind fun x10 => (if (decide (x10 < 0)) = true then (some false) else (if (decide (x10 ≠ x5.1)) = true then (some false) else (some true)))))))))))))
def laws_FnExactGetRec.f (k : Nat) (x3 : (List Int)) : Option Bool :=
  (if (decide (1048576 < (x3.length : Int))) = true then (some true) else ((laws_toByteS.f k x3).bind fun x11 => ((spec_GetRec.f k x11).bind fun x2 => ((laws_toByteS.f k x3).bind fun x12 => ((impl_GetRec.f k x12).bind fun x1 => ((laws_eqRec.f k x1.1 x2.1).bind fun x13 => (if ((!x13) || (x1.2 != x2.2)) = true then (some false) else ((laws_toByteS.f k x3).bind fun x14 => ((laws_eqByteS.f k x12 x14).bind fun x15 => (if (!x15) = true then (some false) else ((laws_markByteS.f k x12 1).bind fun x16 => ((if (decide (x16.1 < 0)) = true then (some true) else ((laws_eqRec.f k x1.1 x2.1).bind fun x17 => (some (!x17))) : Option Bool).bind fun x18 => laws_FnExactGetRec.c1 k x1 x2 x3 x18))))))))))))
set_option maxRecDepth 100000 in
set_option maxHeartbeats 4000000 in
theorem laws_FnExactGetRec.spec (k : Nat) (s0 : HF) (w : World) (x3 : (List Int)) (v1 : Value) (h1 : Sl (Kd.int .u8) s0 v1 x3) (r : Bool) (H : laws_FnExactGetRec.f k x3 = some r) :
    Law Try.prog 7 #[v1] s0 w [] (fun v s1 A1 => v = (.bool r) ∧ A1 = []) := by
  unfold laws_FnExactGetRec.f at H
  refine Law.intro Try.func7 rfl [(0, v1)] (Nat.le_of_ble_eq_true rfl) (enter_lk ⟨rfl, trivial⟩) (fun e a hS hF => ?_)
  have hF : Fr 93 a [(0, v1)] := hF
  refine sq ?_
  refine rg ?_
  refine stp hF (p_assign rfl) (by decide) (fun a hF => ?_)
  refine nilN ?_
  refine xn ?_
  refine sq ?_
  refine sq ?_
  refine rg ?_
  refine stp hF (p_move rfl) (by decide) (fun a hF => ?_)
  refine stp hF (p_lenr un_24 rfl h1) (by decide) (fun a hF => ?_)
  refine stp hF (p_gtr rfl rfl) (by decide) (fun a hF => ?_)
  refine nilN ?_
  refine xn ?_
  refine cnd hF rfl (fun hc1 => ?_) (fun hc1 => ?_)
  · replace H := hbt hc1 H
    refine sq ?_
    refine rg ?_
    refine stp hF (p_assign rfl) (by decide) (fun a hF => ?_)
    refine nilN ?_
    refine xn ?_
    refine rt ?_
    refine xr ?_
    obtain rfl := hsm H
    exact ret1 hF rfl rfl hS ⟨rfl, rfl⟩
  · replace H := hbf hc1 H
    refine skN ?_
    refine xn ?_
    refine sq ?_
    refine rg ?_
    refine stp hF (p_move rfl) (by decide) (fun a hF => ?_)
    obtain ⟨x11, hx1, H⟩ := hb H
    refine ste hF (e_callA (fst := []) (vs := [v1]) (cap := []) rfl rfl go_38 (St.call (A := []) (B := []) hS (laws_toByteS.spec k _ _ x3 v1 h1 _ hx1)) rfl) (by decide) (fun v w a hR hF => ?_)
    obtain ⟨s2, A2, hg1, hS, hR⟩ := hR
    obtain ⟨v2, hv1, rfl⟩ := hR; obtain rfl := hv1.symm
    have hS : St e s2 w [Ow (Kd.int .u8) 5 v2 x11] := hS
    obtain ⟨s3, hg2, hl1, hcall1⟩ := St.lend (P := Try.prog) (Bs := [Ow (Kd.int .u8) 5 v2 x11]) (A := []) (B := []) hS
    obtain ⟨h2, hl1⟩ := hl1.ow hg2
    obtain ⟨x2, hx2, H⟩ := hb H
    refine ste hF (e_callA (fst := []) (vs := [v2]) (cap := []) rfl rfl go_42 (hcall1 (spec_GetRec.spec k _ _ x11 v2 h2 _ hx2) (by rintro v s1 A1 ⟨_, _, _, _, _, rfl, rfl⟩; exact ⟨Ow_flat flat_int _ _ _, ⟨Ow_flat flat_int _ _ _, ⟨Ow_flat flat_int _ _ _, ⟨Ow_flat flat_int _ _ _, ⟨Ow_flat kTLive_flat _ _ _, trivial⟩⟩⟩⟩⟩)) rfl) (by decide) (fun v w a hR hF => ?_)
    obtain ⟨s4, s5, A3, hg3, hS, hR⟩ := hR
    obtain ⟨v3, v4, v5, v6, v7, hv2, rfl⟩ := hR; obtain rfl := hv2.symm
    have hS : St e s4 w [Ow (Kd.int .u8) 5 v2 x11, Ow (Kd.int .i64) 3 v3 x2.1.Before.O.Ints, Ow (Kd.int .i64) 3 v4 x2.1.Before.O.Refs, Ow (Kd.int .i64) 3 v5 x2.1.After.O.Ints, Ow (Kd.int .i64) 3 v6 x2.1.After.O.Refs, Ow kTLive 91 v7 x2.1.Txs] := hS
    refine stp hF (p_move rfl) (by decide) (fun a hF => ?_)
    refine stp hF (p_extract rfl rfl) (by decide) (fun a hF => ?_)
    refine stp hF (p_extract rfl rfl) (by decide) (fun a hF => ?_)
    refine ste hF (e_alloc (cs := [(.int .i64 0), (.int .i64 0), (.int .i64 0), (.int .i64 0), (.int .i64 0), (.bool false), (.int .i64 0), (.slice none 0 0), (.slice none 0 0), (.bool false), (.int .i64 0), (.slice none 0 0), (.slice none 0 0), (.int .i64 0), (.slice none 0 0)]) hS ti_41 rfl) (by decide) (fun v w a hR hF => ?_)
    obtain ⟨g1, rfl, hS⟩ := hR
    refine ste0 hF (e_stb (i := 0) (l := []) (m := [(.int .i64 0), (.int .i64 0), (.int .i64 0), (.int .i64 0), (.int .i64 0), (.bool false), (.int .i64 0), (.slice none 0 0), (.slice none 0 0), (.bool false), (.int .i64 0), (.slice none 0 0), (.slice none 0 0), (.int .i64 0), (.slice none 0 0)]) (r := []) (m' := [(.int .i64 x2.1.Lsn), (.int .i64 x2.1.Tx), (.int .i64 x2.1.Prev), (.int .i64 x2.1.Kind), (.int .i64 x2.1.Oid), (.bool x2.1.Before.Has), (.int .i64 x2.1.Before.O.Kind), v3, v4, (.bool x2.1.After.Has), (.int .i64 x2.1.After.O.Kind), v5, v6, (.int .i64 x2.1.Next), v7]) (cs' := [(.int .i64 x2.1.Lsn), (.int .i64 x2.1.Tx), (.int .i64 x2.1.Prev), (.int .i64 x2.1.Kind), (.int .i64 x2.1.Oid), (.bool x2.1.Before.Has), (.int .i64 x2.1.Before.O.Kind), v3, v4, (.bool x2.1.After.Has), (.int .i64 x2.1.After.O.Kind), v5, v6, (.int .i64 x2.1.Next), v7]) hS rfl rfl rfl ti_41 rfl rfl rfl rfl rfl (one_cons rfl (one_cons rfl (one_cons rfl (one_cons rfl (one_cons rfl (one_cons rfl (one_cons rfl (one_cons (hS.one_ow (i := 2) rfl) (one_cons (hS.one_ow (i := 3) rfl) (one_cons rfl (one_cons rfl (one_cons (hS.one_ow (i := 4) rfl) (one_cons (hS.one_ow (i := 5) rfl) (one_cons rfl (one_cons (hS.one_ow (i := 6) rfl) one_nil))))))))))))))) rfl) (fun v w a hR hF => ?_)
    have hS : St e s4 w [pt g1 41 ([(.int .i64 x2.1.Lsn), (.int .i64 x2.1.Tx), (.int .i64 x2.1.Prev), (.int .i64 x2.1.Kind), (.int .i64 x2.1.Oid), (.bool x2.1.Before.Has), (.int .i64 x2.1.Before.O.Kind), v3, v4, (.bool x2.1.After.Has), (.int .i64 x2.1.After.O.Kind), v5, v6, (.int .i64 x2.1.Next), v7]), Ow (Kd.int .u8) 5 v2 x11, Ow (Kd.int .i64) 3 v3 x2.1.Before.O.Ints, Ow (Kd.int .i64) 3 v4 x2.1.Before.O.Refs, Ow (Kd.int .i64) 3 v5 x2.1.After.O.Ints, Ow (Kd.int .i64) 3 v6 x2.1.After.O.Refs, Ow kTLive 91 v7 x2.1.Txs] := hR
    refine stp hF (p_assign rfl) (by decide) (fun a hF => ?_)
    refine nilN ?_
    refine xn ?_
    refine sq ?_
    refine rg ?_
    refine stp hF (p_move rfl) (by decide) (fun a hF => ?_)
    obtain ⟨x12, hx3, H⟩ := hb H
    refine ste hF (e_callA (fst := []) (vs := [v1]) (cap := []) rfl rfl go_38 (St.call (A := []) (B := [pt g1 41 ([(.int .i64 x2.1.Lsn), (.int .i64 x2.1.Tx), (.int .i64 x2.1.Prev), (.int .i64 x2.1.Kind), (.int .i64 x2.1.Oid), (.bool x2.1.Before.Has), (.int .i64 x2.1.Before.O.Kind), v3, v4, (.bool x2.1.After.Has), (.int .i64 x2.1.After.O.Kind), v5, v6, (.int .i64 x2.1.Next), v7]), Ow (Kd.int .u8) 5 v2 x11, Ow (Kd.int .i64) 3 v3 x2.1.Before.O.Ints, Ow (Kd.int .i64) 3 v4 x2.1.Before.O.Refs, Ow (Kd.int .i64) 3 v5 x2.1.After.O.Ints, Ow (Kd.int .i64) 3 v6 x2.1.After.O.Refs, Ow kTLive 91 v7 x2.1.Txs]) hS (laws_toByteS.spec k _ _ x3 v1 ((h1.mono hg1).mono hg3) _ hx3)) rfl) (by decide) (fun v w a hR hF => ?_)
    obtain ⟨s6, A4, hg4, hS, hR⟩ := hR
    obtain ⟨v8, hv3, rfl⟩ := hR; obtain rfl := hv3.symm
    have hS : St e s6 w [Ow (Kd.int .u8) 5 v8 x12, pt g1 41 ([(.int .i64 x2.1.Lsn), (.int .i64 x2.1.Tx), (.int .i64 x2.1.Prev), (.int .i64 x2.1.Kind), (.int .i64 x2.1.Oid), (.bool x2.1.Before.Has), (.int .i64 x2.1.Before.O.Kind), v3, v4, (.bool x2.1.After.Has), (.int .i64 x2.1.After.O.Kind), v5, v6, (.int .i64 x2.1.Next), v7]), Ow (Kd.int .u8) 5 v2 x11, Ow (Kd.int .i64) 3 v3 x2.1.Before.O.Ints, Ow (Kd.int .i64) 3 v4 x2.1.Before.O.Refs, Ow (Kd.int .i64) 3 v5 x2.1.After.O.Ints, Ow (Kd.int .i64) 3 v6 x2.1.After.O.Refs, Ow kTLive 91 v7 x2.1.Txs] := hS
    refine stp hF (p_assign rfl) (by decide) (fun a hF => ?_)
    refine nilN ?_
    refine xn ?_
    refine sq ?_
    refine rg ?_
    refine stp hF (p_move rfl) (by decide) (fun a hF => ?_)
    obtain ⟨s7, hg5, hl2, hcall2⟩ := St.lend (P := Try.prog) (Bs := [Ow (Kd.int .u8) 5 v8 x12]) (A := []) (B := [pt g1 41 ([(.int .i64 x2.1.Lsn), (.int .i64 x2.1.Tx), (.int .i64 x2.1.Prev), (.int .i64 x2.1.Kind), (.int .i64 x2.1.Oid), (.bool x2.1.Before.Has), (.int .i64 x2.1.Before.O.Kind), v3, v4, (.bool x2.1.After.Has), (.int .i64 x2.1.After.O.Kind), v5, v6, (.int .i64 x2.1.Next), v7]), Ow (Kd.int .u8) 5 v2 x11, Ow (Kd.int .i64) 3 v3 x2.1.Before.O.Ints, Ow (Kd.int .i64) 3 v4 x2.1.Before.O.Refs, Ow (Kd.int .i64) 3 v5 x2.1.After.O.Ints, Ow (Kd.int .i64) 3 v6 x2.1.After.O.Refs, Ow kTLive 91 v7 x2.1.Txs]) hS
    obtain ⟨h3, hl2⟩ := hl2.ow hg5
    obtain ⟨x1, hx4, H⟩ := hb H
    refine ste hF (e_callA (fst := []) (vs := [v8]) (cap := []) rfl rfl go_25 (hcall2 (impl_GetRec.spec k _ _ x12 v8 h3 _ hx4) (by rintro v s1 A1 ⟨_, _, _, _, _, rfl, rfl⟩; exact ⟨Ow_flat flat_int _ _ _, ⟨Ow_flat flat_int _ _ _, ⟨Ow_flat flat_int _ _ _, ⟨Ow_flat flat_int _ _ _, ⟨Ow_flat kTLive_flat _ _ _, trivial⟩⟩⟩⟩⟩)) rfl) (by decide) (fun v w a hR hF => ?_)
    obtain ⟨s8, s9, A5, hg6, hS, hR⟩ := hR
    obtain ⟨v9, v10, v11, v12, v13, hv4, rfl⟩ := hR; obtain rfl := hv4.symm
    have hS : St e s8 w [Ow (Kd.int .u8) 5 v8 x12, Ow (Kd.int .i64) 3 v9 x1.1.Before.O.Ints, Ow (Kd.int .i64) 3 v10 x1.1.Before.O.Refs, Ow (Kd.int .i64) 3 v11 x1.1.After.O.Ints, Ow (Kd.int .i64) 3 v12 x1.1.After.O.Refs, Ow kTLive 91 v13 x1.1.Txs, pt g1 41 ([(.int .i64 x2.1.Lsn), (.int .i64 x2.1.Tx), (.int .i64 x2.1.Prev), (.int .i64 x2.1.Kind), (.int .i64 x2.1.Oid), (.bool x2.1.Before.Has), (.int .i64 x2.1.Before.O.Kind), v3, v4, (.bool x2.1.After.Has), (.int .i64 x2.1.After.O.Kind), v5, v6, (.int .i64 x2.1.Next), v7]), Ow (Kd.int .u8) 5 v2 x11, Ow (Kd.int .i64) 3 v3 x2.1.Before.O.Ints, Ow (Kd.int .i64) 3 v4 x2.1.Before.O.Refs, Ow (Kd.int .i64) 3 v5 x2.1.After.O.Ints, Ow (Kd.int .i64) 3 v6 x2.1.After.O.Refs, Ow kTLive 91 v7 x2.1.Txs] := hS
    refine stp hF (p_move rfl) (by decide) (fun a hF => ?_)
    refine stp hF (p_extract rfl rfl) (by decide) (fun a hF => ?_)
    refine stp hF (p_extract rfl rfl) (by decide) (fun a hF => ?_)
    refine ste hF (e_alloc (cs := [(.int .i64 0), (.int .i64 0), (.int .i64 0), (.int .i64 0), (.int .i64 0), (.bool false), (.int .i64 0), (.slice none 0 0), (.slice none 0 0), (.bool false), (.int .i64 0), (.slice none 0 0), (.slice none 0 0), (.int .i64 0), (.slice none 0 0)]) hS ti_41 rfl) (by decide) (fun v w a hR hF => ?_)
    obtain ⟨g2, rfl, hS⟩ := hR
    refine ste0 hF (e_stb (i := 0) (l := []) (m := [(.int .i64 0), (.int .i64 0), (.int .i64 0), (.int .i64 0), (.int .i64 0), (.bool false), (.int .i64 0), (.slice none 0 0), (.slice none 0 0), (.bool false), (.int .i64 0), (.slice none 0 0), (.slice none 0 0), (.int .i64 0), (.slice none 0 0)]) (r := []) (m' := [(.int .i64 x1.1.Lsn), (.int .i64 x1.1.Tx), (.int .i64 x1.1.Prev), (.int .i64 x1.1.Kind), (.int .i64 x1.1.Oid), (.bool x1.1.Before.Has), (.int .i64 x1.1.Before.O.Kind), v9, v10, (.bool x1.1.After.Has), (.int .i64 x1.1.After.O.Kind), v11, v12, (.int .i64 x1.1.Next), v13]) (cs' := [(.int .i64 x1.1.Lsn), (.int .i64 x1.1.Tx), (.int .i64 x1.1.Prev), (.int .i64 x1.1.Kind), (.int .i64 x1.1.Oid), (.bool x1.1.Before.Has), (.int .i64 x1.1.Before.O.Kind), v9, v10, (.bool x1.1.After.Has), (.int .i64 x1.1.After.O.Kind), v11, v12, (.int .i64 x1.1.Next), v13]) hS rfl rfl rfl ti_41 rfl rfl rfl rfl rfl (one_cons rfl (one_cons rfl (one_cons rfl (one_cons rfl (one_cons rfl (one_cons rfl (one_cons rfl (one_cons (hS.one_ow (i := 2) rfl) (one_cons (hS.one_ow (i := 3) rfl) (one_cons rfl (one_cons rfl (one_cons (hS.one_ow (i := 4) rfl) (one_cons (hS.one_ow (i := 5) rfl) (one_cons rfl (one_cons (hS.one_ow (i := 6) rfl) one_nil))))))))))))))) rfl) (fun v w a hR hF => ?_)
    have hS : St e s8 w [pt g2 41 ([(.int .i64 x1.1.Lsn), (.int .i64 x1.1.Tx), (.int .i64 x1.1.Prev), (.int .i64 x1.1.Kind), (.int .i64 x1.1.Oid), (.bool x1.1.Before.Has), (.int .i64 x1.1.Before.O.Kind), v9, v10, (.bool x1.1.After.Has), (.int .i64 x1.1.After.O.Kind), v11, v12, (.int .i64 x1.1.Next), v13]), Ow (Kd.int .u8) 5 v8 x12, Ow (Kd.int .i64) 3 v9 x1.1.Before.O.Ints, Ow (Kd.int .i64) 3 v10 x1.1.Before.O.Refs, Ow (Kd.int .i64) 3 v11 x1.1.After.O.Ints, Ow (Kd.int .i64) 3 v12 x1.1.After.O.Refs, Ow kTLive 91 v13 x1.1.Txs, pt g1 41 ([(.int .i64 x2.1.Lsn), (.int .i64 x2.1.Tx), (.int .i64 x2.1.Prev), (.int .i64 x2.1.Kind), (.int .i64 x2.1.Oid), (.bool x2.1.Before.Has), (.int .i64 x2.1.Before.O.Kind), v3, v4, (.bool x2.1.After.Has), (.int .i64 x2.1.After.O.Kind), v5, v6, (.int .i64 x2.1.Next), v7]), Ow (Kd.int .u8) 5 v2 x11, Ow (Kd.int .i64) 3 v3 x2.1.Before.O.Ints, Ow (Kd.int .i64) 3 v4 x2.1.Before.O.Refs, Ow (Kd.int .i64) 3 v5 x2.1.After.O.Ints, Ow (Kd.int .i64) 3 v6 x2.1.After.O.Refs, Ow kTLive 91 v7 x2.1.Txs] := hR
    refine stp hF (p_assign rfl) (by decide) (fun a hF => ?_)
    refine nilN ?_
    refine xn ?_
    refine sq ?_
    refine sq ?_
    refine rg ?_
    refine stp hF (p_ldb_agg (i := 0) (l := []) (m := [(.int .i64 x1.1.Lsn), (.int .i64 x1.1.Tx), (.int .i64 x1.1.Prev), (.int .i64 x1.1.Kind), (.int .i64 x1.1.Oid), (.bool x1.1.Before.Has), (.int .i64 x1.1.Before.O.Kind), v9, v10, (.bool x1.1.After.Has), (.int .i64 x1.1.After.O.Kind), v11, v12, (.int .i64 x1.1.Next), v13]) (r := []) hS rfl rfl ia_41 ti_41 rfl rfl rfl) (by decide) (fun a hF => ?_)
    refine stp hF (p_ldb_agg (i := 7) (l := []) (m := [(.int .i64 x2.1.Lsn), (.int .i64 x2.1.Tx), (.int .i64 x2.1.Prev), (.int .i64 x2.1.Kind), (.int .i64 x2.1.Oid), (.bool x2.1.Before.Has), (.int .i64 x2.1.Before.O.Kind), v3, v4, (.bool x2.1.After.Has), (.int .i64 x2.1.After.O.Kind), v5, v6, (.int .i64 x2.1.Next), v7]) (r := []) hS rfl rfl ia_41 ti_41 rfl rfl rfl) (by decide) (fun a hF => ?_)
    replace hS := hS.sel (is := [2, 2, 2, 2, 2, 4, 4, 4, 4, 4, 0, 0, 0, 0]) (A' := [Ow (Kd.int .i64) 3 v9 x1.1.Before.O.Ints, Ow (Kd.int .i64) 3 v10 x1.1.Before.O.Refs, Ow (Kd.int .i64) 3 v11 x1.1.After.O.Ints, Ow (Kd.int .i64) 3 v12 x1.1.After.O.Refs, Ow kTLive 91 v13 x1.1.Txs, Ow (Kd.int .i64) 3 v3 x2.1.Before.O.Ints, Ow (Kd.int .i64) 3 v4 x2.1.Before.O.Refs, Ow (Kd.int .i64) 3 v5 x2.1.After.O.Ints, Ow (Kd.int .i64) 3 v6 x2.1.After.O.Refs, Ow kTLive 91 v7 x2.1.Txs, pt g2 41 ([(.int .i64 x1.1.Lsn), (.int .i64 x1.1.Tx), (.int .i64 x1.1.Prev), (.int .i64 x1.1.Kind), (.int .i64 x1.1.Oid), (.bool x1.1.Before.Has), (.int .i64 x1.1.Before.O.Kind), v9, v10, (.bool x1.1.After.Has), (.int .i64 x1.1.After.O.Kind), v11, v12, (.int .i64 x1.1.Next), v13]), Ow (Kd.int .u8) 5 v8 x12, pt g1 41 ([(.int .i64 x2.1.Lsn), (.int .i64 x2.1.Tx), (.int .i64 x2.1.Prev), (.int .i64 x2.1.Kind), (.int .i64 x2.1.Oid), (.bool x2.1.Before.Has), (.int .i64 x2.1.Before.O.Kind), v3, v4, (.bool x2.1.After.Has), (.int .i64 x2.1.After.O.Kind), v5, v6, (.int .i64 x2.1.Next), v7]), Ow (Kd.int .u8) 5 v2 x11]) rfl
    obtain ⟨s10, hg7, hl3, hcall3⟩ := St.lend (P := Try.prog) (Bs := [Ow (Kd.int .i64) 3 v9 x1.1.Before.O.Ints, Ow (Kd.int .i64) 3 v10 x1.1.Before.O.Refs, Ow (Kd.int .i64) 3 v11 x1.1.After.O.Ints, Ow (Kd.int .i64) 3 v12 x1.1.After.O.Refs, Ow kTLive 91 v13 x1.1.Txs, Ow (Kd.int .i64) 3 v3 x2.1.Before.O.Ints, Ow (Kd.int .i64) 3 v4 x2.1.Before.O.Refs, Ow (Kd.int .i64) 3 v5 x2.1.After.O.Ints, Ow (Kd.int .i64) 3 v6 x2.1.After.O.Refs, Ow kTLive 91 v7 x2.1.Txs]) (A := []) (B := [pt g2 41 ([(.int .i64 x1.1.Lsn), (.int .i64 x1.1.Tx), (.int .i64 x1.1.Prev), (.int .i64 x1.1.Kind), (.int .i64 x1.1.Oid), (.bool x1.1.Before.Has), (.int .i64 x1.1.Before.O.Kind), v9, v10, (.bool x1.1.After.Has), (.int .i64 x1.1.After.O.Kind), v11, v12, (.int .i64 x1.1.Next), v13]), Ow (Kd.int .u8) 5 v8 x12, pt g1 41 ([(.int .i64 x2.1.Lsn), (.int .i64 x2.1.Tx), (.int .i64 x2.1.Prev), (.int .i64 x2.1.Kind), (.int .i64 x2.1.Oid), (.bool x2.1.Before.Has), (.int .i64 x2.1.Before.O.Kind), v3, v4, (.bool x2.1.After.Has), (.int .i64 x2.1.After.O.Kind), v5, v6, (.int .i64 x2.1.Next), v7]), Ow (Kd.int .u8) 5 v2 x11]) hS
    obtain ⟨h4, hl3⟩ := hl3.ow hg7
    obtain ⟨h5, hl3⟩ := hl3.ow hg7
    obtain ⟨h6, hl3⟩ := hl3.ow hg7
    obtain ⟨h7, hl3⟩ := hl3.ow hg7
    obtain ⟨h8, hl3⟩ := hl3.ow hg7
    obtain ⟨h9, hl3⟩ := hl3.ow hg7
    obtain ⟨h10, hl3⟩ := hl3.ow hg7
    obtain ⟨h11, hl3⟩ := hl3.ow hg7
    obtain ⟨h12, hl3⟩ := hl3.ow hg7
    obtain ⟨h13, hl3⟩ := hl3.ow hg7
    obtain ⟨x13, hx5, H⟩ := hb H
    refine ste hF (e_callA (fst := []) (vs := [(.agg #[(.int .i64 x1.1.Lsn), (.int .i64 x1.1.Tx), (.int .i64 x1.1.Prev), (.int .i64 x1.1.Kind), (.int .i64 x1.1.Oid), (.bool x1.1.Before.Has), (.int .i64 x1.1.Before.O.Kind), v9, v10, (.bool x1.1.After.Has), (.int .i64 x1.1.After.O.Kind), v11, v12, (.int .i64 x1.1.Next), v13]), (.agg #[(.int .i64 x2.1.Lsn), (.int .i64 x2.1.Tx), (.int .i64 x2.1.Prev), (.int .i64 x2.1.Kind), (.int .i64 x2.1.Oid), (.bool x2.1.Before.Has), (.int .i64 x2.1.Before.O.Kind), v3, v4, (.bool x2.1.After.Has), (.int .i64 x2.1.After.O.Kind), v5, v6, (.int .i64 x2.1.Next), v7])]) (cap := []) rfl rfl go_43 (hcall3 (laws_eqRec.spec k _ _ x1.1 x2.1 v9 v10 v11 v12 v13 v3 v4 v5 v6 v7 h4 h5 h6 h7 h8 h9 h10 h11 h12 h13 _ hx5) (by rintro v s1 A1 ⟨rfl, rfl⟩; exact trivial)) rfl) (by decide) (fun v w a hR hF => ?_)
    obtain ⟨s11, s12, A6, hg8, hS, hR⟩ := hR
    obtain ⟨hv5, rfl⟩ := hR; obtain rfl := hv5.symm
    have hS : St e s11 w [Ow (Kd.int .i64) 3 v9 x1.1.Before.O.Ints, Ow (Kd.int .i64) 3 v10 x1.1.Before.O.Refs, Ow (Kd.int .i64) 3 v11 x1.1.After.O.Ints, Ow (Kd.int .i64) 3 v12 x1.1.After.O.Refs, Ow kTLive 91 v13 x1.1.Txs, Ow (Kd.int .i64) 3 v3 x2.1.Before.O.Ints, Ow (Kd.int .i64) 3 v4 x2.1.Before.O.Refs, Ow (Kd.int .i64) 3 v5 x2.1.After.O.Ints, Ow (Kd.int .i64) 3 v6 x2.1.After.O.Refs, Ow kTLive 91 v7 x2.1.Txs, pt g2 41 ([(.int .i64 x1.1.Lsn), (.int .i64 x1.1.Tx), (.int .i64 x1.1.Prev), (.int .i64 x1.1.Kind), (.int .i64 x1.1.Oid), (.bool x1.1.Before.Has), (.int .i64 x1.1.Before.O.Kind), v9, v10, (.bool x1.1.After.Has), (.int .i64 x1.1.After.O.Kind), v11, v12, (.int .i64 x1.1.Next), v13]), Ow (Kd.int .u8) 5 v8 x12, pt g1 41 ([(.int .i64 x2.1.Lsn), (.int .i64 x2.1.Tx), (.int .i64 x2.1.Prev), (.int .i64 x2.1.Kind), (.int .i64 x2.1.Oid), (.bool x2.1.Before.Has), (.int .i64 x2.1.Before.O.Kind), v3, v4, (.bool x2.1.After.Has), (.int .i64 x2.1.After.O.Kind), v5, v6, (.int .i64 x2.1.Next), v7]), Ow (Kd.int .u8) 5 v2 x11] := hS
    refine stp hF (p_not rfl) (by decide) (fun a hF => ?_)
    refine stp hF (p_move rfl) (by decide) (fun a hF => ?_)
    refine cutj 4 (fun a w => St e s11 w [Ow (Kd.int .i64) 3 v9 x1.1.Before.O.Ints, Ow (Kd.int .i64) 3 v10 x1.1.Before.O.Refs, Ow (Kd.int .i64) 3 v11 x1.1.After.O.Ints, Ow (Kd.int .i64) 3 v12 x1.1.After.O.Refs, Ow kTLive 91 v13 x1.1.Txs, Ow (Kd.int .i64) 3 v3 x2.1.Before.O.Ints, Ow (Kd.int .i64) 3 v4 x2.1.Before.O.Refs, Ow (Kd.int .i64) 3 v5 x2.1.After.O.Ints, Ow (Kd.int .i64) 3 v6 x2.1.After.O.Refs, Ow kTLive 91 v7 x2.1.Txs, pt g2 41 ([(.int .i64 x1.1.Lsn), (.int .i64 x1.1.Tx), (.int .i64 x1.1.Prev), (.int .i64 x1.1.Kind), (.int .i64 x1.1.Oid), (.bool x1.1.Before.Has), (.int .i64 x1.1.Before.O.Kind), v9, v10, (.bool x1.1.After.Has), (.int .i64 x1.1.After.O.Kind), v11, v12, (.int .i64 x1.1.Next), v13]), Ow (Kd.int .u8) 5 v8 x12, pt g1 41 ([(.int .i64 x2.1.Lsn), (.int .i64 x2.1.Tx), (.int .i64 x2.1.Prev), (.int .i64 x2.1.Kind), (.int .i64 x2.1.Oid), (.bool x2.1.Before.Has), (.int .i64 x2.1.Before.O.Kind), v3, v4, (.bool x2.1.After.Has), (.int .i64 x2.1.After.O.Kind), v5, v6, (.int .i64 x2.1.Next), v7]), Ow (Kd.int .u8) 5 v2 x11] ∧ Fr 93 a [(0, v1), (3, (.pointer (some ⟨g1, 0, none⟩))), (4, (.bool x2.2)), (5, v8), (6, (.pointer (some ⟨g2, 0, none⟩))), (7, (.bool x1.2)), (37, (.bool ((!x13) || (x1.2 != x2.2))))]) rfl rfl ?_ ?_
    · rcases Bool.eq_false_or_eq_true ((!x13)) with hc2 | hc2
      · skip
        refine gofD (j := 4) hF rfl rfl (by rw [hc2]; decide) (by decide) (fun a hF => ?_)
        refine gofD (j := 4) hF rfl rfl (by rw [hc2]; decide) (by decide) (fun a hF => ?_)
        refine gofD (j := 4) hF rfl rfl (by rw [hc2]; decide) (by decide) (fun a hF => ?_)
        refine stp hF (p_orT (x1.2 != x2.2) rfl hc2 rfl) (by decide) (fun a hF => ?_)
        refine nilN ?_
        refine xn ?_
        exact ⟨hS, hF.cut ⟨rfl, rfl, rfl, rfl, rfl, rfl, rfl, trivial⟩⟩
      · skip
        refine gonE (j := 4) hF rfl rfl hc2 ?_
        refine stp hF (p_move rfl) (by decide) (fun a hF => ?_)
        refine gonE (j := 4) hF rfl rfl hc2 ?_
        refine stp hF (p_move rfl) (by decide) (fun a hF => ?_)
        refine gonE (j := 4) hF rfl rfl hc2 ?_
        refine stp hF (p_neb un_4 rfl rfl) (by decide) (fun a hF => ?_)
        refine stp hF (p_orF rfl hc2 rfl) (by decide) (fun a hF => ?_)
        refine nilN ?_
        refine xn ?_
        exact ⟨hS, hF.cut ⟨rfl, rfl, rfl, rfl, rfl, rfl, rfl, trivial⟩⟩
    clear hS hF
    rintro a w ⟨hS, hF⟩
    refine nilN ?_
    refine xn ?_
    refine cnd hF rfl (fun hc3 => ?_) (fun hc3 => ?_)
    · replace H := hbt hc3 H
      refine sq ?_
      refine rg ?_
      refine stp hF (p_assign rfl) (by decide) (fun a hF => ?_)
      refine nilN ?_
      refine xn ?_
      refine rt ?_
      refine xr ?_
      obtain rfl := hsm H
      replace hS := hS.sel (is := []) (A' := []) rfl
      exact ret1 hF rfl rfl hS ⟨rfl, rfl⟩
    · replace H := hbf hc3 H
      refine skN ?_
      refine xn ?_
      refine sq ?_
      refine sq ?_
      refine rg ?_
      refine stp hF (p_move rfl) (by decide) (fun a hF => ?_)
      refine stp hF (p_move rfl) (by decide) (fun a hF => ?_)
      obtain ⟨x14, hx6, H⟩ := hb H
      refine ste hF (e_callA (fst := []) (vs := [v1]) (cap := []) rfl rfl go_38 (St.call (A := []) (B := [Ow (Kd.int .i64) 3 v9 x1.1.Before.O.Ints, Ow (Kd.int .i64) 3 v10 x1.1.Before.O.Refs, Ow (Kd.int .i64) 3 v11 x1.1.After.O.Ints, Ow (Kd.int .i64) 3 v12 x1.1.After.O.Refs, Ow kTLive 91 v13 x1.1.Txs, Ow (Kd.int .i64) 3 v3 x2.1.Before.O.Ints, Ow (Kd.int .i64) 3 v4 x2.1.Before.O.Refs, Ow (Kd.int .i64) 3 v5 x2.1.After.O.Ints, Ow (Kd.int .i64) 3 v6 x2.1.After.O.Refs, Ow kTLive 91 v7 x2.1.Txs, pt g2 41 ([(.int .i64 x1.1.Lsn), (.int .i64 x1.1.Tx), (.int .i64 x1.1.Prev), (.int .i64 x1.1.Kind), (.int .i64 x1.1.Oid), (.bool x1.1.Before.Has), (.int .i64 x1.1.Before.O.Kind), v9, v10, (.bool x1.1.After.Has), (.int .i64 x1.1.After.O.Kind), v11, v12, (.int .i64 x1.1.Next), v13]), Ow (Kd.int .u8) 5 v8 x12, pt g1 41 ([(.int .i64 x2.1.Lsn), (.int .i64 x2.1.Tx), (.int .i64 x2.1.Prev), (.int .i64 x2.1.Kind), (.int .i64 x2.1.Oid), (.bool x2.1.Before.Has), (.int .i64 x2.1.Before.O.Kind), v3, v4, (.bool x2.1.After.Has), (.int .i64 x2.1.After.O.Kind), v5, v6, (.int .i64 x2.1.Next), v7]), Ow (Kd.int .u8) 5 v2 x11]) hS (laws_toByteS.spec k _ _ x3 v1 (((((h1.mono hg1).mono hg3).mono hg4).mono hg6).mono hg8) _ hx6)) rfl) (by decide) (fun v w a hR hF => ?_)
      obtain ⟨s13, A7, hg9, hS, hR⟩ := hR
      obtain ⟨v14, hv6, rfl⟩ := hR; obtain rfl := hv6.symm
      have hS : St e s13 w [Ow (Kd.int .u8) 5 v14 x14, Ow (Kd.int .i64) 3 v9 x1.1.Before.O.Ints, Ow (Kd.int .i64) 3 v10 x1.1.Before.O.Refs, Ow (Kd.int .i64) 3 v11 x1.1.After.O.Ints, Ow (Kd.int .i64) 3 v12 x1.1.After.O.Refs, Ow kTLive 91 v13 x1.1.Txs, Ow (Kd.int .i64) 3 v3 x2.1.Before.O.Ints, Ow (Kd.int .i64) 3 v4 x2.1.Before.O.Refs, Ow (Kd.int .i64) 3 v5 x2.1.After.O.Ints, Ow (Kd.int .i64) 3 v6 x2.1.After.O.Refs, Ow kTLive 91 v7 x2.1.Txs, pt g2 41 ([(.int .i64 x1.1.Lsn), (.int .i64 x1.1.Tx), (.int .i64 x1.1.Prev), (.int .i64 x1.1.Kind), (.int .i64 x1.1.Oid), (.bool x1.1.Before.Has), (.int .i64 x1.1.Before.O.Kind), v9, v10, (.bool x1.1.After.Has), (.int .i64 x1.1.After.O.Kind), v11, v12, (.int .i64 x1.1.Next), v13]), Ow (Kd.int .u8) 5 v8 x12, pt g1 41 ([(.int .i64 x2.1.Lsn), (.int .i64 x2.1.Tx), (.int .i64 x2.1.Prev), (.int .i64 x2.1.Kind), (.int .i64 x2.1.Oid), (.bool x2.1.Before.Has), (.int .i64 x2.1.Before.O.Kind), v3, v4, (.bool x2.1.After.Has), (.int .i64 x2.1.After.O.Kind), v5, v6, (.int .i64 x2.1.Next), v7]), Ow (Kd.int .u8) 5 v2 x11] := hS
      replace hS := hS.sel (is := [12, 0, 0, 0, 0, 0, 0, 0, 0, 0, 0, 0, 0, 0, 0]) (A' := [Ow (Kd.int .u8) 5 v8 x12, Ow (Kd.int .u8) 5 v14 x14, Ow (Kd.int .i64) 3 v9 x1.1.Before.O.Ints, Ow (Kd.int .i64) 3 v10 x1.1.Before.O.Refs, Ow (Kd.int .i64) 3 v11 x1.1.After.O.Ints, Ow (Kd.int .i64) 3 v12 x1.1.After.O.Refs, Ow kTLive 91 v13 x1.1.Txs, Ow (Kd.int .i64) 3 v3 x2.1.Before.O.Ints, Ow (Kd.int .i64) 3 v4 x2.1.Before.O.Refs, Ow (Kd.int .i64) 3 v5 x2.1.After.O.Ints, Ow (Kd.int .i64) 3 v6 x2.1.After.O.Refs, Ow kTLive 91 v7 x2.1.Txs, pt g2 41 ([(.int .i64 x1.1.Lsn), (.int .i64 x1.1.Tx), (.int .i64 x1.1.Prev), (.int .i64 x1.1.Kind), (.int .i64 x1.1.Oid), (.bool x1.1.Before.Has), (.int .i64 x1.1.Before.O.Kind), v9, v10, (.bool x1.1.After.Has), (.int .i64 x1.1.After.O.Kind), v11, v12, (.int .i64 x1.1.Next), v13]), pt g1 41 ([(.int .i64 x2.1.Lsn), (.int .i64 x2.1.Tx), (.int .i64 x2.1.Prev), (.int .i64 x2.1.Kind), (.int .i64 x2.1.Oid), (.bool x2.1.Before.Has), (.int .i64 x2.1.Before.O.Kind), v3, v4, (.bool x2.1.After.Has), (.int .i64 x2.1.After.O.Kind), v5, v6, (.int .i64 x2.1.Next), v7]), Ow (Kd.int .u8) 5 v2 x11]) rfl
      obtain ⟨s14, hg10, hl4, hcall4⟩ := St.lend (P := Try.prog) (Bs := [Ow (Kd.int .u8) 5 v8 x12, Ow (Kd.int .u8) 5 v14 x14]) (A := []) (B := [Ow (Kd.int .i64) 3 v9 x1.1.Before.O.Ints, Ow (Kd.int .i64) 3 v10 x1.1.Before.O.Refs, Ow (Kd.int .i64) 3 v11 x1.1.After.O.Ints, Ow (Kd.int .i64) 3 v12 x1.1.After.O.Refs, Ow kTLive 91 v13 x1.1.Txs, Ow (Kd.int .i64) 3 v3 x2.1.Before.O.Ints, Ow (Kd.int .i64) 3 v4 x2.1.Before.O.Refs, Ow (Kd.int .i64) 3 v5 x2.1.After.O.Ints, Ow (Kd.int .i64) 3 v6 x2.1.After.O.Refs, Ow kTLive 91 v7 x2.1.Txs, pt g2 41 ([(.int .i64 x1.1.Lsn), (.int .i64 x1.1.Tx), (.int .i64 x1.1.Prev), (.int .i64 x1.1.Kind), (.int .i64 x1.1.Oid), (.bool x1.1.Before.Has), (.int .i64 x1.1.Before.O.Kind), v9, v10, (.bool x1.1.After.Has), (.int .i64 x1.1.After.O.Kind), v11, v12, (.int .i64 x1.1.Next), v13]), pt g1 41 ([(.int .i64 x2.1.Lsn), (.int .i64 x2.1.Tx), (.int .i64 x2.1.Prev), (.int .i64 x2.1.Kind), (.int .i64 x2.1.Oid), (.bool x2.1.Before.Has), (.int .i64 x2.1.Before.O.Kind), v3, v4, (.bool x2.1.After.Has), (.int .i64 x2.1.After.O.Kind), v5, v6, (.int .i64 x2.1.Next), v7]), Ow (Kd.int .u8) 5 v2 x11]) hS
      obtain ⟨h14, hl4⟩ := hl4.ow hg10
      obtain ⟨h15, hl4⟩ := hl4.ow hg10
      obtain ⟨x15, hx7, H⟩ := hb H
      refine ste hF (e_callA (fst := []) (vs := [v8, v14]) (cap := []) rfl rfl go_15 (hcall4 (laws_eqByteS.spec k _ _ x12 x14 v8 v14 h14 h15 _ hx7) (by rintro v s1 A1 ⟨rfl, rfl⟩; exact trivial)) rfl) (by decide) (fun v w a hR hF => ?_)
      obtain ⟨s15, s16, A8, hg11, hS, hR⟩ := hR
      obtain ⟨hv7, rfl⟩ := hR; obtain rfl := hv7.symm
      have hS : St e s15 w [Ow (Kd.int .u8) 5 v8 x12, Ow (Kd.int .u8) 5 v14 x14, Ow (Kd.int .i64) 3 v9 x1.1.Before.O.Ints, Ow (Kd.int .i64) 3 v10 x1.1.Before.O.Refs, Ow (Kd.int .i64) 3 v11 x1.1.After.O.Ints, Ow (Kd.int .i64) 3 v12 x1.1.After.O.Refs, Ow kTLive 91 v13 x1.1.Txs, Ow (Kd.int .i64) 3 v3 x2.1.Before.O.Ints, Ow (Kd.int .i64) 3 v4 x2.1.Before.O.Refs, Ow (Kd.int .i64) 3 v5 x2.1.After.O.Ints, Ow (Kd.int .i64) 3 v6 x2.1.After.O.Refs, Ow kTLive 91 v7 x2.1.Txs, pt g2 41 ([(.int .i64 x1.1.Lsn), (.int .i64 x1.1.Tx), (.int .i64 x1.1.Prev), (.int .i64 x1.1.Kind), (.int .i64 x1.1.Oid), (.bool x1.1.Before.Has), (.int .i64 x1.1.Before.O.Kind), v9, v10, (.bool x1.1.After.Has), (.int .i64 x1.1.After.O.Kind), v11, v12, (.int .i64 x1.1.Next), v13]), pt g1 41 ([(.int .i64 x2.1.Lsn), (.int .i64 x2.1.Tx), (.int .i64 x2.1.Prev), (.int .i64 x2.1.Kind), (.int .i64 x2.1.Oid), (.bool x2.1.Before.Has), (.int .i64 x2.1.Before.O.Kind), v3, v4, (.bool x2.1.After.Has), (.int .i64 x2.1.After.O.Kind), v5, v6, (.int .i64 x2.1.Next), v7]), Ow (Kd.int .u8) 5 v2 x11] := hS
      refine stp hF (p_not rfl) (by decide) (fun a hF => ?_)
      refine nilN ?_
      refine xn ?_
      refine cnd hF rfl (fun hc4 => ?_) (fun hc4 => ?_)
      · replace H := hbt hc4 H
        refine sq ?_
        refine rg ?_
        refine stp hF (p_assign rfl) (by decide) (fun a hF => ?_)
        refine nilN ?_
        refine xn ?_
        refine rt ?_
        refine xr ?_
        obtain rfl := hsm H
        replace hS := hS.sel (is := []) (A' := []) rfl
        exact ret1 hF rfl rfl hS ⟨rfl, rfl⟩
      · replace H := hbf hc4 H
        refine skN ?_
        refine xn ?_
        refine sq ?_
        refine rg ?_
        refine stp hF (p_assign rfl) (by decide) (fun a hF => ?_)
        refine nilN ?_
        refine xn ?_
        refine sq ?_
        refine rg ?_
        refine stp hF (p_move rfl) (by decide) (fun a hF => ?_)
        refine stp hF (p_move rfl) (by decide) (fun a hF => ?_)
        obtain ⟨x16, hx8, H⟩ := hb H
        refine ste hF (e_callA (fst := []) (vs := [v8, (.int .i64 1)]) (cap := []) rfl rfl go_18 (St.call (A := [Ow (Kd.int .u8) 5 v8 x12]) (B := [Ow (Kd.int .u8) 5 v14 x14, Ow (Kd.int .i64) 3 v9 x1.1.Before.O.Ints, Ow (Kd.int .i64) 3 v10 x1.1.Before.O.Refs, Ow (Kd.int .i64) 3 v11 x1.1.After.O.Ints, Ow (Kd.int .i64) 3 v12 x1.1.After.O.Refs, Ow kTLive 91 v13 x1.1.Txs, Ow (Kd.int .i64) 3 v3 x2.1.Before.O.Ints, Ow (Kd.int .i64) 3 v4 x2.1.Before.O.Refs, Ow (Kd.int .i64) 3 v5 x2.1.After.O.Ints, Ow (Kd.int .i64) 3 v6 x2.1.After.O.Refs, Ow kTLive 91 v7 x2.1.Txs, pt g2 41 ([(.int .i64 x1.1.Lsn), (.int .i64 x1.1.Tx), (.int .i64 x1.1.Prev), (.int .i64 x1.1.Kind), (.int .i64 x1.1.Oid), (.bool x1.1.Before.Has), (.int .i64 x1.1.Before.O.Kind), v9, v10, (.bool x1.1.After.Has), (.int .i64 x1.1.After.O.Kind), v11, v12, (.int .i64 x1.1.Next), v13]), pt g1 41 ([(.int .i64 x2.1.Lsn), (.int .i64 x2.1.Tx), (.int .i64 x2.1.Prev), (.int .i64 x2.1.Kind), (.int .i64 x2.1.Oid), (.bool x2.1.Before.Has), (.int .i64 x2.1.Before.O.Kind), v3, v4, (.bool x2.1.After.Has), (.int .i64 x2.1.After.O.Kind), v5, v6, (.int .i64 x2.1.Next), v7]), Ow (Kd.int .u8) 5 v2 x11]) hS (laws_markByteS.spec k _ _ x12 1 v8 _ hx8)) rfl) (by decide) (fun v w a hR hF => ?_)
        obtain ⟨s17, A9, hg12, hS, hR⟩ := hR
        obtain ⟨hv8, rfl⟩ := hR; obtain rfl := hv8.symm
        have hS : St e s17 w [Ow (Kd.int .u8) 5 v8 x16.2, Ow (Kd.int .u8) 5 v14 x14, Ow (Kd.int .i64) 3 v9 x1.1.Before.O.Ints, Ow (Kd.int .i64) 3 v10 x1.1.Before.O.Refs, Ow (Kd.int .i64) 3 v11 x1.1.After.O.Ints, Ow (Kd.int .i64) 3 v12 x1.1.After.O.Refs, Ow kTLive 91 v13 x1.1.Txs, Ow (Kd.int .i64) 3 v3 x2.1.Before.O.Ints, Ow (Kd.int .i64) 3 v4 x2.1.Before.O.Refs, Ow (Kd.int .i64) 3 v5 x2.1.After.O.Ints, Ow (Kd.int .i64) 3 v6 x2.1.After.O.Refs, Ow kTLive 91 v7 x2.1.Txs, pt g2 41 ([(.int .i64 x1.1.Lsn), (.int .i64 x1.1.Tx), (.int .i64 x1.1.Prev), (.int .i64 x1.1.Kind), (.int .i64 x1.1.Oid), (.bool x1.1.Before.Has), (.int .i64 x1.1.Before.O.Kind), v9, v10, (.bool x1.1.After.Has), (.int .i64 x1.1.After.O.Kind), v11, v12, (.int .i64 x1.1.Next), v13]), pt g1 41 ([(.int .i64 x2.1.Lsn), (.int .i64 x2.1.Tx), (.int .i64 x2.1.Prev), (.int .i64 x2.1.Kind), (.int .i64 x2.1.Oid), (.bool x2.1.Before.Has), (.int .i64 x2.1.Before.O.Kind), v3, v4, (.bool x2.1.After.Has), (.int .i64 x2.1.After.O.Kind), v5, v6, (.int .i64 x2.1.Next), v7]), Ow (Kd.int .u8) 5 v2 x11] := hS
        refine stp hF (p_assign rfl) (by decide) (fun a hF => ?_)
        refine nilN ?_
        refine xn ?_
        refine sq ?_
        refine sq ?_
        refine rg ?_
        refine stp hF (p_move rfl) (by decide) (fun a hF => ?_)
        refine stp hF (p_lss rfl rfl) (by decide) (fun a hF => ?_)
        refine stp hF (p_move rfl) (by decide) (fun a hF => ?_)
        obtain ⟨x18, H, HK1⟩ := hb H
        refine cutj 5 (fun a w => ∃ (x4 : Bool) (s18 : HF) , St e s18 w [Ow (Kd.int .u8) 5 v8 x16.2, Ow (Kd.int .u8) 5 v14 x14, Ow (Kd.int .i64) 3 v9 x1.1.Before.O.Ints, Ow (Kd.int .i64) 3 v10 x1.1.Before.O.Refs, Ow (Kd.int .i64) 3 v11 x1.1.After.O.Ints, Ow (Kd.int .i64) 3 v12 x1.1.After.O.Refs, Ow kTLive 91 v13 x1.1.Txs, Ow (Kd.int .i64) 3 v3 x2.1.Before.O.Ints, Ow (Kd.int .i64) 3 v4 x2.1.Before.O.Refs, Ow (Kd.int .i64) 3 v5 x2.1.After.O.Ints, Ow (Kd.int .i64) 3 v6 x2.1.After.O.Refs, Ow kTLive 91 v7 x2.1.Txs, pt g2 41 ([(.int .i64 x1.1.Lsn), (.int .i64 x1.1.Tx), (.int .i64 x1.1.Prev), (.int .i64 x1.1.Kind), (.int .i64 x1.1.Oid), (.bool x1.1.Before.Has), (.int .i64 x1.1.Before.O.Kind), v9, v10, (.bool x1.1.After.Has), (.int .i64 x1.1.After.O.Kind), v11, v12, (.int .i64 x1.1.Next), v13]), pt g1 41 ([(.int .i64 x2.1.Lsn), (.int .i64 x2.1.Tx), (.int .i64 x2.1.Prev), (.int .i64 x2.1.Kind), (.int .i64 x2.1.Oid), (.bool x2.1.Before.Has), (.int .i64 x2.1.Before.O.Kind), v3, v4, (.bool x2.1.After.Has), (.int .i64 x2.1.After.O.Kind), v5, v6, (.int .i64 x2.1.Next), v7]), Ow (Kd.int .u8) 5 v2 x11] ∧ Fr 93 a [(0, v1), (3, (.pointer (some ⟨g1, 0, none⟩))), (4, (.bool x2.2)), (6, (.pointer (some ⟨g2, 0, none⟩))), (7, (.bool x1.2)), (53, (.bool x4))] ∧ Sub s17 s18 ∧ laws_FnExactGetRec.c1 k x1 x2 x3 x4 = some r) rfl rfl ?_ ?_
        · rcases Bool.eq_false_or_eq_true (decide (x16.1 < 0)) with hc5 | hc5
          · replace H := hbt hc5 H
            refine gofD (j := 2) hF rfl rfl (by rw [hc5]; decide) (by decide) (fun a hF => ?_)
            refine gofD (j := 2) hF rfl rfl (by rw [hc5]; decide) (by decide) (fun a hF => ?_)
            refine gofD (j := 2) hF rfl rfl (by rw [hc5]; decide) (by decide) (fun a hF => ?_)
            refine gofD (j := 2) hF rfl rfl (by rw [hc5]; decide) (by decide) (fun a hF => ?_)
            refine stp hF (p_pickT rfl hc5 rfl) (by decide) (fun a hF => ?_)
            refine nilN ?_
            refine xn ?_
            obtain rfl := hsm H
            exact ⟨true, s17, hS, hF.cut ⟨rfl, rfl, rfl, rfl, rfl, rfl, trivial⟩, (Sub.refl _), HK1⟩
          · replace H := hbf hc5 H
            refine gonE (j := 2) hF rfl rfl hc5 ?_
            refine stp hF (p_ldb_agg (i := 12) (l := []) (m := [(.int .i64 x1.1.Lsn), (.int .i64 x1.1.Tx), (.int .i64 x1.1.Prev), (.int .i64 x1.1.Kind), (.int .i64 x1.1.Oid), (.bool x1.1.Before.Has), (.int .i64 x1.1.Before.O.Kind), v9, v10, (.bool x1.1.After.Has), (.int .i64 x1.1.After.O.Kind), v11, v12, (.int .i64 x1.1.Next), v13]) (r := []) hS rfl rfl ia_41 ti_41 rfl rfl rfl) (by decide) (fun a hF => ?_)
            refine gonE (j := 2) hF rfl rfl hc5 ?_
            refine stp hF (p_ldb_agg (i := 13) (l := []) (m := [(.int .i64 x2.1.Lsn), (.int .i64 x2.1.Tx), (.int .i64 x2.1.Prev), (.int .i64 x2.1.Kind), (.int .i64 x2.1.Oid), (.bool x2.1.Before.Has), (.int .i64 x2.1.Before.O.Kind), v3, v4, (.bool x2.1.After.Has), (.int .i64 x2.1.After.O.Kind), v5, v6, (.int .i64 x2.1.Next), v7]) (r := []) hS rfl rfl ia_41 ti_41 rfl rfl rfl) (by decide) (fun a hF => ?_)
            replace hS := hS.sel (is := [2, 2, 2, 2, 2, 2, 2, 2, 2, 2, 0, 0, 0, 0, 0]) (A' := [Ow (Kd.int .i64) 3 v9 x1.1.Before.O.Ints, Ow (Kd.int .i64) 3 v10 x1.1.Before.O.Refs, Ow (Kd.int .i64) 3 v11 x1.1.After.O.Ints, Ow (Kd.int .i64) 3 v12 x1.1.After.O.Refs, Ow kTLive 91 v13 x1.1.Txs, Ow (Kd.int .i64) 3 v3 x2.1.Before.O.Ints, Ow (Kd.int .i64) 3 v4 x2.1.Before.O.Refs, Ow (Kd.int .i64) 3 v5 x2.1.After.O.Ints, Ow (Kd.int .i64) 3 v6 x2.1.After.O.Refs, Ow kTLive 91 v7 x2.1.Txs, Ow (Kd.int .u8) 5 v8 x16.2, Ow (Kd.int .u8) 5 v14 x14, pt g2 41 ([(.int .i64 x1.1.Lsn), (.int .i64 x1.1.Tx), (.int .i64 x1.1.Prev), (.int .i64 x1.1.Kind), (.int .i64 x1.1.Oid), (.bool x1.1.Before.Has), (.int .i64 x1.1.Before.O.Kind), v9, v10, (.bool x1.1.After.Has), (.int .i64 x1.1.After.O.Kind), v11, v12, (.int .i64 x1.1.Next), v13]), pt g1 41 ([(.int .i64 x2.1.Lsn), (.int .i64 x2.1.Tx), (.int .i64 x2.1.Prev), (.int .i64 x2.1.Kind), (.int .i64 x2.1.Oid), (.bool x2.1.Before.Has), (.int .i64 x2.1.Before.O.Kind), v3, v4, (.bool x2.1.After.Has), (.int .i64 x2.1.After.O.Kind), v5, v6, (.int .i64 x2.1.Next), v7]), Ow (Kd.int .u8) 5 v2 x11]) rfl
            obtain ⟨s19, hg13, hl5, hcall5⟩ := St.lend (P := Try.prog) (Bs := [Ow (Kd.int .i64) 3 v9 x1.1.Before.O.Ints, Ow (Kd.int .i64) 3 v10 x1.1.Before.O.Refs, Ow (Kd.int .i64) 3 v11 x1.1.After.O.Ints, Ow (Kd.int .i64) 3 v12 x1.1.After.O.Refs, Ow kTLive 91 v13 x1.1.Txs, Ow (Kd.int .i64) 3 v3 x2.1.Before.O.Ints, Ow (Kd.int .i64) 3 v4 x2.1.Before.O.Refs, Ow (Kd.int .i64) 3 v5 x2.1.After.O.Ints, Ow (Kd.int .i64) 3 v6 x2.1.After.O.Refs, Ow kTLive 91 v7 x2.1.Txs]) (A := []) (B := [Ow (Kd.int .u8) 5 v8 x16.2, Ow (Kd.int .u8) 5 v14 x14, pt g2 41 ([(.int .i64 x1.1.Lsn), (.int .i64 x1.1.Tx), (.int .i64 x1.1.Prev), (.int .i64 x1.1.Kind), (.int .i64 x1.1.Oid), (.bool x1.1.Before.Has), (.int .i64 x1.1.Before.O.Kind), v9, v10, (.bool x1.1.After.Has), (.int .i64 x1.1.After.O.Kind), v11, v12, (.int .i64 x1.1.Next), v13]), pt g1 41 ([(.int .i64 x2.1.Lsn), (.int .i64 x2.1.Tx), (.int .i64 x2.1.Prev), (.int .i64 x2.1.Kind), (.int .i64 x2.1.Oid), (.bool x2.1.Before.Has), (.int .i64 x2.1.Before.O.Kind), v3, v4, (.bool x2.1.After.Has), (.int .i64 x2.1.After.O.Kind), v5, v6, (.int .i64 x2.1.Next), v7]), Ow (Kd.int .u8) 5 v2 x11]) hS
            obtain ⟨h16, hl5⟩ := hl5.ow hg13
            obtain ⟨h17, hl5⟩ := hl5.ow hg13
            obtain ⟨h18, hl5⟩ := hl5.ow hg13
            obtain ⟨h19, hl5⟩ := hl5.ow hg13
            obtain ⟨h20, hl5⟩ := hl5.ow hg13
            obtain ⟨h21, hl5⟩ := hl5.ow hg13
            obtain ⟨h22, hl5⟩ := hl5.ow hg13
            obtain ⟨h23, hl5⟩ := hl5.ow hg13
            obtain ⟨h24, hl5⟩ := hl5.ow hg13
            obtain ⟨h25, hl5⟩ := hl5.ow hg13
            obtain ⟨x17, hx9, H⟩ := hb H
            refine gonE (j := 2) hF rfl rfl hc5 ?_
            refine ste hF (e_callA (fst := []) (vs := [(.agg #[(.int .i64 x1.1.Lsn), (.int .i64 x1.1.Tx), (.int .i64 x1.1.Prev), (.int .i64 x1.1.Kind), (.int .i64 x1.1.Oid), (.bool x1.1.Before.Has), (.int .i64 x1.1.Before.O.Kind), v9, v10, (.bool x1.1.After.Has), (.int .i64 x1.1.After.O.Kind), v11, v12, (.int .i64 x1.1.Next), v13]), (.agg #[(.int .i64 x2.1.Lsn), (.int .i64 x2.1.Tx), (.int .i64 x2.1.Prev), (.int .i64 x2.1.Kind), (.int .i64 x2.1.Oid), (.bool x2.1.Before.Has), (.int .i64 x2.1.Before.O.Kind), v3, v4, (.bool x2.1.After.Has), (.int .i64 x2.1.After.O.Kind), v5, v6, (.int .i64 x2.1.Next), v7])]) (cap := []) rfl rfl go_43 (hcall5 (laws_eqRec.spec k _ _ x1.1 x2.1 v9 v10 v11 v12 v13 v3 v4 v5 v6 v7 h16 h17 h18 h19 h20 h21 h22 h23 h24 h25 _ hx9) (by rintro v s1 A1 ⟨rfl, rfl⟩; exact trivial)) rfl) (by decide) (fun v w a hR hF => ?_)
            obtain ⟨s20, s21, A10, hg14, hS, hR⟩ := hR
            obtain ⟨hv9, rfl⟩ := hR; obtain rfl := hv9.symm
            have hS : St e s20 w [Ow (Kd.int .i64) 3 v9 x1.1.Before.O.Ints, Ow (Kd.int .i64) 3 v10 x1.1.Before.O.Refs, Ow (Kd.int .i64) 3 v11 x1.1.After.O.Ints, Ow (Kd.int .i64) 3 v12 x1.1.After.O.Refs, Ow kTLive 91 v13 x1.1.Txs, Ow (Kd.int .i64) 3 v3 x2.1.Before.O.Ints, Ow (Kd.int .i64) 3 v4 x2.1.Before.O.Refs, Ow (Kd.int .i64) 3 v5 x2.1.After.O.Ints, Ow (Kd.int .i64) 3 v6 x2.1.After.O.Refs, Ow kTLive 91 v7 x2.1.Txs, Ow (Kd.int .u8) 5 v8 x16.2, Ow (Kd.int .u8) 5 v14 x14, pt g2 41 ([(.int .i64 x1.1.Lsn), (.int .i64 x1.1.Tx), (.int .i64 x1.1.Prev), (.int .i64 x1.1.Kind), (.int .i64 x1.1.Oid), (.bool x1.1.Before.Has), (.int .i64 x1.1.Before.O.Kind), v9, v10, (.bool x1.1.After.Has), (.int .i64 x1.1.After.O.Kind), v11, v12, (.int .i64 x1.1.Next), v13]), pt g1 41 ([(.int .i64 x2.1.Lsn), (.int .i64 x2.1.Tx), (.int .i64 x2.1.Prev), (.int .i64 x2.1.Kind), (.int .i64 x2.1.Oid), (.bool x2.1.Before.Has), (.int .i64 x2.1.Before.O.Kind), v3, v4, (.bool x2.1.After.Has), (.int .i64 x2.1.After.O.Kind), v5, v6, (.int .i64 x2.1.Next), v7]), Ow (Kd.int .u8) 5 v2 x11] := hS
            refine gonE (j := 2) hF rfl rfl hc5 ?_
            refine stp hF (p_not rfl) (by decide) (fun a hF => ?_)
            refine stp hF (p_pickF rfl hc5 rfl) (by decide) (fun a hF => ?_)
            refine nilN ?_
            refine xn ?_
            obtain rfl := hsm H
            replace hS := hS.sel (is := [10, 10, 0, 0, 0, 0, 0, 0, 0, 0, 0, 0, 0, 0, 0]) (A' := [Ow (Kd.int .u8) 5 v8 x16.2, Ow (Kd.int .u8) 5 v14 x14, Ow (Kd.int .i64) 3 v9 x1.1.Before.O.Ints, Ow (Kd.int .i64) 3 v10 x1.1.Before.O.Refs, Ow (Kd.int .i64) 3 v11 x1.1.After.O.Ints, Ow (Kd.int .i64) 3 v12 x1.1.After.O.Refs, Ow kTLive 91 v13 x1.1.Txs, Ow (Kd.int .i64) 3 v3 x2.1.Before.O.Ints, Ow (Kd.int .i64) 3 v4 x2.1.Before.O.Refs, Ow (Kd.int .i64) 3 v5 x2.1.After.O.Ints, Ow (Kd.int .i64) 3 v6 x2.1.After.O.Refs, Ow kTLive 91 v7 x2.1.Txs, pt g2 41 ([(.int .i64 x1.1.Lsn), (.int .i64 x1.1.Tx), (.int .i64 x1.1.Prev), (.int .i64 x1.1.Kind), (.int .i64 x1.1.Oid), (.bool x1.1.Before.Has), (.int .i64 x1.1.Before.O.Kind), v9, v10, (.bool x1.1.After.Has), (.int .i64 x1.1.After.O.Kind), v11, v12, (.int .i64 x1.1.Next), v13]), pt g1 41 ([(.int .i64 x2.1.Lsn), (.int .i64 x2.1.Tx), (.int .i64 x2.1.Prev), (.int .i64 x2.1.Kind), (.int .i64 x2.1.Oid), (.bool x2.1.Before.Has), (.int .i64 x2.1.Before.O.Kind), v3, v4, (.bool x2.1.After.Has), (.int .i64 x2.1.After.O.Kind), v5, v6, (.int .i64 x2.1.Next), v7]), Ow (Kd.int .u8) 5 v2 x11]) rfl
            exact ⟨(!x17), s20, hS, hF.cut ⟨rfl, rfl, rfl, rfl, rfl, rfl, trivial⟩, hg14, HK1⟩
        · clear H HK1 hS hF
          rintro a w ⟨x4, s18, hS, hF, hg15, H⟩
          unfold laws_FnExactGetRec.c1 at H
          refine stp hF (p_move rfl) (by decide) (fun a hF => ?_)
          refine cutj 4 (fun a w => St e s18 w [Ow (Kd.int .u8) 5 v8 x16.2, Ow (Kd.int .u8) 5 v14 x14, Ow (Kd.int .i64) 3 v9 x1.1.Before.O.Ints, Ow (Kd.int .i64) 3 v10 x1.1.Before.O.Refs, Ow (Kd.int .i64) 3 v11 x1.1.After.O.Ints, Ow (Kd.int .i64) 3 v12 x1.1.After.O.Refs, Ow kTLive 91 v13 x1.1.Txs, Ow (Kd.int .i64) 3 v3 x2.1.Before.O.Ints, Ow (Kd.int .i64) 3 v4 x2.1.Before.O.Refs, Ow (Kd.int .i64) 3 v5 x2.1.After.O.Ints, Ow (Kd.int .i64) 3 v6 x2.1.After.O.Refs, Ow kTLive 91 v7 x2.1.Txs, pt g2 41 ([(.int .i64 x1.1.Lsn), (.int .i64 x1.1.Tx), (.int .i64 x1.1.Prev), (.int .i64 x1.1.Kind), (.int .i64 x1.1.Oid), (.bool x1.1.Before.Has), (.int .i64 x1.1.Before.O.Kind), v9, v10, (.bool x1.1.After.Has), (.int .i64 x1.1.After.O.Kind), v11, v12, (.int .i64 x1.1.Next), v13]), pt g1 41 ([(.int .i64 x2.1.Lsn), (.int .i64 x2.1.Tx), (.int .i64 x2.1.Prev), (.int .i64 x2.1.Kind), (.int .i64 x2.1.Oid), (.bool x2.1.Before.Has), (.int .i64 x2.1.Before.O.Kind), v3, v4, (.bool x2.1.After.Has), (.int .i64 x2.1.After.O.Kind), v5, v6, (.int .i64 x2.1.Next), v7]), Ow (Kd.int .u8) 5 v2 x11] ∧ Fr 93 a [(0, v1), (3, (.pointer (some ⟨g1, 0, none⟩))), (4, (.bool x2.2)), (6, (.pointer (some ⟨g2, 0, none⟩))), (58, (.bool (x4 || (x1.2 != x2.2))))]) rfl rfl ?_ ?_
          · rcases Bool.eq_false_or_eq_true (x4) with hc6 | hc6
            · skip
              refine gofD (j := 8) hF rfl rfl (by rw [hc6]; decide) (by decide) (fun a hF => ?_)
              refine gofD (j := 8) hF rfl rfl (by rw [hc6]; decide) (by decide) (fun a hF => ?_)
              refine gofD (j := 8) hF rfl rfl (by rw [hc6]; decide) (by decide) (fun a hF => ?_)
              refine stp hF (p_orT (x1.2 != x2.2) rfl hc6 rfl) (by decide) (fun a hF => ?_)
              refine nilN ?_
              refine xn ?_
              exact ⟨hS, hF.cut ⟨rfl, rfl, rfl, rfl, rfl, trivial⟩⟩
            · skip
              refine gonE (j := 8) hF rfl rfl hc6 ?_
              refine stp hF (p_move rfl) (by decide) (fun a hF => ?_)
              refine gonE (j := 8) hF rfl rfl hc6 ?_
              refine stp hF (p_move rfl) (by decide) (fun a hF => ?_)
              refine gonE (j := 8) hF rfl rfl hc6 ?_
              refine stp hF (p_neb un_4 rfl rfl) (by decide) (fun a hF => ?_)
              refine stp hF (p_orF rfl hc6 rfl) (by decide) (fun a hF => ?_)
              refine nilN ?_
              refine xn ?_
              exact ⟨hS, hF.cut ⟨rfl, rfl, rfl, rfl, rfl, trivial⟩⟩
          clear hS hF
          rintro a w ⟨hS, hF⟩
          refine nilN ?_
          refine xn ?_
          refine cnd hF rfl (fun hc7 => ?_) (fun hc7 => ?_)
          · replace H := hbt hc7 H
            refine sq ?_
            refine rg ?_
            refine stp hF (p_assign rfl) (by decide) (fun a hF => ?_)
            refine nilN ?_
            refine xn ?_
            refine rt ?_
            refine xr ?_
            obtain rfl := hsm H
            replace hS := hS.sel (is := []) (A' := []) rfl
            exact ret1 hF rfl rfl hS ⟨rfl, rfl⟩
          · replace H := hbf hc7 H
            refine skN ?_
            refine xn ?_
            refine sq ?_
            refine rg ?_
            refine stp hF (p_assign rfl) (by decide) (fun a hF => ?_)
            refine nilN ?_
            refine xn ?_
            refine sq ?_
            refine rg ?_
            refine stp hF (p_ldb_agg (i := 12) (l := []) (m := [(.int .i64 x1.1.Lsn), (.int .i64 x1.1.Tx), (.int .i64 x1.1.Prev), (.int .i64 x1.1.Kind), (.int .i64 x1.1.Oid), (.bool x1.1.Before.Has), (.int .i64 x1.1.Before.O.Kind), v9, v10, (.bool x1.1.After.Has), (.int .i64 x1.1.After.O.Kind), v11, v12, (.int .i64 x1.1.Next), v13]) (r := []) hS rfl rfl ia_41 ti_41 rfl rfl rfl) (by decide) (fun a hF => ?_)
            refine stp hF (p_move rfl) (by decide) (fun a hF => ?_)
            replace hS := hS.sel (is := [2, 2, 2, 2, 2, 0, 0, 0, 0, 0, 0, 0, 0, 0, 0]) (A' := [Ow (Kd.int .i64) 3 v9 x1.1.Before.O.Ints, Ow (Kd.int .i64) 3 v10 x1.1.Before.O.Refs, Ow (Kd.int .i64) 3 v11 x1.1.After.O.Ints, Ow (Kd.int .i64) 3 v12 x1.1.After.O.Refs, Ow kTLive 91 v13 x1.1.Txs, Ow (Kd.int .u8) 5 v8 x16.2, Ow (Kd.int .u8) 5 v14 x14, Ow (Kd.int .i64) 3 v3 x2.1.Before.O.Ints, Ow (Kd.int .i64) 3 v4 x2.1.Before.O.Refs, Ow (Kd.int .i64) 3 v5 x2.1.After.O.Ints, Ow (Kd.int .i64) 3 v6 x2.1.After.O.Refs, Ow kTLive 91 v7 x2.1.Txs, pt g2 41 ([(.int .i64 x1.1.Lsn), (.int .i64 x1.1.Tx), (.int .i64 x1.1.Prev), (.int .i64 x1.1.Kind), (.int .i64 x1.1.Oid), (.bool x1.1.Before.Has), (.int .i64 x1.1.Before.O.Kind), v9, v10, (.bool x1.1.After.Has), (.int .i64 x1.1.After.O.Kind), v11, v12, (.int .i64 x1.1.Next), v13]), pt g1 41 ([(.int .i64 x2.1.Lsn), (.int .i64 x2.1.Tx), (.int .i64 x2.1.Prev), (.int .i64 x2.1.Kind), (.int .i64 x2.1.Oid), (.bool x2.1.Before.Has), (.int .i64 x2.1.Before.O.Kind), v3, v4, (.bool x2.1.After.Has), (.int .i64 x2.1.After.O.Kind), v5, v6, (.int .i64 x2.1.Next), v7]), Ow (Kd.int .u8) 5 v2 x11]) rfl
            obtain ⟨x5, hx10, H⟩ := hb H
            refine ste hF (e_callA (fst := []) (vs := [(.agg #[(.int .i64 x1.1.Lsn), (.int .i64 x1.1.Tx), (.int .i64 x1.1.Prev), (.int .i64 x1.1.Kind), (.int .i64 x1.1.Oid), (.bool x1.1.Before.Has), (.int .i64 x1.1.Before.O.Kind), v9, v10, (.bool x1.1.After.Has), (.int .i64 x1.1.After.O.Kind), v11, v12, (.int .i64 x1.1.Next), v13]), (.int .i64 1)]) (cap := []) rfl rfl go_44 (St.call (A := [Ow (Kd.int .i64) 3 v9 x1.1.Before.O.Ints, Ow (Kd.int .i64) 3 v10 x1.1.Before.O.Refs, Ow (Kd.int .i64) 3 v11 x1.1.After.O.Ints, Ow (Kd.int .i64) 3 v12 x1.1.After.O.Refs, Ow kTLive 91 v13 x1.1.Txs]) (B := [Ow (Kd.int .u8) 5 v8 x16.2, Ow (Kd.int .u8) 5 v14 x14, Ow (Kd.int .i64) 3 v3 x2.1.Before.O.Ints, Ow (Kd.int .i64) 3 v4 x2.1.Before.O.Refs, Ow (Kd.int .i64) 3 v5 x2.1.After.O.Ints, Ow (Kd.int .i64) 3 v6 x2.1.After.O.Refs, Ow kTLive 91 v7 x2.1.Txs, pt g2 41 ([(.int .i64 x1.1.Lsn), (.int .i64 x1.1.Tx), (.int .i64 x1.1.Prev), (.int .i64 x1.1.Kind), (.int .i64 x1.1.Oid), (.bool x1.1.Before.Has), (.int .i64 x1.1.Before.O.Kind), v9, v10, (.bool x1.1.After.Has), (.int .i64 x1.1.After.O.Kind), v11, v12, (.int .i64 x1.1.Next), v13]), pt g1 41 ([(.int .i64 x2.1.Lsn), (.int .i64 x2.1.Tx), (.int .i64 x2.1.Prev), (.int .i64 x2.1.Kind), (.int .i64 x2.1.Oid), (.bool x2.1.Before.Has), (.int .i64 x2.1.Before.O.Kind), v3, v4, (.bool x2.1.After.Has), (.int .i64 x2.1.After.O.Kind), v5, v6, (.int .i64 x2.1.Next), v7]), Ow (Kd.int .u8) 5 v2 x11]) hS (laws_markRec.spec k _ _ x1.1 1 v9 v10 v11 v12 v13 _ hx10)) rfl) (by decide) (fun v w a hR hF => ?_)
            obtain ⟨s22, A11, hg16, hS, hR⟩ := hR
            obtain ⟨hv10, rfl⟩ := hR; obtain rfl := hv10.symm
            have hS : St e s22 w [Ow (Kd.int .i64) 3 v9 x5.2.1, Ow (Kd.int .i64) 3 v10 x5.2.2.1, Ow (Kd.int .i64) 3 v11 x5.2.2.2.1, Ow (Kd.int .i64) 3 v12 x5.2.2.2.2.1, Ow kTLive 91 v13 x5.2.2.2.2.2, Ow (Kd.int .u8) 5 v8 x16.2, Ow (Kd.int .u8) 5 v14 x14, Ow (Kd.int .i64) 3 v3 x2.1.Before.O.Ints, Ow (Kd.int .i64) 3 v4 x2.1.Before.O.Refs, Ow (Kd.int .i64) 3 v5 x2.1.After.O.Ints, Ow (Kd.int .i64) 3 v6 x2.1.After.O.Refs, Ow kTLive 91 v7 x2.1.Txs, pt g2 41 ([(.int .i64 x1.1.Lsn), (.int .i64 x1.1.Tx), (.int .i64 x1.1.Prev), (.int .i64 x1.1.Kind), (.int .i64 x1.1.Oid), (.bool x1.1.Before.Has), (.int .i64 x1.1.Before.O.Kind), v9, v10, (.bool x1.1.After.Has), (.int .i64 x1.1.After.O.Kind), v11, v12, (.int .i64 x1.1.Next), v13]), pt g1 41 ([(.int .i64 x2.1.Lsn), (.int .i64 x2.1.Tx), (.int .i64 x2.1.Prev), (.int .i64 x2.1.Kind), (.int .i64 x2.1.Oid), (.bool x2.1.Before.Has), (.int .i64 x2.1.Before.O.Kind), v3, v4, (.bool x2.1.After.Has), (.int .i64 x2.1.After.O.Kind), v5, v6, (.int .i64 x2.1.Next), v7]), Ow (Kd.int .u8) 5 v2 x11] := hS
            refine stp hF (p_assign rfl) (by decide) (fun a hF => ?_)
            refine nilN ?_
            refine xn ?_
            refine sq ?_
            refine rg ?_
            refine stp hF (p_assign rfl) (by decide) (fun a hF => ?_)
            refine nilN ?_
            refine xn ?_
            refine sq ?_
            refine rg ?_
            refine stp hF (p_ldb_agg (i := 12) (l := []) (m := [(.int .i64 x1.1.Lsn), (.int .i64 x1.1.Tx), (.int .i64 x1.1.Prev), (.int .i64 x1.1.Kind), (.int .i64 x1.1.Oid), (.bool x1.1.Before.Has), (.int .i64 x1.1.Before.O.Kind), v9, v10, (.bool x1.1.After.Has), (.int .i64 x1.1.After.O.Kind), v11, v12, (.int .i64 x1.1.Next), v13]) (r := []) hS rfl rfl ia_41 ti_41 rfl rfl rfl) (by decide) (fun a hF => ?_)
            refine stp hF (p_move rfl) (by decide) (fun a hF => ?_)
            obtain ⟨s23, hg17, hl6, hcall6⟩ := St.lend (P := Try.prog) (Bs := [Ow (Kd.int .i64) 3 v9 x5.2.1, Ow (Kd.int .i64) 3 v10 x5.2.2.1, Ow (Kd.int .i64) 3 v11 x5.2.2.2.1, Ow (Kd.int .i64) 3 v12 x5.2.2.2.2.1, Ow kTLive 91 v13 x5.2.2.2.2.2]) (A := []) (B := [Ow (Kd.int .u8) 5 v8 x16.2, Ow (Kd.int .u8) 5 v14 x14, Ow (Kd.int .i64) 3 v3 x2.1.Before.O.Ints, Ow (Kd.int .i64) 3 v4 x2.1.Before.O.Refs, Ow (Kd.int .i64) 3 v5 x2.1.After.O.Ints, Ow (Kd.int .i64) 3 v6 x2.1.After.O.Refs, Ow kTLive 91 v7 x2.1.Txs, pt g2 41 ([(.int .i64 x1.1.Lsn), (.int .i64 x1.1.Tx), (.int .i64 x1.1.Prev), (.int .i64 x1.1.Kind), (.int .i64 x1.1.Oid), (.bool x1.1.Before.Has), (.int .i64 x1.1.Before.O.Kind), v9, v10, (.bool x1.1.After.Has), (.int .i64 x1.1.After.O.Kind), v11, v12, (.int .i64 x1.1.Next), v13]), pt g1 41 ([(.int .i64 x2.1.Lsn), (.int .i64 x2.1.Tx), (.int .i64 x2.1.Prev), (.int .i64 x2.1.Kind), (.int .i64 x2.1.Oid), (.bool x2.1.Before.Has), (.int .i64 x2.1.Before.O.Kind), v3, v4, (.bool x2.1.After.Has), (.int .i64 x2.1.After.O.Kind), v5, v6, (.int .i64 x2.1.Next), v7]), Ow (Kd.int .u8) 5 v2 x11]) hS
            obtain ⟨h26, hl6⟩ := hl6.ow hg17
            obtain ⟨h27, hl6⟩ := hl6.ow hg17
            obtain ⟨h28, hl6⟩ := hl6.ow hg17
            obtain ⟨h29, hl6⟩ := hl6.ow hg17
            obtain ⟨h30, hl6⟩ := hl6.ow hg17
            obtain ⟨x6, hx11, H⟩ := hb H
            refine ste hF (e_callA (fst := []) (vs := [(.agg #[(.int .i64 x1.1.Lsn), (.int .i64 x1.1.Tx), (.int .i64 x1.1.Prev), (.int .i64 x1.1.Kind), (.int .i64 x1.1.Oid), (.bool x1.1.Before.Has), (.int .i64 x1.1.Before.O.Kind), v9, v10, (.bool x1.1.After.Has), (.int .i64 x1.1.After.O.Kind), v11, v12, (.int .i64 x1.1.Next), v13]), (.int .i64 1)]) (cap := []) rfl rfl go_45 (hcall6 (laws_heldRec.spec k _ _ (⟨x1.1.Lsn, x1.1.Tx, x1.1.Prev, x1.1.Kind, x1.1.Oid, (⟨x1.1.Before.Has, (⟨x1.1.Before.O.Kind, x5.2.1, x5.2.2.1⟩ : TObj)⟩ : TSlot), (⟨x1.1.After.Has, (⟨x1.1.After.O.Kind, x5.2.2.2.1, x5.2.2.2.2.1⟩ : TObj)⟩ : TSlot), x1.1.Next, x5.2.2.2.2.2⟩ : TRec) 1 v9 v10 v11 v12 v13 h26 h27 h28 h29 h30 _ hx11) (by rintro v s1 A1 ⟨rfl, rfl⟩; exact trivial)) rfl) (by decide) (fun v w a hR hF => ?_)
            obtain ⟨s24, s25, A12, hg18, hS, hR⟩ := hR
            obtain ⟨hv11, rfl⟩ := hR; obtain rfl := hv11.symm
            have hS : St e s24 w [Ow (Kd.int .i64) 3 v9 x5.2.1, Ow (Kd.int .i64) 3 v10 x5.2.2.1, Ow (Kd.int .i64) 3 v11 x5.2.2.2.1, Ow (Kd.int .i64) 3 v12 x5.2.2.2.2.1, Ow kTLive 91 v13 x5.2.2.2.2.2, Ow (Kd.int .u8) 5 v8 x16.2, Ow (Kd.int .u8) 5 v14 x14, Ow (Kd.int .i64) 3 v3 x2.1.Before.O.Ints, Ow (Kd.int .i64) 3 v4 x2.1.Before.O.Refs, Ow (Kd.int .i64) 3 v5 x2.1.After.O.Ints, Ow (Kd.int .i64) 3 v6 x2.1.After.O.Refs, Ow kTLive 91 v7 x2.1.Txs, pt g2 41 ([(.int .i64 x1.1.Lsn), (.int .i64 x1.1.Tx), (.int .i64 x1.1.Prev), (.int .i64 x1.1.Kind), (.int .i64 x1.1.Oid), (.bool x1.1.Before.Has), (.int .i64 x1.1.Before.O.Kind), v9, v10, (.bool x1.1.After.Has), (.int .i64 x1.1.After.O.Kind), v11, v12, (.int .i64 x1.1.Next), v13]), pt g1 41 ([(.int .i64 x2.1.Lsn), (.int .i64 x2.1.Tx), (.int .i64 x2.1.Prev), (.int .i64 x2.1.Kind), (.int .i64 x2.1.Oid), (.bool x2.1.Before.Has), (.int .i64 x2.1.Before.O.Kind), v3, v4, (.bool x2.1.After.Has), (.int .i64 x2.1.After.O.Kind), v5, v6, (.int .i64 x2.1.Next), v7]), Ow (Kd.int .u8) 5 v2 x11] := hS
            refine stp hF (p_assign rfl) (by decide) (fun a hF => ?_)
            refine nilN ?_
            refine xn ?_
            refine sq ?_
            refine sq ?_
            refine rg ?_
            refine stp hF (p_move rfl) (by decide) (fun a hF => ?_)
            refine stp hF (p_lss rfl rfl) (by decide) (fun a hF => ?_)
            refine nilN ?_
            refine xn ?_
            refine cnd hF rfl (fun hc8 => ?_) (fun hc8 => ?_)
            · replace H := hbt hc8 H
              refine sq ?_
              refine rg ?_
              refine stp hF (p_assign rfl) (by decide) (fun a hF => ?_)
              refine nilN ?_
              refine xn ?_
              refine rt ?_
              refine xr ?_
              obtain rfl := hsm H
              replace hS := hS.sel (is := []) (A' := []) rfl
              exact ret1 hF rfl rfl hS ⟨rfl, rfl⟩
            · replace H := hbf hc8 H
              refine skN ?_
              refine xn ?_
              refine sq ?_
              refine sq ?_
              refine rg ?_
              refine stp hF (p_move rfl) (by decide) (fun a hF => ?_)
              refine stp hF (p_move rfl) (by decide) (fun a hF => ?_)
              refine stp hF (p_neq rfl rfl) (by decide) (fun a hF => ?_)
              refine nilN ?_
              refine xn ?_
              refine cnd hF rfl (fun hc9 => ?_) (fun hc9 => ?_)
              · replace H := hbt hc9 H
                refine sq ?_
                refine rg ?_
                refine stp hF (p_assign rfl) (by decide) (fun a hF => ?_)
                refine nilN ?_
                refine xn ?_
                refine rt ?_
                refine xr ?_
                obtain rfl := hsm H
                replace hS := hS.sel (is := []) (A' := []) rfl
                exact ret1 hF rfl rfl hS ⟨rfl, rfl⟩
              · replace H := hbf hc9 H
                refine skN ?_
                refine xn ?_
                refine sq ?_
                refine rg ?_
                refine stp hF (p_move rfl) (by decide) (fun a hF => ?_)
                obtain ⟨x7, hx12, H⟩ := hb H
                refine ste hF (e_callA (fst := []) (vs := [v1]) (cap := []) rfl rfl go_38 (St.call (A := []) (B := [Ow (Kd.int .i64) 3 v9 x5.2.1, Ow (Kd.int .i64) 3 v10 x5.2.2.1, Ow (Kd.int .i64) 3 v11 x5.2.2.2.1, Ow (Kd.int .i64) 3 v12 x5.2.2.2.2.1, Ow kTLive 91 v13 x5.2.2.2.2.2, Ow (Kd.int .u8) 5 v8 x16.2, Ow (Kd.int .u8) 5 v14 x14, Ow (Kd.int .i64) 3 v3 x2.1.Before.O.Ints, Ow (Kd.int .i64) 3 v4 x2.1.Before.O.Refs, Ow (Kd.int .i64) 3 v5 x2.1.After.O.Ints, Ow (Kd.int .i64) 3 v6 x2.1.After.O.Refs, Ow kTLive 91 v7 x2.1.Txs, pt g2 41 ([(.int .i64 x1.1.Lsn), (.int .i64 x1.1.Tx), (.int .i64 x1.1.Prev), (.int .i64 x1.1.Kind), (.int .i64 x1.1.Oid), (.bool x1.1.Before.Has), (.int .i64 x1.1.Before.O.Kind), v9, v10, (.bool x1.1.After.Has), (.int .i64 x1.1.After.O.Kind), v11, v12, (.int .i64 x1.1.Next), v13]), pt g1 41 ([(.int .i64 x2.1.Lsn), (.int .i64 x2.1.Tx), (.int .i64 x2.1.Prev), (.int .i64 x2.1.Kind), (.int .i64 x2.1.Oid), (.bool x2.1.Before.Has), (.int .i64 x2.1.Before.O.Kind), v3, v4, (.bool x2.1.After.Has), (.int .i64 x2.1.After.O.Kind), v5, v6, (.int .i64 x2.1.Next), v7]), Ow (Kd.int .u8) 5 v2 x11]) hS (laws_toByteS.spec k _ _ x3 v1 (((((((((((h1.mono hg1).mono hg3).mono hg4).mono hg6).mono hg8).mono hg9).mono hg11).mono hg12).mono hg15).mono hg16).mono hg18) _ hx12)) rfl) (by decide) (fun v w a hR hF => ?_)
                obtain ⟨s26, A13, hg19, hS, hR⟩ := hR
                obtain ⟨v15, hv12, rfl⟩ := hR; obtain rfl := hv12.symm
                have hS : St e s26 w [Ow (Kd.int .u8) 5 v15 x7, Ow (Kd.int .i64) 3 v9 x5.2.1, Ow (Kd.int .i64) 3 v10 x5.2.2.1, Ow (Kd.int .i64) 3 v11 x5.2.2.2.1, Ow (Kd.int .i64) 3 v12 x5.2.2.2.2.1, Ow kTLive 91 v13 x5.2.2.2.2.2, Ow (Kd.int .u8) 5 v8 x16.2, Ow (Kd.int .u8) 5 v14 x14, Ow (Kd.int .i64) 3 v3 x2.1.Before.O.Ints, Ow (Kd.int .i64) 3 v4 x2.1.Before.O.Refs, Ow (Kd.int .i64) 3 v5 x2.1.After.O.Ints, Ow (Kd.int .i64) 3 v6 x2.1.After.O.Refs, Ow kTLive 91 v7 x2.1.Txs, pt g2 41 ([(.int .i64 x1.1.Lsn), (.int .i64 x1.1.Tx), (.int .i64 x1.1.Prev), (.int .i64 x1.1.Kind), (.int .i64 x1.1.Oid), (.bool x1.1.Before.Has), (.int .i64 x1.1.Before.O.Kind), v9, v10, (.bool x1.1.After.Has), (.int .i64 x1.1.After.O.Kind), v11, v12, (.int .i64 x1.1.Next), v13]), pt g1 41 ([(.int .i64 x2.1.Lsn), (.int .i64 x2.1.Tx), (.int .i64 x2.1.Prev), (.int .i64 x2.1.Kind), (.int .i64 x2.1.Oid), (.bool x2.1.Before.Has), (.int .i64 x2.1.Before.O.Kind), v3, v4, (.bool x2.1.After.Has), (.int .i64 x2.1.After.O.Kind), v5, v6, (.int .i64 x2.1.Next), v7]), Ow (Kd.int .u8) 5 v2 x11] := hS
                obtain ⟨s27, hg20, hl7, hcall7⟩ := St.lend (P := Try.prog) (Bs := [Ow (Kd.int .u8) 5 v15 x7]) (A := []) (B := [Ow (Kd.int .i64) 3 v9 x5.2.1, Ow (Kd.int .i64) 3 v10 x5.2.2.1, Ow (Kd.int .i64) 3 v11 x5.2.2.2.1, Ow (Kd.int .i64) 3 v12 x5.2.2.2.2.1, Ow kTLive 91 v13 x5.2.2.2.2.2, Ow (Kd.int .u8) 5 v8 x16.2, Ow (Kd.int .u8) 5 v14 x14, Ow (Kd.int .i64) 3 v3 x2.1.Before.O.Ints, Ow (Kd.int .i64) 3 v4 x2.1.Before.O.Refs, Ow (Kd.int .i64) 3 v5 x2.1.After.O.Ints, Ow (Kd.int .i64) 3 v6 x2.1.After.O.Refs, Ow kTLive 91 v7 x2.1.Txs, pt g2 41 ([(.int .i64 x1.1.Lsn), (.int .i64 x1.1.Tx), (.int .i64 x1.1.Prev), (.int .i64 x1.1.Kind), (.int .i64 x1.1.Oid), (.bool x1.1.Before.Has), (.int .i64 x1.1.Before.O.Kind), v9, v10, (.bool x1.1.After.Has), (.int .i64 x1.1.After.O.Kind), v11, v12, (.int .i64 x1.1.Next), v13]), pt g1 41 ([(.int .i64 x2.1.Lsn), (.int .i64 x2.1.Tx), (.int .i64 x2.1.Prev), (.int .i64 x2.1.Kind), (.int .i64 x2.1.Oid), (.bool x2.1.Before.Has), (.int .i64 x2.1.Before.O.Kind), v3, v4, (.bool x2.1.After.Has), (.int .i64 x2.1.After.O.Kind), v5, v6, (.int .i64 x2.1.Next), v7]), Ow (Kd.int .u8) 5 v2 x11]) hS
                obtain ⟨h31, hl7⟩ := hl7.ow hg20
                obtain ⟨x8, hx13, H⟩ := hb H
                refine ste hF (e_callA (fst := []) (vs := [v15]) (cap := []) rfl rfl go_25 (hcall7 (impl_GetRec.spec k _ _ x7 v15 h31 _ hx13) (by rintro v s1 A1 ⟨_, _, _, _, _, rfl, rfl⟩; exact ⟨Ow_flat flat_int _ _ _, ⟨Ow_flat flat_int _ _ _, ⟨Ow_flat flat_int _ _ _, ⟨Ow_flat flat_int _ _ _, ⟨Ow_flat kTLive_flat _ _ _, trivial⟩⟩⟩⟩⟩)) rfl) (by decide) (fun v w a hR hF => ?_)
                obtain ⟨s28, s29, A14, hg21, hS, hR⟩ := hR
                obtain ⟨v16, v17, v18, v19, v20, hv13, rfl⟩ := hR; obtain rfl := hv13.symm
                have hS : St e s28 w [Ow (Kd.int .u8) 5 v15 x7, Ow (Kd.int .i64) 3 v16 x8.1.Before.O.Ints, Ow (Kd.int .i64) 3 v17 x8.1.Before.O.Refs, Ow (Kd.int .i64) 3 v18 x8.1.After.O.Ints, Ow (Kd.int .i64) 3 v19 x8.1.After.O.Refs, Ow kTLive 91 v20 x8.1.Txs, Ow (Kd.int .i64) 3 v9 x5.2.1, Ow (Kd.int .i64) 3 v10 x5.2.2.1, Ow (Kd.int .i64) 3 v11 x5.2.2.2.1, Ow (Kd.int .i64) 3 v12 x5.2.2.2.2.1, Ow kTLive 91 v13 x5.2.2.2.2.2, Ow (Kd.int .u8) 5 v8 x16.2, Ow (Kd.int .u8) 5 v14 x14, Ow (Kd.int .i64) 3 v3 x2.1.Before.O.Ints, Ow (Kd.int .i64) 3 v4 x2.1.Before.O.Refs, Ow (Kd.int .i64) 3 v5 x2.1.After.O.Ints, Ow (Kd.int .i64) 3 v6 x2.1.After.O.Refs, Ow kTLive 91 v7 x2.1.Txs, pt g2 41 ([(.int .i64 x1.1.Lsn), (.int .i64 x1.1.Tx), (.int .i64 x1.1.Prev), (.int .i64 x1.1.Kind), (.int .i64 x1.1.Oid), (.bool x1.1.Before.Has), (.int .i64 x1.1.Before.O.Kind), v9, v10, (.bool x1.1.After.Has), (.int .i64 x1.1.After.O.Kind), v11, v12, (.int .i64 x1.1.Next), v13]), pt g1 41 ([(.int .i64 x2.1.Lsn), (.int .i64 x2.1.Tx), (.int .i64 x2.1.Prev), (.int .i64 x2.1.Kind), (.int .i64 x2.1.Oid), (.bool x2.1.Before.Has), (.int .i64 x2.1.Before.O.Kind), v3, v4, (.bool x2.1.After.Has), (.int .i64 x2.1.After.O.Kind), v5, v6, (.int .i64 x2.1.Next), v7]), Ow (Kd.int .u8) 5 v2 x11] := hS
                refine stp hF (p_move rfl) (by decide) (fun a hF => ?_)
                refine stp hF (p_extract rfl rfl) (by decide) (fun a hF => ?_)
                refine stp hF (p_extract rfl rfl) (by decide) (fun a hF => ?_)
                refine ste hF (e_alloc (cs := [(.int .i64 0), (.int .i64 0), (.int .i64 0), (.int .i64 0), (.int .i64 0), (.bool false), (.int .i64 0), (.slice none 0 0), (.slice none 0 0), (.bool false), (.int .i64 0), (.slice none 0 0), (.slice none 0 0), (.int .i64 0), (.slice none 0 0)]) hS ti_41 rfl) (by decide) (fun v w a hR hF => ?_)
                obtain ⟨g3, rfl, hS⟩ := hR
                refine ste0 hF (e_stb (i := 0) (l := []) (m := [(.int .i64 0), (.int .i64 0), (.int .i64 0), (.int .i64 0), (.int .i64 0), (.bool false), (.int .i64 0), (.slice none 0 0), (.slice none 0 0), (.bool false), (.int .i64 0), (.slice none 0 0), (.slice none 0 0), (.int .i64 0), (.slice none 0 0)]) (r := []) (m' := [(.int .i64 x8.1.Lsn), (.int .i64 x8.1.Tx), (.int .i64 x8.1.Prev), (.int .i64 x8.1.Kind), (.int .i64 x8.1.Oid), (.bool x8.1.Before.Has), (.int .i64 x8.1.Before.O.Kind), v16, v17, (.bool x8.1.After.Has), (.int .i64 x8.1.After.O.Kind), v18, v19, (.int .i64 x8.1.Next), v20]) (cs' := [(.int .i64 x8.1.Lsn), (.int .i64 x8.1.Tx), (.int .i64 x8.1.Prev), (.int .i64 x8.1.Kind), (.int .i64 x8.1.Oid), (.bool x8.1.Before.Has), (.int .i64 x8.1.Before.O.Kind), v16, v17, (.bool x8.1.After.Has), (.int .i64 x8.1.After.O.Kind), v18, v19, (.int .i64 x8.1.Next), v20]) hS rfl rfl rfl ti_41 rfl rfl rfl rfl rfl (one_cons rfl (one_cons rfl (one_cons rfl (one_cons rfl (one_cons rfl (one_cons rfl (one_cons rfl (one_cons (hS.one_ow (i := 2) rfl) (one_cons (hS.one_ow (i := 3) rfl) (one_cons rfl (one_cons rfl (one_cons (hS.one_ow (i := 4) rfl) (one_cons (hS.one_ow (i := 5) rfl) (one_cons rfl (one_cons (hS.one_ow (i := 6) rfl) one_nil))))))))))))))) rfl) (fun v w a hR hF => ?_)
                have hS : St e s28 w [pt g3 41 ([(.int .i64 x8.1.Lsn), (.int .i64 x8.1.Tx), (.int .i64 x8.1.Prev), (.int .i64 x8.1.Kind), (.int .i64 x8.1.Oid), (.bool x8.1.Before.Has), (.int .i64 x8.1.Before.O.Kind), v16, v17, (.bool x8.1.After.Has), (.int .i64 x8.1.After.O.Kind), v18, v19, (.int .i64 x8.1.Next), v20]), Ow (Kd.int .u8) 5 v15 x7, Ow (Kd.int .i64) 3 v16 x8.1.Before.O.Ints, Ow (Kd.int .i64) 3 v17 x8.1.Before.O.Refs, Ow (Kd.int .i64) 3 v18 x8.1.After.O.Ints, Ow (Kd.int .i64) 3 v19 x8.1.After.O.Refs, Ow kTLive 91 v20 x8.1.Txs, Ow (Kd.int .i64) 3 v9 x5.2.1, Ow (Kd.int .i64) 3 v10 x5.2.2.1, Ow (Kd.int .i64) 3 v11 x5.2.2.2.1, Ow (Kd.int .i64) 3 v12 x5.2.2.2.2.1, Ow kTLive 91 v13 x5.2.2.2.2.2, Ow (Kd.int .u8) 5 v8 x16.2, Ow (Kd.int .u8) 5 v14 x14, Ow (Kd.int .i64) 3 v3 x2.1.Before.O.Ints, Ow (Kd.int .i64) 3 v4 x2.1.Before.O.Refs, Ow (Kd.int .i64) 3 v5 x2.1.After.O.Ints, Ow (Kd.int .i64) 3 v6 x2.1.After.O.Refs, Ow kTLive 91 v7 x2.1.Txs, pt g2 41 ([(.int .i64 x1.1.Lsn), (.int .i64 x1.1.Tx), (.int .i64 x1.1.Prev), (.int .i64 x1.1.Kind), (.int .i64 x1.1.Oid), (.bool x1.1.Before.Has), (.int .i64 x1.1.Before.O.Kind), v9, v10, (.bool x1.1.After.Has), (.int .i64 x1.1.After.O.Kind), v11, v12, (.int .i64 x1.1.Next), v13]), pt g1 41 ([(.int .i64 x2.1.Lsn), (.int .i64 x2.1.Tx), (.int .i64 x2.1.Prev), (.int .i64 x2.1.Kind), (.int .i64 x2.1.Oid), (.bool x2.1.Before.Has), (.int .i64 x2.1.Before.O.Kind), v3, v4, (.bool x2.1.After.Has), (.int .i64 x2.1.After.O.Kind), v5, v6, (.int .i64 x2.1.Next), v7]), Ow (Kd.int .u8) 5 v2 x11] := hR
                refine stp hF (p_assign rfl) (by decide) (fun a hF => ?_)
                refine nilN ?_
                refine xn ?_
                refine sq ?_
                refine sq ?_
                refine rg ?_
                refine stp hF (p_ldb_agg (i := 0) (l := []) (m := [(.int .i64 x8.1.Lsn), (.int .i64 x8.1.Tx), (.int .i64 x8.1.Prev), (.int .i64 x8.1.Kind), (.int .i64 x8.1.Oid), (.bool x8.1.Before.Has), (.int .i64 x8.1.Before.O.Kind), v16, v17, (.bool x8.1.After.Has), (.int .i64 x8.1.After.O.Kind), v18, v19, (.int .i64 x8.1.Next), v20]) (r := []) hS rfl rfl ia_41 ti_41 rfl rfl rfl) (by decide) (fun a hF => ?_)
                refine stp hF (p_ldb_agg (i := 20) (l := []) (m := [(.int .i64 x2.1.Lsn), (.int .i64 x2.1.Tx), (.int .i64 x2.1.Prev), (.int .i64 x2.1.Kind), (.int .i64 x2.1.Oid), (.bool x2.1.Before.Has), (.int .i64 x2.1.Before.O.Kind), v3, v4, (.bool x2.1.After.Has), (.int .i64 x2.1.After.O.Kind), v5, v6, (.int .i64 x2.1.Next), v7]) (r := []) hS rfl rfl ia_41 ti_41 rfl rfl rfl) (by decide) (fun a hF => ?_)
                replace hS := hS.sel (is := [2, 2, 2, 2, 2, 9, 9, 9, 9, 9, 0, 0, 0, 0, 0, 0, 0, 0, 0, 0, 0, 0]) (A' := [Ow (Kd.int .i64) 3 v16 x8.1.Before.O.Ints, Ow (Kd.int .i64) 3 v17 x8.1.Before.O.Refs, Ow (Kd.int .i64) 3 v18 x8.1.After.O.Ints, Ow (Kd.int .i64) 3 v19 x8.1.After.O.Refs, Ow kTLive 91 v20 x8.1.Txs, Ow (Kd.int .i64) 3 v3 x2.1.Before.O.Ints, Ow (Kd.int .i64) 3 v4 x2.1.Before.O.Refs, Ow (Kd.int .i64) 3 v5 x2.1.After.O.Ints, Ow (Kd.int .i64) 3 v6 x2.1.After.O.Refs, Ow kTLive 91 v7 x2.1.Txs, pt g3 41 ([(.int .i64 x8.1.Lsn), (.int .i64 x8.1.Tx), (.int .i64 x8.1.Prev), (.int .i64 x8.1.Kind), (.int .i64 x8.1.Oid), (.bool x8.1.Before.Has), (.int .i64 x8.1.Before.O.Kind), v16, v17, (.bool x8.1.After.Has), (.int .i64 x8.1.After.O.Kind), v18, v19, (.int .i64 x8.1.Next), v20]), Ow (Kd.int .u8) 5 v15 x7, Ow (Kd.int .i64) 3 v9 x5.2.1, Ow (Kd.int .i64) 3 v10 x5.2.2.1, Ow (Kd.int .i64) 3 v11 x5.2.2.2.1, Ow (Kd.int .i64) 3 v12 x5.2.2.2.2.1, Ow kTLive 91 v13 x5.2.2.2.2.2, Ow (Kd.int .u8) 5 v8 x16.2, Ow (Kd.int .u8) 5 v14 x14, pt g2 41 ([(.int .i64 x1.1.Lsn), (.int .i64 x1.1.Tx), (.int .i64 x1.1.Prev), (.int .i64 x1.1.Kind), (.int .i64 x1.1.Oid), (.bool x1.1.Before.Has), (.int .i64 x1.1.Before.O.Kind), v9, v10, (.bool x1.1.After.Has), (.int .i64 x1.1.After.O.Kind), v11, v12, (.int .i64 x1.1.Next), v13]), pt g1 41 ([(.int .i64 x2.1.Lsn), (.int .i64 x2.1.Tx), (.int .i64 x2.1.Prev), (.int .i64 x2.1.Kind), (.int .i64 x2.1.Oid), (.bool x2.1.Before.Has), (.int .i64 x2.1.Before.O.Kind), v3, v4, (.bool x2.1.After.Has), (.int .i64 x2.1.After.O.Kind), v5, v6, (.int .i64 x2.1.Next), v7]), Ow (Kd.int .u8) 5 v2 x11]) rfl
                obtain ⟨s30, hg22, hl8, hcall8⟩ := St.lend (P := Try.prog) (Bs := [Ow (Kd.int .i64) 3 v16 x8.1.Before.O.Ints, Ow (Kd.int .i64) 3 v17 x8.1.Before.O.Refs, Ow (Kd.int .i64) 3 v18 x8.1.After.O.Ints, Ow (Kd.int .i64) 3 v19 x8.1.After.O.Refs, Ow kTLive 91 v20 x8.1.Txs, Ow (Kd.int .i64) 3 v3 x2.1.Before.O.Ints, Ow (Kd.int .i64) 3 v4 x2.1.Before.O.Refs, Ow (Kd.int .i64) 3 v5 x2.1.After.O.Ints, Ow (Kd.int .i64) 3 v6 x2.1.After.O.Refs, Ow kTLive 91 v7 x2.1.Txs]) (A := []) (B := [pt g3 41 ([(.int .i64 x8.1.Lsn), (.int .i64 x8.1.Tx), (.int .i64 x8.1.Prev), (.int .i64 x8.1.Kind), (.int .i64 x8.1.Oid), (.bool x8.1.Before.Has), (.int .i64 x8.1.Before.O.Kind), v16, v17, (.bool x8.1.After.Has), (.int .i64 x8.1.After.O.Kind), v18, v19, (.int .i64 x8.1.Next), v20]), Ow (Kd.int .u8) 5 v15 x7, Ow (Kd.int .i64) 3 v9 x5.2.1, Ow (Kd.int .i64) 3 v10 x5.2.2.1, Ow (Kd.int .i64) 3 v11 x5.2.2.2.1, Ow (Kd.int .i64) 3 v12 x5.2.2.2.2.1, Ow kTLive 91 v13 x5.2.2.2.2.2, Ow (Kd.int .u8) 5 v8 x16.2, Ow (Kd.int .u8) 5 v14 x14, pt g2 41 ([(.int .i64 x1.1.Lsn), (.int .i64 x1.1.Tx), (.int .i64 x1.1.Prev), (.int .i64 x1.1.Kind), (.int .i64 x1.1.Oid), (.bool x1.1.Before.Has), (.int .i64 x1.1.Before.O.Kind), v9, v10, (.bool x1.1.After.Has), (.int .i64 x1.1.After.O.Kind), v11, v12, (.int .i64 x1.1.Next), v13]), pt g1 41 ([(.int .i64 x2.1.Lsn), (.int .i64 x2.1.Tx), (.int .i64 x2.1.Prev), (.int .i64 x2.1.Kind), (.int .i64 x2.1.Oid), (.bool x2.1.Before.Has), (.int .i64 x2.1.Before.O.Kind), v3, v4, (.bool x2.1.After.Has), (.int .i64 x2.1.After.O.Kind), v5, v6, (.int .i64 x2.1.Next), v7]), Ow (Kd.int .u8) 5 v2 x11]) hS
                obtain ⟨h32, hl8⟩ := hl8.ow hg22
                obtain ⟨h33, hl8⟩ := hl8.ow hg22
                obtain ⟨h34, hl8⟩ := hl8.ow hg22
                obtain ⟨h35, hl8⟩ := hl8.ow hg22
                obtain ⟨h36, hl8⟩ := hl8.ow hg22
                obtain ⟨h37, hl8⟩ := hl8.ow hg22
                obtain ⟨h38, hl8⟩ := hl8.ow hg22
                obtain ⟨h39, hl8⟩ := hl8.ow hg22
                obtain ⟨h40, hl8⟩ := hl8.ow hg22
                obtain ⟨h41, hl8⟩ := hl8.ow hg22
                obtain ⟨x9, hx14, H⟩ := hb H
                refine ste hF (e_callA (fst := []) (vs := [(.agg #[(.int .i64 x8.1.Lsn), (.int .i64 x8.1.Tx), (.int .i64 x8.1.Prev), (.int .i64 x8.1.Kind), (.int .i64 x8.1.Oid), (.bool x8.1.Before.Has), (.int .i64 x8.1.Before.O.Kind), v16, v17, (.bool x8.1.After.Has), (.int .i64 x8.1.After.O.Kind), v18, v19, (.int .i64 x8.1.Next), v20]), (.agg #[(.int .i64 x2.1.Lsn), (.int .i64 x2.1.Tx), (.int .i64 x2.1.Prev), (.int .i64 x2.1.Kind), (.int .i64 x2.1.Oid), (.bool x2.1.Before.Has), (.int .i64 x2.1.Before.O.Kind), v3, v4, (.bool x2.1.After.Has), (.int .i64 x2.1.After.O.Kind), v5, v6, (.int .i64 x2.1.Next), v7])]) (cap := []) rfl rfl go_43 (hcall8 (laws_eqRec.spec k _ _ x8.1 x2.1 v16 v17 v18 v19 v20 v3 v4 v5 v6 v7 h32 h33 h34 h35 h36 h37 h38 h39 h40 h41 _ hx14) (by rintro v s1 A1 ⟨rfl, rfl⟩; exact trivial)) rfl) (by decide) (fun v w a hR hF => ?_)
                obtain ⟨s31, s32, A15, hg23, hS, hR⟩ := hR
                obtain ⟨hv14, rfl⟩ := hR; obtain rfl := hv14.symm
                have hS : St e s31 w [Ow (Kd.int .i64) 3 v16 x8.1.Before.O.Ints, Ow (Kd.int .i64) 3 v17 x8.1.Before.O.Refs, Ow (Kd.int .i64) 3 v18 x8.1.After.O.Ints, Ow (Kd.int .i64) 3 v19 x8.1.After.O.Refs, Ow kTLive 91 v20 x8.1.Txs, Ow (Kd.int .i64) 3 v3 x2.1.Before.O.Ints, Ow (Kd.int .i64) 3 v4 x2.1.Before.O.Refs, Ow (Kd.int .i64) 3 v5 x2.1.After.O.Ints, Ow (Kd.int .i64) 3 v6 x2.1.After.O.Refs, Ow kTLive 91 v7 x2.1.Txs, pt g3 41 ([(.int .i64 x8.1.Lsn), (.int .i64 x8.1.Tx), (.int .i64 x8.1.Prev), (.int .i64 x8.1.Kind), (.int .i64 x8.1.Oid), (.bool x8.1.Before.Has), (.int .i64 x8.1.Before.O.Kind), v16, v17, (.bool x8.1.After.Has), (.int .i64 x8.1.After.O.Kind), v18, v19, (.int .i64 x8.1.Next), v20]), Ow (Kd.int .u8) 5 v15 x7, Ow (Kd.int .i64) 3 v9 x5.2.1, Ow (Kd.int .i64) 3 v10 x5.2.2.1, Ow (Kd.int .i64) 3 v11 x5.2.2.2.1, Ow (Kd.int .i64) 3 v12 x5.2.2.2.2.1, Ow kTLive 91 v13 x5.2.2.2.2.2, Ow (Kd.int .u8) 5 v8 x16.2, Ow (Kd.int .u8) 5 v14 x14, pt g2 41 ([(.int .i64 x1.1.Lsn), (.int .i64 x1.1.Tx), (.int .i64 x1.1.Prev), (.int .i64 x1.1.Kind), (.int .i64 x1.1.Oid), (.bool x1.1.Before.Has), (.int .i64 x1.1.Before.O.Kind), v9, v10, (.bool x1.1.After.Has), (.int .i64 x1.1.After.O.Kind), v11, v12, (.int .i64 x1.1.Next), v13]), pt g1 41 ([(.int .i64 x2.1.Lsn), (.int .i64 x2.1.Tx), (.int .i64 x2.1.Prev), (.int .i64 x2.1.Kind), (.int .i64 x2.1.Oid), (.bool x2.1.Before.Has), (.int .i64 x2.1.Before.O.Kind), v3, v4, (.bool x2.1.After.Has), (.int .i64 x2.1.After.O.Kind), v5, v6, (.int .i64 x2.1.Next), v7]), Ow (Kd.int .u8) 5 v2 x11] := hS
                refine stp hF (p_not rfl) (by decide) (fun a hF => ?_)
                refine stp hF (p_move rfl) (by decide) (fun a hF => ?_)
                refine cutj 4 (fun a w => St e s31 w [Ow (Kd.int .i64) 3 v16 x8.1.Before.O.Ints, Ow (Kd.int .i64) 3 v17 x8.1.Before.O.Refs, Ow (Kd.int .i64) 3 v18 x8.1.After.O.Ints, Ow (Kd.int .i64) 3 v19 x8.1.After.O.Refs, Ow kTLive 91 v20 x8.1.Txs, Ow (Kd.int .i64) 3 v3 x2.1.Before.O.Ints, Ow (Kd.int .i64) 3 v4 x2.1.Before.O.Refs, Ow (Kd.int .i64) 3 v5 x2.1.After.O.Ints, Ow (Kd.int .i64) 3 v6 x2.1.After.O.Refs, Ow kTLive 91 v7 x2.1.Txs, pt g3 41 ([(.int .i64 x8.1.Lsn), (.int .i64 x8.1.Tx), (.int .i64 x8.1.Prev), (.int .i64 x8.1.Kind), (.int .i64 x8.1.Oid), (.bool x8.1.Before.Has), (.int .i64 x8.1.Before.O.Kind), v16, v17, (.bool x8.1.After.Has), (.int .i64 x8.1.After.O.Kind), v18, v19, (.int .i64 x8.1.Next), v20]), Ow (Kd.int .u8) 5 v15 x7, Ow (Kd.int .i64) 3 v9 x5.2.1, Ow (Kd.int .i64) 3 v10 x5.2.2.1, Ow (Kd.int .i64) 3 v11 x5.2.2.2.1, Ow (Kd.int .i64) 3 v12 x5.2.2.2.2.1, Ow kTLive 91 v13 x5.2.2.2.2.2, Ow (Kd.int .u8) 5 v8 x16.2, Ow (Kd.int .u8) 5 v14 x14, pt g2 41 ([(.int .i64 x1.1.Lsn), (.int .i64 x1.1.Tx), (.int .i64 x1.1.Prev), (.int .i64 x1.1.Kind), (.int .i64 x1.1.Oid), (.bool x1.1.Before.Has), (.int .i64 x1.1.Before.O.Kind), v9, v10, (.bool x1.1.After.Has), (.int .i64 x1.1.After.O.Kind), v11, v12, (.int .i64 x1.1.Next), v13]), pt g1 41 ([(.int .i64 x2.1.Lsn), (.int .i64 x2.1.Tx), (.int .i64 x2.1.Prev), (.int .i64 x2.1.Kind), (.int .i64 x2.1.Oid), (.bool x2.1.Before.Has), (.int .i64 x2.1.Before.O.Kind), v3, v4, (.bool x2.1.After.Has), (.int .i64 x2.1.After.O.Kind), v5, v6, (.int .i64 x2.1.Next), v7]), Ow (Kd.int .u8) 5 v2 x11] ∧ Fr 93 a [(6, (.pointer (some ⟨g2, 0, none⟩))), (9, (.int .i64 x5.1)), (84, (.bool ((!x9) || (x8.2 != x2.2))))]) rfl rfl ?_ ?_
                · rcases Bool.eq_false_or_eq_true ((!x9)) with hc10 | hc10
                  · skip
                    refine gofD (j := 4) hF rfl rfl (by rw [hc10]; decide) (by decide) (fun a hF => ?_)
                    refine gofD (j := 4) hF rfl rfl (by rw [hc10]; decide) (by decide) (fun a hF => ?_)
                    refine gofD (j := 4) hF rfl rfl (by rw [hc10]; decide) (by decide) (fun a hF => ?_)
                    refine stp hF (p_orT (x8.2 != x2.2) rfl hc10 rfl) (by decide) (fun a hF => ?_)
                    refine nilN ?_
                    refine xn ?_
                    exact ⟨hS, hF.cut ⟨rfl, rfl, rfl, trivial⟩⟩
                  · skip
                    refine gonE (j := 4) hF rfl rfl hc10 ?_
                    refine stp hF (p_move rfl) (by decide) (fun a hF => ?_)
                    refine gonE (j := 4) hF rfl rfl hc10 ?_
                    refine stp hF (p_move rfl) (by decide) (fun a hF => ?_)
                    refine gonE (j := 4) hF rfl rfl hc10 ?_
                    refine stp hF (p_neb un_4 rfl rfl) (by decide) (fun a hF => ?_)
                    refine stp hF (p_orF rfl hc10 rfl) (by decide) (fun a hF => ?_)
                    refine nilN ?_
                    refine xn ?_
                    exact ⟨hS, hF.cut ⟨rfl, rfl, rfl, trivial⟩⟩
                clear hS hF
                rintro a w ⟨hS, hF⟩
                refine nilN ?_
                refine xn ?_
                refine cnd hF rfl (fun hc11 => ?_) (fun hc11 => ?_)
                · replace H := hbt hc11 H
                  refine sq ?_
                  refine rg ?_
                  refine stp hF (p_assign rfl) (by decide) (fun a hF => ?_)
                  refine nilN ?_
                  refine xn ?_
                  refine rt ?_
                  refine xr ?_
                  obtain rfl := hsm H
                  replace hS := hS.sel (is := []) (A' := []) rfl
                  exact ret1 hF rfl rfl hS ⟨rfl, rfl⟩
                · replace H := hbf hc11 H
                  refine skN ?_
                  refine xn ?_
                  refine sq ?_
                  refine rg ?_
                  refine stp hF (p_assign rfl) (by decide) (fun a hF => ?_)
                  refine nilN ?_
                  refine xn ?_
                  refine sq ?_
                  refine rg ?_
                  refine stp hF (p_ldb_agg (i := 19) (l := []) (m := [(.int .i64 x1.1.Lsn), (.int .i64 x1.1.Tx), (.int .i64 x1.1.Prev), (.int .i64 x1.1.Kind), (.int .i64 x1.1.Oid), (.bool x1.1.Before.Has), (.int .i64 x1.1.Before.O.Kind), v9, v10, (.bool x1.1.After.Has), (.int .i64 x1.1.After.O.Kind), v11, v12, (.int .i64 x1.1.Next), v13]) (r := []) hS rfl rfl ia_41 ti_41 rfl rfl rfl) (by decide) (fun a hF => ?_)
                  refine stp hF (p_move rfl) (by decide) (fun a hF => ?_)
                  replace hS := hS.sel (is := [12, 12, 12, 12, 12, 0, 0, 0, 0, 0, 0, 0, 0, 0, 0, 0, 0, 0, 0, 0, 0, 0]) (A' := [Ow (Kd.int .i64) 3 v9 x5.2.1, Ow (Kd.int .i64) 3 v10 x5.2.2.1, Ow (Kd.int .i64) 3 v11 x5.2.2.2.1, Ow (Kd.int .i64) 3 v12 x5.2.2.2.2.1, Ow kTLive 91 v13 x5.2.2.2.2.2, Ow (Kd.int .i64) 3 v16 x8.1.Before.O.Ints, Ow (Kd.int .i64) 3 v17 x8.1.Before.O.Refs, Ow (Kd.int .i64) 3 v18 x8.1.After.O.Ints, Ow (Kd.int .i64) 3 v19 x8.1.After.O.Refs, Ow kTLive 91 v20 x8.1.Txs, Ow (Kd.int .i64) 3 v3 x2.1.Before.O.Ints, Ow (Kd.int .i64) 3 v4 x2.1.Before.O.Refs, Ow (Kd.int .i64) 3 v5 x2.1.After.O.Ints, Ow (Kd.int .i64) 3 v6 x2.1.After.O.Refs, Ow kTLive 91 v7 x2.1.Txs, pt g3 41 ([(.int .i64 x8.1.Lsn), (.int .i64 x8.1.Tx), (.int .i64 x8.1.Prev), (.int .i64 x8.1.Kind), (.int .i64 x8.1.Oid), (.bool x8.1.Before.Has), (.int .i64 x8.1.Before.O.Kind), v16, v17, (.bool x8.1.After.Has), (.int .i64 x8.1.After.O.Kind), v18, v19, (.int .i64 x8.1.Next), v20]), Ow (Kd.int .u8) 5 v15 x7, Ow (Kd.int .u8) 5 v8 x16.2, Ow (Kd.int .u8) 5 v14 x14, pt g2 41 ([(.int .i64 x1.1.Lsn), (.int .i64 x1.1.Tx), (.int .i64 x1.1.Prev), (.int .i64 x1.1.Kind), (.int .i64 x1.1.Oid), (.bool x1.1.Before.Has), (.int .i64 x1.1.Before.O.Kind), v9, v10, (.bool x1.1.After.Has), (.int .i64 x1.1.After.O.Kind), v11, v12, (.int .i64 x1.1.Next), v13]), pt g1 41 ([(.int .i64 x2.1.Lsn), (.int .i64 x2.1.Tx), (.int .i64 x2.1.Prev), (.int .i64 x2.1.Kind), (.int .i64 x2.1.Oid), (.bool x2.1.Before.Has), (.int .i64 x2.1.Before.O.Kind), v3, v4, (.bool x2.1.After.Has), (.int .i64 x2.1.After.O.Kind), v5, v6, (.int .i64 x2.1.Next), v7]), Ow (Kd.int .u8) 5 v2 x11]) rfl
                  obtain ⟨s33, hg24, hl9, hcall9⟩ := St.lend (P := Try.prog) (Bs := [Ow (Kd.int .i64) 3 v9 x5.2.1, Ow (Kd.int .i64) 3 v10 x5.2.2.1, Ow (Kd.int .i64) 3 v11 x5.2.2.2.1, Ow (Kd.int .i64) 3 v12 x5.2.2.2.2.1, Ow kTLive 91 v13 x5.2.2.2.2.2]) (A := []) (B := [Ow (Kd.int .i64) 3 v16 x8.1.Before.O.Ints, Ow (Kd.int .i64) 3 v17 x8.1.Before.O.Refs, Ow (Kd.int .i64) 3 v18 x8.1.After.O.Ints, Ow (Kd.int .i64) 3 v19 x8.1.After.O.Refs, Ow kTLive 91 v20 x8.1.Txs, Ow (Kd.int .i64) 3 v3 x2.1.Before.O.Ints, Ow (Kd.int .i64) 3 v4 x2.1.Before.O.Refs, Ow (Kd.int .i64) 3 v5 x2.1.After.O.Ints, Ow (Kd.int .i64) 3 v6 x2.1.After.O.Refs, Ow kTLive 91 v7 x2.1.Txs, pt g3 41 ([(.int .i64 x8.1.Lsn), (.int .i64 x8.1.Tx), (.int .i64 x8.1.Prev), (.int .i64 x8.1.Kind), (.int .i64 x8.1.Oid), (.bool x8.1.Before.Has), (.int .i64 x8.1.Before.O.Kind), v16, v17, (.bool x8.1.After.Has), (.int .i64 x8.1.After.O.Kind), v18, v19, (.int .i64 x8.1.Next), v20]), Ow (Kd.int .u8) 5 v15 x7, Ow (Kd.int .u8) 5 v8 x16.2, Ow (Kd.int .u8) 5 v14 x14, pt g2 41 ([(.int .i64 x1.1.Lsn), (.int .i64 x1.1.Tx), (.int .i64 x1.1.Prev), (.int .i64 x1.1.Kind), (.int .i64 x1.1.Oid), (.bool x1.1.Before.Has), (.int .i64 x1.1.Before.O.Kind), v9, v10, (.bool x1.1.After.Has), (.int .i64 x1.1.After.O.Kind), v11, v12, (.int .i64 x1.1.Next), v13]), pt g1 41 ([(.int .i64 x2.1.Lsn), (.int .i64 x2.1.Tx), (.int .i64 x2.1.Prev), (.int .i64 x2.1.Kind), (.int .i64 x2.1.Oid), (.bool x2.1.Before.Has), (.int .i64 x2.1.Before.O.Kind), v3, v4, (.bool x2.1.After.Has), (.int .i64 x2.1.After.O.Kind), v5, v6, (.int .i64 x2.1.Next), v7]), Ow (Kd.int .u8) 5 v2 x11]) hS
                  obtain ⟨h42, hl9⟩ := hl9.ow hg24
                  obtain ⟨h43, hl9⟩ := hl9.ow hg24
                  obtain ⟨h44, hl9⟩ := hl9.ow hg24
                  obtain ⟨h45, hl9⟩ := hl9.ow hg24
                  obtain ⟨h46, hl9⟩ := hl9.ow hg24
                  obtain ⟨x10, hx15, H⟩ := hb H
                  refine ste hF (e_callA (fst := []) (vs := [(.agg #[(.int .i64 x1.1.Lsn), (.int .i64 x1.1.Tx), (.int .i64 x1.1.Prev), (.int .i64 x1.1.Kind), (.int .i64 x1.1.Oid), (.bool x1.1.Before.Has), (.int .i64 x1.1.Before.O.Kind), v9, v10, (.bool x1.1.After.Has), (.int .i64 x1.1.After.O.Kind), v11, v12, (.int .i64 x1.1.Next), v13]), (.int .i64 1)]) (cap := []) rfl rfl go_45 (hcall9 (laws_heldRec.spec k _ _ (⟨x1.1.Lsn, x1.1.Tx, x1.1.Prev, x1.1.Kind, x1.1.Oid, (⟨x1.1.Before.Has, (⟨x1.1.Before.O.Kind, x5.2.1, x5.2.2.1⟩ : TObj)⟩ : TSlot), (⟨x1.1.After.Has, (⟨x1.1.After.O.Kind, x5.2.2.2.1, x5.2.2.2.2.1⟩ : TObj)⟩ : TSlot), x1.1.Next, x5.2.2.2.2.2⟩ : TRec) 1 v9 v10 v11 v12 v13 h42 h43 h44 h45 h46 _ hx15) (by rintro v s1 A1 ⟨rfl, rfl⟩; exact trivial)) rfl) (by decide) (fun v w a hR hF => ?_)
                  obtain ⟨s34, s35, A16, hg25, hS, hR⟩ := hR
                  obtain ⟨hv15, rfl⟩ := hR; obtain rfl := hv15.symm
                  have hS : St e s34 w [Ow (Kd.int .i64) 3 v9 x5.2.1, Ow (Kd.int .i64) 3 v10 x5.2.2.1, Ow (Kd.int .i64) 3 v11 x5.2.2.2.1, Ow (Kd.int .i64) 3 v12 x5.2.2.2.2.1, Ow kTLive 91 v13 x5.2.2.2.2.2, Ow (Kd.int .i64) 3 v16 x8.1.Before.O.Ints, Ow (Kd.int .i64) 3 v17 x8.1.Before.O.Refs, Ow (Kd.int .i64) 3 v18 x8.1.After.O.Ints, Ow (Kd.int .i64) 3 v19 x8.1.After.O.Refs, Ow kTLive 91 v20 x8.1.Txs, Ow (Kd.int .i64) 3 v3 x2.1.Before.O.Ints, Ow (Kd.int .i64) 3 v4 x2.1.Before.O.Refs, Ow (Kd.int .i64) 3 v5 x2.1.After.O.Ints, Ow (Kd.int .i64) 3 v6 x2.1.After.O.Refs, Ow kTLive 91 v7 x2.1.Txs, pt g3 41 ([(.int .i64 x8.1.Lsn), (.int .i64 x8.1.Tx), (.int .i64 x8.1.Prev), (.int .i64 x8.1.Kind), (.int .i64 x8.1.Oid), (.bool x8.1.Before.Has), (.int .i64 x8.1.Before.O.Kind), v16, v17, (.bool x8.1.After.Has), (.int .i64 x8.1.After.O.Kind), v18, v19, (.int .i64 x8.1.Next), v20]), Ow (Kd.int .u8) 5 v15 x7, Ow (Kd.int .u8) 5 v8 x16.2, Ow (Kd.int .u8) 5 v14 x14, pt g2 41 ([(.int .i64 x1.1.Lsn), (.int .i64 x1.1.Tx), (.int .i64 x1.1.Prev), (.int .i64 x1.1.Kind), (.int .i64 x1.1.Oid), (.bool x1.1.Before.Has), (.int .i64 x1.1.Before.O.Kind), v9, v10, (.bool x1.1.After.Has), (.int .i64 x1.1.After.O.Kind), v11, v12, (.int .i64 x1.1.Next), v13]), pt g1 41 ([(.int .i64 x2.1.Lsn), (.int .i64 x2.1.Tx), (.int .i64 x2.1.Prev), (.int .i64 x2.1.Kind), (.int .i64 x2.1.Oid), (.bool x2.1.Before.Has), (.int .i64 x2.1.Before.O.Kind), v3, v4, (.bool x2.1.After.Has), (.int .i64 x2.1.After.O.Kind), v5, v6, (.int .i64 x2.1.Next), v7]), Ow (Kd.int .u8) 5 v2 x11] := hS
                  refine stp hF (p_assign rfl) (by decide) (fun a hF => ?_)
                  refine nilN ?_
                  refine xn ?_
                  refine sq ?_
                  refine sq ?_
                  refine rg ?_
                  refine stp hF (p_move rfl) (by decide) (fun a hF => ?_)
                  refine stp hF (p_lss rfl rfl) (by decide) (fun a hF => ?_)
                  refine nilN ?_
                  refine xn ?_
                  refine cnd hF rfl (fun hc12 => ?_) (fun hc12 => ?_)
                  · replace H := hbt hc12 H
                    refine sq ?_
                    refine rg ?_
                    refine stp hF (p_assign rfl) (by decide) (fun a hF => ?_)
                    refine nilN ?_
                    refine xn ?_
                    refine rt ?_
                    refine xr ?_
                    obtain rfl := hsm H
                    replace hS := hS.sel (is := []) (A' := []) rfl
                    exact ret1 hF rfl rfl hS ⟨rfl, rfl⟩
                  · replace H := hbf hc12 H
                    refine skN ?_
                    refine xn ?_
                    refine sq ?_
                    refine sq ?_
                    refine rg ?_
                    refine stp hF (p_move rfl) (by decide) (fun a hF => ?_)
                    refine stp hF (p_move rfl) (by decide) (fun a hF => ?_)
                    refine stp hF (p_neq rfl rfl) (by decide) (fun a hF => ?_)
                    refine nilN ?_
                    refine xn ?_
                    refine cnd hF rfl (fun hc13 => ?_) (fun hc13 => ?_)
                    · replace H := hbt hc13 H
                      refine sq ?_
                      refine rg ?_
                      refine stp hF (p_assign rfl) (by decide) (fun a hF => ?_)
                      refine nilN ?_
                      refine xn ?_
                      refine rt ?_
                      refine xr ?_
                      obtain rfl := hsm H
                      replace hS := hS.sel (is := []) (A' := []) rfl
                      exact ret1 hF rfl rfl hS ⟨rfl, rfl⟩
                    · replace H := hbf hc13 H
                      refine skN ?_
                      refine xn ?_
                      refine sq ?_
                      refine rg ?_
                      refine stp hF (p_assign rfl) (by decide) (fun a hF => ?_)
                      refine nilN ?_
                      refine xn ?_
                      refine rt ?_
                      obtain rfl := hsm H
                      replace hS := hS.sel (is := []) (A' := []) rfl
                      exact ret1 hF rfl rfl hS ⟨rfl, rfl⟩
end Go.Proofs.Ytocknibhajihmaa
