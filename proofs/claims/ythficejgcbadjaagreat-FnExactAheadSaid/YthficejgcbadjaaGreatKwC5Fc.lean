/- Functions of this place as plain functions, and that the machine comes to what they say. Conditions: none. -/
import Derived.Test.YthficejgcbadjaaGreatKwC5Fb
set_option linter.unusedVariables false
set_option linter.unusedSimpArgs false
namespace Go.Proofs.YthficejgcbadjaaGreat
open Go.Kw

def spec_Ahead.c1 (k : Nat) : Option Bool :=
  (some true)
def spec_Ahead.l1 (x1 : TEngine) : Nat → Int → Option (Ex Bool Unit)
  | 0, _ => none
  | k + 1, x2 => (if (decide (x2 < (x1.Pool.Seats.length : Int))) = true then (if 0 ≤ x2 ∧ x2 < (x1.Pool.Seats.length : Int) then ((spec_l15Made.f k x1.Log ((rd x1.Pool.Seats x2).No) (((rd x1.Pool.Seats x2).P).Lsn)).bind fun x3 => ((spec_l7SamePage.f k ((rd x1.Pool.Seats x2).P) x3).bind fun x4 => (if (!x4) = true then (some (Ex.ret false)) else ((spec_Ahead.l1 x1 k) (w64 (x2 + 1)))))) else none) else (some (Ex.go ())))
def spec_Ahead.c2 (k : Nat) (x1 : TEngine) : Option Bool :=
  (((spec_Ahead.l1 x1 k 0) : Option (Ex Bool Unit)).bind fun x5 => Ex.on x5 (fun r => some r) (fun y => spec_Ahead.c1 k))
def spec_Ahead.l2 (x1 : TEngine) : Nat → Int → Option (Ex Bool Unit)
  | 0, _ => none
  | k + 1, x6 => (if (decide (x6 < 8)) = true then (if 0 ≤ x6 ∧ x6 < 8 then (if 0 ≤ x6 ∧ x6 < 8 then ((spec_l15Made.f k x1.Log x6 ((rd x1.Disk x6).Lsn)).bind fun x7 => ((spec_l7SamePage.f k (rd x1.Disk x6) x7).bind fun x8 => (if (!x8) = true then (some (Ex.ret false)) else ((spec_Ahead.l2 x1 k) (w64 (x6 + 1)))))) else none) else none) else (some (Ex.go ())))
def spec_Ahead.f (k : Nat) (x1 : TEngine) : Option Bool :=
  (((spec_Ahead.l2 x1 k 0) : Option (Ex Bool Unit)).bind fun x9 => Ex.on x9 (fun r => some r) (fun y => spec_Ahead.c2 k x1))
set_option maxRecDepth 100000 in
set_option maxHeartbeats 4000000 in
theorem spec_Ahead.spec (k : Nat) (s0 : HF) (w : World) (x1 : TEngine) (c3 : List Value) (v1 : Value) (v2 : Value) (v3 : Value) (v4 : Value) (h1 : ((Kd.arr 8 kTPage)).K s0 x1.Disk c3) (h2 : Sl kTSeat s0 v1 x1.Pool.Seats) (h3 : Sl kTRec s0 v2 x1.Log.Recs) (h4 : Sl kTLive s0 v3 x1.Txs) (h5 : Sl kTHold s0 v4 x1.Holds) (r : Bool) (H : spec_Ahead.f k x1 = some r) :
    Law Tryz.prog 8 #[(.agg (c3 ++ [v1, (.int .i64 x1.Pool.Hand), v2, (.int .i64 x1.Log.Sure), v3, v4, (.int .i64 x1.Next), (.bool x1.Down)] : List Value).toArray)] s0 w [] (fun v s1 A1 => v = (.bool r) ∧ A1 = []) := by
  unfold spec_Ahead.f at H
  refine Law.intro Tryz.func8 rfl [(0, (.agg (c3 ++ [v1, (.int .i64 x1.Pool.Hand), v2, (.int .i64 x1.Log.Sure), v3, v4, (.int .i64 x1.Next), (.bool x1.Down)] : List Value).toArray))] (Nat.le_of_ble_eq_true rfl) (enter_lk ⟨rfl, trivial⟩) (fun e a hS hF => ?_)
  have hF : Fr 51 a [(0, (.agg (c3 ++ [v1, (.int .i64 x1.Pool.Hand), v2, (.int .i64 x1.Log.Sure), v3, v4, (.int .i64 x1.Next), (.bool x1.Down)] : List Value).toArray))] := hF
  refine sq ?_
  refine rg ?_
  refine ste hF (e_box (cs := c3 ++ [v1, (.int .i64 x1.Pool.Hand), v2, (.int .i64 x1.Log.Sure), v3, v4, (.int .i64 x1.Next), (.bool x1.Down)]) hS rfl rfl) (by decide) (fun v w a hR hF => ?_)
  obtain ⟨g1, rfl, hS⟩ := hR
  refine stp hF (p_assign rfl) (by decide) (fun a hF => ?_)
  refine nilN ?_
  refine xn ?_
  obtain ⟨x9, H, HK1⟩ := hb H
  refine sqj (fun a w => ∃ (s2 : HF) , St e s2 w [pt g1 59 (c3 ++ [v1, (.int .i64 x1.Pool.Hand), v2, (.int .i64 x1.Log.Sure), v3, v4, (.int .i64 x1.Next), (.bool x1.Down)])] ∧ Fr 51 a [(1, (.pointer (some ⟨g1, 0, none⟩)))] ∧ Sub s0 s2 ∧ spec_Ahead.c2 k x1 = some r) ?_ ?_
  · skip
    refine sq ?_
    refine rg ?_
    refine stp hF (p_assign rfl) (by decide) (fun a hF => ?_)
    refine nilN ?_
    refine xn ?_
    refine blk ?_
    refine loop_ind (fun k1 a w => ∃ (x6 : Int) (s3 : HF) , St e s3 w [pt g1 59 (c3 ++ [v1, (.int .i64 x1.Pool.Hand), v2, (.int .i64 x1.Log.Sure), v3, v4, (.int .i64 x1.Next), (.bool x1.Down)])] ∧ Fr 51 a [(1, (.pointer (some ⟨g1, 0, none⟩))), (3, (.int .i64 x6))] ∧ Sub s0 s3 ∧ spec_Ahead.l2 x1 k1 x6 = some x9) k ?_ ?_ ?_
    · skip
      exact ⟨0, s0, hS, hF.cut ⟨rfl, rfl, trivial⟩, (Sub.refl _), H⟩
    · clear H hS hF
      rintro a w ⟨x6, s3, hS, hF, hg1, H⟩
      exact absurd (show none = some _ from H) (by simp)
    · clear H hS hF
      rintro k1 a w ⟨x6, s3, hS, hF, hg1, H⟩
      rw [spec_Ahead.l2.eq_2] at H
      refine sq ?_
      refine sq ?_
      refine rg ?_
      refine stp hF (p_move rfl) (by decide) (fun a hF => ?_)
      refine stp hF (p_lss rfl rfl) (by decide) (fun a hF => ?_)
      refine nilN ?_
      refine xn ?_
      refine cnd hF rfl (fun hc1 => ?_) (fun hc1 => ?_)
      · replace H := hbt hc1 H
        refine skN ?_
        refine xn ?_
        refine sq ?_
        refine blk ?_
        refine sq ?_
        replace hS : St e s3 w.drew [pt g1 59 (c3 ++ [v1, (.int .i64 x1.Pool.Hand), v2, (.int .i64 x1.Log.Sure), v3, v4, (.int .i64 x1.Next), (.bool x1.Down)])] := hS.drewN 1
        refine drw [0, 1, 2, 3, 4, 5, 6, 7, 8, 9, 10, 11, 12, 13, 14] mixed (by kernel_rfl) (by decide) (hF.cut (L' := [(1, (.pointer (some ⟨g1, 0, none⟩))), (3, (.int .i64 x6)), (6, (.int .i64 x6)), (7, (.bool (decide (x6 < 8))))]) ⟨rfl, rfl, rfl, rfl, trivial⟩) ?_
        clear hF
        generalize w.drew = w at hS ⊢
        refine pk1 rfl (by decide) rfl (by kernel_rfl) rfl (p_move rfl) ?_
        refine pk1 rfl (by decide) rfl (by kernel_rfl) rfl (p_fldb (o' := 0) rfl fi_59_0 rfl) ?_
        obtain ⟨hq1, H⟩ := hck H
        refine pk1 rfl (by decide) rfl (by kernel_rfl) rfl (p_idxb rfl rfl un_49 ti_48 hq1.1 hq1.2) ?_
        obtain ⟨c4, h6, p1⟩ := p_ldba_agg (P := Tryz.prog) (T := 59) (b := g1) (all := c3 ++ [v1, (.int .i64 x1.Pool.Hand), v2, (.int .i64 x1.Log.Sure), v3, v4, (.int .i64 x1.Next), (.bool x1.Down)]) (l := []) (cs := c3) (r := [v1, (.int .i64 x1.Pool.Hand), v2, (.int .i64 x1.Log.Sure), v3, v4, (.int .i64 x1.Next), (.bool x1.Down)]) (base := 0) (by simp) ((Kd.arr 8 kTPage).mono hg1 h1) (Lens.idx 8 kTPage x6 hq1.1 hq1.2) rfl rfl ia_48 ti_48
        obtain ⟨c5, rfl, h7⟩ := kTPage_open h6
        refine pk1 rfl (by decide) rfl (by kernel_rfl) rfl (p1 (n := 0) hS rfl rfl) ?_
        refine pk1 rfl (by decide) rfl (by kernel_rfl) rfl (p_fldb (o' := 138) rfl fi_59_2 rfl) ?_
        refine pk1 rfl (by decide) rfl (by kernel_rfl) rfl (p_ldb_agg (i := 0) (l := c3 ++ [v1, (.int .i64 x1.Pool.Hand)]) (m := [v2, (.int .i64 x1.Log.Sure)]) (r := [v3, v4, (.int .i64 x1.Next), (.bool x1.Down)]) hS rfl rfl ia_55 ti_55 (by simp) (by simp [(show c3.length = 136 from Kd.len _ ((Kd.arr 8 kTPage).mono hg1 h1))]) (by simp [(show c3.length = 136 from Kd.len _ ((Kd.arr 8 kTPage).mono hg1 h1))])) ?_
        refine pk1 rfl (by decide) rfl (by kernel_rfl) rfl (p_move rfl) ?_
        refine pk1 rfl (by decide) rfl (by kernel_rfl) rfl (p_move rfl) ?_
        refine pk1 rfl (by decide) rfl (by kernel_rfl) rfl (p_fldb (o' := 0) rfl fi_59_0 rfl) ?_
        obtain ⟨hq2, H⟩ := hck H
        refine pk1 rfl (by decide) rfl (by kernel_rfl) rfl (p_idxb rfl rfl un_49 ti_48 hq2.1 hq2.2) ?_
        refine pk1 rfl (by decide) rfl (by kernel_rfl) rfl (p_fldb (o' := ((0 + x6.toNat * 17) + 0)) rfl fi_48_0 rfl) ?_
        obtain ⟨u1, h8, p2⟩ := p_ldba_one (P := Tryz.prog) (T := 59) (b := g1) (all := c3 ++ [v1, (.int .i64 x1.Pool.Hand), v2, (.int .i64 x1.Log.Sure), v3, v4, (.int .i64 x1.Next), (.bool x1.Down)]) (l := []) (cs := c3) (r := [v1, (.int .i64 x1.Pool.Hand), v2, (.int .i64 x1.Log.Sure), v3, v4, (.int .i64 x1.Next), (.bool x1.Down)]) (base := 0) (by simp) ((Kd.arr 8 kTPage).mono hg1 h1) ((Lens.idx 8 kTPage x6 hq2.1 hq2.2).comp kTPage_Lsn) rfl ((Nat.add_assoc _ _ _).symm.trans (congrArg (· + 0) rfl)) ia_3 rfl
        obtain rfl : u1 = .int .i64 ((rd x1.Disk x6).Lsn) := by injection h8
        refine pk1 rfl (by decide) rfl (by kernel_rfl) rfl (p2 (n := 0) hS rfl rfl) ?_
        obtain ⟨x7, hx1, H⟩ := hb H
        refine pkE [10, 9, 8, 7, 4, 3, 2, 1, 0] rfl (by decide) (by kernel_rfl) (by kernel_rfl) (e_callA (fst := []) (vs := [(.agg #[v2, (.int .i64 x1.Log.Sure)]), (.int .i64 x6), (.int .i64 ((rd x1.Disk x6).Lsn))]) (cap := []) rfl rfl go_41 (St.call (A := []) (B := [pt g1 59 (c3 ++ [v1, (.int .i64 x1.Pool.Hand), v2, (.int .i64 x1.Log.Sure), v3, v4, (.int .i64 x1.Next), (.bool x1.Down)])]) hS (spec_l15Made.spec k1 _ _ x1.Log x6 ((rd x1.Disk x6).Lsn) v2 (h3.mono hg1) _ hx1)) rfl) ?_
        intro v w hR
        obtain ⟨s4, A2, hg2, hS, hR⟩ := hR
        obtain ⟨c6, hv1, rfl, h9⟩ := hR; obtain rfl := hv1.symm
        have hS : St e s4 w [pt g1 59 (c3 ++ [v1, (.int .i64 x1.Pool.Hand), v2, (.int .i64 x1.Log.Sure), v3, v4, (.int .i64 x1.Next), (.bool x1.Down)])] := hS
        refine ⟨⟨knw rfl rfl rfl (p_fldb (o' := ((0 + x6.toNat * 17) + 0)) rfl fi_48_0 rfl), ⟨knw rfl rfl rfl (p_idxb rfl rfl un_49 ti_48 hq2.1 hq2.2), ⟨knw rfl rfl rfl (p_fldb (o' := 0) rfl fi_59_0 rfl), ⟨knw rfl rfl rfl (p_move rfl), ⟨knw rfl rfl rfl (p_fldb (o' := 138) rfl fi_59_2 rfl), ⟨knw rfl rfl rfl (p1 (n := 0) hS rfl rfl), ⟨knw rfl rfl rfl (p_idxb rfl rfl un_49 ti_48 hq1.1 hq1.2), ⟨knw rfl rfl rfl (p_fldb (o' := 0) rfl fi_59_0 rfl), ⟨knw rfl rfl rfl (p_move rfl), trivial⟩⟩⟩⟩⟩⟩⟩⟩⟩, ?_⟩
        obtain ⟨x8, hx2, H⟩ := hb H
        refine pkE [10, 9, 8, 7, 4, 2, 1, 0] rfl (by decide) (by kernel_rfl) (by kernel_rfl) (e_callA (fst := []) (vs := [(.agg ([(.int .i64 ((rd x1.Disk x6).Lsn))] ++ c5 : List Value).toArray), (.agg ([(.int .i64 x7.Lsn)] ++ c6 : List Value).toArray)]) (cap := []) rfl rfl go_40 (St.call (A := []) (B := [pt g1 59 (c3 ++ [v1, (.int .i64 x1.Pool.Hand), v2, (.int .i64 x1.Log.Sure), v3, v4, (.int .i64 x1.Next), (.bool x1.Down)])]) hS (spec_l7SamePage.spec k1 _ _ (rd x1.Disk x6) x7 c5 c6 ((Kd.arr 4 kTSlot).mono hg2 h7) h9 _ hx2)) rfl) ?_
        intro v w hR
        obtain ⟨s5, A3, hg3, hS, hR⟩ := hR
        obtain ⟨hv2, rfl⟩ := hR; obtain rfl := hv2.symm
        have hS : St e s5 w [pt g1 59 (c3 ++ [v1, (.int .i64 x1.Pool.Hand), v2, (.int .i64 x1.Log.Sure), v3, v4, (.int .i64 x1.Next), (.bool x1.Down)])] := hS
        refine ⟨⟨knw rfl rfl rfl (p_fldb (o' := ((0 + x6.toNat * 17) + 0)) rfl fi_48_0 rfl), ⟨knw rfl rfl rfl (p_idxb rfl rfl un_49 ti_48 hq2.1 hq2.2), ⟨knw rfl rfl rfl (p_fldb (o' := 0) rfl fi_59_0 rfl), ⟨knw rfl rfl rfl (p_move rfl), ⟨knw rfl rfl rfl (p_fldb (o' := 138) rfl fi_59_2 rfl), ⟨knw rfl rfl rfl (p_idxb rfl rfl un_49 ti_48 hq1.1 hq1.2), ⟨knw rfl rfl rfl (p_fldb (o' := 0) rfl fi_59_0 rfl), ⟨knw rfl rfl rfl (p_move rfl), trivial⟩⟩⟩⟩⟩⟩⟩⟩, ?_⟩
        refine pk1 rfl (by decide) rfl (by kernel_rfl) rfl (p_not rfl) ?_
        refine pkF (fun a hF => ?_)
        refine xn ?_
        refine cnd hF rfl (fun hc2 => ?_) (fun hc2 => ?_)
        · replace H := hbt hc2 H
          refine sq ?_
          refine rg ?_
          refine stp hF (p_assign rfl) (by decide) (fun a hF => ?_)
          refine nilN ?_
          refine xn ?_
          refine rt ?_
          refine br (xr (xr (br (xr ?_))))
          obtain rfl := hsm H
          have H := hon1 HK1
          obtain rfl := hsm H
          replace hS := hS.sel (is := []) (A' := []) rfl
          exact ret1 hF rfl rfl hS ⟨rfl, rfl⟩
        · replace H := hbf hc2 H
          refine skN ?_
          refine bn (xn ?_)
          refine rg ?_
          refine stp hF (p_move rfl) (by decide) (fun a hF => ?_)
          refine stp hF (p_add (c := w64 (x6 + 1)) rfl rfl rfl) (by decide) (fun a hF => ?_)
          refine stp hF (p_assign rfl) (by decide) (fun a hF => ?_)
          refine nilN ?_
          refine xn ?_
          exact ⟨(w64 (x6 + 1)), s5, hS, hF.cut ⟨rfl, rfl, trivial⟩, ((hg1.trans hg2).trans hg3), H⟩
      · replace H := hbf hc1 H
        refine exi ?_
        refine xe (xe (hit (xn ?_)))
        obtain rfl := hsm H
        exact ⟨s3, hS, hF.cut ⟨rfl, trivial⟩, hg1, HK1⟩
  · clear H HK1 hS hF
    rintro a w ⟨s2, hS, hF, hg4, H⟩
    unfold spec_Ahead.c2 at H
    obtain ⟨x5, H, HK2⟩ := hb H
    refine sqj (fun a w => ∃ (s6 : HF) , St e s6 w [pt g1 59 (c3 ++ [v1, (.int .i64 x1.Pool.Hand), v2, (.int .i64 x1.Log.Sure), v3, v4, (.int .i64 x1.Next), (.bool x1.Down)])] ∧ Fr 51 a [] ∧ Sub s2 s6 ∧ spec_Ahead.c1 k = some r) ?_ ?_
    · skip
      refine sq ?_
      refine rg ?_
      refine stp hF (p_assign rfl) (by decide) (fun a hF => ?_)
      refine nilN ?_
      refine xn ?_
      refine blk ?_
      refine loop_ind (fun k2 a w => ∃ (x2 : Int) (s7 : HF) , St e s7 w [pt g1 59 (c3 ++ [v1, (.int .i64 x1.Pool.Hand), v2, (.int .i64 x1.Log.Sure), v3, v4, (.int .i64 x1.Next), (.bool x1.Down)])] ∧ Fr 51 a [(1, (.pointer (some ⟨g1, 0, none⟩))), (4, (.int .i64 x2))] ∧ Sub s2 s7 ∧ spec_Ahead.l1 x1 k2 x2 = some x5) k ?_ ?_ ?_
      · skip
        exact ⟨0, s2, hS, hF.cut ⟨rfl, rfl, trivial⟩, (Sub.refl _), H⟩
      · clear H hS hF
        rintro a w ⟨x2, s7, hS, hF, hg5, H⟩
        exact absurd (show none = some _ from H) (by simp)
      · clear H hS hF
        rintro k2 a w ⟨x2, s7, hS, hF, hg5, H⟩
        rw [spec_Ahead.l1.eq_2] at H
        refine sq ?_
        refine sq ?_
        refine rg ?_
        refine stp hF (p_move rfl) (by decide) (fun a hF => ?_)
        refine stp hF (p_fldb (o' := 136) rfl fi_59_1 rfl) (by decide) (fun a hF => ?_)
        refine stp hF (p_fldb (o' := 136) rfl fi_52_0 rfl) (by decide) (fun a hF => ?_)
        refine stp hF (p_ldb_one (i := 0) (v := v1) hS rfl rfl ia_50 (by simp [(show c3.length = 136 from Kd.len _ ((Kd.arr 8 kTPage).mono hg5 ((Kd.arr 8 kTPage).mono hg4 h1)))])) (by decide) (fun a hF => ?_)
        refine stp hF (p_lenr un_50 rfl ((h2.mono hg4).mono hg5)) (by decide) (fun a hF => ?_)
        refine stp hF (p_lss rfl rfl) (by decide) (fun a hF => ?_)
        refine nilN ?_
        refine xn ?_
        refine cnd hF rfl (fun hc3 => ?_) (fun hc3 => ?_)
        · replace H := hbt hc3 H
          refine skN ?_
          refine xn ?_
          refine sq ?_
          refine blk ?_
          refine sq ?_
          refine rg ?_
          refine stp hF (p_fldb (o' := 136) rfl fi_59_1 rfl) (by decide) (fun a hF => ?_)
          refine stp hF (p_fldb (o' := 136) rfl fi_52_0 rfl) (by decide) (fun a hF => ?_)
          refine stp hF (p_ldb_one (i := 0) (v := v1) hS rfl rfl ia_50 (by simp [(show c3.length = 136 from Kd.len _ ((Kd.arr 8 kTPage).mono hg5 ((Kd.arr 8 kTPage).mono hg4 h1)))])) (by decide) (fun a hF => ?_)
          refine stp hF (p_move rfl) (by decide) (fun a hF => ?_)
          obtain ⟨hq3, H⟩ := hck H
          obtain ⟨ad1, h10, p3⟩ := p_idxr (P := Tryz.prog) (i := x2) ((h2.mono hg4).mono hg5) un_50 ti_105 hq3.1 hq3.2
          refine stp hF (p3 rfl rfl) (by decide) (fun a hF => ?_)
          obtain ⟨c7, h11, p4⟩ := p_ldr_agg (P := Tryz.prog) h10 ia_105 ti_105
          obtain ⟨c8, rfl, h12⟩ := kTSeat_open h11
          refine stp hF (p4 rfl hS.ro) (by decide) (fun a hF => ?_)
          refine ste hF (e_alloc (cs := [(.int .i64 0), (.int .i64 0)] ++ za_46 ++ [(.bool false), (.bool false)]) hS ti_105 rfl) (by decide) (fun v w a hR hF => ?_)
          obtain ⟨g2, rfl, hS⟩ := hR
          refine ste0 hF (e_stb (i := 0) (l := []) (m := [(.int .i64 0), (.int .i64 0)] ++ za_46 ++ [(.bool false), (.bool false)]) (r := []) (m' := [(.int .i64 ((rd x1.Pool.Seats x2).No)), (.int .i64 (((rd x1.Pool.Seats x2).P).Lsn))] ++ c8 ++ [(.bool ((rd x1.Pool.Seats x2).Dirty)), (.bool ((rd x1.Pool.Seats x2).Hot))]) (cs' := [(.int .i64 ((rd x1.Pool.Seats x2).No)), (.int .i64 (((rd x1.Pool.Seats x2).P).Lsn))] ++ c8 ++ [(.bool ((rd x1.Pool.Seats x2).Dirty)), (.bool ((rd x1.Pool.Seats x2).Hot))]) hS rfl rfl rfl ti_105 (by simp) (by simp [zl_46, (show c8.length = 16 from Kd.len _ h12)]) (by simp [zl_46, (show c8.length = 16 from Kd.len _ h12)]) rfl (by simp [zl_46, (show c8.length = 16 from Kd.len _ h12)]) (one_app (one_app (one_cons rfl (one_cons rfl one_nil)) (Kd.one _ h12)) (one_cons rfl (one_cons rfl one_nil))) (by simp)) (fun v w a hR hF => ?_)
          have hS : St e s7 w [pt g2 105 ([(.int .i64 ((rd x1.Pool.Seats x2).No)), (.int .i64 (((rd x1.Pool.Seats x2).P).Lsn))] ++ c8 ++ [(.bool ((rd x1.Pool.Seats x2).Dirty)), (.bool ((rd x1.Pool.Seats x2).Hot))]), pt g1 59 (c3 ++ [v1, (.int .i64 x1.Pool.Hand), v2, (.int .i64 x1.Log.Sure), v3, v4, (.int .i64 x1.Next), (.bool x1.Down)])] := hR
          refine nilN ?_
          refine xn ?_
          refine sq ?_
          replace hS : St e s7 w.drew [pt g2 105 ([(.int .i64 ((rd x1.Pool.Seats x2).No)), (.int .i64 (((rd x1.Pool.Seats x2).P).Lsn))] ++ c8 ++ [(.bool ((rd x1.Pool.Seats x2).Dirty)), (.bool ((rd x1.Pool.Seats x2).Hot))]), pt g1 59 (c3 ++ [v1, (.int .i64 x1.Pool.Hand), v2, (.int .i64 x1.Log.Sure), v3, v4, (.int .i64 x1.Next), (.bool x1.Down)])] := hS.drewN 1
          refine drw [0, 1, 2, 3, 4, 5, 6, 7, 8, 9, 10, 11] mixed (by kernel_rfl) (by decide) (hF.cut (L' := [(1, (.pointer (some ⟨g1, 0, none⟩))), (4, (.int .i64 x2)), (5, (.pointer (some ⟨g2, 0, none⟩))), (25, (.int .i64 x2)), (26, (.pointer (some ⟨g1, 136, none⟩))), (27, (.pointer (some ⟨g1, 136, none⟩))), (28, v1), (29, (.int .i64 (x1.Pool.Seats.length : Int))), (30, (.bool (decide (x2 < (x1.Pool.Seats.length : Int))))), (33, (.pointer (some ⟨g1, 136, none⟩))), (34, (.pointer (some ⟨g1, 136, none⟩))), (35, v1), (36, (.int .i64 x2)), (37, (.pointer (some ad1))), (38, (.agg ([(.int .i64 ((rd x1.Pool.Seats x2).No)), (.int .i64 (((rd x1.Pool.Seats x2).P).Lsn))] ++ c8 ++ [(.bool ((rd x1.Pool.Seats x2).Dirty)), (.bool ((rd x1.Pool.Seats x2).Hot))] : List Value).toArray))]) ⟨rfl, rfl, rfl, rfl, rfl, rfl, rfl, rfl, rfl, rfl, rfl, rfl, rfl, rfl, rfl, trivial⟩) ?_
          clear hF
          generalize w.drew = w at hS ⊢
          refine pk1 rfl (by decide) rfl (by kernel_rfl) rfl (p_fldb (o' := 1) rfl fi_105_1 rfl) ?_
          refine pk1 rfl (by decide) rfl (by kernel_rfl) rfl (p_ldb_agg (i := 0) (l := [(.int .i64 ((rd x1.Pool.Seats x2).No))]) (m := [(.int .i64 (((rd x1.Pool.Seats x2).P).Lsn))] ++ c8) (r := [(.bool ((rd x1.Pool.Seats x2).Dirty)), (.bool ((rd x1.Pool.Seats x2).Hot))]) hS rfl rfl ia_48 ti_48 (by simp) (by simp [(show c8.length = 16 from Kd.len _ h12)]) (by simp [(show c8.length = 16 from Kd.len _ h12)])) ?_
          refine pk1 rfl (by decide) rfl (by kernel_rfl) rfl (p_fldb (o' := 138) rfl fi_59_2 rfl) ?_
          refine pk1 rfl (by decide) rfl (by kernel_rfl) rfl (p_ldb_agg (i := 1) (l := c3 ++ [v1, (.int .i64 x1.Pool.Hand)]) (m := [v2, (.int .i64 x1.Log.Sure)]) (r := [v3, v4, (.int .i64 x1.Next), (.bool x1.Down)]) hS rfl rfl ia_55 ti_55 (by simp) (by simp [(show c3.length = 136 from Kd.len _ ((Kd.arr 8 kTPage).mono hg5 ((Kd.arr 8 kTPage).mono hg4 h1)))]) (by simp [(show c3.length = 136 from Kd.len _ ((Kd.arr 8 kTPage).mono hg5 ((Kd.arr 8 kTPage).mono hg4 h1)))])) ?_
          refine pk1 rfl (by decide) rfl (by kernel_rfl) rfl (p_fldb (o' := 0) rfl fi_105_0 rfl) ?_
          refine pk1 rfl (by decide) rfl (by kernel_rfl) rfl (p_ldb_one (i := 0) hS rfl rfl ia_3 rfl) ?_
          refine pk1 rfl (by decide) rfl (by kernel_rfl) rfl (p_fldb (o' := 1) rfl fi_105_1 rfl) ?_
          refine pk1 rfl (by decide) rfl (by kernel_rfl) rfl (p_fldb (o' := 1) rfl fi_48_0 rfl) ?_
          refine pk1 rfl (by decide) rfl (by kernel_rfl) rfl (p_ldb_one (i := 0) hS rfl rfl ia_3 rfl) ?_
          obtain ⟨x3, hx3, H⟩ := hb H
          refine pkE [7, 6, 4, 2, 1, 0] rfl (by decide) (by kernel_rfl) (by kernel_rfl) (e_callA (fst := []) (vs := [(.agg #[v2, (.int .i64 x1.Log.Sure)]), (.int .i64 ((rd x1.Pool.Seats x2).No)), (.int .i64 (((rd x1.Pool.Seats x2).P).Lsn))]) (cap := []) rfl rfl go_41 (St.call (A := []) (B := [pt g2 105 ([(.int .i64 ((rd x1.Pool.Seats x2).No)), (.int .i64 (((rd x1.Pool.Seats x2).P).Lsn))] ++ c8 ++ [(.bool ((rd x1.Pool.Seats x2).Dirty)), (.bool ((rd x1.Pool.Seats x2).Hot))]), pt g1 59 (c3 ++ [v1, (.int .i64 x1.Pool.Hand), v2, (.int .i64 x1.Log.Sure), v3, v4, (.int .i64 x1.Next), (.bool x1.Down)])]) hS (spec_l15Made.spec k2 _ _ x1.Log ((rd x1.Pool.Seats x2).No) (((rd x1.Pool.Seats x2).P).Lsn) v2 ((h3.mono hg4).mono hg5) _ hx3)) rfl) ?_
          intro v w hR
          obtain ⟨s8, A4, hg6, hS, hR⟩ := hR
          obtain ⟨c9, hv3, rfl, h13⟩ := hR; obtain rfl := hv3.symm
          have hS : St e s8 w [pt g2 105 ([(.int .i64 ((rd x1.Pool.Seats x2).No)), (.int .i64 (((rd x1.Pool.Seats x2).P).Lsn))] ++ c8 ++ [(.bool ((rd x1.Pool.Seats x2).Dirty)), (.bool ((rd x1.Pool.Seats x2).Hot))]), pt g1 59 (c3 ++ [v1, (.int .i64 x1.Pool.Hand), v2, (.int .i64 x1.Log.Sure), v3, v4, (.int .i64 x1.Next), (.bool x1.Down)])] := hS
          refine ⟨⟨knw rfl rfl rfl (p_fldb (o' := 1) rfl fi_48_0 rfl), ⟨knw rfl rfl rfl (p_fldb (o' := 1) rfl fi_105_1 rfl), ⟨knw rfl rfl rfl (p_fldb (o' := 0) rfl fi_105_0 rfl), ⟨knw rfl rfl rfl (p_fldb (o' := 138) rfl fi_59_2 rfl), ⟨knw rfl rfl rfl (p_ldb_agg (i := 0) (l := [(.int .i64 ((rd x1.Pool.Seats x2).No))]) (m := [(.int .i64 (((rd x1.Pool.Seats x2).P).Lsn))] ++ c8) (r := [(.bool ((rd x1.Pool.Seats x2).Dirty)), (.bool ((rd x1.Pool.Seats x2).Hot))]) hS rfl rfl ia_48 ti_48 (by simp) (by simp [(show c8.length = 16 from Kd.len _ ((Kd.arr 4 kTSlot).mono hg6 h12))]) (by simp [(show c8.length = 16 from Kd.len _ ((Kd.arr 4 kTSlot).mono hg6 h12))])), ⟨knw rfl rfl rfl (p_fldb (o' := 1) rfl fi_105_1 rfl), trivial⟩⟩⟩⟩⟩⟩, ?_⟩
          obtain ⟨x4, hx4, H⟩ := hb H
          refine pkE [7, 6, 4, 2, 0] rfl (by decide) (by kernel_rfl) (by kernel_rfl) (e_callA (fst := []) (vs := [(.agg ([(.int .i64 (((rd x1.Pool.Seats x2).P).Lsn))] ++ c8 : List Value).toArray), (.agg ([(.int .i64 x3.Lsn)] ++ c9 : List Value).toArray)]) (cap := []) rfl rfl go_40 (St.call (A := []) (B := [pt g2 105 ([(.int .i64 ((rd x1.Pool.Seats x2).No)), (.int .i64 (((rd x1.Pool.Seats x2).P).Lsn))] ++ c8 ++ [(.bool ((rd x1.Pool.Seats x2).Dirty)), (.bool ((rd x1.Pool.Seats x2).Hot))]), pt g1 59 (c3 ++ [v1, (.int .i64 x1.Pool.Hand), v2, (.int .i64 x1.Log.Sure), v3, v4, (.int .i64 x1.Next), (.bool x1.Down)])]) hS (spec_l7SamePage.spec k2 _ _ ((rd x1.Pool.Seats x2).P) x3 c8 c9 ((Kd.arr 4 kTSlot).mono hg6 h12) h13 _ hx4)) rfl) ?_
          intro v w hR
          obtain ⟨s9, A5, hg7, hS, hR⟩ := hR
          obtain ⟨hv4, rfl⟩ := hR; obtain rfl := hv4.symm
          have hS : St e s9 w [pt g2 105 ([(.int .i64 ((rd x1.Pool.Seats x2).No)), (.int .i64 (((rd x1.Pool.Seats x2).P).Lsn))] ++ c8 ++ [(.bool ((rd x1.Pool.Seats x2).Dirty)), (.bool ((rd x1.Pool.Seats x2).Hot))]), pt g1 59 (c3 ++ [v1, (.int .i64 x1.Pool.Hand), v2, (.int .i64 x1.Log.Sure), v3, v4, (.int .i64 x1.Next), (.bool x1.Down)])] := hS
          refine ⟨⟨knw rfl rfl rfl (p_fldb (o' := 1) rfl fi_48_0 rfl), ⟨knw rfl rfl rfl (p_fldb (o' := 1) rfl fi_105_1 rfl), ⟨knw rfl rfl rfl (p_fldb (o' := 0) rfl fi_105_0 rfl), ⟨knw rfl rfl rfl (p_fldb (o' := 138) rfl fi_59_2 rfl), ⟨knw rfl rfl rfl (p_fldb (o' := 1) rfl fi_105_1 rfl), trivial⟩⟩⟩⟩⟩, ?_⟩
          refine pk1 rfl (by decide) rfl (by kernel_rfl) rfl (p_not rfl) ?_
          refine pkF (fun a hF => ?_)
          refine xn ?_
          refine cnd hF rfl (fun hc4 => ?_) (fun hc4 => ?_)
          · replace H := hbt hc4 H
            refine sq ?_
            refine rg ?_
            refine stp hF (p_assign rfl) (by decide) (fun a hF => ?_)
            refine nilN ?_
            refine xn ?_
            refine rt ?_
            refine br (xr (xr (br (xr ?_))))
            obtain rfl := hsm H
            have H := hon1 HK2
            obtain rfl := hsm H
            replace hS := hS.sel (is := []) (A' := []) rfl
            exact ret1 hF rfl rfl hS ⟨rfl, rfl⟩
          · replace H := hbf hc4 H
            refine skN ?_
            refine bn (xn ?_)
            refine rg ?_
            refine stp hF (p_move rfl) (by decide) (fun a hF => ?_)
            refine stp hF (p_add (c := w64 (x2 + 1)) rfl rfl rfl) (by decide) (fun a hF => ?_)
            refine stp hF (p_assign rfl) (by decide) (fun a hF => ?_)
            refine nilN ?_
            refine xn ?_
            replace hS := hS.sel (is := [1]) (A' := [pt g1 59 (c3 ++ [v1, (.int .i64 x1.Pool.Hand), v2, (.int .i64 x1.Log.Sure), v3, v4, (.int .i64 x1.Next), (.bool x1.Down)])]) rfl
            exact ⟨(w64 (x2 + 1)), s9, hS, hF.cut ⟨rfl, rfl, trivial⟩, ((hg5.trans hg6).trans hg7), H⟩
        · replace H := hbf hc3 H
          refine exi ?_
          refine xe (xe (hit (xn ?_)))
          obtain rfl := hsm H
          exact ⟨s7, hS, hF.cut trivial, hg5, HK2⟩
    · clear H HK2 hS hF
      rintro a w ⟨s6, hS, hF, hg8, H⟩
      unfold spec_Ahead.c1 at H
      refine sq ?_
      refine rg ?_
      refine stp hF (p_assign rfl) (by decide) (fun a hF => ?_)
      refine nilN ?_
      refine xn ?_
      refine rt ?_
      obtain rfl := hsm H
      replace hS := hS.sel (is := []) (A' := []) rfl
      exact ret1 hF rfl rfl hS ⟨rfl, rfl⟩

def impl_emptyPage.f (k : Nat) : Option TPage :=
  (some (⟨0, zv_46⟩ : TPage))
set_option maxRecDepth 100000 in
set_option maxHeartbeats 4000000 in
theorem impl_emptyPage.spec (k : Nat) (s0 : HF) (w : World) (r : TPage) (H : impl_emptyPage.f k = some r) :
    Law Tryz.prog 122 #[] s0 w [] (fun v s1 A1 => ∃ (u0 : List Value), v = (.agg ([(.int .i64 r.Lsn)] ++ u0 : List Value).toArray) ∧ A1 = [] ∧ ((Kd.arr 4 kTSlot)).K s1 r.Slots u0) := by
  unfold impl_emptyPage.f at H
  refine Law.intro Tryz.func122 rfl [] (Nat.le_of_ble_eq_true rfl) (enter_lk trivial) (fun e a hS hF => ?_)
  have hF : Fr 2 a [] := hF
  refine sq ?_
  refine rg ?_
  refine ste hF (e_alloc (cs := [(.int .i64 0)] ++ za_46) hS ti_48 rfl) (by decide) (fun v w a hR hF => ?_)
  obtain ⟨g1, rfl, hS⟩ := hR
  refine nilN ?_
  refine xn ?_
  refine sq ?_
  refine rg ?_
  refine stp hF (p_build (ps := []) (vs := []) (v := (.agg ([(.int .i64 0)] ++ za_46 : List Value).toArray)) rfl (by intro w; kernel_rfl)) (by decide) (fun a hF => ?_)
  refine ste0 hF (e_stb (i := 0) (l := []) (m := [(.int .i64 0)] ++ za_46) (r := []) (m' := [(.int .i64 0)] ++ za_46) (cs' := [(.int .i64 0)] ++ za_46) hS rfl rfl rfl ti_48 (by simp) (by simp [zl_46]) (by simp [zl_46]) rfl (by simp [zl_46]) (one_app (one_cons rfl one_nil) (Kd.one _ (zk_46 s0))) (by simp)) (fun v w a hR hF => ?_)
  have hS : St e s0 w [pt g1 48 ([(.int .i64 0)] ++ za_46)] := hR
  refine nilN ?_
  refine xn ?_
  refine rt ?_
  obtain rfl := hsm H
  have h1 : RvOk Tryz.prog _ w (.cell 0 48) _ := rvC (i := 0) hS rfl (show lk [(0, (.pointer (some ⟨g1, 0, none⟩)))] 0 = _ from rfl) ia_48 ti_48 (by simp [zl_46])
  replace hS := hS.sel (is := []) (A' := []) rfl
  exact retc1 hF rfl h1 hS ⟨za_46, rfl, rfl, (zk_46 s0)⟩

def impl_changes.f (k : Nat) (x1 : TRec) : Option Bool :=
  (some ((decide (x1.Kind = 1)) || (decide (x1.Kind = 4))))
set_option maxRecDepth 100000 in
set_option maxHeartbeats 4000000 in
theorem impl_changes.spec (k : Nat) (s0 : HF) (w : World) (x1 : TRec) (v1 : Value) (v2 : Value) (v3 : Value) (v4 : Value) (v5 : Value) (h1 : Sl (Kd.int .i64) s0 v1 x1.Before.O.Ints) (h2 : Sl (Kd.int .i64) s0 v2 x1.Before.O.Refs) (h3 : Sl (Kd.int .i64) s0 v3 x1.After.O.Ints) (h4 : Sl (Kd.int .i64) s0 v4 x1.After.O.Refs) (h5 : Sl kTLive s0 v5 x1.Txs) (r : Bool) (H : impl_changes.f k x1 = some r) :
    Law Tryz.prog 123 #[(.agg #[(.int .i64 x1.Lsn), (.int .i64 x1.Tx), (.int .i64 x1.Prev), (.int .i64 x1.Kind), (.int .i64 x1.Oid), (.bool x1.Before.Has), (.int .i64 x1.Before.O.Kind), v1, v2, (.bool x1.After.Has), (.int .i64 x1.After.O.Kind), v3, v4, (.int .i64 x1.Next), v5])] s0 w [] (fun v s1 A1 => v = (.bool r) ∧ A1 = []) := by
  unfold impl_changes.f at H
  refine Law.intro Tryz.func123 rfl [(0, (.agg #[(.int .i64 x1.Lsn), (.int .i64 x1.Tx), (.int .i64 x1.Prev), (.int .i64 x1.Kind), (.int .i64 x1.Oid), (.bool x1.Before.Has), (.int .i64 x1.Before.O.Kind), v1, v2, (.bool x1.After.Has), (.int .i64 x1.After.O.Kind), v3, v4, (.int .i64 x1.Next), v5]))] (Nat.le_of_ble_eq_true rfl) (enter_lk ⟨rfl, trivial⟩) (fun e a hS hF => ?_)
  have hF : Fr 11 a [(0, (.agg #[(.int .i64 x1.Lsn), (.int .i64 x1.Tx), (.int .i64 x1.Prev), (.int .i64 x1.Kind), (.int .i64 x1.Oid), (.bool x1.Before.Has), (.int .i64 x1.Before.O.Kind), v1, v2, (.bool x1.After.Has), (.int .i64 x1.After.O.Kind), v3, v4, (.int .i64 x1.Next), v5]))] := hF
  refine sq ?_
  refine rg ?_
  refine ste hF (e_box (cs := [(.int .i64 x1.Lsn), (.int .i64 x1.Tx), (.int .i64 x1.Prev), (.int .i64 x1.Kind), (.int .i64 x1.Oid), (.bool x1.Before.Has), (.int .i64 x1.Before.O.Kind), v1, v2, (.bool x1.After.Has), (.int .i64 x1.After.O.Kind), v3, v4, (.int .i64 x1.Next), v5]) hS rfl rfl) (by decide) (fun v w a hR hF => ?_)
  obtain ⟨g1, rfl, hS⟩ := hR
  refine stp hF (p_assign rfl) (by decide) (fun a hF => ?_)
  refine nilN ?_
  refine xn ?_
  refine sq ?_
  refine rg ?_
  refine stp hF (p_fldb (o' := 3) rfl fi_162_3 rfl) (by decide) (fun a hF => ?_)
  refine stp hF (p_ldb_one (i := 0) hS rfl rfl ia_3 rfl) (by decide) (fun a hF => ?_)
  refine stp hF (p_eql rfl rfl) (by decide) (fun a hF => ?_)
  refine stp hF (p_move rfl) (by decide) (fun a hF => ?_)
  refine cutj 4 (fun a w => St e s0 w [pt g1 162 ([(.int .i64 x1.Lsn), (.int .i64 x1.Tx), (.int .i64 x1.Prev), (.int .i64 x1.Kind), (.int .i64 x1.Oid), (.bool x1.Before.Has), (.int .i64 x1.Before.O.Kind), v1, v2, (.bool x1.After.Has), (.int .i64 x1.After.O.Kind), v3, v4, (.int .i64 x1.Next), v5])] ∧ Fr 11 a [(10, (.bool ((decide (x1.Kind = 1)) || (decide (x1.Kind = 4)))))]) rfl rfl ?_ ?_
  · rcases Bool.eq_false_or_eq_true (decide (x1.Kind = 1)) with hc1 | hc1
    · skip
      refine gofD (j := 3) hF rfl rfl (by rw [hc1]; decide) (by decide) (fun a hF => ?_)
      refine gofD (j := 3) hF rfl rfl (by rw [hc1]; decide) (by decide) (fun a hF => ?_)
      refine gofD (j := 3) hF rfl rfl (by rw [hc1]; decide) (by decide) (fun a hF => ?_)
      refine stp hF (p_orT (decide (x1.Kind = 4)) rfl hc1 rfl) (by decide) (fun a hF => ?_)
      refine nilN ?_
      refine xn ?_
      exact ⟨hS, hF.cut ⟨rfl, trivial⟩⟩
    · skip
      refine gonE (j := 3) hF rfl rfl hc1 ?_
      refine stp hF (p_fldb (o' := 3) rfl fi_162_3 rfl) (by decide) (fun a hF => ?_)
      refine gonE (j := 3) hF rfl rfl hc1 ?_
      refine stp hF (p_ldb_one (i := 0) hS rfl rfl ia_3 rfl) (by decide) (fun a hF => ?_)
      refine gonE (j := 3) hF rfl rfl hc1 ?_
      refine stp hF (p_eql rfl rfl) (by decide) (fun a hF => ?_)
      refine stp hF (p_orF rfl hc1 rfl) (by decide) (fun a hF => ?_)
      refine nilN ?_
      refine xn ?_
      exact ⟨hS, hF.cut ⟨rfl, trivial⟩⟩
  clear hS hF
  rintro a w ⟨hS, hF⟩
  refine stp hF (p_assign rfl) (by decide) (fun a hF => ?_)
  refine nilN ?_
  refine xn ?_
  refine rt ?_
  obtain rfl := hsm H
  replace hS := hS.sel (is := []) (A' := []) rfl
  exact ret1 hF rfl rfl hS ⟨rfl, rfl⟩

def impl_in.f (k : Nat) (x1 : Int) (x2 : Int) (x3 : Int) : Option Bool :=
  (some ((decide (x2 ≤ x1)) && (decide (x1 ≤ x3))))
set_option maxRecDepth 100000 in
set_option maxHeartbeats 4000000 in
theorem impl_in.spec (k : Nat) (s0 : HF) (w : World) (x1 : Int) (x2 : Int) (x3 : Int) (r : Bool) (H : impl_in.f k x1 x2 x3 = some r) :
    Law Tryz.prog 75 #[(.int .i64 x1), (.int .i64 x2), (.int .i64 x3)] s0 w [] (fun v s1 A1 => v = (.bool r) ∧ A1 = []) := by
  unfold impl_in.f at H
  refine Law.intro Tryz.func75 rfl [(0, (.int .i64 x1)), (1, (.int .i64 x2)), (2, (.int .i64 x3))] (Nat.le_of_ble_eq_true rfl) (enter_lk ⟨rfl, rfl, rfl, trivial⟩) (fun e a hS hF => ?_)
  have hF : Fr 15 a [(0, (.int .i64 x1)), (1, (.int .i64 x2)), (2, (.int .i64 x3))] := hF
  refine sq ?_
  refine rg ?_
  refine stp hF (p_assign rfl) (by decide) (fun a hF => ?_)
  refine nilN ?_
  refine xn ?_
  refine sq ?_
  refine rg ?_
  refine stp hF (p_move rfl) (by decide) (fun a hF => ?_)
  refine stp hF (p_move rfl) (by decide) (fun a hF => ?_)
  refine stp hF (p_geq rfl rfl) (by decide) (fun a hF => ?_)
  refine stp hF (p_move rfl) (by decide) (fun a hF => ?_)
  refine cutj 4 (fun a w => St e s0 w [] ∧ Fr 15 a [(14, (.bool ((decide (x2 ≤ x1)) && (decide (x1 ≤ x3)))))]) rfl rfl ?_ ?_
  · rcases Bool.eq_false_or_eq_true (decide (x2 ≤ x1)) with hc1 | hc1
    · skip
      refine gonE (j := 3) hF rfl rfl hc1 ?_
      refine stp hF (p_move rfl) (by decide) (fun a hF => ?_)
      refine gonE (j := 3) hF rfl rfl hc1 ?_
      refine stp hF (p_move rfl) (by decide) (fun a hF => ?_)
      refine gonE (j := 3) hF rfl rfl hc1 ?_
      refine stp hF (p_leq rfl rfl) (by decide) (fun a hF => ?_)
      refine stp hF (p_andT rfl hc1 rfl) (by decide) (fun a hF => ?_)
      refine nilN ?_
      refine xn ?_
      exact ⟨hS, hF.cut ⟨rfl, trivial⟩⟩
    · skip
      refine gofD (j := 3) hF rfl rfl (by rw [hc1]; decide) (by decide) (fun a hF => ?_)
      refine gofD (j := 3) hF rfl rfl (by rw [hc1]; decide) (by decide) (fun a hF => ?_)
      refine gofD (j := 3) hF rfl rfl (by rw [hc1]; decide) (by decide) (fun a hF => ?_)
      refine stp hF (p_andF (decide (x1 ≤ x3)) rfl hc1 rfl) (by decide) (fun a hF => ?_)
      refine nilN ?_
      refine xn ?_
      exact ⟨hS, hF.cut ⟨rfl, trivial⟩⟩
  clear hS hF
  rintro a w ⟨hS, hF⟩
  refine stp hF (p_assign rfl) (by decide) (fun a hF => ?_)
  refine nilN ?_
  refine xn ?_
  refine rt ?_
  obtain rfl := hsm H
  exact ret1 hF rfl rfl hS ⟨rfl, rfl⟩

def impl_ObjOk_1.f (k : Nat) (x1 : Int) : Option Bool :=
  ((impl_in.f k x1 (-1000000) 1000000).bind fun x2 => (some (!x2)))
set_option maxRecDepth 100000 in
set_option maxHeartbeats 4000000 in
theorem impl_ObjOk_1.spec (k : Nat) (s0 : HF) (w : World) (x1 : Int) (r : Bool) (H : impl_ObjOk_1.f k x1 = some r) :
    Law Tryz.prog 299 #[(.int .i64 x1)] s0 w [] (fun v s1 A1 => v = (.bool r) ∧ A1 = []) := by
  unfold impl_ObjOk_1.f at H
  refine Law.intro Tryz.func299 rfl [(0, (.int .i64 x1))] (Nat.le_of_ble_eq_true rfl) (enter_lk ⟨rfl, trivial⟩) (fun e a hS hF => ?_)
  have hF : Fr 6 a [(0, (.int .i64 x1))] := hF
  refine sq ?_
  refine rg ?_
  refine stp hF (p_assign rfl) (by decide) (fun a hF => ?_)
  refine nilN ?_
  refine xn ?_
  refine sq ?_
  refine rg ?_
  refine stp hF (p_move rfl) (by decide) (fun a hF => ?_)
  obtain ⟨x2, hx1, H⟩ := hb H
  refine ste hF (e_callA (fst := []) (vs := [(.int .i64 x1), (.int .i64 (-1000000)), (.int .i64 1000000)]) (cap := []) rfl rfl go_75 (St.call (A := []) (B := []) hS (impl_in.spec k _ _ x1 (-1000000) 1000000 _ hx1)) rfl) (by decide) (fun v w a hR hF => ?_)
  obtain ⟨s2, A2, hg1, hS, hR⟩ := hR
  obtain ⟨hv1, rfl⟩ := hR; obtain rfl := hv1.symm
  have hS : St e s2 w [] := hS
  refine stp hF (p_not rfl) (by decide) (fun a hF => ?_)
  refine stp hF (p_assign rfl) (by decide) (fun a hF => ?_)
  refine nilN ?_
  refine xn ?_
  refine rt ?_
  obtain rfl := hsm H
  exact ret1 hF rfl rfl hS ⟨rfl, rfl⟩

def slices_IndexFunc_1299.c1 (k : Nat) : Option Int :=
  (some (-1))
def slices_IndexFunc_1299.l1 (x1 : (List Int)) : Nat → Int → Option (Ex Int Unit)
  | 0, _ => none
  | k + 1, x2 => (if (decide (x2 < (x1.length : Int))) = true then (if 0 ≤ x2 ∧ x2 < (x1.length : Int) then ((impl_ObjOk_1.f k (rd x1 x2)).bind fun x3 => (if x3 = true then (some (Ex.ret x2)) else ((slices_IndexFunc_1299.l1 x1 k) (w64 (x2 + 1))))) else none) else (some (Ex.go ())))
def slices_IndexFunc_1299.f (k : Nat) (x1 : (List Int)) : Option Int :=
  (((slices_IndexFunc_1299.l1 x1 k 0) : Option (Ex Int Unit)).bind fun x4 => Ex.on x4 (fun r => some r) (fun y => slices_IndexFunc_1299.c1 k))
set_option maxRecDepth 100000 in
set_option maxHeartbeats 4000000 in
theorem slices_IndexFunc_1299.spec (k : Nat) (s0 : HF) (w : World) (x1 : (List Int)) (v1 : Value) (h1 : Sl (Kd.int .i64) s0 v1 x1) (r : Int) (H : slices_IndexFunc_1299.f k x1 = some r) :
    Law Tryz.prog 313 #[v1, (.func (.func 299) #[] #[])] s0 w [] (fun v s1 A1 => v = (.int .i64 r) ∧ A1 = []) := by
  unfold slices_IndexFunc_1299.f at H
  refine Law.intro Tryz.func313 rfl [(0, v1), (1, (.func (.func 299) #[] #[]))] (Nat.le_of_ble_eq_true rfl) (enter_lk ⟨rfl, rfl, trivial⟩) (fun e a hS hF => ?_)
  have hF : Fr 19 a [(0, v1), (1, (.func (.func 299) #[] #[]))] := hF
  refine sq ?_
  refine rg ?_
  refine stp hF (p_assign rfl) (by decide) (fun a hF => ?_)
  refine nilN ?_
  refine xn ?_
  obtain ⟨x4, H, HK1⟩ := hb H
  refine sqj (fun a w => ∃ (s2 : HF) , St e s2 w [] ∧ Fr 19 a [] ∧ Sub s0 s2 ∧ slices_IndexFunc_1299.c1 k = some r) ?_ ?_
  · skip
    refine sq ?_
    refine rg ?_
    refine stp hF (p_move rfl) (by decide) (fun a hF => ?_)
    refine stp hF (p_lenr un_22 rfl h1) (by decide) (fun a hF => ?_)
    refine stp hF (p_move rfl) (by decide) (fun a hF => ?_)
    refine nilN ?_
    refine xn ?_
    refine blk ?_
    refine loop_ind (fun k1 a w => ∃ (x2 : Int) (s3 : HF) , St e s3 w [] ∧ Fr 19 a [(0, v1), (1, (.func (.func 299) #[] #[])), (7, (.int .i64 (x1.length : Int))), (8, (.int .i64 x2))] ∧ Sub s0 s3 ∧ slices_IndexFunc_1299.l1 x1 k1 x2 = some x4) k ?_ ?_ ?_
    · skip
      exact ⟨0, s0, hS, hF.cut ⟨rfl, rfl, rfl, rfl, trivial⟩, (Sub.refl _), H⟩
    · clear H hS hF
      rintro a w ⟨x2, s3, hS, hF, hg1, H⟩
      exact absurd (show none = some _ from H) (by simp)
    · clear H hS hF
      rintro k1 a w ⟨x2, s3, hS, hF, hg1, H⟩
      rw [slices_IndexFunc_1299.l1.eq_2] at H
      refine sq ?_
      refine rg ?_
      refine stp hF (p_lss rfl rfl) (by decide) (fun a hF => ?_)
      refine nilN ?_
      refine xn ?_
      refine sq ?_
      refine cnd hF rfl (fun hc1 => ?_) (fun hc1 => ?_)
      · replace H := hbt hc1 H
        refine skN ?_
        refine xn ?_
        refine sq ?_
        refine blk ?_
        refine sq ?_
        refine rg ?_
        refine stp hF (p_move rfl) (by decide) (fun a hF => ?_)
        refine stp hF (p_assign rfl) (by decide) (fun a hF => ?_)
        refine nilN ?_
        refine xn ?_
        refine sq ?_
        refine rg ?_
        refine stp hF (p_move rfl) (by decide) (fun a hF => ?_)
        refine stp hF (p_move rfl) (by decide) (fun a hF => ?_)
        refine stp hF (p_move rfl) (by decide) (fun a hF => ?_)
        obtain ⟨hq1, H⟩ := hck H
        obtain ⟨ad1, h2, p1⟩ := p_idxr (P := Tryz.prog) (i := x2) (h1.mono hg1) un_22 ti_3 hq1.1 hq1.2
        refine stp hF (p1 rfl rfl) (by decide) (fun a hF => ?_)
        refine stp hF (p_ldr_int rfl hS h2 ia_3) (by decide) (fun a hF => ?_)
        obtain ⟨x3, hx1, H⟩ := hb H
        refine ste hF (e_callA (fst := []) (vs := [(.int .i64 (rd x1 x2))]) (cap := []) rfl rfl go_299 (St.call (A := []) (B := []) hS (impl_ObjOk_1.spec k1 _ _ (rd x1 x2) _ hx1)) rfl) (by decide) (fun v w a hR hF => ?_)
        obtain ⟨s4, A2, hg2, hS, hR⟩ := hR
        obtain ⟨hv1, rfl⟩ := hR; obtain rfl := hv1.symm
        have hS : St e s4 w [] := hS
        refine nilN ?_
        refine xn ?_
        refine cnd hF rfl (fun hc2 => ?_) (fun hc2 => ?_)
        · replace H := hbt hc2 H
          refine sq ?_
          refine rg ?_
          refine stp hF (p_move rfl) (by decide) (fun a hF => ?_)
          refine stp hF (p_assign rfl) (by decide) (fun a hF => ?_)
          refine nilN ?_
          refine xn ?_
          refine rt ?_
          refine br (xr (xr (br (xr ?_))))
          obtain rfl := hsm H
          have H := hon1 HK1
          obtain rfl := hsm H
          exact ret1 hF rfl rfl hS ⟨rfl, rfl⟩
        · replace H := hbf hc2 H
          refine skN ?_
          refine bn (xn ?_)
          refine rg ?_
          refine stp hF (p_add (c := w64 (x2 + 1)) rfl rfl rfl) (by decide) (fun a hF => ?_)
          refine stp hF (p_move rfl) (by decide) (fun a hF => ?_)
          refine nilN ?_
          refine xn ?_
          exact ⟨(w64 (x2 + 1)), s4, hS, hF.cut ⟨rfl, rfl, rfl, rfl, trivial⟩, (hg1.trans hg2), H⟩
      · replace H := hbf hc1 H
        refine exi ?_
        refine xe (xe (hit (xn ?_)))
        obtain rfl := hsm H
        exact ⟨s3, hS, hF.cut trivial, hg1, HK1⟩
  · clear H HK1 hS hF
    rintro a w ⟨s2, hS, hF, hg3, H⟩
    unfold slices_IndexFunc_1299.c1 at H
    refine sq ?_
    refine rg ?_
    refine stp hF (p_assign rfl) (by decide) (fun a hF => ?_)
    refine nilN ?_
    refine xn ?_
    refine rt ?_
    obtain rfl := hsm H
    exact ret1 hF rfl rfl hS ⟨rfl, rfl⟩

def slices_ContainsFunc_1299.f (k : Nat) (x1 : (List Int)) : Option Bool :=
  ((slices_IndexFunc_1299.f k x1).bind fun x2 => (some (decide (0 ≤ x2))))
set_option maxRecDepth 100000 in
set_option maxHeartbeats 4000000 in
theorem slices_ContainsFunc_1299.spec (k : Nat) (s0 : HF) (w : World) (x1 : (List Int)) (v1 : Value) (h1 : Sl (Kd.int .i64) s0 v1 x1) (r : Bool) (H : slices_ContainsFunc_1299.f k x1 = some r) :
    Law Tryz.prog 298 #[v1, (.func (.func 299) #[] #[])] s0 w [] (fun v s1 A1 => v = (.bool r) ∧ A1 = []) := by
  unfold slices_ContainsFunc_1299.f at H
  refine Law.intro Tryz.func298 rfl [(0, v1), (1, (.func (.func 299) #[] #[]))] (Nat.le_of_ble_eq_true rfl) (enter_lk ⟨rfl, rfl, trivial⟩) (fun e a hS hF => ?_)
  have hF : Fr 9 a [(0, v1), (1, (.func (.func 299) #[] #[]))] := hF
  refine sq ?_
  refine rg ?_
  refine stp hF (p_assign rfl) (by decide) (fun a hF => ?_)
  refine nilN ?_
  refine xn ?_
  refine sq ?_
  refine rg ?_
  refine stp hF (p_move rfl) (by decide) (fun a hF => ?_)
  refine stp hF (p_move rfl) (by decide) (fun a hF => ?_)
  obtain ⟨x2, hx1, H⟩ := hb H
  refine ste hF (e_callA (fst := []) (vs := [v1, (.func (.func 299) #[] #[])]) (cap := []) rfl rfl go_313 (St.call (A := []) (B := []) hS (slices_IndexFunc_1299.spec k _ _ x1 v1 h1 _ hx1)) rfl) (by decide) (fun v w a hR hF => ?_)
  obtain ⟨s2, A2, hg1, hS, hR⟩ := hR
  obtain ⟨hv1, rfl⟩ := hR; obtain rfl := hv1.symm
  have hS : St e s2 w [] := hS
  refine stp hF (p_geq rfl rfl) (by decide) (fun a hF => ?_)
  refine stp hF (p_assign rfl) (by decide) (fun a hF => ?_)
  refine nilN ?_
  refine xn ?_
  refine rt ?_
  obtain rfl := hsm H
  exact ret1 hF rfl rfl hS ⟨rfl, rfl⟩

def impl_ObjOk_2.f (k : Nat) (x1 : Int) : Option Bool :=
  ((impl_in.f k x1 0 31).bind fun x2 => (some (!x2)))
set_option maxRecDepth 100000 in
set_option maxHeartbeats 4000000 in
theorem impl_ObjOk_2.spec (k : Nat) (s0 : HF) (w : World) (x1 : Int) (r : Bool) (H : impl_ObjOk_2.f k x1 = some r) :
    Law Tryz.prog 300 #[(.int .i64 x1)] s0 w [] (fun v s1 A1 => v = (.bool r) ∧ A1 = []) := by
  unfold impl_ObjOk_2.f at H
  refine Law.intro Tryz.func300 rfl [(0, (.int .i64 x1))] (Nat.le_of_ble_eq_true rfl) (enter_lk ⟨rfl, trivial⟩) (fun e a hS hF => ?_)
  have hF : Fr 6 a [(0, (.int .i64 x1))] := hF
  refine sq ?_
  refine rg ?_
  refine stp hF (p_assign rfl) (by decide) (fun a hF => ?_)
  refine nilN ?_
  refine xn ?_
  refine sq ?_
  refine rg ?_
  refine stp hF (p_move rfl) (by decide) (fun a hF => ?_)
  obtain ⟨x2, hx1, H⟩ := hb H
  refine ste hF (e_callA (fst := []) (vs := [(.int .i64 x1), (.int .i64 0), (.int .i64 31)]) (cap := []) rfl rfl go_75 (St.call (A := []) (B := []) hS (impl_in.spec k _ _ x1 0 31 _ hx1)) rfl) (by decide) (fun v w a hR hF => ?_)
  obtain ⟨s2, A2, hg1, hS, hR⟩ := hR
  obtain ⟨hv1, rfl⟩ := hR; obtain rfl := hv1.symm
  have hS : St e s2 w [] := hS
  refine stp hF (p_not rfl) (by decide) (fun a hF => ?_)
  refine stp hF (p_assign rfl) (by decide) (fun a hF => ?_)
  refine nilN ?_
  refine xn ?_
  refine rt ?_
  obtain rfl := hsm H
  exact ret1 hF rfl rfl hS ⟨rfl, rfl⟩

def slices_IndexFunc_2300.c1 (k : Nat) : Option Int :=
  (some (-1))
def slices_IndexFunc_2300.l1 (x1 : (List Int)) : Nat → Int → Option (Ex Int Unit)
  | 0, _ => none
  | k + 1, x2 => (if (decide (x2 < (x1.length : Int))) = true then (if 0 ≤ x2 ∧ x2 < (x1.length : Int) then ((impl_ObjOk_2.f k (rd x1 x2)).bind fun x3 => (if x3 = true then (some (Ex.ret x2)) else ((slices_IndexFunc_2300.l1 x1 k) (w64 (x2 + 1))))) else none) else (some (Ex.go ())))
def slices_IndexFunc_2300.f (k : Nat) (x1 : (List Int)) : Option Int :=
  (((slices_IndexFunc_2300.l1 x1 k 0) : Option (Ex Int Unit)).bind fun x4 => Ex.on x4 (fun r => some r) (fun y => slices_IndexFunc_2300.c1 k))
set_option maxRecDepth 100000 in
set_option maxHeartbeats 4000000 in
theorem slices_IndexFunc_2300.spec (k : Nat) (s0 : HF) (w : World) (x1 : (List Int)) (v1 : Value) (h1 : Sl (Kd.int .i64) s0 v1 x1) (r : Int) (H : slices_IndexFunc_2300.f k x1 = some r) :
    Law Tryz.prog 313 #[v1, (.func (.func 300) #[] #[])] s0 w [] (fun v s1 A1 => v = (.int .i64 r) ∧ A1 = []) := by
  unfold slices_IndexFunc_2300.f at H
  refine Law.intro Tryz.func313 rfl [(0, v1), (1, (.func (.func 300) #[] #[]))] (Nat.le_of_ble_eq_true rfl) (enter_lk ⟨rfl, rfl, trivial⟩) (fun e a hS hF => ?_)
  have hF : Fr 19 a [(0, v1), (1, (.func (.func 300) #[] #[]))] := hF
  refine sq ?_
  refine rg ?_
  refine stp hF (p_assign rfl) (by decide) (fun a hF => ?_)
  refine nilN ?_
  refine xn ?_
  obtain ⟨x4, H, HK1⟩ := hb H
  refine sqj (fun a w => ∃ (s2 : HF) , St e s2 w [] ∧ Fr 19 a [] ∧ Sub s0 s2 ∧ slices_IndexFunc_2300.c1 k = some r) ?_ ?_
  · skip
    refine sq ?_
    refine rg ?_
    refine stp hF (p_move rfl) (by decide) (fun a hF => ?_)
    refine stp hF (p_lenr un_22 rfl h1) (by decide) (fun a hF => ?_)
    refine stp hF (p_move rfl) (by decide) (fun a hF => ?_)
    refine nilN ?_
    refine xn ?_
    refine blk ?_
    refine loop_ind (fun k1 a w => ∃ (x2 : Int) (s3 : HF) , St e s3 w [] ∧ Fr 19 a [(0, v1), (1, (.func (.func 300) #[] #[])), (7, (.int .i64 (x1.length : Int))), (8, (.int .i64 x2))] ∧ Sub s0 s3 ∧ slices_IndexFunc_2300.l1 x1 k1 x2 = some x4) k ?_ ?_ ?_
    · skip
      exact ⟨0, s0, hS, hF.cut ⟨rfl, rfl, rfl, rfl, trivial⟩, (Sub.refl _), H⟩
    · clear H hS hF
      rintro a w ⟨x2, s3, hS, hF, hg1, H⟩
      exact absurd (show none = some _ from H) (by simp)
    · clear H hS hF
      rintro k1 a w ⟨x2, s3, hS, hF, hg1, H⟩
      rw [slices_IndexFunc_2300.l1.eq_2] at H
      refine sq ?_
      refine rg ?_
      refine stp hF (p_lss rfl rfl) (by decide) (fun a hF => ?_)
      refine nilN ?_
      refine xn ?_
      refine sq ?_
      refine cnd hF rfl (fun hc1 => ?_) (fun hc1 => ?_)
      · replace H := hbt hc1 H
        refine skN ?_
        refine xn ?_
        refine sq ?_
        refine blk ?_
        refine sq ?_
        refine rg ?_
        refine stp hF (p_move rfl) (by decide) (fun a hF => ?_)
        refine stp hF (p_assign rfl) (by decide) (fun a hF => ?_)
        refine nilN ?_
        refine xn ?_
        refine sq ?_
        refine rg ?_
        refine stp hF (p_move rfl) (by decide) (fun a hF => ?_)
        refine stp hF (p_move rfl) (by decide) (fun a hF => ?_)
        refine stp hF (p_move rfl) (by decide) (fun a hF => ?_)
        obtain ⟨hq1, H⟩ := hck H
        obtain ⟨ad1, h2, p1⟩ := p_idxr (P := Tryz.prog) (i := x2) (h1.mono hg1) un_22 ti_3 hq1.1 hq1.2
        refine stp hF (p1 rfl rfl) (by decide) (fun a hF => ?_)
        refine stp hF (p_ldr_int rfl hS h2 ia_3) (by decide) (fun a hF => ?_)
        obtain ⟨x3, hx1, H⟩ := hb H
        refine ste hF (e_callA (fst := []) (vs := [(.int .i64 (rd x1 x2))]) (cap := []) rfl rfl go_300 (St.call (A := []) (B := []) hS (impl_ObjOk_2.spec k1 _ _ (rd x1 x2) _ hx1)) rfl) (by decide) (fun v w a hR hF => ?_)
        obtain ⟨s4, A2, hg2, hS, hR⟩ := hR
        obtain ⟨hv1, rfl⟩ := hR; obtain rfl := hv1.symm
        have hS : St e s4 w [] := hS
        refine nilN ?_
        refine xn ?_
        refine cnd hF rfl (fun hc2 => ?_) (fun hc2 => ?_)
        · replace H := hbt hc2 H
          refine sq ?_
          refine rg ?_
          refine stp hF (p_move rfl) (by decide) (fun a hF => ?_)
          refine stp hF (p_assign rfl) (by decide) (fun a hF => ?_)
          refine nilN ?_
          refine xn ?_
          refine rt ?_
          refine br (xr (xr (br (xr ?_))))
          obtain rfl := hsm H
          have H := hon1 HK1
          obtain rfl := hsm H
          exact ret1 hF rfl rfl hS ⟨rfl, rfl⟩
        · replace H := hbf hc2 H
          refine skN ?_
          refine bn (xn ?_)
          refine rg ?_
          refine stp hF (p_add (c := w64 (x2 + 1)) rfl rfl rfl) (by decide) (fun a hF => ?_)
          refine stp hF (p_move rfl) (by decide) (fun a hF => ?_)
          refine nilN ?_
          refine xn ?_
          exact ⟨(w64 (x2 + 1)), s4, hS, hF.cut ⟨rfl, rfl, rfl, rfl, trivial⟩, (hg1.trans hg2), H⟩
      · replace H := hbf hc1 H
        refine exi ?_
        refine xe (xe (hit (xn ?_)))
        obtain rfl := hsm H
        exact ⟨s3, hS, hF.cut trivial, hg1, HK1⟩
  · clear H HK1 hS hF
    rintro a w ⟨s2, hS, hF, hg3, H⟩
    unfold slices_IndexFunc_2300.c1 at H
    refine sq ?_
    refine rg ?_
    refine stp hF (p_assign rfl) (by decide) (fun a hF => ?_)
    refine nilN ?_
    refine xn ?_
    refine rt ?_
    obtain rfl := hsm H
    exact ret1 hF rfl rfl hS ⟨rfl, rfl⟩

def slices_ContainsFunc_2300.f (k : Nat) (x1 : (List Int)) : Option Bool :=
  ((slices_IndexFunc_2300.f k x1).bind fun x2 => (some (decide (0 ≤ x2))))
set_option maxRecDepth 100000 in
set_option maxHeartbeats 4000000 in
theorem slices_ContainsFunc_2300.spec (k : Nat) (s0 : HF) (w : World) (x1 : (List Int)) (v1 : Value) (h1 : Sl (Kd.int .i64) s0 v1 x1) (r : Bool) (H : slices_ContainsFunc_2300.f k x1 = some r) :
    Law Tryz.prog 298 #[v1, (.func (.func 300) #[] #[])] s0 w [] (fun v s1 A1 => v = (.bool r) ∧ A1 = []) := by
  unfold slices_ContainsFunc_2300.f at H
  refine Law.intro Tryz.func298 rfl [(0, v1), (1, (.func (.func 300) #[] #[]))] (Nat.le_of_ble_eq_true rfl) (enter_lk ⟨rfl, rfl, trivial⟩) (fun e a hS hF => ?_)
  have hF : Fr 9 a [(0, v1), (1, (.func (.func 300) #[] #[]))] := hF
  refine sq ?_
  refine rg ?_
  refine stp hF (p_assign rfl) (by decide) (fun a hF => ?_)
  refine nilN ?_
  refine xn ?_
  refine sq ?_
  refine rg ?_
  refine stp hF (p_move rfl) (by decide) (fun a hF => ?_)
  refine stp hF (p_move rfl) (by decide) (fun a hF => ?_)
  obtain ⟨x2, hx1, H⟩ := hb H
  refine ste hF (e_callA (fst := []) (vs := [v1, (.func (.func 300) #[] #[])]) (cap := []) rfl rfl go_313 (St.call (A := []) (B := []) hS (slices_IndexFunc_2300.spec k _ _ x1 v1 h1 _ hx1)) rfl) (by decide) (fun v w a hR hF => ?_)
  obtain ⟨s2, A2, hg1, hS, hR⟩ := hR
  obtain ⟨hv1, rfl⟩ := hR; obtain rfl := hv1.symm
  have hS : St e s2 w [] := hS
  refine stp hF (p_geq rfl rfl) (by decide) (fun a hF => ?_)
  refine stp hF (p_assign rfl) (by decide) (fun a hF => ?_)
  refine nilN ?_
  refine xn ?_
  refine rt ?_
  obtain rfl := hsm H
  exact ret1 hF rfl rfl hS ⟨rfl, rfl⟩

def impl_ObjOk.c1 (k : Nat) (x1 : Bool) : Option Bool :=
  (some x1)
def impl_ObjOk.f (k : Nat) (x2 : TObj) : Option Bool :=
  ((impl_in.f k x2.Kind 1 99).bind fun x3 => (if (((!x3) || (decide (5 < (x2.Ints.length : Int)))) || (decide (5 < (x2.Refs.length : Int)))) = true then (some false) else ((slices_ContainsFunc_1299.f k x2.Ints).bind fun x4 => ((if (!x4) = true then ((slices_ContainsFunc_2300.f k x2.Refs).bind fun x5 => (some (!x5))) else (some false) : Option Bool).bind fun x6 => impl_ObjOk.c1 k x6))))
set_option maxRecDepth 100000 in
set_option maxHeartbeats 4000000 in
theorem impl_ObjOk.spec (k : Nat) (s0 : HF) (w : World) (x2 : TObj) (v1 : Value) (v2 : Value) (h1 : Sl (Kd.int .i64) s0 v1 x2.Ints) (h2 : Sl (Kd.int .i64) s0 v2 x2.Refs) (r : Bool) (H : impl_ObjOk.f k x2 = some r) :
    Law Tryz.prog 267 #[(.agg #[(.int .i64 x2.Kind), v1, v2])] s0 w [] (fun v s1 A1 => v = (.bool r) ∧ A1 = []) := by
  unfold impl_ObjOk.f at H
  refine Law.intro Tryz.func267 rfl [(0, (.agg #[(.int .i64 x2.Kind), v1, v2]))] (Nat.le_of_ble_eq_true rfl) (enter_lk ⟨rfl, trivial⟩) (fun e a hS hF => ?_)
  have hF : Fr 29 a [(0, (.agg #[(.int .i64 x2.Kind), v1, v2]))] := hF
  refine sq ?_
  refine rg ?_
  refine ste hF (e_box (cs := [(.int .i64 x2.Kind), v1, v2]) hS rfl rfl) (by decide) (fun v w a hR hF => ?_)
  obtain ⟨g1, rfl, hS⟩ := hR
  refine stp hF (p_assign rfl) (by decide) (fun a hF => ?_)
  refine nilN ?_
  refine xn ?_
  refine sq ?_
  refine sq ?_
  refine rg ?_
  refine stp hF (p_fldb (o' := 0) rfl fi_43_0 rfl) (by decide) (fun a hF => ?_)
  refine stp hF (p_ldb_one (i := 0) hS rfl rfl ia_3 rfl) (by decide) (fun a hF => ?_)
  obtain ⟨x3, hx1, H⟩ := hb H
  refine ste hF (e_callA (fst := []) (vs := [(.int .i64 x2.Kind), (.int .i64 1), (.int .i64 99)]) (cap := []) rfl rfl go_75 (St.call (A := []) (B := [pt g1 43 ([(.int .i64 x2.Kind), v1, v2])]) hS (impl_in.spec k _ _ x2.Kind 1 99 _ hx1)) rfl) (by decide) (fun v w a hR hF => ?_)
  obtain ⟨s2, A2, hg1, hS, hR⟩ := hR
  obtain ⟨hv1, rfl⟩ := hR; obtain rfl := hv1.symm
  have hS : St e s2 w [pt g1 43 ([(.int .i64 x2.Kind), v1, v2])] := hS
  refine stp hF (p_not rfl) (by decide) (fun a hF => ?_)
  refine stp hF (p_move rfl) (by decide) (fun a hF => ?_)
  refine cutj 5 (fun a w => St e s2 w [pt g1 43 ([(.int .i64 x2.Kind), v1, v2])] ∧ Fr 29 a [(1, (.pointer (some ⟨g1, 0, none⟩))), (12, (.bool ((!x3) || (decide (5 < (x2.Ints.length : Int))))))]) rfl rfl ?_ ?_
  · rcases Bool.eq_false_or_eq_true ((!x3)) with hc1 | hc1
    · skip
      refine gofD (j := 4) hF rfl rfl (by rw [hc1]; decide) (by decide) (fun a hF => ?_)
      refine gofD (j := 4) hF rfl rfl (by rw [hc1]; decide) (by decide) (fun a hF => ?_)
      refine gofD (j := 4) hF rfl rfl (by rw [hc1]; decide) (by decide) (fun a hF => ?_)
      refine gofD (j := 4) hF rfl rfl (by rw [hc1]; decide) (by decide) (fun a hF => ?_)
      refine stp hF (p_orT (decide (5 < (x2.Ints.length : Int))) rfl hc1 rfl) (by decide) (fun a hF => ?_)
      refine nilN ?_
      refine xn ?_
      exact ⟨hS, hF.cut ⟨rfl, rfl, trivial⟩⟩
    · skip
      refine gonE (j := 4) hF rfl rfl hc1 ?_
      refine stp hF (p_fldb (o' := 1) rfl fi_43_1 rfl) (by decide) (fun a hF => ?_)
      refine gonE (j := 4) hF rfl rfl hc1 ?_
      refine stp hF (p_ldb_one (i := 0) hS rfl rfl ia_22 rfl) (by decide) (fun a hF => ?_)
      refine gonE (j := 4) hF rfl rfl hc1 ?_
      refine stp hF (p_lenr un_22 rfl (h1.mono hg1)) (by decide) (fun a hF => ?_)
      refine gonE (j := 4) hF rfl rfl hc1 ?_
      refine stp hF (p_gtr rfl rfl) (by decide) (fun a hF => ?_)
      refine stp hF (p_orF rfl hc1 rfl) (by decide) (fun a hF => ?_)
      refine nilN ?_
      refine xn ?_
      exact ⟨hS, hF.cut ⟨rfl, rfl, trivial⟩⟩
  clear hS hF
  rintro a w ⟨hS, hF⟩
  refine stp hF (p_move rfl) (by decide) (fun a hF => ?_)
  refine cutj 5 (fun a w => St e s2 w [pt g1 43 ([(.int .i64 x2.Kind), v1, v2])] ∧ Fr 29 a [(1, (.pointer (some ⟨g1, 0, none⟩))), (18, (.bool (((!x3) || (decide (5 < (x2.Ints.length : Int)))) || (decide (5 < (x2.Refs.length : Int))))))]) rfl rfl ?_ ?_
  · rcases Bool.eq_false_or_eq_true (((!x3) || (decide (5 < (x2.Ints.length : Int))))) with hc2 | hc2
    · skip
      refine gofD (j := 10) hF rfl rfl (by rw [hc2]; decide) (by decide) (fun a hF => ?_)
      refine gofD (j := 10) hF rfl rfl (by rw [hc2]; decide) (by decide) (fun a hF => ?_)
      refine gofD (j := 10) hF rfl rfl (by rw [hc2]; decide) (by decide) (fun a hF => ?_)
      refine gofD (j := 10) hF rfl rfl (by rw [hc2]; decide) (by decide) (fun a hF => ?_)
      refine stp hF (p_orT (decide (5 < (x2.Refs.length : Int))) rfl hc2 rfl) (by decide) (fun a hF => ?_)
      refine nilN ?_
      refine xn ?_
      exact ⟨hS, hF.cut ⟨rfl, rfl, trivial⟩⟩
    · skip
      refine gonE (j := 10) hF rfl rfl hc2 ?_
      refine stp hF (p_fldb (o' := 2) rfl fi_43_2 rfl) (by decide) (fun a hF => ?_)
      refine gonE (j := 10) hF rfl rfl hc2 ?_
      refine stp hF (p_ldb_one (i := 0) hS rfl rfl ia_22 rfl) (by decide) (fun a hF => ?_)
      refine gonE (j := 10) hF rfl rfl hc2 ?_
      refine stp hF (p_lenr un_22 rfl (h2.mono hg1)) (by decide) (fun a hF => ?_)
      refine gonE (j := 10) hF rfl rfl hc2 ?_
      refine stp hF (p_gtr rfl rfl) (by decide) (fun a hF => ?_)
      refine stp hF (p_orF rfl hc2 rfl) (by decide) (fun a hF => ?_)
      refine nilN ?_
      refine xn ?_
      exact ⟨hS, hF.cut ⟨rfl, rfl, trivial⟩⟩
  clear hS hF
  rintro a w ⟨hS, hF⟩
  refine nilN ?_
  refine xn ?_
  refine cnd hF rfl (fun hc3 => ?_) (fun hc3 => ?_)
  · replace H := hbt hc3 H
    refine sq ?_
    refine rg ?_
    refine stp hF (p_assign rfl) (by decide) (fun a hF => ?_)
    refine nilN ?_
    refine xn ?_
    refine rt ?_
    refine xr ?_
    obtain rfl := hsm H
    replace hS := hS.sel (is := []) (A' := []) rfl
    exact ret1 hF rfl rfl hS ⟨rfl, rfl⟩
  · replace H := hbf hc3 H
    refine skN ?_
    refine xn ?_
    refine sq ?_
    refine rg ?_
    refine stp hF (p_fldb (o' := 1) rfl fi_43_1 rfl) (by decide) (fun a hF => ?_)
    refine stp hF (p_ldb_one (i := 0) hS rfl rfl ia_22 rfl) (by decide) (fun a hF => ?_)
    obtain ⟨x4, hx2, H⟩ := hb H
    refine ste hF (e_callA (fst := []) (vs := [v1, (.func (.func 299) #[] #[])]) (cap := []) rfl rfl go_298 (St.call (A := []) (B := [pt g1 43 ([(.int .i64 x2.Kind), v1, v2])]) hS (slices_ContainsFunc_1299.spec k _ _ x2.Ints v1 (h1.mono hg1) _ hx2)) rfl) (by decide) (fun v w a hR hF => ?_)
    obtain ⟨s3, A3, hg2, hS, hR⟩ := hR
    obtain ⟨hv2, rfl⟩ := hR; obtain rfl := hv2.symm
    have hS : St e s3 w [pt g1 43 ([(.int .i64 x2.Kind), v1, v2])] := hS
    refine stp hF (p_not rfl) (by decide) (fun a hF => ?_)
    refine stp hF (p_move rfl) (by decide) (fun a hF => ?_)
    obtain ⟨x6, H, HK1⟩ := hb H
    refine cutj 5 (fun a w => ∃ (x1 : Bool) (s4 : HF) , St e s4 w [pt g1 43 ([(.int .i64 x2.Kind), v1, v2])] ∧ Fr 29 a [(28, (.bool x1))] ∧ Sub s3 s4 ∧ impl_ObjOk.c1 k x1 = some r) rfl rfl ?_ ?_
    · rcases Bool.eq_false_or_eq_true ((!x4)) with hc4 | hc4
      · replace H := hbt hc4 H
        refine gonE (j := 4) hF rfl rfl hc4 ?_
        refine stp hF (p_fldb (o' := 2) rfl fi_43_2 rfl) (by decide) (fun a hF => ?_)
        refine gonE (j := 4) hF rfl rfl hc4 ?_
        refine stp hF (p_ldb_one (i := 0) hS rfl rfl ia_22 rfl) (by decide) (fun a hF => ?_)
        obtain ⟨x5, hx3, H⟩ := hb H
        refine gonE (j := 4) hF rfl rfl hc4 ?_
        refine ste hF (e_callA (fst := []) (vs := [v2, (.func (.func 300) #[] #[])]) (cap := []) rfl rfl go_298 (St.call (A := []) (B := [pt g1 43 ([(.int .i64 x2.Kind), v1, v2])]) hS (slices_ContainsFunc_2300.spec k _ _ x2.Refs v2 ((h2.mono hg1).mono hg2) _ hx3)) rfl) (by decide) (fun v w a hR hF => ?_)
        obtain ⟨s5, A4, hg3, hS, hR⟩ := hR
        obtain ⟨hv3, rfl⟩ := hR; obtain rfl := hv3.symm
        have hS : St e s5 w [pt g1 43 ([(.int .i64 x2.Kind), v1, v2])] := hS
        refine gonE (j := 4) hF rfl rfl hc4 ?_
        refine stp hF (p_not rfl) (by decide) (fun a hF => ?_)
        refine stp hF (p_pickT rfl hc4 rfl) (by decide) (fun a hF => ?_)
        refine nilN ?_
        refine xn ?_
        obtain rfl := hsm H
        exact ⟨(!x5), s5, hS, hF.cut ⟨rfl, trivial⟩, hg3, HK1⟩
      · replace H := hbf hc4 H
        refine gofD (j := 4) hF rfl rfl (by rw [hc4]; decide) (by decide) (fun a hF => ?_)
        refine gofD (j := 4) hF rfl rfl (by rw [hc4]; decide) (by decide) (fun a hF => ?_)
        refine gofD (j := 4) hF rfl rfl (by rw [hc4]; decide) (by decide) (fun a hF => ?_)
        refine gofD (j := 4) hF rfl rfl (by rw [hc4]; decide) (by decide) (fun a hF => ?_)
        refine stp hF (p_pickF rfl hc4 rfl) (by decide) (fun a hF => ?_)
        refine nilN ?_
        refine xn ?_
        obtain rfl := hsm H
        exact ⟨false, s3, hS, hF.cut ⟨rfl, trivial⟩, (Sub.refl _), HK1⟩
    · clear H HK1 hS hF
      rintro a w ⟨x1, s4, hS, hF, hg4, H⟩
      unfold impl_ObjOk.c1 at H
      refine stp hF (p_assign rfl) (by decide) (fun a hF => ?_)
      refine nilN ?_
      refine xn ?_
      refine rt ?_
      obtain rfl := hsm H
      replace hS := hS.sel (is := []) (A' := []) rfl
      exact ret1 hF rfl rfl hS ⟨rfl, rfl⟩

def impl_noObj.f (k : Nat) (x1 : TObj) : Option Bool :=
  (some (((decide (x1.Kind = 0)) && (decide ((x1.Ints.length : Int) = 0))) && (decide ((x1.Refs.length : Int) = 0))))
set_option maxRecDepth 100000 in
set_option maxHeartbeats 4000000 in
theorem impl_noObj.spec (k : Nat) (s0 : HF) (w : World) (x1 : TObj) (v1 : Value) (v2 : Value) (h1 : Sl (Kd.int .i64) s0 v1 x1.Ints) (h2 : Sl (Kd.int .i64) s0 v2 x1.Refs) (r : Bool) (H : impl_noObj.f k x1 = some r) :
    Law Tryz.prog 268 #[(.agg #[(.int .i64 x1.Kind), v1, v2])] s0 w [] (fun v s1 A1 => v = (.bool r) ∧ A1 = []) := by
  unfold impl_noObj.f at H
  refine Law.intro Tryz.func268 rfl [(0, (.agg #[(.int .i64 x1.Kind), v1, v2]))] (Nat.le_of_ble_eq_true rfl) (enter_lk ⟨rfl, trivial⟩) (fun e a hS hF => ?_)
  have hF : Fr 18 a [(0, (.agg #[(.int .i64 x1.Kind), v1, v2]))] := hF
  refine sq ?_
  refine rg ?_
  refine ste hF (e_box (cs := [(.int .i64 x1.Kind), v1, v2]) hS rfl rfl) (by decide) (fun v w a hR hF => ?_)
  obtain ⟨g1, rfl, hS⟩ := hR
  refine stp hF (p_assign rfl) (by decide) (fun a hF => ?_)
  refine nilN ?_
  refine xn ?_
  refine sq ?_
  refine rg ?_
  refine stp hF (p_fldb (o' := 0) rfl fi_43_0 rfl) (by decide) (fun a hF => ?_)
  refine stp hF (p_ldb_one (i := 0) hS rfl rfl ia_3 rfl) (by decide) (fun a hF => ?_)
  refine stp hF (p_eql rfl rfl) (by decide) (fun a hF => ?_)
  refine stp hF (p_move rfl) (by decide) (fun a hF => ?_)
  refine cutj 5 (fun a w => St e s0 w [pt g1 43 ([(.int .i64 x1.Kind), v1, v2])] ∧ Fr 18 a [(1, (.pointer (some ⟨g1, 0, none⟩))), (11, (.bool ((decide (x1.Kind = 0)) && (decide ((x1.Ints.length : Int) = 0)))))]) rfl rfl ?_ ?_
  · rcases Bool.eq_false_or_eq_true (decide (x1.Kind = 0)) with hc1 | hc1
    · skip
      refine gonE (j := 3) hF rfl rfl hc1 ?_
      refine stp hF (p_fldb (o' := 1) rfl fi_43_1 rfl) (by decide) (fun a hF => ?_)
      refine gonE (j := 3) hF rfl rfl hc1 ?_
      refine stp hF (p_ldb_one (i := 0) hS rfl rfl ia_22 rfl) (by decide) (fun a hF => ?_)
      refine gonE (j := 3) hF rfl rfl hc1 ?_
      refine stp hF (p_lenr un_22 rfl h1) (by decide) (fun a hF => ?_)
      refine gonE (j := 3) hF rfl rfl hc1 ?_
      refine stp hF (p_eql rfl rfl) (by decide) (fun a hF => ?_)
      refine stp hF (p_andT rfl hc1 rfl) (by decide) (fun a hF => ?_)
      refine nilN ?_
      refine xn ?_
      exact ⟨hS, hF.cut ⟨rfl, rfl, trivial⟩⟩
    · skip
      refine gofD (j := 3) hF rfl rfl (by rw [hc1]; decide) (by decide) (fun a hF => ?_)
      refine gofD (j := 3) hF rfl rfl (by rw [hc1]; decide) (by decide) (fun a hF => ?_)
      refine gofD (j := 3) hF rfl rfl (by rw [hc1]; decide) (by decide) (fun a hF => ?_)
      refine gofD (j := 3) hF rfl rfl (by rw [hc1]; decide) (by decide) (fun a hF => ?_)
      refine stp hF (p_andF (decide ((x1.Ints.length : Int) = 0)) rfl hc1 rfl) (by decide) (fun a hF => ?_)
      refine nilN ?_
      refine xn ?_
      exact ⟨hS, hF.cut ⟨rfl, rfl, trivial⟩⟩
  clear hS hF
  rintro a w ⟨hS, hF⟩
  refine stp hF (p_move rfl) (by decide) (fun a hF => ?_)
  refine cutj 5 (fun a w => St e s0 w [pt g1 43 ([(.int .i64 x1.Kind), v1, v2])] ∧ Fr 18 a [(17, (.bool (((decide (x1.Kind = 0)) && (decide ((x1.Ints.length : Int) = 0))) && (decide ((x1.Refs.length : Int) = 0)))))]) rfl rfl ?_ ?_
  · rcases Bool.eq_false_or_eq_true (((decide (x1.Kind = 0)) && (decide ((x1.Ints.length : Int) = 0)))) with hc2 | hc2
    · skip
      refine gonE (j := 9) hF rfl rfl hc2 ?_
      refine stp hF (p_fldb (o' := 2) rfl fi_43_2 rfl) (by decide) (fun a hF => ?_)
      refine gonE (j := 9) hF rfl rfl hc2 ?_
      refine stp hF (p_ldb_one (i := 0) hS rfl rfl ia_22 rfl) (by decide) (fun a hF => ?_)
      refine gonE (j := 9) hF rfl rfl hc2 ?_
      refine stp hF (p_lenr un_22 rfl h2) (by decide) (fun a hF => ?_)
      refine gonE (j := 9) hF rfl rfl hc2 ?_
      refine stp hF (p_eql rfl rfl) (by decide) (fun a hF => ?_)
      refine stp hF (p_andT rfl hc2 rfl) (by decide) (fun a hF => ?_)
      refine nilN ?_
      refine xn ?_
      exact ⟨hS, hF.cut ⟨rfl, trivial⟩⟩
    · skip
      refine gofD (j := 9) hF rfl rfl (by rw [hc2]; decide) (by decide) (fun a hF => ?_)
      refine gofD (j := 9) hF rfl rfl (by rw [hc2]; decide) (by decide) (fun a hF => ?_)
      refine gofD (j := 9) hF rfl rfl (by rw [hc2]; decide) (by decide) (fun a hF => ?_)
      refine gofD (j := 9) hF rfl rfl (by rw [hc2]; decide) (by decide) (fun a hF => ?_)
      refine stp hF (p_andF (decide ((x1.Refs.length : Int) = 0)) rfl hc2 rfl) (by decide) (fun a hF => ?_)
      refine nilN ?_
      refine xn ?_
      exact ⟨hS, hF.cut ⟨rfl, trivial⟩⟩
  clear hS hF
  rintro a w ⟨hS, hF⟩
  refine stp hF (p_assign rfl) (by decide) (fun a hF => ?_)
  refine nilN ?_
  refine xn ?_
  refine rt ?_
  obtain rfl := hsm H
  replace hS := hS.sel (is := []) (A' := []) rfl
  exact ret1 hF rfl rfl hS ⟨rfl, rfl⟩

def impl_slotOk.f (k : Nat) (x1 : TSlot) : Option Bool :=
  (if x1.Has = true then ((impl_ObjOk.f k x1.O).bind fun x2 => (some x2)) else ((impl_noObj.f k x1.O).bind fun x3 => (some x3)))
set_option maxRecDepth 100000 in
set_option maxHeartbeats 4000000 in
theorem impl_slotOk.spec (k : Nat) (s0 : HF) (w : World) (x1 : TSlot) (v1 : Value) (v2 : Value) (h1 : Sl (Kd.int .i64) s0 v1 x1.O.Ints) (h2 : Sl (Kd.int .i64) s0 v2 x1.O.Refs) (r : Bool) (H : impl_slotOk.f k x1 = some r) :
    Law Tryz.prog 220 #[(.agg #[(.bool x1.Has), (.int .i64 x1.O.Kind), v1, v2])] s0 w [] (fun v s1 A1 => v = (.bool r) ∧ A1 = []) := by
  unfold impl_slotOk.f at H
  refine Law.intro Tryz.func220 rfl [(0, (.agg #[(.bool x1.Has), (.int .i64 x1.O.Kind), v1, v2]))] (Nat.le_of_ble_eq_true rfl) (enter_lk ⟨rfl, trivial⟩) (fun e a hS hF => ?_)
  have hF : Fr 11 a [(0, (.agg #[(.bool x1.Has), (.int .i64 x1.O.Kind), v1, v2]))] := hF
  refine sq ?_
  refine rg ?_
  refine ste hF (e_box (cs := [(.bool x1.Has), (.int .i64 x1.O.Kind), v1, v2]) hS rfl rfl) (by decide) (fun v w a hR hF => ?_)
  obtain ⟨g1, rfl, hS⟩ := hR
  refine stp hF (p_assign rfl) (by decide) (fun a hF => ?_)
  refine nilN ?_
  refine xn ?_
  refine sq ?_
  refine sq ?_
  refine rg ?_
  refine stp hF (p_fldb (o' := 0) rfl fi_45_0 rfl) (by decide) (fun a hF => ?_)
  refine stp hF (p_ldb_one (i := 0) hS rfl rfl ia_4 rfl) (by decide) (fun a hF => ?_)
  refine nilN ?_
  refine xn ?_
  refine cnd hF rfl (fun hc1 => ?_) (fun hc1 => ?_)
  · replace H := hbt hc1 H
    refine sq ?_
    refine rg ?_
    refine stp hF (p_fldb (o' := 1) rfl fi_45_1 rfl) (by decide) (fun a hF => ?_)
    refine stp hF (p_ldb_agg (i := 0) (l := [(.bool x1.Has)]) (m := [(.int .i64 x1.O.Kind), v1, v2]) (r := []) hS rfl rfl ia_43 ti_43 rfl rfl rfl) (by decide) (fun a hF => ?_)
    obtain ⟨x2, hx1, H⟩ := hb H
    refine ste hF (e_callA (fst := []) (vs := [(.agg #[(.int .i64 x1.O.Kind), v1, v2])]) (cap := []) rfl rfl go_267 (St.call (A := []) (B := [pt g1 45 ([(.bool x1.Has), (.int .i64 x1.O.Kind), v1, v2])]) hS (impl_ObjOk.spec k _ _ x1.O v1 v2 h1 h2 _ hx1)) rfl) (by decide) (fun v w a hR hF => ?_)
    obtain ⟨s2, A2, hg1, hS, hR⟩ := hR
    obtain ⟨hv1, rfl⟩ := hR; obtain rfl := hv1.symm
    have hS : St e s2 w [pt g1 45 ([(.bool x1.Has), (.int .i64 x1.O.Kind), v1, v2])] := hS
    refine stp hF (p_assign rfl) (by decide) (fun a hF => ?_)
    refine nilN ?_
    refine xn ?_
    refine rt ?_
    refine xr ?_
    obtain rfl := hsm H
    replace hS := hS.sel (is := []) (A' := []) rfl
    exact ret1 hF rfl rfl hS ⟨rfl, rfl⟩
  · replace H := hbf hc1 H
    refine skN ?_
    refine xn ?_
    refine sq ?_
    refine rg ?_
    refine stp hF (p_fldb (o' := 1) rfl fi_45_1 rfl) (by decide) (fun a hF => ?_)
    refine stp hF (p_ldb_agg (i := 0) (l := [(.bool x1.Has)]) (m := [(.int .i64 x1.O.Kind), v1, v2]) (r := []) hS rfl rfl ia_43 ti_43 rfl rfl rfl) (by decide) (fun a hF => ?_)
    obtain ⟨x3, hx2, H⟩ := hb H
    refine ste hF (e_callA (fst := []) (vs := [(.agg #[(.int .i64 x1.O.Kind), v1, v2])]) (cap := []) rfl rfl go_268 (St.call (A := []) (B := [pt g1 45 ([(.bool x1.Has), (.int .i64 x1.O.Kind), v1, v2])]) hS (impl_noObj.spec k _ _ x1.O v1 v2 h1 h2 _ hx2)) rfl) (by decide) (fun v w a hR hF => ?_)
    obtain ⟨s3, A3, hg2, hS, hR⟩ := hR
    obtain ⟨hv2, rfl⟩ := hR; obtain rfl := hv2.symm
    have hS : St e s3 w [pt g1 45 ([(.bool x1.Has), (.int .i64 x1.O.Kind), v1, v2])] := hS
    refine stp hF (p_assign rfl) (by decide) (fun a hF => ?_)
    refine nilN ?_
    refine xn ?_
    refine rt ?_
    obtain rfl := hsm H
    replace hS := hS.sel (is := []) (A' := []) rfl
    exact ret1 hF rfl rfl hS ⟨rfl, rfl⟩

def impl_PageOk_1.f (k : Nat) (x1 : TSlot) : Option Bool :=
  ((impl_slotOk.f k x1).bind fun x2 => (some (!x2)))
set_option maxRecDepth 100000 in
set_option maxHeartbeats 4000000 in
theorem impl_PageOk_1.spec (k : Nat) (s0 : HF) (w : World) (x1 : TSlot) (v1 : Value) (v2 : Value) (h1 : Sl (Kd.int .i64) s0 v1 x1.O.Ints) (h2 : Sl (Kd.int .i64) s0 v2 x1.O.Refs) (r : Bool) (H : impl_PageOk_1.f k x1 = some r) :
    Law Tryz.prog 219 #[(.agg #[(.bool x1.Has), (.int .i64 x1.O.Kind), v1, v2])] s0 w [] (fun v s1 A1 => v = (.bool r) ∧ A1 = []) := by
  unfold impl_PageOk_1.f at H
  refine Law.intro Tryz.func219 rfl [(0, (.agg #[(.bool x1.Has), (.int .i64 x1.O.Kind), v1, v2]))] (Nat.le_of_ble_eq_true rfl) (enter_lk ⟨rfl, trivial⟩) (fun e a hS hF => ?_)
  have hF : Fr 6 a [(0, (.agg #[(.bool x1.Has), (.int .i64 x1.O.Kind), v1, v2]))] := hF
  refine sq ?_
  refine rg ?_
  refine ste hF (e_box (cs := [(.bool x1.Has), (.int .i64 x1.O.Kind), v1, v2]) hS rfl rfl) (by decide) (fun v w a hR hF => ?_)
  obtain ⟨g1, rfl, hS⟩ := hR
  refine stp hF (p_assign rfl) (by decide) (fun a hF => ?_)
  refine nilN ?_
  refine xn ?_
  refine sq ?_
  refine rg ?_
  refine stp hF (p_ldb_agg (i := 0) (l := []) (m := [(.bool x1.Has), (.int .i64 x1.O.Kind), v1, v2]) (r := []) hS rfl rfl ia_45 ti_45 rfl rfl rfl) (by decide) (fun a hF => ?_)
  obtain ⟨x2, hx1, H⟩ := hb H
  refine ste hF (e_callA (fst := []) (vs := [(.agg #[(.bool x1.Has), (.int .i64 x1.O.Kind), v1, v2])]) (cap := []) rfl rfl go_220 (St.call (A := []) (B := [pt g1 45 ([(.bool x1.Has), (.int .i64 x1.O.Kind), v1, v2])]) hS (impl_slotOk.spec k _ _ x1 v1 v2 h1 h2 _ hx1)) rfl) (by decide) (fun v w a hR hF => ?_)
  obtain ⟨s2, A2, hg1, hS, hR⟩ := hR
  obtain ⟨hv1, rfl⟩ := hR; obtain rfl := hv1.symm
  have hS : St e s2 w [pt g1 45 ([(.bool x1.Has), (.int .i64 x1.O.Kind), v1, v2])] := hS
  refine stp hF (p_not rfl) (by decide) (fun a hF => ?_)
  refine stp hF (p_assign rfl) (by decide) (fun a hF => ?_)
  refine nilN ?_
  refine xn ?_
  refine rt ?_
  obtain rfl := hsm H
  replace hS := hS.sel (is := []) (A' := []) rfl
  exact ret1 hF rfl rfl hS ⟨rfl, rfl⟩

def impl_Slot_266_1219.c1 (k : Nat) : Option Int :=
  (some (-1))
def impl_Slot_266_1219.l1 (x1 : (List TSlot)) : Nat → Int → Option (Ex Int Unit)
  | 0, _ => none
  | k + 1, x2 => (if (decide (x2 < (x1.length : Int))) = true then (if 0 ≤ x2 ∧ x2 < (x1.length : Int) then ((impl_PageOk_1.f k (rd x1 x2)).bind fun x3 => (if x3 = true then (some (Ex.ret x2)) else ((impl_Slot_266_1219.l1 x1 k) (w64 (x2 + 1))))) else none) else (some (Ex.go ())))
def impl_Slot_266_1219.f (k : Nat) (x1 : (List TSlot)) : Option Int :=
  (((impl_Slot_266_1219.l1 x1 k 0) : Option (Ex Int Unit)).bind fun x4 => Ex.on x4 (fun r => some r) (fun y => impl_Slot_266_1219.c1 k))
set_option maxRecDepth 100000 in
set_option maxHeartbeats 4000000 in
theorem impl_Slot_266_1219.spec (k : Nat) (s0 : HF) (w : World) (x1 : (List TSlot)) (v1 : Value) (h1 : Sl kTSlot s0 v1 x1) (r : Int) (H : impl_Slot_266_1219.f k x1 = some r) :
    Law Tryz.prog 266 #[v1, (.func (.func 219) #[] #[])] s0 w [] (fun v s1 A1 => v = (.int .i64 r) ∧ A1 = []) := by
  unfold impl_Slot_266_1219.f at H
  refine Law.intro Tryz.func266 rfl [(0, v1), (1, (.func (.func 219) #[] #[]))] (Nat.le_of_ble_eq_true rfl) (enter_lk ⟨rfl, rfl, trivial⟩) (fun e a hS hF => ?_)
  have hF : Fr 19 a [(0, v1), (1, (.func (.func 219) #[] #[]))] := hF
  refine sq ?_
  refine rg ?_
  refine stp hF (p_assign rfl) (by decide) (fun a hF => ?_)
  refine nilN ?_
  refine xn ?_
  obtain ⟨x4, H, HK1⟩ := hb H
  refine sqj (fun a w => ∃ (s2 : HF) , St e s2 w [] ∧ Fr 19 a [] ∧ Sub s0 s2 ∧ impl_Slot_266_1219.c1 k = some r) ?_ ?_
  · skip
    refine sq ?_
    refine rg ?_
    refine stp hF (p_move rfl) (by decide) (fun a hF => ?_)
    refine stp hF (p_lenr un_80 rfl h1) (by decide) (fun a hF => ?_)
    refine stp hF (p_move rfl) (by decide) (fun a hF => ?_)
    refine nilN ?_
    refine xn ?_
    refine blk ?_
    refine loop_ind (fun k1 a w => ∃ (x2 : Int) (s3 : HF) , St e s3 w [] ∧ Fr 19 a [(0, v1), (1, (.func (.func 219) #[] #[])), (7, (.int .i64 (x1.length : Int))), (8, (.int .i64 x2))] ∧ Sub s0 s3 ∧ impl_Slot_266_1219.l1 x1 k1 x2 = some x4) k ?_ ?_ ?_
    · skip
      exact ⟨0, s0, hS, hF.cut ⟨rfl, rfl, rfl, rfl, trivial⟩, (Sub.refl _), H⟩
    · clear H hS hF
      rintro a w ⟨x2, s3, hS, hF, hg1, H⟩
      exact absurd (show none = some _ from H) (by simp)
    · clear H hS hF
      rintro k1 a w ⟨x2, s3, hS, hF, hg1, H⟩
      rw [impl_Slot_266_1219.l1.eq_2] at H
      refine sq ?_
      refine rg ?_
      refine stp hF (p_lss rfl rfl) (by decide) (fun a hF => ?_)
      refine nilN ?_
      refine xn ?_
      refine sq ?_
      refine cnd hF rfl (fun hc1 => ?_) (fun hc1 => ?_)
      · replace H := hbt hc1 H
        refine skN ?_
        refine xn ?_
        refine sq ?_
        refine blk ?_
        refine sq ?_
        refine rg ?_
        refine stp hF (p_move rfl) (by decide) (fun a hF => ?_)
        refine stp hF (p_assign rfl) (by decide) (fun a hF => ?_)
        refine nilN ?_
        refine xn ?_
        refine sq ?_
        refine rg ?_
        refine stp hF (p_move rfl) (by decide) (fun a hF => ?_)
        refine stp hF (p_move rfl) (by decide) (fun a hF => ?_)
        refine stp hF (p_move rfl) (by decide) (fun a hF => ?_)
        obtain ⟨hq1, H⟩ := hck H
        obtain ⟨ad1, h2, p1⟩ := p_idxr (P := Tryz.prog) (i := x2) (h1.mono hg1) un_80 ti_45 hq1.1 hq1.2
        refine stp hF (p1 rfl rfl) (by decide) (fun a hF => ?_)
        obtain ⟨c2, h3, p2⟩ := p_ldr_agg (P := Tryz.prog) h2 ia_45 ti_45
        obtain ⟨v2, v3, rfl, h4, h5⟩ := kTSlot_open h3
        refine stp hF (p2 rfl hS.ro) (by decide) (fun a hF => ?_)
        obtain ⟨x3, hx1, H⟩ := hb H
        refine ste hF (e_callA (fst := []) (vs := [(.agg #[(.bool ((rd x1 x2).Has)), (.int .i64 (((rd x1 x2).O).Kind)), v2, v3])]) (cap := []) rfl rfl go_219 (St.call (A := []) (B := []) hS (impl_PageOk_1.spec k1 _ _ (rd x1 x2) v2 v3 h4 h5 _ hx1)) rfl) (by decide) (fun v w a hR hF => ?_)
        obtain ⟨s4, A2, hg2, hS, hR⟩ := hR
        obtain ⟨hv1, rfl⟩ := hR; obtain rfl := hv1.symm
        have hS : St e s4 w [] := hS
        refine nilN ?_
        refine xn ?_
        refine cnd hF rfl (fun hc2 => ?_) (fun hc2 => ?_)
        · replace H := hbt hc2 H
          refine sq ?_
          refine rg ?_
          refine stp hF (p_move rfl) (by decide) (fun a hF => ?_)
          refine stp hF (p_assign rfl) (by decide) (fun a hF => ?_)
          refine nilN ?_
          refine xn ?_
          refine rt ?_
          refine br (xr (xr (br (xr ?_))))
          obtain rfl := hsm H
          have H := hon1 HK1
          obtain rfl := hsm H
          exact ret1 hF rfl rfl hS ⟨rfl, rfl⟩
        · replace H := hbf hc2 H
          refine skN ?_
          refine bn (xn ?_)
          refine rg ?_
          refine stp hF (p_add (c := w64 (x2 + 1)) rfl rfl rfl) (by decide) (fun a hF => ?_)
          refine stp hF (p_move rfl) (by decide) (fun a hF => ?_)
          refine nilN ?_
          refine xn ?_
          exact ⟨(w64 (x2 + 1)), s4, hS, hF.cut ⟨rfl, rfl, rfl, rfl, trivial⟩, (hg1.trans hg2), H⟩
      · replace H := hbf hc1 H
        refine exi ?_
        refine xe (xe (hit (xn ?_)))
        obtain rfl := hsm H
        exact ⟨s3, hS, hF.cut trivial, hg1, HK1⟩
  · clear H HK1 hS hF
    rintro a w ⟨s2, hS, hF, hg3, H⟩
    unfold impl_Slot_266_1219.c1 at H
    refine sq ?_
    refine rg ?_
    refine stp hF (p_assign rfl) (by decide) (fun a hF => ?_)
    refine nilN ?_
    refine xn ?_
    refine rt ?_
    obtain rfl := hsm H
    exact ret1 hF rfl rfl hS ⟨rfl, rfl⟩

def impl_Slot_218_1219.f (k : Nat) (x1 : (List TSlot)) : Option Bool :=
  ((impl_Slot_266_1219.f k x1).bind fun x2 => (some (decide (0 ≤ x2))))
set_option maxRecDepth 100000 in
set_option maxHeartbeats 4000000 in
theorem impl_Slot_218_1219.spec (k : Nat) (s0 : HF) (w : World) (x1 : (List TSlot)) (v1 : Value) (h1 : Sl kTSlot s0 v1 x1) (r : Bool) (H : impl_Slot_218_1219.f k x1 = some r) :
    Law Tryz.prog 218 #[v1, (.func (.func 219) #[] #[])] s0 w [] (fun v s1 A1 => v = (.bool r) ∧ A1 = []) := by
  unfold impl_Slot_218_1219.f at H
  refine Law.intro Tryz.func218 rfl [(0, v1), (1, (.func (.func 219) #[] #[]))] (Nat.le_of_ble_eq_true rfl) (enter_lk ⟨rfl, rfl, trivial⟩) (fun e a hS hF => ?_)
  have hF : Fr 9 a [(0, v1), (1, (.func (.func 219) #[] #[]))] := hF
  refine sq ?_
  refine rg ?_
  refine stp hF (p_assign rfl) (by decide) (fun a hF => ?_)
  refine nilN ?_
  refine xn ?_
  refine sq ?_
  refine rg ?_
  refine stp hF (p_move rfl) (by decide) (fun a hF => ?_)
  refine stp hF (p_move rfl) (by decide) (fun a hF => ?_)
  obtain ⟨x2, hx1, H⟩ := hb H
  refine ste hF (e_callA (fst := []) (vs := [v1, (.func (.func 219) #[] #[])]) (cap := []) rfl rfl go_266 (St.call (A := []) (B := []) hS (impl_Slot_266_1219.spec k _ _ x1 v1 h1 _ hx1)) rfl) (by decide) (fun v w a hR hF => ?_)
  obtain ⟨s2, A2, hg1, hS, hR⟩ := hR
  obtain ⟨hv1, rfl⟩ := hR; obtain rfl := hv1.symm
  have hS : St e s2 w [] := hS
  refine stp hF (p_geq rfl rfl) (by decide) (fun a hF => ?_)
  refine stp hF (p_assign rfl) (by decide) (fun a hF => ?_)
  refine nilN ?_
  refine xn ?_
  refine rt ?_
  obtain rfl := hsm H
  exact ret1 hF rfl rfl hS ⟨rfl, rfl⟩

def impl_PageOk.c1 (k : Nat) (x1 : Bool) : Option Bool :=
  (some x1)
def impl_PageOk.f (k : Nat) (x2 : TPage) : Option Bool :=
  ((impl_in.f k x2.Lsn 0 1000000).bind fun x3 => ((if x3 = true then ((impl_Slot_218_1219.f k x2.Slots).bind fun x4 => (some (!x4))) else (some false) : Option Bool).bind fun x5 => impl_PageOk.c1 k x5))
set_option maxRecDepth 100000 in
set_option maxHeartbeats 4000000 in
theorem impl_PageOk.spec (k : Nat) (s0 : HF) (w : World) (x2 : TPage) (c2 : List Value) (h1 : ((Kd.arr 4 kTSlot)).K s0 x2.Slots c2) (r : Bool) (H : impl_PageOk.f k x2 = some r) :
    Law Tryz.prog 145 #[(.agg ([(.int .i64 x2.Lsn)] ++ c2 : List Value).toArray)] s0 w [] (fun v s1 A1 => v = (.bool r) ∧ A1 = []) := by
  unfold impl_PageOk.f at H
  refine Law.intro Tryz.func145 rfl [(0, (.agg ([(.int .i64 x2.Lsn)] ++ c2 : List Value).toArray))] (Nat.le_of_ble_eq_true rfl) (enter_lk ⟨rfl, trivial⟩) (fun e a hS hF => ?_)
  have hF : Fr 12 a [(0, (.agg ([(.int .i64 x2.Lsn)] ++ c2 : List Value).toArray))] := hF
  refine sq ?_
  refine rg ?_
  refine ste hF (e_box (cs := [(.int .i64 x2.Lsn)] ++ c2) hS rfl rfl) (by decide) (fun v w a hR hF => ?_)
  obtain ⟨g1, rfl, hS⟩ := hR
  refine stp hF (p_assign rfl) (by decide) (fun a hF => ?_)
  refine nilN ?_
  refine xn ?_
  refine sq ?_
  refine rg ?_
  refine stp hF (p_fldb (o' := 0) rfl fi_48_0 rfl) (by decide) (fun a hF => ?_)
  refine stp hF (p_ldb_one (i := 0) hS rfl rfl ia_3 rfl) (by decide) (fun a hF => ?_)
  obtain ⟨x3, hx1, H⟩ := hb H
  refine ste hF (e_callA (fst := []) (vs := [(.int .i64 x2.Lsn), (.int .i64 0), (.int .i64 1000000)]) (cap := []) rfl rfl go_75 (St.call (A := []) (B := [pt g1 48 ([(.int .i64 x2.Lsn)] ++ c2)]) hS (impl_in.spec k _ _ x2.Lsn 0 1000000 _ hx1)) rfl) (by decide) (fun v w a hR hF => ?_)
  obtain ⟨s2, A2, hg1, hS, hR⟩ := hR
  obtain ⟨hv1, rfl⟩ := hR; obtain rfl := hv1.symm
  have hS : St e s2 w [pt g1 48 ([(.int .i64 x2.Lsn)] ++ c2)] := hS
  refine stp hF (p_move rfl) (by decide) (fun a hF => ?_)
  obtain ⟨x5, H, HK1⟩ := hb H
  refine cutj 5 (fun a w => ∃ (x1 : Bool) (s3 : HF) , St e s3 w [] ∧ Fr 12 a [(11, (.bool x1))] ∧ Sub s2 s3 ∧ impl_PageOk.c1 k x1 = some r) rfl rfl ?_ ?_
  · rcases Bool.eq_false_or_eq_true (x3) with hc1 | hc1
    · replace H := hbt hc1 H
      refine gonE (j := 3) hF rfl rfl hc1 ?_
      refine stp hF (p_fldb (o' := 1) rfl fi_48_1 rfl) (by decide) (fun a hF => ?_)
      obtain ⟨s4, hg2, h2, hS⟩ := hS.freezeB (i := 0) (g := g1) (T := 48) (cs := [(.int .i64 x2.Lsn)] ++ c2) (B := []) rfl
      have h3 : Pr kTPage s4 ⟨g1, 0, none⟩ x2 := Pr.box h2 (by exact (kTPage_mk (x := x2) ((Kd.arr 4 kTSlot).mono hg2 ((Kd.arr 4 kTSlot).mono hg1 h1))))
      have h4 : Pr (Kd.arr 4 kTSlot) s4 (⟨g1, 1, none⟩ : Addr) x2.Slots := h3.lens kTPage_Slots
      have h5 : Pr (Kd.int .i64) s4 (⟨g1, 0, none⟩ : Addr) x2.Lsn := h3.lens kTPage_Lsn
      have h6 : Sl kTSlot s4 (.slice (some (⟨g1, 1, none⟩ : Addr)) 4 4) x2.Slots := Pr.arr_sl h4
      refine gonE (j := 3) hF rfl rfl hc1 ?_
      refine stp hF (p_slarr un_46 ti_45 (by decide) rfl) (by decide) (fun a hF => ?_)
      obtain ⟨x4, hx2, H⟩ := hb H
      refine gonE (j := 3) hF rfl rfl hc1 ?_
      refine ste hF (e_callA (fst := []) (vs := [(.slice (some (⟨g1, 1, none⟩ : Addr)) 4 4), (.func (.func 219) #[] #[])]) (cap := []) rfl rfl go_218 (St.call (A := []) (B := []) hS (impl_Slot_218_1219.spec k _ _ x2.Slots (.slice (some (⟨g1, 1, none⟩ : Addr)) 4 4) h6 _ hx2)) rfl) (by decide) (fun v w a hR hF => ?_)
      obtain ⟨s5, A3, hg3, hS, hR⟩ := hR
      obtain ⟨hv2, rfl⟩ := hR; obtain rfl := hv2.symm
      have hS : St e s5 w [] := hS
      refine gonE (j := 3) hF rfl rfl hc1 ?_
      refine stp hF (p_not rfl) (by decide) (fun a hF => ?_)
      refine stp hF (p_pickT rfl hc1 rfl) (by decide) (fun a hF => ?_)
      refine nilN ?_
      refine xn ?_
      obtain rfl := hsm H
      exact ⟨(!x4), s5, hS, hF.cut ⟨rfl, trivial⟩, (hg2.trans hg3), HK1⟩
    · replace H := hbf hc1 H
      refine gofD (j := 3) hF rfl rfl (by rw [hc1]; decide) (by decide) (fun a hF => ?_)
      refine gofD (j := 3) hF rfl rfl (by rw [hc1]; decide) (by decide) (fun a hF => ?_)
      refine gofD (j := 3) hF rfl rfl (by rw [hc1]; decide) (by decide) (fun a hF => ?_)
      refine gofD (j := 3) hF rfl rfl (by rw [hc1]; decide) (by decide) (fun a hF => ?_)
      refine stp hF (p_pickF rfl hc1 rfl) (by decide) (fun a hF => ?_)
      refine nilN ?_
      refine xn ?_
      obtain rfl := hsm H
      replace hS := hS.sel (is := []) (A' := []) rfl
      exact ⟨false, s2, hS, hF.cut ⟨rfl, trivial⟩, (Sub.refl _), HK1⟩
  · clear H HK1 hS hF
    rintro a w ⟨x1, s3, hS, hF, hg4, H⟩
    unfold impl_PageOk.c1 at H
    refine stp hF (p_assign rfl) (by decide) (fun a hF => ?_)
    refine nilN ?_
    refine xn ?_
    refine rt ?_
    obtain rfl := hsm H
    exact ret1 hF rfl rfl hS ⟨rfl, rfl⟩

def impl_noSlot.c1 (k : Nat) (x1 : Bool) : Option Bool :=
  (some x1)
def impl_noSlot.f (k : Nat) (x2 : TSlot) : Option Bool :=
  ((if (!x2.Has) = true then ((impl_noObj.f k x2.O).bind fun x3 => (some x3)) else (some false) : Option Bool).bind fun x4 => impl_noSlot.c1 k x4)
set_option maxRecDepth 100000 in
set_option maxHeartbeats 4000000 in
theorem impl_noSlot.spec (k : Nat) (s0 : HF) (w : World) (x2 : TSlot) (v1 : Value) (v2 : Value) (h1 : Sl (Kd.int .i64) s0 v1 x2.O.Ints) (h2 : Sl (Kd.int .i64) s0 v2 x2.O.Refs) (r : Bool) (H : impl_noSlot.f k x2 = some r) :
    Law Tryz.prog 221 #[(.agg #[(.bool x2.Has), (.int .i64 x2.O.Kind), v1, v2])] s0 w [] (fun v s1 A1 => v = (.bool r) ∧ A1 = []) := by
  unfold impl_noSlot.f at H
  refine Law.intro Tryz.func221 rfl [(0, (.agg #[(.bool x2.Has), (.int .i64 x2.O.Kind), v1, v2]))] (Nat.le_of_ble_eq_true rfl) (enter_lk ⟨rfl, trivial⟩) (fun e a hS hF => ?_)
  have hF : Fr 11 a [(0, (.agg #[(.bool x2.Has), (.int .i64 x2.O.Kind), v1, v2]))] := hF
  refine sq ?_
  refine rg ?_
  refine ste hF (e_box (cs := [(.bool x2.Has), (.int .i64 x2.O.Kind), v1, v2]) hS rfl rfl) (by decide) (fun v w a hR hF => ?_)
  obtain ⟨g1, rfl, hS⟩ := hR
  refine stp hF (p_assign rfl) (by decide) (fun a hF => ?_)
  refine nilN ?_
  refine xn ?_
  refine sq ?_
  refine rg ?_
  refine stp hF (p_fldb (o' := 0) rfl fi_45_0 rfl) (by decide) (fun a hF => ?_)
  refine stp hF (p_ldb_one (i := 0) hS rfl rfl ia_4 rfl) (by decide) (fun a hF => ?_)
  refine stp hF (p_not rfl) (by decide) (fun a hF => ?_)
  refine stp hF (p_move rfl) (by decide) (fun a hF => ?_)
  obtain ⟨x4, H, HK1⟩ := hb H
  refine cutj 4 (fun a w => ∃ (x1 : Bool) (s2 : HF) , St e s2 w [pt g1 45 ([(.bool x2.Has), (.int .i64 x2.O.Kind), v1, v2])] ∧ Fr 11 a [(10, (.bool x1))] ∧ Sub s0 s2 ∧ impl_noSlot.c1 k x1 = some r) rfl rfl ?_ ?_
  · rcases Bool.eq_false_or_eq_true ((!x2.Has)) with hc1 | hc1
    · replace H := hbt hc1 H
      refine gonE (j := 3) hF rfl rfl hc1 ?_
      refine stp hF (p_fldb (o' := 1) rfl fi_45_1 rfl) (by decide) (fun a hF => ?_)
      refine gonE (j := 3) hF rfl rfl hc1 ?_
      refine stp hF (p_ldb_agg (i := 0) (l := [(.bool x2.Has)]) (m := [(.int .i64 x2.O.Kind), v1, v2]) (r := []) hS rfl rfl ia_43 ti_43 rfl rfl rfl) (by decide) (fun a hF => ?_)
      obtain ⟨x3, hx1, H⟩ := hb H
      refine gonE (j := 3) hF rfl rfl hc1 ?_
      refine ste hF (e_callA (fst := []) (vs := [(.agg #[(.int .i64 x2.O.Kind), v1, v2])]) (cap := []) rfl rfl go_268 (St.call (A := []) (B := [pt g1 45 ([(.bool x2.Has), (.int .i64 x2.O.Kind), v1, v2])]) hS (impl_noObj.spec k _ _ x2.O v1 v2 h1 h2 _ hx1)) rfl) (by decide) (fun v w a hR hF => ?_)
      obtain ⟨s3, A2, hg1, hS, hR⟩ := hR
      obtain ⟨hv1, rfl⟩ := hR; obtain rfl := hv1.symm
      have hS : St e s3 w [pt g1 45 ([(.bool x2.Has), (.int .i64 x2.O.Kind), v1, v2])] := hS
      refine stp hF (p_pickT rfl hc1 rfl) (by decide) (fun a hF => ?_)
      refine nilN ?_
      refine xn ?_
      obtain rfl := hsm H
      exact ⟨x3, s3, hS, hF.cut ⟨rfl, trivial⟩, hg1, HK1⟩
    · replace H := hbf hc1 H
      refine gofD (j := 3) hF rfl rfl (by rw [hc1]; decide) (by decide) (fun a hF => ?_)
      refine gofD (j := 3) hF rfl rfl (by rw [hc1]; decide) (by decide) (fun a hF => ?_)
      refine gofD (j := 3) hF rfl rfl (by rw [hc1]; decide) (by decide) (fun a hF => ?_)
      refine stp hF (p_pickF rfl hc1 rfl) (by decide) (fun a hF => ?_)
      refine nilN ?_
      refine xn ?_
      obtain rfl := hsm H
      exact ⟨false, s0, hS, hF.cut ⟨rfl, trivial⟩, (Sub.refl _), HK1⟩
  · clear H HK1 hS hF
    rintro a w ⟨x1, s2, hS, hF, hg2, H⟩
    unfold impl_noSlot.c1 at H
    refine stp hF (p_assign rfl) (by decide) (fun a hF => ?_)
    refine nilN ?_
    refine xn ?_
    refine rt ?_
    obtain rfl := hsm H
    replace hS := hS.sel (is := []) (A' := []) rfl
    exact ret1 hF rfl rfl hS ⟨rfl, rfl⟩

def impl_isTx.f (k : Nat) (x1 : Int) : Option Bool :=
  ((impl_in.f k x1 1 1000).bind fun x2 => (some x2))
set_option maxRecDepth 100000 in
set_option maxHeartbeats 4000000 in
theorem impl_isTx.spec (k : Nat) (s0 : HF) (w : World) (x1 : Int) (r : Bool) (H : impl_isTx.f k x1 = some r) :
    Law Tryz.prog 102 #[(.int .i64 x1)] s0 w [] (fun v s1 A1 => v = (.bool r) ∧ A1 = []) := by
  unfold impl_isTx.f at H
  refine Law.intro Tryz.func102 rfl [(0, (.int .i64 x1))] (Nat.le_of_ble_eq_true rfl) (enter_lk ⟨rfl, trivial⟩) (fun e a hS hF => ?_)
  have hF : Fr 5 a [(0, (.int .i64 x1))] := hF
  refine sq ?_
  refine rg ?_
  refine stp hF (p_assign rfl) (by decide) (fun a hF => ?_)
  refine nilN ?_
  refine xn ?_
  refine sq ?_
  refine rg ?_
  refine stp hF (p_move rfl) (by decide) (fun a hF => ?_)
  obtain ⟨x2, hx1, H⟩ := hb H
  refine ste hF (e_callA (fst := []) (vs := [(.int .i64 x1), (.int .i64 1), (.int .i64 1000)]) (cap := []) rfl rfl go_75 (St.call (A := []) (B := []) hS (impl_in.spec k _ _ x1 1 1000 _ hx1)) rfl) (by decide) (fun v w a hR hF => ?_)
  obtain ⟨s2, A2, hg1, hS, hR⟩ := hR
  obtain ⟨hv1, rfl⟩ := hR; obtain rfl := hv1.symm
  have hS : St e s2 w [] := hS
  refine stp hF (p_assign rfl) (by decide) (fun a hF => ?_)
  refine nilN ?_
  refine xn ?_
  refine rt ?_
  obtain rfl := hsm H
  exact ret1 hF rfl rfl hS ⟨rfl, rfl⟩

def impl_livesOk.c1 (k : Nat) (x1 : (List TLive)) : Option Bool :=
  (some (decide ((x1.length : Int) ≤ 20)))
def impl_livesOk.c2 (k : Nat) (rec_l1 : Int → Option (Ex Bool Unit)) (x2 : Int) (x3 : Bool) : Option (Ex Bool Unit) :=
  (if x3 = true then (some (Ex.ret false)) else (rec_l1 (w64 (x2 + 1))))
def impl_livesOk.l1 (x1 : (List TLive)) (x4 : Int) : Nat → Int → Option (Ex Bool Unit)
  | 0, _ => none
  | k + 1, x2 => (if (decide (x2 < (x1.length : Int))) = true then (if 0 ≤ x2 ∧ x2 < (x1.length : Int) then ((((impl_isTx.f k ((rd x1 x2).Tx)).bind fun x5 => (if (!x5) = true then (some true) else ((impl_in.f k ((rd x1 x2).Last) 1 (w64 (x4 - 1))).bind fun x6 => (if (!x6) = true then (some true) else (if (decide (0 < x2)) = true then (if 0 ≤ (w64 (x2 - 1)) ∧ (w64 (x2 - 1)) < (x1.length : Int) then (some (decide (((rd x1 x2).Tx) ≤ ((rd x1 (w64 (x2 - 1))).Tx)))) else none) else (some false)))))) : Option Bool).bind fun x7 => impl_livesOk.c2 k (impl_livesOk.l1 x1 x4 k) x2 x7) else none) else (some (Ex.go ())))
def impl_livesOk.f (k : Nat) (x1 : (List TLive)) (x4 : Int) : Option Bool :=
  (((impl_livesOk.l1 x1 x4 k 0) : Option (Ex Bool Unit)).bind fun x8 => Ex.on x8 (fun r => some r) (fun y => impl_livesOk.c1 k x1))
set_option maxRecDepth 100000 in
set_option maxHeartbeats 4000000 in
theorem impl_livesOk.spec (k : Nat) (s0 : HF) (w : World) (x1 : (List TLive)) (x4 : Int) (v1 : Value) (h1 : Sl kTLive s0 v1 x1) (r : Bool) (H : impl_livesOk.f k x1 x4 = some r) :
    Law Tryz.prog 222 #[v1, (.int .i64 x4)] s0 w [] (fun v s1 A1 => v = (.bool r) ∧ A1 = []) := by
  unfold impl_livesOk.f at H
  refine Law.intro Tryz.func222 rfl [(0, v1), (1, (.int .i64 x4))] (Nat.le_of_ble_eq_true rfl) (enter_lk ⟨rfl, rfl, trivial⟩) (fun e a hS hF => ?_)
  have hF : Fr 45 a [(0, v1), (1, (.int .i64 x4))] := hF
  refine sq ?_
  refine rg ?_
  refine stp hF (p_assign rfl) (by decide) (fun a hF => ?_)
  refine nilN ?_
  refine xn ?_
  obtain ⟨x8, H, HK1⟩ := hb H
  refine sqj (fun a w => ∃ (s2 : HF) , St e s2 w [] ∧ Fr 45 a [(0, v1)] ∧ Sub s0 s2 ∧ impl_livesOk.c1 k x1 = some r) ?_ ?_
  · skip
    refine sq ?_
    refine rg ?_
    refine stp hF (p_move rfl) (by decide) (fun a hF => ?_)
    refine stp hF (p_lenr un_56 rfl h1) (by decide) (fun a hF => ?_)
    refine stp hF (p_move rfl) (by decide) (fun a hF => ?_)
    refine nilN ?_
    refine xn ?_
    refine blk ?_
    refine loop_ind (fun k1 a w => ∃ (x2 : Int) (s3 : HF) , St e s3 w [] ∧ Fr 45 a [(0, v1), (1, (.int .i64 x4)), (7, v1), (8, (.int .i64 (x1.length : Int))), (9, (.int .i64 x2))] ∧ Sub s0 s3 ∧ impl_livesOk.l1 x1 x4 k1 x2 = some x8) k ?_ ?_ ?_
    · skip
      exact ⟨0, s0, hS, hF.cut ⟨rfl, rfl, rfl, rfl, rfl, trivial⟩, (Sub.refl _), H⟩
    · clear H hS hF
      rintro a w ⟨x2, s3, hS, hF, hg1, H⟩
      exact absurd (show none = some _ from H) (by simp)
    · clear H hS hF
      rintro k1 a w ⟨x2, s3, hS, hF, hg1, H⟩
      rw [impl_livesOk.l1.eq_2] at H
      refine sq ?_
      refine rg ?_
      refine stp hF (p_lss rfl rfl) (by decide) (fun a hF => ?_)
      refine nilN ?_
      refine xn ?_
      refine sq ?_
      refine cnd hF rfl (fun hc1 => ?_) (fun hc1 => ?_)
      · replace H := hbt hc1 H
        refine skN ?_
        refine xn ?_
        refine sq ?_
        refine blk ?_
        refine sq ?_
        refine rg ?_
        refine stp hF (p_move rfl) (by decide) (fun a hF => ?_)
        obtain ⟨hq1, H⟩ := hck H
        obtain ⟨ad1, h2, p1⟩ := p_idxr (P := Tryz.prog) (i := x2) (h1.mono hg1) un_56 ti_169 hq1.1 hq1.2
        refine stp hF (p1 rfl rfl) (by decide) (fun a hF => ?_)
        obtain ⟨c3, h3, p2⟩ := p_ldr_agg (P := Tryz.prog) h2 ia_169 ti_169
        obtain rfl := kTLive_open h3
        refine stp hF (p2 rfl hS.ro) (by decide) (fun a hF => ?_)
        refine ste hF (e_alloc (cs := [(.int .i64 0), (.int .i64 0), (.bool false)]) hS ti_169 rfl) (by decide) (fun v w a hR hF => ?_)
        obtain ⟨g1, rfl, hS⟩ := hR
        refine stp hF (p_assign rfl) (by decide) (fun a hF => ?_)
        refine ste0 hF (e_stb (i := 0) (l := []) (m := [(.int .i64 0), (.int .i64 0), (.bool false)]) (r := []) (m' := [(.int .i64 ((rd x1 x2).Tx)), (.int .i64 ((rd x1 x2).Last)), (.bool ((rd x1 x2).Aborts))]) (cs' := [(.int .i64 ((rd x1 x2).Tx)), (.int .i64 ((rd x1 x2).Last)), (.bool ((rd x1 x2).Aborts))]) hS rfl rfl rfl ti_169 rfl rfl rfl rfl rfl (one_cons rfl (one_cons rfl (one_cons rfl one_nil))) rfl) (fun v w a hR hF => ?_)
        have hS : St e s3 w [pt g1 169 ([(.int .i64 ((rd x1 x2).Tx)), (.int .i64 ((rd x1 x2).Last)), (.bool ((rd x1 x2).Aborts))])] := hR
        refine nilN ?_
        refine xn ?_
        obtain ⟨x7, H, HK2⟩ := hb H
        refine sqj (fun a w => ∃ (x3 : Bool) (s4 : HF) , St e s4 w [pt g1 169 ([(.int .i64 ((rd x1 x2).Tx)), (.int .i64 ((rd x1 x2).Last)), (.bool ((rd x1 x2).Aborts))])] ∧ Fr 45 a [(0, v1), (1, (.int .i64 x4)), (7, v1), (8, (.int .i64 (x1.length : Int))), (9, (.int .i64 x2)), (40, (.bool x3))] ∧ Sub s3 s4 ∧ impl_livesOk.c2 k1 (impl_livesOk.l1 x1 x4 k1) x2 x3 = some x8) ?_ ?_
        · skip
          replace hS : St e s3 w.drew [pt g1 169 ([(.int .i64 ((rd x1 x2).Tx)), (.int .i64 ((rd x1 x2).Last)), (.bool ((rd x1 x2).Aborts))])] := hS.drewN 1
          refine drw [0, 1, 2, 3, 4, 5, 6, 7, 8, 9, 10, 11, 12, 13, 14, 15, 16, 17, 18, 19, 20, 21, 22, 23, 24, 25, 26] mixed (by kernel_rfl) (by decide) (hF.cut (L' := [(0, v1), (1, (.int .i64 x4)), (5, (.int .i64 x2)), (6, (.pointer (some ⟨g1, 0, none⟩))), (7, v1), (8, (.int .i64 (x1.length : Int))), (9, (.int .i64 x2)), (10, (.bool (decide (x2 < (x1.length : Int))))), (11, (.int .i64 x2)), (12, (.pointer (some ad1))), (13, (.agg #[(.int .i64 ((rd x1 x2).Tx)), (.int .i64 ((rd x1 x2).Last)), (.bool ((rd x1 x2).Aborts))]))]) ⟨rfl, rfl, rfl, rfl, rfl, rfl, rfl, rfl, rfl, rfl, rfl, trivial⟩) ?_
          clear hF
          generalize w.drew = w at hS ⊢
          refine pk1 rfl (by decide) rfl (by kernel_rfl) rfl (p_fldb (o' := 0) rfl fi_169_0 rfl) ?_
          refine pk1 rfl (by decide) rfl (by kernel_rfl) rfl (p_ldb_one (i := 0) hS rfl rfl ia_3 rfl) ?_
          obtain ⟨x5, hx1, H⟩ := hb H
          refine pkE [0] rfl (by decide) (by kernel_rfl) (by kernel_rfl) (e_callA (fst := []) (vs := [(.int .i64 ((rd x1 x2).Tx))]) (cap := []) rfl rfl go_102 (St.call (A := []) (B := [pt g1 169 ([(.int .i64 ((rd x1 x2).Tx)), (.int .i64 ((rd x1 x2).Last)), (.bool ((rd x1 x2).Aborts))])]) hS (impl_isTx.spec k1 _ _ ((rd x1 x2).Tx) _ hx1)) rfl) ?_
          intro v w hR
          obtain ⟨s5, A2, hg2, hS, hR⟩ := hR
          obtain ⟨hv1, rfl⟩ := hR; obtain rfl := hv1.symm
          have hS : St e s5 w [pt g1 169 ([(.int .i64 ((rd x1 x2).Tx)), (.int .i64 ((rd x1 x2).Last)), (.bool ((rd x1 x2).Aborts))])] := hS
          refine ⟨⟨knw rfl rfl rfl (p_fldb (o' := 0) rfl fi_169_0 rfl), trivial⟩, ?_⟩
          refine pk1 rfl (by decide) rfl (by kernel_rfl) rfl (p_not rfl) ?_
          refine pk1 rfl (by decide) rfl (by kernel_rfl) rfl (p_move rfl) ?_
          rcases Bool.eq_false_or_eq_true ((!x5)) with hc2 | hc2
          · replace H := hbt hc2 H
            refine pkOff (j := 4) rfl (by decide) rfl (by kernel_rfl) rfl rfl rfl (by rw [hc2]; decide) ?_
            refine pkOff (j := 4) rfl (by decide) rfl (by kernel_rfl) rfl rfl rfl (by rw [hc2]; decide) ?_
            refine pkOff (j := 4) rfl (by decide) rfl (by kernel_rfl) rfl rfl rfl (by rw [hc2]; decide) ?_
            refine pkOff (j := 4) rfl (by decide) rfl (by kernel_rfl) rfl rfl rfl (by rw [hc2]; decide) ?_
            refine pkOff (j := 4) rfl (by decide) rfl (by kernel_rfl) rfl rfl rfl (by rw [hc2]; decide) ?_
            refine pkOff (j := 4) rfl (by decide) rfl (by kernel_rfl) rfl rfl rfl (by rw [hc2]; decide) ?_
            refine pk1 rfl (by decide) rfl (by kernel_rfl) rfl (p_pickT rfl hc2 rfl) ?_
            refine pk1 rfl (by decide) rfl (by kernel_rfl) rfl (p_move rfl) ?_
            have hc3 : true = true := rfl
            refine pkOff (j := 12) rfl (by decide) rfl (by kernel_rfl) rfl rfl rfl (by rw [hc3]; decide) ?_
            refine pkOff (j := 12) rfl (by decide) rfl (by kernel_rfl) rfl rfl rfl (by rw [hc3]; decide) ?_
            refine pkOff (j := 12) rfl (by decide) rfl (by kernel_rfl) rfl rfl rfl (by rw [hc3]; decide) ?_
            refine pkOffU (j := 15) rfl (by decide) rfl (by kernel_rfl) rfl rfl rfl ?_
            refine pkOffU (j := 15) rfl (by decide) rfl (by kernel_rfl) rfl rfl rfl ?_
            refine pkOffU (j := 15) rfl (by decide) rfl (by kernel_rfl) rfl rfl rfl ?_
            refine pkOffU (j := 15) rfl (by decide) rfl (by kernel_rfl) rfl rfl rfl ?_
            refine pkOffU (j := 15) rfl (by decide) rfl (by kernel_rfl) rfl rfl rfl ?_
            refine pkOffU (j := 15) rfl (by decide) rfl (by kernel_rfl) rfl rfl rfl ?_
            refine pkOffU (j := 15) rfl (by decide) rfl (by kernel_rfl) rfl rfl rfl ?_
            refine pkOffU (j := 15) rfl (by decide) rfl (by kernel_rfl) rfl rfl rfl ?_
            refine pkOffU (j := 15) rfl (by decide) rfl (by kernel_rfl) rfl rfl rfl ?_
            refine pkOff (j := 12) rfl (by decide) rfl (by kernel_rfl) rfl rfl rfl (by rw [hc3]; decide) ?_
            refine pk1 rfl (by decide) rfl (by kernel_rfl) rfl (p_pickT rfl hc3 rfl) ?_
            refine pkF (fun a hF => ?_)
            refine xn ?_
            obtain rfl := hsm H
            exact ⟨true, s5, hS, hF.cut ⟨rfl, rfl, rfl, rfl, rfl, rfl, trivial⟩, hg2, HK2⟩
          · replace H := hbf hc2 H
            refine pkOn (j := 4) rfl (by decide) rfl (by kernel_rfl) rfl rfl rfl hc2 (p_fldb (o' := 1) rfl fi_169_1 rfl) ?_
            refine pkOn (j := 4) rfl (by decide) rfl (by kernel_rfl) rfl rfl rfl hc2 (p_ldb_one (i := 0) hS rfl rfl ia_3 rfl) ?_
            refine pkOn (j := 4) rfl (by decide) rfl (by kernel_rfl) rfl rfl rfl hc2 (p_move rfl) ?_
            refine pkOn (j := 4) rfl (by decide) rfl (by kernel_rfl) rfl rfl rfl hc2 (p_sub (c := w64 (x4 - 1)) rfl rfl rfl) ?_
            obtain ⟨x6, hx2, H⟩ := hb H
            refine pkEOn (j := 4) [7, 5, 3, 0] rfl rfl rfl hc2 (by decide) (by kernel_rfl) (by kernel_rfl) (e_callA (fst := []) (vs := [(.int .i64 ((rd x1 x2).Last)), (.int .i64 1), (.int .i64 (w64 (x4 - 1)))]) (cap := []) rfl rfl go_75 (St.call (A := []) (B := [pt g1 169 ([(.int .i64 ((rd x1 x2).Tx)), (.int .i64 ((rd x1 x2).Last)), (.bool ((rd x1 x2).Aborts))])]) hS (impl_in.spec k1 _ _ ((rd x1 x2).Last) 1 (w64 (x4 - 1)) _ hx2)) rfl) ?_
            intro v w hR
            obtain ⟨s6, A3, hg3, hS, hR⟩ := hR
            obtain ⟨hv2, rfl⟩ := hR; obtain rfl := hv2.symm
            have hS : St e s6 w [pt g1 169 ([(.int .i64 ((rd x1 x2).Tx)), (.int .i64 ((rd x1 x2).Last)), (.bool ((rd x1 x2).Aborts))])] := hS
            refine ⟨⟨knwOn (j := 4) rfl rfl rfl rfl rfl hc2 (p_move rfl), ⟨knwOn (j := 4) rfl rfl rfl rfl rfl hc2 (p_fldb (o' := 1) rfl fi_169_1 rfl), ⟨knw rfl rfl rfl (p_not rfl), ⟨knw rfl rfl rfl (p_fldb (o' := 0) rfl fi_169_0 rfl), trivial⟩⟩⟩⟩, ?_⟩
            refine pkOn (j := 4) rfl (by decide) rfl (by kernel_rfl) rfl rfl rfl hc2 (p_not rfl) ?_
            refine pk1 rfl (by decide) rfl (by kernel_rfl) rfl (p_pickF rfl hc2 rfl) ?_
            refine pk1 rfl (by decide) rfl (by kernel_rfl) rfl (p_move rfl) ?_
            rcases Bool.eq_false_or_eq_true ((!x6)) with hc4 | hc4
            · replace H := hbt hc4 H
              refine pkOff (j := 12) rfl (by decide) rfl (by kernel_rfl) rfl rfl rfl (by rw [hc4]; decide) ?_
              refine pkOff (j := 12) rfl (by decide) rfl (by kernel_rfl) rfl rfl rfl (by rw [hc4]; decide) ?_
              refine pkOff (j := 12) rfl (by decide) rfl (by kernel_rfl) rfl rfl rfl (by rw [hc4]; decide) ?_
              refine pkOffU (j := 15) rfl (by decide) rfl (by kernel_rfl) rfl rfl rfl ?_
              refine pkOffU (j := 15) rfl (by decide) rfl (by kernel_rfl) rfl rfl rfl ?_
              refine pkOffU (j := 15) rfl (by decide) rfl (by kernel_rfl) rfl rfl rfl ?_
              refine pkOffU (j := 15) rfl (by decide) rfl (by kernel_rfl) rfl rfl rfl ?_
              refine pkOffU (j := 15) rfl (by decide) rfl (by kernel_rfl) rfl rfl rfl ?_
              refine pkOffU (j := 15) rfl (by decide) rfl (by kernel_rfl) rfl rfl rfl ?_
              refine pkOffU (j := 15) rfl (by decide) rfl (by kernel_rfl) rfl rfl rfl ?_
              refine pkOffU (j := 15) rfl (by decide) rfl (by kernel_rfl) rfl rfl rfl ?_
              refine pkOffU (j := 15) rfl (by decide) rfl (by kernel_rfl) rfl rfl rfl ?_
              refine pkOff (j := 12) rfl (by decide) rfl (by kernel_rfl) rfl rfl rfl (by rw [hc4]; decide) ?_
              refine pk1 rfl (by decide) rfl (by kernel_rfl) rfl (p_pickT rfl hc4 rfl) ?_
              refine pkF (fun a hF => ?_)
              refine xn ?_
              obtain rfl := hsm H
              exact ⟨true, s6, hS, hF.cut ⟨rfl, rfl, rfl, rfl, rfl, rfl, trivial⟩, (hg2.trans hg3), HK2⟩
            · replace H := hbf hc4 H
              refine pkOn (j := 12) rfl (by decide) rfl (by kernel_rfl) rfl rfl rfl hc4 (p_move rfl) ?_
              refine pkOn (j := 12) rfl (by decide) rfl (by kernel_rfl) rfl rfl rfl hc4 (p_gtr rfl rfl) ?_
              refine pkOn (j := 12) rfl (by decide) rfl (by kernel_rfl) rfl rfl rfl hc4 (p_move rfl) ?_
              rcases Bool.eq_false_or_eq_true (decide (0 < x2)) with hc5 | hc5
              · replace H := hbt hc5 H
                refine pkOn (j := 15) rfl (by decide) rfl (by kernel_rfl) rfl rfl rfl hc5 (p_move rfl) ?_
                refine pkOn (j := 15) rfl (by decide) rfl (by kernel_rfl) rfl rfl rfl hc5 (p_move rfl) ?_
                refine pkOn (j := 15) rfl (by decide) rfl (by kernel_rfl) rfl rfl rfl hc5 (p_sub (c := w64 (x2 - 1)) rfl rfl rfl) ?_
                obtain ⟨hq2, H⟩ := hck H
                obtain ⟨ad2, h4, p3⟩ := p_idxr (P := Tryz.prog) (i := (w64 (x2 - 1))) (((h1.mono hg1).mono hg2).mono hg3) un_56 ti_169 hq2.1 hq2.2
                refine pkOn (j := 15) rfl (by decide) rfl (by kernel_rfl) rfl rfl rfl hc5 (p3 rfl rfl) ?_
                have h5 : Pr (Kd.int .i64) s6 (ad2.add 0) ((rd x1 (w64 (x2 - 1))).Tx) := h4.lens kTLive_Tx
                refine pkOn (j := 15) rfl (by decide) rfl (by kernel_rfl) rfl rfl rfl hc5 (p_fld rfl fi_169_0) ?_
                refine pkOn (j := 15) rfl (by decide) rfl (by kernel_rfl) rfl rfl rfl hc5 (p_ldr_int rfl hS h5 ia_3) ?_
                refine pkOn (j := 15) rfl (by decide) rfl (by kernel_rfl) rfl rfl rfl hc5 (p_fldb (o' := 0) rfl fi_169_0 rfl) ?_
                refine pkOn (j := 15) rfl (by decide) rfl (by kernel_rfl) rfl rfl rfl hc5 (p_ldb_one (i := 0) hS rfl rfl ia_3 rfl) ?_
                refine pkOn (j := 15) rfl (by decide) rfl (by kernel_rfl) rfl rfl rfl hc5 (p_geq rfl rfl) ?_
                refine pkOn (j := 12) rfl (by decide) rfl (by kernel_rfl) rfl rfl rfl hc4 (p_pickT rfl hc5 rfl) ?_
                refine pk1 rfl (by decide) rfl (by kernel_rfl) rfl (p_pickF rfl hc4 rfl) ?_
                refine pkF (fun a hF => ?_)
                refine xn ?_
                obtain rfl := hsm H
                exact ⟨(decide (((rd x1 x2).Tx) ≤ ((rd x1 (w64 (x2 - 1))).Tx))), s6, hS, hF.cut ⟨rfl, rfl, rfl, rfl, rfl, rfl, trivial⟩, (hg2.trans hg3), HK2⟩
              · replace H := hbf hc5 H
                refine pkOff (j := 15) rfl (by decide) rfl (by kernel_rfl) rfl rfl rfl (by rw [hc5]; decide) ?_
                refine pkOff (j := 15) rfl (by decide) rfl (by kernel_rfl) rfl rfl rfl (by rw [hc5]; decide) ?_
                refine pkOff (j := 15) rfl (by decide) rfl (by kernel_rfl) rfl rfl rfl (by rw [hc5]; decide) ?_
                refine pkOff (j := 15) rfl (by decide) rfl (by kernel_rfl) rfl rfl rfl (by rw [hc5]; decide) ?_
                refine pkOff (j := 15) rfl (by decide) rfl (by kernel_rfl) rfl rfl rfl (by rw [hc5]; decide) ?_
                refine pkOff (j := 15) rfl (by decide) rfl (by kernel_rfl) rfl rfl rfl (by rw [hc5]; decide) ?_
                refine pkOff (j := 15) rfl (by decide) rfl (by kernel_rfl) rfl rfl rfl (by rw [hc5]; decide) ?_
                refine pkOff (j := 15) rfl (by decide) rfl (by kernel_rfl) rfl rfl rfl (by rw [hc5]; decide) ?_
                refine pkOff (j := 15) rfl (by decide) rfl (by kernel_rfl) rfl rfl rfl (by rw [hc5]; decide) ?_
                refine pkOn (j := 12) rfl (by decide) rfl (by kernel_rfl) rfl rfl rfl hc4 (p_pickF rfl hc5 rfl) ?_
                refine pk1 rfl (by decide) rfl (by kernel_rfl) rfl (p_pickF rfl hc4 rfl) ?_
                refine pkF (fun a hF => ?_)
                refine xn ?_
                obtain rfl := hsm H
                exact ⟨false, s6, hS, hF.cut ⟨rfl, rfl, rfl, rfl, rfl, rfl, trivial⟩, (hg2.trans hg3), HK2⟩
        · clear H HK2 hS hF
          rintro a w ⟨x3, s4, hS, hF, hg4, H⟩
          unfold impl_livesOk.c2 at H
          refine cnd hF rfl (fun hc6 => ?_) (fun hc6 => ?_)
          · replace H := hbt hc6 H
            refine sq ?_
            refine rg ?_
            refine stp hF (p_assign rfl) (by decide) (fun a hF => ?_)
            refine nilN ?_
            refine xn ?_
            refine rt ?_
            refine br (xr (xr (br (xr ?_))))
            obtain rfl := hsm H
            have H := hon1 HK1
            obtain rfl := hsm H
            replace hS := hS.sel (is := []) (A' := []) rfl
            exact ret1 hF rfl rfl hS ⟨rfl, rfl⟩
          · replace H := hbf hc6 H
            refine skN ?_
            refine bn (xn ?_)
            refine rg ?_
            refine stp hF (p_add (c := w64 (x2 + 1)) rfl rfl rfl) (by decide) (fun a hF => ?_)
            refine stp hF (p_move rfl) (by decide) (fun a hF => ?_)
            refine nilN ?_
            refine xn ?_
            replace hS := hS.sel (is := []) (A' := []) rfl
            exact ⟨(w64 (x2 + 1)), s4, hS, hF.cut ⟨rfl, rfl, rfl, rfl, rfl, trivial⟩, (hg1.trans hg4), H⟩
      · replace H := hbf hc1 H
        refine exi ?_
        refine xe (xe (hit (xn ?_)))
        obtain rfl := hsm H
        exact ⟨s3, hS, hF.cut ⟨rfl, trivial⟩, hg1, HK1⟩
  · clear H HK1 hS hF
    rintro a w ⟨s2, hS, hF, hg5, H⟩
    unfold impl_livesOk.c1 at H
    refine sq ?_
    refine rg ?_
    refine stp hF (p_move rfl) (by decide) (fun a hF => ?_)
    refine stp hF (p_lenr un_56 rfl (h1.mono hg5)) (by decide) (fun a hF => ?_)
    refine stp hF (p_leq rfl rfl) (by decide) (fun a hF => ?_)
    refine stp hF (p_assign rfl) (by decide) (fun a hF => ?_)
    refine nilN ?_
    refine xn ?_
    refine rt ?_
    obtain rfl := hsm H
    exact ret1 hF rfl rfl hS ⟨rfl, rfl⟩

def impl_isOid.f (k : Nat) (x1 : Int) : Option Bool :=
  ((impl_in.f k x1 1 31).bind fun x2 => (some x2))
set_option maxRecDepth 100000 in
set_option maxHeartbeats 4000000 in
theorem impl_isOid.spec (k : Nat) (s0 : HF) (w : World) (x1 : Int) (r : Bool) (H : impl_isOid.f k x1 = some r) :
    Law Tryz.prog 80 #[(.int .i64 x1)] s0 w [] (fun v s1 A1 => v = (.bool r) ∧ A1 = []) := by
  unfold impl_isOid.f at H
  refine Law.intro Tryz.func80 rfl [(0, (.int .i64 x1))] (Nat.le_of_ble_eq_true rfl) (enter_lk ⟨rfl, trivial⟩) (fun e a hS hF => ?_)
  have hF : Fr 5 a [(0, (.int .i64 x1))] := hF
  refine sq ?_
  refine rg ?_
  refine stp hF (p_assign rfl) (by decide) (fun a hF => ?_)
  refine nilN ?_
  refine xn ?_
  refine sq ?_
  refine rg ?_
  refine stp hF (p_move rfl) (by decide) (fun a hF => ?_)
  obtain ⟨x2, hx1, H⟩ := hb H
  refine ste hF (e_callA (fst := []) (vs := [(.int .i64 x1), (.int .i64 1), (.int .i64 31)]) (cap := []) rfl rfl go_75 (St.call (A := []) (B := []) hS (impl_in.spec k _ _ x1 1 31 _ hx1)) rfl) (by decide) (fun v w a hR hF => ?_)
  obtain ⟨s2, A2, hg1, hS, hR⟩ := hR
  obtain ⟨hv1, rfl⟩ := hR; obtain rfl := hv1.symm
  have hS : St e s2 w [] := hS
  refine stp hF (p_assign rfl) (by decide) (fun a hF => ?_)
  refine nilN ?_
  refine xn ?_
  refine rt ?_
  obtain rfl := hsm H
  exact ret1 hF rfl rfl hS ⟨rfl, rfl⟩

def impl_RecOk.c1 (k : Nat) (x1 : Bool) : Option Bool :=
  (some x1)
def impl_RecOk.c2 (k : Nat) (x2 : TRec) (x3 : Bool) : Option Bool :=
  (some (x3 && (decide (x2.Next = 0))))
def impl_RecOk.c3 (k : Nat) (x2 : TRec) (x4 : Bool) : Option Bool :=
  ((if x4 = true then ((impl_slotOk.f k x2.After).bind fun x5 => (some x5)) else (some false) : Option Bool).bind fun x6 => impl_RecOk.c2 k x2 x6)
def impl_RecOk.c4 (k : Nat) (x7 : Bool) : Option Bool :=
  (some x7)
def impl_RecOk.c5 (k : Nat) (x2 : TRec) (x8 : Bool) : Option Bool :=
  ((if x8 = true then ((impl_in.f k x2.Next 0 (w64 (x2.Lsn - 1))).bind fun x9 => (some x9)) else (some false) : Option Bool).bind fun x10 => impl_RecOk.c4 k x10)
def impl_RecOk.c6 (k : Nat) (x2 : TRec) (x11 : Bool) : Option Bool :=
  ((if x11 = true then ((impl_slotOk.f k x2.After).bind fun x12 => (some x12)) else (some false) : Option Bool).bind fun x13 => impl_RecOk.c5 k x2 x13)
def impl_RecOk.c7 (k : Nat) (x14 : Bool) (x2 : TRec) (x15 : Bool) : Option Bool :=
  (if x15 = true then (some (x14 && (decide (x2.Next = 0)))) else (some false))
def impl_RecOk.c8 (k : Nat) (x2 : TRec) (x14 : Bool) (x16 : Bool) : Option Bool :=
  (if (x16 || (decide (0 < (x2.Txs.length : Int)))) = true then (some false) else (if (decide (x2.Kind = 1)) = true then ((impl_isOid.f k x2.Oid).bind fun x17 => ((if x17 = true then ((impl_slotOk.f k x2.Before).bind fun x18 => (some x18)) else (some false) : Option Bool).bind fun x19 => impl_RecOk.c3 k x2 x19)) else (if (decide (x2.Kind = 4)) = true then ((impl_isOid.f k x2.Oid).bind fun x20 => ((if x20 = true then ((impl_noSlot.f k x2.Before).bind fun x21 => (some x21)) else (some false) : Option Bool).bind fun x22 => impl_RecOk.c6 k x2 x22)) else (((if (decide (x2.Kind = 2)) = true then (some (decide (x2.Kind = 2))) else (if (decide (x2.Kind = 3)) = true then (some (decide (x2.Kind = 3))) else (some (decide (x2.Kind = 5))))) : Option Bool).bind fun x23 => impl_RecOk.c7 k x14 x2 x23))))
def impl_RecOk.c9 (k : Nat) (x2 : TRec) (x14 : Bool) : Option Bool :=
  (if (decide (x2.Kind = 6)) = true then ((if ((((decide (x2.Tx = 0)) && (decide (x2.Prev = 0))) && x14) && (decide (x2.Next = 0))) = true then ((impl_livesOk.f k x2.Txs x2.Lsn).bind fun x24 => (some x24)) else (some false) : Option Bool).bind fun x25 => impl_RecOk.c1 k x25) else ((impl_isTx.f k x2.Tx).bind fun x26 => ((if (!x26) = true then (some true) else ((impl_in.f k x2.Prev 0 (w64 (x2.Lsn - 1))).bind fun x27 => (some (!x27))) : Option Bool).bind fun x28 => impl_RecOk.c8 k x2 x14 x28)))
def impl_RecOk.c10 (k : Nat) (x2 : TRec) (x29 : Bool) : Option Bool :=
  ((if x29 = true then ((impl_noSlot.f k x2.After).bind fun x30 => (some x30)) else (some false) : Option Bool).bind fun x31 => impl_RecOk.c9 k x2 x31)
def impl_RecOk.f (k : Nat) (x2 : TRec) : Option Bool :=
  ((impl_in.f k x2.Lsn 1 1000000).bind fun x32 => (if (!x32) = true then (some false) else ((if (decide (x2.Oid = 0)) = true then ((impl_noSlot.f k x2.Before).bind fun x33 => (some x33)) else (some false) : Option Bool).bind fun x34 => impl_RecOk.c10 k x2 x34)))
set_option maxRecDepth 100000 in
set_option maxHeartbeats 4000000 in
theorem impl_RecOk.spec (k : Nat) (s0 : HF) (w : World) (x2 : TRec) (v1 : Value) (v2 : Value) (v3 : Value) (v4 : Value) (v5 : Value) (h1 : Sl (Kd.int .i64) s0 v1 x2.Before.O.Ints) (h2 : Sl (Kd.int .i64) s0 v2 x2.Before.O.Refs) (h3 : Sl (Kd.int .i64) s0 v3 x2.After.O.Ints) (h4 : Sl (Kd.int .i64) s0 v4 x2.After.O.Refs) (h5 : Sl kTLive s0 v5 x2.Txs) (r : Bool) (H : impl_RecOk.f k x2 = some r) :
    Law Tryz.prog 146 #[(.agg #[(.int .i64 x2.Lsn), (.int .i64 x2.Tx), (.int .i64 x2.Prev), (.int .i64 x2.Kind), (.int .i64 x2.Oid), (.bool x2.Before.Has), (.int .i64 x2.Before.O.Kind), v1, v2, (.bool x2.After.Has), (.int .i64 x2.After.O.Kind), v3, v4, (.int .i64 x2.Next), v5])] s0 w [] (fun v s1 A1 => v = (.bool r) ∧ A1 = []) := by
  unfold impl_RecOk.f at H
  refine Law.intro Tryz.func146 rfl [(0, (.agg #[(.int .i64 x2.Lsn), (.int .i64 x2.Tx), (.int .i64 x2.Prev), (.int .i64 x2.Kind), (.int .i64 x2.Oid), (.bool x2.Before.Has), (.int .i64 x2.Before.O.Kind), v1, v2, (.bool x2.After.Has), (.int .i64 x2.After.O.Kind), v3, v4, (.int .i64 x2.Next), v5]))] (Nat.le_of_ble_eq_true rfl) (enter_lk ⟨rfl, trivial⟩) (fun e a hS hF => ?_)
  have hF : Fr 121 a [(0, (.agg #[(.int .i64 x2.Lsn), (.int .i64 x2.Tx), (.int .i64 x2.Prev), (.int .i64 x2.Kind), (.int .i64 x2.Oid), (.bool x2.Before.Has), (.int .i64 x2.Before.O.Kind), v1, v2, (.bool x2.After.Has), (.int .i64 x2.After.O.Kind), v3, v4, (.int .i64 x2.Next), v5]))] := hF
  refine sq ?_
  refine rg ?_
  refine ste hF (e_box (cs := [(.int .i64 x2.Lsn), (.int .i64 x2.Tx), (.int .i64 x2.Prev), (.int .i64 x2.Kind), (.int .i64 x2.Oid), (.bool x2.Before.Has), (.int .i64 x2.Before.O.Kind), v1, v2, (.bool x2.After.Has), (.int .i64 x2.After.O.Kind), v3, v4, (.int .i64 x2.Next), v5]) hS rfl rfl) (by decide) (fun v w a hR hF => ?_)
  obtain ⟨g1, rfl, hS⟩ := hR
  refine stp hF (p_assign rfl) (by decide) (fun a hF => ?_)
  refine nilN ?_
  refine xn ?_
  refine sq ?_
  refine sq ?_
  refine rg ?_
  refine stp hF (p_fldb (o' := 0) rfl fi_162_0 rfl) (by decide) (fun a hF => ?_)
  refine stp hF (p_ldb_one (i := 0) hS rfl rfl ia_3 rfl) (by decide) (fun a hF => ?_)
  obtain ⟨x32, hx1, H⟩ := hb H
  refine ste hF (e_callA (fst := []) (vs := [(.int .i64 x2.Lsn), (.int .i64 1), (.int .i64 1000000)]) (cap := []) rfl rfl go_75 (St.call (A := []) (B := [pt g1 162 ([(.int .i64 x2.Lsn), (.int .i64 x2.Tx), (.int .i64 x2.Prev), (.int .i64 x2.Kind), (.int .i64 x2.Oid), (.bool x2.Before.Has), (.int .i64 x2.Before.O.Kind), v1, v2, (.bool x2.After.Has), (.int .i64 x2.After.O.Kind), v3, v4, (.int .i64 x2.Next), v5])]) hS (impl_in.spec k _ _ x2.Lsn 1 1000000 _ hx1)) rfl) (by decide) (fun v w a hR hF => ?_)
  obtain ⟨s2, A2, hg1, hS, hR⟩ := hR
  obtain ⟨hv1, rfl⟩ := hR; obtain rfl := hv1.symm
  have hS : St e s2 w [pt g1 162 ([(.int .i64 x2.Lsn), (.int .i64 x2.Tx), (.int .i64 x2.Prev), (.int .i64 x2.Kind), (.int .i64 x2.Oid), (.bool x2.Before.Has), (.int .i64 x2.Before.O.Kind), v1, v2, (.bool x2.After.Has), (.int .i64 x2.After.O.Kind), v3, v4, (.int .i64 x2.Next), v5])] := hS
  refine stp hF (p_not rfl) (by decide) (fun a hF => ?_)
  refine nilN ?_
  refine xn ?_
  refine cnd hF rfl (fun hc1 => ?_) (fun hc1 => ?_)
  · replace H := hbt hc1 H
    refine sq ?_
    refine rg ?_
    refine stp hF (p_assign rfl) (by decide) (fun a hF => ?_)
    refine nilN ?_
    refine xn ?_
    refine rt ?_
    refine xr ?_
    obtain rfl := hsm H
    replace hS := hS.sel (is := []) (A' := []) rfl
    exact ret1 hF rfl rfl hS ⟨rfl, rfl⟩
  · replace H := hbf hc1 H
    refine skN ?_
    refine xn ?_
    refine sq ?_
    refine rg ?_
    refine stp hF (p_fldb (o' := 4) rfl fi_162_4 rfl) (by decide) (fun a hF => ?_)
    refine stp hF (p_ldb_one (i := 0) hS rfl rfl ia_3 rfl) (by decide) (fun a hF => ?_)
    refine stp hF (p_eql rfl rfl) (by decide) (fun a hF => ?_)
    refine stp hF (p_move rfl) (by decide) (fun a hF => ?_)
    obtain ⟨x34, H, HK1⟩ := hb H
    refine cutj 4 (fun a w => ∃ (x29 : Bool) (s3 : HF) , St e s3 w [pt g1 162 ([(.int .i64 x2.Lsn), (.int .i64 x2.Tx), (.int .i64 x2.Prev), (.int .i64 x2.Kind), (.int .i64 x2.Oid), (.bool x2.Before.Has), (.int .i64 x2.Before.O.Kind), v1, v2, (.bool x2.After.Has), (.int .i64 x2.After.O.Kind), v3, v4, (.int .i64 x2.Next), v5])] ∧ Fr 121 a [(1, (.pointer (some ⟨g1, 0, none⟩))), (15, (.bool x29))] ∧ Sub s2 s3 ∧ impl_RecOk.c10 k x2 x29 = some r) rfl rfl ?_ ?_
    · rcases Bool.eq_false_or_eq_true (decide (x2.Oid = 0)) with hc2 | hc2
      · replace H := hbt hc2 H
        refine gonE (j := 3) hF rfl rfl hc2 ?_
        refine stp hF (p_fldb (o' := 5) rfl fi_162_5 rfl) (by decide) (fun a hF => ?_)
        refine gonE (j := 3) hF rfl rfl hc2 ?_
        refine stp hF (p_ldb_agg (i := 0) (l := [(.int .i64 x2.Lsn), (.int .i64 x2.Tx), (.int .i64 x2.Prev), (.int .i64 x2.Kind), (.int .i64 x2.Oid)]) (m := [(.bool x2.Before.Has), (.int .i64 x2.Before.O.Kind), v1, v2]) (r := [(.bool x2.After.Has), (.int .i64 x2.After.O.Kind), v3, v4, (.int .i64 x2.Next), v5]) hS rfl rfl ia_45 ti_45 rfl rfl rfl) (by decide) (fun a hF => ?_)
        obtain ⟨x33, hx2, H⟩ := hb H
        refine gonE (j := 3) hF rfl rfl hc2 ?_
        refine ste hF (e_callA (fst := []) (vs := [(.agg #[(.bool x2.Before.Has), (.int .i64 x2.Before.O.Kind), v1, v2])]) (cap := []) rfl rfl go_221 (St.call (A := []) (B := [pt g1 162 ([(.int .i64 x2.Lsn), (.int .i64 x2.Tx), (.int .i64 x2.Prev), (.int .i64 x2.Kind), (.int .i64 x2.Oid), (.bool x2.Before.Has), (.int .i64 x2.Before.O.Kind), v1, v2, (.bool x2.After.Has), (.int .i64 x2.After.O.Kind), v3, v4, (.int .i64 x2.Next), v5])]) hS (impl_noSlot.spec k _ _ x2.Before v1 v2 (h1.mono hg1) (h2.mono hg1) _ hx2)) rfl) (by decide) (fun v w a hR hF => ?_)
        obtain ⟨s4, A3, hg2, hS, hR⟩ := hR
        obtain ⟨hv2, rfl⟩ := hR; obtain rfl := hv2.symm
        have hS : St e s4 w [pt g1 162 ([(.int .i64 x2.Lsn), (.int .i64 x2.Tx), (.int .i64 x2.Prev), (.int .i64 x2.Kind), (.int .i64 x2.Oid), (.bool x2.Before.Has), (.int .i64 x2.Before.O.Kind), v1, v2, (.bool x2.After.Has), (.int .i64 x2.After.O.Kind), v3, v4, (.int .i64 x2.Next), v5])] := hS
        refine stp hF (p_pickT rfl hc2 rfl) (by decide) (fun a hF => ?_)
        refine nilN ?_
        refine xn ?_
        obtain rfl := hsm H
        exact ⟨x33, s4, hS, hF.cut ⟨rfl, rfl, trivial⟩, hg2, HK1⟩
      · replace H := hbf hc2 H
        refine gofD (j := 3) hF rfl rfl (by rw [hc2]; decide) (by decide) (fun a hF => ?_)
        refine gofD (j := 3) hF rfl rfl (by rw [hc2]; decide) (by decide) (fun a hF => ?_)
        refine gofD (j := 3) hF rfl rfl (by rw [hc2]; decide) (by decide) (fun a hF => ?_)
        refine stp hF (p_pickF rfl hc2 rfl) (by decide) (fun a hF => ?_)
        refine nilN ?_
        refine xn ?_
        obtain rfl := hsm H
        exact ⟨false, s2, hS, hF.cut ⟨rfl, rfl, trivial⟩, (Sub.refl _), HK1⟩
    · clear H HK1 hS hF
      rintro a w ⟨x29, s3, hS, hF, hg3, H⟩
      unfold impl_RecOk.c10 at H
      refine stp hF (p_move rfl) (by decide) (fun a hF => ?_)
      obtain ⟨x31, H, HK2⟩ := hb H
      refine cutj 4 (fun a w => ∃ (x14 : Bool) (s5 : HF) , St e s5 w [pt g1 162 ([(.int .i64 x2.Lsn), (.int .i64 x2.Tx), (.int .i64 x2.Prev), (.int .i64 x2.Kind), (.int .i64 x2.Oid), (.bool x2.Before.Has), (.int .i64 x2.Before.O.Kind), v1, v2, (.bool x2.After.Has), (.int .i64 x2.After.O.Kind), v3, v4, (.int .i64 x2.Next), v5])] ∧ Fr 121 a [(1, (.pointer (some ⟨g1, 0, none⟩))), (20, (.bool x14))] ∧ Sub s3 s5 ∧ impl_RecOk.c9 k x2 x14 = some r) rfl rfl ?_ ?_
      · rcases Bool.eq_false_or_eq_true (x29) with hc3 | hc3
        · replace H := hbt hc3 H
          refine gonE (j := 8) hF rfl rfl hc3 ?_
          refine stp hF (p_fldb (o' := 9) rfl fi_162_6 rfl) (by decide) (fun a hF => ?_)
          refine gonE (j := 8) hF rfl rfl hc3 ?_
          refine stp hF (p_ldb_agg (i := 0) (l := [(.int .i64 x2.Lsn), (.int .i64 x2.Tx), (.int .i64 x2.Prev), (.int .i64 x2.Kind), (.int .i64 x2.Oid), (.bool x2.Before.Has), (.int .i64 x2.Before.O.Kind), v1, v2]) (m := [(.bool x2.After.Has), (.int .i64 x2.After.O.Kind), v3, v4]) (r := [(.int .i64 x2.Next), v5]) hS rfl rfl ia_45 ti_45 rfl rfl rfl) (by decide) (fun a hF => ?_)
          obtain ⟨x30, hx3, H⟩ := hb H
          refine gonE (j := 8) hF rfl rfl hc3 ?_
          refine ste hF (e_callA (fst := []) (vs := [(.agg #[(.bool x2.After.Has), (.int .i64 x2.After.O.Kind), v3, v4])]) (cap := []) rfl rfl go_221 (St.call (A := []) (B := [pt g1 162 ([(.int .i64 x2.Lsn), (.int .i64 x2.Tx), (.int .i64 x2.Prev), (.int .i64 x2.Kind), (.int .i64 x2.Oid), (.bool x2.Before.Has), (.int .i64 x2.Before.O.Kind), v1, v2, (.bool x2.After.Has), (.int .i64 x2.After.O.Kind), v3, v4, (.int .i64 x2.Next), v5])]) hS (impl_noSlot.spec k _ _ x2.After v3 v4 ((h3.mono hg1).mono hg3) ((h4.mono hg1).mono hg3) _ hx3)) rfl) (by decide) (fun v w a hR hF => ?_)
          obtain ⟨s6, A4, hg4, hS, hR⟩ := hR
          obtain ⟨hv3, rfl⟩ := hR; obtain rfl := hv3.symm
          have hS : St e s6 w [pt g1 162 ([(.int .i64 x2.Lsn), (.int .i64 x2.Tx), (.int .i64 x2.Prev), (.int .i64 x2.Kind), (.int .i64 x2.Oid), (.bool x2.Before.Has), (.int .i64 x2.Before.O.Kind), v1, v2, (.bool x2.After.Has), (.int .i64 x2.After.O.Kind), v3, v4, (.int .i64 x2.Next), v5])] := hS
          refine stp hF (p_pickT rfl hc3 rfl) (by decide) (fun a hF => ?_)
          refine nilN ?_
          refine xn ?_
          obtain rfl := hsm H
          exact ⟨x30, s6, hS, hF.cut ⟨rfl, rfl, trivial⟩, hg4, HK2⟩
        · replace H := hbf hc3 H
          refine gofD (j := 8) hF rfl rfl (by rw [hc3]; decide) (by decide) (fun a hF => ?_)
          refine gofD (j := 8) hF rfl rfl (by rw [hc3]; decide) (by decide) (fun a hF => ?_)
          refine gofD (j := 8) hF rfl rfl (by rw [hc3]; decide) (by decide) (fun a hF => ?_)
          refine stp hF (p_pickF rfl hc3 rfl) (by decide) (fun a hF => ?_)
          refine nilN ?_
          refine xn ?_
          obtain rfl := hsm H
          exact ⟨false, s3, hS, hF.cut ⟨rfl, rfl, trivial⟩, (Sub.refl _), HK2⟩
      · clear H HK2 hS hF
        rintro a w ⟨x14, s5, hS, hF, hg5, H⟩
        unfold impl_RecOk.c9 at H
        refine stp hF (p_assign rfl) (by decide) (fun a hF => ?_)
        refine nilN ?_
        refine xn ?_
        refine sq ?_
        refine sq ?_
        refine rg ?_
        refine stp hF (p_fldb (o' := 3) rfl fi_162_3 rfl) (by decide) (fun a hF => ?_)
        refine stp hF (p_ldb_one (i := 0) hS rfl rfl ia_3 rfl) (by decide) (fun a hF => ?_)
        refine stp hF (p_eql rfl rfl) (by decide) (fun a hF => ?_)
        refine nilN ?_
        refine xn ?_
        refine cnd hF rfl (fun hc4 => ?_) (fun hc4 => ?_)
        · replace H := hbt hc4 H
          refine sq ?_
          refine rg ?_
          refine stp hF (p_fldb (o' := 1) rfl fi_162_1 rfl) (by decide) (fun a hF => ?_)
          refine stp hF (p_ldb_one (i := 0) hS rfl rfl ia_3 rfl) (by decide) (fun a hF => ?_)
          refine stp hF (p_eql rfl rfl) (by decide) (fun a hF => ?_)
          refine stp hF (p_move rfl) (by decide) (fun a hF => ?_)
          refine cutj 4 (fun a w => St e s5 w [pt g1 162 ([(.int .i64 x2.Lsn), (.int .i64 x2.Tx), (.int .i64 x2.Prev), (.int .i64 x2.Kind), (.int .i64 x2.Oid), (.bool x2.Before.Has), (.int .i64 x2.Before.O.Kind), v1, v2, (.bool x2.After.Has), (.int .i64 x2.After.O.Kind), v3, v4, (.int .i64 x2.Next), v5])] ∧ Fr 121 a [(1, (.pointer (some ⟨g1, 0, none⟩))), (3, (.bool x14)), (31, (.bool ((decide (x2.Tx = 0)) && (decide (x2.Prev = 0)))))]) rfl rfl ?_ ?_
          · rcases Bool.eq_false_or_eq_true (decide (x2.Tx = 0)) with hc5 | hc5
            · skip
              refine gonE (j := 3) hF rfl rfl hc5 ?_
              refine stp hF (p_fldb (o' := 2) rfl fi_162_2 rfl) (by decide) (fun a hF => ?_)
              refine gonE (j := 3) hF rfl rfl hc5 ?_
              refine stp hF (p_ldb_one (i := 0) hS rfl rfl ia_3 rfl) (by decide) (fun a hF => ?_)
              refine gonE (j := 3) hF rfl rfl hc5 ?_
              refine stp hF (p_eql rfl rfl) (by decide) (fun a hF => ?_)
              refine stp hF (p_andT rfl hc5 rfl) (by decide) (fun a hF => ?_)
              refine nilN ?_
              refine xn ?_
              exact ⟨hS, hF.cut ⟨rfl, rfl, rfl, trivial⟩⟩
            · skip
              refine gofD (j := 3) hF rfl rfl (by rw [hc5]; decide) (by decide) (fun a hF => ?_)
              refine gofD (j := 3) hF rfl rfl (by rw [hc5]; decide) (by decide) (fun a hF => ?_)
              refine gofD (j := 3) hF rfl rfl (by rw [hc5]; decide) (by decide) (fun a hF => ?_)
              refine stp hF (p_andF (decide (x2.Prev = 0)) rfl hc5 rfl) (by decide) (fun a hF => ?_)
              refine nilN ?_
              refine xn ?_
              exact ⟨hS, hF.cut ⟨rfl, rfl, rfl, trivial⟩⟩
          clear hS hF
          rintro a w ⟨hS, hF⟩
          refine stp hF (p_move rfl) (by decide) (fun a hF => ?_)
          refine cutj 2 (fun a w => St e s5 w [pt g1 162 ([(.int .i64 x2.Lsn), (.int .i64 x2.Tx), (.int .i64 x2.Prev), (.int .i64 x2.Kind), (.int .i64 x2.Oid), (.bool x2.Before.Has), (.int .i64 x2.Before.O.Kind), v1, v2, (.bool x2.After.Has), (.int .i64 x2.After.O.Kind), v3, v4, (.int .i64 x2.Next), v5])] ∧ Fr 121 a [(1, (.pointer (some ⟨g1, 0, none⟩))), (34, (.bool (((decide (x2.Tx = 0)) && (decide (x2.Prev = 0))) && x14)))]) rfl rfl ?_ ?_
          · rcases Bool.eq_false_or_eq_true (((decide (x2.Tx = 0)) && (decide (x2.Prev = 0)))) with hc6 | hc6
            · skip
              refine gonE (j := 8) hF rfl rfl hc6 ?_
              refine stp hF (p_move rfl) (by decide) (fun a hF => ?_)
              refine stp hF (p_andT rfl hc6 rfl) (by decide) (fun a hF => ?_)
              refine nilN ?_
              refine xn ?_
              exact ⟨hS, hF.cut ⟨rfl, rfl, trivial⟩⟩
            · skip
              refine gofD (j := 8) hF rfl rfl (by rw [hc6]; decide) (by decide) (fun a hF => ?_)
              refine stp hF (p_andF x14 rfl hc6 rfl) (by decide) (fun a hF => ?_)
              refine nilN ?_
              refine xn ?_
              exact ⟨hS, hF.cut ⟨rfl, rfl, trivial⟩⟩
          clear hS hF
          rintro a w ⟨hS, hF⟩
          refine stp hF (p_move rfl) (by decide) (fun a hF => ?_)
          refine cutj 4 (fun a w => St e s5 w [pt g1 162 ([(.int .i64 x2.Lsn), (.int .i64 x2.Tx), (.int .i64 x2.Prev), (.int .i64 x2.Kind), (.int .i64 x2.Oid), (.bool x2.Before.Has), (.int .i64 x2.Before.O.Kind), v1, v2, (.bool x2.After.Has), (.int .i64 x2.After.O.Kind), v3, v4, (.int .i64 x2.Next), v5])] ∧ Fr 121 a [(1, (.pointer (some ⟨g1, 0, none⟩))), (39, (.bool ((((decide (x2.Tx = 0)) && (decide (x2.Prev = 0))) && x14) && (decide (x2.Next = 0)))))]) rfl rfl ?_ ?_
          · rcases Bool.eq_false_or_eq_true ((((decide (x2.Tx = 0)) && (decide (x2.Prev = 0))) && x14)) with hc7 | hc7
            · skip
              refine gonE (j := 11) hF rfl rfl hc7 ?_
              refine stp hF (p_fldb (o' := 13) rfl fi_162_7 rfl) (by decide) (fun a hF => ?_)
              refine gonE (j := 11) hF rfl rfl hc7 ?_
              refine stp hF (p_ldb_one (i := 0) hS rfl rfl ia_3 rfl) (by decide) (fun a hF => ?_)
              refine gonE (j := 11) hF rfl rfl hc7 ?_
              refine stp hF (p_eql rfl rfl) (by decide) (fun a hF => ?_)
              refine stp hF (p_andT rfl hc7 rfl) (by decide) (fun a hF => ?_)
              refine nilN ?_
              refine xn ?_
              exact ⟨hS, hF.cut ⟨rfl, rfl, trivial⟩⟩
            · skip
              refine gofD (j := 11) hF rfl rfl (by rw [hc7]; decide) (by decide) (fun a hF => ?_)
              refine gofD (j := 11) hF rfl rfl (by rw [hc7]; decide) (by decide) (fun a hF => ?_)
              refine gofD (j := 11) hF rfl rfl (by rw [hc7]; decide) (by decide) (fun a hF => ?_)
              refine stp hF (p_andF (decide (x2.Next = 0)) rfl hc7 rfl) (by decide) (fun a hF => ?_)
              refine nilN ?_
              refine xn ?_
              exact ⟨hS, hF.cut ⟨rfl, rfl, trivial⟩⟩
          clear hS hF
          rintro a w ⟨hS, hF⟩
          refine stp hF (p_move rfl) (by decide) (fun a hF => ?_)
          obtain ⟨x25, H, HK3⟩ := hb H
          refine cutj 6 (fun a w => ∃ (x1 : Bool) (s7 : HF) , St e s7 w [pt g1 162 ([(.int .i64 x2.Lsn), (.int .i64 x2.Tx), (.int .i64 x2.Prev), (.int .i64 x2.Kind), (.int .i64 x2.Oid), (.bool x2.Before.Has), (.int .i64 x2.Before.O.Kind), v1, v2, (.bool x2.After.Has), (.int .i64 x2.After.O.Kind), v3, v4, (.int .i64 x2.Next), v5])] ∧ Fr 121 a [(46, (.bool x1))] ∧ Sub s5 s7 ∧ impl_RecOk.c1 k x1 = some r) rfl rfl ?_ ?_
          · rcases Bool.eq_false_or_eq_true (((((decide (x2.Tx = 0)) && (decide (x2.Prev = 0))) && x14) && (decide (x2.Next = 0)))) with hc8 | hc8
            · replace H := hbt hc8 H
              refine gonE (j := 16) hF rfl rfl hc8 ?_
              refine stp hF (p_fldb (o' := 14) rfl fi_162_8 rfl) (by decide) (fun a hF => ?_)
              refine gonE (j := 16) hF rfl rfl hc8 ?_
              refine stp hF (p_ldb_one (i := 0) hS rfl rfl ia_56 rfl) (by decide) (fun a hF => ?_)
              refine gonE (j := 16) hF rfl rfl hc8 ?_
              refine stp hF (p_fldb (o' := 0) rfl fi_162_0 rfl) (by decide) (fun a hF => ?_)
              refine gonE (j := 16) hF rfl rfl hc8 ?_
              refine stp hF (p_ldb_one (i := 0) hS rfl rfl ia_3 rfl) (by decide) (fun a hF => ?_)
              obtain ⟨x24, hx4, H⟩ := hb H
              refine gonE (j := 16) hF rfl rfl hc8 ?_
              refine ste hF (e_callA (fst := []) (vs := [v5, (.int .i64 x2.Lsn)]) (cap := []) rfl rfl go_222 (St.call (A := []) (B := [pt g1 162 ([(.int .i64 x2.Lsn), (.int .i64 x2.Tx), (.int .i64 x2.Prev), (.int .i64 x2.Kind), (.int .i64 x2.Oid), (.bool x2.Before.Has), (.int .i64 x2.Before.O.Kind), v1, v2, (.bool x2.After.Has), (.int .i64 x2.After.O.Kind), v3, v4, (.int .i64 x2.Next), v5])]) hS (impl_livesOk.spec k _ _ x2.Txs x2.Lsn v5 (((h5.mono hg1).mono hg3).mono hg5) _ hx4)) rfl) (by decide) (fun v w a hR hF => ?_)
              obtain ⟨s8, A5, hg6, hS, hR⟩ := hR
              obtain ⟨hv4, rfl⟩ := hR; obtain rfl := hv4.symm
              have hS : St e s8 w [pt g1 162 ([(.int .i64 x2.Lsn), (.int .i64 x2.Tx), (.int .i64 x2.Prev), (.int .i64 x2.Kind), (.int .i64 x2.Oid), (.bool x2.Before.Has), (.int .i64 x2.Before.O.Kind), v1, v2, (.bool x2.After.Has), (.int .i64 x2.After.O.Kind), v3, v4, (.int .i64 x2.Next), v5])] := hS
              refine stp hF (p_pickT rfl hc8 rfl) (by decide) (fun a hF => ?_)
              refine nilN ?_
              refine xn ?_
              obtain rfl := hsm H
              exact ⟨x24, s8, hS, hF.cut ⟨rfl, trivial⟩, hg6, HK3⟩
            · replace H := hbf hc8 H
              refine gofD (j := 16) hF rfl rfl (by rw [hc8]; decide) (by decide) (fun a hF => ?_)
              refine gofD (j := 16) hF rfl rfl (by rw [hc8]; decide) (by decide) (fun a hF => ?_)
              refine gofD (j := 16) hF rfl rfl (by rw [hc8]; decide) (by decide) (fun a hF => ?_)
              refine gofD (j := 16) hF rfl rfl (by rw [hc8]; decide) (by decide) (fun a hF => ?_)
              refine gofD (j := 16) hF rfl rfl (by rw [hc8]; decide) (by decide) (fun a hF => ?_)
              refine stp hF (p_pickF rfl hc8 rfl) (by decide) (fun a hF => ?_)
              refine nilN ?_
              refine xn ?_
              obtain rfl := hsm H
              exact ⟨false, s5, hS, hF.cut ⟨rfl, trivial⟩, (Sub.refl _), HK3⟩
          · clear H HK3 hS hF
            rintro a w ⟨x1, s7, hS, hF, hg7, H⟩
            unfold impl_RecOk.c1 at H
            refine stp hF (p_assign rfl) (by decide) (fun a hF => ?_)
            refine nilN ?_
            refine xn ?_
            refine rt ?_
            refine xr ?_
            obtain rfl := hsm H
            replace hS := hS.sel (is := []) (A' := []) rfl
            exact ret1 hF rfl rfl hS ⟨rfl, rfl⟩
        · replace H := hbf hc4 H
          refine skN ?_
          refine xn ?_
          refine sq ?_
          refine sq ?_
          refine rg ?_
          refine stp hF (p_fldb (o' := 1) rfl fi_162_1 rfl) (by decide) (fun a hF => ?_)
          refine stp hF (p_ldb_one (i := 0) hS rfl rfl ia_3 rfl) (by decide) (fun a hF => ?_)
          obtain ⟨x26, hx5, H⟩ := hb H
          refine ste hF (e_callA (fst := []) (vs := [(.int .i64 x2.Tx)]) (cap := []) rfl rfl go_102 (St.call (A := []) (B := [pt g1 162 ([(.int .i64 x2.Lsn), (.int .i64 x2.Tx), (.int .i64 x2.Prev), (.int .i64 x2.Kind), (.int .i64 x2.Oid), (.bool x2.Before.Has), (.int .i64 x2.Before.O.Kind), v1, v2, (.bool x2.After.Has), (.int .i64 x2.After.O.Kind), v3, v4, (.int .i64 x2.Next), v5])]) hS (impl_isTx.spec k _ _ x2.Tx _ hx5)) rfl) (by decide) (fun v w a hR hF => ?_)
          obtain ⟨s9, A6, hg8, hS, hR⟩ := hR
          obtain ⟨hv5, rfl⟩ := hR; obtain rfl := hv5.symm
          have hS : St e s9 w [pt g1 162 ([(.int .i64 x2.Lsn), (.int .i64 x2.Tx), (.int .i64 x2.Prev), (.int .i64 x2.Kind), (.int .i64 x2.Oid), (.bool x2.Before.Has), (.int .i64 x2.Before.O.Kind), v1, v2, (.bool x2.After.Has), (.int .i64 x2.After.O.Kind), v3, v4, (.int .i64 x2.Next), v5])] := hS
          refine stp hF (p_not rfl) (by decide) (fun a hF => ?_)
          refine stp hF (p_move rfl) (by decide) (fun a hF => ?_)
          obtain ⟨x28, H, HK4⟩ := hb H
          refine cutj 8 (fun a w => ∃ (x16 : Bool) (s10 : HF) , St e s10 w [pt g1 162 ([(.int .i64 x2.Lsn), (.int .i64 x2.Tx), (.int .i64 x2.Prev), (.int .i64 x2.Kind), (.int .i64 x2.Oid), (.bool x2.Before.Has), (.int .i64 x2.Before.O.Kind), v1, v2, (.bool x2.After.Has), (.int .i64 x2.After.O.Kind), v3, v4, (.int .i64 x2.Next), v5])] ∧ Fr 121 a [(1, (.pointer (some ⟨g1, 0, none⟩))), (3, (.bool x14)), (59, (.bool x16))] ∧ Sub s9 s10 ∧ impl_RecOk.c8 k x2 x14 x16 = some r) rfl rfl ?_ ?_
          · rcases Bool.eq_false_or_eq_true ((!x26)) with hc9 | hc9
            · replace H := hbt hc9 H
              refine gofD (j := 4) hF rfl rfl (by rw [hc9]; decide) (by decide) (fun a hF => ?_)
              refine gofD (j := 4) hF rfl rfl (by rw [hc9]; decide) (by decide) (fun a hF => ?_)
              refine gofD (j := 4) hF rfl rfl (by rw [hc9]; decide) (by decide) (fun a hF => ?_)
              refine gofD (j := 4) hF rfl rfl (by rw [hc9]; decide) (by decide) (fun a hF => ?_)
              refine gofD (j := 4) hF rfl rfl (by rw [hc9]; decide) (by decide) (fun a hF => ?_)
              refine gofD (j := 4) hF rfl rfl (by rw [hc9]; decide) (by decide) (fun a hF => ?_)
              refine gofD (j := 4) hF rfl rfl (by rw [hc9]; decide) (by decide) (fun a hF => ?_)
              refine stp hF (p_pickT rfl hc9 rfl) (by decide) (fun a hF => ?_)
              refine nilN ?_
              refine xn ?_
              obtain rfl := hsm H
              exact ⟨true, s9, hS, hF.cut ⟨rfl, rfl, rfl, trivial⟩, (Sub.refl _), HK4⟩
            · replace H := hbf hc9 H
              refine gonE (j := 4) hF rfl rfl hc9 ?_
              refine stp hF (p_fldb (o' := 2) rfl fi_162_2 rfl) (by decide) (fun a hF => ?_)
              refine gonE (j := 4) hF rfl rfl hc9 ?_
              refine stp hF (p_ldb_one (i := 0) hS rfl rfl ia_3 rfl) (by decide) (fun a hF => ?_)
              refine gonE (j := 4) hF rfl rfl hc9 ?_
              refine stp hF (p_fldb (o' := 0) rfl fi_162_0 rfl) (by decide) (fun a hF => ?_)
              refine gonE (j := 4) hF rfl rfl hc9 ?_
              refine stp hF (p_ldb_one (i := 0) hS rfl rfl ia_3 rfl) (by decide) (fun a hF => ?_)
              refine gonE (j := 4) hF rfl rfl hc9 ?_
              refine stp hF (p_sub (c := w64 (x2.Lsn - 1)) rfl rfl rfl) (by decide) (fun a hF => ?_)
              obtain ⟨x27, hx6, H⟩ := hb H
              refine gonE (j := 4) hF rfl rfl hc9 ?_
              refine ste hF (e_callA (fst := []) (vs := [(.int .i64 x2.Prev), (.int .i64 0), (.int .i64 (w64 (x2.Lsn - 1)))]) (cap := []) rfl rfl go_75 (St.call (A := []) (B := [pt g1 162 ([(.int .i64 x2.Lsn), (.int .i64 x2.Tx), (.int .i64 x2.Prev), (.int .i64 x2.Kind), (.int .i64 x2.Oid), (.bool x2.Before.Has), (.int .i64 x2.Before.O.Kind), v1, v2, (.bool x2.After.Has), (.int .i64 x2.After.O.Kind), v3, v4, (.int .i64 x2.Next), v5])]) hS (impl_in.spec k _ _ x2.Prev 0 (w64 (x2.Lsn - 1)) _ hx6)) rfl) (by decide) (fun v w a hR hF => ?_)
              obtain ⟨s11, A7, hg9, hS, hR⟩ := hR
              obtain ⟨hv6, rfl⟩ := hR; obtain rfl := hv6.symm
              have hS : St e s11 w [pt g1 162 ([(.int .i64 x2.Lsn), (.int .i64 x2.Tx), (.int .i64 x2.Prev), (.int .i64 x2.Kind), (.int .i64 x2.Oid), (.bool x2.Before.Has), (.int .i64 x2.Before.O.Kind), v1, v2, (.bool x2.After.Has), (.int .i64 x2.After.O.Kind), v3, v4, (.int .i64 x2.Next), v5])] := hS
              refine gonE (j := 4) hF rfl rfl hc9 ?_
              refine stp hF (p_not rfl) (by decide) (fun a hF => ?_)
              refine stp hF (p_pickF rfl hc9 rfl) (by decide) (fun a hF => ?_)
              refine nilN ?_
              refine xn ?_
              obtain rfl := hsm H
              exact ⟨(!x27), s11, hS, hF.cut ⟨rfl, rfl, rfl, trivial⟩, hg9, HK4⟩
          · clear H HK4 hS hF
            rintro a w ⟨x16, s10, hS, hF, hg10, H⟩
            unfold impl_RecOk.c8 at H
            refine stp hF (p_move rfl) (by decide) (fun a hF => ?_)
            refine cutj 5 (fun a w => St e s10 w [pt g1 162 ([(.int .i64 x2.Lsn), (.int .i64 x2.Tx), (.int .i64 x2.Prev), (.int .i64 x2.Kind), (.int .i64 x2.Oid), (.bool x2.Before.Has), (.int .i64 x2.Before.O.Kind), v1, v2, (.bool x2.After.Has), (.int .i64 x2.After.O.Kind), v3, v4, (.int .i64 x2.Next), v5])] ∧ Fr 121 a [(1, (.pointer (some ⟨g1, 0, none⟩))), (3, (.bool x14)), (65, (.bool (x16 || (decide (0 < (x2.Txs.length : Int))))))]) rfl rfl ?_ ?_
            · rcases Bool.eq_false_or_eq_true (x16) with hc10 | hc10
              · skip
                refine gofD (j := 13) hF rfl rfl (by rw [hc10]; decide) (by decide) (fun a hF => ?_)
                refine gofD (j := 13) hF rfl rfl (by rw [hc10]; decide) (by decide) (fun a hF => ?_)
                refine gofD (j := 13) hF rfl rfl (by rw [hc10]; decide) (by decide) (fun a hF => ?_)
                refine gofD (j := 13) hF rfl rfl (by rw [hc10]; decide) (by decide) (fun a hF => ?_)
                refine stp hF (p_orT (decide (0 < (x2.Txs.length : Int))) rfl hc10 rfl) (by decide) (fun a hF => ?_)
                refine nilN ?_
                refine xn ?_
                exact ⟨hS, hF.cut ⟨rfl, rfl, rfl, trivial⟩⟩
              · skip
                refine gonE (j := 13) hF rfl rfl hc10 ?_
                refine stp hF (p_fldb (o' := 14) rfl fi_162_8 rfl) (by decide) (fun a hF => ?_)
                refine gonE (j := 13) hF rfl rfl hc10 ?_
                refine stp hF (p_ldb_one (i := 0) hS rfl rfl ia_56 rfl) (by decide) (fun a hF => ?_)
                refine gonE (j := 13) hF rfl rfl hc10 ?_
                refine stp hF (p_lenr un_56 rfl (((((h5.mono hg1).mono hg3).mono hg5).mono hg8).mono hg10)) (by decide) (fun a hF => ?_)
                refine gonE (j := 13) hF rfl rfl hc10 ?_
                refine stp hF (p_gtr rfl rfl) (by decide) (fun a hF => ?_)
                refine stp hF (p_orF rfl hc10 rfl) (by decide) (fun a hF => ?_)
                refine nilN ?_
                refine xn ?_
                exact ⟨hS, hF.cut ⟨rfl, rfl, rfl, trivial⟩⟩
            clear hS hF
            rintro a w ⟨hS, hF⟩
            refine nilN ?_
            refine xn ?_
            refine cnd hF rfl (fun hc11 => ?_) (fun hc11 => ?_)
            · replace H := hbt hc11 H
              refine sq ?_
              refine rg ?_
              refine stp hF (p_assign rfl) (by decide) (fun a hF => ?_)
              refine nilN ?_
              refine xn ?_
              refine rt ?_
              refine xr ?_
              obtain rfl := hsm H
              replace hS := hS.sel (is := []) (A' := []) rfl
              exact ret1 hF rfl rfl hS ⟨rfl, rfl⟩
            · replace H := hbf hc11 H
              refine skN ?_
              refine xn ?_
              refine sq ?_
              refine sq ?_
              refine rg ?_
              refine stp hF (p_fldb (o' := 3) rfl fi_162_3 rfl) (by decide) (fun a hF => ?_)
              refine stp hF (p_ldb_one (i := 0) hS rfl rfl ia_3 rfl) (by decide) (fun a hF => ?_)
              refine nilN ?_
              refine xn ?_
              refine blk ?_
              refine sq ?_
              refine rg ?_
              refine stp hF (p_eql rfl rfl) (by decide) (fun a hF => ?_)
              refine stp hF (p_assign rfl) (by decide) (fun a hF => ?_)
              refine nilN ?_
              refine xn ?_
              refine cnd hF rfl (fun hc12 => ?_) (fun hc12 => ?_)
              · replace H := hbt hc12 H
                refine sq ?_
                refine rg ?_
                refine stp hF (p_fldb (o' := 4) rfl fi_162_4 rfl) (by decide) (fun a hF => ?_)
                refine stp hF (p_ldb_one (i := 0) hS rfl rfl ia_3 rfl) (by decide) (fun a hF => ?_)
                obtain ⟨x17, hx7, H⟩ := hb H
                refine ste hF (e_callA (fst := []) (vs := [(.int .i64 x2.Oid)]) (cap := []) rfl rfl go_80 (St.call (A := []) (B := [pt g1 162 ([(.int .i64 x2.Lsn), (.int .i64 x2.Tx), (.int .i64 x2.Prev), (.int .i64 x2.Kind), (.int .i64 x2.Oid), (.bool x2.Before.Has), (.int .i64 x2.Before.O.Kind), v1, v2, (.bool x2.After.Has), (.int .i64 x2.After.O.Kind), v3, v4, (.int .i64 x2.Next), v5])]) hS (impl_isOid.spec k _ _ x2.Oid _ hx7)) rfl) (by decide) (fun v w a hR hF => ?_)
                obtain ⟨s12, A8, hg11, hS, hR⟩ := hR
                obtain ⟨hv7, rfl⟩ := hR; obtain rfl := hv7.symm
                have hS : St e s12 w [pt g1 162 ([(.int .i64 x2.Lsn), (.int .i64 x2.Tx), (.int .i64 x2.Prev), (.int .i64 x2.Kind), (.int .i64 x2.Oid), (.bool x2.Before.Has), (.int .i64 x2.Before.O.Kind), v1, v2, (.bool x2.After.Has), (.int .i64 x2.After.O.Kind), v3, v4, (.int .i64 x2.Next), v5])] := hS
                refine stp hF (p_move rfl) (by decide) (fun a hF => ?_)
                obtain ⟨x19, H, HK5⟩ := hb H
                refine cutj 4 (fun a w => ∃ (x4 : Bool) (s13 : HF) , St e s13 w [pt g1 162 ([(.int .i64 x2.Lsn), (.int .i64 x2.Tx), (.int .i64 x2.Prev), (.int .i64 x2.Kind), (.int .i64 x2.Oid), (.bool x2.Before.Has), (.int .i64 x2.Before.O.Kind), v1, v2, (.bool x2.After.Has), (.int .i64 x2.After.O.Kind), v3, v4, (.int .i64 x2.Next), v5])] ∧ Fr 121 a [(1, (.pointer (some ⟨g1, 0, none⟩))), (77, (.bool x4))] ∧ Sub s12 s13 ∧ impl_RecOk.c3 k x2 x4 = some r) rfl rfl ?_ ?_
                · rcases Bool.eq_false_or_eq_true (x17) with hc13 | hc13
                  · replace H := hbt hc13 H
                    refine gonE (j := 3) hF rfl rfl hc13 ?_
                    refine stp hF (p_fldb (o' := 5) rfl fi_162_5 rfl) (by decide) (fun a hF => ?_)
                    refine gonE (j := 3) hF rfl rfl hc13 ?_
                    refine stp hF (p_ldb_agg (i := 0) (l := [(.int .i64 x2.Lsn), (.int .i64 x2.Tx), (.int .i64 x2.Prev), (.int .i64 x2.Kind), (.int .i64 x2.Oid)]) (m := [(.bool x2.Before.Has), (.int .i64 x2.Before.O.Kind), v1, v2]) (r := [(.bool x2.After.Has), (.int .i64 x2.After.O.Kind), v3, v4, (.int .i64 x2.Next), v5]) hS rfl rfl ia_45 ti_45 rfl rfl rfl) (by decide) (fun a hF => ?_)
                    obtain ⟨x18, hx8, H⟩ := hb H
                    refine gonE (j := 3) hF rfl rfl hc13 ?_
                    refine ste hF (e_callA (fst := []) (vs := [(.agg #[(.bool x2.Before.Has), (.int .i64 x2.Before.O.Kind), v1, v2])]) (cap := []) rfl rfl go_220 (St.call (A := []) (B := [pt g1 162 ([(.int .i64 x2.Lsn), (.int .i64 x2.Tx), (.int .i64 x2.Prev), (.int .i64 x2.Kind), (.int .i64 x2.Oid), (.bool x2.Before.Has), (.int .i64 x2.Before.O.Kind), v1, v2, (.bool x2.After.Has), (.int .i64 x2.After.O.Kind), v3, v4, (.int .i64 x2.Next), v5])]) hS (impl_slotOk.spec k _ _ x2.Before v1 v2 ((((((h1.mono hg1).mono hg3).mono hg5).mono hg8).mono hg10).mono hg11) ((((((h2.mono hg1).mono hg3).mono hg5).mono hg8).mono hg10).mono hg11) _ hx8)) rfl) (by decide) (fun v w a hR hF => ?_)
                    obtain ⟨s14, A9, hg12, hS, hR⟩ := hR
                    obtain ⟨hv8, rfl⟩ := hR; obtain rfl := hv8.symm
                    have hS : St e s14 w [pt g1 162 ([(.int .i64 x2.Lsn), (.int .i64 x2.Tx), (.int .i64 x2.Prev), (.int .i64 x2.Kind), (.int .i64 x2.Oid), (.bool x2.Before.Has), (.int .i64 x2.Before.O.Kind), v1, v2, (.bool x2.After.Has), (.int .i64 x2.After.O.Kind), v3, v4, (.int .i64 x2.Next), v5])] := hS
                    refine stp hF (p_pickT rfl hc13 rfl) (by decide) (fun a hF => ?_)
                    refine nilN ?_
                    refine xn ?_
                    obtain rfl := hsm H
                    exact ⟨x18, s14, hS, hF.cut ⟨rfl, rfl, trivial⟩, hg12, HK5⟩
                  · replace H := hbf hc13 H
                    refine gofD (j := 3) hF rfl rfl (by rw [hc13]; decide) (by decide) (fun a hF => ?_)
                    refine gofD (j := 3) hF rfl rfl (by rw [hc13]; decide) (by decide) (fun a hF => ?_)
                    refine gofD (j := 3) hF rfl rfl (by rw [hc13]; decide) (by decide) (fun a hF => ?_)
                    refine stp hF (p_pickF rfl hc13 rfl) (by decide) (fun a hF => ?_)
                    refine nilN ?_
                    refine xn ?_
                    obtain rfl := hsm H
                    exact ⟨false, s12, hS, hF.cut ⟨rfl, rfl, trivial⟩, (Sub.refl _), HK5⟩
                · clear H HK5 hS hF
                  rintro a w ⟨x4, s13, hS, hF, hg13, H⟩
                  unfold impl_RecOk.c3 at H
                  refine stp hF (p_move rfl) (by decide) (fun a hF => ?_)
                  obtain ⟨x6, H, HK6⟩ := hb H
                  refine cutj 4 (fun a w => ∃ (x3 : Bool) (s15 : HF) , St e s15 w [pt g1 162 ([(.int .i64 x2.Lsn), (.int .i64 x2.Tx), (.int .i64 x2.Prev), (.int .i64 x2.Kind), (.int .i64 x2.Oid), (.bool x2.Before.Has), (.int .i64 x2.Before.O.Kind), v1, v2, (.bool x2.After.Has), (.int .i64 x2.After.O.Kind), v3, v4, (.int .i64 x2.Next), v5])] ∧ Fr 121 a [(1, (.pointer (some ⟨g1, 0, none⟩))), (82, (.bool x3))] ∧ Sub s13 s15 ∧ impl_RecOk.c2 k x2 x3 = some r) rfl rfl ?_ ?_
                  · rcases Bool.eq_false_or_eq_true (x4) with hc14 | hc14
                    · replace H := hbt hc14 H
                      refine gonE (j := 8) hF rfl rfl hc14 ?_
                      refine stp hF (p_fldb (o' := 9) rfl fi_162_6 rfl) (by decide) (fun a hF => ?_)
                      refine gonE (j := 8) hF rfl rfl hc14 ?_
                      refine stp hF (p_ldb_agg (i := 0) (l := [(.int .i64 x2.Lsn), (.int .i64 x2.Tx), (.int .i64 x2.Prev), (.int .i64 x2.Kind), (.int .i64 x2.Oid), (.bool x2.Before.Has), (.int .i64 x2.Before.O.Kind), v1, v2]) (m := [(.bool x2.After.Has), (.int .i64 x2.After.O.Kind), v3, v4]) (r := [(.int .i64 x2.Next), v5]) hS rfl rfl ia_45 ti_45 rfl rfl rfl) (by decide) (fun a hF => ?_)
                      obtain ⟨x5, hx9, H⟩ := hb H
                      refine gonE (j := 8) hF rfl rfl hc14 ?_
                      refine ste hF (e_callA (fst := []) (vs := [(.agg #[(.bool x2.After.Has), (.int .i64 x2.After.O.Kind), v3, v4])]) (cap := []) rfl rfl go_220 (St.call (A := []) (B := [pt g1 162 ([(.int .i64 x2.Lsn), (.int .i64 x2.Tx), (.int .i64 x2.Prev), (.int .i64 x2.Kind), (.int .i64 x2.Oid), (.bool x2.Before.Has), (.int .i64 x2.Before.O.Kind), v1, v2, (.bool x2.After.Has), (.int .i64 x2.After.O.Kind), v3, v4, (.int .i64 x2.Next), v5])]) hS (impl_slotOk.spec k _ _ x2.After v3 v4 (((((((h3.mono hg1).mono hg3).mono hg5).mono hg8).mono hg10).mono hg11).mono hg13) (((((((h4.mono hg1).mono hg3).mono hg5).mono hg8).mono hg10).mono hg11).mono hg13) _ hx9)) rfl) (by decide) (fun v w a hR hF => ?_)
                      obtain ⟨s16, A10, hg14, hS, hR⟩ := hR
                      obtain ⟨hv9, rfl⟩ := hR; obtain rfl := hv9.symm
                      have hS : St e s16 w [pt g1 162 ([(.int .i64 x2.Lsn), (.int .i64 x2.Tx), (.int .i64 x2.Prev), (.int .i64 x2.Kind), (.int .i64 x2.Oid), (.bool x2.Before.Has), (.int .i64 x2.Before.O.Kind), v1, v2, (.bool x2.After.Has), (.int .i64 x2.After.O.Kind), v3, v4, (.int .i64 x2.Next), v5])] := hS
                      refine stp hF (p_pickT rfl hc14 rfl) (by decide) (fun a hF => ?_)
                      refine nilN ?_
                      refine xn ?_
                      obtain rfl := hsm H
                      exact ⟨x5, s16, hS, hF.cut ⟨rfl, rfl, trivial⟩, hg14, HK6⟩
                    · replace H := hbf hc14 H
                      refine gofD (j := 8) hF rfl rfl (by rw [hc14]; decide) (by decide) (fun a hF => ?_)
                      refine gofD (j := 8) hF rfl rfl (by rw [hc14]; decide) (by decide) (fun a hF => ?_)
                      refine gofD (j := 8) hF rfl rfl (by rw [hc14]; decide) (by decide) (fun a hF => ?_)
                      refine stp hF (p_pickF rfl hc14 rfl) (by decide) (fun a hF => ?_)
                      refine nilN ?_
                      refine xn ?_
                      obtain rfl := hsm H
                      exact ⟨false, s13, hS, hF.cut ⟨rfl, rfl, trivial⟩, (Sub.refl _), HK6⟩
                  · clear H HK6 hS hF
                    rintro a w ⟨x3, s15, hS, hF, hg15, H⟩
                    unfold impl_RecOk.c2 at H
                    refine stp hF (p_move rfl) (by decide) (fun a hF => ?_)
                    refine cutj 4 (fun a w => St e s15 w [pt g1 162 ([(.int .i64 x2.Lsn), (.int .i64 x2.Tx), (.int .i64 x2.Prev), (.int .i64 x2.Kind), (.int .i64 x2.Oid), (.bool x2.Before.Has), (.int .i64 x2.Before.O.Kind), v1, v2, (.bool x2.After.Has), (.int .i64 x2.After.O.Kind), v3, v4, (.int .i64 x2.Next), v5])] ∧ Fr 121 a [(87, (.bool (x3 && (decide (x2.Next = 0)))))]) rfl rfl ?_ ?_
                    · rcases Bool.eq_false_or_eq_true (x3) with hc15 | hc15
                      · skip
                        refine gonE (j := 13) hF rfl rfl hc15 ?_
                        refine stp hF (p_fldb (o' := 13) rfl fi_162_7 rfl) (by decide) (fun a hF => ?_)
                        refine gonE (j := 13) hF rfl rfl hc15 ?_
                        refine stp hF (p_ldb_one (i := 0) hS rfl rfl ia_3 rfl) (by decide) (fun a hF => ?_)
                        refine gonE (j := 13) hF rfl rfl hc15 ?_
                        refine stp hF (p_eql rfl rfl) (by decide) (fun a hF => ?_)
                        refine stp hF (p_andT rfl hc15 rfl) (by decide) (fun a hF => ?_)
                        refine nilN ?_
                        refine xn ?_
                        exact ⟨hS, hF.cut ⟨rfl, trivial⟩⟩
                      · skip
                        refine gofD (j := 13) hF rfl rfl (by rw [hc15]; decide) (by decide) (fun a hF => ?_)
                        refine gofD (j := 13) hF rfl rfl (by rw [hc15]; decide) (by decide) (fun a hF => ?_)
                        refine gofD (j := 13) hF rfl rfl (by rw [hc15]; decide) (by decide) (fun a hF => ?_)
                        refine stp hF (p_andF (decide (x2.Next = 0)) rfl hc15 rfl) (by decide) (fun a hF => ?_)
                        refine nilN ?_
                        refine xn ?_
                        exact ⟨hS, hF.cut ⟨rfl, trivial⟩⟩
                    clear hS hF
                    rintro a w ⟨hS, hF⟩
                    refine stp hF (p_assign rfl) (by decide) (fun a hF => ?_)
                    refine nilN ?_
                    refine xn ?_
                    refine rt ?_
                    refine br (xr ?_)
                    obtain rfl := hsm H
                    replace hS := hS.sel (is := []) (A' := []) rfl
                    exact ret1 hF rfl rfl hS ⟨rfl, rfl⟩
              · replace H := hbf hc12 H
                refine sq ?_
                refine rg ?_
                refine stp hF (p_eql rfl rfl) (by decide) (fun a hF => ?_)
                refine stp hF (p_assign rfl) (by decide) (fun a hF => ?_)
                refine nilN ?_
                refine xn ?_
                refine cnd hF rfl (fun hc16 => ?_) (fun hc16 => ?_)
                · replace H := hbt hc16 H
                  refine sq ?_
                  refine rg ?_
                  refine stp hF (p_fldb (o' := 4) rfl fi_162_4 rfl) (by decide) (fun a hF => ?_)
                  refine stp hF (p_ldb_one (i := 0) hS rfl rfl ia_3 rfl) (by decide) (fun a hF => ?_)
                  obtain ⟨x20, hx10, H⟩ := hb H
                  refine ste hF (e_callA (fst := []) (vs := [(.int .i64 x2.Oid)]) (cap := []) rfl rfl go_80 (St.call (A := []) (B := [pt g1 162 ([(.int .i64 x2.Lsn), (.int .i64 x2.Tx), (.int .i64 x2.Prev), (.int .i64 x2.Kind), (.int .i64 x2.Oid), (.bool x2.Before.Has), (.int .i64 x2.Before.O.Kind), v1, v2, (.bool x2.After.Has), (.int .i64 x2.After.O.Kind), v3, v4, (.int .i64 x2.Next), v5])]) hS (impl_isOid.spec k _ _ x2.Oid _ hx10)) rfl) (by decide) (fun v w a hR hF => ?_)
                  obtain ⟨s17, A11, hg16, hS, hR⟩ := hR
                  obtain ⟨hv10, rfl⟩ := hR; obtain rfl := hv10.symm
                  have hS : St e s17 w [pt g1 162 ([(.int .i64 x2.Lsn), (.int .i64 x2.Tx), (.int .i64 x2.Prev), (.int .i64 x2.Kind), (.int .i64 x2.Oid), (.bool x2.Before.Has), (.int .i64 x2.Before.O.Kind), v1, v2, (.bool x2.After.Has), (.int .i64 x2.After.O.Kind), v3, v4, (.int .i64 x2.Next), v5])] := hS
                  refine stp hF (p_move rfl) (by decide) (fun a hF => ?_)
                  obtain ⟨x22, H, HK7⟩ := hb H
                  refine cutj 4 (fun a w => ∃ (x11 : Bool) (s18 : HF) , St e s18 w [pt g1 162 ([(.int .i64 x2.Lsn), (.int .i64 x2.Tx), (.int .i64 x2.Prev), (.int .i64 x2.Kind), (.int .i64 x2.Oid), (.bool x2.Before.Has), (.int .i64 x2.Before.O.Kind), v1, v2, (.bool x2.After.Has), (.int .i64 x2.After.O.Kind), v3, v4, (.int .i64 x2.Next), v5])] ∧ Fr 121 a [(1, (.pointer (some ⟨g1, 0, none⟩))), (97, (.bool x11))] ∧ Sub s17 s18 ∧ impl_RecOk.c6 k x2 x11 = some r) rfl rfl ?_ ?_
                  · rcases Bool.eq_false_or_eq_true (x20) with hc17 | hc17
                    · replace H := hbt hc17 H
                      refine gonE (j := 3) hF rfl rfl hc17 ?_
                      refine stp hF (p_fldb (o' := 5) rfl fi_162_5 rfl) (by decide) (fun a hF => ?_)
                      refine gonE (j := 3) hF rfl rfl hc17 ?_
                      refine stp hF (p_ldb_agg (i := 0) (l := [(.int .i64 x2.Lsn), (.int .i64 x2.Tx), (.int .i64 x2.Prev), (.int .i64 x2.Kind), (.int .i64 x2.Oid)]) (m := [(.bool x2.Before.Has), (.int .i64 x2.Before.O.Kind), v1, v2]) (r := [(.bool x2.After.Has), (.int .i64 x2.After.O.Kind), v3, v4, (.int .i64 x2.Next), v5]) hS rfl rfl ia_45 ti_45 rfl rfl rfl) (by decide) (fun a hF => ?_)
                      obtain ⟨x21, hx11, H⟩ := hb H
                      refine gonE (j := 3) hF rfl rfl hc17 ?_
                      refine ste hF (e_callA (fst := []) (vs := [(.agg #[(.bool x2.Before.Has), (.int .i64 x2.Before.O.Kind), v1, v2])]) (cap := []) rfl rfl go_221 (St.call (A := []) (B := [pt g1 162 ([(.int .i64 x2.Lsn), (.int .i64 x2.Tx), (.int .i64 x2.Prev), (.int .i64 x2.Kind), (.int .i64 x2.Oid), (.bool x2.Before.Has), (.int .i64 x2.Before.O.Kind), v1, v2, (.bool x2.After.Has), (.int .i64 x2.After.O.Kind), v3, v4, (.int .i64 x2.Next), v5])]) hS (impl_noSlot.spec k _ _ x2.Before v1 v2 ((((((h1.mono hg1).mono hg3).mono hg5).mono hg8).mono hg10).mono hg16) ((((((h2.mono hg1).mono hg3).mono hg5).mono hg8).mono hg10).mono hg16) _ hx11)) rfl) (by decide) (fun v w a hR hF => ?_)
                      obtain ⟨s19, A12, hg17, hS, hR⟩ := hR
                      obtain ⟨hv11, rfl⟩ := hR; obtain rfl := hv11.symm
                      have hS : St e s19 w [pt g1 162 ([(.int .i64 x2.Lsn), (.int .i64 x2.Tx), (.int .i64 x2.Prev), (.int .i64 x2.Kind), (.int .i64 x2.Oid), (.bool x2.Before.Has), (.int .i64 x2.Before.O.Kind), v1, v2, (.bool x2.After.Has), (.int .i64 x2.After.O.Kind), v3, v4, (.int .i64 x2.Next), v5])] := hS
                      refine stp hF (p_pickT rfl hc17 rfl) (by decide) (fun a hF => ?_)
                      refine nilN ?_
                      refine xn ?_
                      obtain rfl := hsm H
                      exact ⟨x21, s19, hS, hF.cut ⟨rfl, rfl, trivial⟩, hg17, HK7⟩
                    · replace H := hbf hc17 H
                      refine gofD (j := 3) hF rfl rfl (by rw [hc17]; decide) (by decide) (fun a hF => ?_)
                      refine gofD (j := 3) hF rfl rfl (by rw [hc17]; decide) (by decide) (fun a hF => ?_)
                      refine gofD (j := 3) hF rfl rfl (by rw [hc17]; decide) (by decide) (fun a hF => ?_)
                      refine stp hF (p_pickF rfl hc17 rfl) (by decide) (fun a hF => ?_)
                      refine nilN ?_
                      refine xn ?_
                      obtain rfl := hsm H
                      exact ⟨false, s17, hS, hF.cut ⟨rfl, rfl, trivial⟩, (Sub.refl _), HK7⟩
                  · clear H HK7 hS hF
                    rintro a w ⟨x11, s18, hS, hF, hg18, H⟩
                    unfold impl_RecOk.c6 at H
                    refine stp hF (p_move rfl) (by decide) (fun a hF => ?_)
                    obtain ⟨x13, H, HK8⟩ := hb H
                    refine cutj 4 (fun a w => ∃ (x8 : Bool) (s20 : HF) , St e s20 w [pt g1 162 ([(.int .i64 x2.Lsn), (.int .i64 x2.Tx), (.int .i64 x2.Prev), (.int .i64 x2.Kind), (.int .i64 x2.Oid), (.bool x2.Before.Has), (.int .i64 x2.Before.O.Kind), v1, v2, (.bool x2.After.Has), (.int .i64 x2.After.O.Kind), v3, v4, (.int .i64 x2.Next), v5])] ∧ Fr 121 a [(1, (.pointer (some ⟨g1, 0, none⟩))), (102, (.bool x8))] ∧ Sub s18 s20 ∧ impl_RecOk.c5 k x2 x8 = some r) rfl rfl ?_ ?_
                    · rcases Bool.eq_false_or_eq_true (x11) with hc18 | hc18
                      · replace H := hbt hc18 H
                        refine gonE (j := 8) hF rfl rfl hc18 ?_
                        refine stp hF (p_fldb (o' := 9) rfl fi_162_6 rfl) (by decide) (fun a hF => ?_)
                        refine gonE (j := 8) hF rfl rfl hc18 ?_
                        refine stp hF (p_ldb_agg (i := 0) (l := [(.int .i64 x2.Lsn), (.int .i64 x2.Tx), (.int .i64 x2.Prev), (.int .i64 x2.Kind), (.int .i64 x2.Oid), (.bool x2.Before.Has), (.int .i64 x2.Before.O.Kind), v1, v2]) (m := [(.bool x2.After.Has), (.int .i64 x2.After.O.Kind), v3, v4]) (r := [(.int .i64 x2.Next), v5]) hS rfl rfl ia_45 ti_45 rfl rfl rfl) (by decide) (fun a hF => ?_)
                        obtain ⟨x12, hx12, H⟩ := hb H
                        refine gonE (j := 8) hF rfl rfl hc18 ?_
                        refine ste hF (e_callA (fst := []) (vs := [(.agg #[(.bool x2.After.Has), (.int .i64 x2.After.O.Kind), v3, v4])]) (cap := []) rfl rfl go_220 (St.call (A := []) (B := [pt g1 162 ([(.int .i64 x2.Lsn), (.int .i64 x2.Tx), (.int .i64 x2.Prev), (.int .i64 x2.Kind), (.int .i64 x2.Oid), (.bool x2.Before.Has), (.int .i64 x2.Before.O.Kind), v1, v2, (.bool x2.After.Has), (.int .i64 x2.After.O.Kind), v3, v4, (.int .i64 x2.Next), v5])]) hS (impl_slotOk.spec k _ _ x2.After v3 v4 (((((((h3.mono hg1).mono hg3).mono hg5).mono hg8).mono hg10).mono hg16).mono hg18) (((((((h4.mono hg1).mono hg3).mono hg5).mono hg8).mono hg10).mono hg16).mono hg18) _ hx12)) rfl) (by decide) (fun v w a hR hF => ?_)
                        obtain ⟨s21, A13, hg19, hS, hR⟩ := hR
                        obtain ⟨hv12, rfl⟩ := hR; obtain rfl := hv12.symm
                        have hS : St e s21 w [pt g1 162 ([(.int .i64 x2.Lsn), (.int .i64 x2.Tx), (.int .i64 x2.Prev), (.int .i64 x2.Kind), (.int .i64 x2.Oid), (.bool x2.Before.Has), (.int .i64 x2.Before.O.Kind), v1, v2, (.bool x2.After.Has), (.int .i64 x2.After.O.Kind), v3, v4, (.int .i64 x2.Next), v5])] := hS
                        refine stp hF (p_pickT rfl hc18 rfl) (by decide) (fun a hF => ?_)
                        refine nilN ?_
                        refine xn ?_
                        obtain rfl := hsm H
                        exact ⟨x12, s21, hS, hF.cut ⟨rfl, rfl, trivial⟩, hg19, HK8⟩
                      · replace H := hbf hc18 H
                        refine gofD (j := 8) hF rfl rfl (by rw [hc18]; decide) (by decide) (fun a hF => ?_)
                        refine gofD (j := 8) hF rfl rfl (by rw [hc18]; decide) (by decide) (fun a hF => ?_)
                        refine gofD (j := 8) hF rfl rfl (by rw [hc18]; decide) (by decide) (fun a hF => ?_)
                        refine stp hF (p_pickF rfl hc18 rfl) (by decide) (fun a hF => ?_)
                        refine nilN ?_
                        refine xn ?_
                        obtain rfl := hsm H
                        exact ⟨false, s18, hS, hF.cut ⟨rfl, rfl, trivial⟩, (Sub.refl _), HK8⟩
                    · clear H HK8 hS hF
                      rintro a w ⟨x8, s20, hS, hF, hg20, H⟩
                      unfold impl_RecOk.c5 at H
                      refine stp hF (p_move rfl) (by decide) (fun a hF => ?_)
                      obtain ⟨x10, H, HK9⟩ := hb H
                      refine cutj 7 (fun a w => ∃ (x7 : Bool) (s22 : HF) , St e s22 w [pt g1 162 ([(.int .i64 x2.Lsn), (.int .i64 x2.Tx), (.int .i64 x2.Prev), (.int .i64 x2.Kind), (.int .i64 x2.Oid), (.bool x2.Before.Has), (.int .i64 x2.Before.O.Kind), v1, v2, (.bool x2.After.Has), (.int .i64 x2.After.O.Kind), v3, v4, (.int .i64 x2.Next), v5])] ∧ Fr 121 a [(110, (.bool x7))] ∧ Sub s20 s22 ∧ impl_RecOk.c4 k x7 = some r) rfl rfl ?_ ?_
                      · rcases Bool.eq_false_or_eq_true (x8) with hc19 | hc19
                        · replace H := hbt hc19 H
                          refine gonE (j := 13) hF rfl rfl hc19 ?_
                          refine stp hF (p_fldb (o' := 13) rfl fi_162_7 rfl) (by decide) (fun a hF => ?_)
                          refine gonE (j := 13) hF rfl rfl hc19 ?_
                          refine stp hF (p_ldb_one (i := 0) hS rfl rfl ia_3 rfl) (by decide) (fun a hF => ?_)
                          refine gonE (j := 13) hF rfl rfl hc19 ?_
                          refine stp hF (p_fldb (o' := 0) rfl fi_162_0 rfl) (by decide) (fun a hF => ?_)
                          refine gonE (j := 13) hF rfl rfl hc19 ?_
                          refine stp hF (p_ldb_one (i := 0) hS rfl rfl ia_3 rfl) (by decide) (fun a hF => ?_)
                          refine gonE (j := 13) hF rfl rfl hc19 ?_
                          refine stp hF (p_sub (c := w64 (x2.Lsn - 1)) rfl rfl rfl) (by decide) (fun a hF => ?_)
                          obtain ⟨x9, hx13, H⟩ := hb H
                          refine gonE (j := 13) hF rfl rfl hc19 ?_
                          refine ste hF (e_callA (fst := []) (vs := [(.int .i64 x2.Next), (.int .i64 0), (.int .i64 (w64 (x2.Lsn - 1)))]) (cap := []) rfl rfl go_75 (St.call (A := []) (B := [pt g1 162 ([(.int .i64 x2.Lsn), (.int .i64 x2.Tx), (.int .i64 x2.Prev), (.int .i64 x2.Kind), (.int .i64 x2.Oid), (.bool x2.Before.Has), (.int .i64 x2.Before.O.Kind), v1, v2, (.bool x2.After.Has), (.int .i64 x2.After.O.Kind), v3, v4, (.int .i64 x2.Next), v5])]) hS (impl_in.spec k _ _ x2.Next 0 (w64 (x2.Lsn - 1)) _ hx13)) rfl) (by decide) (fun v w a hR hF => ?_)
                          obtain ⟨s23, A14, hg21, hS, hR⟩ := hR
                          obtain ⟨hv13, rfl⟩ := hR; obtain rfl := hv13.symm
                          have hS : St e s23 w [pt g1 162 ([(.int .i64 x2.Lsn), (.int .i64 x2.Tx), (.int .i64 x2.Prev), (.int .i64 x2.Kind), (.int .i64 x2.Oid), (.bool x2.Before.Has), (.int .i64 x2.Before.O.Kind), v1, v2, (.bool x2.After.Has), (.int .i64 x2.After.O.Kind), v3, v4, (.int .i64 x2.Next), v5])] := hS
                          refine stp hF (p_pickT rfl hc19 rfl) (by decide) (fun a hF => ?_)
                          refine nilN ?_
                          refine xn ?_
                          obtain rfl := hsm H
                          exact ⟨x9, s23, hS, hF.cut ⟨rfl, trivial⟩, hg21, HK9⟩
                        · replace H := hbf hc19 H
                          refine gofD (j := 13) hF rfl rfl (by rw [hc19]; decide) (by decide) (fun a hF => ?_)
                          refine gofD (j := 13) hF rfl rfl (by rw [hc19]; decide) (by decide) (fun a hF => ?_)
                          refine gofD (j := 13) hF rfl rfl (by rw [hc19]; decide) (by decide) (fun a hF => ?_)
                          refine gofD (j := 13) hF rfl rfl (by rw [hc19]; decide) (by decide) (fun a hF => ?_)
                          refine gofD (j := 13) hF rfl rfl (by rw [hc19]; decide) (by decide) (fun a hF => ?_)
                          refine gofD (j := 13) hF rfl rfl (by rw [hc19]; decide) (by decide) (fun a hF => ?_)
                          refine stp hF (p_pickF rfl hc19 rfl) (by decide) (fun a hF => ?_)
                          refine nilN ?_
                          refine xn ?_
                          obtain rfl := hsm H
                          exact ⟨false, s20, hS, hF.cut ⟨rfl, trivial⟩, (Sub.refl _), HK9⟩
                      · clear H HK9 hS hF
                        rintro a w ⟨x7, s22, hS, hF, hg22, H⟩
                        unfold impl_RecOk.c4 at H
                        refine stp hF (p_assign rfl) (by decide) (fun a hF => ?_)
                        refine nilN ?_
                        refine xn ?_
                        refine rt ?_
                        refine br (xr ?_)
                        obtain rfl := hsm H
                        replace hS := hS.sel (is := []) (A' := []) rfl
                        exact ret1 hF rfl rfl hS ⟨rfl, rfl⟩
                · replace H := hbf hc16 H
                  obtain ⟨x23, H, HK10⟩ := hb H
                  refine sqj (fun a w => ∃ (x15 : Bool) , St e s10 w [pt g1 162 ([(.int .i64 x2.Lsn), (.int .i64 x2.Tx), (.int .i64 x2.Prev), (.int .i64 x2.Kind), (.int .i64 x2.Oid), (.bool x2.Before.Has), (.int .i64 x2.Before.O.Kind), v1, v2, (.bool x2.After.Has), (.int .i64 x2.After.O.Kind), v3, v4, (.int .i64 x2.Next), v5])] ∧ Fr 121 a [(1, (.pointer (some ⟨g1, 0, none⟩))), (3, (.bool x14)), (111, (.bool x15))] ∧ impl_RecOk.c7 k x14 x2 x15 = some r) ?_ ?_
                  · skip
                    refine sq ?_
                    refine rg ?_
                    refine stp hF (p_eql rfl rfl) (by decide) (fun a hF => ?_)
                    refine stp hF (p_assign rfl) (by decide) (fun a hF => ?_)
                    refine nilN ?_
                    refine xn ?_
                    refine cnd hF rfl (fun hc20 => ?_) (fun hc20 => ?_)
                    · replace H := hbt hc20 H
                      refine skN ?_
                      refine xn ?_
                      obtain rfl := hsm H
                      exact ⟨(decide (x2.Kind = 2)), hS, hF.cut ⟨rfl, rfl, rfl, trivial⟩, HK10⟩
                    · replace H := hbf hc20 H
                      refine sq ?_
                      refine rg ?_
                      refine stp hF (p_eql rfl rfl) (by decide) (fun a hF => ?_)
                      refine stp hF (p_assign rfl) (by decide) (fun a hF => ?_)
                      refine nilN ?_
                      refine xn ?_
                      refine cnd hF rfl (fun hc21 => ?_) (fun hc21 => ?_)
                      · replace H := hbt hc21 H
                        refine skN ?_
                        refine xn ?_
                        obtain rfl := hsm H
                        exact ⟨(decide (x2.Kind = 3)), hS, hF.cut ⟨rfl, rfl, rfl, trivial⟩, HK10⟩
                      · replace H := hbf hc21 H
                        refine rg ?_
                        refine stp hF (p_eql rfl rfl) (by decide) (fun a hF => ?_)
                        refine stp hF (p_assign rfl) (by decide) (fun a hF => ?_)
                        refine nilN ?_
                        refine xn ?_
                        obtain rfl := hsm H
                        exact ⟨(decide (x2.Kind = 5)), hS, hF.cut ⟨rfl, rfl, rfl, trivial⟩, HK10⟩
                  · clear H HK10 hS hF
                    rintro a w ⟨x15, hS, hF, H⟩
                    unfold impl_RecOk.c7 at H
                    refine cnd hF rfl (fun hc22 => ?_) (fun hc22 => ?_)
                    · replace H := hbt hc22 H
                      refine sq ?_
                      refine rg ?_
                      refine stp hF (p_move rfl) (by decide) (fun a hF => ?_)
                      refine stp hF (p_move rfl) (by decide) (fun a hF => ?_)
                      refine cutj 4 (fun a w => St e s10 w [pt g1 162 ([(.int .i64 x2.Lsn), (.int .i64 x2.Tx), (.int .i64 x2.Prev), (.int .i64 x2.Kind), (.int .i64 x2.Oid), (.bool x2.Before.Has), (.int .i64 x2.Before.O.Kind), v1, v2, (.bool x2.After.Has), (.int .i64 x2.After.O.Kind), v3, v4, (.int .i64 x2.Next), v5])] ∧ Fr 121 a [(120, (.bool (x14 && (decide (x2.Next = 0)))))]) rfl rfl ?_ ?_
                      · rcases Bool.eq_false_or_eq_true (x14) with hc23 | hc23
                        · skip
                          refine gonE (j := 1) hF rfl rfl hc23 ?_
                          refine stp hF (p_fldb (o' := 13) rfl fi_162_7 rfl) (by decide) (fun a hF => ?_)
                          refine gonE (j := 1) hF rfl rfl hc23 ?_
                          refine stp hF (p_ldb_one (i := 0) hS rfl rfl ia_3 rfl) (by decide) (fun a hF => ?_)
                          refine gonE (j := 1) hF rfl rfl hc23 ?_
                          refine stp hF (p_eql rfl rfl) (by decide) (fun a hF => ?_)
                          refine stp hF (p_andT rfl hc23 rfl) (by decide) (fun a hF => ?_)
                          refine nilN ?_
                          refine xn ?_
                          exact ⟨hS, hF.cut ⟨rfl, trivial⟩⟩
                        · skip
                          refine gofD (j := 1) hF rfl rfl (by rw [hc23]; decide) (by decide) (fun a hF => ?_)
                          refine gofD (j := 1) hF rfl rfl (by rw [hc23]; decide) (by decide) (fun a hF => ?_)
                          refine gofD (j := 1) hF rfl rfl (by rw [hc23]; decide) (by decide) (fun a hF => ?_)
                          refine stp hF (p_andF (decide (x2.Next = 0)) rfl hc23 rfl) (by decide) (fun a hF => ?_)
                          refine nilN ?_
                          refine xn ?_
                          exact ⟨hS, hF.cut ⟨rfl, trivial⟩⟩
                      clear hS hF
                      rintro a w ⟨hS, hF⟩
                      refine stp hF (p_assign rfl) (by decide) (fun a hF => ?_)
                      refine nilN ?_
                      refine xn ?_
                      refine rt ?_
                      refine br (xr ?_)
                      obtain rfl := hsm H
                      replace hS := hS.sel (is := []) (A' := []) rfl
                      exact ret1 hF rfl rfl hS ⟨rfl, rfl⟩
                    · replace H := hbf hc22 H
                      refine skN ?_
                      refine bn (xn ?_)
                      refine sq ?_
                      refine rg ?_
                      refine stp hF (p_assign rfl) (by decide) (fun a hF => ?_)
                      refine nilN ?_
                      refine xn ?_
                      refine rt ?_
                      obtain rfl := hsm H
                      replace hS := hS.sel (is := []) (A' := []) rfl
                      exact ret1 hF rfl rfl hS ⟨rfl, rfl⟩

def slices_Clone.f (k : Nat) (x : (List Int)) : Option (List Int) := if (([] : (List Int))).length + x.length ≤ 17592186044416 then some x else none
set_option maxRecDepth 100000 in
theorem slices_Clone.spec (k : Nat) (s0 : HF) (w : World) (x : (List Int)) (v : Value) (h : Sl (Kd.int .i64) s0 v x) (r : (List Int)) (H : slices_Clone.f k x = some r) :
    Law Tryz.prog 136 #[v] s0 w [] (fun v s1 A1 => ∃ (u0 : Value), v = u0 ∧ A1 = [Ow (Kd.int .i64) 3 u0 r]) := by
  unfold slices_Clone.f at H
  obtain ⟨hq, H⟩ := hck H
  obtain rfl := hsm H
  refine Law.intro Tryz.func136 rfl [(0, v)] (Nat.le_of_ble_eq_true rfl) (enter_lk ⟨rfl, trivial⟩) (fun e a hS hF => ?_)
  have hF : Fr 8 a [(0, v)] := hF
  refine sq ?_
  refine rg ?_
  refine stp hF (p_assign rfl) (by decide) (fun a hF => ?_)
  refine nilN ?_
  refine xn ?_
  refine sq ?_
  rcases Sl.cases h with ⟨c, rfl, rfl⟩ | ⟨A, c, hv⟩
  · refine sq ?_
    refine rg ?_
    refine stp hF (p_move rfl) (by decide) (fun a hF => ?_)
    refine stp hF (p_eqnil un_22 rfl rfl) (by decide) (fun a hF => ?_)
    refine nilN ?_
    refine xn ?_
    refine cnd hF rfl (fun hc => ?_) (fun hc => absurd hc (by decide))
    refine sq ?_
    refine rg ?_
    refine stp hF (p_assign rfl) (by decide) (fun a hF => ?_)
    refine nilN ?_
    refine xn ?_
    refine rt ?_
    refine xr ?_
    replace hS := hS.ownNil (Kd.int .i64) 3 none
    exact ret1 hF rfl rfl hS ⟨_, rfl, rfl⟩
  · subst hv
    refine sq ?_
    refine rg ?_
    refine stp hF (p_move rfl) (by decide) (fun a hF => ?_)
    refine stp hF (p_eqnil un_22 rfl rfl) (by decide) (fun a hF => ?_)
    refine nilN ?_
    refine xn ?_
    refine cnd hF rfl (fun hc => absurd hc (by simp)) (fun hc => ?_)
    refine skN ?_
    refine xn ?_
    refine sq ?_
    refine rg ?_
    refine ste hF (e_bslice (kd := (Kd.int .i64)) (et := 3) (ps := []) (vs := []) (cs := []) (xs := ([] : (List Int))) hS rfl (fun w => by kernel_rfl) rfl (by decide) (Nat.le_of_ble_eq_true rfl) (Rows.nil _ _ _ _)) (by decide) (fun v9 w a hR hF => ?_)
    have hS : St e s0 w [Ow (Kd.int .i64) 3 v9 ([] : (List Int))] := hR
    refine stp hF (p_move rfl) (by decide) (fun a hF => ?_)
    refine ste hF (e_append (n := 0) hS rfl rfl rfl (h.src hS) un_22 ti_3 rfl (by decide) (by decide) (Nat.le_trans (Nat.mul_le_mul_right 8 hq) (by decide))) (by decide) (fun v10 w a hR hF => ?_)
    have hS : St e s0 w [Ow (Kd.int .i64) 3 v10 x] := hR
    refine stp hF (p_assign rfl) (by decide) (fun a hF => ?_)
    refine nilN ?_
    refine xn ?_
    refine rt ?_
    exact ret1 hF rfl rfl hS ⟨_, rfl, rfl⟩

def impl_cloneObj.f (k : Nat) (x1 : TObj) : Option TObj :=
  ((slices_Clone.f k x1.Ints).bind fun x2 => ((slices_Clone.f k x1.Refs).bind fun x3 => (some (⟨x1.Kind, x2, x3⟩ : TObj))))
set_option maxRecDepth 100000 in
set_option maxHeartbeats 4000000 in
theorem impl_cloneObj.spec (k : Nat) (s0 : HF) (w : World) (x1 : TObj) (v1 : Value) (v2 : Value) (h1 : Sl (Kd.int .i64) s0 v1 x1.Ints) (h2 : Sl (Kd.int .i64) s0 v2 x1.Refs) (r : TObj) (H : impl_cloneObj.f k x1 = some r) :
    Law Tryz.prog 143 #[(.agg #[(.int .i64 x1.Kind), v1, v2])] s0 w [] (fun v s1 A1 => ∃ (u0 : Value) (u1 : Value), v = (.agg #[(.int .i64 r.Kind), u0, u1]) ∧ A1 = [Ow (Kd.int .i64) 3 u0 r.Ints, Ow (Kd.int .i64) 3 u1 r.Refs]) := by
  unfold impl_cloneObj.f at H
  refine Law.intro Tryz.func143 rfl [(0, (.agg #[(.int .i64 x1.Kind), v1, v2]))] (Nat.le_of_ble_eq_true rfl) (enter_lk ⟨rfl, trivial⟩) (fun e a hS hF => ?_)
  have hF : Fr 12 a [(0, (.agg #[(.int .i64 x1.Kind), v1, v2]))] := hF
  refine sq ?_
  refine rg ?_
  refine ste hF (e_box (cs := [(.int .i64 x1.Kind), v1, v2]) hS rfl rfl) (by decide) (fun v w a hR hF => ?_)
  obtain ⟨g1, rfl, hS⟩ := hR
  refine ste hF (e_alloc (cs := [(.int .i64 0), (.slice none 0 0), (.slice none 0 0)]) hS ti_43 rfl) (by decide) (fun v w a hR hF => ?_)
  obtain ⟨g2, rfl, hS⟩ := hR
  refine nilN ?_
  refine xn ?_
  refine sq ?_
  replace hS : St e s0 w.drew [pt g2 43 ([(.int .i64 0), (.slice none 0 0), (.slice none 0 0)]), pt g1 43 ([(.int .i64 x1.Kind), v1, v2])] := hS.drewN 1
  refine drw [0, 1, 2, 3, 4, 5, 6, 7, 8, 9] mixed (by kernel_rfl) (by decide) (hF.cut (L' := [(0, (.agg #[(.int .i64 x1.Kind), v1, v2])), (1, (.pointer (some ⟨g1, 0, none⟩))), (2, (.pointer (some ⟨g2, 0, none⟩)))]) ⟨rfl, rfl, rfl, trivial⟩) ?_
  clear hF
  generalize w.drew = w at hS ⊢
  refine pk1 rfl (by decide) rfl (by kernel_rfl) rfl (p_fldb (o' := 1) rfl fi_43_1 rfl) ?_
  refine pk1 rfl (by decide) rfl (by kernel_rfl) rfl (p_ldb_one (i := 1) hS rfl rfl ia_22 rfl) ?_
  refine pkPerm [3, 2, 4, 5, 6, 7, 8, 9] (by kernel_rfl) ?_
  refine pk1 rfl (by decide) rfl (by kernel_rfl) rfl (p_fldb (o' := 2) rfl fi_43_2 rfl) ?_
  refine pkPerm [4, 2, 5, 6, 7, 8, 9] (by kernel_rfl) ?_
  refine pk1 rfl (by decide) rfl (by kernel_rfl) rfl (p_ldb_one (i := 1) hS rfl rfl ia_22 rfl) ?_
  obtain ⟨x2, hx1, H⟩ := hb H
  refine pkE [4, 3, 0] rfl (by decide) (by kernel_rfl) (by kernel_rfl) (e_callA (fst := []) (vs := [v1]) (cap := []) rfl rfl go_136 (St.call (A := []) (B := [pt g2 43 ([(.int .i64 0), (.slice none 0 0), (.slice none 0 0)]), pt g1 43 ([(.int .i64 x1.Kind), v1, v2])]) hS (slices_Clone.spec k _ _ x1.Ints v1 h1 _ hx1)) rfl) ?_
  intro v w hR
  obtain ⟨s2, A2, hg1, hS, hR⟩ := hR
  obtain ⟨v3, hv1, rfl⟩ := hR; obtain rfl := hv1.symm
  have hS : St e s2 w [Ow (Kd.int .i64) 3 v3 x2, pt g2 43 ([(.int .i64 0), (.slice none 0 0), (.slice none 0 0)]), pt g1 43 ([(.int .i64 x1.Kind), v1, v2])] := hS
  refine ⟨⟨knw rfl rfl rfl (p_ldb_one (i := 2) hS rfl rfl ia_22 rfl), ⟨knw rfl rfl rfl (p_fldb (o' := 2) rfl fi_43_2 rfl), ⟨knw rfl rfl rfl (p_fldb (o' := 1) rfl fi_43_1 rfl), trivial⟩⟩⟩, ?_⟩
  refine pkPerm [6, 5, 7, 8, 9] (by kernel_rfl) ?_
  refine pk1 rfl (by decide) rfl (by kernel_rfl) rfl (p_fldb (o' := 1) rfl fi_43_1 rfl) ?_
  obtain ⟨x3, hx2, H⟩ := hb H
  refine pkE [6, 3, 0] rfl (by decide) (by kernel_rfl) (by kernel_rfl) (e_callA (fst := []) (vs := [v2]) (cap := []) rfl rfl go_136 (St.call (A := []) (B := [Ow (Kd.int .i64) 3 v3 x2, pt g2 43 ([(.int .i64 0), (.slice none 0 0), (.slice none 0 0)]), pt g1 43 ([(.int .i64 x1.Kind), v1, v2])]) hS (slices_Clone.spec k _ _ x1.Refs v2 (h2.mono hg1) _ hx2)) rfl) ?_
  intro v w hR
  obtain ⟨s3, A3, hg2, hS, hR⟩ := hR
  obtain ⟨v4, hv2, rfl⟩ := hR; obtain rfl := hv2.symm
  have hS : St e s3 w [Ow (Kd.int .i64) 3 v4 x3, Ow (Kd.int .i64) 3 v3 x2, pt g2 43 ([(.int .i64 0), (.slice none 0 0), (.slice none 0 0)]), pt g1 43 ([(.int .i64 x1.Kind), v1, v2])] := hS
  refine ⟨⟨knw rfl rfl rfl (p_fldb (o' := 1) rfl fi_43_1 rfl), ⟨knw rfl rfl rfl (p_fldb (o' := 2) rfl fi_43_2 rfl), ⟨knw rfl rfl rfl (p_fldb (o' := 1) rfl fi_43_1 rfl), trivial⟩⟩⟩, ?_⟩
  refine pkE0 [] rfl (by kernel_rfl) (by kernel_rfl) (e_stb (i := 3) (l := [(.int .i64 x1.Kind)]) (m := [v1]) (r := [v2]) (m' := [v3]) (cs' := [(.int .i64 x1.Kind), v3, v2]) hS rfl rfl rfl ti_22 rfl rfl rfl (cells_one (hS.one_ow (i := 1) rfl)) rfl (one_cons (hS.one_ow (i := 1) rfl) one_nil) rfl) ?_
  intro v w hR
  have hS : St e s3 w [pt g1 43 ([(.int .i64 x1.Kind), v3, v2]), Ow (Kd.int .i64) 3 v4 x3, Ow (Kd.int .i64) 3 v3 x2, pt g2 43 ([(.int .i64 0), (.slice none 0 0), (.slice none 0 0)])] := hR
  refine ⟨trivial, ?_⟩
  refine pk1 rfl (by decide) rfl (by kernel_rfl) rfl (p_fldb (o' := 2) rfl fi_43_2 rfl) ?_
  refine pkE0 [] rfl (by kernel_rfl) (by kernel_rfl) (e_stb (i := 0) (l := [(.int .i64 x1.Kind), v3]) (m := [v2]) (r := []) (m' := [v4]) (cs' := [(.int .i64 x1.Kind), v3, v4]) hS rfl rfl rfl ti_22 rfl rfl rfl (cells_one (hS.one_ow (i := 1) rfl)) rfl (one_cons (hS.one_ow (i := 1) rfl) one_nil) rfl) ?_
  intro v w hR
  have hS : St e s3 w [pt g1 43 ([(.int .i64 x1.Kind), v3, v4]), Ow (Kd.int .i64) 3 v4 x3, Ow (Kd.int .i64) 3 v3 x2, pt g2 43 ([(.int .i64 0), (.slice none 0 0), (.slice none 0 0)])] := hR
  refine ⟨trivial, ?_⟩
  refine pkF (fun a hF => ?_)
  refine xn ?_
  refine sq ?_
  refine rg ?_
  refine stp hF (p_ldb_agg (i := 0) (l := []) (m := [(.int .i64 x1.Kind), v3, v4]) (r := []) hS rfl rfl ia_43 ti_43 rfl rfl rfl) (by decide) (fun a hF => ?_)
  refine ste0 hF (e_stb (i := 3) (l := []) (m := [(.int .i64 0), (.slice none 0 0), (.slice none 0 0)]) (r := []) (m' := [(.int .i64 x1.Kind), v3, v4]) (cs' := [(.int .i64 x1.Kind), v3, v4]) hS rfl rfl rfl ti_43 rfl rfl rfl rfl rfl (one_cons rfl (one_cons (hS.one_ow (i := 2) rfl) (one_cons (hS.one_ow (i := 1) rfl) one_nil))) rfl) (fun v w a hR hF => ?_)
  have hS : St e s3 w [pt g2 43 ([(.int .i64 x1.Kind), v3, v4]), pt g1 43 ([(.int .i64 x1.Kind), v3, v4]), Ow (Kd.int .i64) 3 v4 x3, Ow (Kd.int .i64) 3 v3 x2] := hR
  refine nilN ?_
  refine xn ?_
  refine rt ?_
  obtain rfl := hsm H
  have h3 : RvOk Tryz.prog _ w (.cell 2 43) _ := rvC (i := 0) hS rfl (show lk [(2, (.pointer (some ⟨g2, 0, none⟩)))] 2 = _ from rfl) ia_43 ti_43 rfl
  replace hS := hS.sel (is := [3, 2]) (A' := [Ow (Kd.int .i64) 3 v3 x2, Ow (Kd.int .i64) 3 v4 x3]) rfl
  exact retc1 hF rfl h3 hS ⟨v3, v4, rfl, rfl⟩

def impl_cloneSlot.f (k : Nat) (x1 : TSlot) : Option TSlot :=
  ((impl_cloneObj.f k x1.O).bind fun x2 => (some (⟨x1.Has, (⟨x2.Kind, x2.Ints, x2.Refs⟩ : TObj)⟩ : TSlot)))
set_option maxRecDepth 100000 in
set_option maxHeartbeats 4000000 in
theorem impl_cloneSlot.spec (k : Nat) (s0 : HF) (w : World) (x1 : TSlot) (v1 : Value) (v2 : Value) (h1 : Sl (Kd.int .i64) s0 v1 x1.O.Ints) (h2 : Sl (Kd.int .i64) s0 v2 x1.O.Refs) (r : TSlot) (H : impl_cloneSlot.f k x1 = some r) :
    Law Tryz.prog 71 #[(.agg #[(.bool x1.Has), (.int .i64 x1.O.Kind), v1, v2])] s0 w [] (fun v s1 A1 => ∃ (u0 : Value) (u1 : Value), v = (.agg #[(.bool r.Has), (.int .i64 r.O.Kind), u0, u1]) ∧ A1 = [Ow (Kd.int .i64) 3 u0 r.O.Ints, Ow (Kd.int .i64) 3 u1 r.O.Refs]) := by
  unfold impl_cloneSlot.f at H
  refine Law.intro Tryz.func71 rfl [(0, (.agg #[(.bool x1.Has), (.int .i64 x1.O.Kind), v1, v2]))] (Nat.le_of_ble_eq_true rfl) (enter_lk ⟨rfl, trivial⟩) (fun e a hS hF => ?_)
  have hF : Fr 9 a [(0, (.agg #[(.bool x1.Has), (.int .i64 x1.O.Kind), v1, v2]))] := hF
  refine sq ?_
  refine rg ?_
  refine ste hF (e_box (cs := [(.bool x1.Has), (.int .i64 x1.O.Kind), v1, v2]) hS rfl rfl) (by decide) (fun v w a hR hF => ?_)
  obtain ⟨g1, rfl, hS⟩ := hR
  refine ste hF (e_alloc (cs := [(.bool false), (.int .i64 0), (.slice none 0 0), (.slice none 0 0)]) hS ti_45 rfl) (by decide) (fun v w a hR hF => ?_)
  obtain ⟨g2, rfl, hS⟩ := hR
  refine nilN ?_
  refine xn ?_
  refine sq ?_
  replace hS : St e s0 w.drew [pt g2 45 ([(.bool false), (.int .i64 0), (.slice none 0 0), (.slice none 0 0)]), pt g1 45 ([(.bool x1.Has), (.int .i64 x1.O.Kind), v1, v2])] := hS.drewN 1
  refine drw [0, 1, 2, 3, 4, 5, 6] mixed (by kernel_rfl) (by decide) (hF.cut (L' := [(0, (.agg #[(.bool x1.Has), (.int .i64 x1.O.Kind), v1, v2])), (1, (.pointer (some ⟨g1, 0, none⟩))), (2, (.pointer (some ⟨g2, 0, none⟩)))]) ⟨rfl, rfl, rfl, trivial⟩) ?_
  clear hF
  generalize w.drew = w at hS ⊢
  refine pk1 rfl (by decide) rfl (by kernel_rfl) rfl (p_fldb (o' := 0) rfl fi_45_0 rfl) ?_
  refine pk1 rfl (by decide) rfl (by kernel_rfl) rfl (p_ldb_one (i := 1) hS rfl rfl ia_4 rfl) ?_
  refine pk1 rfl (by decide) rfl (by kernel_rfl) rfl (p_fldb (o' := 1) rfl fi_45_1 rfl) ?_
  refine pk1 rfl (by decide) rfl (by kernel_rfl) rfl (p_ldb_agg (i := 1) (l := [(.bool x1.Has)]) (m := [(.int .i64 x1.O.Kind), v1, v2]) (r := []) hS rfl rfl ia_43 ti_43 rfl rfl rfl) ?_
  obtain ⟨x2, hx1, H⟩ := hb H
  refine pkE [2, 1, 0] rfl (by decide) (by kernel_rfl) (by kernel_rfl) (e_callA (fst := []) (vs := [(.agg #[(.int .i64 x1.O.Kind), v1, v2])]) (cap := []) rfl rfl go_143 (St.call (A := []) (B := [pt g2 45 ([(.bool false), (.int .i64 0), (.slice none 0 0), (.slice none 0 0)]), pt g1 45 ([(.bool x1.Has), (.int .i64 x1.O.Kind), v1, v2])]) hS (impl_cloneObj.spec k _ _ x1.O v1 v2 h1 h2 _ hx1)) rfl) ?_
  intro v w hR
  obtain ⟨s2, A2, hg1, hS, hR⟩ := hR
  obtain ⟨v3, v4, hv1, rfl⟩ := hR; obtain rfl := hv1.symm
  have hS : St e s2 w [Ow (Kd.int .i64) 3 v3 x2.Ints, Ow (Kd.int .i64) 3 v4 x2.Refs, pt g2 45 ([(.bool false), (.int .i64 0), (.slice none 0 0), (.slice none 0 0)]), pt g1 45 ([(.bool x1.Has), (.int .i64 x1.O.Kind), v1, v2])] := hS
  refine ⟨⟨knw rfl rfl rfl (p_fldb (o' := 1) rfl fi_45_1 rfl), ⟨knw rfl rfl rfl (p_ldb_one (i := 3) hS rfl rfl ia_4 rfl), ⟨knw rfl rfl rfl (p_fldb (o' := 0) rfl fi_45_0 rfl), trivial⟩⟩⟩, ?_⟩
  refine pk1 rfl (by decide) rfl (by kernel_rfl) rfl (p_build (ps := [(0, (.tmp 4)), (1, (.tmp 7))]) (vs := [(0, (.bool x1.Has)), (1, (.agg #[(.int .i64 x2.Kind), v3, v4]))]) (v := (.agg #[(.bool x1.Has), (.int .i64 x2.Kind), v3, v4])) rfl (by intro w; obtain ⟨_, _, _, e1⟩ := hS.el (i := 0) rfl; rw [e1]; obtain ⟨_, _, _, e2⟩ := hS.el (i := 1) rfl; rw [e2]; kernel_rfl)) ?_
  refine pkE0 [] rfl (by kernel_rfl) (by kernel_rfl) (e_stb (i := 2) (l := []) (m := [(.bool false), (.int .i64 0), (.slice none 0 0), (.slice none 0 0)]) (r := []) (m' := [(.bool x1.Has), (.int .i64 x2.Kind), v3, v4]) (cs' := [(.bool x1.Has), (.int .i64 x2.Kind), v3, v4]) hS rfl rfl rfl ti_45 rfl rfl rfl rfl rfl (one_cons rfl (one_cons rfl (one_cons (hS.one_ow (i := 0) rfl) (one_cons (hS.one_ow (i := 1) rfl) one_nil)))) rfl) ?_
  intro v w hR
  have hS : St e s2 w [pt g2 45 ([(.bool x1.Has), (.int .i64 x2.Kind), v3, v4]), Ow (Kd.int .i64) 3 v3 x2.Ints, Ow (Kd.int .i64) 3 v4 x2.Refs, pt g1 45 ([(.bool x1.Has), (.int .i64 x1.O.Kind), v1, v2])] := hR
  refine ⟨trivial, ?_⟩
  refine pkF (fun a hF => ?_)
  refine xn ?_
  refine rt ?_
  obtain rfl := hsm H
  have h3 : RvOk Tryz.prog _ w (.cell 2 45) _ := rvC (i := 0) hS rfl (show lk [(2, (.pointer (some ⟨g2, 0, none⟩)))] 2 = _ from rfl) ia_45 ti_45 rfl
  replace hS := hS.sel (is := [1, 1]) (A' := [Ow (Kd.int .i64) 3 v3 x2.Ints, Ow (Kd.int .i64) 3 v4 x2.Refs]) rfl
  exact retc1 hF rfl h3 hS ⟨v3, v4, rfl, rfl⟩

def impl_clonePage.c1 (k : Nat) (x1 : TPage) (x2 : (List TSlot)) : Option TPage :=
  (some (⟨x1.Lsn, x2⟩ : TPage))
def impl_clonePage.l1 (x1 : TPage) : Nat → (List TSlot) → Int → Option (List TSlot)
  | 0, _, _ => none
  | k + 1, x3, x4 => (if (decide (x4 < 4)) = true then (if 0 ≤ x4 ∧ x4 < 4 then ((impl_cloneSlot.f k (⟨(rd x1.Slots x4).Has, (⟨((rd x1.Slots x4).O).Kind, ((rd x1.Slots x4).O).Ints, ((rd x1.Slots x4).O).Refs⟩ : TObj)⟩ : TSlot)).bind fun x5 => (if 0 ≤ x4 ∧ x4 < 4 then ((impl_clonePage.l1 x1 k) (wr x3 x4 (⟨x5.Has, (⟨x5.O.Kind, x5.O.Ints, x5.O.Refs⟩ : TObj)⟩ : TSlot)) (w64 (x4 + 1))) else none)) else none) else (some x3))
def impl_clonePage.f (k : Nat) (x1 : TPage) : Option TPage :=
  (((impl_clonePage.l1 x1 k x1.Slots 0) : Option (List TSlot)).bind fun x6 => impl_clonePage.c1 k x1 x6)
set_option maxRecDepth 100000 in
set_option maxHeartbeats 4000000 in
theorem impl_clonePage.spec (k : Nat) (s0 : HF) (w : World) (x1 : TPage) (c2 : List Value) (h1 : ((Kd.arr 4 kTSlot)).K s0 x1.Slots c2) (r : TPage) (H : impl_clonePage.f k x1 = some r) :
    Law Tryz.prog 163 #[(.agg ([(.int .i64 x1.Lsn)] ++ c2 : List Value).toArray)] s0 w [] (fun v s1 A1 => ∃ (u0 : List Value), v = (.agg ([(.int .i64 r.Lsn)] ++ u0 : List Value).toArray) ∧ A1 = [] ∧ ((Kd.arr 4 kTSlot)).K s1 r.Slots u0) := by
  unfold impl_clonePage.f at H
  refine Law.intro Tryz.func163 rfl [(0, (.agg ([(.int .i64 x1.Lsn)] ++ c2 : List Value).toArray))] (Nat.le_of_ble_eq_true rfl) (enter_lk ⟨rfl, trivial⟩) (fun e a hS hF => ?_)
  have hF : Fr 18 a [(0, (.agg ([(.int .i64 x1.Lsn)] ++ c2 : List Value).toArray))] := hF
  refine sq ?_
  refine rg ?_
  refine ste hF (e_box (cs := [(.int .i64 x1.Lsn)] ++ c2) hS rfl rfl) (by decide) (fun v w a hR hF => ?_)
  obtain ⟨g1, rfl, hS⟩ := hR
  refine ste hF (e_alloc (cs := [(.int .i64 0)] ++ za_46) hS ti_48 rfl) (by decide) (fun v w a hR hF => ?_)
  obtain ⟨g2, rfl, hS⟩ := hR
  refine nilN ?_
  refine xn ?_
  obtain ⟨x6, H, HK1⟩ := hb H
  refine sqj (fun a w => ∃ (x2 : (List TSlot)) (s2 : HF) (c3 : List Value) , St e s2 w [pt g2 48 ([(.int .i64 0)] ++ za_46), pt g1 48 ([(.int .i64 x1.Lsn)] ++ c3)] ∧ Fr 18 a [(1, (.pointer (some ⟨g1, 0, none⟩))), (2, (.pointer (some ⟨g2, 0, none⟩)))] ∧ Sub s0 s2 ∧ ((Kd.arr 4 kTSlot)).K s2 x2 c3 ∧ impl_clonePage.c1 k x1 x2 = some r) ?_ ?_
  · skip
    refine sq ?_
    refine rg ?_
    refine stp hF (p_fldb (o' := 1) rfl fi_48_1 rfl) (by decide) (fun a hF => ?_)
    refine stp hF (p_ldb_agg (i := 1) (l := [(.int .i64 x1.Lsn)]) (m := c2) (r := []) hS rfl rfl ia_46 ti_46 (by simp) (by simp [(show c2.length = 16 from Kd.len _ h1)]) (by simp [(show c2.length = 16 from Kd.len _ h1)])) (by decide) (fun a hF => ?_)
    refine stp hF (p_move rfl) (by decide) (fun a hF => ?_)
    refine nilN ?_
    refine xn ?_
    refine blk ?_
    refine loop_ind (fun k1 a w => ∃ (x3 : (List TSlot)) (x4 : Int) (s3 : HF) (c4 : List Value) , St e s3 w [pt g2 48 ([(.int .i64 0)] ++ za_46), pt g1 48 ([(.int .i64 x1.Lsn)] ++ c4)] ∧ Fr 18 a [(1, (.pointer (some ⟨g1, 0, none⟩))), (2, (.pointer (some ⟨g2, 0, none⟩))), (6, (.agg c2.toArray)), (7, (.int .i64 x4))] ∧ Sub s0 s3 ∧ ((Kd.arr 4 kTSlot)).K s3 x3 c4 ∧ impl_clonePage.l1 x1 k1 x3 x4 = some x6) k ?_ ?_ ?_
    · skip
      exact ⟨x1.Slots, 0, s0, c2, hS, hF.cut ⟨rfl, rfl, rfl, rfl, trivial⟩, (Sub.refl _), h1, H⟩
    · clear H hS hF
      rintro a w ⟨x3, x4, s3, c4, hS, hF, hg1, h2, H⟩
      exact absurd (show none = some _ from H) (by simp)
    · clear H hS hF
      rintro k1 a w ⟨x3, x4, s3, c4, hS, hF, hg1, h2, H⟩
      rw [impl_clonePage.l1.eq_2] at H
      refine sq ?_
      refine rg ?_
      refine stp hF (p_lss rfl rfl) (by decide) (fun a hF => ?_)
      refine nilN ?_
      refine xn ?_
      refine sq ?_
      refine cnd hF rfl (fun hc1 => ?_) (fun hc1 => ?_)
      · replace H := hbt hc1 H
        refine skN ?_
        refine xn ?_
        refine sq ?_
        refine blk ?_
        refine sq ?_
        refine rg ?_
        refine stp hF (p_move rfl) (by decide) (fun a hF => ?_)
        obtain ⟨hq1, H⟩ := hck H
        obtain ⟨c5, h3, p1⟩ := p_idxv_agg (P := Tryz.prog) (i := x4) ((Kd.arr 4 kTSlot).mono hg1 h1) un_46 ti_45 ia_45 hq1.1 hq1.2
        obtain ⟨v1, v2, rfl, h4, h5⟩ := kTSlot_open h3
        refine stp hF (p1 rfl rfl) (by decide) (fun a hF => ?_)
        refine ste hF (e_alloc (cs := [(.bool false), (.int .i64 0), (.slice none 0 0), (.slice none 0 0)]) hS ti_45 rfl) (by decide) (fun v w a hR hF => ?_)
        obtain ⟨g3, rfl, hS⟩ := hR
        refine stp hF (p_assign rfl) (by decide) (fun a hF => ?_)
        refine ste0 hF (e_stb (i := 0) (l := []) (m := [(.bool false), (.int .i64 0), (.slice none 0 0), (.slice none 0 0)]) (r := []) (m' := [(.bool ((rd x1.Slots x4).Has)), (.int .i64 (((rd x1.Slots x4).O).Kind)), v1, v2]) (cs' := [(.bool ((rd x1.Slots x4).Has)), (.int .i64 (((rd x1.Slots x4).O).Kind)), v1, v2]) hS rfl rfl rfl ti_45 rfl rfl rfl rfl rfl (one_cons rfl (one_cons rfl (one_cons (one_sl h4) (one_cons (one_sl h5) one_nil)))) rfl) (fun v w a hR hF => ?_)
        have hS : St e s3 w [pt g3 45 ([(.bool ((rd x1.Slots x4).Has)), (.int .i64 (((rd x1.Slots x4).O).Kind)), v1, v2]), pt g2 48 ([(.int .i64 0)] ++ za_46), pt g1 48 ([(.int .i64 x1.Lsn)] ++ c4)] := hR
        refine nilN ?_
        refine xn ?_
        refine rg ?_
        refine stp hF (p_move rfl) (by decide) (fun a hF => ?_)
        refine stp hF (p_ldb_agg (i := 0) (l := []) (m := [(.bool ((rd x1.Slots x4).Has)), (.int .i64 (((rd x1.Slots x4).O).Kind)), v1, v2]) (r := []) hS rfl rfl ia_45 ti_45 rfl rfl rfl) (by decide) (fun a hF => ?_)
        obtain ⟨x5, hx1, H⟩ := hb H
        refine ste hF (e_callA (fst := []) (vs := [(.agg #[(.bool ((rd x1.Slots x4).Has)), (.int .i64 (((rd x1.Slots x4).O).Kind)), v1, v2])]) (cap := []) rfl rfl go_71 (St.call (A := []) (B := [pt g3 45 ([(.bool ((rd x1.Slots x4).Has)), (.int .i64 (((rd x1.Slots x4).O).Kind)), v1, v2]), pt g2 48 ([(.int .i64 0)] ++ za_46), pt g1 48 ([(.int .i64 x1.Lsn)] ++ c4)]) hS (impl_cloneSlot.spec k1 _ _ (⟨(rd x1.Slots x4).Has, (⟨((rd x1.Slots x4).O).Kind, ((rd x1.Slots x4).O).Ints, ((rd x1.Slots x4).O).Refs⟩ : TObj)⟩ : TSlot) v1 v2 h4 h5 _ hx1)) rfl) (by decide) (fun v w a hR hF => ?_)
        obtain ⟨s4, A2, hg2, hS, hR⟩ := hR
        obtain ⟨v3, v4, hv1, rfl⟩ := hR; obtain rfl := hv1.symm
        have hS : St e s4 w [Ow (Kd.int .i64) 3 v3 x5.O.Ints, Ow (Kd.int .i64) 3 v4 x5.O.Refs, pt g3 45 ([(.bool ((rd x1.Slots x4).Has)), (.int .i64 (((rd x1.Slots x4).O).Kind)), v1, v2]), pt g2 48 ([(.int .i64 0)] ++ za_46), pt g1 48 ([(.int .i64 x1.Lsn)] ++ c4)] := hS
        refine stp hF (p_fldb (o' := 1) rfl fi_48_1 rfl) (by decide) (fun a hF => ?_)
        obtain ⟨hq2, H⟩ := hck H
        refine stp hF (p_idxb rfl rfl un_46 ti_45 hq2.1 hq2.2) (by decide) (fun a hF => ?_)
        obtain ⟨s5, hg3, h6, hS⟩ := hS.freeze (i := 0) (kd := (Kd.int .i64)) (et := 3) (v := v3) (xs := x5.O.Ints) (B := [Ow (Kd.int .i64) 3 v4 x5.O.Refs, pt g3 45 ([(.bool ((rd x1.Slots x4).Has)), (.int .i64 (((rd x1.Slots x4).O).Kind)), v1, v2]), pt g2 48 ([(.int .i64 0)] ++ za_46), pt g1 48 ([(.int .i64 x1.Lsn)] ++ c4)]) rfl
        obtain ⟨s6, hg4, h7, hS⟩ := hS.freeze (i := 0) (kd := (Kd.int .i64)) (et := 3) (v := v4) (xs := x5.O.Refs) (B := [pt g3 45 ([(.bool ((rd x1.Slots x4).Has)), (.int .i64 (((rd x1.Slots x4).O).Kind)), v1, v2]), pt g2 48 ([(.int .i64 0)] ++ za_46), pt g1 48 ([(.int .i64 x1.Lsn)] ++ c4)]) rfl
        refine ste0 hF (e_stba (n := 2) (l := [(.int .i64 x1.Lsn)]) (cs := c4) (r := []) (base := 1) (y0 := (⟨x5.Has, (⟨x5.O.Kind, x5.O.Ints, x5.O.Refs⟩ : TObj)⟩ : TSlot)) hS rfl (by simp) ((Kd.arr 4 kTSlot).mono hg4 ((Kd.arr 4 kTSlot).mono hg3 ((Kd.arr 4 kTSlot).mono hg2 h2))) (Lens.idx 4 kTSlot x4 hq2.1 hq2.2) rfl rfl rfl rfl ti_45 rfl (kTSlot_mk (x := (⟨x5.Has, (⟨x5.O.Kind, x5.O.Ints, x5.O.Refs⟩ : TObj)⟩ : TSlot)) (h6.mono hg4) h7)) (fun v w a hR hF => ?_)
        obtain ⟨c6, h8, hS⟩ := hR
        replace h8 : ((Kd.arr 4 kTSlot)).K s6 (wr x3 x4 (⟨x5.Has, (⟨x5.O.Kind, x5.O.Ints, x5.O.Refs⟩ : TObj)⟩ : TSlot)) c6 := h8
        replace hS : St e s6 w [pt g1 48 ([(.int .i64 x1.Lsn)] ++ c6), pt g3 45 ([(.bool ((rd x1.Slots x4).Has)), (.int .i64 (((rd x1.Slots x4).O).Kind)), v1, v2]), pt g2 48 ([(.int .i64 0)] ++ za_46)] := (by simpa using hS)
        refine nilN ?_
        refine bn (xn ?_)
        refine rg ?_
        refine stp hF (p_add (c := w64 (x4 + 1)) rfl rfl rfl) (by decide) (fun a hF => ?_)
        refine stp hF (p_move rfl) (by decide) (fun a hF => ?_)
        refine nilN ?_
        refine xn ?_
        replace hS := hS.sel (is := [2, 0]) (A' := [pt g2 48 ([(.int .i64 0)] ++ za_46), pt g1 48 ([(.int .i64 x1.Lsn)] ++ c6)]) rfl
        exact ⟨(wr x3 x4 (⟨x5.Has, (⟨x5.O.Kind, x5.O.Ints, x5.O.Refs⟩ : TObj)⟩ : TSlot)), (w64 (x4 + 1)), s6, c6, hS, hF.cut ⟨rfl, rfl, rfl, rfl, trivial⟩, (((hg1.trans hg2).trans hg3).trans hg4), h8, H⟩
      · replace H := hbf hc1 H
        refine exi ?_
        refine xe (xe (hit (xn ?_)))
        obtain rfl := hsm H
        exact ⟨x3, s3, c4, hS, hF.cut ⟨rfl, rfl, trivial⟩, hg1, h2, HK1⟩
  · clear H HK1 hS hF
    rintro a w ⟨x2, s2, c3, hS, hF, hg5, h9, H⟩
    unfold impl_clonePage.c1 at H
    refine sq ?_
    refine rg ?_
    refine stp hF (p_ldb_agg (i := 1) (l := []) (m := [(.int .i64 x1.Lsn)] ++ c3) (r := []) hS rfl rfl ia_48 ti_48 (by simp) (by simp [(show c3.length = 16 from Kd.len _ h9)]) (by simp [(show c3.length = 16 from Kd.len _ h9)])) (by decide) (fun a hF => ?_)
    refine ste0 hF (e_stb (i := 0) (l := []) (m := [(.int .i64 0)] ++ za_46) (r := []) (m' := [(.int .i64 x1.Lsn)] ++ c3) (cs' := [(.int .i64 x1.Lsn)] ++ c3) hS rfl rfl rfl ti_48 (by simp) (by simp [zl_46, (show c3.length = 16 from Kd.len _ h9)]) (by simp [zl_46, (show c3.length = 16 from Kd.len _ h9)]) rfl (by simp [zl_46, (show c3.length = 16 from Kd.len _ h9)]) (one_app (one_cons rfl one_nil) (Kd.one _ h9)) (by simp)) (fun v w a hR hF => ?_)
    have hS : St e s2 w [pt g2 48 ([(.int .i64 x1.Lsn)] ++ c3), pt g1 48 ([(.int .i64 x1.Lsn)] ++ c3)] := hR
    refine nilN ?_
    refine xn ?_
    refine rt ?_
    obtain rfl := hsm H
    have h10 : RvOk Tryz.prog _ w (.cell 2 48) _ := rvC (i := 0) hS rfl (show lk [(2, (.pointer (some ⟨g2, 0, none⟩)))] 2 = _ from rfl) ia_48 ti_48 (by simp [(show c3.length = 16 from Kd.len _ h9)])
    replace hS := hS.sel (is := []) (A' := []) rfl
    exact retc1 hF rfl h10 hS ⟨c3, rfl, rfl, h9⟩

def impl_SetSlot.c1 (k : Nat) (x1 : TPage) (x2 : TSlot) (x3 : Int) (x4 : Int) (x5 : Bool) : Option (TPage × Bool) :=
  (if x5 = true then (some (x1, false)) else ((impl_cloneSlot.f k x2).bind fun x6 => (if 0 ≤ x3 ∧ x3 < 4 then (some ((⟨x4, (wr x1.Slots x3 (⟨x6.Has, (⟨x6.O.Kind, x6.O.Ints, x6.O.Refs⟩ : TObj)⟩ : TSlot))⟩ : TPage), true)) else none)))
def impl_SetSlot.c2 (k : Nat) (x4 : Int) (x7 : TPage) (x1 : TPage) (x2 : TSlot) (x3 : Int) (x8 : Bool) : Option (TPage × Bool) :=
  ((if x8 = true then (some true) else ((impl_in.f k x4 x7.Lsn 1000000).bind fun x9 => (some (!x9))) : Option Bool).bind fun x10 => impl_SetSlot.c1 k x1 x2 x3 x4 x10)
def impl_SetSlot.c3 (k : Nat) (x2 : TSlot) (x4 : Int) (x7 : TPage) (x1 : TPage) (x3 : Int) (x11 : Bool) : Option (TPage × Bool) :=
  ((if x11 = true then (some true) else ((impl_slotOk.f k x2).bind fun x12 => (some (!x12))) : Option Bool).bind fun x13 => impl_SetSlot.c2 k x4 x7 x1 x2 x3 x13)
def impl_SetSlot.f (k : Nat) (x7 : TPage) (x3 : Int) (x2 : TSlot) (x4 : Int) : Option (TPage × Bool) :=
  ((impl_clonePage.f k x7).bind fun x1 => ((impl_PageOk.f k x7).bind fun x14 => ((if (!x14) = true then (some true) else ((impl_in.f k x3 0 3).bind fun x15 => (some (!x15))) : Option Bool).bind fun x16 => impl_SetSlot.c3 k x2 x4 x7 x1 x3 x16)))
set_option maxRecDepth 100000 in
set_option maxHeartbeats 4000000 in
theorem impl_SetSlot.spec (k : Nat) (s0 : HF) (w : World) (x7 : TPage) (x3 : Int) (x2 : TSlot) (x4 : Int) (c4 : List Value) (v1 : Value) (v2 : Value) (h1 : ((Kd.arr 4 kTSlot)).K s0 x7.Slots c4) (h2 : Sl (Kd.int .i64) s0 v1 x2.O.Ints) (h3 : Sl (Kd.int .i64) s0 v2 x2.O.Refs) (r : TPage × Bool) (H : impl_SetSlot.f k x7 x3 x2 x4 = some r) :
    Law Tryz.prog 208 #[(.agg ([(.int .i64 x7.Lsn)] ++ c4 : List Value).toArray), (.int .i64 x3), (.agg #[(.bool x2.Has), (.int .i64 x2.O.Kind), v1, v2]), (.int .i64 x4)] s0 w [] (fun v s1 A1 => ∃ (u0 : List Value), v = (.tuple #[(.agg ([(.int .i64 r.1.Lsn)] ++ u0 : List Value).toArray), (.bool r.2)]) ∧ A1 = [] ∧ ((Kd.arr 4 kTSlot)).K s1 r.1.Slots u0) := by
  unfold impl_SetSlot.f at H
  refine Law.intro Tryz.func208 rfl [(0, (.agg ([(.int .i64 x7.Lsn)] ++ c4 : List Value).toArray)), (1, (.int .i64 x3)), (2, (.agg #[(.bool x2.Has), (.int .i64 x2.O.Kind), v1, v2])), (3, (.int .i64 x4))] (Nat.le_of_ble_eq_true rfl) (enter_lk ⟨rfl, rfl, rfl, rfl, trivial⟩) (fun e a hS hF => ?_)
  have hF : Fr 42 a [(0, (.agg ([(.int .i64 x7.Lsn)] ++ c4 : List Value).toArray)), (1, (.int .i64 x3)), (2, (.agg #[(.bool x2.Has), (.int .i64 x2.O.Kind), v1, v2])), (3, (.int .i64 x4))] := hF
  refine sq ?_
  refine rg ?_
  refine ste hF (e_box (cs := [(.int .i64 x7.Lsn)] ++ c4) hS rfl rfl) (by decide) (fun v w a hR hF => ?_)
  obtain ⟨g1, rfl, hS⟩ := hR
  refine ste hF (e_box (cs := [(.bool x2.Has), (.int .i64 x2.O.Kind), v1, v2]) hS rfl rfl) (by decide) (fun v w a hR hF => ?_)
  obtain ⟨g2, rfl, hS⟩ := hR
  refine ste hF (e_alloc (cs := [(.int .i64 0)] ++ za_46) hS ti_48 rfl) (by decide) (fun v w a hR hF => ?_)
  obtain ⟨g3, rfl, hS⟩ := hR
  refine stp hF (p_assign rfl) (by decide) (fun a hF => ?_)
  refine nilN ?_
  refine xn ?_
  refine sq ?_
  refine rg ?_
  refine stp hF (p_ldb_agg (i := 2) (l := []) (m := [(.int .i64 x7.Lsn)] ++ c4) (r := []) hS rfl rfl ia_48 ti_48 (by simp) (by simp [(show c4.length = 16 from Kd.len _ h1)]) (by simp [(show c4.length = 16 from Kd.len _ h1)])) (by decide) (fun a hF => ?_)
  obtain ⟨x1, hx1, H⟩ := hb H
  refine ste hF (e_callA (fst := []) (vs := [(.agg ([(.int .i64 x7.Lsn)] ++ c4 : List Value).toArray)]) (cap := []) rfl rfl go_163 (St.call (A := []) (B := [pt g3 48 ([(.int .i64 0)] ++ za_46), pt g2 45 ([(.bool x2.Has), (.int .i64 x2.O.Kind), v1, v2]), pt g1 48 ([(.int .i64 x7.Lsn)] ++ c4)]) hS (impl_clonePage.spec k _ _ x7 c4 h1 _ hx1)) rfl) (by decide) (fun v w a hR hF => ?_)
  obtain ⟨s2, A2, hg1, hS, hR⟩ := hR
  obtain ⟨c5, hv1, rfl, h4⟩ := hR; obtain rfl := hv1.symm
  have hS : St e s2 w [pt g3 48 ([(.int .i64 0)] ++ za_46), pt g2 45 ([(.bool x2.Has), (.int .i64 x2.O.Kind), v1, v2]), pt g1 48 ([(.int .i64 x7.Lsn)] ++ c4)] := hS
  refine ste hF (e_alloc (cs := [(.int .i64 0)] ++ za_46) hS ti_48 rfl) (by decide) (fun v w a hR hF => ?_)
  obtain ⟨g4, rfl, hS⟩ := hR
  refine ste0 hF (e_stb (i := 0) (l := []) (m := [(.int .i64 0)] ++ za_46) (r := []) (m' := [(.int .i64 x1.Lsn)] ++ c5) (cs' := [(.int .i64 x1.Lsn)] ++ c5) hS rfl rfl rfl ti_48 (by simp) (by simp [zl_46, (show c5.length = 16 from Kd.len _ h4)]) (by simp [zl_46, (show c5.length = 16 from Kd.len _ h4)]) rfl (by simp [zl_46, (show c5.length = 16 from Kd.len _ h4)]) (one_app (one_cons rfl one_nil) (Kd.one _ h4)) (by simp)) (fun v w a hR hF => ?_)
  have hS : St e s2 w [pt g4 48 ([(.int .i64 x1.Lsn)] ++ c5), pt g3 48 ([(.int .i64 0)] ++ za_46), pt g2 45 ([(.bool x2.Has), (.int .i64 x2.O.Kind), v1, v2]), pt g1 48 ([(.int .i64 x7.Lsn)] ++ c4)] := hR
  refine nilN ?_
  refine xn ?_
  refine sq ?_
  refine sq ?_
  refine rg ?_
  refine stp hF (p_ldb_agg (i := 3) (l := []) (m := [(.int .i64 x7.Lsn)] ++ c4) (r := []) hS rfl rfl ia_48 ti_48 (by simp) (by simp [(show c4.length = 16 from Kd.len _ ((Kd.arr 4 kTSlot).mono hg1 h1))]) (by simp [(show c4.length = 16 from Kd.len _ ((Kd.arr 4 kTSlot).mono hg1 h1))])) (by decide) (fun a hF => ?_)
  obtain ⟨x14, hx2, H⟩ := hb H
  refine ste hF (e_callA (fst := []) (vs := [(.agg ([(.int .i64 x7.Lsn)] ++ c4 : List Value).toArray)]) (cap := []) rfl rfl go_145 (St.call (A := []) (B := [pt g4 48 ([(.int .i64 x1.Lsn)] ++ c5), pt g3 48 ([(.int .i64 0)] ++ za_46), pt g2 45 ([(.bool x2.Has), (.int .i64 x2.O.Kind), v1, v2]), pt g1 48 ([(.int .i64 x7.Lsn)] ++ c4)]) hS (impl_PageOk.spec k _ _ x7 c4 ((Kd.arr 4 kTSlot).mono hg1 h1) _ hx2)) rfl) (by decide) (fun v w a hR hF => ?_)
  obtain ⟨s3, A3, hg2, hS, hR⟩ := hR
  obtain ⟨hv2, rfl⟩ := hR; obtain rfl := hv2.symm
  have hS : St e s3 w [pt g4 48 ([(.int .i64 x1.Lsn)] ++ c5), pt g3 48 ([(.int .i64 0)] ++ za_46), pt g2 45 ([(.bool x2.Has), (.int .i64 x2.O.Kind), v1, v2]), pt g1 48 ([(.int .i64 x7.Lsn)] ++ c4)] := hS
  refine stp hF (p_not rfl) (by decide) (fun a hF => ?_)
  refine stp hF (p_move rfl) (by decide) (fun a hF => ?_)
  obtain ⟨x16, H, HK1⟩ := hb H
  refine cutj 4 (fun a w => ∃ (x11 : Bool) (s4 : HF) , St e s4 w [pt g4 48 ([(.int .i64 x1.Lsn)] ++ c5), pt g3 48 ([(.int .i64 0)] ++ za_46), pt g2 45 ([(.bool x2.Has), (.int .i64 x2.O.Kind), v1, v2]), pt g1 48 ([(.int .i64 x7.Lsn)] ++ c4)] ∧ Fr 42 a [(1, (.int .i64 x3)), (3, (.int .i64 x4)), (4, (.pointer (some ⟨g1, 0, none⟩))), (6, (.pointer (some ⟨g2, 0, none⟩))), (8, (.pointer (some ⟨g3, 0, none⟩))), (10, (.pointer (some ⟨g4, 0, none⟩))), (20, (.bool x11))] ∧ Sub s3 s4 ∧ impl_SetSlot.c3 k x2 x4 x7 x1 x3 x11 = some r) rfl rfl ?_ ?_
  · rcases Bool.eq_false_or_eq_true ((!x14)) with hc1 | hc1
    · replace H := hbt hc1 H
      refine gofD (j := 3) hF rfl rfl (by rw [hc1]; decide) (by decide) (fun a hF => ?_)
      refine gofD (j := 3) hF rfl rfl (by rw [hc1]; decide) (by decide) (fun a hF => ?_)
      refine gofD (j := 3) hF rfl rfl (by rw [hc1]; decide) (by decide) (fun a hF => ?_)
      refine stp hF (p_pickT rfl hc1 rfl) (by decide) (fun a hF => ?_)
      refine nilN ?_
      refine xn ?_
      obtain rfl := hsm H
      exact ⟨true, s3, hS, hF.cut ⟨rfl, rfl, rfl, rfl, rfl, rfl, rfl, trivial⟩, (Sub.refl _), HK1⟩
    · replace H := hbf hc1 H
      refine gonE (j := 3) hF rfl rfl hc1 ?_
      refine stp hF (p_move rfl) (by decide) (fun a hF => ?_)
      obtain ⟨x15, hx3, H⟩ := hb H
      refine gonE (j := 3) hF rfl rfl hc1 ?_
      refine ste hF (e_callA (fst := []) (vs := [(.int .i64 x3), (.int .i64 0), (.int .i64 3)]) (cap := []) rfl rfl go_75 (St.call (A := []) (B := [pt g4 48 ([(.int .i64 x1.Lsn)] ++ c5), pt g3 48 ([(.int .i64 0)] ++ za_46), pt g2 45 ([(.bool x2.Has), (.int .i64 x2.O.Kind), v1, v2]), pt g1 48 ([(.int .i64 x7.Lsn)] ++ c4)]) hS (impl_in.spec k _ _ x3 0 3 _ hx3)) rfl) (by decide) (fun v w a hR hF => ?_)
      obtain ⟨s5, A4, hg3, hS, hR⟩ := hR
      obtain ⟨hv3, rfl⟩ := hR; obtain rfl := hv3.symm
      have hS : St e s5 w [pt g4 48 ([(.int .i64 x1.Lsn)] ++ c5), pt g3 48 ([(.int .i64 0)] ++ za_46), pt g2 45 ([(.bool x2.Has), (.int .i64 x2.O.Kind), v1, v2]), pt g1 48 ([(.int .i64 x7.Lsn)] ++ c4)] := hS
      refine gonE (j := 3) hF rfl rfl hc1 ?_
      refine stp hF (p_not rfl) (by decide) (fun a hF => ?_)
      refine stp hF (p_pickF rfl hc1 rfl) (by decide) (fun a hF => ?_)
      refine nilN ?_
      refine xn ?_
      obtain rfl := hsm H
      exact ⟨(!x15), s5, hS, hF.cut ⟨rfl, rfl, rfl, rfl, rfl, rfl, rfl, trivial⟩, hg3, HK1⟩
  · clear H HK1 hS hF
    rintro a w ⟨x11, s4, hS, hF, hg4, H⟩
    unfold impl_SetSlot.c3 at H
    refine stp hF (p_move rfl) (by decide) (fun a hF => ?_)
    obtain ⟨x13, H, HK2⟩ := hb H
    refine cutj 4 (fun a w => ∃ (x8 : Bool) (s6 : HF) , St e s6 w [pt g4 48 ([(.int .i64 x1.Lsn)] ++ c5), pt g3 48 ([(.int .i64 0)] ++ za_46), pt g2 45 ([(.bool x2.Has), (.int .i64 x2.O.Kind), v1, v2]), pt g1 48 ([(.int .i64 x7.Lsn)] ++ c4)] ∧ Fr 42 a [(1, (.int .i64 x3)), (3, (.int .i64 x4)), (4, (.pointer (some ⟨g1, 0, none⟩))), (6, (.pointer (some ⟨g2, 0, none⟩))), (8, (.pointer (some ⟨g3, 0, none⟩))), (10, (.pointer (some ⟨g4, 0, none⟩))), (25, (.bool x8))] ∧ Sub s4 s6 ∧ impl_SetSlot.c2 k x4 x7 x1 x2 x3 x8 = some r) rfl rfl ?_ ?_
    · rcases Bool.eq_false_or_eq_true (x11) with hc2 | hc2
      · replace H := hbt hc2 H
        refine gofD (j := 8) hF rfl rfl (by rw [hc2]; decide) (by decide) (fun a hF => ?_)
        refine gofD (j := 8) hF rfl rfl (by rw [hc2]; decide) (by decide) (fun a hF => ?_)
        refine gofD (j := 8) hF rfl rfl (by rw [hc2]; decide) (by decide) (fun a hF => ?_)
        refine stp hF (p_pickT rfl hc2 rfl) (by decide) (fun a hF => ?_)
        refine nilN ?_
        refine xn ?_
        obtain rfl := hsm H
        exact ⟨true, s4, hS, hF.cut ⟨rfl, rfl, rfl, rfl, rfl, rfl, rfl, trivial⟩, (Sub.refl _), HK2⟩
      · replace H := hbf hc2 H
        refine gonE (j := 8) hF rfl rfl hc2 ?_
        refine stp hF (p_ldb_agg (i := 2) (l := []) (m := [(.bool x2.Has), (.int .i64 x2.O.Kind), v1, v2]) (r := []) hS rfl rfl ia_45 ti_45 rfl rfl rfl) (by decide) (fun a hF => ?_)
        obtain ⟨x12, hx4, H⟩ := hb H
        refine gonE (j := 8) hF rfl rfl hc2 ?_
        refine ste hF (e_callA (fst := []) (vs := [(.agg #[(.bool x2.Has), (.int .i64 x2.O.Kind), v1, v2])]) (cap := []) rfl rfl go_220 (St.call (A := []) (B := [pt g4 48 ([(.int .i64 x1.Lsn)] ++ c5), pt g3 48 ([(.int .i64 0)] ++ za_46), pt g2 45 ([(.bool x2.Has), (.int .i64 x2.O.Kind), v1, v2]), pt g1 48 ([(.int .i64 x7.Lsn)] ++ c4)]) hS (impl_slotOk.spec k _ _ x2 v1 v2 (((h2.mono hg1).mono hg2).mono hg4) (((h3.mono hg1).mono hg2).mono hg4) _ hx4)) rfl) (by decide) (fun v w a hR hF => ?_)
        obtain ⟨s7, A5, hg5, hS, hR⟩ := hR
        obtain ⟨hv4, rfl⟩ := hR; obtain rfl := hv4.symm
        have hS : St e s7 w [pt g4 48 ([(.int .i64 x1.Lsn)] ++ c5), pt g3 48 ([(.int .i64 0)] ++ za_46), pt g2 45 ([(.bool x2.Has), (.int .i64 x2.O.Kind), v1, v2]), pt g1 48 ([(.int .i64 x7.Lsn)] ++ c4)] := hS
        refine gonE (j := 8) hF rfl rfl hc2 ?_
        refine stp hF (p_not rfl) (by decide) (fun a hF => ?_)
        refine stp hF (p_pickF rfl hc2 rfl) (by decide) (fun a hF => ?_)
        refine nilN ?_
        refine xn ?_
        obtain rfl := hsm H
        exact ⟨(!x12), s7, hS, hF.cut ⟨rfl, rfl, rfl, rfl, rfl, rfl, rfl, trivial⟩, hg5, HK2⟩
    · clear H HK2 hS hF
      rintro a w ⟨x8, s6, hS, hF, hg6, H⟩
      unfold impl_SetSlot.c2 at H
      refine stp hF (p_move rfl) (by decide) (fun a hF => ?_)
      obtain ⟨x10, H, HK3⟩ := hb H
      refine cutj 6 (fun a w => ∃ (x5 : Bool) (s8 : HF) , St e s8 w [pt g4 48 ([(.int .i64 x1.Lsn)] ++ c5), pt g3 48 ([(.int .i64 0)] ++ za_46), pt g2 45 ([(.bool x2.Has), (.int .i64 x2.O.Kind), v1, v2]), pt g1 48 ([(.int .i64 x7.Lsn)] ++ c4)] ∧ Fr 42 a [(1, (.int .i64 x3)), (3, (.int .i64 x4)), (6, (.pointer (some ⟨g2, 0, none⟩))), (8, (.pointer (some ⟨g3, 0, none⟩))), (10, (.pointer (some ⟨g4, 0, none⟩))), (32, (.bool x5))] ∧ Sub s6 s8 ∧ impl_SetSlot.c1 k x1 x2 x3 x4 x5 = some r) rfl rfl ?_ ?_
      · rcases Bool.eq_false_or_eq_true (x8) with hc3 | hc3
        · replace H := hbt hc3 H
          refine gofD (j := 13) hF rfl rfl (by rw [hc3]; decide) (by decide) (fun a hF => ?_)
          refine gofD (j := 13) hF rfl rfl (by rw [hc3]; decide) (by decide) (fun a hF => ?_)
          refine gofD (j := 13) hF rfl rfl (by rw [hc3]; decide) (by decide) (fun a hF => ?_)
          refine gofD (j := 13) hF rfl rfl (by rw [hc3]; decide) (by decide) (fun a hF => ?_)
          refine gofD (j := 13) hF rfl rfl (by rw [hc3]; decide) (by decide) (fun a hF => ?_)
          refine stp hF (p_pickT rfl hc3 rfl) (by decide) (fun a hF => ?_)
          refine nilN ?_
          refine xn ?_
          obtain rfl := hsm H
          exact ⟨true, s6, hS, hF.cut ⟨rfl, rfl, rfl, rfl, rfl, rfl, trivial⟩, (Sub.refl _), HK3⟩
        · replace H := hbf hc3 H
          refine gonE (j := 13) hF rfl rfl hc3 ?_
          refine stp hF (p_move rfl) (by decide) (fun a hF => ?_)
          refine gonE (j := 13) hF rfl rfl hc3 ?_
          refine stp hF (p_fldb (o' := 0) rfl fi_48_0 rfl) (by decide) (fun a hF => ?_)
          refine gonE (j := 13) hF rfl rfl hc3 ?_
          refine stp hF (p_ldb_one (i := 3) hS rfl rfl ia_3 rfl) (by decide) (fun a hF => ?_)
          obtain ⟨x9, hx5, H⟩ := hb H
          refine gonE (j := 13) hF rfl rfl hc3 ?_
          refine ste hF (e_callA (fst := []) (vs := [(.int .i64 x4), (.int .i64 x7.Lsn), (.int .i64 1000000)]) (cap := []) rfl rfl go_75 (St.call (A := []) (B := [pt g4 48 ([(.int .i64 x1.Lsn)] ++ c5), pt g3 48 ([(.int .i64 0)] ++ za_46), pt g2 45 ([(.bool x2.Has), (.int .i64 x2.O.Kind), v1, v2]), pt g1 48 ([(.int .i64 x7.Lsn)] ++ c4)]) hS (impl_in.spec k _ _ x4 x7.Lsn 1000000 _ hx5)) rfl) (by decide) (fun v w a hR hF => ?_)
          obtain ⟨s9, A6, hg7, hS, hR⟩ := hR
          obtain ⟨hv5, rfl⟩ := hR; obtain rfl := hv5.symm
          have hS : St e s9 w [pt g4 48 ([(.int .i64 x1.Lsn)] ++ c5), pt g3 48 ([(.int .i64 0)] ++ za_46), pt g2 45 ([(.bool x2.Has), (.int .i64 x2.O.Kind), v1, v2]), pt g1 48 ([(.int .i64 x7.Lsn)] ++ c4)] := hS
          refine gonE (j := 13) hF rfl rfl hc3 ?_
          refine stp hF (p_not rfl) (by decide) (fun a hF => ?_)
          refine stp hF (p_pickF rfl hc3 rfl) (by decide) (fun a hF => ?_)
          refine nilN ?_
          refine xn ?_
          obtain rfl := hsm H
          exact ⟨(!x9), s9, hS, hF.cut ⟨rfl, rfl, rfl, rfl, rfl, rfl, trivial⟩, hg7, HK3⟩
      · clear H HK3 hS hF
        rintro a w ⟨x5, s8, hS, hF, hg8, H⟩
        unfold impl_SetSlot.c1 at H
        refine nilN ?_
        refine xn ?_
        refine cnd hF rfl (fun hc4 => ?_) (fun hc4 => ?_)
        · replace H := hbt hc4 H
          refine sq ?_
          refine rg ?_
          refine stp hF (p_ldb_agg (i := 0) (l := []) (m := [(.int .i64 x1.Lsn)] ++ c5) (r := []) hS rfl rfl ia_48 ti_48 (by simp) (by simp [(show c5.length = 16 from Kd.len _ ((Kd.arr 4 kTSlot).mono hg8 ((Kd.arr 4 kTSlot).mono hg6 ((Kd.arr 4 kTSlot).mono hg4 ((Kd.arr 4 kTSlot).mono hg2 h4)))))]) (by simp [(show c5.length = 16 from Kd.len _ ((Kd.arr 4 kTSlot).mono hg8 ((Kd.arr 4 kTSlot).mono hg6 ((Kd.arr 4 kTSlot).mono hg4 ((Kd.arr 4 kTSlot).mono hg2 h4)))))])) (by decide) (fun a hF => ?_)
          refine ste0 hF (e_stb (i := 1) (l := []) (m := [(.int .i64 0)] ++ za_46) (r := []) (m' := [(.int .i64 x1.Lsn)] ++ c5) (cs' := [(.int .i64 x1.Lsn)] ++ c5) hS rfl rfl rfl ti_48 (by simp) (by simp [zl_46, (show c5.length = 16 from Kd.len _ ((Kd.arr 4 kTSlot).mono hg8 ((Kd.arr 4 kTSlot).mono hg6 ((Kd.arr 4 kTSlot).mono hg4 ((Kd.arr 4 kTSlot).mono hg2 h4)))))]) (by simp [zl_46, (show c5.length = 16 from Kd.len _ ((Kd.arr 4 kTSlot).mono hg8 ((Kd.arr 4 kTSlot).mono hg6 ((Kd.arr 4 kTSlot).mono hg4 ((Kd.arr 4 kTSlot).mono hg2 h4)))))]) rfl (by simp [zl_46, (show c5.length = 16 from Kd.len _ ((Kd.arr 4 kTSlot).mono hg8 ((Kd.arr 4 kTSlot).mono hg6 ((Kd.arr 4 kTSlot).mono hg4 ((Kd.arr 4 kTSlot).mono hg2 h4)))))]) (one_app (one_cons rfl one_nil) (Kd.one _ ((Kd.arr 4 kTSlot).mono hg8 ((Kd.arr 4 kTSlot).mono hg6 ((Kd.arr 4 kTSlot).mono hg4 ((Kd.arr 4 kTSlot).mono hg2 h4)))))) (by simp)) (fun v w a hR hF => ?_)
          have hS : St e s8 w [pt g3 48 ([(.int .i64 x1.Lsn)] ++ c5), pt g4 48 ([(.int .i64 x1.Lsn)] ++ c5), pt g2 45 ([(.bool x2.Has), (.int .i64 x2.O.Kind), v1, v2]), pt g1 48 ([(.int .i64 x7.Lsn)] ++ c4)] := hR
          refine stp hF (p_assign rfl) (by decide) (fun a hF => ?_)
          refine nilN ?_
          refine xn ?_
          refine rt ?_
          refine xr ?_
          obtain rfl := hsm H
          have h5 : RvOk Tryz.prog _ w (.cell 8 48) _ := rvC (i := 0) hS rfl (show lk [(8, (.pointer (some ⟨g3, 0, none⟩))), (9, (.bool false))] 8 = _ from rfl) ia_48 ti_48 (by simp [(show c5.length = 16 from Kd.len _ ((Kd.arr 4 kTSlot).mono hg8 ((Kd.arr 4 kTSlot).mono hg6 ((Kd.arr 4 kTSlot).mono hg4 ((Kd.arr 4 kTSlot).mono hg2 h4)))))])
          replace hS := hS.sel (is := []) (A' := []) rfl
          exact retc2 hF rfl h5 (rvT rfl) hS ⟨c5, rfl, rfl, ((Kd.arr 4 kTSlot).mono hg8 ((Kd.arr 4 kTSlot).mono hg6 ((Kd.arr 4 kTSlot).mono hg4 ((Kd.arr 4 kTSlot).mono hg2 h4))))⟩
        · replace H := hbf hc4 H
          refine skN ?_
          refine xn ?_
          refine sq ?_
          refine rg ?_
          refine stp hF (p_move rfl) (by decide) (fun a hF => ?_)
          refine stp hF (p_ldb_agg (i := 2) (l := []) (m := [(.bool x2.Has), (.int .i64 x2.O.Kind), v1, v2]) (r := []) hS rfl rfl ia_45 ti_45 rfl rfl rfl) (by decide) (fun a hF => ?_)
          obtain ⟨x6, hx6, H⟩ := hb H
          refine ste hF (e_callA (fst := []) (vs := [(.agg #[(.bool x2.Has), (.int .i64 x2.O.Kind), v1, v2])]) (cap := []) rfl rfl go_71 (St.call (A := []) (B := [pt g4 48 ([(.int .i64 x1.Lsn)] ++ c5), pt g3 48 ([(.int .i64 0)] ++ za_46), pt g2 45 ([(.bool x2.Has), (.int .i64 x2.O.Kind), v1, v2]), pt g1 48 ([(.int .i64 x7.Lsn)] ++ c4)]) hS (impl_cloneSlot.spec k _ _ x2 v1 v2 (((((h2.mono hg1).mono hg2).mono hg4).mono hg6).mono hg8) (((((h3.mono hg1).mono hg2).mono hg4).mono hg6).mono hg8) _ hx6)) rfl) (by decide) (fun v w a hR hF => ?_)
          obtain ⟨s10, A7, hg9, hS, hR⟩ := hR
          obtain ⟨v3, v4, hv6, rfl⟩ := hR; obtain rfl := hv6.symm
          have hS : St e s10 w [Ow (Kd.int .i64) 3 v3 x6.O.Ints, Ow (Kd.int .i64) 3 v4 x6.O.Refs, pt g4 48 ([(.int .i64 x1.Lsn)] ++ c5), pt g3 48 ([(.int .i64 0)] ++ za_46), pt g2 45 ([(.bool x2.Has), (.int .i64 x2.O.Kind), v1, v2]), pt g1 48 ([(.int .i64 x7.Lsn)] ++ c4)] := hS
          refine stp hF (p_fldb (o' := 1) rfl fi_48_1 rfl) (by decide) (fun a hF => ?_)
          obtain ⟨hq1, H⟩ := hck H
          refine stp hF (p_idxb rfl rfl un_46 ti_45 hq1.1 hq1.2) (by decide) (fun a hF => ?_)
          obtain ⟨s11, hg10, h6, hS⟩ := hS.freeze (i := 0) (kd := (Kd.int .i64)) (et := 3) (v := v3) (xs := x6.O.Ints) (B := [Ow (Kd.int .i64) 3 v4 x6.O.Refs, pt g4 48 ([(.int .i64 x1.Lsn)] ++ c5), pt g3 48 ([(.int .i64 0)] ++ za_46), pt g2 45 ([(.bool x2.Has), (.int .i64 x2.O.Kind), v1, v2]), pt g1 48 ([(.int .i64 x7.Lsn)] ++ c4)]) rfl
          obtain ⟨s12, hg11, h7, hS⟩ := hS.freeze (i := 0) (kd := (Kd.int .i64)) (et := 3) (v := v4) (xs := x6.O.Refs) (B := [pt g4 48 ([(.int .i64 x1.Lsn)] ++ c5), pt g3 48 ([(.int .i64 0)] ++ za_46), pt g2 45 ([(.bool x2.Has), (.int .i64 x2.O.Kind), v1, v2]), pt g1 48 ([(.int .i64 x7.Lsn)] ++ c4)]) rfl
          refine ste0 hF (e_stba (n := 0) (l := [(.int .i64 x1.Lsn)]) (cs := c5) (r := []) (base := 1) (y0 := (⟨x6.Has, (⟨x6.O.Kind, x6.O.Ints, x6.O.Refs⟩ : TObj)⟩ : TSlot)) hS rfl (by simp) ((Kd.arr 4 kTSlot).mono hg11 ((Kd.arr 4 kTSlot).mono hg10 ((Kd.arr 4 kTSlot).mono hg9 ((Kd.arr 4 kTSlot).mono hg8 ((Kd.arr 4 kTSlot).mono hg6 ((Kd.arr 4 kTSlot).mono hg4 ((Kd.arr 4 kTSlot).mono hg2 h4))))))) (Lens.idx 4 kTSlot x3 hq1.1 hq1.2) rfl rfl rfl rfl ti_45 rfl (kTSlot_mk (x := (⟨x6.Has, (⟨x6.O.Kind, x6.O.Ints, x6.O.Refs⟩ : TObj)⟩ : TSlot)) (h6.mono hg11) h7)) (fun v w a hR hF => ?_)
          obtain ⟨c6, h8, hS⟩ := hR
          replace h8 : ((Kd.arr 4 kTSlot)).K s12 (wr x1.Slots x3 (⟨x6.Has, (⟨x6.O.Kind, x6.O.Ints, x6.O.Refs⟩ : TObj)⟩ : TSlot)) c6 := h8
          replace hS : St e s12 w [pt g4 48 ([(.int .i64 x1.Lsn)] ++ c6), pt g3 48 ([(.int .i64 0)] ++ za_46), pt g2 45 ([(.bool x2.Has), (.int .i64 x2.O.Kind), v1, v2]), pt g1 48 ([(.int .i64 x7.Lsn)] ++ c4)] := (by simpa using hS)
          refine nilN ?_
          refine xn ?_
          refine sq ?_
          refine rg ?_
          refine stp hF (p_move rfl) (by decide) (fun a hF => ?_)
          refine stp hF (p_fldb (o' := 0) rfl fi_48_0 rfl) (by decide) (fun a hF => ?_)
          refine ste0 hF (e_stb (i := 0) (l := []) (m := [(.int .i64 x1.Lsn)]) (r := c6) (m' := [(.int .i64 x4)]) (cs' := [(.int .i64 x4)] ++ c6) hS rfl rfl rfl ti_3 (by simp) (by simp) (by simp) rfl (by simp) (one_cons rfl one_nil) (by simp)) (fun v w a hR hF => ?_)
          have hS : St e s12 w [pt g4 48 ([(.int .i64 x4)] ++ c6), pt g3 48 ([(.int .i64 0)] ++ za_46), pt g2 45 ([(.bool x2.Has), (.int .i64 x2.O.Kind), v1, v2]), pt g1 48 ([(.int .i64 x7.Lsn)] ++ c4)] := hR
          refine nilN ?_
          refine xn ?_
          refine sq ?_
          refine rg ?_
          refine stp hF (p_ldb_agg (i := 0) (l := []) (m := [(.int .i64 x4)] ++ c6) (r := []) hS rfl rfl ia_48 ti_48 (by simp) (by simp [(show c6.length = 16 from Kd.len _ h8)]) (by simp [(show c6.length = 16 from Kd.len _ h8)])) (by decide) (fun a hF => ?_)
          refine ste0 hF (e_stb (i := 1) (l := []) (m := [(.int .i64 0)] ++ za_46) (r := []) (m' := [(.int .i64 x4)] ++ c6) (cs' := [(.int .i64 x4)] ++ c6) hS rfl rfl rfl ti_48 (by simp) (by simp [zl_46, (show c6.length = 16 from Kd.len _ h8)]) (by simp [zl_46, (show c6.length = 16 from Kd.len _ h8)]) rfl (by simp [zl_46, (show c6.length = 16 from Kd.len _ h8)]) (one_app (one_cons rfl one_nil) (Kd.one _ h8)) (by simp)) (fun v w a hR hF => ?_)
          have hS : St e s12 w [pt g3 48 ([(.int .i64 x4)] ++ c6), pt g4 48 ([(.int .i64 x4)] ++ c6), pt g2 45 ([(.bool x2.Has), (.int .i64 x2.O.Kind), v1, v2]), pt g1 48 ([(.int .i64 x7.Lsn)] ++ c4)] := hR
          refine stp hF (p_assign rfl) (by decide) (fun a hF => ?_)
          refine nilN ?_
          refine xn ?_
          refine rt ?_
          obtain rfl := hsm H
          have h9 : RvOk Tryz.prog _ w (.cell 8 48) _ := rvC (i := 0) hS rfl (show lk [(8, (.pointer (some ⟨g3, 0, none⟩))), (9, (.bool true))] 8 = _ from rfl) ia_48 ti_48 (by simp [(show c6.length = 16 from Kd.len _ h8)])
          replace hS := hS.sel (is := []) (A' := []) rfl
          exact retc2 hF rfl h9 (rvT rfl) hS ⟨c6, rfl, rfl, h8⟩

def impl_Redo.c1 (k : Nat) (x1 : TRec) (x2 : TPage) (x3 : Bool) : Option (TPage × Bool) :=
  (if (x3 || (decide (x1.Lsn ≤ x2.Lsn))) = true then ((impl_clonePage.f k x2).bind fun x4 => (some (x4, false))) else ((impl_SetSlot.f k x2 (x1.Oid.tmod 4) x1.After x1.Lsn).bind fun x5 => (some (x5.1, x5.2))))
def impl_Redo.c2 (k : Nat) (x1 : TRec) (x2 : TPage) (x6 : Bool) : Option (TPage × Bool) :=
  ((if x6 = true then (some true) else ((impl_changes.f k x1).bind fun x7 => (some (!x7))) : Option Bool).bind fun x8 => impl_Redo.c1 k x1 x2 x8)
def impl_Redo.f (k : Nat) (x2 : TPage) (x1 : TRec) : Option (TPage × Bool) :=
  ((impl_PageOk.f k x2).bind fun x9 => ((if (!x9) = true then (some true) else ((impl_RecOk.f k x1).bind fun x10 => (some (!x10))) : Option Bool).bind fun x11 => impl_Redo.c2 k x1 x2 x11))
set_option maxRecDepth 100000 in
set_option maxHeartbeats 4000000 in
theorem impl_Redo.spec (k : Nat) (s0 : HF) (w : World) (x2 : TPage) (x1 : TRec) (c3 : List Value) (v1 : Value) (v2 : Value) (v3 : Value) (v4 : Value) (v5 : Value) (h1 : ((Kd.arr 4 kTSlot)).K s0 x2.Slots c3) (h2 : Sl (Kd.int .i64) s0 v1 x1.Before.O.Ints) (h3 : Sl (Kd.int .i64) s0 v2 x1.Before.O.Refs) (h4 : Sl (Kd.int .i64) s0 v3 x1.After.O.Ints) (h5 : Sl (Kd.int .i64) s0 v4 x1.After.O.Refs) (h6 : Sl kTLive s0 v5 x1.Txs) (r : TPage × Bool) (H : impl_Redo.f k x2 x1 = some r) :
    Law Tryz.prog 124 #[(.agg ([(.int .i64 x2.Lsn)] ++ c3 : List Value).toArray), (.agg #[(.int .i64 x1.Lsn), (.int .i64 x1.Tx), (.int .i64 x1.Prev), (.int .i64 x1.Kind), (.int .i64 x1.Oid), (.bool x1.Before.Has), (.int .i64 x1.Before.O.Kind), v1, v2, (.bool x1.After.Has), (.int .i64 x1.After.O.Kind), v3, v4, (.int .i64 x1.Next), v5])] s0 w [] (fun v s1 A1 => ∃ (u0 : List Value), v = (.tuple #[(.agg ([(.int .i64 r.1.Lsn)] ++ u0 : List Value).toArray), (.bool r.2)]) ∧ A1 = [] ∧ ((Kd.arr 4 kTSlot)).K s1 r.1.Slots u0) := by
  unfold impl_Redo.f at H
  refine Law.intro Tryz.func124 rfl [(0, (.agg ([(.int .i64 x2.Lsn)] ++ c3 : List Value).toArray)), (1, (.agg #[(.int .i64 x1.Lsn), (.int .i64 x1.Tx), (.int .i64 x1.Prev), (.int .i64 x1.Kind), (.int .i64 x1.Oid), (.bool x1.Before.Has), (.int .i64 x1.Before.O.Kind), v1, v2, (.bool x1.After.Has), (.int .i64 x1.After.O.Kind), v3, v4, (.int .i64 x1.Next), v5]))] (Nat.le_of_ble_eq_true rfl) (enter_lk ⟨rfl, rfl, trivial⟩) (fun e a hS hF => ?_)
  have hF : Fr 39 a [(0, (.agg ([(.int .i64 x2.Lsn)] ++ c3 : List Value).toArray)), (1, (.agg #[(.int .i64 x1.Lsn), (.int .i64 x1.Tx), (.int .i64 x1.Prev), (.int .i64 x1.Kind), (.int .i64 x1.Oid), (.bool x1.Before.Has), (.int .i64 x1.Before.O.Kind), v1, v2, (.bool x1.After.Has), (.int .i64 x1.After.O.Kind), v3, v4, (.int .i64 x1.Next), v5]))] := hF
  refine sq ?_
  refine rg ?_
  refine ste hF (e_box (cs := [(.int .i64 x2.Lsn)] ++ c3) hS rfl rfl) (by decide) (fun v w a hR hF => ?_)
  obtain ⟨g1, rfl, hS⟩ := hR
  refine ste hF (e_box (cs := [(.int .i64 x1.Lsn), (.int .i64 x1.Tx), (.int .i64 x1.Prev), (.int .i64 x1.Kind), (.int .i64 x1.Oid), (.bool x1.Before.Has), (.int .i64 x1.Before.O.Kind), v1, v2, (.bool x1.After.Has), (.int .i64 x1.After.O.Kind), v3, v4, (.int .i64 x1.Next), v5]) hS rfl rfl) (by decide) (fun v w a hR hF => ?_)
  obtain ⟨g2, rfl, hS⟩ := hR
  refine ste hF (e_alloc (cs := [(.int .i64 0)] ++ za_46) hS ti_48 rfl) (by decide) (fun v w a hR hF => ?_)
  obtain ⟨g3, rfl, hS⟩ := hR
  refine stp hF (p_assign rfl) (by decide) (fun a hF => ?_)
  refine nilN ?_
  refine xn ?_
  refine sq ?_
  refine sq ?_
  refine rg ?_
  refine stp hF (p_ldb_agg (i := 2) (l := []) (m := [(.int .i64 x2.Lsn)] ++ c3) (r := []) hS rfl rfl ia_48 ti_48 (by simp) (by simp [(show c3.length = 16 from Kd.len _ h1)]) (by simp [(show c3.length = 16 from Kd.len _ h1)])) (by decide) (fun a hF => ?_)
  obtain ⟨x9, hx1, H⟩ := hb H
  refine ste hF (e_callA (fst := []) (vs := [(.agg ([(.int .i64 x2.Lsn)] ++ c3 : List Value).toArray)]) (cap := []) rfl rfl go_145 (St.call (A := []) (B := [pt g3 48 ([(.int .i64 0)] ++ za_46), pt g2 162 ([(.int .i64 x1.Lsn), (.int .i64 x1.Tx), (.int .i64 x1.Prev), (.int .i64 x1.Kind), (.int .i64 x1.Oid), (.bool x1.Before.Has), (.int .i64 x1.Before.O.Kind), v1, v2, (.bool x1.After.Has), (.int .i64 x1.After.O.Kind), v3, v4, (.int .i64 x1.Next), v5]), pt g1 48 ([(.int .i64 x2.Lsn)] ++ c3)]) hS (impl_PageOk.spec k _ _ x2 c3 h1 _ hx1)) rfl) (by decide) (fun v w a hR hF => ?_)
  obtain ⟨s2, A2, hg1, hS, hR⟩ := hR
  obtain ⟨hv1, rfl⟩ := hR; obtain rfl := hv1.symm
  have hS : St e s2 w [pt g3 48 ([(.int .i64 0)] ++ za_46), pt g2 162 ([(.int .i64 x1.Lsn), (.int .i64 x1.Tx), (.int .i64 x1.Prev), (.int .i64 x1.Kind), (.int .i64 x1.Oid), (.bool x1.Before.Has), (.int .i64 x1.Before.O.Kind), v1, v2, (.bool x1.After.Has), (.int .i64 x1.After.O.Kind), v3, v4, (.int .i64 x1.Next), v5]), pt g1 48 ([(.int .i64 x2.Lsn)] ++ c3)] := hS
  refine stp hF (p_not rfl) (by decide) (fun a hF => ?_)
  refine stp hF (p_move rfl) (by decide) (fun a hF => ?_)
  obtain ⟨x11, H, HK1⟩ := hb H
  refine cutj 4 (fun a w => ∃ (x6 : Bool) (s3 : HF) , St e s3 w [pt g3 48 ([(.int .i64 0)] ++ za_46), pt g2 162 ([(.int .i64 x1.Lsn), (.int .i64 x1.Tx), (.int .i64 x1.Prev), (.int .i64 x1.Kind), (.int .i64 x1.Oid), (.bool x1.Before.Has), (.int .i64 x1.Before.O.Kind), v1, v2, (.bool x1.After.Has), (.int .i64 x1.After.O.Kind), v3, v4, (.int .i64 x1.Next), v5]), pt g1 48 ([(.int .i64 x2.Lsn)] ++ c3)] ∧ Fr 39 a [(2, (.pointer (some ⟨g1, 0, none⟩))), (3, (.pointer (some ⟨g2, 0, none⟩))), (4, (.pointer (some ⟨g3, 0, none⟩))), (13, (.bool x6))] ∧ Sub s2 s3 ∧ impl_Redo.c2 k x1 x2 x6 = some r) rfl rfl ?_ ?_
  · rcases Bool.eq_false_or_eq_true ((!x9)) with hc1 | hc1
    · replace H := hbt hc1 H
      refine gofD (j := 3) hF rfl rfl (by rw [hc1]; decide) (by decide) (fun a hF => ?_)
      refine gofD (j := 3) hF rfl rfl (by rw [hc1]; decide) (by decide) (fun a hF => ?_)
      refine gofD (j := 3) hF rfl rfl (by rw [hc1]; decide) (by decide) (fun a hF => ?_)
      refine stp hF (p_pickT rfl hc1 rfl) (by decide) (fun a hF => ?_)
      refine nilN ?_
      refine xn ?_
      obtain rfl := hsm H
      exact ⟨true, s2, hS, hF.cut ⟨rfl, rfl, rfl, rfl, trivial⟩, (Sub.refl _), HK1⟩
    · replace H := hbf hc1 H
      refine gonE (j := 3) hF rfl rfl hc1 ?_
      refine stp hF (p_ldb_agg (i := 1) (l := []) (m := [(.int .i64 x1.Lsn), (.int .i64 x1.Tx), (.int .i64 x1.Prev), (.int .i64 x1.Kind), (.int .i64 x1.Oid), (.bool x1.Before.Has), (.int .i64 x1.Before.O.Kind), v1, v2, (.bool x1.After.Has), (.int .i64 x1.After.O.Kind), v3, v4, (.int .i64 x1.Next), v5]) (r := []) hS rfl rfl ia_162 ti_162 rfl rfl rfl) (by decide) (fun a hF => ?_)
      obtain ⟨x10, hx2, H⟩ := hb H
      refine gonE (j := 3) hF rfl rfl hc1 ?_
      refine ste hF (e_callA (fst := []) (vs := [(.agg #[(.int .i64 x1.Lsn), (.int .i64 x1.Tx), (.int .i64 x1.Prev), (.int .i64 x1.Kind), (.int .i64 x1.Oid), (.bool x1.Before.Has), (.int .i64 x1.Before.O.Kind), v1, v2, (.bool x1.After.Has), (.int .i64 x1.After.O.Kind), v3, v4, (.int .i64 x1.Next), v5])]) (cap := []) rfl rfl go_146 (St.call (A := []) (B := [pt g3 48 ([(.int .i64 0)] ++ za_46), pt g2 162 ([(.int .i64 x1.Lsn), (.int .i64 x1.Tx), (.int .i64 x1.Prev), (.int .i64 x1.Kind), (.int .i64 x1.Oid), (.bool x1.Before.Has), (.int .i64 x1.Before.O.Kind), v1, v2, (.bool x1.After.Has), (.int .i64 x1.After.O.Kind), v3, v4, (.int .i64 x1.Next), v5]), pt g1 48 ([(.int .i64 x2.Lsn)] ++ c3)]) hS (impl_RecOk.spec k _ _ x1 v1 v2 v3 v4 v5 (h2.mono hg1) (h3.mono hg1) (h4.mono hg1) (h5.mono hg1) (h6.mono hg1) _ hx2)) rfl) (by decide) (fun v w a hR hF => ?_)
      obtain ⟨s4, A3, hg2, hS, hR⟩ := hR
      obtain ⟨hv2, rfl⟩ := hR; obtain rfl := hv2.symm
      have hS : St e s4 w [pt g3 48 ([(.int .i64 0)] ++ za_46), pt g2 162 ([(.int .i64 x1.Lsn), (.int .i64 x1.Tx), (.int .i64 x1.Prev), (.int .i64 x1.Kind), (.int .i64 x1.Oid), (.bool x1.Before.Has), (.int .i64 x1.Before.O.Kind), v1, v2, (.bool x1.After.Has), (.int .i64 x1.After.O.Kind), v3, v4, (.int .i64 x1.Next), v5]), pt g1 48 ([(.int .i64 x2.Lsn)] ++ c3)] := hS
      refine gonE (j := 3) hF rfl rfl hc1 ?_
      refine stp hF (p_not rfl) (by decide) (fun a hF => ?_)
      refine stp hF (p_pickF rfl hc1 rfl) (by decide) (fun a hF => ?_)
      refine nilN ?_
      refine xn ?_
      obtain rfl := hsm H
      exact ⟨(!x10), s4, hS, hF.cut ⟨rfl, rfl, rfl, rfl, trivial⟩, hg2, HK1⟩
  · clear H HK1 hS hF
    rintro a w ⟨x6, s3, hS, hF, hg3, H⟩
    unfold impl_Redo.c2 at H
    refine stp hF (p_move rfl) (by decide) (fun a hF => ?_)
    obtain ⟨x8, H, HK2⟩ := hb H
    refine cutj 4 (fun a w => ∃ (x3 : Bool) (s5 : HF) , St e s5 w [pt g3 48 ([(.int .i64 0)] ++ za_46), pt g2 162 ([(.int .i64 x1.Lsn), (.int .i64 x1.Tx), (.int .i64 x1.Prev), (.int .i64 x1.Kind), (.int .i64 x1.Oid), (.bool x1.Before.Has), (.int .i64 x1.Before.O.Kind), v1, v2, (.bool x1.After.Has), (.int .i64 x1.After.O.Kind), v3, v4, (.int .i64 x1.Next), v5]), pt g1 48 ([(.int .i64 x2.Lsn)] ++ c3)] ∧ Fr 39 a [(2, (.pointer (some ⟨g1, 0, none⟩))), (3, (.pointer (some ⟨g2, 0, none⟩))), (4, (.pointer (some ⟨g3, 0, none⟩))), (18, (.bool x3))] ∧ Sub s3 s5 ∧ impl_Redo.c1 k x1 x2 x3 = some r) rfl rfl ?_ ?_
    · rcases Bool.eq_false_or_eq_true (x6) with hc2 | hc2
      · replace H := hbt hc2 H
        refine gofD (j := 8) hF rfl rfl (by rw [hc2]; decide) (by decide) (fun a hF => ?_)
        refine gofD (j := 8) hF rfl rfl (by rw [hc2]; decide) (by decide) (fun a hF => ?_)
        refine gofD (j := 8) hF rfl rfl (by rw [hc2]; decide) (by decide) (fun a hF => ?_)
        refine stp hF (p_pickT rfl hc2 rfl) (by decide) (fun a hF => ?_)
        refine nilN ?_
        refine xn ?_
        obtain rfl := hsm H
        exact ⟨true, s3, hS, hF.cut ⟨rfl, rfl, rfl, rfl, trivial⟩, (Sub.refl _), HK2⟩
      · replace H := hbf hc2 H
        refine gonE (j := 8) hF rfl rfl hc2 ?_
        refine stp hF (p_ldb_agg (i := 1) (l := []) (m := [(.int .i64 x1.Lsn), (.int .i64 x1.Tx), (.int .i64 x1.Prev), (.int .i64 x1.Kind), (.int .i64 x1.Oid), (.bool x1.Before.Has), (.int .i64 x1.Before.O.Kind), v1, v2, (.bool x1.After.Has), (.int .i64 x1.After.O.Kind), v3, v4, (.int .i64 x1.Next), v5]) (r := []) hS rfl rfl ia_162 ti_162 rfl rfl rfl) (by decide) (fun a hF => ?_)
        obtain ⟨x7, hx3, H⟩ := hb H
        refine gonE (j := 8) hF rfl rfl hc2 ?_
        refine ste hF (e_callA (fst := []) (vs := [(.agg #[(.int .i64 x1.Lsn), (.int .i64 x1.Tx), (.int .i64 x1.Prev), (.int .i64 x1.Kind), (.int .i64 x1.Oid), (.bool x1.Before.Has), (.int .i64 x1.Before.O.Kind), v1, v2, (.bool x1.After.Has), (.int .i64 x1.After.O.Kind), v3, v4, (.int .i64 x1.Next), v5])]) (cap := []) rfl rfl go_123 (St.call (A := []) (B := [pt g3 48 ([(.int .i64 0)] ++ za_46), pt g2 162 ([(.int .i64 x1.Lsn), (.int .i64 x1.Tx), (.int .i64 x1.Prev), (.int .i64 x1.Kind), (.int .i64 x1.Oid), (.bool x1.Before.Has), (.int .i64 x1.Before.O.Kind), v1, v2, (.bool x1.After.Has), (.int .i64 x1.After.O.Kind), v3, v4, (.int .i64 x1.Next), v5]), pt g1 48 ([(.int .i64 x2.Lsn)] ++ c3)]) hS (impl_changes.spec k _ _ x1 v1 v2 v3 v4 v5 ((h2.mono hg1).mono hg3) ((h3.mono hg1).mono hg3) ((h4.mono hg1).mono hg3) ((h5.mono hg1).mono hg3) ((h6.mono hg1).mono hg3) _ hx3)) rfl) (by decide) (fun v w a hR hF => ?_)
        obtain ⟨s6, A4, hg4, hS, hR⟩ := hR
        obtain ⟨hv3, rfl⟩ := hR; obtain rfl := hv3.symm
        have hS : St e s6 w [pt g3 48 ([(.int .i64 0)] ++ za_46), pt g2 162 ([(.int .i64 x1.Lsn), (.int .i64 x1.Tx), (.int .i64 x1.Prev), (.int .i64 x1.Kind), (.int .i64 x1.Oid), (.bool x1.Before.Has), (.int .i64 x1.Before.O.Kind), v1, v2, (.bool x1.After.Has), (.int .i64 x1.After.O.Kind), v3, v4, (.int .i64 x1.Next), v5]), pt g1 48 ([(.int .i64 x2.Lsn)] ++ c3)] := hS
        refine gonE (j := 8) hF rfl rfl hc2 ?_
        refine stp hF (p_not rfl) (by decide) (fun a hF => ?_)
        refine stp hF (p_pickF rfl hc2 rfl) (by decide) (fun a hF => ?_)
        refine nilN ?_
        refine xn ?_
        obtain rfl := hsm H
        exact ⟨(!x7), s6, hS, hF.cut ⟨rfl, rfl, rfl, rfl, trivial⟩, hg4, HK2⟩
    · clear H HK2 hS hF
      rintro a w ⟨x3, s5, hS, hF, hg5, H⟩
      unfold impl_Redo.c1 at H
      refine stp hF (p_move rfl) (by decide) (fun a hF => ?_)
      refine cutj 6 (fun a w => St e s5 w [pt g3 48 ([(.int .i64 0)] ++ za_46), pt g2 162 ([(.int .i64 x1.Lsn), (.int .i64 x1.Tx), (.int .i64 x1.Prev), (.int .i64 x1.Kind), (.int .i64 x1.Oid), (.bool x1.Before.Has), (.int .i64 x1.Before.O.Kind), v1, v2, (.bool x1.After.Has), (.int .i64 x1.After.O.Kind), v3, v4, (.int .i64 x1.Next), v5]), pt g1 48 ([(.int .i64 x2.Lsn)] ++ c3)] ∧ Fr 39 a [(2, (.pointer (some ⟨g1, 0, none⟩))), (3, (.pointer (some ⟨g2, 0, none⟩))), (4, (.pointer (some ⟨g3, 0, none⟩))), (25, (.bool (x3 || (decide (x1.Lsn ≤ x2.Lsn)))))]) rfl rfl ?_ ?_
      · rcases Bool.eq_false_or_eq_true (x3) with hc3 | hc3
        · skip
          refine gofD (j := 13) hF rfl rfl (by rw [hc3]; decide) (by decide) (fun a hF => ?_)
          refine gofD (j := 13) hF rfl rfl (by rw [hc3]; decide) (by decide) (fun a hF => ?_)
          refine gofD (j := 13) hF rfl rfl (by rw [hc3]; decide) (by decide) (fun a hF => ?_)
          refine gofD (j := 13) hF rfl rfl (by rw [hc3]; decide) (by decide) (fun a hF => ?_)
          refine gofD (j := 13) hF rfl rfl (by rw [hc3]; decide) (by decide) (fun a hF => ?_)
          refine stp hF (p_orT (decide (x1.Lsn ≤ x2.Lsn)) rfl hc3 rfl) (by decide) (fun a hF => ?_)
          refine nilN ?_
          refine xn ?_
          exact ⟨hS, hF.cut ⟨rfl, rfl, rfl, rfl, trivial⟩⟩
        · skip
          refine gonE (j := 13) hF rfl rfl hc3 ?_
          refine stp hF (p_fldb (o' := 0) rfl fi_48_0 rfl) (by decide) (fun a hF => ?_)
          refine gonE (j := 13) hF rfl rfl hc3 ?_
          refine stp hF (p_ldb_one (i := 2) hS rfl rfl ia_3 rfl) (by decide) (fun a hF => ?_)
          refine gonE (j := 13) hF rfl rfl hc3 ?_
          refine stp hF (p_fldb (o' := 0) rfl fi_162_0 rfl) (by decide) (fun a hF => ?_)
          refine gonE (j := 13) hF rfl rfl hc3 ?_
          refine stp hF (p_ldb_one (i := 1) hS rfl rfl ia_3 rfl) (by decide) (fun a hF => ?_)
          refine gonE (j := 13) hF rfl rfl hc3 ?_
          refine stp hF (p_geq rfl rfl) (by decide) (fun a hF => ?_)
          refine stp hF (p_orF rfl hc3 rfl) (by decide) (fun a hF => ?_)
          refine nilN ?_
          refine xn ?_
          exact ⟨hS, hF.cut ⟨rfl, rfl, rfl, rfl, trivial⟩⟩
      clear hS hF
      rintro a w ⟨hS, hF⟩
      refine nilN ?_
      refine xn ?_
      refine cnd hF rfl (fun hc4 => ?_) (fun hc4 => ?_)
      · replace H := hbt hc4 H
        refine sq ?_
        refine rg ?_
        refine stp hF (p_ldb_agg (i := 2) (l := []) (m := [(.int .i64 x2.Lsn)] ++ c3) (r := []) hS rfl rfl ia_48 ti_48 (by simp) (by simp [(show c3.length = 16 from Kd.len _ ((Kd.arr 4 kTSlot).mono hg5 ((Kd.arr 4 kTSlot).mono hg3 ((Kd.arr 4 kTSlot).mono hg1 h1))))]) (by simp [(show c3.length = 16 from Kd.len _ ((Kd.arr 4 kTSlot).mono hg5 ((Kd.arr 4 kTSlot).mono hg3 ((Kd.arr 4 kTSlot).mono hg1 h1))))])) (by decide) (fun a hF => ?_)
        obtain ⟨x4, hx4, H⟩ := hb H
        refine ste hF (e_callA (fst := []) (vs := [(.agg ([(.int .i64 x2.Lsn)] ++ c3 : List Value).toArray)]) (cap := []) rfl rfl go_163 (St.call (A := []) (B := [pt g3 48 ([(.int .i64 0)] ++ za_46), pt g2 162 ([(.int .i64 x1.Lsn), (.int .i64 x1.Tx), (.int .i64 x1.Prev), (.int .i64 x1.Kind), (.int .i64 x1.Oid), (.bool x1.Before.Has), (.int .i64 x1.Before.O.Kind), v1, v2, (.bool x1.After.Has), (.int .i64 x1.After.O.Kind), v3, v4, (.int .i64 x1.Next), v5]), pt g1 48 ([(.int .i64 x2.Lsn)] ++ c3)]) hS (impl_clonePage.spec k _ _ x2 c3 ((Kd.arr 4 kTSlot).mono hg5 ((Kd.arr 4 kTSlot).mono hg3 ((Kd.arr 4 kTSlot).mono hg1 h1))) _ hx4)) rfl) (by decide) (fun v w a hR hF => ?_)
        obtain ⟨s7, A5, hg6, hS, hR⟩ := hR
        obtain ⟨c4, hv4, rfl, h7⟩ := hR; obtain rfl := hv4.symm
        have hS : St e s7 w [pt g3 48 ([(.int .i64 0)] ++ za_46), pt g2 162 ([(.int .i64 x1.Lsn), (.int .i64 x1.Tx), (.int .i64 x1.Prev), (.int .i64 x1.Kind), (.int .i64 x1.Oid), (.bool x1.Before.Has), (.int .i64 x1.Before.O.Kind), v1, v2, (.bool x1.After.Has), (.int .i64 x1.After.O.Kind), v3, v4, (.int .i64 x1.Next), v5]), pt g1 48 ([(.int .i64 x2.Lsn)] ++ c3)] := hS
        refine ste0 hF (e_stb (i := 0) (l := []) (m := [(.int .i64 0)] ++ za_46) (r := []) (m' := [(.int .i64 x4.Lsn)] ++ c4) (cs' := [(.int .i64 x4.Lsn)] ++ c4) hS rfl rfl rfl ti_48 (by simp) (by simp [zl_46, (show c4.length = 16 from Kd.len _ h7)]) (by simp [zl_46, (show c4.length = 16 from Kd.len _ h7)]) rfl (by simp [zl_46, (show c4.length = 16 from Kd.len _ h7)]) (one_app (one_cons rfl one_nil) (Kd.one _ h7)) (by simp)) (fun v w a hR hF => ?_)
        have hS : St e s7 w [pt g3 48 ([(.int .i64 x4.Lsn)] ++ c4), pt g2 162 ([(.int .i64 x1.Lsn), (.int .i64 x1.Tx), (.int .i64 x1.Prev), (.int .i64 x1.Kind), (.int .i64 x1.Oid), (.bool x1.Before.Has), (.int .i64 x1.Before.O.Kind), v1, v2, (.bool x1.After.Has), (.int .i64 x1.After.O.Kind), v3, v4, (.int .i64 x1.Next), v5]), pt g1 48 ([(.int .i64 x2.Lsn)] ++ c3)] := hR
        refine stp hF (p_assign rfl) (by decide) (fun a hF => ?_)
        refine nilN ?_
        refine xn ?_
        refine rt ?_
        refine xr ?_
        obtain rfl := hsm H
        have h8 : RvOk Tryz.prog _ w (.cell 4 48) _ := rvC (i := 0) hS rfl (show lk [(4, (.pointer (some ⟨g3, 0, none⟩))), (5, (.bool false))] 4 = _ from rfl) ia_48 ti_48 (by simp [(show c4.length = 16 from Kd.len _ h7)])
        replace hS := hS.sel (is := []) (A' := []) rfl
        exact retc2 hF rfl h8 (rvT rfl) hS ⟨c4, rfl, rfl, h7⟩
      · replace H := hbf hc4 H
        refine skN ?_
        refine xn ?_
        refine sq ?_
        refine rg ?_
        refine stp hF (p_ldb_agg (i := 2) (l := []) (m := [(.int .i64 x2.Lsn)] ++ c3) (r := []) hS rfl rfl ia_48 ti_48 (by simp) (by simp [(show c3.length = 16 from Kd.len _ ((Kd.arr 4 kTSlot).mono hg5 ((Kd.arr 4 kTSlot).mono hg3 ((Kd.arr 4 kTSlot).mono hg1 h1))))]) (by simp [(show c3.length = 16 from Kd.len _ ((Kd.arr 4 kTSlot).mono hg5 ((Kd.arr 4 kTSlot).mono hg3 ((Kd.arr 4 kTSlot).mono hg1 h1))))])) (by decide) (fun a hF => ?_)
        refine stp hF (p_fldb (o' := 4) rfl fi_162_4 rfl) (by decide) (fun a hF => ?_)
        refine stp hF (p_ldb_one (i := 1) hS rfl rfl ia_3 rfl) (by decide) (fun a hF => ?_)
        refine stp hF (p_rem (c := x1.Oid.tmod 4) rfl rfl (by decide) rfl) (by decide) (fun a hF => ?_)
        refine stp hF (p_fldb (o' := 9) rfl fi_162_6 rfl) (by decide) (fun a hF => ?_)
        refine stp hF (p_ldb_agg (i := 1) (l := [(.int .i64 x1.Lsn), (.int .i64 x1.Tx), (.int .i64 x1.Prev), (.int .i64 x1.Kind), (.int .i64 x1.Oid), (.bool x1.Before.Has), (.int .i64 x1.Before.O.Kind), v1, v2]) (m := [(.bool x1.After.Has), (.int .i64 x1.After.O.Kind), v3, v4]) (r := [(.int .i64 x1.Next), v5]) hS rfl rfl ia_45 ti_45 rfl rfl rfl) (by decide) (fun a hF => ?_)
        refine stp hF (p_fldb (o' := 0) rfl fi_162_0 rfl) (by decide) (fun a hF => ?_)
        refine stp hF (p_ldb_one (i := 1) hS rfl rfl ia_3 rfl) (by decide) (fun a hF => ?_)
        obtain ⟨x5, hx5, H⟩ := hb H
        refine ste hF (e_callA (fst := []) (vs := [(.agg ([(.int .i64 x2.Lsn)] ++ c3 : List Value).toArray), (.int .i64 (x1.Oid.tmod 4)), (.agg #[(.bool x1.After.Has), (.int .i64 x1.After.O.Kind), v3, v4]), (.int .i64 x1.Lsn)]) (cap := []) rfl rfl go_208 (St.call (A := []) (B := [pt g3 48 ([(.int .i64 0)] ++ za_46), pt g2 162 ([(.int .i64 x1.Lsn), (.int .i64 x1.Tx), (.int .i64 x1.Prev), (.int .i64 x1.Kind), (.int .i64 x1.Oid), (.bool x1.Before.Has), (.int .i64 x1.Before.O.Kind), v1, v2, (.bool x1.After.Has), (.int .i64 x1.After.O.Kind), v3, v4, (.int .i64 x1.Next), v5]), pt g1 48 ([(.int .i64 x2.Lsn)] ++ c3)]) hS (impl_SetSlot.spec k _ _ x2 (x1.Oid.tmod 4) x1.After x1.Lsn c3 v3 v4 ((Kd.arr 4 kTSlot).mono hg5 ((Kd.arr 4 kTSlot).mono hg3 ((Kd.arr 4 kTSlot).mono hg1 h1))) (((h4.mono hg1).mono hg3).mono hg5) (((h5.mono hg1).mono hg3).mono hg5) _ hx5)) rfl) (by decide) (fun v w a hR hF => ?_)
        obtain ⟨s8, A6, hg7, hS, hR⟩ := hR
        obtain ⟨c5, hv5, rfl, h9⟩ := hR; obtain rfl := hv5.symm
        have hS : St e s8 w [pt g3 48 ([(.int .i64 0)] ++ za_46), pt g2 162 ([(.int .i64 x1.Lsn), (.int .i64 x1.Tx), (.int .i64 x1.Prev), (.int .i64 x1.Kind), (.int .i64 x1.Oid), (.bool x1.Before.Has), (.int .i64 x1.Before.O.Kind), v1, v2, (.bool x1.After.Has), (.int .i64 x1.After.O.Kind), v3, v4, (.int .i64 x1.Next), v5]), pt g1 48 ([(.int .i64 x2.Lsn)] ++ c3)] := hS
        refine stp hF (p_extract rfl rfl) (by decide) (fun a hF => ?_)
        refine stp hF (p_extract rfl rfl) (by decide) (fun a hF => ?_)
        refine ste0 hF (e_stb (i := 0) (l := []) (m := [(.int .i64 0)] ++ za_46) (r := []) (m' := [(.int .i64 x5.1.Lsn)] ++ c5) (cs' := [(.int .i64 x5.1.Lsn)] ++ c5) hS rfl rfl rfl ti_48 (by simp) (by simp [zl_46, (show c5.length = 16 from Kd.len _ h9)]) (by simp [zl_46, (show c5.length = 16 from Kd.len _ h9)]) rfl (by simp [zl_46, (show c5.length = 16 from Kd.len _ h9)]) (one_app (one_cons rfl one_nil) (Kd.one _ h9)) (by simp)) (fun v w a hR hF => ?_)
        have hS : St e s8 w [pt g3 48 ([(.int .i64 x5.1.Lsn)] ++ c5), pt g2 162 ([(.int .i64 x1.Lsn), (.int .i64 x1.Tx), (.int .i64 x1.Prev), (.int .i64 x1.Kind), (.int .i64 x1.Oid), (.bool x1.Before.Has), (.int .i64 x1.Before.O.Kind), v1, v2, (.bool x1.After.Has), (.int .i64 x1.After.O.Kind), v3, v4, (.int .i64 x1.Next), v5]), pt g1 48 ([(.int .i64 x2.Lsn)] ++ c3)] := hR
        refine stp hF (p_assign rfl) (by decide) (fun a hF => ?_)
        refine nilN ?_
        refine xn ?_
        refine rt ?_
        obtain rfl := hsm H
        have h10 : RvOk Tryz.prog _ w (.cell 4 48) _ := rvC (i := 0) hS rfl (show lk [(4, (.pointer (some ⟨g3, 0, none⟩))), (5, (.bool x5.2))] 4 = _ from rfl) ia_48 ti_48 (by simp [(show c5.length = 16 from Kd.len _ h9)])
        replace hS := hS.sel (is := []) (A' := []) rfl
        exact retc2 hF rfl h10 (rvT rfl) hS ⟨c5, rfl, rfl, h9⟩
end Go.Proofs.YthficejgcbadjaaGreat
