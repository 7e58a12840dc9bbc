/- Structures, kinds and closed facts of this place's translation. Conditions: none. -/
import Derived.Test.YtocknibhajihmaaKwR
import Derived.Test.YtocknibhajihmaaProg
import Derived.KernelRfl
set_option linter.unusedVariables false
namespace Go.Proofs.Ytocknibhajihmaa
open Go.Kw
structure TObj where
  Kind : Int
  Ints : (List Int)
  Refs : (List Int)
instance : Inhabited TObj := ⟨⟨default, default, default⟩⟩
def kTObj : Kd TObj := Kd.iso (Kd.pair (Kd.int .i64) (Kd.pair (Kd.slice (Kd.int .i64)) (Kd.pair (Kd.slice (Kd.int .i64)) Kd.unit))) fun x => (x.Kind, (x.Ints, (x.Refs, ())))
def kTObj_iso : Lens kTObj (Kd.pair (Kd.int .i64) (Kd.pair (Kd.slice (Kd.int .i64)) (Kd.pair (Kd.slice (Kd.int .i64)) Kd.unit))) := Lens.iso _ _ (fun p => ⟨p.1, p.2.1, p.2.2.1⟩) (fun _ => rfl)
def kTObj_Kind : Lens kTObj (Kd.int .i64) := kTObj_iso.comp (Lens.fst _ _)
def kTObj_Ints : Lens kTObj (Kd.slice (Kd.int .i64)) := kTObj_iso.comp ((Lens.snd _ _).comp (Lens.fst _ _))
def kTObj_Refs : Lens kTObj (Kd.slice (Kd.int .i64)) := kTObj_iso.comp ((Lens.snd _ _).comp ((Lens.snd _ _).comp (Lens.fst _ _)))
theorem kTObj_open {s : HF} {x : TObj} {cs : List Value} (h : kTObj.K s x cs) : ∃ (v1 : Value) (v2 : Value), cs = [.int .i64 x.Kind, v1, v2] ∧ Sl (Kd.int .i64) s v1 x.Ints ∧ Sl (Kd.int .i64) s v2 x.Refs := by
  obtain ⟨_, _, rfl, rfl, ⟨_, _, rfl, ⟨v1, rfl, g1⟩, ⟨_, _, rfl, ⟨v2, rfl, g2⟩, rfl⟩⟩⟩ := h
  exact ⟨v1, v2, rfl, g1, g2⟩
theorem kTObj_mk {s : HF} {x : TObj} {v1 : Value} (g1 : Sl (Kd.int .i64) s v1 x.Ints) {v2 : Value} (g2 : Sl (Kd.int .i64) s v2 x.Refs) : kTObj.K s x ([.int .i64 x.Kind, v1, v2]) := ⟨_, _, rfl, rfl, ⟨_, _, rfl, ⟨_, rfl, g1⟩, ⟨_, _, rfl, ⟨_, rfl, g2⟩, rfl⟩⟩⟩

structure TSlot where
  Has : Bool
  O : TObj
instance : Inhabited TSlot := ⟨⟨default, default⟩⟩
def kTSlot : Kd TSlot := Kd.iso (Kd.pair Kd.bool (Kd.pair kTObj Kd.unit)) fun x => (x.Has, (x.O, ()))
def kTSlot_iso : Lens kTSlot (Kd.pair Kd.bool (Kd.pair kTObj Kd.unit)) := Lens.iso _ _ (fun p => ⟨p.1, p.2.1⟩) (fun _ => rfl)
def kTSlot_Has : Lens kTSlot Kd.bool := kTSlot_iso.comp (Lens.fst _ _)
def kTSlot_O : Lens kTSlot kTObj := kTSlot_iso.comp ((Lens.snd _ _).comp (Lens.fst _ _))
theorem kTSlot_open {s : HF} {x : TSlot} {cs : List Value} (h : kTSlot.K s x cs) : ∃ (v2 : Value) (v3 : Value), cs = [.bool x.Has, .int .i64 x.O.Kind, v2, v3] ∧ Sl (Kd.int .i64) s v2 x.O.Ints ∧ Sl (Kd.int .i64) s v3 x.O.Refs := by
  obtain ⟨_, _, rfl, rfl, ⟨_, _, rfl, g1, rfl⟩⟩ := h
  obtain ⟨u1_1, u1_2, rfl, g1_1, g1_2⟩ := kTObj_open g1
  exact ⟨u1_1, u1_2, rfl, g1_1, g1_2⟩
theorem kTSlot_mk {s : HF} {x : TSlot} {v2 : Value} (g2 : Sl (Kd.int .i64) s v2 x.O.Ints) {v3 : Value} (g3 : Sl (Kd.int .i64) s v3 x.O.Refs) : kTSlot.K s x ([.bool x.Has, .int .i64 x.O.Kind, v2, v3]) := ⟨_, _, rfl, rfl, ⟨_, _, rfl, (kTObj_mk (x := x.O) g2 g3), rfl⟩⟩

structure TLive where
  Tx : Int
  Last : Int
  Aborts : Bool
instance : Inhabited TLive := ⟨⟨default, default, default⟩⟩
def kTLive : Kd TLive := Kd.iso (Kd.pair (Kd.int .i64) (Kd.pair (Kd.int .i64) (Kd.pair Kd.bool Kd.unit))) fun x => (x.Tx, (x.Last, (x.Aborts, ())))
theorem kTLive_flat : kTLive.Flat := flat_iso (flat_pair flat_int (flat_pair flat_int (flat_pair flat_bool flat_unit)))
def kTLive_iso : Lens kTLive (Kd.pair (Kd.int .i64) (Kd.pair (Kd.int .i64) (Kd.pair Kd.bool Kd.unit))) := Lens.iso _ _ (fun p => ⟨p.1, p.2.1, p.2.2.1⟩) (fun _ => rfl)
def kTLive_Tx : Lens kTLive (Kd.int .i64) := kTLive_iso.comp (Lens.fst _ _)
def kTLive_Last : Lens kTLive (Kd.int .i64) := kTLive_iso.comp ((Lens.snd _ _).comp (Lens.fst _ _))
def kTLive_Aborts : Lens kTLive Kd.bool := kTLive_iso.comp ((Lens.snd _ _).comp ((Lens.snd _ _).comp (Lens.fst _ _)))
theorem kTLive_open {s : HF} {x : TLive} {cs : List Value} (h : kTLive.K s x cs) : cs = [.int .i64 x.Tx, .int .i64 x.Last, .bool x.Aborts] := by
  obtain ⟨_, _, rfl, rfl, ⟨_, _, rfl, rfl, ⟨_, _, rfl, rfl, rfl⟩⟩⟩ := h
  exact rfl
theorem kTLive_mk {s : HF} {x : TLive}  : kTLive.K s x ([.int .i64 x.Tx, .int .i64 x.Last, .bool x.Aborts]) := ⟨_, _, rfl, rfl, ⟨_, _, rfl, rfl, ⟨_, _, rfl, rfl, rfl⟩⟩⟩

structure TRec where
  Lsn : Int
  Tx : Int
  Prev : Int
  Kind : Int
  Oid : Int
  Before : TSlot
  After : TSlot
  Next : Int
  Txs : (List TLive)
instance : Inhabited TRec := ⟨⟨default, default, default, default, default, default, default, default, default⟩⟩
def kTRec : Kd TRec := Kd.iso (Kd.pair (Kd.int .i64) (Kd.pair (Kd.int .i64) (Kd.pair (Kd.int .i64) (Kd.pair (Kd.int .i64) (Kd.pair (Kd.int .i64) (Kd.pair kTSlot (Kd.pair kTSlot (Kd.pair (Kd.int .i64) (Kd.pair (Kd.slice kTLive) Kd.unit))))))))) fun x => (x.Lsn, (x.Tx, (x.Prev, (x.Kind, (x.Oid, (x.Before, (x.After, (x.Next, (x.Txs, ())))))))))
def kTRec_iso : Lens kTRec (Kd.pair (Kd.int .i64) (Kd.pair (Kd.int .i64) (Kd.pair (Kd.int .i64) (Kd.pair (Kd.int .i64) (Kd.pair (Kd.int .i64) (Kd.pair kTSlot (Kd.pair kTSlot (Kd.pair (Kd.int .i64) (Kd.pair (Kd.slice kTLive) Kd.unit))))))))) := Lens.iso _ _ (fun p => ⟨p.1, p.2.1, p.2.2.1, p.2.2.2.1, p.2.2.2.2.1, p.2.2.2.2.2.1, p.2.2.2.2.2.2.1, p.2.2.2.2.2.2.2.1, p.2.2.2.2.2.2.2.2.1⟩) (fun _ => rfl)
def kTRec_Lsn : Lens kTRec (Kd.int .i64) := kTRec_iso.comp (Lens.fst _ _)
def kTRec_Tx : Lens kTRec (Kd.int .i64) := kTRec_iso.comp ((Lens.snd _ _).comp (Lens.fst _ _))
def kTRec_Prev : Lens kTRec (Kd.int .i64) := kTRec_iso.comp ((Lens.snd _ _).comp ((Lens.snd _ _).comp (Lens.fst _ _)))
def kTRec_Kind : Lens kTRec (Kd.int .i64) := kTRec_iso.comp ((Lens.snd _ _).comp ((Lens.snd _ _).comp ((Lens.snd _ _).comp (Lens.fst _ _))))
def kTRec_Oid : Lens kTRec (Kd.int .i64) := kTRec_iso.comp ((Lens.snd _ _).comp ((Lens.snd _ _).comp ((Lens.snd _ _).comp ((Lens.snd _ _).comp (Lens.fst _ _)))))
def kTRec_Before : Lens kTRec kTSlot := kTRec_iso.comp ((Lens.snd _ _).comp ((Lens.snd _ _).comp ((Lens.snd _ _).comp ((Lens.snd _ _).comp ((Lens.snd _ _).comp (Lens.fst _ _))))))
def kTRec_After : Lens kTRec kTSlot := kTRec_iso.comp ((Lens.snd _ _).comp ((Lens.snd _ _).comp ((Lens.snd _ _).comp ((Lens.snd _ _).comp ((Lens.snd _ _).comp ((Lens.snd _ _).comp (Lens.fst _ _)))))))
def kTRec_Next : Lens kTRec (Kd.int .i64) := kTRec_iso.comp ((Lens.snd _ _).comp ((Lens.snd _ _).comp ((Lens.snd _ _).comp ((Lens.snd _ _).comp ((Lens.snd _ _).comp ((Lens.snd _ _).comp ((Lens.snd _ _).comp (Lens.fst _ _))))))))
def kTRec_Txs : Lens kTRec (Kd.slice kTLive) := kTRec_iso.comp ((Lens.snd _ _).comp ((Lens.snd _ _).comp ((Lens.snd _ _).comp ((Lens.snd _ _).comp ((Lens.snd _ _).comp ((Lens.snd _ _).comp ((Lens.snd _ _).comp ((Lens.snd _ _).comp (Lens.fst _ _)))))))))
theorem kTRec_open {s : HF} {x : TRec} {cs : List Value} (h : kTRec.K s x cs) : ∃ (v7 : Value) (v8 : Value) (v11 : Value) (v12 : Value) (v14 : Value), cs = [.int .i64 x.Lsn, .int .i64 x.Tx, .int .i64 x.Prev, .int .i64 x.Kind, .int .i64 x.Oid, .bool x.Before.Has, .int .i64 x.Before.O.Kind, v7, v8, .bool x.After.Has, .int .i64 x.After.O.Kind, v11, v12, .int .i64 x.Next, v14] ∧ Sl (Kd.int .i64) s v7 x.Before.O.Ints ∧ Sl (Kd.int .i64) s v8 x.Before.O.Refs ∧ Sl (Kd.int .i64) s v11 x.After.O.Ints ∧ Sl (Kd.int .i64) s v12 x.After.O.Refs ∧ Sl kTLive s v14 x.Txs := by
  obtain ⟨_, _, rfl, rfl, ⟨_, _, rfl, rfl, ⟨_, _, rfl, rfl, ⟨_, _, rfl, rfl, ⟨_, _, rfl, rfl, ⟨_, _, rfl, g5, ⟨_, _, rfl, g6, ⟨_, _, rfl, rfl, ⟨_, _, rfl, ⟨v8, rfl, g8⟩, rfl⟩⟩⟩⟩⟩⟩⟩⟩⟩ := h
  obtain ⟨u5_2, u5_3, rfl, g5_2, g5_3⟩ := kTSlot_open g5
  obtain ⟨u6_2, u6_3, rfl, g6_2, g6_3⟩ := kTSlot_open g6
  exact ⟨u5_2, u5_3, u6_2, u6_3, v8, rfl, g5_2, g5_3, g6_2, g6_3, g8⟩
theorem kTRec_mk {s : HF} {x : TRec} {v7 : Value} (g7 : Sl (Kd.int .i64) s v7 x.Before.O.Ints) {v8 : Value} (g8 : Sl (Kd.int .i64) s v8 x.Before.O.Refs) {v11 : Value} (g11 : Sl (Kd.int .i64) s v11 x.After.O.Ints) {v12 : Value} (g12 : Sl (Kd.int .i64) s v12 x.After.O.Refs) {v14 : Value} (g14 : Sl kTLive s v14 x.Txs) : kTRec.K s x ([.int .i64 x.Lsn, .int .i64 x.Tx, .int .i64 x.Prev, .int .i64 x.Kind, .int .i64 x.Oid, .bool x.Before.Has, .int .i64 x.Before.O.Kind, v7, v8, .bool x.After.Has, .int .i64 x.After.O.Kind, v11, v12, .int .i64 x.Next, v14]) := ⟨_, _, rfl, rfl, ⟨_, _, rfl, rfl, ⟨_, _, rfl, rfl, ⟨_, _, rfl, rfl, ⟨_, _, rfl, rfl, ⟨_, _, rfl, (kTSlot_mk (x := x.Before) g7 g8), ⟨_, _, rfl, (kTSlot_mk (x := x.After) g11 g12), ⟨_, _, rfl, rfl, ⟨_, _, rfl, ⟨_, rfl, g14⟩, rfl⟩⟩⟩⟩⟩⟩⟩⟩⟩

structure Tl1Cur where
  b : (List Int)
  i : Int
  h_ : Int
instance : Inhabited Tl1Cur := ⟨⟨default, default, default⟩⟩
def kTl1Cur : Kd Tl1Cur := Kd.iso (Kd.pair (Kd.slice (Kd.int .u8)) (Kd.pair (Kd.int .i64) (Kd.pair (Kd.int .i64) Kd.unit))) fun x => (x.b, (x.i, (x.h_, ())))
def kTl1Cur_iso : Lens kTl1Cur (Kd.pair (Kd.slice (Kd.int .u8)) (Kd.pair (Kd.int .i64) (Kd.pair (Kd.int .i64) Kd.unit))) := Lens.iso _ _ (fun p => ⟨p.1, p.2.1, p.2.2.1⟩) (fun _ => rfl)
def kTl1Cur_b : Lens kTl1Cur (Kd.slice (Kd.int .u8)) := kTl1Cur_iso.comp (Lens.fst _ _)
def kTl1Cur_i : Lens kTl1Cur (Kd.int .i64) := kTl1Cur_iso.comp ((Lens.snd _ _).comp (Lens.fst _ _))
def kTl1Cur_h_ : Lens kTl1Cur (Kd.int .i64) := kTl1Cur_iso.comp ((Lens.snd _ _).comp ((Lens.snd _ _).comp (Lens.fst _ _)))
theorem kTl1Cur_open {s : HF} {x : Tl1Cur} {cs : List Value} (h : kTl1Cur.K s x cs) : ∃ (v0 : Value), cs = [v0, .int .i64 x.i, .int .i64 x.h_] ∧ Sl (Kd.int .u8) s v0 x.b := by
  obtain ⟨_, _, rfl, ⟨v0, rfl, g0⟩, ⟨_, _, rfl, rfl, ⟨_, _, rfl, rfl, rfl⟩⟩⟩ := h
  exact ⟨v0, rfl, g0⟩
theorem kTl1Cur_mk {s : HF} {x : Tl1Cur} {v0 : Value} (g0 : Sl (Kd.int .u8) s v0 x.b) : kTl1Cur.K s x ([v0, .int .i64 x.i, .int .i64 x.h_]) := ⟨_, _, rfl, ⟨_, rfl, g0⟩, ⟨_, _, rfl, rfl, ⟨_, _, rfl, rfl, rfl⟩⟩⟩

structure Treader where
  b : (List Int)
  at_ : Int
  bad : Bool
instance : Inhabited Treader := ⟨⟨default, default, default⟩⟩
def kTreader : Kd Treader := Kd.iso (Kd.pair (Kd.slice (Kd.int .u8)) (Kd.pair (Kd.int .i64) (Kd.pair Kd.bool Kd.unit))) fun x => (x.b, (x.at_, (x.bad, ())))
def kTreader_iso : Lens kTreader (Kd.pair (Kd.slice (Kd.int .u8)) (Kd.pair (Kd.int .i64) (Kd.pair Kd.bool Kd.unit))) := Lens.iso _ _ (fun p => ⟨p.1, p.2.1, p.2.2.1⟩) (fun _ => rfl)
def kTreader_b : Lens kTreader (Kd.slice (Kd.int .u8)) := kTreader_iso.comp (Lens.fst _ _)
def kTreader_at_ : Lens kTreader (Kd.int .i64) := kTreader_iso.comp ((Lens.snd _ _).comp (Lens.fst _ _))
def kTreader_bad : Lens kTreader Kd.bool := kTreader_iso.comp ((Lens.snd _ _).comp ((Lens.snd _ _).comp (Lens.fst _ _)))
theorem kTreader_open {s : HF} {x : Treader} {cs : List Value} (h : kTreader.K s x cs) : ∃ (v0 : Value), cs = [v0, .int .i64 x.at_, .bool x.bad] ∧ Sl (Kd.int .u8) s v0 x.b := by
  obtain ⟨_, _, rfl, ⟨v0, rfl, g0⟩, ⟨_, _, rfl, rfl, ⟨_, _, rfl, rfl, rfl⟩⟩⟩ := h
  exact ⟨v0, rfl, g0⟩
theorem kTreader_mk {s : HF} {x : Treader} {v0 : Value} (g0 : Sl (Kd.int .u8) s v0 x.b) : kTreader.K s x ([v0, .int .i64 x.at_, .bool x.bad]) := ⟨_, _, rfl, ⟨_, rfl, g0⟩, ⟨_, _, rfl, rfl, ⟨_, _, rfl, rfl, rfl⟩⟩⟩

structure TPage where
  Lsn : Int
  Slots : (List TSlot)
instance : Inhabited TPage := ⟨⟨default, default⟩⟩
def kTPage : Kd TPage := Kd.iso (Kd.pair (Kd.int .i64) (Kd.pair (Kd.arr 4 kTSlot) Kd.unit)) fun x => (x.Lsn, (x.Slots, ()))
def kTPage_iso : Lens kTPage (Kd.pair (Kd.int .i64) (Kd.pair (Kd.arr 4 kTSlot) Kd.unit)) := Lens.iso _ _ (fun p => ⟨p.1, p.2.1⟩) (fun _ => rfl)
def kTPage_Lsn : Lens kTPage (Kd.int .i64) := kTPage_iso.comp (Lens.fst _ _)
def kTPage_Slots : Lens kTPage (Kd.arr 4 kTSlot) := kTPage_iso.comp ((Lens.snd _ _).comp (Lens.fst _ _))
theorem kTPage_open {s : HF} {x : TPage} {cs : List Value} (h : kTPage.K s x cs) : ∃ (c1 : List Value), cs = [.int .i64 x.Lsn] ++ c1 ∧ ((Kd.arr 4 kTSlot)).K s x.Slots c1 := by
  obtain ⟨_, _, rfl, rfl, ⟨_, _, rfl, g1, rfl⟩⟩ := h
  exact ⟨_, by simp, g1⟩
theorem kTPage_mk {s : HF} {x : TPage} {c1 : List Value} (g1 : ((Kd.arr 4 kTSlot)).K s x.Slots c1) : kTPage.K s x ([.int .i64 x.Lsn] ++ c1) := by
  have h : ∃ cs, kTPage.K s x cs ∧ cs = [.int .i64 x.Lsn] ++ c1 := ⟨_, ⟨_, _, rfl, rfl, ⟨_, _, rfl, g1, rfl⟩⟩, by simp⟩
  obtain ⟨cs, h, rfl⟩ := h
  exact h

theorem mixed : Try.prog.follows .mixedOrders = true := by kernel_rfl
theorem un_24 : Try.prog.underlying 24 = some (.slice 5) := by kernel_rfl
theorem go_20 : Go1 Try.prog 20 := Go1.of (by kernel_rfl)
theorem ti_5 : TyI Try.prog 5 1 1 (some (.int .u8 0)) := TyI.of (by kernel_rfl)
theorem ia_5 : IsAgg Try.prog 5 false := IsAgg.of (by kernel_rfl)
theorem un_5 : Try.prog.underlying 5 = some (.int .u8) := by kernel_rfl
theorem un_3 : Try.prog.underlying 3 = some (.int .i64) := by kernel_rfl
theorem go_73 : Go1 Try.prog 73 := Go1.of (by kernel_rfl)
theorem ti_3 : TyI Try.prog 3 1 8 (some (.int .i64 0)) := TyI.of (by kernel_rfl)
theorem fi_139_2 : FldI Try.prog 139 2 2 := FldI.of (ft := 3) (by kernel_rfl) ti_3
theorem ia_3 : IsAgg Try.prog 3 false := IsAgg.of (by kernel_rfl)
theorem fi_139_1 : FldI Try.prog 139 1 1 := FldI.of (ft := 3) (by kernel_rfl) ti_3
theorem ti_24 : TyI Try.prog 24 1 24 (some (.slice none 0 0)) := TyI.of (by kernel_rfl)
theorem fi_139_0 : FldI Try.prog 139 0 0 := FldI.of (ft := 24) (by kernel_rfl) ti_24
theorem ia_24 : IsAgg Try.prog 24 false := IsAgg.of (by kernel_rfl)
theorem go_172 : Go1 Try.prog 172 := Go1.of (by kernel_rfl)
theorem go_145 : Go1 Try.prog 145 := Go1.of (by kernel_rfl)
theorem un_34 : Try.prog.underlying 34 = some (.slice 3) := by kernel_rfl
theorem go_92 : Go1 Try.prog 92 := Go1.of (by kernel_rfl)
theorem ti_38 : TyI Try.prog 38 4 64 (some (.agg #[.bool false, .int .i64 0, .slice none 0 0, .slice none 0 0])) := TyI.of (by kernel_rfl)
theorem go_91 : Go1 Try.prog 91 := Go1.of (by kernel_rfl)
theorem ia_38 : IsAgg Try.prog 38 true := IsAgg.of (by kernel_rfl)
theorem ti_36 : TyI Try.prog 36 3 56 (some (.agg #[.int .i64 0, .slice none 0 0, .slice none 0 0])) := TyI.of (by kernel_rfl)
theorem ti_34 : TyI Try.prog 34 1 24 (some (.slice none 0 0)) := TyI.of (by kernel_rfl)
theorem fi_36_1 : FldI Try.prog 36 1 1 := FldI.of (ft := 34) (by kernel_rfl) ti_34
theorem ia_34 : IsAgg Try.prog 34 false := IsAgg.of (by kernel_rfl)
theorem fi_36_2 : FldI Try.prog 36 2 2 := FldI.of (ft := 34) (by kernel_rfl) ti_34
theorem ia_36 : IsAgg Try.prog 36 true := IsAgg.of (by kernel_rfl)
theorem go_147 : Go1 Try.prog 147 := Go1.of (by kernel_rfl)
theorem go_90 : Go1 Try.prog 90 := Go1.of (by kernel_rfl)
theorem go_79 : Go1 Try.prog 79 := Go1.of (by kernel_rfl)
theorem ti_4 : TyI Try.prog 4 1 1 (some (.bool false)) := TyI.of (by kernel_rfl)
theorem fi_38_0 : FldI Try.prog 38 0 0 := FldI.of (ft := 4) (by kernel_rfl) ti_4
theorem ia_4 : IsAgg Try.prog 4 false := IsAgg.of (by kernel_rfl)
theorem fi_38_1 : FldI Try.prog 38 1 1 := FldI.of (ft := 36) (by kernel_rfl) ti_36
theorem fi_36_0 : FldI Try.prog 36 0 0 := FldI.of (ft := 3) (by kernel_rfl) ti_3
theorem go_140 : Go1 Try.prog 140 := Go1.of (by kernel_rfl)
theorem go_169 : Go1 Try.prog 169 := Go1.of (by kernel_rfl)
theorem go_177 : Go1 Try.prog 177 := Go1.of (by kernel_rfl)
theorem go_168 : Go1 Try.prog 168 := Go1.of (by kernel_rfl)
theorem go_170 : Go1 Try.prog 170 := Go1.of (by kernel_rfl)
theorem go_141 : Go1 Try.prog 141 := Go1.of (by kernel_rfl)
theorem go_84 : Go1 Try.prog 84 := Go1.of (by kernel_rfl)
theorem go_68 : Go1 Try.prog 68 := Go1.of (by kernel_rfl)
theorem go_164 : Go1 Try.prog 164 := Go1.of (by kernel_rfl)
theorem go_133 : Go1 Try.prog 133 := Go1.of (by kernel_rfl)
theorem go_69 : Go1 Try.prog 69 := Go1.of (by kernel_rfl)
theorem go_75 : Go1 Try.prog 75 := Go1.of (by kernel_rfl)
theorem go_127 : Go1 Try.prog 127 := Go1.of (by kernel_rfl)
theorem go_76 : Go1 Try.prog 76 := Go1.of (by kernel_rfl)
theorem un_4 : Try.prog.underlying 4 = some (.bool) := by kernel_rfl
theorem go_152 : Go1 Try.prog 152 := Go1.of (by kernel_rfl)
theorem go_100 : Go1 Try.prog 100 := Go1.of (by kernel_rfl)
theorem fi_99_0 : FldI Try.prog 99 0 0 := FldI.of (ft := 24) (by kernel_rfl) ti_24
theorem fi_99_1 : FldI Try.prog 99 1 1 := FldI.of (ft := 3) (by kernel_rfl) ti_3
theorem go_149 : Go1 Try.prog 149 := Go1.of (by kernel_rfl)
theorem go_142 : Go1 Try.prog 142 := Go1.of (by kernel_rfl)
theorem fi_99_2 : FldI Try.prog 99 2 2 := FldI.of (ft := 4) (by kernel_rfl) ti_4
theorem go_85 : Go1 Try.prog 85 := Go1.of (by kernel_rfl)
theorem go_87 : Go1 Try.prog 87 := Go1.of (by kernel_rfl)
theorem go_171 : Go1 Try.prog 171 := Go1.of (by kernel_rfl)
theorem go_88 : Go1 Try.prog 88 := Go1.of (by kernel_rfl)
theorem go_143 : Go1 Try.prog 143 := Go1.of (by kernel_rfl)
theorem go_86 : Go1 Try.prog 86 := Go1.of (by kernel_rfl)
def za_47 : List Value := (List.replicate 4 ([(.bool false), (.int .i64 0), (.slice none 0 0), (.slice none 0 0)])).flatten
def zv_47 : List TSlot := List.replicate 4 (⟨false, (⟨0, [], []⟩ : TObj)⟩ : TSlot)
theorem zk_47 (s : HF) : (Kd.arr 4 kTSlot).K s zv_47 za_47 := arr_rep (by exact (kTSlot_mk (x := (⟨false, (⟨0, [], []⟩ : TObj)⟩ : TSlot)) (Sl.nil _ _ _ _) (Sl.nil _ _ _ _))) 4
theorem zl_47 : za_47.length = 16 := by kernel_rfl
theorem ti_49 : TyI Try.prog 49 17 264 (some (.agg #[.int .i64 0, .bool false, .int .i64 0, .slice none 0 0, .slice none 0 0, .bool false, .int .i64 0, .slice none 0 0, .slice none 0 0, .bool false, .int .i64 0, .slice none 0 0, .slice none 0 0, .bool false, .int .i64 0, .slice none 0 0, .slice none 0 0])) := TyI.of (by kernel_rfl)
theorem ti_47 : TyI Try.prog 47 16 256 (some (.agg #[.bool false, .int .i64 0, .slice none 0 0, .slice none 0 0, .bool false, .int .i64 0, .slice none 0 0, .slice none 0 0, .bool false, .int .i64 0, .slice none 0 0, .slice none 0 0, .bool false, .int .i64 0, .slice none 0 0, .slice none 0 0])) := TyI.of (by kernel_rfl)
theorem fi_49_1 : FldI Try.prog 49 1 1 := FldI.of (ft := 47) (by kernel_rfl) ti_47
theorem un_47 : Try.prog.underlying 47 = some (.array 4 38) := by kernel_rfl
theorem ia_49 : IsAgg Try.prog 49 true := IsAgg.of (by kernel_rfl)
theorem go_144 : Go1 Try.prog 144 := Go1.of (by kernel_rfl)
theorem fi_49_0 : FldI Try.prog 49 0 0 := FldI.of (ft := 3) (by kernel_rfl) ti_3
theorem go_151 : Go1 Try.prog 151 := Go1.of (by kernel_rfl)
theorem go_146 : Go1 Try.prog 146 := Go1.of (by kernel_rfl)
theorem go_89 : Go1 Try.prog 89 := Go1.of (by kernel_rfl)
theorem go_27 : Go1 Try.prog 27 := Go1.of (by kernel_rfl)
theorem un_26 : Try.prog.underlying 26 = some (.slice 38) := by kernel_rfl
theorem go_96 : Go1 Try.prog 96 := Go1.of (by kernel_rfl)
theorem go_101 : Go1 Try.prog 101 := Go1.of (by kernel_rfl)
theorem go_95 : Go1 Try.prog 95 := Go1.of (by kernel_rfl)
theorem go_31 : Go1 Try.prog 31 := Go1.of (by kernel_rfl)
theorem ia_47 : IsAgg Try.prog 47 true := IsAgg.of (by kernel_rfl)
theorem un_171 : Try.prog.underlying 171 = some (.int .u32) := by kernel_rfl
theorem go_166 : Go1 Try.prog 166 := Go1.of (by kernel_rfl)
theorem go_135 : Go1 Try.prog 135 := Go1.of (by kernel_rfl)
theorem un_157 : Try.prog.underlying 157 = some (.slice 24) := by kernel_rfl
theorem go_165 : Go1 Try.prog 165 := Go1.of (by kernel_rfl)
theorem go_134 : Go1 Try.prog 134 := Go1.of (by kernel_rfl)
theorem go_70 : Go1 Try.prog 70 := Go1.of (by kernel_rfl)
theorem go_28 : Go1 Try.prog 28 := Go1.of (by kernel_rfl)
theorem go_29 : Go1 Try.prog 29 := Go1.of (by kernel_rfl)
theorem go_173 : Go1 Try.prog 173 := Go1.of (by kernel_rfl)
theorem go_148 : Go1 Try.prog 148 := Go1.of (by kernel_rfl)
theorem go_94 : Go1 Try.prog 94 := Go1.of (by kernel_rfl)
theorem go_93 : Go1 Try.prog 93 := Go1.of (by kernel_rfl)
theorem go_30 : Go1 Try.prog 30 := Go1.of (by kernel_rfl)
theorem go_118 : Go1 Try.prog 118 := Go1.of (by kernel_rfl)
theorem go_150 : Go1 Try.prog 150 := Go1.of (by kernel_rfl)
theorem go_97 : Go1 Try.prog 97 := Go1.of (by kernel_rfl)
theorem go_32 : Go1 Try.prog 32 := Go1.of (by kernel_rfl)
theorem go_35 : Go1 Try.prog 35 := Go1.of (by kernel_rfl)
theorem go_33 : Go1 Try.prog 33 := Go1.of (by kernel_rfl)
theorem go_99 : Go1 Try.prog 99 := Go1.of (by kernel_rfl)
theorem go_98 : Go1 Try.prog 98 := Go1.of (by kernel_rfl)
theorem go_34 : Go1 Try.prog 34 := Go1.of (by kernel_rfl)
theorem go_102 : Go1 Try.prog 102 := Go1.of (by kernel_rfl)
theorem go_36 : Go1 Try.prog 36 := Go1.of (by kernel_rfl)
end Go.Proofs.Ytocknibhajihmaa
