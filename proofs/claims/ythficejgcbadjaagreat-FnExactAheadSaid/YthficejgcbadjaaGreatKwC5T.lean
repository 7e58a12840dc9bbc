/- Structures, kinds and closed facts of this place's translation. Conditions: none. -/
import Derived.Test.YthficejgcbadjaaGreatKwR
import Derived.Test.YthficejgcbadjaaGreatProg
import Derived.KernelRfl
set_option linter.unusedVariables false
namespace Go.Proofs.YthficejgcbadjaaGreat
open Go.Kw
structure TObj where
  Kind : Int
  Ints : (List Int)
  Refs : (List Int)
instance : Inhabited TObj := ⟨⟨default, default, default⟩⟩
def kTObj : Kd TObj := Kd.iso (Kd.pair (Kd.int .i64) (Kd.pair (Kd.slice (Kd.int .i64)) (Kd.pair (Kd.slice (Kd.int .i64)) Kd.unit))) fun x => (x.Kind, (x.Ints, (x.Refs, ())))
def kTObj_iso : Lens kTObj (Kd.pair (Kd.int .i64) (Kd.pair (Kd.slice (Kd.int .i64)) (Kd.pair (Kd.slice (Kd.int .i64)) Kd.unit))) := Lens.iso _ _ (fun p => ⟨p.1, p.2.1, p.2.2.1⟩) (fun _ => rfl)
def kTObj_Kind : Lens kTObj (Kd.int .i64) := kTObj_iso.comp (Lens.fst _ _)
def kTObj_Ints : Lens kTObj (Kd.slice (Kd.int .i64)) := kTObj_iso.comp ((Lens.snd _ _).comp (Lens.fst _ _))
def kTObj_Refs : Lens kTObj (Kd.slice (Kd.int .i64)) := kTObj_iso.comp ((Lens.snd _ _).comp ((Lens.snd _ _).comp (Lens.fst _ _)))
theorem kTObj_open {s : HF} {x : TObj} {cs : List Value} (h : kTObj.K s x cs) : ∃ (v1 : Value) (v2 : Value), cs = [.int .i64 x.Kind, v1, v2] ∧ Sl (Kd.int .i64) s v1 x.Ints ∧ Sl (Kd.int .i64) s v2 x.Refs := by
  obtain ⟨_, _, rfl, rfl, ⟨_, _, rfl, ⟨v1, rfl, g1⟩, ⟨_, _, rfl, ⟨v2, rfl, g2⟩, rfl⟩⟩⟩ := h
  exact ⟨v1, v2, rfl, g1, g2⟩
theorem kTObj_mk {s : HF} {x : TObj} {v1 : Value} (g1 : Sl (Kd.int .i64) s v1 x.Ints) {v2 : Value} (g2 : Sl (Kd.int .i64) s v2 x.Refs) : kTObj.K s x ([.int .i64 x.Kind, v1, v2]) := ⟨_, _, rfl, rfl, ⟨_, _, rfl, ⟨_, rfl, g1⟩, ⟨_, _, rfl, ⟨_, rfl, g2⟩, rfl⟩⟩⟩

structure TSlot where
  Has : Bool
  O : TObj
instance : Inhabited TSlot := ⟨⟨default, default⟩⟩
def kTSlot : Kd TSlot := Kd.iso (Kd.pair Kd.bool (Kd.pair kTObj Kd.unit)) fun x => (x.Has, (x.O, ()))
def kTSlot_iso : Lens kTSlot (Kd.pair Kd.bool (Kd.pair kTObj Kd.unit)) := Lens.iso _ _ (fun p => ⟨p.1, p.2.1⟩) (fun _ => rfl)
def kTSlot_Has : Lens kTSlot Kd.bool := kTSlot_iso.comp (Lens.fst _ _)
def kTSlot_O : Lens kTSlot kTObj := kTSlot_iso.comp ((Lens.snd _ _).comp (Lens.fst _ _))
theorem kTSlot_open {s : HF} {x : TSlot} {cs : List Value} (h : kTSlot.K s x cs) : ∃ (v2 : Value) (v3 : Value), cs = [.bool x.Has, .int .i64 x.O.Kind, v2, v3] ∧ Sl (Kd.int .i64) s v2 x.O.Ints ∧ Sl (Kd.int .i64) s v3 x.O.Refs := by
  obtain ⟨_, _, rfl, rfl, ⟨_, _, rfl, g1, rfl⟩⟩ := h
  obtain ⟨u1_1, u1_2, rfl, g1_1, g1_2⟩ := kTObj_open g1
  exact ⟨u1_1, u1_2, rfl, g1_1, g1_2⟩
theorem kTSlot_mk {s : HF} {x : TSlot} {v2 : Value} (g2 : Sl (Kd.int .i64) s v2 x.O.Ints) {v3 : Value} (g3 : Sl (Kd.int .i64) s v3 x.O.Refs) : kTSlot.K s x ([.bool x.Has, .int .i64 x.O.Kind, v2, v3]) := ⟨_, _, rfl, rfl, ⟨_, _, rfl, (kTObj_mk (x := x.O) g2 g3), rfl⟩⟩

structure TPage where
  Lsn : Int
  Slots : (List TSlot)
instance : Inhabited TPage := ⟨⟨default, default⟩⟩
def kTPage : Kd TPage := Kd.iso (Kd.pair (Kd.int .i64) (Kd.pair (Kd.arr 4 kTSlot) Kd.unit)) fun x => (x.Lsn, (x.Slots, ()))
def kTPage_iso : Lens kTPage (Kd.pair (Kd.int .i64) (Kd.pair (Kd.arr 4 kTSlot) Kd.unit)) := Lens.iso _ _ (fun p => ⟨p.1, p.2.1⟩) (fun _ => rfl)
def kTPage_Lsn : Lens kTPage (Kd.int .i64) := kTPage_iso.comp (Lens.fst _ _)
def kTPage_Slots : Lens kTPage (Kd.arr 4 kTSlot) := kTPage_iso.comp ((Lens.snd _ _).comp (Lens.fst _ _))
theorem kTPage_open {s : HF} {x : TPage} {cs : List Value} (h : kTPage.K s x cs) : ∃ (c1 : List Value), cs = [.int .i64 x.Lsn] ++ c1 ∧ ((Kd.arr 4 kTSlot)).K s x.Slots c1 := by
  obtain ⟨_, _, rfl, rfl, ⟨_, _, rfl, g1, rfl⟩⟩ := h
  exact ⟨_, by simp, g1⟩
theorem kTPage_mk {s : HF} {x : TPage} {c1 : List Value} (g1 : ((Kd.arr 4 kTSlot)).K s x.Slots c1) : kTPage.K s x ([.int .i64 x.Lsn] ++ c1) := by
  have h : ∃ cs, kTPage.K s x cs ∧ cs = [.int .i64 x.Lsn] ++ c1 := ⟨_, ⟨_, _, rfl, rfl, ⟨_, _, rfl, g1, rfl⟩⟩, by simp⟩
  obtain ⟨cs, h, rfl⟩ := h
  exact h

structure TSeat where
  No : Int
  P : TPage
  Dirty : Bool
  Hot : Bool
instance : Inhabited TSeat := ⟨⟨default, default, default, default⟩⟩
def kTSeat : Kd TSeat := Kd.iso (Kd.pair (Kd.int .i64) (Kd.pair kTPage (Kd.pair Kd.bool (Kd.pair Kd.bool Kd.unit)))) fun x => (x.No, (x.P, (x.Dirty, (x.Hot, ()))))
def kTSeat_iso : Lens kTSeat (Kd.pair (Kd.int .i64) (Kd.pair kTPage (Kd.pair Kd.bool (Kd.pair Kd.bool Kd.unit)))) := Lens.iso _ _ (fun p => ⟨p.1, p.2.1, p.2.2.1, p.2.2.2.1⟩) (fun _ => rfl)
def kTSeat_No : Lens kTSeat (Kd.int .i64) := kTSeat_iso.comp (Lens.fst _ _)
def kTSeat_P : Lens kTSeat kTPage := kTSeat_iso.comp ((Lens.snd _ _).comp (Lens.fst _ _))
def kTSeat_Dirty : Lens kTSeat Kd.bool := kTSeat_iso.comp ((Lens.snd _ _).comp ((Lens.snd _ _).comp (Lens.fst _ _)))
def kTSeat_Hot : Lens kTSeat Kd.bool := kTSeat_iso.comp ((Lens.snd _ _).comp ((Lens.snd _ _).comp ((Lens.snd _ _).comp (Lens.fst _ _))))
theorem kTSeat_open {s : HF} {x : TSeat} {cs : List Value} (h : kTSeat.K s x cs) : ∃ (c2 : List Value), cs = [.int .i64 x.No, .int .i64 x.P.Lsn] ++ c2 ++ [.bool x.Dirty, .bool x.Hot] ∧ ((Kd.arr 4 kTSlot)).K s x.P.Slots c2 := by
  obtain ⟨_, _, rfl, rfl, ⟨_, _, rfl, g1, ⟨_, _, rfl, rfl, ⟨_, _, rfl, rfl, rfl⟩⟩⟩⟩ := h
  obtain ⟨u1_1, rfl, g1_1⟩ := kTPage_open g1
  exact ⟨u1_1, by simp, g1_1⟩
theorem kTSeat_mk {s : HF} {x : TSeat} {c2 : List Value} (g2 : ((Kd.arr 4 kTSlot)).K s x.P.Slots c2) : kTSeat.K s x ([.int .i64 x.No, .int .i64 x.P.Lsn] ++ c2 ++ [.bool x.Dirty, .bool x.Hot]) := by
  have h : ∃ cs, kTSeat.K s x cs ∧ cs = [.int .i64 x.No, .int .i64 x.P.Lsn] ++ c2 ++ [.bool x.Dirty, .bool x.Hot] := ⟨_, ⟨_, _, rfl, rfl, ⟨_, _, rfl, (kTPage_mk (x := x.P) g2), ⟨_, _, rfl, rfl, ⟨_, _, rfl, rfl, rfl⟩⟩⟩⟩, by simp⟩
  obtain ⟨cs, h, rfl⟩ := h
  exact h

structure TPool where
  Seats : (List TSeat)
  Hand : Int
instance : Inhabited TPool := ⟨⟨default, default⟩⟩
def kTPool : Kd TPool := Kd.iso (Kd.pair (Kd.slice kTSeat) (Kd.pair (Kd.int .i64) Kd.unit)) fun x => (x.Seats, (x.Hand, ()))
def kTPool_iso : Lens kTPool (Kd.pair (Kd.slice kTSeat) (Kd.pair (Kd.int .i64) Kd.unit)) := Lens.iso _ _ (fun p => ⟨p.1, p.2.1⟩) (fun _ => rfl)
def kTPool_Seats : Lens kTPool (Kd.slice kTSeat) := kTPool_iso.comp (Lens.fst _ _)
def kTPool_Hand : Lens kTPool (Kd.int .i64) := kTPool_iso.comp ((Lens.snd _ _).comp (Lens.fst _ _))
theorem kTPool_open {s : HF} {x : TPool} {cs : List Value} (h : kTPool.K s x cs) : ∃ (v0 : Value), cs = [v0, .int .i64 x.Hand] ∧ Sl kTSeat s v0 x.Seats := by
  obtain ⟨_, _, rfl, ⟨v0, rfl, g0⟩, ⟨_, _, rfl, rfl, rfl⟩⟩ := h
  exact ⟨v0, rfl, g0⟩
theorem kTPool_mk {s : HF} {x : TPool} {v0 : Value} (g0 : Sl kTSeat s v0 x.Seats) : kTPool.K s x ([v0, .int .i64 x.Hand]) := ⟨_, _, rfl, ⟨_, rfl, g0⟩, ⟨_, _, rfl, rfl, rfl⟩⟩

structure TLive where
  Tx : Int
  Last : Int
  Aborts : Bool
instance : Inhabited TLive := ⟨⟨default, default, default⟩⟩
def kTLive : Kd TLive := Kd.iso (Kd.pair (Kd.int .i64) (Kd.pair (Kd.int .i64) (Kd.pair Kd.bool Kd.unit))) fun x => (x.Tx, (x.Last, (x.Aborts, ())))
theorem kTLive_flat : kTLive.Flat := flat_iso (flat_pair flat_int (flat_pair flat_int (flat_pair flat_bool flat_unit)))
def kTLive_iso : Lens kTLive (Kd.pair (Kd.int .i64) (Kd.pair (Kd.int .i64) (Kd.pair Kd.bool Kd.unit))) := Lens.iso _ _ (fun p => ⟨p.1, p.2.1, p.2.2.1⟩) (fun _ => rfl)
def kTLive_Tx : Lens kTLive (Kd.int .i64) := kTLive_iso.comp (Lens.fst _ _)
def kTLive_Last : Lens kTLive (Kd.int .i64) := kTLive_iso.comp ((Lens.snd _ _).comp (Lens.fst _ _))
def kTLive_Aborts : Lens kTLive Kd.bool := kTLive_iso.comp ((Lens.snd _ _).comp ((Lens.snd _ _).comp (Lens.fst _ _)))
theorem kTLive_open {s : HF} {x : TLive} {cs : List Value} (h : kTLive.K s x cs) : cs = [.int .i64 x.Tx, .int .i64 x.Last, .bool x.Aborts] := by
  obtain ⟨_, _, rfl, rfl, ⟨_, _, rfl, rfl, ⟨_, _, rfl, rfl, rfl⟩⟩⟩ := h
  exact rfl
theorem kTLive_mk {s : HF} {x : TLive}  : kTLive.K s x ([.int .i64 x.Tx, .int .i64 x.Last, .bool x.Aborts]) := ⟨_, _, rfl, rfl, ⟨_, _, rfl, rfl, ⟨_, _, rfl, rfl, rfl⟩⟩⟩

structure TRec where
  Lsn : Int
  Tx : Int
  Prev : Int
  Kind : Int
  Oid : Int
  Before : TSlot
  After : TSlot
  Next : Int
  Txs : (List TLive)
instance : Inhabited TRec := ⟨⟨default, default, default, default, default, default, default, default, default⟩⟩
def kTRec : Kd TRec := Kd.iso (Kd.pair (Kd.int .i64) (Kd.pair (Kd.int .i64) (Kd.pair (Kd.int .i64) (Kd.pair (Kd.int .i64) (Kd.pair (Kd.int .i64) (Kd.pair kTSlot (Kd.pair kTSlot (Kd.pair (Kd.int .i64) (Kd.pair (Kd.slice kTLive) Kd.unit))))))))) fun x => (x.Lsn, (x.Tx, (x.Prev, (x.Kind, (x.Oid, (x.Before, (x.After, (x.Next, (x.Txs, ())))))))))
def kTRec_iso : Lens kTRec (Kd.pair (Kd.int .i64) (Kd.pair (Kd.int .i64) (Kd.pair (Kd.int .i64) (Kd.pair (Kd.int .i64) (Kd.pair (Kd.int .i64) (Kd.pair kTSlot (Kd.pair kTSlot (Kd.pair (Kd.int .i64) (Kd.pair (Kd.slice kTLive) Kd.unit))))))))) := Lens.iso _ _ (fun p => ⟨p.1, p.2.1, p.2.2.1, p.2.2.2.1, p.2.2.2.2.1, p.2.2.2.2.2.1, p.2.2.2.2.2.2.1, p.2.2.2.2.2.2.2.1, p.2.2.2.2.2.2.2.2.1⟩) (fun _ => rfl)
def kTRec_Lsn : Lens kTRec (Kd.int .i64) := kTRec_iso.comp (Lens.fst _ _)
def kTRec_Tx : Lens kTRec (Kd.int .i64) := kTRec_iso.comp ((Lens.snd _ _).comp (Lens.fst _ _))
def kTRec_Prev : Lens kTRec (Kd.int .i64) := kTRec_iso.comp ((Lens.snd _ _).comp ((Lens.snd _ _).comp (Lens.fst _ _)))
def kTRec_Kind : Lens kTRec (Kd.int .i64) := kTRec_iso.comp ((Lens.snd _ _).comp ((Lens.snd _ _).comp ((Lens.snd _ _).comp (Lens.fst _ _))))
def kTRec_Oid : Lens kTRec (Kd.int .i64) := kTRec_iso.comp ((Lens.snd _ _).comp ((Lens.snd _ _).comp ((Lens.snd _ _).comp ((Lens.snd _ _).comp (Lens.fst _ _)))))
def kTRec_Before : Lens kTRec kTSlot := kTRec_iso.comp ((Lens.snd _ _).comp ((Lens.snd _ _).comp ((Lens.snd _ _).comp ((Lens.snd _ _).comp ((Lens.snd _ _).comp (Lens.fst _ _))))))
def kTRec_After : Lens kTRec kTSlot := kTRec_iso.comp ((Lens.snd _ _).comp ((Lens.snd _ _).comp ((Lens.snd _ _).comp ((Lens.snd _ _).comp ((Lens.snd _ _).comp ((Lens.snd _ _).comp (Lens.fst _ _)))))))
def kTRec_Next : Lens kTRec (Kd.int .i64) := kTRec_iso.comp ((Lens.snd _ _).comp ((Lens.snd _ _).comp ((Lens.snd _ _).comp ((Lens.snd _ _).comp ((Lens.snd _ _).comp ((Lens.snd _ _).comp ((Lens.snd _ _).comp (Lens.fst _ _))))))))
def kTRec_Txs : Lens kTRec (Kd.slice kTLive) := kTRec_iso.comp ((Lens.snd _ _).comp ((Lens.snd _ _).comp ((Lens.snd _ _).comp ((Lens.snd _ _).comp ((Lens.snd _ _).comp ((Lens.snd _ _).comp ((Lens.snd _ _).comp ((Lens.snd _ _).comp (Lens.fst _ _)))))))))
theorem kTRec_open {s : HF} {x : TRec} {cs : List Value} (h : kTRec.K s x cs) : ∃ (v7 : Value) (v8 : Value) (v11 : Value) (v12 : Value) (v14 : Value), cs = [.int .i64 x.Lsn, .int .i64 x.Tx, .int .i64 x.Prev, .int .i64 x.Kind, .int .i64 x.Oid, .bool x.Before.Has, .int .i64 x.Before.O.Kind, v7, v8, .bool x.After.Has, .int .i64 x.After.O.Kind, v11, v12, .int .i64 x.Next, v14] ∧ Sl (Kd.int .i64) s v7 x.Before.O.Ints ∧ Sl (Kd.int .i64) s v8 x.Before.O.Refs ∧ Sl (Kd.int .i64) s v11 x.After.O.Ints ∧ Sl (Kd.int .i64) s v12 x.After.O.Refs ∧ Sl kTLive s v14 x.Txs := by
  obtain ⟨_, _, rfl, rfl, ⟨_, _, rfl, rfl, ⟨_, _, rfl, rfl, ⟨_, _, rfl, rfl, ⟨_, _, rfl, rfl, ⟨_, _, rfl, g5, ⟨_, _, rfl, g6, ⟨_, _, rfl, rfl, ⟨_, _, rfl, ⟨v8, rfl, g8⟩, rfl⟩⟩⟩⟩⟩⟩⟩⟩⟩ := h
  obtain ⟨u5_2, u5_3, rfl, g5_2, g5_3⟩ := kTSlot_open g5
  obtain ⟨u6_2, u6_3, rfl, g6_2, g6_3⟩ := kTSlot_open g6
  exact ⟨u5_2, u5_3, u6_2, u6_3, v8, rfl, g5_2, g5_3, g6_2, g6_3, g8⟩
theorem kTRec_mk {s : HF} {x : TRec} {v7 : Value} (g7 : Sl (Kd.int .i64) s v7 x.Before.O.Ints) {v8 : Value} (g8 : Sl (Kd.int .i64) s v8 x.Before.O.Refs) {v11 : Value} (g11 : Sl (Kd.int .i64) s v11 x.After.O.Ints) {v12 : Value} (g12 : Sl (Kd.int .i64) s v12 x.After.O.Refs) {v14 : Value} (g14 : Sl kTLive s v14 x.Txs) : kTRec.K s x ([.int .i64 x.Lsn, .int .i64 x.Tx, .int .i64 x.Prev, .int .i64 x.Kind, .int .i64 x.Oid, .bool x.Before.Has, .int .i64 x.Before.O.Kind, v7, v8, .bool x.After.Has, .int .i64 x.After.O.Kind, v11, v12, .int .i64 x.Next, v14]) := ⟨_, _, rfl, rfl, ⟨_, _, rfl, rfl, ⟨_, _, rfl, rfl, ⟨_, _, rfl, rfl, ⟨_, _, rfl, rfl, ⟨_, _, rfl, (kTSlot_mk (x := x.Before) g7 g8), ⟨_, _, rfl, (kTSlot_mk (x := x.After) g11 g12), ⟨_, _, rfl, rfl, ⟨_, _, rfl, ⟨_, rfl, g14⟩, rfl⟩⟩⟩⟩⟩⟩⟩⟩⟩

structure TLog where
  Recs : (List TRec)
  Sure : Int
instance : Inhabited TLog := ⟨⟨default, default⟩⟩
def kTLog : Kd TLog := Kd.iso (Kd.pair (Kd.slice kTRec) (Kd.pair (Kd.int .i64) Kd.unit)) fun x => (x.Recs, (x.Sure, ()))
def kTLog_iso : Lens kTLog (Kd.pair (Kd.slice kTRec) (Kd.pair (Kd.int .i64) Kd.unit)) := Lens.iso _ _ (fun p => ⟨p.1, p.2.1⟩) (fun _ => rfl)
def kTLog_Recs : Lens kTLog (Kd.slice kTRec) := kTLog_iso.comp (Lens.fst _ _)
def kTLog_Sure : Lens kTLog (Kd.int .i64) := kTLog_iso.comp ((Lens.snd _ _).comp (Lens.fst _ _))
theorem kTLog_open {s : HF} {x : TLog} {cs : List Value} (h : kTLog.K s x cs) : ∃ (v0 : Value), cs = [v0, .int .i64 x.Sure] ∧ Sl kTRec s v0 x.Recs := by
  obtain ⟨_, _, rfl, ⟨v0, rfl, g0⟩, ⟨_, _, rfl, rfl, rfl⟩⟩ := h
  exact ⟨v0, rfl, g0⟩
theorem kTLog_mk {s : HF} {x : TLog} {v0 : Value} (g0 : Sl kTRec s v0 x.Recs) : kTLog.K s x ([v0, .int .i64 x.Sure]) := ⟨_, _, rfl, ⟨_, rfl, g0⟩, ⟨_, _, rfl, rfl, rfl⟩⟩

structure THold where
  Tx : Int
  Oid : Int
instance : Inhabited THold := ⟨⟨default, default⟩⟩
def kTHold : Kd THold := Kd.iso (Kd.pair (Kd.int .i64) (Kd.pair (Kd.int .i64) Kd.unit)) fun x => (x.Tx, (x.Oid, ()))
theorem kTHold_flat : kTHold.Flat := flat_iso (flat_pair flat_int (flat_pair flat_int flat_unit))
def kTHold_iso : Lens kTHold (Kd.pair (Kd.int .i64) (Kd.pair (Kd.int .i64) Kd.unit)) := Lens.iso _ _ (fun p => ⟨p.1, p.2.1⟩) (fun _ => rfl)
def kTHold_Tx : Lens kTHold (Kd.int .i64) := kTHold_iso.comp (Lens.fst _ _)
def kTHold_Oid : Lens kTHold (Kd.int .i64) := kTHold_iso.comp ((Lens.snd _ _).comp (Lens.fst _ _))
theorem kTHold_open {s : HF} {x : THold} {cs : List Value} (h : kTHold.K s x cs) : cs = [.int .i64 x.Tx, .int .i64 x.Oid] := by
  obtain ⟨_, _, rfl, rfl, ⟨_, _, rfl, rfl, rfl⟩⟩ := h
  exact rfl
theorem kTHold_mk {s : HF} {x : THold}  : kTHold.K s x ([.int .i64 x.Tx, .int .i64 x.Oid]) := ⟨_, _, rfl, rfl, ⟨_, _, rfl, rfl, rfl⟩⟩

structure TEngine where
  Disk : (List TPage)
  Pool : TPool
  Log : TLog
  Txs : (List TLive)
  Holds : (List THold)
  Next : Int
  Down : Bool
instance : Inhabited TEngine := ⟨⟨default, default, default, default, default, default, default⟩⟩
def kTEngine : Kd TEngine := Kd.iso (Kd.pair (Kd.arr 8 kTPage) (Kd.pair kTPool (Kd.pair kTLog (Kd.pair (Kd.slice kTLive) (Kd.pair (Kd.slice kTHold) (Kd.pair (Kd.int .i64) (Kd.pair Kd.bool Kd.unit))))))) fun x => (x.Disk, (x.Pool, (x.Log, (x.Txs, (x.Holds, (x.Next, (x.Down, ())))))))
def kTEngine_iso : Lens kTEngine (Kd.pair (Kd.arr 8 kTPage) (Kd.pair kTPool (Kd.pair kTLog (Kd.pair (Kd.slice kTLive) (Kd.pair (Kd.slice kTHold) (Kd.pair (Kd.int .i64) (Kd.pair Kd.bool Kd.unit))))))) := Lens.iso _ _ (fun p => ⟨p.1, p.2.1, p.2.2.1, p.2.2.2.1, p.2.2.2.2.1, p.2.2.2.2.2.1, p.2.2.2.2.2.2.1⟩) (fun _ => rfl)
def kTEngine_Disk : Lens kTEngine (Kd.arr 8 kTPage) := kTEngine_iso.comp (Lens.fst _ _)
def kTEngine_Pool : Lens kTEngine kTPool := kTEngine_iso.comp ((Lens.snd _ _).comp (Lens.fst _ _))
def kTEngine_Log : Lens kTEngine kTLog := kTEngine_iso.comp ((Lens.snd _ _).comp ((Lens.snd _ _).comp (Lens.fst _ _)))
def kTEngine_Txs : Lens kTEngine (Kd.slice kTLive) := kTEngine_iso.comp ((Lens.snd _ _).comp ((Lens.snd _ _).comp ((Lens.snd _ _).comp (Lens.fst _ _))))
def kTEngine_Holds : Lens kTEngine (Kd.slice kTHold) := kTEngine_iso.comp ((Lens.snd _ _).comp ((Lens.snd _ _).comp ((Lens.snd _ _).comp ((Lens.snd _ _).comp (Lens.fst _ _)))))
def kTEngine_Next : Lens kTEngine (Kd.int .i64) := kTEngine_iso.comp ((Lens.snd _ _).comp ((Lens.snd _ _).comp ((Lens.snd _ _).comp ((Lens.snd _ _).comp ((Lens.snd _ _).comp (Lens.fst _ _))))))
def kTEngine_Down : Lens kTEngine Kd.bool := kTEngine_iso.comp ((Lens.snd _ _).comp ((Lens.snd _ _).comp ((Lens.snd _ _).comp ((Lens.snd _ _).comp ((Lens.snd _ _).comp ((Lens.snd _ _).comp (Lens.fst _ _)))))))
theorem kTEngine_open {s : HF} {x : TEngine} {cs : List Value} (h : kTEngine.K s x cs) : ∃ (c0 : List Value) (v1 : Value) (v3 : Value) (v5 : Value) (v6 : Value), cs = c0 ++ [v1, .int .i64 x.Pool.Hand, v3, .int .i64 x.Log.Sure, v5, v6, .int .i64 x.Next, .bool x.Down] ∧ ((Kd.arr 8 kTPage)).K s x.Disk c0 ∧ Sl kTSeat s v1 x.Pool.Seats ∧ Sl kTRec s v3 x.Log.Recs ∧ Sl kTLive s v5 x.Txs ∧ Sl kTHold s v6 x.Holds := by
  obtain ⟨_, _, rfl, g0, ⟨_, _, rfl, g1, ⟨_, _, rfl, g2, ⟨_, _, rfl, ⟨v3, rfl, g3⟩, ⟨_, _, rfl, ⟨v4, rfl, g4⟩, ⟨_, _, rfl, rfl, ⟨_, _, rfl, rfl, rfl⟩⟩⟩⟩⟩⟩⟩ := h
  obtain ⟨u1_0, rfl, g1_0⟩ := kTPool_open g1
  obtain ⟨u2_0, rfl, g2_0⟩ := kTLog_open g2
  exact ⟨_, u1_0, u2_0, v3, v4, by simp, g0, g1_0, g2_0, g3, g4⟩
theorem kTEngine_mk {s : HF} {x : TEngine} {c0 : List Value} (g0 : ((Kd.arr 8 kTPage)).K s x.Disk c0) {v1 : Value} (g1 : Sl kTSeat s v1 x.Pool.Seats) {v3 : Value} (g3 : Sl kTRec s v3 x.Log.Recs) {v5 : Value} (g5 : Sl kTLive s v5 x.Txs) {v6 : Value} (g6 : Sl kTHold s v6 x.Holds) : kTEngine.K s x (c0 ++ [v1, .int .i64 x.Pool.Hand, v3, .int .i64 x.Log.Sure, v5, v6, .int .i64 x.Next, .bool x.Down]) := by
  have h : ∃ cs, kTEngine.K s x cs ∧ cs = c0 ++ [v1, .int .i64 x.Pool.Hand, v3, .int .i64 x.Log.Sure, v5, v6, .int .i64 x.Next, .bool x.Down] := ⟨_, ⟨_, _, rfl, g0, ⟨_, _, rfl, (kTPool_mk (x := x.Pool) g1), ⟨_, _, rfl, (kTLog_mk (x := x.Log) g3), ⟨_, _, rfl, ⟨_, rfl, g5⟩, ⟨_, _, rfl, ⟨_, rfl, g6⟩, ⟨_, _, rfl, rfl, ⟨_, _, rfl, rfl, rfl⟩⟩⟩⟩⟩⟩⟩, by simp⟩
  obtain ⟨cs, h, rfl⟩ := h
  exact h

theorem mixed : Tryz.prog.follows .mixedOrders = true := by kernel_rfl
theorem ia_40 : IsAgg Tryz.prog 40 true := IsAgg.of (by kernel_rfl)
theorem ti_40 : TyI Tryz.prog 40 144 2240 (some (.agg #[.int .i64 0, .bool false, .int .i64 0, .slice none 0 0, .slice none 0 0, .bool false, .int .i64 0, .slice none 0 0, .slice none 0 0, .bool false, .int .i64 0, .slice none 0 0, .slice none 0 0, .bool false, .int .i64 0, .slice none 0 0, .slice none 0 0, .int .i64 0, .bool false, .int .i64 0, .slice none 0 0, .slice none 0 0, .bool false, .int .i64 0, .slice none 0 0, .slice none 0 0, .bool false, .int .i64 0, .slice none 0 0, .slice none 0 0, .bool false, .int .i64 0, .slice none 0 0, .slice none 0 0, .int .i64 0, .bool false, .int .i64 0, .slice none 0 0, .slice none 0 0, .bool false, .int .i64 0, .slice none 0 0, .slice none 0 0, .bool false, .int .i64 0, .slice none 0 0, .slice none 0 0, .bool false, .int .i64 0, .slice none 0 0, .slice none 0 0, .int .i64 0, .bool false, .int .i64 0, .slice none 0 0, .slice none 0 0, .bool false, .int .i64 0, .slice none 0 0, .slice none 0 0, .bool false, .int .i64 0, .slice none 0 0, .slice none 0 0, .bool false, .int .i64 0, .slice none 0 0, .slice none 0 0, .int .i64 0, .bool false, .int .i64 0, .slice none 0 0, .slice none 0 0, .bool false, .int .i64 0, .slice none 0 0, .slice none 0 0, .bool false, .int .i64 0, .slice none 0 0, .slice none 0 0, .bool false, .int .i64 0, .slice none 0 0, .slice none 0 0, .int .i64 0, .bool false, .int .i64 0, .slice none 0 0, .slice none 0 0, .bool false, .int .i64 0, .slice none 0 0, .slice none 0 0, .bool false, .int .i64 0, .slice none 0 0, .slice none 0 0, .bool false, .int .i64 0, .slice none 0 0, .slice none 0 0, .int .i64 0, .bool false, .int .i64 0, .slice none 0 0, .slice none 0 0, .bool false, .int .i64 0, .slice none 0 0, .slice none 0 0, .bool false, .int .i64 0, .slice none 0 0, .slice none 0 0, .bool false, .int .i64 0, .slice none 0 0, .slice none 0 0, .int .i64 0, .bool false, .int .i64 0, .slice none 0 0, .slice none 0 0, .bool false, .int .i64 0, .slice none 0 0, .slice none 0 0, .bool false, .int .i64 0, .slice none 0 0, .slice none 0 0, .bool false, .int .i64 0, .slice none 0 0, .slice none 0 0, .slice none 0 0, .int .i64 0, .slice none 0 0, .int .i64 0, .slice none 0 0, .slice none 0 0, .int .i64 0, .bool false])) := TyI.of (by kernel_rfl)
theorem ti_30 : TyI Tryz.prog 30 136 2112 (some (.agg #[.int .i64 0, .bool false, .int .i64 0, .slice none 0 0, .slice none 0 0, .bool false, .int .i64 0, .slice none 0 0, .slice none 0 0, .bool false, .int .i64 0, .slice none 0 0, .slice none 0 0, .bool false, .int .i64 0, .slice none 0 0, .slice none 0 0, .int .i64 0, .bool false, .int .i64 0, .slice none 0 0, .slice none 0 0, .bool false, .int .i64 0, .slice none 0 0, .slice none 0 0, .bool false, .int .i64 0, .slice none 0 0, .slice none 0 0, .bool false, .int .i64 0, .slice none 0 0, .slice none 0 0, .int .i64 0, .bool false, .int .i64 0, .slice none 0 0, .slice none 0 0, .bool false, .int .i64 0, .slice none 0 0, .slice none 0 0, .bool false, .int .i64 0, .slice none 0 0, .slice none 0 0, .bool false, .int .i64 0, .slice none 0 0, .slice none 0 0, .int .i64 0, .bool false, .int .i64 0, .slice none 0 0, .slice none 0 0, .bool false, .int .i64 0, .slice none 0 0, .slice none 0 0, .bool false, .int .i64 0, .slice none 0 0, .slice none 0 0, .bool false, .int .i64 0, .slice none 0 0, .slice none 0 0, .int .i64 0, .bool false, .int .i64 0, .slice none 0 0, .slice none 0 0, .bool false, .int .i64 0, .slice none 0 0, .slice none 0 0, .bool false, .int .i64 0, .slice none 0 0, .slice none 0 0, .bool false, .int .i64 0, .slice none 0 0, .slice none 0 0, .int .i64 0, .bool false, .int .i64 0, .slice none 0 0, .slice none 0 0, .bool false, .int .i64 0, .slice none 0 0, .slice none 0 0, .bool false, .int .i64 0, .slice none 0 0, .slice none 0 0, .bool false, .int .i64 0, .slice none 0 0, .slice none 0 0, .int .i64 0, .bool false, .int .i64 0, .slice none 0 0, .slice none 0 0, .bool false, .int .i64 0, .slice none 0 0, .slice none 0 0, .bool false, .int .i64 0, .slice none 0 0, .slice none 0 0, .bool false, .int .i64 0, .slice none 0 0, .slice none 0 0, .int .i64 0, .bool false, .int .i64 0, .slice none 0 0, .slice none 0 0, .bool false, .int .i64 0, .slice none 0 0, .slice none 0 0, .bool false, .int .i64 0, .slice none 0 0, .slice none 0 0, .bool false, .int .i64 0, .slice none 0 0, .slice none 0 0])) := TyI.of (by kernel_rfl)
theorem fi_40_0 : FldI Tryz.prog 40 0 0 := FldI.of (ft := 30) (by kernel_rfl) ti_30
theorem ia_30 : IsAgg Tryz.prog 30 true := IsAgg.of (by kernel_rfl)
theorem un_30 : Tryz.prog.underlying 30 = some (.array 8 29) := by kernel_rfl
theorem ti_29 : TyI Tryz.prog 29 17 264 (some (.agg #[.int .i64 0, .bool false, .int .i64 0, .slice none 0 0, .slice none 0 0, .bool false, .int .i64 0, .slice none 0 0, .slice none 0 0, .bool false, .int .i64 0, .slice none 0 0, .slice none 0 0, .bool false, .int .i64 0, .slice none 0 0, .slice none 0 0])) := TyI.of (by kernel_rfl)
theorem ia_29 : IsAgg Tryz.prog 29 true := IsAgg.of (by kernel_rfl)
theorem ti_27 : TyI Tryz.prog 27 16 256 (some (.agg #[.bool false, .int .i64 0, .slice none 0 0, .slice none 0 0, .bool false, .int .i64 0, .slice none 0 0, .slice none 0 0, .bool false, .int .i64 0, .slice none 0 0, .slice none 0 0, .bool false, .int .i64 0, .slice none 0 0, .slice none 0 0])) := TyI.of (by kernel_rfl)
theorem fi_29_1 : FldI Tryz.prog 29 1 1 := FldI.of (ft := 27) (by kernel_rfl) ti_27
theorem ia_27 : IsAgg Tryz.prog 27 true := IsAgg.of (by kernel_rfl)
theorem un_27 : Tryz.prog.underlying 27 = some (.array 4 26) := by kernel_rfl
theorem ti_26 : TyI Tryz.prog 26 4 64 (some (.agg #[.bool false, .int .i64 0, .slice none 0 0, .slice none 0 0])) := TyI.of (by kernel_rfl)
theorem ia_26 : IsAgg Tryz.prog 26 true := IsAgg.of (by kernel_rfl)
theorem ti_24 : TyI Tryz.prog 24 3 56 (some (.agg #[.int .i64 0, .slice none 0 0, .slice none 0 0])) := TyI.of (by kernel_rfl)
theorem fi_26_1 : FldI Tryz.prog 26 1 1 := FldI.of (ft := 24) (by kernel_rfl) ti_24
theorem ia_24 : IsAgg Tryz.prog 24 true := IsAgg.of (by kernel_rfl)
theorem ti_22 : TyI Tryz.prog 22 1 24 (some (.slice none 0 0)) := TyI.of (by kernel_rfl)
theorem fi_24_1 : FldI Tryz.prog 24 1 1 := FldI.of (ft := 22) (by kernel_rfl) ti_22
theorem ia_22 : IsAgg Tryz.prog 22 false := IsAgg.of (by kernel_rfl)
theorem un_22 : Tryz.prog.underlying 22 = some (.slice 3) := by kernel_rfl
theorem go_308 : Go1 Tryz.prog 308 := Go1.of (by kernel_rfl)
theorem fi_24_2 : FldI Tryz.prog 24 2 2 := FldI.of (ft := 22) (by kernel_rfl) ti_22
theorem go_287 : Go1 Tryz.prog 287 := Go1.of (by kernel_rfl)
theorem go_250 : Go1 Tryz.prog 250 := Go1.of (by kernel_rfl)
theorem go_198 : Go1 Tryz.prog 198 := Go1.of (by kernel_rfl)
theorem go_110 : Go1 Tryz.prog 110 := Go1.of (by kernel_rfl)
theorem go_35 : Go1 Tryz.prog 35 := Go1.of (by kernel_rfl)
theorem ti_33 : TyI Tryz.prog 33 2 32 (some (.agg #[.slice none 0 0, .int .i64 0])) := TyI.of (by kernel_rfl)
theorem fi_40_1 : FldI Tryz.prog 40 1 136 := FldI.of (ft := 33) (by kernel_rfl) ti_33
theorem ia_33 : IsAgg Tryz.prog 33 true := IsAgg.of (by kernel_rfl)
theorem ti_31 : TyI Tryz.prog 31 1 24 (some (.slice none 0 0)) := TyI.of (by kernel_rfl)
theorem fi_33_0 : FldI Tryz.prog 33 0 0 := FldI.of (ft := 31) (by kernel_rfl) ti_31
theorem ia_31 : IsAgg Tryz.prog 31 false := IsAgg.of (by kernel_rfl)
theorem un_31 : Tryz.prog.underlying 31 = some (.slice 245) := by kernel_rfl
theorem ti_245 : TyI Tryz.prog 245 20 280 (some (.agg #[.int .i64 0, .int .i64 0, .bool false, .int .i64 0, .slice none 0 0, .slice none 0 0, .bool false, .int .i64 0, .slice none 0 0, .slice none 0 0, .bool false, .int .i64 0, .slice none 0 0, .slice none 0 0, .bool false, .int .i64 0, .slice none 0 0, .slice none 0 0, .bool false, .bool false])) := TyI.of (by kernel_rfl)
theorem ia_245 : IsAgg Tryz.prog 245 true := IsAgg.of (by kernel_rfl)
theorem fi_245_1 : FldI Tryz.prog 245 1 1 := FldI.of (ft := 29) (by kernel_rfl) ti_29
theorem go_199 : Go1 Tryz.prog 199 := Go1.of (by kernel_rfl)
theorem go_111 : Go1 Tryz.prog 111 := Go1.of (by kernel_rfl)
theorem go_36 : Go1 Tryz.prog 36 := Go1.of (by kernel_rfl)
theorem ti_36 : TyI Tryz.prog 36 2 32 (some (.agg #[.slice none 0 0, .int .i64 0])) := TyI.of (by kernel_rfl)
theorem fi_40_2 : FldI Tryz.prog 40 2 138 := FldI.of (ft := 36) (by kernel_rfl) ti_36
theorem ia_36 : IsAgg Tryz.prog 36 true := IsAgg.of (by kernel_rfl)
theorem ti_34 : TyI Tryz.prog 34 1 24 (some (.slice none 0 0)) := TyI.of (by kernel_rfl)
theorem fi_36_0 : FldI Tryz.prog 36 0 0 := FldI.of (ft := 34) (by kernel_rfl) ti_34
theorem ia_34 : IsAgg Tryz.prog 34 false := IsAgg.of (by kernel_rfl)
theorem un_34 : Tryz.prog.underlying 34 = some (.slice 248) := by kernel_rfl
theorem ti_248 : TyI Tryz.prog 248 15 200 (some (.agg #[.int .i64 0, .int .i64 0, .int .i64 0, .int .i64 0, .int .i64 0, .bool false, .int .i64 0, .slice none 0 0, .slice none 0 0, .bool false, .int .i64 0, .slice none 0 0, .slice none 0 0, .int .i64 0, .slice none 0 0])) := TyI.of (by kernel_rfl)
theorem ia_248 : IsAgg Tryz.prog 248 true := IsAgg.of (by kernel_rfl)
theorem fi_248_5 : FldI Tryz.prog 248 5 5 := FldI.of (ft := 26) (by kernel_rfl) ti_26
theorem fi_248_6 : FldI Tryz.prog 248 6 9 := FldI.of (ft := 26) (by kernel_rfl) ti_26
theorem ti_37 : TyI Tryz.prog 37 1 24 (some (.slice none 0 0)) := TyI.of (by kernel_rfl)
theorem fi_248_8 : FldI Tryz.prog 248 8 14 := FldI.of (ft := 37) (by kernel_rfl) ti_37
theorem ia_37 : IsAgg Tryz.prog 37 false := IsAgg.of (by kernel_rfl)
theorem un_37 : Tryz.prog.underlying 37 = some (.slice 184) := by kernel_rfl
theorem go_38 : Go1 Tryz.prog 38 := Go1.of (by kernel_rfl)
theorem go_200 : Go1 Tryz.prog 200 := Go1.of (by kernel_rfl)
theorem go_112 : Go1 Tryz.prog 112 := Go1.of (by kernel_rfl)
theorem go_37 : Go1 Tryz.prog 37 := Go1.of (by kernel_rfl)
theorem fi_40_3 : FldI Tryz.prog 40 3 140 := FldI.of (ft := 37) (by kernel_rfl) ti_37
theorem ti_38 : TyI Tryz.prog 38 1 24 (some (.slice none 0 0)) := TyI.of (by kernel_rfl)
theorem fi_40_4 : FldI Tryz.prog 40 4 141 := FldI.of (ft := 38) (by kernel_rfl) ti_38
theorem ia_38 : IsAgg Tryz.prog 38 false := IsAgg.of (by kernel_rfl)
theorem un_38 : Tryz.prog.underlying 38 = some (.slice 186) := by kernel_rfl
theorem go_39 : Go1 Tryz.prog 39 := Go1.of (by kernel_rfl)
theorem go_7 : Go1 Tryz.prog 7 := Go1.of (by kernel_rfl)
def za_46 : List Value := (List.replicate 4 ([(.bool false), (.int .i64 0), (.slice none 0 0), (.slice none 0 0)])).flatten
def zv_46 : List TSlot := List.replicate 4 (⟨false, (⟨0, [], []⟩ : TObj)⟩ : TSlot)
theorem zk_46 (s : HF) : (Kd.arr 4 kTSlot).K s zv_46 za_46 := arr_rep (by exact (kTSlot_mk (x := (⟨false, (⟨0, [], []⟩ : TObj)⟩ : TSlot)) (Sl.nil _ _ _ _) (Sl.nil _ _ _ _))) 4
theorem zl_46 : za_46.length = 16 := by kernel_rfl
def za_27 : List Value := (List.replicate 4 ([(.bool false), (.int .i64 0), (.slice none 0 0), (.slice none 0 0)])).flatten
def zv_27 : List TSlot := List.replicate 4 (⟨false, (⟨0, [], []⟩ : TObj)⟩ : TSlot)
theorem zk_27 (s : HF) : (Kd.arr 4 kTSlot).K s zv_27 za_27 := arr_rep (by exact (kTSlot_mk (x := (⟨false, (⟨0, [], []⟩ : TObj)⟩ : TSlot)) (Sl.nil _ _ _ _) (Sl.nil _ _ _ _))) 4
theorem zl_27 : za_27.length = 16 := by kernel_rfl
def za_49 : List Value := (List.replicate 8 ([(.int .i64 0)] ++ za_27)).flatten
def zv_49 : List TPage := List.replicate 8 (⟨0, zv_46⟩ : TPage)
theorem zk_49 (s : HF) : (Kd.arr 8 kTPage).K s zv_49 za_49 := arr_rep (by exact (kTPage_mk (x := (⟨0, zv_46⟩ : TPage)) (zk_27 s))) 8
theorem zl_49 : za_49.length = 136 := by kernel_rfl
theorem ti_59 : TyI Tryz.prog 59 144 2240 (some (.agg #[.int .i64 0, .bool false, .int .i64 0, .slice none 0 0, .slice none 0 0, .bool false, .int .i64 0, .slice none 0 0, .slice none 0 0, .bool false, .int .i64 0, .slice none 0 0, .slice none 0 0, .bool false, .int .i64 0, .slice none 0 0, .slice none 0 0, .int .i64 0, .bool false, .int .i64 0, .slice none 0 0, .slice none 0 0, .bool false, .int .i64 0, .slice none 0 0, .slice none 0 0, .bool false, .int .i64 0, .slice none 0 0, .slice none 0 0, .bool false, .int .i64 0, .slice none 0 0, .slice none 0 0, .int .i64 0, .bool false, .int .i64 0, .slice none 0 0, .slice none 0 0, .bool false, .int .i64 0, .slice none 0 0, .slice none 0 0, .bool false, .int .i64 0, .slice none 0 0, .slice none 0 0, .bool false, .int .i64 0, .slice none 0 0, .slice none 0 0, .int .i64 0, .bool false, .int .i64 0, .slice none 0 0, .slice none 0 0, .bool false, .int .i64 0, .slice none 0 0, .slice none 0 0, .bool false, .int .i64 0, .slice none 0 0, .slice none 0 0, .bool false, .int .i64 0, .slice none 0 0, .slice none 0 0, .int .i64 0, .bool false, .int .i64 0, .slice none 0 0, .slice none 0 0, .bool false, .int .i64 0, .slice none 0 0, .slice none 0 0, .bool false, .int .i64 0, .slice none 0 0, .slice none 0 0, .bool false, .int .i64 0, .slice none 0 0, .slice none 0 0, .int .i64 0, .bool false, .int .i64 0, .slice none 0 0, .slice none 0 0, .bool false, .int .i64 0, .slice none 0 0, .slice none 0 0, .bool false, .int .i64 0, .slice none 0 0, .slice none 0 0, .bool false, .int .i64 0, .slice none 0 0, .slice none 0 0, .int .i64 0, .bool false, .int .i64 0, .slice none 0 0, .slice none 0 0, .bool false, .int .i64 0, .slice none 0 0, .slice none 0 0, .bool false, .int .i64 0, .slice none 0 0, .slice none 0 0, .bool false, .int .i64 0, .slice none 0 0, .slice none 0 0, .int .i64 0, .bool false, .int .i64 0, .slice none 0 0, .slice none 0 0, .bool false, .int .i64 0, .slice none 0 0, .slice none 0 0, .bool false, .int .i64 0, .slice none 0 0, .slice none 0 0, .bool false, .int .i64 0, .slice none 0 0, .slice none 0 0, .slice none 0 0, .int .i64 0, .slice none 0 0, .int .i64 0, .slice none 0 0, .slice none 0 0, .int .i64 0, .bool false])) := TyI.of (by kernel_rfl)
theorem ti_49 : TyI Tryz.prog 49 136 2112 (some (.agg #[.int .i64 0, .bool false, .int .i64 0, .slice none 0 0, .slice none 0 0, .bool false, .int .i64 0, .slice none 0 0, .slice none 0 0, .bool false, .int .i64 0, .slice none 0 0, .slice none 0 0, .bool false, .int .i64 0, .slice none 0 0, .slice none 0 0, .int .i64 0, .bool false, .int .i64 0, .slice none 0 0, .slice none 0 0, .bool false, .int .i64 0, .slice none 0 0, .slice none 0 0, .bool false, .int .i64 0, .slice none 0 0, .slice none 0 0, .bool false, .int .i64 0, .slice none 0 0, .slice none 0 0, .int .i64 0, .bool false, .int .i64 0, .slice none 0 0, .slice none 0 0, .bool false, .int .i64 0, .slice none 0 0, .slice none 0 0, .bool false, .int .i64 0, .slice none 0 0, .slice none 0 0, .bool false, .int .i64 0, .slice none 0 0, .slice none 0 0, .int .i64 0, .bool false, .int .i64 0, .slice none 0 0, .slice none 0 0, .bool false, .int .i64 0, .slice none 0 0, .slice none 0 0, .bool false, .int .i64 0, .slice none 0 0, .slice none 0 0, .bool false, .int .i64 0, .slice none 0 0, .slice none 0 0, .int .i64 0, .bool false, .int .i64 0, .slice none 0 0, .slice none 0 0, .bool false, .int .i64 0, .slice none 0 0, .slice none 0 0, .bool false, .int .i64 0, .slice none 0 0, .slice none 0 0, .bool false, .int .i64 0, .slice none 0 0, .slice none 0 0, .int .i64 0, .bool false, .int .i64 0, .slice none 0 0, .slice none 0 0, .bool false, .int .i64 0, .slice none 0 0, .slice none 0 0, .bool false, .int .i64 0, .slice none 0 0, .slice none 0 0, .bool false, .int .i64 0, .slice none 0 0, .slice none 0 0, .int .i64 0, .bool false, .int .i64 0, .slice none 0 0, .slice none 0 0, .bool false, .int .i64 0, .slice none 0 0, .slice none 0 0, .bool false, .int .i64 0, .slice none 0 0, .slice none 0 0, .bool false, .int .i64 0, .slice none 0 0, .slice none 0 0, .int .i64 0, .bool false, .int .i64 0, .slice none 0 0, .slice none 0 0, .bool false, .int .i64 0, .slice none 0 0, .slice none 0 0, .bool false, .int .i64 0, .slice none 0 0, .slice none 0 0, .bool false, .int .i64 0, .slice none 0 0, .slice none 0 0])) := TyI.of (by kernel_rfl)
theorem ti_48 : TyI Tryz.prog 48 17 264 (some (.agg #[.int .i64 0, .bool false, .int .i64 0, .slice none 0 0, .slice none 0 0, .bool false, .int .i64 0, .slice none 0 0, .slice none 0 0, .bool false, .int .i64 0, .slice none 0 0, .slice none 0 0, .bool false, .int .i64 0, .slice none 0 0, .slice none 0 0])) := TyI.of (by kernel_rfl)
theorem ti_3 : TyI Tryz.prog 3 1 8 (some (.int .i64 0)) := TyI.of (by kernel_rfl)
theorem fi_29_0 : FldI Tryz.prog 29 0 0 := FldI.of (ft := 3) (by kernel_rfl) ti_3
theorem ia_3 : IsAgg Tryz.prog 3 false := IsAgg.of (by kernel_rfl)
theorem fi_48_0 : FldI Tryz.prog 48 0 0 := FldI.of (ft := 3) (by kernel_rfl) ti_3
theorem ti_46 : TyI Tryz.prog 46 16 256 (some (.agg #[.bool false, .int .i64 0, .slice none 0 0, .slice none 0 0, .bool false, .int .i64 0, .slice none 0 0, .slice none 0 0, .bool false, .int .i64 0, .slice none 0 0, .slice none 0 0, .bool false, .int .i64 0, .slice none 0 0, .slice none 0 0])) := TyI.of (by kernel_rfl)
theorem ti_45 : TyI Tryz.prog 45 4 64 (some (.agg #[.bool false, .int .i64 0, .slice none 0 0, .slice none 0 0])) := TyI.of (by kernel_rfl)
theorem ti_4 : TyI Tryz.prog 4 1 1 (some (.bool false)) := TyI.of (by kernel_rfl)
theorem fi_26_0 : FldI Tryz.prog 26 0 0 := FldI.of (ft := 4) (by kernel_rfl) ti_4
theorem ia_4 : IsAgg Tryz.prog 4 false := IsAgg.of (by kernel_rfl)
theorem fi_45_0 : FldI Tryz.prog 45 0 0 := FldI.of (ft := 4) (by kernel_rfl) ti_4
theorem ti_43 : TyI Tryz.prog 43 3 56 (some (.agg #[.int .i64 0, .slice none 0 0, .slice none 0 0])) := TyI.of (by kernel_rfl)
theorem fi_24_0 : FldI Tryz.prog 24 0 0 := FldI.of (ft := 3) (by kernel_rfl) ti_3
theorem fi_43_0 : FldI Tryz.prog 43 0 0 := FldI.of (ft := 3) (by kernel_rfl) ti_3
theorem go_309 : Go1 Tryz.prog 309 := Go1.of (by kernel_rfl)
theorem fi_43_1 : FldI Tryz.prog 43 1 1 := FldI.of (ft := 22) (by kernel_rfl) ti_22
theorem fi_43_2 : FldI Tryz.prog 43 2 2 := FldI.of (ft := 22) (by kernel_rfl) ti_22
theorem ia_43 : IsAgg Tryz.prog 43 true := IsAgg.of (by kernel_rfl)
theorem go_288 : Go1 Tryz.prog 288 := Go1.of (by kernel_rfl)
theorem fi_45_1 : FldI Tryz.prog 45 1 1 := FldI.of (ft := 43) (by kernel_rfl) ti_43
theorem ia_45 : IsAgg Tryz.prog 45 true := IsAgg.of (by kernel_rfl)
theorem go_253 : Go1 Tryz.prog 253 := Go1.of (by kernel_rfl)
theorem un_46 : Tryz.prog.underlying 46 = some (.array 4 45) := by kernel_rfl
theorem ia_46 : IsAgg Tryz.prog 46 true := IsAgg.of (by kernel_rfl)
theorem go_204 : Go1 Tryz.prog 204 := Go1.of (by kernel_rfl)
theorem fi_48_1 : FldI Tryz.prog 48 1 1 := FldI.of (ft := 46) (by kernel_rfl) ti_46
theorem ia_48 : IsAgg Tryz.prog 48 true := IsAgg.of (by kernel_rfl)
theorem go_115 : Go1 Tryz.prog 115 := Go1.of (by kernel_rfl)
theorem un_49 : Tryz.prog.underlying 49 = some (.array 8 48) := by kernel_rfl
theorem ia_49 : IsAgg Tryz.prog 49 true := IsAgg.of (by kernel_rfl)
theorem go_42 : Go1 Tryz.prog 42 := Go1.of (by kernel_rfl)
theorem fi_59_0 : FldI Tryz.prog 59 0 0 := FldI.of (ft := 49) (by kernel_rfl) ti_49
theorem ti_52 : TyI Tryz.prog 52 2 32 (some (.agg #[.slice none 0 0, .int .i64 0])) := TyI.of (by kernel_rfl)
theorem un_50 : Tryz.prog.underlying 50 = some (.slice 105) := by kernel_rfl
theorem ti_105 : TyI Tryz.prog 105 20 280 (some (.agg #[.int .i64 0, .int .i64 0, .bool false, .int .i64 0, .slice none 0 0, .slice none 0 0, .bool false, .int .i64 0, .slice none 0 0, .slice none 0 0, .bool false, .int .i64 0, .slice none 0 0, .slice none 0 0, .bool false, .int .i64 0, .slice none 0 0, .slice none 0 0, .bool false, .bool false])) := TyI.of (by kernel_rfl)
theorem fi_245_0 : FldI Tryz.prog 245 0 0 := FldI.of (ft := 3) (by kernel_rfl) ti_3
theorem fi_105_0 : FldI Tryz.prog 105 0 0 := FldI.of (ft := 3) (by kernel_rfl) ti_3
theorem fi_105_1 : FldI Tryz.prog 105 1 1 := FldI.of (ft := 48) (by kernel_rfl) ti_48
theorem fi_245_2 : FldI Tryz.prog 245 2 18 := FldI.of (ft := 4) (by kernel_rfl) ti_4
theorem fi_105_2 : FldI Tryz.prog 105 2 18 := FldI.of (ft := 4) (by kernel_rfl) ti_4
theorem fi_245_3 : FldI Tryz.prog 245 3 19 := FldI.of (ft := 4) (by kernel_rfl) ti_4
theorem fi_105_3 : FldI Tryz.prog 105 3 19 := FldI.of (ft := 4) (by kernel_rfl) ti_4
theorem ia_105 : IsAgg Tryz.prog 105 true := IsAgg.of (by kernel_rfl)
theorem go_205 : Go1 Tryz.prog 205 := Go1.of (by kernel_rfl)
theorem go_116 : Go1 Tryz.prog 116 := Go1.of (by kernel_rfl)
theorem ti_50 : TyI Tryz.prog 50 1 24 (some (.slice none 0 0)) := TyI.of (by kernel_rfl)
theorem fi_52_0 : FldI Tryz.prog 52 0 0 := FldI.of (ft := 50) (by kernel_rfl) ti_50
theorem fi_33_1 : FldI Tryz.prog 33 1 1 := FldI.of (ft := 3) (by kernel_rfl) ti_3
theorem fi_52_1 : FldI Tryz.prog 52 1 1 := FldI.of (ft := 3) (by kernel_rfl) ti_3
theorem ia_52 : IsAgg Tryz.prog 52 true := IsAgg.of (by kernel_rfl)
theorem go_43 : Go1 Tryz.prog 43 := Go1.of (by kernel_rfl)
theorem fi_59_1 : FldI Tryz.prog 59 1 136 := FldI.of (ft := 52) (by kernel_rfl) ti_52
theorem ti_55 : TyI Tryz.prog 55 2 32 (some (.agg #[.slice none 0 0, .int .i64 0])) := TyI.of (by kernel_rfl)
theorem un_53 : Tryz.prog.underlying 53 = some (.slice 162) := by kernel_rfl
theorem ti_162 : TyI Tryz.prog 162 15 200 (some (.agg #[.int .i64 0, .int .i64 0, .int .i64 0, .int .i64 0, .int .i64 0, .bool false, .int .i64 0, .slice none 0 0, .slice none 0 0, .bool false, .int .i64 0, .slice none 0 0, .slice none 0 0, .int .i64 0, .slice none 0 0])) := TyI.of (by kernel_rfl)
theorem fi_248_0 : FldI Tryz.prog 248 0 0 := FldI.of (ft := 3) (by kernel_rfl) ti_3
theorem fi_162_0 : FldI Tryz.prog 162 0 0 := FldI.of (ft := 3) (by kernel_rfl) ti_3
theorem fi_248_1 : FldI Tryz.prog 248 1 1 := FldI.of (ft := 3) (by kernel_rfl) ti_3
theorem fi_162_1 : FldI Tryz.prog 162 1 1 := FldI.of (ft := 3) (by kernel_rfl) ti_3
theorem fi_248_2 : FldI Tryz.prog 248 2 2 := FldI.of (ft := 3) (by kernel_rfl) ti_3
theorem fi_162_2 : FldI Tryz.prog 162 2 2 := FldI.of (ft := 3) (by kernel_rfl) ti_3
theorem fi_248_3 : FldI Tryz.prog 248 3 3 := FldI.of (ft := 3) (by kernel_rfl) ti_3
theorem fi_162_3 : FldI Tryz.prog 162 3 3 := FldI.of (ft := 3) (by kernel_rfl) ti_3
theorem fi_248_4 : FldI Tryz.prog 248 4 4 := FldI.of (ft := 3) (by kernel_rfl) ti_3
theorem fi_162_4 : FldI Tryz.prog 162 4 4 := FldI.of (ft := 3) (by kernel_rfl) ti_3
theorem fi_162_5 : FldI Tryz.prog 162 5 5 := FldI.of (ft := 45) (by kernel_rfl) ti_45
theorem fi_162_6 : FldI Tryz.prog 162 6 9 := FldI.of (ft := 45) (by kernel_rfl) ti_45
theorem fi_248_7 : FldI Tryz.prog 248 7 13 := FldI.of (ft := 3) (by kernel_rfl) ti_3
theorem fi_162_7 : FldI Tryz.prog 162 7 13 := FldI.of (ft := 3) (by kernel_rfl) ti_3
theorem un_56 : Tryz.prog.underlying 56 = some (.slice 169) := by kernel_rfl
theorem ti_169 : TyI Tryz.prog 169 3 24 (some (.agg #[.int .i64 0, .int .i64 0, .bool false])) := TyI.of (by kernel_rfl)
theorem ti_184 : TyI Tryz.prog 184 3 24 (some (.agg #[.int .i64 0, .int .i64 0, .bool false])) := TyI.of (by kernel_rfl)
theorem ia_184 : IsAgg Tryz.prog 184 true := IsAgg.of (by kernel_rfl)
theorem fi_184_0 : FldI Tryz.prog 184 0 0 := FldI.of (ft := 3) (by kernel_rfl) ti_3
theorem fi_169_0 : FldI Tryz.prog 169 0 0 := FldI.of (ft := 3) (by kernel_rfl) ti_3
theorem fi_184_1 : FldI Tryz.prog 184 1 1 := FldI.of (ft := 3) (by kernel_rfl) ti_3
theorem fi_169_1 : FldI Tryz.prog 169 1 1 := FldI.of (ft := 3) (by kernel_rfl) ti_3
theorem fi_184_2 : FldI Tryz.prog 184 2 2 := FldI.of (ft := 4) (by kernel_rfl) ti_4
theorem fi_169_2 : FldI Tryz.prog 169 2 2 := FldI.of (ft := 4) (by kernel_rfl) ti_4
theorem ia_169 : IsAgg Tryz.prog 169 true := IsAgg.of (by kernel_rfl)
theorem go_118 : Go1 Tryz.prog 118 := Go1.of (by kernel_rfl)
theorem go_45 : Go1 Tryz.prog 45 := Go1.of (by kernel_rfl)
theorem ti_56 : TyI Tryz.prog 56 1 24 (some (.slice none 0 0)) := TyI.of (by kernel_rfl)
theorem fi_162_8 : FldI Tryz.prog 162 8 14 := FldI.of (ft := 56) (by kernel_rfl) ti_56
theorem ia_162 : IsAgg Tryz.prog 162 true := IsAgg.of (by kernel_rfl)
theorem go_206 : Go1 Tryz.prog 206 := Go1.of (by kernel_rfl)
theorem go_117 : Go1 Tryz.prog 117 := Go1.of (by kernel_rfl)
theorem ti_53 : TyI Tryz.prog 53 1 24 (some (.slice none 0 0)) := TyI.of (by kernel_rfl)
theorem fi_55_0 : FldI Tryz.prog 55 0 0 := FldI.of (ft := 53) (by kernel_rfl) ti_53
theorem fi_36_1 : FldI Tryz.prog 36 1 1 := FldI.of (ft := 3) (by kernel_rfl) ti_3
theorem fi_55_1 : FldI Tryz.prog 55 1 1 := FldI.of (ft := 3) (by kernel_rfl) ti_3
theorem ia_55 : IsAgg Tryz.prog 55 true := IsAgg.of (by kernel_rfl)
theorem go_44 : Go1 Tryz.prog 44 := Go1.of (by kernel_rfl)
theorem fi_59_2 : FldI Tryz.prog 59 2 138 := FldI.of (ft := 55) (by kernel_rfl) ti_55
theorem fi_59_3 : FldI Tryz.prog 59 3 140 := FldI.of (ft := 56) (by kernel_rfl) ti_56
theorem un_57 : Tryz.prog.underlying 57 = some (.slice 141) := by kernel_rfl
theorem ti_141 : TyI Tryz.prog 141 2 16 (some (.agg #[.int .i64 0, .int .i64 0])) := TyI.of (by kernel_rfl)
theorem ti_186 : TyI Tryz.prog 186 2 16 (some (.agg #[.int .i64 0, .int .i64 0])) := TyI.of (by kernel_rfl)
theorem ia_186 : IsAgg Tryz.prog 186 true := IsAgg.of (by kernel_rfl)
theorem fi_186_0 : FldI Tryz.prog 186 0 0 := FldI.of (ft := 3) (by kernel_rfl) ti_3
theorem fi_141_0 : FldI Tryz.prog 141 0 0 := FldI.of (ft := 3) (by kernel_rfl) ti_3
theorem fi_186_1 : FldI Tryz.prog 186 1 1 := FldI.of (ft := 3) (by kernel_rfl) ti_3
theorem fi_141_1 : FldI Tryz.prog 141 1 1 := FldI.of (ft := 3) (by kernel_rfl) ti_3
theorem ia_141 : IsAgg Tryz.prog 141 true := IsAgg.of (by kernel_rfl)
theorem go_119 : Go1 Tryz.prog 119 := Go1.of (by kernel_rfl)
theorem go_46 : Go1 Tryz.prog 46 := Go1.of (by kernel_rfl)
theorem ti_57 : TyI Tryz.prog 57 1 24 (some (.slice none 0 0)) := TyI.of (by kernel_rfl)
theorem fi_59_4 : FldI Tryz.prog 59 4 141 := FldI.of (ft := 57) (by kernel_rfl) ti_57
theorem fi_40_5 : FldI Tryz.prog 40 5 142 := FldI.of (ft := 3) (by kernel_rfl) ti_3
theorem fi_59_5 : FldI Tryz.prog 59 5 142 := FldI.of (ft := 3) (by kernel_rfl) ti_3
theorem fi_40_6 : FldI Tryz.prog 40 6 143 := FldI.of (ft := 4) (by kernel_rfl) ti_4
theorem fi_59_6 : FldI Tryz.prog 59 6 143 := FldI.of (ft := 4) (by kernel_rfl) ti_4
theorem ia_59 : IsAgg Tryz.prog 59 true := IsAgg.of (by kernel_rfl)
theorem go_9 : Go1 Tryz.prog 9 := Go1.of (by kernel_rfl)
theorem ia_53 : IsAgg Tryz.prog 53 false := IsAgg.of (by kernel_rfl)
theorem go_108 : Go1 Tryz.prog 108 := Go1.of (by kernel_rfl)
theorem go_275 : Go1 Tryz.prog 275 := Go1.of (by kernel_rfl)
theorem go_237 : Go1 Tryz.prog 237 := Go1.of (by kernel_rfl)
theorem go_181 : Go1 Tryz.prog 181 := Go1.of (by kernel_rfl)
theorem un_4 : Tryz.prog.underlying 4 = some (.bool) := by kernel_rfl
theorem go_216 : Go1 Tryz.prog 216 := Go1.of (by kernel_rfl)
theorem go_142 : Go1 Tryz.prog 142 := Go1.of (by kernel_rfl)
theorem go_113 : Go1 Tryz.prog 113 := Go1.of (by kernel_rfl)
theorem ia_56 : IsAgg Tryz.prog 56 false := IsAgg.of (by kernel_rfl)
theorem go_251 : Go1 Tryz.prog 251 := Go1.of (by kernel_rfl)
theorem go_252 : Go1 Tryz.prog 252 := Go1.of (by kernel_rfl)
theorem go_201 : Go1 Tryz.prog 201 := Go1.of (by kernel_rfl)
theorem go_197 : Go1 Tryz.prog 197 := Go1.of (by kernel_rfl)
theorem go_109 : Go1 Tryz.prog 109 := Go1.of (by kernel_rfl)
theorem go_202 : Go1 Tryz.prog 202 := Go1.of (by kernel_rfl)
theorem go_203 : Go1 Tryz.prog 203 := Go1.of (by kernel_rfl)
theorem go_114 : Go1 Tryz.prog 114 := Go1.of (by kernel_rfl)
theorem go_41 : Go1 Tryz.prog 41 := Go1.of (by kernel_rfl)
theorem go_40 : Go1 Tryz.prog 40 := Go1.of (by kernel_rfl)
theorem ia_50 : IsAgg Tryz.prog 50 false := IsAgg.of (by kernel_rfl)
theorem go_8 : Go1 Tryz.prog 8 := Go1.of (by kernel_rfl)
theorem go_122 : Go1 Tryz.prog 122 := Go1.of (by kernel_rfl)
theorem go_123 : Go1 Tryz.prog 123 := Go1.of (by kernel_rfl)
theorem go_75 : Go1 Tryz.prog 75 := Go1.of (by kernel_rfl)
theorem un_80 : Tryz.prog.underlying 80 = some (.slice 45) := by kernel_rfl
theorem go_299 : Go1 Tryz.prog 299 := Go1.of (by kernel_rfl)
theorem go_313 : Go1 Tryz.prog 313 := Go1.of (by kernel_rfl)
theorem go_298 : Go1 Tryz.prog 298 := Go1.of (by kernel_rfl)
theorem go_300 : Go1 Tryz.prog 300 := Go1.of (by kernel_rfl)
theorem go_267 : Go1 Tryz.prog 267 := Go1.of (by kernel_rfl)
theorem go_268 : Go1 Tryz.prog 268 := Go1.of (by kernel_rfl)
theorem go_220 : Go1 Tryz.prog 220 := Go1.of (by kernel_rfl)
theorem go_219 : Go1 Tryz.prog 219 := Go1.of (by kernel_rfl)
theorem go_266 : Go1 Tryz.prog 266 := Go1.of (by kernel_rfl)
theorem go_218 : Go1 Tryz.prog 218 := Go1.of (by kernel_rfl)
theorem go_145 : Go1 Tryz.prog 145 := Go1.of (by kernel_rfl)
theorem go_221 : Go1 Tryz.prog 221 := Go1.of (by kernel_rfl)
theorem go_102 : Go1 Tryz.prog 102 := Go1.of (by kernel_rfl)
theorem go_222 : Go1 Tryz.prog 222 := Go1.of (by kernel_rfl)
theorem go_80 : Go1 Tryz.prog 80 := Go1.of (by kernel_rfl)
theorem go_146 : Go1 Tryz.prog 146 := Go1.of (by kernel_rfl)
theorem go_136 : Go1 Tryz.prog 136 := Go1.of (by kernel_rfl)
theorem go_143 : Go1 Tryz.prog 143 := Go1.of (by kernel_rfl)
theorem go_71 : Go1 Tryz.prog 71 := Go1.of (by kernel_rfl)
theorem go_163 : Go1 Tryz.prog 163 := Go1.of (by kernel_rfl)
theorem go_208 : Go1 Tryz.prog 208 := Go1.of (by kernel_rfl)
theorem go_124 : Go1 Tryz.prog 124 := Go1.of (by kernel_rfl)
theorem go_48 : Go1 Tryz.prog 48 := Go1.of (by kernel_rfl)
theorem go_254 : Go1 Tryz.prog 254 := Go1.of (by kernel_rfl)
theorem go_207 : Go1 Tryz.prog 207 := Go1.of (by kernel_rfl)
theorem go_121 : Go1 Tryz.prog 121 := Go1.of (by kernel_rfl)
theorem go_120 : Go1 Tryz.prog 120 := Go1.of (by kernel_rfl)
theorem go_47 : Go1 Tryz.prog 47 := Go1.of (by kernel_rfl)
theorem go_50 : Go1 Tryz.prog 50 := Go1.of (by kernel_rfl)
theorem go_125 : Go1 Tryz.prog 125 := Go1.of (by kernel_rfl)
theorem go_49 : Go1 Tryz.prog 49 := Go1.of (by kernel_rfl)
theorem go_10 : Go1 Tryz.prog 10 := Go1.of (by kernel_rfl)
theorem go_310 : Go1 Tryz.prog 310 := Go1.of (by kernel_rfl)
theorem go_289 : Go1 Tryz.prog 289 := Go1.of (by kernel_rfl)
theorem go_255 : Go1 Tryz.prog 255 := Go1.of (by kernel_rfl)
theorem go_209 : Go1 Tryz.prog 209 := Go1.of (by kernel_rfl)
theorem go_126 : Go1 Tryz.prog 126 := Go1.of (by kernel_rfl)
theorem go_51 : Go1 Tryz.prog 51 := Go1.of (by kernel_rfl)
theorem go_210 : Go1 Tryz.prog 210 := Go1.of (by kernel_rfl)
theorem go_127 : Go1 Tryz.prog 127 := Go1.of (by kernel_rfl)
theorem go_52 : Go1 Tryz.prog 52 := Go1.of (by kernel_rfl)
theorem go_129 : Go1 Tryz.prog 129 := Go1.of (by kernel_rfl)
theorem go_54 : Go1 Tryz.prog 54 := Go1.of (by kernel_rfl)
theorem go_211 : Go1 Tryz.prog 211 := Go1.of (by kernel_rfl)
theorem go_128 : Go1 Tryz.prog 128 := Go1.of (by kernel_rfl)
theorem go_53 : Go1 Tryz.prog 53 := Go1.of (by kernel_rfl)
theorem ia_57 : IsAgg Tryz.prog 57 false := IsAgg.of (by kernel_rfl)
theorem go_130 : Go1 Tryz.prog 130 := Go1.of (by kernel_rfl)
theorem go_55 : Go1 Tryz.prog 55 := Go1.of (by kernel_rfl)
theorem go_11 : Go1 Tryz.prog 11 := Go1.of (by kernel_rfl)
end Go.Proofs.YthficejgcbadjaaGreat
