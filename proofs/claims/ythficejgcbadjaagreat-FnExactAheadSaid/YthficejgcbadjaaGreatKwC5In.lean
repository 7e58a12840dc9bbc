/- What comes in, by its kinds. Conditions: none. -/
import Derived.Test.YthficejgcbadjaaGreatKwC5T
import Derived.Test.YthficejgcbadjaaGreatKwM
set_option linter.unusedVariables false
namespace Go.Proofs.YthficejgcbadjaaGreat
open Go.Kw
theorem tr_3 : Tr Tryz.prog 3 (Kd.int .i64) (fun n => (Lit.int .i64 n).wf = true) := Tr.int (by kernel_rfl)
theorem tr_4 : Tr Tryz.prog 4 Kd.bool (fun _ => True) := Tr.bool (by kernel_rfl)
theorem tr_22 : Tr Tryz.prog 22 (Kd.slice (Kd.int .i64)) (fun xs => (xs.length ≤ maxLen ∧ ∀ q1 ∈ xs, (Lit.int .i64 q1).wf = true)) := Tr.slice (e := 3) (by kernel_rfl) (by kernel_rfl) (by decide) tr_3
def wTObj (x : TObj) : Prop := (Lit.int .i64 x.Kind).wf = true ∧ (x.Ints.length ≤ maxLen ∧ ∀ q1 ∈ x.Ints, (Lit.int .i64 q1).wf = true) ∧ (x.Refs.length ≤ maxLen ∧ ∀ q1 ∈ x.Refs, (Lit.int .i64 q1).wf = true) ∧ True
theorem tr_24 : Tr Tryz.prog 24 kTObj wTObj := Tr.structL (l := [(0, 3), (1, 22), (2, 22)]) rfl (fun p => ⟨p.1, p.2.1, p.2.2.1⟩) (fun _ => rfl) (by kernel_rfl) (by kernel_rfl) (fun _ h => h) (TrF.cons (by kernel_rfl) tr_3 (TrF.cons (by kernel_rfl) tr_22 (TrF.cons (by kernel_rfl) tr_22 TrF.nil)))
def wTSlot (x : TSlot) : Prop := True ∧ wTObj x.O ∧ True
theorem tr_26 : Tr Tryz.prog 26 kTSlot wTSlot := Tr.structL (l := [(0, 4), (1, 24)]) rfl (fun p => ⟨p.1, p.2.1⟩) (fun _ => rfl) (by kernel_rfl) (by kernel_rfl) (fun _ h => h) (TrF.cons (by kernel_rfl) tr_4 (TrF.cons (by kernel_rfl) tr_24 TrF.nil))
theorem tr_27 : Tr Tryz.prog 27 (Kd.arr 4 kTSlot) (fun xs => (xs.length = 4 ∧ ∀ q1 ∈ xs, wTSlot q1)) := Tr.arr (e := 26) (by kernel_rfl) (by kernel_rfl) (by kernel_rfl) tr_26
def wTPage (x : TPage) : Prop := (Lit.int .i64 x.Lsn).wf = true ∧ (x.Slots.length = 4 ∧ ∀ q1 ∈ x.Slots, wTSlot q1) ∧ True
theorem tr_29 : Tr Tryz.prog 29 kTPage wTPage := Tr.structL (l := [(0, 3), (1, 27)]) rfl (fun p => ⟨p.1, p.2.1⟩) (fun _ => rfl) (by kernel_rfl) (by kernel_rfl) (fun _ h => h) (TrF.cons (by kernel_rfl) tr_3 (TrF.cons (by kernel_rfl) tr_27 TrF.nil))
theorem tr_30 : Tr Tryz.prog 30 (Kd.arr 8 kTPage) (fun xs => (xs.length = 8 ∧ ∀ q1 ∈ xs, wTPage q1)) := Tr.arr (e := 29) (by kernel_rfl) (by kernel_rfl) (by kernel_rfl) tr_29
def wTSeat (x : TSeat) : Prop := (Lit.int .i64 x.No).wf = true ∧ wTPage x.P ∧ True ∧ True ∧ True
theorem tr_245 : Tr Tryz.prog 245 kTSeat wTSeat := Tr.structL (l := [(0, 3), (1, 29), (18, 4), (19, 4)]) rfl (fun p => ⟨p.1, p.2.1, p.2.2.1, p.2.2.2.1⟩) (fun _ => rfl) (by kernel_rfl) (by kernel_rfl) (fun _ h => h) (TrF.cons (by kernel_rfl) tr_3 (TrF.cons (by kernel_rfl) tr_29 (TrF.cons (by kernel_rfl) tr_4 (TrF.cons (by kernel_rfl) tr_4 TrF.nil))))
theorem tr_31 : Tr Tryz.prog 31 (Kd.slice kTSeat) (fun xs => (xs.length ≤ maxLen ∧ ∀ q1 ∈ xs, wTSeat q1)) := Tr.slice (e := 245) (by kernel_rfl) (by kernel_rfl) (by decide) tr_245
def wTPool (x : TPool) : Prop := (x.Seats.length ≤ maxLen ∧ ∀ q1 ∈ x.Seats, wTSeat q1) ∧ (Lit.int .i64 x.Hand).wf = true ∧ True
theorem tr_33 : Tr Tryz.prog 33 kTPool wTPool := Tr.structL (l := [(0, 31), (1, 3)]) rfl (fun p => ⟨p.1, p.2.1⟩) (fun _ => rfl) (by kernel_rfl) (by kernel_rfl) (fun _ h => h) (TrF.cons (by kernel_rfl) tr_31 (TrF.cons (by kernel_rfl) tr_3 TrF.nil))
def wTLive (x : TLive) : Prop := (Lit.int .i64 x.Tx).wf = true ∧ (Lit.int .i64 x.Last).wf = true ∧ True ∧ True
theorem tr_184 : Tr Tryz.prog 184 kTLive wTLive := Tr.structL (l := [(0, 3), (1, 3), (2, 4)]) rfl (fun p => ⟨p.1, p.2.1, p.2.2.1⟩) (fun _ => rfl) (by kernel_rfl) (by kernel_rfl) (fun _ h => h) (TrF.cons (by kernel_rfl) tr_3 (TrF.cons (by kernel_rfl) tr_3 (TrF.cons (by kernel_rfl) tr_4 TrF.nil)))
theorem tr_37 : Tr Tryz.prog 37 (Kd.slice kTLive) (fun xs => (xs.length ≤ maxLen ∧ ∀ q1 ∈ xs, wTLive q1)) := Tr.slice (e := 184) (by kernel_rfl) (by kernel_rfl) (by decide) tr_184
def wTRec (x : TRec) : Prop := (Lit.int .i64 x.Lsn).wf = true ∧ (Lit.int .i64 x.Tx).wf = true ∧ (Lit.int .i64 x.Prev).wf = true ∧ (Lit.int .i64 x.Kind).wf = true ∧ (Lit.int .i64 x.Oid).wf = true ∧ wTSlot x.Before ∧ wTSlot x.After ∧ (Lit.int .i64 x.Next).wf = true ∧ (x.Txs.length ≤ maxLen ∧ ∀ q1 ∈ x.Txs, wTLive q1) ∧ True
theorem tr_248 : Tr Tryz.prog 248 kTRec wTRec := Tr.structL (l := [(0, 3), (1, 3), (2, 3), (3, 3), (4, 3), (5, 26), (9, 26), (13, 3), (14, 37)]) rfl (fun p => ⟨p.1, p.2.1, p.2.2.1, p.2.2.2.1, p.2.2.2.2.1, p.2.2.2.2.2.1, p.2.2.2.2.2.2.1, p.2.2.2.2.2.2.2.1, p.2.2.2.2.2.2.2.2.1⟩) (fun _ => rfl) (by kernel_rfl) (by kernel_rfl) (fun _ h => h) (TrF.cons (by kernel_rfl) tr_3 (TrF.cons (by kernel_rfl) tr_3 (TrF.cons (by kernel_rfl) tr_3 (TrF.cons (by kernel_rfl) tr_3 (TrF.cons (by kernel_rfl) tr_3 (TrF.cons (by kernel_rfl) tr_26 (TrF.cons (by kernel_rfl) tr_26 (TrF.cons (by kernel_rfl) tr_3 (TrF.cons (by kernel_rfl) tr_37 TrF.nil)))))))))
theorem tr_34 : Tr Tryz.prog 34 (Kd.slice kTRec) (fun xs => (xs.length ≤ maxLen ∧ ∀ q1 ∈ xs, wTRec q1)) := Tr.slice (e := 248) (by kernel_rfl) (by kernel_rfl) (by decide) tr_248
def wTLog (x : TLog) : Prop := (x.Recs.length ≤ maxLen ∧ ∀ q1 ∈ x.Recs, wTRec q1) ∧ (Lit.int .i64 x.Sure).wf = true ∧ True
theorem tr_36 : Tr Tryz.prog 36 kTLog wTLog := Tr.structL (l := [(0, 34), (1, 3)]) rfl (fun p => ⟨p.1, p.2.1⟩) (fun _ => rfl) (by kernel_rfl) (by kernel_rfl) (fun _ h => h) (TrF.cons (by kernel_rfl) tr_34 (TrF.cons (by kernel_rfl) tr_3 TrF.nil))
def wTHold (x : THold) : Prop := (Lit.int .i64 x.Tx).wf = true ∧ (Lit.int .i64 x.Oid).wf = true ∧ True
theorem tr_186 : Tr Tryz.prog 186 kTHold wTHold := Tr.structL (l := [(0, 3), (1, 3)]) rfl (fun p => ⟨p.1, p.2.1⟩) (fun _ => rfl) (by kernel_rfl) (by kernel_rfl) (fun _ h => h) (TrF.cons (by kernel_rfl) tr_3 (TrF.cons (by kernel_rfl) tr_3 TrF.nil))
theorem tr_38 : Tr Tryz.prog 38 (Kd.slice kTHold) (fun xs => (xs.length ≤ maxLen ∧ ∀ q1 ∈ xs, wTHold q1)) := Tr.slice (e := 186) (by kernel_rfl) (by kernel_rfl) (by decide) tr_186
def wTEngine (x : TEngine) : Prop := (x.Disk.length = 8 ∧ ∀ q1 ∈ x.Disk, wTPage q1) ∧ wTPool x.Pool ∧ wTLog x.Log ∧ (x.Txs.length ≤ maxLen ∧ ∀ q1 ∈ x.Txs, wTLive q1) ∧ (x.Holds.length ≤ maxLen ∧ ∀ q1 ∈ x.Holds, wTHold q1) ∧ (Lit.int .i64 x.Next).wf = true ∧ True ∧ True
theorem tr_40 : Tr Tryz.prog 40 kTEngine wTEngine := Tr.structL (l := [(0, 30), (136, 33), (138, 36), (140, 37), (141, 38), (142, 3), (143, 4)]) rfl (fun p => ⟨p.1, p.2.1, p.2.2.1, p.2.2.2.1, p.2.2.2.2.1, p.2.2.2.2.2.1, p.2.2.2.2.2.2.1⟩) (fun _ => rfl) (by kernel_rfl) (by kernel_rfl) (fun _ h => h) (TrF.cons (by kernel_rfl) tr_30 (TrF.cons (by kernel_rfl) tr_33 (TrF.cons (by kernel_rfl) tr_36 (TrF.cons (by kernel_rfl) tr_37 (TrF.cons (by kernel_rfl) tr_38 (TrF.cons (by kernel_rfl) tr_3 (TrF.cons (by kernel_rfl) tr_4 TrF.nil)))))))
end Go.Proofs.YthficejgcbadjaaGreat
