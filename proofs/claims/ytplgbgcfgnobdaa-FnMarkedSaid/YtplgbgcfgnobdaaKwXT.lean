/- Structures, kinds and closed facts of this place's translation. Conditions: none. -/
import Derived.Test.YtplgbgcfgnobdaaKwI
import Derived.Test.YtplgbgcfgnobdaaProg
import Derived.KernelRfl
set_option linter.unusedVariables false
namespace Go.Proofs.Ytplgbgcfgnobdaa
open Go.Kw
structure TObj where
  Kind : Int
  Ints : (List Int)
  Refs : (List Int)
instance : Inhabited TObj := ⟨⟨default, default, default⟩⟩
def kTObj : Kd TObj := Kd.iso (Kd.pair (Kd.int .i64) (Kd.pair (Kd.slice (Kd.int .i64)) (Kd.pair (Kd.slice (Kd.int .i64)) Kd.unit))) fun x => (x.Kind, (x.Ints, (x.Refs, ())))
def kTObj_iso : Lens kTObj (Kd.pair (Kd.int .i64) (Kd.pair (Kd.slice (Kd.int .i64)) (Kd.pair (Kd.slice (Kd.int .i64)) Kd.unit))) := Lens.iso _ _ (fun p => ⟨p.1, p.2.1, p.2.2.1⟩) (fun _ => rfl)
def kTObj_Kind : Lens kTObj (Kd.int .i64) := kTObj_iso.comp (Lens.fst _ _)
def kTObj_Ints : Lens kTObj (Kd.slice (Kd.int .i64)) := kTObj_iso.comp ((Lens.snd _ _).comp (Lens.fst _ _))
def kTObj_Refs : Lens kTObj (Kd.slice (Kd.int .i64)) := kTObj_iso.comp ((Lens.snd _ _).comp ((Lens.snd _ _).comp (Lens.fst _ _)))
theorem kTObj_open {s : HF} {x : TObj} {cs : List Value} (h : kTObj.K s x cs) : ∃ (v1 : Value) (v2 : Value), cs = [.int .i64 x.Kind, v1, v2] ∧ Sl (Kd.int .i64) s v1 x.Ints ∧ Sl (Kd.int .i64) s v2 x.Refs := by
  obtain ⟨_, _, rfl, rfl, ⟨_, _, rfl, ⟨v1, rfl, g1⟩, ⟨_, _, rfl, ⟨v2, rfl, g2⟩, rfl⟩⟩⟩ := h
  exact ⟨v1, v2, rfl, g1, g2⟩
theorem kTObj_mk {s : HF} {x : TObj} {v1 : Value} (g1 : Sl (Kd.int .i64) s v1 x.Ints) {v2 : Value} (g2 : Sl (Kd.int .i64) s v2 x.Refs) : kTObj.K s x ([.int .i64 x.Kind, v1, v2]) := ⟨_, _, rfl, rfl, ⟨_, _, rfl, ⟨_, rfl, g1⟩, ⟨_, _, rfl, ⟨_, rfl, g2⟩, rfl⟩⟩⟩

structure TSlot where
  Has : Bool
  O : TObj
instance : Inhabited TSlot := ⟨⟨default, default⟩⟩
def kTSlot : Kd TSlot := Kd.iso (Kd.pair Kd.bool (Kd.pair kTObj Kd.unit)) fun x => (x.Has, (x.O, ()))
def kTSlot_iso : Lens kTSlot (Kd.pair Kd.bool (Kd.pair kTObj Kd.unit)) := Lens.iso _ _ (fun p => ⟨p.1, p.2.1⟩) (fun _ => rfl)
def kTSlot_Has : Lens kTSlot Kd.bool := kTSlot_iso.comp (Lens.fst _ _)
def kTSlot_O : Lens kTSlot kTObj := kTSlot_iso.comp ((Lens.snd _ _).comp (Lens.fst _ _))
theorem kTSlot_open {s : HF} {x : TSlot} {cs : List Value} (h : kTSlot.K s x cs) : ∃ (v2 : Value) (v3 : Value), cs = [.bool x.Has, .int .i64 x.O.Kind, v2, v3] ∧ Sl (Kd.int .i64) s v2 x.O.Ints ∧ Sl (Kd.int .i64) s v3 x.O.Refs := by
  obtain ⟨_, _, rfl, rfl, ⟨_, _, rfl, g1, rfl⟩⟩ := h
  obtain ⟨u1_1, u1_2, rfl, g1_1, g1_2⟩ := kTObj_open g1
  exact ⟨u1_1, u1_2, rfl, g1_1, g1_2⟩
theorem kTSlot_mk {s : HF} {x : TSlot} {v2 : Value} (g2 : Sl (Kd.int .i64) s v2 x.O.Ints) {v3 : Value} (g3 : Sl (Kd.int .i64) s v3 x.O.Refs) : kTSlot.K s x ([.bool x.Has, .int .i64 x.O.Kind, v2, v3]) := ⟨_, _, rfl, rfl, ⟨_, _, rfl, (kTObj_mk (x := x.O) g2 g3), rfl⟩⟩

structure Tl1Cur where
  b : (List Int)
  i : Int
  h_ : Int
instance : Inhabited Tl1Cur := ⟨⟨default, default, default⟩⟩
def kTl1Cur : Kd Tl1Cur := Kd.iso (Kd.pair (Kd.slice (Kd.int .u8)) (Kd.pair (Kd.int .i64) (Kd.pair (Kd.int .i64) Kd.unit))) fun x => (x.b, (x.i, (x.h_, ())))
def kTl1Cur_iso : Lens kTl1Cur (Kd.pair (Kd.slice (Kd.int .u8)) (Kd.pair (Kd.int .i64) (Kd.pair (Kd.int .i64) Kd.unit))) := Lens.iso _ _ (fun p => ⟨p.1, p.2.1, p.2.2.1⟩) (fun _ => rfl)
def kTl1Cur_b : Lens kTl1Cur (Kd.slice (Kd.int .u8)) := kTl1Cur_iso.comp (Lens.fst _ _)
def kTl1Cur_i : Lens kTl1Cur (Kd.int .i64) := kTl1Cur_iso.comp ((Lens.snd _ _).comp (Lens.fst _ _))
def kTl1Cur_h_ : Lens kTl1Cur (Kd.int .i64) := kTl1Cur_iso.comp ((Lens.snd _ _).comp ((Lens.snd _ _).comp (Lens.fst _ _)))
theorem kTl1Cur_open {s : HF} {x : Tl1Cur} {cs : List Value} (h : kTl1Cur.K s x cs) : ∃ (v0 : Value), cs = [v0, .int .i64 x.i, .int .i64 x.h_] ∧ Sl (Kd.int .u8) s v0 x.b := by
  obtain ⟨_, _, rfl, ⟨v0, rfl, g0⟩, ⟨_, _, rfl, rfl, ⟨_, _, rfl, rfl, rfl⟩⟩⟩ := h
  exact ⟨v0, rfl, g0⟩
theorem kTl1Cur_mk {s : HF} {x : Tl1Cur} {v0 : Value} (g0 : Sl (Kd.int .u8) s v0 x.b) : kTl1Cur.K s x ([v0, .int .i64 x.i, .int .i64 x.h_]) := ⟨_, _, rfl, ⟨_, rfl, g0⟩, ⟨_, _, rfl, rfl, ⟨_, _, rfl, rfl, rfl⟩⟩⟩

structure Tmarker where
  v : (List TSlot)
  marks : (List Bool)
  stack : (List Int)
  most : Int
  over : Bool
instance : Inhabited Tmarker := ⟨⟨default, default, default, default, default⟩⟩
def kTmarker : Kd Tmarker := Kd.iso (Kd.pair (Kd.slice kTSlot) (Kd.pair (Kd.slice Kd.bool) (Kd.pair (Kd.slice (Kd.int .i64)) (Kd.pair (Kd.int .i64) (Kd.pair Kd.bool Kd.unit))))) fun x => (x.v, (x.marks, (x.stack, (x.most, (x.over, ())))))
def kTmarker_iso : Lens kTmarker (Kd.pair (Kd.slice kTSlot) (Kd.pair (Kd.slice Kd.bool) (Kd.pair (Kd.slice (Kd.int .i64)) (Kd.pair (Kd.int .i64) (Kd.pair Kd.bool Kd.unit))))) := Lens.iso _ _ (fun p => ⟨p.1, p.2.1, p.2.2.1, p.2.2.2.1, p.2.2.2.2.1⟩) (fun _ => rfl)
def kTmarker_v : Lens kTmarker (Kd.slice kTSlot) := kTmarker_iso.comp (Lens.fst _ _)
def kTmarker_marks : Lens kTmarker (Kd.slice Kd.bool) := kTmarker_iso.comp ((Lens.snd _ _).comp (Lens.fst _ _))
def kTmarker_stack : Lens kTmarker (Kd.slice (Kd.int .i64)) := kTmarker_iso.comp ((Lens.snd _ _).comp ((Lens.snd _ _).comp (Lens.fst _ _)))
def kTmarker_most : Lens kTmarker (Kd.int .i64) := kTmarker_iso.comp ((Lens.snd _ _).comp ((Lens.snd _ _).comp ((Lens.snd _ _).comp (Lens.fst _ _))))
def kTmarker_over : Lens kTmarker Kd.bool := kTmarker_iso.comp ((Lens.snd _ _).comp ((Lens.snd _ _).comp ((Lens.snd _ _).comp ((Lens.snd _ _).comp (Lens.fst _ _)))))
theorem kTmarker_open {s : HF} {x : Tmarker} {cs : List Value} (h : kTmarker.K s x cs) : ∃ (v0 : Value) (v1 : Value) (v2 : Value), cs = [v0, v1, v2, .int .i64 x.most, .bool x.over] ∧ Sl kTSlot s v0 x.v ∧ Sl Kd.bool s v1 x.marks ∧ Sl (Kd.int .i64) s v2 x.stack := by
  obtain ⟨_, _, rfl, ⟨v0, rfl, g0⟩, ⟨_, _, rfl, ⟨v1, rfl, g1⟩, ⟨_, _, rfl, ⟨v2, rfl, g2⟩, ⟨_, _, rfl, rfl, ⟨_, _, rfl, rfl, rfl⟩⟩⟩⟩⟩ := h
  exact ⟨v0, v1, v2, rfl, g0, g1, g2⟩
theorem kTmarker_mk {s : HF} {x : Tmarker} {v0 : Value} (g0 : Sl kTSlot s v0 x.v) {v1 : Value} (g1 : Sl Kd.bool s v1 x.marks) {v2 : Value} (g2 : Sl (Kd.int .i64) s v2 x.stack) : kTmarker.K s x ([v0, v1, v2, .int .i64 x.most, .bool x.over]) := ⟨_, _, rfl, ⟨_, rfl, g0⟩, ⟨_, _, rfl, ⟨_, rfl, g1⟩, ⟨_, _, rfl, ⟨_, rfl, g2⟩, ⟨_, _, rfl, rfl, ⟨_, _, rfl, rfl, rfl⟩⟩⟩⟩⟩

theorem mixed : Try.prog.follows .mixedOrders = true := by kernel_rfl
theorem un_22 : Try.prog.underlying 22 = some (.slice 5) := by kernel_rfl
theorem go_5 : Go1 Try.prog 5 := Go1.of (by kernel_rfl)
theorem ti_5 : TyI Try.prog 5 1 1 (some (.int .u8 0)) := TyI.of (by kernel_rfl)
theorem ia_5 : IsAgg Try.prog 5 false := IsAgg.of (by kernel_rfl)
theorem un_5 : Try.prog.underlying 5 = some (.int .u8) := by kernel_rfl
theorem un_3 : Try.prog.underlying 3 = some (.int .i64) := by kernel_rfl
theorem go_15 : Go1 Try.prog 15 := Go1.of (by kernel_rfl)
theorem un_24 : Try.prog.underlying 24 = some (.slice 32) := by kernel_rfl
theorem ti_32 : TyI Try.prog 32 4 64 (some (.agg #[.bool false, .int .i64 0, .slice none 0 0, .slice none 0 0])) := TyI.of (by kernel_rfl)
theorem ti_3 : TyI Try.prog 3 1 8 (some (.int .i64 0)) := TyI.of (by kernel_rfl)
theorem fi_58_2 : FldI Try.prog 58 2 2 := FldI.of (ft := 3) (by kernel_rfl) ti_3
theorem ia_3 : IsAgg Try.prog 3 false := IsAgg.of (by kernel_rfl)
theorem fi_58_1 : FldI Try.prog 58 1 1 := FldI.of (ft := 3) (by kernel_rfl) ti_3
theorem ti_22 : TyI Try.prog 22 1 24 (some (.slice none 0 0)) := TyI.of (by kernel_rfl)
theorem fi_58_0 : FldI Try.prog 58 0 0 := FldI.of (ft := 22) (by kernel_rfl) ti_22
theorem ia_22 : IsAgg Try.prog 22 false := IsAgg.of (by kernel_rfl)
theorem go_37 : Go1 Try.prog 37 := Go1.of (by kernel_rfl)
theorem go_31 : Go1 Try.prog 31 := Go1.of (by kernel_rfl)
theorem go_30 : Go1 Try.prog 30 := Go1.of (by kernel_rfl)
theorem ti_30 : TyI Try.prog 30 3 56 (some (.agg #[.int .i64 0, .slice none 0 0, .slice none 0 0])) := TyI.of (by kernel_rfl)
theorem ti_27 : TyI Try.prog 27 1 24 (some (.slice none 0 0)) := TyI.of (by kernel_rfl)
theorem fi_30_2 : FldI Try.prog 30 2 2 := FldI.of (ft := 27) (by kernel_rfl) ti_27
theorem ia_27 : IsAgg Try.prog 27 false := IsAgg.of (by kernel_rfl)
theorem un_27 : Try.prog.underlying 27 = some (.slice 3) := by kernel_rfl
theorem go_32 : Go1 Try.prog 32 := Go1.of (by kernel_rfl)
theorem ia_30 : IsAgg Try.prog 30 true := IsAgg.of (by kernel_rfl)
theorem go_16 : Go1 Try.prog 16 := Go1.of (by kernel_rfl)
theorem go_6 : Go1 Try.prog 6 := Go1.of (by kernel_rfl)
theorem go_7 : Go1 Try.prog 7 := Go1.of (by kernel_rfl)
theorem ia_32 : IsAgg Try.prog 32 true := IsAgg.of (by kernel_rfl)
theorem ti_4 : TyI Try.prog 4 1 1 (some (.bool false)) := TyI.of (by kernel_rfl)
theorem fi_32_0 : FldI Try.prog 32 0 0 := FldI.of (ft := 4) (by kernel_rfl) ti_4
theorem ia_4 : IsAgg Try.prog 4 false := IsAgg.of (by kernel_rfl)
theorem fi_32_1 : FldI Try.prog 32 1 1 := FldI.of (ft := 30) (by kernel_rfl) ti_30
theorem fi_30_0 : FldI Try.prog 30 0 0 := FldI.of (ft := 3) (by kernel_rfl) ti_3
theorem fi_30_1 : FldI Try.prog 30 1 1 := FldI.of (ft := 27) (by kernel_rfl) ti_27
theorem go_34 : Go1 Try.prog 34 := Go1.of (by kernel_rfl)
theorem go_26 : Go1 Try.prog 26 := Go1.of (by kernel_rfl)
theorem go_20 : Go1 Try.prog 20 := Go1.of (by kernel_rfl)
theorem go_38 : Go1 Try.prog 38 := Go1.of (by kernel_rfl)
theorem go_33 : Go1 Try.prog 33 := Go1.of (by kernel_rfl)
theorem go_24 : Go1 Try.prog 24 := Go1.of (by kernel_rfl)
theorem go_39 : Go1 Try.prog 39 := Go1.of (by kernel_rfl)
theorem go_36 : Go1 Try.prog 36 := Go1.of (by kernel_rfl)
theorem go_29 : Go1 Try.prog 29 := Go1.of (by kernel_rfl)
theorem go_28 : Go1 Try.prog 28 := Go1.of (by kernel_rfl)
theorem go_35 : Go1 Try.prog 35 := Go1.of (by kernel_rfl)
theorem go_27 : Go1 Try.prog 27 := Go1.of (by kernel_rfl)
theorem go_14 : Go1 Try.prog 14 := Go1.of (by kernel_rfl)
theorem go_17 : Go1 Try.prog 17 := Go1.of (by kernel_rfl)
theorem un_37 : Try.prog.underlying 37 = some (.slice 4) := by kernel_rfl
theorem go_19 : Go1 Try.prog 19 := Go1.of (by kernel_rfl)
theorem go_18 : Go1 Try.prog 18 := Go1.of (by kernel_rfl)
theorem go_8 : Go1 Try.prog 8 := Go1.of (by kernel_rfl)
theorem go_9 : Go1 Try.prog 9 := Go1.of (by kernel_rfl)
theorem go_10 : Go1 Try.prog 10 := Go1.of (by kernel_rfl)
theorem go_11 : Go1 Try.prog 11 := Go1.of (by kernel_rfl)
theorem ti_47 : TyI Try.prog 47 2 16 (some (.agg #[.int .i64 0, .int .i64 0])) := TyI.of (by kernel_rfl)
theorem un_35 : Try.prog.underlying 35 = some (.slice 47) := by kernel_rfl
theorem go_12 : Go1 Try.prog 12 := Go1.of (by kernel_rfl)
theorem ti_37 : TyI Try.prog 37 1 24 (some (.slice none 0 0)) := TyI.of (by kernel_rfl)
theorem fi_51_1 : FldI Try.prog 51 1 1 := FldI.of (ft := 37) (by kernel_rfl) ti_37
theorem ia_37 : IsAgg Try.prog 37 false := IsAgg.of (by kernel_rfl)
theorem fi_51_2 : FldI Try.prog 51 2 2 := FldI.of (ft := 27) (by kernel_rfl) ti_27
theorem fi_51_3 : FldI Try.prog 51 3 3 := FldI.of (ft := 3) (by kernel_rfl) ti_3
theorem fi_51_4 : FldI Try.prog 51 4 4 := FldI.of (ft := 4) (by kernel_rfl) ti_4
theorem go_21 : Go1 Try.prog 21 := Go1.of (by kernel_rfl)
theorem ti_24 : TyI Try.prog 24 1 24 (some (.slice none 0 0)) := TyI.of (by kernel_rfl)
theorem fi_51_0 : FldI Try.prog 51 0 0 := FldI.of (ft := 24) (by kernel_rfl) ti_24
theorem ia_24 : IsAgg Try.prog 24 false := IsAgg.of (by kernel_rfl)
theorem go_25 : Go1 Try.prog 25 := Go1.of (by kernel_rfl)
theorem go_22 : Go1 Try.prog 22 := Go1.of (by kernel_rfl)
theorem go_23 : Go1 Try.prog 23 := Go1.of (by kernel_rfl)
theorem go_13 : Go1 Try.prog 13 := Go1.of (by kernel_rfl)
theorem un_4 : Try.prog.underlying 4 = some (.bool) := by kernel_rfl
end Go.Proofs.Ytplgbgcfgnobdaa
