/- Structures, kinds and closed facts of this place's translation. Conditions: none. -/
import Derived.Test.YtbcpkopchnlefaaKwN
import Derived.Test.YtbcpkopchnlefaaProg
import Derived.KernelRfl
set_option linter.unusedVariables false
namespace Go.Proofs.Ytbcpkopchnlefaa
open Go.Kw
structure TGrant where
  Tx : Int
  Res : Int
  Mode : Int
instance : Inhabited TGrant := ⟨⟨default, default, default⟩⟩
def kTGrant : Kd TGrant := Kd.iso (Kd.pair (Kd.int .i64) (Kd.pair (Kd.int .i64) (Kd.pair (Kd.int .i64) Kd.unit))) fun x => (x.Tx, (x.Res, (x.Mode, ())))
theorem kTGrant_flat : kTGrant.Flat := flat_iso (flat_pair flat_int (flat_pair flat_int (flat_pair flat_int flat_unit)))
def kTGrant_iso : Lens kTGrant (Kd.pair (Kd.int .i64) (Kd.pair (Kd.int .i64) (Kd.pair (Kd.int .i64) Kd.unit))) := Lens.iso _ _ (fun p => ⟨p.1, p.2.1, p.2.2.1⟩) (fun _ => rfl)
def kTGrant_Tx : Lens kTGrant (Kd.int .i64) := kTGrant_iso.comp (Lens.fst _ _)
def kTGrant_Res : Lens kTGrant (Kd.int .i64) := kTGrant_iso.comp ((Lens.snd _ _).comp (Lens.fst _ _))
def kTGrant_Mode : Lens kTGrant (Kd.int .i64) := kTGrant_iso.comp ((Lens.snd _ _).comp ((Lens.snd _ _).comp (Lens.fst _ _)))
theorem kTGrant_open {s : HF} {x : TGrant} {cs : List Value} (h : kTGrant.K s x cs) : cs = [.int .i64 x.Tx, .int .i64 x.Res, .int .i64 x.Mode] := by
  obtain ⟨_, _, rfl, rfl, ⟨_, _, rfl, rfl, ⟨_, _, rfl, rfl, rfl⟩⟩⟩ := h
  exact rfl
theorem kTGrant_mk {s : HF} {x : TGrant}  : kTGrant.K s x ([.int .i64 x.Tx, .int .i64 x.Res, .int .i64 x.Mode]) := ⟨_, _, rfl, rfl, ⟨_, _, rfl, rfl, ⟨_, _, rfl, rfl, rfl⟩⟩⟩

structure TLocks where
  Given : (List TGrant)
  Waits : (List TGrant)
instance : Inhabited TLocks := ⟨⟨default, default⟩⟩
def kTLocks : Kd TLocks := Kd.iso (Kd.pair (Kd.slice kTGrant) (Kd.pair (Kd.slice kTGrant) Kd.unit)) fun x => (x.Given, (x.Waits, ()))
def kTLocks_iso : Lens kTLocks (Kd.pair (Kd.slice kTGrant) (Kd.pair (Kd.slice kTGrant) Kd.unit)) := Lens.iso _ _ (fun p => ⟨p.1, p.2.1⟩) (fun _ => rfl)
def kTLocks_Given : Lens kTLocks (Kd.slice kTGrant) := kTLocks_iso.comp (Lens.fst _ _)
def kTLocks_Waits : Lens kTLocks (Kd.slice kTGrant) := kTLocks_iso.comp ((Lens.snd _ _).comp (Lens.fst _ _))
theorem kTLocks_open {s : HF} {x : TLocks} {cs : List Value} (h : kTLocks.K s x cs) : ∃ (v0 : Value) (v1 : Value), cs = [v0, v1] ∧ Sl kTGrant s v0 x.Given ∧ Sl kTGrant s v1 x.Waits := by
  obtain ⟨_, _, rfl, ⟨v0, rfl, g0⟩, ⟨_, _, rfl, ⟨v1, rfl, g1⟩, rfl⟩⟩ := h
  exact ⟨v0, v1, rfl, g0, g1⟩
theorem kTLocks_mk {s : HF} {x : TLocks} {v0 : Value} (g0 : Sl kTGrant s v0 x.Given) {v1 : Value} (g1 : Sl kTGrant s v1 x.Waits) : kTLocks.K s x ([v0, v1]) := ⟨_, _, rfl, ⟨_, rfl, g0⟩, ⟨_, _, rfl, ⟨_, rfl, g1⟩, rfl⟩⟩

structure Tl1Cur where
  b : (List Int)
  i : Int
  h_ : Int
instance : Inhabited Tl1Cur := ⟨⟨default, default, default⟩⟩
def kTl1Cur : Kd Tl1Cur := Kd.iso (Kd.pair (Kd.slice (Kd.int .u8)) (Kd.pair (Kd.int .i64) (Kd.pair (Kd.int .i64) Kd.unit))) fun x => (x.b, (x.i, (x.h_, ())))
def kTl1Cur_iso : Lens kTl1Cur (Kd.pair (Kd.slice (Kd.int .u8)) (Kd.pair (Kd.int .i64) (Kd.pair (Kd.int .i64) Kd.unit))) := Lens.iso _ _ (fun p => ⟨p.1, p.2.1, p.2.2.1⟩) (fun _ => rfl)
def kTl1Cur_b : Lens kTl1Cur (Kd.slice (Kd.int .u8)) := kTl1Cur_iso.comp (Lens.fst _ _)
def kTl1Cur_i : Lens kTl1Cur (Kd.int .i64) := kTl1Cur_iso.comp ((Lens.snd _ _).comp (Lens.fst _ _))
def kTl1Cur_h_ : Lens kTl1Cur (Kd.int .i64) := kTl1Cur_iso.comp ((Lens.snd _ _).comp ((Lens.snd _ _).comp (Lens.fst _ _)))
theorem kTl1Cur_open {s : HF} {x : Tl1Cur} {cs : List Value} (h : kTl1Cur.K s x cs) : ∃ (v0 : Value), cs = [v0, .int .i64 x.i, .int .i64 x.h_] ∧ Sl (Kd.int .u8) s v0 x.b := by
  obtain ⟨_, _, rfl, ⟨v0, rfl, g0⟩, ⟨_, _, rfl, rfl, ⟨_, _, rfl, rfl, rfl⟩⟩⟩ := h
  exact ⟨v0, rfl, g0⟩
theorem kTl1Cur_mk {s : HF} {x : Tl1Cur} {v0 : Value} (g0 : Sl (Kd.int .u8) s v0 x.b) : kTl1Cur.K s x ([v0, .int .i64 x.i, .int .i64 x.h_]) := ⟨_, _, rfl, ⟨_, rfl, g0⟩, ⟨_, _, rfl, rfl, ⟨_, _, rfl, rfl, rfl⟩⟩⟩

theorem mixed : Try.prog.follows .mixedOrders = true := by kernel_rfl
theorem un_22 : Try.prog.underlying 22 = some (.slice 5) := by kernel_rfl
theorem go_6 : Go1 Try.prog 6 := Go1.of (by kernel_rfl)
theorem ti_26 : TyI Try.prog 26 2 48 (some (.agg #[.slice none 0 0, .slice none 0 0])) := TyI.of (by kernel_rfl)
theorem ti_5 : TyI Try.prog 5 1 1 (some (.int .u8 0)) := TyI.of (by kernel_rfl)
theorem ia_5 : IsAgg Try.prog 5 false := IsAgg.of (by kernel_rfl)
theorem un_5 : Try.prog.underlying 5 = some (.int .u8) := by kernel_rfl
theorem un_3 : Try.prog.underlying 3 = some (.int .i64) := by kernel_rfl
theorem go_27 : Go1 Try.prog 27 := Go1.of (by kernel_rfl)
theorem go_29 : Go1 Try.prog 29 := Go1.of (by kernel_rfl)
theorem ti_3 : TyI Try.prog 3 1 8 (some (.int .i64 0)) := TyI.of (by kernel_rfl)
theorem fi_74_2 : FldI Try.prog 74 2 2 := FldI.of (ft := 3) (by kernel_rfl) ti_3
theorem ia_3 : IsAgg Try.prog 3 false := IsAgg.of (by kernel_rfl)
theorem fi_74_1 : FldI Try.prog 74 1 1 := FldI.of (ft := 3) (by kernel_rfl) ti_3
theorem ti_22 : TyI Try.prog 22 1 24 (some (.slice none 0 0)) := TyI.of (by kernel_rfl)
theorem fi_74_0 : FldI Try.prog 74 0 0 := FldI.of (ft := 22) (by kernel_rfl) ti_22
theorem ia_22 : IsAgg Try.prog 22 false := IsAgg.of (by kernel_rfl)
theorem go_83 : Go1 Try.prog 83 := Go1.of (by kernel_rfl)
theorem go_60 : Go1 Try.prog 60 := Go1.of (by kernel_rfl)
theorem go_78 : Go1 Try.prog 78 := Go1.of (by kernel_rfl)
theorem ti_24 : TyI Try.prog 24 1 24 (some (.slice none 0 0)) := TyI.of (by kernel_rfl)
theorem fi_26_0 : FldI Try.prog 26 0 0 := FldI.of (ft := 24) (by kernel_rfl) ti_24
theorem ia_24 : IsAgg Try.prog 24 false := IsAgg.of (by kernel_rfl)
theorem un_24 : Try.prog.underlying 24 = some (.slice 33) := by kernel_rfl
theorem ti_33 : TyI Try.prog 33 3 24 (some (.agg #[.int .i64 0, .int .i64 0, .int .i64 0])) := TyI.of (by kernel_rfl)
theorem fi_33_0 : FldI Try.prog 33 0 0 := FldI.of (ft := 3) (by kernel_rfl) ti_3
theorem ia_33 : IsAgg Try.prog 33 true := IsAgg.of (by kernel_rfl)
theorem go_75 : Go1 Try.prog 75 := Go1.of (by kernel_rfl)
theorem fi_26_1 : FldI Try.prog 26 1 1 := FldI.of (ft := 24) (by kernel_rfl) ti_24
theorem ia_26 : IsAgg Try.prog 26 true := IsAgg.of (by kernel_rfl)
theorem fi_33_1 : FldI Try.prog 33 1 1 := FldI.of (ft := 3) (by kernel_rfl) ti_3
theorem fi_33_2 : FldI Try.prog 33 2 2 := FldI.of (ft := 3) (by kernel_rfl) ti_3
theorem go_70 : Go1 Try.prog 70 := Go1.of (by kernel_rfl)
theorem go_68 : Go1 Try.prog 68 := Go1.of (by kernel_rfl)
theorem go_69 : Go1 Try.prog 69 := Go1.of (by kernel_rfl)
theorem go_84 : Go1 Try.prog 84 := Go1.of (by kernel_rfl)
theorem go_71 : Go1 Try.prog 71 := Go1.of (by kernel_rfl)
theorem go_67 : Go1 Try.prog 67 := Go1.of (by kernel_rfl)
theorem go_72 : Go1 Try.prog 72 := Go1.of (by kernel_rfl)
theorem go_73 : Go1 Try.prog 73 := Go1.of (by kernel_rfl)
theorem go_74 : Go1 Try.prog 74 := Go1.of (by kernel_rfl)
theorem un_39 : Try.prog.underlying 39 = some (.slice 3) := by kernel_rfl
theorem go_49 : Go1 Try.prog 49 := Go1.of (by kernel_rfl)
theorem go_43 : Go1 Try.prog 43 := Go1.of (by kernel_rfl)
theorem go_44 : Go1 Try.prog 44 := Go1.of (by kernel_rfl)
theorem go_57 : Go1 Try.prog 57 := Go1.of (by kernel_rfl)
theorem go_30 : Go1 Try.prog 30 := Go1.of (by kernel_rfl)
theorem go_28 : Go1 Try.prog 28 := Go1.of (by kernel_rfl)
theorem go_7 : Go1 Try.prog 7 := Go1.of (by kernel_rfl)
theorem go_61 : Go1 Try.prog 61 := Go1.of (by kernel_rfl)
theorem go_31 : Go1 Try.prog 31 := Go1.of (by kernel_rfl)
theorem go_62 : Go1 Try.prog 62 := Go1.of (by kernel_rfl)
theorem go_47 : Go1 Try.prog 47 := Go1.of (by kernel_rfl)
theorem go_32 : Go1 Try.prog 32 := Go1.of (by kernel_rfl)
theorem go_46 : Go1 Try.prog 46 := Go1.of (by kernel_rfl)
theorem go_45 : Go1 Try.prog 45 := Go1.of (by kernel_rfl)
theorem go_63 : Go1 Try.prog 63 := Go1.of (by kernel_rfl)
theorem go_36 : Go1 Try.prog 36 := Go1.of (by kernel_rfl)
theorem go_64 : Go1 Try.prog 64 := Go1.of (by kernel_rfl)
theorem go_33 : Go1 Try.prog 33 := Go1.of (by kernel_rfl)
theorem go_10 : Go1 Try.prog 10 := Go1.of (by kernel_rfl)
theorem go_65 : Go1 Try.prog 65 := Go1.of (by kernel_rfl)
theorem go_35 : Go1 Try.prog 35 := Go1.of (by kernel_rfl)
theorem go_11 : Go1 Try.prog 11 := Go1.of (by kernel_rfl)
theorem go_34 : Go1 Try.prog 34 := Go1.of (by kernel_rfl)
theorem go_37 : Go1 Try.prog 37 := Go1.of (by kernel_rfl)
theorem go_66 : Go1 Try.prog 66 := Go1.of (by kernel_rfl)
theorem go_38 : Go1 Try.prog 38 := Go1.of (by kernel_rfl)
theorem go_39 : Go1 Try.prog 39 := Go1.of (by kernel_rfl)
theorem go_8 : Go1 Try.prog 8 := Go1.of (by kernel_rfl)
theorem go_40 : Go1 Try.prog 40 := Go1.of (by kernel_rfl)
theorem go_42 : Go1 Try.prog 42 := Go1.of (by kernel_rfl)
theorem go_41 : Go1 Try.prog 41 := Go1.of (by kernel_rfl)
theorem go_9 : Go1 Try.prog 9 := Go1.of (by kernel_rfl)
theorem go_13 : Go1 Try.prog 13 := Go1.of (by kernel_rfl)
theorem go_51 : Go1 Try.prog 51 := Go1.of (by kernel_rfl)
theorem go_52 : Go1 Try.prog 52 := Go1.of (by kernel_rfl)
theorem go_53 : Go1 Try.prog 53 := Go1.of (by kernel_rfl)
theorem go_15 : Go1 Try.prog 15 := Go1.of (by kernel_rfl)
theorem go_22 : Go1 Try.prog 22 := Go1.of (by kernel_rfl)
theorem go_23 : Go1 Try.prog 23 := Go1.of (by kernel_rfl)
theorem go_24 : Go1 Try.prog 24 := Go1.of (by kernel_rfl)
theorem go_79 : Go1 Try.prog 79 := Go1.of (by kernel_rfl)
theorem go_85 : Go1 Try.prog 85 := Go1.of (by kernel_rfl)
theorem go_80 : Go1 Try.prog 80 := Go1.of (by kernel_rfl)
theorem go_58 : Go1 Try.prog 58 := Go1.of (by kernel_rfl)
theorem go_25 : Go1 Try.prog 25 := Go1.of (by kernel_rfl)
theorem go_81 : Go1 Try.prog 81 := Go1.of (by kernel_rfl)
theorem go_82 : Go1 Try.prog 82 := Go1.of (by kernel_rfl)
theorem go_59 : Go1 Try.prog 59 := Go1.of (by kernel_rfl)
theorem go_26 : Go1 Try.prog 26 := Go1.of (by kernel_rfl)
end Go.Proofs.Ytbcpkopchnlefaa
