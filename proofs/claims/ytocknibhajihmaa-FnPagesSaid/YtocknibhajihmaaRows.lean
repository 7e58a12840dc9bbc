/-
  No cell of these rows narrows 'for every input' (looked for: loops, veiled, ifaces, maps, wideKeys, modest, calm, conditions, laid).
  DERIVED. THE GIVEN ROWS OF THIS SEAT. 8 by the template 'for every input the law returns true; each argument reads behind the call as it read before'; 0 by the template 'total and deterministic' (their statements: YtocknibhajihmaaTotals.lean).
  GIVEN WITH THE SEED: the statements are not yours to turn. If you find one false, say at which input.
  Laid BY PROGRAM, IN A SANDBOX (cutbox-rows.mjs): the forced cells as the released guide's own fill.sh prints them over the translation 7562470abf94db42… (all of the seat's roots in one cut). By AI agents, Wed Nov 11 2026. No macro, syntax, notation, axiom, sorry.
-/
import Derived.Test.YtocknibhajihmaaChecked
import GoSem.Claim
import GoSem.ClaimJoined
import GoSem.ClaimMapViews
import Derived.JoinedTies
import Derived.KernelRfl
namespace Go.Proofs.Ytocknibhajihmaa
/- THE CELL 'sum', in the pinned program and in every row, IS THE sha256 OF THE DUMP (.gsa) THAT YtocknibhajihmaaProg.lean LOADS. Nothing in Lean hashes anything: it is a label: what it is worth is what the hold of that sum in a sandbox is worth. -/
noncomputable def Try.pinned : Pinned := { name := "ytocknibhajihmaa", sum := "7562470abf94db424bd95523eb5c2b3312c5f8c95ff9e3cf06f54a19b4472605", checked := Try.checked }
namespace Rows
def none {H : Type} : Left H := { results := [], args := [] }

/-- 'laws.FnExactDump': WHATEVER THE INPUT: true; the input reads as it did. -/
def fnExactDumpSpec : ChangeSpec := { name := "fnExactDump", fn := fun _ => fun
  | [d] => { results := [.lit (.bool true)], args := [d] }
  | _ => none }
def fnExactDumpRow : OpenClaim := { program := "ytocknibhajihmaa", sum := "7562470abf94db424bd95523eb5c2b3312c5f8c95ff9e3cf06f54a19b4472605", func := "loop.example/g00181/laws.FnExactDump", spec := "fnExactDump", unfollowed := true, recurses := true, apart := false }
def FnExactDumpSaid : Prop := fnExactDumpRow.holds Try.pinned (OpenSpec.ofChange fnExactDumpSpec)

/-- ITS FALSE NEIGHBOUR: 'it returns false'. Refute it at one input. -/
def fnExactDumpWrong : ChangeSpec := { name := "fnExactDump", fn := fun _ => fun
  | [d] => { results := [.lit (.bool false)], args := [d] }
  | _ => none }
def FnExactDumpWrongFalsely : Prop := fnExactDumpRow.holds Try.pinned (OpenSpec.ofChange fnExactDumpWrong)

/-- 'laws.FnRecords': WHATEVER THE INPUT: true; the input reads as it did. -/
def fnRecordsSpec : ChangeSpec := { name := "fnRecords", fn := fun _ => fun
  | [d] => { results := [.lit (.bool true)], args := [d] }
  | _ => none }
def fnRecordsRow : OpenClaim := { program := "ytocknibhajihmaa", sum := "7562470abf94db424bd95523eb5c2b3312c5f8c95ff9e3cf06f54a19b4472605", func := "loop.example/g00181/laws.FnRecords", spec := "fnRecords", unfollowed := true, recurses := true, apart := false }
def FnRecordsSaid : Prop := fnRecordsRow.holds Try.pinned (OpenSpec.ofChange fnRecordsSpec)

/-- ITS FALSE NEIGHBOUR: 'it returns false'. Refute it at one input. -/
def fnRecordsWrong : ChangeSpec := { name := "fnRecords", fn := fun _ => fun
  | [d] => { results := [.lit (.bool false)], args := [d] }
  | _ => none }
def FnRecordsWrongFalsely : Prop := fnRecordsRow.holds Try.pinned (OpenSpec.ofChange fnRecordsWrong)

/-- 'laws.FnPages': WHATEVER THE INPUT: true; the input reads as it did. -/
def fnPagesSpec : ChangeSpec := { name := "fnPages", fn := fun _ => fun
  | [d] => { results := [.lit (.bool true)], args := [d] }
  | _ => none }
def fnPagesRow : OpenClaim := { program := "ytocknibhajihmaa", sum := "7562470abf94db424bd95523eb5c2b3312c5f8c95ff9e3cf06f54a19b4472605", func := "loop.example/g00181/laws.FnPages", spec := "fnPages", unfollowed := true, recurses := true, apart := false }
def FnPagesSaid : Prop := fnPagesRow.holds Try.pinned (OpenSpec.ofChange fnPagesSpec)

/-- ITS FALSE NEIGHBOUR: 'it returns false'. Refute it at one input. -/
def fnPagesWrong : ChangeSpec := { name := "fnPages", fn := fun _ => fun
  | [d] => { results := [.lit (.bool false)], args := [d] }
  | _ => none }
def FnPagesWrongFalsely : Prop := fnPagesRow.holds Try.pinned (OpenSpec.ofChange fnPagesWrong)

/-- 'laws.FnExactGetPage': WHATEVER THE INPUT: true; the input reads as it did. -/
def fnExactGetPageSpec : ChangeSpec := { name := "fnExactGetPage", fn := fun _ => fun
  | [d] => { results := [.lit (.bool true)], args := [d] }
  | _ => none }
def fnExactGetPageRow : OpenClaim := { program := "ytocknibhajihmaa", sum := "7562470abf94db424bd95523eb5c2b3312c5f8c95ff9e3cf06f54a19b4472605", func := "loop.example/g00181/laws.FnExactGetPage", spec := "fnExactGetPage", unfollowed := true, recurses := true, apart := false }
def FnExactGetPageSaid : Prop := fnExactGetPageRow.holds Try.pinned (OpenSpec.ofChange fnExactGetPageSpec)

/-- ITS FALSE NEIGHBOUR: 'it returns false'. Refute it at one input. -/
def fnExactGetPageWrong : ChangeSpec := { name := "fnExactGetPage", fn := fun _ => fun
  | [d] => { results := [.lit (.bool false)], args := [d] }
  | _ => none }
def FnExactGetPageWrongFalsely : Prop := fnExactGetPageRow.holds Try.pinned (OpenSpec.ofChange fnExactGetPageWrong)

/-- 'laws.FnExactGetRec': WHATEVER THE INPUT: true; the input reads as it did. -/
def fnExactGetRecSpec : ChangeSpec := { name := "fnExactGetRec", fn := fun _ => fun
  | [d] => { results := [.lit (.bool true)], args := [d] }
  | _ => none }
def fnExactGetRecRow : OpenClaim := { program := "ytocknibhajihmaa", sum := "7562470abf94db424bd95523eb5c2b3312c5f8c95ff9e3cf06f54a19b4472605", func := "loop.example/g00181/laws.FnExactGetRec", spec := "fnExactGetRec", unfollowed := true, recurses := true, apart := false }
def FnExactGetRecSaid : Prop := fnExactGetRecRow.holds Try.pinned (OpenSpec.ofChange fnExactGetRecSpec)

/-- ITS FALSE NEIGHBOUR: 'it returns false'. Refute it at one input. -/
def fnExactGetRecWrong : ChangeSpec := { name := "fnExactGetRec", fn := fun _ => fun
  | [d] => { results := [.lit (.bool false)], args := [d] }
  | _ => none }
def FnExactGetRecWrongFalsely : Prop := fnExactGetRecRow.holds Try.pinned (OpenSpec.ofChange fnExactGetRecWrong)

/-- 'laws.FnExactLoad': WHATEVER THE INPUT: true; the input reads as it did. -/
def fnExactLoadSpec : ChangeSpec := { name := "fnExactLoad", fn := fun _ => fun
  | [d] => { results := [.lit (.bool true)], args := [d] }
  | _ => none }
def fnExactLoadRow : OpenClaim := { program := "ytocknibhajihmaa", sum := "7562470abf94db424bd95523eb5c2b3312c5f8c95ff9e3cf06f54a19b4472605", func := "loop.example/g00181/laws.FnExactLoad", spec := "fnExactLoad", unfollowed := true, recurses := true, apart := false }
def FnExactLoadSaid : Prop := fnExactLoadRow.holds Try.pinned (OpenSpec.ofChange fnExactLoadSpec)

/-- ITS FALSE NEIGHBOUR: 'it returns false'. Refute it at one input. -/
def fnExactLoadWrong : ChangeSpec := { name := "fnExactLoad", fn := fun _ => fun
  | [d] => { results := [.lit (.bool false)], args := [d] }
  | _ => none }
def FnExactLoadWrongFalsely : Prop := fnExactLoadRow.holds Try.pinned (OpenSpec.ofChange fnExactLoadWrong)

/-- 'laws.FnExactReadLog': WHATEVER THE INPUT: true; the input reads as it did. -/
def fnExactReadLogSpec : ChangeSpec := { name := "fnExactReadLog", fn := fun _ => fun
  | [d] => { results := [.lit (.bool true)], args := [d] }
  | _ => none }
def fnExactReadLogRow : OpenClaim := { program := "ytocknibhajihmaa", sum := "7562470abf94db424bd95523eb5c2b3312c5f8c95ff9e3cf06f54a19b4472605", func := "loop.example/g00181/laws.FnExactReadLog", spec := "fnExactReadLog", unfollowed := true, recurses := true, apart := false }
def FnExactReadLogSaid : Prop := fnExactReadLogRow.holds Try.pinned (OpenSpec.ofChange fnExactReadLogSpec)

/-- ITS FALSE NEIGHBOUR: 'it returns false'. Refute it at one input. -/
def fnExactReadLogWrong : ChangeSpec := { name := "fnExactReadLog", fn := fun _ => fun
  | [d] => { results := [.lit (.bool false)], args := [d] }
  | _ => none }
def FnExactReadLogWrongFalsely : Prop := fnExactReadLogRow.holds Try.pinned (OpenSpec.ofChange fnExactReadLogWrong)

/-- 'laws.FnLogs': WHATEVER THE INPUT: true; the input reads as it did. -/
def fnLogsSpec : ChangeSpec := { name := "fnLogs", fn := fun _ => fun
  | [d] => { results := [.lit (.bool true)], args := [d] }
  | _ => none }
def fnLogsRow : OpenClaim := { program := "ytocknibhajihmaa", sum := "7562470abf94db424bd95523eb5c2b3312c5f8c95ff9e3cf06f54a19b4472605", func := "loop.example/g00181/laws.FnLogs", spec := "fnLogs", unfollowed := true, recurses := true, apart := false }
def FnLogsSaid : Prop := fnLogsRow.holds Try.pinned (OpenSpec.ofChange fnLogsSpec)

/-- ITS FALSE NEIGHBOUR: 'it returns false'. Refute it at one input. -/
def fnLogsWrong : ChangeSpec := { name := "fnLogs", fn := fun _ => fun
  | [d] => { results := [.lit (.bool false)], args := [d] }
  | _ => none }
def FnLogsWrongFalsely : Prop := fnLogsRow.holds Try.pinned (OpenSpec.ofChange fnLogsWrong)

/- THE SECOND FORM. 'bulk': how many values and letters a reading holds, each counted each time it is reached (what is shared counts as often as it is met; a slice's spare places count too). A statement '..UptoSaid' is the law's where the arguments, and the package variables that the reading takes, are together of bulk at most 1048576: NARROWER than '..Said'. Prove '..Said' where nothing that the law and all that it calls make is longer than what came in: it says more and counts as full. Else prove '..UptoSaid'. A law counts once. -/
mutual
def uptoBulk {H : Type} : DataW H → Nat
  | .lit (.string bytes) => bytes.length + 1
  | .lit _ => 1
  | .nil => 1
  | .ptr d => uptoBulk d + 1
  | .slice elems spare => uptoBulkAll elems + uptoBulkAll spare + 1
  | .agg parts => uptoBulkAll parts + 1
  | .iface _ d => uptoBulk d + 1
  | .map entries => uptoBulkEntries entries + 1
  | .held _ => 1
def uptoBulkAll {H : Type} : List (DataW H) → Nat
  | [] => 0
  | d :: r => uptoBulk d + uptoBulkAll r
def uptoBulkEntries {H : Type} : List (Lit × DataW H) → Nat
  | [] => 0
  | x :: r => uptoBulkEntry x + uptoBulkEntries r
def uptoBulkEntry {H : Type} : Lit × DataW H → Nat
  | (.string bytes, d) => bytes.length + uptoBulk d + 1
  | (_, d) => uptoBulk d + 1
 end
def uptoSmall : (H : Type) → List (DataW H) → Bool := fun _ ds => decide (uptoBulkAll ds ≤ 1048576)
def OpenSpec.upto (s : _root_.Go.ChangeSpec) : _root_.Go.OpenSpec := { _root_.Go.OpenSpec.ofChange s with cond := some uptoSmall }

/-- 'laws.FnExactDump', WHERE WHAT IT READS IS OF BULK AT MOST 1048576: true; the input reads as it did. -/
def fnExactDumpUptoRow : OpenClaim := { program := "ytocknibhajihmaa", sum := "7562470abf94db424bd95523eb5c2b3312c5f8c95ff9e3cf06f54a19b4472605", func := "loop.example/g00181/laws.FnExactDump", spec := "fnExactDump", unfollowed := true, recurses := true, apart := false, narrowed := true }
def FnExactDumpUptoSaid : Prop := fnExactDumpUptoRow.holds Try.pinned (OpenSpec.upto fnExactDumpSpec)

/-- 'laws.FnRecords', WHERE WHAT IT READS IS OF BULK AT MOST 1048576: true; the input reads as it did. -/
def fnRecordsUptoRow : OpenClaim := { program := "ytocknibhajihmaa", sum := "7562470abf94db424bd95523eb5c2b3312c5f8c95ff9e3cf06f54a19b4472605", func := "loop.example/g00181/laws.FnRecords", spec := "fnRecords", unfollowed := true, recurses := true, apart := false, narrowed := true }
def FnRecordsUptoSaid : Prop := fnRecordsUptoRow.holds Try.pinned (OpenSpec.upto fnRecordsSpec)

/-- 'laws.FnPages', WHERE WHAT IT READS IS OF BULK AT MOST 1048576: true; the input reads as it did. -/
def fnPagesUptoRow : OpenClaim := { program := "ytocknibhajihmaa", sum := "7562470abf94db424bd95523eb5c2b3312c5f8c95ff9e3cf06f54a19b4472605", func := "loop.example/g00181/laws.FnPages", spec := "fnPages", unfollowed := true, recurses := true, apart := false, narrowed := true }
def FnPagesUptoSaid : Prop := fnPagesUptoRow.holds Try.pinned (OpenSpec.upto fnPagesSpec)

/-- 'laws.FnExactGetPage', WHERE WHAT IT READS IS OF BULK AT MOST 1048576: true; the input reads as it did. -/
def fnExactGetPageUptoRow : OpenClaim := { program := "ytocknibhajihmaa", sum := "7562470abf94db424bd95523eb5c2b3312c5f8c95ff9e3cf06f54a19b4472605", func := "loop.example/g00181/laws.FnExactGetPage", spec := "fnExactGetPage", unfollowed := true, recurses := true, apart := false, narrowed := true }
def FnExactGetPageUptoSaid : Prop := fnExactGetPageUptoRow.holds Try.pinned (OpenSpec.upto fnExactGetPageSpec)

/-- 'laws.FnExactGetRec', WHERE WHAT IT READS IS OF BULK AT MOST 1048576: true; the input reads as it did. -/
def fnExactGetRecUptoRow : OpenClaim := { program := "ytocknibhajihmaa", sum := "7562470abf94db424bd95523eb5c2b3312c5f8c95ff9e3cf06f54a19b4472605", func := "loop.example/g00181/laws.FnExactGetRec", spec := "fnExactGetRec", unfollowed := true, recurses := true, apart := false, narrowed := true }
def FnExactGetRecUptoSaid : Prop := fnExactGetRecUptoRow.holds Try.pinned (OpenSpec.upto fnExactGetRecSpec)

/-- 'laws.FnExactLoad', WHERE WHAT IT READS IS OF BULK AT MOST 1048576: true; the input reads as it did. -/
def fnExactLoadUptoRow : OpenClaim := { program := "ytocknibhajihmaa", sum := "7562470abf94db424bd95523eb5c2b3312c5f8c95ff9e3cf06f54a19b4472605", func := "loop.example/g00181/laws.FnExactLoad", spec := "fnExactLoad", unfollowed := true, recurses := true, apart := false, narrowed := true }
def FnExactLoadUptoSaid : Prop := fnExactLoadUptoRow.holds Try.pinned (OpenSpec.upto fnExactLoadSpec)

/-- 'laws.FnExactReadLog', WHERE WHAT IT READS IS OF BULK AT MOST 1048576: true; the input reads as it did. -/
def fnExactReadLogUptoRow : OpenClaim := { program := "ytocknibhajihmaa", sum := "7562470abf94db424bd95523eb5c2b3312c5f8c95ff9e3cf06f54a19b4472605", func := "loop.example/g00181/laws.FnExactReadLog", spec := "fnExactReadLog", unfollowed := true, recurses := true, apart := false, narrowed := true }
def FnExactReadLogUptoSaid : Prop := fnExactReadLogUptoRow.holds Try.pinned (OpenSpec.upto fnExactReadLogSpec)

/-- 'laws.FnLogs', WHERE WHAT IT READS IS OF BULK AT MOST 1048576: true; the input reads as it did. -/
def fnLogsUptoRow : OpenClaim := { program := "ytocknibhajihmaa", sum := "7562470abf94db424bd95523eb5c2b3312c5f8c95ff9e3cf06f54a19b4472605", func := "loop.example/g00181/laws.FnLogs", spec := "fnLogs", unfollowed := true, recurses := true, apart := false, narrowed := true }
def FnLogsUptoSaid : Prop := fnLogsUptoRow.holds Try.pinned (OpenSpec.upto fnLogsSpec)

end Rows
end Go.Proofs.Ytocknibhajihmaa
