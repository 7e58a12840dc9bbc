/-
  No cell of these rows narrows 'for every input' (looked for: loops, veiled, ifaces, maps, wideKeys, modest, calm, conditions, laid).
  DERIVED. THE GIVEN ROWS OF THIS SEAT. 4 by the template 'for every input the law returns true; each argument reads behind the call as it read before'; 0 by the template 'total and deterministic' (their statements: YthficejgcbadjaaGreatTotals.lean).
  GIVEN WITH THE SEED: the statements are not yours to turn. If you find one false, say at which input.
  Laid BY PROGRAM, IN A SANDBOX (cutbox-rows.mjs): the forced cells as the released guide's own fill.sh prints them over the translation 955e360b50286a23… (all of the seat's roots in one cut). By AI agents, Wed Nov 11 2026. No macro, syntax, notation, axiom, sorry.
-/
import Derived.Test.YthficejgcbadjaaGreatChecked
import GoSem.Claim
import GoSem.ClaimJoined
import GoSem.ClaimMapViews
import Derived.JoinedTies
import Derived.KernelRfl
namespace Go.Proofs.YthficejgcbadjaaGreat
/- THE CELL 'sum', in the pinned program and in every row, IS THE sha256 OF THE DUMP (.gsa) THAT YthficejgcbadjaaGreatProg.lean LOADS. Nothing in Lean hashes anything: it is a label: what it is worth is what the hold of that sum in a sandbox is worth. -/
noncomputable def Tryz.pinned : Pinned := { name := "ythficejgcbadjaagreat", sum := "955e360b50286a230f86a46f3d288e55d45adf5028b740994a3db17782de69fd", checked := Tryz.checked }
namespace Rows
def none {H : Type} : Left H := { results := [], args := [] }

/-- 'laws.FnExactAhead': WHATEVER THE INPUT: true; the input reads as it did. -/
def fnExactAheadSpec : ChangeSpec := { name := "fnExactAhead", fn := fun _ => fun
  | [d] => { results := [.lit (.bool true)], args := [d] }
  | _ => none }
def fnExactAheadRow : OpenClaim := { program := "ythficejgcbadjaagreat", sum := "955e360b50286a230f86a46f3d288e55d45adf5028b740994a3db17782de69fd", func := "loop.example/g00181/laws.FnExactAhead", spec := "fnExactAhead", unfollowed := true, recurses := true, apart := false }
def FnExactAheadSaid : Prop := fnExactAheadRow.holds Tryz.pinned (OpenSpec.ofChange fnExactAheadSpec)

/-- ITS FALSE NEIGHBOUR: 'it returns false'. Refute it at one input. -/
def fnExactAheadWrong : ChangeSpec := { name := "fnExactAhead", fn := fun _ => fun
  | [d] => { results := [.lit (.bool false)], args := [d] }
  | _ => none }
def FnExactAheadWrongFalsely : Prop := fnExactAheadRow.holds Tryz.pinned (OpenSpec.ofChange fnExactAheadWrong)

/-- 'laws.FnPicked': WHATEVER THE INPUT: true; the input reads as it did. -/
def fnPickedSpec : ChangeSpec := { name := "fnPicked", fn := fun _ => fun
  | [d] => { results := [.lit (.bool true)], args := [d] }
  | _ => none }
def fnPickedRow : OpenClaim := { program := "ythficejgcbadjaagreat", sum := "955e360b50286a230f86a46f3d288e55d45adf5028b740994a3db17782de69fd", func := "loop.example/g00181/laws.FnPicked", spec := "fnPicked", unfollowed := true, recurses := true, apart := false }
def FnPickedSaid : Prop := fnPickedRow.holds Tryz.pinned (OpenSpec.ofChange fnPickedSpec)

/-- ITS FALSE NEIGHBOUR: 'it returns false'. Refute it at one input. -/
def fnPickedWrong : ChangeSpec := { name := "fnPicked", fn := fun _ => fun
  | [d] => { results := [.lit (.bool false)], args := [d] }
  | _ => none }
def FnPickedWrongFalsely : Prop := fnPickedRow.holds Tryz.pinned (OpenSpec.ofChange fnPickedWrong)

/-- 'laws.FnPlayed': WHATEVER THE INPUT: true; the input reads as it did. -/
def fnPlayedSpec : ChangeSpec := { name := "fnPlayed", fn := fun _ => fun
  | [d] => { results := [.lit (.bool true)], args := [d] }
  | _ => none }
def fnPlayedRow : OpenClaim := { program := "ythficejgcbadjaagreat", sum := "955e360b50286a230f86a46f3d288e55d45adf5028b740994a3db17782de69fd", func := "loop.example/g00181/laws.FnPlayed", spec := "fnPlayed", inPlace := ["slices.overlaps[loop.example/g00181/impl.Live]"], unfollowed := true, recurses := true, apart := false }
def FnPlayedSaid : Prop := fnPlayedRow.holds Tryz.pinned (OpenSpec.ofChange fnPlayedSpec)

/-- ITS FALSE NEIGHBOUR: 'it returns false'. Refute it at one input. -/
def fnPlayedWrong : ChangeSpec := { name := "fnPlayed", fn := fun _ => fun
  | [d] => { results := [.lit (.bool false)], args := [d] }
  | _ => none }
def FnPlayedWrongFalsely : Prop := fnPlayedRow.holds Tryz.pinned (OpenSpec.ofChange fnPlayedWrong)

/-- 'laws.FnTop': WHATEVER THE INPUT: true; the input reads as it did. -/
def fnTopSpec : ChangeSpec := { name := "fnTop", fn := fun _ => fun
  | [d] => { results := [.lit (.bool true)], args := [d] }
  | _ => none }
def fnTopRow : OpenClaim := { program := "ythficejgcbadjaagreat", sum := "955e360b50286a230f86a46f3d288e55d45adf5028b740994a3db17782de69fd", func := "loop.example/g00181/laws.FnTop", spec := "fnTop", inPlace := ["slices.overlaps[loop.example/g00181/impl.Live]"], unfollowed := true, recurses := true, apart := false }
def FnTopSaid : Prop := fnTopRow.holds Tryz.pinned (OpenSpec.ofChange fnTopSpec)

/-- ITS FALSE NEIGHBOUR: 'it returns false'. Refute it at one input. -/
def fnTopWrong : ChangeSpec := { name := "fnTop", fn := fun _ => fun
  | [d] => { results := [.lit (.bool false)], args := [d] }
  | _ => none }
def FnTopWrongFalsely : Prop := fnTopRow.holds Tryz.pinned (OpenSpec.ofChange fnTopWrong)

/- THE SECOND FORM. 'bulk': how many values and letters a reading holds, each counted each time it is reached (what is shared counts as often as it is met; a slice's spare places count too). A statement '..UptoSaid' is the law's where the arguments, and the package variables that the reading takes, are together of bulk at most 1048576: NARROWER than '..Said'. Prove '..Said' where nothing that the law and all that it calls make is longer than what came in: it says more and counts as full. Else prove '..UptoSaid'. A law counts once. -/
mutual
def uptoBulk {H : Type} : DataW H → Nat
  | .lit (.string bytes) => bytes.length + 1
  | .lit _ => 1
  | .nil => 1
  | .ptr d => uptoBulk d + 1
  | .slice elems spare => uptoBulkAll elems + uptoBulkAll spare + 1
  | .agg parts => uptoBulkAll parts + 1
  | .iface _ d => uptoBulk d + 1
  | .map entries => uptoBulkEntries entries + 1
  | .held _ => 1
def uptoBulkAll {H : Type} : List (DataW H) → Nat
  | [] => 0
  | d :: r => uptoBulk d + uptoBulkAll r
def uptoBulkEntries {H : Type} : List (Lit × DataW H) → Nat
  | [] => 0
  | x :: r => uptoBulkEntry x + uptoBulkEntries r
def uptoBulkEntry {H : Type} : Lit × DataW H → Nat
  | (.string bytes, d) => bytes.length + uptoBulk d + 1
  | (_, d) => uptoBulk d + 1
 end
def uptoSmall : (H : Type) → List (DataW H) → Bool := fun _ ds => decide (uptoBulkAll ds ≤ 1048576)
def OpenSpec.upto (s : _root_.Go.ChangeSpec) : _root_.Go.OpenSpec := { _root_.Go.OpenSpec.ofChange s with cond := some uptoSmall }

/-- 'laws.FnExactAhead', WHERE WHAT IT READS IS OF BULK AT MOST 1048576: true; the input reads as it did. -/
def fnExactAheadUptoRow : OpenClaim := { program := "ythficejgcbadjaagreat", sum := "955e360b50286a230f86a46f3d288e55d45adf5028b740994a3db17782de69fd", func := "loop.example/g00181/laws.FnExactAhead", spec := "fnExactAhead", unfollowed := true, recurses := true, apart := false, narrowed := true }
def FnExactAheadUptoSaid : Prop := fnExactAheadUptoRow.holds Tryz.pinned (OpenSpec.upto fnExactAheadSpec)

/-- 'laws.FnPicked', WHERE WHAT IT READS IS OF BULK AT MOST 1048576: true; the input reads as it did. -/
def fnPickedUptoRow : OpenClaim := { program := "ythficejgcbadjaagreat", sum := "955e360b50286a230f86a46f3d288e55d45adf5028b740994a3db17782de69fd", func := "loop.example/g00181/laws.FnPicked", spec := "fnPicked", unfollowed := true, recurses := true, apart := false, narrowed := true }
def FnPickedUptoSaid : Prop := fnPickedUptoRow.holds Tryz.pinned (OpenSpec.upto fnPickedSpec)

/-- 'laws.FnPlayed', WHERE WHAT IT READS IS OF BULK AT MOST 1048576: true; the input reads as it did. -/
def fnPlayedUptoRow : OpenClaim := { program := "ythficejgcbadjaagreat", sum := "955e360b50286a230f86a46f3d288e55d45adf5028b740994a3db17782de69fd", func := "loop.example/g00181/laws.FnPlayed", spec := "fnPlayed", inPlace := ["slices.overlaps[loop.example/g00181/impl.Live]"], unfollowed := true, recurses := true, apart := false, narrowed := true }
def FnPlayedUptoSaid : Prop := fnPlayedUptoRow.holds Tryz.pinned (OpenSpec.upto fnPlayedSpec)

/-- 'laws.FnTop', WHERE WHAT IT READS IS OF BULK AT MOST 1048576: true; the input reads as it did. -/
def fnTopUptoRow : OpenClaim := { program := "ythficejgcbadjaagreat", sum := "955e360b50286a230f86a46f3d288e55d45adf5028b740994a3db17782de69fd", func := "loop.example/g00181/laws.FnTop", spec := "fnTop", inPlace := ["slices.overlaps[loop.example/g00181/impl.Live]"], unfollowed := true, recurses := true, apart := false, narrowed := true }
def FnTopUptoSaid : Prop := fnTopUptoRow.holds Tryz.pinned (OpenSpec.upto fnTopSpec)

end Rows
end Go.Proofs.YthficejgcbadjaaGreat
