/-
  No cell of these rows narrows 'for every input' (looked for: loops, veiled, ifaces, maps, wideKeys, modest, calm, conditions, laid).
  DERIVED. THE GIVEN ROWS OF THIS SEAT. 4 by the template 'for every input the law returns true; each argument reads behind the call as it read before'; 0 by the template 'total and deterministic' (their statements: YtmfhchaoijiodaaTotals.lean).
  GIVEN WITH THE SEED: the statements are not yours to turn. If you find one false, say at which input.
  Laid BY PROGRAM, IN A SANDBOX (cutbox-rows.mjs): the forced cells as the released guide's own fill.sh prints them over the translation fb95e8471de39aac… (all of the seat's roots in one cut). By AI agents, Wed Nov 11 2026. No macro, syntax, notation, axiom, sorry.
-/
import Derived.Test.YtmfhchaoijiodaaChecked
import GoSem.Claim
import GoSem.ClaimJoined
import GoSem.ClaimMapViews
import Derived.JoinedTies
import Derived.KernelRfl
namespace Go.Proofs.Ytmfhchaoijiodaa
/- THE CELL 'sum', in the pinned program and in every row, IS THE sha256 OF THE DUMP (.gsa) THAT YtmfhchaoijiodaaProg.lean LOADS. Nothing in Lean hashes anything: it is a label: what it is worth is what the hold of that sum in a sandbox is worth. -/
noncomputable def Try.pinned : Pinned := { name := "ytmfhchaoijiodaa", sum := "fb95e8471de39aacf98fa156e102aaf7ebe4042902d8a74803b1d411dfea184f", checked := Try.checked }
namespace Rows
def none {H : Type} : Left H := { results := [], args := [] }

/-- 'ladelaw26.CutLeast': WHATEVER THE INPUT: true; the input reads as it did. -/
def cutLeastSpec : ChangeSpec := { name := "cutLeast", fn := fun _ => fun
  | [d1, d2] => { results := [.lit (.bool true)], args := [d1, d2] }
  | _ => none }
def cutLeastRow : OpenClaim := { program := "ytmfhchaoijiodaa", sum := "fb95e8471de39aacf98fa156e102aaf7ebe4042902d8a74803b1d411dfea184f", func := "lade/ladelaw26.CutLeast", spec := "cutLeast", inPlace := ["maps.clone"], unfollowed := true, recurses := true, apart := false }
def CutLeastSaid : Prop := cutLeastRow.holds Try.pinned (OpenSpec.ofChange cutLeastSpec)

/-- ITS FALSE NEIGHBOUR: 'it returns false'. Refute it at one input. -/
def cutLeastWrong : ChangeSpec := { name := "cutLeast", fn := fun _ => fun
  | [d1, d2] => { results := [.lit (.bool false)], args := [d1, d2] }
  | _ => none }
def CutLeastWrongFalsely : Prop := cutLeastRow.holds Try.pinned (OpenSpec.ofChange cutLeastWrong)

/-- 'ladelaw7.ManyAnew': WHATEVER THE INPUT: true; the input reads as it did. -/
def manyAnewSpec : ChangeSpec := { name := "manyAnew", fn := fun _ => fun
  | [d1, d2] => { results := [.lit (.bool true)], args := [d1, d2] }
  | _ => none }
def manyAnewRow : OpenClaim := { program := "ytmfhchaoijiodaa", sum := "fb95e8471de39aacf98fa156e102aaf7ebe4042902d8a74803b1d411dfea184f", func := "lade/ladelaw7.ManyAnew", spec := "manyAnew", inPlace := ["maps.clone"], unfollowed := true, recurses := true, apart := false }
def ManyAnewSaid : Prop := manyAnewRow.holds Try.pinned (OpenSpec.ofChange manyAnewSpec)

/-- ITS FALSE NEIGHBOUR: 'it returns false'. Refute it at one input. -/
def manyAnewWrong : ChangeSpec := { name := "manyAnew", fn := fun _ => fun
  | [d1, d2] => { results := [.lit (.bool false)], args := [d1, d2] }
  | _ => none }
def ManyAnewWrongFalsely : Prop := manyAnewRow.holds Try.pinned (OpenSpec.ofChange manyAnewWrong)

/-- 'ladelaw7.ManySettled': WHATEVER THE INPUT: true; the input reads as it did. -/
def manySettledSpec : ChangeSpec := { name := "manySettled", fn := fun _ => fun
  | [d1, d2, d3] => { results := [.lit (.bool true)], args := [d1, d2, d3] }
  | _ => none }
def manySettledRow : OpenClaim := { program := "ytmfhchaoijiodaa", sum := "fb95e8471de39aacf98fa156e102aaf7ebe4042902d8a74803b1d411dfea184f", func := "lade/ladelaw7.ManySettled", spec := "manySettled", inPlace := ["maps.clone"], unfollowed := true, recurses := true, apart := false }
def ManySettledSaid : Prop := manySettledRow.holds Try.pinned (OpenSpec.ofChange manySettledSpec)

/-- ITS FALSE NEIGHBOUR: 'it returns false'. Refute it at one input. -/
def manySettledWrong : ChangeSpec := { name := "manySettled", fn := fun _ => fun
  | [d1, d2, d3] => { results := [.lit (.bool false)], args := [d1, d2, d3] }
  | _ => none }
def ManySettledWrongFalsely : Prop := manySettledRow.holds Try.pinned (OpenSpec.ofChange manySettledWrong)

/-- 'ladelaw7.ManyLimits': WHATEVER THE INPUT: true; the input reads as it did. -/
def manyLimitsSpec : ChangeSpec := { name := "manyLimits", fn := fun _ => fun
  | [d1, d2] => { results := [.lit (.bool true)], args := [d1, d2] }
  | _ => none }
def manyLimitsRow : OpenClaim := { program := "ytmfhchaoijiodaa", sum := "fb95e8471de39aacf98fa156e102aaf7ebe4042902d8a74803b1d411dfea184f", func := "lade/ladelaw7.ManyLimits", spec := "manyLimits", inPlace := ["maps.clone"], unfollowed := true, recurses := true, apart := false }
def ManyLimitsSaid : Prop := manyLimitsRow.holds Try.pinned (OpenSpec.ofChange manyLimitsSpec)

/-- ITS FALSE NEIGHBOUR: 'it returns false'. Refute it at one input. -/
def manyLimitsWrong : ChangeSpec := { name := "manyLimits", fn := fun _ => fun
  | [d1, d2] => { results := [.lit (.bool false)], args := [d1, d2] }
  | _ => none }
def ManyLimitsWrongFalsely : Prop := manyLimitsRow.holds Try.pinned (OpenSpec.ofChange manyLimitsWrong)

/- THE SECOND FORM. 'bulk': how many values and letters a reading holds, each counted each time it is reached (what is shared counts as often as it is met; a slice's spare places count too). A statement '..UptoSaid' is the law's where the arguments, and the package variables that the reading takes, are together of bulk at most 1048576: NARROWER than '..Said'. Prove '..Said' where nothing that the law and all that it calls make is longer than what came in: it says more and counts as full. Else prove '..UptoSaid'. A law counts once. -/
mutual
def uptoBulk {H : Type} : DataW H → Nat
  | .lit (.string bytes) => bytes.length + 1
  | .lit _ => 1
  | .nil => 1
  | .ptr d => uptoBulk d + 1
  | .slice elems spare => uptoBulkAll elems + uptoBulkAll spare + 1
  | .agg parts => uptoBulkAll parts + 1
  | .iface _ d => uptoBulk d + 1
  | .map entries => uptoBulkEntries entries + 1
  | .held _ => 1
def uptoBulkAll {H : Type} : List (DataW H) → Nat
  | [] => 0
  | d :: r => uptoBulk d + uptoBulkAll r
def uptoBulkEntries {H : Type} : List (Lit × DataW H) → Nat
  | [] => 0
  | x :: r => uptoBulkEntry x + uptoBulkEntries r
def uptoBulkEntry {H : Type} : Lit × DataW H → Nat
  | (.string bytes, d) => bytes.length + uptoBulk d + 1
  | (_, d) => uptoBulk d + 1
 end
def uptoSmall : (H : Type) → List (DataW H) → Bool := fun _ ds => decide (uptoBulkAll ds ≤ 1048576)
def OpenSpec.upto (s : _root_.Go.ChangeSpec) : _root_.Go.OpenSpec := { _root_.Go.OpenSpec.ofChange s with cond := some uptoSmall }

/-- 'ladelaw26.CutLeast', WHERE WHAT IT READS IS OF BULK AT MOST 1048576: true; the input reads as it did. -/
def cutLeastUptoRow : OpenClaim := { program := "ytmfhchaoijiodaa", sum := "fb95e8471de39aacf98fa156e102aaf7ebe4042902d8a74803b1d411dfea184f", func := "lade/ladelaw26.CutLeast", spec := "cutLeast", inPlace := ["maps.clone"], unfollowed := true, recurses := true, apart := false, narrowed := true }
def CutLeastUptoSaid : Prop := cutLeastUptoRow.holds Try.pinned (OpenSpec.upto cutLeastSpec)

/-- 'ladelaw7.ManyAnew', WHERE WHAT IT READS IS OF BULK AT MOST 1048576: true; the input reads as it did. -/
def manyAnewUptoRow : OpenClaim := { program := "ytmfhchaoijiodaa", sum := "fb95e8471de39aacf98fa156e102aaf7ebe4042902d8a74803b1d411dfea184f", func := "lade/ladelaw7.ManyAnew", spec := "manyAnew", inPlace := ["maps.clone"], unfollowed := true, recurses := true, apart := false, narrowed := true }
def ManyAnewUptoSaid : Prop := manyAnewUptoRow.holds Try.pinned (OpenSpec.upto manyAnewSpec)

/-- 'ladelaw7.ManySettled', WHERE WHAT IT READS IS OF BULK AT MOST 1048576: true; the input reads as it did. -/
def manySettledUptoRow : OpenClaim := { program := "ytmfhchaoijiodaa", sum := "fb95e8471de39aacf98fa156e102aaf7ebe4042902d8a74803b1d411dfea184f", func := "lade/ladelaw7.ManySettled", spec := "manySettled", inPlace := ["maps.clone"], unfollowed := true, recurses := true, apart := false, narrowed := true }
def ManySettledUptoSaid : Prop := manySettledUptoRow.holds Try.pinned (OpenSpec.upto manySettledSpec)

/-- 'ladelaw7.ManyLimits', WHERE WHAT IT READS IS OF BULK AT MOST 1048576: true; the input reads as it did. -/
def manyLimitsUptoRow : OpenClaim := { program := "ytmfhchaoijiodaa", sum := "fb95e8471de39aacf98fa156e102aaf7ebe4042902d8a74803b1d411dfea184f", func := "lade/ladelaw7.ManyLimits", spec := "manyLimits", inPlace := ["maps.clone"], unfollowed := true, recurses := true, apart := false, narrowed := true }
def ManyLimitsUptoSaid : Prop := manyLimitsUptoRow.holds Try.pinned (OpenSpec.upto manyLimitsSpec)

end Rows
end Go.Proofs.Ytmfhchaoijiodaa
