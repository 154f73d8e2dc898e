/-
  No cell of these rows narrows 'for every input' (looked for: loops, veiled, ifaces, maps, wideKeys, modest, calm, conditions, laid).
  DERIVED. THE GIVEN ROWS OF THIS SEAT. 3 by the template 'for every input the law returns true; each argument reads behind the call as it read before'; 0 by the template 'total and deterministic' (their statements: YtmfhchaoijiodaaGreatTotals.lean).
  GIVEN WITH THE SEED: the statements are not yours to turn. If you find one false, say at which input.
  Laid BY PROGRAM, IN A SANDBOX (cutbox-rows.mjs): the forced cells as the released guide's own fill.sh prints them over the translation 53e9a9fa8e0bf629… (all of the seat's roots in one cut). By AI agents, Wed Nov 11 2026. No macro, syntax, notation, axiom, sorry.
-/
import Derived.Test.YtmfhchaoijiodaaGreatChecked
import GoSem.Claim
import GoSem.ClaimJoined
import GoSem.ClaimMapViews
import Derived.JoinedTies
import Derived.KernelRfl
namespace Go.Proofs.YtmfhchaoijiodaaGreat
/- THE CELL 'sum', in the pinned program and in every row, IS THE sha256 OF THE DUMP (.gsa) THAT YtmfhchaoijiodaaGreatProg.lean LOADS. Nothing in Lean hashes anything: it is a label: what it is worth is what the hold of that sum in a sandbox is worth. -/
noncomputable def Tryz.pinned : Pinned := { name := "ytmfhchaoijiodaagreat", sum := "53e9a9fa8e0bf629c252d959c1555550cbeac3534fc7bd42c8d702c00da6e22b", checked := Tryz.checked }
namespace Rows
def none {H : Type} : Left H := { results := [], args := [] }

/-- 'ladelaw7.ManyPlays': WHATEVER THE INPUT: true; the input reads as it did. -/
def manyPlaysSpec : ChangeSpec := { name := "manyPlays", fn := fun _ => fun
  | [d1, d2, d3] => { results := [.lit (.bool true)], args := [d1, d2, d3] }
  | _ => none }
def manyPlaysRow : OpenClaim := { program := "ytmfhchaoijiodaagreat", sum := "53e9a9fa8e0bf629c252d959c1555550cbeac3534fc7bd42c8d702c00da6e22b", func := "lade/ladelaw7.ManyPlays", spec := "manyPlays", inPlace := ["maps.clone"], unfollowed := true, recurses := true, apart := false }
def ManyPlaysSaid : Prop := manyPlaysRow.holds Tryz.pinned (OpenSpec.ofChange manyPlaysSpec)

/-- ITS FALSE NEIGHBOUR: 'it returns false'. Refute it at one input. -/
def manyPlaysWrong : ChangeSpec := { name := "manyPlays", fn := fun _ => fun
  | [d1, d2, d3] => { results := [.lit (.bool false)], args := [d1, d2, d3] }
  | _ => none }
def ManyPlaysWrongFalsely : Prop := manyPlaysRow.holds Tryz.pinned (OpenSpec.ofChange manyPlaysWrong)

/-- 'ladelaw7.ManyWhole': WHATEVER THE INPUT: true; the input reads as it did. -/
def manyWholeSpec : ChangeSpec := { name := "manyWhole", fn := fun _ => fun
  | [d1, d2] => { results := [.lit (.bool true)], args := [d1, d2] }
  | _ => none }
def manyWholeRow : OpenClaim := { program := "ytmfhchaoijiodaagreat", sum := "53e9a9fa8e0bf629c252d959c1555550cbeac3534fc7bd42c8d702c00da6e22b", func := "lade/ladelaw7.ManyWhole", spec := "manyWhole", inPlace := ["maps.clone"], unfollowed := true, recurses := true, apart := false }
def ManyWholeSaid : Prop := manyWholeRow.holds Tryz.pinned (OpenSpec.ofChange manyWholeSpec)

/-- ITS FALSE NEIGHBOUR: 'it returns false'. Refute it at one input. -/
def manyWholeWrong : ChangeSpec := { name := "manyWhole", fn := fun _ => fun
  | [d1, d2] => { results := [.lit (.bool false)], args := [d1, d2] }
  | _ => none }
def ManyWholeWrongFalsely : Prop := manyWholeRow.holds Tryz.pinned (OpenSpec.ofChange manyWholeWrong)

/-- 'ladelaw7.ManyApart': WHATEVER THE INPUT: true; the input reads as it did. -/
def manyApartSpec : ChangeSpec := { name := "manyApart", fn := fun _ => fun
  | [d1, d2, d3] => { results := [.lit (.bool true)], args := [d1, d2, d3] }
  | _ => none }
def manyApartRow : OpenClaim := { program := "ytmfhchaoijiodaagreat", sum := "53e9a9fa8e0bf629c252d959c1555550cbeac3534fc7bd42c8d702c00da6e22b", func := "lade/ladelaw7.ManyApart", spec := "manyApart", inPlace := ["maps.clone"], unfollowed := true, recurses := true, apart := false }
def ManyApartSaid : Prop := manyApartRow.holds Tryz.pinned (OpenSpec.ofChange manyApartSpec)

/-- ITS FALSE NEIGHBOUR: 'it returns false'. Refute it at one input. -/
def manyApartWrong : ChangeSpec := { name := "manyApart", fn := fun _ => fun
  | [d1, d2, d3] => { results := [.lit (.bool false)], args := [d1, d2, d3] }
  | _ => none }
def ManyApartWrongFalsely : Prop := manyApartRow.holds Tryz.pinned (OpenSpec.ofChange manyApartWrong)

/- THE SECOND FORM. 'bulk': how many values and letters a reading holds, each counted each time it is reached (what is shared counts as often as it is met; a slice's spare places count too). A statement '..UptoSaid' is the law's where the arguments, and the package variables that the reading takes, are together of bulk at most 1048576: NARROWER than '..Said'. Prove '..Said' where nothing that the law and all that it calls make is longer than what came in: it says more and counts as full. Else prove '..UptoSaid'. A law counts once. -/
mutual
def uptoBulk {H : Type} : DataW H → Nat
  | .lit (.string bytes) => bytes.length + 1
  | .lit _ => 1
  | .nil => 1
  | .ptr d => uptoBulk d + 1
  | .slice elems spare => uptoBulkAll elems + uptoBulkAll spare + 1
  | .agg parts => uptoBulkAll parts + 1
  | .iface _ d => uptoBulk d + 1
  | .map entries => uptoBulkEntries entries + 1
  | .held _ => 1
def uptoBulkAll {H : Type} : List (DataW H) → Nat
  | [] => 0
  | d :: r => uptoBulk d + uptoBulkAll r
def uptoBulkEntries {H : Type} : List (Lit × DataW H) → Nat
  | [] => 0
  | x :: r => uptoBulkEntry x + uptoBulkEntries r
def uptoBulkEntry {H : Type} : Lit × DataW H → Nat
  | (.string bytes, d) => bytes.length + uptoBulk d + 1
  | (_, d) => uptoBulk d + 1
 end
def uptoSmall : (H : Type) → List (DataW H) → Bool := fun _ ds => decide (uptoBulkAll ds ≤ 1048576)
def OpenSpec.upto (s : _root_.Go.ChangeSpec) : _root_.Go.OpenSpec := { _root_.Go.OpenSpec.ofChange s with cond := some uptoSmall }

/-- 'ladelaw7.ManyPlays', WHERE WHAT IT READS IS OF BULK AT MOST 1048576: true; the input reads as it did. -/
def manyPlaysUptoRow : OpenClaim := { program := "ytmfhchaoijiodaagreat", sum := "53e9a9fa8e0bf629c252d959c1555550cbeac3534fc7bd42c8d702c00da6e22b", func := "lade/ladelaw7.ManyPlays", spec := "manyPlays", inPlace := ["maps.clone"], unfollowed := true, recurses := true, apart := false, narrowed := true }
def ManyPlaysUptoSaid : Prop := manyPlaysUptoRow.holds Tryz.pinned (OpenSpec.upto manyPlaysSpec)

/-- 'ladelaw7.ManyWhole', WHERE WHAT IT READS IS OF BULK AT MOST 1048576: true; the input reads as it did. -/
def manyWholeUptoRow : OpenClaim := { program := "ytmfhchaoijiodaagreat", sum := "53e9a9fa8e0bf629c252d959c1555550cbeac3534fc7bd42c8d702c00da6e22b", func := "lade/ladelaw7.ManyWhole", spec := "manyWhole", inPlace := ["maps.clone"], unfollowed := true, recurses := true, apart := false, narrowed := true }
def ManyWholeUptoSaid : Prop := manyWholeUptoRow.holds Tryz.pinned (OpenSpec.upto manyWholeSpec)

/-- 'ladelaw7.ManyApart', WHERE WHAT IT READS IS OF BULK AT MOST 1048576: true; the input reads as it did. -/
def manyApartUptoRow : OpenClaim := { program := "ytmfhchaoijiodaagreat", sum := "53e9a9fa8e0bf629c252d959c1555550cbeac3534fc7bd42c8d702c00da6e22b", func := "lade/ladelaw7.ManyApart", spec := "manyApart", inPlace := ["maps.clone"], unfollowed := true, recurses := true, apart := false, narrowed := true }
def ManyApartUptoSaid : Prop := manyApartUptoRow.holds Tryz.pinned (OpenSpec.upto manyApartSpec)

end Rows
end Go.Proofs.YtmfhchaoijiodaaGreat
