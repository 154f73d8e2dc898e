/-
  No cell of these rows narrows 'for every input' (looked for: loops, veiled, ifaces, maps, wideKeys, modest, calm, conditions, laid).
  DERIVED. THE GIVEN ROWS OF THIS SEAT. 4 by the template 'for every input the law returns true; each argument reads behind the call as it read before'; 0 by the template 'total and deterministic' (their statements: YtmpoeamfcienoaaGreatTotals.lean).
  GIVEN WITH THE SEED: the statements are not yours to turn. If you find one false, say at which input.
  Laid BY PROGRAM, IN A SANDBOX (cutbox-rows.mjs): the forced cells as the released guide's own fill.sh prints them over the translation 8b6f8a279b2bed3a… (all of the seat's roots in one cut). By AI agents, Wed Nov 11 2026. No macro, syntax, notation, axiom, sorry.
-/
import Derived.Test.YtmpoeamfcienoaaGreatChecked
import GoSem.Claim
import GoSem.ClaimJoined
import GoSem.ClaimMapViews
import Derived.JoinedTies
import Derived.KernelRfl
namespace Go.Proofs.YtmpoeamfcienoaaGreat
/- THE CELL 'sum', in the pinned program and in every row, IS THE sha256 OF THE DUMP (.gsa) THAT YtmpoeamfcienoaaGreatProg.lean LOADS. Nothing in Lean hashes anything: it is a label: what it is worth is what the hold of that sum in a sandbox is worth. -/
noncomputable def Tryz.pinned : Pinned := { name := "ytmpoeamfcienoaagreat", sum := "8b6f8a279b2bed3a0bb63a3f068a53c943439a400559c635e2cf760e89761535", checked := Tryz.checked }
namespace Rows
def none {H : Type} : Left H := { results := [], args := [] }

/-- 'ladelaw20.JoinTwice': WHATEVER THE INPUT: true; the input reads as it did. -/
def joinTwiceSpec : ChangeSpec := { name := "joinTwice", fn := fun _ => fun
  | [d1, d2, d3, d4] => { results := [.lit (.bool true)], args := [d1, d2, d3, d4] }
  | _ => none }
def joinTwiceRow : OpenClaim := { program := "ytmpoeamfcienoaagreat", sum := "8b6f8a279b2bed3a0bb63a3f068a53c943439a400559c635e2cf760e89761535", func := "lade/ladelaw20.JoinTwice", spec := "joinTwice", inPlace := ["maps.clone"], unfollowed := true, recurses := true, apart := false }
def JoinTwiceSaid : Prop := joinTwiceRow.holds Tryz.pinned (OpenSpec.ofChange joinTwiceSpec)

/-- ITS FALSE NEIGHBOUR: 'it returns false'. Refute it at one input. -/
def joinTwiceWrong : ChangeSpec := { name := "joinTwice", fn := fun _ => fun
  | [d1, d2, d3, d4] => { results := [.lit (.bool false)], args := [d1, d2, d3, d4] }
  | _ => none }
def JoinTwiceWrongFalsely : Prop := joinTwiceRow.holds Tryz.pinned (OpenSpec.ofChange joinTwiceWrong)

/-- 'ladelaw14.LedgerPlays': WHATEVER THE INPUT: true; the input reads as it did. -/
def ledgerPlaysSpec : ChangeSpec := { name := "ledgerPlays", fn := fun _ => fun
  | [d1, d2] => { results := [.lit (.bool true)], args := [d1, d2] }
  | _ => none }
def ledgerPlaysRow : OpenClaim := { program := "ytmpoeamfcienoaagreat", sum := "8b6f8a279b2bed3a0bb63a3f068a53c943439a400559c635e2cf760e89761535", func := "lade/ladelaw14.LedgerPlays", spec := "ledgerPlays", inPlace := ["maps.clone"], unfollowed := true, recurses := true, apart := false }
def LedgerPlaysSaid : Prop := ledgerPlaysRow.holds Tryz.pinned (OpenSpec.ofChange ledgerPlaysSpec)

/-- ITS FALSE NEIGHBOUR: 'it returns false'. Refute it at one input. -/
def ledgerPlaysWrong : ChangeSpec := { name := "ledgerPlays", fn := fun _ => fun
  | [d1, d2] => { results := [.lit (.bool false)], args := [d1, d2] }
  | _ => none }
def LedgerPlaysWrongFalsely : Prop := ledgerPlaysRow.holds Tryz.pinned (OpenSpec.ofChange ledgerPlaysWrong)

/-- 'ladelaw19.ReplayPlays': WHATEVER THE INPUT: true; the input reads as it did. -/
def replayPlaysSpec : ChangeSpec := { name := "replayPlays", fn := fun _ => fun
  | [d1, d2, d3, d4] => { results := [.lit (.bool true)], args := [d1, d2, d3, d4] }
  | _ => none }
def replayPlaysRow : OpenClaim := { program := "ytmpoeamfcienoaagreat", sum := "8b6f8a279b2bed3a0bb63a3f068a53c943439a400559c635e2cf760e89761535", func := "lade/ladelaw19.ReplayPlays", spec := "replayPlays", unfollowed := true, recurses := true, apart := false }
def ReplayPlaysSaid : Prop := replayPlaysRow.holds Tryz.pinned (OpenSpec.ofChange replayPlaysSpec)

/-- ITS FALSE NEIGHBOUR: 'it returns false'. Refute it at one input. -/
def replayPlaysWrong : ChangeSpec := { name := "replayPlays", fn := fun _ => fun
  | [d1, d2, d3, d4] => { results := [.lit (.bool false)], args := [d1, d2, d3, d4] }
  | _ => none }
def ReplayPlaysWrongFalsely : Prop := replayPlaysRow.holds Tryz.pinned (OpenSpec.ofChange replayPlaysWrong)

/-- 'ladelaw20.JoinOne': WHATEVER THE INPUT: true; the input reads as it did. -/
def joinOneSpec : ChangeSpec := { name := "joinOne", fn := fun _ => fun
  | [d1, d2, d3] => { results := [.lit (.bool true)], args := [d1, d2, d3] }
  | _ => none }
def joinOneRow : OpenClaim := { program := "ytmpoeamfcienoaagreat", sum := "8b6f8a279b2bed3a0bb63a3f068a53c943439a400559c635e2cf760e89761535", func := "lade/ladelaw20.JoinOne", spec := "joinOne", inPlace := ["maps.clone"], unfollowed := true, recurses := true, apart := false }
def JoinOneSaid : Prop := joinOneRow.holds Tryz.pinned (OpenSpec.ofChange joinOneSpec)

/-- ITS FALSE NEIGHBOUR: 'it returns false'. Refute it at one input. -/
def joinOneWrong : ChangeSpec := { name := "joinOne", fn := fun _ => fun
  | [d1, d2, d3] => { results := [.lit (.bool false)], args := [d1, d2, d3] }
  | _ => none }
def JoinOneWrongFalsely : Prop := joinOneRow.holds Tryz.pinned (OpenSpec.ofChange joinOneWrong)

/- THE SECOND FORM. 'bulk': how many values and letters a reading holds, each counted each time it is reached (what is shared counts as often as it is met; a slice's spare places count too). A statement '..UptoSaid' is the law's where the arguments, and the package variables that the reading takes, are together of bulk at most 1048576: NARROWER than '..Said'. Prove '..Said' where nothing that the law and all that it calls make is longer than what came in: it says more and counts as full. Else prove '..UptoSaid'. A law counts once. -/
mutual
def uptoBulk {H : Type} : DataW H → Nat
  | .lit (.string bytes) => bytes.length + 1
  | .lit _ => 1
  | .nil => 1
  | .ptr d => uptoBulk d + 1
  | .slice elems spare => uptoBulkAll elems + uptoBulkAll spare + 1
  | .agg parts => uptoBulkAll parts + 1
  | .iface _ d => uptoBulk d + 1
  | .map entries => uptoBulkEntries entries + 1
  | .held _ => 1
def uptoBulkAll {H : Type} : List (DataW H) → Nat
  | [] => 0
  | d :: r => uptoBulk d + uptoBulkAll r
def uptoBulkEntries {H : Type} : List (Lit × DataW H) → Nat
  | [] => 0
  | x :: r => uptoBulkEntry x + uptoBulkEntries r
def uptoBulkEntry {H : Type} : Lit × DataW H → Nat
  | (.string bytes, d) => bytes.length + uptoBulk d + 1
  | (_, d) => uptoBulk d + 1
 end
def uptoSmall : (H : Type) → List (DataW H) → Bool := fun _ ds => decide (uptoBulkAll ds ≤ 1048576)
def OpenSpec.upto (s : _root_.Go.ChangeSpec) : _root_.Go.OpenSpec := { _root_.Go.OpenSpec.ofChange s with cond := some uptoSmall }

/-- 'ladelaw20.JoinTwice', WHERE WHAT IT READS IS OF BULK AT MOST 1048576: true; the input reads as it did. -/
def joinTwiceUptoRow : OpenClaim := { program := "ytmpoeamfcienoaagreat", sum := "8b6f8a279b2bed3a0bb63a3f068a53c943439a400559c635e2cf760e89761535", func := "lade/ladelaw20.JoinTwice", spec := "joinTwice", inPlace := ["maps.clone"], unfollowed := true, recurses := true, apart := false, narrowed := true }
def JoinTwiceUptoSaid : Prop := joinTwiceUptoRow.holds Tryz.pinned (OpenSpec.upto joinTwiceSpec)

/-- 'ladelaw14.LedgerPlays', WHERE WHAT IT READS IS OF BULK AT MOST 1048576: true; the input reads as it did. -/
def ledgerPlaysUptoRow : OpenClaim := { program := "ytmpoeamfcienoaagreat", sum := "8b6f8a279b2bed3a0bb63a3f068a53c943439a400559c635e2cf760e89761535", func := "lade/ladelaw14.LedgerPlays", spec := "ledgerPlays", inPlace := ["maps.clone"], unfollowed := true, recurses := true, apart := false, narrowed := true }
def LedgerPlaysUptoSaid : Prop := ledgerPlaysUptoRow.holds Tryz.pinned (OpenSpec.upto ledgerPlaysSpec)

/-- 'ladelaw19.ReplayPlays', WHERE WHAT IT READS IS OF BULK AT MOST 1048576: true; the input reads as it did. -/
def replayPlaysUptoRow : OpenClaim := { program := "ytmpoeamfcienoaagreat", sum := "8b6f8a279b2bed3a0bb63a3f068a53c943439a400559c635e2cf760e89761535", func := "lade/ladelaw19.ReplayPlays", spec := "replayPlays", unfollowed := true, recurses := true, apart := false, narrowed := true }
def ReplayPlaysUptoSaid : Prop := replayPlaysUptoRow.holds Tryz.pinned (OpenSpec.upto replayPlaysSpec)

/-- 'ladelaw20.JoinOne', WHERE WHAT IT READS IS OF BULK AT MOST 1048576: true; the input reads as it did. -/
def joinOneUptoRow : OpenClaim := { program := "ytmpoeamfcienoaagreat", sum := "8b6f8a279b2bed3a0bb63a3f068a53c943439a400559c635e2cf760e89761535", func := "lade/ladelaw20.JoinOne", spec := "joinOne", inPlace := ["maps.clone"], unfollowed := true, recurses := true, apart := false, narrowed := true }
def JoinOneUptoSaid : Prop := joinOneUptoRow.holds Tryz.pinned (OpenSpec.upto joinOneSpec)

end Rows
end Go.Proofs.YtmpoeamfcienoaaGreat
