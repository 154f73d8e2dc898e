/-
  No cell of these rows narrows 'for every input' (looked for: loops, veiled, ifaces, maps, wideKeys, modest, calm, conditions, laid).
  DERIVED. THE GIVEN ROWS OF THIS SEAT. 8 by the template 'for every input the law returns true; each argument reads behind the call as it read before'; 0 by the template 'total and deterministic' (their statements: YtmpoeamfcienoaaTotals.lean).
  GIVEN WITH THE SEED: the statements are not yours to turn. If you find one false, say at which input.
  Laid BY PROGRAM, IN A SANDBOX (cutbox-rows.mjs): the forced cells as the released guide's own fill.sh prints them over the translation 6d4148e0a0f46d20… (all of the seat's roots in one cut). By AI agents, Wed Nov 11 2026. No macro, syntax, notation, axiom, sorry.
-/
import Derived.Test.YtmpoeamfcienoaaChecked
import GoSem.Claim
import GoSem.ClaimJoined
import GoSem.ClaimMapViews
import Derived.JoinedTies
import Derived.KernelRfl
namespace Go.Proofs.Ytmpoeamfcienoaa
/- THE CELL 'sum', in the pinned program and in every row, IS THE sha256 OF THE DUMP (.gsa) THAT YtmpoeamfcienoaaProg.lean LOADS. Nothing in Lean hashes anything: it is a label: what it is worth is what the hold of that sum in a sandbox is worth. -/
noncomputable def Try.pinned : Pinned := { name := "ytmpoeamfcienoaa", sum := "6d4148e0a0f46d20bbbc72e6995cff4b754feecece76f6d8dcf5b0c881132930", checked := Try.checked }
namespace Rows
def none {H : Type} : Left H := { results := [], args := [] }

/-- 'ladelaw13.PlacePlays': WHATEVER THE INPUT: true; the input reads as it did. -/
def placePlaysSpec : ChangeSpec := { name := "placePlays", fn := fun _ => fun
  | [d1, d2, d3] => { results := [.lit (.bool true)], args := [d1, d2, d3] }
  | _ => none }
def placePlaysRow : OpenClaim := { program := "ytmpoeamfcienoaa", sum := "6d4148e0a0f46d20bbbc72e6995cff4b754feecece76f6d8dcf5b0c881132930", func := "lade/ladelaw13.PlacePlays", spec := "placePlays", inPlace := ["maps.clone"], unfollowed := true, recurses := true, apart := false }
def PlacePlaysSaid : Prop := placePlaysRow.holds Try.pinned (OpenSpec.ofChange placePlaysSpec)

/-- ITS FALSE NEIGHBOUR: 'it returns false'. Refute it at one input. -/
def placePlaysWrong : ChangeSpec := { name := "placePlays", fn := fun _ => fun
  | [d1, d2, d3] => { results := [.lit (.bool false)], args := [d1, d2, d3] }
  | _ => none }
def PlacePlaysWrongFalsely : Prop := placePlaysRow.holds Try.pinned (OpenSpec.ofChange placePlaysWrong)

/-- 'ladelaw13.PlaceLast': WHATEVER THE INPUT: true; the input reads as it did. -/
def placeLastSpec : ChangeSpec := { name := "placeLast", fn := fun _ => fun
  | [d1, d2] => { results := [.lit (.bool true)], args := [d1, d2] }
  | _ => none }
def placeLastRow : OpenClaim := { program := "ytmpoeamfcienoaa", sum := "6d4148e0a0f46d20bbbc72e6995cff4b754feecece76f6d8dcf5b0c881132930", func := "lade/ladelaw13.PlaceLast", spec := "placeLast", inPlace := ["maps.clone"], unfollowed := true, recurses := true, apart := false }
def PlaceLastSaid : Prop := placeLastRow.holds Try.pinned (OpenSpec.ofChange placeLastSpec)

/-- ITS FALSE NEIGHBOUR: 'it returns false'. Refute it at one input. -/
def placeLastWrong : ChangeSpec := { name := "placeLast", fn := fun _ => fun
  | [d1, d2] => { results := [.lit (.bool false)], args := [d1, d2] }
  | _ => none }
def PlaceLastWrongFalsely : Prop := placeLastRow.holds Try.pinned (OpenSpec.ofChange placeLastWrong)

/-- 'ladelaw13.PlaceMoves': WHATEVER THE INPUT: true; the input reads as it did. -/
def placeMovesSpec : ChangeSpec := { name := "placeMoves", fn := fun _ => fun
  | [d1, d2, d3, d4, d5] => { results := [.lit (.bool true)], args := [d1, d2, d3, d4, d5] }
  | _ => none }
def placeMovesRow : OpenClaim := { program := "ytmpoeamfcienoaa", sum := "6d4148e0a0f46d20bbbc72e6995cff4b754feecece76f6d8dcf5b0c881132930", func := "lade/ladelaw13.PlaceMoves", spec := "placeMoves", inPlace := ["maps.clone"], unfollowed := true, recurses := true, apart := false }
def PlaceMovesSaid : Prop := placeMovesRow.holds Try.pinned (OpenSpec.ofChange placeMovesSpec)

/-- ITS FALSE NEIGHBOUR: 'it returns false'. Refute it at one input. -/
def placeMovesWrong : ChangeSpec := { name := "placeMoves", fn := fun _ => fun
  | [d1, d2, d3, d4, d5] => { results := [.lit (.bool false)], args := [d1, d2, d3, d4, d5] }
  | _ => none }
def PlaceMovesWrongFalsely : Prop := placeMovesRow.holds Try.pinned (OpenSpec.ofChange placeMovesWrong)

/-- 'ladelaw20.JoinMany': WHATEVER THE INPUT: true; the input reads as it did. -/
def joinManySpec : ChangeSpec := { name := "joinMany", fn := fun _ => fun
  | [d1, d2] => { results := [.lit (.bool true)], args := [d1, d2] }
  | _ => none }
def joinManyRow : OpenClaim := { program := "ytmpoeamfcienoaa", sum := "6d4148e0a0f46d20bbbc72e6995cff4b754feecece76f6d8dcf5b0c881132930", func := "lade/ladelaw20.JoinMany", spec := "joinMany", inPlace := ["maps.clone"], unfollowed := true, recurses := true, apart := false }
def JoinManySaid : Prop := joinManyRow.holds Try.pinned (OpenSpec.ofChange joinManySpec)

/-- ITS FALSE NEIGHBOUR: 'it returns false'. Refute it at one input. -/
def joinManyWrong : ChangeSpec := { name := "joinMany", fn := fun _ => fun
  | [d1, d2] => { results := [.lit (.bool false)], args := [d1, d2] }
  | _ => none }
def JoinManyWrongFalsely : Prop := joinManyRow.holds Try.pinned (OpenSpec.ofChange joinManyWrong)

/-- 'ladelaw14.LedgerApart': WHATEVER THE INPUT: true; the input reads as it did. -/
def ledgerApartSpec : ChangeSpec := { name := "ledgerApart", fn := fun _ => fun
  | [d1, d2] => { results := [.lit (.bool true)], args := [d1, d2] }
  | _ => none }
def ledgerApartRow : OpenClaim := { program := "ytmpoeamfcienoaa", sum := "6d4148e0a0f46d20bbbc72e6995cff4b754feecece76f6d8dcf5b0c881132930", func := "lade/ladelaw14.LedgerApart", spec := "ledgerApart", inPlace := ["maps.clone"], unfollowed := true, recurses := true, apart := false }
def LedgerApartSaid : Prop := ledgerApartRow.holds Try.pinned (OpenSpec.ofChange ledgerApartSpec)

/-- ITS FALSE NEIGHBOUR: 'it returns false'. Refute it at one input. -/
def ledgerApartWrong : ChangeSpec := { name := "ledgerApart", fn := fun _ => fun
  | [d1, d2] => { results := [.lit (.bool false)], args := [d1, d2] }
  | _ => none }
def LedgerApartWrongFalsely : Prop := ledgerApartRow.holds Try.pinned (OpenSpec.ofChange ledgerApartWrong)

/-- 'ladelaw14.LedgerDestroys': WHATEVER THE INPUT: true; the input reads as it did. -/
def ledgerDestroysSpec : ChangeSpec := { name := "ledgerDestroys", fn := fun _ => fun
  | [d1, d2, d3] => { results := [.lit (.bool true)], args := [d1, d2, d3] }
  | _ => none }
def ledgerDestroysRow : OpenClaim := { program := "ytmpoeamfcienoaa", sum := "6d4148e0a0f46d20bbbc72e6995cff4b754feecece76f6d8dcf5b0c881132930", func := "lade/ladelaw14.LedgerDestroys", spec := "ledgerDestroys", inPlace := ["maps.clone"], unfollowed := true, recurses := true, apart := false }
def LedgerDestroysSaid : Prop := ledgerDestroysRow.holds Try.pinned (OpenSpec.ofChange ledgerDestroysSpec)

/-- ITS FALSE NEIGHBOUR: 'it returns false'. Refute it at one input. -/
def ledgerDestroysWrong : ChangeSpec := { name := "ledgerDestroys", fn := fun _ => fun
  | [d1, d2, d3] => { results := [.lit (.bool false)], args := [d1, d2, d3] }
  | _ => none }
def LedgerDestroysWrongFalsely : Prop := ledgerDestroysRow.holds Try.pinned (OpenSpec.ofChange ledgerDestroysWrong)

/-- 'ladelaw19.ReplayLeft': WHATEVER THE INPUT: true; the input reads as it did. -/
def replayLeftSpec : ChangeSpec := { name := "replayLeft", fn := fun _ => fun
  | [d1, d2, d3] => { results := [.lit (.bool true)], args := [d1, d2, d3] }
  | _ => none }
def replayLeftRow : OpenClaim := { program := "ytmpoeamfcienoaa", sum := "6d4148e0a0f46d20bbbc72e6995cff4b754feecece76f6d8dcf5b0c881132930", func := "lade/ladelaw19.ReplayLeft", spec := "replayLeft", unfollowed := true, recurses := true, apart := false }
def ReplayLeftSaid : Prop := replayLeftRow.holds Try.pinned (OpenSpec.ofChange replayLeftSpec)

/-- ITS FALSE NEIGHBOUR: 'it returns false'. Refute it at one input. -/
def replayLeftWrong : ChangeSpec := { name := "replayLeft", fn := fun _ => fun
  | [d1, d2, d3] => { results := [.lit (.bool false)], args := [d1, d2, d3] }
  | _ => none }
def ReplayLeftWrongFalsely : Prop := replayLeftRow.holds Try.pinned (OpenSpec.ofChange replayLeftWrong)

/-- 'ladelaw19.ReplayOrders': WHATEVER THE INPUT: true; the input reads as it did. -/
def replayOrdersSpec : ChangeSpec := { name := "replayOrders", fn := fun _ => fun
  | [d1, d2, d3, d4] => { results := [.lit (.bool true)], args := [d1, d2, d3, d4] }
  | _ => none }
def replayOrdersRow : OpenClaim := { program := "ytmpoeamfcienoaa", sum := "6d4148e0a0f46d20bbbc72e6995cff4b754feecece76f6d8dcf5b0c881132930", func := "lade/ladelaw19.ReplayOrders", spec := "replayOrders", unfollowed := true, recurses := true, apart := false }
def ReplayOrdersSaid : Prop := replayOrdersRow.holds Try.pinned (OpenSpec.ofChange replayOrdersSpec)

/-- ITS FALSE NEIGHBOUR: 'it returns false'. Refute it at one input. -/
def replayOrdersWrong : ChangeSpec := { name := "replayOrders", fn := fun _ => fun
  | [d1, d2, d3, d4] => { results := [.lit (.bool false)], args := [d1, d2, d3, d4] }
  | _ => none }
def ReplayOrdersWrongFalsely : Prop := replayOrdersRow.holds Try.pinned (OpenSpec.ofChange replayOrdersWrong)

/- THE SECOND FORM. 'bulk': how many values and letters a reading holds, each counted each time it is reached (what is shared counts as often as it is met; a slice's spare places count too). A statement '..UptoSaid' is the law's where the arguments, and the package variables that the reading takes, are together of bulk at most 1048576: NARROWER than '..Said'. Prove '..Said' where nothing that the law and all that it calls make is longer than what came in: it says more and counts as full. Else prove '..UptoSaid'. A law counts once. -/
mutual
def uptoBulk {H : Type} : DataW H → Nat
  | .lit (.string bytes) => bytes.length + 1
  | .lit _ => 1
  | .nil => 1
  | .ptr d => uptoBulk d + 1
  | .slice elems spare => uptoBulkAll elems + uptoBulkAll spare + 1
  | .agg parts => uptoBulkAll parts + 1
  | .iface _ d => uptoBulk d + 1
  | .map entries => uptoBulkEntries entries + 1
  | .held _ => 1
def uptoBulkAll {H : Type} : List (DataW H) → Nat
  | [] => 0
  | d :: r => uptoBulk d + uptoBulkAll r
def uptoBulkEntries {H : Type} : List (Lit × DataW H) → Nat
  | [] => 0
  | x :: r => uptoBulkEntry x + uptoBulkEntries r
def uptoBulkEntry {H : Type} : Lit × DataW H → Nat
  | (.string bytes, d) => bytes.length + uptoBulk d + 1
  | (_, d) => uptoBulk d + 1
 end
def uptoSmall : (H : Type) → List (DataW H) → Bool := fun _ ds => decide (uptoBulkAll ds ≤ 1048576)
def OpenSpec.upto (s : _root_.Go.ChangeSpec) : _root_.Go.OpenSpec := { _root_.Go.OpenSpec.ofChange s with cond := some uptoSmall }

/-- 'ladelaw13.PlacePlays', WHERE WHAT IT READS IS OF BULK AT MOST 1048576: true; the input reads as it did. -/
def placePlaysUptoRow : OpenClaim := { program := "ytmpoeamfcienoaa", sum := "6d4148e0a0f46d20bbbc72e6995cff4b754feecece76f6d8dcf5b0c881132930", func := "lade/ladelaw13.PlacePlays", spec := "placePlays", inPlace := ["maps.clone"], unfollowed := true, recurses := true, apart := false, narrowed := true }
def PlacePlaysUptoSaid : Prop := placePlaysUptoRow.holds Try.pinned (OpenSpec.upto placePlaysSpec)

/-- 'ladelaw13.PlaceLast', WHERE WHAT IT READS IS OF BULK AT MOST 1048576: true; the input reads as it did. -/
def placeLastUptoRow : OpenClaim := { program := "ytmpoeamfcienoaa", sum := "6d4148e0a0f46d20bbbc72e6995cff4b754feecece76f6d8dcf5b0c881132930", func := "lade/ladelaw13.PlaceLast", spec := "placeLast", inPlace := ["maps.clone"], unfollowed := true, recurses := true, apart := false, narrowed := true }
def PlaceLastUptoSaid : Prop := placeLastUptoRow.holds Try.pinned (OpenSpec.upto placeLastSpec)

/-- 'ladelaw13.PlaceMoves', WHERE WHAT IT READS IS OF BULK AT MOST 1048576: true; the input reads as it did. -/
def placeMovesUptoRow : OpenClaim := { program := "ytmpoeamfcienoaa", sum := "6d4148e0a0f46d20bbbc72e6995cff4b754feecece76f6d8dcf5b0c881132930", func := "lade/ladelaw13.PlaceMoves", spec := "placeMoves", inPlace := ["maps.clone"], unfollowed := true, recurses := true, apart := false, narrowed := true }
def PlaceMovesUptoSaid : Prop := placeMovesUptoRow.holds Try.pinned (OpenSpec.upto placeMovesSpec)

/-- 'ladelaw20.JoinMany', WHERE WHAT IT READS IS OF BULK AT MOST 1048576: true; the input reads as it did. -/
def joinManyUptoRow : OpenClaim := { program := "ytmpoeamfcienoaa", sum := "6d4148e0a0f46d20bbbc72e6995cff4b754feecece76f6d8dcf5b0c881132930", func := "lade/ladelaw20.JoinMany", spec := "joinMany", inPlace := ["maps.clone"], unfollowed := true, recurses := true, apart := false, narrowed := true }
def JoinManyUptoSaid : Prop := joinManyUptoRow.holds Try.pinned (OpenSpec.upto joinManySpec)

/-- 'ladelaw14.LedgerApart', WHERE WHAT IT READS IS OF BULK AT MOST 1048576: true; the input reads as it did. -/
def ledgerApartUptoRow : OpenClaim := { program := "ytmpoeamfcienoaa", sum := "6d4148e0a0f46d20bbbc72e6995cff4b754feecece76f6d8dcf5b0c881132930", func := "lade/ladelaw14.LedgerApart", spec := "ledgerApart", inPlace := ["maps.clone"], unfollowed := true, recurses := true, apart := false, narrowed := true }
def LedgerApartUptoSaid : Prop := ledgerApartUptoRow.holds Try.pinned (OpenSpec.upto ledgerApartSpec)

/-- 'ladelaw14.LedgerDestroys', WHERE WHAT IT READS IS OF BULK AT MOST 1048576: true; the input reads as it did. -/
def ledgerDestroysUptoRow : OpenClaim := { program := "ytmpoeamfcienoaa", sum := "6d4148e0a0f46d20bbbc72e6995cff4b754feecece76f6d8dcf5b0c881132930", func := "lade/ladelaw14.LedgerDestroys", spec := "ledgerDestroys", inPlace := ["maps.clone"], unfollowed := true, recurses := true, apart := false, narrowed := true }
def LedgerDestroysUptoSaid : Prop := ledgerDestroysUptoRow.holds Try.pinned (OpenSpec.upto ledgerDestroysSpec)

/-- 'ladelaw19.ReplayLeft', WHERE WHAT IT READS IS OF BULK AT MOST 1048576: true; the input reads as it did. -/
def replayLeftUptoRow : OpenClaim := { program := "ytmpoeamfcienoaa", sum := "6d4148e0a0f46d20bbbc72e6995cff4b754feecece76f6d8dcf5b0c881132930", func := "lade/ladelaw19.ReplayLeft", spec := "replayLeft", unfollowed := true, recurses := true, apart := false, narrowed := true }
def ReplayLeftUptoSaid : Prop := replayLeftUptoRow.holds Try.pinned (OpenSpec.upto replayLeftSpec)

/-- 'ladelaw19.ReplayOrders', WHERE WHAT IT READS IS OF BULK AT MOST 1048576: true; the input reads as it did. -/
def replayOrdersUptoRow : OpenClaim := { program := "ytmpoeamfcienoaa", sum := "6d4148e0a0f46d20bbbc72e6995cff4b754feecece76f6d8dcf5b0c881132930", func := "lade/ladelaw19.ReplayOrders", spec := "replayOrders", unfollowed := true, recurses := true, apart := false, narrowed := true }
def ReplayOrdersUptoSaid : Prop := replayOrdersUptoRow.holds Try.pinned (OpenSpec.upto replayOrdersSpec)

end Rows
end Go.Proofs.Ytmpoeamfcienoaa
