/-
  No cell of these rows narrows 'for every input' (looked for: loops, veiled, ifaces, maps, wideKeys, modest, calm, conditions, laid).
  DERIVED. THE GIVEN ROWS OF THIS SEAT. 6 by the template 'for every input the law returns true; each argument reads behind the call as it read before'; 0 by the template 'total and deterministic' (their statements: YtconffokcoipjaaTotals.lean).
  GIVEN WITH THE SEED: the statements are not yours to turn. If you find one false, say at which input.
  Laid BY PROGRAM, IN A SANDBOX (cutbox-rows.mjs): the forced cells as the released guide's own fill.sh prints them over the translation 72fb14b8cc80adea… (all of the seat's roots in one cut). By AI agents, Wed Nov 11 2026. No macro, syntax, notation, axiom, sorry.
-/
import Derived.Test.YtconffokcoipjaaChecked
import GoSem.Claim
import GoSem.ClaimJoined
import GoSem.ClaimMapViews
import Derived.JoinedTies
import Derived.KernelRfl
namespace Go.Proofs.Ytconffokcoipjaa
/- THE CELL 'sum', in the pinned program and in every row, IS THE sha256 OF THE DUMP (.gsa) THAT YtconffokcoipjaaProg.lean LOADS. Nothing in Lean hashes anything: it is a label: what it is worth is what the hold of that sum in a sandbox is worth. -/
noncomputable def Try.pinned : Pinned := { name := "ytconffokcoipjaa", sum := "72fb14b8cc80adea72d880ceb82a940616225d43fcd20cd2bb7f898ac46c23d1", checked := Try.checked }
namespace Rows
def none {H : Type} : Left H := { results := [], args := [] }

/-- 'ladelaw21.TailRows': WHATEVER THE INPUT: true; the input reads as it did. -/
def tailRowsSpec : ChangeSpec := { name := "tailRows", fn := fun _ => fun
  | [d1, d2, d3, d4] => { results := [.lit (.bool true)], args := [d1, d2, d3, d4] }
  | _ => none }
def tailRowsRow : OpenClaim := { program := "ytconffokcoipjaa", sum := "72fb14b8cc80adea72d880ceb82a940616225d43fcd20cd2bb7f898ac46c23d1", func := "lade/ladelaw21.TailRows", spec := "tailRows", apart := false }
def TailRowsSaid : Prop := tailRowsRow.holds Try.pinned (OpenSpec.ofChange tailRowsSpec)

/-- ITS FALSE NEIGHBOUR: 'it returns false'. Refute it at one input. -/
def tailRowsWrong : ChangeSpec := { name := "tailRows", fn := fun _ => fun
  | [d1, d2, d3, d4] => { results := [.lit (.bool false)], args := [d1, d2, d3, d4] }
  | _ => none }
def TailRowsWrongFalsely : Prop := tailRowsRow.holds Try.pinned (OpenSpec.ofChange tailRowsWrong)

/-- 'ladelaw21.TailCuts': WHATEVER THE INPUT: true; the input reads as it did. -/
def tailCutsSpec : ChangeSpec := { name := "tailCuts", fn := fun _ => fun
  | [d1, d2] => { results := [.lit (.bool true)], args := [d1, d2] }
  | _ => none }
def tailCutsRow : OpenClaim := { program := "ytconffokcoipjaa", sum := "72fb14b8cc80adea72d880ceb82a940616225d43fcd20cd2bb7f898ac46c23d1", func := "lade/ladelaw21.TailCuts", spec := "tailCuts", apart := false }
def TailCutsSaid : Prop := tailCutsRow.holds Try.pinned (OpenSpec.ofChange tailCutsSpec)

/-- ITS FALSE NEIGHBOUR: 'it returns false'. Refute it at one input. -/
def tailCutsWrong : ChangeSpec := { name := "tailCuts", fn := fun _ => fun
  | [d1, d2] => { results := [.lit (.bool false)], args := [d1, d2] }
  | _ => none }
def TailCutsWrongFalsely : Prop := tailCutsRow.holds Try.pinned (OpenSpec.ofChange tailCutsWrong)

/-- 'ladelaw18.ShardTells': WHATEVER THE INPUT: true; the input reads as it did. -/
def shardTellsSpec : ChangeSpec := { name := "shardTells", fn := fun _ => fun
  | [d1, d2, d3] => { results := [.lit (.bool true)], args := [d1, d2, d3] }
  | _ => none }
def shardTellsRow : OpenClaim := { program := "ytconffokcoipjaa", sum := "72fb14b8cc80adea72d880ceb82a940616225d43fcd20cd2bb7f898ac46c23d1", func := "lade/ladelaw18.ShardTells", spec := "shardTells", unfollowed := true, recurses := true, apart := false }
def ShardTellsSaid : Prop := shardTellsRow.holds Try.pinned (OpenSpec.ofChange shardTellsSpec)

/-- ITS FALSE NEIGHBOUR: 'it returns false'. Refute it at one input. -/
def shardTellsWrong : ChangeSpec := { name := "shardTells", fn := fun _ => fun
  | [d1, d2, d3] => { results := [.lit (.bool false)], args := [d1, d2, d3] }
  | _ => none }
def ShardTellsWrongFalsely : Prop := shardTellsRow.holds Try.pinned (OpenSpec.ofChange shardTellsWrong)

/-- 'ladelaw18.ShardWhole': WHATEVER THE INPUT: true; the input reads as it did. -/
def shardWholeSpec : ChangeSpec := { name := "shardWhole", fn := fun _ => fun
  | [d1, d2] => { results := [.lit (.bool true)], args := [d1, d2] }
  | _ => none }
def shardWholeRow : OpenClaim := { program := "ytconffokcoipjaa", sum := "72fb14b8cc80adea72d880ceb82a940616225d43fcd20cd2bb7f898ac46c23d1", func := "lade/ladelaw18.ShardWhole", spec := "shardWhole", unfollowed := true, recurses := true, apart := false }
def ShardWholeSaid : Prop := shardWholeRow.holds Try.pinned (OpenSpec.ofChange shardWholeSpec)

/-- ITS FALSE NEIGHBOUR: 'it returns false'. Refute it at one input. -/
def shardWholeWrong : ChangeSpec := { name := "shardWhole", fn := fun _ => fun
  | [d1, d2] => { results := [.lit (.bool false)], args := [d1, d2] }
  | _ => none }
def ShardWholeWrongFalsely : Prop := shardWholeRow.holds Try.pinned (OpenSpec.ofChange shardWholeWrong)

/-- 'ladelaw18.ShardOne': WHATEVER THE INPUT: true; the input reads as it did. -/
def shardOneSpec : ChangeSpec := { name := "shardOne", fn := fun _ => fun
  | [d1, d2] => { results := [.lit (.bool true)], args := [d1, d2] }
  | _ => none }
def shardOneRow : OpenClaim := { program := "ytconffokcoipjaa", sum := "72fb14b8cc80adea72d880ceb82a940616225d43fcd20cd2bb7f898ac46c23d1", func := "lade/ladelaw18.ShardOne", spec := "shardOne", unfollowed := true, recurses := true, apart := false }
def ShardOneSaid : Prop := shardOneRow.holds Try.pinned (OpenSpec.ofChange shardOneSpec)

/-- ITS FALSE NEIGHBOUR: 'it returns false'. Refute it at one input. -/
def shardOneWrong : ChangeSpec := { name := "shardOne", fn := fun _ => fun
  | [d1, d2] => { results := [.lit (.bool false)], args := [d1, d2] }
  | _ => none }
def ShardOneWrongFalsely : Prop := shardOneRow.holds Try.pinned (OpenSpec.ofChange shardOneWrong)

/-- 'ladelaw18.ShardOrder': WHATEVER THE INPUT: true; the input reads as it did. -/
def shardOrderSpec : ChangeSpec := { name := "shardOrder", fn := fun _ => fun
  | [d1, d2] => { results := [.lit (.bool true)], args := [d1, d2] }
  | _ => none }
def shardOrderRow : OpenClaim := { program := "ytconffokcoipjaa", sum := "72fb14b8cc80adea72d880ceb82a940616225d43fcd20cd2bb7f898ac46c23d1", func := "lade/ladelaw18.ShardOrder", spec := "shardOrder", unfollowed := true, recurses := true, apart := false }
def ShardOrderSaid : Prop := shardOrderRow.holds Try.pinned (OpenSpec.ofChange shardOrderSpec)

/-- ITS FALSE NEIGHBOUR: 'it returns false'. Refute it at one input. -/
def shardOrderWrong : ChangeSpec := { name := "shardOrder", fn := fun _ => fun
  | [d1, d2] => { results := [.lit (.bool false)], args := [d1, d2] }
  | _ => none }
def ShardOrderWrongFalsely : Prop := shardOrderRow.holds Try.pinned (OpenSpec.ofChange shardOrderWrong)

/- THE SECOND FORM. 'bulk': how many values and letters a reading holds, each counted each time it is reached (what is shared counts as often as it is met; a slice's spare places count too). A statement '..UptoSaid' is the law's where the arguments, and the package variables that the reading takes, are together of bulk at most 1048576: NARROWER than '..Said'. Prove '..Said' where nothing that the law and all that it calls make is longer than what came in: it says more and counts as full. Else prove '..UptoSaid'. A law counts once. -/
mutual
def uptoBulk {H : Type} : DataW H → Nat
  | .lit (.string bytes) => bytes.length + 1
  | .lit _ => 1
  | .nil => 1
  | .ptr d => uptoBulk d + 1
  | .slice elems spare => uptoBulkAll elems + uptoBulkAll spare + 1
  | .agg parts => uptoBulkAll parts + 1
  | .iface _ d => uptoBulk d + 1
  | .map entries => uptoBulkEntries entries + 1
  | .held _ => 1
def uptoBulkAll {H : Type} : List (DataW H) → Nat
  | [] => 0
  | d :: r => uptoBulk d + uptoBulkAll r
def uptoBulkEntries {H : Type} : List (Lit × DataW H) → Nat
  | [] => 0
  | x :: r => uptoBulkEntry x + uptoBulkEntries r
def uptoBulkEntry {H : Type} : Lit × DataW H → Nat
  | (.string bytes, d) => bytes.length + uptoBulk d + 1
  | (_, d) => uptoBulk d + 1
 end
def uptoSmall : (H : Type) → List (DataW H) → Bool := fun _ ds => decide (uptoBulkAll ds ≤ 1048576)
def OpenSpec.upto (s : _root_.Go.ChangeSpec) : _root_.Go.OpenSpec := { _root_.Go.OpenSpec.ofChange s with cond := some uptoSmall }

/-- 'ladelaw21.TailRows', WHERE WHAT IT READS IS OF BULK AT MOST 1048576: true; the input reads as it did. -/
def tailRowsUptoRow : OpenClaim := { program := "ytconffokcoipjaa", sum := "72fb14b8cc80adea72d880ceb82a940616225d43fcd20cd2bb7f898ac46c23d1", func := "lade/ladelaw21.TailRows", spec := "tailRows", apart := false, narrowed := true }
def TailRowsUptoSaid : Prop := tailRowsUptoRow.holds Try.pinned (OpenSpec.upto tailRowsSpec)

/-- 'ladelaw21.TailCuts', WHERE WHAT IT READS IS OF BULK AT MOST 1048576: true; the input reads as it did. -/
def tailCutsUptoRow : OpenClaim := { program := "ytconffokcoipjaa", sum := "72fb14b8cc80adea72d880ceb82a940616225d43fcd20cd2bb7f898ac46c23d1", func := "lade/ladelaw21.TailCuts", spec := "tailCuts", apart := false, narrowed := true }
def TailCutsUptoSaid : Prop := tailCutsUptoRow.holds Try.pinned (OpenSpec.upto tailCutsSpec)

/-- 'ladelaw18.ShardTells', WHERE WHAT IT READS IS OF BULK AT MOST 1048576: true; the input reads as it did. -/
def shardTellsUptoRow : OpenClaim := { program := "ytconffokcoipjaa", sum := "72fb14b8cc80adea72d880ceb82a940616225d43fcd20cd2bb7f898ac46c23d1", func := "lade/ladelaw18.ShardTells", spec := "shardTells", unfollowed := true, recurses := true, apart := false, narrowed := true }
def ShardTellsUptoSaid : Prop := shardTellsUptoRow.holds Try.pinned (OpenSpec.upto shardTellsSpec)

/-- 'ladelaw18.ShardWhole', WHERE WHAT IT READS IS OF BULK AT MOST 1048576: true; the input reads as it did. -/
def shardWholeUptoRow : OpenClaim := { program := "ytconffokcoipjaa", sum := "72fb14b8cc80adea72d880ceb82a940616225d43fcd20cd2bb7f898ac46c23d1", func := "lade/ladelaw18.ShardWhole", spec := "shardWhole", unfollowed := true, recurses := true, apart := false, narrowed := true }
def ShardWholeUptoSaid : Prop := shardWholeUptoRow.holds Try.pinned (OpenSpec.upto shardWholeSpec)

/-- 'ladelaw18.ShardOne', WHERE WHAT IT READS IS OF BULK AT MOST 1048576: true; the input reads as it did. -/
def shardOneUptoRow : OpenClaim := { program := "ytconffokcoipjaa", sum := "72fb14b8cc80adea72d880ceb82a940616225d43fcd20cd2bb7f898ac46c23d1", func := "lade/ladelaw18.ShardOne", spec := "shardOne", unfollowed := true, recurses := true, apart := false, narrowed := true }
def ShardOneUptoSaid : Prop := shardOneUptoRow.holds Try.pinned (OpenSpec.upto shardOneSpec)

/-- 'ladelaw18.ShardOrder', WHERE WHAT IT READS IS OF BULK AT MOST 1048576: true; the input reads as it did. -/
def shardOrderUptoRow : OpenClaim := { program := "ytconffokcoipjaa", sum := "72fb14b8cc80adea72d880ceb82a940616225d43fcd20cd2bb7f898ac46c23d1", func := "lade/ladelaw18.ShardOrder", spec := "shardOrder", unfollowed := true, recurses := true, apart := false, narrowed := true }
def ShardOrderUptoSaid : Prop := shardOrderUptoRow.holds Try.pinned (OpenSpec.upto shardOrderSpec)

end Rows
end Go.Proofs.Ytconffokcoipjaa
