/- The numbers of the functions of this seat: printed by wip/pr.py. -/
import Derived.Test.YtconffokcoipjaaProg
import Derived.Test.YtconffokcoipjaaC5
import Derived.KernelRfl
namespace Go.Proofs.Ytconffokcoipjaa
open Go.Ab

noncomputable abbrev prog : Program := Try.prog
abbrev F_gosem_cut : Nat := 1
abbrev F_gosem_cut_init : Nat := 2
abbrev F_ladelaw21_TailRows : Nat := 3
abbrev F_ladelaw21_TailCuts : Nat := 4
abbrev F_ladelaw18_ShardTells : Nat := 5
abbrev F_ladelaw18_ShardWhole : Nat := 6
abbrev F_ladelaw18_ShardOne : Nat := 7
abbrev F_ladelaw18_ShardOrder : Nat := 8
abbrev F_ladelaw21_known : Nat := 9
abbrev F_tail_Seqs : Nat := 10
abbrev F_tail_Judge : Nat := 11
abbrev F_ladelaw18_known : Nat := 12
abbrev F_ladelaw18_fewFound : Nat := 13
abbrev F_shard_Split : Nat := 14
abbrev F_laderef18_Split : Nat := 15
abbrev F_ladelaw18_same : Nat := 16
abbrev F_shard_Of : Nat := 17
abbrev F_laderef18_Of : Nat := 18
abbrev F_ladelaw18_fewParts : Nat := 19
abbrev F_shard_held : Nat := 20
abbrev F_shard_own : Nat := 21
abbrev F_laderef18_Shards : Nat := 22
abbrev F_laderef4_Same : Nat := 23
abbrev F_ladelaw18_fewPart : Nat := 24
abbrev F_shard_own_1 : Nat := 25
abbrev F_laderef4_SameParts : Nat := 26
abbrev F_laderef4_SamePart : Nat := 27
abbrev F_laderef4_sameEntries : Nat := 28
abbrev F_api_Errno_Error : Nat := 44

end Go.Proofs.Ytconffokcoipjaa
