/- Functions of this seat, compiled: printed by wip/pr.py. -/
import Derived.Test.YtconffokcoipjaaL0
namespace Go.Proofs.Ytconffokcoipjaa
open Go.Ab
set_option maxRecDepth 100000

/- lade/laderef18.Split -/
def A_laderef18_Split : AFn := .mk 89 [.tmp 4] (
 .seq (.region [
   ⟨some 4, .mov (.c (.sl [] .zero)), none⟩])
 (.seq (.region [
   ⟨some 11, .mov (.t 1), none⟩,
   ⟨some 12, .call (.c (.f (.func F_laderef18_Shards) [] [])) [(.t 11)], none⟩,
   ⟨some 5, .mov (.t 12), none⟩])
 (.seq (.region [
   ⟨some 13, .mov (.t 5), none⟩,
   ⟨some 14, .mksl [(.sl [] .zero)] 24 (.t 13), none⟩,
   ⟨some 6, .mov (.t 14), none⟩])
 (.seq (.seq (.region [
   ⟨some 7, .mov (.c (.v (.int .i64 0))), none⟩])
 (.block 0 (.loop (.seq (.seq (.region [
     ⟨some 15, .mov (.t 7), none⟩,
     ⟨some 16, .mov (.t 5), none⟩,
     ⟨some 17, .bin .lss (.t 15) (.t 16), none⟩])
   (.cond (.t 17)
    (.skip)
    (.exit 0)))
   (.seq (.block 1 (.seq (.region [
      ⟨some 8, .mov (.c (.v (.int .i64 0))), none⟩])
    (.block 2 (.loop (.seq (.seq (.region [
        ⟨some 20, .mov (.t 8), none⟩,
        ⟨some 21, .mov (.t 0), none⟩,
        ⟨some 22, .len .sl (.t 21), none⟩,
        ⟨some 23, .bin .lss (.t 20) (.t 22), none⟩])
      (.cond (.t 23)
       (.skip)
       (.exit 2)))
      (.seq (.block 3 (.seq (.region [
         ⟨some 26, .mov (.t 0), none⟩,
         ⟨some 27, .mov (.t 8), none⟩,
         ⟨some 28, .idxp 4 (.t 26) (.t 27), none⟩,
         ⟨some 29, .load true 4 (.t 28), none⟩,
         ⟨some 9, .alloc [(.v (.int .i64 0)), (.sl [] .zero), (.v (.int .i64 0)), (.v (.int .i64 0))], none⟩,
         ⟨none, .store 4 (.t 9) (.t 29), none⟩])
       (.seq (.region [
         ⟨some 30, .fld 0 (.t 9), none⟩,
         ⟨some 31, .fld 1 (.t 30), none⟩,
         ⟨none, .store 1 (.t 31) (.c (.sl [] .zero)), none⟩])
       (.seq (.seq (.region [
         ⟨some 10, .mov (.c (.v (.int .i64 0))), none⟩])
       (.block 4 (.loop (.seq (.seq (.region [
           ⟨some 32, .mov (.t 10), none⟩,
           ⟨some 33, .mov (.t 0), none⟩,
           ⟨some 34, .mov (.t 8), none⟩,
           ⟨some 35, .idxp 4 (.t 33) (.t 34), none⟩,
           ⟨some 36, .fld 0 (.t 35), none⟩,
           ⟨some 37, .fld 1 (.t 36), none⟩,
           ⟨some 38, .load false 1 (.t 37), none⟩,
           ⟨some 39, .len .sl (.t 38), none⟩,
           ⟨some 40, .bin .lss (.t 32) (.t 39), none⟩])
         (.cond (.t 40)
          (.skip)
          (.exit 4)))
         (.seq (.block 5 (.seq (.region [
            ⟨some 43, .mov (.t 0), none⟩,
            ⟨some 44, .mov (.t 8), none⟩,
            ⟨some 45, .idxp 4 (.t 43) (.t 44), none⟩,
            ⟨some 46, .fld 0 (.t 45), none⟩,
            ⟨some 47, .fld 1 (.t 46), none⟩,
            ⟨some 48, .load false 1 (.t 47), none⟩,
            ⟨some 49, .mov (.t 10), none⟩,
            ⟨some 50, .idxp 10 (.t 48) (.t 49), none⟩,
            ⟨some 51, .fld 0 (.t 50), none⟩,
            ⟨some 52, .load false 1 (.t 51), none⟩,
            ⟨some 53, .mov (.t 1), none⟩,
            ⟨some 54, .call (.c (.f (.func F_laderef18_Of) [] [])) [(.t 52), (.t 53)], none⟩,
            ⟨some 55, .mov (.t 7), none⟩,
            ⟨some 56, .bin .eql (.t 54) (.t 55), none⟩])
          (.cond (.t 56)
           (.draw (
             ⟨⟨some 57, .fld 0 (.t 9), none⟩, false, false, []⟩ ::
             ⟨⟨some 58, .fld 1 (.t 57), none⟩, false, false, []⟩ ::
             ⟨⟨some 59, .load false 1 (.t 58), none⟩, false, false, []⟩ ::
             ⟨⟨some 60, .mov (.t 0), none⟩, false, false, []⟩ ::
             ⟨⟨some 61, .mov (.t 8), none⟩, false, false, []⟩ ::
             ⟨⟨some 62, .idxp 4 (.t 60) (.t 61), none⟩, false, false, []⟩ ::
             ⟨⟨some 63, .fld 0 (.t 62), none⟩, false, false, []⟩ ::
             ⟨⟨some 64, .fld 1 (.t 63), none⟩, false, false, []⟩ ::
             ⟨⟨some 65, .load false 1 (.t 64), none⟩, false, false, []⟩ ::
             ⟨⟨some 66, .mov (.t 10), none⟩, false, false, []⟩ ::
             ⟨⟨some 67, .idxp 10 (.t 65) (.t 66), none⟩, false, false, []⟩ ::
             ⟨⟨some 68, .load true 10 (.t 67), none⟩, false, false, []⟩ ::
             ⟨⟨some 69, .bsl 10 [(.t 68)], none⟩, false, false, []⟩ ::
             ⟨⟨some 70, .append 10 88 (.t 59) (.t 69), none⟩, true, false, []⟩ ::
             ⟨⟨some 71, .fld 0 (.t 9), none⟩, false, false, []⟩ ::
             ⟨⟨some 72, .fld 1 (.t 71), none⟩, false, false, []⟩ ::
             ⟨⟨none, .store 1 (.t 72) (.t 70), none⟩, true, false, []⟩ ::
             []))
           (.skip))))
         (.region [
           ⟨some 41, .mov (.t 10), none⟩,
           ⟨some 42, .bin .add (.t 41) (.c (.v (.int .i64 1))), none⟩,
           ⟨some 10, .mov (.t 42), none⟩]))))))
       (.seq (.region [
         ⟨some 73, .fld 0 (.t 9), none⟩,
         ⟨some 74, .fld 1 (.t 73), none⟩,
         ⟨some 75, .load false 1 (.t 74), none⟩,
         ⟨some 76, .len .sl (.t 75), none⟩,
         ⟨some 77, .bin .gtr (.t 76) (.c (.v (.int .i64 0))), none⟩])
       (.cond (.t 77)
        (.draw (
          ⟨⟨some 78, .mov (.t 6), none⟩, false, true, []⟩ ::
          ⟨⟨some 79, .mov (.t 7), none⟩, false, true, []⟩ ::
          ⟨⟨some 80, .mov (.t 6), none⟩, false, false, []⟩ ::
          ⟨⟨some 81, .mov (.t 7), none⟩, false, false, []⟩ ::
          ⟨⟨some 82, .idxp 1 (.t 80) (.t 81), none⟩, false, false, []⟩ ::
          ⟨⟨some 83, .load false 1 (.t 82), none⟩, false, false, []⟩ ::
          ⟨⟨some 84, .load true 4 (.t 9), none⟩, false, false, []⟩ ::
          ⟨⟨some 85, .bsl 4 [(.t 84)], none⟩, false, false, []⟩ ::
          ⟨⟨some 86, .append 4 48 (.t 83) (.t 85), none⟩, true, false, []⟩ ::
          ⟨⟨some 87, .idxp 1 (.t 78) (.t 79), none⟩, false, false, []⟩ ::
          ⟨⟨none, .store 1 (.t 87) (.t 86), none⟩, true, false, []⟩ ::
          []))
        (.skip)))))))
      (.region [
        ⟨some 24, .mov (.t 8), none⟩,
        ⟨some 25, .bin .add (.t 24) (.c (.v (.int .i64 1))), none⟩,
        ⟨some 8, .mov (.t 25), none⟩])))))))
   (.region [
     ⟨some 18, .mov (.t 7), none⟩,
     ⟨some 19, .bin .add (.t 18) (.c (.v (.int .i64 1))), none⟩,
     ⟨some 7, .mov (.t 19), none⟩]))))))
 (.seq (.region [
   ⟨some 88, .mov (.t 6), none⟩,
   ⟨some 4, .mov (.t 88), none⟩])
 (.ret))))))
theorem h_laderef18_Split : (prog.funcs[F_laderef18_Split]?).bind (compFn prog) = some A_laderef18_Split := by kernel_rfl


/- lade/ladelaw18.same -/
def A_ladelaw18_same : AFn := .mk 42 [.tmp 4] (
 .seq (.region [
   ⟨some 4, .mov (.c (.v (.bool false))), none⟩])
 (.seq (.seq (.region [
   ⟨some 6, .mov (.t 0), none⟩,
   ⟨some 7, .len .sl (.t 6), none⟩,
   ⟨some 8, .mov (.t 1), none⟩,
   ⟨some 9, .len .sl (.t 8), none⟩,
   ⟨some 10, .bin .neq (.t 7) (.t 9), none⟩])
 (.cond (.t 10)
  (.seq (.region [
    ⟨some 4, .mov (.c (.v (.bool false))), none⟩])
  (.ret))
  (.skip)))
 (.seq (.seq (.region [
   ⟨some 5, .mov (.c (.v (.int .i64 0))), none⟩])
 (.block 0 (.loop (.seq (.seq (.region [
     ⟨some 11, .mov (.t 5), none⟩,
     ⟨some 12, .mov (.t 0), none⟩,
     ⟨some 13, .len .sl (.t 12), none⟩,
     ⟨some 14, .bin .lss (.t 11) (.t 13), none⟩])
   (.cond (.t 14)
    (.skip)
    (.exit 0)))
   (.seq (.block 1 (.seq (.draw (
      ⟨⟨some 17, .mov (.t 0), none⟩, false, false, []⟩ ::
      ⟨⟨some 18, .mov (.t 5), none⟩, false, false, []⟩ ::
      ⟨⟨some 19, .idxp 4 (.t 17) (.t 18), none⟩, false, false, []⟩ ::
      ⟨⟨some 20, .fld 2 (.t 19), none⟩, false, false, []⟩ ::
      ⟨⟨some 21, .load true 2 (.t 20), none⟩, false, false, []⟩ ::
      ⟨⟨some 22, .mov (.t 1), none⟩, false, false, []⟩ ::
      ⟨⟨some 23, .mov (.t 5), none⟩, false, false, []⟩ ::
      ⟨⟨some 24, .idxp 4 (.t 22) (.t 23), none⟩, false, false, []⟩ ::
      ⟨⟨some 25, .fld 2 (.t 24), none⟩, false, false, []⟩ ::
      ⟨⟨some 26, .load true 2 (.t 25), none⟩, false, false, []⟩ ::
      ⟨⟨some 27, .eqa true (.agg [.i, .i]) (.t 21) (.t 26), none⟩, false, false, []⟩ ::
      ⟨⟨some 28, .mov (.t 27), none⟩, false, false, []⟩ ::
      ⟨⟨some 29, .mov (.t 0), some (28, false)⟩, false, false, []⟩ ::
      ⟨⟨some 30, .mov (.t 5), some (28, false)⟩, false, false, []⟩ ::
      ⟨⟨some 31, .idxp 4 (.t 29) (.t 30), some (28, false)⟩, false, false, []⟩ ::
      ⟨⟨some 32, .fld 0 (.t 31), some (28, false)⟩, false, false, []⟩ ::
      ⟨⟨some 33, .load true 2 (.t 32), some (28, false)⟩, false, false, []⟩ ::
      ⟨⟨some 34, .mov (.t 1), some (28, false)⟩, false, false, []⟩ ::
      ⟨⟨some 35, .mov (.t 5), some (28, false)⟩, false, false, []⟩ ::
      ⟨⟨some 36, .idxp 4 (.t 34) (.t 35), some (28, false)⟩, false, false, []⟩ ::
      ⟨⟨some 37, .fld 0 (.t 36), some (28, false)⟩, false, false, []⟩ ::
      ⟨⟨some 38, .load true 2 (.t 37), some (28, false)⟩, false, false, []⟩ ::
      ⟨⟨some 39, .call (.c (.f (.func F_laderef4_Same) [] [])) [(.t 33), (.t 38)], some (28, false)⟩, true, false, []⟩ ::
      ⟨⟨some 40, .un .not (.t 39), some (28, false)⟩, false, false, []⟩ ::
      ⟨⟨some 41, .pick (.t 28) (.c (.v (.bool true))) (.t 40), none⟩, false, false, []⟩ ::
      []))
    (.cond (.t 41)
     (.seq (.region [
       ⟨some 4, .mov (.c (.v (.bool false))), none⟩])
     (.ret))
     (.skip))))
   (.region [
     ⟨some 15, .mov (.t 5), none⟩,
     ⟨some 16, .bin .add (.t 15) (.c (.v (.int .i64 1))), none⟩,
     ⟨some 5, .mov (.t 16), none⟩]))))))
 (.seq (.region [
   ⟨some 4, .mov (.c (.v (.bool true))), none⟩])
 (.ret)))))
theorem h_ladelaw18_same : (prog.funcs[F_ladelaw18_same]?).bind (compFn prog) = some A_ladelaw18_same := by kernel_rfl


/- lade/shard.Of -/
def A_shard_Of : AFn := .mk 10 [.tmp 4] (
 .seq (.region [
   ⟨some 4, .mov (.c (.v (.int .i64 0))), none⟩])
 (.seq (.region [
   ⟨some 5, .mov (.t 0), none⟩,
   ⟨some 6, .mm true [(.t 5), (.c (.v (.int .i64 0)))], none⟩,
   ⟨some 7, .mov (.t 1), none⟩,
   ⟨some 8, .call (.c (.f (.func F_shard_held) [] [])) [(.t 7)], none⟩,
   ⟨some 9, .bin .rem (.t 6) (.t 8), none⟩,
   ⟨some 4, .mov (.t 9), none⟩])
 (.ret)))
theorem h_shard_Of : (prog.funcs[F_shard_Of]?).bind (compFn prog) = some A_shard_Of := by kernel_rfl


/- lade/laderef18.Of -/
def A_laderef18_Of : AFn := .mk 10 [.tmp 4] (
 .seq (.region [
   ⟨some 4, .mov (.c (.v (.int .i64 0))), none⟩])
 (.seq (.region [
   ⟨some 5, .mov (.t 0), none⟩,
   ⟨some 6, .mm true [(.c (.v (.int .i64 0))), (.t 5)], none⟩,
   ⟨some 7, .mov (.t 1), none⟩,
   ⟨some 8, .call (.c (.f (.func F_laderef18_Shards) [] [])) [(.t 7)], none⟩,
   ⟨some 9, .bin .rem (.t 6) (.t 8), none⟩,
   ⟨some 4, .mov (.t 9), none⟩])
 (.ret)))
theorem h_laderef18_Of : (prog.funcs[F_laderef18_Of]?).bind (compFn prog) = some A_laderef18_Of := by kernel_rfl


/- lade/ladelaw18.fewParts -/
def A_ladelaw18_fewParts : AFn := .mk 19 [.tmp 2] (
 .seq (.region [
   ⟨some 2, .mov (.c (.v (.bool false))), none⟩])
 (.seq (.seq (.region [
   ⟨some 3, .mov (.c (.v (.int .i64 0))), none⟩])
 (.block 0 (.loop (.seq (.seq (.region [
     ⟨some 4, .mov (.t 3), none⟩,
     ⟨some 5, .mov (.t 0), none⟩,
     ⟨some 6, .len .sl (.t 5), none⟩,
     ⟨some 7, .bin .lss (.t 4) (.t 6), none⟩])
   (.cond (.t 7)
    (.skip)
    (.exit 0)))
   (.seq (.block 1 (.seq (.region [
      ⟨some 10, .mov (.t 0), none⟩,
      ⟨some 11, .mov (.t 3), none⟩,
      ⟨some 12, .idxp 10 (.t 10) (.t 11), none⟩,
      ⟨some 13, .load true 10 (.t 12), none⟩,
      ⟨some 14, .call (.c (.f (.func F_ladelaw18_fewPart) [] [])) [(.t 13)], none⟩,
      ⟨some 15, .un .not (.t 14), none⟩])
    (.cond (.t 15)
     (.seq (.region [
       ⟨some 2, .mov (.c (.v (.bool false))), none⟩])
     (.ret))
     (.skip))))
   (.region [
     ⟨some 8, .mov (.t 3), none⟩,
     ⟨some 9, .bin .add (.t 8) (.c (.v (.int .i64 1))), none⟩,
     ⟨some 3, .mov (.t 9), none⟩]))))))
 (.seq (.region [
   ⟨some 16, .mov (.t 0), none⟩,
   ⟨some 17, .len .sl (.t 16), none⟩,
   ⟨some 18, .bin .leq (.t 17) (.c (.v (.int .i64 6))), none⟩,
   ⟨some 2, .mov (.t 18), none⟩])
 (.ret))))
theorem h_ladelaw18_fewParts : (prog.funcs[F_ladelaw18_fewParts]?).bind (compFn prog) = some A_ladelaw18_fewParts := by kernel_rfl


/- lade/shard.held -/
def A_shard_held : AFn := .mk 6 [.tmp 2] (
 .seq (.region [
   ⟨some 2, .mov (.c (.v (.int .i64 0))), none⟩])
 (.seq (.region [
   ⟨some 3, .mov (.t 0), none⟩,
   ⟨some 4, .mm true [(.t 3), (.c (.v (.int .i64 1)))], none⟩,
   ⟨some 5, .mm false [(.t 4), (.c (.v (.int .i64 64)))], none⟩,
   ⟨some 2, .mov (.t 5), none⟩])
 (.ret)))
theorem h_shard_held : (prog.funcs[F_shard_held]?).bind (compFn prog) = some A_shard_held := by kernel_rfl


/- lade/shard.own -/
def A_shard_own : AFn := .mk 8 [.tmp 6] (
 .seq (.region [
   ⟨some 3, .box (.t 0), none⟩,
   ⟨some 4, .box (.t 1), none⟩,
   ⟨some 5, .box (.t 2), none⟩,
   ⟨some 6, .mov (.c (.v .nilFunc)), none⟩])
 (.seq (.region [
   ⟨some 7, .mkf (.func F_shard_own_1) [] [(.t 3), (.t 5), (.t 4)], none⟩,
   ⟨some 6, .mov (.t 7), none⟩])
 (.ret)))
theorem h_shard_own : (prog.funcs[F_shard_own]?).bind (compFn prog) = some A_shard_own := by kernel_rfl


/- lade/laderef18.Shards -/
def A_laderef18_Shards : AFn := .mk 6 [.tmp 2] (
 .seq (.region [
   ⟨some 2, .mov (.c (.v (.int .i64 0))), none⟩])
 (.seq (.region [
   ⟨some 3, .mov (.t 0), none⟩,
   ⟨some 4, .mm false [(.t 3), (.c (.v (.int .i64 64)))], none⟩,
   ⟨some 5, .mm true [(.c (.v (.int .i64 1))), (.t 4)], none⟩,
   ⟨some 2, .mov (.t 5), none⟩])
 (.ret)))
theorem h_laderef18_Shards : (prog.funcs[F_laderef18_Shards]?).bind (compFn prog) = some A_laderef18_Shards := by kernel_rfl


/- lade/laderef4.Same -/
def A_laderef4_Same : AFn := .mk 17 [.tmp 4] (
 .seq (.region [
   ⟨some 2, .box (.t 0), none⟩,
   ⟨some 3, .box (.t 1), none⟩,
   ⟨some 4, .mov (.c (.v (.bool false))), none⟩])
 (.seq (.region [
   ⟨some 5, .fld 0 (.t 2), none⟩,
   ⟨some 6, .load false 1 (.t 5), none⟩,
   ⟨some 7, .fld 0 (.t 3), none⟩,
   ⟨some 8, .load false 1 (.t 7), none⟩,
   ⟨some 9, .bin .eql (.t 6) (.t 8), none⟩,
   ⟨some 10, .mov (.t 9), none⟩,
   ⟨some 11, .fld 1 (.t 2), some (10, true)⟩,
   ⟨some 12, .load false 1 (.t 11), some (10, true)⟩,
   ⟨some 13, .fld 1 (.t 3), some (10, true)⟩,
   ⟨some 14, .load false 1 (.t 13), some (10, true)⟩,
   ⟨some 15, .call (.c (.f (.func F_laderef4_SameParts) [] [])) [(.t 12), (.t 14)], some (10, true)⟩,
   ⟨some 16, .pick (.t 10) (.t 15) (.c (.v (.bool false))), none⟩,
   ⟨some 4, .mov (.t 16), none⟩])
 (.ret)))
theorem h_laderef4_Same : (prog.funcs[F_laderef4_Same]?).bind (compFn prog) = some A_laderef4_Same := by kernel_rfl


/- lade/ladelaw18.fewPart -/
def A_ladelaw18_fewPart : AFn := .mk 23 [.tmp 2] (
 .seq (.region [
   ⟨some 1, .box (.t 0), none⟩,
   ⟨some 2, .mov (.c (.v (.bool false))), none⟩])
 (.seq (.seq (.region [
   ⟨some 3, .mov (.c (.v (.int .i64 0))), none⟩])
 (.block 0 (.loop (.seq (.seq (.region [
     ⟨some 4, .mov (.t 3), none⟩,
     ⟨some 5, .fld 2 (.t 1), none⟩,
     ⟨some 6, .load false 1 (.t 5), none⟩,
     ⟨some 7, .len .sl (.t 6), none⟩,
     ⟨some 8, .bin .lss (.t 4) (.t 7), none⟩])
   (.cond (.t 8)
    (.skip)
    (.exit 0)))
   (.seq (.block 1 (.seq (.region [
      ⟨some 11, .fld 2 (.t 1), none⟩,
      ⟨some 12, .load false 1 (.t 11), none⟩,
      ⟨some 13, .mov (.t 3), none⟩,
      ⟨some 14, .idxp 3 (.t 12) (.t 13), none⟩,
      ⟨some 15, .fld 2 (.t 14), none⟩,
      ⟨some 16, .load false 1 (.t 15), none⟩,
      ⟨some 17, .len .str (.t 16), none⟩,
      ⟨some 18, .bin .gtr (.t 17) (.c (.v (.int .i64 60))), none⟩])
    (.cond (.t 18)
     (.seq (.region [
       ⟨some 2, .mov (.c (.v (.bool false))), none⟩])
     (.ret))
     (.skip))))
   (.region [
     ⟨some 9, .mov (.t 3), none⟩,
     ⟨some 10, .bin .add (.t 9) (.c (.v (.int .i64 1))), none⟩,
     ⟨some 3, .mov (.t 10), none⟩]))))))
 (.seq (.region [
   ⟨some 19, .fld 2 (.t 1), none⟩,
   ⟨some 20, .load false 1 (.t 19), none⟩,
   ⟨some 21, .len .sl (.t 20), none⟩,
   ⟨some 22, .bin .leq (.t 21) (.c (.v (.int .i64 8))), none⟩,
   ⟨some 2, .mov (.t 22), none⟩])
 (.ret))))
theorem h_ladelaw18_fewPart : (prog.funcs[F_ladelaw18_fewPart]?).bind (compFn prog) = some A_ladelaw18_fewPart := by kernel_rfl


/- lade/shard.own$1 -/
def A_shard_own_1 : AFn := .mk 27 [] (
 .seq (.region [
   ⟨some 7, .fld 1 (.t 1), none⟩,
   ⟨some 8, .load false 1 (.t 7), none⟩,
   ⟨some 9, .len .sl (.t 8), none⟩,
   ⟨some 10, .mov (.c (.v (.int .i64 0))), none⟩])
 (.block 0 (.loop (.seq (.region [
     ⟨some 11, .bin .lss (.t 10) (.t 9), none⟩])
   (.seq (.cond (.t 11)
    (.skip)
    (.exit 0))
   (.seq (.block 1 (.seq (.region [
      ⟨some 12, .idxp 10 (.t 8) (.t 10), none⟩,
      ⟨some 13, .load true 10 (.t 12), none⟩,
      ⟨some 6, .alloc [(.v (.int .i64 0)), (.v (.int .i64 0)), (.sl [] .zero), (.v (.int .i64 0)), (.v (.int .i64 0)), (.v (.int .i64 0)), (.v (.int .i64 0)), (.v (.int .i64 0)), (.v (.bool false)), (.v (.bool false))], none⟩,
      ⟨none, .store 10 (.t 6) (.t 13), none⟩])
    (.seq (.draw (
      ⟨⟨some 14, .fld 0 (.t 6), none⟩, false, false, []⟩ ::
      ⟨⟨some 15, .load false 1 (.t 14), none⟩, false, false, []⟩ ::
      ⟨⟨some 16, .load false 1 (.t 2), none⟩, false, false, []⟩ ::
      ⟨⟨some 18, .load false 1 (.t 3), none⟩, false, true, []⟩ ::
      ⟨⟨some 17, .call (.c (.f (.func F_shard_Of) [] [])) [(.t 15), (.t 16)], none⟩, true, false, [⟨some 18, .load false 1 (.t 3), none⟩]⟩ ::
      ⟨⟨some 19, .bin .eql (.t 17) (.t 18), none⟩, false, false, []⟩ ::
      ⟨⟨some 20, .mov (.t 19), none⟩, false, false, []⟩ ::
      ⟨⟨some 21, .mov (.t 0), some (20, true)⟩, false, false, []⟩ ::
      ⟨⟨some 22, .load true 10 (.t 6), some (20, true)⟩, false, false, []⟩ ::
      ⟨⟨some 23, .call (.t 21) [(.t 22)], some (20, true)⟩, true, false, []⟩ ::
      ⟨⟨some 24, .un .not (.t 23), some (20, true)⟩, false, false, []⟩ ::
      ⟨⟨some 25, .pick (.t 20) (.t 24) (.c (.v (.bool false))), none⟩, false, false, []⟩ ::
      []))
    (.cond (.t 25)
     (.ret)
     (.skip)))))
   (.region [
     ⟨some 26, .bin .add (.t 10) (.c (.v (.int .i64 1))), none⟩,
     ⟨some 10, .mov (.t 26), none⟩])))))))
theorem h_shard_own_1 : (prog.funcs[F_shard_own_1]?).bind (compFn prog) = some A_shard_own_1 := by kernel_rfl


/- lade/laderef4.SameParts -/
def A_laderef4_SameParts : AFn := .mk 27 [.tmp 4] (
 .seq (.region [
   ⟨some 4, .mov (.c (.v (.bool false))), none⟩])
 (.seq (.seq (.region [
   ⟨some 6, .mov (.t 0), none⟩,
   ⟨some 7, .len .sl (.t 6), none⟩,
   ⟨some 8, .mov (.t 1), none⟩,
   ⟨some 9, .len .sl (.t 8), none⟩,
   ⟨some 10, .bin .neq (.t 7) (.t 9), none⟩])
 (.cond (.t 10)
  (.seq (.region [
    ⟨some 4, .mov (.c (.v (.bool false))), none⟩])
  (.ret))
  (.skip)))
 (.seq (.seq (.region [
   ⟨some 5, .mov (.c (.v (.int .i64 0))), none⟩])
 (.block 0 (.loop (.seq (.seq (.region [
     ⟨some 11, .mov (.t 5), none⟩,
     ⟨some 12, .mov (.t 0), none⟩,
     ⟨some 13, .len .sl (.t 12), none⟩,
     ⟨some 14, .bin .lss (.t 11) (.t 13), none⟩])
   (.cond (.t 14)
    (.skip)
    (.exit 0)))
   (.seq (.block 1 (.seq (.draw (
      ⟨⟨some 17, .mov (.t 0), none⟩, false, false, []⟩ ::
      ⟨⟨some 18, .mov (.t 5), none⟩, false, false, []⟩ ::
      ⟨⟨some 19, .idxp 10 (.t 17) (.t 18), none⟩, false, false, []⟩ ::
      ⟨⟨some 20, .load true 10 (.t 19), none⟩, false, false, []⟩ ::
      ⟨⟨some 21, .mov (.t 1), none⟩, false, false, []⟩ ::
      ⟨⟨some 22, .mov (.t 5), none⟩, false, false, []⟩ ::
      ⟨⟨some 23, .idxp 10 (.t 21) (.t 22), none⟩, false, false, []⟩ ::
      ⟨⟨some 24, .load true 10 (.t 23), none⟩, false, false, []⟩ ::
      ⟨⟨some 25, .call (.c (.f (.func F_laderef4_SamePart) [] [])) [(.t 20), (.t 24)], none⟩, true, false, []⟩ ::
      ⟨⟨some 26, .un .not (.t 25), none⟩, false, false, []⟩ ::
      []))
    (.cond (.t 26)
     (.seq (.region [
       ⟨some 4, .mov (.c (.v (.bool false))), none⟩])
     (.ret))
     (.skip))))
   (.region [
     ⟨some 15, .mov (.t 5), none⟩,
     ⟨some 16, .bin .add (.t 15) (.c (.v (.int .i64 1))), none⟩,
     ⟨some 5, .mov (.t 16), none⟩]))))))
 (.seq (.region [
   ⟨some 4, .mov (.c (.v (.bool true))), none⟩])
 (.ret)))))
theorem h_laderef4_SameParts : (prog.funcs[F_laderef4_SameParts]?).bind (compFn prog) = some A_laderef4_SameParts := by kernel_rfl


/- lade/laderef4.SamePart -/
def A_laderef4_SamePart : AFn := .mk 59 [.tmp 4] (
 .seq (.region [
   ⟨some 2, .box (.t 0), none⟩,
   ⟨some 3, .box (.t 1), none⟩,
   ⟨some 4, .mov (.c (.v (.bool false))), none⟩])
 (.seq (.region (
   ⟨some 5, .fld 0 (.t 2), none⟩ ::
   ⟨some 6, .load false 1 (.t 5), none⟩ ::
   ⟨some 7, .fld 0 (.t 3), none⟩ ::
   ⟨some 8, .load false 1 (.t 7), none⟩ ::
   ⟨some 9, .bin .eql (.t 6) (.t 8), none⟩ ::
   ⟨some 10, .mov (.t 9), none⟩ ::
   ⟨some 11, .fld 1 (.t 2), some (10, true)⟩ ::
   ⟨some 12, .load false 1 (.t 11), some (10, true)⟩ ::
   ⟨some 13, .fld 1 (.t 3), some (10, true)⟩ ::
   ⟨some 14, .load false 1 (.t 13), some (10, true)⟩ ::
   ⟨some 15, .bin .eql (.t 12) (.t 14), some (10, true)⟩ ::
   ⟨some 16, .pick (.t 10) (.t 15) (.c (.v (.bool false))), none⟩ ::
   ⟨some 17, .mov (.t 16), none⟩ ::
   ⟨some 18, .fld 2 (.t 2), some (17, true)⟩ ::
   ⟨some 19, .load false 1 (.t 18), some (17, true)⟩ ::
   ⟨some 20, .fld 2 (.t 3), some (17, true)⟩ ::
   ⟨some 21, .load false 1 (.t 20), some (17, true)⟩ ::
   ⟨some 22, .call (.c (.f (.func F_laderef4_sameEntries) [] [])) [(.t 19), (.t 21)], some (17, true)⟩ ::
   ⟨some 23, .pick (.t 17) (.t 22) (.c (.v (.bool false))), none⟩ ::
   ⟨some 24, .mov (.t 23), none⟩ ::
   ⟨some 25, .fld 3 (.t 2), some (24, true)⟩ ::
   ⟨some 26, .load true 3 (.t 25), some (24, true)⟩ ::
   ⟨some 27, .fld 3 (.t 3), some (24, true)⟩ ::
   ⟨some 28, .load true 3 (.t 27), some (24, true)⟩ ::
   ⟨some 29, .eqa false (.agg [.i, .i, .i]) (.t 26) (.t 28), some (24, true)⟩ ::
   ⟨some 30, .pick (.t 24) (.t 29) (.c (.v (.bool false))), none⟩ ::
   ⟨some 31, .mov (.t 30), none⟩ ::
   ⟨some 32, .fld 6 (.t 2), some (31, true)⟩ ::
   ⟨some 33, .load false 1 (.t 32), some (31, true)⟩ ::
   ⟨some 34, .fld 6 (.t 3), some (31, true)⟩ ::
   ⟨some 35, .load false 1 (.t 34), some (31, true)⟩ ::
   ⟨some 36, .bin .eql (.t 33) (.t 35), some (31, true)⟩ ::
   ⟨some 37, .pick (.t 31) (.t 36) (.c (.v (.bool false))), none⟩ ::
   ⟨some 38, .mov (.t 37), none⟩ ::
   ⟨some 39, .fld 7 (.t 2), some (38, true)⟩ ::
   ⟨some 40, .load false 1 (.t 39), some (38, true)⟩ ::
   ⟨some 41, .fld 7 (.t 3), some (38, true)⟩ ::
   ⟨some 42, .load false 1 (.t 41), some (38, true)⟩ ::
   ⟨some 43, .bin .eql (.t 40) (.t 42), some (38, true)⟩ ::
   ⟨some 44, .pick (.t 38) (.t 43) (.c (.v (.bool false))), none⟩ ::
   ⟨some 45, .mov (.t 44), none⟩ ::
   ⟨some 46, .fld 8 (.t 2), some (45, true)⟩ ::
   ⟨some 47, .load false 1 (.t 46), some (45, true)⟩ ::
   ⟨some 48, .fld 8 (.t 3), some (45, true)⟩ ::
   ⟨some 49, .load false 1 (.t 48), some (45, true)⟩ ::
   ⟨some 50, .eqa false .bool (.t 47) (.t 49), some (45, true)⟩ ::
   ⟨some 51, .pick (.t 45) (.t 50) (.c (.v (.bool false))), none⟩ ::
   ⟨some 52, .mov (.t 51), none⟩ ::
   ⟨some 53, .fld 9 (.t 2), some (52, true)⟩ ::
   ⟨some 54, .load false 1 (.t 53), some (52, true)⟩ ::
   ⟨some 55, .fld 9 (.t 3), some (52, true)⟩ ::
   ⟨some 56, .load false 1 (.t 55), some (52, true)⟩ ::
   ⟨some 57, .eqa false .bool (.t 54) (.t 56), some (52, true)⟩ ::
   ⟨some 58, .pick (.t 52) (.t 57) (.c (.v (.bool false))), none⟩ ::
   ⟨some 4, .mov (.t 58), none⟩ ::
   []))
 (.ret)))
theorem h_laderef4_SamePart : (prog.funcs[F_laderef4_SamePart]?).bind (compFn prog) = some A_laderef4_SamePart := by kernel_rfl


/- lade/laderef4.sameEntries -/
def A_laderef4_sameEntries : AFn := .mk 26 [.tmp 4] (
 .seq (.region [
   ⟨some 4, .mov (.c (.v (.bool false))), none⟩])
 (.seq (.seq (.region [
   ⟨some 6, .mov (.t 0), none⟩,
   ⟨some 7, .len .sl (.t 6), none⟩,
   ⟨some 8, .mov (.t 1), none⟩,
   ⟨some 9, .len .sl (.t 8), none⟩,
   ⟨some 10, .bin .neq (.t 7) (.t 9), none⟩])
 (.cond (.t 10)
  (.seq (.region [
    ⟨some 4, .mov (.c (.v (.bool false))), none⟩])
  (.ret))
  (.skip)))
 (.seq (.seq (.region [
   ⟨some 5, .mov (.c (.v (.int .i64 0))), none⟩])
 (.block 0 (.loop (.seq (.seq (.region [
     ⟨some 11, .mov (.t 5), none⟩,
     ⟨some 12, .mov (.t 0), none⟩,
     ⟨some 13, .len .sl (.t 12), none⟩,
     ⟨some 14, .bin .lss (.t 11) (.t 13), none⟩])
   (.cond (.t 14)
    (.skip)
    (.exit 0)))
   (.seq (.block 1 (.seq (.draw (
      ⟨⟨some 17, .mov (.t 0), none⟩, false, false, []⟩ ::
      ⟨⟨some 18, .mov (.t 5), none⟩, false, false, []⟩ ::
      ⟨⟨some 19, .idxp 3 (.t 17) (.t 18), none⟩, false, false, []⟩ ::
      ⟨⟨some 20, .load true 3 (.t 19), none⟩, false, false, []⟩ ::
      ⟨⟨some 21, .mov (.t 1), none⟩, false, false, []⟩ ::
      ⟨⟨some 22, .mov (.t 5), none⟩, false, false, []⟩ ::
      ⟨⟨some 23, .idxp 3 (.t 21) (.t 22), none⟩, false, false, []⟩ ::
      ⟨⟨some 24, .load true 3 (.t 23), none⟩, false, false, []⟩ ::
      ⟨⟨some 25, .eqa true (.agg [.i, .i, .s]) (.t 20) (.t 24), none⟩, false, false, []⟩ ::
      []))
    (.cond (.t 25)
     (.seq (.region [
       ⟨some 4, .mov (.c (.v (.bool false))), none⟩])
     (.ret))
     (.skip))))
   (.region [
     ⟨some 15, .mov (.t 5), none⟩,
     ⟨some 16, .bin .add (.t 15) (.c (.v (.int .i64 1))), none⟩,
     ⟨some 5, .mov (.t 16), none⟩]))))))
 (.seq (.region [
   ⟨some 4, .mov (.c (.v (.bool true))), none⟩])
 (.ret)))))
theorem h_laderef4_sameEntries : (prog.funcs[F_laderef4_sameEntries]?).bind (compFn prog) = some A_laderef4_sameEntries := by kernel_rfl


end Go.Proofs.Ytconffokcoipjaa
