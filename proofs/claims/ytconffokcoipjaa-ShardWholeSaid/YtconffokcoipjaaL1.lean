/- Functions of this seat, compiled: printed by wip/pr.py. -/
import Derived.Test.YtconffokcoipjaaL0
namespace Go.Proofs.Ytconffokcoipjaa
open Go.Ab
set_option maxRecDepth 100000

/- lade/ladelaw21.TailRows -/
def A_ladelaw21_TailRows : AFn := .mk 89 [.tmp 8] (
 .seq (.region [
   ⟨some 8, .mov (.c (.v (.bool false))), none⟩])
 (.seq (.seq (.region [
   ⟨some 13, .call (.c (.f (.func F_ladelaw21_known) [] [])) [], none⟩,
   ⟨some 14, .un .not (.t 13), none⟩])
 (.cond (.t 14)
  (.seq (.region [
    ⟨some 8, .mov (.c (.v (.bool false))), none⟩])
  (.ret))
  (.skip)))
 (.seq (.region [
   ⟨some 15, .mov (.t 1), none⟩,
   ⟨some 16, .bin .rem (.t 15) (.c (.v (.int .u8 20))), none⟩,
   ⟨some 17, .conv .i64 (.t 16), none⟩,
   ⟨some 18, .bin .add (.t 17) (.c (.v (.int .i64 2))), none⟩,
   ⟨some 9, .mov (.t 18), none⟩])
 (.seq (.region [
   ⟨some 10, .mov (.c (.sl [] .zero)), none⟩])
 (.seq (.seq (.region [
   ⟨some 11, .mov (.c (.v (.int .i64 0))), none⟩])
 (.block 0 (.loop (.seq (.seq (.region [
     ⟨some 19, .mov (.t 11), none⟩,
     ⟨some 20, .mov (.t 9), none⟩,
     ⟨some 21, .bin .lss (.t 19) (.t 20), none⟩])
   (.cond (.t 21)
    (.skip)
    (.exit 0)))
   (.seq (.block 1 (.region [
      ⟨some 24, .mov (.t 10), none⟩,
      ⟨some 25, .mov (.t 0), none⟩,
      ⟨some 26, .conv .i64 (.t 25), none⟩,
      ⟨some 27, .bin .add (.t 26) (.c (.v (.int .i64 1))), none⟩,
      ⟨some 28, .mov (.t 11), none⟩,
      ⟨some 29, .bin .add (.t 27) (.t 28), none⟩,
      ⟨some 30, .build [(.v (.int .i64 0)), (.sl [] .zero)] [(0, 1, (.t 29))], none⟩,
      ⟨some 31, .build [(.v (.int .i64 0)), (.sl [] .zero), (.v (.int .i64 0)), (.v (.int .i64 0))] [(0, 2, (.t 30))], none⟩,
      ⟨some 32, .bsl 4 [(.t 31)], none⟩,
      ⟨some 33, .append 4 48 (.t 24) (.t 32), none⟩,
      ⟨some 10, .mov (.t 33), none⟩]))
   (.region [
     ⟨some 22, .mov (.t 11), none⟩,
     ⟨some 23, .bin .add (.t 22) (.c (.v (.int .i64 1))), none⟩,
     ⟨some 11, .mov (.t 23), none⟩]))))))
 (.seq (.seq (.region [
   ⟨some 34, .mov (.t 10), none⟩,
   ⟨some 35, .mov (.t 0), none⟩,
   ⟨some 36, .conv .i64 (.t 35), none⟩,
   ⟨some 37, .bin .add (.t 36) (.c (.v (.int .i64 1))), none⟩,
   ⟨some 38, .call (.c (.f (.func F_tail_Seqs) [] [])) [(.t 34), (.t 37)], none⟩,
   ⟨some 39, .un .not (.t 38), none⟩,
   ⟨some 40, .mov (.t 39), none⟩,
   ⟨some 41, .mov (.t 10), some (40, false)⟩,
   ⟨some 42, .call (.c (.f (.func F_tail_Seqs) [] [])) [(.t 41), (.c (.v (.int .i64 0)))], some (40, false)⟩,
   ⟨some 43, .un .not (.t 42), some (40, false)⟩,
   ⟨some 44, .pick (.t 40) (.c (.v (.bool true))) (.t 43), none⟩,
   ⟨some 45, .mov (.t 44), none⟩,
   ⟨some 46, .mov (.t 10), some (45, false)⟩,
   ⟨some 47, .mov (.t 0), some (45, false)⟩,
   ⟨some 48, .conv .i64 (.t 47), some (45, false)⟩,
   ⟨some 49, .bin .add (.t 48) (.c (.v (.int .i64 2))), some (45, false)⟩,
   ⟨some 50, .call (.c (.f (.func F_tail_Seqs) [] [])) [(.t 46), (.t 49)], some (45, false)⟩,
   ⟨some 51, .pick (.t 45) (.c (.v (.bool true))) (.t 50), none⟩])
 (.cond (.t 51)
  (.seq (.region [
    ⟨some 8, .mov (.c (.v (.bool false))), none⟩])
  (.ret))
  (.skip)))
 (.seq (.region [
   ⟨some 52, .mov (.t 2), none⟩,
   ⟨some 53, .conv .i64 (.t 52), none⟩,
   ⟨some 54, .mov (.t 9), none⟩,
   ⟨some 55, .bin .sub (.t 54) (.c (.v (.int .i64 1))), none⟩,
   ⟨some 56, .bin .rem (.t 53) (.t 55), none⟩,
   ⟨some 57, .bin .add (.t 56) (.c (.v (.int .i64 1))), none⟩,
   ⟨some 12, .mov (.t 57), none⟩])
 (.seq (.region [
   ⟨some 58, .mov (.t 10), none⟩,
   ⟨some 59, .mov (.t 12), none⟩,
   ⟨some 60, .mov (.t 10), none⟩,
   ⟨some 61, .mov (.t 12), none⟩,
   ⟨some 62, .idxp 4 (.t 60) (.t 61), none⟩,
   ⟨some 63, .fld 0 (.t 62), none⟩,
   ⟨some 64, .fld 0 (.t 63), none⟩,
   ⟨some 65, .load false 1 (.t 64), none⟩,
   ⟨some 66, .mov (.t 3), none⟩,
   ⟨some 67, .conv .i64 (.t 66), none⟩,
   ⟨some 68, .bin .add (.t 65) (.t 67), none⟩,
   ⟨some 69, .idxp 4 (.t 58) (.t 59), none⟩,
   ⟨some 70, .fld 0 (.t 69), none⟩,
   ⟨some 71, .fld 0 (.t 70), none⟩,
   ⟨none, .store 1 (.t 71) (.t 68), none⟩])
 (.seq (.region [
   ⟨some 72, .mov (.t 10), none⟩,
   ⟨some 73, .mov (.t 12), none⟩,
   ⟨some 74, .idxp 4 (.t 72) (.t 73), none⟩,
   ⟨some 75, .fld 0 (.t 74), none⟩,
   ⟨some 76, .fld 0 (.t 75), none⟩,
   ⟨some 77, .load false 1 (.t 76), none⟩,
   ⟨some 78, .bin .lss (.t 77) (.c (.v (.int .i64 1))), none⟩,
   ⟨some 79, .mov (.t 78), none⟩,
   ⟨some 80, .mov (.t 10), some (79, false)⟩,
   ⟨some 81, .mov (.t 0), some (79, false)⟩,
   ⟨some 82, .conv .i64 (.t 81), some (79, false)⟩,
   ⟨some 83, .bin .add (.t 82) (.c (.v (.int .i64 1))), some (79, false)⟩,
   ⟨some 84, .call (.c (.f (.func F_tail_Seqs) [] [])) [(.t 80), (.t 83)], some (79, false)⟩,
   ⟨some 85, .mov (.t 3), some (79, false)⟩,
   ⟨some 86, .bin .eql (.t 85) (.c (.v (.int .i8 0))), some (79, false)⟩,
   ⟨some 87, .eqa false .bool (.t 84) (.t 86), some (79, false)⟩,
   ⟨some 88, .pick (.t 79) (.c (.v (.bool true))) (.t 87), none⟩,
   ⟨some 8, .mov (.t 88), none⟩])
 (.ret))))))))))
theorem h_ladelaw21_TailRows : (prog.funcs[F_ladelaw21_TailRows]?).bind (compFn prog) = some A_ladelaw21_TailRows := by kernel_rfl


/- lade/ladelaw21.TailCuts -/
def A_ladelaw21_TailCuts : AFn := .mk 99 [.tmp 4] (
 .seq (.region [
   ⟨some 4, .mov (.c (.v (.bool false))), none⟩])
 (.seq (.seq (.region [
   ⟨some 13, .call (.c (.f (.func F_ladelaw21_known) [] [])) [], none⟩,
   ⟨some 14, .un .not (.t 13), none⟩])
 (.cond (.t 14)
  (.seq (.region [
    ⟨some 4, .mov (.c (.v (.bool false))), none⟩])
  (.ret))
  (.skip)))
 (.seq (.region [
   ⟨some 15, .mov (.t 0), none⟩,
   ⟨some 16, .conv .i64 (.t 15), none⟩,
   ⟨some 5, .mov (.t 16), none⟩])
 (.seq (.region [
   ⟨some 17, .mov (.t 1), none⟩,
   ⟨some 18, .bin .rem (.t 17) (.c (.v (.int .u8 6))), none⟩,
   ⟨some 19, .conv .i64 (.t 18), none⟩,
   ⟨some 6, .mov (.t 19), none⟩])
 (.seq (.region [
   ⟨some 21, .mov (.t 5), none⟩,
   ⟨some 22, .mov (.t 6), none⟩,
   ⟨some 23, .call (.c (.f (.func F_tail_Judge) [] [])) [(.c (.v (.bool true))), (.t 21), (.t 22)], none⟩,
   ⟨some 20, .mov (.t 23), none⟩,
   ⟨some 24, .extract 0 (.t 20), none⟩,
   ⟨some 25, .extract 1 (.t 20), none⟩,
   ⟨some 7, .mov (.t 24), none⟩,
   ⟨some 8, .mov (.t 25), none⟩])
 (.seq (.region [
   ⟨some 27, .mov (.t 5), none⟩,
   ⟨some 28, .mov (.t 6), none⟩,
   ⟨some 29, .call (.c (.f (.func F_tail_Judge) [] [])) [(.c (.v (.bool false))), (.t 27), (.t 28)], none⟩,
   ⟨some 26, .mov (.t 29), none⟩,
   ⟨some 30, .extract 0 (.t 26), none⟩,
   ⟨some 31, .extract 1 (.t 26), none⟩,
   ⟨some 9, .mov (.t 30), none⟩,
   ⟨some 10, .mov (.t 31), none⟩])
 (.seq (.region [
   ⟨some 32, .mov (.t 6), none⟩,
   ⟨some 33, .bin .eql (.t 32) (.c (.v (.int .i64 2))), none⟩,
   ⟨some 11, .mov (.t 33), none⟩])
 (.seq (.region [
   ⟨some 34, .mov (.t 6), none⟩,
   ⟨some 35, .bin .eql (.t 34) (.c (.v (.int .i64 3))), none⟩,
   ⟨some 36, .mov (.t 35), none⟩,
   ⟨some 37, .mov (.t 6), some (36, false)⟩,
   ⟨some 38, .bin .eql (.t 37) (.c (.v (.int .i64 4))), some (36, false)⟩,
   ⟨some 39, .pick (.t 36) (.c (.v (.bool true))) (.t 38), none⟩,
   ⟨some 40, .mov (.t 39), none⟩,
   ⟨some 41, .mov (.t 5), some (40, true)⟩,
   ⟨some 42, .bin .geq (.t 41) (.c (.v (.int .i64 16))), some (40, true)⟩,
   ⟨some 43, .pick (.t 40) (.t 42) (.c (.v (.bool false))), none⟩,
   ⟨some 12, .mov (.t 43), none⟩])
 (.seq (.region (
   ⟨some 44, .mov (.t 8), none⟩ ::
   ⟨some 45, .bin .eql (.t 44) (.c (.v (.int .i64 0))), none⟩ ::
   ⟨some 46, .mov (.t 11), none⟩ ::
   ⟨some 47, .mov (.t 46), none⟩ ::
   ⟨some 48, .mov (.t 12), some (47, false)⟩ ::
   ⟨some 49, .pick (.t 47) (.c (.v (.bool true))) (.t 48), none⟩ ::
   ⟨some 50, .eqa false .bool (.t 45) (.t 49), none⟩ ::
   ⟨some 51, .mov (.t 50), none⟩ ::
   ⟨some 52, .mov (.t 8), some (51, true)⟩ ::
   ⟨some 53, .bin .neq (.t 52) (.c (.v (.int .i64 0))), some (51, true)⟩ ::
   ⟨some 54, .mov (.t 53), some (51, true)⟩ ::
   ⟨some 55, .mov (.t 7), some (54, false)⟩ ::
   ⟨some 56, .mov (.t 5), some (54, false)⟩ ::
   ⟨some 57, .bin .eql (.t 55) (.t 56), some (54, false)⟩ ::
   ⟨some 58, .pick (.t 54) (.c (.v (.bool true))) (.t 57), some (51, true)⟩ ::
   ⟨some 59, .pick (.t 51) (.t 58) (.c (.v (.bool false))), none⟩ ::
   ⟨some 60, .mov (.t 59), none⟩ ::
   ⟨some 61, .mov (.t 10), some (60, true)⟩ ::
   ⟨some 62, .bin .eql (.t 61) (.c (.v (.int .i64 0))), some (60, true)⟩ ::
   ⟨some 63, .mov (.t 11), some (60, true)⟩ ::
   ⟨some 64, .eqa false .bool (.t 62) (.t 63), some (60, true)⟩ ::
   ⟨some 65, .pick (.t 60) (.t 64) (.c (.v (.bool false))), none⟩ ::
   ⟨some 66, .mov (.t 65), none⟩ ::
   ⟨some 67, .mov (.t 10), some (66, true)⟩ ::
   ⟨some 68, .bin .neq (.t 67) (.c (.v (.int .i64 0))), some (66, true)⟩ ::
   ⟨some 69, .mov (.t 68), some (66, true)⟩ ::
   ⟨some 70, .mov (.t 9), some (69, false)⟩ ::
   ⟨some 71, .mov (.t 5), some (69, false)⟩ ::
   ⟨some 72, .bin .eql (.t 70) (.t 71), some (69, false)⟩ ::
   ⟨some 73, .pick (.t 69) (.c (.v (.bool true))) (.t 72), some (66, true)⟩ ::
   ⟨some 74, .pick (.t 66) (.t 73) (.c (.v (.bool false))), none⟩ ::
   ⟨some 75, .mov (.t 74), none⟩ ::
   ⟨some 76, .mov (.t 8), some (75, true)⟩ ::
   ⟨some 77, .bin .eql (.t 76) (.c (.v (.int .i64 0))), some (75, true)⟩ ::
   ⟨some 78, .mov (.t 77), some (75, true)⟩ ::
   ⟨some 79, .mov (.t 8), some (78, false)⟩ ::
   ⟨some 80, .bin .eql (.t 79) (.c (.v (.int .i64 21))), some (78, false)⟩ ::
   ⟨some 81, .mov (.t 80), some (78, false)⟩ ::
   ⟨some 82, .mov (.t 7), some (81, true)⟩ ::
   ⟨some 83, .bin .eql (.t 82) (.c (.v (.int .i64 0))), some (81, true)⟩ ::
   ⟨some 84, .pick (.t 81) (.t 83) (.c (.v (.bool false))), some (78, false)⟩ ::
   ⟨some 85, .pick (.t 78) (.c (.v (.bool true))) (.t 84), some (75, true)⟩ ::
   ⟨some 86, .pick (.t 75) (.t 85) (.c (.v (.bool false))), none⟩ ::
   ⟨some 87, .mov (.t 86), none⟩ ::
   ⟨some 88, .mov (.t 10), some (87, true)⟩ ::
   ⟨some 89, .bin .eql (.t 88) (.c (.v (.int .i64 0))), some (87, true)⟩ ::
   ⟨some 90, .mov (.t 89), some (87, true)⟩ ::
   ⟨some 91, .mov (.t 10), some (90, false)⟩ ::
   ⟨some 92, .bin .eql (.t 91) (.c (.v (.int .i64 21))), some (90, false)⟩ ::
   ⟨some 93, .mov (.t 92), some (90, false)⟩ ::
   ⟨some 94, .mov (.t 9), some (93, true)⟩ ::
   ⟨some 95, .bin .eql (.t 94) (.c (.v (.int .i64 0))), some (93, true)⟩ ::
   ⟨some 96, .pick (.t 93) (.t 95) (.c (.v (.bool false))), some (90, false)⟩ ::
   ⟨some 97, .pick (.t 90) (.c (.v (.bool true))) (.t 96), some (87, true)⟩ ::
   ⟨some 98, .pick (.t 87) (.t 97) (.c (.v (.bool false))), none⟩ ::
   ⟨some 4, .mov (.t 98), none⟩ ::
   []))
 (.ret))))))))))
theorem h_ladelaw21_TailCuts : (prog.funcs[F_ladelaw21_TailCuts]?).bind (compFn prog) = some A_ladelaw21_TailCuts := by kernel_rfl


/- lade/ladelaw18.ShardTells -/
def A_ladelaw18_ShardTells : AFn := .mk 49 [.tmp 6] (
 .seq (.region [
   ⟨some 6, .mov (.c (.v (.bool false))), none⟩])
 (.seq (.seq (.region [
   ⟨some 10, .call (.c (.f (.func F_ladelaw18_known) [] [])) [], none⟩,
   ⟨some 11, .un .not (.t 10), none⟩])
 (.cond (.t 11)
  (.seq (.region [
    ⟨some 6, .mov (.c (.v (.bool false))), none⟩])
  (.ret))
  (.skip)))
 (.seq (.seq (.region [
   ⟨some 12, .mov (.t 0), none⟩,
   ⟨some 13, .call (.c (.f (.func F_ladelaw18_fewFound) [] [])) [(.t 12)], none⟩,
   ⟨some 14, .un .not (.t 13), none⟩])
 (.cond (.t 14)
  (.seq (.region [
    ⟨some 6, .mov (.c (.v (.bool true))), none⟩])
  (.ret))
  (.skip)))
 (.seq (.region [
   ⟨some 15, .mov (.t 0), none⟩,
   ⟨some 16, .mov (.t 2), none⟩,
   ⟨some 17, .call (.c (.f (.func F_shard_Split) [] [])) [(.t 15), (.t 16)], none⟩,
   ⟨some 18, .mov (.t 0), none⟩,
   ⟨some 19, .mov (.t 2), none⟩,
   ⟨some 20, .call (.c (.f (.func F_laderef18_Split) [] [])) [(.t 18), (.t 19)], none⟩,
   ⟨some 7, .mov (.t 17), none⟩,
   ⟨some 8, .mov (.t 20), none⟩])
 (.seq (.seq (.region [
   ⟨some 21, .mov (.t 7), none⟩,
   ⟨some 22, .len .sl (.t 21), none⟩,
   ⟨some 23, .mov (.t 8), none⟩,
   ⟨some 24, .len .sl (.t 23), none⟩,
   ⟨some 25, .bin .neq (.t 22) (.t 24), none⟩])
 (.cond (.t 25)
  (.seq (.region [
    ⟨some 6, .mov (.c (.v (.bool false))), none⟩])
  (.ret))
  (.skip)))
 (.seq (.seq (.region [
   ⟨some 9, .mov (.c (.v (.int .i64 0))), none⟩])
 (.block 0 (.loop (.seq (.seq (.region [
     ⟨some 26, .mov (.t 9), none⟩,
     ⟨some 27, .mov (.t 7), none⟩,
     ⟨some 28, .len .sl (.t 27), none⟩,
     ⟨some 29, .bin .lss (.t 26) (.t 28), none⟩])
   (.cond (.t 29)
    (.skip)
    (.exit 0)))
   (.seq (.block 1 (.seq (.draw (
      ⟨⟨some 32, .mov (.t 7), none⟩, false, false, []⟩ ::
      ⟨⟨some 33, .mov (.t 9), none⟩, false, false, []⟩ ::
      ⟨⟨some 34, .idxp 1 (.t 32) (.t 33), none⟩, false, false, []⟩ ::
      ⟨⟨some 35, .load false 1 (.t 34), none⟩, false, false, []⟩ ::
      ⟨⟨some 36, .mov (.t 8), none⟩, false, false, []⟩ ::
      ⟨⟨some 37, .mov (.t 9), none⟩, false, false, []⟩ ::
      ⟨⟨some 38, .idxp 1 (.t 36) (.t 37), none⟩, false, false, []⟩ ::
      ⟨⟨some 39, .load false 1 (.t 38), none⟩, false, false, []⟩ ::
      ⟨⟨some 40, .call (.c (.f (.func F_ladelaw18_same) [] [])) [(.t 35), (.t 39)], none⟩, true, false, []⟩ ::
      ⟨⟨some 41, .un .not (.t 40), none⟩, false, false, []⟩ ::
      []))
    (.cond (.t 41)
     (.seq (.region [
       ⟨some 6, .mov (.c (.v (.bool false))), none⟩])
     (.ret))
     (.skip))))
   (.region [
     ⟨some 30, .mov (.t 9), none⟩,
     ⟨some 31, .bin .add (.t 30) (.c (.v (.int .i64 1))), none⟩,
     ⟨some 9, .mov (.t 31), none⟩]))))))
 (.seq (.region [
   ⟨some 42, .mov (.t 1), none⟩,
   ⟨some 43, .mov (.t 2), none⟩,
   ⟨some 44, .call (.c (.f (.func F_shard_Of) [] [])) [(.t 42), (.t 43)], none⟩,
   ⟨some 45, .mov (.t 1), none⟩,
   ⟨some 46, .mov (.t 2), none⟩,
   ⟨some 47, .call (.c (.f (.func F_laderef18_Of) [] [])) [(.t 45), (.t 46)], none⟩,
   ⟨some 48, .bin .eql (.t 44) (.t 47), none⟩,
   ⟨some 6, .mov (.t 48), none⟩])
 (.ret))))))))
theorem h_ladelaw18_ShardTells : (prog.funcs[F_ladelaw18_ShardTells]?).bind (compFn prog) = some A_ladelaw18_ShardTells := by kernel_rfl


/- lade/ladelaw18.ShardWhole -/
def A_ladelaw18_ShardWhole : AFn := .mk 105 [.tmp 4] (
 .seq (.region [
   ⟨some 4, .mov (.c (.v (.bool false))), none⟩])
 (.seq (.seq (.region [
   ⟨some 13, .call (.c (.f (.func F_ladelaw18_known) [] [])) [], none⟩,
   ⟨some 14, .un .not (.t 13), none⟩])
 (.cond (.t 14)
  (.seq (.region [
    ⟨some 4, .mov (.c (.v (.bool false))), none⟩])
  (.ret))
  (.skip)))
 (.seq (.seq (.region [
   ⟨some 15, .mov (.t 0), none⟩,
   ⟨some 16, .call (.c (.f (.func F_ladelaw18_fewFound) [] [])) [(.t 15)], none⟩,
   ⟨some 17, .un .not (.t 16), none⟩])
 (.cond (.t 17)
  (.seq (.region [
    ⟨some 4, .mov (.c (.v (.bool true))), none⟩])
  (.ret))
  (.skip)))
 (.seq (.region [
   ⟨some 18, .mov (.t 1), none⟩,
   ⟨some 19, .bin .rem (.t 18) (.c (.v (.int .u8 64))), none⟩,
   ⟨some 20, .conv .i64 (.t 19), none⟩,
   ⟨some 21, .bin .add (.t 20) (.c (.v (.int .i64 1))), none⟩,
   ⟨some 5, .mov (.t 21), none⟩])
 (.seq (.region [
   ⟨some 22, .mov (.t 0), none⟩,
   ⟨some 23, .mov (.t 5), none⟩,
   ⟨some 24, .call (.c (.f (.func F_shard_Split) [] [])) [(.t 22), (.t 23)], none⟩,
   ⟨some 6, .mov (.t 24), none⟩])
 (.seq (.seq (.region [
   ⟨some 25, .mov (.t 6), none⟩,
   ⟨some 26, .len .sl (.t 25), none⟩,
   ⟨some 27, .mov (.t 5), none⟩,
   ⟨some 28, .bin .neq (.t 26) (.t 27), none⟩])
 (.cond (.t 28)
  (.seq (.region [
    ⟨some 4, .mov (.c (.v (.bool false))), none⟩])
  (.ret))
  (.skip)))
 (.seq (.region [
   ⟨some 7, .mov (.c (.v (.int .i64 0))), none⟩,
   ⟨some 8, .mov (.c (.v (.int .i64 0))), none⟩])
 (.seq (.seq (.region [
   ⟨some 9, .mov (.c (.v (.int .i64 0))), none⟩])
 (.block 0 (.loop (.seq (.seq (.region [
     ⟨some 29, .mov (.t 9), none⟩,
     ⟨some 30, .mov (.t 0), none⟩,
     ⟨some 31, .len .sl (.t 30), none⟩,
     ⟨some 32, .bin .lss (.t 29) (.t 31), none⟩])
   (.cond (.t 32)
    (.skip)
    (.exit 0)))
   (.seq (.block 1 (.region [
      ⟨some 35, .mov (.t 7), none⟩,
      ⟨some 36, .mov (.t 0), none⟩,
      ⟨some 37, .mov (.t 9), none⟩,
      ⟨some 38, .idxp 4 (.t 36) (.t 37), none⟩,
      ⟨some 39, .fld 0 (.t 38), none⟩,
      ⟨some 40, .fld 1 (.t 39), none⟩,
      ⟨some 41, .load false 1 (.t 40), none⟩,
      ⟨some 42, .len .sl (.t 41), none⟩,
      ⟨some 43, .bin .add (.t 35) (.t 42), none⟩,
      ⟨some 7, .mov (.t 43), none⟩]))
   (.region [
     ⟨some 33, .mov (.t 9), none⟩,
     ⟨some 34, .bin .add (.t 33) (.c (.v (.int .i64 1))), none⟩,
     ⟨some 9, .mov (.t 34), none⟩]))))))
 (.seq (.seq (.region [
   ⟨some 10, .mov (.c (.v (.int .i64 0))), none⟩])
 (.block 2 (.loop (.seq (.seq (.region [
     ⟨some 44, .mov (.t 10), none⟩,
     ⟨some 45, .mov (.t 5), none⟩,
     ⟨some 46, .bin .lss (.t 44) (.t 45), none⟩])
   (.cond (.t 46)
    (.skip)
    (.exit 2)))
   (.seq (.block 3 (.seq (.region [
      ⟨some 11, .mov (.c (.v (.int .i64 0))), none⟩])
    (.block 4 (.loop (.seq (.seq (.region [
        ⟨some 49, .mov (.t 11), none⟩,
        ⟨some 50, .mov (.t 6), none⟩,
        ⟨some 51, .mov (.t 10), none⟩,
        ⟨some 52, .idxp 1 (.t 50) (.t 51), none⟩,
        ⟨some 53, .load false 1 (.t 52), none⟩,
        ⟨some 54, .len .sl (.t 53), none⟩,
        ⟨some 55, .bin .lss (.t 49) (.t 54), none⟩])
      (.cond (.t 55)
       (.skip)
       (.exit 4)))
      (.seq (.block 5 (.seq (.seq (.region [
         ⟨some 58, .mov (.t 6), none⟩,
         ⟨some 59, .mov (.t 10), none⟩,
         ⟨some 60, .idxp 1 (.t 58) (.t 59), none⟩,
         ⟨some 61, .load false 1 (.t 60), none⟩,
         ⟨some 62, .mov (.t 11), none⟩,
         ⟨some 63, .idxp 4 (.t 61) (.t 62), none⟩,
         ⟨some 64, .fld 0 (.t 63), none⟩,
         ⟨some 65, .fld 1 (.t 64), none⟩,
         ⟨some 66, .load false 1 (.t 65), none⟩,
         ⟨some 67, .len .sl (.t 66), none⟩,
         ⟨some 68, .bin .eql (.t 67) (.c (.v (.int .i64 0))), none⟩])
       (.cond (.t 68)
        (.seq (.region [
          ⟨some 4, .mov (.c (.v (.bool false))), none⟩])
        (.ret))
        (.skip)))
       (.seq (.region [
         ⟨some 12, .mov (.c (.v (.int .i64 0))), none⟩])
       (.block 6 (.loop (.seq (.seq (.region [
           ⟨some 69, .mov (.t 12), none⟩,
           ⟨some 70, .mov (.t 6), none⟩,
           ⟨some 71, .mov (.t 10), none⟩,
           ⟨some 72, .idxp 1 (.t 70) (.t 71), none⟩,
           ⟨some 73, .load false 1 (.t 72), none⟩,
           ⟨some 74, .mov (.t 11), none⟩,
           ⟨some 75, .idxp 4 (.t 73) (.t 74), none⟩,
           ⟨some 76, .fld 0 (.t 75), none⟩,
           ⟨some 77, .fld 1 (.t 76), none⟩,
           ⟨some 78, .load false 1 (.t 77), none⟩,
           ⟨some 79, .len .sl (.t 78), none⟩,
           ⟨some 80, .bin .lss (.t 69) (.t 79), none⟩])
         (.cond (.t 80)
          (.skip)
          (.exit 6)))
         (.seq (.block 7 (.seq (.seq (.region [
            ⟨some 83, .mov (.t 6), none⟩,
            ⟨some 84, .mov (.t 10), none⟩,
            ⟨some 85, .idxp 1 (.t 83) (.t 84), none⟩,
            ⟨some 86, .load false 1 (.t 85), none⟩,
            ⟨some 87, .mov (.t 11), none⟩,
            ⟨some 88, .idxp 4 (.t 86) (.t 87), none⟩,
            ⟨some 89, .fld 0 (.t 88), none⟩,
            ⟨some 90, .fld 1 (.t 89), none⟩,
            ⟨some 91, .load false 1 (.t 90), none⟩,
            ⟨some 92, .mov (.t 12), none⟩,
            ⟨some 93, .idxp 10 (.t 91) (.t 92), none⟩,
            ⟨some 94, .fld 0 (.t 93), none⟩,
            ⟨some 95, .load false 1 (.t 94), none⟩,
            ⟨some 96, .mov (.t 5), none⟩,
            ⟨some 97, .call (.c (.f (.func F_shard_Of) [] [])) [(.t 95), (.t 96)], none⟩,
            ⟨some 98, .mov (.t 10), none⟩,
            ⟨some 99, .bin .neq (.t 97) (.t 98), none⟩])
          (.cond (.t 99)
           (.seq (.region [
             ⟨some 4, .mov (.c (.v (.bool false))), none⟩])
           (.ret))
           (.skip)))
          (.region [
            ⟨some 100, .mov (.t 8), none⟩,
            ⟨some 101, .bin .add (.t 100) (.c (.v (.int .i64 1))), none⟩,
            ⟨some 8, .mov (.t 101), none⟩])))
         (.region [
           ⟨some 81, .mov (.t 12), none⟩,
           ⟨some 82, .bin .add (.t 81) (.c (.v (.int .i64 1))), none⟩,
           ⟨some 12, .mov (.t 82), none⟩]))))))))
      (.region [
        ⟨some 56, .mov (.t 11), none⟩,
        ⟨some 57, .bin .add (.t 56) (.c (.v (.int .i64 1))), none⟩,
        ⟨some 11, .mov (.t 57), none⟩])))))))
   (.region [
     ⟨some 47, .mov (.t 10), none⟩,
     ⟨some 48, .bin .add (.t 47) (.c (.v (.int .i64 1))), none⟩,
     ⟨some 10, .mov (.t 48), none⟩]))))))
 (.seq (.region [
   ⟨some 102, .mov (.t 8), none⟩,
   ⟨some 103, .mov (.t 7), none⟩,
   ⟨some 104, .bin .eql (.t 102) (.t 103), none⟩,
   ⟨some 4, .mov (.t 104), none⟩])
 (.ret)))))))))))
theorem h_ladelaw18_ShardWhole : (prog.funcs[F_ladelaw18_ShardWhole]?).bind (compFn prog) = some A_ladelaw18_ShardWhole := by kernel_rfl


/- lade/ladelaw18.ShardOne -/
def A_ladelaw18_ShardOne : AFn := .mk 68 [.tmp 4] (
 .seq (.region [
   ⟨some 4, .mov (.c (.v (.bool false))), none⟩])
 (.seq (.seq (.region [
   ⟨some 9, .call (.c (.f (.func F_ladelaw18_known) [] [])) [], none⟩,
   ⟨some 10, .un .not (.t 9), none⟩])
 (.cond (.t 10)
  (.seq (.region [
    ⟨some 4, .mov (.c (.v (.bool false))), none⟩])
  (.ret))
  (.skip)))
 (.seq (.seq (.region [
   ⟨some 11, .mov (.t 0), none⟩,
   ⟨some 12, .call (.c (.f (.func F_ladelaw18_fewFound) [] [])) [(.t 11)], none⟩,
   ⟨some 13, .un .not (.t 12), none⟩])
 (.cond (.t 13)
  (.seq (.region [
    ⟨some 4, .mov (.c (.v (.bool true))), none⟩])
  (.ret))
  (.skip)))
 (.seq (.region [
   ⟨some 5, .mov (.c (.sl [] .zero)), none⟩])
 (.seq (.seq (.region [
   ⟨some 6, .mov (.c (.v (.int .i64 0))), none⟩])
 (.block 0 (.loop (.seq (.seq (.region [
     ⟨some 14, .mov (.t 6), none⟩,
     ⟨some 15, .mov (.t 0), none⟩,
     ⟨some 16, .len .sl (.t 15), none⟩,
     ⟨some 17, .bin .lss (.t 14) (.t 16), none⟩])
   (.cond (.t 17)
    (.skip)
    (.exit 0)))
   (.seq (.block 1 (.seq (.region [
      ⟨some 20, .mov (.t 0), none⟩,
      ⟨some 21, .mov (.t 6), none⟩,
      ⟨some 22, .idxp 4 (.t 20) (.t 21), none⟩,
      ⟨some 23, .fld 0 (.t 22), none⟩,
      ⟨some 24, .fld 1 (.t 23), none⟩,
      ⟨some 25, .load false 1 (.t 24), none⟩,
      ⟨some 26, .len .sl (.t 25), none⟩,
      ⟨some 27, .bin .gtr (.t 26) (.c (.v (.int .i64 0))), none⟩])
    (.cond (.t 27)
     (.region [
       ⟨some 28, .mov (.t 5), none⟩,
       ⟨some 29, .mov (.t 0), none⟩,
       ⟨some 30, .mov (.t 6), none⟩,
       ⟨some 31, .idxp 4 (.t 29) (.t 30), none⟩,
       ⟨some 32, .load true 4 (.t 31), none⟩,
       ⟨some 33, .bsl 4 [(.t 32)], none⟩,
       ⟨some 34, .append 4 48 (.t 28) (.t 33), none⟩,
       ⟨some 5, .mov (.t 34), none⟩])
     (.skip))))
   (.region [
     ⟨some 18, .mov (.t 6), none⟩,
     ⟨some 19, .bin .add (.t 18) (.c (.v (.int .i64 1))), none⟩,
     ⟨some 6, .mov (.t 19), none⟩]))))))
 (.seq (.region [
   ⟨some 35, .mov (.t 0), none⟩,
   ⟨some 36, .call (.c (.f (.func F_shard_Split) [] [])) [(.t 35), (.c (.v (.int .i64 1)))], none⟩,
   ⟨some 7, .mov (.t 36), none⟩])
 (.seq (.region [
   ⟨some 37, .mov (.t 0), none⟩,
   ⟨some 38, .mov (.t 1), none⟩,
   ⟨some 39, .conv .i64 (.t 38), none⟩,
   ⟨some 40, .call (.c (.f (.func F_shard_Split) [] [])) [(.t 37), (.t 39)], none⟩,
   ⟨some 8, .mov (.t 40), none⟩])
 (.seq (.region [
   ⟨some 41, .mov (.t 7), none⟩,
   ⟨some 42, .len .sl (.t 41), none⟩,
   ⟨some 43, .bin .eql (.t 42) (.c (.v (.int .i64 1))), none⟩,
   ⟨some 44, .mov (.t 43), none⟩,
   ⟨some 45, .mov (.t 7), some (44, true)⟩,
   ⟨some 46, .idxp 1 (.t 45) (.c (.v (.int .i64 0))), some (44, true)⟩,
   ⟨some 47, .load false 1 (.t 46), some (44, true)⟩,
   ⟨some 48, .mov (.t 5), some (44, true)⟩,
   ⟨some 49, .call (.c (.f (.func F_ladelaw18_same) [] [])) [(.t 47), (.t 48)], some (44, true)⟩,
   ⟨some 50, .pick (.t 44) (.t 49) (.c (.v (.bool false))), none⟩,
   ⟨some 51, .mov (.t 50), none⟩,
   ⟨some 52, .mov (.t 8), some (51, true)⟩,
   ⟨some 53, .len .sl (.t 52), some (51, true)⟩,
   ⟨some 54, .mov (.t 1), some (51, true)⟩,
   ⟨some 55, .conv .i64 (.t 54), some (51, true)⟩,
   ⟨some 56, .mm false [(.t 55), (.c (.v (.int .i64 64)))], some (51, true)⟩,
   ⟨some 57, .mm true [(.c (.v (.int .i64 1))), (.t 56)], some (51, true)⟩,
   ⟨some 58, .bin .eql (.t 53) (.t 57), some (51, true)⟩,
   ⟨some 59, .pick (.t 51) (.t 58) (.c (.v (.bool false))), none⟩,
   ⟨some 60, .mov (.t 59), none⟩,
   ⟨some 61, .call (.c (.f (.func F_shard_Of) [] [])) [(.c (.v (.int .i64 (-5)))), (.c (.v (.int .i64 3)))], some (60, true)⟩,
   ⟨some 62, .bin .eql (.t 61) (.c (.v (.int .i64 0))), some (60, true)⟩,
   ⟨some 63, .pick (.t 60) (.t 62) (.c (.v (.bool false))), none⟩,
   ⟨some 64, .mov (.t 63), none⟩,
   ⟨some 65, .call (.c (.f (.func F_shard_Of) [] [])) [(.c (.v (.int .i64 70))), (.c (.v (.int .i64 100)))], some (64, true)⟩,
   ⟨some 66, .bin .eql (.t 65) (.c (.v (.int .i64 6))), some (64, true)⟩,
   ⟨some 67, .pick (.t 64) (.t 66) (.c (.v (.bool false))), none⟩,
   ⟨some 4, .mov (.t 67), none⟩])
 (.ret)))))))))
theorem h_ladelaw18_ShardOne : (prog.funcs[F_ladelaw18_ShardOne]?).bind (compFn prog) = some A_ladelaw18_ShardOne := by kernel_rfl


/- lade/ladelaw18.ShardOrder -/
def A_ladelaw18_ShardOrder : AFn := .mk 119 [.tmp 4] (
 .seq (.region [
   ⟨some 4, .mov (.c (.v (.bool false))), none⟩])
 (.seq (.seq (.region [
   ⟨some 14, .call (.c (.f (.func F_ladelaw18_known) [] [])) [], none⟩,
   ⟨some 15, .un .not (.t 14), none⟩])
 (.cond (.t 15)
  (.seq (.region [
    ⟨some 4, .mov (.c (.v (.bool false))), none⟩])
  (.ret))
  (.skip)))
 (.seq (.seq (.region [
   ⟨some 16, .mov (.t 0), none⟩,
   ⟨some 17, .len .sl (.t 16), none⟩,
   ⟨some 18, .bin .gtr (.t 17) (.c (.v (.int .i64 60))), none⟩])
 (.cond (.t 18)
  (.seq (.region [
    ⟨some 4, .mov (.c (.v (.bool true))), none⟩])
  (.ret))
  (.skip)))
 (.seq (.region [
   ⟨some 5, .mov (.c (.sl [] .zero)), none⟩])
 (.seq (.seq (.region [
   ⟨some 6, .mov (.c (.v (.int .i64 0))), none⟩])
 (.block 0 (.loop (.seq (.seq (.region [
     ⟨some 19, .mov (.t 6), none⟩,
     ⟨some 20, .mov (.t 0), none⟩,
     ⟨some 21, .len .sl (.t 20), none⟩,
     ⟨some 22, .bin .lss (.t 19) (.t 21), none⟩])
   (.cond (.t 22)
    (.skip)
    (.exit 0)))
   (.seq (.block 1 (.seq (.region [
      ⟨some 25, .mov (.t 0), none⟩,
      ⟨some 26, .mov (.t 6), none⟩,
      ⟨some 27, .idxp 1 (.t 25) (.t 26), none⟩,
      ⟨some 28, .load false 1 (.t 27), none⟩,
      ⟨some 29, .conv .i64 (.t 28), none⟩,
      ⟨some 7, .mov (.t 29), none⟩])
    (.region [
      ⟨some 30, .mov (.t 5), none⟩,
      ⟨some 31, .mov (.t 6), none⟩,
      ⟨some 32, .bin .add (.t 31) (.c (.v (.int .i64 1))), none⟩,
      ⟨some 33, .mov (.t 7), none⟩,
      ⟨some 34, .build [(.v (.int .i64 0)), (.v (.int .i64 0)), (.sl [] .zero), (.v (.int .i64 0)), (.v (.int .i64 0)), (.v (.int .i64 0)), (.v (.int .i64 0)), (.v (.int .i64 0)), (.v (.bool false)), (.v (.bool false))] [(0, 1, (.t 33)), (1, 1, (.c (.v (.int .i64 2))))], none⟩,
      ⟨some 35, .mov (.t 7), none⟩,
      ⟨some 36, .bin .add (.t 35) (.c (.v (.int .i64 1))), none⟩,
      ⟨some 37, .build [(.v (.int .i64 0)), (.v (.int .i64 0)), (.sl [] .zero), (.v (.int .i64 0)), (.v (.int .i64 0)), (.v (.int .i64 0)), (.v (.int .i64 0)), (.v (.int .i64 0)), (.v (.bool false)), (.v (.bool false))] [(0, 1, (.t 36)), (1, 1, (.c (.v (.int .i64 5))))], none⟩,
      ⟨some 38, .bsl 10 [(.t 34), (.t 37)], none⟩,
      ⟨some 39, .build [(.v (.int .i64 0)), (.sl [] .zero)] [(0, 1, (.t 32)), (1, 1, (.t 38))], none⟩,
      ⟨some 40, .mov (.t 6), none⟩,
      ⟨some 41, .build [(.v (.int .i64 0)), (.v (.int .i64 0))] [(0, 1, (.c (.v (.int .i64 1)))), (1, 1, (.t 40))], none⟩,
      ⟨some 42, .build [(.v (.int .i64 0)), (.sl [] .zero), (.v (.int .i64 0)), (.v (.int .i64 0))] [(0, 2, (.t 39)), (2, 2, (.t 41))], none⟩,
      ⟨some 43, .bsl 4 [(.t 42)], none⟩,
      ⟨some 44, .append 4 48 (.t 30) (.t 43), none⟩,
      ⟨some 5, .mov (.t 44), none⟩])))
   (.region [
     ⟨some 23, .mov (.t 6), none⟩,
     ⟨some 24, .bin .add (.t 23) (.c (.v (.int .i64 1))), none⟩,
     ⟨some 6, .mov (.t 24), none⟩]))))))
 (.seq (.region [
   ⟨some 45, .mov (.t 1), none⟩,
   ⟨some 46, .bin .rem (.t 45) (.c (.v (.int .u8 64))), none⟩,
   ⟨some 47, .conv .i64 (.t 46), none⟩,
   ⟨some 48, .bin .add (.t 47) (.c (.v (.int .i64 1))), none⟩,
   ⟨some 8, .mov (.t 48), none⟩])
 (.seq (.region [
   ⟨some 49, .mov (.t 5), none⟩,
   ⟨some 50, .mov (.t 8), none⟩,
   ⟨some 51, .call (.c (.f (.func F_shard_Split) [] [])) [(.t 49), (.t 50)], none⟩,
   ⟨some 9, .mov (.t 51), none⟩])
 (.seq (.region [
   ⟨some 10, .mov (.c (.v (.int .i64 0))), none⟩])
 (.seq (.seq (.region [
   ⟨some 11, .mov (.c (.v (.int .i64 0))), none⟩])
 (.block 2 (.loop (.seq (.seq (.region [
     ⟨some 52, .mov (.t 11), none⟩,
     ⟨some 53, .mov (.t 9), none⟩,
     ⟨some 54, .len .sl (.t 53), none⟩,
     ⟨some 55, .bin .lss (.t 52) (.t 54), none⟩])
   (.cond (.t 55)
    (.skip)
    (.exit 2)))
   (.seq (.block 3 (.seq (.region [
      ⟨some 12, .mov (.c (.v (.int .i64 0))), none⟩])
    (.block 4 (.loop (.seq (.seq (.region [
        ⟨some 58, .mov (.t 12), none⟩,
        ⟨some 59, .mov (.t 9), none⟩,
        ⟨some 60, .mov (.t 11), none⟩,
        ⟨some 61, .idxp 1 (.t 59) (.t 60), none⟩,
        ⟨some 62, .load false 1 (.t 61), none⟩,
        ⟨some 63, .len .sl (.t 62), none⟩,
        ⟨some 64, .bin .lss (.t 58) (.t 63), none⟩])
      (.cond (.t 64)
       (.skip)
       (.exit 4)))
      (.seq (.block 5 (.seq (.region [
         ⟨some 67, .mov (.t 9), none⟩,
         ⟨some 68, .mov (.t 11), none⟩,
         ⟨some 69, .idxp 1 (.t 67) (.t 68), none⟩,
         ⟨some 70, .load false 1 (.t 69), none⟩,
         ⟨some 71, .mov (.t 12), none⟩,
         ⟨some 72, .idxp 4 (.t 70) (.t 71), none⟩,
         ⟨some 73, .load true 4 (.t 72), none⟩,
         ⟨some 13, .alloc [(.v (.int .i64 0)), (.sl [] .zero), (.v (.int .i64 0)), (.v (.int .i64 0))], none⟩,
         ⟨none, .store 4 (.t 13) (.t 73), none⟩])
       (.seq (.seq (.draw (
         ⟨⟨some 74, .mov (.t 12), none⟩, false, false, []⟩ ::
         ⟨⟨some 75, .bin .gtr (.t 74) (.c (.v (.int .i64 0))), none⟩, false, false, []⟩ ::
         ⟨⟨some 76, .mov (.t 75), none⟩, false, false, []⟩ ::
         ⟨⟨some 77, .mov (.t 9), some (76, true)⟩, false, false, []⟩ ::
         ⟨⟨some 78, .mov (.t 11), some (76, true)⟩, false, false, []⟩ ::
         ⟨⟨some 79, .idxp 1 (.t 77) (.t 78), some (76, true)⟩, false, false, []⟩ ::
         ⟨⟨some 80, .load false 1 (.t 79), some (76, true)⟩, false, false, []⟩ ::
         ⟨⟨some 81, .mov (.t 12), some (76, true)⟩, false, false, []⟩ ::
         ⟨⟨some 82, .bin .sub (.t 81) (.c (.v (.int .i64 1))), some (76, true)⟩, false, false, []⟩ ::
         ⟨⟨some 83, .idxp 4 (.t 80) (.t 82), some (76, true)⟩, false, false, []⟩ ::
         ⟨⟨some 84, .fld 0 (.t 83), some (76, true)⟩, false, false, []⟩ ::
         ⟨⟨some 85, .fld 0 (.t 84), some (76, true)⟩, false, false, []⟩ ::
         ⟨⟨some 86, .load false 1 (.t 85), some (76, true)⟩, false, false, []⟩ ::
         ⟨⟨some 87, .fld 0 (.t 13), some (76, true)⟩, false, false, []⟩ ::
         ⟨⟨some 88, .fld 0 (.t 87), some (76, true)⟩, false, false, []⟩ ::
         ⟨⟨some 89, .load false 1 (.t 88), some (76, true)⟩, false, false, []⟩ ::
         ⟨⟨some 90, .bin .geq (.t 86) (.t 89), some (76, true)⟩, false, false, []⟩ ::
         ⟨⟨some 91, .pick (.t 76) (.t 90) (.c (.v (.bool false))), none⟩, false, false, []⟩ ::
         ⟨⟨some 92, .mov (.t 91), none⟩, false, false, []⟩ ::
         ⟨⟨some 93, .fld 2 (.t 13), some (92, false)⟩, false, false, []⟩ ::
         ⟨⟨some 94, .fld 1 (.t 93), some (92, false)⟩, false, false, []⟩ ::
         ⟨⟨some 95, .load false 1 (.t 94), some (92, false)⟩, false, false, []⟩ ::
         ⟨⟨some 96, .fld 0 (.t 13), some (92, false)⟩, false, false, []⟩ ::
         ⟨⟨some 97, .fld 0 (.t 96), some (92, false)⟩, false, false, []⟩ ::
         ⟨⟨some 98, .load false 1 (.t 97), some (92, false)⟩, false, false, []⟩ ::
         ⟨⟨some 99, .bin .sub (.t 98) (.c (.v (.int .i64 1))), some (92, false)⟩, false, false, []⟩ ::
         ⟨⟨some 100, .bin .neq (.t 95) (.t 99), some (92, false)⟩, false, false, []⟩ ::
         ⟨⟨some 101, .pick (.t 92) (.c (.v (.bool true))) (.t 100), none⟩, false, false, []⟩ ::
         []))
       (.cond (.t 101)
        (.seq (.region [
          ⟨some 4, .mov (.c (.v (.bool false))), none⟩])
        (.ret))
        (.skip)))
       (.region [
         ⟨some 102, .mov (.t 10), none⟩,
         ⟨some 103, .fld 0 (.t 13), none⟩,
         ⟨some 104, .fld 1 (.t 103), none⟩,
         ⟨some 105, .load false 1 (.t 104), none⟩,
         ⟨some 106, .len .sl (.t 105), none⟩,
         ⟨some 107, .bin .add (.t 102) (.t 106), none⟩,
         ⟨some 10, .mov (.t 107), none⟩]))))
      (.region [
        ⟨some 65, .mov (.t 12), none⟩,
        ⟨some 66, .bin .add (.t 65) (.c (.v (.int .i64 1))), none⟩,
        ⟨some 12, .mov (.t 66), none⟩])))))))
   (.region [
     ⟨some 56, .mov (.t 11), none⟩,
     ⟨some 57, .bin .add (.t 56) (.c (.v (.int .i64 1))), none⟩,
     ⟨some 11, .mov (.t 57), none⟩]))))))
 (.seq (.region [
   ⟨some 108, .mov (.t 9), none⟩,
   ⟨some 109, .len .sl (.t 108), none⟩,
   ⟨some 110, .mov (.t 8), none⟩,
   ⟨some 111, .bin .eql (.t 109) (.t 110), none⟩,
   ⟨some 112, .mov (.t 111), none⟩,
   ⟨some 113, .mov (.t 10), some (112, true)⟩,
   ⟨some 114, .mov (.t 0), some (112, true)⟩,
   ⟨some 115, .len .sl (.t 114), some (112, true)⟩,
   ⟨some 116, .bin .mul (.c (.v (.int .i64 2))) (.t 115), some (112, true)⟩,
   ⟨some 117, .bin .eql (.t 113) (.t 116), some (112, true)⟩,
   ⟨some 118, .pick (.t 112) (.t 117) (.c (.v (.bool false))), none⟩,
   ⟨some 4, .mov (.t 118), none⟩])
 (.ret)))))))))))
theorem h_ladelaw18_ShardOrder : (prog.funcs[F_ladelaw18_ShardOrder]?).bind (compFn prog) = some A_ladelaw18_ShardOrder := by kernel_rfl


/- lade/ladelaw21.known -/
def A_ladelaw21_known : AFn := .mk 65 [.tmp 0] (
 .seq (.region [
   ⟨some 0, .mov (.c (.v (.bool false))), none⟩])
 (.seq (.region [
   ⟨some 10, .call (.c (.f (.func F_tail_Judge) [] [])) [(.c (.v (.bool true))), (.c (.v (.int .i64 40))), (.c (.v (.int .i64 3)))], none⟩,
   ⟨some 9, .mov (.t 10), none⟩,
   ⟨some 11, .extract 0 (.t 9), none⟩,
   ⟨some 12, .extract 1 (.t 9), none⟩,
   ⟨some 1, .mov (.t 11), none⟩,
   ⟨some 2, .mov (.t 12), none⟩])
 (.seq (.region [
   ⟨some 14, .call (.c (.f (.func F_tail_Judge) [] [])) [(.c (.v (.bool false))), (.c (.v (.int .i64 40))), (.c (.v (.int .i64 3)))], none⟩,
   ⟨some 13, .mov (.t 14), none⟩,
   ⟨some 15, .extract 0 (.t 13), none⟩,
   ⟨some 16, .extract 1 (.t 13), none⟩,
   ⟨some 3, .mov (.t 15), none⟩,
   ⟨some 4, .mov (.t 16), none⟩])
 (.seq (.region [
   ⟨some 18, .call (.c (.f (.func F_tail_Judge) [] [])) [(.c (.v (.bool true))), (.c (.v (.int .i64 0))), (.c (.v (.int .i64 3)))], none⟩,
   ⟨some 17, .mov (.t 18), none⟩,
   ⟨some 19, .extract 0 (.t 17), none⟩,
   ⟨some 20, .extract 1 (.t 17), none⟩,
   ⟨some 5, .mov (.t 19), none⟩,
   ⟨some 6, .mov (.t 20), none⟩])
 (.seq (.region [
   ⟨some 22, .call (.c (.f (.func F_tail_Judge) [] [])) [(.c (.v (.bool false))), (.c (.v (.int .i64 40))), (.c (.v (.int .i64 2)))], none⟩,
   ⟨some 21, .mov (.t 22), none⟩,
   ⟨some 23, .extract 0 (.t 21), none⟩,
   ⟨some 24, .extract 1 (.t 21), none⟩,
   ⟨some 7, .mov (.t 23), none⟩,
   ⟨some 8, .mov (.t 24), none⟩])
 (.seq (.region [
   ⟨some 25, .mov (.t 2), none⟩,
   ⟨some 26, .bin .eql (.t 25) (.c (.v (.int .i64 0))), none⟩,
   ⟨some 27, .mov (.t 26), none⟩,
   ⟨some 28, .mov (.t 1), some (27, true)⟩,
   ⟨some 29, .bin .eql (.t 28) (.c (.v (.int .i64 40))), some (27, true)⟩,
   ⟨some 30, .pick (.t 27) (.t 29) (.c (.v (.bool false))), none⟩,
   ⟨some 31, .mov (.t 30), none⟩,
   ⟨some 32, .mov (.t 4), some (31, true)⟩,
   ⟨some 33, .bin .eql (.t 32) (.c (.v (.int .i64 21))), some (31, true)⟩,
   ⟨some 34, .pick (.t 31) (.t 33) (.c (.v (.bool false))), none⟩,
   ⟨some 35, .mov (.t 34), none⟩,
   ⟨some 36, .mov (.t 6), some (35, true)⟩,
   ⟨some 37, .bin .eql (.t 36) (.c (.v (.int .i64 21))), some (35, true)⟩,
   ⟨some 38, .pick (.t 35) (.t 37) (.c (.v (.bool false))), none⟩,
   ⟨some 39, .mov (.t 38), none⟩,
   ⟨some 40, .mov (.t 8), some (39, true)⟩,
   ⟨some 41, .bin .eql (.t 40) (.c (.v (.int .i64 0))), some (39, true)⟩,
   ⟨some 42, .pick (.t 39) (.t 41) (.c (.v (.bool false))), none⟩,
   ⟨some 43, .mov (.t 42), none⟩,
   ⟨some 44, .mov (.t 7), some (43, true)⟩,
   ⟨some 45, .bin .eql (.t 44) (.c (.v (.int .i64 40))), some (43, true)⟩,
   ⟨some 46, .pick (.t 43) (.t 45) (.c (.v (.bool false))), none⟩,
   ⟨some 47, .mov (.t 46), none⟩,
   ⟨some 48, .build [(.v (.int .i64 0)), (.sl [] .zero)] [(0, 1, (.c (.v (.int .i64 4))))], some (47, true)⟩,
   ⟨some 49, .build [(.v (.int .i64 0)), (.sl [] .zero), (.v (.int .i64 0)), (.v (.int .i64 0))] [(0, 2, (.t 48))], some (47, true)⟩,
   ⟨some 50, .build [(.v (.int .i64 0)), (.sl [] .zero)] [(0, 1, (.c (.v (.int .i64 5))))], some (47, true)⟩,
   ⟨some 51, .build [(.v (.int .i64 0)), (.sl [] .zero), (.v (.int .i64 0)), (.v (.int .i64 0))] [(0, 2, (.t 50))], some (47, true)⟩,
   ⟨some 52, .bsl 4 [(.t 49), (.t 51)], some (47, true)⟩,
   ⟨some 53, .call (.c (.f (.func F_tail_Seqs) [] [])) [(.t 52), (.c (.v (.int .i64 4)))], some (47, true)⟩,
   ⟨some 54, .pick (.t 47) (.t 53) (.c (.v (.bool false))), none⟩,
   ⟨some 55, .mov (.t 54), none⟩,
   ⟨some 56, .build [(.v (.int .i64 0)), (.sl [] .zero)] [(0, 1, (.c (.v (.int .i64 4))))], some (55, true)⟩,
   ⟨some 57, .build [(.v (.int .i64 0)), (.sl [] .zero), (.v (.int .i64 0)), (.v (.int .i64 0))] [(0, 2, (.t 56))], some (55, true)⟩,
   ⟨some 58, .bsl 4 [(.t 57)], some (55, true)⟩,
   ⟨some 59, .call (.c (.f (.func F_tail_Seqs) [] [])) [(.t 58), (.c (.v (.int .i64 3)))], some (55, true)⟩,
   ⟨some 60, .un .not (.t 59), some (55, true)⟩,
   ⟨some 61, .pick (.t 55) (.t 60) (.c (.v (.bool false))), none⟩,
   ⟨some 62, .mov (.t 61), none⟩,
   ⟨some 63, .call (.c (.f (.func F_tail_Seqs) [] [])) [(.c (.sl [] .zero)), (.c (.v (.int .i64 7)))], some (62, true)⟩,
   ⟨some 64, .pick (.t 62) (.t 63) (.c (.v (.bool false))), none⟩,
   ⟨some 0, .mov (.t 64), none⟩])
 (.ret)))))))
theorem h_ladelaw21_known : (prog.funcs[F_ladelaw21_known]?).bind (compFn prog) = some A_ladelaw21_known := by kernel_rfl


/- lade/tail.Seqs -/
def A_tail_Seqs : AFn := .mk 31 [.tmp 4] (
 .seq (.region [
   ⟨some 4, .mov (.c (.v (.bool false))), none⟩])
 (.scope (.seq (.label 0)
  (.seq (.seq (.region [
    ⟨some 7, .mov (.t 0), none⟩,
    ⟨some 8, .len .sl (.t 7), none⟩,
    ⟨some 9, .mov (.c (.v (.int .i64 0))), none⟩])
  (.block 0 (.loop (.seq (.region [
      ⟨some 10, .bin .lss (.t 9) (.t 8), none⟩])
    (.seq (.cond (.t 10)
     (.skip)
     (.exit 0))
    (.seq (.block 1 (.seq (.region [
       ⟨some 11, .mov (.t 9), none⟩,
       ⟨some 12, .idxp 4 (.t 7) (.t 9), none⟩,
       ⟨some 13, .load true 4 (.t 12), none⟩,
       ⟨some 6, .alloc [(.v (.int .i64 0)), (.sl [] .zero), (.v (.int .i64 0)), (.v (.int .i64 0))], none⟩,
       ⟨some 5, .mov (.t 11), none⟩,
       ⟨none, .store 4 (.t 6) (.t 13), none⟩])
     (.seq (.block 2 (.seq (.seq (.region [
        ⟨some 15, .mov (.t 5), none⟩,
        ⟨some 16, .bin .eql (.t 15) (.c (.v (.int .i64 0))), none⟩,
        ⟨some 17, .mov (.t 16), none⟩,
        ⟨some 18, .mov (.t 1), some (17, true)⟩,
        ⟨some 19, .bin .eql (.t 18) (.c (.v (.int .i64 0))), some (17, true)⟩,
        ⟨some 20, .pick (.t 17) (.t 19) (.c (.v (.bool false))), none⟩,
        ⟨some 14, .mov (.t 20), none⟩])
      (.cond (.t 14)
       (.skip)
       (.region [
         ⟨some 21, .fld 0 (.t 6), none⟩,
         ⟨some 22, .fld 0 (.t 21), none⟩,
         ⟨some 23, .load false 1 (.t 22), none⟩,
         ⟨some 24, .mov (.t 1), none⟩,
         ⟨some 25, .bin .eql (.t 23) (.t 24), none⟩,
         ⟨some 14, .mov (.t 25), none⟩])))
      (.cond (.t 14)
       (.seq (.region [
         ⟨some 26, .fld 0 (.t 6), none⟩,
         ⟨some 27, .fld 0 (.t 26), none⟩,
         ⟨some 28, .load false 1 (.t 27), none⟩,
         ⟨some 29, .bin .add (.t 28) (.c (.v (.int .i64 1))), none⟩,
         ⟨some 1, .mov (.t 29), none⟩])
       (.exit 1))
       (.skip))))
     (.seq (.region [
       ⟨some 4, .mov (.c (.v (.bool false))), none⟩])
     (.ret)))))
    (.region [
      ⟨some 30, .bin .add (.t 9) (.c (.v (.int .i64 1))), none⟩,
      ⟨some 9, .mov (.t 30), none⟩])))))))
  (.seq (.region [
    ⟨some 4, .mov (.c (.v (.bool true))), none⟩])
  (.ret))))))
theorem h_tail_Seqs : (prog.funcs[F_tail_Seqs]?).bind (compFn prog) = some A_tail_Seqs := by kernel_rfl


/- lade/tail.Judge -/
def A_tail_Judge : AFn := .mk 25 [.tmp 6, .tmp 7] (
 .seq (.region [
   ⟨some 6, .mov (.c (.v (.int .i64 0))), none⟩,
   ⟨some 7, .mov (.c (.v (.int .i64 0))), none⟩])
 (.seq (.block 0 (.seq (.seq (.region [
    ⟨some 9, .mov (.t 2), none⟩,
    ⟨some 10, .bin .eql (.t 9) (.c (.v (.int .i64 2))), none⟩,
    ⟨some 8, .mov (.t 10), none⟩])
  (.cond (.t 8)
   (.skip)
   (.region [
     ⟨some 11, .mov (.t 0), none⟩,
     ⟨some 12, .mov (.t 11), none⟩,
     ⟨some 13, .mov (.t 1), some (12, true)⟩,
     ⟨some 14, .bin .geq (.t 13) (.c (.v (.int .i64 16))), some (12, true)⟩,
     ⟨some 15, .pick (.t 12) (.t 14) (.c (.v (.bool false))), none⟩,
     ⟨some 16, .mov (.t 15), none⟩,
     ⟨some 17, .mov (.t 2), some (16, true)⟩,
     ⟨some 18, .bin .eql (.t 17) (.c (.v (.int .i64 3))), some (16, true)⟩,
     ⟨some 19, .mov (.t 18), some (16, true)⟩,
     ⟨some 20, .mov (.t 2), some (19, false)⟩,
     ⟨some 21, .bin .eql (.t 20) (.c (.v (.int .i64 4))), some (19, false)⟩,
     ⟨some 22, .pick (.t 19) (.c (.v (.bool true))) (.t 21), some (16, true)⟩,
     ⟨some 23, .pick (.t 16) (.t 22) (.c (.v (.bool false))), none⟩,
     ⟨some 8, .mov (.t 23), none⟩])))
  (.cond (.t 8)
   (.seq (.region [
     ⟨some 24, .mov (.t 1), none⟩,
     ⟨some 6, .mov (.t 24), none⟩,
     ⟨some 7, .mov (.c (.v (.int .i64 0))), none⟩])
   (.ret))
   (.skip))))
 (.seq (.region [
   ⟨some 6, .mov (.c (.v (.int .i64 0))), none⟩,
   ⟨some 7, .mov (.c (.v (.int .i64 21))), none⟩])
 (.ret))))
theorem h_tail_Judge : (prog.funcs[F_tail_Judge]?).bind (compFn prog) = some A_tail_Judge := by kernel_rfl


/- lade/ladelaw18.known -/
def A_ladelaw18_known : AFn := .mk 74 [.tmp 0] (
 .seq (.region [
   ⟨some 0, .mov (.c (.v (.bool false))), none⟩])
 (.seq (.region [
   ⟨some 3, .build [(.v (.int .i64 0)), (.v (.int .i64 0)), (.sl [] .zero), (.v (.int .i64 0)), (.v (.int .i64 0)), (.v (.int .i64 0)), (.v (.int .i64 0)), (.v (.int .i64 0)), (.v (.bool false)), (.v (.bool false))] [(0, 1, (.c (.v (.int .i64 1)))), (1, 1, (.c (.v (.int .i64 5))))], none⟩,
   ⟨some 4, .build [(.v (.int .i64 0)), (.v (.int .i64 0)), (.sl [] .zero), (.v (.int .i64 0)), (.v (.int .i64 0)), (.v (.int .i64 0)), (.v (.int .i64 0)), (.v (.int .i64 0)), (.v (.bool false)), (.v (.bool false))] [(0, 1, (.c (.v (.int .i64 2)))), (1, 1, (.c (.v (.int .i64 5))))], none⟩,
   ⟨some 5, .bsl 10 [(.t 3), (.t 4)], none⟩,
   ⟨some 6, .build [(.v (.int .i64 0)), (.sl [] .zero)] [(0, 1, (.c (.v (.int .i64 4)))), (1, 1, (.t 5))], none⟩,
   ⟨some 7, .build [(.v (.int .i64 0)), (.v (.int .i64 0))] [(0, 1, (.c (.v (.int .i64 3)))), (1, 1, (.c (.v (.int .i64 16))))], none⟩,
   ⟨some 8, .build [(.v (.int .i64 0)), (.sl [] .zero), (.v (.int .i64 0)), (.v (.int .i64 0))] [(0, 2, (.t 6)), (2, 2, (.t 7))], none⟩,
   ⟨some 9, .bsl 4 [(.t 8)], none⟩,
   ⟨some 1, .mov (.t 9), none⟩])
 (.seq (.region [
   ⟨some 10, .mov (.t 1), none⟩,
   ⟨some 11, .call (.c (.f (.func F_shard_Split) [] [])) [(.t 10), (.c (.v (.int .i64 2)))], none⟩,
   ⟨some 2, .mov (.t 11), none⟩])
 (.seq (.draw (
   ⟨⟨some 12, .call (.c (.f (.func F_shard_Of) [] [])) [(.c (.v (.int .i64 5))), (.c (.v (.int .i64 2)))], none⟩, true, false, []⟩ ::
   ⟨⟨some 13, .bin .eql (.t 12) (.c (.v (.int .i64 1))), none⟩, false, false, []⟩ ::
   ⟨⟨some 14, .mov (.t 13), none⟩, false, false, []⟩ ::
   ⟨⟨some 15, .mov (.t 2), some (14, true)⟩, false, false, []⟩ ::
   ⟨⟨some 16, .len .sl (.t 15), some (14, true)⟩, false, false, []⟩ ::
   ⟨⟨some 17, .bin .eql (.t 16) (.c (.v (.int .i64 2))), some (14, true)⟩, false, false, []⟩ ::
   ⟨⟨some 18, .pick (.t 14) (.t 17) (.c (.v (.bool false))), none⟩, false, false, []⟩ ::
   ⟨⟨some 19, .mov (.t 18), none⟩, false, false, []⟩ ::
   ⟨⟨some 20, .mov (.t 2), some (19, true)⟩, false, false, []⟩ ::
   ⟨⟨some 21, .idxp 1 (.t 20) (.c (.v (.int .i64 0))), some (19, true)⟩, false, false, []⟩ ::
   ⟨⟨some 22, .load false 1 (.t 21), some (19, true)⟩, false, false, []⟩ ::
   ⟨⟨some 23, .len .sl (.t 22), some (19, true)⟩, false, false, []⟩ ::
   ⟨⟨some 24, .bin .eql (.t 23) (.c (.v (.int .i64 1))), some (19, true)⟩, false, false, []⟩ ::
   ⟨⟨some 25, .pick (.t 19) (.t 24) (.c (.v (.bool false))), none⟩, false, false, []⟩ ::
   ⟨⟨some 26, .mov (.t 25), none⟩, false, false, []⟩ ::
   ⟨⟨some 27, .mov (.t 2), some (26, true)⟩, false, false, []⟩ ::
   ⟨⟨some 28, .idxp 1 (.t 27) (.c (.v (.int .i64 1))), some (26, true)⟩, false, false, []⟩ ::
   ⟨⟨some 29, .load false 1 (.t 28), some (26, true)⟩, false, false, []⟩ ::
   ⟨⟨some 30, .len .sl (.t 29), some (26, true)⟩, false, false, []⟩ ::
   ⟨⟨some 31, .bin .eql (.t 30) (.c (.v (.int .i64 1))), some (26, true)⟩, false, false, []⟩ ::
   ⟨⟨some 32, .pick (.t 26) (.t 31) (.c (.v (.bool false))), none⟩, false, false, []⟩ ::
   ⟨⟨some 33, .mov (.t 32), none⟩, false, false, []⟩ ::
   ⟨⟨some 34, .mov (.t 2), some (33, true)⟩, false, false, []⟩ ::
   ⟨⟨some 35, .idxp 1 (.t 34) (.c (.v (.int .i64 0))), some (33, true)⟩, false, false, []⟩ ::
   ⟨⟨some 36, .load false 1 (.t 35), some (33, true)⟩, false, false, []⟩ ::
   ⟨⟨some 37, .idxp 4 (.t 36) (.c (.v (.int .i64 0))), some (33, true)⟩, false, false, []⟩ ::
   ⟨⟨some 38, .fld 0 (.t 37), some (33, true)⟩, false, false, []⟩ ::
   ⟨⟨some 39, .fld 1 (.t 38), some (33, true)⟩, false, false, []⟩ ::
   ⟨⟨some 40, .load false 1 (.t 39), some (33, true)⟩, false, false, []⟩ ::
   ⟨⟨some 41, .idxp 10 (.t 40) (.c (.v (.int .i64 0))), some (33, true)⟩, false, false, []⟩ ::
   ⟨⟨some 42, .fld 0 (.t 41), some (33, true)⟩, false, false, []⟩ ::
   ⟨⟨some 43, .load false 1 (.t 42), some (33, true)⟩, false, false, []⟩ ::
   ⟨⟨some 44, .bin .eql (.t 43) (.c (.v (.int .i64 2))), some (33, true)⟩, false, false, []⟩ ::
   ⟨⟨some 45, .pick (.t 33) (.t 44) (.c (.v (.bool false))), none⟩, false, false, []⟩ ::
   ⟨⟨some 46, .mov (.t 45), none⟩, false, false, []⟩ ::
   ⟨⟨some 47, .mov (.t 2), some (46, true)⟩, false, false, []⟩ ::
   ⟨⟨some 48, .idxp 1 (.t 47) (.c (.v (.int .i64 1))), some (46, true)⟩, false, false, []⟩ ::
   ⟨⟨some 49, .load false 1 (.t 48), some (46, true)⟩, false, false, []⟩ ::
   ⟨⟨some 50, .idxp 4 (.t 49) (.c (.v (.int .i64 0))), some (46, true)⟩, false, false, []⟩ ::
   ⟨⟨some 51, .fld 2 (.t 50), some (46, true)⟩, false, false, []⟩ ::
   ⟨⟨some 52, .load true 2 (.t 51), some (46, true)⟩, false, false, []⟩ ::
   ⟨⟨some 53, .mov (.t 1), some (46, true)⟩, false, false, []⟩ ::
   ⟨⟨some 54, .idxp 4 (.t 53) (.c (.v (.int .i64 0))), some (46, true)⟩, false, false, []⟩ ::
   ⟨⟨some 55, .fld 2 (.t 54), some (46, true)⟩, false, false, []⟩ ::
   ⟨⟨some 56, .load true 2 (.t 55), some (46, true)⟩, false, false, []⟩ ::
   ⟨⟨some 57, .eqa false (.agg [.i, .i]) (.t 52) (.t 56), some (46, true)⟩, false, false, []⟩ ::
   ⟨⟨some 58, .pick (.t 46) (.t 57) (.c (.v (.bool false))), none⟩, false, false, []⟩ ::
   ⟨⟨some 59, .mov (.t 58), none⟩, false, false, []⟩ ::
   ⟨⟨some 60, .mov (.t 2), some (59, true)⟩, false, false, []⟩ ::
   ⟨⟨some 61, .idxp 1 (.t 60) (.c (.v (.int .i64 1))), some (59, true)⟩, false, false, []⟩ ::
   ⟨⟨some 62, .load false 1 (.t 61), some (59, true)⟩, false, false, []⟩ ::
   ⟨⟨some 63, .idxp 4 (.t 62) (.c (.v (.int .i64 0))), some (59, true)⟩, false, false, []⟩ ::
   ⟨⟨some 64, .fld 0 (.t 63), some (59, true)⟩, false, false, []⟩ ::
   ⟨⟨some 65, .fld 0 (.t 64), some (59, true)⟩, false, false, []⟩ ::
   ⟨⟨some 66, .load false 1 (.t 65), some (59, true)⟩, false, false, []⟩ ::
   ⟨⟨some 67, .bin .eql (.t 66) (.c (.v (.int .i64 4))), some (59, true)⟩, false, false, []⟩ ::
   ⟨⟨some 68, .pick (.t 59) (.t 67) (.c (.v (.bool false))), none⟩, false, false, []⟩ ::
   ⟨⟨some 69, .mov (.t 68), none⟩, false, false, []⟩ ::
   ⟨⟨some 70, .call (.c (.f (.func F_shard_Split) [] [])) [(.c (.sl [] .zero)), (.c (.v (.int .i64 99)))], some (69, true)⟩, true, false, []⟩ ::
   ⟨⟨some 71, .len .sl (.t 70), some (69, true)⟩, false, false, []⟩ ::
   ⟨⟨some 72, .bin .eql (.t 71) (.c (.v (.int .i64 64))), some (69, true)⟩, false, false, []⟩ ::
   ⟨⟨some 73, .pick (.t 69) (.t 72) (.c (.v (.bool false))), none⟩, false, false, []⟩ ::
   ⟨⟨some 0, .mov (.t 73), none⟩, false, false, []⟩ ::
   []))
 (.ret)))))
theorem h_ladelaw18_known : (prog.funcs[F_ladelaw18_known]?).bind (compFn prog) = some A_ladelaw18_known := by kernel_rfl


/- lade/ladelaw18.fewFound -/
def A_ladelaw18_fewFound : AFn := .mk 21 [.tmp 2] (
 .seq (.region [
   ⟨some 2, .mov (.c (.v (.bool false))), none⟩])
 (.seq (.seq (.region [
   ⟨some 3, .mov (.c (.v (.int .i64 0))), none⟩])
 (.block 0 (.loop (.seq (.seq (.region [
     ⟨some 4, .mov (.t 3), none⟩,
     ⟨some 5, .mov (.t 0), none⟩,
     ⟨some 6, .len .sl (.t 5), none⟩,
     ⟨some 7, .bin .lss (.t 4) (.t 6), none⟩])
   (.cond (.t 7)
    (.skip)
    (.exit 0)))
   (.seq (.block 1 (.seq (.region [
      ⟨some 10, .mov (.t 0), none⟩,
      ⟨some 11, .mov (.t 3), none⟩,
      ⟨some 12, .idxp 4 (.t 10) (.t 11), none⟩,
      ⟨some 13, .fld 0 (.t 12), none⟩,
      ⟨some 14, .fld 1 (.t 13), none⟩,
      ⟨some 15, .load false 1 (.t 14), none⟩,
      ⟨some 16, .call (.c (.f (.func F_ladelaw18_fewParts) [] [])) [(.t 15)], none⟩,
      ⟨some 17, .un .not (.t 16), none⟩])
    (.cond (.t 17)
     (.seq (.region [
       ⟨some 2, .mov (.c (.v (.bool false))), none⟩])
     (.ret))
     (.skip))))
   (.region [
     ⟨some 8, .mov (.t 3), none⟩,
     ⟨some 9, .bin .add (.t 8) (.c (.v (.int .i64 1))), none⟩,
     ⟨some 3, .mov (.t 9), none⟩]))))))
 (.seq (.region [
   ⟨some 18, .mov (.t 0), none⟩,
   ⟨some 19, .len .sl (.t 18), none⟩,
   ⟨some 20, .bin .leq (.t 19) (.c (.v (.int .i64 30))), none⟩,
   ⟨some 2, .mov (.t 20), none⟩])
 (.ret))))
theorem h_ladelaw18_fewFound : (prog.funcs[F_ladelaw18_fewFound]?).bind (compFn prog) = some A_ladelaw18_fewFound := by kernel_rfl


/- lade/shard.Split -/
def A_shard_Split : AFn := .mk 65 [.tmp 4] (
 .seq (.region [
   ⟨some 4, .mov (.c (.sl [] .zero)), none⟩])
 (.seq (.region [
   ⟨some 11, .mov (.t 1), none⟩,
   ⟨some 12, .call (.c (.f (.func F_shard_held) [] [])) [(.t 11)], none⟩,
   ⟨some 1, .mov (.t 12), none⟩])
 (.seq (.region [
   ⟨some 13, .mov (.t 1), none⟩,
   ⟨some 14, .mksl [(.sl [] .zero)] 24 (.t 13), none⟩,
   ⟨some 5, .mov (.t 14), none⟩])
 (.seq (.seq (.region [
   ⟨some 15, .mov (.t 5), none⟩,
   ⟨some 16, .len .sl (.t 15), none⟩,
   ⟨some 17, .mov (.c (.v (.int .i64 0))), none⟩])
 (.block 0 (.loop (.seq (.region [
     ⟨some 18, .bin .lss (.t 17) (.t 16), none⟩])
   (.seq (.cond (.t 18)
    (.skip)
    (.exit 0))
   (.seq (.block 1 (.seq (.region [
      ⟨some 19, .mov (.t 17), none⟩,
      ⟨some 6, .mov (.t 19), none⟩])
    (.seq (.region [
      ⟨some 20, .mov (.t 0), none⟩,
      ⟨some 21, .len .sl (.t 20), none⟩,
      ⟨some 22, .mov (.c (.v (.int .i64 0))), none⟩])
    (.block 2 (.loop (.seq (.region [
        ⟨some 23, .bin .lss (.t 22) (.t 21), none⟩])
      (.seq (.cond (.t 23)
       (.skip)
       (.exit 2))
      (.seq (.block 3 (.seq (.region [
         ⟨some 24, .idxp 4 (.t 20) (.t 22), none⟩,
         ⟨some 25, .load true 4 (.t 24), none⟩,
         ⟨some 8, .alloc [(.v (.int .i64 0)), (.sl [] .zero), (.v (.int .i64 0)), (.v (.int .i64 0))], none⟩,
         ⟨none, .store 4 (.t 8) (.t 25), none⟩])
       (.seq (.region [
         ⟨some 26, .fld 0 (.t 8), none⟩,
         ⟨some 27, .fld 0 (.t 26), none⟩,
         ⟨some 28, .load false 1 (.t 27), none⟩,
         ⟨some 29, .build [(.v (.int .i64 0)), (.sl [] .zero)] [(0, 1, (.t 28))], none⟩,
         ⟨some 30, .fld 2 (.t 8), none⟩,
         ⟨some 31, .load true 2 (.t 30), none⟩,
         ⟨some 32, .build [(.v (.int .i64 0)), (.sl [] .zero), (.v (.int .i64 0)), (.v (.int .i64 0))] [(0, 2, (.t 29)), (2, 2, (.t 31))], none⟩,
         ⟨some 9, .alloc [(.v (.int .i64 0)), (.sl [] .zero), (.v (.int .i64 0)), (.v (.int .i64 0))], none⟩,
         ⟨none, .store 4 (.t 9) (.t 32), none⟩])
       (.seq (.seq (.region [
         ⟨some 33, .fld 0 (.t 8), none⟩,
         ⟨some 34, .load true 2 (.t 33), none⟩,
         ⟨some 35, .mov (.t 6), none⟩,
         ⟨some 36, .mov (.t 1), none⟩,
         ⟨some 37, .call (.c (.f (.func F_shard_own) [] [])) [(.t 34), (.t 35), (.t 36)], none⟩])
       (.block 4 (.range (.t 37) [38]
         (.region [
           ⟨some 10, .alloc [(.v (.int .i64 0)), (.v (.int .i64 0)), (.sl [] .zero), (.v (.int .i64 0)), (.v (.int .i64 0)), (.v (.int .i64 0)), (.v (.int .i64 0)), (.v (.int .i64 0)), (.v (.bool false)), (.v (.bool false))], none⟩,
           ⟨none, .store 10 (.t 10) (.t 38), none⟩])
         (.block 5 (.region [
            ⟨some 39, .fld 0 (.t 9), none⟩,
            ⟨some 40, .fld 1 (.t 39), none⟩,
            ⟨some 41, .load false 1 (.t 40), none⟩,
            ⟨some 42, .load true 10 (.t 10), none⟩,
            ⟨some 43, .bsl 10 [(.t 42)], none⟩,
            ⟨some 44, .append 10 88 (.t 41) (.t 43), none⟩,
            ⟨some 45, .fld 0 (.t 9), none⟩,
            ⟨some 46, .fld 1 (.t 45), none⟩,
            ⟨none, .store 1 (.t 46) (.t 44), none⟩])))))
       (.seq (.region [
         ⟨some 47, .fld 0 (.t 9), none⟩,
         ⟨some 48, .fld 1 (.t 47), none⟩,
         ⟨some 49, .load false 1 (.t 48), none⟩,
         ⟨some 50, .len .sl (.t 49), none⟩,
         ⟨some 51, .bin .gtr (.t 50) (.c (.v (.int .i64 0))), none⟩])
       (.cond (.t 51)
        (.draw (
          ⟨⟨some 52, .mov (.t 5), none⟩, false, true, []⟩ ::
          ⟨⟨some 53, .mov (.t 6), none⟩, false, true, []⟩ ::
          ⟨⟨some 54, .mov (.t 5), none⟩, false, false, []⟩ ::
          ⟨⟨some 55, .mov (.t 6), none⟩, false, false, []⟩ ::
          ⟨⟨some 56, .idxp 1 (.t 54) (.t 55), none⟩, false, false, []⟩ ::
          ⟨⟨some 57, .load false 1 (.t 56), none⟩, false, false, []⟩ ::
          ⟨⟨some 58, .load true 4 (.t 9), none⟩, false, false, []⟩ ::
          ⟨⟨some 59, .bsl 4 [(.t 58)], none⟩, false, false, []⟩ ::
          ⟨⟨some 60, .append 4 48 (.t 57) (.t 59), none⟩, true, false, []⟩ ::
          ⟨⟨some 61, .idxp 1 (.t 52) (.t 53), none⟩, false, false, []⟩ ::
          ⟨⟨none, .store 1 (.t 61) (.t 60), none⟩, true, false, []⟩ ::
          []))
        (.skip)))))))
      (.region [
        ⟨some 62, .bin .add (.t 22) (.c (.v (.int .i64 1))), none⟩,
        ⟨some 22, .mov (.t 62), none⟩])))))))))
   (.region [
     ⟨some 63, .bin .add (.t 17) (.c (.v (.int .i64 1))), none⟩,
     ⟨some 17, .mov (.t 63), none⟩])))))))
 (.seq (.region [
   ⟨some 64, .mov (.t 5), none⟩,
   ⟨some 4, .mov (.t 64), none⟩])
 (.ret))))))
theorem h_shard_Split : (prog.funcs[F_shard_Split]?).bind (compFn prog) = some A_shard_Split := by kernel_rfl


end Go.Proofs.Ytconffokcoipjaa
