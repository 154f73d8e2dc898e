/- Going on. -/
import Derived.Test.YtmpoeamfcienoaaProg
import Derived.KernelRfl
import Derived.Test.YtmpoeamfcienoaaKPM14
section
namespace Go.Proofs.Ytmpoeamfcienoaa
open Go.Ab
noncomputable abbrev prog : Program := Try.prog
abbrev F_ladelaw13_PlaceMoves : Nat := 5
abbrev F_ladelaw13_known : Nat := 11
abbrev F_place_New : Nat := 12
abbrev F_place_Log_Copy : Nat := 15
abbrev F_place_Log_Do : Nat := 16
abbrev F_place_Log_Find : Nat := 18
abbrev F_place_Log_Group : Nat := 20
abbrev F_place_Log_Spots : Nat := 22
abbrev F_group_New : Nat := 44
abbrev F_maps_Clone_Place : Nat := 45
abbrev F_part_Is : Nat := 46
abbrev F_sparse_Do : Nat := 47
abbrev F_slices_Values_Entry : Nat := 48
abbrev F_place_brought : Nat := 49
abbrev F_place_marks : Nat := 50
abbrev F_slices_Clone_Entry : Nat := 58
abbrev F_slices_Values_int : Nat := 59
abbrev F_slices_Sorted_int : Nat := 60
abbrev F_maps_Keys_Place : Nat := 61
abbrev F_part_between : Nat := 82
abbrev F_part_Same : Nat := 83
abbrev F_part_core : Nat := 84
abbrev F_part_rising : Nat := 85
abbrev F_part_IsHard : Nat := 86
abbrev F_part_isMark : Nat := 87
abbrev F_sparse_Is : Nat := 88
abbrev F_sparse_from : Nat := 89
abbrev F_sparse_gone : Nat := 90
abbrev F_sparse_forward : Nat := 91
abbrev F_slices_Values_Entry_1 : Nat := 92
abbrev F_slices_Contains_Entry : Nat := 93
abbrev F_slices_Values_int_1 : Nat := 105
abbrev F_maps_Keys_Place_1 : Nat := 108
abbrev F_slices_Equal_Entry : Nat := 123
abbrev F_part_IsEntry : Nat := 124
abbrev F_group_Head : Nat := 125
abbrev F_slices_Collect_Entry : Nat := 126
abbrev F_group_Within : Nat := 127
abbrev F_sparse_term : Nat := 128
abbrev F_sparse_there : Nat := 129
abbrev F_slices_Index_Entry : Nat := 130
abbrev F_slices_AppendSeq_Entry : Nat := 137
abbrev F_group_Within_1 : Nat := 138
abbrev F_slices_ContainsFunc_Entry : Nat := 139
abbrev F_sparse_there_1 : Nat := 140
abbrev F_slices_IndexFunc_Entry : Nat := 152
end Go.Proofs.Ytmpoeamfcienoaa
end
section
namespace Go.Proofs.Ytmpoeamfcienoaa
open Go.Ab
set_option maxRecDepth 100000
def A_ladelaw13_PlaceMoves : AFn := .mk 196 [.tmp 10] (
 .seq (.region [
   ⟨some 10, .mov (.c (.v (.bool false))), none⟩])
 (.seq (.seq (.region [
   ⟨some 23, .call (.c (.f (.func F_ladelaw13_known) [] [])) [], none⟩,
   ⟨some 24, .un .not (.t 23), none⟩])
 (.cond (.t 24)
  (.seq (.region [
    ⟨some 10, .mov (.c (.v (.bool false))), none⟩])
  (.ret))
  (.skip)))
 (.seq (.region [
   ⟨some 25, .mov (.t 1), none⟩,
   ⟨some 26, .bin .rem (.t 25) (.c (.v (.int .u8 6))), none⟩,
   ⟨some 27, .conv .i64 (.t 26), none⟩,
   ⟨some 28, .bin .add (.t 27) (.c (.v (.int .i64 1))), none⟩,
   ⟨some 11, .mov (.t 28), none⟩])
 (.seq (.region [
   ⟨some 29, .mov (.t 0), none⟩,
   ⟨some 30, .conv .i64 (.t 29), none⟩,
   ⟨some 31, .call (.c (.f (.func F_place_New) [] [])) [(.t 30)], none⟩,
   ⟨some 12, .mov (.t 31), none⟩])
 (.seq (.region [
   ⟨some 32, .mov (.t 0), none⟩,
   ⟨some 33, .conv .i64 (.t 32), none⟩,
   ⟨some 34, .build [(.v (.int .i64 0)), (.v (.int .i64 0)), (.sl [] .zero), (.v (.int .i64 0)), (.v (.int .i64 0)), (.v (.int .i64 0)), (.v (.int .i64 0)), (.v (.int .i64 0)), (.v (.bool false)), (.v (.bool false))] [(0, 1, (.t 33)), (1, 1, (.c (.v (.int .i64 1))))], none⟩,
   ⟨some 13, .alloc [(.v (.int .i64 0)), (.v (.int .i64 0)), (.sl [] .zero), (.v (.int .i64 0)), (.v (.int .i64 0)), (.v (.int .i64 0)), (.v (.int .i64 0)), (.v (.int .i64 0)), (.v (.bool false)), (.v (.bool false))], none⟩,
   ⟨none, .store 10 (.t 13) (.t 34), none⟩])
 (.seq (.seq (.region [
   ⟨some 14, .mov (.c (.v (.int .i64 0))), none⟩])
 (.block 0 (.loop (.seq (.seq (.region [
     ⟨some 35, .mov (.t 14), none⟩,
     ⟨some 36, .mov (.t 11), none⟩,
     ⟨some 37, .bin .lss (.t 35) (.t 36), none⟩])
   (.cond (.t 37)
    (.skip)
    (.exit 0)))
   (.seq (.block 1 (.region [
      ⟨some 40, .fld 2 (.t 13), none⟩,
      ⟨some 41, .load false 1 (.t 40), none⟩,
      ⟨some 42, .mov (.t 14), none⟩,
      ⟨some 43, .bin .add (.c (.v (.int .i64 4))) (.t 42), none⟩,
      ⟨some 44, .build [(.v (.int .i64 0)), (.v (.int .i64 0)), (.v (.string ⟨#[]⟩))] [(0, 1, (.t 43)), (1, 1, (.c (.v (.int .i64 2))))], none⟩,
      ⟨some 45, .bsl 3 [(.t 44)], none⟩,
      ⟨some 46, .append 3 32 (.t 41) (.t 45), none⟩,
      ⟨some 47, .fld 2 (.t 13), none⟩,
      ⟨none, .store 1 (.t 47) (.t 46), none⟩]))
   (.region [
     ⟨some 38, .mov (.t 14), none⟩,
     ⟨some 39, .bin .add (.t 38) (.c (.v (.int .i64 1))), none⟩,
     ⟨some 14, .mov (.t 39), none⟩]))))))
 (.seq (.region [
   ⟨some 48, .mov (.t 12), none⟩,
   ⟨some 49, .mov (.t 0), none⟩,
   ⟨some 50, .conv .i64 (.t 49), none⟩,
   ⟨some 51, .build [(.v (.int .i64 0)), (.v (.int .i64 0)), (.sl [] .zero), (.v (.int .i64 0)), (.v (.int .i64 0)), (.v (.int .i64 0)), (.v (.int .i64 0)), (.v (.int .i64 0)), (.v (.bool false)), (.v (.bool false))] [(0, 1, (.t 50)), (1, 1, (.c (.v (.int .i64 4)))), (6, 1, (.c (.v (.int .i64 3)))), (7, 1, (.c (.v (.int .i64 1))))], none⟩,
   ⟨some 52, .build [(.v (.int .i64 0)), (.v (.int .i64 0))] [(0, 1, (.c (.v (.int .i64 1)))), (1, 1, (.c (.v (.int .i64 16))))], none⟩,
   ⟨some 53, .call (.c (.f (.func F_place_Log_Do) [] [])) [(.t 48), (.t 51), (.t 52)], none⟩])
 (.seq (.region [
   ⟨some 54, .mov (.t 12), none⟩,
   ⟨some 55, .mov (.t 0), none⟩,
   ⟨some 56, .conv .i64 (.t 55), none⟩,
   ⟨some 57, .build [(.v (.int .i64 0)), (.v (.int .i64 0)), (.v (.int .i64 0))] [(0, 1, (.c (.v (.int .i64 5))))], none⟩,
   ⟨some 58, .build [(.v (.int .i64 0)), (.v (.int .i64 0)), (.sl [] .zero), (.v (.int .i64 0)), (.v (.int .i64 0)), (.v (.int .i64 0)), (.v (.int .i64 0)), (.v (.int .i64 0)), (.v (.bool false)), (.v (.bool false))] [(0, 1, (.t 56)), (1, 1, (.c (.v (.int .i64 2)))), (3, 3, (.t 57))], none⟩,
   ⟨some 59, .build [(.v (.int .i64 0)), (.v (.int .i64 0))] [(0, 1, (.c (.v (.int .i64 1)))), (1, 1, (.c (.v (.int .i64 40))))], none⟩,
   ⟨some 60, .call (.c (.f (.func F_place_Log_Do) [] [])) [(.t 54), (.t 58), (.t 59)], none⟩])
 (.seq (.region [
   ⟨some 61, .mov (.t 12), none⟩,
   ⟨some 62, .load true 10 (.t 13), none⟩,
   ⟨some 63, .build [(.v (.int .i64 0)), (.v (.int .i64 0))] [(0, 1, (.c (.v (.int .i64 1)))), (1, 1, (.c (.v (.int .i64 60))))], none⟩,
   ⟨some 64, .call (.c (.f (.func F_place_Log_Do) [] [])) [(.t 61), (.t 62), (.t 63)], none⟩])
 (.seq (.region [
   ⟨some 65, .mov (.t 0), none⟩,
   ⟨some 66, .conv .i64 (.t 65), none⟩,
   ⟨some 67, .mov (.t 2), none⟩,
   ⟨some 68, .mov (.t 3), none⟩,
   ⟨some 69, .build [(.v (.int .i64 0)), (.v (.int .i64 0)), (.sl [] .zero), (.v (.int .i64 0)), (.v (.int .i64 0)), (.v (.int .i64 0)), (.v (.int .i64 0)), (.v (.int .i64 0)), (.v (.bool false)), (.v (.bool false))] [(0, 1, (.t 66)), (1, 1, (.c (.v (.int .i64 6)))), (8, 1, (.t 67)), (9, 1, (.t 68))], none⟩,
   ⟨some 15, .alloc [(.v (.int .i64 0)), (.v (.int .i64 0)), (.sl [] .zero), (.v (.int .i64 0)), (.v (.int .i64 0)), (.v (.int .i64 0)), (.v (.int .i64 0)), (.v (.int .i64 0)), (.v (.bool false)), (.v (.bool false))], none⟩,
   ⟨none, .store 10 (.t 15) (.t 69), none⟩])
 (.seq (.seq (.region [
   ⟨some 70, .mov (.t 2), none⟩])
 (.cond (.t 70)
  (.region [
    ⟨some 71, .fld 6 (.t 15), none⟩,
    ⟨none, .store 1 (.t 71) (.c (.v (.int .i64 3))), none⟩,
    ⟨some 72, .fld 7 (.t 15), none⟩,
    ⟨none, .store 1 (.t 72) (.c (.v (.int .i64 1))), none⟩])
  (.skip)))
 (.seq (.seq (.region [
   ⟨some 73, .mov (.t 3), none⟩])
 (.cond (.t 73)
  (.region [
    ⟨some 74, .build [(.v (.int .i64 0)), (.v (.int .i64 0)), (.v (.int .i64 0))] [(0, 1, (.c (.v (.int .i64 5))))], none⟩,
    ⟨some 75, .fld 3 (.t 15), none⟩,
    ⟨none, .store 3 (.t 75) (.t 74), none⟩])
  (.skip)))
 (.seq (.seq (.region [
   ⟨some 16, .mov (.c (.v (.int .i64 0))), none⟩])
 (.block 2 (.loop (.seq (.seq (.region [
     ⟨some 76, .mov (.t 16), none⟩,
     ⟨some 77, .mov (.t 11), none⟩,
     ⟨some 78, .bin .lss (.t 76) (.t 77), none⟩])
   (.cond (.t 78)
    (.skip)
    (.exit 2)))
   (.seq (.block 3 (.seq (.region [
      ⟨some 81, .mov (.t 4), none⟩,
      ⟨some 82, .mov (.t 16), none⟩,
      ⟨some 83, .conv .u64 (.t 82), none⟩,
      ⟨some 84, .bin .shr (.t 81) (.t 83), none⟩,
      ⟨some 85, .bin .and (.t 84) (.c (.v (.int .u16 1))), none⟩,
      ⟨some 86, .bin .eql (.t 85) (.c (.v (.int .u16 1))), none⟩])
    (.cond (.t 86)
     (.region [
       ⟨some 87, .fld 2 (.t 15), none⟩,
       ⟨some 88, .load false 1 (.t 87), none⟩,
       ⟨some 89, .fld 2 (.t 13), none⟩,
       ⟨some 90, .load false 1 (.t 89), none⟩,
       ⟨some 91, .mov (.t 16), none⟩,
       ⟨some 92, .idxp 3 (.t 90) (.t 91), none⟩,
       ⟨some 93, .load true 3 (.t 92), none⟩,
       ⟨some 94, .bsl 3 [(.t 93)], none⟩,
       ⟨some 95, .append 3 32 (.t 88) (.t 94), none⟩,
       ⟨some 96, .fld 2 (.t 15), none⟩,
       ⟨none, .store 1 (.t 96) (.t 95), none⟩])
     (.skip))))
   (.region [
     ⟨some 79, .mov (.t 16), none⟩,
     ⟨some 80, .bin .add (.t 79) (.c (.v (.int .i64 1))), none⟩,
     ⟨some 16, .mov (.t 80), none⟩]))))))
 (.seq (.region [
   ⟨some 97, .mov (.t 12), none⟩,
   ⟨some 98, .call (.c (.f (.func F_place_Log_Group) [] [])) [(.t 97)], none⟩,
   ⟨some 17, .alloc [(.v (.int .i64 0)), (.v (.int .i64 0)), (.v (.int .i64 0)), (.v (.int .i64 0)), (.v (.int .i64 0)), (.v (.int .i64 0)), (.sl [] .zero)], none⟩,
   ⟨none, .store 7 (.t 17) (.t 98), none⟩])
 (.seq (.region [
   ⟨some 99, .mov (.t 12), none⟩,
   ⟨some 100, .load true 10 (.t 15), none⟩,
   ⟨some 101, .build [(.v (.int .i64 0)), (.v (.int .i64 0))] [(0, 1, (.c (.v (.int .i64 9)))), (1, 1, (.c (.v (.int .i64 99))))], none⟩,
   ⟨some 102, .call (.c (.f (.func F_place_Log_Do) [] [])) [(.t 99), (.t 100), (.t 101)], none⟩])
 (.seq (.seq (.draw (
   ⟨⟨some 103, .mov (.t 12), none⟩, false, false, []⟩ ::
   ⟨⟨some 106, .fld 1 (.t 17), none⟩, false, true, []⟩ ::
   ⟨⟨some 107, .load false 1 (.t 106), none⟩, false, true, []⟩ ::
   ⟨⟨some 104, .call (.c (.f (.func F_place_Log_Group) [] [])) [(.t 103)], none⟩, true, false, [⟨some 107, .load false 1 (.t 106), none⟩]⟩ ::
   ⟨⟨some 105, .field false 1 1 (.t 104), none⟩, false, false, []⟩ ::
   ⟨⟨some 108, .bin .neq (.t 105) (.t 107), none⟩, false, false, []⟩ ::
   ⟨⟨some 109, .mov (.t 108), none⟩, false, false, []⟩ ::
   ⟨⟨some 110, .mov (.t 12), some (109, false)⟩, false, false, []⟩ ::
   ⟨⟨some 114, .mov (.t 11), some (109, false)⟩, false, true, []⟩ ::
   ⟨⟨some 111, .call (.c (.f (.func F_place_Log_Group) [] [])) [(.t 110)], some (109, false)⟩, true, false, []⟩ ::
   ⟨⟨some 112, .field false 6 1 (.t 111), some (109, false)⟩, false, false, []⟩ ::
   ⟨⟨some 113, .len .sl (.t 112), some (109, false)⟩, false, false, []⟩ ::
   ⟨⟨some 115, .bin .neq (.t 113) (.t 114), some (109, false)⟩, false, false, []⟩ ::
   ⟨⟨some 116, .pick (.t 109) (.c (.v (.bool true))) (.t 115), none⟩, false, false, []⟩ ::
   []))
 (.cond (.t 116)
  (.seq (.region [
    ⟨some 10, .mov (.c (.v (.bool false))), none⟩])
  (.ret))
  (.skip)))
 (.seq (.region [
   ⟨some 117, .mov (.t 12), none⟩,
   ⟨some 118, .call (.c (.f (.func F_place_Log_Spots) [] [])) [(.t 117)], none⟩,
   ⟨some 18, .mov (.t 118), none⟩])
 (.seq (.seq (.region [
   ⟨some 119, .mov (.t 18), none⟩,
   ⟨some 120, .len .sl (.t 119), none⟩,
   ⟨some 121, .mov (.t 11), none⟩,
   ⟨some 122, .bin .add (.t 121) (.c (.v (.int .i64 2))), none⟩,
   ⟨some 123, .bin .neq (.t 120) (.t 122), none⟩])
 (.cond (.t 123)
  (.seq (.region [
    ⟨some 10, .mov (.c (.v (.bool false))), none⟩])
  (.ret))
  (.skip)))
 (.seq (.region [
   ⟨some 124, .mov (.t 2), none⟩,
   ⟨some 125, .un .not (.t 124), none⟩,
   ⟨some 126, .mov (.t 125), none⟩,
   ⟨some 127, .mov (.t 3), some (126, true)⟩,
   ⟨some 128, .un .not (.t 127), some (126, true)⟩,
   ⟨some 129, .pick (.t 126) (.t 128) (.c (.v (.bool false))), none⟩,
   ⟨some 130, .mov (.t 129), none⟩,
   ⟨some 131, .fld 2 (.t 15), some (130, true)⟩,
   ⟨some 132, .load false 1 (.t 131), some (130, true)⟩,
   ⟨some 133, .len .sl (.t 132), some (130, true)⟩,
   ⟨some 134, .bin .eql (.t 133) (.c (.v (.int .i64 0))), some (130, true)⟩,
   ⟨some 135, .pick (.t 130) (.t 134) (.c (.v (.bool false))), none⟩,
   ⟨some 19, .mov (.t 135), none⟩])
 (.seq (.seq (.region [
   ⟨some 20, .mov (.c (.v (.int .i64 0))), none⟩])
 (.block 4 (.loop (.seq (.seq (.region [
     ⟨some 136, .mov (.t 20), none⟩,
     ⟨some 137, .mov (.t 18), none⟩,
     ⟨some 138, .len .sl (.t 137), none⟩,
     ⟨some 139, .bin .lss (.t 136) (.t 138), none⟩])
   (.cond (.t 139)
    (.skip)
    (.exit 4)))
   (.seq (.block 5 (.seq (.region [
      ⟨some 142, .mov (.t 18), none⟩,
      ⟨some 143, .mov (.t 20), none⟩,
      ⟨some 144, .idxp 4 (.t 142) (.t 143), none⟩,
      ⟨some 145, .fld 2 (.t 144), none⟩,
      ⟨some 146, .load true 2 (.t 145), none⟩,
      ⟨some 147, .build [(.v (.int .i64 0)), (.v (.int .i64 0))] [(0, 1, (.c (.v (.int .i64 9)))), (1, 1, (.c (.v (.int .i64 99))))], none⟩,
      ⟨some 148, .eqa false (.agg [.i, .i]) (.t 146) (.t 147), none⟩,
      ⟨some 21, .mov (.t 148), none⟩])
    (.seq (.region [
      ⟨some 22, .mov (.c (.v (.bool false))), none⟩])
    (.seq (.block 6 (.seq (.region [
       ⟨some 161, .mov (.t 18), none⟩,
       ⟨some 162, .mov (.t 20), none⟩,
       ⟨some 163, .idxp 4 (.t 161) (.t 162), none⟩,
       ⟨some 164, .fld 1 (.t 163), none⟩,
       ⟨some 165, .load false 1 (.t 164), none⟩,
       ⟨some 166, .bin .eql (.t 165) (.c (.v (.int .i64 (-1)))), none⟩,
       ⟨some 160, .mov (.t 166), none⟩])
     (.cond (.t 160)
      (.region [
        ⟨some 167, .mov (.t 3), none⟩,
        ⟨some 22, .mov (.t 167), none⟩])
      (.seq (.region [
        ⟨some 169, .mov (.t 18), none⟩,
        ⟨some 170, .mov (.t 20), none⟩,
        ⟨some 171, .idxp 4 (.t 169) (.t 170), none⟩,
        ⟨some 172, .fld 1 (.t 171), none⟩,
        ⟨some 173, .load false 1 (.t 172), none⟩,
        ⟨some 174, .bin .eql (.t 173) (.c (.v (.int .i64 0))), none⟩,
        ⟨some 168, .mov (.t 174), none⟩])
      (.cond (.t 168)
       (.region [
         ⟨some 175, .mov (.t 2), none⟩,
         ⟨some 22, .mov (.t 175), none⟩])
       (.region [
         ⟨some 149, .mov (.t 4), none⟩,
         ⟨some 150, .mov (.t 18), none⟩,
         ⟨some 151, .mov (.t 20), none⟩,
         ⟨some 152, .idxp 4 (.t 150) (.t 151), none⟩,
         ⟨some 153, .fld 1 (.t 152), none⟩,
         ⟨some 154, .load false 1 (.t 153), none⟩,
         ⟨some 155, .bin .sub (.t 154) (.c (.v (.int .i64 4))), none⟩,
         ⟨some 156, .conv .u64 (.t 155), none⟩,
         ⟨some 157, .bin .shr (.t 149) (.t 156), none⟩,
         ⟨some 158, .bin .and (.t 157) (.c (.v (.int .u16 1))), none⟩,
         ⟨some 159, .bin .eql (.t 158) (.c (.v (.int .u16 1))), none⟩,
         ⟨some 22, .mov (.t 159), none⟩]))))))
    (.seq (.region [
      ⟨some 176, .mov (.t 21), none⟩,
      ⟨some 177, .mov (.t 22), none⟩,
      ⟨some 178, .mov (.t 177), none⟩,
      ⟨some 179, .mov (.t 19), some (178, true)⟩,
      ⟨some 180, .un .not (.t 179), some (178, true)⟩,
      ⟨some 181, .pick (.t 178) (.t 180) (.c (.v (.bool false))), none⟩,
      ⟨some 182, .eqa true .bool (.t 176) (.t 181), none⟩,
      ⟨some 183, .mov (.t 182), none⟩,
      ⟨some 184, .mov (.t 21), some (183, false)⟩,
      ⟨some 185, .un .not (.t 184), some (183, false)⟩,
      ⟨some 186, .mov (.t 185), some (183, false)⟩,
      ⟨some 187, .mov (.t 18), some (186, true)⟩,
      ⟨some 188, .mov (.t 20), some (186, true)⟩,
      ⟨some 189, .idxp 4 (.t 187) (.t 188), some (186, true)⟩,
      ⟨some 190, .fld 2 (.t 189), some (186, true)⟩,
      ⟨some 191, .fld 0 (.t 190), some (186, true)⟩,
      ⟨some 192, .load false 1 (.t 191), some (186, true)⟩,
      ⟨some 193, .bin .neq (.t 192) (.c (.v (.int .i64 1))), some (186, true)⟩,
      ⟨some 194, .pick (.t 186) (.t 193) (.c (.v (.bool false))), some (183, false)⟩,
      ⟨some 195, .pick (.t 183) (.c (.v (.bool true))) (.t 194), none⟩])
    (.cond (.t 195)
     (.seq (.region [
       ⟨some 10, .mov (.c (.v (.bool false))), none⟩])
     (.ret))
     (.skip)))))))
   (.region [
     ⟨some 140, .mov (.t 20), none⟩,
     ⟨some 141, .bin .add (.t 140) (.c (.v (.int .i64 1))), none⟩,
     ⟨some 20, .mov (.t 141), none⟩]))))))
 (.seq (.region [
   ⟨some 10, .mov (.c (.v (.bool true))), none⟩])
 (.ret))))))))))))))))))))))
theorem h_ladelaw13_PlaceMoves : (prog.funcs[F_ladelaw13_PlaceMoves]?).bind (compFn prog) = some A_ladelaw13_PlaceMoves := by kernel_rfl
end Go.Proofs.Ytmpoeamfcienoaa
end
section
namespace Go.Proofs.Ytmpoeamfcienoaa
open Go.Ab
set_option maxRecDepth 100000
def A_ladelaw13_known : AFn := .mk 82 [.tmp 0] (
 .seq (.region [
   ⟨some 0, .mov (.c (.v (.bool false))), none⟩])
 (.seq (.region [
   ⟨some 7, .call (.c (.f (.func F_place_New) [] [])) [(.c (.v (.int .i64 3)))], none⟩,
   ⟨some 1, .mov (.t 7), none⟩])
 (.seq (.seq (.region [
   ⟨some 8, .mov (.t 1), none⟩,
   ⟨some 9, .eqa false .ptr (.t 8) (.c (.v (.pointer none))), none⟩])
 (.cond (.t 9)
  (.seq (.region [
    ⟨some 0, .mov (.c (.v (.bool false))), none⟩])
  (.ret))
  (.skip)))
 (.seq (.region [
   ⟨some 10, .mov (.t 1), none⟩,
   ⟨some 11, .build [(.v (.int .i64 0)), (.v (.int .i64 0)), (.v (.string ⟨#[]⟩))] [(0, 1, (.c (.v (.int .i64 1)))), (1, 1, (.c (.v (.int .i64 1))))], none⟩,
   ⟨some 12, .build [(.v (.int .i64 0)), (.v (.int .i64 0)), (.v (.string ⟨#[]⟩))] [(0, 1, (.c (.v (.int .i64 2)))), (1, 1, (.c (.v (.int .i64 1))))], none⟩,
   ⟨some 13, .bsl 3 [(.t 11), (.t 12)], none⟩,
   ⟨some 14, .build [(.v (.int .i64 0)), (.v (.int .i64 0)), (.sl [] .zero), (.v (.int .i64 0)), (.v (.int .i64 0)), (.v (.int .i64 0)), (.v (.int .i64 0)), (.v (.int .i64 0)), (.v (.bool false)), (.v (.bool false))] [(0, 1, (.c (.v (.int .i64 3)))), (1, 1, (.c (.v (.int .i64 1)))), (2, 1, (.t 13))], none⟩,
   ⟨some 15, .build [(.v (.int .i64 0)), (.v (.int .i64 0))] [(0, 1, (.c (.v (.int .i64 1)))), (1, 1, (.c (.v (.int .i64 16))))], none⟩,
   ⟨some 16, .call (.c (.f (.func F_place_Log_Do) [] [])) [(.t 10), (.t 14), (.t 15)], none⟩])
 (.seq (.region [
   ⟨some 17, .mov (.t 1), none⟩,
   ⟨some 18, .build [(.v (.int .i64 0)), (.v (.int .i64 0)), (.sl [] .zero), (.v (.int .i64 0)), (.v (.int .i64 0)), (.v (.int .i64 0)), (.v (.int .i64 0)), (.v (.int .i64 0)), (.v (.bool false)), (.v (.bool false))] [(0, 1, (.c (.v (.int .i64 3)))), (1, 1, (.c (.v (.int .i64 3)))), (6, 1, (.c (.v (.int .i64 1)))), (7, 1, (.c (.v (.int .i64 1))))], none⟩,
   ⟨some 19, .build [(.v (.int .i64 0)), (.v (.int .i64 0))] [(0, 1, (.c (.v (.int .i64 2)))), (1, 1, (.c (.v (.int .i64 20))))], none⟩,
   ⟨some 20, .call (.c (.f (.func F_place_Log_Do) [] [])) [(.t 17), (.t 18), (.t 19)], none⟩])
 (.seq (.region [
   ⟨some 21, .mov (.t 1), none⟩,
   ⟨some 22, .build [(.v (.int .i64 0)), (.v (.int .i64 0)), (.v (.string ⟨#[]⟩))] [(0, 1, (.c (.v (.int .i64 2)))), (1, 1, (.c (.v (.int .i64 1))))], none⟩,
   ⟨some 23, .bsl 3 [(.t 22)], none⟩,
   ⟨some 24, .build [(.v (.int .i64 0)), (.v (.int .i64 0)), (.sl [] .zero), (.v (.int .i64 0)), (.v (.int .i64 0)), (.v (.int .i64 0)), (.v (.int .i64 0)), (.v (.int .i64 0)), (.v (.bool false)), (.v (.bool false))] [(0, 1, (.c (.v (.int .i64 3)))), (1, 1, (.c (.v (.int .i64 6)))), (2, 1, (.t 23))], none⟩,
   ⟨some 25, .build [(.v (.int .i64 0)), (.v (.int .i64 0))] [(0, 1, (.c (.v (.int .i64 4)))), (1, 1, (.c (.v (.int .i64 30))))], none⟩,
   ⟨some 26, .call (.c (.f (.func F_place_Log_Do) [] [])) [(.t 21), (.t 24), (.t 25)], none⟩])
 (.seq (.region [
   ⟨some 27, .mov (.t 1), none⟩,
   ⟨some 28, .call (.c (.f (.func F_place_Log_Spots) [] [])) [(.t 27)], none⟩,
   ⟨some 2, .mov (.t 28), none⟩])
 (.seq (.region [
   ⟨some 30, .mov (.t 1), none⟩,
   ⟨some 31, .call (.c (.f (.func F_place_Log_Find) [] [])) [(.t 30), (.c (.v (.int .i64 2)))], none⟩,
   ⟨some 29, .mov (.t 31), none⟩,
   ⟨some 32, .extract 0 (.t 29), none⟩,
   ⟨some 33, .extract 1 (.t 29), none⟩,
   ⟨some 3, .alloc [(.v (.int .i64 0)), (.v (.int .i64 0))], none⟩,
   ⟨none, .store 2 (.t 3) (.t 32), none⟩,
   ⟨some 4, .mov (.t 33), none⟩])
 (.seq (.region [
   ⟨some 35, .mov (.t 1), none⟩,
   ⟨some 36, .call (.c (.f (.func F_place_Log_Find) [] [])) [(.t 35), (.c (.v (.int .i64 1)))], none⟩,
   ⟨some 34, .mov (.t 36), none⟩,
   ⟨some 37, .extract 0 (.t 34), none⟩,
   ⟨some 38, .extract 1 (.t 34), none⟩,
   ⟨some 5, .alloc [(.v (.int .i64 0)), (.v (.int .i64 0))], none⟩,
   ⟨none, .store 2 (.t 5) (.t 37), none⟩,
   ⟨some 6, .mov (.t 38), none⟩])
 (.seq (.region [
   ⟨some 39, .mov (.t 2), none⟩,
   ⟨some 40, .len .sl (.t 39), none⟩,
   ⟨some 41, .bin .eql (.t 40) (.c (.v (.int .i64 2))), none⟩,
   ⟨some 42, .mov (.t 41), none⟩,
   ⟨some 43, .mov (.t 2), some (42, true)⟩,
   ⟨some 44, .idxp 4 (.t 43) (.c (.v (.int .i64 0))), some (42, true)⟩,
   ⟨some 45, .load true 4 (.t 44), some (42, true)⟩,
   ⟨some 46, .build [(.v (.int .i64 0)), (.v (.int .i64 0))] [(0, 1, (.c (.v (.int .i64 2)))), (1, 1, (.c (.v (.int .i64 20))))], some (42, true)⟩,
   ⟨some 47, .build [(.v (.int .i64 0)), (.v (.int .i64 0)), (.v (.int .i64 0)), (.v (.int .i64 0))] [(0, 1, (.c (.v (.int .i64 3)))), (2, 2, (.t 46))], some (42, true)⟩,
   ⟨some 48, .eqa false (.agg [.i, .i, .i, .i]) (.t 45) (.t 47), some (42, true)⟩,
   ⟨some 49, .pick (.t 42) (.t 48) (.c (.v (.bool false))), none⟩,
   ⟨some 50, .mov (.t 49), none⟩,
   ⟨some 51, .mov (.t 2), some (50, true)⟩,
   ⟨some 52, .idxp 4 (.t 51) (.c (.v (.int .i64 1))), some (50, true)⟩,
   ⟨some 53, .fld 1 (.t 52), some (50, true)⟩,
   ⟨some 54, .load false 1 (.t 53), some (50, true)⟩,
   ⟨some 55, .bin .eql (.t 54) (.c (.v (.int .i64 2))), some (50, true)⟩,
   ⟨some 56, .pick (.t 50) (.t 55) (.c (.v (.bool false))), none⟩,
   ⟨some 57, .mov (.t 56), none⟩,
   ⟨some 58, .mov (.t 4), some (57, true)⟩,
   ⟨some 59, .pick (.t 57) (.t 58) (.c (.v (.bool false))), none⟩,
   ⟨some 60, .mov (.t 59), none⟩,
   ⟨some 61, .fld 0 (.t 3), some (60, true)⟩,
   ⟨some 62, .load false 1 (.t 61), some (60, true)⟩,
   ⟨some 63, .bin .eql (.t 62) (.c (.v (.int .i64 4))), some (60, true)⟩,
   ⟨some 64, .pick (.t 60) (.t 63) (.c (.v (.bool false))), none⟩,
   ⟨some 65, .mov (.t 64), none⟩,
   ⟨some 66, .mov (.t 6), some (65, true)⟩,
   ⟨some 67, .un .not (.t 66), some (65, true)⟩,
   ⟨some 68, .pick (.t 65) (.t 67) (.c (.v (.bool false))), none⟩,
   ⟨some 69, .mov (.t 68), none⟩,
   ⟨some 70, .mov (.t 1), some (69, true)⟩,
   ⟨some 71, .call (.c (.f (.func F_place_Log_Group) [] [])) [(.t 70)], some (69, true)⟩,
   ⟨some 72, .field false 1 1 (.t 71), some (69, true)⟩,
   ⟨some 73, .bin .eql (.t 72) (.c (.v (.int .i64 2))), some (69, true)⟩,
   ⟨some 74, .pick (.t 69) (.t 73) (.c (.v (.bool false))), none⟩,
   ⟨some 75, .mov (.t 74), none⟩,
   ⟨some 76, .mov (.t 1), some (75, true)⟩,
   ⟨some 77, .call (.c (.f (.func F_place_Log_Copy) [] [])) [(.t 76)], some (75, true)⟩,
   ⟨some 78, .call (.c (.f (.func F_place_Log_Spots) [] [])) [(.t 77)], some (75, true)⟩,
   ⟨some 79, .len .sl (.t 78), some (75, true)⟩,
   ⟨some 80, .bin .eql (.t 79) (.c (.v (.int .i64 2))), some (75, true)⟩,
   ⟨some 81, .pick (.t 75) (.t 80) (.c (.v (.bool false))), none⟩,
   ⟨some 0, .mov (.t 81), none⟩])
 (.ret)))))))))))
theorem h_ladelaw13_known : (prog.funcs[F_ladelaw13_known]?).bind (compFn prog) = some A_ladelaw13_known := by kernel_rfl
def A_place_New : AFn := .mk 8 [.tmp 2] (
 .seq (.region [
   ⟨some 2, .mov (.c (.v (.pointer none))), none⟩])
 (.seq (.region [
   ⟨some 3, .mov (.t 0), none⟩,
   ⟨some 4, .call (.c (.f (.func F_group_New) [] [])) [(.t 3)], none⟩,
   ⟨some 5, .mkmap, none⟩,
   ⟨some 6, .build [(.v (.int .i64 0)), (.v (.int .i64 0)), (.v (.int .i64 0)), (.v (.int .i64 0)), (.v (.int .i64 0)), (.v (.int .i64 0)), (.sl [] .zero), (.v (.map none))] [(0, 7, (.t 4)), (7, 1, (.t 5))], none⟩,
   ⟨some 7, .box (.t 6), none⟩,
   ⟨some 2, .mov (.t 7), none⟩])
 (.ret)))
theorem h_place_New : (prog.funcs[F_place_New]?).bind (compFn prog) = some A_place_New := by kernel_rfl
def A_place_Log_Copy : AFn := .mk 14 [.tmp 2] (
 .seq (.region [
   ⟨some 2, .mov (.c (.v (.pointer none))), none⟩])
 (.seq (.draw (
   ⟨⟨some 3, .mov (.t 0), none⟩, false, true, []⟩ ::
   ⟨⟨some 4, .nilck (.t 3), none⟩, false, true, []⟩ ::
   ⟨⟨some 5, .fld 0 (.t 4), none⟩, false, true, []⟩ ::
   ⟨⟨some 6, .load true 7 (.t 5), none⟩, false, true, []⟩ ::
   ⟨⟨some 7, .mov (.t 0), none⟩, false, false, []⟩ ::
   ⟨⟨some 8, .nilck (.t 7), none⟩, false, false, []⟩ ::
   ⟨⟨some 9, .fld 7 (.t 8), none⟩, false, false, []⟩ ::
   ⟨⟨some 10, .load false 1 (.t 9), none⟩, false, false, []⟩ ::
   ⟨⟨some 11, .call (.c (.f (.func F_maps_Clone_Place) [] [])) [(.t 10)], none⟩, true, false, [⟨some 6, .load true 7 (.t 5), none⟩]⟩ ::
   ⟨⟨some 12, .build [(.v (.int .i64 0)), (.v (.int .i64 0)), (.v (.int .i64 0)), (.v (.int .i64 0)), (.v (.int .i64 0)), (.v (.int .i64 0)), (.sl [] .zero), (.v (.map none))] [(0, 7, (.t 6)), (7, 1, (.t 11))], none⟩, false, false, []⟩ ::
   ⟨⟨some 13, .box (.t 12), none⟩, true, false, []⟩ ::
   ⟨⟨some 2, .mov (.t 13), none⟩, false, false, []⟩ ::
   []))
 (.ret)))
theorem h_place_Log_Copy : (prog.funcs[F_place_Log_Copy]?).bind (compFn prog) = some A_place_Log_Copy := by kernel_rfl
def A_place_Log_Do : AFn := .mk 106 [] (
 .seq (.region [
   ⟨some 3, .box (.t 0), none⟩,
   ⟨some 4, .box (.t 1), none⟩,
   ⟨some 5, .box (.t 2), none⟩])
 (.seq (.seq (.region [
   ⟨some 13, .load true 10 (.t 4), none⟩,
   ⟨some 14, .call (.c (.f (.func F_part_Is) [] [])) [(.t 13)], none⟩,
   ⟨some 15, .un .not (.t 14), none⟩,
   ⟨some 16, .mov (.t 15), none⟩,
   ⟨some 17, .fld 0 (.t 4), some (16, false)⟩,
   ⟨some 18, .load false 1 (.t 17), some (16, false)⟩,
   ⟨some 19, .load false 1 (.t 3), some (16, false)⟩,
   ⟨some 20, .nilck (.t 19), some (16, false)⟩,
   ⟨some 21, .fld 0 (.t 20), some (16, false)⟩,
   ⟨some 22, .fld 0 (.t 21), some (16, false)⟩,
   ⟨some 23, .load false 1 (.t 22), some (16, false)⟩,
   ⟨some 24, .bin .neq (.t 18) (.t 23), some (16, false)⟩,
   ⟨some 25, .pick (.t 16) (.c (.v (.bool true))) (.t 24), none⟩,
   ⟨some 26, .mov (.t 25), none⟩,
   ⟨some 27, .fld 1 (.t 4), some (26, false)⟩,
   ⟨some 28, .load false 1 (.t 27), some (26, false)⟩,
   ⟨some 29, .bin .eql (.t 28) (.c (.v (.int .i64 5))), some (26, false)⟩,
   ⟨some 30, .pick (.t 26) (.c (.v (.bool true))) (.t 29), none⟩])
 (.cond (.t 30)
  (.ret)
  (.skip)))
 (.seq (.region [
   ⟨some 31, .load false 1 (.t 3), none⟩,
   ⟨some 32, .nilck (.t 31), none⟩,
   ⟨some 33, .fld 0 (.t 32), none⟩,
   ⟨some 34, .load true 7 (.t 33), none⟩,
   ⟨some 6, .alloc [(.v (.int .i64 0)), (.v (.int .i64 0)), (.v (.int .i64 0)), (.v (.int .i64 0)), (.v (.int .i64 0)), (.v (.int .i64 0)), (.sl [] .zero)], none⟩,
   ⟨none, .store 7 (.t 6) (.t 34), none⟩])
 (.seq (.draw (
   ⟨⟨some 35, .load false 1 (.t 3), none⟩, false, true, []⟩ ::
   ⟨⟨some 36, .load true 7 (.t 6), none⟩, false, false, []⟩ ::
   ⟨⟨some 37, .load true 10 (.t 4), none⟩, false, false, []⟩ ::
   ⟨⟨some 38, .call (.c (.f (.func F_sparse_Do) [] [])) [(.t 36), (.t 37)], none⟩, true, false, [⟨some 35, .load false 1 (.t 3), none⟩]⟩ ::
   ⟨⟨some 39, .nilck (.t 35), none⟩, false, false, []⟩ ::
   ⟨⟨some 40, .fld 0 (.t 39), none⟩, false, false, []⟩ ::
   ⟨⟨none, .store 7 (.t 40) (.t 38), none⟩, true, false, []⟩ ::
   []))
 (.seq (.region [
   ⟨some 41, .mkmap, none⟩,
   ⟨some 7, .alloc [(.v (.map none))], none⟩,
   ⟨none, .store 1 (.t 7) (.t 41), none⟩])
 (.seq (.seq (.region [
   ⟨some 42, .build [(.v (.int .i64 0)), (.v (.int .i64 0))] [(0, 1, (.c (.v (.int .i64 (-1))))), (1, 1, (.c (.v (.int .i64 0))))], none⟩,
   ⟨some 43, .mov (.c (.v (.int .i64 0))), none⟩])
 (.block 0 (.loop (.seq (.region [
     ⟨some 44, .bin .lss (.t 43) (.c (.v (.int .i64 2))), none⟩])
   (.seq (.cond (.t 44)
    (.skip)
    (.exit 0))
   (.seq (.block 1 (.seq (.region [
      ⟨some 45, .idxv false 2 1 (.t 42) (.t 43), none⟩,
      ⟨some 9, .mov (.t 45), none⟩])
    (.seq (.region [
      ⟨some 47, .load false 1 (.t 3), none⟩,
      ⟨some 48, .nilck (.t 47), none⟩,
      ⟨some 49, .fld 7 (.t 48), none⟩,
      ⟨some 50, .load false 1 (.t 49), none⟩,
      ⟨some 51, .mov (.t 9), none⟩,
      ⟨some 52, .lookup .int (.agg [(.v (.int .i64 0)), (.v (.int .i64 0))]) true (.t 50) (.t 51), none⟩,
      ⟨some 46, .mov (.t 52), none⟩,
      ⟨some 53, .extract 0 (.t 46), none⟩,
      ⟨some 54, .extract 1 (.t 46), none⟩,
      ⟨some 10, .alloc [(.v (.int .i64 0)), (.v (.int .i64 0))], none⟩,
      ⟨none, .store 2 (.t 10) (.t 53), none⟩,
      ⟨some 11, .mov (.t 54), none⟩])
    (.seq (.region [
      ⟨some 55, .mov (.t 11), none⟩])
    (.cond (.t 55)
     (.region [
       ⟨some 56, .load false 1 (.t 7), none⟩,
       ⟨some 57, .mov (.t 9), none⟩,
       ⟨some 58, .load true 2 (.t 10), none⟩,
       ⟨none, .mapset .int (.t 56) (.t 57) (.t 58), none⟩])
     (.skip))))))
   (.region [
     ⟨some 59, .bin .add (.t 43) (.c (.v (.int .i64 1))), none⟩,
     ⟨some 43, .mov (.t 59), none⟩])))))))
 (.seq (.seq (.region [
   ⟨some 60, .load false 1 (.t 3), none⟩,
   ⟨some 61, .nilck (.t 60), none⟩,
   ⟨some 62, .fld 0 (.t 61), none⟩,
   ⟨some 63, .fld 6 (.t 62), none⟩,
   ⟨some 64, .load false 1 (.t 63), none⟩,
   ⟨some 65, .call (.c (.f (.func F_slices_Values_Entry) [] [])) [(.t 64)], none⟩])
 (.block 2 (.range (.t 65) [66]
   (.region [
     ⟨some 12, .alloc [(.v (.int .i64 0)), (.v (.int .i64 0)), (.v (.string ⟨#[]⟩))], none⟩,
     ⟨none, .store 3 (.t 12) (.t 66), none⟩])
   (.block 3 (.seq (.region [
      ⟨some 67, .load false 1 (.t 7), none⟩,
      ⟨some 68, .fld 0 (.t 12), none⟩,
      ⟨some 69, .load false 1 (.t 68), none⟩,
      ⟨some 70, .load false 1 (.t 3), none⟩,
      ⟨some 71, .nilck (.t 70), none⟩,
      ⟨some 72, .fld 7 (.t 71), none⟩,
      ⟨some 73, .load false 1 (.t 72), none⟩,
      ⟨some 74, .fld 0 (.t 12), none⟩,
      ⟨some 75, .load false 1 (.t 74), none⟩,
      ⟨some 76, .lookup .int (.agg [(.v (.int .i64 0)), (.v (.int .i64 0))]) false (.t 73) (.t 75), none⟩,
      ⟨none, .mapset .int (.t 67) (.t 69) (.t 76), none⟩])
    (.seq (.region [
      ⟨some 77, .load true 10 (.t 4), none⟩,
      ⟨some 78, .load true 3 (.t 12), none⟩,
      ⟨some 79, .call (.c (.f (.func F_place_brought) [] [])) [(.t 77), (.t 78)], none⟩])
    (.cond (.t 79)
     (.region [
       ⟨some 80, .load false 1 (.t 7), none⟩,
       ⟨some 81, .fld 0 (.t 12), none⟩,
       ⟨some 82, .load false 1 (.t 81), none⟩,
       ⟨some 83, .load true 2 (.t 5), none⟩,
       ⟨none, .mapset .int (.t 80) (.t 82) (.t 83), none⟩])
     (.skip))))))))
 (.seq (.seq (.region [
   ⟨some 84, .fld 1 (.t 4), none⟩,
   ⟨some 85, .load false 1 (.t 84), none⟩,
   ⟨some 86, .bin .eql (.t 85) (.c (.v (.int .i64 2))), none⟩,
   ⟨some 87, .mov (.t 86), none⟩,
   ⟨some 88, .fld 9 (.t 4), some (87, false)⟩,
   ⟨some 89, .load false 1 (.t 88), some (87, false)⟩,
   ⟨some 90, .pick (.t 87) (.c (.v (.bool true))) (.t 89), none⟩])
 (.cond (.t 90)
  (.region [
    ⟨some 91, .load false 1 (.t 7), none⟩,
    ⟨some 92, .load true 2 (.t 5), none⟩,
    ⟨none, .mapset .int (.t 91) (.c (.v (.int .i64 (-1)))) (.t 92), none⟩])
  (.skip)))
 (.seq (.seq (.region [
   ⟨some 93, .load true 10 (.t 4), none⟩,
   ⟨some 94, .load true 7 (.t 6), none⟩,
   ⟨some 95, .load false 1 (.t 3), none⟩,
   ⟨some 96, .nilck (.t 95), none⟩,
   ⟨some 97, .fld 0 (.t 96), none⟩,
   ⟨some 98, .load true 7 (.t 97), none⟩,
   ⟨some 99, .call (.c (.f (.func F_place_marks) [] [])) [(.t 93), (.t 94), (.t 98)], none⟩])
 (.cond (.t 99)
  (.region [
    ⟨some 100, .load false 1 (.t 7), none⟩,
    ⟨some 101, .load true 2 (.t 5), none⟩,
    ⟨none, .mapset .int (.t 100) (.c (.v (.int .i64 0))) (.t 101), none⟩])
  (.skip)))
 (.region [
   ⟨some 102, .load false 1 (.t 3), none⟩,
   ⟨some 103, .load false 1 (.t 7), none⟩,
   ⟨some 104, .nilck (.t 102), none⟩,
   ⟨some 105, .fld 7 (.t 104), none⟩,
   ⟨none, .store 1 (.t 105) (.t 103), none⟩]))))))))))
theorem h_place_Log_Do : (prog.funcs[F_place_Log_Do]?).bind (compFn prog) = some A_place_Log_Do := by kernel_rfl
def A_place_Log_Find : AFn := .mk 22 [.cell true 2 4, .tmp 5] (
 .seq (.region [
   ⟨some 4, .alloc [(.v (.int .i64 0)), (.v (.int .i64 0))], none⟩,
   ⟨some 5, .mov (.c (.v (.bool false))), none⟩])
 (.seq (.seq (.region [
   ⟨some 8, .mov (.t 1), none⟩,
   ⟨some 9, .bin .leq (.t 8) (.c (.v (.int .i64 0))), none⟩])
 (.cond (.t 9)
  (.seq (.region [
    ⟨some 10, .build [(.v (.int .i64 0)), (.v (.int .i64 0))] [], none⟩,
    ⟨none, .store 2 (.t 4) (.t 10), none⟩,
    ⟨some 5, .mov (.c (.v (.bool false))), none⟩])
  (.ret))
  (.skip)))
 (.seq (.region [
   ⟨some 12, .mov (.t 0), none⟩,
   ⟨some 13, .nilck (.t 12), none⟩,
   ⟨some 14, .fld 7 (.t 13), none⟩,
   ⟨some 15, .load false 1 (.t 14), none⟩,
   ⟨some 16, .mov (.t 1), none⟩,
   ⟨some 17, .lookup .int (.agg [(.v (.int .i64 0)), (.v (.int .i64 0))]) true (.t 15) (.t 16), none⟩,
   ⟨some 11, .mov (.t 17), none⟩,
   ⟨some 18, .extract 0 (.t 11), none⟩,
   ⟨some 19, .extract 1 (.t 11), none⟩,
   ⟨some 6, .alloc [(.v (.int .i64 0)), (.v (.int .i64 0))], none⟩,
   ⟨none, .store 2 (.t 6) (.t 18), none⟩,
   ⟨some 7, .mov (.t 19), none⟩])
 (.seq (.region [
   ⟨some 20, .load true 2 (.t 6), none⟩,
   ⟨some 21, .mov (.t 7), none⟩,
   ⟨none, .store 2 (.t 4) (.t 20), none⟩,
   ⟨some 5, .mov (.t 21), none⟩])
 (.ret)))))
theorem h_place_Log_Find : (prog.funcs[F_place_Log_Find]?).bind (compFn prog) = some A_place_Log_Find := by kernel_rfl
def A_place_Log_Group : AFn := .mk 13 [.cell true 7 2] (
 .seq (.region [
   ⟨some 2, .alloc [(.v (.int .i64 0)), (.v (.int .i64 0)), (.v (.int .i64 0)), (.v (.int .i64 0)), (.v (.int .i64 0)), (.v (.int .i64 0)), (.sl [] .zero)], none⟩])
 (.seq (.region [
   ⟨some 4, .mov (.t 0), none⟩,
   ⟨some 5, .nilck (.t 4), none⟩,
   ⟨some 6, .fld 0 (.t 5), none⟩,
   ⟨some 7, .load true 7 (.t 6), none⟩,
   ⟨some 3, .alloc [(.v (.int .i64 0)), (.v (.int .i64 0)), (.v (.int .i64 0)), (.v (.int .i64 0)), (.v (.int .i64 0)), (.v (.int .i64 0)), (.sl [] .zero)], none⟩,
   ⟨none, .store 7 (.t 3) (.t 7), none⟩])
 (.seq (.region [
   ⟨some 8, .fld 6 (.t 3), none⟩,
   ⟨some 9, .load false 1 (.t 8), none⟩,
   ⟨some 10, .call (.c (.f (.func F_slices_Clone_Entry) [] [])) [(.t 9)], none⟩,
   ⟨some 11, .fld 6 (.t 3), none⟩,
   ⟨none, .store 1 (.t 11) (.t 10), none⟩])
 (.seq (.region [
   ⟨some 12, .load true 7 (.t 3), none⟩,
   ⟨none, .store 7 (.t 2) (.t 12), none⟩])
 (.ret)))))
theorem h_place_Log_Group : (prog.funcs[F_place_Log_Group]?).bind (compFn prog) = some A_place_Log_Group := by kernel_rfl
def A_place_Log_Spots : AFn := .mk 30 [.tmp 2] (
 .seq (.region [
   ⟨some 1, .box (.t 0), none⟩,
   ⟨some 2, .mov (.c (.sl [] .zero)), none⟩])
 (.seq (.region [
   ⟨some 3, .alloc [(.sl [] .zero)], none⟩])
 (.seq (.seq (.region [
   ⟨some 5, .load false 1 (.t 1), none⟩,
   ⟨some 6, .nilck (.t 5), none⟩,
   ⟨some 7, .fld 7 (.t 6), none⟩,
   ⟨some 8, .load false 1 (.t 7), none⟩,
   ⟨some 9, .call (.c (.f (.func F_maps_Keys_Place) [] [])) [(.t 8)], none⟩,
   ⟨some 10, .call (.c (.f (.func F_slices_Sorted_int) [] [])) [(.t 9)], none⟩,
   ⟨some 11, .call (.c (.f (.func F_slices_Values_int) [] [])) [(.t 10)], none⟩])
 (.block 0 (.range (.t 11) [12]
   (.region [
     ⟨some 4, .mov (.t 12), none⟩])
   (.block 1 (.region [
      ⟨some 13, .load false 1 (.t 3), none⟩,
      ⟨some 14, .load false 1 (.t 1), none⟩,
      ⟨some 15, .nilck (.t 14), none⟩,
      ⟨some 16, .fld 0 (.t 15), none⟩,
      ⟨some 17, .fld 0 (.t 16), none⟩,
      ⟨some 18, .load false 1 (.t 17), none⟩,
      ⟨some 19, .mov (.t 4), none⟩,
      ⟨some 20, .load false 1 (.t 1), none⟩,
      ⟨some 21, .nilck (.t 20), none⟩,
      ⟨some 22, .fld 7 (.t 21), none⟩,
      ⟨some 23, .load false 1 (.t 22), none⟩,
      ⟨some 24, .mov (.t 4), none⟩,
      ⟨some 25, .lookup .int (.agg [(.v (.int .i64 0)), (.v (.int .i64 0))]) false (.t 23) (.t 24), none⟩,
      ⟨some 26, .build [(.v (.int .i64 0)), (.v (.int .i64 0)), (.v (.int .i64 0)), (.v (.int .i64 0))] [(0, 1, (.t 18)), (1, 1, (.t 19)), (2, 2, (.t 25))], none⟩,
      ⟨some 27, .bsl 4 [(.t 26)], none⟩,
      ⟨some 28, .append 4 32 (.t 13) (.t 27), none⟩,
      ⟨none, .store 1 (.t 3) (.t 28), none⟩])))))
 (.seq (.region [
   ⟨some 29, .load false 1 (.t 3), none⟩,
   ⟨some 2, .mov (.t 29), none⟩])
 (.ret)))))
theorem h_place_Log_Spots : (prog.funcs[F_place_Log_Spots]?).bind (compFn prog) = some A_place_Log_Spots := by kernel_rfl
end Go.Proofs.Ytmpoeamfcienoaa
end
section
namespace Go.Proofs.Ytmpoeamfcienoaa
open Go.Ab
set_option maxRecDepth 100000
def A_group_New : AFn := .mk 5 [.cell true 7 2] (
 .seq (.region [
   ⟨some 2, .alloc [(.v (.int .i64 0)), (.v (.int .i64 0)), (.v (.int .i64 0)), (.v (.int .i64 0)), (.v (.int .i64 0)), (.v (.int .i64 0)), (.sl [] .zero)], none⟩])
 (.seq (.region [
   ⟨some 3, .mov (.t 0), none⟩,
   ⟨some 4, .build [(.v (.int .i64 0)), (.v (.int .i64 0)), (.v (.int .i64 0)), (.v (.int .i64 0)), (.v (.int .i64 0)), (.v (.int .i64 0)), (.sl [] .zero)] [(0, 1, (.t 3)), (1, 1, (.c (.v (.int .i64 1))))], none⟩,
   ⟨none, .store 7 (.t 2) (.t 4), none⟩])
 (.ret)))
theorem h_group_New : (prog.funcs[F_group_New]?).bind (compFn prog) = some A_group_New := by kernel_rfl
def A_part_Is : AFn := .mk 87 [.tmp 2] (
 .seq (.region [
   ⟨some 1, .box (.t 0), none⟩,
   ⟨some 2, .mov (.c (.v (.bool false))), none⟩])
 (.seq (.seq (.draw (
   ⟨⟨some 4, .fld 0 (.t 1), none⟩, false, false, []⟩ ::
   ⟨⟨some 5, .load false 1 (.t 4), none⟩, false, false, []⟩ ::
   ⟨⟨some 6, .call (.c (.f (.func F_part_between) [] [])) [(.t 5), (.c (.v (.int .i64 0))), (.c (.v (.int .i64 999)))], none⟩, true, false, []⟩ ::
   ⟨⟨some 7, .un .not (.t 6), none⟩, false, false, []⟩ ::
   ⟨⟨some 8, .mov (.t 7), none⟩, false, false, []⟩ ::
   ⟨⟨some 9, .load true 10 (.t 1), some (8, false)⟩, false, true, []⟩ ::
   ⟨⟨some 10, .load true 10 (.t 1), some (8, false)⟩, false, false, []⟩ ::
   ⟨⟨some 11, .call (.c (.f (.func F_part_core) [] [])) [(.t 10)], some (8, false)⟩, true, false, [⟨some 9, .load true 10 (.t 1), some (8, false)⟩]⟩ ::
   ⟨⟨some 12, .call (.c (.f (.func F_part_Same) [] [])) [(.t 9), (.t 11)], some (8, false)⟩, true, false, []⟩ ::
   ⟨⟨some 13, .un .not (.t 12), some (8, false)⟩, false, false, []⟩ ::
   ⟨⟨some 14, .pick (.t 8) (.c (.v (.bool true))) (.t 13), none⟩, false, false, []⟩ ::
   []))
 (.cond (.t 14)
  (.seq (.region [
    ⟨some 2, .mov (.c (.v (.bool false))), none⟩])
  (.ret))
  (.skip)))
 (.seq (.seq (.region [
   ⟨some 15, .fld 1 (.t 1), none⟩,
   ⟨some 16, .load false 1 (.t 15), none⟩])
 (.block 0 (.seq (.region [
    ⟨some 18, .bin .eql (.t 16) (.c (.v (.int .i64 1))), none⟩,
    ⟨some 17, .mov (.t 18), none⟩])
  (.cond (.t 17)
   (.seq (.region [
     ⟨some 19, .fld 2 (.t 1), none⟩,
     ⟨some 20, .load false 1 (.t 19), none⟩,
     ⟨some 21, .len .sl (.t 20), none⟩,
     ⟨some 22, .bin .gtr (.t 21) (.c (.v (.int .i64 0))), none⟩,
     ⟨some 23, .mov (.t 22), none⟩,
     ⟨some 24, .fld 2 (.t 1), some (23, true)⟩,
     ⟨some 25, .load false 1 (.t 24), some (23, true)⟩,
     ⟨some 26, .call (.c (.f (.func F_part_rising) [] [])) [(.t 25), (.c (.v (.bool true)))], some (23, true)⟩,
     ⟨some 27, .pick (.t 23) (.t 26) (.c (.v (.bool false))), none⟩,
     ⟨some 2, .mov (.t 27), none⟩])
   (.ret))
   (.seq (.region [
     ⟨some 29, .bin .eql (.t 16) (.c (.v (.int .i64 2))), none⟩,
     ⟨some 28, .mov (.t 29), none⟩])
   (.cond (.t 28)
    (.seq (.region [
      ⟨some 30, .fld 3 (.t 1), none⟩,
      ⟨some 31, .load true 3 (.t 30), none⟩,
      ⟨some 32, .call (.c (.f (.func F_part_IsHard) [] [])) [(.t 31)], none⟩,
      ⟨some 2, .mov (.t 32), none⟩])
    (.ret))
    (.seq (.region [
      ⟨some 34, .bin .eql (.t 16) (.c (.v (.int .i64 3))), none⟩,
      ⟨some 33, .mov (.t 34), none⟩])
    (.cond (.t 33)
     (.seq (.region [
       ⟨some 35, .fld 6 (.t 1), none⟩,
       ⟨some 36, .load false 1 (.t 35), none⟩,
       ⟨some 37, .fld 7 (.t 1), none⟩,
       ⟨some 38, .load false 1 (.t 37), none⟩,
       ⟨some 39, .call (.c (.f (.func F_part_isMark) [] [])) [(.t 36), (.t 38), (.c (.v (.int .i64 0)))], none⟩,
       ⟨some 2, .mov (.t 39), none⟩])
     (.ret))
     (.seq (.region [
       ⟨some 41, .bin .eql (.t 16) (.c (.v (.int .i64 4))), none⟩,
       ⟨some 40, .mov (.t 41), none⟩])
     (.cond (.t 40)
      (.seq (.region [
        ⟨some 42, .fld 6 (.t 1), none⟩,
        ⟨some 43, .load false 1 (.t 42), none⟩,
        ⟨some 44, .fld 7 (.t 1), none⟩,
        ⟨some 45, .load false 1 (.t 44), none⟩,
        ⟨some 46, .call (.c (.f (.func F_part_isMark) [] [])) [(.t 43), (.t 45), (.c (.v (.int .i64 1)))], none⟩,
        ⟨some 2, .mov (.t 46), none⟩])
      (.ret))
      (.seq (.region [
        ⟨some 48, .bin .eql (.t 16) (.c (.v (.int .i64 6))), none⟩,
        ⟨some 47, .mov (.t 48), none⟩])
      (.cond (.t 47)
       (.seq (.region [
         ⟨some 49, .fld 8 (.t 1), none⟩,
         ⟨some 50, .load false 1 (.t 49), none⟩,
         ⟨some 51, .mov (.t 50), none⟩,
         ⟨some 52, .fld 9 (.t 1), some (51, false)⟩,
         ⟨some 53, .load false 1 (.t 52), some (51, false)⟩,
         ⟨some 54, .pick (.t 51) (.c (.v (.bool true))) (.t 53), none⟩,
         ⟨some 55, .mov (.t 54), none⟩,
         ⟨some 56, .fld 2 (.t 1), some (55, false)⟩,
         ⟨some 57, .load false 1 (.t 56), some (55, false)⟩,
         ⟨some 58, .len .sl (.t 57), some (55, false)⟩,
         ⟨some 59, .bin .gtr (.t 58) (.c (.v (.int .i64 0))), some (55, false)⟩,
         ⟨some 60, .pick (.t 55) (.c (.v (.bool true))) (.t 59), none⟩,
         ⟨some 3, .mov (.t 60), none⟩])
       (.seq (.region [
         ⟨some 61, .mov (.t 3), none⟩,
         ⟨some 62, .mov (.t 61), none⟩,
         ⟨some 63, .fld 2 (.t 1), some (62, true)⟩,
         ⟨some 64, .load false 1 (.t 63), some (62, true)⟩,
         ⟨some 65, .call (.c (.f (.func F_part_rising) [] [])) [(.t 64), (.c (.v (.bool false)))], some (62, true)⟩,
         ⟨some 66, .pick (.t 62) (.t 65) (.c (.v (.bool false))), none⟩,
         ⟨some 67, .mov (.t 66), none⟩,
         ⟨some 68, .fld 8 (.t 1), some (67, true)⟩,
         ⟨some 69, .load false 1 (.t 68), some (67, true)⟩,
         ⟨some 70, .un .not (.t 69), some (67, true)⟩,
         ⟨some 71, .mov (.t 70), some (67, true)⟩,
         ⟨some 72, .fld 6 (.t 1), some (71, false)⟩,
         ⟨some 73, .load false 1 (.t 72), some (71, false)⟩,
         ⟨some 74, .fld 7 (.t 1), some (71, false)⟩,
         ⟨some 75, .load false 1 (.t 74), some (71, false)⟩,
         ⟨some 76, .call (.c (.f (.func F_part_isMark) [] [])) [(.t 73), (.t 75), (.c (.v (.int .i64 1)))], some (71, false)⟩,
         ⟨some 77, .pick (.t 71) (.c (.v (.bool true))) (.t 76), some (67, true)⟩,
         ⟨some 78, .pick (.t 67) (.t 77) (.c (.v (.bool false))), none⟩,
         ⟨some 79, .mov (.t 78), none⟩,
         ⟨some 80, .fld 3 (.t 1), some (79, true)⟩,
         ⟨some 81, .load true 3 (.t 80), some (79, true)⟩,
         ⟨some 82, .call (.c (.f (.func F_part_IsHard) [] [])) [(.t 81)], some (79, true)⟩,
         ⟨some 83, .pick (.t 79) (.t 82) (.c (.v (.bool false))), none⟩,
         ⟨some 2, .mov (.t 83), none⟩])
       (.ret)))
       (.skip)))))))))))))
 (.seq (.region [
   ⟨some 84, .fld 1 (.t 1), none⟩,
   ⟨some 85, .load false 1 (.t 84), none⟩,
   ⟨some 86, .bin .eql (.t 85) (.c (.v (.int .i64 5))), none⟩,
   ⟨some 2, .mov (.t 86), none⟩])
 (.ret)))))
theorem h_part_Is : (prog.funcs[F_part_Is]?).bind (compFn prog) = some A_part_Is := by kernel_rfl
def A_sparse_Do : AFn := .mk 77 [.cell true 7 4] (
 .seq (.region [
   ⟨some 2, .box (.t 0), none⟩,
   ⟨some 3, .box (.t 1), none⟩,
   ⟨some 4, .alloc [(.v (.int .i64 0)), (.v (.int .i64 0)), (.v (.int .i64 0)), (.v (.int .i64 0)), (.v (.int .i64 0)), (.v (.int .i64 0)), (.sl [] .zero)], none⟩])
 (.seq (.seq (.region [
   ⟨some 6, .load true 7 (.t 2), none⟩,
   ⟨some 7, .call (.c (.f (.func F_sparse_Is) [] [])) [(.t 6)], none⟩,
   ⟨some 8, .un .not (.t 7), none⟩,
   ⟨some 9, .mov (.t 8), none⟩,
   ⟨some 10, .load true 10 (.t 3), some (9, false)⟩,
   ⟨some 11, .call (.c (.f (.func F_part_Is) [] [])) [(.t 10)], some (9, false)⟩,
   ⟨some 12, .un .not (.t 11), some (9, false)⟩,
   ⟨some 13, .pick (.t 9) (.c (.v (.bool true))) (.t 12), none⟩,
   ⟨some 14, .mov (.t 13), none⟩,
   ⟨some 15, .fld 0 (.t 3), some (14, false)⟩,
   ⟨some 16, .load false 1 (.t 15), some (14, false)⟩,
   ⟨some 17, .fld 0 (.t 2), some (14, false)⟩,
   ⟨some 18, .load false 1 (.t 17), some (14, false)⟩,
   ⟨some 19, .bin .neq (.t 16) (.t 18), some (14, false)⟩,
   ⟨some 20, .pick (.t 14) (.c (.v (.bool true))) (.t 19), none⟩])
 (.cond (.t 20)
  (.seq (.region [
    ⟨some 21, .load true 7 (.t 2), none⟩,
    ⟨none, .store 7 (.t 4) (.t 21), none⟩])
  (.ret))
  (.skip)))
 (.seq (.seq (.region [
   ⟨some 22, .fld 1 (.t 3), none⟩,
   ⟨some 23, .load false 1 (.t 22), none⟩])
 (.block 0 (.seq (.region [
    ⟨some 25, .bin .eql (.t 23) (.c (.v (.int .i64 1))), none⟩,
    ⟨some 24, .mov (.t 25), none⟩])
  (.cond (.t 24)
   (.seq (.region [
     ⟨some 26, .fld 2 (.t 3), none⟩,
     ⟨some 27, .load false 1 (.t 26), none⟩,
     ⟨some 28, .idxp 3 (.t 27) (.c (.v (.int .i64 0))), none⟩,
     ⟨some 29, .fld 0 (.t 28), none⟩,
     ⟨some 30, .load false 1 (.t 29), none⟩,
     ⟨some 5, .mov (.t 30), none⟩])
   (.draw (
     ⟨⟨some 31, .fld 6 (.t 2), none⟩, false, false, []⟩ ::
     ⟨⟨some 32, .load false 1 (.t 31), none⟩, false, false, []⟩ ::
     ⟨⟨some 33, .fld 1 (.t 2), none⟩, false, false, []⟩ ::
     ⟨⟨some 34, .load false 1 (.t 33), none⟩, false, false, []⟩ ::
     ⟨⟨some 35, .mov (.t 5), none⟩, false, false, []⟩ ::
     ⟨⟨some 37, .fld 2 (.t 3), none⟩, false, true, []⟩ ::
     ⟨⟨some 38, .load false 1 (.t 37), none⟩, false, true, []⟩ ::
     ⟨⟨some 39, .fld 1 (.t 2), none⟩, false, true, []⟩ ::
     ⟨⟨some 40, .load false 1 (.t 39), none⟩, false, true, []⟩ ::
     ⟨⟨some 36, .call (.c (.f (.func F_sparse_from) [] [])) [(.t 32), (.t 34), (.t 35)], none⟩, true, false, [⟨some 40, .load false 1 (.t 39), none⟩, ⟨some 38, .load false 1 (.t 37), none⟩]⟩ ::
     ⟨⟨some 41, .call (.c (.f (.func F_sparse_from) [] [])) [(.t 38), (.t 40), (.c (.v (.int .i64 1099511627777)))], none⟩, true, false, []⟩ ::
     ⟨⟨some 42, .append 3 32 (.t 36) (.t 41), none⟩, true, false, []⟩ ::
     ⟨⟨some 43, .fld 6 (.t 2), none⟩, false, false, []⟩ ::
     ⟨⟨none, .store 1 (.t 43) (.t 42), none⟩, true, false, []⟩ ::
     [])))
   (.seq (.region [
     ⟨some 45, .bin .eql (.t 23) (.c (.v (.int .i64 2))), none⟩,
     ⟨some 44, .mov (.t 45), none⟩])
   (.cond (.t 44)
    (.region [
      ⟨some 46, .fld 3 (.t 3), none⟩,
      ⟨some 47, .load true 3 (.t 46), none⟩,
      ⟨some 48, .fld 3 (.t 2), none⟩,
      ⟨none, .store 3 (.t 48) (.t 47), none⟩])
    (.seq (.region [
      ⟨some 50, .bin .eql (.t 23) (.c (.v (.int .i64 3))), none⟩,
      ⟨some 49, .mov (.t 50), none⟩])
    (.cond (.t 49)
     (.region [
       ⟨some 51, .load true 7 (.t 2), none⟩,
       ⟨some 52, .fld 6 (.t 3), none⟩,
       ⟨some 53, .load false 1 (.t 52), none⟩,
       ⟨some 54, .fld 7 (.t 3), none⟩,
       ⟨some 55, .load false 1 (.t 54), none⟩,
       ⟨some 56, .call (.c (.f (.func F_sparse_gone) [] [])) [(.t 51), (.t 53), (.t 55)], none⟩,
       ⟨none, .store 7 (.t 2) (.t 56), none⟩])
     (.seq (.region [
       ⟨some 58, .bin .eql (.t 23) (.c (.v (.int .i64 4))), none⟩,
       ⟨some 57, .mov (.t 58), none⟩])
     (.cond (.t 57)
      (.seq (.seq (.region [
        ⟨some 59, .fld 6 (.t 3), none⟩,
        ⟨some 60, .load false 1 (.t 59), none⟩,
        ⟨some 61, .fld 1 (.t 2), none⟩,
        ⟨some 62, .load false 1 (.t 61), none⟩,
        ⟨some 63, .bin .geq (.t 60) (.t 62), none⟩])
      (.cond (.t 63)
       (.region [
         ⟨some 64, .fld 6 (.t 2), none⟩,
         ⟨none, .store 1 (.t 64) (.c (.sl [] .zero)), none⟩])
       (.skip)))
      (.region [
        ⟨some 65, .load true 7 (.t 2), none⟩,
        ⟨some 66, .fld 6 (.t 3), none⟩,
        ⟨some 67, .load false 1 (.t 66), none⟩,
        ⟨some 68, .fld 7 (.t 3), none⟩,
        ⟨some 69, .load false 1 (.t 68), none⟩,
        ⟨some 70, .call (.c (.f (.func F_sparse_gone) [] [])) [(.t 65), (.t 67), (.t 69)], none⟩,
        ⟨none, .store 7 (.t 2) (.t 70), none⟩]))
      (.seq (.region [
        ⟨some 72, .bin .eql (.t 23) (.c (.v (.int .i64 6))), none⟩,
        ⟨some 71, .mov (.t 72), none⟩])
      (.cond (.t 71)
       (.region [
         ⟨some 73, .load true 7 (.t 2), none⟩,
         ⟨some 74, .load true 10 (.t 3), none⟩,
         ⟨some 75, .call (.c (.f (.func F_sparse_forward) [] [])) [(.t 73), (.t 74)], none⟩,
         ⟨none, .store 7 (.t 2) (.t 75), none⟩])
       (.skip)))))))))))))
 (.seq (.region [
   ⟨some 76, .load true 7 (.t 2), none⟩,
   ⟨none, .store 7 (.t 4) (.t 76), none⟩])
 (.ret)))))
theorem h_sparse_Do : (prog.funcs[F_sparse_Do]?).bind (compFn prog) = some A_sparse_Do := by kernel_rfl
def A_slices_Values_Entry : AFn := .mk 4 [.tmp 2] (
 .seq (.region [
   ⟨some 1, .box (.t 0), none⟩,
   ⟨some 2, .mov (.c (.v .nilFunc)), none⟩])
 (.seq (.region [
   ⟨some 3, .mkf (.func F_slices_Values_Entry_1) [] [(.t 1)], none⟩,
   ⟨some 2, .mov (.t 3), none⟩])
 (.ret)))
theorem h_slices_Values_Entry : (prog.funcs[F_slices_Values_Entry]?).bind (compFn prog) = some A_slices_Values_Entry := by kernel_rfl
def A_place_brought : AFn := .mk 19 [.tmp 4] (
 .seq (.region [
   ⟨some 2, .box (.t 0), none⟩,
   ⟨some 3, .box (.t 1), none⟩,
   ⟨some 4, .mov (.c (.v (.bool false))), none⟩])
 (.seq (.region [
   ⟨some 5, .fld 1 (.t 2), none⟩,
   ⟨some 6, .load false 1 (.t 5), none⟩,
   ⟨some 7, .bin .eql (.t 6) (.c (.v (.int .i64 1))), none⟩,
   ⟨some 8, .mov (.t 7), none⟩,
   ⟨some 9, .fld 1 (.t 2), some (8, false)⟩,
   ⟨some 10, .load false 1 (.t 9), some (8, false)⟩,
   ⟨some 11, .bin .eql (.t 10) (.c (.v (.int .i64 6))), some (8, false)⟩,
   ⟨some 12, .pick (.t 8) (.c (.v (.bool true))) (.t 11), none⟩,
   ⟨some 13, .mov (.t 12), none⟩,
   ⟨some 14, .fld 2 (.t 2), some (13, true)⟩,
   ⟨some 15, .load false 1 (.t 14), some (13, true)⟩,
   ⟨some 16, .load true 3 (.t 3), some (13, true)⟩,
   ⟨some 17, .call (.c (.f (.func F_slices_Contains_Entry) [] [])) [(.t 15), (.t 16)], some (13, true)⟩,
   ⟨some 18, .pick (.t 13) (.t 17) (.c (.v (.bool false))), none⟩,
   ⟨some 4, .mov (.t 18), none⟩])
 (.ret)))
theorem h_place_brought : (prog.funcs[F_place_brought]?).bind (compFn prog) = some A_place_brought := by kernel_rfl
def A_place_marks : AFn := .mk 36 [.tmp 6] (
 .seq (.region [
   ⟨some 3, .box (.t 0), none⟩,
   ⟨some 4, .box (.t 1), none⟩,
   ⟨some 5, .box (.t 2), none⟩,
   ⟨some 6, .mov (.c (.v (.bool false))), none⟩])
 (.seq (.seq (.region [
   ⟨some 7, .fld 1 (.t 3), none⟩,
   ⟨some 8, .load false 1 (.t 7), none⟩])
 (.block 0 (.seq (.seq (.region [
    ⟨some 10, .bin .eql (.t 8) (.c (.v (.int .i64 3))), none⟩,
    ⟨some 9, .mov (.t 10), none⟩])
  (.cond (.t 9)
   (.skip)
   (.region [
     ⟨some 11, .bin .eql (.t 8) (.c (.v (.int .i64 4))), none⟩,
     ⟨some 9, .mov (.t 11), none⟩])))
  (.cond (.t 9)
   (.seq (.region [
     ⟨some 12, .fld 1 (.t 5), none⟩,
     ⟨some 13, .load false 1 (.t 12), none⟩,
     ⟨some 14, .fld 1 (.t 4), none⟩,
     ⟨some 15, .load false 1 (.t 14), none⟩,
     ⟨some 16, .bin .neq (.t 13) (.t 15), none⟩,
     ⟨some 6, .mov (.t 16), none⟩])
   (.ret))
   (.seq (.region [
     ⟨some 18, .bin .eql (.t 8) (.c (.v (.int .i64 6))), none⟩,
     ⟨some 17, .mov (.t 18), none⟩])
   (.cond (.t 17)
    (.seq (.region [
      ⟨some 19, .fld 8 (.t 3), none⟩,
      ⟨some 20, .load false 1 (.t 19), none⟩,
      ⟨some 21, .mov (.t 20), none⟩,
      ⟨some 22, .fld 6 (.t 3), some (21, true)⟩,
      ⟨some 23, .load false 1 (.t 22), some (21, true)⟩,
      ⟨some 24, .fld 1 (.t 5), some (21, true)⟩,
      ⟨some 25, .load false 1 (.t 24), some (21, true)⟩,
      ⟨some 26, .bin .sub (.t 25) (.c (.v (.int .i64 1))), some (21, true)⟩,
      ⟨some 27, .bin .eql (.t 23) (.t 26), some (21, true)⟩,
      ⟨some 28, .pick (.t 21) (.t 27) (.c (.v (.bool false))), none⟩,
      ⟨some 29, .mov (.t 28), none⟩,
      ⟨some 30, .fld 7 (.t 3), some (29, true)⟩,
      ⟨some 31, .load false 1 (.t 30), some (29, true)⟩,
      ⟨some 32, .fld 2 (.t 5), some (29, true)⟩,
      ⟨some 33, .load false 1 (.t 32), some (29, true)⟩,
      ⟨some 34, .bin .eql (.t 31) (.t 33), some (29, true)⟩,
      ⟨some 35, .pick (.t 29) (.t 34) (.c (.v (.bool false))), none⟩,
      ⟨some 6, .mov (.t 35), none⟩])
    (.ret))
    (.skip)))))))
 (.seq (.region [
   ⟨some 6, .mov (.c (.v (.bool false))), none⟩])
 (.ret))))
theorem h_place_marks : (prog.funcs[F_place_marks]?).bind (compFn prog) = some A_place_marks := by kernel_rfl
end Go.Proofs.Ytmpoeamfcienoaa
end
section
namespace Go.Proofs.Ytmpoeamfcienoaa
open Go.Ab
set_option maxRecDepth 100000
def A_slices_Clone_Entry : AFn := .mk 8 [.tmp 2] (
 .seq (.region [
   ⟨some 2, .mov (.c (.sl [] .zero)), none⟩])
 (.seq (.seq (.region [
   ⟨some 3, .mov (.t 0), none⟩,
   ⟨some 4, .isnil false (.t 3), none⟩])
 (.cond (.t 4)
  (.seq (.region [
    ⟨some 2, .mov (.c (.sl [] .zero)), none⟩])
  (.ret))
  (.skip)))
 (.seq (.region [
   ⟨some 5, .bsl 3 [], none⟩,
   ⟨some 6, .mov (.t 0), none⟩,
   ⟨some 7, .append 3 32 (.t 5) (.t 6), none⟩,
   ⟨some 2, .mov (.t 7), none⟩])
 (.ret))))
theorem h_slices_Clone_Entry : (prog.funcs[F_slices_Clone_Entry]?).bind (compFn prog) = some A_slices_Clone_Entry := by kernel_rfl
def A_slices_Values_int : AFn := .mk 4 [.tmp 2] (
 .seq (.region [
   ⟨some 1, .box (.t 0), none⟩,
   ⟨some 2, .mov (.c (.v .nilFunc)), none⟩])
 (.seq (.region [
   ⟨some 3, .mkf (.func F_slices_Values_int_1) [] [(.t 1)], none⟩,
   ⟨some 2, .mov (.t 3), none⟩])
 (.ret)))
theorem h_slices_Values_int : (prog.funcs[F_slices_Values_int]?).bind (compFn prog) = some A_slices_Values_int := by kernel_rfl
def A_maps_Keys_Place : AFn := .mk 4 [.tmp 2] (
 .seq (.region [
   ⟨some 1, .box (.t 0), none⟩,
   ⟨some 2, .mov (.c (.v .nilFunc)), none⟩])
 (.seq (.region [
   ⟨some 3, .mkf (.func F_maps_Keys_Place_1) [] [(.t 1)], none⟩,
   ⟨some 2, .mov (.t 3), none⟩])
 (.ret)))
theorem h_maps_Keys_Place : (prog.funcs[F_maps_Keys_Place]?).bind (compFn prog) = some A_maps_Keys_Place := by kernel_rfl
def A_part_between : AFn := .mk 15 [.tmp 6] (
 .seq (.region [
   ⟨some 6, .mov (.c (.v (.bool false))), none⟩])
 (.seq (.region [
   ⟨some 7, .mov (.t 0), none⟩,
   ⟨some 8, .mov (.t 1), none⟩,
   ⟨some 9, .bin .geq (.t 7) (.t 8), none⟩,
   ⟨some 10, .mov (.t 9), none⟩,
   ⟨some 11, .mov (.t 0), some (10, true)⟩,
   ⟨some 12, .mov (.t 2), some (10, true)⟩,
   ⟨some 13, .bin .leq (.t 11) (.t 12), some (10, true)⟩,
   ⟨some 14, .pick (.t 10) (.t 13) (.c (.v (.bool false))), none⟩,
   ⟨some 6, .mov (.t 14), none⟩])
 (.ret)))
theorem h_part_between : (prog.funcs[F_part_between]?).bind (compFn prog) = some A_part_between := by kernel_rfl
end Go.Proofs.Ytmpoeamfcienoaa
end
section
namespace Go.Proofs.Ytmpoeamfcienoaa
open Go.Ab
set_option maxRecDepth 100000
def A_part_Same : AFn := .mk 59 [.tmp 4] (
 .seq (.region [
   ⟨some 2, .box (.t 0), none⟩,
   ⟨some 3, .box (.t 1), none⟩,
   ⟨some 4, .mov (.c (.v (.bool false))), none⟩])
 (.seq (.region (
   ⟨some 5, .fld 0 (.t 2), none⟩ ::
   ⟨some 6, .load false 1 (.t 5), none⟩ ::
   ⟨some 7, .fld 0 (.t 3), none⟩ ::
   ⟨some 8, .load false 1 (.t 7), none⟩ ::
   ⟨some 9, .bin .eql (.t 6) (.t 8), none⟩ ::
   ⟨some 10, .mov (.t 9), none⟩ ::
   ⟨some 11, .fld 1 (.t 2), some (10, true)⟩ ::
   ⟨some 12, .load false 1 (.t 11), some (10, true)⟩ ::
   ⟨some 13, .fld 1 (.t 3), some (10, true)⟩ ::
   ⟨some 14, .load false 1 (.t 13), some (10, true)⟩ ::
   ⟨some 15, .bin .eql (.t 12) (.t 14), some (10, true)⟩ ::
   ⟨some 16, .pick (.t 10) (.t 15) (.c (.v (.bool false))), none⟩ ::
   ⟨some 17, .mov (.t 16), none⟩ ::
   ⟨some 18, .fld 2 (.t 2), some (17, true)⟩ ::
   ⟨some 19, .load false 1 (.t 18), some (17, true)⟩ ::
   ⟨some 20, .fld 2 (.t 3), some (17, true)⟩ ::
   ⟨some 21, .load false 1 (.t 20), some (17, true)⟩ ::
   ⟨some 22, .call (.c (.f (.func F_slices_Equal_Entry) [] [])) [(.t 19), (.t 21)], some (17, true)⟩ ::
   ⟨some 23, .pick (.t 17) (.t 22) (.c (.v (.bool false))), none⟩ ::
   ⟨some 24, .mov (.t 23), none⟩ ::
   ⟨some 25, .fld 3 (.t 2), some (24, true)⟩ ::
   ⟨some 26, .load true 3 (.t 25), some (24, true)⟩ ::
   ⟨some 27, .fld 3 (.t 3), some (24, true)⟩ ::
   ⟨some 28, .load true 3 (.t 27), some (24, true)⟩ ::
   ⟨some 29, .eqa false (.agg [.i, .i, .i]) (.t 26) (.t 28), some (24, true)⟩ ::
   ⟨some 30, .pick (.t 24) (.t 29) (.c (.v (.bool false))), none⟩ ::
   ⟨some 31, .mov (.t 30), none⟩ ::
   ⟨some 32, .fld 6 (.t 2), some (31, true)⟩ ::
   ⟨some 33, .load false 1 (.t 32), some (31, true)⟩ ::
   ⟨some 34, .fld 6 (.t 3), some (31, true)⟩ ::
   ⟨some 35, .load false 1 (.t 34), some (31, true)⟩ ::
   ⟨some 36, .bin .eql (.t 33) (.t 35), some (31, true)⟩ ::
   ⟨some 37, .pick (.t 31) (.t 36) (.c (.v (.bool false))), none⟩ ::
   ⟨some 38, .mov (.t 37), none⟩ ::
   ⟨some 39, .fld 7 (.t 2), some (38, true)⟩ ::
   ⟨some 40, .load false 1 (.t 39), some (38, true)⟩ ::
   ⟨some 41, .fld 7 (.t 3), some (38, true)⟩ ::
   ⟨some 42, .load false 1 (.t 41), some (38, true)⟩ ::
   ⟨some 43, .bin .eql (.t 40) (.t 42), some (38, true)⟩ ::
   ⟨some 44, .pick (.t 38) (.t 43) (.c (.v (.bool false))), none⟩ ::
   ⟨some 45, .mov (.t 44), none⟩ ::
   ⟨some 46, .fld 8 (.t 2), some (45, true)⟩ ::
   ⟨some 47, .load false 1 (.t 46), some (45, true)⟩ ::
   ⟨some 48, .fld 8 (.t 3), some (45, true)⟩ ::
   ⟨some 49, .load false 1 (.t 48), some (45, true)⟩ ::
   ⟨some 50, .eqa false .bool (.t 47) (.t 49), some (45, true)⟩ ::
   ⟨some 51, .pick (.t 45) (.t 50) (.c (.v (.bool false))), none⟩ ::
   ⟨some 52, .mov (.t 51), none⟩ ::
   ⟨some 53, .fld 9 (.t 2), some (52, true)⟩ ::
   ⟨some 54, .load false 1 (.t 53), some (52, true)⟩ ::
   ⟨some 55, .fld 9 (.t 3), some (52, true)⟩ ::
   ⟨some 56, .load false 1 (.t 55), some (52, true)⟩ ::
   ⟨some 57, .eqa false .bool (.t 54) (.t 56), some (52, true)⟩ ::
   ⟨some 58, .pick (.t 52) (.t 57) (.c (.v (.bool false))), none⟩ ::
   ⟨some 4, .mov (.t 58), none⟩ ::
   []))
 (.ret)))
theorem h_part_Same : (prog.funcs[F_part_Same]?).bind (compFn prog) = some A_part_Same := by kernel_rfl
def A_part_core : AFn := .mk 55 [.cell true 10 2] (
 .seq (.region [
   ⟨some 1, .box (.t 0), none⟩,
   ⟨some 2, .alloc [(.v (.int .i64 0)), (.v (.int .i64 0)), (.sl [] .zero), (.v (.int .i64 0)), (.v (.int .i64 0)), (.v (.int .i64 0)), (.v (.int .i64 0)), (.v (.int .i64 0)), (.v (.bool false)), (.v (.bool false))], none⟩])
 (.seq (.region [
   ⟨some 4, .fld 0 (.t 1), none⟩,
   ⟨some 5, .load false 1 (.t 4), none⟩,
   ⟨some 6, .fld 1 (.t 1), none⟩,
   ⟨some 7, .load false 1 (.t 6), none⟩,
   ⟨some 8, .build [(.v (.int .i64 0)), (.v (.int .i64 0)), (.sl [] .zero), (.v (.int .i64 0)), (.v (.int .i64 0)), (.v (.int .i64 0)), (.v (.int .i64 0)), (.v (.int .i64 0)), (.v (.bool false)), (.v (.bool false))] [(0, 1, (.t 5)), (1, 1, (.t 7))], none⟩,
   ⟨some 3, .alloc [(.v (.int .i64 0)), (.v (.int .i64 0)), (.sl [] .zero), (.v (.int .i64 0)), (.v (.int .i64 0)), (.v (.int .i64 0)), (.v (.int .i64 0)), (.v (.int .i64 0)), (.v (.bool false)), (.v (.bool false))], none⟩,
   ⟨none, .store 10 (.t 3) (.t 8), none⟩])
 (.seq (.seq (.region [
   ⟨some 9, .fld 1 (.t 1), none⟩,
   ⟨some 10, .load false 1 (.t 9), none⟩])
 (.block 0 (.seq (.region [
    ⟨some 12, .bin .eql (.t 10) (.c (.v (.int .i64 1))), none⟩,
    ⟨some 11, .mov (.t 12), none⟩])
  (.cond (.t 11)
   (.region [
     ⟨some 13, .fld 2 (.t 1), none⟩,
     ⟨some 14, .load false 1 (.t 13), none⟩,
     ⟨some 15, .fld 2 (.t 3), none⟩,
     ⟨none, .store 1 (.t 15) (.t 14), none⟩])
   (.seq (.region [
     ⟨some 17, .bin .eql (.t 10) (.c (.v (.int .i64 2))), none⟩,
     ⟨some 16, .mov (.t 17), none⟩])
   (.cond (.t 16)
    (.region [
      ⟨some 18, .fld 3 (.t 1), none⟩,
      ⟨some 19, .load true 3 (.t 18), none⟩,
      ⟨some 20, .fld 3 (.t 3), none⟩,
      ⟨none, .store 3 (.t 20) (.t 19), none⟩])
    (.seq (.seq (.region [
      ⟨some 22, .bin .eql (.t 10) (.c (.v (.int .i64 3))), none⟩,
      ⟨some 21, .mov (.t 22), none⟩])
    (.cond (.t 21)
     (.skip)
     (.region [
       ⟨some 23, .bin .eql (.t 10) (.c (.v (.int .i64 4))), none⟩,
       ⟨some 21, .mov (.t 23), none⟩])))
    (.cond (.t 21)
     (.draw (
       ⟨⟨some 24, .fld 6 (.t 1), none⟩, false, false, []⟩ ::
       ⟨⟨some 25, .load false 1 (.t 24), none⟩, false, false, []⟩ ::
       ⟨⟨some 26, .fld 7 (.t 1), none⟩, false, true, []⟩ ::
       ⟨⟨some 27, .load false 1 (.t 26), none⟩, false, true, []⟩ ::
       ⟨⟨some 28, .fld 6 (.t 3), none⟩, false, false, []⟩ ::
       ⟨⟨none, .store 1 (.t 28) (.t 25), none⟩, true, false, [⟨some 27, .load false 1 (.t 26), none⟩]⟩ ::
       ⟨⟨some 29, .fld 7 (.t 3), none⟩, false, false, []⟩ ::
       ⟨⟨none, .store 1 (.t 29) (.t 27), none⟩, true, false, []⟩ ::
       []))
     (.seq (.region [
       ⟨some 31, .bin .eql (.t 10) (.c (.v (.int .i64 6))), none⟩,
       ⟨some 30, .mov (.t 31), none⟩])
     (.cond (.t 30)
      (.seq (.draw (
        ⟨⟨some 32, .fld 2 (.t 1), none⟩, false, false, []⟩ ::
        ⟨⟨some 33, .load false 1 (.t 32), none⟩, false, false, []⟩ ::
        ⟨⟨some 34, .fld 8 (.t 1), none⟩, false, true, []⟩ ::
        ⟨⟨some 35, .load false 1 (.t 34), none⟩, false, true, []⟩ ::
        ⟨⟨some 36, .fld 9 (.t 1), none⟩, false, true, []⟩ ::
        ⟨⟨some 37, .load false 1 (.t 36), none⟩, false, true, []⟩ ::
        ⟨⟨some 38, .fld 2 (.t 3), none⟩, false, false, []⟩ ::
        ⟨⟨none, .store 1 (.t 38) (.t 33), none⟩, true, false, [⟨some 37, .load false 1 (.t 36), none⟩, ⟨some 35, .load false 1 (.t 34), none⟩]⟩ ::
        ⟨⟨some 39, .fld 8 (.t 3), none⟩, false, false, []⟩ ::
        ⟨⟨none, .store 1 (.t 39) (.t 35), none⟩, true, false, [⟨some 37, .load false 1 (.t 36), none⟩]⟩ ::
        ⟨⟨some 40, .fld 9 (.t 3), none⟩, false, false, []⟩ ::
        ⟨⟨none, .store 1 (.t 40) (.t 37), none⟩, true, false, []⟩ ::
        []))
      (.seq (.seq (.region [
        ⟨some 41, .fld 8 (.t 1), none⟩,
        ⟨some 42, .load false 1 (.t 41), none⟩])
      (.cond (.t 42)
       (.draw (
         ⟨⟨some 43, .fld 6 (.t 1), none⟩, false, false, []⟩ ::
         ⟨⟨some 44, .load false 1 (.t 43), none⟩, false, false, []⟩ ::
         ⟨⟨some 45, .fld 7 (.t 1), none⟩, false, true, []⟩ ::
         ⟨⟨some 46, .load false 1 (.t 45), none⟩, false, true, []⟩ ::
         ⟨⟨some 47, .fld 6 (.t 3), none⟩, false, false, []⟩ ::
         ⟨⟨none, .store 1 (.t 47) (.t 44), none⟩, true, false, [⟨some 46, .load false 1 (.t 45), none⟩]⟩ ::
         ⟨⟨some 48, .fld 7 (.t 3), none⟩, false, false, []⟩ ::
         ⟨⟨none, .store 1 (.t 48) (.t 46), none⟩, true, false, []⟩ ::
         []))
       (.skip)))
      (.seq (.region [
        ⟨some 49, .fld 9 (.t 1), none⟩,
        ⟨some 50, .load false 1 (.t 49), none⟩])
      (.cond (.t 50)
       (.region [
         ⟨some 51, .fld 3 (.t 1), none⟩,
         ⟨some 52, .load true 3 (.t 51), none⟩,
         ⟨some 53, .fld 3 (.t 3), none⟩,
         ⟨none, .store 3 (.t 53) (.t 52), none⟩])
       (.skip)))))
      (.skip)))))))))))
 (.seq (.region [
   ⟨some 54, .load true 10 (.t 3), none⟩,
   ⟨none, .store 10 (.t 2) (.t 54), none⟩])
 (.ret)))))
theorem h_part_core : (prog.funcs[F_part_core]?).bind (compFn prog) = some A_part_core := by kernel_rfl
def A_part_rising : AFn := .mk 51 [.tmp 4] (
 .seq (.region [
   ⟨some 4, .mov (.c (.v (.bool false))), none⟩])
 (.seq (.seq (.region [
   ⟨some 7, .mov (.t 0), none⟩,
   ⟨some 8, .len .sl (.t 7), none⟩,
   ⟨some 9, .mov (.c (.v (.int .i64 0))), none⟩])
 (.block 0 (.loop (.seq (.region [
     ⟨some 10, .bin .lss (.t 9) (.t 8), none⟩])
   (.seq (.cond (.t 10)
    (.skip)
    (.exit 0))
   (.seq (.block 1 (.seq (.region [
      ⟨some 11, .mov (.t 9), none⟩,
      ⟨some 12, .idxp 3 (.t 7) (.t 9), none⟩,
      ⟨some 13, .load true 3 (.t 12), none⟩,
      ⟨some 6, .alloc [(.v (.int .i64 0)), (.v (.int .i64 0)), (.v (.string ⟨#[]⟩))], none⟩,
      ⟨some 5, .mov (.t 11), none⟩,
      ⟨none, .store 3 (.t 6) (.t 13), none⟩])
    (.seq (.region [
      ⟨some 14, .load true 3 (.t 6), none⟩,
      ⟨some 15, .call (.c (.f (.func F_part_IsEntry) [] [])) [(.t 14)], none⟩,
      ⟨some 16, .un .not (.t 15), none⟩,
      ⟨some 17, .mov (.t 16), none⟩,
      ⟨some 18, .mov (.t 5), some (17, false)⟩,
      ⟨some 19, .bin .gtr (.t 18) (.c (.v (.int .i64 0))), some (17, false)⟩,
      ⟨some 20, .mov (.t 19), some (17, false)⟩,
      ⟨some 21, .fld 0 (.t 6), some (20, true)⟩,
      ⟨some 22, .load false 1 (.t 21), some (20, true)⟩,
      ⟨some 23, .mov (.t 0), some (20, true)⟩,
      ⟨some 24, .mov (.t 5), some (20, true)⟩,
      ⟨some 25, .bin .sub (.t 24) (.c (.v (.int .i64 1))), some (20, true)⟩,
      ⟨some 26, .idxp 3 (.t 23) (.t 25), some (20, true)⟩,
      ⟨some 27, .fld 0 (.t 26), some (20, true)⟩,
      ⟨some 28, .load false 1 (.t 27), some (20, true)⟩,
      ⟨some 29, .bin .leq (.t 22) (.t 28), some (20, true)⟩,
      ⟨some 30, .mov (.t 29), some (20, true)⟩,
      ⟨some 31, .mov (.t 1), some (30, false)⟩,
      ⟨some 32, .mov (.t 31), some (30, false)⟩,
      ⟨some 33, .fld 0 (.t 6), some (32, true)⟩,
      ⟨some 34, .load false 1 (.t 33), some (32, true)⟩,
      ⟨some 35, .mov (.t 0), some (32, true)⟩,
      ⟨some 36, .mov (.t 5), some (32, true)⟩,
      ⟨some 37, .bin .sub (.t 36) (.c (.v (.int .i64 1))), some (32, true)⟩,
      ⟨some 38, .idxp 3 (.t 35) (.t 37), some (32, true)⟩,
      ⟨some 39, .fld 0 (.t 38), some (32, true)⟩,
      ⟨some 40, .load false 1 (.t 39), some (32, true)⟩,
      ⟨some 41, .bin .add (.t 40) (.c (.v (.int .i64 1))), some (32, true)⟩,
      ⟨some 42, .bin .neq (.t 34) (.t 41), some (32, true)⟩,
      ⟨some 43, .pick (.t 32) (.t 42) (.c (.v (.bool false))), some (30, false)⟩,
      ⟨some 44, .pick (.t 30) (.c (.v (.bool true))) (.t 43), some (20, true)⟩,
      ⟨some 45, .pick (.t 20) (.t 44) (.c (.v (.bool false))), some (17, false)⟩,
      ⟨some 46, .pick (.t 17) (.c (.v (.bool true))) (.t 45), none⟩])
    (.cond (.t 46)
     (.seq (.region [
       ⟨some 4, .mov (.c (.v (.bool false))), none⟩])
     (.ret))
     (.skip)))))
   (.region [
     ⟨some 47, .bin .add (.t 9) (.c (.v (.int .i64 1))), none⟩,
     ⟨some 9, .mov (.t 47), none⟩])))))))
 (.seq (.region [
   ⟨some 48, .mov (.t 0), none⟩,
   ⟨some 49, .len .sl (.t 48), none⟩,
   ⟨some 50, .bin .leq (.t 49) (.c (.v (.int .i64 6))), none⟩,
   ⟨some 4, .mov (.t 50), none⟩])
 (.ret))))
theorem h_part_rising : (prog.funcs[F_part_rising]?).bind (compFn prog) = some A_part_rising := by kernel_rfl
def A_part_IsHard : AFn := .mk 16 [.tmp 2] (
 .seq (.region [
   ⟨some 1, .box (.t 0), none⟩,
   ⟨some 2, .mov (.c (.v (.bool false))), none⟩])
 (.seq (.region [
   ⟨some 3, .fld 0 (.t 1), none⟩,
   ⟨some 4, .load false 1 (.t 3), none⟩,
   ⟨some 5, .call (.c (.f (.func F_part_between) [] [])) [(.t 4), (.c (.v (.int .i64 0))), (.c (.v (.int .i64 1099511627776)))], none⟩,
   ⟨some 6, .mov (.t 5), none⟩,
   ⟨some 7, .fld 1 (.t 1), some (6, true)⟩,
   ⟨some 8, .load false 1 (.t 7), some (6, true)⟩,
   ⟨some 9, .call (.c (.f (.func F_part_between) [] [])) [(.t 8), (.c (.v (.int .i64 0))), (.c (.v (.int .i64 1000)))], some (6, true)⟩,
   ⟨some 10, .pick (.t 6) (.t 9) (.c (.v (.bool false))), none⟩,
   ⟨some 11, .mov (.t 10), none⟩,
   ⟨some 12, .fld 2 (.t 1), some (11, true)⟩,
   ⟨some 13, .load false 1 (.t 12), some (11, true)⟩,
   ⟨some 14, .call (.c (.f (.func F_part_between) [] [])) [(.t 13), (.c (.v (.int .i64 0))), (.c (.v (.int .i64 1099511627776)))], some (11, true)⟩,
   ⟨some 15, .pick (.t 11) (.t 14) (.c (.v (.bool false))), none⟩,
   ⟨some 2, .mov (.t 15), none⟩])
 (.ret)))
theorem h_part_IsHard : (prog.funcs[F_part_IsHard]?).bind (compFn prog) = some A_part_IsHard := by kernel_rfl
def A_part_isMark : AFn := .mk 14 [.tmp 6] (
 .seq (.region [
   ⟨some 6, .mov (.c (.v (.bool false))), none⟩])
 (.seq (.region [
   ⟨some 7, .mov (.t 0), none⟩,
   ⟨some 8, .call (.c (.f (.func F_part_between) [] [])) [(.t 7), (.c (.v (.int .i64 1))), (.c (.v (.int .i64 1099511627776)))], none⟩,
   ⟨some 9, .mov (.t 8), none⟩,
   ⟨some 10, .mov (.t 1), some (9, true)⟩,
   ⟨some 11, .mov (.t 2), some (9, true)⟩,
   ⟨some 12, .call (.c (.f (.func F_part_between) [] [])) [(.t 10), (.t 11), (.c (.v (.int .i64 1099511627776)))], some (9, true)⟩,
   ⟨some 13, .pick (.t 9) (.t 12) (.c (.v (.bool false))), none⟩,
   ⟨some 6, .mov (.t 13), none⟩])
 (.ret)))
theorem h_part_isMark : (prog.funcs[F_part_isMark]?).bind (compFn prog) = some A_part_isMark := by kernel_rfl
def A_sparse_Is : AFn := .mk 25 [.cell false 1 2] (
 .seq (.region [
   ⟨some 1, .box (.t 0), none⟩,
   ⟨some 2, .alloc [(.v (.bool false))], none⟩])
 (.seq (.region [
   ⟨some 5, .fld 1 (.t 1), none⟩,
   ⟨some 6, .load false 1 (.t 5), none⟩,
   ⟨some 7, .bin .sub (.t 6) (.c (.v (.int .i64 1))), none⟩,
   ⟨some 3, .alloc [(.v (.int .i64 0))], none⟩,
   ⟨none, .store 1 (.t 3) (.t 7), none⟩])
 (.seq (.seq (.region [
   ⟨some 8, .fld 6 (.t 1), none⟩,
   ⟨some 9, .load false 1 (.t 8), none⟩,
   ⟨some 10, .call (.c (.f (.func F_slices_Values_Entry) [] [])) [(.t 9)], none⟩])
 (.block 0 (.range (.t 10) [11]
   (.region [
     ⟨some 4, .alloc [(.v (.int .i64 0)), (.v (.int .i64 0)), (.v (.string ⟨#[]⟩))], none⟩,
     ⟨none, .store 3 (.t 4) (.t 11), none⟩])
   (.block 1 (.seq (.seq (.region [
      ⟨some 12, .load true 3 (.t 4), none⟩,
      ⟨some 13, .call (.c (.f (.func F_part_IsEntry) [] [])) [(.t 12)], none⟩,
      ⟨some 14, .un .not (.t 13), none⟩,
      ⟨some 15, .mov (.t 14), none⟩,
      ⟨some 16, .fld 0 (.t 4), some (15, false)⟩,
      ⟨some 17, .load false 1 (.t 16), some (15, false)⟩,
      ⟨some 18, .load false 1 (.t 3), some (15, false)⟩,
      ⟨some 19, .bin .leq (.t 17) (.t 18), some (15, false)⟩,
      ⟨some 20, .pick (.t 15) (.c (.v (.bool true))) (.t 19), none⟩])
    (.cond (.t 20)
     (.seq (.region [
       ⟨none, .store 1 (.t 2) (.c (.v (.bool false))), none⟩])
     (.ret))
     (.skip)))
    (.region [
      ⟨some 21, .fld 0 (.t 4), none⟩,
      ⟨some 22, .load false 1 (.t 21), none⟩,
      ⟨none, .store 1 (.t 3) (.t 22), none⟩]))))))
 (.seq (.region [
   ⟨some 23, .load true 7 (.t 1), none⟩,
   ⟨some 24, .call (.c (.f (.func F_group_Head) [] [])) [(.t 23)], none⟩,
   ⟨none, .store 1 (.t 2) (.t 24), none⟩])
 (.ret)))))
theorem h_sparse_Is : (prog.funcs[F_sparse_Is]?).bind (compFn prog) = some A_sparse_Is := by kernel_rfl
def A_sparse_from : AFn := .mk 13 [.tmp 6] (
 .seq (.region [
   ⟨some 6, .mov (.c (.sl [] .zero)), none⟩])
 (.seq (.region [
   ⟨some 7, .mov (.t 0), none⟩,
   ⟨some 8, .build [(.v (.int .i64 0)), (.v (.int .i64 0)), (.v (.int .i64 0)), (.v (.int .i64 0)), (.v (.int .i64 0)), (.v (.int .i64 0)), (.sl [] .zero)] [(6, 1, (.t 7))], none⟩,
   ⟨some 9, .mov (.t 1), none⟩,
   ⟨some 10, .mov (.t 2), none⟩,
   ⟨some 11, .call (.c (.f (.func F_group_Within) [] [])) [(.t 8), (.t 9), (.t 10)], none⟩,
   ⟨some 12, .call (.c (.f (.func F_slices_Collect_Entry) [] [])) [(.t 11)], none⟩,
   ⟨some 6, .mov (.t 12), none⟩])
 (.ret)))
theorem h_sparse_from : (prog.funcs[F_sparse_from]?).bind (compFn prog) = some A_sparse_from := by kernel_rfl
def A_sparse_gone : AFn := .mk 29 [.cell true 7 6] (
 .seq (.region [
   ⟨some 3, .box (.t 0), none⟩,
   ⟨some 6, .alloc [(.v (.int .i64 0)), (.v (.int .i64 0)), (.v (.int .i64 0)), (.v (.int .i64 0)), (.v (.int .i64 0)), (.v (.int .i64 0)), (.sl [] .zero)], none⟩])
 (.seq (.seq (.region [
   ⟨some 7, .mov (.t 1), none⟩,
   ⟨some 8, .fld 1 (.t 3), none⟩,
   ⟨some 9, .load false 1 (.t 8), none⟩,
   ⟨some 10, .bin .lss (.t 7) (.t 9), none⟩])
 (.cond (.t 10)
  (.seq (.region [
    ⟨some 11, .load true 7 (.t 3), none⟩,
    ⟨none, .store 7 (.t 6) (.t 11), none⟩])
  (.ret))
  (.skip)))
 (.seq (.seq (.region [
   ⟨some 12, .mov (.t 2), none⟩,
   ⟨some 13, .bin .eql (.t 12) (.c (.v (.int .i64 0))), none⟩])
 (.cond (.t 13)
  (.region [
    ⟨some 14, .load true 7 (.t 3), none⟩,
    ⟨some 15, .mov (.t 1), none⟩,
    ⟨some 16, .call (.c (.f (.func F_sparse_term) [] [])) [(.t 14), (.t 15)], none⟩,
    ⟨some 2, .mov (.t 16), none⟩])
  (.skip)))
 (.seq (.region [
   ⟨some 17, .fld 6 (.t 3), none⟩,
   ⟨some 18, .load false 1 (.t 17), none⟩,
   ⟨some 19, .mov (.t 1), none⟩,
   ⟨some 20, .bin .add (.t 19) (.c (.v (.int .i64 1))), none⟩,
   ⟨some 21, .call (.c (.f (.func F_sparse_from) [] [])) [(.t 18), (.t 20), (.c (.v (.int .i64 1099511627777)))], none⟩,
   ⟨some 22, .fld 6 (.t 3), none⟩,
   ⟨none, .store 1 (.t 22) (.t 21), none⟩])
 (.seq (.region [
   ⟨some 23, .mov (.t 1), none⟩,
   ⟨some 24, .bin .add (.t 23) (.c (.v (.int .i64 1))), none⟩,
   ⟨some 25, .mov (.t 2), none⟩,
   ⟨some 26, .fld 1 (.t 3), none⟩,
   ⟨none, .store 1 (.t 26) (.t 24), none⟩,
   ⟨some 27, .fld 2 (.t 3), none⟩,
   ⟨none, .store 1 (.t 27) (.t 25), none⟩])
 (.seq (.region [
   ⟨some 28, .load true 7 (.t 3), none⟩,
   ⟨none, .store 7 (.t 6) (.t 28), none⟩])
 (.ret)))))))
theorem h_sparse_gone : (prog.funcs[F_sparse_gone]?).bind (compFn prog) = some A_sparse_gone := by kernel_rfl
def A_sparse_forward : AFn := .mk 56 [.cell true 7 4] (
 .seq (.region [
   ⟨some 2, .box (.t 0), none⟩,
   ⟨some 3, .box (.t 1), none⟩,
   ⟨some 4, .alloc [(.v (.int .i64 0)), (.v (.int .i64 0)), (.v (.int .i64 0)), (.v (.int .i64 0)), (.v (.int .i64 0)), (.v (.int .i64 0)), (.sl [] .zero)], none⟩])
 (.seq (.seq (.region [
   ⟨some 8, .fld 8 (.t 3), none⟩,
   ⟨some 9, .load false 1 (.t 8), none⟩])
 (.cond (.t 9)
  (.region [
    ⟨some 10, .load true 7 (.t 2), none⟩,
    ⟨some 11, .fld 6 (.t 3), none⟩,
    ⟨some 12, .load false 1 (.t 11), none⟩,
    ⟨some 13, .fld 7 (.t 3), none⟩,
    ⟨some 14, .load false 1 (.t 13), none⟩,
    ⟨some 15, .call (.c (.f (.func F_sparse_gone) [] [])) [(.t 10), (.t 12), (.t 14)], none⟩,
    ⟨none, .store 7 (.t 2) (.t 15), none⟩])
  (.skip)))
 (.seq (.seq (.region [
   ⟨some 16, .fld 9 (.t 3), none⟩,
   ⟨some 17, .load false 1 (.t 16), none⟩])
 (.cond (.t 17)
  (.region [
    ⟨some 18, .fld 3 (.t 3), none⟩,
    ⟨some 19, .load true 3 (.t 18), none⟩,
    ⟨some 20, .fld 3 (.t 2), none⟩,
    ⟨none, .store 3 (.t 20) (.t 19), none⟩])
  (.skip)))
 (.seq (.seq (.region [
   ⟨some 21, .fld 2 (.t 3), none⟩,
   ⟨some 22, .load false 1 (.t 21), none⟩,
   ⟨some 23, .call (.c (.f (.func F_slices_Values_Entry) [] [])) [(.t 22)], none⟩])
 (.block 0 (.range (.t 23) [24]
   (.region [
     ⟨some 5, .alloc [(.v (.int .i64 0)), (.v (.int .i64 0)), (.v (.string ⟨#[]⟩))], none⟩,
     ⟨none, .store 3 (.t 5) (.t 24), none⟩])
   (.block 1 (.seq (.seq (.region [
      ⟨some 25, .fld 0 (.t 5), none⟩,
      ⟨some 26, .load false 1 (.t 25), none⟩,
      ⟨some 27, .fld 1 (.t 2), none⟩,
      ⟨some 28, .load false 1 (.t 27), none⟩,
      ⟨some 29, .bin .lss (.t 26) (.t 28), none⟩,
      ⟨some 30, .mov (.t 29), none⟩,
      ⟨some 31, .load true 7 (.t 2), some (30, false)⟩,
      ⟨some 32, .fld 0 (.t 5), some (30, false)⟩,
      ⟨some 33, .load false 1 (.t 32), some (30, false)⟩,
      ⟨some 34, .call (.c (.f (.func F_sparse_there) [] [])) [(.t 31), (.t 33)], some (30, false)⟩,
      ⟨some 35, .pick (.t 30) (.c (.v (.bool true))) (.t 34), none⟩])
    (.cond (.t 35)
     (.exit 1)
     (.skip)))
    (.seq (.draw (
      ⟨⟨some 36, .fld 6 (.t 2), none⟩, false, false, []⟩ ::
      ⟨⟨some 37, .load false 1 (.t 36), none⟩, false, false, []⟩ ::
      ⟨⟨some 38, .fld 1 (.t 2), none⟩, false, false, []⟩ ::
      ⟨⟨some 39, .load false 1 (.t 38), none⟩, false, false, []⟩ ::
      ⟨⟨some 40, .fld 0 (.t 5), none⟩, false, false, []⟩ ::
      ⟨⟨some 41, .load false 1 (.t 40), none⟩, false, false, []⟩ ::
      ⟨⟨some 43, .fld 6 (.t 2), none⟩, false, true, []⟩ ::
      ⟨⟨some 44, .load false 1 (.t 43), none⟩, false, true, []⟩ ::
      ⟨⟨some 45, .fld 0 (.t 5), none⟩, false, true, []⟩ ::
      ⟨⟨some 46, .load false 1 (.t 45), none⟩, false, true, []⟩ ::
      ⟨⟨some 42, .call (.c (.f (.func F_sparse_from) [] [])) [(.t 37), (.t 39), (.t 41)], none⟩, true, false, [⟨some 46, .load false 1 (.t 45), none⟩, ⟨some 44, .load false 1 (.t 43), none⟩]⟩ ::
      ⟨⟨some 47, .call (.c (.f (.func F_sparse_from) [] [])) [(.t 44), (.t 46), (.c (.v (.int .i64 1099511627777)))], none⟩, true, false, []⟩ ::
      ⟨⟨some 6, .mov (.t 42), none⟩, false, false, []⟩ ::
      ⟨⟨some 7, .mov (.t 47), none⟩, false, false, []⟩ ::
      []))
    (.region [
      ⟨some 48, .mov (.t 6), none⟩,
      ⟨some 49, .load true 3 (.t 5), none⟩,
      ⟨some 50, .bsl 3 [(.t 49)], none⟩,
      ⟨some 51, .append 3 32 (.t 48) (.t 50), none⟩,
      ⟨some 52, .mov (.t 7), none⟩,
      ⟨some 53, .append 3 32 (.t 51) (.t 52), none⟩,
      ⟨some 54, .fld 6 (.t 2), none⟩,
      ⟨none, .store 1 (.t 54) (.t 53), none⟩])))))))
 (.seq (.region [
   ⟨some 55, .load true 7 (.t 2), none⟩,
   ⟨none, .store 7 (.t 4) (.t 55), none⟩])
 (.ret))))))
theorem h_sparse_forward : (prog.funcs[F_sparse_forward]?).bind (compFn prog) = some A_sparse_forward := by kernel_rfl
def A_slices_Values_Entry_1 : AFn := .mk 16 [] (
 .seq (.region [
   ⟨some 5, .load false 1 (.t 1), none⟩,
   ⟨some 6, .len .sl (.t 5), none⟩,
   ⟨some 7, .mov (.c (.v (.int .i64 0))), none⟩])
 (.block 0 (.loop (.seq (.region [
     ⟨some 8, .bin .lss (.t 7) (.t 6), none⟩])
   (.seq (.cond (.t 8)
    (.skip)
    (.exit 0))
   (.seq (.block 1 (.seq (.region [
      ⟨some 9, .idxp 3 (.t 5) (.t 7), none⟩,
      ⟨some 10, .load true 3 (.t 9), none⟩,
      ⟨some 4, .alloc [(.v (.int .i64 0)), (.v (.int .i64 0)), (.v (.string ⟨#[]⟩))], none⟩,
      ⟨none, .store 3 (.t 4) (.t 10), none⟩])
    (.seq (.region [
      ⟨some 11, .mov (.t 0), none⟩,
      ⟨some 12, .load true 3 (.t 4), none⟩,
      ⟨some 13, .call (.t 11) [(.t 12)], none⟩,
      ⟨some 14, .un .not (.t 13), none⟩])
    (.cond (.t 14)
     (.ret)
     (.skip)))))
   (.region [
     ⟨some 15, .bin .add (.t 7) (.c (.v (.int .i64 1))), none⟩,
     ⟨some 7, .mov (.t 15), none⟩])))))))
theorem h_slices_Values_Entry_1 : (prog.funcs[F_slices_Values_Entry_1]?).bind (compFn prog) = some A_slices_Values_Entry_1 := by kernel_rfl
def A_slices_Contains_Entry : AFn := .mk 9 [.tmp 4] (
 .seq (.region [
   ⟨some 3, .box (.t 1), none⟩,
   ⟨some 4, .mov (.c (.v (.bool false))), none⟩])
 (.seq (.region [
   ⟨some 5, .mov (.t 0), none⟩,
   ⟨some 6, .load true 3 (.t 3), none⟩,
   ⟨some 7, .call (.c (.f (.func F_slices_Index_Entry) [] [])) [(.t 5), (.t 6)], none⟩,
   ⟨some 8, .bin .geq (.t 7) (.c (.v (.int .i64 0))), none⟩,
   ⟨some 4, .mov (.t 8), none⟩])
 (.ret)))
theorem h_slices_Contains_Entry : (prog.funcs[F_slices_Contains_Entry]?).bind (compFn prog) = some A_slices_Contains_Entry := by kernel_rfl
def A_slices_Values_int_1 : AFn := .mk 16 [] (
 .seq (.region [
   ⟨some 5, .load false 1 (.t 1), none⟩,
   ⟨some 6, .len .sl (.t 5), none⟩,
   ⟨some 7, .mov (.c (.v (.int .i64 0))), none⟩])
 (.block 0 (.loop (.seq (.region [
     ⟨some 8, .bin .lss (.t 7) (.t 6), none⟩])
   (.seq (.cond (.t 8)
    (.skip)
    (.exit 0))
   (.seq (.block 1 (.seq (.region [
      ⟨some 9, .idxp 1 (.t 5) (.t 7), none⟩,
      ⟨some 10, .load false 1 (.t 9), none⟩,
      ⟨some 4, .mov (.t 10), none⟩])
    (.seq (.region [
      ⟨some 11, .mov (.t 0), none⟩,
      ⟨some 12, .mov (.t 4), none⟩,
      ⟨some 13, .call (.t 11) [(.t 12)], none⟩,
      ⟨some 14, .un .not (.t 13), none⟩])
    (.cond (.t 14)
     (.ret)
     (.skip)))))
   (.region [
     ⟨some 15, .bin .add (.t 7) (.c (.v (.int .i64 1))), none⟩,
     ⟨some 7, .mov (.t 15), none⟩])))))))
theorem h_slices_Values_int_1 : (prog.funcs[F_slices_Values_int_1]?).bind (compFn prog) = some A_slices_Values_int_1 := by kernel_rfl
end Go.Proofs.Ytmpoeamfcienoaa
end
section
namespace Go.Proofs.Ytmpoeamfcienoaa
open Go.Ab
set_option maxRecDepth 100000
def A_slices_Equal_Entry : AFn := .mk 26 [.tmp 4] (
 .seq (.region [
   ⟨some 4, .mov (.c (.v (.bool false))), none⟩])
 (.seq (.seq (.region [
   ⟨some 6, .mov (.t 0), none⟩,
   ⟨some 7, .len .sl (.t 6), none⟩,
   ⟨some 8, .mov (.t 1), none⟩,
   ⟨some 9, .len .sl (.t 8), none⟩,
   ⟨some 10, .bin .neq (.t 7) (.t 9), none⟩])
 (.cond (.t 10)
  (.seq (.region [
    ⟨some 4, .mov (.c (.v (.bool false))), none⟩])
  (.ret))
  (.skip)))
 (.seq (.seq (.region [
   ⟨some 11, .mov (.t 0), none⟩,
   ⟨some 12, .len .sl (.t 11), none⟩,
   ⟨some 13, .mov (.c (.v (.int .i64 0))), none⟩])
 (.block 0 (.loop (.seq (.region [
     ⟨some 14, .bin .lss (.t 13) (.t 12), none⟩])
   (.seq (.cond (.t 14)
    (.skip)
    (.exit 0))
   (.seq (.block 1 (.seq (.region [
      ⟨some 15, .mov (.t 13), none⟩,
      ⟨some 5, .mov (.t 15), none⟩])
    (.seq (.region [
      ⟨some 16, .mov (.t 0), none⟩,
      ⟨some 17, .mov (.t 5), none⟩,
      ⟨some 18, .idxp 3 (.t 16) (.t 17), none⟩,
      ⟨some 19, .load true 3 (.t 18), none⟩,
      ⟨some 20, .mov (.t 1), none⟩,
      ⟨some 21, .mov (.t 5), none⟩,
      ⟨some 22, .idxp 3 (.t 20) (.t 21), none⟩,
      ⟨some 23, .load true 3 (.t 22), none⟩,
      ⟨some 24, .eqa true (.agg [.i, .i, .s]) (.t 19) (.t 23), none⟩])
    (.cond (.t 24)
     (.seq (.region [
       ⟨some 4, .mov (.c (.v (.bool false))), none⟩])
     (.ret))
     (.skip)))))
   (.region [
     ⟨some 25, .bin .add (.t 13) (.c (.v (.int .i64 1))), none⟩,
     ⟨some 13, .mov (.t 25), none⟩])))))))
 (.seq (.region [
   ⟨some 4, .mov (.c (.v (.bool true))), none⟩])
 (.ret)))))
theorem h_slices_Equal_Entry : (prog.funcs[F_slices_Equal_Entry]?).bind (compFn prog) = some A_slices_Equal_Entry := by kernel_rfl
def A_part_IsEntry : AFn := .mk 17 [.tmp 2] (
 .seq (.region [
   ⟨some 1, .box (.t 0), none⟩,
   ⟨some 2, .mov (.c (.v (.bool false))), none⟩])
 (.seq (.region [
   ⟨some 3, .fld 0 (.t 1), none⟩,
   ⟨some 4, .load false 1 (.t 3), none⟩,
   ⟨some 5, .call (.c (.f (.func F_part_between) [] [])) [(.t 4), (.c (.v (.int .i64 1))), (.c (.v (.int .i64 1099511627776)))], none⟩,
   ⟨some 6, .mov (.t 5), none⟩,
   ⟨some 7, .fld 1 (.t 1), some (6, true)⟩,
   ⟨some 8, .load false 1 (.t 7), some (6, true)⟩,
   ⟨some 9, .call (.c (.f (.func F_part_between) [] [])) [(.t 8), (.c (.v (.int .i64 1))), (.c (.v (.int .i64 1099511627776)))], some (6, true)⟩,
   ⟨some 10, .pick (.t 6) (.t 9) (.c (.v (.bool false))), none⟩,
   ⟨some 11, .mov (.t 10), none⟩,
   ⟨some 12, .fld 2 (.t 1), some (11, true)⟩,
   ⟨some 13, .load false 1 (.t 12), some (11, true)⟩,
   ⟨some 14, .len .str (.t 13), some (11, true)⟩,
   ⟨some 15, .bin .leq (.t 14) (.c (.v (.int .i64 40))), some (11, true)⟩,
   ⟨some 16, .pick (.t 11) (.t 15) (.c (.v (.bool false))), none⟩,
   ⟨some 2, .mov (.t 16), none⟩])
 (.ret)))
theorem h_part_IsEntry : (prog.funcs[F_part_IsEntry]?).bind (compFn prog) = some A_part_IsEntry := by kernel_rfl
def A_group_Head : AFn := .mk 36 [.tmp 2] (
 .seq (.region [
   ⟨some 1, .box (.t 0), none⟩,
   ⟨some 2, .mov (.c (.v (.bool false))), none⟩])
 (.seq (.region [
   ⟨some 3, .fld 0 (.t 1), none⟩,
   ⟨some 4, .load false 1 (.t 3), none⟩,
   ⟨some 5, .bin .geq (.t 4) (.c (.v (.int .i64 0))), none⟩,
   ⟨some 6, .mov (.t 5), none⟩,
   ⟨some 7, .fld 0 (.t 1), some (6, true)⟩,
   ⟨some 8, .load false 1 (.t 7), some (6, true)⟩,
   ⟨some 9, .bin .leq (.t 8) (.c (.v (.int .i64 999))), some (6, true)⟩,
   ⟨some 10, .pick (.t 6) (.t 9) (.c (.v (.bool false))), none⟩,
   ⟨some 11, .mov (.t 10), none⟩,
   ⟨some 12, .fld 1 (.t 1), some (11, true)⟩,
   ⟨some 13, .load false 1 (.t 12), some (11, true)⟩,
   ⟨some 14, .bin .geq (.t 13) (.c (.v (.int .i64 1))), some (11, true)⟩,
   ⟨some 15, .pick (.t 11) (.t 14) (.c (.v (.bool false))), none⟩,
   ⟨some 16, .mov (.t 15), none⟩,
   ⟨some 17, .fld 1 (.t 1), some (16, true)⟩,
   ⟨some 18, .load false 1 (.t 17), some (16, true)⟩,
   ⟨some 19, .bin .leq (.t 18) (.c (.v (.int .i64 1099511627777))), some (16, true)⟩,
   ⟨some 20, .pick (.t 16) (.t 19) (.c (.v (.bool false))), none⟩,
   ⟨some 21, .mov (.t 20), none⟩,
   ⟨some 22, .fld 2 (.t 1), some (21, true)⟩,
   ⟨some 23, .load false 1 (.t 22), some (21, true)⟩,
   ⟨some 24, .bin .geq (.t 23) (.c (.v (.int .i64 0))), some (21, true)⟩,
   ⟨some 25, .pick (.t 21) (.t 24) (.c (.v (.bool false))), none⟩,
   ⟨some 26, .mov (.t 25), none⟩,
   ⟨some 27, .fld 2 (.t 1), some (26, true)⟩,
   ⟨some 28, .load false 1 (.t 27), some (26, true)⟩,
   ⟨some 29, .bin .leq (.t 28) (.c (.v (.int .i64 1099511627776))), some (26, true)⟩,
   ⟨some 30, .pick (.t 26) (.t 29) (.c (.v (.bool false))), none⟩,
   ⟨some 31, .mov (.t 30), none⟩,
   ⟨some 32, .fld 3 (.t 1), some (31, true)⟩,
   ⟨some 33, .load true 3 (.t 32), some (31, true)⟩,
   ⟨some 34, .call (.c (.f (.func F_part_IsHard) [] [])) [(.t 33)], some (31, true)⟩,
   ⟨some 35, .pick (.t 31) (.t 34) (.c (.v (.bool false))), none⟩,
   ⟨some 2, .mov (.t 35), none⟩])
 (.ret)))
theorem h_group_Head : (prog.funcs[F_group_Head]?).bind (compFn prog) = some A_group_Head := by kernel_rfl
def A_slices_Collect_Entry : AFn := .mk 5 [.tmp 2] (
 .seq (.region [
   ⟨some 2, .mov (.c (.sl [] .zero)), none⟩])
 (.seq (.region [
   ⟨some 3, .mov (.t 0), none⟩,
   ⟨some 4, .call (.c (.f (.func F_slices_AppendSeq_Entry) [] [])) [(.c (.sl [] .zero)), (.t 3)], none⟩,
   ⟨some 2, .mov (.t 4), none⟩])
 (.ret)))
theorem h_slices_Collect_Entry : (prog.funcs[F_slices_Collect_Entry]?).bind (compFn prog) = some A_slices_Collect_Entry := by kernel_rfl
def A_group_Within : AFn := .mk 8 [.tmp 6] (
 .seq (.region [
   ⟨some 3, .box (.t 0), none⟩,
   ⟨some 4, .box (.t 1), none⟩,
   ⟨some 5, .box (.t 2), none⟩,
   ⟨some 6, .mov (.c (.v .nilFunc)), none⟩])
 (.seq (.region [
   ⟨some 7, .mkf (.func F_group_Within_1) [] [(.t 3), (.t 4), (.t 5)], none⟩,
   ⟨some 6, .mov (.t 7), none⟩])
 (.ret)))
theorem h_group_Within : (prog.funcs[F_group_Within]?).bind (compFn prog) = some A_group_Within := by kernel_rfl
def A_sparse_term : AFn := .mk 14 [.cell false 1 4] (
 .seq (.region [
   ⟨some 2, .box (.t 0), none⟩,
   ⟨some 4, .alloc [(.v (.int .i64 0))], none⟩])
 (.seq (.seq (.region [
   ⟨some 6, .load true 7 (.t 2), none⟩,
   ⟨some 7, .mov (.t 1), none⟩,
   ⟨some 8, .mov (.t 1), none⟩,
   ⟨some 9, .bin .add (.t 8) (.c (.v (.int .i64 1))), none⟩,
   ⟨some 10, .call (.c (.f (.func F_group_Within) [] [])) [(.t 6), (.t 7), (.t 9)], none⟩])
 (.block 0 (.range (.t 10) [11]
   (.region [
     ⟨some 5, .alloc [(.v (.int .i64 0)), (.v (.int .i64 0)), (.v (.string ⟨#[]⟩))], none⟩,
     ⟨none, .store 3 (.t 5) (.t 11), none⟩])
   (.block 1 (.seq (.region [
      ⟨some 12, .fld 1 (.t 5), none⟩,
      ⟨some 13, .load false 1 (.t 12), none⟩,
      ⟨none, .store 1 (.t 4) (.t 13), none⟩])
    (.ret))))))
 (.seq (.region [
   ⟨none, .store 1 (.t 4) (.c (.v (.int .i64 0))), none⟩])
 (.ret))))
theorem h_sparse_term : (prog.funcs[F_sparse_term]?).bind (compFn prog) = some A_sparse_term := by kernel_rfl
def A_sparse_there : AFn := .mk 9 [.tmp 4] (
 .seq (.region [
   ⟨some 2, .box (.t 0), none⟩,
   ⟨some 3, .box (.t 1), none⟩,
   ⟨some 4, .mov (.c (.v (.bool false))), none⟩])
 (.seq (.region [
   ⟨some 5, .fld 6 (.t 2), none⟩,
   ⟨some 6, .load false 1 (.t 5), none⟩,
   ⟨some 7, .mkf (.func F_sparse_there_1) [] [(.t 3)], none⟩,
   ⟨some 8, .call (.c (.f (.func F_slices_ContainsFunc_Entry) [] [])) [(.t 6), (.t 7)], none⟩,
   ⟨some 4, .mov (.t 8), none⟩])
 (.ret)))
theorem h_sparse_there : (prog.funcs[F_sparse_there]?).bind (compFn prog) = some A_sparse_there := by kernel_rfl
def A_slices_Index_Entry : AFn := .mk 19 [.tmp 4] (
 .seq (.region [
   ⟨some 3, .box (.t 1), none⟩,
   ⟨some 4, .mov (.c (.v (.int .i64 0))), none⟩])
 (.seq (.seq (.region [
   ⟨some 6, .mov (.t 0), none⟩,
   ⟨some 7, .len .sl (.t 6), none⟩,
   ⟨some 8, .mov (.c (.v (.int .i64 0))), none⟩])
 (.block 0 (.loop (.seq (.region [
     ⟨some 9, .bin .lss (.t 8) (.t 7), none⟩])
   (.seq (.cond (.t 9)
    (.skip)
    (.exit 0))
   (.seq (.block 1 (.seq (.region [
      ⟨some 10, .mov (.t 8), none⟩,
      ⟨some 5, .mov (.t 10), none⟩])
    (.seq (.region [
      ⟨some 11, .load true 3 (.t 3), none⟩,
      ⟨some 12, .mov (.t 0), none⟩,
      ⟨some 13, .mov (.t 5), none⟩,
      ⟨some 14, .idxp 3 (.t 12) (.t 13), none⟩,
      ⟨some 15, .load true 3 (.t 14), none⟩,
      ⟨some 16, .eqa false (.agg [.i, .i, .s]) (.t 11) (.t 15), none⟩])
    (.cond (.t 16)
     (.seq (.region [
       ⟨some 17, .mov (.t 5), none⟩,
       ⟨some 4, .mov (.t 17), none⟩])
     (.ret))
     (.skip)))))
   (.region [
     ⟨some 18, .bin .add (.t 8) (.c (.v (.int .i64 1))), none⟩,
     ⟨some 8, .mov (.t 18), none⟩])))))))
 (.seq (.region [
   ⟨some 4, .mov (.c (.v (.int .i64 (-1)))), none⟩])
 (.ret))))
theorem h_slices_Index_Entry : (prog.funcs[F_slices_Index_Entry]?).bind (compFn prog) = some A_slices_Index_Entry := by kernel_rfl
def A_slices_AppendSeq_Entry : AFn := .mk 13 [.tmp 4] (
 .seq (.region [
   ⟨some 2, .box (.t 0), none⟩,
   ⟨some 4, .mov (.c (.sl [] .zero)), none⟩])
 (.seq (.seq (.region [
   ⟨some 6, .mov (.t 1), none⟩])
 (.block 0 (.range (.t 6) [7]
   (.region [
     ⟨some 5, .alloc [(.v (.int .i64 0)), (.v (.int .i64 0)), (.v (.string ⟨#[]⟩))], none⟩,
     ⟨none, .store 3 (.t 5) (.t 7), none⟩])
   (.block 1 (.region [
      ⟨some 8, .load false 1 (.t 2), none⟩,
      ⟨some 9, .load true 3 (.t 5), none⟩,
      ⟨some 10, .bsl 3 [(.t 9)], none⟩,
      ⟨some 11, .append 3 32 (.t 8) (.t 10), none⟩,
      ⟨none, .store 1 (.t 2) (.t 11), none⟩])))))
 (.seq (.region [
   ⟨some 12, .load false 1 (.t 2), none⟩,
   ⟨some 4, .mov (.t 12), none⟩])
 (.ret))))
theorem h_slices_AppendSeq_Entry : (prog.funcs[F_slices_AppendSeq_Entry]?).bind (compFn prog) = some A_slices_AppendSeq_Entry := by kernel_rfl
def A_group_Within_1 : AFn := .mk 31 [] (
 .seq (.region [
   ⟨some 7, .fld 6 (.t 1), none⟩,
   ⟨some 8, .load false 1 (.t 7), none⟩,
   ⟨some 9, .len .sl (.t 8), none⟩,
   ⟨some 10, .mov (.c (.v (.int .i64 0))), none⟩])
 (.block 0 (.loop (.seq (.region [
     ⟨some 11, .bin .lss (.t 10) (.t 9), none⟩])
   (.seq (.cond (.t 11)
    (.skip)
    (.exit 0))
   (.seq (.block 1 (.seq (.region [
      ⟨some 12, .idxp 3 (.t 8) (.t 10), none⟩,
      ⟨some 13, .load true 3 (.t 12), none⟩,
      ⟨some 6, .alloc [(.v (.int .i64 0)), (.v (.int .i64 0)), (.v (.string ⟨#[]⟩))], none⟩,
      ⟨none, .store 3 (.t 6) (.t 13), none⟩])
    (.seq (.region [
      ⟨some 14, .fld 0 (.t 6), none⟩,
      ⟨some 15, .load false 1 (.t 14), none⟩,
      ⟨some 16, .load false 1 (.t 2), none⟩,
      ⟨some 17, .bin .geq (.t 15) (.t 16), none⟩,
      ⟨some 18, .mov (.t 17), none⟩,
      ⟨some 19, .fld 0 (.t 6), some (18, true)⟩,
      ⟨some 20, .load false 1 (.t 19), some (18, true)⟩,
      ⟨some 21, .load false 1 (.t 3), some (18, true)⟩,
      ⟨some 22, .bin .lss (.t 20) (.t 21), some (18, true)⟩,
      ⟨some 23, .pick (.t 18) (.t 22) (.c (.v (.bool false))), none⟩,
      ⟨some 24, .mov (.t 23), none⟩,
      ⟨some 25, .mov (.t 0), some (24, true)⟩,
      ⟨some 26, .load true 3 (.t 6), some (24, true)⟩,
      ⟨some 27, .call (.t 25) [(.t 26)], some (24, true)⟩,
      ⟨some 28, .un .not (.t 27), some (24, true)⟩,
      ⟨some 29, .pick (.t 24) (.t 28) (.c (.v (.bool false))), none⟩])
    (.cond (.t 29)
     (.ret)
     (.skip)))))
   (.region [
     ⟨some 30, .bin .add (.t 10) (.c (.v (.int .i64 1))), none⟩,
     ⟨some 10, .mov (.t 30), none⟩])))))))
theorem h_group_Within_1 : (prog.funcs[F_group_Within_1]?).bind (compFn prog) = some A_group_Within_1 := by kernel_rfl
def A_slices_ContainsFunc_Entry : AFn := .mk 9 [.tmp 4] (
 .seq (.region [
   ⟨some 4, .mov (.c (.v (.bool false))), none⟩])
 (.seq (.region [
   ⟨some 5, .mov (.t 0), none⟩,
   ⟨some 6, .mov (.t 1), none⟩,
   ⟨some 7, .call (.c (.f (.func F_slices_IndexFunc_Entry) [] [])) [(.t 5), (.t 6)], none⟩,
   ⟨some 8, .bin .geq (.t 7) (.c (.v (.int .i64 0))), none⟩,
   ⟨some 4, .mov (.t 8), none⟩])
 (.ret)))
theorem h_slices_ContainsFunc_Entry : (prog.funcs[F_slices_ContainsFunc_Entry]?).bind (compFn prog) = some A_slices_ContainsFunc_Entry := by kernel_rfl
def A_sparse_there_1 : AFn := .mk 8 [.tmp 3] (
 .seq (.region [
   ⟨some 2, .box (.t 0), none⟩,
   ⟨some 3, .mov (.c (.v (.bool false))), none⟩])
 (.seq (.region [
   ⟨some 4, .fld 0 (.t 2), none⟩,
   ⟨some 5, .load false 1 (.t 4), none⟩,
   ⟨some 6, .load false 1 (.t 1), none⟩,
   ⟨some 7, .bin .eql (.t 5) (.t 6), none⟩,
   ⟨some 3, .mov (.t 7), none⟩])
 (.ret)))
theorem h_sparse_there_1 : (prog.funcs[F_sparse_there_1]?).bind (compFn prog) = some A_sparse_there_1 := by kernel_rfl
def A_slices_IndexFunc_Entry : AFn := .mk 19 [.tmp 4] (
 .seq (.region [
   ⟨some 4, .mov (.c (.v (.int .i64 0))), none⟩])
 (.seq (.seq (.region [
   ⟨some 6, .mov (.t 0), none⟩,
   ⟨some 7, .len .sl (.t 6), none⟩,
   ⟨some 8, .mov (.c (.v (.int .i64 0))), none⟩])
 (.block 0 (.loop (.seq (.region [
     ⟨some 9, .bin .lss (.t 8) (.t 7), none⟩])
   (.seq (.cond (.t 9)
    (.skip)
    (.exit 0))
   (.seq (.block 1 (.seq (.region [
      ⟨some 10, .mov (.t 8), none⟩,
      ⟨some 5, .mov (.t 10), none⟩])
    (.seq (.region [
      ⟨some 11, .mov (.t 1), none⟩,
      ⟨some 12, .mov (.t 0), none⟩,
      ⟨some 13, .mov (.t 5), none⟩,
      ⟨some 14, .idxp 3 (.t 12) (.t 13), none⟩,
      ⟨some 15, .load true 3 (.t 14), none⟩,
      ⟨some 16, .call (.t 11) [(.t 15)], none⟩])
    (.cond (.t 16)
     (.seq (.region [
       ⟨some 17, .mov (.t 5), none⟩,
       ⟨some 4, .mov (.t 17), none⟩])
     (.ret))
     (.skip)))))
   (.region [
     ⟨some 18, .bin .add (.t 8) (.c (.v (.int .i64 1))), none⟩,
     ⟨some 8, .mov (.t 18), none⟩])))))))
 (.seq (.region [
   ⟨some 4, .mov (.c (.v (.int .i64 (-1)))), none⟩])
 (.ret))))
theorem h_slices_IndexFunc_Entry : (prog.funcs[F_slices_IndexFunc_Entry]?).bind (compFn prog) = some A_slices_IndexFunc_Entry := by kernel_rfl
end Go.Proofs.Ytmpoeamfcienoaa
end
section
namespace Go.Ab
set_option linter.unusedVariables false
abbrev MI : Int := 1099511627776
def btw (n lo hi : Int) : Bool := decide (lo ≤ n) && decide (n ≤ hi)
def okEnt (e : Ent) : Bool := btw e.ix 1 MI && btw e.tm 1 MI && decide ((e.da.size : Int) ≤ 40)
def okHrd (t v c : Int) : Bool := btw t 0 MI && btw v 0 1000 && btw c 0 MI
def okMrk (ix tm least : Int) : Bool := btw ix 1 MI && btw tm least MI
def riseAt (l : List Ent) (dense : Bool) (j : Nat) : Bool :=
  okEnt (l.getD j default) && !(decide (0 < j) && (decide ((l.getD j default).ix ≤ (l.getD (j - 1) default).ix) || dense && !decide ((l.getD j default).ix = (l.getD (j - 1) default).ix + 1)))
def rising (l : List Ent) (dense : Bool) : Bool := ((List.range l.length).all (riseAt l dense)) && decide ((l.length : Int) ≤ 6)
def core (p : Prt) : Prt :=
  let o : Prt := { gr := p.gr, kd := p.kd, es := [], ht := 0, hv := 0, hc := 0, ix := 0, tm := 0, mr := false, he := false }
  if p.kd = 1 then { o with es := p.es }
  else if p.kd = 2 then { o with ht := p.ht, hv := p.hv, hc := p.hc }
  else if p.kd = 3 ∨ p.kd = 4 then { o with ix := p.ix, tm := p.tm }
  else if p.kd = 6 then { o with es := p.es, mr := p.mr, he := p.he, ix := if p.mr then p.ix else 0, tm := if p.mr then p.tm else 0, ht := if p.he then p.ht else 0, hv := if p.he then p.hv else 0, hc := if p.he then p.hc else 0 }
  else o
def isPart (p : Prt) : Bool :=
  btw p.gr 0 999 && decide (p = core p) &&
  (if p.kd = 1 then !p.es.isEmpty && rising p.es true
   else if p.kd = 2 then okHrd p.ht p.hv p.hc
   else if p.kd = 3 then okMrk p.ix p.tm 0
   else if p.kd = 4 then okMrk p.ix p.tm 1
   else if p.kd = 6 then (p.mr || p.he || !p.es.isEmpty) && rising p.es false && (!p.mr || okMrk p.ix p.tm 1) && okHrd p.ht p.hv p.hc
   else decide (p.kd = 5))
end Go.Ab
end
section
namespace Go.Ab
set_option linter.unusedVariables false
theorem MI_eq : MI = 1099511627776 := rfl
def inR (lo hi : Int) (e : Ent) : Bool := decide (lo ≤ e.ix) && decide (e.ix < hi)
def okHead (g : Grp) : Bool := btw g.id 0 999 && btw g.fi 1 (MI + 1) && btw g.tm 0 MI && okHrd g.ht g.hv g.hc
structure Spar (g : Grp) : Prop where
  hd : okHead g = true
  ok : ∀ e ∈ g.es, okEnt e = true
  fi : ∀ e ∈ g.es, g.fi ≤ e.ix
  srt : g.es.Pairwise fun a b => a.ix < b.ix
def termOf (l : List Ent) (i : Int) : Int := match l.filter (inR i (i + 1)) with | [] => 0 | e :: _ => e.tm
def hasIx (l : List Ent) (i : Int) : Bool := l.any fun e => decide (e.ix = i)
def goneS (g : Grp) (i t : Int) : Grp :=
  if i < g.fi then g else { g with es := g.es.filter (inR (i + 1) (MI + 1)), fi := i + 1, tm := if t = 0 then termOf g.es i else t }
def putS (g : Grp) (e : Ent) : Grp :=
  if e.ix < g.fi ∨ hasIx g.es e.ix = true then g else { g with es := g.es.filter (inR g.fi e.ix) ++ e :: g.es.filter (inR e.ix (MI + 1)) }
def fwdS (g : Grp) (p : Prt) : Grp :=
  let g1 := if p.mr then goneS g p.ix p.tm else g
  let g2 : Grp := if p.he then { g1 with ht := p.ht, hv := p.hv, hc := p.hc } else g1
  p.es.foldl putS g2
def doS (g : Grp) (p : Prt) : Grp :=
  if isPart p = true ∧ p.gr = g.id then
    if p.kd = 1 then { g with es := g.es.filter (inR g.fi ((p.es.getD 0 default).ix)) ++ p.es.filter (inR g.fi (MI + 1)) }
    else if p.kd = 2 then { g with ht := p.ht, hv := p.hv, hc := p.hc }
    else if p.kd = 3 then goneS g p.ix p.tm
    else if p.kd = 4 then goneS (if g.fi ≤ p.ix then { g with es := [] } else g) p.ix p.tm
    else if p.kd = 6 then fwdS g p
    else g
  else g
theorem okEnt_iff {e : Ent} : okEnt e = true ↔ (1 ≤ e.ix ∧ e.ix ≤ MI) ∧ (1 ≤ e.tm ∧ e.tm ≤ MI) ∧ (e.da.size : Int) ≤ 40 := by
  simp [okEnt, btw, and_assoc]
theorem okHead_iff {g : Grp} : okHead g = true ↔ (0 ≤ g.id ∧ g.id ≤ 999) ∧ (1 ≤ g.fi ∧ g.fi ≤ MI + 1) ∧ (0 ≤ g.tm ∧ g.tm ≤ MI) ∧ okHrd g.ht g.hv g.hc = true := by
  simp [okHead, btw, and_assoc]
theorem srt_len {l : List Ent} (h : l.Pairwise fun a b => a.ix < b.ix) : ∀ {lo : Int}, (∀ e ∈ l, lo ≤ e.ix ∧ e.ix ≤ MI) → 0 ≤ lo → (l.length : Int) ≤ MI - lo + 1 ∨ l = [] := by
  induction l with
  | nil => intro lo _ _; right; rfl
  | cons a l ih =>
    intro lo hb h0
    left
    have ha := hb a (List.mem_cons_self ..)
    obtain ⟨h1, h2⟩ := List.pairwise_cons.1 h
    rcases ih h2 (lo := lo + 1) (fun e he => ⟨by have := h1 e he; omega, (hb e (List.mem_cons_of_mem _ he)).2⟩) (by omega) with h3 | h3
    · simp only [List.length_cons]; omega
    · subst h3; simp only [List.length_cons, List.length_nil]; omega
theorem Spar.len {g : Grp} (h : Spar g) : (g.es.length : Int) ≤ MI := by
  rcases srt_len h.srt (lo := 1) (fun e he => (okEnt_iff.1 (h.ok e he)).1) (by omega) with h1 | h1
  · omega
  · rw [h1]; decide
theorem Spar.goneS {g : Grp} (h : Spar g) {i t : Int} (hi : i ≤ MI) (ht : 0 ≤ t ∧ t ≤ MI) : Spar (goneS g i t) := by
  unfold Ab.goneS
  split
  · exact h
  · have h0 := okHead_iff.1 h.hd
    refine ⟨?_, fun e he => h.ok e (List.mem_filter.1 he).1, fun e he => ?_, h.srt.filter _⟩
    · rw [okHead_iff]
      refine ⟨h0.1, ⟨by show 1 ≤ i + 1; omega, by show i + 1 ≤ MI + 1; omega⟩, ?_, h0.2.2.2⟩
      show 0 ≤ (if t = 0 then termOf g.es i else t) ∧ (if t = 0 then termOf g.es i else t) ≤ MI
      split
      · unfold termOf
        split
        · exact ⟨Int.le_refl _, by decide⟩
        · next e l he =>
          have : e ∈ g.es := (List.mem_filter.1 (by rw [he]; exact List.mem_cons_self ..)).1
          have := (okEnt_iff.1 (h.ok e this)).2.1
          omega
      · exact ht
    · have := (List.mem_filter.1 he).2
      simp [inR] at this
      exact this.1
theorem Spar.putS {g : Grp} (h : Spar g) {e : Ent} (he : okEnt e = true) : Spar (putS g e) := by
  unfold Ab.putS
  split
  · exact h
  · next hc =>
    have h0 := okEnt_iff.1 he
    have hc1 : g.fi ≤ e.ix := by omega
    have hc2 : ∀ x ∈ g.es, x.ix ≠ e.ix := fun x hx hxe => hc (.inr (by simp only [hasIx, List.any_eq_true]; exact ⟨x, hx, by simp [hxe]⟩))
    refine ⟨h.hd, fun x hx => ?_, fun x hx => ?_, ?_⟩
    · rcases List.mem_append.1 hx with hx | hx
      · exact h.ok x (List.mem_filter.1 hx).1
      · rcases List.mem_cons.1 hx with rfl | hx
        · exact he
        · exact h.ok x (List.mem_filter.1 hx).1
    · rcases List.mem_append.1 hx with hx | hx
      · exact h.fi x (List.mem_filter.1 hx).1
      · rcases List.mem_cons.1 hx with rfl | hx
        · exact hc1
        · exact h.fi x (List.mem_filter.1 hx).1
    · rw [List.pairwise_append, List.pairwise_cons]
      refine ⟨h.srt.filter _, ⟨fun x hx => ?_, h.srt.filter _⟩, fun x hx y hy => ?_⟩
      · have h1 := List.mem_filter.1 hx
        have := hc2 x h1.1
        have h2 : e.ix ≤ x.ix ∧ x.ix < MI + 1 := by simpa [inR] using h1.2
        omega
      · have h1 := (List.mem_filter.1 hx).2
        have h2 : g.fi ≤ x.ix ∧ x.ix < e.ix := by simpa [inR] using h1
        rcases List.mem_cons.1 hy with rfl | hy
        · exact h2.2
        · have h3 : e.ix ≤ y.ix ∧ y.ix < MI + 1 := by simpa [inR] using (List.mem_filter.1 hy).2
          omega
theorem Spar.puts {g : Grp} (h : Spar g) {l : List Ent} (hl : ∀ e ∈ l, okEnt e = true) : Spar (l.foldl Ab.putS g) := by
  induction l generalizing g with
  | nil => exact h
  | cons e l ih => exact ih (h.putS (hl e (List.mem_cons_self ..))) (fun x hx => hl x (List.mem_cons_of_mem _ hx))
theorem rising_ok {l : List Ent} {d : Bool} (h : rising l d = true) : (∀ e ∈ l, okEnt e = true) ∧ (l.Pairwise fun a b => a.ix < b.ix) ∧ (l.length : Int) ≤ 6 := by
  simp only [rising, Bool.and_eq_true, decide_eq_true_eq, List.all_eq_true, List.mem_range, riseAt] at h
  obtain ⟨h1, h2⟩ := h
  have g : ∀ j, j < l.length → l.getD j default = l[j]! := fun j hj => by simp [hj]
  refine ⟨fun e he => ?_, ?_, h2⟩
  · obtain ⟨j, hj, rfl⟩ := List.getElem_of_mem he
    have := (h1 j hj).1
    rwa [List.getD_eq_getElem?_getD, List.getElem?_eq_getElem hj] at this
  · have step : ∀ j (hj : j + 1 < l.length), l[j].ix < l[j + 1].ix := fun j hj => by
      have := (h1 (j + 1) hj).2
      rw [List.getD_eq_getElem?_getD, List.getD_eq_getElem?_getD, List.getElem?_eq_getElem hj, List.getElem?_eq_getElem (by omega)] at this
      simp at this
      exact this.1
    rw [List.pairwise_iff_getElem]
    intro i j hi hj hij
    obtain ⟨d, rfl⟩ : ∃ d, j = i + 1 + d := ⟨j - i - 1, by omega⟩
    clear hij
    induction d with
    | zero => exact step i hj
    | succ d ih => exact Int.lt_trans (ih (by omega)) (step (i + 1 + d) hj)
theorem okHrd_of {p : Prt} (h : isPart p = true) (hk : p.kd = 2 ∨ p.kd = 6) : okHrd p.ht p.hv p.hc = true := by
  simp only [isPart, Bool.and_eq_true] at h
  obtain ⟨_, h⟩ := h
  rcases hk with hk | hk
  · rw [hk] at h; simpa using h
  · rw [hk] at h; simp at h; exact h.2
theorem Spar.doS {g : Grp} (h : Spar g) (p : Prt) : Spar (doS g p) := by
  unfold Ab.doS
  have h0 := okHead_iff.1 h.hd
  split
  · next hc =>
    obtain ⟨hp, hg⟩ := hc
    have hp' := hp
    simp only [isPart, Bool.and_eq_true] at hp'
    obtain ⟨_, hk⟩ := hp'
    split
    · next h1 =>
      simp [h1] at hk
      obtain ⟨e1, e2, e3⟩ := rising_ok hk.2
      refine ⟨h.hd, fun e he => ?_, fun e he => ?_, ?_⟩
      · rcases List.mem_append.1 he with he | he
        · exact h.ok e (List.mem_filter.1 he).1
        · exact e1 e (List.mem_filter.1 he).1
      · rcases List.mem_append.1 he with he | he
        · exact h.fi e (List.mem_filter.1 he).1
        · have := (List.mem_filter.1 he).2; simp [inR] at this; exact this.1
      · rw [List.pairwise_append]
        refine ⟨h.srt.filter _, e2.filter _, fun x hx y hy => ?_⟩
        have h2 : g.fi ≤ x.ix ∧ x.ix < (p.es.getD 0 default).ix := by simpa [inR] using (List.mem_filter.1 hx).2
        have hy := (List.mem_filter.1 hy).1
        obtain ⟨j, hj, rfl⟩ := List.getElem_of_mem hy
        have h3 : p.es.getD 0 default = p.es[0] := by simp [show 0 < p.es.length by omega]
        rw [h3] at h2
        by_cases hj0 : j = 0
        · subst hj0; exact h2.2
        · have := List.pairwise_iff_getElem.1 e2 0 j (by omega) hj (by omega); omega
    split
    · next h1 h2 =>
      exact ⟨by rw [okHead_iff]; exact ⟨h0.1, h0.2.1, h0.2.2.1, okHrd_of hp (.inl h2)⟩, h.ok, h.fi, h.srt⟩
    split
    · next h1 h2 h3 =>
      simp [h3, okMrk, btw] at hk
      exact h.goneS (by omega) (by omega)
    split
    · next h1 h2 h3 h4 =>
      simp [h4, okMrk, btw] at hk
      refine Spar.goneS ?_ (by omega) (by omega)
      split
      · exact ⟨h.hd, by simp, by simp, by simp⟩
      · exact h
    split
    · next h1 h2 h3 h4 h5 =>
      have hh := okHrd_of hp (.inr h5)
      simp [h5] at hk
      obtain ⟨⟨⟨_, k1⟩, k2⟩, _⟩ := hk
      unfold fwdS
      refine Spar.puts ?_ (rising_ok k1).1
      have hg : Spar (if p.mr then Ab.goneS g p.ix p.tm else g) := by
        split
        · next hm =>
          rcases k2 with k2 | k2
          · simp [hm] at k2
          · simp [okMrk, btw] at k2
            exact h.goneS (by omega) (by omega)
        · exact h
      generalize (if p.mr then Ab.goneS g p.ix p.tm else g) = g1 at hg
      split
      · have h0 := okHead_iff.1 hg.hd
        exact ⟨by rw [okHead_iff]; exact ⟨h0.1, h0.2.1, h0.2.2.1, hh⟩, hg.ok, hg.fi, hg.srt⟩
      · exact hg
    · exact h
  · exact h
end Go.Ab
end
section
namespace Go.Ab
set_option linter.unusedVariables false
structure Mut (F F' : List Nat) (s s' : AState) : Prop where
  n : s.n ≤ s'.n
  keep : ∀ x, x < s.n → x ∉ F → s'.get x = s.get x
  own : ∀ x ∈ F', x ∈ F ∨ s.n ≤ x
theorem Mut.trans {F F1 F2 : List Nat} {s s1 s2 : AState} (h : Mut F F1 s s1) (k : Mut F1 F2 s1 s2) : Mut F F2 s s2 :=
  ⟨Nat.le_trans h.n k.n, fun x hx hn => (k.keep x (Nat.lt_of_lt_of_le hx h.n) fun hm => by
    rcases h.own x hm with h1 | h1
    · exact hn h1
    · omega).trans (h.keep x hx hn), fun x hx => by
    rcases k.own x hx with h1 | h1
    · exact h.own x h1
    · exact .inr (Nat.le_trans h.n h1)⟩
theorem Mut.grows {F : List Nat} {s s' : AState} (h : Grows s s') : Mut F F s s' := ⟨h.n, fun x hx _ => h.get hx, fun _ h => .inl h⟩
theorem Mut.new {F : List Nat} {s s' : AState} (h : Grows s s') (hF : ∀ x ∈ F, s.n ≤ x) : Mut [] F s s' := ⟨h.n, fun x hx _ => h.get hx, fun x h => .inr (hF x h)⟩
theorem Mut.apart {F F' G : List Nat} {s s' : AState} (h : Mut F F' s s') (hd : ∀ x ∈ G, x ∉ F) (hl : ∀ x ∈ G, x < s.n) : ∀ x ∈ G, x ∉ F' := fun x hx hm => by
  rcases h.own x hm with h1 | h1
  · exact hd x hx h1
  · have := hl x hx; omega
structure LogV where
  g : Grp
  sp : List (Int × Plc)
def logC (g : Grp) (tk : Tok) (mb : Nat) : List AV := [.v (.int .i64 g.id), .v (.int .i64 g.fi), .v (.int .i64 g.tm), .v (.int .i64 g.ht), .v (.int .i64 g.hv), .v (.int .i64 g.hc), .sl (g.es.map Ent.av) tk, .m mb]
def LogAt (s : AState) (lb : Nat) (v : LogV) (F : List Nat) : Prop :=
  ∃ (tk : Tok) (mb : Nat) (A : List (Int × Plc)), F = [lb, mb] ∧ s.get lb = .cells (logC v.g tk mb) ∧ s.get mb = .map (encM Plc.av A) ∧ Rep A v.sp
theorem LogAt.lt {s : AState} {lb : Nat} {v : LogV} {F : List Nat} (h : LogAt s lb v F) : ∀ x ∈ F, x < s.n := by
  obtain ⟨tk, mb, A, rfl, h1, h2, h3⟩ := h
  intro x hx
  simp only [List.mem_cons, List.not_mem_nil, or_false] at hx
  rcases hx with rfl | rfl
  · exact AState.lt_of_get h1 (by simp)
  · exact AState.lt_of_get h2 (by simp)
theorem LogAt.keep {s s' : AState} {lb : Nat} {v : LogV} {F : List Nat} (h : LogAt s lb v F) (k : ∀ x ∈ F, s'.get x = s.get x) : LogAt s' lb v F := by
  obtain ⟨tk, mb, A, rfl, h1, h2, h3⟩ := h
  exact ⟨tk, mb, A, rfl, (k _ (by simp)).trans h1, (k _ (by simp)).trans h2, h3⟩
def newG (id : Int) : Grp := ⟨id, 1, 0, 0, 0, 0, []⟩
theorem newG_spar {id : Int} (h : 0 ≤ id ∧ id ≤ 999) : Spar (newG id) := by
  refine ⟨?_, by simp [newG], by simp [newG], by simp [newG]⟩
  have hMI := MI_eq
  rw [okHead_iff]
  refine ⟨h, ⟨by show (1 : Int) ≤ 1; omega, by show (1 : Int) ≤ MI + 1; omega⟩, ⟨by show (0 : Int) ≤ 0; omega, by show (0 : Int) ≤ MI; omega⟩, ?_⟩
  show okHrd 0 0 0 = true
  decide
def broughtS (p : Prt) (e : Ent) : Bool := (decide (p.kd = 1) || decide (p.kd = 6)) && p.es.any fun x => decide (e = x)
def marksS (p : Prt) (old now : Grp) : Bool :=
  if p.kd = 3 ∨ p.kd = 4 then !decide (now.fi = old.fi) else if p.kd = 6 then p.mr && decide (p.ix = now.fi - 1) && decide (p.tm = now.tm) else false
def okDo (g : Grp) (p : Prt) : Bool := isPart p && decide (p.gr = g.id) && !decide (p.kd = 5)
section
variable (set : List (Int × Plc) → Int → Plc → List (Int × Plc)) (look : Int → Option Plc) (p : Prt) (at_ : Plc)
def nx0 (k : Int) (c : List (Int × Plc)) : List (Int × Plc) := match look k with | some x => set c k x | none => c
def nx1 (c : List (Int × Plc)) (e : Ent) : List (Int × Plc) := if broughtS p e = true then set (set c e.ix ((look e.ix).getD ⟨0, 0⟩)) e.ix at_ else set c e.ix ((look e.ix).getD ⟨0, 0⟩)
def nxI (es : List Ent) : List (Int × Plc) := es.foldl (nx1 set look p at_) (nx0 set look 0 (nx0 set look (-1) []))
def nxH (c : List (Int × Plc)) : List (Int × Plc) := if p.kd = 2 ∨ p.he = true then set c (-1) at_ else c
def nxM (old now : Grp) (c : List (Int × Plc)) : List (Int × Plc) := if marksS p old now = true then set c 0 at_ else c
def nextW (old now : Grp) : List (Int × Plc) := nxM set p at_ old now (nxH set p at_ (nxI set look p at_ now.es))
end
theorem nextW_rep {look look' : Int → Option Plc} (hl : ∀ k, look k = look' k) (p : Prt) (at_ : Plc) (old now : Grp) : Rep (nextW setM look p at_ old now) (nextW putL look' p at_ old now) := by
  obtain rfl : look = look' := funext hl
  have h0 : ∀ {k : Int} {A B : List (Int × Plc)}, Rep A B → Rep (nx0 setM look k A) (nx0 putL look k B) := fun h => by
    unfold nx0; split
    · exact h.set _ _
    · exact h
  have h1 : ∀ {e : Ent} {A B : List (Int × Plc)}, Rep A B → Rep (nx1 setM look p at_ A e) (nx1 putL look p at_ B e) := fun h => by
    unfold nx1; split
    · exact (h.set _ _).set _ _
    · exact h.set _ _
  have hI : Rep (nxI setM look p at_ now.es) (nxI putL look p at_ now.es) := by
    unfold nxI
    generalize now.es = es
    have := h0 (k := 0) (h0 (k := -1) Rep.nil)
    generalize nx0 setM look 0 (nx0 setM look (-1) []) = A at this
    generalize nx0 putL look 0 (nx0 putL look (-1) []) = B at this
    induction es generalizing A B with
    | nil => exact this
    | cons e es ih => exact ih _ _ (h1 this)
  unfold nextW
  generalize nxI setM look p at_ now.es = A at hI
  generalize nxI putL look p at_ now.es = B at hI
  have hH : Rep (nxH setM p at_ A) (nxH putL p at_ B) := by
    unfold nxH; split
    · exact hI.set _ _
    · exact hI
  unfold nxM; split
  · exact hH.set _ _
  · exact hH
def logDo (v : LogV) (p : Prt) (at_ : Plc) : LogV := if okDo v.g p = true then ⟨doS v.g p, nextW putL (lk v.sp) p at_ v.g (doS v.g p)⟩ else v
end Go.Ab
end
section
namespace Go.Ab
set_option linter.unusedVariables false
def ptr (b : Nat) : AV := .p b 0
structure VOk (i : Int) (v : LogV) : Prop where
  id : v.g.id = i
  rng : 0 ≤ i ∧ i ≤ 999
  g : Spar v.g
  srt : Srt v.sp
  key : ∀ x ∈ v.sp, x.1 = -1 ∨ x.1 = 0 ∨ ∃ e ∈ v.g.es, x.1 = e.ix
  has : ∀ e ∈ v.g.es, ∃ x ∈ v.sp, x.1 = e.ix
end Go.Ab
end
section
namespace Go.Proofs.Ytmpoeamfcienoaa
open Go.Ab
set_option linter.unusedVariables false
set_option linter.unusedSimpArgs false
set_option maxRecDepth 100000
set_option maxHeartbeats 2000000
theorem ct_slices_Values_Entry {xs : List AV} {s : AState} : Gives prog F_slices_Values_Entry [.sl xs .no] s (.f (.func F_slices_Values_Entry_1) [] [.p s.n 0]) (s.alloc (.cells [.sl xs .no])) := by
  refine runs_e h_slices_Values_Entry (Nat.le_of_ble_eq_true rfl) ?_
  refine st0 ?_
  exact ret_ok rfl ⟨rfl, rfl⟩
theorem it_slices_Values_Entry (es : List Ent) (b : Nat) (hlen : es.length < 9223372036854775808) : Iter prog F_slices_Values_Entry_1 [] [.p b 0] (es.map fun e => [e.av]) (fun s => s.get b = .cells [.sl (es.map Ent.av) .no]) := by
  intro l s I J hp ha hj hy h0
  refine runs_e h_slices_Values_Entry_1 (Nat.le_of_ble_eq_true rfl) ?_
  refine st1 (hp 0 s h0) ?_
  refine loop_ok [0, 5, 6, 7] (fun m a s1 => ∃ j : Nat, j + m = es.length ∧ I j s1 ∧ a = { t := den 16 [(0, .y l), (5, .sl (es.map Ent.av) .no), (6, .v (.int .i64 es.length)), (7, .v (.int .i64 j))], d := [] }) es.length ?_ ?_
  · exact ⟨0, by simp, h0, by simp⟩
  · rintro m a s1 ⟨j, hjm, hI, rfl⟩
    by_cases hlt : j < es.length
    · have hw : IntKind.wrap .i64 ((j : Int) + 1) = ((j + 1 : Nat) : Int) := by rw [wrap_i64 (by omega) (by omega)]; omega
      repeat (first | simp -dsimp -implicitDefEqProofs (disch := first | omega | (simp <;> omega) | fail) [hlt] | ((with_reducible first | apply m_1 | apply m_0); (focus ((conv => lhs; simp -dsimp -implicitDefEqProofs (disch := first | omega | (simp <;> omega) | fail) [hlt]); done))) | ((with_reducible first | apply i_T | apply g_T); (focus (simp -dsimp -implicitDefEqProofs (disch := first | omega | (simp <;> omega) | fail) [hlt]; done))) | ((with_reducible first | apply i_F | apply g_F); (focus (simp -dsimp -implicitDefEqProofs (disch := first | omega | (simp <;> omega) | fail) [hlt]; done))))
      have hy' := hy j (by simpa using hlt) _ (ha _ _ (.cells es[j].cells) hI)
      simp only [List.getElem_map] at hy'
      refine yr0 (hy') ?_
      rintro _ s2 (⟨rfl, hI2⟩ | ⟨rfl, hJ⟩)
      · refine st1 hw ?_
        exact ⟨m - 1, by omega, j + 1, by omega, hI2, by simp⟩
      · refine st0 ?_
        exact ret_ok rfl (.inr hJ)
    · refine st1 hlt ?_
      have : j = es.length := by omega
      subst this
      exact end_ok rfl (.inl (by simpa using hI))
theorem rn_slices_AppendSeq_Entry {g : FuncId} {fs caps : List AV} {es : List Ent} {Pre : AState → Prop} (hit : Iter prog g fs caps (es.map fun e => [e.av]) Pre) {s : AState} (hpre : ∀ s', Grows s s' → Pre s')
    (hlen : es.length * 32 ≤ 140737488355328) :
    Runs (compCode prog) prog F_slices_AppendSeq_Entry [.sl [] .zero, .f (.func g) fs caps] s (fun x s' => ∃ tk, x = .sl (es.map Ent.av) tk ∧ May s.n s' (es.map Ent.av) tk ∧ Grows s s') := by
  refine runs_e h_slices_AppendSeq_Entry (Nat.le_of_ble_eq_true rfl) ?_
  refine st0 ?_
  refine w_rangeG (α := Tok) (β := Unit) (m := es.length) (by simp) hit (by simp) (by simp) (fun k tk => s.alloc (.cells [.sl ((es.map Ent.av).take k) tk])) (fun k tk s' => May (s.n + 3) s' ((es.map Ent.av).take k) tk) (fun _ _ => s) (fun _ _ _ => False) .zero
    (by simp) (fun s' h => trivial) ?_ (fun k a s' o h => h.alloc o) (fun _ _ _ _ h => h) ?_ ?_ (fun _ _ _ _ _ h => h.elim)
  · intro k a s' _ h1 h2
    exact hpre _ (((Grows.refl s).alloc _).trans h2)
  · intro LR LB LJ _ k hk tk g' h1 hm
    have hk' : k < es.length := by simpa using hk
    refine st0 ?_
    refine o_app (B := ((s.alloc (.cells [.sl ((es.map Ent.av).take k) tk])).alloc .defd).alloc LB) (N := s.n + 3) (by simp) (by simp; exact ⟨rfl, rfl⟩) ⟨_, allocs_snoc _ _ _⟩ (by simp) (by simp; omega) ((hm.swap (by simp) (by simp)).alloc _) rfl (by simp) (by simp) (by simp; omega) (by simp; omega) ?_
    intro g2 tk2 hm2 _ _
    refine st0 ?_
    refine ⟨tk2, by simp, ?_, ?_⟩
    · rw [take_snoc hk']; exact ⟨_, rfl⟩
    · rw [take_snoc hk']; exact hm2.swap (by simp) (by simp)
  · intro LR tk g' h1 hm
    rw [List.take_of_length_le (by simp)] at *
    refine st0 ?_
    refine ret_okD (by simp) (by simp) (by simp; rfl) ⟨tk, rfl, ?_, ?_⟩
    · simp only [killAll, List.foldl]
      simp
      exact (hm.swap (by simp) (by simp)).low (by omega)
    · simp only [killAll, List.foldl]
      simp
      exact ((((Grows.refl s).alloc _).alloc _).alloc _).allocs _
theorem rn_slices_Collect_Entry {g : FuncId} {fs caps : List AV} {es : List Ent} {Pre : AState → Prop} (hit : Iter prog g fs caps (es.map fun e => [e.av]) Pre) {s : AState} (hpre : ∀ s', Grows s s' → Pre s')
    (hlen : es.length * 32 ≤ 140737488355328) :
    Runs (compCode prog) prog F_slices_Collect_Entry [.f (.func g) fs caps] s (fun x s' => ∃ tk, x = .sl (es.map Ent.av) tk ∧ May s.n s' (es.map Ent.av) tk ∧ Grows s s') := by
  refine runs_e h_slices_Collect_Entry (Nat.le_of_ble_eq_true rfl) ?_
  refine st0 ?_
  refine rn0 (rn_slices_AppendSeq_Entry hit hpre hlen) ?_
  rintro _ s' ⟨tk, rfl, h1, h2⟩
  refine st0 ?_
  exact ret_ok rfl ⟨tk, rfl, h1, h2⟩
end Go.Proofs.Ytmpoeamfcienoaa
end
section
namespace Go.Proofs.Ytmpoeamfcienoaa
open Go.Ab
set_option linter.unusedVariables false
set_option linter.unusedSimpArgs false
set_option maxRecDepth 100000
set_option maxHeartbeats 4000000
theorem ct_part_between {n lo hi : Int} {s : AState} : Gives prog F_part_between [.v (.int .i64 n), .v (.int .i64 lo), .v (.int .i64 hi)] s (.v (.bool (btw n lo hi))) s := by
  refine runs_e h_part_between (Nat.le_of_ble_eq_true rfl) ?_
  repeat' (first | refine sa0 ?_ | ((with_reducible first | apply s_split | apply s_gsplit) <;> (intro hb; have hb' := hb; try simp only [decide_eq_true_eq, decide_eq_false_iff_not, beq_iff_eq, beq_eq_false_iff_ne, bne_iff_ne, bne_eq_false_iff_eq, ne_eq, Bool.not_true, Bool.not_false, Bool.not_eq_true', Bool.not_eq_false', Bool.and_eq_true, Bool.or_eq_true, Bool.or_eq_false_iff] at hb; try simp at hb')))
  all_goals exact ret_ok rfl ⟨by simp [btw, *], rfl⟩
theorem ct_part_IsEntry {x : Ent} {s : AState} : Gives prog F_part_IsEntry [x.av] s (.v (.bool (okEnt x))) s := by
  refine Runs.gives' (runs_e h_part_IsEntry (Nat.le_of_ble_eq_true rfl) ?_) (.v _)
  repeat' (first | refine sa0c1 @ct_part_between ?_ | ((with_reducible first | apply s_split | apply s_gsplit) <;> (intro hb; have hb' := hb; try simp only [decide_eq_true_eq, decide_eq_false_iff_not, beq_iff_eq, beq_eq_false_iff_ne, bne_iff_ne, bne_eq_false_iff_eq, ne_eq, Bool.not_true, Bool.not_false, Bool.not_eq_true', Bool.not_eq_false', Bool.and_eq_true, Bool.or_eq_true, Bool.or_eq_false_iff] at hb; try simp at hb')))
  all_goals refine ret_ok rfl ⟨(Grows.refl _).alloc _, ?_⟩; simp [okEnt, *, AV.le.refl]
theorem ct_part_IsHard {x : Hrd} {s : AState} : Gives prog F_part_IsHard [x.av] s (.v (.bool (okHrd x.ht x.hv x.hc))) s := by
  refine Runs.gives' (runs_e h_part_IsHard (Nat.le_of_ble_eq_true rfl) ?_) (.v _)
  repeat' (first | refine sa0c1 @ct_part_between ?_ | ((with_reducible first | apply s_split | apply s_gsplit) <;> (intro hb; have hb' := hb; try simp only [decide_eq_true_eq, decide_eq_false_iff_not, beq_iff_eq, beq_eq_false_iff_ne, bne_iff_ne, bne_eq_false_iff_eq, ne_eq, Bool.not_true, Bool.not_false, Bool.not_eq_true', Bool.not_eq_false', Bool.and_eq_true, Bool.or_eq_true, Bool.or_eq_false_iff] at hb; try simp at hb')))
  all_goals refine ret_ok rfl ⟨(Grows.refl _).alloc _, ?_⟩; simp [okHrd, *, AV.le.refl]
theorem ct_part_IsHardE {a b c : Int} {s : AState} : Gives prog F_part_IsHard [.agg [.v (.int .i64 a), .v (.int .i64 b), .v (.int .i64 c)]] s (.v (.bool (okHrd a b c))) s := ct_part_IsHard (x := ⟨a, b, c⟩)
theorem ct_part_isMark {ix tm least : Int} {s : AState} : Gives prog F_part_isMark [.v (.int .i64 ix), .v (.int .i64 tm), .v (.int .i64 least)] s (.v (.bool (okMrk ix tm least))) s := by
  refine runs_e h_part_isMark (Nat.le_of_ble_eq_true rfl) ?_
  repeat' (first | refine sa0c1 @ct_part_between ?_ | ((with_reducible first | apply s_split | apply s_gsplit) <;> (intro hb; have hb' := hb; try simp only [decide_eq_true_eq, decide_eq_false_iff_not, beq_iff_eq, beq_eq_false_iff_ne, bne_iff_ne, bne_eq_false_iff_eq, ne_eq, Bool.not_true, Bool.not_false, Bool.not_eq_true', Bool.not_eq_false', Bool.and_eq_true, Bool.or_eq_true, Bool.or_eq_false_iff] at hb; try simp at hb')))
  all_goals exact ret_ok rfl ⟨by simp [okMrk, *], rfl⟩
theorem ct_slices_Equal_Entry {l m : List Ent} {s : AState} (hl : (l.length : Int) < 9223372036854775808) : Gives prog F_slices_Equal_Entry [.sl (l.map Ent.av) .no, .sl (m.map Ent.av) .no] s (.v (.bool (decide (l = m)))) s := by
  refine runs_e h_slices_Equal_Entry (Nat.le_of_ble_eq_true rfl) ?_
  by_cases hlen : l.length = m.length
  · rw [← all_eq hlen]
    have hI : (m.length : Int) = l.length := by omega
    refine st1 hI ?_
    refine loop_ok [0, 1, 12, 13] (fun k a s1 => s1 = s ∧ ∃ i : Nat, i + k = l.length ∧ ((List.range i).all fun i => decide (l.getD i default = m.getD i default)) = true ∧ a = { t := den 26 [(0, .sl (l.map Ent.av) .no), (1, .sl (m.map Ent.av) .no), (12, .v (.int .i64 l.length)), (13, .v (.int .i64 i))], d := [] }) l.length ?_ ?_
    · exact ⟨rfl, 0, by simp, rfl, by simp⟩
    · rintro k a _ ⟨rfl, i, hik, hall, rfl⟩
      by_cases hlt : i < l.length
      · have hlt2 : i < m.length := by omega
        have hw : IntKind.wrap .i64 ((i : Int) + 1) = ((i + 1 : Nat) : Int) := by rw [wrap_i64 (by omega) (by omega)]; omega
        have e1 : l.getD i default = l[i] := by simp [hlt]
        have e2 : m.getD i default = m[i] := by simp [hlt2]
        by_cases he : l[i] = m[i]
        · repeat (first | simp -dsimp -implicitDefEqProofs (disch := first | omega | (simp <;> omega) | fail) [hlt, hlt2, he, hw] | ((with_reducible first | apply m_1 | apply m_0); (focus ((conv => lhs; simp -dsimp -implicitDefEqProofs (disch := first | omega | (simp <;> omega) | fail) [hlt, hlt2, he, hw]); done))) | ((with_reducible first | apply i_T | apply g_T); (focus (simp -dsimp -implicitDefEqProofs (disch := first | omega | (simp <;> omega) | fail) [hlt, hlt2, he, hw]; done))) | ((with_reducible first | apply i_F | apply g_F); (focus (simp -dsimp -implicitDefEqProofs (disch := first | omega | (simp <;> omega) | fail) [hlt, hlt2, he, hw]; done))))
          exact ⟨k - 1, by omega, rfl, i + 1, by omega, all_step hall (by simp only [e1, e2]; simp [he]), by simp⟩
        · repeat (first | simp -dsimp -implicitDefEqProofs (disch := first | omega | (simp <;> omega) | fail) [hlt, hlt2, he] | ((with_reducible first | apply m_1 | apply m_0); (focus ((conv => lhs; simp -dsimp -implicitDefEqProofs (disch := first | omega | (simp <;> omega) | fail) [hlt, hlt2, he]); done))) | ((with_reducible first | apply i_T | apply g_T); (focus (simp -dsimp -implicitDefEqProofs (disch := first | omega | (simp <;> omega) | fail) [hlt, hlt2, he]; done))) | ((with_reducible first | apply i_F | apply g_F); (focus (simp -dsimp -implicitDefEqProofs (disch := first | omega | (simp <;> omega) | fail) [hlt, hlt2, he]; done))))
          refine ret_ok rfl ⟨?_, rfl⟩
          rw [all_stop hlt (by simp only [e1, e2]; simp [he])]; rfl
      · refine st1 hlt ?_
        have : i = l.length := by omega
        subst this
        exact ret_ok rfl ⟨by rw [hall]; rfl, rfl⟩
  · have hI : ¬ (l.length : Int) = m.length := by omega
    refine st1 hI ?_
    refine ret_ok rfl ⟨?_, rfl⟩
    have : ¬ l = m := fun e => hlen (by rw [e])
    simp [this]
theorem ct_part_rising {l : List Ent} {dense : Bool} {s : AState} (hl : (l.length : Int) < 9223372036854775808) :
    Gives prog F_part_rising [.sl (l.map Ent.av) .no, .v (.bool dense)] s (.v (.bool (rising l dense))) s := by
  refine Runs.gives' (runs_e h_part_rising (Nat.le_of_ble_eq_true rfl) ?_) (.v _)
  unfold rising
  refine st0 ?_
  refine loop_ok [0, 1, 7, 8, 9] (fun k a s1 => Grows s s1 ∧ ∃ i : Nat, i + k = l.length ∧ ((List.range i).all (riseAt l dense)) = true ∧ a = { t := den 51 [(0, .sl (l.map Ent.av) .no), (1, .v (.bool dense)), (7, .sl (l.map Ent.av) .no), (8, .v (.int .i64 l.length)), (9, .v (.int .i64 i))], d := [] }) l.length ?_ ?_
  · exact ⟨.refl _, 0, by simp, rfl, by simp⟩
  · rintro k a s1 ⟨hg, i, hik, hall, rfl⟩
    by_cases hlt : i < l.length
    · have hw : IntKind.wrap .i64 ((i : Int) + 1) = ((i + 1 : Nat) : Int) := by rw [wrap_i64 (by omega) (by omega)]; omega
      have e1 : l.getD i default = l[i] := by simp [hlt]
      by_cases h0 : i = 0
      · subst h0
        repeat' (first | refine sa0c1 @ct_part_IsEntry ?_ | ((with_reducible first | apply s_split | apply s_gsplit) <;> (intro hb; have hb' := hb; try simp only [decide_eq_true_eq, decide_eq_false_iff_not, beq_iff_eq, beq_eq_false_iff_ne, bne_iff_ne, bne_eq_false_iff_eq, ne_eq, Bool.not_true, Bool.not_false, Bool.not_eq_true', Bool.not_eq_false', Bool.and_eq_true, Bool.or_eq_true, Bool.or_eq_false_iff] at hb; try simp at hb')))
        all_goals first
          | exact ⟨k - 1, by omega, (by first | exact hg | exact hg.alloc _), 1, by omega, all_step hall (by simp only [riseAt, e1]; simp [*]), by simp⟩
          | (refine ret_ok rfl ⟨(by first | exact hg | exact hg.alloc _), ?_⟩; rw [all_stop hlt (by simp only [riseAt, e1]; simp [*])]; exact AV.le.refl _)
      · obtain ⟨j, hij⟩ : ∃ j, i = j + 1 := ⟨i - 1, by omega⟩
        have hw2 : IntKind.wrap .i64 ((i : Int) - 1) = (j : Int) := by rw [wrap_i64 (by omega) (by omega)]; omega
        have hj : j < l.length := by omega
        have hpos : (0 : Int) < i := by omega
        have hpos' : 0 < i := by omega
        have e2 : l.getD (i - 1) default = l[j] := by simp [hj, hij]
        have hwx : IntKind.wrap .i64 (l[j].ix + 1) = l[j].ix + 1 := by
          have := List.all_eq_true.1 hall j (by simp; omega)
          simp only [riseAt, show l.getD j default = l[j] by simp [hj], Bool.and_eq_true, okEnt, btw, MI, decide_eq_true_eq] at this
          exact wrap_i64 (by omega) (by omega)
        clear hij
        repeat' (first | refine sa0c1 @ct_part_IsEntry ?_ | ((with_reducible first | apply s_split | apply s_gsplit) <;> (intro hb; have hb' := hb; try simp only [decide_eq_true_eq, decide_eq_false_iff_not, beq_iff_eq, beq_eq_false_iff_ne, bne_iff_ne, bne_eq_false_iff_eq, ne_eq, Bool.not_true, Bool.not_false, Bool.not_eq_true', Bool.not_eq_false', Bool.and_eq_true, Bool.or_eq_true, Bool.or_eq_false_iff] at hb; try simp at hb')))
        all_goals first
          | exact ⟨k - 1, by omega, (by first | exact hg | exact hg.alloc _), i + 1, by omega, all_step hall (by simp only [riseAt, e1, e2]; simp [*] <;> omega), by simp⟩
          | (refine ret_ok rfl ⟨(by first | exact hg | exact hg.alloc _), ?_⟩; rw [all_stop hlt (by simp only [riseAt, e1, e2]; simp [*])]; exact AV.le.refl _)
    · refine st1 hlt ?_
      have : i = l.length := by omega
      subst this
      refine ret_ok rfl ⟨hg, ?_⟩
      rw [hall]; simp [AV.le.refl]
theorem ct_part_core {p : Prt} {s : AState} : Gives prog F_part_core [p.av] s (core p).av s := by
  refine Runs.gives' (runs_e h_part_core (Nat.le_of_ble_eq_true rfl) ?_) (core p).row.flat
  repeat' (first | refine se0 ?_ | ((with_reducible first | apply s_split | apply s_gsplit | apply s_dsplit) <;> (intro hb; have hb' := hb; try simp only [decide_eq_true_eq, decide_eq_false_iff_not, beq_iff_eq, beq_eq_false_iff_ne, bne_iff_ne, bne_eq_false_iff_eq, ne_eq, Bool.not_true, Bool.not_false, Bool.not_eq_true', Bool.not_eq_false', Bool.and_eq_true, Bool.or_eq_true, Bool.or_eq_false_iff] at hb; try simp at hb')))
  all_goals
    (first | apply ret_ok | apply end_ok); (focus ((conv => lhs; simp (disch := first | omega | (simp <;> omega) | fail)); done)); simp only [retVal]
    refine ⟨(((Grows.refl _).alloc _).alloc _).alloc _, ?_⟩
    exact (AV.le_strip _).trans (Prt.le_of (by simp [Prt.cells, core, *]))
theorem ct_part_Same {a b : Prt} {s : AState} (hl : (a.es.length : Int) < 9223372036854775808) : Gives prog F_part_Same [a.av, b.av] s (.v (.bool (decide (a = b)))) s := by
  refine Runs.gives' (runs_e h_part_Same (Nat.le_of_ble_eq_true rfl) ?_) (.v _)
  repeat' (first | simp -dsimp -implicitDefEqProofs (disch := first | omega | (simp <;> omega) | fail) [*] | ((with_reducible first | apply m_1 | apply m_0); (focus ((conv => lhs; simp -dsimp -implicitDefEqProofs (disch := first | omega | (simp <;> omega) | fail) [*]); done))) | ((with_reducible apply giv); (case hAR => ((conv => lhs; simp -dsimp -implicitDefEqProofs (disch := first | omega | (simp <;> omega) | fail) [*]); done)); (case hCT => (first | (apply ct_slices_Equal_Entry <;> first | assumption | omega | decide)))) | ((with_reducible first | apply i_T | apply g_T); (focus (simp -dsimp -implicitDefEqProofs (disch := first | omega | (simp <;> omega) | fail) [*]; done))) | ((with_reducible first | apply i_F | apply g_F); (focus (simp -dsimp -implicitDefEqProofs (disch := first | omega | (simp <;> omega) | fail) [*]; done))) | ((with_reducible first | apply s_split | apply s_gsplit) <;> (intro hb; have hb' := hb; try simp only [decide_eq_true_eq, decide_eq_false_iff_not, beq_iff_eq, beq_eq_false_iff_ne, bne_iff_ne, bne_eq_false_iff_eq, ne_eq, Bool.not_true, Bool.not_false, Bool.not_eq_true', Bool.not_eq_false', Bool.and_eq_true, Bool.or_eq_true, Bool.or_eq_false_iff] at hb; try simp at hb')))
  all_goals
    refine ret_ok rfl ⟨((Grows.refl _).alloc _).alloc _, le_bool ?_⟩
    first | (simp [Prt.ext_iff, *]; done) | (rw [Bool.eq_iff_iff]; simp [Prt.ext_iff, *] <;> grind)
end Go.Proofs.Ytmpoeamfcienoaa
end
section
namespace Go.Proofs.Ytmpoeamfcienoaa
open Go.Ab
set_option linter.unusedVariables false
set_option linter.unusedSimpArgs false
set_option maxRecDepth 100000
set_option maxHeartbeats 8000000
def isCore (p : Prt) : Bool := decide (p = core p)
theorem ct_part_SameCore {p : Prt} {s : AState} (hl : (p.es.length : Int) < 9223372036854775808) : Gives prog F_part_Same [p.av, (core p).av] s (.v (.bool (isCore p))) s := ct_part_Same hl
theorem ct_part_Is {p : Prt} {s : AState} (hl : (p.es.length : Int) < 9223372036854775808) : Gives prog F_part_Is [p.av] s (.v (.bool (isPart p))) s := by
  refine Runs.gives' (runs_e h_part_Is (Nat.le_of_ble_eq_true rfl) ?_) (.v _)
  repeat' (first | simp -dsimp -implicitDefEqProofs (disch := first | omega | (simp <;> omega) | fail) [*] | (with_reducible apply m_draw) | ((with_reducible refine ⟨m_op ?_, ?_⟩); (focus (simp -dsimp -implicitDefEqProofs (disch := first | omega | (simp <;> omega) | fail) [*]; done))) | ((with_reducible first | apply m_d1 rfl | apply m_dE | apply m_dE0); (focus ((conv => lhs; simp -dsimp -implicitDefEqProofs (disch := first | omega | (simp <;> omega) | fail) [*]); done))) | ((with_reducible apply givQ); (case hAR => ((conv => lhs; simp -dsimp -implicitDefEqProofs (disch := first | omega | (simp <;> omega) | fail) [*]); done)); (case hCT => intro _ _; (first | (apply ct_part_between <;> first | assumption | omega | decide) | (apply ct_part_core <;> first | assumption | omega | decide) | (apply ct_part_SameCore <;> first | assumption | omega | decide) | (apply ct_part_rising <;> first | assumption | omega | decide) | (apply ct_part_isMark <;> first | assumption | omega | decide) | (apply ct_part_IsHardE <;> first | assumption | omega | decide)))) | ((with_reducible first | apply m_1 | apply m_0); (focus ((conv => lhs; simp -dsimp -implicitDefEqProofs (disch := first | omega | (simp <;> omega) | fail) [*]); done))) | ((with_reducible apply giv); (case hAR => ((conv => lhs; simp -dsimp -implicitDefEqProofs (disch := first | omega | (simp <;> omega) | fail) [*]); done)); (case hCT => (first | (apply ct_part_between <;> first | assumption | omega | decide) | (apply ct_part_core <;> first | assumption | omega | decide) | (apply ct_part_SameCore <;> first | assumption | omega | decide) | (apply ct_part_rising <;> first | assumption | omega | decide) | (apply ct_part_isMark <;> first | assumption | omega | decide) | (apply ct_part_IsHardE <;> first | assumption | omega | decide)))) | ((with_reducible first | apply i_T | apply g_T | apply h_T); (focus (simp -dsimp -implicitDefEqProofs (disch := first | omega | (simp <;> omega) | fail) [*]; done))) | ((with_reducible first | apply i_F | apply g_F | apply h_F); (focus (simp -dsimp -implicitDefEqProofs (disch := first | omega | (simp <;> omega) | fail) [*]; done))) | ((with_reducible first | apply s_split | apply s_gsplit | apply s_dsplit) <;> (intro hb; have hb' := hb; try simp only [decide_eq_true_eq, decide_eq_false_iff_not, beq_iff_eq, beq_eq_false_iff_ne, bne_iff_ne, bne_eq_false_iff_eq, ne_eq, Bool.not_true, Bool.not_false, Bool.not_eq_true', Bool.not_eq_false', Bool.and_eq_true, Bool.or_eq_true, Bool.or_eq_false_iff] at hb; try simp at hb')))
  all_goals
    (first | apply ret_ok | apply end_ok); (focus ((conv => lhs; simp (disch := first | omega | (simp <;> omega) | fail)); done)); simp only [retVal]
    refine ⟨(Grows.refl _).alloc _, le_bool ?_⟩
    rw [isPart]; try rw [← isCore]
    first | (simp [*]; done) | (simp [core, Prt.ext_iff, *]; done) | (simp [core, Prt.ext_iff, *]; grind) | (rw [Bool.eq_iff_iff]; simp [core, Prt.ext_iff, okMrk, *]; done) | (rw [Bool.eq_iff_iff]; simp [core, Prt.ext_iff, okMrk, *]; grind [okHrd, btw]) | (rw [Bool.eq_iff_iff]; simp [core, Prt.ext_iff, *]; intro h1 h2 h3; rw [h1, h2, h3]; decide)
end Go.Proofs.Ytmpoeamfcienoaa
end
section
namespace Go.Proofs.Ytmpoeamfcienoaa
open Go.Ab
set_option linter.unusedVariables false
set_option linter.unusedSimpArgs false
set_option maxRecDepth 100000
set_option maxHeartbeats 4000000
theorem ct_group_Within {g : Grp} {lo hi : Int} {s : AState} : Gives prog F_group_Within [g.av, .v (.int .i64 lo), .v (.int .i64 hi)] s
    (.f (.func F_group_Within_1) [] [.p s.n 0, .p (s.n + 1) 0, .p (s.n + 2) 0]) (((s.alloc (.cells g.cells)).alloc (.cells [.v (.int .i64 lo)])).alloc (.cells [.v (.int .i64 hi)])) := by
  refine runs_e h_group_Within (Nat.le_of_ble_eq_true rfl) ?_
  refine st0 ?_
  exact ret_ok rfl ⟨rfl, rfl⟩
theorem it_group_Within {g : Grp} {lo hi : Int} {b1 b2 b3 : Nat} (hlen : (g.es.length : Int) < 9223372036854775808) :
    Iter prog F_group_Within_1 [] [.p b1 0, .p b2 0, .p b3 0] ((g.es.filter (inR lo hi)).map fun e => [e.av])
      (fun s => s.get b1 = .cells g.cells ∧ s.get b2 = .cells [.v (.int .i64 lo)] ∧ s.get b3 = .cells [.v (.int .i64 hi)]) := by
  intro l s I J hp ha hj hy h0
  obtain ⟨p1, p2, p3⟩ := hp 0 s h0
  refine runs_e h_group_Within_1 (Nat.le_of_ble_eq_true rfl) ?_
  refine st1 p1 ?_
  refine loop_ok [0, 1, 2, 3, 8, 9, 10] (fun m a s1 => ∃ j : Nat, j + m = g.es.length ∧ I ((g.es.take j).filter (inR lo hi)).length s1 ∧ a = { t := den 31 [(0, .y l), (1, .p b1 0), (2, .p b2 0), (3, .p b3 0), (8, .sl (g.es.map Ent.av) .no), (9, .v (.int .i64 g.es.length)), (10, .v (.int .i64 j))], d := [] }) g.es.length ?_ ?_
  · exact ⟨0, by simp, by simpa using h0, by simp⟩
  · rintro m a s1 ⟨j, hjm, hI, rfl⟩
    by_cases hlt : j < g.es.length
    · obtain ⟨e1, e2, e3⟩ := hp _ s1 hI
      have hw : IntKind.wrap .i64 ((j : Int) + 1) = (j : Int) + 1 := wrap_i64 (by omega) (by omega)
      have n2 := AState.lt_of_get e2 (by simp)
      have n3 := AState.lt_of_get e3 (by simp)
      by_cases h1 : lo ≤ g.es[j].ix
      · by_cases h2 : g.es[j].ix < hi
        · have hm : inR lo hi g.es[j] = true := by simp [inR, h1, h2]
          repeat (first | simp -dsimp -implicitDefEqProofs (disch := first | omega | (simp <;> omega) | fail) [hlt, e2, e3, h1, h2] | ((with_reducible first | apply m_1 | apply m_0); (focus ((conv => lhs; simp -dsimp -implicitDefEqProofs (disch := first | omega | (simp <;> omega) | fail) [hlt, e2, e3, h1, h2]); done))) | ((with_reducible first | apply i_T | apply g_T); (focus (simp -dsimp -implicitDefEqProofs (disch := first | omega | (simp <;> omega) | fail) [hlt, e2, e3, h1, h2]; done))) | ((with_reducible first | apply i_F | apply g_F); (focus (simp -dsimp -implicitDefEqProofs (disch := first | omega | (simp <;> omega) | fail) [hlt, e2, e3, h1, h2]; done))))
          obtain ⟨hk, hg⟩ := fget (p := inR lo hi) hlt hm
          have hy' := hy _ (by simpa using hk) _ (ha _ _ (.cells g.es[j].cells) hI)
          simp only [List.getElem_map, hg] at hy'
          refine yr0 (hy') ?_
          rintro _ s2 (⟨rfl, hI2⟩ | ⟨rfl, hJ⟩)
          · refine st0 ?_
            refine ⟨m - 1, by omega, j + 1, by omega, ?_, by simp [hw]⟩
            rw [ftake hlt, if_pos hm]; simpa using hI2
          · refine st0 ?_
            exact ret_ok rfl (.inr hJ)
        · have hm : inR lo hi g.es[j] = false := by simp [inR, h2]
          repeat (first | simp -dsimp -implicitDefEqProofs (disch := first | omega | (simp <;> omega) | fail) [hlt, e2, e3, h1, h2] | ((with_reducible first | apply m_1 | apply m_0); (focus ((conv => lhs; simp -dsimp -implicitDefEqProofs (disch := first | omega | (simp <;> omega) | fail) [hlt, e2, e3, h1, h2]); done))) | ((with_reducible first | apply i_T | apply g_T); (focus (simp -dsimp -implicitDefEqProofs (disch := first | omega | (simp <;> omega) | fail) [hlt, e2, e3, h1, h2]; done))) | ((with_reducible first | apply i_F | apply g_F); (focus (simp -dsimp -implicitDefEqProofs (disch := first | omega | (simp <;> omega) | fail) [hlt, e2, e3, h1, h2]; done))))
          refine ⟨m - 1, by omega, j + 1, by omega, ?_, by simp [hw]⟩
          rw [ftake hlt, if_neg (by simp [hm])]; simpa using ha _ _ (.cells g.es[j].cells) hI
      · have hm : inR lo hi g.es[j] = false := by simp [inR, h1]
        repeat (first | simp -dsimp -implicitDefEqProofs (disch := first | omega | (simp <;> omega) | fail) [hlt, e2, e3, h1] | ((with_reducible first | apply m_1 | apply m_0); (focus ((conv => lhs; simp -dsimp -implicitDefEqProofs (disch := first | omega | (simp <;> omega) | fail) [hlt, e2, e3, h1]); done))) | ((with_reducible first | apply i_T | apply g_T); (focus (simp -dsimp -implicitDefEqProofs (disch := first | omega | (simp <;> omega) | fail) [hlt, e2, e3, h1]; done))) | ((with_reducible first | apply i_F | apply g_F); (focus (simp -dsimp -implicitDefEqProofs (disch := first | omega | (simp <;> omega) | fail) [hlt, e2, e3, h1]; done))))
        refine ⟨m - 1, by omega, j + 1, by omega, ?_, by simp [hw]⟩
        rw [ftake hlt, if_neg (by simp [hm])]; simpa using ha _ _ (.cells g.es[j].cells) hI
    · refine st1 hlt ?_
      have : j = g.es.length := by omega
      subst this
      exact end_ok rfl (.inl (by simpa using hI))
theorem pre_within {g : Grp} {lo hi : Int} {s s' : AState} (h : Grows (((s.alloc (.cells g.cells)).alloc (.cells [.v (.int .i64 lo)])).alloc (.cells [.v (.int .i64 hi)])) s') :
    s'.get s.n = .cells g.cells ∧ s'.get (s.n + 1) = .cells [.v (.int .i64 lo)] ∧ s'.get (s.n + 2) = .cells [.v (.int .i64 hi)] := by
  refine ⟨(h.get (by simp only [AState.n_alloc]; omega)).trans ?_, (h.get (by simp only [AState.n_alloc]; omega)).trans ?_, (h.get (by simp only [AState.n_alloc]; omega)).trans ?_⟩
  all_goals simp (disch := first | omega | (simp <;> omega) | fail)
theorem rn_sparse_from {l : List Ent} {lo hi : Int} {s : AState} (hlen : (l.length : Int) * 32 ≤ 140737488355328) :
    Runs (compCode prog) prog F_sparse_from [.sl (l.map Ent.av) .no, .v (.int .i64 lo), .v (.int .i64 hi)] s (fun x s' => ∃ tk, x = .sl ((l.filter (inR lo hi)).map Ent.av) tk ∧ May s.n s' ((l.filter (inR lo hi)).map Ent.av) tk ∧ Grows s s') := by
  refine runs_e h_sparse_from (Nat.le_of_ble_eq_true rfl) ?_
  refine st0 ?_
  refine gv (ct_group_Within (g := ⟨0, 0, 0, 0, 0, 0, l⟩) (lo := lo) (hi := hi)) ?_
  have hfl := List.length_filter_le (inR lo hi) l
  refine rn0 (rn_slices_Collect_Entry (it_group_Within (g := ⟨0, 0, 0, 0, 0, 0, l⟩) (lo := lo) (hi := hi) (b1 := s.n) (b2 := s.n + 1) (b3 := s.n + 2) (by show (l.length : Int) < _; omega)) (fun s' h => pre_within h) (by show (l.filter (inR lo hi)).length * 32 ≤ _; omega)) ?_
  rintro _ s' ⟨tk, rfl, h1, h2⟩
  refine st0 ?_
  refine ret_ok rfl ⟨tk, rfl, ?_, ?_⟩
  · exact h1.low (by simp <;> omega)
  · exact ((((Grows.refl s).alloc _).alloc _).alloc _).trans h2
theorem ct_sparse_term {g : Grp} {i : Int} {s : AState} (hlen : (g.es.length : Int) < 9223372036854775808) (hi : -9223372036854775808 ≤ i ∧ i < 9223372036854775807) : Gives prog F_sparse_term [g.av, .v (.int .i64 i)] s (.v (.int .i64 (termOf g.es i))) s := by
  refine Runs.gives' (runs_e h_sparse_term (Nat.le_of_ble_eq_true rfl) ?_) (.v _)
  have hw : IntKind.wrap .i64 (i + 1) = i + 1 := wrap_i64 (by omega) (by omega)
  refine st1 hw ?_
  refine gv (ct_group_Within (g := g) (lo := i) (hi := i + 1)) ?_
  refine st0 ?_
  have hfe : termOf g.es i = match g.es.filter (inR i (i + 1)) with | [] => 0 | e :: _ => e.tm := rfl
  have hit := it_group_Within (g := g) (lo := i) (hi := i + 1) (b1 := s.n + 2) (b2 := s.n + 3) (b3 := s.n + 4) hlen
  generalize hfp : g.es.filter (inR i (i + 1)) = fp at hit hfe
  refine w_rangeG (α := Unit) (β := Unit) (m := fp.length) (xs := fp.map fun p => [p.av]) (by simp) hit (by intro x hx; obtain ⟨p, _, rfl⟩ := List.mem_map.1 hx; rfl) (by simp)
    (fun kk _ => ((((s.alloc (.cells g.cells)).alloc (.cells [.v (.int .i64 0)])).alloc (.cells g.cells)).alloc (.cells [.v (.int .i64 i)])).alloc (.cells [.v (.int .i64 (i + 1))]))
    (fun kk _ s' => kk = 0) (fun j _ => ((((s.alloc (.cells g.cells)).alloc (.cells [.v (.int .i64 (termOf g.es i))])).alloc (.cells g.cells)).alloc (.cells [.v (.int .i64 i)])).alloc (.cells [.v (.int .i64 (i + 1))])) (fun j _ _ => j = .ret) () (by simp) (fun s' h => rfl) ?_ (fun _ _ _ o h => h) (fun _ _ _ _ h => h) ?_ ?_ ?_
  · intro kk a s' _ h1 hg
    refine ⟨(hg.get (by simp)).trans ?_, (hg.get (by simp)).trans ?_, (hg.get (by simp)).trans ?_⟩ <;> simp
  · rintro LR LB LJ _ kk hkk _ g2 h1 rfl
    have hkk' : 0 < fp.length := by simpa using hkk
    refine st1 hkk' ?_
    refine ⟨(), by simp, ?_, rfl⟩
    have ht : termOf g.es i = fp[0].tm := by rw [hfe]; cases fp <;> simp_all
    rw [ht]
    simp only [if_true]
    exact ⟨_, allocs_snoc _ _ _⟩
  · rintro LR _ g2 h1 h0
    have hfn : fp = [] := List.length_eq_zero_iff.1 h0
    rw [hfe, hfn]
    refine st0 ?_
    refine ret_okD (by simp) (by simp) (by simp; rfl) ⟨?_, .refl _⟩
    simp only [killAll, List.foldl]
    simp
    exact ((((((Grows.refl s).alloc _).alloc _).alloc _).alloc _).alloc _).alloc _ |>.alloc _ |>.allocs _
  · rintro LJ _ _ g2 h1 rfl
    simp only [AJump.exitOf]
    refine st0 ?_
    refine ret_okD (by simp) (by simp) (by simp; rfl) ⟨?_, .refl _⟩
    simp only [killAll, List.foldl]
    simp
    exact ((((((Grows.refl s).alloc _).alloc _).alloc _).alloc _).alloc _).alloc _ |>.alloc _ |>.allocs _
end Go.Proofs.Ytmpoeamfcienoaa
end
section
namespace Go.Proofs.Ytmpoeamfcienoaa
open Go.Ab
set_option linter.unusedVariables false
set_option linter.unusedSimpArgs false
set_option maxRecDepth 100000
set_option maxHeartbeats 4000000
def idxS {α : Type} (p : α → Bool) (l : List α) : Int := match l.findIdx? p with | some i => (i : Int) | none => -1
theorem idxS_none {α : Type} {p : α → Bool} {l : List α} (h : ∀ x ∈ l, p x = false) : idxS p l = -1 := by
  unfold idxS
  rw [List.findIdx?_eq_none_iff.2 h]
theorem idxS_some {α : Type} {p : α → Bool} {l : List α} {i : Nat} (hi : i < l.length) (h : ∀ j (hj : j < i), p l[j] = false) (hp : p l[i] = true) : idxS p l = i := by
  unfold idxS
  rw [List.findIdx?_eq_some_iff_getElem.2 ⟨hi, hp, fun j hj => by simp [h j hj]⟩]
theorem idxS_any {α : Type} (p : α → Bool) (l : List α) : decide (0 ≤ idxS p l) = l.any p := by
  unfold idxS
  cases h : l.findIdx? p with
  | none =>
    have h1 := List.findIdx?_eq_none_iff.1 h
    have : l.any p = false := by rw [List.any_eq_false]; intro x hx; simp [h1 x hx]
    rw [this]; decide
  | some i =>
    obtain ⟨hi, hp, _⟩ := List.findIdx?_eq_some_iff_getElem.1 h
    have : l.any p = true := List.any_eq_true.2 ⟨_, List.getElem_mem hi, hp⟩
    rw [this]; simp
theorem ct_slices_IndexFunc_Entry {g : FuncId} {fs caps : List AV} {l : List Ent} {p : Ent → Bool} {s : AState} (hlen : (l.length : Int) < 9223372036854775808) (hg : ∀ e ∈ l, Gives prog g (fs ++ [e.av] ++ caps) s (.v (.bool (p e))) s)
    (hs1 : fs.map AV.strip = fs := by rfl) (hs2 : caps.map AV.strip = caps := by rfl) :
    Gives prog F_slices_IndexFunc_Entry [.sl (l.map Ent.av) .no, .f (.func g) fs caps] s (.v (.int .i64 (idxS p l))) s := by
  refine runs_e h_slices_IndexFunc_Entry (Nat.le_of_ble_eq_true rfl) ?_
  refine st0 ?_
  refine loop_ok [0, 1, 7, 8] (fun k a s1 => s = s1 ∧ ∃ i : Nat, i + k = l.length ∧ (∀ j (hj : j < i) (hj' : j < l.length), p l[j] = false) ∧ a = { t := den 19 [(0, .sl (l.map Ent.av) .no), (1, .f (.func g) fs caps), (7, .v (.int .i64 l.length)), (8, .v (.int .i64 i))], d := [] }) l.length ?_ ?_
  · exact ⟨rfl, 0, by simp, fun j hj => by omega, by simp⟩
  rintro k a _ ⟨rfl, i, hik, hno, rfl⟩
  by_cases hlt : i < l.length
  · have hw : IntKind.wrap .i64 ((i : Int) + 1) = (i : Int) + 1 := wrap_i64 (by omega) (by omega)
    repeat (first | simp -dsimp -implicitDefEqProofs (disch := first | omega | (simp <;> omega) | fail) [hlt] | ((with_reducible first | apply m_1 | apply m_0); (focus ((conv => lhs; simp -dsimp -implicitDefEqProofs (disch := first | omega | (simp <;> omega) | fail) [hlt]); done))) | ((with_reducible first | apply i_T | apply g_T); (focus (simp -dsimp -implicitDefEqProofs (disch := first | omega | (simp <;> omega) | fail) [hlt]; done))) | ((with_reducible first | apply i_F | apply g_F); (focus (simp -dsimp -implicitDefEqProofs (disch := first | omega | (simp <;> omega) | fail) [hlt]; done))))
    refine giv (hg l[i] (List.getElem_mem hlt)) ?_ ?_
    · simp [hs1, hs2]
    cases hp : p l[i] with
    | true =>
      refine st0 ?_
      exact ret_ok rfl ⟨by rw [idxS_some hlt (fun j hj => hno j hj (by omega)) hp]; rfl, rfl⟩
    | false =>
      refine st0 ?_
      refine ⟨k - 1, by omega, rfl, i + 1, by omega, fun j hj hj' => ?_, by simp [hw]⟩
      by_cases e : j = i
      · subst e; exact hp
      · exact hno j (by omega) hj'
  · refine st1 hlt ?_
    exact ret_ok rfl ⟨by rw [idxS_none (fun x hx => by obtain ⟨j, hj, rfl⟩ := List.getElem_of_mem hx; exact hno j (by omega) hj)]; rfl, rfl⟩
theorem ct_slices_ContainsFunc_Entry {g : FuncId} {fs caps : List AV} {l : List Ent} {p : Ent → Bool} {s : AState} (hlen : (l.length : Int) < 9223372036854775808) (hg : ∀ e ∈ l, Gives prog g (fs ++ [e.av] ++ caps) s (.v (.bool (p e))) s) (hs1 : fs.map AV.strip = fs := by rfl) (hs2 : caps.map AV.strip = caps := by rfl) :
    Gives prog F_slices_ContainsFunc_Entry [.sl (l.map Ent.av) .no, .f (.func g) fs caps] s (.v (.bool (l.any p))) s := by
  refine runs_e h_slices_ContainsFunc_Entry (Nat.le_of_ble_eq_true rfl) ?_
  refine st0 ?_
  refine gv (ct_slices_IndexFunc_Entry (l := l) (g := g) (fs := fs) (caps := caps) (p := p) hlen hg hs1 hs2) ?_
  have h := idxS_any p l
  by_cases h0 : 0 ≤ idxS p l
  · rw [decide_eq_true h0] at h
    refine st1 h0 ?_
    exact ret_ok rfl ⟨by rw [← h]; rfl, rfl⟩
  · rw [decide_eq_false h0] at h
    refine st1 h0 ?_
    exact ret_ok rfl ⟨by rw [← h]; rfl, rfl⟩
theorem ct_sparse_there_1 {e : Ent} {i : Int} {b : Nat} {s : AState} (hb : s.get b = .cells [.v (.int .i64 i)]) : Gives prog F_sparse_there_1 [e.av, .p b 0] s (.v (.bool (decide (e.ix = i)))) s := by
  refine Runs.gives' (runs_e h_sparse_there_1 (Nat.le_of_ble_eq_true rfl) ?_) (.v _)
  have hbn := AState.lt_of_get hb (by simp)
  refine st1 hb ?_
  refine ret_ok rfl ⟨(Grows.refl _).alloc _, ?_⟩
  rw [show decide (e.ix = i) = (e.ix == i) by by_cases h : e.ix = i <;> simp [h]]
  exact .refl _
theorem ct_sparse_there {g : Grp} {i : Int} {s : AState} (hlen : (g.es.length : Int) < 9223372036854775808) : Gives prog F_sparse_there [g.av, .v (.int .i64 i)] s (.v (.bool (hasIx g.es i))) s := by
  refine Runs.gives' (runs_e h_sparse_there (Nat.le_of_ble_eq_true rfl) ?_) (.v _)
  refine st0 ?_
  refine gv (ct_slices_ContainsFunc_Entry (l := g.es) (g := F_sparse_there_1) (fs := []) (caps := [.p (s.n + 1) 0]) (p := fun e => decide (e.ix = i)) hlen (fun e _ => ct_sparse_there_1 (b := s.n + 1) (by simp))) ?_
  refine st0 ?_
  exact ret_ok rfl ⟨((Grows.refl _).alloc _).alloc _, .refl _⟩
theorem ct_slices_Index_Entry {l : List Ent} {x : Ent} {s : AState} (hlen : (l.length : Int) < 9223372036854775808) : Gives prog F_slices_Index_Entry [.sl (l.map Ent.av) .no, x.av] s (.v (.int .i64 (idxS (fun e => decide (x = e)) l))) s := by
  refine Runs.gives' (runs_e h_slices_Index_Entry (Nat.le_of_ble_eq_true rfl) ?_) (.v _)
  refine st0 ?_
  refine loop_ok [0, 3, 7, 8] (fun k a s1 => s.alloc (.cells x.cells) = s1 ∧ ∃ i : Nat, i + k = l.length ∧ (∀ j (hj : j < i) (hj' : j < l.length), ¬ x = l[j]) ∧ a = { t := den 19 [(0, .sl (l.map Ent.av) .no), (3, .p s.n 0), (7, .v (.int .i64 l.length)), (8, .v (.int .i64 i))], d := [] }) l.length ?_ ?_
  · exact ⟨rfl, 0, by simp, fun j hj => by omega, by simp⟩
  rintro k a _ ⟨rfl, i, hik, hno, rfl⟩
  by_cases hlt : i < l.length
  · have hw : IntKind.wrap .i64 ((i : Int) + 1) = (i : Int) + 1 := wrap_i64 (by omega) (by omega)
    by_cases hp : x = l[i]
    · have e1 : (decide (x = l[i])) = true := by simp [hp]
      repeat (first | simp -dsimp -implicitDefEqProofs (disch := first | omega | (simp <;> omega) | fail) [hlt, hp] | ((with_reducible first | apply m_1 | apply m_0); (focus ((conv => lhs; simp -dsimp -implicitDefEqProofs (disch := first | omega | (simp <;> omega) | fail) [hlt, hp]); done))) | ((with_reducible first | apply i_T | apply g_T); (focus (simp -dsimp -implicitDefEqProofs (disch := first | omega | (simp <;> omega) | fail) [hlt, hp]; done))) | ((with_reducible first | apply i_F | apply g_F); (focus (simp -dsimp -implicitDefEqProofs (disch := first | omega | (simp <;> omega) | fail) [hlt, hp]; done))))
      refine ret_ok rfl ⟨(Grows.refl _).alloc _, ?_⟩
      rw [idxS_some (p := fun e => decide (x = e)) hlt (fun j hj => by simpa using hno j hj (by omega)) (by simpa using hp)]
      exact .refl _
    · repeat (first | simp -dsimp -implicitDefEqProofs (disch := first | omega | (simp <;> omega) | fail) [hlt, hp] | ((with_reducible first | apply m_1 | apply m_0); (focus ((conv => lhs; simp -dsimp -implicitDefEqProofs (disch := first | omega | (simp <;> omega) | fail) [hlt, hp]); done))) | ((with_reducible first | apply i_T | apply g_T); (focus (simp -dsimp -implicitDefEqProofs (disch := first | omega | (simp <;> omega) | fail) [hlt, hp]; done))) | ((with_reducible first | apply i_F | apply g_F); (focus (simp -dsimp -implicitDefEqProofs (disch := first | omega | (simp <;> omega) | fail) [hlt, hp]; done))))
      refine ⟨k - 1, by omega, rfl, i + 1, by omega, fun j hj hj' => ?_, by simp [hw]⟩
      by_cases e : j = i
      · subst e; exact hp
      · exact hno j (by omega) hj'
  · refine st1 hlt ?_
    refine ret_ok rfl ⟨(Grows.refl _).alloc _, ?_⟩
    rw [idxS_none (fun e he => by obtain ⟨j, hj, rfl⟩ := List.getElem_of_mem he; simpa using hno j (by omega) hj)]
    exact .refl _
theorem ct_slices_Contains_Entry {l : List Ent} {x : Ent} {s : AState} (hlen : (l.length : Int) < 9223372036854775808) : Gives prog F_slices_Contains_Entry [.sl (l.map Ent.av) .no, x.av] s (.v (.bool (l.any fun e => decide (x = e)))) s := by
  refine Runs.gives' (runs_e h_slices_Contains_Entry (Nat.le_of_ble_eq_true rfl) ?_) (.v _)
  refine st0 ?_
  refine gv (ct_slices_Index_Entry (l := l) (x := x) hlen) ?_
  rw [← idxS_any]
  by_cases h0 : 0 ≤ idxS (fun e => decide (x = e)) l
  · refine st1 h0 ?_
    exact ret_ok rfl ⟨(Grows.refl _).alloc _, by rw [decide_eq_true h0]; exact .refl _⟩
  · refine st1 h0 ?_
    exact ret_ok rfl ⟨(Grows.refl _).alloc _, by rw [decide_eq_false h0]; exact .refl _⟩
end Go.Proofs.Ytmpoeamfcienoaa
end
section
namespace Go.Proofs.Ytmpoeamfcienoaa
open Go.Ab
set_option linter.unusedVariables false
set_option linter.unusedSimpArgs false
set_option maxRecDepth 100000
set_option maxHeartbeats 4000000
theorem ct_group_Head {g : Grp} {s : AState} : Gives prog F_group_Head [g.av] s (.v (.bool (okHead g))) s := by
  refine Runs.gives' (runs_e h_group_Head (Nat.le_of_ble_eq_true rfl) ?_) (.v _)
  repeat' (first | refine sa0c1 @ct_part_IsHardE ?_ | ((with_reducible first | apply s_split | apply s_gsplit) <;> (intro hb; have hb' := hb; try simp only [decide_eq_true_eq, decide_eq_false_iff_not, beq_iff_eq, beq_eq_false_iff_ne, bne_iff_ne, bne_eq_false_iff_eq, ne_eq, Bool.not_true, Bool.not_false, Bool.not_eq_true', Bool.not_eq_false', Bool.and_eq_true, Bool.or_eq_true, Bool.or_eq_false_iff] at hb; try simp at hb')))
  all_goals refine ret_ok rfl ⟨(Grows.refl _).alloc _, ?_⟩; simp [okHead, btw, MI, *, AV.le.refl]
theorem ct_sparse_Is {g : Grp} {s : AState} (h : Spar g) : Gives prog F_sparse_Is [g.av] s (.v (.bool true)) s := by
  have hlen := h.len
  have hMI := MI_eq
  have h0 := okHead_iff.1 h.hd
  refine Runs.gives' (runs_e h_sparse_Is (Nat.le_of_ble_eq_true rfl) ?_) (.v _)
  have hw : IntKind.wrap .i64 (g.fi - 1) = g.fi - 1 := wrap_i64 (by omega) (by omega)
  refine st1 hw ?_
  refine gv (ct_slices_Values_Entry (xs := g.es.map Ent.av)) ?_
  refine st0 ?_
  have hit := it_slices_Values_Entry g.es (s.n + 3) (by omega)
  refine w_rangeG (α := Unit) (β := Unit) (m := g.es.length) (by simp) hit (by intro x hx; obtain ⟨p, _, rfl⟩ := List.mem_map.1 hx; rfl) (by simp)
    (fun kk _ => (((s.alloc (.cells g.cells)).alloc (.cells [.v (.bool false)])).alloc (.cells [.v (.int .i64 (if kk = 0 then g.fi - 1 else (g.es.getD (kk - 1) default).ix))])).alloc (.cells [.sl (g.es.map Ent.av) .no]))
    (fun kk _ s' => True) (fun j _ => s) (fun j _ _ => False) () (by simp) (fun s' h => trivial) ?_ (fun _ _ _ o h => h) (fun _ _ _ _ h => h) ?_ ?_ (fun _ _ _ _ _ h => h.elim)
  · intro kk a s' _ h1 hg
    refine (hg.get (by simp)).trans ?_
    simp
  · rintro LR LB LJ _ kk hkk _ g2 h1 _
    have hkk' : kk < g.es.length := by simpa using hkk
    have hok := h.ok _ (List.getElem_mem hkk')
    have hlow : ¬ (g.es[kk].ix ≤ (if kk = 0 then g.fi - 1 else (g.es.getD (kk - 1) default).ix)) := by
      split
      · have := h.fi _ (List.getElem_mem hkk'); omega
      · have := List.pairwise_iff_getElem.1 h.srt (kk - 1) kk (by omega) hkk' (by omega)
        simp [show kk - 1 < g.es.length by omega]
        omega
    generalize (if kk = 0 then g.fi - 1 else (g.es.getD (kk - 1) default).ix) = last at hlow
    refine st3c1 @ct_part_IsEntry hkk' hok hlow ?_
    refine ⟨(), by simp, ?_, trivial⟩
    have e : (if kk + 1 = 0 then g.fi - 1 else (g.es.getD (kk + 1 - 1) default).ix) = g.es[kk].ix := by simp [hkk']
    simp only [e, if_true]
    exact ⟨_, allocs_snoc _ _ _⟩
  · rintro LR _ g2 h1 _
    have hhd := h.hd
    refine st1c1 @ct_group_Head hhd ?_
    refine ret_okD (by simp) (by simp) (by simp; rfl) ⟨?_, .refl _⟩
    simp only [killAll, List.foldl]
    simp
    exact (((((Grows.refl s).alloc _).alloc _).alloc _).alloc _).alloc _ |>.alloc _ |>.allocs _
theorem ct_sparse_gone {g : Grp} {i t : Int} {s : AState} (h : Spar g) (hi : 0 ≤ i ∧ i ≤ MI) : Gives prog F_sparse_gone [g.av, .v (.int .i64 i), .v (.int .i64 t)] s (goneS g i t).av s := by
  have hlen := h.len
  have hMI := MI_eq
  have h0 := okHead_iff.1 h.hd
  refine Runs.gives' (runs_e h_sparse_gone (Nat.le_of_ble_eq_true rfl) ?_) (Grp.row _).flat
  have hw : IntKind.wrap .i64 (i + 1) = i + 1 := wrap_i64 (by omega) (by omega)
  by_cases hlt : i < g.fi
  · refine st1 hlt ?_
    refine ret_ok (by simp; rfl) ⟨((Grows.refl _).alloc _).alloc _, ?_⟩
    unfold goneS
    rw [if_pos hlt]
    exact .refl _
  · by_cases ht : t = 0
    · subst ht
      refine st1 hlt ?_
      refine gv (ct_sparse_term (g := g) (i := i) (by omega) (by omega)) ?_
      refine st1 hw ?_
      refine rn0 (rn_sparse_from (l := g.es) (lo := i + 1) (hi := 1099511627777) (by omega)) ?_
      rintro _ _ ⟨tk, rfl, hm, ⟨gg, rfl⟩⟩
      refine st1 hw ?_
      refine ret_ok (by simp; rfl) ⟨?_, ?_⟩
      · exact (((Grows.refl s).alloc _).alloc _).allocs _
      · have := AV.le_strip (retVal [AV.agg [AV.v (.int .i64 g.id), .v (.int .i64 (i + 1)), .v (.int .i64 (termOf g.es i)), .v (.int .i64 g.ht), .v (.int .i64 g.hv), .v (.int .i64 g.hc), .sl ((g.es.filter (inR (i + 1) 1099511627777)).map Ent.av) tk]])
        simpa [goneS, hlt, Grp.av, Grp.cells, MI, retVal] using this
    · refine st3 hlt ht hw ?_
      refine rn0 (rn_sparse_from (l := g.es) (lo := i + 1) (hi := 1099511627777) (by omega)) ?_
      rintro _ _ ⟨tk, rfl, hm, ⟨gg, rfl⟩⟩
      refine st1 hw ?_
      refine ret_ok (by simp; rfl) ⟨?_, ?_⟩
      · exact (((Grows.refl s).alloc _).alloc _).allocs _
      · have := AV.le_strip (retVal [AV.agg [AV.v (.int .i64 g.id), .v (.int .i64 (i + 1)), .v (.int .i64 t), .v (.int .i64 g.ht), .v (.int .i64 g.hv), .v (.int .i64 g.hc), .sl ((g.es.filter (inR (i + 1) 1099511627777)).map Ent.av) tk]])
        simpa [goneS, hlt, ht, Grp.av, Grp.cells, MI, retVal] using this
end Go.Proofs.Ytmpoeamfcienoaa
end
section
namespace Go.Proofs.Ytmpoeamfcienoaa
open Go.Ab
set_option linter.unusedVariables false
set_option linter.unusedSimpArgs false
set_option maxRecDepth 100000
set_option maxHeartbeats 4000000
theorem rn_sparse_fromT {l : List Ent} {lo hi : Int} {tk0 : Tok} {s : AState} (hlen : (l.length : Int) * 32 ≤ 140737488355328) :
    Runs (compCode prog) prog F_sparse_from [.sl (l.map Ent.av) tk0, .v (.int .i64 lo), .v (.int .i64 hi)] s (fun x s' => ∃ tk, x = .sl ((l.filter (inR lo hi)).map Ent.av) tk ∧ May s.n s' ((l.filter (inR lo hi)).map Ent.av) tk ∧ Grows s s') :=
  Runs.strip (by simpa using rn_sparse_from hlen)
def grpT (g : Grp) (tk : Tok) : List AV := [.v (.int .i64 g.id), .v (.int .i64 g.fi), .v (.int .i64 g.tm), .v (.int .i64 g.ht), .v (.int .i64 g.hv), .v (.int .i64 g.hc), .sl (g.es.map Ent.av) tk]
def fwd0 (g : Grp) (p : Prt) : Grp :=
  let g1 := if p.mr then goneS g p.ix p.tm else g
  if p.he then { g1 with ht := p.ht, hv := p.hv, hc := p.hc } else g1
theorem fwdS_eq (g : Grp) (p : Prt) : fwdS g p = p.es.foldl putS (fwd0 g p) := rfl
theorem puts_snoc {g : Grp} {l : List Ent} {k : Nat} (h : k < l.length) : (l.take (k + 1)).foldl putS g = putS ((l.take k).foldl putS g) l[k] := by
  rw [List.take_succ_eq_append_getElem h, List.foldl_append]; rfl
structure FwdOk (g : Grp) (p : Prt) : Prop where
  sp : Spar (fwd0 g p)
  es : ∀ e ∈ p.es, okEnt e = true
  ln : (p.es.length : Int) ≤ 6
  ix : p.mr = true → 0 ≤ p.ix ∧ p.ix ≤ MI
theorem ct_sparse_forwardTT {g : Grp} {p : Prt} {s : AState} (h : Spar g) (hf : FwdOk g p) (hm : p.mr = true) (hh : p.he = true) : Gives prog F_sparse_forward [g.av, p.av] s (fwdS g p).av s := by
  have hMI := MI_eq
  refine Runs.gives' (runs_e h_sparse_forward (Nat.le_of_ble_eq_true rfl) ?_) (Grp.row _).flat
  have hsp := hf.sp
  have hes := hf.es
  have hln := hf.ln
  refine st2 hm hh ?_
  refine gv (ct_sparse_gone (g := g) (i := p.ix) (t := p.tm) h (hf.ix hm)) ?_
  refine st2 hm hh ?_
  refine gv (ct_slices_Values_Entry (xs := p.es.map Ent.av)) ?_
  refine st0 ?_
  have hit := it_slices_Values_Entry p.es (s.n + 3) (by omega)
  refine w_rangeG (α := Tok) (β := Unit) (m := p.es.length) (by simp) hit (by intro x hx; obtain ⟨p, _, rfl⟩ := List.mem_map.1 hx; rfl) (by simp)
    (fun kk tk => (((s.alloc (.cells (grpT ((p.es.take kk).foldl putS (fwd0 g p)) tk))).alloc (.cells p.cells)).alloc (.cells [.v (.int .i64 0), .v (.int .i64 0), .v (.int .i64 0), .v (.int .i64 0), .v (.int .i64 0), .v (.int .i64 0), .sl [] .zero])).alloc (.cells [.sl (p.es.map Ent.av) .no]))
    (fun kk _ s' => True) (fun j _ => s) (fun j _ _ => False) .no (by simp [grpT, fwd0, hm, hh, Grp.cells]) (fun s' h => trivial) ?_ (fun _ _ _ o h => h) (fun _ _ _ _ h => h) ?_ ?_ (fun _ _ _ _ _ h => h.elim)
  · intro kk a s' _ h1 hg
    refine (hg.get (by simp)).trans ?_
    simp
  · rintro LR LB LJ _ kk hkk tk g2 h1 _
    have hkk' : kk < p.es.length := by simpa using hkk
    have hok := okEnt_iff.1 (hes _ (List.getElem_mem hkk'))
    have hG : Spar ((p.es.take kk).foldl putS (fwd0 g p)) := hsp.puts (fun e he => hes e (List.mem_of_mem_take he))
    have hsn := puts_snoc (g := fwd0 g p) hkk'
    generalize (p.es.take kk).foldl putS (fwd0 g p) = G at hG hsn
    rw [hsn]
    have hGl := hG.len
    unfold grpT
    by_cases h2 : p.es[kk].ix < G.fi
    · refine st2 hkk' h2 ?_
      have e : putS G p.es[kk] = G := by unfold putS; rw [if_pos (.inl h2)]
      rw [e]
      exact ⟨tk, by simp, by simp only [if_true]; exact ⟨_, allocs_snoc _ _ _⟩, trivial⟩
    · refine st2 hkk' h2 ?_
      refine gv (ct_sparse_there (g := G) (i := p.es[kk].ix) (by omega)) ?_
      cases ht : hasIx G.es p.es[kk].ix with
      | true =>
        refine st1 ht ?_
        have e : putS G p.es[kk] = G := by unfold putS; rw [if_pos (.inr ht)]
        rw [e]
        exact ⟨tk, by simp, by simp only [if_true]; exact ⟨_, allocs_snoc _ _ _⟩, trivial⟩
      | false =>
        refine sd1 ht ?_
        refine run (rn_sparse_fromT (l := G.es) (lo := G.fi) (hi := p.es[kk].ix) (tk0 := tk) (by omega)) (by first | (simp; done) | rfl) ?_
        rintro _ s1 ⟨tk1, rfl, hm1, hg1⟩
        refine ⟨.of_ext hg1.ext, ?_⟩
        refine run (rn_sparse_fromT (l := G.es) (lo := p.es[kk].ix) (hi := 1099511627777) (tk0 := tk) (by omega)) (by first | (simp; done) | rfl) ?_
        rintro _ s2 ⟨tk2, rfl, hm2, hg2⟩
        refine ⟨.of_ext hg2.ext, ?_⟩
        have hm1' := hm1.grows hg2
        obtain ⟨g3, rfl⟩ := hg1.trans hg2
        clear hm1 hm2 hg1 hg2
        have hfl := List.length_filter_le (inR G.fi p.es[kk].ix) G.es
        have hfl2 := List.length_filter_le (inR p.es[kk].ix 1099511627777) G.es
        refine sd0 ?_
        refine o_appA (B := _) (N := _) (by first | (simp; done) | (simp; rfl)) (by simp; exact ⟨rfl, rfl⟩) ⟨g3, rfl⟩ (Nat.le_refl _) (by simp) hm1' (by simp) (by simp) (by simp; omega) (by simp; omega) ?_
        rintro s3 tk3 hg3 hm3 _ _
        refine st0 ?_
        refine o_appA (B := _) (N := _) (by first | (simp; done) | (simp; rfl)) (by first | (simp; done) | (simp; exact ⟨rfl, rfl⟩)) hg3 (Nat.le_refl _) hg3.n hm3 (by have := head_map (f := Ent.av) Ent.row (G.es.filter (inR G.fi p.es[kk].ix) ++ [p.es[kk]]); simpa using this) (by simp) (by simp; omega) (by simp; omega) ?_
        rintro s4 tk4 ⟨g4, rfl⟩ hm4 _ _
        refine st0 ?_
        have e : putS G p.es[kk] = { G with es := G.es.filter (inR G.fi p.es[kk].ix) ++ p.es[kk] :: G.es.filter (inR p.es[kk].ix (MI + 1)) } := by
          unfold putS; rw [if_neg]; intro h; rcases h with h | h
          · exact h2 h
          · rw [ht] at h; cases h
        rw [e]
        refine ⟨tk4, by simp, ?_, trivial⟩
        have hM1 : MI + 1 = 1099511627777 := by omega
        simp only [if_true, hM1, List.map_append, List.map_cons]
        have hgr := ((Grows.refl (((((s.alloc (.cells (grpT { G with es := G.es.filter (inR G.fi p.es[kk].ix) ++ p.es[kk] :: G.es.filter (inR p.es[kk].ix 1099511627777) } tk4))).alloc (.cells p.cells)).alloc (.cells [.v (.int .i64 0), .v (.int .i64 0), .v (.int .i64 0), .v (.int .i64 0), .v (.int .i64 0), .v (.int .i64 0), .sl [] .zero])).alloc (.cells [.sl (p.es.map Ent.av) .no])).alloc .defd |>.alloc LR)).allocs g2).alloc (.cells p.es[kk].cells) |>.allocs g4
        simpa [grpT, List.append_assoc] using hgr
  · rintro LR tk g2 h1 _
    unfold grpT
    refine st0 ?_
    refine ret_okD (by simp) (by simp) (by simp; rfl) ⟨?_, ?_⟩
    · simp only [killAll, List.foldl]
      simp
      exact (((((Grows.refl s).alloc _).alloc _).alloc _).alloc _).alloc _ |>.alloc _ |>.allocs _
    · rw [fwdS_eq]
      exact (AV.le_strip _).trans (by simp [Grp.av, Grp.cells, retVal]; exact .refl _)
theorem ct_sparse_forwardTF {g : Grp} {p : Prt} {s : AState} (h : Spar g) (hf : FwdOk g p) (hm : p.mr = true) (hh : p.he = false) : Gives prog F_sparse_forward [g.av, p.av] s (fwdS g p).av s := by
  have hMI := MI_eq
  refine Runs.gives' (runs_e h_sparse_forward (Nat.le_of_ble_eq_true rfl) ?_) (Grp.row _).flat
  have hsp := hf.sp
  have hes := hf.es
  have hln := hf.ln
  refine st2 hm hh ?_
  refine gv (ct_sparse_gone (g := g) (i := p.ix) (t := p.tm) h (hf.ix hm)) ?_
  refine st2 hm hh ?_
  refine gv (ct_slices_Values_Entry (xs := p.es.map Ent.av)) ?_
  refine st0 ?_
  have hit := it_slices_Values_Entry p.es (s.n + 3) (by omega)
  refine w_rangeG (α := Tok) (β := Unit) (m := p.es.length) (by simp) hit (by intro x hx; obtain ⟨p, _, rfl⟩ := List.mem_map.1 hx; rfl) (by simp)
    (fun kk tk => (((s.alloc (.cells (grpT ((p.es.take kk).foldl putS (fwd0 g p)) tk))).alloc (.cells p.cells)).alloc (.cells [.v (.int .i64 0), .v (.int .i64 0), .v (.int .i64 0), .v (.int .i64 0), .v (.int .i64 0), .v (.int .i64 0), .sl [] .zero])).alloc (.cells [.sl (p.es.map Ent.av) .no]))
    (fun kk _ s' => True) (fun j _ => s) (fun j _ _ => False) .no (by simp [grpT, fwd0, hm, hh, Grp.cells]) (fun s' h => trivial) ?_ (fun _ _ _ o h => h) (fun _ _ _ _ h => h) ?_ ?_ (fun _ _ _ _ _ h => h.elim)
  · intro kk a s' _ h1 hg
    refine (hg.get (by simp)).trans ?_
    simp
  · rintro LR LB LJ _ kk hkk tk g2 h1 _
    have hkk' : kk < p.es.length := by simpa using hkk
    have hok := okEnt_iff.1 (hes _ (List.getElem_mem hkk'))
    have hG : Spar ((p.es.take kk).foldl putS (fwd0 g p)) := hsp.puts (fun e he => hes e (List.mem_of_mem_take he))
    have hsn := puts_snoc (g := fwd0 g p) hkk'
    generalize (p.es.take kk).foldl putS (fwd0 g p) = G at hG hsn
    rw [hsn]
    have hGl := hG.len
    unfold grpT
    by_cases h2 : p.es[kk].ix < G.fi
    · refine st2 hkk' h2 ?_
      have e : putS G p.es[kk] = G := by unfold putS; rw [if_pos (.inl h2)]
      rw [e]
      exact ⟨tk, by simp, by simp only [if_true]; exact ⟨_, allocs_snoc _ _ _⟩, trivial⟩
    · refine st2 hkk' h2 ?_
      refine gv (ct_sparse_there (g := G) (i := p.es[kk].ix) (by omega)) ?_
      cases ht : hasIx G.es p.es[kk].ix with
      | true =>
        refine st1 ht ?_
        have e : putS G p.es[kk] = G := by unfold putS; rw [if_pos (.inr ht)]
        rw [e]
        exact ⟨tk, by simp, by simp only [if_true]; exact ⟨_, allocs_snoc _ _ _⟩, trivial⟩
      | false =>
        refine sd1 ht ?_
        refine run (rn_sparse_fromT (l := G.es) (lo := G.fi) (hi := p.es[kk].ix) (tk0 := tk) (by omega)) (by first | (simp; done) | rfl) ?_
        rintro _ s1 ⟨tk1, rfl, hm1, hg1⟩
        refine ⟨.of_ext hg1.ext, ?_⟩
        refine run (rn_sparse_fromT (l := G.es) (lo := p.es[kk].ix) (hi := 1099511627777) (tk0 := tk) (by omega)) (by first | (simp; done) | rfl) ?_
        rintro _ s2 ⟨tk2, rfl, hm2, hg2⟩
        refine ⟨.of_ext hg2.ext, ?_⟩
        have hm1' := hm1.grows hg2
        obtain ⟨g3, rfl⟩ := hg1.trans hg2
        clear hm1 hm2 hg1 hg2
        have hfl := List.length_filter_le (inR G.fi p.es[kk].ix) G.es
        have hfl2 := List.length_filter_le (inR p.es[kk].ix 1099511627777) G.es
        refine sd0 ?_
        refine o_appA (B := _) (N := _) (by first | (simp; done) | (simp; rfl)) (by simp; exact ⟨rfl, rfl⟩) ⟨g3, rfl⟩ (Nat.le_refl _) (by simp) hm1' (by simp) (by simp) (by simp; omega) (by simp; omega) ?_
        rintro s3 tk3 hg3 hm3 _ _
        refine st0 ?_
        refine o_appA (B := _) (N := _) (by first | (simp; done) | (simp; rfl)) (by first | (simp; done) | (simp; exact ⟨rfl, rfl⟩)) hg3 (Nat.le_refl _) hg3.n hm3 (by have := head_map (f := Ent.av) Ent.row (G.es.filter (inR G.fi p.es[kk].ix) ++ [p.es[kk]]); simpa using this) (by simp) (by simp; omega) (by simp; omega) ?_
        rintro s4 tk4 ⟨g4, rfl⟩ hm4 _ _
        refine st0 ?_
        have e : putS G p.es[kk] = { G with es := G.es.filter (inR G.fi p.es[kk].ix) ++ p.es[kk] :: G.es.filter (inR p.es[kk].ix (MI + 1)) } := by
          unfold putS; rw [if_neg]; intro h; rcases h with h | h
          · exact h2 h
          · rw [ht] at h; cases h
        rw [e]
        refine ⟨tk4, by simp, ?_, trivial⟩
        have hM1 : MI + 1 = 1099511627777 := by omega
        simp only [if_true, hM1, List.map_append, List.map_cons]
        have hgr := ((Grows.refl (((((s.alloc (.cells (grpT { G with es := G.es.filter (inR G.fi p.es[kk].ix) ++ p.es[kk] :: G.es.filter (inR p.es[kk].ix 1099511627777) } tk4))).alloc (.cells p.cells)).alloc (.cells [.v (.int .i64 0), .v (.int .i64 0), .v (.int .i64 0), .v (.int .i64 0), .v (.int .i64 0), .v (.int .i64 0), .sl [] .zero])).alloc (.cells [.sl (p.es.map Ent.av) .no])).alloc .defd |>.alloc LR)).allocs g2).alloc (.cells p.es[kk].cells) |>.allocs g4
        simpa [grpT, List.append_assoc] using hgr
  · rintro LR tk g2 h1 _
    unfold grpT
    refine st0 ?_
    refine ret_okD (by simp) (by simp) (by simp; rfl) ⟨?_, ?_⟩
    · simp only [killAll, List.foldl]
      simp
      exact (((((Grows.refl s).alloc _).alloc _).alloc _).alloc _).alloc _ |>.alloc _ |>.allocs _
    · rw [fwdS_eq]
      exact (AV.le_strip _).trans (by simp [Grp.av, Grp.cells, retVal]; exact .refl _)
theorem ct_sparse_forwardFT {g : Grp} {p : Prt} {s : AState} (h : Spar g) (hf : FwdOk g p) (hm : p.mr = false) (hh : p.he = true) : Gives prog F_sparse_forward [g.av, p.av] s (fwdS g p).av s := by
  have hMI := MI_eq
  refine Runs.gives' (runs_e h_sparse_forward (Nat.le_of_ble_eq_true rfl) ?_) (Grp.row _).flat
  have hsp := hf.sp
  have hes := hf.es
  have hln := hf.ln
  refine st2 hm hh ?_
  skip
  refine st2 hm hh ?_
  refine gv (ct_slices_Values_Entry (xs := p.es.map Ent.av)) ?_
  refine st0 ?_
  have hit := it_slices_Values_Entry p.es (s.n + 3) (by omega)
  refine w_rangeG (α := Tok) (β := Unit) (m := p.es.length) (by simp) hit (by intro x hx; obtain ⟨p, _, rfl⟩ := List.mem_map.1 hx; rfl) (by simp)
    (fun kk tk => (((s.alloc (.cells (grpT ((p.es.take kk).foldl putS (fwd0 g p)) tk))).alloc (.cells p.cells)).alloc (.cells [.v (.int .i64 0), .v (.int .i64 0), .v (.int .i64 0), .v (.int .i64 0), .v (.int .i64 0), .v (.int .i64 0), .sl [] .zero])).alloc (.cells [.sl (p.es.map Ent.av) .no]))
    (fun kk _ s' => True) (fun j _ => s) (fun j _ _ => False) .no (by simp [grpT, fwd0, hm, hh, Grp.cells]) (fun s' h => trivial) ?_ (fun _ _ _ o h => h) (fun _ _ _ _ h => h) ?_ ?_ (fun _ _ _ _ _ h => h.elim)
  · intro kk a s' _ h1 hg
    refine (hg.get (by simp)).trans ?_
    simp
  · rintro LR LB LJ _ kk hkk tk g2 h1 _
    have hkk' : kk < p.es.length := by simpa using hkk
    have hok := okEnt_iff.1 (hes _ (List.getElem_mem hkk'))
    have hG : Spar ((p.es.take kk).foldl putS (fwd0 g p)) := hsp.puts (fun e he => hes e (List.mem_of_mem_take he))
    have hsn := puts_snoc (g := fwd0 g p) hkk'
    generalize (p.es.take kk).foldl putS (fwd0 g p) = G at hG hsn
    rw [hsn]
    have hGl := hG.len
    unfold grpT
    by_cases h2 : p.es[kk].ix < G.fi
    · refine st2 hkk' h2 ?_
      have e : putS G p.es[kk] = G := by unfold putS; rw [if_pos (.inl h2)]
      rw [e]
      exact ⟨tk, by simp, by simp only [if_true]; exact ⟨_, allocs_snoc _ _ _⟩, trivial⟩
    · refine st2 hkk' h2 ?_
      refine gv (ct_sparse_there (g := G) (i := p.es[kk].ix) (by omega)) ?_
      cases ht : hasIx G.es p.es[kk].ix with
      | true =>
        refine st1 ht ?_
        have e : putS G p.es[kk] = G := by unfold putS; rw [if_pos (.inr ht)]
        rw [e]
        exact ⟨tk, by simp, by simp only [if_true]; exact ⟨_, allocs_snoc _ _ _⟩, trivial⟩
      | false =>
        refine sd1 ht ?_
        refine run (rn_sparse_fromT (l := G.es) (lo := G.fi) (hi := p.es[kk].ix) (tk0 := tk) (by omega)) (by first | (simp; done) | rfl) ?_
        rintro _ s1 ⟨tk1, rfl, hm1, hg1⟩
        refine ⟨.of_ext hg1.ext, ?_⟩
        refine run (rn_sparse_fromT (l := G.es) (lo := p.es[kk].ix) (hi := 1099511627777) (tk0 := tk) (by omega)) (by first | (simp; done) | rfl) ?_
        rintro _ s2 ⟨tk2, rfl, hm2, hg2⟩
        refine ⟨.of_ext hg2.ext, ?_⟩
        have hm1' := hm1.grows hg2
        obtain ⟨g3, rfl⟩ := hg1.trans hg2
        clear hm1 hm2 hg1 hg2
        have hfl := List.length_filter_le (inR G.fi p.es[kk].ix) G.es
        have hfl2 := List.length_filter_le (inR p.es[kk].ix 1099511627777) G.es
        refine sd0 ?_
        refine o_appA (B := _) (N := _) (by first | (simp; done) | (simp; rfl)) (by simp; exact ⟨rfl, rfl⟩) ⟨g3, rfl⟩ (Nat.le_refl _) (by simp) hm1' (by simp) (by simp) (by simp; omega) (by simp; omega) ?_
        rintro s3 tk3 hg3 hm3 _ _
        refine st0 ?_
        refine o_appA (B := _) (N := _) (by first | (simp; done) | (simp; rfl)) (by first | (simp; done) | (simp; exact ⟨rfl, rfl⟩)) hg3 (Nat.le_refl _) hg3.n hm3 (by have := head_map (f := Ent.av) Ent.row (G.es.filter (inR G.fi p.es[kk].ix) ++ [p.es[kk]]); simpa using this) (by simp) (by simp; omega) (by simp; omega) ?_
        rintro s4 tk4 ⟨g4, rfl⟩ hm4 _ _
        refine st0 ?_
        have e : putS G p.es[kk] = { G with es := G.es.filter (inR G.fi p.es[kk].ix) ++ p.es[kk] :: G.es.filter (inR p.es[kk].ix (MI + 1)) } := by
          unfold putS; rw [if_neg]; intro h; rcases h with h | h
          · exact h2 h
          · rw [ht] at h; cases h
        rw [e]
        refine ⟨tk4, by simp, ?_, trivial⟩
        have hM1 : MI + 1 = 1099511627777 := by omega
        simp only [if_true, hM1, List.map_append, List.map_cons]
        have hgr := ((Grows.refl (((((s.alloc (.cells (grpT { G with es := G.es.filter (inR G.fi p.es[kk].ix) ++ p.es[kk] :: G.es.filter (inR p.es[kk].ix 1099511627777) } tk4))).alloc (.cells p.cells)).alloc (.cells [.v (.int .i64 0), .v (.int .i64 0), .v (.int .i64 0), .v (.int .i64 0), .v (.int .i64 0), .v (.int .i64 0), .sl [] .zero])).alloc (.cells [.sl (p.es.map Ent.av) .no])).alloc .defd |>.alloc LR)).allocs g2).alloc (.cells p.es[kk].cells) |>.allocs g4
        simpa [grpT, List.append_assoc] using hgr
  · rintro LR tk g2 h1 _
    unfold grpT
    refine st0 ?_
    refine ret_okD (by simp) (by simp) (by simp; rfl) ⟨?_, ?_⟩
    · simp only [killAll, List.foldl]
      simp
      exact (((((Grows.refl s).alloc _).alloc _).alloc _).alloc _).alloc _ |>.alloc _ |>.allocs _
    · rw [fwdS_eq]
      exact (AV.le_strip _).trans (by simp [Grp.av, Grp.cells, retVal]; exact .refl _)
theorem ct_sparse_forwardFF {g : Grp} {p : Prt} {s : AState} (h : Spar g) (hf : FwdOk g p) (hm : p.mr = false) (hh : p.he = false) : Gives prog F_sparse_forward [g.av, p.av] s (fwdS g p).av s := by
  have hMI := MI_eq
  refine Runs.gives' (runs_e h_sparse_forward (Nat.le_of_ble_eq_true rfl) ?_) (Grp.row _).flat
  have hsp := hf.sp
  have hes := hf.es
  have hln := hf.ln
  refine st2 hm hh ?_
  skip
  refine st2 hm hh ?_
  refine gv (ct_slices_Values_Entry (xs := p.es.map Ent.av)) ?_
  refine st0 ?_
  have hit := it_slices_Values_Entry p.es (s.n + 3) (by omega)
  refine w_rangeG (α := Tok) (β := Unit) (m := p.es.length) (by simp) hit (by intro x hx; obtain ⟨p, _, rfl⟩ := List.mem_map.1 hx; rfl) (by simp)
    (fun kk tk => (((s.alloc (.cells (grpT ((p.es.take kk).foldl putS (fwd0 g p)) tk))).alloc (.cells p.cells)).alloc (.cells [.v (.int .i64 0), .v (.int .i64 0), .v (.int .i64 0), .v (.int .i64 0), .v (.int .i64 0), .v (.int .i64 0), .sl [] .zero])).alloc (.cells [.sl (p.es.map Ent.av) .no]))
    (fun kk _ s' => True) (fun j _ => s) (fun j _ _ => False) .no (by simp [grpT, fwd0, hm, hh, Grp.cells]) (fun s' h => trivial) ?_ (fun _ _ _ o h => h) (fun _ _ _ _ h => h) ?_ ?_ (fun _ _ _ _ _ h => h.elim)
  · intro kk a s' _ h1 hg
    refine (hg.get (by simp)).trans ?_
    simp
  · rintro LR LB LJ _ kk hkk tk g2 h1 _
    have hkk' : kk < p.es.length := by simpa using hkk
    have hok := okEnt_iff.1 (hes _ (List.getElem_mem hkk'))
    have hG : Spar ((p.es.take kk).foldl putS (fwd0 g p)) := hsp.puts (fun e he => hes e (List.mem_of_mem_take he))
    have hsn := puts_snoc (g := fwd0 g p) hkk'
    generalize (p.es.take kk).foldl putS (fwd0 g p) = G at hG hsn
    rw [hsn]
    have hGl := hG.len
    unfold grpT
    by_cases h2 : p.es[kk].ix < G.fi
    · refine st2 hkk' h2 ?_
      have e : putS G p.es[kk] = G := by unfold putS; rw [if_pos (.inl h2)]
      rw [e]
      exact ⟨tk, by simp, by simp only [if_true]; exact ⟨_, allocs_snoc _ _ _⟩, trivial⟩
    · refine st2 hkk' h2 ?_
      refine gv (ct_sparse_there (g := G) (i := p.es[kk].ix) (by omega)) ?_
      cases ht : hasIx G.es p.es[kk].ix with
      | true =>
        refine st1 ht ?_
        have e : putS G p.es[kk] = G := by unfold putS; rw [if_pos (.inr ht)]
        rw [e]
        exact ⟨tk, by simp, by simp only [if_true]; exact ⟨_, allocs_snoc _ _ _⟩, trivial⟩
      | false =>
        refine sd1 ht ?_
        refine run (rn_sparse_fromT (l := G.es) (lo := G.fi) (hi := p.es[kk].ix) (tk0 := tk) (by omega)) (by first | (simp; done) | rfl) ?_
        rintro _ s1 ⟨tk1, rfl, hm1, hg1⟩
        refine ⟨.of_ext hg1.ext, ?_⟩
        refine run (rn_sparse_fromT (l := G.es) (lo := p.es[kk].ix) (hi := 1099511627777) (tk0 := tk) (by omega)) (by first | (simp; done) | rfl) ?_
        rintro _ s2 ⟨tk2, rfl, hm2, hg2⟩
        refine ⟨.of_ext hg2.ext, ?_⟩
        have hm1' := hm1.grows hg2
        obtain ⟨g3, rfl⟩ := hg1.trans hg2
        clear hm1 hm2 hg1 hg2
        have hfl := List.length_filter_le (inR G.fi p.es[kk].ix) G.es
        have hfl2 := List.length_filter_le (inR p.es[kk].ix 1099511627777) G.es
        refine sd0 ?_
        refine o_appA (B := _) (N := _) (by first | (simp; done) | (simp; rfl)) (by simp; exact ⟨rfl, rfl⟩) ⟨g3, rfl⟩ (Nat.le_refl _) (by simp) hm1' (by simp) (by simp) (by simp; omega) (by simp; omega) ?_
        rintro s3 tk3 hg3 hm3 _ _
        refine st0 ?_
        refine o_appA (B := _) (N := _) (by first | (simp; done) | (simp; rfl)) (by first | (simp; done) | (simp; exact ⟨rfl, rfl⟩)) hg3 (Nat.le_refl _) hg3.n hm3 (by have := head_map (f := Ent.av) Ent.row (G.es.filter (inR G.fi p.es[kk].ix) ++ [p.es[kk]]); simpa using this) (by simp) (by simp; omega) (by simp; omega) ?_
        rintro s4 tk4 ⟨g4, rfl⟩ hm4 _ _
        refine st0 ?_
        have e : putS G p.es[kk] = { G with es := G.es.filter (inR G.fi p.es[kk].ix) ++ p.es[kk] :: G.es.filter (inR p.es[kk].ix (MI + 1)) } := by
          unfold putS; rw [if_neg]; intro h; rcases h with h | h
          · exact h2 h
          · rw [ht] at h; cases h
        rw [e]
        refine ⟨tk4, by simp, ?_, trivial⟩
        have hM1 : MI + 1 = 1099511627777 := by omega
        simp only [if_true, hM1, List.map_append, List.map_cons]
        have hgr := ((Grows.refl (((((s.alloc (.cells (grpT { G with es := G.es.filter (inR G.fi p.es[kk].ix) ++ p.es[kk] :: G.es.filter (inR p.es[kk].ix 1099511627777) } tk4))).alloc (.cells p.cells)).alloc (.cells [.v (.int .i64 0), .v (.int .i64 0), .v (.int .i64 0), .v (.int .i64 0), .v (.int .i64 0), .v (.int .i64 0), .sl [] .zero])).alloc (.cells [.sl (p.es.map Ent.av) .no])).alloc .defd |>.alloc LR)).allocs g2).alloc (.cells p.es[kk].cells) |>.allocs g4
        simpa [grpT, List.append_assoc] using hgr
  · rintro LR tk g2 h1 _
    unfold grpT
    refine st0 ?_
    refine ret_okD (by simp) (by simp) (by simp; rfl) ⟨?_, ?_⟩
    · simp only [killAll, List.foldl]
      simp
      exact (((((Grows.refl s).alloc _).alloc _).alloc _).alloc _).alloc _ |>.alloc _ |>.allocs _
    · rw [fwdS_eq]
      exact (AV.le_strip _).trans (by simp [Grp.av, Grp.cells, retVal]; exact .refl _)
theorem ct_sparse_forward {g : Grp} {p : Prt} {s : AState} (h : Spar g) (hf : FwdOk g p) : Gives prog F_sparse_forward [g.av, p.av] s (fwdS g p).av s := by
  cases hm : p.mr <;> cases hh : p.he
  · exact ct_sparse_forwardFF h hf hm hh
  · exact ct_sparse_forwardFT h hf hm hh
  · exact ct_sparse_forwardTF h hf hm hh
  · exact ct_sparse_forwardTT h hf hm hh
theorem isPart_1 {p : Prt} (h : isPart p = true) (hk : p.kd = 1) : p.es ≠ [] ∧ rising p.es true = true := by
  simp only [isPart, Bool.and_eq_true] at h
  obtain ⟨_, h⟩ := h
  rw [hk] at h; simp at h; exact h
theorem isPart_3 {p : Prt} (h : isPart p = true) (hk : p.kd = 3 ∨ p.kd = 4) : (1 ≤ p.ix ∧ p.ix ≤ MI) ∧ 0 ≤ p.tm ∧ p.tm ≤ MI := by
  simp only [isPart, Bool.and_eq_true] at h
  obtain ⟨_, h⟩ := h
  rcases hk with hk | hk
  · rw [hk] at h; simp [okMrk, btw] at h; omega
  · rw [hk] at h; simp [okMrk, btw] at h; omega
theorem fwdOk {g : Grp} {p : Prt} (h : Spar g) (hp : isPart p = true) (hk : p.kd = 6) : FwdOk g p := by
  have hh := okHrd_of hp (.inr hk)
  simp only [isPart, Bool.and_eq_true] at hp
  obtain ⟨_, hp⟩ := hp
  rw [hk] at hp
  simp at hp
  obtain ⟨⟨⟨_, k1⟩, k2⟩, _⟩ := hp
  obtain ⟨r1, _, r2⟩ := rising_ok k1
  have hix : p.mr = true → (1 ≤ p.ix ∧ p.ix ≤ MI) ∧ 1 ≤ p.tm ∧ p.tm ≤ MI := fun hm => by
    rcases k2 with k2 | k2
    · rw [hm] at k2; cases k2
    · simp [okMrk, btw] at k2; omega
  refine ⟨?_, r1, r2, fun hm => by have := hix hm; omega⟩
  have hg : Spar (if p.mr then goneS g p.ix p.tm else g) := by
    split
    · next hm => have := hix hm; exact h.goneS (by omega) (by omega)
    · exact h
  unfold fwd0
  generalize (if p.mr then goneS g p.ix p.tm else g) = g1 at hg
  by_cases he : p.he = true
  · rw [if_pos he]
    have h0 := okHead_iff.1 hg.hd
    exact ⟨by rw [okHead_iff]; exact ⟨h0.1, h0.2.1, h0.2.2.1, hh⟩, hg.ok, hg.fi, hg.srt⟩
  · rw [if_neg he]; exact hg
end Go.Proofs.Ytmpoeamfcienoaa
end
section
namespace Go.Proofs.Ytmpoeamfcienoaa
open Go.Ab
set_option linter.unusedVariables false
set_option linter.unusedSimpArgs false
set_option maxRecDepth 100000
set_option maxHeartbeats 4000000
theorem ct_sparse_Do {g : Grp} {p : Prt} {s : AState} (h : Spar g) (hpl : (p.es.length : Int) < 9223372036854775808) : Gives prog F_sparse_Do [g.av, p.av] s (doS g p).av s := by
  have hMI := MI_eq
  have hlen := h.len
  have hDS := h.doS p
  refine Runs.gives' (runs_e h_sparse_Do (Nat.le_of_ble_eq_true rfl) ?_) (Grp.row _).flat
  refine st0 ?_
  refine gv (ct_sparse_Is h) ?_
  refine st0 ?_
  refine gv (ct_part_Is (p := p) hpl) ?_
  cases hp : isPart p with
  | false =>
    have e : doS g p = g := by unfold doS; rw [if_neg]; rw [hp]; intro h; cases h.1
    rw [e]
    refine st0 ?_
    exact ret_ok (by simp; rfl) ⟨((Grows.refl _).alloc _).alloc _ |>.alloc _, .refl _⟩
  | true =>
    by_cases hg : p.gr = g.id
    · have e : doS g p = (if p.kd = 1 then { g with es := g.es.filter (inR g.fi ((p.es.getD 0 default).ix)) ++ p.es.filter (inR g.fi (MI + 1)) }
          else if p.kd = 2 then { g with ht := p.ht, hv := p.hv, hc := p.hc }
          else if p.kd = 3 then goneS g p.ix p.tm
          else if p.kd = 4 then goneS (if g.fi ≤ p.ix then { g with es := [] } else g) p.ix p.tm
          else if p.kd = 6 then fwdS g p
          else g) := by unfold doS; rw [if_pos ⟨hp, hg⟩]
      rw [e]
      clear e
      by_cases h1 : p.kd = 1
      · rw [if_pos h1]
        obtain ⟨hne, hr⟩ := isPart_1 hp h1
        obtain ⟨_, _, hl6⟩ := rising_ok hr
        have h0l : 0 < p.es.length := by cases hpe : p.es <;> simp_all
        repeat (first | simp -dsimp -implicitDefEqProofs (disch := first | omega | (simp <;> omega) | fail) [hg, h1, h0l] | (with_reducible apply m_draw) | ((with_reducible refine ⟨m_op ?_, ?_⟩); (focus (simp -dsimp -implicitDefEqProofs (disch := first | omega | (simp <;> omega) | fail) [hg, h1, h0l]; done))) | ((with_reducible first | apply m_d1 rfl | apply m_dE | apply m_dE0); (focus ((conv => lhs; simp -dsimp -implicitDefEqProofs (disch := first | omega | (simp <;> omega) | fail) [hg, h1, h0l]); done))) | ((with_reducible first | apply m_1 | apply m_0); (focus ((conv => lhs; simp -dsimp -implicitDefEqProofs (disch := first | omega | (simp <;> omega) | fail) [hg, h1, h0l]); done))) | ((with_reducible first | apply i_T | apply g_T | apply h_T); (focus (simp -dsimp -implicitDefEqProofs (disch := first | omega | (simp <;> omega) | fail) [hg, h1, h0l]; done))) | ((with_reducible first | apply i_F | apply g_F | apply h_F); (focus (simp -dsimp -implicitDefEqProofs (disch := first | omega | (simp <;> omega) | fail) [hg, h1, h0l]; done))))
        have hd0 : p.es.getD 0 default = p.es[0] := by simp [h0l]
        have hM1 : MI + 1 = 1099511627777 := by omega
        rw [hd0, hM1]
        refine run (rn_sparse_from (l := g.es) (lo := g.fi) (hi := p.es[0].ix) (by omega)) (by first | (simp; done) | rfl) ?_
        rintro _ s1 ⟨tk1, rfl, hm1, hg1⟩
        refine ⟨.of_ext hg1.ext, ?_⟩
        refine run (rn_sparse_from (l := p.es) (lo := g.fi) (hi := 1099511627777) (by omega)) (by first | (simp; done) | rfl) ?_
        rintro _ s2 ⟨tk2, rfl, hm2, hg2⟩
        refine ⟨.of_ext hg2.ext, ?_⟩
        have hm1' := hm1.grows hg2
        obtain ⟨g3, rfl⟩ := hg1.trans hg2
        clear hm1 hm2 hg1 hg2
        have hfl := List.length_filter_le (inR g.fi p.es[0].ix) g.es
        have hfl2 := List.length_filter_le (inR g.fi 1099511627777) p.es
        refine sd0 ?_
        refine d_appA (B := _) (N := _) (by first | (simp; done) | (simp; rfl)) (by simp; exact ⟨rfl, rfl⟩) ⟨g3, rfl⟩ (Nat.le_refl _) (by simp) hm1' (by simp) (by simp) (by simp; omega) (by simp; omega) ?_
        rintro s4 tk4 ⟨g4, rfl⟩ hm4 _ _
        refine sd0 ?_
        refine ret_ok (by simp; rfl) ⟨((Grows.refl _).alloc _).alloc _ |>.alloc _ |>.allocs _, ?_⟩
        exact (AV.le_strip _).trans (by simp [Grp.av, Grp.cells, retVal]; exact .refl _)
      rw [if_neg h1]
      by_cases h2 : p.kd = 2
      · rw [if_pos h2]
        refine st3 hg h1 h2 ?_
        refine ret_ok (by simp; rfl) ⟨((Grows.refl _).alloc _).alloc _ |>.alloc _, ?_⟩
        simp [retVal, Grp.av, Grp.cells]; exact .refl _
      rw [if_neg h2]
      by_cases h3 : p.kd = 3
      · rw [if_pos h3]
        have hi := isPart_3 hp (.inl h3)
        refine st4 hg h1 h2 h3 ?_
        refine gv (ct_sparse_gone (g := g) (i := p.ix) (t := p.tm) h (by omega)) ?_
        refine st0 ?_
        exact ret_ok (by simp; rfl) ⟨((Grows.refl _).alloc _).alloc _ |>.alloc _, .refl _⟩
      rw [if_neg h3]
      by_cases h4 : p.kd = 4
      · rw [if_pos h4]
        have hi := isPart_3 hp (.inr h4)
        by_cases h5 : g.fi ≤ p.ix
        · rw [if_pos h5]
          refine st6 hg h1 h2 h3 h4 h5 ?_
          refine gv (ct_sparse_gone (g := { g with es := [] }) (i := p.ix) (t := p.tm) ⟨h.hd, by simp, by simp, by simp⟩ (by omega)) ?_
          refine st0 ?_
          exact ret_ok (by simp; rfl) ⟨((Grows.refl _).alloc _).alloc _ |>.alloc _, .refl _⟩
        · rw [if_neg h5]
          refine st6 hg h1 h2 h3 h4 h5 ?_
          refine gv (ct_sparse_gone (g := g) (i := p.ix) (t := p.tm) h (by omega)) ?_
          refine st0 ?_
          exact ret_ok (by simp; rfl) ⟨((Grows.refl _).alloc _).alloc _ |>.alloc _, .refl _⟩
      rw [if_neg h4]
      by_cases h6 : p.kd = 6
      · rw [if_pos h6]
        refine st6 hg h1 h2 h3 h4 h6 ?_
        refine gv (ct_sparse_forward (g := g) (p := p) h (fwdOk h hp h6)) ?_
        refine st0 ?_
        exact ret_ok (by simp; rfl) ⟨((Grows.refl _).alloc _).alloc _ |>.alloc _, .refl _⟩
      rw [if_neg h6]
      refine st6 hg h1 h2 h3 h4 h6 ?_
      exact ret_ok (by simp; rfl) ⟨((Grows.refl _).alloc _).alloc _ |>.alloc _, .refl _⟩
    · have e : doS g p = g := by unfold doS; rw [if_neg]; intro h; exact hg h.2
      rw [e]
      refine st1 hg ?_
      exact ret_ok (by simp; rfl) ⟨((Grows.refl _).alloc _).alloc _ |>.alloc _, .refl _⟩
end Go.Proofs.Ytmpoeamfcienoaa
end
section
namespace Go.Proofs.Ytmpoeamfcienoaa
open Go.Ab
set_option linter.unusedVariables false
set_option linter.unusedSimpArgs false
set_option maxRecDepth 100000
set_option maxHeartbeats 4000000
def dense (g : Grp) : Bool := (List.range g.es.length).all fun j : Nat => decide ((g.es.getD j default).ix = g.fi + (j : Int))
end Go.Proofs.Ytmpoeamfcienoaa
end
section
namespace Go.Proofs.Ytmpoeamfcienoaa
open Go.Ab
set_option linter.unusedVariables false
set_option linter.unusedSimpArgs false
set_option maxRecDepth 100000
set_option maxHeartbeats 4000000
theorem ct_group_New {id : Int} {s : AState} : Gives prog F_group_New [.v (.int .i64 id)] s (newG id).av s := by
  refine Runs.gives' (runs_e h_group_New (Nat.le_of_ble_eq_true rfl) ?_) (Grp.row _).flat
  refine st0 ?_
  first
    | exact ret_ok (by simp; rfl) ⟨Grows.refl _, (AV.le_strip _).trans (by simp [Grp.av, Grp.cells, newG, retVal]; exact .refl _)⟩
    | exact ret_ok (by simp; rfl) ⟨(Grows.refl _).alloc _, (AV.le_strip _).trans (by simp [Grp.av, Grp.cells, newG, retVal]; exact .refl _)⟩
theorem rn_place_New {id : Int} {s : AState} : Runs (compCode prog) prog F_place_New [.v (.int .i64 id)] s (fun x s' => ∃ lb, x = .p lb 0 ∧ LogAt s' lb ⟨newG id, []⟩ [lb, lb - 1] ∧ s.n < lb ∧ Grows s s') := by
  refine runs_e h_place_New (Nat.le_of_ble_eq_true rfl) ?_
  refine st0c1 @ct_group_New ?_
  refine ret_ok (by simp; rfl) ⟨s.n + 1, rfl, ⟨.no, s.n, [], by simp, by simp [logC, newG, Grp.cells], by simp, .nil⟩, by omega, ?_⟩
  exact ((Grows.refl s).alloc _).alloc _
theorem beq_dec (a b : Int) : (a == b) = decide (a = b) := by by_cases h : a = b <;> simp [h]
theorem bne_dec (a b : Int) : (a != b) = !decide (a = b) := by by_cases h : a = b <;> simp [h]
theorem ct_place_brought {p : Prt} {e : Ent} {s : AState} (hl : (p.es.length : Int) < 9223372036854775808) : Gives prog F_place_brought [p.av, e.av] s (.v (.bool (broughtS p e))) s := by
  refine Runs.gives' (runs_e h_place_brought (Nat.le_of_ble_eq_true rfl) ?_) (.v _)
  repeat' (first | simp -dsimp -implicitDefEqProofs (disch := first | omega | (simp <;> omega) | fail) [*] | ((with_reducible first | apply m_1 | apply m_0); (focus ((conv => lhs; simp -dsimp -implicitDefEqProofs (disch := first | omega | (simp <;> omega) | fail) [*]); done))) | ((with_reducible apply giv); (case hAR => ((conv => lhs; simp -dsimp -implicitDefEqProofs (disch := first | omega | (simp <;> omega) | fail) [*]); done)); (case hCT => (first | (apply ct_slices_Contains_Entry <;> first | assumption | omega | decide)))) | ((with_reducible first | apply i_T | apply g_T); (focus (simp -dsimp -implicitDefEqProofs (disch := first | omega | (simp <;> omega) | fail) [*]; done))) | ((with_reducible first | apply i_F | apply g_F); (focus (simp -dsimp -implicitDefEqProofs (disch := first | omega | (simp <;> omega) | fail) [*]; done))) | ((with_reducible first | apply s_split | apply s_gsplit) <;> (intro hb; have hb' := hb; try simp only [decide_eq_true_eq, decide_eq_false_iff_not, beq_iff_eq, beq_eq_false_iff_ne, bne_iff_ne, bne_eq_false_iff_eq, ne_eq, Bool.not_true, Bool.not_false, Bool.not_eq_true', Bool.not_eq_false', Bool.and_eq_true, Bool.or_eq_true, Bool.or_eq_false_iff] at hb; try simp at hb')))
  all_goals refine ret_ok (by simp; rfl) ⟨((Grows.refl _).alloc _).alloc _, ?_⟩
  all_goals simp [broughtS, retVal, *, AV.le.refl]
theorem ct_place_marks {p : Prt} {old now : Grp} {s : AState} (hn : 0 ≤ now.fi ∧ now.fi < 9223372036854775808) : Gives prog F_place_marks [p.av, old.av, now.av] s (.v (.bool (marksS p old now))) s := by
  refine Runs.gives' (runs_e h_place_marks (Nat.le_of_ble_eq_true rfl) ?_) (.v _)
  have hw : IntKind.wrap .i64 (now.fi - 1) = now.fi - 1 := wrap_i64 (by omega) (by omega)
  repeat' (first | refine sa1 hw ?_ | ((with_reducible first | apply s_split | apply s_gsplit) <;> (intro hb; have hb' := hb; try simp only [decide_eq_true_eq, decide_eq_false_iff_not, beq_iff_eq, beq_eq_false_iff_ne, bne_iff_ne, bne_eq_false_iff_eq, ne_eq, Bool.not_true, Bool.not_false, Bool.not_eq_true', Bool.not_eq_false', Bool.and_eq_true, Bool.or_eq_true, Bool.or_eq_false_iff] at hb; try simp at hb')))
  all_goals refine ret_ok (by simp; rfl) ⟨(((Grows.refl _).alloc _).alloc _).alloc _, ?_⟩
  all_goals simp [marksS, retVal, *]
  all_goals first | exact .refl _ | (rw [beq_dec]; exact .refl _) | (rw [bne_dec]; exact .refl _)
end Go.Proofs.Ytmpoeamfcienoaa
end
section
namespace Go.Proofs.Ytmpoeamfcienoaa
open Go.Ab
set_option linter.unusedVariables false
set_option linter.unusedSimpArgs false
set_option maxRecDepth 100000
set_option maxHeartbeats 8000000
theorem rn_place_Log_Do {lb : Nat} {v : LogV} {F : List Nat} {p : Prt} {at_ : Plc} {s : AState} (hL : LogAt s lb v F) (h : Spar v.g) (hpl : (p.es.length : Int) < 9223372036854775808) :
    Runs (compCode prog) prog F_place_Log_Do [.p lb 0, p.av, at_.av] s (fun _ s' => ∃ F', LogAt s' lb (logDo v p at_) F' ∧ Mut F F' s s') := by
  have hL' := hL
  have hlt := hL.lt
  obtain ⟨tk, mb, A, rfl, h1, h2, h3⟩ := hL
  have hlb : lb < s.n := hlt lb (by simp)
  have hmb : mb < s.n := hlt mb (by simp)
  refine runs_e h_place_Log_Do (Nat.le_of_ble_eq_true rfl) ?_
  cases hok : okDo v.g p with
  | false =>
    have e1 : logDo v p at_ = v := by unfold logDo; rw [hok]; simp
    rw [e1]
    have fin : ∀ s', Grows s s' → ∃ F', LogAt s' lb v F' ∧ Mut [lb, mb] F' s s' := fun s' hg => ⟨_, hL'.keep fun x hx => hg.get (hlt x hx), .grows hg⟩
    unfold logC at h1
    unfold okDo at hok
    cases hp : isPart p with
    | false =>
      repeat (first | simp -dsimp -implicitDefEqProofs (disch := first | omega | (simp <;> omega) | fail) [h1, hp] | ((with_reducible first | apply m_1 | apply m_0); (focus ((conv => lhs; simp -dsimp -implicitDefEqProofs (disch := first | omega | (simp <;> omega) | fail) [h1, hp]); done))) | ((with_reducible apply giv); (case hAR => ((conv => lhs; simp -dsimp -implicitDefEqProofs (disch := first | omega | (simp <;> omega) | fail) [h1, hp]); done)); (case hCT => (first | (apply ct_part_Is <;> first | assumption | omega | decide)))) | ((with_reducible first | apply i_T | apply g_T); (focus (simp -dsimp -implicitDefEqProofs (disch := first | omega | (simp <;> omega) | fail) [h1, hp]; done))) | ((with_reducible first | apply i_F | apply g_F); (focus (simp -dsimp -implicitDefEqProofs (disch := first | omega | (simp <;> omega) | fail) [h1, hp]; done))))
      exact ret_ok rfl (fin _ ((((Grows.refl s).alloc _).alloc _).alloc _))
    | true =>
      by_cases hg : p.gr = v.g.id
      · have hk : p.kd = 5 := by simpa [hp, hg] using hok
        repeat (first | simp -dsimp -implicitDefEqProofs (disch := first | omega | (simp <;> omega) | fail) [h1, hp, hg, hk] | ((with_reducible first | apply m_1 | apply m_0); (focus ((conv => lhs; simp -dsimp -implicitDefEqProofs (disch := first | omega | (simp <;> omega) | fail) [h1, hp, hg, hk]); done))) | ((with_reducible apply giv); (case hAR => ((conv => lhs; simp -dsimp -implicitDefEqProofs (disch := first | omega | (simp <;> omega) | fail) [h1, hp, hg, hk]); done)); (case hCT => (first | (apply ct_part_Is <;> first | assumption | omega | decide)))) | ((with_reducible first | apply i_T | apply g_T); (focus (simp -dsimp -implicitDefEqProofs (disch := first | omega | (simp <;> omega) | fail) [h1, hp, hg, hk]; done))) | ((with_reducible first | apply i_F | apply g_F); (focus (simp -dsimp -implicitDefEqProofs (disch := first | omega | (simp <;> omega) | fail) [h1, hp, hg, hk]; done))))
        exact ret_ok rfl (fin _ ((((Grows.refl s).alloc _).alloc _).alloc _))
      · repeat (first | simp -dsimp -implicitDefEqProofs (disch := first | omega | (simp <;> omega) | fail) [h1, hp, hg] | ((with_reducible first | apply m_1 | apply m_0); (focus ((conv => lhs; simp -dsimp -implicitDefEqProofs (disch := first | omega | (simp <;> omega) | fail) [h1, hp, hg]); done))) | ((with_reducible apply giv); (case hAR => ((conv => lhs; simp -dsimp -implicitDefEqProofs (disch := first | omega | (simp <;> omega) | fail) [h1, hp, hg]); done)); (case hCT => (first | (apply ct_part_Is <;> first | assumption | omega | decide)))) | ((with_reducible first | apply i_T | apply g_T); (focus (simp -dsimp -implicitDefEqProofs (disch := first | omega | (simp <;> omega) | fail) [h1, hp, hg]; done))) | ((with_reducible first | apply i_F | apply g_F); (focus (simp -dsimp -implicitDefEqProofs (disch := first | omega | (simp <;> omega) | fail) [h1, hp, hg]; done))))
        exact ret_ok rfl (fin _ ((((Grows.refl s).alloc _).alloc _).alloc _))
  | true =>
    have e1 : logDo v p at_ = ⟨doS v.g p, nextW putL (lk v.sp) p at_ v.g (doS v.g p)⟩ := by unfold logDo; rw [if_pos hok]
    rw [e1]
    unfold logC at h1
    unfold okDo at hok
    simp at hok
    obtain ⟨⟨hp, hg⟩, hk⟩ := hok
    have hSD := h.doS p
    have hwl := nextW_rep (h3.lk) p at_ v.g (doS v.g p)
    obtain ⟨now, hnow⟩ : ∃ now, doS v.g p = now := ⟨_, rfl⟩
    rw [hnow] at hSD hwl ⊢
    repeat (first | simp -dsimp -implicitDefEqProofs (disch := first | omega | (simp <;> omega) | fail) [h1, hp, hg, hk, Grp.cells, hnow] | (with_reducible apply m_draw) | ((with_reducible refine ⟨m_op ?_, ?_⟩); (focus (simp -dsimp -implicitDefEqProofs (disch := first | omega | (simp <;> omega) | fail) [h1, hp, hg, hk, Grp.cells, hnow]; done))) | ((with_reducible first | apply m_d1 rfl | apply m_dE | apply m_dE0); (focus ((conv => lhs; simp -dsimp -implicitDefEqProofs (disch := first | omega | (simp <;> omega) | fail) [h1, hp, hg, hk, Grp.cells, hnow]); done))) | ((with_reducible apply givQ); (case hAR => ((conv => lhs; simp -dsimp -implicitDefEqProofs (disch := first | omega | (simp <;> omega) | fail) [h1, hp, hg, hk, Grp.cells, hnow]); done)); (case hCT => intro _ _; (first | (apply ct_part_Is <;> first | assumption | omega | decide) | (apply ct_sparse_Do <;> first | assumption | omega | decide)))) | ((with_reducible first | apply m_1 | apply m_0); (focus ((conv => lhs; simp -dsimp -implicitDefEqProofs (disch := first | omega | (simp <;> omega) | fail) [h1, hp, hg, hk, Grp.cells, hnow]); done))) | ((with_reducible apply giv); (case hAR => ((conv => lhs; simp -dsimp -implicitDefEqProofs (disch := first | omega | (simp <;> omega) | fail) [h1, hp, hg, hk, Grp.cells, hnow]); done)); (case hCT => (first | (apply ct_part_Is <;> first | assumption | omega | decide) | (apply ct_sparse_Do <;> first | assumption | omega | decide)))) | ((with_reducible first | apply i_T | apply g_T | apply h_T); (focus (simp -dsimp -implicitDefEqProofs (disch := first | omega | (simp <;> omega) | fail) [h1, hp, hg, hk, Grp.cells, hnow]; done))) | ((with_reducible first | apply i_F | apply g_F | apply h_F); (focus (simp -dsimp -implicitDefEqProofs (disch := first | omega | (simp <;> omega) | fail) [h1, hp, hg, hk, Grp.cells, hnow]; done))))
    have hne : lb ≠ mb := by rintro rfl; rw [h1] at h2; cases h2
    generalize hgC : ([AV.v (.int .i64 v.g.id), .v (.int .i64 v.g.fi), .v (.int .i64 v.g.tm), .v (.int .i64 v.g.ht), .v (.int .i64 v.g.hv), .v (.int .i64 v.g.hc), .sl (v.g.es.map Ent.av) tk] : List AV) = gC
    refine loop_ok [3, 4, 5, 6, 7, 42, 43] (fun m a s1 => ∃ (i : Nat) (B : List (Int × Plc)) (g : List AObj), i + m = 2 ∧ (i = 0 ∧ B = [] ∨ i = 1 ∧ B = nx0 setM (lk A) (-1) [] ∨ i = 2 ∧ B = nx0 setM (lk A) 0 (nx0 setM (lk A) (-1) [])) ∧
      s1 = allocs (((((((s.set lb (.cells [.v (.int .i64 now.id), .v (.int .i64 now.fi), .v (.int .i64 now.tm), .v (.int .i64 now.ht), .v (.int .i64 now.hv), .v (.int .i64 now.hc), .sl (now.es.map Ent.av) .no, .m mb])).alloc (.cells [.p lb 0])).alloc (.cells p.cells)).alloc (.cells at_.cells)).alloc (.cells gC)).alloc (.map (encM Plc.av B))).alloc (.cells [.m (s.n + 1 + 1 + 1 + 1)])) g ∧
      a = { t := den 106 [(3, .p s.n 0), (4, .p (s.n + 1) 0), (5, .p (s.n + 1 + 1) 0), (6, .p (s.n + 1 + 1 + 1) 0), (7, .p (s.n + 1 + 1 + 1 + 1 + 1) 0), (42, .agg [.v (.int .i64 (-1)), .v (.int .i64 0)]), (43, .v (.int .i64 i))], d := [] }) 2 ?_ ?_
    · exact ⟨0, [], [], rfl, .inl ⟨rfl, rfl⟩, rfl, by simp⟩
    rintro m a _ ⟨i, B, g, him, hB, rfl, rfl⟩
    rcases hB with ⟨rfl, hB⟩ | ⟨rfl, hB⟩ | ⟨rfl, hB⟩
    · have hw : IntKind.wrap .i64 (((0 : Nat) : Int) + 1) = 1 := by decide
      refine st0 ?_
      refine m_look (κ := Int) (A := A) (k := -1) (b := mb) (enc := Plc.av) (by simp) (dz2 h2 hne) (by simp; rfl) ?_
      cases hl : lk A (-1) with
      | none =>
        repeat (first | simp -dsimp -implicitDefEqProofs (disch := first | omega | (simp <;> omega) | fail) [lkV, hl, hw] | ((with_reducible first | apply m_1 | apply m_0); (focus ((conv => lhs; simp -dsimp -implicitDefEqProofs (disch := first | omega | (simp <;> omega) | fail) [lkV, hl, hw]); done))) | ((with_reducible first | apply i_T | apply g_T); (focus (simp -dsimp -implicitDefEqProofs (disch := first | omega | (simp <;> omega) | fail) [lkV, hl, hw]; done))) | ((with_reducible first | apply i_F | apply g_F); (focus (simp -dsimp -implicitDefEqProofs (disch := first | omega | (simp <;> omega) | fail) [lkV, hl, hw]; done))))
        refine ⟨m - 1, by omega, 1, B, g ++ [.cells [.v (.int .i64 0), .v (.int .i64 0)]], by omega, .inr (.inl ⟨rfl, by rw [hB]; simp [nx0, hl]⟩), ?_, by simp⟩
        simp [allocs_snoc]
      | some x =>
        repeat (first | simp -dsimp -implicitDefEqProofs (disch := first | omega | (simp <;> omega) | fail) [lkV, hl] | ((with_reducible first | apply m_1 | apply m_0); (focus ((conv => lhs; simp -dsimp -implicitDefEqProofs (disch := first | omega | (simp <;> omega) | fail) [lkV, hl]); done))) | ((with_reducible first | apply i_T | apply g_T); (focus (simp -dsimp -implicitDefEqProofs (disch := first | omega | (simp <;> omega) | fail) [lkV, hl]; done))) | ((with_reducible first | apply i_F | apply g_F); (focus (simp -dsimp -implicitDefEqProofs (disch := first | omega | (simp <;> omega) | fail) [lkV, hl]; done))))
        refine m_mset (κ := Int) (A := B) (k := -1) (v := x) (b := s.n + 1 + 1 + 1 + 1) (enc := Plc.av) (by simp) (dz0) (by simp; rfl) (by simp) ?_
        refine st1 hw ?_
        refine ⟨m - 1, by omega, 1, setM B (-1) x, g ++ [.cells x.cells], by omega, .inr (.inl ⟨rfl, by rw [hB]; simp [nx0, hl]⟩), ?_, by simp⟩
        simp (disch := first | omega | (simp <;> omega) | fail) [allocs_snoc]
    · have hw : IntKind.wrap .i64 (((1 : Nat) : Int) + 1) = 2 := by decide
      refine st0 ?_
      refine m_look (κ := Int) (A := A) (k := 0) (b := mb) (enc := Plc.av) (by simp) (dz2 h2 hne) (by simp; rfl) ?_
      cases hl : lk A (0) with
      | none =>
        repeat (first | simp -dsimp -implicitDefEqProofs (disch := first | omega | (simp <;> omega) | fail) [lkV, hl, hw] | ((with_reducible first | apply m_1 | apply m_0); (focus ((conv => lhs; simp -dsimp -implicitDefEqProofs (disch := first | omega | (simp <;> omega) | fail) [lkV, hl, hw]); done))) | ((with_reducible first | apply i_T | apply g_T); (focus (simp -dsimp -implicitDefEqProofs (disch := first | omega | (simp <;> omega) | fail) [lkV, hl, hw]; done))) | ((with_reducible first | apply i_F | apply g_F); (focus (simp -dsimp -implicitDefEqProofs (disch := first | omega | (simp <;> omega) | fail) [lkV, hl, hw]; done))))
        refine ⟨m - 1, by omega, 2, B, g ++ [.cells [.v (.int .i64 0), .v (.int .i64 0)]], by omega, .inr (.inr ⟨rfl, by rw [hB]; simp [nx0, hl]⟩), ?_, by simp⟩
        simp [allocs_snoc]
      | some x =>
        repeat (first | simp -dsimp -implicitDefEqProofs (disch := first | omega | (simp <;> omega) | fail) [lkV, hl] | ((with_reducible first | apply m_1 | apply m_0); (focus ((conv => lhs; simp -dsimp -implicitDefEqProofs (disch := first | omega | (simp <;> omega) | fail) [lkV, hl]); done))) | ((with_reducible first | apply i_T | apply g_T); (focus (simp -dsimp -implicitDefEqProofs (disch := first | omega | (simp <;> omega) | fail) [lkV, hl]; done))) | ((with_reducible first | apply i_F | apply g_F); (focus (simp -dsimp -implicitDefEqProofs (disch := first | omega | (simp <;> omega) | fail) [lkV, hl]; done))))
        refine m_mset (κ := Int) (A := B) (k := 0) (v := x) (b := s.n + 1 + 1 + 1 + 1) (enc := Plc.av) (by simp) (dz0) (by simp; rfl) (by simp) ?_
        refine st1 hw ?_
        refine ⟨m - 1, by omega, 2, setM B (0) x, g ++ [.cells x.cells], by omega, .inr (.inr ⟨rfl, by rw [hB]; simp [nx0, hl]⟩), ?_, by simp⟩
        simp (disch := first | omega | (simp <;> omega) | fail) [allocs_snoc]
    · have hMI := MI_eq
      have hlen := hSD.len
      refine st0 ?_
      refine gv (ct_slices_Values_Entry (xs := now.es.map Ent.av)) ?_
      refine st0 ?_
      have hit := it_slices_Values_Entry now.es (s.n + 1 + 1 + 1 + 1 + 1 + 1 + g.length) (by omega)
      refine w_rangeG (α := Unit) (β := Unit) (m := now.es.length) (by simp) hit (by intro x hx; obtain ⟨p, _, rfl⟩ := List.mem_map.1 hx; rfl) (by simp)
        (fun kk _ => (allocs (((((((s.set lb (.cells [.v (.int .i64 now.id), .v (.int .i64 now.fi), .v (.int .i64 now.tm), .v (.int .i64 now.ht), .v (.int .i64 now.hv), .v (.int .i64 now.hc), .sl (now.es.map Ent.av) .no, .m mb])).alloc (.cells [.p lb 0])).alloc (.cells p.cells)).alloc (.cells at_.cells)).alloc (.cells gC)).alloc (.map (encM Plc.av ((now.es.take kk).foldl (nx1 setM (lk A) p at_) B)))).alloc (.cells [.m (s.n + 1 + 1 + 1 + 1)])) g).alloc (.cells [.sl (now.es.map Ent.av) .no]))
        (fun kk _ s' => True) (fun j _ => s) (fun j _ _ => False) () (by simp) (fun s' h => trivial) ?_ (fun _ _ _ o h => h) (fun _ _ _ _ h => h) ?_ ?_ (fun _ _ _ _ _ h => h.elim)
      · intro kk a s' _ h1 hg
        refine (hg.get (by simp [n_allocs])).trans ?_
        exact get_alloc_eq (by simp [n_allocs])
      · rintro LR LB LJ _ kk hkk _ g2 h1' _
        have hkk' : kk < now.es.length := by simpa using hkk
        have hTk : (now.es.take (kk + 1)).foldl (nx1 setM (lk A) p at_) B = nx1 setM (lk A) p at_ ((now.es.take kk).foldl (nx1 setM (lk A) p at_) B) now.es[kk] := by
          rw [List.take_succ_eq_append_getElem hkk', List.foldl_append]; rfl
        generalize (now.es.take kk).foldl (nx1 setM (lk A) p at_) B = C at hTk ⊢
        refine st1 hkk' ?_
        refine m_look (κ := Int) (A := A) (k := now.es[kk].ix) (b := mb) (enc := Plc.av) (by simp) (dz2 h2 hne) (by simp; rfl) ?_
        have hlv : lkV Plc.av A now.es[kk].ix (.agg [.v (.int .i64 0), .v (.int .i64 0)]) false = ((lk A now.es[kk].ix).getD ⟨0, 0⟩).av := by unfold lkV; cases lk A now.es[kk].ix <;> rfl
        rw [hlv]
        refine st0 ?_
        refine m_mset (κ := Int) (A := C) (k := now.es[kk].ix) (v := (lk A now.es[kk].ix).getD ⟨0, 0⟩) (b := s.n + 1 + 1 + 1 + 1) (enc := Plc.av) (by simp) (dz0) (by simp; rfl) (by simp) ?_
        refine st0 ?_
        refine gv (ct_place_brought (p := p) (e := now.es[kk]) hpl) ?_
        cases hbr : broughtS p now.es[kk] with
        | true =>
          refine st0 ?_
          refine m_mset (κ := Int) (A := setM C now.es[kk].ix ((lk A now.es[kk].ix).getD ⟨0, 0⟩)) (k := now.es[kk].ix) (v := at_) (b := s.n + 1 + 1 + 1 + 1) (enc := Plc.av) (by simp) (dz0) (by simp; rfl) (by simp) ?_
          refine st0 ?_
          refine ⟨(), by simp, ?_, trivial⟩
          rw [hTk]
          simp (disch := first | omega | (simp <;> omega) | fail) [nx1, hbr, allocs_snoc]
          exact ⟨_, rfl⟩
        | false =>
          refine st0 ?_
          refine ⟨(), by simp, ?_, trivial⟩
          rw [hTk]
          simp (disch := first | omega | (simp <;> omega) | fail) [nx1, hbr, allocs_snoc]
          exact ⟨_, rfl⟩
      · rintro LR _ g2 h1' _
        have hTk : (now.es.take now.es.length).foldl (nx1 setM (lk A) p at_) B = nxI setM (lk A) p at_ now.es := by rw [List.take_length, hB]; rfl
        rw [hTk]
        have hwl : Rep (nxM setM p at_ v.g now (nxH setM p at_ (nxI setM (lk A) p at_ now.es))) (nextW putL (lk v.sp) p at_ v.g now) := hwl
        generalize nxI setM (lk A) p at_ now.es = C at hwl ⊢
        have hfi : 0 ≤ now.fi ∧ now.fi < 9223372036854775808 := by have := okHead_iff.1 hSD.hd; omega
        have hmk := fun s => ct_place_marks (p := p) (old := v.g) (now := now) (s := s) hfi
        have hgA : (AV.agg gC).strip = v.g.av := by rw [← hgC]; rfl
        have hgl : gC.length = 7 := by rw [← hgC]; rfl
        have hgt : gC.take 7 = gC := by rw [← hgl, List.take_length]
        have key : ∀ (D : List (Int × Plc)) (sf : AState) (k : Nat), Rep (nxM setM p at_ v.g now D) (nextW putL (lk v.sp) p at_ v.g now) → s.n ≤ sf.n → sf.get lb = .cells (logC now .no (s.n + 1 + 1 + 1 + 1)) → sf.get (s.n + 1 + 1 + 1 + 1) = .map (encM Plc.av (nxM setM p at_ v.g now D)) →
            (∀ x, x < s.n → x ≠ lb → sf.get x = s.get x) → ∃ F', LogAt sf lb { g := now, sp := nextW putL (lk v.sp) p at_ v.g now } F' ∧ Mut [lb, mb] F' s sf := fun D sf k hD h0 h4 h5 h6 =>
          ⟨[lb, s.n + 1 + 1 + 1 + 1], ⟨.no, _, _, rfl, h4, h5, hD⟩, h0, fun x hx hn => h6 x hx (by rintro rfl; simp at hn), fun x hx => by
            simp only [List.mem_cons, List.not_mem_nil, or_false] at hx
            rcases hx with rfl | rfl
            · exact .inl (by simp)
            · exact .inr (by omega)⟩
        have tail : ∀ D : List (Int × Plc), nxH setM p at_ C = D → Rep (nxM setM p at_ v.g now D) (nextW putL (lk v.sp) p at_ v.g now) := fun D e => by rw [← e]; exact hwl
        unfold nxH at tail
        clear hwl
        by_cases hk2 : p.kd = 2
        · rw [if_pos (.inl hk2)] at tail
          refine st1 hk2 ?_
          refine m_mset (κ := Int) (A := C) (k := -1) (v := at_) (b := s.n + 1 + 1 + 1 + 1) (enc := Plc.av) (by simp) (dz0) (by simp; rfl) (by simp) ?_
          refine st2 hgl hgt ?_
          refine giv (hmk _) (by simp; refine ⟨hgA, ?_⟩; simp [Grp.av, Grp.cells]) ?_
          cases hm : marksS p v.g now with
          | true =>
            refine st0 ?_
            refine m_mset (κ := Int) (A := setM C (-1) at_) (k := 0) (v := at_) (b := s.n + 1 + 1 + 1 + 1) (enc := Plc.av) (by simp) (dz0) (by simp; rfl) (by simp) ?_
            refine st0 ?_
            refine end_okD ?_ ?_ rfl ?_
            · simp (disch := first | omega | (simp <;> omega) | fail)
            · simp
            refine key _ _ 0 (tail _ rfl) ?_ ?_ ?_ ?_
            · simp [killAll, n_allocs]; omega
            · simp (disch := first | omega | (simp <;> omega) | fail) [killAll, logC]
            · simp (disch := first | omega | (simp <;> omega) | fail) [killAll, nxM, hm]
            · intro x hx hn; simp (disch := first | omega | (simp <;> omega) | fail) [killAll, hn, hx]
          | false =>
            refine st0 ?_
            refine end_okD ?_ ?_ rfl ?_
            · simp (disch := first | omega | (simp <;> omega) | fail)
            · simp
            refine key _ _ 0 (tail _ rfl) ?_ ?_ ?_ ?_
            · simp [killAll, n_allocs]; omega
            · simp (disch := first | omega | (simp <;> omega) | fail) [killAll, logC]
            · simp (disch := first | omega | (simp <;> omega) | fail) [killAll, nxM, hm]
            · intro x hx hn; simp (disch := first | omega | (simp <;> omega) | fail) [killAll, hn, hx]
        by_cases hhe : p.he = true
        · rw [if_pos (.inr hhe)] at tail
          refine st2 hk2 hhe ?_
          refine m_mset (κ := Int) (A := C) (k := -1) (v := at_) (b := s.n + 1 + 1 + 1 + 1) (enc := Plc.av) (by simp) (dz0) (by simp; rfl) (by simp) ?_
          refine st2 hgl hgt ?_
          refine giv (hmk _) (by simp; refine ⟨hgA, ?_⟩; simp [Grp.av, Grp.cells]) ?_
          cases hm : marksS p v.g now with
          | true =>
            refine st0 ?_
            refine m_mset (κ := Int) (A := setM C (-1) at_) (k := 0) (v := at_) (b := s.n + 1 + 1 + 1 + 1) (enc := Plc.av) (by simp) (dz0) (by simp; rfl) (by simp) ?_
            refine st0 ?_
            refine end_okD ?_ ?_ rfl ?_
            · simp (disch := first | omega | (simp <;> omega) | fail)
            · simp
            refine key _ _ 0 (tail _ rfl) ?_ ?_ ?_ ?_
            · simp [killAll, n_allocs]; omega
            · simp (disch := first | omega | (simp <;> omega) | fail) [killAll, logC]
            · simp (disch := first | omega | (simp <;> omega) | fail) [killAll, nxM, hm]
            · intro x hx hn; simp (disch := first | omega | (simp <;> omega) | fail) [killAll, hn, hx]
          | false =>
            refine st0 ?_
            refine end_okD ?_ ?_ rfl ?_
            · simp (disch := first | omega | (simp <;> omega) | fail)
            · simp
            refine key _ _ 0 (tail _ rfl) ?_ ?_ ?_ ?_
            · simp [killAll, n_allocs]; omega
            · simp (disch := first | omega | (simp <;> omega) | fail) [killAll, logC]
            · simp (disch := first | omega | (simp <;> omega) | fail) [killAll, nxM, hm]
            · intro x hx hn; simp (disch := first | omega | (simp <;> omega) | fail) [killAll, hn, hx]
        · rw [if_neg (by simp [hk2, hhe])] at tail
          refine st2 hk2 hhe ?_
          refine st2 hgl hgt ?_
          refine giv (hmk _) (by simp; refine ⟨hgA, ?_⟩; simp [Grp.av, Grp.cells]) ?_
          cases hm : marksS p v.g now with
          | true =>
            refine st0 ?_
            refine m_mset (κ := Int) (A := C) (k := 0) (v := at_) (b := s.n + 1 + 1 + 1 + 1) (enc := Plc.av) (by simp) (dz0) (by simp; rfl) (by simp) ?_
            refine st0 ?_
            refine end_okD ?_ ?_ rfl ?_
            · simp (disch := first | omega | (simp <;> omega) | fail)
            · simp
            refine key _ _ 0 (tail _ rfl) ?_ ?_ ?_ ?_
            · simp [killAll, n_allocs]; omega
            · simp (disch := first | omega | (simp <;> omega) | fail) [killAll, logC]
            · simp (disch := first | omega | (simp <;> omega) | fail) [killAll, nxM, hm]
            · intro x hx hn; simp (disch := first | omega | (simp <;> omega) | fail) [killAll, hn, hx]
          | false =>
            refine st0 ?_
            refine end_okD ?_ ?_ rfl ?_
            · simp (disch := first | omega | (simp <;> omega) | fail)
            · simp
            refine key _ _ 0 (tail _ rfl) ?_ ?_ ?_ ?_
            · simp [killAll, n_allocs]; omega
            · simp (disch := first | omega | (simp <;> omega) | fail) [killAll, logC]
            · simp (disch := first | omega | (simp <;> omega) | fail) [killAll, nxM, hm]
            · intro x hx hn; simp (disch := first | omega | (simp <;> omega) | fail) [killAll, hn, hx]
end Go.Proofs.Ytmpoeamfcienoaa
end
