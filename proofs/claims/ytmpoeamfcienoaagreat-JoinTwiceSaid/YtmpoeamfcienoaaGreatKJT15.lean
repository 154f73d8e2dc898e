/- Going on. -/
import Derived.Test.YtmpoeamfcienoaaGreatProg
import Derived.KernelRfl
import Derived.Test.YtmpoeamfcienoaaGreatKJT14
section
namespace Go.Proofs.YtmpoeamfcienoaaGreat
open Go.Ab
noncomputable abbrev prog : Program := Tryz.prog
abbrev F_ladelaw20_JoinTwice : Nat := 3
abbrev F_ladelaw20_known : Nat := 7
abbrev F_ladelaw20_fewParts : Nat := 8
abbrev F_ledger_New : Nat := 9
abbrev F_ledger_Ledger_Do : Nat := 10
abbrev F_laderef13_Ledger_Do : Nat := 11
abbrev F_join_Of : Nat := 12
abbrev F_join_Apart : Nat := 13
abbrev F_ledger_Ledger_Groups : Nat := 14
abbrev F_ledger_Ledger_Spots : Nat := 15
abbrev F_ledger_Ledger_Get : Nat := 16
abbrev F_laderef6_Same : Nat := 17
abbrev F_laderef6_SameAll : Nat := 18
abbrev F_laderef13_SameSpots : Nat := 19
abbrev F_laderef7_Many_Get : Nat := 23
abbrev F_ladelaw20_fewPart : Nat := 40
abbrev F_slices_Values_Part : Nat := 41
abbrev F_part_Is : Nat := 42
abbrev F_place_New : Nat := 43
abbrev F_place_Log_Do : Nat := 44
abbrev F_laderef13_Ledger_Part : Nat := 45
abbrev F_slices_Values_Ledger : Nat := 46
abbrev F_ledger_Ledger_Take : Nat := 47
abbrev F_slices_Values_Group : Nat := 48
abbrev F_ledger_Ledger_logs : Nat := 49
abbrev F_place_Log_Group : Nat := 50
abbrev F_place_Log_Spots : Nat := 51
abbrev F_ladelaw14_fewParts : Nat := 52
abbrev F_laderef7_Many_At : Nat := 53
abbrev F_group_Same : Nat := 59
abbrev F_slices_Values_Part_1 : Nat := 67
abbrev F_part_between : Nat := 68
abbrev F_part_Same : Nat := 69
abbrev F_part_core : Nat := 70
abbrev F_part_rising : Nat := 71
abbrev F_part_IsHard : Nat := 72
abbrev F_part_isMark : Nat := 73
abbrev F_group_New : Nat := 74
abbrev F_sparse_Do : Nat := 75
abbrev F_slices_Values_Entry : Nat := 76
abbrev F_place_brought : Nat := 77
abbrev F_place_marks : Nat := 78
abbrev F_laderef4_Is : Nat := 79
abbrev F_laderef7_Without : Nat := 80
abbrev F_laderef13_Ledger_clear : Nat := 81
abbrev F_laderef6_New : Nat := 82
abbrev F_laderef6_Loose : Nat := 83
abbrev F_laderef7_With : Nat := 84
abbrev F_laderef6_At : Nat := 85
abbrev F_laderef13_Ledger_lay : Nat := 86
abbrev F_slices_Values_Ledger_1 : Nat := 87
abbrev F_place_Log_Copy : Nat := 88
abbrev F_slices_Values_Group_1 : Nat := 89
abbrev F_ledger_Ledger_logs_1 : Nat := 90
abbrev F_slices_Sorted_int : Nat := 91
abbrev F_maps_Keys_Log : Nat := 92
abbrev F_slices_Clone_Entry : Nat := 93
abbrev F_slices_Values_int : Nat := 94
abbrev F_maps_Keys_Place : Nat := 95
abbrev F_ladelaw14_fewPart : Nat := 96
abbrev F_laderef6_is : Nat := 99
abbrev F_slices_Equal_Entry : Nat := 100
abbrev F_part_IsEntry : Nat := 108
abbrev F_sparse_Is : Nat := 109
abbrev F_sparse_from : Nat := 110
abbrev F_sparse_gone : Nat := 111
abbrev F_sparse_forward : Nat := 112
abbrev F_slices_Values_Entry_1 : Nat := 113
abbrev F_slices_Contains_Entry : Nat := 114
abbrev F_laderef4_within : Nat := 115
abbrev F_laderef4_entries : Nat := 116
abbrev F_laderef4_IsHard : Nat := 117
abbrev F_laderef4_mark : Nat := 118
abbrev F_laderef6_IsSparse : Nat := 119
abbrev F_laderef6_below : Nat := 120
abbrev F_laderef6_from : Nat := 121
abbrev F_laderef6_compact : Nat := 122
abbrev F_laderef6_fill : Nat := 123
abbrev F_laderef13_less : Nat := 124
abbrev F_maps_Clone_Place : Nat := 125
abbrev F_maps_Keys_Log_1 : Nat := 128
abbrev F_slices_Values_int_1 : Nat := 129
abbrev F_maps_Keys_Place_1 : Nat := 130
abbrev F_group_Head : Nat := 131
abbrev F_laderef4_IsEntry : Nat := 132
abbrev F_slices_Collect_Entry : Nat := 135
abbrev F_group_Within : Nat := 136
abbrev F_sparse_term : Nat := 137
abbrev F_sparse_there : Nat := 138
abbrev F_slices_Index_Entry : Nat := 139
abbrev F_slices_AppendSeq_Entry : Nat := 144
abbrev F_group_Within_1 : Nat := 145
abbrev F_slices_ContainsFunc_Entry : Nat := 146
abbrev F_sparse_there_1 : Nat := 147
abbrev F_slices_IndexFunc_Entry : Nat := 159
end Go.Proofs.YtmpoeamfcienoaaGreat
end
section
namespace Go.Proofs.YtmpoeamfcienoaaGreat
open Go.Ab
set_option maxRecDepth 100000
def A_ladelaw20_JoinTwice : AFn := .mk 285 [.tmp 8] (
 .seq (.region [
   ⟨some 6, .box (.t 2), none⟩,
   ⟨some 7, .box (.t 3), none⟩,
   ⟨some 8, .mov (.c (.v (.bool false))), none⟩])
 (.seq (.seq (.region [
   ⟨some 27, .call (.c (.f (.func F_ladelaw20_known) [] [])) [], none⟩,
   ⟨some 28, .un .not (.t 27), none⟩])
 (.cond (.t 28)
  (.seq (.region [
    ⟨some 8, .mov (.c (.v (.bool false))), none⟩])
  (.ret))
  (.skip)))
 (.seq (.seq (.region [
   ⟨some 29, .mov (.t 0), none⟩,
   ⟨some 30, .call (.c (.f (.func F_ladelaw20_fewParts) [] [])) [(.t 29)], none⟩,
   ⟨some 31, .un .not (.t 30), none⟩,
   ⟨some 32, .mov (.t 31), none⟩,
   ⟨some 33, .mov (.t 1), some (32, false)⟩,
   ⟨some 34, .call (.c (.f (.func F_ladelaw20_fewParts) [] [])) [(.t 33)], some (32, false)⟩,
   ⟨some 35, .un .not (.t 34), some (32, false)⟩,
   ⟨some 36, .pick (.t 32) (.c (.v (.bool true))) (.t 35), none⟩])
 (.cond (.t 36)
  (.seq (.region [
    ⟨some 8, .mov (.c (.v (.bool true))), none⟩])
  (.ret))
  (.skip)))
 (.seq (.region [
   ⟨some 37, .call (.c (.f (.func F_ledger_New) [] [])) [], none⟩,
   ⟨some 38, .call (.c (.f (.func F_ledger_New) [] [])) [], none⟩,
   ⟨some 9, .mov (.t 37), none⟩,
   ⟨some 10, .mov (.t 38), none⟩])
 (.seq (.region [
   ⟨some 39, .build [(.sl [] .zero), (.sl [] .zero)] [], none⟩,
   ⟨some 40, .box (.t 39), none⟩,
   ⟨some 41, .build [(.sl [] .zero), (.sl [] .zero)] [], none⟩,
   ⟨some 42, .box (.t 41), none⟩,
   ⟨some 11, .mov (.t 40), none⟩,
   ⟨some 12, .mov (.t 42), none⟩])
 (.seq (.region [
   ⟨some 43, .mov (.t 9), none⟩,
   ⟨some 44, .mov (.t 0), none⟩,
   ⟨some 45, .load true 2 (.t 6), none⟩,
   ⟨some 46, .call (.c (.f (.func F_ledger_Ledger_Do) [] [])) [(.t 43), (.t 44), (.t 45)], none⟩])
 (.seq (.region [
   ⟨some 47, .mov (.t 11), none⟩,
   ⟨some 48, .mov (.t 0), none⟩,
   ⟨some 49, .load true 2 (.t 6), none⟩,
   ⟨some 50, .call (.c (.f (.func F_laderef13_Ledger_Do) [] [])) [(.t 47), (.t 48), (.t 49)], none⟩])
 (.seq (.region [
   ⟨some 51, .mov (.t 10), none⟩,
   ⟨some 52, .mov (.t 1), none⟩,
   ⟨some 53, .load true 2 (.t 7), none⟩,
   ⟨some 54, .call (.c (.f (.func F_ledger_Ledger_Do) [] [])) [(.t 51), (.t 52), (.t 53)], none⟩])
 (.seq (.region [
   ⟨some 55, .mov (.t 12), none⟩,
   ⟨some 56, .mov (.t 1), none⟩,
   ⟨some 57, .load true 2 (.t 7), none⟩,
   ⟨some 58, .call (.c (.f (.func F_laderef13_Ledger_Do) [] [])) [(.t 55), (.t 56), (.t 57)], none⟩])
 (.seq (.region [
   ⟨some 13, .mov (.c (.v (.bool true))), none⟩])
 (.seq (.region [
   ⟨some 14, .mov (.c (.sl [] .zero)), none⟩])
 (.seq (.region [
   ⟨some 15, .mov (.c (.sl [] .zero)), none⟩])
 (.seq (.seq (.region [
   ⟨some 16, .mov (.c (.v (.int .i64 0))), none⟩])
 (.block 0 (.loop (.seq (.seq (.region [
     ⟨some 59, .mov (.t 16), none⟩,
     ⟨some 60, .mov (.t 12), none⟩,
     ⟨some 61, .nilck (.t 60), none⟩,
     ⟨some 62, .fld 0 (.t 61), none⟩,
     ⟨some 63, .load false 1 (.t 62), none⟩,
     ⟨some 64, .len .sl (.t 63), none⟩,
     ⟨some 65, .bin .lss (.t 59) (.t 64), none⟩])
   (.cond (.t 65)
    (.skip)
    (.exit 0)))
   (.seq (.block 1 (.seq (.region [
      ⟨some 17, .mov (.c (.v (.bool false))), none⟩])
    (.seq (.seq (.region [
      ⟨some 18, .mov (.c (.v (.int .i64 0))), none⟩])
    (.block 2 (.loop (.seq (.seq (.region [
        ⟨some 68, .mov (.t 18), none⟩,
        ⟨some 69, .mov (.t 11), none⟩,
        ⟨some 70, .nilck (.t 69), none⟩,
        ⟨some 71, .fld 0 (.t 70), none⟩,
        ⟨some 72, .load false 1 (.t 71), none⟩,
        ⟨some 73, .len .sl (.t 72), none⟩,
        ⟨some 74, .bin .lss (.t 68) (.t 73), none⟩])
      (.cond (.t 74)
       (.skip)
       (.exit 2)))
      (.seq (.block 3 (.region [
         ⟨some 77, .mov (.t 17), none⟩,
         ⟨some 78, .mov (.t 77), none⟩,
         ⟨some 79, .mov (.t 11), some (78, false)⟩,
         ⟨some 80, .nilck (.t 79), some (78, false)⟩,
         ⟨some 81, .fld 0 (.t 80), some (78, false)⟩,
         ⟨some 82, .load false 1 (.t 81), some (78, false)⟩,
         ⟨some 83, .mov (.t 18), some (78, false)⟩,
         ⟨some 84, .idxp 7 (.t 82) (.t 83), some (78, false)⟩,
         ⟨some 85, .fld 0 (.t 84), some (78, false)⟩,
         ⟨some 86, .load false 1 (.t 85), some (78, false)⟩,
         ⟨some 87, .mov (.t 12), some (78, false)⟩,
         ⟨some 88, .nilck (.t 87), some (78, false)⟩,
         ⟨some 89, .fld 0 (.t 88), some (78, false)⟩,
         ⟨some 90, .load false 1 (.t 89), some (78, false)⟩,
         ⟨some 91, .mov (.t 16), some (78, false)⟩,
         ⟨some 92, .idxp 7 (.t 90) (.t 91), some (78, false)⟩,
         ⟨some 93, .fld 0 (.t 92), some (78, false)⟩,
         ⟨some 94, .load false 1 (.t 93), some (78, false)⟩,
         ⟨some 95, .bin .eql (.t 86) (.t 94), some (78, false)⟩,
         ⟨some 96, .pick (.t 78) (.c (.v (.bool true))) (.t 95), none⟩,
         ⟨some 17, .mov (.t 96), none⟩]))
      (.region [
        ⟨some 75, .mov (.t 18), none⟩,
        ⟨some 76, .bin .add (.t 75) (.c (.v (.int .i64 1))), none⟩,
        ⟨some 18, .mov (.t 76), none⟩]))))))
    (.seq (.region [
      ⟨some 97, .mov (.t 13), none⟩,
      ⟨some 98, .mov (.t 97), none⟩,
      ⟨some 99, .mov (.t 17), some (98, true)⟩,
      ⟨some 100, .un .not (.t 99), some (98, true)⟩,
      ⟨some 101, .pick (.t 98) (.t 100) (.c (.v (.bool false))), none⟩,
      ⟨some 13, .mov (.t 101), none⟩])
    (.seq (.seq (.region [
      ⟨some 102, .mov (.t 17), none⟩])
    (.cond (.t 102)
     (.exit 1)
     (.skip)))
    (.seq (.region [
      ⟨some 103, .mov (.t 14), none⟩,
      ⟨some 104, .mov (.t 12), none⟩,
      ⟨some 105, .nilck (.t 104), none⟩,
      ⟨some 106, .fld 0 (.t 105), none⟩,
      ⟨some 107, .load false 1 (.t 106), none⟩,
      ⟨some 108, .mov (.t 16), none⟩,
      ⟨some 109, .idxp 7 (.t 107) (.t 108), none⟩,
      ⟨some 110, .load true 7 (.t 109), none⟩,
      ⟨some 111, .bsl 7 [(.t 110)], none⟩,
      ⟨some 112, .append 7 72 (.t 103) (.t 111), none⟩,
      ⟨some 14, .mov (.t 112), none⟩])
    (.seq (.region [
      ⟨some 19, .mov (.c (.v (.int .i64 0))), none⟩])
    (.block 4 (.loop (.seq (.seq (.region [
        ⟨some 113, .mov (.t 19), none⟩,
        ⟨some 114, .mov (.t 12), none⟩,
        ⟨some 115, .nilck (.t 114), none⟩,
        ⟨some 116, .fld 1 (.t 115), none⟩,
        ⟨some 117, .load false 1 (.t 116), none⟩,
        ⟨some 118, .len .sl (.t 117), none⟩,
        ⟨some 119, .bin .lss (.t 113) (.t 118), none⟩])
      (.cond (.t 119)
       (.skip)
       (.exit 4)))
      (.seq (.block 5 (.seq (.region [
         ⟨some 122, .mov (.t 12), none⟩,
         ⟨some 123, .nilck (.t 122), none⟩,
         ⟨some 124, .fld 1 (.t 123), none⟩,
         ⟨some 125, .load false 1 (.t 124), none⟩,
         ⟨some 126, .mov (.t 19), none⟩,
         ⟨some 127, .idxp 4 (.t 125) (.t 126), none⟩,
         ⟨some 128, .fld 0 (.t 127), none⟩,
         ⟨some 129, .load false 1 (.t 128), none⟩,
         ⟨some 130, .mov (.t 12), none⟩,
         ⟨some 131, .nilck (.t 130), none⟩,
         ⟨some 132, .fld 0 (.t 131), none⟩,
         ⟨some 133, .load false 1 (.t 132), none⟩,
         ⟨some 134, .mov (.t 16), none⟩,
         ⟨some 135, .idxp 7 (.t 133) (.t 134), none⟩,
         ⟨some 136, .fld 0 (.t 135), none⟩,
         ⟨some 137, .load false 1 (.t 136), none⟩,
         ⟨some 138, .bin .eql (.t 129) (.t 137), none⟩])
       (.cond (.t 138)
        (.region [
          ⟨some 139, .mov (.t 15), none⟩,
          ⟨some 140, .mov (.t 12), none⟩,
          ⟨some 141, .nilck (.t 140), none⟩,
          ⟨some 142, .fld 1 (.t 141), none⟩,
          ⟨some 143, .load false 1 (.t 142), none⟩,
          ⟨some 144, .mov (.t 19), none⟩,
          ⟨some 145, .idxp 4 (.t 143) (.t 144), none⟩,
          ⟨some 146, .load true 4 (.t 145), none⟩,
          ⟨some 147, .bsl 4 [(.t 146)], none⟩,
          ⟨some 148, .append 4 32 (.t 139) (.t 147), none⟩,
          ⟨some 15, .mov (.t 148), none⟩])
        (.skip))))
      (.region [
        ⟨some 120, .mov (.t 19), none⟩,
        ⟨some 121, .bin .add (.t 120) (.c (.v (.int .i64 1))), none⟩,
        ⟨some 19, .mov (.t 121), none⟩]))))))))))))
   (.region [
     ⟨some 66, .mov (.t 16), none⟩,
     ⟨some 67, .bin .add (.t 66) (.c (.v (.int .i64 1))), none⟩,
     ⟨some 16, .mov (.t 67), none⟩]))))))
 (.seq (.region [
   ⟨some 149, .mov (.t 9), none⟩,
   ⟨some 150, .mov (.t 10), none⟩,
   ⟨some 151, .bsl 1 [(.t 149), (.t 150)], none⟩,
   ⟨some 152, .call (.c (.f (.func F_join_Of) [] [])) [(.t 151)], none⟩,
   ⟨some 20, .mov (.t 152), none⟩])
 (.seq (.seq (.draw (
   ⟨⟨some 153, .mov (.t 20), none⟩, false, false, []⟩ ::
   ⟨⟨some 154, .eqa false .ptr (.t 153) (.c (.v (.pointer none))), none⟩, false, false, []⟩ ::
   ⟨⟨some 155, .mov (.t 154), none⟩, false, false, []⟩ ::
   ⟨⟨some 156, .mov (.t 9), some (155, false)⟩, false, false, []⟩ ::
   ⟨⟨some 157, .mov (.t 10), some (155, false)⟩, false, false, []⟩ ::
   ⟨⟨some 158, .bsl 1 [(.t 156), (.t 157)], some (155, false)⟩, false, false, []⟩ ::
   ⟨⟨some 160, .mov (.t 13), some (155, false)⟩, false, true, []⟩ ::
   ⟨⟨some 159, .call (.c (.f (.func F_join_Apart) [] [])) [(.t 158)], some (155, false)⟩, true, false, []⟩ ::
   ⟨⟨some 161, .eqa true .bool (.t 159) (.t 160), some (155, false)⟩, false, false, []⟩ ::
   ⟨⟨some 162, .pick (.t 155) (.c (.v (.bool true))) (.t 161), none⟩, false, false, []⟩ ::
   ⟨⟨some 163, .mov (.t 162), none⟩, false, false, []⟩ ::
   ⟨⟨some 164, .mov (.t 20), some (163, false)⟩, false, false, []⟩ ::
   ⟨⟨some 167, .mov (.t 11), some (163, false)⟩, false, true, []⟩ ::
   ⟨⟨some 168, .nilck (.t 167), some (163, false)⟩, false, true, []⟩ ::
   ⟨⟨some 169, .fld 0 (.t 168), some (163, false)⟩, false, true, []⟩ ::
   ⟨⟨some 170, .load false 1 (.t 169), some (163, false)⟩, false, true, []⟩ ::
   ⟨⟨some 171, .len .sl (.t 170), some (163, false)⟩, false, true, []⟩ ::
   ⟨⟨some 172, .mov (.t 14), some (163, false)⟩, false, true, []⟩ ::
   ⟨⟨some 173, .len .sl (.t 172), some (163, false)⟩, false, true, []⟩ ::
   ⟨⟨some 174, .bin .add (.t 171) (.t 173), some (163, false)⟩, false, true, []⟩ ::
   ⟨⟨some 165, .call (.c (.f (.func F_ledger_Ledger_Groups) [] [])) [(.t 164)], some (163, false)⟩, true, false, [⟨some 170, .load false 1 (.t 169), some (163, false)⟩]⟩ ::
   ⟨⟨some 166, .len .sl (.t 165), some (163, false)⟩, false, false, []⟩ ::
   ⟨⟨some 175, .bin .neq (.t 166) (.t 174), some (163, false)⟩, false, false, []⟩ ::
   ⟨⟨some 176, .pick (.t 163) (.c (.v (.bool true))) (.t 175), none⟩, false, false, []⟩ ::
   ⟨⟨some 177, .mov (.t 176), none⟩, false, false, []⟩ ::
   ⟨⟨some 178, .mov (.t 20), some (177, false)⟩, false, false, []⟩ ::
   ⟨⟨some 181, .mov (.t 11), some (177, false)⟩, false, true, []⟩ ::
   ⟨⟨some 182, .nilck (.t 181), some (177, false)⟩, false, true, []⟩ ::
   ⟨⟨some 183, .fld 1 (.t 182), some (177, false)⟩, false, true, []⟩ ::
   ⟨⟨some 184, .load false 1 (.t 183), some (177, false)⟩, false, true, []⟩ ::
   ⟨⟨some 185, .len .sl (.t 184), some (177, false)⟩, false, true, []⟩ ::
   ⟨⟨some 186, .mov (.t 15), some (177, false)⟩, false, true, []⟩ ::
   ⟨⟨some 187, .len .sl (.t 186), some (177, false)⟩, false, true, []⟩ ::
   ⟨⟨some 188, .bin .add (.t 185) (.t 187), some (177, false)⟩, false, true, []⟩ ::
   ⟨⟨some 179, .call (.c (.f (.func F_ledger_Ledger_Spots) [] [])) [(.t 178)], some (177, false)⟩, true, false, [⟨some 184, .load false 1 (.t 183), some (177, false)⟩]⟩ ::
   ⟨⟨some 180, .len .sl (.t 179), some (177, false)⟩, false, false, []⟩ ::
   ⟨⟨some 189, .bin .neq (.t 180) (.t 188), some (177, false)⟩, false, false, []⟩ ::
   ⟨⟨some 190, .pick (.t 177) (.c (.v (.bool true))) (.t 189), none⟩, false, false, []⟩ ::
   []))
 (.cond (.t 190)
  (.seq (.region [
    ⟨some 8, .mov (.c (.v (.bool false))), none⟩])
  (.ret))
  (.skip)))
 (.seq (.seq (.region [
   ⟨some 21, .mov (.c (.v (.int .i64 0))), none⟩])
 (.block 6 (.loop (.seq (.seq (.region [
     ⟨some 191, .mov (.t 21), none⟩,
     ⟨some 192, .mov (.t 11), none⟩,
     ⟨some 193, .nilck (.t 192), none⟩,
     ⟨some 194, .fld 0 (.t 193), none⟩,
     ⟨some 195, .load false 1 (.t 194), none⟩,
     ⟨some 196, .len .sl (.t 195), none⟩,
     ⟨some 197, .bin .lss (.t 191) (.t 196), none⟩])
   (.cond (.t 197)
    (.skip)
    (.exit 6)))
   (.seq (.block 7 (.seq (.region [
      ⟨some 201, .mov (.t 20), none⟩,
      ⟨some 202, .mov (.t 11), none⟩,
      ⟨some 203, .nilck (.t 202), none⟩,
      ⟨some 204, .fld 0 (.t 203), none⟩,
      ⟨some 205, .load false 1 (.t 204), none⟩,
      ⟨some 206, .mov (.t 21), none⟩,
      ⟨some 207, .idxp 7 (.t 205) (.t 206), none⟩,
      ⟨some 208, .fld 0 (.t 207), none⟩,
      ⟨some 209, .load false 1 (.t 208), none⟩,
      ⟨some 210, .call (.c (.f (.func F_ledger_Ledger_Get) [] [])) [(.t 201), (.t 209)], none⟩,
      ⟨some 200, .mov (.t 210), none⟩,
      ⟨some 211, .extract 0 (.t 200), none⟩,
      ⟨some 212, .extract 1 (.t 200), none⟩,
      ⟨some 22, .alloc [(.v (.int .i64 0)), (.v (.int .i64 0)), (.v (.int .i64 0)), (.v (.int .i64 0)), (.v (.int .i64 0)), (.v (.int .i64 0)), (.sl [] .zero)], none⟩,
      ⟨none, .store 7 (.t 22) (.t 211), none⟩,
      ⟨some 23, .mov (.t 212), none⟩])
    (.seq (.region [
      ⟨some 213, .mov (.t 23), none⟩,
      ⟨some 214, .un .not (.t 213), none⟩,
      ⟨some 215, .mov (.t 214), none⟩,
      ⟨some 216, .load true 7 (.t 22), some (215, false)⟩,
      ⟨some 217, .mov (.t 11), some (215, false)⟩,
      ⟨some 218, .nilck (.t 217), some (215, false)⟩,
      ⟨some 219, .fld 0 (.t 218), some (215, false)⟩,
      ⟨some 220, .load false 1 (.t 219), some (215, false)⟩,
      ⟨some 221, .mov (.t 21), some (215, false)⟩,
      ⟨some 222, .idxp 7 (.t 220) (.t 221), some (215, false)⟩,
      ⟨some 223, .load true 7 (.t 222), some (215, false)⟩,
      ⟨some 224, .call (.c (.f (.func F_laderef6_Same) [] [])) [(.t 216), (.t 223)], some (215, false)⟩,
      ⟨some 225, .un .not (.t 224), some (215, false)⟩,
      ⟨some 226, .pick (.t 215) (.c (.v (.bool true))) (.t 225), none⟩])
    (.cond (.t 226)
     (.seq (.region [
       ⟨some 8, .mov (.c (.v (.bool false))), none⟩])
     (.ret))
     (.skip)))))
   (.region [
     ⟨some 198, .mov (.t 21), none⟩,
     ⟨some 199, .bin .add (.t 198) (.c (.v (.int .i64 1))), none⟩,
     ⟨some 21, .mov (.t 199), none⟩]))))))
 (.seq (.seq (.region [
   ⟨some 24, .mov (.c (.v (.int .i64 0))), none⟩])
 (.block 8 (.loop (.seq (.seq (.region [
     ⟨some 227, .mov (.t 24), none⟩,
     ⟨some 228, .mov (.t 14), none⟩,
     ⟨some 229, .len .sl (.t 228), none⟩,
     ⟨some 230, .bin .lss (.t 227) (.t 229), none⟩])
   (.cond (.t 230)
    (.skip)
    (.exit 8)))
   (.seq (.block 9 (.seq (.region [
      ⟨some 234, .mov (.t 20), none⟩,
      ⟨some 235, .mov (.t 14), none⟩,
      ⟨some 236, .mov (.t 24), none⟩,
      ⟨some 237, .idxp 7 (.t 235) (.t 236), none⟩,
      ⟨some 238, .fld 0 (.t 237), none⟩,
      ⟨some 239, .load false 1 (.t 238), none⟩,
      ⟨some 240, .call (.c (.f (.func F_ledger_Ledger_Get) [] [])) [(.t 234), (.t 239)], none⟩,
      ⟨some 233, .mov (.t 240), none⟩,
      ⟨some 241, .extract 0 (.t 233), none⟩,
      ⟨some 242, .extract 1 (.t 233), none⟩,
      ⟨some 25, .alloc [(.v (.int .i64 0)), (.v (.int .i64 0)), (.v (.int .i64 0)), (.v (.int .i64 0)), (.v (.int .i64 0)), (.v (.int .i64 0)), (.sl [] .zero)], none⟩,
      ⟨none, .store 7 (.t 25) (.t 241), none⟩,
      ⟨some 26, .mov (.t 242), none⟩])
    (.seq (.region [
      ⟨some 243, .mov (.t 26), none⟩,
      ⟨some 244, .un .not (.t 243), none⟩,
      ⟨some 245, .mov (.t 244), none⟩,
      ⟨some 246, .load true 7 (.t 25), some (245, false)⟩,
      ⟨some 247, .mov (.t 14), some (245, false)⟩,
      ⟨some 248, .mov (.t 24), some (245, false)⟩,
      ⟨some 249, .idxp 7 (.t 247) (.t 248), some (245, false)⟩,
      ⟨some 250, .load true 7 (.t 249), some (245, false)⟩,
      ⟨some 251, .call (.c (.f (.func F_laderef6_Same) [] [])) [(.t 246), (.t 250)], some (245, false)⟩,
      ⟨some 252, .un .not (.t 251), some (245, false)⟩,
      ⟨some 253, .pick (.t 245) (.c (.v (.bool true))) (.t 252), none⟩])
    (.cond (.t 253)
     (.seq (.region [
       ⟨some 8, .mov (.c (.v (.bool false))), none⟩])
     (.ret))
     (.skip)))))
   (.region [
     ⟨some 231, .mov (.t 24), none⟩,
     ⟨some 232, .bin .add (.t 231) (.c (.v (.int .i64 1))), none⟩,
     ⟨some 24, .mov (.t 232), none⟩]))))))
 (.seq (.region [
   ⟨some 254, .mov (.t 20), none⟩,
   ⟨some 255, .build [(.v (.int .i64 0)), (.v (.int .i64 0)), (.v (.int .i64 0))] [(0, 1, (.c (.v (.int .i64 77))))], none⟩,
   ⟨some 256, .build [(.v (.int .i64 0)), (.v (.int .i64 0)), (.sl [] .zero), (.v (.int .i64 0)), (.v (.int .i64 0)), (.v (.int .i64 0)), (.v (.int .i64 0)), (.v (.int .i64 0)), (.v (.bool false)), (.v (.bool false))] [(0, 1, (.c (.v (.int .i64 7)))), (1, 1, (.c (.v (.int .i64 2)))), (3, 3, (.t 255))], none⟩,
   ⟨some 257, .bsl 10 [(.t 256)], none⟩,
   ⟨some 258, .load true 2 (.t 6), none⟩,
   ⟨some 259, .call (.c (.f (.func F_ledger_Ledger_Do) [] [])) [(.t 254), (.t 257), (.t 258)], none⟩])
 (.seq (.draw (
   ⟨⟨some 260, .mov (.t 9), none⟩, false, false, []⟩ ::
   ⟨⟨some 262, .mov (.t 11), none⟩, false, true, []⟩ ::
   ⟨⟨some 263, .nilck (.t 262), none⟩, false, true, []⟩ ::
   ⟨⟨some 264, .fld 0 (.t 263), none⟩, false, true, []⟩ ::
   ⟨⟨some 265, .load false 1 (.t 264), none⟩, false, true, []⟩ ::
   ⟨⟨some 261, .call (.c (.f (.func F_ledger_Ledger_Groups) [] [])) [(.t 260)], none⟩, true, false, [⟨some 265, .load false 1 (.t 264), none⟩]⟩ ::
   ⟨⟨some 266, .call (.c (.f (.func F_laderef6_SameAll) [] [])) [(.t 261), (.t 265)], none⟩, true, false, []⟩ ::
   ⟨⟨some 267, .mov (.t 266), none⟩, false, false, []⟩ ::
   ⟨⟨some 268, .mov (.t 10), some (267, true)⟩, false, false, []⟩ ::
   ⟨⟨some 270, .mov (.t 12), some (267, true)⟩, false, true, []⟩ ::
   ⟨⟨some 271, .nilck (.t 270), some (267, true)⟩, false, true, []⟩ ::
   ⟨⟨some 272, .fld 0 (.t 271), some (267, true)⟩, false, true, []⟩ ::
   ⟨⟨some 273, .load false 1 (.t 272), some (267, true)⟩, false, true, []⟩ ::
   ⟨⟨some 269, .call (.c (.f (.func F_ledger_Ledger_Groups) [] [])) [(.t 268)], some (267, true)⟩, true, false, [⟨some 273, .load false 1 (.t 272), some (267, true)⟩]⟩ ::
   ⟨⟨some 274, .call (.c (.f (.func F_laderef6_SameAll) [] [])) [(.t 269), (.t 273)], some (267, true)⟩, true, false, []⟩ ::
   ⟨⟨some 275, .pick (.t 267) (.t 274) (.c (.v (.bool false))), none⟩, false, false, []⟩ ::
   ⟨⟨some 276, .mov (.t 275), none⟩, false, false, []⟩ ::
   ⟨⟨some 277, .mov (.t 9), some (276, true)⟩, false, false, []⟩ ::
   ⟨⟨some 279, .mov (.t 11), some (276, true)⟩, false, true, []⟩ ::
   ⟨⟨some 280, .nilck (.t 279), some (276, true)⟩, false, true, []⟩ ::
   ⟨⟨some 281, .fld 1 (.t 280), some (276, true)⟩, false, true, []⟩ ::
   ⟨⟨some 282, .load false 1 (.t 281), some (276, true)⟩, false, true, []⟩ ::
   ⟨⟨some 278, .call (.c (.f (.func F_ledger_Ledger_Spots) [] [])) [(.t 277)], some (276, true)⟩, true, false, [⟨some 282, .load false 1 (.t 281), some (276, true)⟩]⟩ ::
   ⟨⟨some 283, .call (.c (.f (.func F_laderef13_SameSpots) [] [])) [(.t 278), (.t 282)], some (276, true)⟩, true, false, []⟩ ::
   ⟨⟨some 284, .pick (.t 276) (.t 283) (.c (.v (.bool false))), none⟩, false, false, []⟩ ::
   ⟨⟨some 8, .mov (.t 284), none⟩, false, false, []⟩ ::
   []))
 (.ret))))))))))))))))))))
theorem h_ladelaw20_JoinTwice : (prog.funcs[F_ladelaw20_JoinTwice]?).bind (compFn prog) = some A_ladelaw20_JoinTwice := by kernel_rfl
def A_ladelaw20_known : AFn := .mk 73 [.tmp 0] (
 .seq (.region [
   ⟨some 0, .mov (.c (.v (.bool false))), none⟩])
 (.seq (.region [
   ⟨some 6, .call (.c (.f (.func F_ledger_New) [] [])) [], none⟩,
   ⟨some 7, .call (.c (.f (.func F_ledger_New) [] [])) [], none⟩,
   ⟨some 1, .mov (.t 6), none⟩,
   ⟨some 2, .mov (.t 7), none⟩])
 (.seq (.seq (.region [
   ⟨some 8, .mov (.t 1), none⟩,
   ⟨some 9, .eqa false .ptr (.t 8) (.c (.v (.pointer none))), none⟩,
   ⟨some 10, .mov (.t 9), none⟩,
   ⟨some 11, .mov (.t 2), some (10, false)⟩,
   ⟨some 12, .eqa false .ptr (.t 11) (.c (.v (.pointer none))), some (10, false)⟩,
   ⟨some 13, .pick (.t 10) (.c (.v (.bool true))) (.t 12), none⟩])
 (.cond (.t 13)
  (.seq (.region [
    ⟨some 0, .mov (.c (.v (.bool false))), none⟩])
  (.ret))
  (.skip)))
 (.seq (.region [
   ⟨some 14, .mov (.t 1), none⟩,
   ⟨some 15, .build [(.v (.int .i64 0)), (.v (.int .i64 0)), (.v (.int .i64 0))] [(0, 1, (.c (.v (.int .i64 1))))], none⟩,
   ⟨some 16, .build [(.v (.int .i64 0)), (.v (.int .i64 0)), (.sl [] .zero), (.v (.int .i64 0)), (.v (.int .i64 0)), (.v (.int .i64 0)), (.v (.int .i64 0)), (.v (.int .i64 0)), (.v (.bool false)), (.v (.bool false))] [(0, 1, (.c (.v (.int .i64 4)))), (1, 1, (.c (.v (.int .i64 2)))), (3, 3, (.t 15))], none⟩,
   ⟨some 17, .bsl 10 [(.t 16)], none⟩,
   ⟨some 18, .build [(.v (.int .i64 0)), (.v (.int .i64 0))] [(0, 1, (.c (.v (.int .i64 1))))], none⟩,
   ⟨some 19, .call (.c (.f (.func F_ledger_Ledger_Do) [] [])) [(.t 14), (.t 17), (.t 18)], none⟩])
 (.seq (.region [
   ⟨some 20, .mov (.t 2), none⟩,
   ⟨some 21, .build [(.v (.int .i64 0)), (.v (.int .i64 0)), (.sl [] .zero), (.v (.int .i64 0)), (.v (.int .i64 0)), (.v (.int .i64 0)), (.v (.int .i64 0)), (.v (.int .i64 0)), (.v (.bool false)), (.v (.bool false))] [(0, 1, (.c (.v (.int .i64 2)))), (1, 1, (.c (.v (.int .i64 2))))], none⟩,
   ⟨some 22, .bsl 10 [(.t 21)], none⟩,
   ⟨some 23, .build [(.v (.int .i64 0)), (.v (.int .i64 0))] [(0, 1, (.c (.v (.int .i64 2))))], none⟩,
   ⟨some 24, .call (.c (.f (.func F_ledger_Ledger_Do) [] [])) [(.t 20), (.t 22), (.t 23)], none⟩])
 (.seq (.region [
   ⟨some 25, .mov (.t 1), none⟩,
   ⟨some 26, .mov (.t 2), none⟩,
   ⟨some 27, .bsl 1 [(.t 25), (.t 26)], none⟩,
   ⟨some 28, .call (.c (.f (.func F_join_Of) [] [])) [(.t 27)], none⟩,
   ⟨some 3, .mov (.t 28), none⟩])
 (.seq (.seq (.region [
   ⟨some 29, .mov (.t 3), none⟩,
   ⟨some 30, .eqa false .ptr (.t 29) (.c (.v (.pointer none))), none⟩])
 (.cond (.t 30)
  (.seq (.region [
    ⟨some 0, .mov (.c (.v (.bool false))), none⟩])
  (.ret))
  (.skip)))
 (.seq (.region [
   ⟨some 31, .mov (.t 3), none⟩,
   ⟨some 32, .call (.c (.f (.func F_ledger_Ledger_Spots) [] [])) [(.t 31)], none⟩,
   ⟨some 4, .mov (.t 32), none⟩])
 (.seq (.region [
   ⟨some 33, .call (.c (.f (.func F_join_Of) [] [])) [(.c (.sl [] .zero))], none⟩,
   ⟨some 5, .mov (.t 33), none⟩])
 (.seq (.region [
   ⟨some 34, .mov (.t 3), none⟩,
   ⟨some 35, .call (.c (.f (.func F_ledger_Ledger_Groups) [] [])) [(.t 34)], none⟩,
   ⟨some 36, .len .sl (.t 35), none⟩,
   ⟨some 37, .bin .eql (.t 36) (.c (.v (.int .i64 2))), none⟩,
   ⟨some 38, .mov (.t 37), none⟩,
   ⟨some 39, .mov (.t 4), some (38, true)⟩,
   ⟨some 40, .len .sl (.t 39), some (38, true)⟩,
   ⟨some 41, .bin .eql (.t 40) (.c (.v (.int .i64 2))), some (38, true)⟩,
   ⟨some 42, .pick (.t 38) (.t 41) (.c (.v (.bool false))), none⟩,
   ⟨some 43, .mov (.t 42), none⟩,
   ⟨some 44, .mov (.t 4), some (43, true)⟩,
   ⟨some 45, .idxp 4 (.t 44) (.c (.v (.int .i64 0))), some (43, true)⟩,
   ⟨some 46, .fld 0 (.t 45), some (43, true)⟩,
   ⟨some 47, .load false 1 (.t 46), some (43, true)⟩,
   ⟨some 48, .bin .eql (.t 47) (.c (.v (.int .i64 2))), some (43, true)⟩,
   ⟨some 49, .pick (.t 43) (.t 48) (.c (.v (.bool false))), none⟩,
   ⟨some 50, .mov (.t 49), none⟩,
   ⟨some 51, .mov (.t 5), some (50, true)⟩,
   ⟨some 52, .eqa true .ptr (.t 51) (.c (.v (.pointer none))), some (50, true)⟩,
   ⟨some 53, .pick (.t 50) (.t 52) (.c (.v (.bool false))), none⟩,
   ⟨some 54, .mov (.t 53), none⟩,
   ⟨some 55, .mov (.t 5), some (54, true)⟩,
   ⟨some 56, .call (.c (.f (.func F_ledger_Ledger_Groups) [] [])) [(.t 55)], some (54, true)⟩,
   ⟨some 57, .len .sl (.t 56), some (54, true)⟩,
   ⟨some 58, .bin .eql (.t 57) (.c (.v (.int .i64 0))), some (54, true)⟩,
   ⟨some 59, .pick (.t 54) (.t 58) (.c (.v (.bool false))), none⟩,
   ⟨some 60, .mov (.t 59), none⟩,
   ⟨some 61, .mov (.t 1), some (60, true)⟩,
   ⟨some 62, .mov (.t 2), some (60, true)⟩,
   ⟨some 63, .bsl 1 [(.t 61), (.t 62)], some (60, true)⟩,
   ⟨some 64, .call (.c (.f (.func F_join_Apart) [] [])) [(.t 63)], some (60, true)⟩,
   ⟨some 65, .pick (.t 60) (.t 64) (.c (.v (.bool false))), none⟩,
   ⟨some 66, .mov (.t 65), none⟩,
   ⟨some 67, .mov (.t 1), some (66, true)⟩,
   ⟨some 68, .mov (.t 1), some (66, true)⟩,
   ⟨some 69, .bsl 1 [(.t 67), (.t 68)], some (66, true)⟩,
   ⟨some 70, .call (.c (.f (.func F_join_Apart) [] [])) [(.t 69)], some (66, true)⟩,
   ⟨some 71, .un .not (.t 70), some (66, true)⟩,
   ⟨some 72, .pick (.t 66) (.t 71) (.c (.v (.bool false))), none⟩,
   ⟨some 0, .mov (.t 72), none⟩])
 (.ret)))))))))))
theorem h_ladelaw20_known : (prog.funcs[F_ladelaw20_known]?).bind (compFn prog) = some A_ladelaw20_known := by kernel_rfl
def A_ladelaw20_fewParts : AFn := .mk 19 [.tmp 2] (
 .seq (.region [
   ⟨some 2, .mov (.c (.v (.bool false))), none⟩])
 (.seq (.seq (.region [
   ⟨some 3, .mov (.c (.v (.int .i64 0))), none⟩])
 (.block 0 (.loop (.seq (.seq (.region [
     ⟨some 4, .mov (.t 3), none⟩,
     ⟨some 5, .mov (.t 0), none⟩,
     ⟨some 6, .len .sl (.t 5), none⟩,
     ⟨some 7, .bin .lss (.t 4) (.t 6), none⟩])
   (.cond (.t 7)
    (.skip)
    (.exit 0)))
   (.seq (.block 1 (.seq (.region [
      ⟨some 10, .mov (.t 0), none⟩,
      ⟨some 11, .mov (.t 3), none⟩,
      ⟨some 12, .idxp 10 (.t 10) (.t 11), none⟩,
      ⟨some 13, .load true 10 (.t 12), none⟩,
      ⟨some 14, .call (.c (.f (.func F_ladelaw20_fewPart) [] [])) [(.t 13)], none⟩,
      ⟨some 15, .un .not (.t 14), none⟩])
    (.cond (.t 15)
     (.seq (.region [
       ⟨some 2, .mov (.c (.v (.bool false))), none⟩])
     (.ret))
     (.skip))))
   (.region [
     ⟨some 8, .mov (.t 3), none⟩,
     ⟨some 9, .bin .add (.t 8) (.c (.v (.int .i64 1))), none⟩,
     ⟨some 3, .mov (.t 9), none⟩]))))))
 (.seq (.region [
   ⟨some 16, .mov (.t 0), none⟩,
   ⟨some 17, .len .sl (.t 16), none⟩,
   ⟨some 18, .bin .leq (.t 17) (.c (.v (.int .i64 6))), none⟩,
   ⟨some 2, .mov (.t 18), none⟩])
 (.ret))))
theorem h_ladelaw20_fewParts : (prog.funcs[F_ladelaw20_fewParts]?).bind (compFn prog) = some A_ladelaw20_fewParts := by kernel_rfl
def A_ledger_New : AFn := .mk 4 [.tmp 0] (
 .seq (.region [
   ⟨some 0, .mov (.c (.v (.pointer none))), none⟩])
 (.seq (.region [
   ⟨some 1, .mkmap, none⟩,
   ⟨some 2, .build [(.v (.map none))] [(0, 1, (.t 1))], none⟩,
   ⟨some 3, .box (.t 2), none⟩,
   ⟨some 0, .mov (.t 3), none⟩])
 (.ret)))
theorem h_ledger_New : (prog.funcs[F_ledger_New]?).bind (compFn prog) = some A_ledger_New := by kernel_rfl
def A_ledger_Ledger_Do : AFn := .mk 52 [] (
 .seq (.region [
   ⟨some 3, .box (.t 0), none⟩,
   ⟨some 5, .box (.t 2), none⟩])
 (.seq (.region [
   ⟨some 7, .mov (.t 1), none⟩,
   ⟨some 8, .call (.c (.f (.func F_slices_Values_Part) [] [])) [(.t 7)], none⟩])
 (.block 0 (.range (.t 8) [9]
   (.region [
     ⟨some 6, .alloc [(.v (.int .i64 0)), (.v (.int .i64 0)), (.sl [] .zero), (.v (.int .i64 0)), (.v (.int .i64 0)), (.v (.int .i64 0)), (.v (.int .i64 0)), (.v (.int .i64 0)), (.v (.bool false)), (.v (.bool false))], none⟩,
     ⟨none, .store 10 (.t 6) (.t 9), none⟩])
   (.block 1 (.seq (.block 2 (.seq (.region [
       ⟨some 11, .load true 10 (.t 6), none⟩,
       ⟨some 12, .call (.c (.f (.func F_part_Is) [] [])) [(.t 11)], none⟩,
       ⟨some 13, .un .not (.t 12), none⟩,
       ⟨some 10, .mov (.t 13), none⟩])
     (.cond (.t 10)
      (.exit 1)
      (.seq (.region [
        ⟨some 15, .fld 1 (.t 6), none⟩,
        ⟨some 16, .load false 1 (.t 15), none⟩,
        ⟨some 17, .bin .eql (.t 16) (.c (.v (.int .i64 5))), none⟩,
        ⟨some 14, .mov (.t 17), none⟩])
      (.cond (.t 14)
       (.seq (.region [
         ⟨some 18, .load false 1 (.t 3), none⟩,
         ⟨some 19, .nilck (.t 18), none⟩,
         ⟨some 20, .fld 0 (.t 19), none⟩,
         ⟨some 21, .load false 1 (.t 20), none⟩,
         ⟨some 22, .fld 0 (.t 6), none⟩,
         ⟨some 23, .load false 1 (.t 22), none⟩,
         ⟨none, .mapdel .int (.t 21) (.t 23), none⟩])
       (.exit 1))
       (.seq (.region [
         ⟨some 25, .load false 1 (.t 3), none⟩,
         ⟨some 26, .nilck (.t 25), none⟩,
         ⟨some 27, .fld 0 (.t 26), none⟩,
         ⟨some 28, .load false 1 (.t 27), none⟩,
         ⟨some 29, .fld 0 (.t 6), none⟩,
         ⟨some 30, .load false 1 (.t 29), none⟩,
         ⟨some 31, .lookup .int (.v (.pointer none)) false (.t 28) (.t 30), none⟩,
         ⟨some 32, .eqa false .ptr (.t 31) (.c (.v (.pointer none))), none⟩,
         ⟨some 24, .mov (.t 32), none⟩])
       (.cond (.t 24)
        (.draw (
          ⟨⟨some 33, .load false 1 (.t 3), none⟩, false, true, []⟩ ::
          ⟨⟨some 34, .nilck (.t 33), none⟩, false, true, []⟩ ::
          ⟨⟨some 35, .fld 0 (.t 34), none⟩, false, true, []⟩ ::
          ⟨⟨some 36, .load false 1 (.t 35), none⟩, false, true, []⟩ ::
          ⟨⟨some 37, .fld 0 (.t 6), none⟩, false, true, []⟩ ::
          ⟨⟨some 38, .load false 1 (.t 37), none⟩, false, true, []⟩ ::
          ⟨⟨some 39, .fld 0 (.t 6), none⟩, false, false, []⟩ ::
          ⟨⟨some 40, .load false 1 (.t 39), none⟩, false, false, []⟩ ::
          ⟨⟨some 41, .call (.c (.f (.func F_place_New) [] [])) [(.t 40)], none⟩, true, false, [⟨some 38, .load false 1 (.t 37), none⟩, ⟨some 36, .load false 1 (.t 35), none⟩, ⟨some 33, .load false 1 (.t 3), none⟩]⟩ ::
          ⟨⟨none, .mapset .int (.t 36) (.t 38) (.t 41), none⟩, true, false, []⟩ ::
          []))
        (.skip))))))))
    (.region [
      ⟨some 42, .load false 1 (.t 3), none⟩,
      ⟨some 43, .nilck (.t 42), none⟩,
      ⟨some 44, .fld 0 (.t 43), none⟩,
      ⟨some 45, .load false 1 (.t 44), none⟩,
      ⟨some 46, .fld 0 (.t 6), none⟩,
      ⟨some 47, .load false 1 (.t 46), none⟩,
      ⟨some 48, .lookup .int (.v (.pointer none)) false (.t 45) (.t 47), none⟩,
      ⟨some 49, .load true 10 (.t 6), none⟩,
      ⟨some 50, .load true 2 (.t 5), none⟩,
      ⟨some 51, .call (.c (.f (.func F_place_Log_Do) [] [])) [(.t 48), (.t 49), (.t 50)], none⟩])))))))
theorem h_ledger_Ledger_Do : (prog.funcs[F_ledger_Ledger_Do]?).bind (compFn prog) = some A_ledger_Ledger_Do := by kernel_rfl
def A_laderef13_Ledger_Do : AFn := .mk 20 [] (
 .seq (.region [
   ⟨some 5, .box (.t 2), none⟩])
 (.seq (.region [
   ⟨some 6, .mov (.c (.v (.int .i64 0))), none⟩])
 (.block 0 (.loop (.seq (.seq (.region [
     ⟨some 7, .mov (.t 6), none⟩,
     ⟨some 8, .mov (.t 1), none⟩,
     ⟨some 9, .len .sl (.t 8), none⟩,
     ⟨some 10, .bin .lss (.t 7) (.t 9), none⟩])
   (.cond (.t 10)
    (.skip)
    (.exit 0)))
   (.seq (.block 1 (.region [
      ⟨some 13, .mov (.t 0), none⟩,
      ⟨some 14, .mov (.t 1), none⟩,
      ⟨some 15, .mov (.t 6), none⟩,
      ⟨some 16, .idxp 10 (.t 14) (.t 15), none⟩,
      ⟨some 17, .load true 10 (.t 16), none⟩,
      ⟨some 18, .load true 2 (.t 5), none⟩,
      ⟨some 19, .call (.c (.f (.func F_laderef13_Ledger_Part) [] [])) [(.t 13), (.t 17), (.t 18)], none⟩]))
   (.region [
     ⟨some 11, .mov (.t 6), none⟩,
     ⟨some 12, .bin .add (.t 11) (.c (.v (.int .i64 1))), none⟩,
     ⟨some 6, .mov (.t 12), none⟩])))))))
theorem h_laderef13_Ledger_Do : (prog.funcs[F_laderef13_Ledger_Do]?).bind (compFn prog) = some A_laderef13_Ledger_Do := by kernel_rfl
def A_join_Of : AFn := .mk 13 [.tmp 2] (
 .seq (.region [
   ⟨some 2, .mov (.c (.v (.pointer none))), none⟩])
 (.seq (.region [
   ⟨some 5, .call (.c (.f (.func F_ledger_New) [] [])) [], none⟩,
   ⟨some 3, .alloc [(.v (.pointer none))], none⟩,
   ⟨none, .store 1 (.t 3) (.t 5), none⟩])
 (.seq (.seq (.region [
   ⟨some 6, .mov (.t 0), none⟩,
   ⟨some 7, .call (.c (.f (.func F_slices_Values_Ledger) [] [])) [(.t 6)], none⟩])
 (.block 0 (.range (.t 7) [8]
   (.region [
     ⟨some 4, .mov (.t 8), none⟩])
   (.block 1 (.region [
      ⟨some 9, .load false 1 (.t 3), none⟩,
      ⟨some 10, .mov (.t 4), none⟩,
      ⟨some 11, .call (.c (.f (.func F_ledger_Ledger_Take) [] [])) [(.t 9), (.t 10)], none⟩])))))
 (.seq (.region [
   ⟨some 12, .load false 1 (.t 3), none⟩,
   ⟨some 2, .mov (.t 12), none⟩])
 (.ret)))))
theorem h_join_Of : (prog.funcs[F_join_Of]?).bind (compFn prog) = some A_join_Of := by kernel_rfl
def A_join_Apart : AFn := .mk 21 [.cell false 1 2] (
 .seq (.region [
   ⟨some 2, .alloc [(.v (.bool false))], none⟩])
 (.seq (.region [
   ⟨some 6, .mkmap, none⟩,
   ⟨some 3, .alloc [(.v (.map none))], none⟩,
   ⟨none, .store 1 (.t 3) (.t 6), none⟩])
 (.seq (.seq (.region [
   ⟨some 7, .mov (.t 0), none⟩,
   ⟨some 8, .call (.c (.f (.func F_slices_Values_Ledger) [] [])) [(.t 7)], none⟩])
 (.block 0 (.range (.t 8) [9]
   (.region [
     ⟨some 4, .mov (.t 9), none⟩])
   (.block 1 (.seq (.region [
      ⟨some 10, .mov (.t 4), none⟩,
      ⟨some 11, .call (.c (.f (.func F_ledger_Ledger_Groups) [] [])) [(.t 10)], none⟩,
      ⟨some 12, .call (.c (.f (.func F_slices_Values_Group) [] [])) [(.t 11)], none⟩])
    (.block 2 (.range (.t 12) [13]
      (.region [
        ⟨some 5, .alloc [(.v (.int .i64 0)), (.v (.int .i64 0)), (.v (.int .i64 0)), (.v (.int .i64 0)), (.v (.int .i64 0)), (.v (.int .i64 0)), (.sl [] .zero)], none⟩,
        ⟨none, .store 7 (.t 5) (.t 13), none⟩])
      (.block 3 (.seq (.seq (.region [
         ⟨some 14, .load false 1 (.t 3), none⟩,
         ⟨some 15, .fld 0 (.t 5), none⟩,
         ⟨some 16, .load false 1 (.t 15), none⟩,
         ⟨some 17, .lookup .int (.v (.bool false)) false (.t 14) (.t 16), none⟩])
       (.cond (.t 17)
        (.seq (.region [
          ⟨none, .store 1 (.t 2) (.c (.v (.bool false))), none⟩])
        (.ret))
        (.skip)))
       (.region [
         ⟨some 18, .load false 1 (.t 3), none⟩,
         ⟨some 19, .fld 0 (.t 5), none⟩,
         ⟨some 20, .load false 1 (.t 19), none⟩,
         ⟨none, .mapset .int (.t 18) (.t 20) (.c (.v (.bool true))), none⟩]))))))))))
 (.seq (.region [
   ⟨none, .store 1 (.t 2) (.c (.v (.bool true))), none⟩])
 (.ret)))))
theorem h_join_Apart : (prog.funcs[F_join_Apart]?).bind (compFn prog) = some A_join_Apart := by kernel_rfl
def A_ledger_Ledger_Groups : AFn := .mk 16 [.tmp 2] (
 .seq (.region [
   ⟨some 2, .mov (.c (.sl [] .zero)), none⟩])
 (.seq (.region [
   ⟨some 3, .alloc [(.sl [] .zero)], none⟩])
 (.seq (.seq (.region [
   ⟨some 6, .mov (.t 0), none⟩,
   ⟨some 7, .call (.c (.f (.func F_ledger_Ledger_logs) [] [])) [(.t 6)], none⟩])
 (.block 0 (.range (.t 7) [8, 9]
   (.region [
     ⟨some 5, .mov (.t 9), none⟩])
   (.block 1 (.draw (
      ⟨⟨some 10, .load false 1 (.t 3), none⟩, false, true, []⟩ ::
      ⟨⟨some 11, .mov (.t 5), none⟩, false, false, []⟩ ::
      ⟨⟨some 12, .call (.c (.f (.func F_place_Log_Group) [] [])) [(.t 11)], none⟩, true, false, [⟨some 10, .load false 1 (.t 3), none⟩]⟩ ::
      ⟨⟨some 13, .bsl 7 [(.t 12)], none⟩, false, false, []⟩ ::
      ⟨⟨some 14, .append 7 72 (.t 10) (.t 13), none⟩, true, false, []⟩ ::
      ⟨⟨none, .store 1 (.t 3) (.t 14), none⟩, true, false, []⟩ ::
      []))))))
 (.seq (.region [
   ⟨some 15, .load false 1 (.t 3), none⟩,
   ⟨some 2, .mov (.t 15), none⟩])
 (.ret)))))
theorem h_ledger_Ledger_Groups : (prog.funcs[F_ledger_Ledger_Groups]?).bind (compFn prog) = some A_ledger_Ledger_Groups := by kernel_rfl
def A_ledger_Ledger_Spots : AFn := .mk 15 [.tmp 2] (
 .seq (.region [
   ⟨some 2, .mov (.c (.sl [] .zero)), none⟩])
 (.seq (.region [
   ⟨some 3, .alloc [(.sl [] .zero)], none⟩])
 (.seq (.seq (.region [
   ⟨some 6, .mov (.t 0), none⟩,
   ⟨some 7, .call (.c (.f (.func F_ledger_Ledger_logs) [] [])) [(.t 6)], none⟩])
 (.block 0 (.range (.t 7) [8, 9]
   (.region [
     ⟨some 5, .mov (.t 9), none⟩])
   (.block 1 (.draw (
      ⟨⟨some 10, .load false 1 (.t 3), none⟩, false, true, []⟩ ::
      ⟨⟨some 11, .mov (.t 5), none⟩, false, false, []⟩ ::
      ⟨⟨some 12, .call (.c (.f (.func F_place_Log_Spots) [] [])) [(.t 11)], none⟩, true, false, [⟨some 10, .load false 1 (.t 3), none⟩]⟩ ::
      ⟨⟨some 13, .append 4 32 (.t 10) (.t 12), none⟩, true, false, []⟩ ::
      ⟨⟨none, .store 1 (.t 3) (.t 13), none⟩, true, false, []⟩ ::
      []))))))
 (.seq (.region [
   ⟨some 14, .load false 1 (.t 3), none⟩,
   ⟨some 2, .mov (.t 14), none⟩])
 (.ret)))))
theorem h_ledger_Ledger_Spots : (prog.funcs[F_ledger_Ledger_Spots]?).bind (compFn prog) = some A_ledger_Ledger_Spots := by kernel_rfl
end Go.Proofs.YtmpoeamfcienoaaGreat
end
section
namespace Go.Proofs.YtmpoeamfcienoaaGreat
open Go.Ab
set_option maxRecDepth 100000
def A_ledger_Ledger_Get : AFn := .mk 22 [.cell true 7 4, .tmp 5] (
 .seq (.region [
   ⟨some 4, .alloc [(.v (.int .i64 0)), (.v (.int .i64 0)), (.v (.int .i64 0)), (.v (.int .i64 0)), (.v (.int .i64 0)), (.v (.int .i64 0)), (.sl [] .zero)], none⟩,
   ⟨some 5, .mov (.c (.v (.bool false))), none⟩])
 (.seq (.region [
   ⟨some 9, .mov (.t 0), none⟩,
   ⟨some 10, .nilck (.t 9), none⟩,
   ⟨some 11, .fld 0 (.t 10), none⟩,
   ⟨some 12, .load false 1 (.t 11), none⟩,
   ⟨some 13, .mov (.t 1), none⟩,
   ⟨some 14, .lookup .int (.v (.pointer none)) true (.t 12) (.t 13), none⟩,
   ⟨some 8, .mov (.t 14), none⟩,
   ⟨some 15, .extract 0 (.t 8), none⟩,
   ⟨some 16, .extract 1 (.t 8), none⟩,
   ⟨some 6, .mov (.t 15), none⟩,
   ⟨some 7, .mov (.t 16), none⟩])
 (.seq (.seq (.region [
   ⟨some 17, .mov (.t 7), none⟩,
   ⟨some 18, .un .not (.t 17), none⟩])
 (.cond (.t 18)
  (.seq (.region [
    ⟨some 19, .build [(.v (.int .i64 0)), (.v (.int .i64 0)), (.v (.int .i64 0)), (.v (.int .i64 0)), (.v (.int .i64 0)), (.v (.int .i64 0)), (.sl [] .zero)] [], none⟩,
    ⟨none, .store 7 (.t 4) (.t 19), none⟩,
    ⟨some 5, .mov (.c (.v (.bool false))), none⟩])
  (.ret))
  (.skip)))
 (.seq (.region [
   ⟨some 20, .mov (.t 6), none⟩,
   ⟨some 21, .call (.c (.f (.func F_place_Log_Group) [] [])) [(.t 20)], none⟩,
   ⟨none, .store 7 (.t 4) (.t 21), none⟩,
   ⟨some 5, .mov (.c (.v (.bool true))), none⟩])
 (.ret)))))
theorem h_ledger_Ledger_Get : (prog.funcs[F_ledger_Ledger_Get]?).bind (compFn prog) = some A_ledger_Ledger_Get := by kernel_rfl
def A_laderef6_Same : AFn := .mk 59 [.tmp 4] (
 .seq (.region [
   ⟨some 2, .box (.t 0), none⟩,
   ⟨some 3, .box (.t 1), none⟩,
   ⟨some 4, .mov (.c (.v (.bool false))), none⟩])
 (.seq (.seq (.region [
   ⟨some 6, .fld 0 (.t 2), none⟩,
   ⟨some 7, .load false 1 (.t 6), none⟩,
   ⟨some 8, .fld 0 (.t 3), none⟩,
   ⟨some 9, .load false 1 (.t 8), none⟩,
   ⟨some 10, .bin .neq (.t 7) (.t 9), none⟩,
   ⟨some 11, .mov (.t 10), none⟩,
   ⟨some 12, .fld 1 (.t 2), some (11, false)⟩,
   ⟨some 13, .load false 1 (.t 12), some (11, false)⟩,
   ⟨some 14, .fld 1 (.t 3), some (11, false)⟩,
   ⟨some 15, .load false 1 (.t 14), some (11, false)⟩,
   ⟨some 16, .bin .neq (.t 13) (.t 15), some (11, false)⟩,
   ⟨some 17, .pick (.t 11) (.c (.v (.bool true))) (.t 16), none⟩,
   ⟨some 18, .mov (.t 17), none⟩,
   ⟨some 19, .fld 2 (.t 2), some (18, false)⟩,
   ⟨some 20, .load false 1 (.t 19), some (18, false)⟩,
   ⟨some 21, .fld 2 (.t 3), some (18, false)⟩,
   ⟨some 22, .load false 1 (.t 21), some (18, false)⟩,
   ⟨some 23, .bin .neq (.t 20) (.t 22), some (18, false)⟩,
   ⟨some 24, .pick (.t 18) (.c (.v (.bool true))) (.t 23), none⟩,
   ⟨some 25, .mov (.t 24), none⟩,
   ⟨some 26, .fld 3 (.t 2), some (25, false)⟩,
   ⟨some 27, .load true 3 (.t 26), some (25, false)⟩,
   ⟨some 28, .fld 3 (.t 3), some (25, false)⟩,
   ⟨some 29, .load true 3 (.t 28), some (25, false)⟩,
   ⟨some 30, .eqa true (.agg [.i, .i, .i]) (.t 27) (.t 29), some (25, false)⟩,
   ⟨some 31, .pick (.t 25) (.c (.v (.bool true))) (.t 30), none⟩,
   ⟨some 32, .mov (.t 31), none⟩,
   ⟨some 33, .fld 6 (.t 2), some (32, false)⟩,
   ⟨some 34, .load false 1 (.t 33), some (32, false)⟩,
   ⟨some 35, .len .sl (.t 34), some (32, false)⟩,
   ⟨some 36, .fld 6 (.t 3), some (32, false)⟩,
   ⟨some 37, .load false 1 (.t 36), some (32, false)⟩,
   ⟨some 38, .len .sl (.t 37), some (32, false)⟩,
   ⟨some 39, .bin .neq (.t 35) (.t 38), some (32, false)⟩,
   ⟨some 40, .pick (.t 32) (.c (.v (.bool true))) (.t 39), none⟩])
 (.cond (.t 40)
  (.seq (.region [
    ⟨some 4, .mov (.c (.v (.bool false))), none⟩])
  (.ret))
  (.skip)))
 (.seq (.seq (.region [
   ⟨some 5, .mov (.c (.v (.int .i64 0))), none⟩])
 (.block 0 (.loop (.seq (.seq (.region [
     ⟨some 41, .mov (.t 5), none⟩,
     ⟨some 42, .fld 6 (.t 2), none⟩,
     ⟨some 43, .load false 1 (.t 42), none⟩,
     ⟨some 44, .len .sl (.t 43), none⟩,
     ⟨some 45, .bin .lss (.t 41) (.t 44), none⟩])
   (.cond (.t 45)
    (.skip)
    (.exit 0)))
   (.seq (.block 1 (.seq (.region [
      ⟨some 48, .fld 6 (.t 2), none⟩,
      ⟨some 49, .load false 1 (.t 48), none⟩,
      ⟨some 50, .mov (.t 5), none⟩,
      ⟨some 51, .idxp 3 (.t 49) (.t 50), none⟩,
      ⟨some 52, .load true 3 (.t 51), none⟩,
      ⟨some 53, .fld 6 (.t 3), none⟩,
      ⟨some 54, .load false 1 (.t 53), none⟩,
      ⟨some 55, .mov (.t 5), none⟩,
      ⟨some 56, .idxp 3 (.t 54) (.t 55), none⟩,
      ⟨some 57, .load true 3 (.t 56), none⟩,
      ⟨some 58, .eqa true (.agg [.i, .i, .s]) (.t 52) (.t 57), none⟩])
    (.cond (.t 58)
     (.seq (.region [
       ⟨some 4, .mov (.c (.v (.bool false))), none⟩])
     (.ret))
     (.skip))))
   (.region [
     ⟨some 46, .mov (.t 5), none⟩,
     ⟨some 47, .bin .add (.t 46) (.c (.v (.int .i64 1))), none⟩,
     ⟨some 5, .mov (.t 47), none⟩]))))))
 (.seq (.region [
   ⟨some 4, .mov (.c (.v (.bool true))), none⟩])
 (.ret)))))
theorem h_laderef6_Same : (prog.funcs[F_laderef6_Same]?).bind (compFn prog) = some A_laderef6_Same := by kernel_rfl
def A_laderef6_SameAll : AFn := .mk 27 [.tmp 4] (
 .seq (.region [
   ⟨some 4, .mov (.c (.v (.bool false))), none⟩])
 (.seq (.seq (.region [
   ⟨some 6, .mov (.t 0), none⟩,
   ⟨some 7, .len .sl (.t 6), none⟩,
   ⟨some 8, .mov (.t 1), none⟩,
   ⟨some 9, .len .sl (.t 8), none⟩,
   ⟨some 10, .bin .neq (.t 7) (.t 9), none⟩])
 (.cond (.t 10)
  (.seq (.region [
    ⟨some 4, .mov (.c (.v (.bool false))), none⟩])
  (.ret))
  (.skip)))
 (.seq (.seq (.region [
   ⟨some 5, .mov (.c (.v (.int .i64 0))), none⟩])
 (.block 0 (.loop (.seq (.seq (.region [
     ⟨some 11, .mov (.t 5), none⟩,
     ⟨some 12, .mov (.t 0), none⟩,
     ⟨some 13, .len .sl (.t 12), none⟩,
     ⟨some 14, .bin .lss (.t 11) (.t 13), none⟩])
   (.cond (.t 14)
    (.skip)
    (.exit 0)))
   (.seq (.block 1 (.seq (.region [
      ⟨some 17, .mov (.t 0), none⟩,
      ⟨some 18, .mov (.t 5), none⟩,
      ⟨some 19, .idxp 7 (.t 17) (.t 18), none⟩,
      ⟨some 20, .load true 7 (.t 19), none⟩,
      ⟨some 21, .mov (.t 1), none⟩,
      ⟨some 22, .mov (.t 5), none⟩,
      ⟨some 23, .idxp 7 (.t 21) (.t 22), none⟩,
      ⟨some 24, .load true 7 (.t 23), none⟩,
      ⟨some 25, .call (.c (.f (.func F_laderef6_Same) [] [])) [(.t 20), (.t 24)], none⟩,
      ⟨some 26, .un .not (.t 25), none⟩])
    (.cond (.t 26)
     (.seq (.region [
       ⟨some 4, .mov (.c (.v (.bool false))), none⟩])
     (.ret))
     (.skip))))
   (.region [
     ⟨some 15, .mov (.t 5), none⟩,
     ⟨some 16, .bin .add (.t 15) (.c (.v (.int .i64 1))), none⟩,
     ⟨some 5, .mov (.t 16), none⟩]))))))
 (.seq (.region [
   ⟨some 4, .mov (.c (.v (.bool true))), none⟩])
 (.ret)))))
theorem h_laderef6_SameAll : (prog.funcs[F_laderef6_SameAll]?).bind (compFn prog) = some A_laderef6_SameAll := by kernel_rfl
def A_laderef13_SameSpots : AFn := .mk 26 [.tmp 4] (
 .seq (.region [
   ⟨some 4, .mov (.c (.v (.bool false))), none⟩])
 (.seq (.seq (.region [
   ⟨some 6, .mov (.t 0), none⟩,
   ⟨some 7, .len .sl (.t 6), none⟩,
   ⟨some 8, .mov (.t 1), none⟩,
   ⟨some 9, .len .sl (.t 8), none⟩,
   ⟨some 10, .bin .neq (.t 7) (.t 9), none⟩])
 (.cond (.t 10)
  (.seq (.region [
    ⟨some 4, .mov (.c (.v (.bool false))), none⟩])
  (.ret))
  (.skip)))
 (.seq (.seq (.region [
   ⟨some 5, .mov (.c (.v (.int .i64 0))), none⟩])
 (.block 0 (.loop (.seq (.seq (.region [
     ⟨some 11, .mov (.t 5), none⟩,
     ⟨some 12, .mov (.t 0), none⟩,
     ⟨some 13, .len .sl (.t 12), none⟩,
     ⟨some 14, .bin .lss (.t 11) (.t 13), none⟩])
   (.cond (.t 14)
    (.skip)
    (.exit 0)))
   (.seq (.block 1 (.seq (.region [
      ⟨some 17, .mov (.t 0), none⟩,
      ⟨some 18, .mov (.t 5), none⟩,
      ⟨some 19, .idxp 4 (.t 17) (.t 18), none⟩,
      ⟨some 20, .load true 4 (.t 19), none⟩,
      ⟨some 21, .mov (.t 1), none⟩,
      ⟨some 22, .mov (.t 5), none⟩,
      ⟨some 23, .idxp 4 (.t 21) (.t 22), none⟩,
      ⟨some 24, .load true 4 (.t 23), none⟩,
      ⟨some 25, .eqa true (.agg [.i, .i, .i, .i]) (.t 20) (.t 24), none⟩])
    (.cond (.t 25)
     (.seq (.region [
       ⟨some 4, .mov (.c (.v (.bool false))), none⟩])
     (.ret))
     (.skip))))
   (.region [
     ⟨some 15, .mov (.t 5), none⟩,
     ⟨some 16, .bin .add (.t 15) (.c (.v (.int .i64 1))), none⟩,
     ⟨some 5, .mov (.t 16), none⟩]))))))
 (.seq (.region [
   ⟨some 4, .mov (.c (.v (.bool true))), none⟩])
 (.ret)))))
theorem h_laderef13_SameSpots : (prog.funcs[F_laderef13_SameSpots]?).bind (compFn prog) = some A_laderef13_SameSpots := by kernel_rfl
def A_laderef7_Many_Get : AFn := .mk 20 [.cell true 7 4, .tmp 5] (
 .seq (.region [
   ⟨some 4, .alloc [(.v (.int .i64 0)), (.v (.int .i64 0)), (.v (.int .i64 0)), (.v (.int .i64 0)), (.v (.int .i64 0)), (.v (.int .i64 0)), (.sl [] .zero)], none⟩,
   ⟨some 5, .mov (.c (.v (.bool false))), none⟩])
 (.seq (.region [
   ⟨some 7, .mov (.t 0), none⟩,
   ⟨some 8, .mov (.t 1), none⟩,
   ⟨some 9, .call (.c (.f (.func F_laderef7_Many_At) [] [])) [(.t 7), (.t 8)], none⟩,
   ⟨some 6, .mov (.t 9), none⟩])
 (.seq (.seq (.region [
   ⟨some 10, .mov (.t 6), none⟩,
   ⟨some 11, .bin .lss (.t 10) (.c (.v (.int .i64 0))), none⟩])
 (.cond (.t 11)
  (.seq (.region [
    ⟨some 12, .build [(.v (.int .i64 0)), (.v (.int .i64 0)), (.v (.int .i64 0)), (.v (.int .i64 0)), (.v (.int .i64 0)), (.v (.int .i64 0)), (.sl [] .zero)] [], none⟩,
    ⟨none, .store 7 (.t 4) (.t 12), none⟩,
    ⟨some 5, .mov (.c (.v (.bool false))), none⟩])
  (.ret))
  (.skip)))
 (.seq (.region [
   ⟨some 13, .mov (.t 0), none⟩,
   ⟨some 14, .nilck (.t 13), none⟩,
   ⟨some 15, .fld 0 (.t 14), none⟩,
   ⟨some 16, .load false 1 (.t 15), none⟩,
   ⟨some 17, .mov (.t 6), none⟩,
   ⟨some 18, .idxp 7 (.t 16) (.t 17), none⟩,
   ⟨some 19, .load true 7 (.t 18), none⟩,
   ⟨none, .store 7 (.t 4) (.t 19), none⟩,
   ⟨some 5, .mov (.c (.v (.bool true))), none⟩])
 (.ret)))))
theorem h_laderef7_Many_Get : (prog.funcs[F_laderef7_Many_Get]?).bind (compFn prog) = some A_laderef7_Many_Get := by kernel_rfl
def A_ladelaw20_fewPart : AFn := .mk 23 [.tmp 2] (
 .seq (.region [
   ⟨some 1, .box (.t 0), none⟩,
   ⟨some 2, .mov (.c (.v (.bool false))), none⟩])
 (.seq (.seq (.region [
   ⟨some 3, .mov (.c (.v (.int .i64 0))), none⟩])
 (.block 0 (.loop (.seq (.seq (.region [
     ⟨some 4, .mov (.t 3), none⟩,
     ⟨some 5, .fld 2 (.t 1), none⟩,
     ⟨some 6, .load false 1 (.t 5), none⟩,
     ⟨some 7, .len .sl (.t 6), none⟩,
     ⟨some 8, .bin .lss (.t 4) (.t 7), none⟩])
   (.cond (.t 8)
    (.skip)
    (.exit 0)))
   (.seq (.block 1 (.seq (.region [
      ⟨some 11, .fld 2 (.t 1), none⟩,
      ⟨some 12, .load false 1 (.t 11), none⟩,
      ⟨some 13, .mov (.t 3), none⟩,
      ⟨some 14, .idxp 3 (.t 12) (.t 13), none⟩,
      ⟨some 15, .fld 2 (.t 14), none⟩,
      ⟨some 16, .load false 1 (.t 15), none⟩,
      ⟨some 17, .len .str (.t 16), none⟩,
      ⟨some 18, .bin .gtr (.t 17) (.c (.v (.int .i64 60))), none⟩])
    (.cond (.t 18)
     (.seq (.region [
       ⟨some 2, .mov (.c (.v (.bool false))), none⟩])
     (.ret))
     (.skip))))
   (.region [
     ⟨some 9, .mov (.t 3), none⟩,
     ⟨some 10, .bin .add (.t 9) (.c (.v (.int .i64 1))), none⟩,
     ⟨some 3, .mov (.t 10), none⟩]))))))
 (.seq (.region [
   ⟨some 19, .fld 2 (.t 1), none⟩,
   ⟨some 20, .load false 1 (.t 19), none⟩,
   ⟨some 21, .len .sl (.t 20), none⟩,
   ⟨some 22, .bin .leq (.t 21) (.c (.v (.int .i64 8))), none⟩,
   ⟨some 2, .mov (.t 22), none⟩])
 (.ret))))
theorem h_ladelaw20_fewPart : (prog.funcs[F_ladelaw20_fewPart]?).bind (compFn prog) = some A_ladelaw20_fewPart := by kernel_rfl
def A_slices_Values_Part : AFn := .mk 4 [.tmp 2] (
 .seq (.region [
   ⟨some 1, .box (.t 0), none⟩,
   ⟨some 2, .mov (.c (.v .nilFunc)), none⟩])
 (.seq (.region [
   ⟨some 3, .mkf (.func F_slices_Values_Part_1) [] [(.t 1)], none⟩,
   ⟨some 2, .mov (.t 3), none⟩])
 (.ret)))
theorem h_slices_Values_Part : (prog.funcs[F_slices_Values_Part]?).bind (compFn prog) = some A_slices_Values_Part := by kernel_rfl
def A_part_Is : AFn := .mk 87 [.tmp 2] (
 .seq (.region [
   ⟨some 1, .box (.t 0), none⟩,
   ⟨some 2, .mov (.c (.v (.bool false))), none⟩])
 (.seq (.seq (.draw (
   ⟨⟨some 4, .fld 0 (.t 1), none⟩, false, false, []⟩ ::
   ⟨⟨some 5, .load false 1 (.t 4), none⟩, false, false, []⟩ ::
   ⟨⟨some 6, .call (.c (.f (.func F_part_between) [] [])) [(.t 5), (.c (.v (.int .i64 0))), (.c (.v (.int .i64 999)))], none⟩, true, false, []⟩ ::
   ⟨⟨some 7, .un .not (.t 6), none⟩, false, false, []⟩ ::
   ⟨⟨some 8, .mov (.t 7), none⟩, false, false, []⟩ ::
   ⟨⟨some 9, .load true 10 (.t 1), some (8, false)⟩, false, true, []⟩ ::
   ⟨⟨some 10, .load true 10 (.t 1), some (8, false)⟩, false, false, []⟩ ::
   ⟨⟨some 11, .call (.c (.f (.func F_part_core) [] [])) [(.t 10)], some (8, false)⟩, true, false, [⟨some 9, .load true 10 (.t 1), some (8, false)⟩]⟩ ::
   ⟨⟨some 12, .call (.c (.f (.func F_part_Same) [] [])) [(.t 9), (.t 11)], some (8, false)⟩, true, false, []⟩ ::
   ⟨⟨some 13, .un .not (.t 12), some (8, false)⟩, false, false, []⟩ ::
   ⟨⟨some 14, .pick (.t 8) (.c (.v (.bool true))) (.t 13), none⟩, false, false, []⟩ ::
   []))
 (.cond (.t 14)
  (.seq (.region [
    ⟨some 2, .mov (.c (.v (.bool false))), none⟩])
  (.ret))
  (.skip)))
 (.seq (.seq (.region [
   ⟨some 15, .fld 1 (.t 1), none⟩,
   ⟨some 16, .load false 1 (.t 15), none⟩])
 (.block 0 (.seq (.region [
    ⟨some 18, .bin .eql (.t 16) (.c (.v (.int .i64 1))), none⟩,
    ⟨some 17, .mov (.t 18), none⟩])
  (.cond (.t 17)
   (.seq (.region [
     ⟨some 19, .fld 2 (.t 1), none⟩,
     ⟨some 20, .load false 1 (.t 19), none⟩,
     ⟨some 21, .len .sl (.t 20), none⟩,
     ⟨some 22, .bin .gtr (.t 21) (.c (.v (.int .i64 0))), none⟩,
     ⟨some 23, .mov (.t 22), none⟩,
     ⟨some 24, .fld 2 (.t 1), some (23, true)⟩,
     ⟨some 25, .load false 1 (.t 24), some (23, true)⟩,
     ⟨some 26, .call (.c (.f (.func F_part_rising) [] [])) [(.t 25), (.c (.v (.bool true)))], some (23, true)⟩,
     ⟨some 27, .pick (.t 23) (.t 26) (.c (.v (.bool false))), none⟩,
     ⟨some 2, .mov (.t 27), none⟩])
   (.ret))
   (.seq (.region [
     ⟨some 29, .bin .eql (.t 16) (.c (.v (.int .i64 2))), none⟩,
     ⟨some 28, .mov (.t 29), none⟩])
   (.cond (.t 28)
    (.seq (.region [
      ⟨some 30, .fld 3 (.t 1), none⟩,
      ⟨some 31, .load true 3 (.t 30), none⟩,
      ⟨some 32, .call (.c (.f (.func F_part_IsHard) [] [])) [(.t 31)], none⟩,
      ⟨some 2, .mov (.t 32), none⟩])
    (.ret))
    (.seq (.region [
      ⟨some 34, .bin .eql (.t 16) (.c (.v (.int .i64 3))), none⟩,
      ⟨some 33, .mov (.t 34), none⟩])
    (.cond (.t 33)
     (.seq (.region [
       ⟨some 35, .fld 6 (.t 1), none⟩,
       ⟨some 36, .load false 1 (.t 35), none⟩,
       ⟨some 37, .fld 7 (.t 1), none⟩,
       ⟨some 38, .load false 1 (.t 37), none⟩,
       ⟨some 39, .call (.c (.f (.func F_part_isMark) [] [])) [(.t 36), (.t 38), (.c (.v (.int .i64 0)))], none⟩,
       ⟨some 2, .mov (.t 39), none⟩])
     (.ret))
     (.seq (.region [
       ⟨some 41, .bin .eql (.t 16) (.c (.v (.int .i64 4))), none⟩,
       ⟨some 40, .mov (.t 41), none⟩])
     (.cond (.t 40)
      (.seq (.region [
        ⟨some 42, .fld 6 (.t 1), none⟩,
        ⟨some 43, .load false 1 (.t 42), none⟩,
        ⟨some 44, .fld 7 (.t 1), none⟩,
        ⟨some 45, .load false 1 (.t 44), none⟩,
        ⟨some 46, .call (.c (.f (.func F_part_isMark) [] [])) [(.t 43), (.t 45), (.c (.v (.int .i64 1)))], none⟩,
        ⟨some 2, .mov (.t 46), none⟩])
      (.ret))
      (.seq (.region [
        ⟨some 48, .bin .eql (.t 16) (.c (.v (.int .i64 6))), none⟩,
        ⟨some 47, .mov (.t 48), none⟩])
      (.cond (.t 47)
       (.seq (.region [
         ⟨some 49, .fld 8 (.t 1), none⟩,
         ⟨some 50, .load false 1 (.t 49), none⟩,
         ⟨some 51, .mov (.t 50), none⟩,
         ⟨some 52, .fld 9 (.t 1), some (51, false)⟩,
         ⟨some 53, .load false 1 (.t 52), some (51, false)⟩,
         ⟨some 54, .pick (.t 51) (.c (.v (.bool true))) (.t 53), none⟩,
         ⟨some 55, .mov (.t 54), none⟩,
         ⟨some 56, .fld 2 (.t 1), some (55, false)⟩,
         ⟨some 57, .load false 1 (.t 56), some (55, false)⟩,
         ⟨some 58, .len .sl (.t 57), some (55, false)⟩,
         ⟨some 59, .bin .gtr (.t 58) (.c (.v (.int .i64 0))), some (55, false)⟩,
         ⟨some 60, .pick (.t 55) (.c (.v (.bool true))) (.t 59), none⟩,
         ⟨some 3, .mov (.t 60), none⟩])
       (.seq (.region [
         ⟨some 61, .mov (.t 3), none⟩,
         ⟨some 62, .mov (.t 61), none⟩,
         ⟨some 63, .fld 2 (.t 1), some (62, true)⟩,
         ⟨some 64, .load false 1 (.t 63), some (62, true)⟩,
         ⟨some 65, .call (.c (.f (.func F_part_rising) [] [])) [(.t 64), (.c (.v (.bool false)))], some (62, true)⟩,
         ⟨some 66, .pick (.t 62) (.t 65) (.c (.v (.bool false))), none⟩,
         ⟨some 67, .mov (.t 66), none⟩,
         ⟨some 68, .fld 8 (.t 1), some (67, true)⟩,
         ⟨some 69, .load false 1 (.t 68), some (67, true)⟩,
         ⟨some 70, .un .not (.t 69), some (67, true)⟩,
         ⟨some 71, .mov (.t 70), some (67, true)⟩,
         ⟨some 72, .fld 6 (.t 1), some (71, false)⟩,
         ⟨some 73, .load false 1 (.t 72), some (71, false)⟩,
         ⟨some 74, .fld 7 (.t 1), some (71, false)⟩,
         ⟨some 75, .load false 1 (.t 74), some (71, false)⟩,
         ⟨some 76, .call (.c (.f (.func F_part_isMark) [] [])) [(.t 73), (.t 75), (.c (.v (.int .i64 1)))], some (71, false)⟩,
         ⟨some 77, .pick (.t 71) (.c (.v (.bool true))) (.t 76), some (67, true)⟩,
         ⟨some 78, .pick (.t 67) (.t 77) (.c (.v (.bool false))), none⟩,
         ⟨some 79, .mov (.t 78), none⟩,
         ⟨some 80, .fld 3 (.t 1), some (79, true)⟩,
         ⟨some 81, .load true 3 (.t 80), some (79, true)⟩,
         ⟨some 82, .call (.c (.f (.func F_part_IsHard) [] [])) [(.t 81)], some (79, true)⟩,
         ⟨some 83, .pick (.t 79) (.t 82) (.c (.v (.bool false))), none⟩,
         ⟨some 2, .mov (.t 83), none⟩])
       (.ret)))
       (.skip)))))))))))))
 (.seq (.region [
   ⟨some 84, .fld 1 (.t 1), none⟩,
   ⟨some 85, .load false 1 (.t 84), none⟩,
   ⟨some 86, .bin .eql (.t 85) (.c (.v (.int .i64 5))), none⟩,
   ⟨some 2, .mov (.t 86), none⟩])
 (.ret)))))
theorem h_part_Is : (prog.funcs[F_part_Is]?).bind (compFn prog) = some A_part_Is := by kernel_rfl
def A_place_New : AFn := .mk 8 [.tmp 2] (
 .seq (.region [
   ⟨some 2, .mov (.c (.v (.pointer none))), none⟩])
 (.seq (.region [
   ⟨some 3, .mov (.t 0), none⟩,
   ⟨some 4, .call (.c (.f (.func F_group_New) [] [])) [(.t 3)], none⟩,
   ⟨some 5, .mkmap, none⟩,
   ⟨some 6, .build [(.v (.int .i64 0)), (.v (.int .i64 0)), (.v (.int .i64 0)), (.v (.int .i64 0)), (.v (.int .i64 0)), (.v (.int .i64 0)), (.sl [] .zero), (.v (.map none))] [(0, 7, (.t 4)), (7, 1, (.t 5))], none⟩,
   ⟨some 7, .box (.t 6), none⟩,
   ⟨some 2, .mov (.t 7), none⟩])
 (.ret)))
theorem h_place_New : (prog.funcs[F_place_New]?).bind (compFn prog) = some A_place_New := by kernel_rfl
end Go.Proofs.YtmpoeamfcienoaaGreat
end
section
namespace Go.Proofs.YtmpoeamfcienoaaGreat
open Go.Ab
set_option maxRecDepth 100000
def A_place_Log_Do : AFn := .mk 106 [] (
 .seq (.region [
   ⟨some 3, .box (.t 0), none⟩,
   ⟨some 4, .box (.t 1), none⟩,
   ⟨some 5, .box (.t 2), none⟩])
 (.seq (.seq (.region [
   ⟨some 13, .load true 10 (.t 4), none⟩,
   ⟨some 14, .call (.c (.f (.func F_part_Is) [] [])) [(.t 13)], none⟩,
   ⟨some 15, .un .not (.t 14), none⟩,
   ⟨some 16, .mov (.t 15), none⟩,
   ⟨some 17, .fld 0 (.t 4), some (16, false)⟩,
   ⟨some 18, .load false 1 (.t 17), some (16, false)⟩,
   ⟨some 19, .load false 1 (.t 3), some (16, false)⟩,
   ⟨some 20, .nilck (.t 19), some (16, false)⟩,
   ⟨some 21, .fld 0 (.t 20), some (16, false)⟩,
   ⟨some 22, .fld 0 (.t 21), some (16, false)⟩,
   ⟨some 23, .load false 1 (.t 22), some (16, false)⟩,
   ⟨some 24, .bin .neq (.t 18) (.t 23), some (16, false)⟩,
   ⟨some 25, .pick (.t 16) (.c (.v (.bool true))) (.t 24), none⟩,
   ⟨some 26, .mov (.t 25), none⟩,
   ⟨some 27, .fld 1 (.t 4), some (26, false)⟩,
   ⟨some 28, .load false 1 (.t 27), some (26, false)⟩,
   ⟨some 29, .bin .eql (.t 28) (.c (.v (.int .i64 5))), some (26, false)⟩,
   ⟨some 30, .pick (.t 26) (.c (.v (.bool true))) (.t 29), none⟩])
 (.cond (.t 30)
  (.ret)
  (.skip)))
 (.seq (.region [
   ⟨some 31, .load false 1 (.t 3), none⟩,
   ⟨some 32, .nilck (.t 31), none⟩,
   ⟨some 33, .fld 0 (.t 32), none⟩,
   ⟨some 34, .load true 7 (.t 33), none⟩,
   ⟨some 6, .alloc [(.v (.int .i64 0)), (.v (.int .i64 0)), (.v (.int .i64 0)), (.v (.int .i64 0)), (.v (.int .i64 0)), (.v (.int .i64 0)), (.sl [] .zero)], none⟩,
   ⟨none, .store 7 (.t 6) (.t 34), none⟩])
 (.seq (.draw (
   ⟨⟨some 35, .load false 1 (.t 3), none⟩, false, true, []⟩ ::
   ⟨⟨some 36, .load true 7 (.t 6), none⟩, false, false, []⟩ ::
   ⟨⟨some 37, .load true 10 (.t 4), none⟩, false, false, []⟩ ::
   ⟨⟨some 38, .call (.c (.f (.func F_sparse_Do) [] [])) [(.t 36), (.t 37)], none⟩, true, false, [⟨some 35, .load false 1 (.t 3), none⟩]⟩ ::
   ⟨⟨some 39, .nilck (.t 35), none⟩, false, false, []⟩ ::
   ⟨⟨some 40, .fld 0 (.t 39), none⟩, false, false, []⟩ ::
   ⟨⟨none, .store 7 (.t 40) (.t 38), none⟩, true, false, []⟩ ::
   []))
 (.seq (.region [
   ⟨some 41, .mkmap, none⟩,
   ⟨some 7, .alloc [(.v (.map none))], none⟩,
   ⟨none, .store 1 (.t 7) (.t 41), none⟩])
 (.seq (.seq (.region [
   ⟨some 42, .build [(.v (.int .i64 0)), (.v (.int .i64 0))] [(0, 1, (.c (.v (.int .i64 (-1))))), (1, 1, (.c (.v (.int .i64 0))))], none⟩,
   ⟨some 43, .mov (.c (.v (.int .i64 0))), none⟩])
 (.block 0 (.loop (.seq (.region [
     ⟨some 44, .bin .lss (.t 43) (.c (.v (.int .i64 2))), none⟩])
   (.seq (.cond (.t 44)
    (.skip)
    (.exit 0))
   (.seq (.block 1 (.seq (.region [
      ⟨some 45, .idxv false 2 1 (.t 42) (.t 43), none⟩,
      ⟨some 9, .mov (.t 45), none⟩])
    (.seq (.region [
      ⟨some 47, .load false 1 (.t 3), none⟩,
      ⟨some 48, .nilck (.t 47), none⟩,
      ⟨some 49, .fld 7 (.t 48), none⟩,
      ⟨some 50, .load false 1 (.t 49), none⟩,
      ⟨some 51, .mov (.t 9), none⟩,
      ⟨some 52, .lookup .int (.agg [(.v (.int .i64 0)), (.v (.int .i64 0))]) true (.t 50) (.t 51), none⟩,
      ⟨some 46, .mov (.t 52), none⟩,
      ⟨some 53, .extract 0 (.t 46), none⟩,
      ⟨some 54, .extract 1 (.t 46), none⟩,
      ⟨some 10, .alloc [(.v (.int .i64 0)), (.v (.int .i64 0))], none⟩,
      ⟨none, .store 2 (.t 10) (.t 53), none⟩,
      ⟨some 11, .mov (.t 54), none⟩])
    (.seq (.region [
      ⟨some 55, .mov (.t 11), none⟩])
    (.cond (.t 55)
     (.region [
       ⟨some 56, .load false 1 (.t 7), none⟩,
       ⟨some 57, .mov (.t 9), none⟩,
       ⟨some 58, .load true 2 (.t 10), none⟩,
       ⟨none, .mapset .int (.t 56) (.t 57) (.t 58), none⟩])
     (.skip))))))
   (.region [
     ⟨some 59, .bin .add (.t 43) (.c (.v (.int .i64 1))), none⟩,
     ⟨some 43, .mov (.t 59), none⟩])))))))
 (.seq (.seq (.region [
   ⟨some 60, .load false 1 (.t 3), none⟩,
   ⟨some 61, .nilck (.t 60), none⟩,
   ⟨some 62, .fld 0 (.t 61), none⟩,
   ⟨some 63, .fld 6 (.t 62), none⟩,
   ⟨some 64, .load false 1 (.t 63), none⟩,
   ⟨some 65, .call (.c (.f (.func F_slices_Values_Entry) [] [])) [(.t 64)], none⟩])
 (.block 2 (.range (.t 65) [66]
   (.region [
     ⟨some 12, .alloc [(.v (.int .i64 0)), (.v (.int .i64 0)), (.v (.string ⟨#[]⟩))], none⟩,
     ⟨none, .store 3 (.t 12) (.t 66), none⟩])
   (.block 3 (.seq (.region [
      ⟨some 67, .load false 1 (.t 7), none⟩,
      ⟨some 68, .fld 0 (.t 12), none⟩,
      ⟨some 69, .load false 1 (.t 68), none⟩,
      ⟨some 70, .load false 1 (.t 3), none⟩,
      ⟨some 71, .nilck (.t 70), none⟩,
      ⟨some 72, .fld 7 (.t 71), none⟩,
      ⟨some 73, .load false 1 (.t 72), none⟩,
      ⟨some 74, .fld 0 (.t 12), none⟩,
      ⟨some 75, .load false 1 (.t 74), none⟩,
      ⟨some 76, .lookup .int (.agg [(.v (.int .i64 0)), (.v (.int .i64 0))]) false (.t 73) (.t 75), none⟩,
      ⟨none, .mapset .int (.t 67) (.t 69) (.t 76), none⟩])
    (.seq (.region [
      ⟨some 77, .load true 10 (.t 4), none⟩,
      ⟨some 78, .load true 3 (.t 12), none⟩,
      ⟨some 79, .call (.c (.f (.func F_place_brought) [] [])) [(.t 77), (.t 78)], none⟩])
    (.cond (.t 79)
     (.region [
       ⟨some 80, .load false 1 (.t 7), none⟩,
       ⟨some 81, .fld 0 (.t 12), none⟩,
       ⟨some 82, .load false 1 (.t 81), none⟩,
       ⟨some 83, .load true 2 (.t 5), none⟩,
       ⟨none, .mapset .int (.t 80) (.t 82) (.t 83), none⟩])
     (.skip))))))))
 (.seq (.seq (.region [
   ⟨some 84, .fld 1 (.t 4), none⟩,
   ⟨some 85, .load false 1 (.t 84), none⟩,
   ⟨some 86, .bin .eql (.t 85) (.c (.v (.int .i64 2))), none⟩,
   ⟨some 87, .mov (.t 86), none⟩,
   ⟨some 88, .fld 9 (.t 4), some (87, false)⟩,
   ⟨some 89, .load false 1 (.t 88), some (87, false)⟩,
   ⟨some 90, .pick (.t 87) (.c (.v (.bool true))) (.t 89), none⟩])
 (.cond (.t 90)
  (.region [
    ⟨some 91, .load false 1 (.t 7), none⟩,
    ⟨some 92, .load true 2 (.t 5), none⟩,
    ⟨none, .mapset .int (.t 91) (.c (.v (.int .i64 (-1)))) (.t 92), none⟩])
  (.skip)))
 (.seq (.seq (.region [
   ⟨some 93, .load true 10 (.t 4), none⟩,
   ⟨some 94, .load true 7 (.t 6), none⟩,
   ⟨some 95, .load false 1 (.t 3), none⟩,
   ⟨some 96, .nilck (.t 95), none⟩,
   ⟨some 97, .fld 0 (.t 96), none⟩,
   ⟨some 98, .load true 7 (.t 97), none⟩,
   ⟨some 99, .call (.c (.f (.func F_place_marks) [] [])) [(.t 93), (.t 94), (.t 98)], none⟩])
 (.cond (.t 99)
  (.region [
    ⟨some 100, .load false 1 (.t 7), none⟩,
    ⟨some 101, .load true 2 (.t 5), none⟩,
    ⟨none, .mapset .int (.t 100) (.c (.v (.int .i64 0))) (.t 101), none⟩])
  (.skip)))
 (.region [
   ⟨some 102, .load false 1 (.t 3), none⟩,
   ⟨some 103, .load false 1 (.t 7), none⟩,
   ⟨some 104, .nilck (.t 102), none⟩,
   ⟨some 105, .fld 7 (.t 104), none⟩,
   ⟨none, .store 1 (.t 105) (.t 103), none⟩]))))))))))
theorem h_place_Log_Do : (prog.funcs[F_place_Log_Do]?).bind (compFn prog) = some A_place_Log_Do := by kernel_rfl
def A_laderef13_Ledger_Part : AFn := .mk 163 [] (
 .seq (.region [
   ⟨some 4, .box (.t 1), none⟩,
   ⟨some 5, .box (.t 2), none⟩])
 (.seq (.seq (.region [
   ⟨some 12, .load true 10 (.t 4), none⟩,
   ⟨some 13, .call (.c (.f (.func F_laderef4_Is) [] [])) [(.t 12)], none⟩,
   ⟨some 14, .un .not (.t 13), none⟩])
 (.cond (.t 14)
  (.ret)
  (.skip)))
 (.seq (.region [
   ⟨some 15, .mov (.t 0), none⟩,
   ⟨some 16, .nilck (.t 15), none⟩,
   ⟨some 17, .fld 0 (.t 16), none⟩,
   ⟨some 18, .load false 1 (.t 17), none⟩,
   ⟨some 19, .build [(.sl [] .zero)] [(0, 1, (.t 18))], none⟩,
   ⟨some 20, .box (.t 19), none⟩,
   ⟨some 6, .mov (.t 20), none⟩])
 (.seq (.seq (.region [
   ⟨some 21, .fld 1 (.t 4), none⟩,
   ⟨some 22, .load false 1 (.t 21), none⟩,
   ⟨some 23, .bin .eql (.t 22) (.c (.v (.int .i64 5))), none⟩])
 (.cond (.t 23)
  (.seq (.region [
    ⟨some 24, .mov (.t 0), none⟩,
    ⟨some 25, .mov (.t 0), none⟩,
    ⟨some 26, .nilck (.t 25), none⟩,
    ⟨some 27, .fld 0 (.t 26), none⟩,
    ⟨some 28, .load false 1 (.t 27), none⟩,
    ⟨some 29, .fld 0 (.t 4), none⟩,
    ⟨some 30, .load false 1 (.t 29), none⟩,
    ⟨some 31, .call (.c (.f (.func F_laderef7_Without) [] [])) [(.t 28), (.t 30)], none⟩,
    ⟨some 32, .nilck (.t 24), none⟩,
    ⟨some 33, .fld 0 (.t 32), none⟩,
    ⟨none, .store 1 (.t 33) (.t 31), none⟩])
  (.seq (.region [
    ⟨some 34, .mov (.t 0), none⟩,
    ⟨some 35, .fld 0 (.t 4), none⟩,
    ⟨some 36, .load false 1 (.t 35), none⟩,
    ⟨some 37, .build [(.v (.int .i64 0)), (.v (.int .i64 0)), (.v (.int .i64 0)), (.v (.int .i64 0)), (.v (.int .i64 0)), (.v (.int .i64 0)), (.sl [] .zero)] [], none⟩,
    ⟨some 38, .call (.c (.f (.func F_laderef13_Ledger_clear) [] [])) [(.t 34), (.t 36), (.t 37), (.c (.v (.bool false)))], none⟩])
  (.ret)))
  (.skip)))
 (.seq (.region [
   ⟨some 40, .mov (.t 6), none⟩,
   ⟨some 41, .fld 0 (.t 4), none⟩,
   ⟨some 42, .load false 1 (.t 41), none⟩,
   ⟨some 43, .call (.c (.f (.func F_laderef7_Many_Get) [] [])) [(.t 40), (.t 42)], none⟩,
   ⟨some 39, .mov (.t 43), none⟩,
   ⟨some 44, .extract 0 (.t 39), none⟩,
   ⟨some 45, .extract 1 (.t 39), none⟩,
   ⟨some 7, .alloc [(.v (.int .i64 0)), (.v (.int .i64 0)), (.v (.int .i64 0)), (.v (.int .i64 0)), (.v (.int .i64 0)), (.v (.int .i64 0)), (.sl [] .zero)], none⟩,
   ⟨none, .store 7 (.t 7) (.t 44), none⟩,
   ⟨some 8, .mov (.t 45), none⟩])
 (.seq (.seq (.region [
   ⟨some 46, .mov (.t 8), none⟩,
   ⟨some 47, .un .not (.t 46), none⟩])
 (.cond (.t 47)
  (.region [
    ⟨some 48, .fld 0 (.t 4), none⟩,
    ⟨some 49, .load false 1 (.t 48), none⟩,
    ⟨some 50, .call (.c (.f (.func F_laderef6_New) [] [])) [(.t 49)], none⟩,
    ⟨none, .store 7 (.t 7) (.t 50), none⟩])
  (.skip)))
 (.seq (.region [
   ⟨some 51, .load true 7 (.t 7), none⟩,
   ⟨some 52, .load true 10 (.t 4), none⟩,
   ⟨some 53, .call (.c (.f (.func F_laderef6_Loose) [] [])) [(.t 51), (.t 52)], none⟩,
   ⟨some 9, .alloc [(.v (.int .i64 0)), (.v (.int .i64 0)), (.v (.int .i64 0)), (.v (.int .i64 0)), (.v (.int .i64 0)), (.v (.int .i64 0)), (.sl [] .zero)], none⟩,
   ⟨none, .store 7 (.t 9) (.t 53), none⟩])
 (.seq (.region [
   ⟨some 54, .mov (.t 0), none⟩,
   ⟨some 55, .mov (.t 0), none⟩,
   ⟨some 56, .nilck (.t 55), none⟩,
   ⟨some 57, .fld 0 (.t 56), none⟩,
   ⟨some 58, .load false 1 (.t 57), none⟩,
   ⟨some 59, .load true 7 (.t 9), none⟩,
   ⟨some 60, .call (.c (.f (.func F_laderef7_With) [] [])) [(.t 58), (.t 59)], none⟩,
   ⟨some 61, .nilck (.t 54), none⟩,
   ⟨some 62, .fld 0 (.t 61), none⟩,
   ⟨none, .store 1 (.t 62) (.t 60), none⟩])
 (.seq (.region [
   ⟨some 63, .mov (.t 0), none⟩,
   ⟨some 64, .fld 0 (.t 4), none⟩,
   ⟨some 65, .load false 1 (.t 64), none⟩,
   ⟨some 66, .load true 7 (.t 9), none⟩,
   ⟨some 67, .call (.c (.f (.func F_laderef13_Ledger_clear) [] [])) [(.t 63), (.t 65), (.t 66), (.c (.v (.bool true)))], none⟩])
 (.seq (.seq (.region [
   ⟨some 10, .mov (.c (.v (.int .i64 0))), none⟩])
 (.block 0 (.loop (.seq (.seq (.region [
     ⟨some 68, .mov (.t 10), none⟩,
     ⟨some 69, .fld 2 (.t 4), none⟩,
     ⟨some 70, .load false 1 (.t 69), none⟩,
     ⟨some 71, .len .sl (.t 70), none⟩,
     ⟨some 72, .bin .lss (.t 68) (.t 71), none⟩])
   (.cond (.t 72)
    (.skip)
    (.exit 0)))
   (.seq (.block 1 (.seq (.region [
      ⟨some 75, .load true 7 (.t 9), none⟩,
      ⟨some 76, .fld 2 (.t 4), none⟩,
      ⟨some 77, .load false 1 (.t 76), none⟩,
      ⟨some 78, .mov (.t 10), none⟩,
      ⟨some 79, .idxp 3 (.t 77) (.t 78), none⟩,
      ⟨some 80, .fld 0 (.t 79), none⟩,
      ⟨some 81, .load false 1 (.t 80), none⟩,
      ⟨some 82, .call (.c (.f (.func F_laderef6_At) [] [])) [(.t 75), (.t 81)], none⟩,
      ⟨some 11, .mov (.t 82), none⟩])
    (.seq (.region [
      ⟨some 83, .mov (.t 11), none⟩,
      ⟨some 84, .bin .geq (.t 83) (.c (.v (.int .i64 0))), none⟩,
      ⟨some 85, .mov (.t 84), none⟩,
      ⟨some 86, .fld 6 (.t 9), some (85, true)⟩,
      ⟨some 87, .load false 1 (.t 86), some (85, true)⟩,
      ⟨some 88, .mov (.t 11), some (85, true)⟩,
      ⟨some 89, .idxp 3 (.t 87) (.t 88), some (85, true)⟩,
      ⟨some 90, .load true 3 (.t 89), some (85, true)⟩,
      ⟨some 91, .fld 2 (.t 4), some (85, true)⟩,
      ⟨some 92, .load false 1 (.t 91), some (85, true)⟩,
      ⟨some 93, .mov (.t 10), some (85, true)⟩,
      ⟨some 94, .idxp 3 (.t 92) (.t 93), some (85, true)⟩,
      ⟨some 95, .load true 3 (.t 94), some (85, true)⟩,
      ⟨some 96, .eqa false (.agg [.i, .i, .s]) (.t 90) (.t 95), some (85, true)⟩,
      ⟨some 97, .pick (.t 85) (.t 96) (.c (.v (.bool false))), none⟩])
    (.cond (.t 97)
     (.region [
       ⟨some 98, .mov (.t 0), none⟩,
       ⟨some 99, .fld 0 (.t 4), none⟩,
       ⟨some 100, .load false 1 (.t 99), none⟩,
       ⟨some 101, .fld 2 (.t 4), none⟩,
       ⟨some 102, .load false 1 (.t 101), none⟩,
       ⟨some 103, .mov (.t 10), none⟩,
       ⟨some 104, .idxp 3 (.t 102) (.t 103), none⟩,
       ⟨some 105, .fld 0 (.t 104), none⟩,
       ⟨some 106, .load false 1 (.t 105), none⟩,
       ⟨some 107, .load true 2 (.t 5), none⟩,
       ⟨some 108, .build [(.v (.int .i64 0)), (.v (.int .i64 0)), (.v (.int .i64 0)), (.v (.int .i64 0))] [(0, 1, (.t 100)), (1, 1, (.t 106)), (2, 2, (.t 107))], none⟩,
       ⟨some 109, .call (.c (.f (.func F_laderef13_Ledger_lay) [] [])) [(.t 98), (.t 108)], none⟩])
     (.skip)))))
   (.region [
     ⟨some 73, .mov (.t 10), none⟩,
     ⟨some 74, .bin .add (.t 73) (.c (.v (.int .i64 1))), none⟩,
     ⟨some 10, .mov (.t 74), none⟩]))))))
 (.seq (.seq (.region [
   ⟨some 110, .fld 1 (.t 4), none⟩,
   ⟨some 111, .load false 1 (.t 110), none⟩,
   ⟨some 112, .bin .eql (.t 111) (.c (.v (.int .i64 2))), none⟩,
   ⟨some 113, .mov (.t 112), none⟩,
   ⟨some 114, .fld 9 (.t 4), some (113, false)⟩,
   ⟨some 115, .load false 1 (.t 114), some (113, false)⟩,
   ⟨some 116, .pick (.t 113) (.c (.v (.bool true))) (.t 115), none⟩])
 (.cond (.t 116)
  (.region [
    ⟨some 117, .mov (.t 0), none⟩,
    ⟨some 118, .fld 0 (.t 4), none⟩,
    ⟨some 119, .load false 1 (.t 118), none⟩,
    ⟨some 120, .load true 2 (.t 5), none⟩,
    ⟨some 121, .build [(.v (.int .i64 0)), (.v (.int .i64 0)), (.v (.int .i64 0)), (.v (.int .i64 0))] [(0, 1, (.t 119)), (1, 1, (.c (.v (.int .i64 (-1))))), (2, 2, (.t 120))], none⟩,
    ⟨some 122, .call (.c (.f (.func F_laderef13_Ledger_lay) [] [])) [(.t 117), (.t 121)], none⟩])
  (.skip)))
 (.seq (.region [
   ⟨some 123, .fld 1 (.t 4), none⟩,
   ⟨some 124, .load false 1 (.t 123), none⟩,
   ⟨some 125, .bin .eql (.t 124) (.c (.v (.int .i64 3))), none⟩,
   ⟨some 126, .mov (.t 125), none⟩,
   ⟨some 127, .fld 1 (.t 4), some (126, false)⟩,
   ⟨some 128, .load false 1 (.t 127), some (126, false)⟩,
   ⟨some 129, .bin .eql (.t 128) (.c (.v (.int .i64 4))), some (126, false)⟩,
   ⟨some 130, .pick (.t 126) (.c (.v (.bool true))) (.t 129), none⟩,
   ⟨some 131, .mov (.t 130), none⟩,
   ⟨some 132, .fld 1 (.t 9), some (131, true)⟩,
   ⟨some 133, .load false 1 (.t 132), some (131, true)⟩,
   ⟨some 134, .fld 1 (.t 7), some (131, true)⟩,
   ⟨some 135, .load false 1 (.t 134), some (131, true)⟩,
   ⟨some 136, .bin .neq (.t 133) (.t 135), some (131, true)⟩,
   ⟨some 137, .pick (.t 131) (.t 136) (.c (.v (.bool false))), none⟩,
   ⟨some 138, .mov (.t 137), none⟩,
   ⟨some 139, .fld 8 (.t 4), some (138, false)⟩,
   ⟨some 140, .load false 1 (.t 139), some (138, false)⟩,
   ⟨some 141, .mov (.t 140), some (138, false)⟩,
   ⟨some 142, .fld 1 (.t 9), some (141, true)⟩,
   ⟨some 143, .load false 1 (.t 142), some (141, true)⟩,
   ⟨some 144, .bin .sub (.t 143) (.c (.v (.int .i64 1))), some (141, true)⟩,
   ⟨some 145, .fld 6 (.t 4), some (141, true)⟩,
   ⟨some 146, .load false 1 (.t 145), some (141, true)⟩,
   ⟨some 147, .bin .eql (.t 144) (.t 146), some (141, true)⟩,
   ⟨some 148, .pick (.t 141) (.t 147) (.c (.v (.bool false))), some (138, false)⟩,
   ⟨some 149, .mov (.t 148), some (138, false)⟩,
   ⟨some 150, .fld 2 (.t 9), some (149, true)⟩,
   ⟨some 151, .load false 1 (.t 150), some (149, true)⟩,
   ⟨some 152, .fld 7 (.t 4), some (149, true)⟩,
   ⟨some 153, .load false 1 (.t 152), some (149, true)⟩,
   ⟨some 154, .bin .eql (.t 151) (.t 153), some (149, true)⟩,
   ⟨some 155, .pick (.t 149) (.t 154) (.c (.v (.bool false))), some (138, false)⟩,
   ⟨some 156, .pick (.t 138) (.c (.v (.bool true))) (.t 155), none⟩])
 (.cond (.t 156)
  (.region [
    ⟨some 157, .mov (.t 0), none⟩,
    ⟨some 158, .fld 0 (.t 4), none⟩,
    ⟨some 159, .load false 1 (.t 158), none⟩,
    ⟨some 160, .load true 2 (.t 5), none⟩,
    ⟨some 161, .build [(.v (.int .i64 0)), (.v (.int .i64 0)), (.v (.int .i64 0)), (.v (.int .i64 0))] [(0, 1, (.t 159)), (2, 2, (.t 160))], none⟩,
    ⟨some 162, .call (.c (.f (.func F_laderef13_Ledger_lay) [] [])) [(.t 157), (.t 161)], none⟩])
  (.skip))))))))))))))
theorem h_laderef13_Ledger_Part : (prog.funcs[F_laderef13_Ledger_Part]?).bind (compFn prog) = some A_laderef13_Ledger_Part := by kernel_rfl
def A_slices_Values_Ledger : AFn := .mk 4 [.tmp 2] (
 .seq (.region [
   ⟨some 1, .box (.t 0), none⟩,
   ⟨some 2, .mov (.c (.v .nilFunc)), none⟩])
 (.seq (.region [
   ⟨some 3, .mkf (.func F_slices_Values_Ledger_1) [] [(.t 1)], none⟩,
   ⟨some 2, .mov (.t 3), none⟩])
 (.ret)))
theorem h_slices_Values_Ledger : (prog.funcs[F_slices_Values_Ledger]?).bind (compFn prog) = some A_slices_Values_Ledger := by kernel_rfl
def A_ledger_Ledger_Take : AFn := .mk 24 [] (
 .seq (.region [
   ⟨some 2, .box (.t 0), none⟩])
 (.seq (.region [
   ⟨some 6, .mov (.t 1), none⟩,
   ⟨some 7, .call (.c (.f (.func F_ledger_Ledger_logs) [] [])) [(.t 6)], none⟩])
 (.block 0 (.range (.t 7) [8, 9]
   (.seq (.region [
     ⟨some 4, .mov (.t 8), none⟩])
   (.region [
     ⟨some 5, .mov (.t 9), none⟩]))
   (.block 1 (.seq (.region [
      ⟨some 10, .load false 1 (.t 2), none⟩,
      ⟨some 11, .nilck (.t 10), none⟩,
      ⟨some 12, .fld 0 (.t 11), none⟩,
      ⟨some 13, .load false 1 (.t 12), none⟩,
      ⟨some 14, .mov (.t 4), none⟩,
      ⟨some 15, .lookup .int (.v (.pointer none)) false (.t 13) (.t 14), none⟩,
      ⟨some 16, .eqa false .ptr (.t 15) (.c (.v (.pointer none))), none⟩])
    (.cond (.t 16)
     (.draw (
       ⟨⟨some 17, .load false 1 (.t 2), none⟩, false, true, []⟩ ::
       ⟨⟨some 18, .nilck (.t 17), none⟩, false, true, []⟩ ::
       ⟨⟨some 19, .fld 0 (.t 18), none⟩, false, true, []⟩ ::
       ⟨⟨some 20, .load false 1 (.t 19), none⟩, false, true, []⟩ ::
       ⟨⟨some 21, .mov (.t 4), none⟩, false, true, []⟩ ::
       ⟨⟨some 22, .mov (.t 5), none⟩, false, false, []⟩ ::
       ⟨⟨some 23, .call (.c (.f (.func F_place_Log_Copy) [] [])) [(.t 22)], none⟩, true, false, [⟨some 20, .load false 1 (.t 19), none⟩, ⟨some 17, .load false 1 (.t 2), none⟩]⟩ ::
       ⟨⟨none, .mapset .int (.t 20) (.t 21) (.t 23), none⟩, true, false, []⟩ ::
       []))
     (.skip))))))))
theorem h_ledger_Ledger_Take : (prog.funcs[F_ledger_Ledger_Take]?).bind (compFn prog) = some A_ledger_Ledger_Take := by kernel_rfl
def A_slices_Values_Group : AFn := .mk 4 [.tmp 2] (
 .seq (.region [
   ⟨some 1, .box (.t 0), none⟩,
   ⟨some 2, .mov (.c (.v .nilFunc)), none⟩])
 (.seq (.region [
   ⟨some 3, .mkf (.func F_slices_Values_Group_1) [] [(.t 1)], none⟩,
   ⟨some 2, .mov (.t 3), none⟩])
 (.ret)))
theorem h_slices_Values_Group : (prog.funcs[F_slices_Values_Group]?).bind (compFn prog) = some A_slices_Values_Group := by kernel_rfl
def A_ledger_Ledger_logs : AFn := .mk 4 [.tmp 2] (
 .seq (.region [
   ⟨some 1, .box (.t 0), none⟩,
   ⟨some 2, .mov (.c (.v .nilFunc)), none⟩])
 (.seq (.region [
   ⟨some 3, .mkf (.func F_ledger_Ledger_logs_1) [] [(.t 1)], none⟩,
   ⟨some 2, .mov (.t 3), none⟩])
 (.ret)))
theorem h_ledger_Ledger_logs : (prog.funcs[F_ledger_Ledger_logs]?).bind (compFn prog) = some A_ledger_Ledger_logs := by kernel_rfl
def A_place_Log_Group : AFn := .mk 13 [.cell true 7 2] (
 .seq (.region [
   ⟨some 2, .alloc [(.v (.int .i64 0)), (.v (.int .i64 0)), (.v (.int .i64 0)), (.v (.int .i64 0)), (.v (.int .i64 0)), (.v (.int .i64 0)), (.sl [] .zero)], none⟩])
 (.seq (.region [
   ⟨some 4, .mov (.t 0), none⟩,
   ⟨some 5, .nilck (.t 4), none⟩,
   ⟨some 6, .fld 0 (.t 5), none⟩,
   ⟨some 7, .load true 7 (.t 6), none⟩,
   ⟨some 3, .alloc [(.v (.int .i64 0)), (.v (.int .i64 0)), (.v (.int .i64 0)), (.v (.int .i64 0)), (.v (.int .i64 0)), (.v (.int .i64 0)), (.sl [] .zero)], none⟩,
   ⟨none, .store 7 (.t 3) (.t 7), none⟩])
 (.seq (.region [
   ⟨some 8, .fld 6 (.t 3), none⟩,
   ⟨some 9, .load false 1 (.t 8), none⟩,
   ⟨some 10, .call (.c (.f (.func F_slices_Clone_Entry) [] [])) [(.t 9)], none⟩,
   ⟨some 11, .fld 6 (.t 3), none⟩,
   ⟨none, .store 1 (.t 11) (.t 10), none⟩])
 (.seq (.region [
   ⟨some 12, .load true 7 (.t 3), none⟩,
   ⟨none, .store 7 (.t 2) (.t 12), none⟩])
 (.ret)))))
theorem h_place_Log_Group : (prog.funcs[F_place_Log_Group]?).bind (compFn prog) = some A_place_Log_Group := by kernel_rfl
def A_place_Log_Spots : AFn := .mk 30 [.tmp 2] (
 .seq (.region [
   ⟨some 1, .box (.t 0), none⟩,
   ⟨some 2, .mov (.c (.sl [] .zero)), none⟩])
 (.seq (.region [
   ⟨some 3, .alloc [(.sl [] .zero)], none⟩])
 (.seq (.seq (.region [
   ⟨some 5, .load false 1 (.t 1), none⟩,
   ⟨some 6, .nilck (.t 5), none⟩,
   ⟨some 7, .fld 7 (.t 6), none⟩,
   ⟨some 8, .load false 1 (.t 7), none⟩,
   ⟨some 9, .call (.c (.f (.func F_maps_Keys_Place) [] [])) [(.t 8)], none⟩,
   ⟨some 10, .call (.c (.f (.func F_slices_Sorted_int) [] [])) [(.t 9)], none⟩,
   ⟨some 11, .call (.c (.f (.func F_slices_Values_int) [] [])) [(.t 10)], none⟩])
 (.block 0 (.range (.t 11) [12]
   (.region [
     ⟨some 4, .mov (.t 12), none⟩])
   (.block 1 (.region [
      ⟨some 13, .load false 1 (.t 3), none⟩,
      ⟨some 14, .load false 1 (.t 1), none⟩,
      ⟨some 15, .nilck (.t 14), none⟩,
      ⟨some 16, .fld 0 (.t 15), none⟩,
      ⟨some 17, .fld 0 (.t 16), none⟩,
      ⟨some 18, .load false 1 (.t 17), none⟩,
      ⟨some 19, .mov (.t 4), none⟩,
      ⟨some 20, .load false 1 (.t 1), none⟩,
      ⟨some 21, .nilck (.t 20), none⟩,
      ⟨some 22, .fld 7 (.t 21), none⟩,
      ⟨some 23, .load false 1 (.t 22), none⟩,
      ⟨some 24, .mov (.t 4), none⟩,
      ⟨some 25, .lookup .int (.agg [(.v (.int .i64 0)), (.v (.int .i64 0))]) false (.t 23) (.t 24), none⟩,
      ⟨some 26, .build [(.v (.int .i64 0)), (.v (.int .i64 0)), (.v (.int .i64 0)), (.v (.int .i64 0))] [(0, 1, (.t 18)), (1, 1, (.t 19)), (2, 2, (.t 25))], none⟩,
      ⟨some 27, .bsl 4 [(.t 26)], none⟩,
      ⟨some 28, .append 4 32 (.t 13) (.t 27), none⟩,
      ⟨none, .store 1 (.t 3) (.t 28), none⟩])))))
 (.seq (.region [
   ⟨some 29, .load false 1 (.t 3), none⟩,
   ⟨some 2, .mov (.t 29), none⟩])
 (.ret)))))
theorem h_place_Log_Spots : (prog.funcs[F_place_Log_Spots]?).bind (compFn prog) = some A_place_Log_Spots := by kernel_rfl
def A_ladelaw14_fewParts : AFn := .mk 19 [.tmp 2] (
 .seq (.region [
   ⟨some 2, .mov (.c (.v (.bool false))), none⟩])
 (.seq (.seq (.region [
   ⟨some 3, .mov (.c (.v (.int .i64 0))), none⟩])
 (.block 0 (.loop (.seq (.seq (.region [
     ⟨some 4, .mov (.t 3), none⟩,
     ⟨some 5, .mov (.t 0), none⟩,
     ⟨some 6, .len .sl (.t 5), none⟩,
     ⟨some 7, .bin .lss (.t 4) (.t 6), none⟩])
   (.cond (.t 7)
    (.skip)
    (.exit 0)))
   (.seq (.block 1 (.seq (.region [
      ⟨some 10, .mov (.t 0), none⟩,
      ⟨some 11, .mov (.t 3), none⟩,
      ⟨some 12, .idxp 10 (.t 10) (.t 11), none⟩,
      ⟨some 13, .load true 10 (.t 12), none⟩,
      ⟨some 14, .call (.c (.f (.func F_ladelaw14_fewPart) [] [])) [(.t 13)], none⟩,
      ⟨some 15, .un .not (.t 14), none⟩])
    (.cond (.t 15)
     (.seq (.region [
       ⟨some 2, .mov (.c (.v (.bool false))), none⟩])
     (.ret))
     (.skip))))
   (.region [
     ⟨some 8, .mov (.t 3), none⟩,
     ⟨some 9, .bin .add (.t 8) (.c (.v (.int .i64 1))), none⟩,
     ⟨some 3, .mov (.t 9), none⟩]))))))
 (.seq (.region [
   ⟨some 16, .mov (.t 0), none⟩,
   ⟨some 17, .len .sl (.t 16), none⟩,
   ⟨some 18, .bin .leq (.t 17) (.c (.v (.int .i64 6))), none⟩,
   ⟨some 2, .mov (.t 18), none⟩])
 (.ret))))
theorem h_ladelaw14_fewParts : (prog.funcs[F_ladelaw14_fewParts]?).bind (compFn prog) = some A_ladelaw14_fewParts := by kernel_rfl
def A_laderef7_Many_At : AFn := .mk 26 [.tmp 4] (
 .seq (.region [
   ⟨some 4, .mov (.c (.v (.int .i64 0))), none⟩])
 (.seq (.seq (.region [
   ⟨some 5, .mov (.c (.v (.int .i64 0))), none⟩])
 (.block 0 (.loop (.seq (.seq (.region [
     ⟨some 6, .mov (.t 5), none⟩,
     ⟨some 7, .mov (.t 0), none⟩,
     ⟨some 8, .nilck (.t 7), none⟩,
     ⟨some 9, .fld 0 (.t 8), none⟩,
     ⟨some 10, .load false 1 (.t 9), none⟩,
     ⟨some 11, .len .sl (.t 10), none⟩,
     ⟨some 12, .bin .lss (.t 6) (.t 11), none⟩])
   (.cond (.t 12)
    (.skip)
    (.exit 0)))
   (.seq (.block 1 (.seq (.region [
      ⟨some 15, .mov (.t 0), none⟩,
      ⟨some 16, .nilck (.t 15), none⟩,
      ⟨some 17, .fld 0 (.t 16), none⟩,
      ⟨some 18, .load false 1 (.t 17), none⟩,
      ⟨some 19, .mov (.t 5), none⟩,
      ⟨some 20, .idxp 7 (.t 18) (.t 19), none⟩,
      ⟨some 21, .fld 0 (.t 20), none⟩,
      ⟨some 22, .load false 1 (.t 21), none⟩,
      ⟨some 23, .mov (.t 1), none⟩,
      ⟨some 24, .bin .eql (.t 22) (.t 23), none⟩])
    (.cond (.t 24)
     (.seq (.region [
       ⟨some 25, .mov (.t 5), none⟩,
       ⟨some 4, .mov (.t 25), none⟩])
     (.ret))
     (.skip))))
   (.region [
     ⟨some 13, .mov (.t 5), none⟩,
     ⟨some 14, .bin .add (.t 13) (.c (.v (.int .i64 1))), none⟩,
     ⟨some 5, .mov (.t 14), none⟩]))))))
 (.seq (.region [
   ⟨some 4, .mov (.c (.v (.int .i64 (-1)))), none⟩])
 (.ret))))
theorem h_laderef7_Many_At : (prog.funcs[F_laderef7_Many_At]?).bind (compFn prog) = some A_laderef7_Many_At := by kernel_rfl
def A_group_Same : AFn := .mk 38 [.tmp 4] (
 .seq (.region [
   ⟨some 2, .box (.t 0), none⟩,
   ⟨some 3, .box (.t 1), none⟩,
   ⟨some 4, .mov (.c (.v (.bool false))), none⟩])
 (.seq (.region [
   ⟨some 5, .fld 0 (.t 2), none⟩,
   ⟨some 6, .load false 1 (.t 5), none⟩,
   ⟨some 7, .fld 0 (.t 3), none⟩,
   ⟨some 8, .load false 1 (.t 7), none⟩,
   ⟨some 9, .bin .eql (.t 6) (.t 8), none⟩,
   ⟨some 10, .mov (.t 9), none⟩,
   ⟨some 11, .fld 1 (.t 2), some (10, true)⟩,
   ⟨some 12, .load false 1 (.t 11), some (10, true)⟩,
   ⟨some 13, .fld 1 (.t 3), some (10, true)⟩,
   ⟨some 14, .load false 1 (.t 13), some (10, true)⟩,
   ⟨some 15, .bin .eql (.t 12) (.t 14), some (10, true)⟩,
   ⟨some 16, .pick (.t 10) (.t 15) (.c (.v (.bool false))), none⟩,
   ⟨some 17, .mov (.t 16), none⟩,
   ⟨some 18, .fld 2 (.t 2), some (17, true)⟩,
   ⟨some 19, .load false 1 (.t 18), some (17, true)⟩,
   ⟨some 20, .fld 2 (.t 3), some (17, true)⟩,
   ⟨some 21, .load false 1 (.t 20), some (17, true)⟩,
   ⟨some 22, .bin .eql (.t 19) (.t 21), some (17, true)⟩,
   ⟨some 23, .pick (.t 17) (.t 22) (.c (.v (.bool false))), none⟩,
   ⟨some 24, .mov (.t 23), none⟩,
   ⟨some 25, .fld 3 (.t 2), some (24, true)⟩,
   ⟨some 26, .load true 3 (.t 25), some (24, true)⟩,
   ⟨some 27, .fld 3 (.t 3), some (24, true)⟩,
   ⟨some 28, .load true 3 (.t 27), some (24, true)⟩,
   ⟨some 29, .eqa false (.agg [.i, .i, .i]) (.t 26) (.t 28), some (24, true)⟩,
   ⟨some 30, .pick (.t 24) (.t 29) (.c (.v (.bool false))), none⟩,
   ⟨some 31, .mov (.t 30), none⟩,
   ⟨some 32, .fld 6 (.t 2), some (31, true)⟩,
   ⟨some 33, .load false 1 (.t 32), some (31, true)⟩,
   ⟨some 34, .fld 6 (.t 3), some (31, true)⟩,
   ⟨some 35, .load false 1 (.t 34), some (31, true)⟩,
   ⟨some 36, .call (.c (.f (.func F_slices_Equal_Entry) [] [])) [(.t 33), (.t 35)], some (31, true)⟩,
   ⟨some 37, .pick (.t 31) (.t 36) (.c (.v (.bool false))), none⟩,
   ⟨some 4, .mov (.t 37), none⟩])
 (.ret)))
theorem h_group_Same : (prog.funcs[F_group_Same]?).bind (compFn prog) = some A_group_Same := by kernel_rfl
def A_slices_Values_Part_1 : AFn := .mk 16 [] (
 .seq (.region [
   ⟨some 5, .load false 1 (.t 1), none⟩,
   ⟨some 6, .len .sl (.t 5), none⟩,
   ⟨some 7, .mov (.c (.v (.int .i64 0))), none⟩])
 (.block 0 (.loop (.seq (.region [
     ⟨some 8, .bin .lss (.t 7) (.t 6), none⟩])
   (.seq (.cond (.t 8)
    (.skip)
    (.exit 0))
   (.seq (.block 1 (.seq (.region [
      ⟨some 9, .idxp 10 (.t 5) (.t 7), none⟩,
      ⟨some 10, .load true 10 (.t 9), none⟩,
      ⟨some 4, .alloc [(.v (.int .i64 0)), (.v (.int .i64 0)), (.sl [] .zero), (.v (.int .i64 0)), (.v (.int .i64 0)), (.v (.int .i64 0)), (.v (.int .i64 0)), (.v (.int .i64 0)), (.v (.bool false)), (.v (.bool false))], none⟩,
      ⟨none, .store 10 (.t 4) (.t 10), none⟩])
    (.seq (.region [
      ⟨some 11, .mov (.t 0), none⟩,
      ⟨some 12, .load true 10 (.t 4), none⟩,
      ⟨some 13, .call (.t 11) [(.t 12)], none⟩,
      ⟨some 14, .un .not (.t 13), none⟩])
    (.cond (.t 14)
     (.ret)
     (.skip)))))
   (.region [
     ⟨some 15, .bin .add (.t 7) (.c (.v (.int .i64 1))), none⟩,
     ⟨some 7, .mov (.t 15), none⟩])))))))
theorem h_slices_Values_Part_1 : (prog.funcs[F_slices_Values_Part_1]?).bind (compFn prog) = some A_slices_Values_Part_1 := by kernel_rfl
def A_part_between : AFn := .mk 15 [.tmp 6] (
 .seq (.region [
   ⟨some 6, .mov (.c (.v (.bool false))), none⟩])
 (.seq (.region [
   ⟨some 7, .mov (.t 0), none⟩,
   ⟨some 8, .mov (.t 1), none⟩,
   ⟨some 9, .bin .geq (.t 7) (.t 8), none⟩,
   ⟨some 10, .mov (.t 9), none⟩,
   ⟨some 11, .mov (.t 0), some (10, true)⟩,
   ⟨some 12, .mov (.t 2), some (10, true)⟩,
   ⟨some 13, .bin .leq (.t 11) (.t 12), some (10, true)⟩,
   ⟨some 14, .pick (.t 10) (.t 13) (.c (.v (.bool false))), none⟩,
   ⟨some 6, .mov (.t 14), none⟩])
 (.ret)))
theorem h_part_between : (prog.funcs[F_part_between]?).bind (compFn prog) = some A_part_between := by kernel_rfl
def A_part_Same : AFn := .mk 59 [.tmp 4] (
 .seq (.region [
   ⟨some 2, .box (.t 0), none⟩,
   ⟨some 3, .box (.t 1), none⟩,
   ⟨some 4, .mov (.c (.v (.bool false))), none⟩])
 (.seq (.region (
   ⟨some 5, .fld 0 (.t 2), none⟩ ::
   ⟨some 6, .load false 1 (.t 5), none⟩ ::
   ⟨some 7, .fld 0 (.t 3), none⟩ ::
   ⟨some 8, .load false 1 (.t 7), none⟩ ::
   ⟨some 9, .bin .eql (.t 6) (.t 8), none⟩ ::
   ⟨some 10, .mov (.t 9), none⟩ ::
   ⟨some 11, .fld 1 (.t 2), some (10, true)⟩ ::
   ⟨some 12, .load false 1 (.t 11), some (10, true)⟩ ::
   ⟨some 13, .fld 1 (.t 3), some (10, true)⟩ ::
   ⟨some 14, .load false 1 (.t 13), some (10, true)⟩ ::
   ⟨some 15, .bin .eql (.t 12) (.t 14), some (10, true)⟩ ::
   ⟨some 16, .pick (.t 10) (.t 15) (.c (.v (.bool false))), none⟩ ::
   ⟨some 17, .mov (.t 16), none⟩ ::
   ⟨some 18, .fld 2 (.t 2), some (17, true)⟩ ::
   ⟨some 19, .load false 1 (.t 18), some (17, true)⟩ ::
   ⟨some 20, .fld 2 (.t 3), some (17, true)⟩ ::
   ⟨some 21, .load false 1 (.t 20), some (17, true)⟩ ::
   ⟨some 22, .call (.c (.f (.func F_slices_Equal_Entry) [] [])) [(.t 19), (.t 21)], some (17, true)⟩ ::
   ⟨some 23, .pick (.t 17) (.t 22) (.c (.v (.bool false))), none⟩ ::
   ⟨some 24, .mov (.t 23), none⟩ ::
   ⟨some 25, .fld 3 (.t 2), some (24, true)⟩ ::
   ⟨some 26, .load true 3 (.t 25), some (24, true)⟩ ::
   ⟨some 27, .fld 3 (.t 3), some (24, true)⟩ ::
   ⟨some 28, .load true 3 (.t 27), some (24, true)⟩ ::
   ⟨some 29, .eqa false (.agg [.i, .i, .i]) (.t 26) (.t 28), some (24, true)⟩ ::
   ⟨some 30, .pick (.t 24) (.t 29) (.c (.v (.bool false))), none⟩ ::
   ⟨some 31, .mov (.t 30), none⟩ ::
   ⟨some 32, .fld 6 (.t 2), some (31, true)⟩ ::
   ⟨some 33, .load false 1 (.t 32), some (31, true)⟩ ::
   ⟨some 34, .fld 6 (.t 3), some (31, true)⟩ ::
   ⟨some 35, .load false 1 (.t 34), some (31, true)⟩ ::
   ⟨some 36, .bin .eql (.t 33) (.t 35), some (31, true)⟩ ::
   ⟨some 37, .pick (.t 31) (.t 36) (.c (.v (.bool false))), none⟩ ::
   ⟨some 38, .mov (.t 37), none⟩ ::
   ⟨some 39, .fld 7 (.t 2), some (38, true)⟩ ::
   ⟨some 40, .load false 1 (.t 39), some (38, true)⟩ ::
   ⟨some 41, .fld 7 (.t 3), some (38, true)⟩ ::
   ⟨some 42, .load false 1 (.t 41), some (38, true)⟩ ::
   ⟨some 43, .bin .eql (.t 40) (.t 42), some (38, true)⟩ ::
   ⟨some 44, .pick (.t 38) (.t 43) (.c (.v (.bool false))), none⟩ ::
   ⟨some 45, .mov (.t 44), none⟩ ::
   ⟨some 46, .fld 8 (.t 2), some (45, true)⟩ ::
   ⟨some 47, .load false 1 (.t 46), some (45, true)⟩ ::
   ⟨some 48, .fld 8 (.t 3), some (45, true)⟩ ::
   ⟨some 49, .load false 1 (.t 48), some (45, true)⟩ ::
   ⟨some 50, .eqa false .bool (.t 47) (.t 49), some (45, true)⟩ ::
   ⟨some 51, .pick (.t 45) (.t 50) (.c (.v (.bool false))), none⟩ ::
   ⟨some 52, .mov (.t 51), none⟩ ::
   ⟨some 53, .fld 9 (.t 2), some (52, true)⟩ ::
   ⟨some 54, .load false 1 (.t 53), some (52, true)⟩ ::
   ⟨some 55, .fld 9 (.t 3), some (52, true)⟩ ::
   ⟨some 56, .load false 1 (.t 55), some (52, true)⟩ ::
   ⟨some 57, .eqa false .bool (.t 54) (.t 56), some (52, true)⟩ ::
   ⟨some 58, .pick (.t 52) (.t 57) (.c (.v (.bool false))), none⟩ ::
   ⟨some 4, .mov (.t 58), none⟩ ::
   []))
 (.ret)))
theorem h_part_Same : (prog.funcs[F_part_Same]?).bind (compFn prog) = some A_part_Same := by kernel_rfl
def A_part_core : AFn := .mk 55 [.cell true 10 2] (
 .seq (.region [
   ⟨some 1, .box (.t 0), none⟩,
   ⟨some 2, .alloc [(.v (.int .i64 0)), (.v (.int .i64 0)), (.sl [] .zero), (.v (.int .i64 0)), (.v (.int .i64 0)), (.v (.int .i64 0)), (.v (.int .i64 0)), (.v (.int .i64 0)), (.v (.bool false)), (.v (.bool false))], none⟩])
 (.seq (.region [
   ⟨some 4, .fld 0 (.t 1), none⟩,
   ⟨some 5, .load false 1 (.t 4), none⟩,
   ⟨some 6, .fld 1 (.t 1), none⟩,
   ⟨some 7, .load false 1 (.t 6), none⟩,
   ⟨some 8, .build [(.v (.int .i64 0)), (.v (.int .i64 0)), (.sl [] .zero), (.v (.int .i64 0)), (.v (.int .i64 0)), (.v (.int .i64 0)), (.v (.int .i64 0)), (.v (.int .i64 0)), (.v (.bool false)), (.v (.bool false))] [(0, 1, (.t 5)), (1, 1, (.t 7))], none⟩,
   ⟨some 3, .alloc [(.v (.int .i64 0)), (.v (.int .i64 0)), (.sl [] .zero), (.v (.int .i64 0)), (.v (.int .i64 0)), (.v (.int .i64 0)), (.v (.int .i64 0)), (.v (.int .i64 0)), (.v (.bool false)), (.v (.bool false))], none⟩,
   ⟨none, .store 10 (.t 3) (.t 8), none⟩])
 (.seq (.seq (.region [
   ⟨some 9, .fld 1 (.t 1), none⟩,
   ⟨some 10, .load false 1 (.t 9), none⟩])
 (.block 0 (.seq (.region [
    ⟨some 12, .bin .eql (.t 10) (.c (.v (.int .i64 1))), none⟩,
    ⟨some 11, .mov (.t 12), none⟩])
  (.cond (.t 11)
   (.region [
     ⟨some 13, .fld 2 (.t 1), none⟩,
     ⟨some 14, .load false 1 (.t 13), none⟩,
     ⟨some 15, .fld 2 (.t 3), none⟩,
     ⟨none, .store 1 (.t 15) (.t 14), none⟩])
   (.seq (.region [
     ⟨some 17, .bin .eql (.t 10) (.c (.v (.int .i64 2))), none⟩,
     ⟨some 16, .mov (.t 17), none⟩])
   (.cond (.t 16)
    (.region [
      ⟨some 18, .fld 3 (.t 1), none⟩,
      ⟨some 19, .load true 3 (.t 18), none⟩,
      ⟨some 20, .fld 3 (.t 3), none⟩,
      ⟨none, .store 3 (.t 20) (.t 19), none⟩])
    (.seq (.seq (.region [
      ⟨some 22, .bin .eql (.t 10) (.c (.v (.int .i64 3))), none⟩,
      ⟨some 21, .mov (.t 22), none⟩])
    (.cond (.t 21)
     (.skip)
     (.region [
       ⟨some 23, .bin .eql (.t 10) (.c (.v (.int .i64 4))), none⟩,
       ⟨some 21, .mov (.t 23), none⟩])))
    (.cond (.t 21)
     (.draw (
       ⟨⟨some 24, .fld 6 (.t 1), none⟩, false, false, []⟩ ::
       ⟨⟨some 25, .load false 1 (.t 24), none⟩, false, false, []⟩ ::
       ⟨⟨some 26, .fld 7 (.t 1), none⟩, false, true, []⟩ ::
       ⟨⟨some 27, .load false 1 (.t 26), none⟩, false, true, []⟩ ::
       ⟨⟨some 28, .fld 6 (.t 3), none⟩, false, false, []⟩ ::
       ⟨⟨none, .store 1 (.t 28) (.t 25), none⟩, true, false, [⟨some 27, .load false 1 (.t 26), none⟩]⟩ ::
       ⟨⟨some 29, .fld 7 (.t 3), none⟩, false, false, []⟩ ::
       ⟨⟨none, .store 1 (.t 29) (.t 27), none⟩, true, false, []⟩ ::
       []))
     (.seq (.region [
       ⟨some 31, .bin .eql (.t 10) (.c (.v (.int .i64 6))), none⟩,
       ⟨some 30, .mov (.t 31), none⟩])
     (.cond (.t 30)
      (.seq (.draw (
        ⟨⟨some 32, .fld 2 (.t 1), none⟩, false, false, []⟩ ::
        ⟨⟨some 33, .load false 1 (.t 32), none⟩, false, false, []⟩ ::
        ⟨⟨some 34, .fld 8 (.t 1), none⟩, false, true, []⟩ ::
        ⟨⟨some 35, .load false 1 (.t 34), none⟩, false, true, []⟩ ::
        ⟨⟨some 36, .fld 9 (.t 1), none⟩, false, true, []⟩ ::
        ⟨⟨some 37, .load false 1 (.t 36), none⟩, false, true, []⟩ ::
        ⟨⟨some 38, .fld 2 (.t 3), none⟩, false, false, []⟩ ::
        ⟨⟨none, .store 1 (.t 38) (.t 33), none⟩, true, false, [⟨some 37, .load false 1 (.t 36), none⟩, ⟨some 35, .load false 1 (.t 34), none⟩]⟩ ::
        ⟨⟨some 39, .fld 8 (.t 3), none⟩, false, false, []⟩ ::
        ⟨⟨none, .store 1 (.t 39) (.t 35), none⟩, true, false, [⟨some 37, .load false 1 (.t 36), none⟩]⟩ ::
        ⟨⟨some 40, .fld 9 (.t 3), none⟩, false, false, []⟩ ::
        ⟨⟨none, .store 1 (.t 40) (.t 37), none⟩, true, false, []⟩ ::
        []))
      (.seq (.seq (.region [
        ⟨some 41, .fld 8 (.t 1), none⟩,
        ⟨some 42, .load false 1 (.t 41), none⟩])
      (.cond (.t 42)
       (.draw (
         ⟨⟨some 43, .fld 6 (.t 1), none⟩, false, false, []⟩ ::
         ⟨⟨some 44, .load false 1 (.t 43), none⟩, false, false, []⟩ ::
         ⟨⟨some 45, .fld 7 (.t 1), none⟩, false, true, []⟩ ::
         ⟨⟨some 46, .load false 1 (.t 45), none⟩, false, true, []⟩ ::
         ⟨⟨some 47, .fld 6 (.t 3), none⟩, false, false, []⟩ ::
         ⟨⟨none, .store 1 (.t 47) (.t 44), none⟩, true, false, [⟨some 46, .load false 1 (.t 45), none⟩]⟩ ::
         ⟨⟨some 48, .fld 7 (.t 3), none⟩, false, false, []⟩ ::
         ⟨⟨none, .store 1 (.t 48) (.t 46), none⟩, true, false, []⟩ ::
         []))
       (.skip)))
      (.seq (.region [
        ⟨some 49, .fld 9 (.t 1), none⟩,
        ⟨some 50, .load false 1 (.t 49), none⟩])
      (.cond (.t 50)
       (.region [
         ⟨some 51, .fld 3 (.t 1), none⟩,
         ⟨some 52, .load true 3 (.t 51), none⟩,
         ⟨some 53, .fld 3 (.t 3), none⟩,
         ⟨none, .store 3 (.t 53) (.t 52), none⟩])
       (.skip)))))
      (.skip)))))))))))
 (.seq (.region [
   ⟨some 54, .load true 10 (.t 3), none⟩,
   ⟨none, .store 10 (.t 2) (.t 54), none⟩])
 (.ret)))))
theorem h_part_core : (prog.funcs[F_part_core]?).bind (compFn prog) = some A_part_core := by kernel_rfl
end Go.Proofs.YtmpoeamfcienoaaGreat
end
section
namespace Go.Proofs.YtmpoeamfcienoaaGreat
open Go.Ab
set_option maxRecDepth 100000
def A_part_rising : AFn := .mk 51 [.tmp 4] (
 .seq (.region [
   ⟨some 4, .mov (.c (.v (.bool false))), none⟩])
 (.seq (.seq (.region [
   ⟨some 7, .mov (.t 0), none⟩,
   ⟨some 8, .len .sl (.t 7), none⟩,
   ⟨some 9, .mov (.c (.v (.int .i64 0))), none⟩])
 (.block 0 (.loop (.seq (.region [
     ⟨some 10, .bin .lss (.t 9) (.t 8), none⟩])
   (.seq (.cond (.t 10)
    (.skip)
    (.exit 0))
   (.seq (.block 1 (.seq (.region [
      ⟨some 11, .mov (.t 9), none⟩,
      ⟨some 12, .idxp 3 (.t 7) (.t 9), none⟩,
      ⟨some 13, .load true 3 (.t 12), none⟩,
      ⟨some 6, .alloc [(.v (.int .i64 0)), (.v (.int .i64 0)), (.v (.string ⟨#[]⟩))], none⟩,
      ⟨some 5, .mov (.t 11), none⟩,
      ⟨none, .store 3 (.t 6) (.t 13), none⟩])
    (.seq (.region [
      ⟨some 14, .load true 3 (.t 6), none⟩,
      ⟨some 15, .call (.c (.f (.func F_part_IsEntry) [] [])) [(.t 14)], none⟩,
      ⟨some 16, .un .not (.t 15), none⟩,
      ⟨some 17, .mov (.t 16), none⟩,
      ⟨some 18, .mov (.t 5), some (17, false)⟩,
      ⟨some 19, .bin .gtr (.t 18) (.c (.v (.int .i64 0))), some (17, false)⟩,
      ⟨some 20, .mov (.t 19), some (17, false)⟩,
      ⟨some 21, .fld 0 (.t 6), some (20, true)⟩,
      ⟨some 22, .load false 1 (.t 21), some (20, true)⟩,
      ⟨some 23, .mov (.t 0), some (20, true)⟩,
      ⟨some 24, .mov (.t 5), some (20, true)⟩,
      ⟨some 25, .bin .sub (.t 24) (.c (.v (.int .i64 1))), some (20, true)⟩,
      ⟨some 26, .idxp 3 (.t 23) (.t 25), some (20, true)⟩,
      ⟨some 27, .fld 0 (.t 26), some (20, true)⟩,
      ⟨some 28, .load false 1 (.t 27), some (20, true)⟩,
      ⟨some 29, .bin .leq (.t 22) (.t 28), some (20, true)⟩,
      ⟨some 30, .mov (.t 29), some (20, true)⟩,
      ⟨some 31, .mov (.t 1), some (30, false)⟩,
      ⟨some 32, .mov (.t 31), some (30, false)⟩,
      ⟨some 33, .fld 0 (.t 6), some (32, true)⟩,
      ⟨some 34, .load false 1 (.t 33), some (32, true)⟩,
      ⟨some 35, .mov (.t 0), some (32, true)⟩,
      ⟨some 36, .mov (.t 5), some (32, true)⟩,
      ⟨some 37, .bin .sub (.t 36) (.c (.v (.int .i64 1))), some (32, true)⟩,
      ⟨some 38, .idxp 3 (.t 35) (.t 37), some (32, true)⟩,
      ⟨some 39, .fld 0 (.t 38), some (32, true)⟩,
      ⟨some 40, .load false 1 (.t 39), some (32, true)⟩,
      ⟨some 41, .bin .add (.t 40) (.c (.v (.int .i64 1))), some (32, true)⟩,
      ⟨some 42, .bin .neq (.t 34) (.t 41), some (32, true)⟩,
      ⟨some 43, .pick (.t 32) (.t 42) (.c (.v (.bool false))), some (30, false)⟩,
      ⟨some 44, .pick (.t 30) (.c (.v (.bool true))) (.t 43), some (20, true)⟩,
      ⟨some 45, .pick (.t 20) (.t 44) (.c (.v (.bool false))), some (17, false)⟩,
      ⟨some 46, .pick (.t 17) (.c (.v (.bool true))) (.t 45), none⟩])
    (.cond (.t 46)
     (.seq (.region [
       ⟨some 4, .mov (.c (.v (.bool false))), none⟩])
     (.ret))
     (.skip)))))
   (.region [
     ⟨some 47, .bin .add (.t 9) (.c (.v (.int .i64 1))), none⟩,
     ⟨some 9, .mov (.t 47), none⟩])))))))
 (.seq (.region [
   ⟨some 48, .mov (.t 0), none⟩,
   ⟨some 49, .len .sl (.t 48), none⟩,
   ⟨some 50, .bin .leq (.t 49) (.c (.v (.int .i64 6))), none⟩,
   ⟨some 4, .mov (.t 50), none⟩])
 (.ret))))
theorem h_part_rising : (prog.funcs[F_part_rising]?).bind (compFn prog) = some A_part_rising := by kernel_rfl
def A_part_IsHard : AFn := .mk 16 [.tmp 2] (
 .seq (.region [
   ⟨some 1, .box (.t 0), none⟩,
   ⟨some 2, .mov (.c (.v (.bool false))), none⟩])
 (.seq (.region [
   ⟨some 3, .fld 0 (.t 1), none⟩,
   ⟨some 4, .load false 1 (.t 3), none⟩,
   ⟨some 5, .call (.c (.f (.func F_part_between) [] [])) [(.t 4), (.c (.v (.int .i64 0))), (.c (.v (.int .i64 1099511627776)))], none⟩,
   ⟨some 6, .mov (.t 5), none⟩,
   ⟨some 7, .fld 1 (.t 1), some (6, true)⟩,
   ⟨some 8, .load false 1 (.t 7), some (6, true)⟩,
   ⟨some 9, .call (.c (.f (.func F_part_between) [] [])) [(.t 8), (.c (.v (.int .i64 0))), (.c (.v (.int .i64 1000)))], some (6, true)⟩,
   ⟨some 10, .pick (.t 6) (.t 9) (.c (.v (.bool false))), none⟩,
   ⟨some 11, .mov (.t 10), none⟩,
   ⟨some 12, .fld 2 (.t 1), some (11, true)⟩,
   ⟨some 13, .load false 1 (.t 12), some (11, true)⟩,
   ⟨some 14, .call (.c (.f (.func F_part_between) [] [])) [(.t 13), (.c (.v (.int .i64 0))), (.c (.v (.int .i64 1099511627776)))], some (11, true)⟩,
   ⟨some 15, .pick (.t 11) (.t 14) (.c (.v (.bool false))), none⟩,
   ⟨some 2, .mov (.t 15), none⟩])
 (.ret)))
theorem h_part_IsHard : (prog.funcs[F_part_IsHard]?).bind (compFn prog) = some A_part_IsHard := by kernel_rfl
def A_part_isMark : AFn := .mk 14 [.tmp 6] (
 .seq (.region [
   ⟨some 6, .mov (.c (.v (.bool false))), none⟩])
 (.seq (.region [
   ⟨some 7, .mov (.t 0), none⟩,
   ⟨some 8, .call (.c (.f (.func F_part_between) [] [])) [(.t 7), (.c (.v (.int .i64 1))), (.c (.v (.int .i64 1099511627776)))], none⟩,
   ⟨some 9, .mov (.t 8), none⟩,
   ⟨some 10, .mov (.t 1), some (9, true)⟩,
   ⟨some 11, .mov (.t 2), some (9, true)⟩,
   ⟨some 12, .call (.c (.f (.func F_part_between) [] [])) [(.t 10), (.t 11), (.c (.v (.int .i64 1099511627776)))], some (9, true)⟩,
   ⟨some 13, .pick (.t 9) (.t 12) (.c (.v (.bool false))), none⟩,
   ⟨some 6, .mov (.t 13), none⟩])
 (.ret)))
theorem h_part_isMark : (prog.funcs[F_part_isMark]?).bind (compFn prog) = some A_part_isMark := by kernel_rfl
def A_group_New : AFn := .mk 5 [.cell true 7 2] (
 .seq (.region [
   ⟨some 2, .alloc [(.v (.int .i64 0)), (.v (.int .i64 0)), (.v (.int .i64 0)), (.v (.int .i64 0)), (.v (.int .i64 0)), (.v (.int .i64 0)), (.sl [] .zero)], none⟩])
 (.seq (.region [
   ⟨some 3, .mov (.t 0), none⟩,
   ⟨some 4, .build [(.v (.int .i64 0)), (.v (.int .i64 0)), (.v (.int .i64 0)), (.v (.int .i64 0)), (.v (.int .i64 0)), (.v (.int .i64 0)), (.sl [] .zero)] [(0, 1, (.t 3)), (1, 1, (.c (.v (.int .i64 1))))], none⟩,
   ⟨none, .store 7 (.t 2) (.t 4), none⟩])
 (.ret)))
theorem h_group_New : (prog.funcs[F_group_New]?).bind (compFn prog) = some A_group_New := by kernel_rfl
def A_sparse_Do : AFn := .mk 77 [.cell true 7 4] (
 .seq (.region [
   ⟨some 2, .box (.t 0), none⟩,
   ⟨some 3, .box (.t 1), none⟩,
   ⟨some 4, .alloc [(.v (.int .i64 0)), (.v (.int .i64 0)), (.v (.int .i64 0)), (.v (.int .i64 0)), (.v (.int .i64 0)), (.v (.int .i64 0)), (.sl [] .zero)], none⟩])
 (.seq (.seq (.region [
   ⟨some 6, .load true 7 (.t 2), none⟩,
   ⟨some 7, .call (.c (.f (.func F_sparse_Is) [] [])) [(.t 6)], none⟩,
   ⟨some 8, .un .not (.t 7), none⟩,
   ⟨some 9, .mov (.t 8), none⟩,
   ⟨some 10, .load true 10 (.t 3), some (9, false)⟩,
   ⟨some 11, .call (.c (.f (.func F_part_Is) [] [])) [(.t 10)], some (9, false)⟩,
   ⟨some 12, .un .not (.t 11), some (9, false)⟩,
   ⟨some 13, .pick (.t 9) (.c (.v (.bool true))) (.t 12), none⟩,
   ⟨some 14, .mov (.t 13), none⟩,
   ⟨some 15, .fld 0 (.t 3), some (14, false)⟩,
   ⟨some 16, .load false 1 (.t 15), some (14, false)⟩,
   ⟨some 17, .fld 0 (.t 2), some (14, false)⟩,
   ⟨some 18, .load false 1 (.t 17), some (14, false)⟩,
   ⟨some 19, .bin .neq (.t 16) (.t 18), some (14, false)⟩,
   ⟨some 20, .pick (.t 14) (.c (.v (.bool true))) (.t 19), none⟩])
 (.cond (.t 20)
  (.seq (.region [
    ⟨some 21, .load true 7 (.t 2), none⟩,
    ⟨none, .store 7 (.t 4) (.t 21), none⟩])
  (.ret))
  (.skip)))
 (.seq (.seq (.region [
   ⟨some 22, .fld 1 (.t 3), none⟩,
   ⟨some 23, .load false 1 (.t 22), none⟩])
 (.block 0 (.seq (.region [
    ⟨some 25, .bin .eql (.t 23) (.c (.v (.int .i64 1))), none⟩,
    ⟨some 24, .mov (.t 25), none⟩])
  (.cond (.t 24)
   (.seq (.region [
     ⟨some 26, .fld 2 (.t 3), none⟩,
     ⟨some 27, .load false 1 (.t 26), none⟩,
     ⟨some 28, .idxp 3 (.t 27) (.c (.v (.int .i64 0))), none⟩,
     ⟨some 29, .fld 0 (.t 28), none⟩,
     ⟨some 30, .load false 1 (.t 29), none⟩,
     ⟨some 5, .mov (.t 30), none⟩])
   (.draw (
     ⟨⟨some 31, .fld 6 (.t 2), none⟩, false, false, []⟩ ::
     ⟨⟨some 32, .load false 1 (.t 31), none⟩, false, false, []⟩ ::
     ⟨⟨some 33, .fld 1 (.t 2), none⟩, false, false, []⟩ ::
     ⟨⟨some 34, .load false 1 (.t 33), none⟩, false, false, []⟩ ::
     ⟨⟨some 35, .mov (.t 5), none⟩, false, false, []⟩ ::
     ⟨⟨some 37, .fld 2 (.t 3), none⟩, false, true, []⟩ ::
     ⟨⟨some 38, .load false 1 (.t 37), none⟩, false, true, []⟩ ::
     ⟨⟨some 39, .fld 1 (.t 2), none⟩, false, true, []⟩ ::
     ⟨⟨some 40, .load false 1 (.t 39), none⟩, false, true, []⟩ ::
     ⟨⟨some 36, .call (.c (.f (.func F_sparse_from) [] [])) [(.t 32), (.t 34), (.t 35)], none⟩, true, false, [⟨some 40, .load false 1 (.t 39), none⟩, ⟨some 38, .load false 1 (.t 37), none⟩]⟩ ::
     ⟨⟨some 41, .call (.c (.f (.func F_sparse_from) [] [])) [(.t 38), (.t 40), (.c (.v (.int .i64 1099511627777)))], none⟩, true, false, []⟩ ::
     ⟨⟨some 42, .append 3 32 (.t 36) (.t 41), none⟩, true, false, []⟩ ::
     ⟨⟨some 43, .fld 6 (.t 2), none⟩, false, false, []⟩ ::
     ⟨⟨none, .store 1 (.t 43) (.t 42), none⟩, true, false, []⟩ ::
     [])))
   (.seq (.region [
     ⟨some 45, .bin .eql (.t 23) (.c (.v (.int .i64 2))), none⟩,
     ⟨some 44, .mov (.t 45), none⟩])
   (.cond (.t 44)
    (.region [
      ⟨some 46, .fld 3 (.t 3), none⟩,
      ⟨some 47, .load true 3 (.t 46), none⟩,
      ⟨some 48, .fld 3 (.t 2), none⟩,
      ⟨none, .store 3 (.t 48) (.t 47), none⟩])
    (.seq (.region [
      ⟨some 50, .bin .eql (.t 23) (.c (.v (.int .i64 3))), none⟩,
      ⟨some 49, .mov (.t 50), none⟩])
    (.cond (.t 49)
     (.region [
       ⟨some 51, .load true 7 (.t 2), none⟩,
       ⟨some 52, .fld 6 (.t 3), none⟩,
       ⟨some 53, .load false 1 (.t 52), none⟩,
       ⟨some 54, .fld 7 (.t 3), none⟩,
       ⟨some 55, .load false 1 (.t 54), none⟩,
       ⟨some 56, .call (.c (.f (.func F_sparse_gone) [] [])) [(.t 51), (.t 53), (.t 55)], none⟩,
       ⟨none, .store 7 (.t 2) (.t 56), none⟩])
     (.seq (.region [
       ⟨some 58, .bin .eql (.t 23) (.c (.v (.int .i64 4))), none⟩,
       ⟨some 57, .mov (.t 58), none⟩])
     (.cond (.t 57)
      (.seq (.seq (.region [
        ⟨some 59, .fld 6 (.t 3), none⟩,
        ⟨some 60, .load false 1 (.t 59), none⟩,
        ⟨some 61, .fld 1 (.t 2), none⟩,
        ⟨some 62, .load false 1 (.t 61), none⟩,
        ⟨some 63, .bin .geq (.t 60) (.t 62), none⟩])
      (.cond (.t 63)
       (.region [
         ⟨some 64, .fld 6 (.t 2), none⟩,
         ⟨none, .store 1 (.t 64) (.c (.sl [] .zero)), none⟩])
       (.skip)))
      (.region [
        ⟨some 65, .load true 7 (.t 2), none⟩,
        ⟨some 66, .fld 6 (.t 3), none⟩,
        ⟨some 67, .load false 1 (.t 66), none⟩,
        ⟨some 68, .fld 7 (.t 3), none⟩,
        ⟨some 69, .load false 1 (.t 68), none⟩,
        ⟨some 70, .call (.c (.f (.func F_sparse_gone) [] [])) [(.t 65), (.t 67), (.t 69)], none⟩,
        ⟨none, .store 7 (.t 2) (.t 70), none⟩]))
      (.seq (.region [
        ⟨some 72, .bin .eql (.t 23) (.c (.v (.int .i64 6))), none⟩,
        ⟨some 71, .mov (.t 72), none⟩])
      (.cond (.t 71)
       (.region [
         ⟨some 73, .load true 7 (.t 2), none⟩,
         ⟨some 74, .load true 10 (.t 3), none⟩,
         ⟨some 75, .call (.c (.f (.func F_sparse_forward) [] [])) [(.t 73), (.t 74)], none⟩,
         ⟨none, .store 7 (.t 2) (.t 75), none⟩])
       (.skip)))))))))))))
 (.seq (.region [
   ⟨some 76, .load true 7 (.t 2), none⟩,
   ⟨none, .store 7 (.t 4) (.t 76), none⟩])
 (.ret)))))
theorem h_sparse_Do : (prog.funcs[F_sparse_Do]?).bind (compFn prog) = some A_sparse_Do := by kernel_rfl
def A_slices_Values_Entry : AFn := .mk 4 [.tmp 2] (
 .seq (.region [
   ⟨some 1, .box (.t 0), none⟩,
   ⟨some 2, .mov (.c (.v .nilFunc)), none⟩])
 (.seq (.region [
   ⟨some 3, .mkf (.func F_slices_Values_Entry_1) [] [(.t 1)], none⟩,
   ⟨some 2, .mov (.t 3), none⟩])
 (.ret)))
theorem h_slices_Values_Entry : (prog.funcs[F_slices_Values_Entry]?).bind (compFn prog) = some A_slices_Values_Entry := by kernel_rfl
def A_place_brought : AFn := .mk 19 [.tmp 4] (
 .seq (.region [
   ⟨some 2, .box (.t 0), none⟩,
   ⟨some 3, .box (.t 1), none⟩,
   ⟨some 4, .mov (.c (.v (.bool false))), none⟩])
 (.seq (.region [
   ⟨some 5, .fld 1 (.t 2), none⟩,
   ⟨some 6, .load false 1 (.t 5), none⟩,
   ⟨some 7, .bin .eql (.t 6) (.c (.v (.int .i64 1))), none⟩,
   ⟨some 8, .mov (.t 7), none⟩,
   ⟨some 9, .fld 1 (.t 2), some (8, false)⟩,
   ⟨some 10, .load false 1 (.t 9), some (8, false)⟩,
   ⟨some 11, .bin .eql (.t 10) (.c (.v (.int .i64 6))), some (8, false)⟩,
   ⟨some 12, .pick (.t 8) (.c (.v (.bool true))) (.t 11), none⟩,
   ⟨some 13, .mov (.t 12), none⟩,
   ⟨some 14, .fld 2 (.t 2), some (13, true)⟩,
   ⟨some 15, .load false 1 (.t 14), some (13, true)⟩,
   ⟨some 16, .load true 3 (.t 3), some (13, true)⟩,
   ⟨some 17, .call (.c (.f (.func F_slices_Contains_Entry) [] [])) [(.t 15), (.t 16)], some (13, true)⟩,
   ⟨some 18, .pick (.t 13) (.t 17) (.c (.v (.bool false))), none⟩,
   ⟨some 4, .mov (.t 18), none⟩])
 (.ret)))
theorem h_place_brought : (prog.funcs[F_place_brought]?).bind (compFn prog) = some A_place_brought := by kernel_rfl
def A_place_marks : AFn := .mk 36 [.tmp 6] (
 .seq (.region [
   ⟨some 3, .box (.t 0), none⟩,
   ⟨some 4, .box (.t 1), none⟩,
   ⟨some 5, .box (.t 2), none⟩,
   ⟨some 6, .mov (.c (.v (.bool false))), none⟩])
 (.seq (.seq (.region [
   ⟨some 7, .fld 1 (.t 3), none⟩,
   ⟨some 8, .load false 1 (.t 7), none⟩])
 (.block 0 (.seq (.seq (.region [
    ⟨some 10, .bin .eql (.t 8) (.c (.v (.int .i64 3))), none⟩,
    ⟨some 9, .mov (.t 10), none⟩])
  (.cond (.t 9)
   (.skip)
   (.region [
     ⟨some 11, .bin .eql (.t 8) (.c (.v (.int .i64 4))), none⟩,
     ⟨some 9, .mov (.t 11), none⟩])))
  (.cond (.t 9)
   (.seq (.region [
     ⟨some 12, .fld 1 (.t 5), none⟩,
     ⟨some 13, .load false 1 (.t 12), none⟩,
     ⟨some 14, .fld 1 (.t 4), none⟩,
     ⟨some 15, .load false 1 (.t 14), none⟩,
     ⟨some 16, .bin .neq (.t 13) (.t 15), none⟩,
     ⟨some 6, .mov (.t 16), none⟩])
   (.ret))
   (.seq (.region [
     ⟨some 18, .bin .eql (.t 8) (.c (.v (.int .i64 6))), none⟩,
     ⟨some 17, .mov (.t 18), none⟩])
   (.cond (.t 17)
    (.seq (.region [
      ⟨some 19, .fld 8 (.t 3), none⟩,
      ⟨some 20, .load false 1 (.t 19), none⟩,
      ⟨some 21, .mov (.t 20), none⟩,
      ⟨some 22, .fld 6 (.t 3), some (21, true)⟩,
      ⟨some 23, .load false 1 (.t 22), some (21, true)⟩,
      ⟨some 24, .fld 1 (.t 5), some (21, true)⟩,
      ⟨some 25, .load false 1 (.t 24), some (21, true)⟩,
      ⟨some 26, .bin .sub (.t 25) (.c (.v (.int .i64 1))), some (21, true)⟩,
      ⟨some 27, .bin .eql (.t 23) (.t 26), some (21, true)⟩,
      ⟨some 28, .pick (.t 21) (.t 27) (.c (.v (.bool false))), none⟩,
      ⟨some 29, .mov (.t 28), none⟩,
      ⟨some 30, .fld 7 (.t 3), some (29, true)⟩,
      ⟨some 31, .load false 1 (.t 30), some (29, true)⟩,
      ⟨some 32, .fld 2 (.t 5), some (29, true)⟩,
      ⟨some 33, .load false 1 (.t 32), some (29, true)⟩,
      ⟨some 34, .bin .eql (.t 31) (.t 33), some (29, true)⟩,
      ⟨some 35, .pick (.t 29) (.t 34) (.c (.v (.bool false))), none⟩,
      ⟨some 6, .mov (.t 35), none⟩])
    (.ret))
    (.skip)))))))
 (.seq (.region [
   ⟨some 6, .mov (.c (.v (.bool false))), none⟩])
 (.ret))))
theorem h_place_marks : (prog.funcs[F_place_marks]?).bind (compFn prog) = some A_place_marks := by kernel_rfl
def A_laderef4_Is : AFn := .mk 150 [.tmp 2] (
 .seq (.region [
   ⟨some 1, .box (.t 0), none⟩,
   ⟨some 2, .mov (.c (.v (.bool false))), none⟩])
 (.seq (.seq (.region [
   ⟨some 6, .fld 0 (.t 1), none⟩,
   ⟨some 7, .load false 1 (.t 6), none⟩,
   ⟨some 8, .call (.c (.f (.func F_laderef4_within) [] [])) [(.t 7), (.c (.v (.int .i64 0))), (.c (.v (.int .i64 999)))], none⟩,
   ⟨some 9, .un .not (.t 8), none⟩])
 (.cond (.t 9)
  (.seq (.region [
    ⟨some 2, .mov (.c (.v (.bool false))), none⟩])
  (.ret))
  (.skip)))
 (.seq (.region [
   ⟨some 10, .fld 2 (.t 1), none⟩,
   ⟨some 11, .load false 1 (.t 10), none⟩,
   ⟨some 12, .len .sl (.t 11), none⟩,
   ⟨some 13, .bin .eql (.t 12) (.c (.v (.int .i64 0))), none⟩,
   ⟨some 14, .fld 3 (.t 1), none⟩,
   ⟨some 15, .load true 3 (.t 14), none⟩,
   ⟨some 16, .build [(.v (.int .i64 0)), (.v (.int .i64 0)), (.v (.int .i64 0))] [], none⟩,
   ⟨some 17, .eqa false (.agg [.i, .i, .i]) (.t 15) (.t 16), none⟩,
   ⟨some 18, .fld 6 (.t 1), none⟩,
   ⟨some 19, .load false 1 (.t 18), none⟩,
   ⟨some 20, .bin .eql (.t 19) (.c (.v (.int .i64 0))), none⟩,
   ⟨some 21, .mov (.t 20), none⟩,
   ⟨some 22, .fld 7 (.t 1), some (21, true)⟩,
   ⟨some 23, .load false 1 (.t 22), some (21, true)⟩,
   ⟨some 24, .bin .eql (.t 23) (.c (.v (.int .i64 0))), some (21, true)⟩,
   ⟨some 25, .pick (.t 21) (.t 24) (.c (.v (.bool false))), none⟩,
   ⟨some 3, .mov (.t 13), none⟩,
   ⟨some 4, .mov (.t 17), none⟩,
   ⟨some 5, .mov (.t 25), none⟩])
 (.seq (.seq (.region [
   ⟨some 26, .fld 1 (.t 1), none⟩,
   ⟨some 27, .load false 1 (.t 26), none⟩,
   ⟨some 28, .bin .neq (.t 27) (.c (.v (.int .i64 6))), none⟩,
   ⟨some 29, .mov (.t 28), none⟩,
   ⟨some 30, .fld 8 (.t 1), some (29, true)⟩,
   ⟨some 31, .load false 1 (.t 30), some (29, true)⟩,
   ⟨some 32, .mov (.t 31), some (29, true)⟩,
   ⟨some 33, .fld 9 (.t 1), some (32, false)⟩,
   ⟨some 34, .load false 1 (.t 33), some (32, false)⟩,
   ⟨some 35, .pick (.t 32) (.c (.v (.bool true))) (.t 34), some (29, true)⟩,
   ⟨some 36, .pick (.t 29) (.t 35) (.c (.v (.bool false))), none⟩])
 (.cond (.t 36)
  (.seq (.region [
    ⟨some 2, .mov (.c (.v (.bool false))), none⟩])
  (.ret))
  (.skip)))
 (.seq (.seq (.region [
   ⟨some 37, .fld 1 (.t 1), none⟩,
   ⟨some 38, .load false 1 (.t 37), none⟩])
 (.block 0 (.seq (.region [
    ⟨some 40, .bin .eql (.t 38) (.c (.v (.int .i64 1))), none⟩,
    ⟨some 39, .mov (.t 40), none⟩])
  (.cond (.t 39)
   (.seq (.region [
     ⟨some 41, .mov (.t 4), none⟩,
     ⟨some 42, .mov (.t 41), none⟩,
     ⟨some 43, .mov (.t 5), some (42, true)⟩,
     ⟨some 44, .pick (.t 42) (.t 43) (.c (.v (.bool false))), none⟩,
     ⟨some 45, .mov (.t 44), none⟩,
     ⟨some 46, .mov (.t 3), some (45, true)⟩,
     ⟨some 47, .un .not (.t 46), some (45, true)⟩,
     ⟨some 48, .pick (.t 45) (.t 47) (.c (.v (.bool false))), none⟩,
     ⟨some 49, .mov (.t 48), none⟩,
     ⟨some 50, .fld 2 (.t 1), some (49, true)⟩,
     ⟨some 51, .load false 1 (.t 50), some (49, true)⟩,
     ⟨some 52, .call (.c (.f (.func F_laderef4_entries) [] [])) [(.t 51), (.c (.v (.bool true)))], some (49, true)⟩,
     ⟨some 53, .pick (.t 49) (.t 52) (.c (.v (.bool false))), none⟩,
     ⟨some 2, .mov (.t 53), none⟩])
   (.ret))
   (.seq (.region [
     ⟨some 55, .bin .eql (.t 38) (.c (.v (.int .i64 2))), none⟩,
     ⟨some 54, .mov (.t 55), none⟩])
   (.cond (.t 54)
    (.seq (.region [
      ⟨some 56, .mov (.t 3), none⟩,
      ⟨some 57, .mov (.t 56), none⟩,
      ⟨some 58, .mov (.t 5), some (57, true)⟩,
      ⟨some 59, .pick (.t 57) (.t 58) (.c (.v (.bool false))), none⟩,
      ⟨some 60, .mov (.t 59), none⟩,
      ⟨some 61, .fld 3 (.t 1), some (60, true)⟩,
      ⟨some 62, .load true 3 (.t 61), some (60, true)⟩,
      ⟨some 63, .call (.c (.f (.func F_laderef4_IsHard) [] [])) [(.t 62)], some (60, true)⟩,
      ⟨some 64, .pick (.t 60) (.t 63) (.c (.v (.bool false))), none⟩,
      ⟨some 2, .mov (.t 64), none⟩])
    (.ret))
    (.seq (.region [
      ⟨some 66, .bin .eql (.t 38) (.c (.v (.int .i64 3))), none⟩,
      ⟨some 65, .mov (.t 66), none⟩])
    (.cond (.t 65)
     (.seq (.region [
       ⟨some 67, .mov (.t 3), none⟩,
       ⟨some 68, .mov (.t 67), none⟩,
       ⟨some 69, .mov (.t 4), some (68, true)⟩,
       ⟨some 70, .pick (.t 68) (.t 69) (.c (.v (.bool false))), none⟩,
       ⟨some 71, .mov (.t 70), none⟩,
       ⟨some 72, .fld 6 (.t 1), some (71, true)⟩,
       ⟨some 73, .load false 1 (.t 72), some (71, true)⟩,
       ⟨some 74, .call (.c (.f (.func F_laderef4_within) [] [])) [(.t 73), (.c (.v (.int .i64 1))), (.c (.v (.int .i64 1099511627776)))], some (71, true)⟩,
       ⟨some 75, .pick (.t 71) (.t 74) (.c (.v (.bool false))), none⟩,
       ⟨some 76, .mov (.t 75), none⟩,
       ⟨some 77, .fld 7 (.t 1), some (76, true)⟩,
       ⟨some 78, .load false 1 (.t 77), some (76, true)⟩,
       ⟨some 79, .call (.c (.f (.func F_laderef4_within) [] [])) [(.t 78), (.c (.v (.int .i64 0))), (.c (.v (.int .i64 1099511627776)))], some (76, true)⟩,
       ⟨some 80, .pick (.t 76) (.t 79) (.c (.v (.bool false))), none⟩,
       ⟨some 2, .mov (.t 80), none⟩])
     (.ret))
     (.seq (.region [
       ⟨some 82, .bin .eql (.t 38) (.c (.v (.int .i64 4))), none⟩,
       ⟨some 81, .mov (.t 82), none⟩])
     (.cond (.t 81)
      (.seq (.region [
        ⟨some 83, .mov (.t 3), none⟩,
        ⟨some 84, .mov (.t 83), none⟩,
        ⟨some 85, .mov (.t 4), some (84, true)⟩,
        ⟨some 86, .pick (.t 84) (.t 85) (.c (.v (.bool false))), none⟩,
        ⟨some 87, .mov (.t 86), none⟩,
        ⟨some 88, .load true 10 (.t 1), some (87, true)⟩,
        ⟨some 89, .call (.c (.f (.func F_laderef4_mark) [] [])) [(.t 88)], some (87, true)⟩,
        ⟨some 90, .pick (.t 87) (.t 89) (.c (.v (.bool false))), none⟩,
        ⟨some 2, .mov (.t 90), none⟩])
      (.ret))
      (.seq (.region [
        ⟨some 92, .bin .eql (.t 38) (.c (.v (.int .i64 5))), none⟩,
        ⟨some 91, .mov (.t 92), none⟩])
      (.cond (.t 91)
       (.seq (.region [
         ⟨some 93, .mov (.t 3), none⟩,
         ⟨some 94, .mov (.t 93), none⟩,
         ⟨some 95, .mov (.t 4), some (94, true)⟩,
         ⟨some 96, .pick (.t 94) (.t 95) (.c (.v (.bool false))), none⟩,
         ⟨some 97, .mov (.t 96), none⟩,
         ⟨some 98, .mov (.t 5), some (97, true)⟩,
         ⟨some 99, .pick (.t 97) (.t 98) (.c (.v (.bool false))), none⟩,
         ⟨some 2, .mov (.t 99), none⟩])
       (.ret))
       (.seq (.region [
         ⟨some 101, .bin .eql (.t 38) (.c (.v (.int .i64 6))), none⟩,
         ⟨some 100, .mov (.t 101), none⟩])
       (.cond (.t 100)
        (.seq (.region [
          ⟨some 102, .fld 2 (.t 1), none⟩,
          ⟨some 103, .load false 1 (.t 102), none⟩,
          ⟨some 104, .call (.c (.f (.func F_laderef4_entries) [] [])) [(.t 103), (.c (.v (.bool false)))], none⟩,
          ⟨some 105, .mov (.t 104), none⟩,
          ⟨some 106, .fld 8 (.t 1), some (105, true)⟩,
          ⟨some 107, .load false 1 (.t 106), some (105, true)⟩,
          ⟨some 108, .mov (.t 107), some (105, true)⟩,
          ⟨some 109, .fld 9 (.t 1), some (108, false)⟩,
          ⟨some 110, .load false 1 (.t 109), some (108, false)⟩,
          ⟨some 111, .pick (.t 108) (.c (.v (.bool true))) (.t 110), some (105, true)⟩,
          ⟨some 112, .mov (.t 111), some (105, true)⟩,
          ⟨some 113, .mov (.t 3), some (112, false)⟩,
          ⟨some 114, .un .not (.t 113), some (112, false)⟩,
          ⟨some 115, .pick (.t 112) (.c (.v (.bool true))) (.t 114), some (105, true)⟩,
          ⟨some 116, .pick (.t 105) (.t 115) (.c (.v (.bool false))), none⟩,
          ⟨some 117, .mov (.t 116), none⟩,
          ⟨some 118, .fld 8 (.t 1), some (117, true)⟩,
          ⟨some 119, .load false 1 (.t 118), some (117, true)⟩,
          ⟨some 120, .mov (.t 119), some (117, true)⟩,
          ⟨some 121, .load true 10 (.t 1), some (120, true)⟩,
          ⟨some 122, .call (.c (.f (.func F_laderef4_mark) [] [])) [(.t 121)], some (120, true)⟩,
          ⟨some 123, .pick (.t 120) (.t 122) (.c (.v (.bool false))), some (117, true)⟩,
          ⟨some 124, .mov (.t 123), some (117, true)⟩,
          ⟨some 125, .fld 8 (.t 1), some (124, false)⟩,
          ⟨some 126, .load false 1 (.t 125), some (124, false)⟩,
          ⟨some 127, .un .not (.t 126), some (124, false)⟩,
          ⟨some 128, .mov (.t 127), some (124, false)⟩,
          ⟨some 129, .mov (.t 5), some (128, true)⟩,
          ⟨some 130, .pick (.t 128) (.t 129) (.c (.v (.bool false))), some (124, false)⟩,
          ⟨some 131, .pick (.t 124) (.c (.v (.bool true))) (.t 130), some (117, true)⟩,
          ⟨some 132, .pick (.t 117) (.t 131) (.c (.v (.bool false))), none⟩,
          ⟨some 133, .mov (.t 132), none⟩,
          ⟨some 134, .fld 9 (.t 1), some (133, true)⟩,
          ⟨some 135, .load false 1 (.t 134), some (133, true)⟩,
          ⟨some 136, .mov (.t 135), some (133, true)⟩,
          ⟨some 137, .fld 3 (.t 1), some (136, true)⟩,
          ⟨some 138, .load true 3 (.t 137), some (136, true)⟩,
          ⟨some 139, .call (.c (.f (.func F_laderef4_IsHard) [] [])) [(.t 138)], some (136, true)⟩,
          ⟨some 140, .pick (.t 136) (.t 139) (.c (.v (.bool false))), some (133, true)⟩,
          ⟨some 141, .mov (.t 140), some (133, true)⟩,
          ⟨some 142, .fld 9 (.t 1), some (141, false)⟩,
          ⟨some 143, .load false 1 (.t 142), some (141, false)⟩,
          ⟨some 144, .un .not (.t 143), some (141, false)⟩,
          ⟨some 145, .mov (.t 144), some (141, false)⟩,
          ⟨some 146, .mov (.t 4), some (145, true)⟩,
          ⟨some 147, .pick (.t 145) (.t 146) (.c (.v (.bool false))), some (141, false)⟩,
          ⟨some 148, .pick (.t 141) (.c (.v (.bool true))) (.t 147), some (133, true)⟩,
          ⟨some 149, .pick (.t 133) (.t 148) (.c (.v (.bool false))), none⟩,
          ⟨some 2, .mov (.t 149), none⟩])
        (.ret))
        (.skip)))))))))))))))
 (.seq (.region [
   ⟨some 2, .mov (.c (.v (.bool false))), none⟩])
 (.ret)))))))
theorem h_laderef4_Is : (prog.funcs[F_laderef4_Is]?).bind (compFn prog) = some A_laderef4_Is := by kernel_rfl
def A_laderef7_Without : AFn := .mk 28 [.tmp 4] (
 .seq (.region [
   ⟨some 4, .mov (.c (.sl [] .zero)), none⟩])
 (.seq (.region [
   ⟨some 5, .mov (.c (.sl [] .zero)), none⟩])
 (.seq (.seq (.region [
   ⟨some 6, .mov (.c (.v (.int .i64 0))), none⟩])
 (.block 0 (.loop (.seq (.seq (.region [
     ⟨some 7, .mov (.t 6), none⟩,
     ⟨some 8, .mov (.t 0), none⟩,
     ⟨some 9, .len .sl (.t 8), none⟩,
     ⟨some 10, .bin .lss (.t 7) (.t 9), none⟩])
   (.cond (.t 10)
    (.skip)
    (.exit 0)))
   (.seq (.block 1 (.seq (.region [
      ⟨some 13, .mov (.t 0), none⟩,
      ⟨some 14, .mov (.t 6), none⟩,
      ⟨some 15, .idxp 7 (.t 13) (.t 14), none⟩,
      ⟨some 16, .fld 0 (.t 15), none⟩,
      ⟨some 17, .load false 1 (.t 16), none⟩,
      ⟨some 18, .mov (.t 1), none⟩,
      ⟨some 19, .bin .neq (.t 17) (.t 18), none⟩])
    (.cond (.t 19)
     (.region [
       ⟨some 20, .mov (.t 5), none⟩,
       ⟨some 21, .mov (.t 0), none⟩,
       ⟨some 22, .mov (.t 6), none⟩,
       ⟨some 23, .idxp 7 (.t 21) (.t 22), none⟩,
       ⟨some 24, .load true 7 (.t 23), none⟩,
       ⟨some 25, .bsl 7 [(.t 24)], none⟩,
       ⟨some 26, .append 7 72 (.t 20) (.t 25), none⟩,
       ⟨some 5, .mov (.t 26), none⟩])
     (.skip))))
   (.region [
     ⟨some 11, .mov (.t 6), none⟩,
     ⟨some 12, .bin .add (.t 11) (.c (.v (.int .i64 1))), none⟩,
     ⟨some 6, .mov (.t 12), none⟩]))))))
 (.seq (.region [
   ⟨some 27, .mov (.t 5), none⟩,
   ⟨some 4, .mov (.t 27), none⟩])
 (.ret)))))
theorem h_laderef7_Without : (prog.funcs[F_laderef7_Without]?).bind (compFn prog) = some A_laderef7_Without := by kernel_rfl
def A_laderef13_Ledger_clear : AFn := .mk 54 [] (
 .seq (.region [
   ⟨some 6, .box (.t 2), none⟩])
 (.seq (.region [
   ⟨some 8, .mov (.c (.sl [] .zero)), none⟩])
 (.seq (.seq (.region [
   ⟨some 9, .mov (.c (.v (.int .i64 0))), none⟩])
 (.block 0 (.loop (.seq (.seq (.region [
     ⟨some 11, .mov (.t 9), none⟩,
     ⟨some 12, .mov (.t 0), none⟩,
     ⟨some 13, .nilck (.t 12), none⟩,
     ⟨some 14, .fld 1 (.t 13), none⟩,
     ⟨some 15, .load false 1 (.t 14), none⟩,
     ⟨some 16, .len .sl (.t 15), none⟩,
     ⟨some 17, .bin .lss (.t 11) (.t 16), none⟩])
   (.cond (.t 17)
    (.skip)
    (.exit 0)))
   (.seq (.block 1 (.seq (.region [
      ⟨some 20, .mov (.t 0), none⟩,
      ⟨some 21, .nilck (.t 20), none⟩,
      ⟨some 22, .fld 1 (.t 21), none⟩,
      ⟨some 23, .load false 1 (.t 22), none⟩,
      ⟨some 24, .mov (.t 9), none⟩,
      ⟨some 25, .idxp 4 (.t 23) (.t 24), none⟩,
      ⟨some 26, .load true 4 (.t 25), none⟩,
      ⟨some 10, .alloc [(.v (.int .i64 0)), (.v (.int .i64 0)), (.v (.int .i64 0)), (.v (.int .i64 0))], none⟩,
      ⟨none, .store 4 (.t 10) (.t 26), none⟩])
    (.seq (.region [
      ⟨some 27, .fld 0 (.t 10), none⟩,
      ⟨some 28, .load false 1 (.t 27), none⟩,
      ⟨some 29, .mov (.t 1), none⟩,
      ⟨some 30, .bin .neq (.t 28) (.t 29), none⟩,
      ⟨some 31, .mov (.t 30), none⟩,
      ⟨some 32, .mov (.t 3), some (31, false)⟩,
      ⟨some 33, .mov (.t 32), some (31, false)⟩,
      ⟨some 34, .fld 1 (.t 10), some (33, true)⟩,
      ⟨some 35, .load false 1 (.t 34), some (33, true)⟩,
      ⟨some 36, .bin .leq (.t 35) (.c (.v (.int .i64 0))), some (33, true)⟩,
      ⟨some 37, .mov (.t 36), some (33, true)⟩,
      ⟨some 38, .load true 7 (.t 6), some (37, false)⟩,
      ⟨some 39, .fld 1 (.t 10), some (37, false)⟩,
      ⟨some 40, .load false 1 (.t 39), some (37, false)⟩,
      ⟨some 41, .call (.c (.f (.func F_laderef6_At) [] [])) [(.t 38), (.t 40)], some (37, false)⟩,
      ⟨some 42, .bin .geq (.t 41) (.c (.v (.int .i64 0))), some (37, false)⟩,
      ⟨some 43, .pick (.t 37) (.c (.v (.bool true))) (.t 42), some (33, true)⟩,
      ⟨some 44, .pick (.t 33) (.t 43) (.c (.v (.bool false))), some (31, false)⟩,
      ⟨some 45, .pick (.t 31) (.c (.v (.bool true))) (.t 44), none⟩])
    (.cond (.t 45)
     (.region [
       ⟨some 46, .mov (.t 8), none⟩,
       ⟨some 47, .load true 4 (.t 10), none⟩,
       ⟨some 48, .bsl 4 [(.t 47)], none⟩,
       ⟨some 49, .append 4 32 (.t 46) (.t 48), none⟩,
       ⟨some 8, .mov (.t 49), none⟩])
     (.skip)))))
   (.region [
     ⟨some 18, .mov (.t 9), none⟩,
     ⟨some 19, .bin .add (.t 18) (.c (.v (.int .i64 1))), none⟩,
     ⟨some 9, .mov (.t 19), none⟩]))))))
 (.region [
   ⟨some 50, .mov (.t 0), none⟩,
   ⟨some 51, .mov (.t 8), none⟩,
   ⟨some 52, .nilck (.t 50), none⟩,
   ⟨some 53, .fld 1 (.t 52), none⟩,
   ⟨none, .store 1 (.t 53) (.t 51), none⟩]))))
theorem h_laderef13_Ledger_clear : (prog.funcs[F_laderef13_Ledger_clear]?).bind (compFn prog) = some A_laderef13_Ledger_clear := by kernel_rfl
def A_laderef6_New : AFn := .mk 5 [.cell true 7 2] (
 .seq (.region [
   ⟨some 2, .alloc [(.v (.int .i64 0)), (.v (.int .i64 0)), (.v (.int .i64 0)), (.v (.int .i64 0)), (.v (.int .i64 0)), (.v (.int .i64 0)), (.sl [] .zero)], none⟩])
 (.seq (.region [
   ⟨some 3, .mov (.t 0), none⟩,
   ⟨some 4, .build [(.v (.int .i64 0)), (.v (.int .i64 0)), (.v (.int .i64 0)), (.v (.int .i64 0)), (.v (.int .i64 0)), (.v (.int .i64 0)), (.sl [] .zero)] [(0, 1, (.t 3)), (1, 1, (.c (.v (.int .i64 1))))], none⟩,
   ⟨none, .store 7 (.t 2) (.t 4), none⟩])
 (.ret)))
theorem h_laderef6_New : (prog.funcs[F_laderef6_New]?).bind (compFn prog) = some A_laderef6_New := by kernel_rfl
def A_laderef6_Loose : AFn := .mk 81 [.cell true 7 4] (
 .seq (.region [
   ⟨some 2, .box (.t 0), none⟩,
   ⟨some 3, .box (.t 1), none⟩,
   ⟨some 4, .alloc [(.v (.int .i64 0)), (.v (.int .i64 0)), (.v (.int .i64 0)), (.v (.int .i64 0)), (.v (.int .i64 0)), (.v (.int .i64 0)), (.sl [] .zero)], none⟩])
 (.seq (.seq (.region [
   ⟨some 6, .load true 7 (.t 2), none⟩,
   ⟨some 7, .call (.c (.f (.func F_laderef6_IsSparse) [] [])) [(.t 6)], none⟩,
   ⟨some 8, .un .not (.t 7), none⟩,
   ⟨some 9, .mov (.t 8), none⟩,
   ⟨some 10, .load true 10 (.t 3), some (9, false)⟩,
   ⟨some 11, .call (.c (.f (.func F_laderef4_Is) [] [])) [(.t 10)], some (9, false)⟩,
   ⟨some 12, .un .not (.t 11), some (9, false)⟩,
   ⟨some 13, .pick (.t 9) (.c (.v (.bool true))) (.t 12), none⟩,
   ⟨some 14, .mov (.t 13), none⟩,
   ⟨some 15, .fld 0 (.t 3), some (14, false)⟩,
   ⟨some 16, .load false 1 (.t 15), some (14, false)⟩,
   ⟨some 17, .fld 0 (.t 2), some (14, false)⟩,
   ⟨some 18, .load false 1 (.t 17), some (14, false)⟩,
   ⟨some 19, .bin .neq (.t 16) (.t 18), some (14, false)⟩,
   ⟨some 20, .pick (.t 14) (.c (.v (.bool true))) (.t 19), none⟩,
   ⟨some 21, .mov (.t 20), none⟩,
   ⟨some 22, .fld 1 (.t 3), some (21, false)⟩,
   ⟨some 23, .load false 1 (.t 22), some (21, false)⟩,
   ⟨some 24, .bin .eql (.t 23) (.c (.v (.int .i64 5))), some (21, false)⟩,
   ⟨some 25, .pick (.t 21) (.c (.v (.bool true))) (.t 24), none⟩])
 (.cond (.t 25)
  (.seq (.region [
    ⟨some 26, .load true 7 (.t 2), none⟩,
    ⟨none, .store 7 (.t 4) (.t 26), none⟩])
  (.ret))
  (.skip)))
 (.seq (.region [
   ⟨some 27, .load true 7 (.t 2), none⟩,
   ⟨some 5, .alloc [(.v (.int .i64 0)), (.v (.int .i64 0)), (.v (.int .i64 0)), (.v (.int .i64 0)), (.v (.int .i64 0)), (.v (.int .i64 0)), (.sl [] .zero)], none⟩,
   ⟨none, .store 7 (.t 5) (.t 27), none⟩])
 (.seq (.seq (.region [
   ⟨some 28, .fld 1 (.t 3), none⟩,
   ⟨some 29, .load false 1 (.t 28), none⟩])
 (.block 0 (.seq (.region [
    ⟨some 31, .bin .eql (.t 29) (.c (.v (.int .i64 1))), none⟩,
    ⟨some 30, .mov (.t 31), none⟩])
  (.cond (.t 30)
   (.draw (
     ⟨⟨some 32, .fld 6 (.t 2), none⟩, false, false, []⟩ ::
     ⟨⟨some 33, .load false 1 (.t 32), none⟩, false, false, []⟩ ::
     ⟨⟨some 34, .fld 2 (.t 3), none⟩, false, false, []⟩ ::
     ⟨⟨some 35, .load false 1 (.t 34), none⟩, false, false, []⟩ ::
     ⟨⟨some 36, .idxp 3 (.t 35) (.c (.v (.int .i64 0))), none⟩, false, false, []⟩ ::
     ⟨⟨some 37, .fld 0 (.t 36), none⟩, false, false, []⟩ ::
     ⟨⟨some 38, .load false 1 (.t 37), none⟩, false, false, []⟩ ::
     ⟨⟨some 40, .fld 2 (.t 3), none⟩, false, true, []⟩ ::
     ⟨⟨some 41, .load false 1 (.t 40), none⟩, false, true, []⟩ ::
     ⟨⟨some 42, .fld 1 (.t 2), none⟩, false, true, []⟩ ::
     ⟨⟨some 43, .load false 1 (.t 42), none⟩, false, true, []⟩ ::
     ⟨⟨some 39, .call (.c (.f (.func F_laderef6_below) [] [])) [(.t 33), (.t 38)], none⟩, true, false, [⟨some 43, .load false 1 (.t 42), none⟩, ⟨some 41, .load false 1 (.t 40), none⟩]⟩ ::
     ⟨⟨some 44, .call (.c (.f (.func F_laderef6_from) [] [])) [(.t 41), (.t 43)], none⟩, true, false, []⟩ ::
     ⟨⟨some 45, .append 3 32 (.t 39) (.t 44), none⟩, true, false, []⟩ ::
     ⟨⟨some 46, .fld 6 (.t 5), none⟩, false, false, []⟩ ::
     ⟨⟨none, .store 1 (.t 46) (.t 45), none⟩, true, false, []⟩ ::
     []))
   (.seq (.region [
     ⟨some 48, .bin .eql (.t 29) (.c (.v (.int .i64 2))), none⟩,
     ⟨some 47, .mov (.t 48), none⟩])
   (.cond (.t 47)
    (.region [
      ⟨some 49, .fld 3 (.t 3), none⟩,
      ⟨some 50, .load true 3 (.t 49), none⟩,
      ⟨some 51, .fld 3 (.t 5), none⟩,
      ⟨none, .store 3 (.t 51) (.t 50), none⟩])
    (.seq (.region [
      ⟨some 53, .bin .eql (.t 29) (.c (.v (.int .i64 3))), none⟩,
      ⟨some 52, .mov (.t 53), none⟩])
    (.cond (.t 52)
     (.seq (.region [
       ⟨some 54, .load true 7 (.t 2), none⟩,
       ⟨some 55, .fld 6 (.t 3), none⟩,
       ⟨some 56, .load false 1 (.t 55), none⟩,
       ⟨some 57, .fld 7 (.t 3), none⟩,
       ⟨some 58, .load false 1 (.t 57), none⟩,
       ⟨some 59, .call (.c (.f (.func F_laderef6_compact) [] [])) [(.t 54), (.t 56), (.t 58)], none⟩,
       ⟨none, .store 7 (.t 4) (.t 59), none⟩])
     (.ret))
     (.seq (.region [
       ⟨some 61, .bin .eql (.t 29) (.c (.v (.int .i64 4))), none⟩,
       ⟨some 60, .mov (.t 61), none⟩])
     (.cond (.t 60)
      (.seq (.region [
        ⟨some 62, .fld 6 (.t 3), none⟩,
        ⟨some 63, .load false 1 (.t 62), none⟩,
        ⟨some 64, .fld 1 (.t 2), none⟩,
        ⟨some 65, .load false 1 (.t 64), none⟩,
        ⟨some 66, .bin .geq (.t 63) (.t 65), none⟩])
      (.cond (.t 66)
       (.draw (
         ⟨⟨some 67, .fld 6 (.t 3), none⟩, false, true, []⟩ ::
         ⟨⟨some 68, .load false 1 (.t 67), none⟩, false, true, []⟩ ::
         ⟨⟨some 69, .bin .add (.t 68) (.c (.v (.int .i64 1))), none⟩, false, true, []⟩ ::
         ⟨⟨some 70, .fld 7 (.t 3), none⟩, false, true, []⟩ ::
         ⟨⟨some 71, .load false 1 (.t 70), none⟩, false, true, []⟩ ::
         ⟨⟨some 72, .fld 6 (.t 5), none⟩, false, false, []⟩ ::
         ⟨⟨none, .store 1 (.t 72) (.c (.sl [] .zero)), none⟩, true, false, [⟨some 71, .load false 1 (.t 70), none⟩, ⟨some 68, .load false 1 (.t 67), none⟩]⟩ ::
         ⟨⟨some 73, .fld 1 (.t 5), none⟩, false, false, []⟩ ::
         ⟨⟨none, .store 1 (.t 73) (.t 69), none⟩, true, false, [⟨some 71, .load false 1 (.t 70), none⟩]⟩ ::
         ⟨⟨some 74, .fld 2 (.t 5), none⟩, false, false, []⟩ ::
         ⟨⟨none, .store 1 (.t 74) (.t 71), none⟩, true, false, []⟩ ::
         []))
       (.skip)))
      (.seq (.region [
        ⟨some 76, .bin .eql (.t 29) (.c (.v (.int .i64 6))), none⟩,
        ⟨some 75, .mov (.t 76), none⟩])
      (.cond (.t 75)
       (.seq (.region [
         ⟨some 77, .load true 7 (.t 2), none⟩,
         ⟨some 78, .load true 10 (.t 3), none⟩,
         ⟨some 79, .call (.c (.f (.func F_laderef6_fill) [] [])) [(.t 77), (.t 78)], none⟩,
         ⟨none, .store 7 (.t 4) (.t 79), none⟩])
       (.ret))
       (.skip)))))))))))))
 (.seq (.region [
   ⟨some 80, .load true 7 (.t 5), none⟩,
   ⟨none, .store 7 (.t 4) (.t 80), none⟩])
 (.ret))))))
theorem h_laderef6_Loose : (prog.funcs[F_laderef6_Loose]?).bind (compFn prog) = some A_laderef6_Loose := by kernel_rfl
def A_laderef7_With : AFn := .mk 52 [.tmp 4] (
 .seq (.region [
   ⟨some 3, .box (.t 1), none⟩,
   ⟨some 4, .mov (.c (.sl [] .zero)), none⟩])
 (.seq (.region [
   ⟨some 5, .mov (.c (.sl [] .zero)), none⟩])
 (.seq (.region [
   ⟨some 6, .mov (.c (.v (.bool false))), none⟩])
 (.seq (.seq (.region [
   ⟨some 7, .mov (.c (.v (.int .i64 0))), none⟩])
 (.block 0 (.loop (.seq (.seq (.region [
     ⟨some 8, .mov (.t 7), none⟩,
     ⟨some 9, .mov (.t 0), none⟩,
     ⟨some 10, .len .sl (.t 9), none⟩,
     ⟨some 11, .bin .lss (.t 8) (.t 10), none⟩])
   (.cond (.t 11)
    (.skip)
    (.exit 0)))
   (.seq (.block 1 (.seq (.seq (.region [
      ⟨some 14, .mov (.t 6), none⟩,
      ⟨some 15, .un .not (.t 14), none⟩,
      ⟨some 16, .mov (.t 15), none⟩,
      ⟨some 17, .fld 0 (.t 3), some (16, true)⟩,
      ⟨some 18, .load false 1 (.t 17), some (16, true)⟩,
      ⟨some 19, .mov (.t 0), some (16, true)⟩,
      ⟨some 20, .mov (.t 7), some (16, true)⟩,
      ⟨some 21, .idxp 7 (.t 19) (.t 20), some (16, true)⟩,
      ⟨some 22, .fld 0 (.t 21), some (16, true)⟩,
      ⟨some 23, .load false 1 (.t 22), some (16, true)⟩,
      ⟨some 24, .bin .leq (.t 18) (.t 23), some (16, true)⟩,
      ⟨some 25, .pick (.t 16) (.t 24) (.c (.v (.bool false))), none⟩])
    (.cond (.t 25)
     (.seq (.region [
       ⟨some 26, .mov (.t 5), none⟩,
       ⟨some 27, .load true 7 (.t 3), none⟩,
       ⟨some 28, .bsl 7 [(.t 27)], none⟩,
       ⟨some 29, .append 7 72 (.t 26) (.t 28), none⟩,
       ⟨some 5, .mov (.t 29), none⟩])
     (.region [
       ⟨some 6, .mov (.c (.v (.bool true))), none⟩]))
     (.skip)))
    (.seq (.region [
      ⟨some 30, .mov (.t 0), none⟩,
      ⟨some 31, .mov (.t 7), none⟩,
      ⟨some 32, .idxp 7 (.t 30) (.t 31), none⟩,
      ⟨some 33, .fld 0 (.t 32), none⟩,
      ⟨some 34, .load false 1 (.t 33), none⟩,
      ⟨some 35, .fld 0 (.t 3), none⟩,
      ⟨some 36, .load false 1 (.t 35), none⟩,
      ⟨some 37, .bin .neq (.t 34) (.t 36), none⟩])
    (.cond (.t 37)
     (.region [
       ⟨some 38, .mov (.t 5), none⟩,
       ⟨some 39, .mov (.t 0), none⟩,
       ⟨some 40, .mov (.t 7), none⟩,
       ⟨some 41, .idxp 7 (.t 39) (.t 40), none⟩,
       ⟨some 42, .load true 7 (.t 41), none⟩,
       ⟨some 43, .bsl 7 [(.t 42)], none⟩,
       ⟨some 44, .append 7 72 (.t 38) (.t 43), none⟩,
       ⟨some 5, .mov (.t 44), none⟩])
     (.skip)))))
   (.region [
     ⟨some 12, .mov (.t 7), none⟩,
     ⟨some 13, .bin .add (.t 12) (.c (.v (.int .i64 1))), none⟩,
     ⟨some 7, .mov (.t 13), none⟩]))))))
 (.seq (.seq (.region [
   ⟨some 45, .mov (.t 6), none⟩,
   ⟨some 46, .un .not (.t 45), none⟩])
 (.cond (.t 46)
  (.region [
    ⟨some 47, .mov (.t 5), none⟩,
    ⟨some 48, .load true 7 (.t 3), none⟩,
    ⟨some 49, .bsl 7 [(.t 48)], none⟩,
    ⟨some 50, .append 7 72 (.t 47) (.t 49), none⟩,
    ⟨some 5, .mov (.t 50), none⟩])
  (.skip)))
 (.seq (.region [
   ⟨some 51, .mov (.t 5), none⟩,
   ⟨some 4, .mov (.t 51), none⟩])
 (.ret)))))))
theorem h_laderef7_With : (prog.funcs[F_laderef7_With]?).bind (compFn prog) = some A_laderef7_With := by kernel_rfl
def A_laderef6_At : AFn := .mk 22 [.tmp 4] (
 .seq (.region [
   ⟨some 2, .box (.t 0), none⟩,
   ⟨some 4, .mov (.c (.v (.int .i64 0))), none⟩])
 (.seq (.seq (.region [
   ⟨some 5, .mov (.c (.v (.int .i64 0))), none⟩])
 (.block 0 (.loop (.seq (.seq (.region [
     ⟨some 6, .mov (.t 5), none⟩,
     ⟨some 7, .fld 6 (.t 2), none⟩,
     ⟨some 8, .load false 1 (.t 7), none⟩,
     ⟨some 9, .len .sl (.t 8), none⟩,
     ⟨some 10, .bin .lss (.t 6) (.t 9), none⟩])
   (.cond (.t 10)
    (.skip)
    (.exit 0)))
   (.seq (.block 1 (.seq (.region [
      ⟨some 13, .fld 6 (.t 2), none⟩,
      ⟨some 14, .load false 1 (.t 13), none⟩,
      ⟨some 15, .mov (.t 5), none⟩,
      ⟨some 16, .idxp 3 (.t 14) (.t 15), none⟩,
      ⟨some 17, .fld 0 (.t 16), none⟩,
      ⟨some 18, .load false 1 (.t 17), none⟩,
      ⟨some 19, .mov (.t 1), none⟩,
      ⟨some 20, .bin .eql (.t 18) (.t 19), none⟩])
    (.cond (.t 20)
     (.seq (.region [
       ⟨some 21, .mov (.t 5), none⟩,
       ⟨some 4, .mov (.t 21), none⟩])
     (.ret))
     (.skip))))
   (.region [
     ⟨some 11, .mov (.t 5), none⟩,
     ⟨some 12, .bin .add (.t 11) (.c (.v (.int .i64 1))), none⟩,
     ⟨some 5, .mov (.t 12), none⟩]))))))
 (.seq (.region [
   ⟨some 4, .mov (.c (.v (.int .i64 (-1)))), none⟩])
 (.ret))))
theorem h_laderef6_At : (prog.funcs[F_laderef6_At]?).bind (compFn prog) = some A_laderef6_At := by kernel_rfl
def A_laderef13_Ledger_lay : AFn := .mk 78 [] (
 .seq (.region [
   ⟨some 3, .box (.t 1), none⟩])
 (.seq (.region [
   ⟨some 4, .mov (.c (.sl [] .zero)), none⟩])
 (.seq (.region [
   ⟨some 5, .mov (.c (.v (.bool false))), none⟩])
 (.seq (.seq (.region [
   ⟨some 6, .mov (.c (.v (.int .i64 0))), none⟩])
 (.block 0 (.loop (.seq (.seq (.region [
     ⟨some 7, .mov (.t 6), none⟩,
     ⟨some 8, .mov (.t 0), none⟩,
     ⟨some 9, .nilck (.t 8), none⟩,
     ⟨some 10, .fld 1 (.t 9), none⟩,
     ⟨some 11, .load false 1 (.t 10), none⟩,
     ⟨some 12, .len .sl (.t 11), none⟩,
     ⟨some 13, .bin .lss (.t 7) (.t 12), none⟩])
   (.cond (.t 13)
    (.skip)
    (.exit 0)))
   (.seq (.block 1 (.seq (.seq (.region [
      ⟨some 16, .mov (.t 5), none⟩,
      ⟨some 17, .un .not (.t 16), none⟩,
      ⟨some 18, .mov (.t 17), none⟩,
      ⟨some 19, .mov (.t 0), some (18, true)⟩,
      ⟨some 20, .nilck (.t 19), some (18, true)⟩,
      ⟨some 21, .fld 1 (.t 20), some (18, true)⟩,
      ⟨some 22, .load false 1 (.t 21), some (18, true)⟩,
      ⟨some 23, .mov (.t 6), some (18, true)⟩,
      ⟨some 24, .idxp 4 (.t 22) (.t 23), some (18, true)⟩,
      ⟨some 25, .load true 4 (.t 24), some (18, true)⟩,
      ⟨some 26, .load true 4 (.t 3), some (18, true)⟩,
      ⟨some 27, .call (.c (.f (.func F_laderef13_less) [] [])) [(.t 25), (.t 26)], some (18, true)⟩,
      ⟨some 28, .un .not (.t 27), some (18, true)⟩,
      ⟨some 29, .pick (.t 18) (.t 28) (.c (.v (.bool false))), none⟩])
    (.cond (.t 29)
     (.seq (.region [
       ⟨some 30, .mov (.t 4), none⟩,
       ⟨some 31, .load true 4 (.t 3), none⟩,
       ⟨some 32, .bsl 4 [(.t 31)], none⟩,
       ⟨some 33, .append 4 32 (.t 30) (.t 32), none⟩,
       ⟨some 4, .mov (.t 33), none⟩])
     (.region [
       ⟨some 5, .mov (.c (.v (.bool true))), none⟩]))
     (.skip)))
    (.seq (.region [
      ⟨some 34, .mov (.t 0), none⟩,
      ⟨some 35, .nilck (.t 34), none⟩,
      ⟨some 36, .fld 1 (.t 35), none⟩,
      ⟨some 37, .load false 1 (.t 36), none⟩,
      ⟨some 38, .mov (.t 6), none⟩,
      ⟨some 39, .idxp 4 (.t 37) (.t 38), none⟩,
      ⟨some 40, .fld 0 (.t 39), none⟩,
      ⟨some 41, .load false 1 (.t 40), none⟩,
      ⟨some 42, .fld 0 (.t 3), none⟩,
      ⟨some 43, .load false 1 (.t 42), none⟩,
      ⟨some 44, .bin .neq (.t 41) (.t 43), none⟩,
      ⟨some 45, .mov (.t 44), none⟩,
      ⟨some 46, .mov (.t 0), some (45, false)⟩,
      ⟨some 47, .nilck (.t 46), some (45, false)⟩,
      ⟨some 48, .fld 1 (.t 47), some (45, false)⟩,
      ⟨some 49, .load false 1 (.t 48), some (45, false)⟩,
      ⟨some 50, .mov (.t 6), some (45, false)⟩,
      ⟨some 51, .idxp 4 (.t 49) (.t 50), some (45, false)⟩,
      ⟨some 52, .fld 1 (.t 51), some (45, false)⟩,
      ⟨some 53, .load false 1 (.t 52), some (45, false)⟩,
      ⟨some 54, .fld 1 (.t 3), some (45, false)⟩,
      ⟨some 55, .load false 1 (.t 54), some (45, false)⟩,
      ⟨some 56, .bin .neq (.t 53) (.t 55), some (45, false)⟩,
      ⟨some 57, .pick (.t 45) (.c (.v (.bool true))) (.t 56), none⟩])
    (.cond (.t 57)
     (.region [
       ⟨some 58, .mov (.t 4), none⟩,
       ⟨some 59, .mov (.t 0), none⟩,
       ⟨some 60, .nilck (.t 59), none⟩,
       ⟨some 61, .fld 1 (.t 60), none⟩,
       ⟨some 62, .load false 1 (.t 61), none⟩,
       ⟨some 63, .mov (.t 6), none⟩,
       ⟨some 64, .idxp 4 (.t 62) (.t 63), none⟩,
       ⟨some 65, .load true 4 (.t 64), none⟩,
       ⟨some 66, .bsl 4 [(.t 65)], none⟩,
       ⟨some 67, .append 4 32 (.t 58) (.t 66), none⟩,
       ⟨some 4, .mov (.t 67), none⟩])
     (.skip)))))
   (.region [
     ⟨some 14, .mov (.t 6), none⟩,
     ⟨some 15, .bin .add (.t 14) (.c (.v (.int .i64 1))), none⟩,
     ⟨some 6, .mov (.t 15), none⟩]))))))
 (.seq (.seq (.region [
   ⟨some 68, .mov (.t 5), none⟩,
   ⟨some 69, .un .not (.t 68), none⟩])
 (.cond (.t 69)
  (.region [
    ⟨some 70, .mov (.t 4), none⟩,
    ⟨some 71, .load true 4 (.t 3), none⟩,
    ⟨some 72, .bsl 4 [(.t 71)], none⟩,
    ⟨some 73, .append 4 32 (.t 70) (.t 72), none⟩,
    ⟨some 4, .mov (.t 73), none⟩])
  (.skip)))
 (.region [
   ⟨some 74, .mov (.t 0), none⟩,
   ⟨some 75, .mov (.t 4), none⟩,
   ⟨some 76, .nilck (.t 74), none⟩,
   ⟨some 77, .fld 1 (.t 76), none⟩,
   ⟨none, .store 1 (.t 77) (.t 75), none⟩]))))))
theorem h_laderef13_Ledger_lay : (prog.funcs[F_laderef13_Ledger_lay]?).bind (compFn prog) = some A_laderef13_Ledger_lay := by kernel_rfl
def A_slices_Values_Ledger_1 : AFn := .mk 16 [] (
 .seq (.region [
   ⟨some 5, .load false 1 (.t 1), none⟩,
   ⟨some 6, .len .sl (.t 5), none⟩,
   ⟨some 7, .mov (.c (.v (.int .i64 0))), none⟩])
 (.block 0 (.loop (.seq (.region [
     ⟨some 8, .bin .lss (.t 7) (.t 6), none⟩])
   (.seq (.cond (.t 8)
    (.skip)
    (.exit 0))
   (.seq (.block 1 (.seq (.region [
      ⟨some 9, .idxp 1 (.t 5) (.t 7), none⟩,
      ⟨some 10, .load false 1 (.t 9), none⟩,
      ⟨some 4, .mov (.t 10), none⟩])
    (.seq (.region [
      ⟨some 11, .mov (.t 0), none⟩,
      ⟨some 12, .mov (.t 4), none⟩,
      ⟨some 13, .call (.t 11) [(.t 12)], none⟩,
      ⟨some 14, .un .not (.t 13), none⟩])
    (.cond (.t 14)
     (.ret)
     (.skip)))))
   (.region [
     ⟨some 15, .bin .add (.t 7) (.c (.v (.int .i64 1))), none⟩,
     ⟨some 7, .mov (.t 15), none⟩])))))))
theorem h_slices_Values_Ledger_1 : (prog.funcs[F_slices_Values_Ledger_1]?).bind (compFn prog) = some A_slices_Values_Ledger_1 := by kernel_rfl
def A_place_Log_Copy : AFn := .mk 14 [.tmp 2] (
 .seq (.region [
   ⟨some 2, .mov (.c (.v (.pointer none))), none⟩])
 (.seq (.draw (
   ⟨⟨some 3, .mov (.t 0), none⟩, false, true, []⟩ ::
   ⟨⟨some 4, .nilck (.t 3), none⟩, false, true, []⟩ ::
   ⟨⟨some 5, .fld 0 (.t 4), none⟩, false, true, []⟩ ::
   ⟨⟨some 6, .load true 7 (.t 5), none⟩, false, true, []⟩ ::
   ⟨⟨some 7, .mov (.t 0), none⟩, false, false, []⟩ ::
   ⟨⟨some 8, .nilck (.t 7), none⟩, false, false, []⟩ ::
   ⟨⟨some 9, .fld 7 (.t 8), none⟩, false, false, []⟩ ::
   ⟨⟨some 10, .load false 1 (.t 9), none⟩, false, false, []⟩ ::
   ⟨⟨some 11, .call (.c (.f (.func F_maps_Clone_Place) [] [])) [(.t 10)], none⟩, true, false, [⟨some 6, .load true 7 (.t 5), none⟩]⟩ ::
   ⟨⟨some 12, .build [(.v (.int .i64 0)), (.v (.int .i64 0)), (.v (.int .i64 0)), (.v (.int .i64 0)), (.v (.int .i64 0)), (.v (.int .i64 0)), (.sl [] .zero), (.v (.map none))] [(0, 7, (.t 6)), (7, 1, (.t 11))], none⟩, false, false, []⟩ ::
   ⟨⟨some 13, .box (.t 12), none⟩, true, false, []⟩ ::
   ⟨⟨some 2, .mov (.t 13), none⟩, false, false, []⟩ ::
   []))
 (.ret)))
theorem h_place_Log_Copy : (prog.funcs[F_place_Log_Copy]?).bind (compFn prog) = some A_place_Log_Copy := by kernel_rfl
def A_slices_Values_Group_1 : AFn := .mk 16 [] (
 .seq (.region [
   ⟨some 5, .load false 1 (.t 1), none⟩,
   ⟨some 6, .len .sl (.t 5), none⟩,
   ⟨some 7, .mov (.c (.v (.int .i64 0))), none⟩])
 (.block 0 (.loop (.seq (.region [
     ⟨some 8, .bin .lss (.t 7) (.t 6), none⟩])
   (.seq (.cond (.t 8)
    (.skip)
    (.exit 0))
   (.seq (.block 1 (.seq (.region [
      ⟨some 9, .idxp 7 (.t 5) (.t 7), none⟩,
      ⟨some 10, .load true 7 (.t 9), none⟩,
      ⟨some 4, .alloc [(.v (.int .i64 0)), (.v (.int .i64 0)), (.v (.int .i64 0)), (.v (.int .i64 0)), (.v (.int .i64 0)), (.v (.int .i64 0)), (.sl [] .zero)], none⟩,
      ⟨none, .store 7 (.t 4) (.t 10), none⟩])
    (.seq (.region [
      ⟨some 11, .mov (.t 0), none⟩,
      ⟨some 12, .load true 7 (.t 4), none⟩,
      ⟨some 13, .call (.t 11) [(.t 12)], none⟩,
      ⟨some 14, .un .not (.t 13), none⟩])
    (.cond (.t 14)
     (.ret)
     (.skip)))))
   (.region [
     ⟨some 15, .bin .add (.t 7) (.c (.v (.int .i64 1))), none⟩,
     ⟨some 7, .mov (.t 15), none⟩])))))))
theorem h_slices_Values_Group_1 : (prog.funcs[F_slices_Values_Group_1]?).bind (compFn prog) = some A_slices_Values_Group_1 := by kernel_rfl
def A_ledger_Ledger_logs_1 : AFn := .mk 27 [] (
 .seq (.region [
   ⟨some 5, .load false 1 (.t 1), none⟩,
   ⟨some 6, .nilck (.t 5), none⟩,
   ⟨some 7, .fld 0 (.t 6), none⟩,
   ⟨some 8, .load false 1 (.t 7), none⟩,
   ⟨some 9, .call (.c (.f (.func F_maps_Keys_Log) [] [])) [(.t 8)], none⟩,
   ⟨some 10, .call (.c (.f (.func F_slices_Sorted_int) [] [])) [(.t 9)], none⟩,
   ⟨some 11, .len .sl (.t 10), none⟩,
   ⟨some 12, .mov (.c (.v (.int .i64 0))), none⟩])
 (.block 0 (.loop (.seq (.region [
     ⟨some 13, .bin .lss (.t 12) (.t 11), none⟩])
   (.seq (.cond (.t 13)
    (.skip)
    (.exit 0))
   (.seq (.block 1 (.seq (.region [
      ⟨some 14, .idxp 1 (.t 10) (.t 12), none⟩,
      ⟨some 15, .load false 1 (.t 14), none⟩,
      ⟨some 4, .mov (.t 15), none⟩])
    (.seq (.region [
      ⟨some 16, .mov (.t 0), none⟩,
      ⟨some 17, .mov (.t 4), none⟩,
      ⟨some 18, .load false 1 (.t 1), none⟩,
      ⟨some 19, .nilck (.t 18), none⟩,
      ⟨some 20, .fld 0 (.t 19), none⟩,
      ⟨some 21, .load false 1 (.t 20), none⟩,
      ⟨some 22, .mov (.t 4), none⟩,
      ⟨some 23, .lookup .int (.v (.pointer none)) false (.t 21) (.t 22), none⟩,
      ⟨some 24, .call (.t 16) [(.t 17), (.t 23)], none⟩,
      ⟨some 25, .un .not (.t 24), none⟩])
    (.cond (.t 25)
     (.ret)
     (.skip)))))
   (.region [
     ⟨some 26, .bin .add (.t 12) (.c (.v (.int .i64 1))), none⟩,
     ⟨some 12, .mov (.t 26), none⟩])))))))
theorem h_ledger_Ledger_logs_1 : (prog.funcs[F_ledger_Ledger_logs_1]?).bind (compFn prog) = some A_ledger_Ledger_logs_1 := by kernel_rfl
def A_maps_Keys_Log : AFn := .mk 4 [.tmp 2] (
 .seq (.region [
   ⟨some 1, .box (.t 0), none⟩,
   ⟨some 2, .mov (.c (.v .nilFunc)), none⟩])
 (.seq (.region [
   ⟨some 3, .mkf (.func F_maps_Keys_Log_1) [] [(.t 1)], none⟩,
   ⟨some 2, .mov (.t 3), none⟩])
 (.ret)))
theorem h_maps_Keys_Log : (prog.funcs[F_maps_Keys_Log]?).bind (compFn prog) = some A_maps_Keys_Log := by kernel_rfl
def A_slices_Clone_Entry : AFn := .mk 8 [.tmp 2] (
 .seq (.region [
   ⟨some 2, .mov (.c (.sl [] .zero)), none⟩])
 (.seq (.seq (.region [
   ⟨some 3, .mov (.t 0), none⟩,
   ⟨some 4, .isnil false (.t 3), none⟩])
 (.cond (.t 4)
  (.seq (.region [
    ⟨some 2, .mov (.c (.sl [] .zero)), none⟩])
  (.ret))
  (.skip)))
 (.seq (.region [
   ⟨some 5, .bsl 3 [], none⟩,
   ⟨some 6, .mov (.t 0), none⟩,
   ⟨some 7, .append 3 32 (.t 5) (.t 6), none⟩,
   ⟨some 2, .mov (.t 7), none⟩])
 (.ret))))
theorem h_slices_Clone_Entry : (prog.funcs[F_slices_Clone_Entry]?).bind (compFn prog) = some A_slices_Clone_Entry := by kernel_rfl
def A_slices_Values_int : AFn := .mk 4 [.tmp 2] (
 .seq (.region [
   ⟨some 1, .box (.t 0), none⟩,
   ⟨some 2, .mov (.c (.v .nilFunc)), none⟩])
 (.seq (.region [
   ⟨some 3, .mkf (.func F_slices_Values_int_1) [] [(.t 1)], none⟩,
   ⟨some 2, .mov (.t 3), none⟩])
 (.ret)))
theorem h_slices_Values_int : (prog.funcs[F_slices_Values_int]?).bind (compFn prog) = some A_slices_Values_int := by kernel_rfl
def A_maps_Keys_Place : AFn := .mk 4 [.tmp 2] (
 .seq (.region [
   ⟨some 1, .box (.t 0), none⟩,
   ⟨some 2, .mov (.c (.v .nilFunc)), none⟩])
 (.seq (.region [
   ⟨some 3, .mkf (.func F_maps_Keys_Place_1) [] [(.t 1)], none⟩,
   ⟨some 2, .mov (.t 3), none⟩])
 (.ret)))
theorem h_maps_Keys_Place : (prog.funcs[F_maps_Keys_Place]?).bind (compFn prog) = some A_maps_Keys_Place := by kernel_rfl
def A_ladelaw14_fewPart : AFn := .mk 23 [.tmp 2] (
 .seq (.region [
   ⟨some 1, .box (.t 0), none⟩,
   ⟨some 2, .mov (.c (.v (.bool false))), none⟩])
 (.seq (.seq (.region [
   ⟨some 3, .mov (.c (.v (.int .i64 0))), none⟩])
 (.block 0 (.loop (.seq (.seq (.region [
     ⟨some 4, .mov (.t 3), none⟩,
     ⟨some 5, .fld 2 (.t 1), none⟩,
     ⟨some 6, .load false 1 (.t 5), none⟩,
     ⟨some 7, .len .sl (.t 6), none⟩,
     ⟨some 8, .bin .lss (.t 4) (.t 7), none⟩])
   (.cond (.t 8)
    (.skip)
    (.exit 0)))
   (.seq (.block 1 (.seq (.region [
      ⟨some 11, .fld 2 (.t 1), none⟩,
      ⟨some 12, .load false 1 (.t 11), none⟩,
      ⟨some 13, .mov (.t 3), none⟩,
      ⟨some 14, .idxp 3 (.t 12) (.t 13), none⟩,
      ⟨some 15, .fld 2 (.t 14), none⟩,
      ⟨some 16, .load false 1 (.t 15), none⟩,
      ⟨some 17, .len .str (.t 16), none⟩,
      ⟨some 18, .bin .gtr (.t 17) (.c (.v (.int .i64 60))), none⟩])
    (.cond (.t 18)
     (.seq (.region [
       ⟨some 2, .mov (.c (.v (.bool false))), none⟩])
     (.ret))
     (.skip))))
   (.region [
     ⟨some 9, .mov (.t 3), none⟩,
     ⟨some 10, .bin .add (.t 9) (.c (.v (.int .i64 1))), none⟩,
     ⟨some 3, .mov (.t 10), none⟩]))))))
 (.seq (.region [
   ⟨some 19, .fld 2 (.t 1), none⟩,
   ⟨some 20, .load false 1 (.t 19), none⟩,
   ⟨some 21, .len .sl (.t 20), none⟩,
   ⟨some 22, .bin .leq (.t 21) (.c (.v (.int .i64 8))), none⟩,
   ⟨some 2, .mov (.t 22), none⟩])
 (.ret))))
theorem h_ladelaw14_fewPart : (prog.funcs[F_ladelaw14_fewPart]?).bind (compFn prog) = some A_ladelaw14_fewPart := by kernel_rfl
end Go.Proofs.YtmpoeamfcienoaaGreat
end
section
namespace Go.Proofs.YtmpoeamfcienoaaGreat
open Go.Ab
set_option maxRecDepth 100000
def A_laderef6_is : AFn := .mk 77 [.tmp 4] (
 .seq (.region [
   ⟨some 2, .box (.t 0), none⟩,
   ⟨some 4, .mov (.c (.v (.bool false))), none⟩])
 (.seq (.seq (.region [
   ⟨some 8, .fld 0 (.t 2), none⟩,
   ⟨some 9, .load false 1 (.t 8), none⟩,
   ⟨some 10, .bin .lss (.t 9) (.c (.v (.int .i64 0))), none⟩,
   ⟨some 11, .mov (.t 10), none⟩,
   ⟨some 12, .fld 0 (.t 2), some (11, false)⟩,
   ⟨some 13, .load false 1 (.t 12), some (11, false)⟩,
   ⟨some 14, .bin .gtr (.t 13) (.c (.v (.int .i64 999))), some (11, false)⟩,
   ⟨some 15, .pick (.t 11) (.c (.v (.bool true))) (.t 14), none⟩,
   ⟨some 16, .mov (.t 15), none⟩,
   ⟨some 17, .fld 1 (.t 2), some (16, false)⟩,
   ⟨some 18, .load false 1 (.t 17), some (16, false)⟩,
   ⟨some 19, .bin .lss (.t 18) (.c (.v (.int .i64 1))), some (16, false)⟩,
   ⟨some 20, .pick (.t 16) (.c (.v (.bool true))) (.t 19), none⟩,
   ⟨some 21, .mov (.t 20), none⟩,
   ⟨some 22, .fld 1 (.t 2), some (21, false)⟩,
   ⟨some 23, .load false 1 (.t 22), some (21, false)⟩,
   ⟨some 24, .bin .gtr (.t 23) (.c (.v (.int .i64 1099511627777))), some (21, false)⟩,
   ⟨some 25, .pick (.t 21) (.c (.v (.bool true))) (.t 24), none⟩,
   ⟨some 26, .mov (.t 25), none⟩,
   ⟨some 27, .fld 2 (.t 2), some (26, false)⟩,
   ⟨some 28, .load false 1 (.t 27), some (26, false)⟩,
   ⟨some 29, .bin .lss (.t 28) (.c (.v (.int .i64 0))), some (26, false)⟩,
   ⟨some 30, .pick (.t 26) (.c (.v (.bool true))) (.t 29), none⟩,
   ⟨some 31, .mov (.t 30), none⟩,
   ⟨some 32, .fld 2 (.t 2), some (31, false)⟩,
   ⟨some 33, .load false 1 (.t 32), some (31, false)⟩,
   ⟨some 34, .bin .gtr (.t 33) (.c (.v (.int .i64 1099511627776))), some (31, false)⟩,
   ⟨some 35, .pick (.t 31) (.c (.v (.bool true))) (.t 34), none⟩,
   ⟨some 36, .mov (.t 35), none⟩,
   ⟨some 37, .fld 3 (.t 2), some (36, false)⟩,
   ⟨some 38, .load true 3 (.t 37), some (36, false)⟩,
   ⟨some 39, .call (.c (.f (.func F_laderef4_IsHard) [] [])) [(.t 38)], some (36, false)⟩,
   ⟨some 40, .un .not (.t 39), some (36, false)⟩,
   ⟨some 41, .pick (.t 36) (.c (.v (.bool true))) (.t 40), none⟩])
 (.cond (.t 41)
  (.seq (.region [
    ⟨some 4, .mov (.c (.v (.bool false))), none⟩])
  (.ret))
  (.skip)))
 (.seq (.region [
   ⟨some 42, .fld 1 (.t 2), none⟩,
   ⟨some 43, .load false 1 (.t 42), none⟩,
   ⟨some 5, .mov (.t 43), none⟩])
 (.seq (.seq (.region [
   ⟨some 6, .mov (.c (.v (.int .i64 0))), none⟩])
 (.block 0 (.loop (.seq (.seq (.region [
     ⟨some 44, .mov (.t 6), none⟩,
     ⟨some 45, .fld 6 (.t 2), none⟩,
     ⟨some 46, .load false 1 (.t 45), none⟩,
     ⟨some 47, .len .sl (.t 46), none⟩,
     ⟨some 48, .bin .lss (.t 44) (.t 47), none⟩])
   (.cond (.t 48)
    (.skip)
    (.exit 0)))
   (.seq (.block 1 (.seq (.region [
      ⟨some 51, .fld 6 (.t 2), none⟩,
      ⟨some 52, .load false 1 (.t 51), none⟩,
      ⟨some 53, .mov (.t 6), none⟩,
      ⟨some 54, .idxp 3 (.t 52) (.t 53), none⟩,
      ⟨some 55, .load true 3 (.t 54), none⟩,
      ⟨some 7, .alloc [(.v (.int .i64 0)), (.v (.int .i64 0)), (.v (.string ⟨#[]⟩))], none⟩,
      ⟨none, .store 3 (.t 7) (.t 55), none⟩])
    (.seq (.seq (.region [
      ⟨some 56, .load true 3 (.t 7), none⟩,
      ⟨some 57, .call (.c (.f (.func F_laderef4_IsEntry) [] [])) [(.t 56)], none⟩,
      ⟨some 58, .un .not (.t 57), none⟩,
      ⟨some 59, .mov (.t 58), none⟩,
      ⟨some 60, .fld 0 (.t 7), some (59, false)⟩,
      ⟨some 61, .load false 1 (.t 60), some (59, false)⟩,
      ⟨some 62, .mov (.t 5), some (59, false)⟩,
      ⟨some 63, .bin .lss (.t 61) (.t 62), some (59, false)⟩,
      ⟨some 64, .pick (.t 59) (.c (.v (.bool true))) (.t 63), none⟩,
      ⟨some 65, .mov (.t 64), none⟩,
      ⟨some 66, .mov (.t 1), some (65, false)⟩,
      ⟨some 67, .mov (.t 66), some (65, false)⟩,
      ⟨some 68, .fld 0 (.t 7), some (67, true)⟩,
      ⟨some 69, .load false 1 (.t 68), some (67, true)⟩,
      ⟨some 70, .mov (.t 5), some (67, true)⟩,
      ⟨some 71, .bin .neq (.t 69) (.t 70), some (67, true)⟩,
      ⟨some 72, .pick (.t 67) (.t 71) (.c (.v (.bool false))), some (65, false)⟩,
      ⟨some 73, .pick (.t 65) (.c (.v (.bool true))) (.t 72), none⟩])
    (.cond (.t 73)
     (.seq (.region [
       ⟨some 4, .mov (.c (.v (.bool false))), none⟩])
     (.ret))
     (.skip)))
    (.region [
      ⟨some 74, .fld 0 (.t 7), none⟩,
      ⟨some 75, .load false 1 (.t 74), none⟩,
      ⟨some 76, .bin .add (.t 75) (.c (.v (.int .i64 1))), none⟩,
      ⟨some 5, .mov (.t 76), none⟩]))))
   (.region [
     ⟨some 49, .mov (.t 6), none⟩,
     ⟨some 50, .bin .add (.t 49) (.c (.v (.int .i64 1))), none⟩,
     ⟨some 6, .mov (.t 50), none⟩]))))))
 (.seq (.region [
   ⟨some 4, .mov (.c (.v (.bool true))), none⟩])
 (.ret))))))
theorem h_laderef6_is : (prog.funcs[F_laderef6_is]?).bind (compFn prog) = some A_laderef6_is := by kernel_rfl
def A_slices_Equal_Entry : AFn := .mk 26 [.tmp 4] (
 .seq (.region [
   ⟨some 4, .mov (.c (.v (.bool false))), none⟩])
 (.seq (.seq (.region [
   ⟨some 6, .mov (.t 0), none⟩,
   ⟨some 7, .len .sl (.t 6), none⟩,
   ⟨some 8, .mov (.t 1), none⟩,
   ⟨some 9, .len .sl (.t 8), none⟩,
   ⟨some 10, .bin .neq (.t 7) (.t 9), none⟩])
 (.cond (.t 10)
  (.seq (.region [
    ⟨some 4, .mov (.c (.v (.bool false))), none⟩])
  (.ret))
  (.skip)))
 (.seq (.seq (.region [
   ⟨some 11, .mov (.t 0), none⟩,
   ⟨some 12, .len .sl (.t 11), none⟩,
   ⟨some 13, .mov (.c (.v (.int .i64 0))), none⟩])
 (.block 0 (.loop (.seq (.region [
     ⟨some 14, .bin .lss (.t 13) (.t 12), none⟩])
   (.seq (.cond (.t 14)
    (.skip)
    (.exit 0))
   (.seq (.block 1 (.seq (.region [
      ⟨some 15, .mov (.t 13), none⟩,
      ⟨some 5, .mov (.t 15), none⟩])
    (.seq (.region [
      ⟨some 16, .mov (.t 0), none⟩,
      ⟨some 17, .mov (.t 5), none⟩,
      ⟨some 18, .idxp 3 (.t 16) (.t 17), none⟩,
      ⟨some 19, .load true 3 (.t 18), none⟩,
      ⟨some 20, .mov (.t 1), none⟩,
      ⟨some 21, .mov (.t 5), none⟩,
      ⟨some 22, .idxp 3 (.t 20) (.t 21), none⟩,
      ⟨some 23, .load true 3 (.t 22), none⟩,
      ⟨some 24, .eqa true (.agg [.i, .i, .s]) (.t 19) (.t 23), none⟩])
    (.cond (.t 24)
     (.seq (.region [
       ⟨some 4, .mov (.c (.v (.bool false))), none⟩])
     (.ret))
     (.skip)))))
   (.region [
     ⟨some 25, .bin .add (.t 13) (.c (.v (.int .i64 1))), none⟩,
     ⟨some 13, .mov (.t 25), none⟩])))))))
 (.seq (.region [
   ⟨some 4, .mov (.c (.v (.bool true))), none⟩])
 (.ret)))))
theorem h_slices_Equal_Entry : (prog.funcs[F_slices_Equal_Entry]?).bind (compFn prog) = some A_slices_Equal_Entry := by kernel_rfl
def A_part_IsEntry : AFn := .mk 17 [.tmp 2] (
 .seq (.region [
   ⟨some 1, .box (.t 0), none⟩,
   ⟨some 2, .mov (.c (.v (.bool false))), none⟩])
 (.seq (.region [
   ⟨some 3, .fld 0 (.t 1), none⟩,
   ⟨some 4, .load false 1 (.t 3), none⟩,
   ⟨some 5, .call (.c (.f (.func F_part_between) [] [])) [(.t 4), (.c (.v (.int .i64 1))), (.c (.v (.int .i64 1099511627776)))], none⟩,
   ⟨some 6, .mov (.t 5), none⟩,
   ⟨some 7, .fld 1 (.t 1), some (6, true)⟩,
   ⟨some 8, .load false 1 (.t 7), some (6, true)⟩,
   ⟨some 9, .call (.c (.f (.func F_part_between) [] [])) [(.t 8), (.c (.v (.int .i64 1))), (.c (.v (.int .i64 1099511627776)))], some (6, true)⟩,
   ⟨some 10, .pick (.t 6) (.t 9) (.c (.v (.bool false))), none⟩,
   ⟨some 11, .mov (.t 10), none⟩,
   ⟨some 12, .fld 2 (.t 1), some (11, true)⟩,
   ⟨some 13, .load false 1 (.t 12), some (11, true)⟩,
   ⟨some 14, .len .str (.t 13), some (11, true)⟩,
   ⟨some 15, .bin .leq (.t 14) (.c (.v (.int .i64 40))), some (11, true)⟩,
   ⟨some 16, .pick (.t 11) (.t 15) (.c (.v (.bool false))), none⟩,
   ⟨some 2, .mov (.t 16), none⟩])
 (.ret)))
theorem h_part_IsEntry : (prog.funcs[F_part_IsEntry]?).bind (compFn prog) = some A_part_IsEntry := by kernel_rfl
def A_sparse_Is : AFn := .mk 25 [.cell false 1 2] (
 .seq (.region [
   ⟨some 1, .box (.t 0), none⟩,
   ⟨some 2, .alloc [(.v (.bool false))], none⟩])
 (.seq (.region [
   ⟨some 5, .fld 1 (.t 1), none⟩,
   ⟨some 6, .load false 1 (.t 5), none⟩,
   ⟨some 7, .bin .sub (.t 6) (.c (.v (.int .i64 1))), none⟩,
   ⟨some 3, .alloc [(.v (.int .i64 0))], none⟩,
   ⟨none, .store 1 (.t 3) (.t 7), none⟩])
 (.seq (.seq (.region [
   ⟨some 8, .fld 6 (.t 1), none⟩,
   ⟨some 9, .load false 1 (.t 8), none⟩,
   ⟨some 10, .call (.c (.f (.func F_slices_Values_Entry) [] [])) [(.t 9)], none⟩])
 (.block 0 (.range (.t 10) [11]
   (.region [
     ⟨some 4, .alloc [(.v (.int .i64 0)), (.v (.int .i64 0)), (.v (.string ⟨#[]⟩))], none⟩,
     ⟨none, .store 3 (.t 4) (.t 11), none⟩])
   (.block 1 (.seq (.seq (.region [
      ⟨some 12, .load true 3 (.t 4), none⟩,
      ⟨some 13, .call (.c (.f (.func F_part_IsEntry) [] [])) [(.t 12)], none⟩,
      ⟨some 14, .un .not (.t 13), none⟩,
      ⟨some 15, .mov (.t 14), none⟩,
      ⟨some 16, .fld 0 (.t 4), some (15, false)⟩,
      ⟨some 17, .load false 1 (.t 16), some (15, false)⟩,
      ⟨some 18, .load false 1 (.t 3), some (15, false)⟩,
      ⟨some 19, .bin .leq (.t 17) (.t 18), some (15, false)⟩,
      ⟨some 20, .pick (.t 15) (.c (.v (.bool true))) (.t 19), none⟩])
    (.cond (.t 20)
     (.seq (.region [
       ⟨none, .store 1 (.t 2) (.c (.v (.bool false))), none⟩])
     (.ret))
     (.skip)))
    (.region [
      ⟨some 21, .fld 0 (.t 4), none⟩,
      ⟨some 22, .load false 1 (.t 21), none⟩,
      ⟨none, .store 1 (.t 3) (.t 22), none⟩]))))))
 (.seq (.region [
   ⟨some 23, .load true 7 (.t 1), none⟩,
   ⟨some 24, .call (.c (.f (.func F_group_Head) [] [])) [(.t 23)], none⟩,
   ⟨none, .store 1 (.t 2) (.t 24), none⟩])
 (.ret)))))
theorem h_sparse_Is : (prog.funcs[F_sparse_Is]?).bind (compFn prog) = some A_sparse_Is := by kernel_rfl
def A_sparse_from : AFn := .mk 13 [.tmp 6] (
 .seq (.region [
   ⟨some 6, .mov (.c (.sl [] .zero)), none⟩])
 (.seq (.region [
   ⟨some 7, .mov (.t 0), none⟩,
   ⟨some 8, .build [(.v (.int .i64 0)), (.v (.int .i64 0)), (.v (.int .i64 0)), (.v (.int .i64 0)), (.v (.int .i64 0)), (.v (.int .i64 0)), (.sl [] .zero)] [(6, 1, (.t 7))], none⟩,
   ⟨some 9, .mov (.t 1), none⟩,
   ⟨some 10, .mov (.t 2), none⟩,
   ⟨some 11, .call (.c (.f (.func F_group_Within) [] [])) [(.t 8), (.t 9), (.t 10)], none⟩,
   ⟨some 12, .call (.c (.f (.func F_slices_Collect_Entry) [] [])) [(.t 11)], none⟩,
   ⟨some 6, .mov (.t 12), none⟩])
 (.ret)))
theorem h_sparse_from : (prog.funcs[F_sparse_from]?).bind (compFn prog) = some A_sparse_from := by kernel_rfl
def A_sparse_gone : AFn := .mk 29 [.cell true 7 6] (
 .seq (.region [
   ⟨some 3, .box (.t 0), none⟩,
   ⟨some 6, .alloc [(.v (.int .i64 0)), (.v (.int .i64 0)), (.v (.int .i64 0)), (.v (.int .i64 0)), (.v (.int .i64 0)), (.v (.int .i64 0)), (.sl [] .zero)], none⟩])
 (.seq (.seq (.region [
   ⟨some 7, .mov (.t 1), none⟩,
   ⟨some 8, .fld 1 (.t 3), none⟩,
   ⟨some 9, .load false 1 (.t 8), none⟩,
   ⟨some 10, .bin .lss (.t 7) (.t 9), none⟩])
 (.cond (.t 10)
  (.seq (.region [
    ⟨some 11, .load true 7 (.t 3), none⟩,
    ⟨none, .store 7 (.t 6) (.t 11), none⟩])
  (.ret))
  (.skip)))
 (.seq (.seq (.region [
   ⟨some 12, .mov (.t 2), none⟩,
   ⟨some 13, .bin .eql (.t 12) (.c (.v (.int .i64 0))), none⟩])
 (.cond (.t 13)
  (.region [
    ⟨some 14, .load true 7 (.t 3), none⟩,
    ⟨some 15, .mov (.t 1), none⟩,
    ⟨some 16, .call (.c (.f (.func F_sparse_term) [] [])) [(.t 14), (.t 15)], none⟩,
    ⟨some 2, .mov (.t 16), none⟩])
  (.skip)))
 (.seq (.region [
   ⟨some 17, .fld 6 (.t 3), none⟩,
   ⟨some 18, .load false 1 (.t 17), none⟩,
   ⟨some 19, .mov (.t 1), none⟩,
   ⟨some 20, .bin .add (.t 19) (.c (.v (.int .i64 1))), none⟩,
   ⟨some 21, .call (.c (.f (.func F_sparse_from) [] [])) [(.t 18), (.t 20), (.c (.v (.int .i64 1099511627777)))], none⟩,
   ⟨some 22, .fld 6 (.t 3), none⟩,
   ⟨none, .store 1 (.t 22) (.t 21), none⟩])
 (.seq (.region [
   ⟨some 23, .mov (.t 1), none⟩,
   ⟨some 24, .bin .add (.t 23) (.c (.v (.int .i64 1))), none⟩,
   ⟨some 25, .mov (.t 2), none⟩,
   ⟨some 26, .fld 1 (.t 3), none⟩,
   ⟨none, .store 1 (.t 26) (.t 24), none⟩,
   ⟨some 27, .fld 2 (.t 3), none⟩,
   ⟨none, .store 1 (.t 27) (.t 25), none⟩])
 (.seq (.region [
   ⟨some 28, .load true 7 (.t 3), none⟩,
   ⟨none, .store 7 (.t 6) (.t 28), none⟩])
 (.ret)))))))
theorem h_sparse_gone : (prog.funcs[F_sparse_gone]?).bind (compFn prog) = some A_sparse_gone := by kernel_rfl
def A_sparse_forward : AFn := .mk 56 [.cell true 7 4] (
 .seq (.region [
   ⟨some 2, .box (.t 0), none⟩,
   ⟨some 3, .box (.t 1), none⟩,
   ⟨some 4, .alloc [(.v (.int .i64 0)), (.v (.int .i64 0)), (.v (.int .i64 0)), (.v (.int .i64 0)), (.v (.int .i64 0)), (.v (.int .i64 0)), (.sl [] .zero)], none⟩])
 (.seq (.seq (.region [
   ⟨some 8, .fld 8 (.t 3), none⟩,
   ⟨some 9, .load false 1 (.t 8), none⟩])
 (.cond (.t 9)
  (.region [
    ⟨some 10, .load true 7 (.t 2), none⟩,
    ⟨some 11, .fld 6 (.t 3), none⟩,
    ⟨some 12, .load false 1 (.t 11), none⟩,
    ⟨some 13, .fld 7 (.t 3), none⟩,
    ⟨some 14, .load false 1 (.t 13), none⟩,
    ⟨some 15, .call (.c (.f (.func F_sparse_gone) [] [])) [(.t 10), (.t 12), (.t 14)], none⟩,
    ⟨none, .store 7 (.t 2) (.t 15), none⟩])
  (.skip)))
 (.seq (.seq (.region [
   ⟨some 16, .fld 9 (.t 3), none⟩,
   ⟨some 17, .load false 1 (.t 16), none⟩])
 (.cond (.t 17)
  (.region [
    ⟨some 18, .fld 3 (.t 3), none⟩,
    ⟨some 19, .load true 3 (.t 18), none⟩,
    ⟨some 20, .fld 3 (.t 2), none⟩,
    ⟨none, .store 3 (.t 20) (.t 19), none⟩])
  (.skip)))
 (.seq (.seq (.region [
   ⟨some 21, .fld 2 (.t 3), none⟩,
   ⟨some 22, .load false 1 (.t 21), none⟩,
   ⟨some 23, .call (.c (.f (.func F_slices_Values_Entry) [] [])) [(.t 22)], none⟩])
 (.block 0 (.range (.t 23) [24]
   (.region [
     ⟨some 5, .alloc [(.v (.int .i64 0)), (.v (.int .i64 0)), (.v (.string ⟨#[]⟩))], none⟩,
     ⟨none, .store 3 (.t 5) (.t 24), none⟩])
   (.block 1 (.seq (.seq (.region [
      ⟨some 25, .fld 0 (.t 5), none⟩,
      ⟨some 26, .load false 1 (.t 25), none⟩,
      ⟨some 27, .fld 1 (.t 2), none⟩,
      ⟨some 28, .load false 1 (.t 27), none⟩,
      ⟨some 29, .bin .lss (.t 26) (.t 28), none⟩,
      ⟨some 30, .mov (.t 29), none⟩,
      ⟨some 31, .load true 7 (.t 2), some (30, false)⟩,
      ⟨some 32, .fld 0 (.t 5), some (30, false)⟩,
      ⟨some 33, .load false 1 (.t 32), some (30, false)⟩,
      ⟨some 34, .call (.c (.f (.func F_sparse_there) [] [])) [(.t 31), (.t 33)], some (30, false)⟩,
      ⟨some 35, .pick (.t 30) (.c (.v (.bool true))) (.t 34), none⟩])
    (.cond (.t 35)
     (.exit 1)
     (.skip)))
    (.seq (.draw (
      ⟨⟨some 36, .fld 6 (.t 2), none⟩, false, false, []⟩ ::
      ⟨⟨some 37, .load false 1 (.t 36), none⟩, false, false, []⟩ ::
      ⟨⟨some 38, .fld 1 (.t 2), none⟩, false, false, []⟩ ::
      ⟨⟨some 39, .load false 1 (.t 38), none⟩, false, false, []⟩ ::
      ⟨⟨some 40, .fld 0 (.t 5), none⟩, false, false, []⟩ ::
      ⟨⟨some 41, .load false 1 (.t 40), none⟩, false, false, []⟩ ::
      ⟨⟨some 43, .fld 6 (.t 2), none⟩, false, true, []⟩ ::
      ⟨⟨some 44, .load false 1 (.t 43), none⟩, false, true, []⟩ ::
      ⟨⟨some 45, .fld 0 (.t 5), none⟩, false, true, []⟩ ::
      ⟨⟨some 46, .load false 1 (.t 45), none⟩, false, true, []⟩ ::
      ⟨⟨some 42, .call (.c (.f (.func F_sparse_from) [] [])) [(.t 37), (.t 39), (.t 41)], none⟩, true, false, [⟨some 46, .load false 1 (.t 45), none⟩, ⟨some 44, .load false 1 (.t 43), none⟩]⟩ ::
      ⟨⟨some 47, .call (.c (.f (.func F_sparse_from) [] [])) [(.t 44), (.t 46), (.c (.v (.int .i64 1099511627777)))], none⟩, true, false, []⟩ ::
      ⟨⟨some 6, .mov (.t 42), none⟩, false, false, []⟩ ::
      ⟨⟨some 7, .mov (.t 47), none⟩, false, false, []⟩ ::
      []))
    (.region [
      ⟨some 48, .mov (.t 6), none⟩,
      ⟨some 49, .load true 3 (.t 5), none⟩,
      ⟨some 50, .bsl 3 [(.t 49)], none⟩,
      ⟨some 51, .append 3 32 (.t 48) (.t 50), none⟩,
      ⟨some 52, .mov (.t 7), none⟩,
      ⟨some 53, .append 3 32 (.t 51) (.t 52), none⟩,
      ⟨some 54, .fld 6 (.t 2), none⟩,
      ⟨none, .store 1 (.t 54) (.t 53), none⟩])))))))
 (.seq (.region [
   ⟨some 55, .load true 7 (.t 2), none⟩,
   ⟨none, .store 7 (.t 4) (.t 55), none⟩])
 (.ret))))))
theorem h_sparse_forward : (prog.funcs[F_sparse_forward]?).bind (compFn prog) = some A_sparse_forward := by kernel_rfl
def A_slices_Values_Entry_1 : AFn := .mk 16 [] (
 .seq (.region [
   ⟨some 5, .load false 1 (.t 1), none⟩,
   ⟨some 6, .len .sl (.t 5), none⟩,
   ⟨some 7, .mov (.c (.v (.int .i64 0))), none⟩])
 (.block 0 (.loop (.seq (.region [
     ⟨some 8, .bin .lss (.t 7) (.t 6), none⟩])
   (.seq (.cond (.t 8)
    (.skip)
    (.exit 0))
   (.seq (.block 1 (.seq (.region [
      ⟨some 9, .idxp 3 (.t 5) (.t 7), none⟩,
      ⟨some 10, .load true 3 (.t 9), none⟩,
      ⟨some 4, .alloc [(.v (.int .i64 0)), (.v (.int .i64 0)), (.v (.string ⟨#[]⟩))], none⟩,
      ⟨none, .store 3 (.t 4) (.t 10), none⟩])
    (.seq (.region [
      ⟨some 11, .mov (.t 0), none⟩,
      ⟨some 12, .load true 3 (.t 4), none⟩,
      ⟨some 13, .call (.t 11) [(.t 12)], none⟩,
      ⟨some 14, .un .not (.t 13), none⟩])
    (.cond (.t 14)
     (.ret)
     (.skip)))))
   (.region [
     ⟨some 15, .bin .add (.t 7) (.c (.v (.int .i64 1))), none⟩,
     ⟨some 7, .mov (.t 15), none⟩])))))))
theorem h_slices_Values_Entry_1 : (prog.funcs[F_slices_Values_Entry_1]?).bind (compFn prog) = some A_slices_Values_Entry_1 := by kernel_rfl
def A_slices_Contains_Entry : AFn := .mk 9 [.tmp 4] (
 .seq (.region [
   ⟨some 3, .box (.t 1), none⟩,
   ⟨some 4, .mov (.c (.v (.bool false))), none⟩])
 (.seq (.region [
   ⟨some 5, .mov (.t 0), none⟩,
   ⟨some 6, .load true 3 (.t 3), none⟩,
   ⟨some 7, .call (.c (.f (.func F_slices_Index_Entry) [] [])) [(.t 5), (.t 6)], none⟩,
   ⟨some 8, .bin .geq (.t 7) (.c (.v (.int .i64 0))), none⟩,
   ⟨some 4, .mov (.t 8), none⟩])
 (.ret)))
theorem h_slices_Contains_Entry : (prog.funcs[F_slices_Contains_Entry]?).bind (compFn prog) = some A_slices_Contains_Entry := by kernel_rfl
def A_laderef4_within : AFn := .mk 15 [.tmp 6] (
 .seq (.region [
   ⟨some 6, .mov (.c (.v (.bool false))), none⟩])
 (.seq (.region [
   ⟨some 7, .mov (.t 0), none⟩,
   ⟨some 8, .mov (.t 1), none⟩,
   ⟨some 9, .bin .geq (.t 7) (.t 8), none⟩,
   ⟨some 10, .mov (.t 9), none⟩,
   ⟨some 11, .mov (.t 0), some (10, true)⟩,
   ⟨some 12, .mov (.t 2), some (10, true)⟩,
   ⟨some 13, .bin .leq (.t 11) (.t 12), some (10, true)⟩,
   ⟨some 14, .pick (.t 10) (.t 13) (.c (.v (.bool false))), none⟩,
   ⟨some 6, .mov (.t 14), none⟩])
 (.ret)))
theorem h_laderef4_within : (prog.funcs[F_laderef4_within]?).bind (compFn prog) = some A_laderef4_within := by kernel_rfl
def A_laderef4_entries : AFn := .mk 57 [.tmp 4] (
 .seq (.region [
   ⟨some 4, .mov (.c (.v (.bool false))), none⟩])
 (.seq (.seq (.region [
   ⟨some 5, .mov (.c (.v (.int .i64 0))), none⟩])
 (.block 0 (.loop (.seq (.seq (.region [
     ⟨some 6, .mov (.t 5), none⟩,
     ⟨some 7, .mov (.t 0), none⟩,
     ⟨some 8, .len .sl (.t 7), none⟩,
     ⟨some 9, .bin .lss (.t 6) (.t 8), none⟩])
   (.cond (.t 9)
    (.skip)
    (.exit 0)))
   (.seq (.block 1 (.seq (.region [
      ⟨some 12, .mov (.t 0), none⟩,
      ⟨some 13, .mov (.t 5), none⟩,
      ⟨some 14, .idxp 3 (.t 12) (.t 13), none⟩,
      ⟨some 15, .load true 3 (.t 14), none⟩,
      ⟨some 16, .call (.c (.f (.func F_laderef4_IsEntry) [] [])) [(.t 15)], none⟩,
      ⟨some 17, .un .not (.t 16), none⟩,
      ⟨some 18, .mov (.t 17), none⟩,
      ⟨some 19, .mov (.t 5), some (18, false)⟩,
      ⟨some 20, .bin .gtr (.t 19) (.c (.v (.int .i64 0))), some (18, false)⟩,
      ⟨some 21, .mov (.t 20), some (18, false)⟩,
      ⟨some 22, .mov (.t 0), some (21, true)⟩,
      ⟨some 23, .mov (.t 5), some (21, true)⟩,
      ⟨some 24, .idxp 3 (.t 22) (.t 23), some (21, true)⟩,
      ⟨some 25, .fld 0 (.t 24), some (21, true)⟩,
      ⟨some 26, .load false 1 (.t 25), some (21, true)⟩,
      ⟨some 27, .mov (.t 0), some (21, true)⟩,
      ⟨some 28, .mov (.t 5), some (21, true)⟩,
      ⟨some 29, .bin .sub (.t 28) (.c (.v (.int .i64 1))), some (21, true)⟩,
      ⟨some 30, .idxp 3 (.t 27) (.t 29), some (21, true)⟩,
      ⟨some 31, .fld 0 (.t 30), some (21, true)⟩,
      ⟨some 32, .load false 1 (.t 31), some (21, true)⟩,
      ⟨some 33, .bin .leq (.t 26) (.t 32), some (21, true)⟩,
      ⟨some 34, .mov (.t 33), some (21, true)⟩,
      ⟨some 35, .mov (.t 1), some (34, false)⟩,
      ⟨some 36, .mov (.t 35), some (34, false)⟩,
      ⟨some 37, .mov (.t 0), some (36, true)⟩,
      ⟨some 38, .mov (.t 5), some (36, true)⟩,
      ⟨some 39, .idxp 3 (.t 37) (.t 38), some (36, true)⟩,
      ⟨some 40, .fld 0 (.t 39), some (36, true)⟩,
      ⟨some 41, .load false 1 (.t 40), some (36, true)⟩,
      ⟨some 42, .mov (.t 0), some (36, true)⟩,
      ⟨some 43, .mov (.t 5), some (36, true)⟩,
      ⟨some 44, .bin .sub (.t 43) (.c (.v (.int .i64 1))), some (36, true)⟩,
      ⟨some 45, .idxp 3 (.t 42) (.t 44), some (36, true)⟩,
      ⟨some 46, .fld 0 (.t 45), some (36, true)⟩,
      ⟨some 47, .load false 1 (.t 46), some (36, true)⟩,
      ⟨some 48, .bin .add (.t 47) (.c (.v (.int .i64 1))), some (36, true)⟩,
      ⟨some 49, .bin .neq (.t 41) (.t 48), some (36, true)⟩,
      ⟨some 50, .pick (.t 36) (.t 49) (.c (.v (.bool false))), some (34, false)⟩,
      ⟨some 51, .pick (.t 34) (.c (.v (.bool true))) (.t 50), some (21, true)⟩,
      ⟨some 52, .pick (.t 21) (.t 51) (.c (.v (.bool false))), some (18, false)⟩,
      ⟨some 53, .pick (.t 18) (.c (.v (.bool true))) (.t 52), none⟩])
    (.cond (.t 53)
     (.seq (.region [
       ⟨some 4, .mov (.c (.v (.bool false))), none⟩])
     (.ret))
     (.skip))))
   (.region [
     ⟨some 10, .mov (.t 5), none⟩,
     ⟨some 11, .bin .add (.t 10) (.c (.v (.int .i64 1))), none⟩,
     ⟨some 5, .mov (.t 11), none⟩]))))))
 (.seq (.region [
   ⟨some 54, .mov (.t 0), none⟩,
   ⟨some 55, .len .sl (.t 54), none⟩,
   ⟨some 56, .bin .leq (.t 55) (.c (.v (.int .i64 6))), none⟩,
   ⟨some 4, .mov (.t 56), none⟩])
 (.ret))))
theorem h_laderef4_entries : (prog.funcs[F_laderef4_entries]?).bind (compFn prog) = some A_laderef4_entries := by kernel_rfl
def A_laderef4_IsHard : AFn := .mk 16 [.tmp 2] (
 .seq (.region [
   ⟨some 1, .box (.t 0), none⟩,
   ⟨some 2, .mov (.c (.v (.bool false))), none⟩])
 (.seq (.region [
   ⟨some 3, .fld 0 (.t 1), none⟩,
   ⟨some 4, .load false 1 (.t 3), none⟩,
   ⟨some 5, .call (.c (.f (.func F_laderef4_within) [] [])) [(.t 4), (.c (.v (.int .i64 0))), (.c (.v (.int .i64 1099511627776)))], none⟩,
   ⟨some 6, .mov (.t 5), none⟩,
   ⟨some 7, .fld 2 (.t 1), some (6, true)⟩,
   ⟨some 8, .load false 1 (.t 7), some (6, true)⟩,
   ⟨some 9, .call (.c (.f (.func F_laderef4_within) [] [])) [(.t 8), (.c (.v (.int .i64 0))), (.c (.v (.int .i64 1099511627776)))], some (6, true)⟩,
   ⟨some 10, .pick (.t 6) (.t 9) (.c (.v (.bool false))), none⟩,
   ⟨some 11, .mov (.t 10), none⟩,
   ⟨some 12, .fld 1 (.t 1), some (11, true)⟩,
   ⟨some 13, .load false 1 (.t 12), some (11, true)⟩,
   ⟨some 14, .call (.c (.f (.func F_laderef4_within) [] [])) [(.t 13), (.c (.v (.int .i64 0))), (.c (.v (.int .i64 1000)))], some (11, true)⟩,
   ⟨some 15, .pick (.t 11) (.t 14) (.c (.v (.bool false))), none⟩,
   ⟨some 2, .mov (.t 15), none⟩])
 (.ret)))
theorem h_laderef4_IsHard : (prog.funcs[F_laderef4_IsHard]?).bind (compFn prog) = some A_laderef4_IsHard := by kernel_rfl
def A_laderef4_mark : AFn := .mk 11 [.tmp 2] (
 .seq (.region [
   ⟨some 1, .box (.t 0), none⟩,
   ⟨some 2, .mov (.c (.v (.bool false))), none⟩])
 (.seq (.region [
   ⟨some 3, .fld 6 (.t 1), none⟩,
   ⟨some 4, .load false 1 (.t 3), none⟩,
   ⟨some 5, .call (.c (.f (.func F_laderef4_within) [] [])) [(.t 4), (.c (.v (.int .i64 1))), (.c (.v (.int .i64 1099511627776)))], none⟩,
   ⟨some 6, .mov (.t 5), none⟩,
   ⟨some 7, .fld 7 (.t 1), some (6, true)⟩,
   ⟨some 8, .load false 1 (.t 7), some (6, true)⟩,
   ⟨some 9, .call (.c (.f (.func F_laderef4_within) [] [])) [(.t 8), (.c (.v (.int .i64 1))), (.c (.v (.int .i64 1099511627776)))], some (6, true)⟩,
   ⟨some 10, .pick (.t 6) (.t 9) (.c (.v (.bool false))), none⟩,
   ⟨some 2, .mov (.t 10), none⟩])
 (.ret)))
theorem h_laderef4_mark : (prog.funcs[F_laderef4_mark]?).bind (compFn prog) = some A_laderef4_mark := by kernel_rfl
def A_laderef6_IsSparse : AFn := .mk 5 [.tmp 2] (
 .seq (.region [
   ⟨some 1, .box (.t 0), none⟩,
   ⟨some 2, .mov (.c (.v (.bool false))), none⟩])
 (.seq (.region [
   ⟨some 3, .load true 7 (.t 1), none⟩,
   ⟨some 4, .call (.c (.f (.func F_laderef6_is) [] [])) [(.t 3), (.c (.v (.bool false)))], none⟩,
   ⟨some 2, .mov (.t 4), none⟩])
 (.ret)))
theorem h_laderef6_IsSparse : (prog.funcs[F_laderef6_IsSparse]?).bind (compFn prog) = some A_laderef6_IsSparse := by kernel_rfl
def A_laderef6_below : AFn := .mk 28 [.tmp 4] (
 .seq (.region [
   ⟨some 4, .mov (.c (.sl [] .zero)), none⟩])
 (.seq (.region [
   ⟨some 5, .mov (.c (.sl [] .zero)), none⟩])
 (.seq (.seq (.region [
   ⟨some 6, .mov (.c (.v (.int .i64 0))), none⟩])
 (.block 0 (.loop (.seq (.seq (.region [
     ⟨some 7, .mov (.t 6), none⟩,
     ⟨some 8, .mov (.t 0), none⟩,
     ⟨some 9, .len .sl (.t 8), none⟩,
     ⟨some 10, .bin .lss (.t 7) (.t 9), none⟩])
   (.cond (.t 10)
    (.skip)
    (.exit 0)))
   (.seq (.block 1 (.seq (.region [
      ⟨some 13, .mov (.t 0), none⟩,
      ⟨some 14, .mov (.t 6), none⟩,
      ⟨some 15, .idxp 3 (.t 13) (.t 14), none⟩,
      ⟨some 16, .fld 0 (.t 15), none⟩,
      ⟨some 17, .load false 1 (.t 16), none⟩,
      ⟨some 18, .mov (.t 1), none⟩,
      ⟨some 19, .bin .lss (.t 17) (.t 18), none⟩])
    (.cond (.t 19)
     (.region [
       ⟨some 20, .mov (.t 5), none⟩,
       ⟨some 21, .mov (.t 0), none⟩,
       ⟨some 22, .mov (.t 6), none⟩,
       ⟨some 23, .idxp 3 (.t 21) (.t 22), none⟩,
       ⟨some 24, .load true 3 (.t 23), none⟩,
       ⟨some 25, .bsl 3 [(.t 24)], none⟩,
       ⟨some 26, .append 3 32 (.t 20) (.t 25), none⟩,
       ⟨some 5, .mov (.t 26), none⟩])
     (.skip))))
   (.region [
     ⟨some 11, .mov (.t 6), none⟩,
     ⟨some 12, .bin .add (.t 11) (.c (.v (.int .i64 1))), none⟩,
     ⟨some 6, .mov (.t 12), none⟩]))))))
 (.seq (.region [
   ⟨some 27, .mov (.t 5), none⟩,
   ⟨some 4, .mov (.t 27), none⟩])
 (.ret)))))
theorem h_laderef6_below : (prog.funcs[F_laderef6_below]?).bind (compFn prog) = some A_laderef6_below := by kernel_rfl
def A_laderef6_from : AFn := .mk 28 [.tmp 4] (
 .seq (.region [
   ⟨some 4, .mov (.c (.sl [] .zero)), none⟩])
 (.seq (.region [
   ⟨some 5, .mov (.c (.sl [] .zero)), none⟩])
 (.seq (.seq (.region [
   ⟨some 6, .mov (.c (.v (.int .i64 0))), none⟩])
 (.block 0 (.loop (.seq (.seq (.region [
     ⟨some 7, .mov (.t 6), none⟩,
     ⟨some 8, .mov (.t 0), none⟩,
     ⟨some 9, .len .sl (.t 8), none⟩,
     ⟨some 10, .bin .lss (.t 7) (.t 9), none⟩])
   (.cond (.t 10)
    (.skip)
    (.exit 0)))
   (.seq (.block 1 (.seq (.region [
      ⟨some 13, .mov (.t 0), none⟩,
      ⟨some 14, .mov (.t 6), none⟩,
      ⟨some 15, .idxp 3 (.t 13) (.t 14), none⟩,
      ⟨some 16, .fld 0 (.t 15), none⟩,
      ⟨some 17, .load false 1 (.t 16), none⟩,
      ⟨some 18, .mov (.t 1), none⟩,
      ⟨some 19, .bin .geq (.t 17) (.t 18), none⟩])
    (.cond (.t 19)
     (.region [
       ⟨some 20, .mov (.t 5), none⟩,
       ⟨some 21, .mov (.t 0), none⟩,
       ⟨some 22, .mov (.t 6), none⟩,
       ⟨some 23, .idxp 3 (.t 21) (.t 22), none⟩,
       ⟨some 24, .load true 3 (.t 23), none⟩,
       ⟨some 25, .bsl 3 [(.t 24)], none⟩,
       ⟨some 26, .append 3 32 (.t 20) (.t 25), none⟩,
       ⟨some 5, .mov (.t 26), none⟩])
     (.skip))))
   (.region [
     ⟨some 11, .mov (.t 6), none⟩,
     ⟨some 12, .bin .add (.t 11) (.c (.v (.int .i64 1))), none⟩,
     ⟨some 6, .mov (.t 12), none⟩]))))))
 (.seq (.region [
   ⟨some 27, .mov (.t 5), none⟩,
   ⟨some 4, .mov (.t 27), none⟩])
 (.ret)))))
theorem h_laderef6_from : (prog.funcs[F_laderef6_from]?).bind (compFn prog) = some A_laderef6_from := by kernel_rfl
def A_laderef6_compact : AFn := .mk 43 [.cell true 7 6] (
 .seq (.region [
   ⟨some 3, .box (.t 0), none⟩,
   ⟨some 6, .alloc [(.v (.int .i64 0)), (.v (.int .i64 0)), (.v (.int .i64 0)), (.v (.int .i64 0)), (.v (.int .i64 0)), (.v (.int .i64 0)), (.sl [] .zero)], none⟩])
 (.seq (.seq (.region [
   ⟨some 9, .mov (.t 1), none⟩,
   ⟨some 10, .fld 1 (.t 3), none⟩,
   ⟨some 11, .load false 1 (.t 10), none⟩,
   ⟨some 12, .bin .lss (.t 9) (.t 11), none⟩])
 (.cond (.t 12)
  (.seq (.region [
    ⟨some 13, .load true 7 (.t 3), none⟩,
    ⟨none, .store 7 (.t 6) (.t 13), none⟩])
  (.ret))
  (.skip)))
 (.seq (.region [
   ⟨some 14, .load true 7 (.t 3), none⟩,
   ⟨some 7, .alloc [(.v (.int .i64 0)), (.v (.int .i64 0)), (.v (.int .i64 0)), (.v (.int .i64 0)), (.v (.int .i64 0)), (.v (.int .i64 0)), (.sl [] .zero)], none⟩,
   ⟨none, .store 7 (.t 7) (.t 14), none⟩])
 (.seq (.region [
   ⟨some 15, .mov (.t 2), none⟩,
   ⟨some 16, .fld 2 (.t 7), none⟩,
   ⟨none, .store 1 (.t 16) (.t 15), none⟩])
 (.seq (.seq (.region [
   ⟨some 17, .load true 7 (.t 3), none⟩,
   ⟨some 18, .mov (.t 1), none⟩,
   ⟨some 19, .call (.c (.f (.func F_laderef6_At) [] [])) [(.t 17), (.t 18)], none⟩,
   ⟨some 8, .mov (.t 19), none⟩])
 (.seq (.region [
   ⟨some 20, .mov (.t 8), none⟩,
   ⟨some 21, .bin .geq (.t 20) (.c (.v (.int .i64 0))), none⟩,
   ⟨some 22, .mov (.t 21), none⟩,
   ⟨some 23, .mov (.t 2), some (22, true)⟩,
   ⟨some 24, .bin .eql (.t 23) (.c (.v (.int .i64 0))), some (22, true)⟩,
   ⟨some 25, .pick (.t 22) (.t 24) (.c (.v (.bool false))), none⟩])
 (.cond (.t 25)
  (.region [
    ⟨some 26, .fld 6 (.t 3), none⟩,
    ⟨some 27, .load false 1 (.t 26), none⟩,
    ⟨some 28, .mov (.t 8), none⟩,
    ⟨some 29, .idxp 3 (.t 27) (.t 28), none⟩,
    ⟨some 30, .fld 1 (.t 29), none⟩,
    ⟨some 31, .load false 1 (.t 30), none⟩,
    ⟨some 32, .fld 2 (.t 7), none⟩,
    ⟨none, .store 1 (.t 32) (.t 31), none⟩])
  (.skip))))
 (.seq (.region [
   ⟨some 33, .mov (.t 1), none⟩,
   ⟨some 34, .bin .add (.t 33) (.c (.v (.int .i64 1))), none⟩,
   ⟨some 35, .fld 6 (.t 3), none⟩,
   ⟨some 36, .load false 1 (.t 35), none⟩,
   ⟨some 37, .mov (.t 1), none⟩,
   ⟨some 38, .bin .add (.t 37) (.c (.v (.int .i64 1))), none⟩,
   ⟨some 39, .call (.c (.f (.func F_laderef6_from) [] [])) [(.t 36), (.t 38)], none⟩,
   ⟨some 40, .fld 1 (.t 7), none⟩,
   ⟨none, .store 1 (.t 40) (.t 34), none⟩,
   ⟨some 41, .fld 6 (.t 7), none⟩,
   ⟨none, .store 1 (.t 41) (.t 39), none⟩])
 (.seq (.region [
   ⟨some 42, .load true 7 (.t 7), none⟩,
   ⟨none, .store 7 (.t 6) (.t 42), none⟩])
 (.ret))))))))
theorem h_laderef6_compact : (prog.funcs[F_laderef6_compact]?).bind (compFn prog) = some A_laderef6_compact := by kernel_rfl
def A_laderef6_fill : AFn := .mk 64 [.cell true 7 4] (
 .seq (.region [
   ⟨some 2, .box (.t 0), none⟩,
   ⟨some 3, .box (.t 1), none⟩,
   ⟨some 4, .alloc [(.v (.int .i64 0)), (.v (.int .i64 0)), (.v (.int .i64 0)), (.v (.int .i64 0)), (.v (.int .i64 0)), (.v (.int .i64 0)), (.sl [] .zero)], none⟩])
 (.seq (.region [
   ⟨some 9, .load true 7 (.t 2), none⟩,
   ⟨some 5, .alloc [(.v (.int .i64 0)), (.v (.int .i64 0)), (.v (.int .i64 0)), (.v (.int .i64 0)), (.v (.int .i64 0)), (.v (.int .i64 0)), (.sl [] .zero)], none⟩,
   ⟨none, .store 7 (.t 5) (.t 9), none⟩])
 (.seq (.seq (.region [
   ⟨some 10, .fld 8 (.t 3), none⟩,
   ⟨some 11, .load false 1 (.t 10), none⟩])
 (.cond (.t 11)
  (.region [
    ⟨some 12, .load true 7 (.t 2), none⟩,
    ⟨some 13, .fld 6 (.t 3), none⟩,
    ⟨some 14, .load false 1 (.t 13), none⟩,
    ⟨some 15, .fld 7 (.t 3), none⟩,
    ⟨some 16, .load false 1 (.t 15), none⟩,
    ⟨some 17, .call (.c (.f (.func F_laderef6_compact) [] [])) [(.t 12), (.t 14), (.t 16)], none⟩,
    ⟨none, .store 7 (.t 5) (.t 17), none⟩])
  (.skip)))
 (.seq (.seq (.region [
   ⟨some 18, .fld 9 (.t 3), none⟩,
   ⟨some 19, .load false 1 (.t 18), none⟩])
 (.cond (.t 19)
  (.region [
    ⟨some 20, .fld 3 (.t 3), none⟩,
    ⟨some 21, .load true 3 (.t 20), none⟩,
    ⟨some 22, .fld 3 (.t 5), none⟩,
    ⟨none, .store 3 (.t 22) (.t 21), none⟩])
  (.skip)))
 (.seq (.seq (.region [
   ⟨some 6, .mov (.c (.v (.int .i64 0))), none⟩])
 (.block 0 (.loop (.seq (.seq (.region [
     ⟨some 23, .mov (.t 6), none⟩,
     ⟨some 24, .fld 2 (.t 3), none⟩,
     ⟨some 25, .load false 1 (.t 24), none⟩,
     ⟨some 26, .len .sl (.t 25), none⟩,
     ⟨some 27, .bin .lss (.t 23) (.t 26), none⟩])
   (.cond (.t 27)
    (.skip)
    (.exit 0)))
   (.seq (.block 1 (.seq (.region [
      ⟨some 30, .fld 2 (.t 3), none⟩,
      ⟨some 31, .load false 1 (.t 30), none⟩,
      ⟨some 32, .mov (.t 6), none⟩,
      ⟨some 33, .idxp 3 (.t 31) (.t 32), none⟩,
      ⟨some 34, .load true 3 (.t 33), none⟩,
      ⟨some 7, .alloc [(.v (.int .i64 0)), (.v (.int .i64 0)), (.v (.string ⟨#[]⟩))], none⟩,
      ⟨none, .store 3 (.t 7) (.t 34), none⟩])
    (.seq (.seq (.region [
      ⟨some 35, .fld 0 (.t 7), none⟩,
      ⟨some 36, .load false 1 (.t 35), none⟩,
      ⟨some 37, .fld 1 (.t 5), none⟩,
      ⟨some 38, .load false 1 (.t 37), none⟩,
      ⟨some 39, .bin .lss (.t 36) (.t 38), none⟩,
      ⟨some 40, .mov (.t 39), none⟩,
      ⟨some 41, .load true 7 (.t 5), some (40, false)⟩,
      ⟨some 42, .fld 0 (.t 7), some (40, false)⟩,
      ⟨some 43, .load false 1 (.t 42), some (40, false)⟩,
      ⟨some 44, .call (.c (.f (.func F_laderef6_At) [] [])) [(.t 41), (.t 43)], some (40, false)⟩,
      ⟨some 45, .bin .geq (.t 44) (.c (.v (.int .i64 0))), some (40, false)⟩,
      ⟨some 46, .pick (.t 40) (.c (.v (.bool true))) (.t 45), none⟩])
    (.cond (.t 46)
     (.exit 1)
     (.skip)))
    (.seq (.draw (
      ⟨⟨some 47, .fld 6 (.t 5), none⟩, false, false, []⟩ ::
      ⟨⟨some 48, .load false 1 (.t 47), none⟩, false, false, []⟩ ::
      ⟨⟨some 49, .fld 0 (.t 7), none⟩, false, false, []⟩ ::
      ⟨⟨some 50, .load false 1 (.t 49), none⟩, false, false, []⟩ ::
      ⟨⟨some 52, .load true 3 (.t 7), none⟩, false, true, []⟩ ::
      ⟨⟨some 53, .bsl 3 [(.t 52)], none⟩, false, true, []⟩ ::
      ⟨⟨some 51, .call (.c (.f (.func F_laderef6_below) [] [])) [(.t 48), (.t 50)], none⟩, true, false, [⟨some 52, .load true 3 (.t 7), none⟩]⟩ ::
      ⟨⟨some 54, .append 3 32 (.t 51) (.t 53), none⟩, true, false, []⟩ ::
      ⟨⟨some 8, .mov (.t 54), none⟩, false, false, []⟩ ::
      []))
    (.region [
      ⟨some 55, .mov (.t 8), none⟩,
      ⟨some 56, .fld 6 (.t 5), none⟩,
      ⟨some 57, .load false 1 (.t 56), none⟩,
      ⟨some 58, .fld 0 (.t 7), none⟩,
      ⟨some 59, .load false 1 (.t 58), none⟩,
      ⟨some 60, .call (.c (.f (.func F_laderef6_from) [] [])) [(.t 57), (.t 59)], none⟩,
      ⟨some 61, .append 3 32 (.t 55) (.t 60), none⟩,
      ⟨some 62, .fld 6 (.t 5), none⟩,
      ⟨none, .store 1 (.t 62) (.t 61), none⟩])))))
   (.region [
     ⟨some 28, .mov (.t 6), none⟩,
     ⟨some 29, .bin .add (.t 28) (.c (.v (.int .i64 1))), none⟩,
     ⟨some 6, .mov (.t 29), none⟩]))))))
 (.seq (.region [
   ⟨some 63, .load true 7 (.t 5), none⟩,
   ⟨none, .store 7 (.t 4) (.t 63), none⟩])
 (.ret)))))))
theorem h_laderef6_fill : (prog.funcs[F_laderef6_fill]?).bind (compFn prog) = some A_laderef6_fill := by kernel_rfl
def A_laderef13_less : AFn := .mk 24 [.tmp 4] (
 .seq (.region [
   ⟨some 2, .box (.t 0), none⟩,
   ⟨some 3, .box (.t 1), none⟩,
   ⟨some 4, .mov (.c (.v (.bool false))), none⟩])
 (.seq (.region [
   ⟨some 5, .fld 0 (.t 2), none⟩,
   ⟨some 6, .load false 1 (.t 5), none⟩,
   ⟨some 7, .fld 0 (.t 3), none⟩,
   ⟨some 8, .load false 1 (.t 7), none⟩,
   ⟨some 9, .bin .lss (.t 6) (.t 8), none⟩,
   ⟨some 10, .mov (.t 9), none⟩,
   ⟨some 11, .fld 0 (.t 2), some (10, false)⟩,
   ⟨some 12, .load false 1 (.t 11), some (10, false)⟩,
   ⟨some 13, .fld 0 (.t 3), some (10, false)⟩,
   ⟨some 14, .load false 1 (.t 13), some (10, false)⟩,
   ⟨some 15, .bin .eql (.t 12) (.t 14), some (10, false)⟩,
   ⟨some 16, .mov (.t 15), some (10, false)⟩,
   ⟨some 17, .fld 1 (.t 2), some (16, true)⟩,
   ⟨some 18, .load false 1 (.t 17), some (16, true)⟩,
   ⟨some 19, .fld 1 (.t 3), some (16, true)⟩,
   ⟨some 20, .load false 1 (.t 19), some (16, true)⟩,
   ⟨some 21, .bin .lss (.t 18) (.t 20), some (16, true)⟩,
   ⟨some 22, .pick (.t 16) (.t 21) (.c (.v (.bool false))), some (10, false)⟩,
   ⟨some 23, .pick (.t 10) (.c (.v (.bool true))) (.t 22), none⟩,
   ⟨some 4, .mov (.t 23), none⟩])
 (.ret)))
theorem h_laderef13_less : (prog.funcs[F_laderef13_less]?).bind (compFn prog) = some A_laderef13_less := by kernel_rfl
def A_slices_Values_int_1 : AFn := .mk 16 [] (
 .seq (.region [
   ⟨some 5, .load false 1 (.t 1), none⟩,
   ⟨some 6, .len .sl (.t 5), none⟩,
   ⟨some 7, .mov (.c (.v (.int .i64 0))), none⟩])
 (.block 0 (.loop (.seq (.region [
     ⟨some 8, .bin .lss (.t 7) (.t 6), none⟩])
   (.seq (.cond (.t 8)
    (.skip)
    (.exit 0))
   (.seq (.block 1 (.seq (.region [
      ⟨some 9, .idxp 1 (.t 5) (.t 7), none⟩,
      ⟨some 10, .load false 1 (.t 9), none⟩,
      ⟨some 4, .mov (.t 10), none⟩])
    (.seq (.region [
      ⟨some 11, .mov (.t 0), none⟩,
      ⟨some 12, .mov (.t 4), none⟩,
      ⟨some 13, .call (.t 11) [(.t 12)], none⟩,
      ⟨some 14, .un .not (.t 13), none⟩])
    (.cond (.t 14)
     (.ret)
     (.skip)))))
   (.region [
     ⟨some 15, .bin .add (.t 7) (.c (.v (.int .i64 1))), none⟩,
     ⟨some 7, .mov (.t 15), none⟩])))))))
theorem h_slices_Values_int_1 : (prog.funcs[F_slices_Values_int_1]?).bind (compFn prog) = some A_slices_Values_int_1 := by kernel_rfl
def A_group_Head : AFn := .mk 36 [.tmp 2] (
 .seq (.region [
   ⟨some 1, .box (.t 0), none⟩,
   ⟨some 2, .mov (.c (.v (.bool false))), none⟩])
 (.seq (.region [
   ⟨some 3, .fld 0 (.t 1), none⟩,
   ⟨some 4, .load false 1 (.t 3), none⟩,
   ⟨some 5, .bin .geq (.t 4) (.c (.v (.int .i64 0))), none⟩,
   ⟨some 6, .mov (.t 5), none⟩,
   ⟨some 7, .fld 0 (.t 1), some (6, true)⟩,
   ⟨some 8, .load false 1 (.t 7), some (6, true)⟩,
   ⟨some 9, .bin .leq (.t 8) (.c (.v (.int .i64 999))), some (6, true)⟩,
   ⟨some 10, .pick (.t 6) (.t 9) (.c (.v (.bool false))), none⟩,
   ⟨some 11, .mov (.t 10), none⟩,
   ⟨some 12, .fld 1 (.t 1), some (11, true)⟩,
   ⟨some 13, .load false 1 (.t 12), some (11, true)⟩,
   ⟨some 14, .bin .geq (.t 13) (.c (.v (.int .i64 1))), some (11, true)⟩,
   ⟨some 15, .pick (.t 11) (.t 14) (.c (.v (.bool false))), none⟩,
   ⟨some 16, .mov (.t 15), none⟩,
   ⟨some 17, .fld 1 (.t 1), some (16, true)⟩,
   ⟨some 18, .load false 1 (.t 17), some (16, true)⟩,
   ⟨some 19, .bin .leq (.t 18) (.c (.v (.int .i64 1099511627777))), some (16, true)⟩,
   ⟨some 20, .pick (.t 16) (.t 19) (.c (.v (.bool false))), none⟩,
   ⟨some 21, .mov (.t 20), none⟩,
   ⟨some 22, .fld 2 (.t 1), some (21, true)⟩,
   ⟨some 23, .load false 1 (.t 22), some (21, true)⟩,
   ⟨some 24, .bin .geq (.t 23) (.c (.v (.int .i64 0))), some (21, true)⟩,
   ⟨some 25, .pick (.t 21) (.t 24) (.c (.v (.bool false))), none⟩,
   ⟨some 26, .mov (.t 25), none⟩,
   ⟨some 27, .fld 2 (.t 1), some (26, true)⟩,
   ⟨some 28, .load false 1 (.t 27), some (26, true)⟩,
   ⟨some 29, .bin .leq (.t 28) (.c (.v (.int .i64 1099511627776))), some (26, true)⟩,
   ⟨some 30, .pick (.t 26) (.t 29) (.c (.v (.bool false))), none⟩,
   ⟨some 31, .mov (.t 30), none⟩,
   ⟨some 32, .fld 3 (.t 1), some (31, true)⟩,
   ⟨some 33, .load true 3 (.t 32), some (31, true)⟩,
   ⟨some 34, .call (.c (.f (.func F_part_IsHard) [] [])) [(.t 33)], some (31, true)⟩,
   ⟨some 35, .pick (.t 31) (.t 34) (.c (.v (.bool false))), none⟩,
   ⟨some 2, .mov (.t 35), none⟩])
 (.ret)))
theorem h_group_Head : (prog.funcs[F_group_Head]?).bind (compFn prog) = some A_group_Head := by kernel_rfl
def A_laderef4_IsEntry : AFn := .mk 17 [.tmp 2] (
 .seq (.region [
   ⟨some 1, .box (.t 0), none⟩,
   ⟨some 2, .mov (.c (.v (.bool false))), none⟩])
 (.seq (.region [
   ⟨some 3, .fld 0 (.t 1), none⟩,
   ⟨some 4, .load false 1 (.t 3), none⟩,
   ⟨some 5, .call (.c (.f (.func F_laderef4_within) [] [])) [(.t 4), (.c (.v (.int .i64 1))), (.c (.v (.int .i64 1099511627776)))], none⟩,
   ⟨some 6, .mov (.t 5), none⟩,
   ⟨some 7, .fld 1 (.t 1), some (6, true)⟩,
   ⟨some 8, .load false 1 (.t 7), some (6, true)⟩,
   ⟨some 9, .call (.c (.f (.func F_laderef4_within) [] [])) [(.t 8), (.c (.v (.int .i64 1))), (.c (.v (.int .i64 1099511627776)))], some (6, true)⟩,
   ⟨some 10, .pick (.t 6) (.t 9) (.c (.v (.bool false))), none⟩,
   ⟨some 11, .mov (.t 10), none⟩,
   ⟨some 12, .fld 2 (.t 1), some (11, true)⟩,
   ⟨some 13, .load false 1 (.t 12), some (11, true)⟩,
   ⟨some 14, .len .str (.t 13), some (11, true)⟩,
   ⟨some 15, .bin .leq (.t 14) (.c (.v (.int .i64 40))), some (11, true)⟩,
   ⟨some 16, .pick (.t 11) (.t 15) (.c (.v (.bool false))), none⟩,
   ⟨some 2, .mov (.t 16), none⟩])
 (.ret)))
theorem h_laderef4_IsEntry : (prog.funcs[F_laderef4_IsEntry]?).bind (compFn prog) = some A_laderef4_IsEntry := by kernel_rfl
def A_slices_Collect_Entry : AFn := .mk 5 [.tmp 2] (
 .seq (.region [
   ⟨some 2, .mov (.c (.sl [] .zero)), none⟩])
 (.seq (.region [
   ⟨some 3, .mov (.t 0), none⟩,
   ⟨some 4, .call (.c (.f (.func F_slices_AppendSeq_Entry) [] [])) [(.c (.sl [] .zero)), (.t 3)], none⟩,
   ⟨some 2, .mov (.t 4), none⟩])
 (.ret)))
theorem h_slices_Collect_Entry : (prog.funcs[F_slices_Collect_Entry]?).bind (compFn prog) = some A_slices_Collect_Entry := by kernel_rfl
def A_group_Within : AFn := .mk 8 [.tmp 6] (
 .seq (.region [
   ⟨some 3, .box (.t 0), none⟩,
   ⟨some 4, .box (.t 1), none⟩,
   ⟨some 5, .box (.t 2), none⟩,
   ⟨some 6, .mov (.c (.v .nilFunc)), none⟩])
 (.seq (.region [
   ⟨some 7, .mkf (.func F_group_Within_1) [] [(.t 3), (.t 4), (.t 5)], none⟩,
   ⟨some 6, .mov (.t 7), none⟩])
 (.ret)))
theorem h_group_Within : (prog.funcs[F_group_Within]?).bind (compFn prog) = some A_group_Within := by kernel_rfl
def A_sparse_term : AFn := .mk 14 [.cell false 1 4] (
 .seq (.region [
   ⟨some 2, .box (.t 0), none⟩,
   ⟨some 4, .alloc [(.v (.int .i64 0))], none⟩])
 (.seq (.seq (.region [
   ⟨some 6, .load true 7 (.t 2), none⟩,
   ⟨some 7, .mov (.t 1), none⟩,
   ⟨some 8, .mov (.t 1), none⟩,
   ⟨some 9, .bin .add (.t 8) (.c (.v (.int .i64 1))), none⟩,
   ⟨some 10, .call (.c (.f (.func F_group_Within) [] [])) [(.t 6), (.t 7), (.t 9)], none⟩])
 (.block 0 (.range (.t 10) [11]
   (.region [
     ⟨some 5, .alloc [(.v (.int .i64 0)), (.v (.int .i64 0)), (.v (.string ⟨#[]⟩))], none⟩,
     ⟨none, .store 3 (.t 5) (.t 11), none⟩])
   (.block 1 (.seq (.region [
      ⟨some 12, .fld 1 (.t 5), none⟩,
      ⟨some 13, .load false 1 (.t 12), none⟩,
      ⟨none, .store 1 (.t 4) (.t 13), none⟩])
    (.ret))))))
 (.seq (.region [
   ⟨none, .store 1 (.t 4) (.c (.v (.int .i64 0))), none⟩])
 (.ret))))
theorem h_sparse_term : (prog.funcs[F_sparse_term]?).bind (compFn prog) = some A_sparse_term := by kernel_rfl
def A_sparse_there : AFn := .mk 9 [.tmp 4] (
 .seq (.region [
   ⟨some 2, .box (.t 0), none⟩,
   ⟨some 3, .box (.t 1), none⟩,
   ⟨some 4, .mov (.c (.v (.bool false))), none⟩])
 (.seq (.region [
   ⟨some 5, .fld 6 (.t 2), none⟩,
   ⟨some 6, .load false 1 (.t 5), none⟩,
   ⟨some 7, .mkf (.func F_sparse_there_1) [] [(.t 3)], none⟩,
   ⟨some 8, .call (.c (.f (.func F_slices_ContainsFunc_Entry) [] [])) [(.t 6), (.t 7)], none⟩,
   ⟨some 4, .mov (.t 8), none⟩])
 (.ret)))
theorem h_sparse_there : (prog.funcs[F_sparse_there]?).bind (compFn prog) = some A_sparse_there := by kernel_rfl
def A_slices_Index_Entry : AFn := .mk 19 [.tmp 4] (
 .seq (.region [
   ⟨some 3, .box (.t 1), none⟩,
   ⟨some 4, .mov (.c (.v (.int .i64 0))), none⟩])
 (.seq (.seq (.region [
   ⟨some 6, .mov (.t 0), none⟩,
   ⟨some 7, .len .sl (.t 6), none⟩,
   ⟨some 8, .mov (.c (.v (.int .i64 0))), none⟩])
 (.block 0 (.loop (.seq (.region [
     ⟨some 9, .bin .lss (.t 8) (.t 7), none⟩])
   (.seq (.cond (.t 9)
    (.skip)
    (.exit 0))
   (.seq (.block 1 (.seq (.region [
      ⟨some 10, .mov (.t 8), none⟩,
      ⟨some 5, .mov (.t 10), none⟩])
    (.seq (.region [
      ⟨some 11, .load true 3 (.t 3), none⟩,
      ⟨some 12, .mov (.t 0), none⟩,
      ⟨some 13, .mov (.t 5), none⟩,
      ⟨some 14, .idxp 3 (.t 12) (.t 13), none⟩,
      ⟨some 15, .load true 3 (.t 14), none⟩,
      ⟨some 16, .eqa false (.agg [.i, .i, .s]) (.t 11) (.t 15), none⟩])
    (.cond (.t 16)
     (.seq (.region [
       ⟨some 17, .mov (.t 5), none⟩,
       ⟨some 4, .mov (.t 17), none⟩])
     (.ret))
     (.skip)))))
   (.region [
     ⟨some 18, .bin .add (.t 8) (.c (.v (.int .i64 1))), none⟩,
     ⟨some 8, .mov (.t 18), none⟩])))))))
 (.seq (.region [
   ⟨some 4, .mov (.c (.v (.int .i64 (-1)))), none⟩])
 (.ret))))
theorem h_slices_Index_Entry : (prog.funcs[F_slices_Index_Entry]?).bind (compFn prog) = some A_slices_Index_Entry := by kernel_rfl
def A_slices_AppendSeq_Entry : AFn := .mk 13 [.tmp 4] (
 .seq (.region [
   ⟨some 2, .box (.t 0), none⟩,
   ⟨some 4, .mov (.c (.sl [] .zero)), none⟩])
 (.seq (.seq (.region [
   ⟨some 6, .mov (.t 1), none⟩])
 (.block 0 (.range (.t 6) [7]
   (.region [
     ⟨some 5, .alloc [(.v (.int .i64 0)), (.v (.int .i64 0)), (.v (.string ⟨#[]⟩))], none⟩,
     ⟨none, .store 3 (.t 5) (.t 7), none⟩])
   (.block 1 (.region [
      ⟨some 8, .load false 1 (.t 2), none⟩,
      ⟨some 9, .load true 3 (.t 5), none⟩,
      ⟨some 10, .bsl 3 [(.t 9)], none⟩,
      ⟨some 11, .append 3 32 (.t 8) (.t 10), none⟩,
      ⟨none, .store 1 (.t 2) (.t 11), none⟩])))))
 (.seq (.region [
   ⟨some 12, .load false 1 (.t 2), none⟩,
   ⟨some 4, .mov (.t 12), none⟩])
 (.ret))))
theorem h_slices_AppendSeq_Entry : (prog.funcs[F_slices_AppendSeq_Entry]?).bind (compFn prog) = some A_slices_AppendSeq_Entry := by kernel_rfl
def A_group_Within_1 : AFn := .mk 31 [] (
 .seq (.region [
   ⟨some 7, .fld 6 (.t 1), none⟩,
   ⟨some 8, .load false 1 (.t 7), none⟩,
   ⟨some 9, .len .sl (.t 8), none⟩,
   ⟨some 10, .mov (.c (.v (.int .i64 0))), none⟩])
 (.block 0 (.loop (.seq (.region [
     ⟨some 11, .bin .lss (.t 10) (.t 9), none⟩])
   (.seq (.cond (.t 11)
    (.skip)
    (.exit 0))
   (.seq (.block 1 (.seq (.region [
      ⟨some 12, .idxp 3 (.t 8) (.t 10), none⟩,
      ⟨some 13, .load true 3 (.t 12), none⟩,
      ⟨some 6, .alloc [(.v (.int .i64 0)), (.v (.int .i64 0)), (.v (.string ⟨#[]⟩))], none⟩,
      ⟨none, .store 3 (.t 6) (.t 13), none⟩])
    (.seq (.region [
      ⟨some 14, .fld 0 (.t 6), none⟩,
      ⟨some 15, .load false 1 (.t 14), none⟩,
      ⟨some 16, .load false 1 (.t 2), none⟩,
      ⟨some 17, .bin .geq (.t 15) (.t 16), none⟩,
      ⟨some 18, .mov (.t 17), none⟩,
      ⟨some 19, .fld 0 (.t 6), some (18, true)⟩,
      ⟨some 20, .load false 1 (.t 19), some (18, true)⟩,
      ⟨some 21, .load false 1 (.t 3), some (18, true)⟩,
      ⟨some 22, .bin .lss (.t 20) (.t 21), some (18, true)⟩,
      ⟨some 23, .pick (.t 18) (.t 22) (.c (.v (.bool false))), none⟩,
      ⟨some 24, .mov (.t 23), none⟩,
      ⟨some 25, .mov (.t 0), some (24, true)⟩,
      ⟨some 26, .load true 3 (.t 6), some (24, true)⟩,
      ⟨some 27, .call (.t 25) [(.t 26)], some (24, true)⟩,
      ⟨some 28, .un .not (.t 27), some (24, true)⟩,
      ⟨some 29, .pick (.t 24) (.t 28) (.c (.v (.bool false))), none⟩])
    (.cond (.t 29)
     (.ret)
     (.skip)))))
   (.region [
     ⟨some 30, .bin .add (.t 10) (.c (.v (.int .i64 1))), none⟩,
     ⟨some 10, .mov (.t 30), none⟩])))))))
theorem h_group_Within_1 : (prog.funcs[F_group_Within_1]?).bind (compFn prog) = some A_group_Within_1 := by kernel_rfl
def A_slices_ContainsFunc_Entry : AFn := .mk 9 [.tmp 4] (
 .seq (.region [
   ⟨some 4, .mov (.c (.v (.bool false))), none⟩])
 (.seq (.region [
   ⟨some 5, .mov (.t 0), none⟩,
   ⟨some 6, .mov (.t 1), none⟩,
   ⟨some 7, .call (.c (.f (.func F_slices_IndexFunc_Entry) [] [])) [(.t 5), (.t 6)], none⟩,
   ⟨some 8, .bin .geq (.t 7) (.c (.v (.int .i64 0))), none⟩,
   ⟨some 4, .mov (.t 8), none⟩])
 (.ret)))
theorem h_slices_ContainsFunc_Entry : (prog.funcs[F_slices_ContainsFunc_Entry]?).bind (compFn prog) = some A_slices_ContainsFunc_Entry := by kernel_rfl
def A_sparse_there_1 : AFn := .mk 8 [.tmp 3] (
 .seq (.region [
   ⟨some 2, .box (.t 0), none⟩,
   ⟨some 3, .mov (.c (.v (.bool false))), none⟩])
 (.seq (.region [
   ⟨some 4, .fld 0 (.t 2), none⟩,
   ⟨some 5, .load false 1 (.t 4), none⟩,
   ⟨some 6, .load false 1 (.t 1), none⟩,
   ⟨some 7, .bin .eql (.t 5) (.t 6), none⟩,
   ⟨some 3, .mov (.t 7), none⟩])
 (.ret)))
theorem h_sparse_there_1 : (prog.funcs[F_sparse_there_1]?).bind (compFn prog) = some A_sparse_there_1 := by kernel_rfl
def A_slices_IndexFunc_Entry : AFn := .mk 19 [.tmp 4] (
 .seq (.region [
   ⟨some 4, .mov (.c (.v (.int .i64 0))), none⟩])
 (.seq (.seq (.region [
   ⟨some 6, .mov (.t 0), none⟩,
   ⟨some 7, .len .sl (.t 6), none⟩,
   ⟨some 8, .mov (.c (.v (.int .i64 0))), none⟩])
 (.block 0 (.loop (.seq (.region [
     ⟨some 9, .bin .lss (.t 8) (.t 7), none⟩])
   (.seq (.cond (.t 9)
    (.skip)
    (.exit 0))
   (.seq (.block 1 (.seq (.region [
      ⟨some 10, .mov (.t 8), none⟩,
      ⟨some 5, .mov (.t 10), none⟩])
    (.seq (.region [
      ⟨some 11, .mov (.t 1), none⟩,
      ⟨some 12, .mov (.t 0), none⟩,
      ⟨some 13, .mov (.t 5), none⟩,
      ⟨some 14, .idxp 3 (.t 12) (.t 13), none⟩,
      ⟨some 15, .load true 3 (.t 14), none⟩,
      ⟨some 16, .call (.t 11) [(.t 15)], none⟩])
    (.cond (.t 16)
     (.seq (.region [
       ⟨some 17, .mov (.t 5), none⟩,
       ⟨some 4, .mov (.t 17), none⟩])
     (.ret))
     (.skip)))))
   (.region [
     ⟨some 18, .bin .add (.t 8) (.c (.v (.int .i64 1))), none⟩,
     ⟨some 8, .mov (.t 18), none⟩])))))))
 (.seq (.region [
   ⟨some 4, .mov (.c (.v (.int .i64 (-1)))), none⟩])
 (.ret))))
theorem h_slices_IndexFunc_Entry : (prog.funcs[F_slices_IndexFunc_Entry]?).bind (compFn prog) = some A_slices_IndexFunc_Entry := by kernel_rfl
end Go.Proofs.YtmpoeamfcienoaaGreat
end
section
namespace Go.Ab
set_option linter.unusedVariables false
abbrev MI : Int := 1099511627776
def btw (n lo hi : Int) : Bool := decide (lo ≤ n) && decide (n ≤ hi)
def okEnt (e : Ent) : Bool := btw e.ix 1 MI && btw e.tm 1 MI && decide ((e.da.size : Int) ≤ 40)
def okHrd (t v c : Int) : Bool := btw t 0 MI && btw v 0 1000 && btw c 0 MI
def okMrk (ix tm least : Int) : Bool := btw ix 1 MI && btw tm least MI
def riseAt (l : List Ent) (dense : Bool) (j : Nat) : Bool :=
  okEnt (l.getD j default) && !(decide (0 < j) && (decide ((l.getD j default).ix ≤ (l.getD (j - 1) default).ix) || dense && !decide ((l.getD j default).ix = (l.getD (j - 1) default).ix + 1)))
def rising (l : List Ent) (dense : Bool) : Bool := ((List.range l.length).all (riseAt l dense)) && decide ((l.length : Int) ≤ 6)
def core (p : Prt) : Prt :=
  let o : Prt := { gr := p.gr, kd := p.kd, es := [], ht := 0, hv := 0, hc := 0, ix := 0, tm := 0, mr := false, he := false }
  if p.kd = 1 then { o with es := p.es }
  else if p.kd = 2 then { o with ht := p.ht, hv := p.hv, hc := p.hc }
  else if p.kd = 3 ∨ p.kd = 4 then { o with ix := p.ix, tm := p.tm }
  else if p.kd = 6 then { o with es := p.es, mr := p.mr, he := p.he, ix := if p.mr then p.ix else 0, tm := if p.mr then p.tm else 0, ht := if p.he then p.ht else 0, hv := if p.he then p.hv else 0, hc := if p.he then p.hc else 0 }
  else o
def isPart (p : Prt) : Bool :=
  btw p.gr 0 999 && decide (p = core p) &&
  (if p.kd = 1 then !p.es.isEmpty && rising p.es true
   else if p.kd = 2 then okHrd p.ht p.hv p.hc
   else if p.kd = 3 then okMrk p.ix p.tm 0
   else if p.kd = 4 then okMrk p.ix p.tm 1
   else if p.kd = 6 then (p.mr || p.he || !p.es.isEmpty) && rising p.es false && (!p.mr || okMrk p.ix p.tm 1) && okHrd p.ht p.hv p.hc
   else decide (p.kd = 5))
end Go.Ab
end
section
namespace Go.Ab
set_option linter.unusedVariables false
theorem MI_eq : MI = 1099511627776 := rfl
def inR (lo hi : Int) (e : Ent) : Bool := decide (lo ≤ e.ix) && decide (e.ix < hi)
def okHead (g : Grp) : Bool := btw g.id 0 999 && btw g.fi 1 (MI + 1) && btw g.tm 0 MI && okHrd g.ht g.hv g.hc
structure Spar (g : Grp) : Prop where
  hd : okHead g = true
  ok : ∀ e ∈ g.es, okEnt e = true
  fi : ∀ e ∈ g.es, g.fi ≤ e.ix
  srt : g.es.Pairwise fun a b => a.ix < b.ix
def termOf (l : List Ent) (i : Int) : Int := match l.filter (inR i (i + 1)) with | [] => 0 | e :: _ => e.tm
def hasIx (l : List Ent) (i : Int) : Bool := l.any fun e => decide (e.ix = i)
def goneS (g : Grp) (i t : Int) : Grp :=
  if i < g.fi then g else { g with es := g.es.filter (inR (i + 1) (MI + 1)), fi := i + 1, tm := if t = 0 then termOf g.es i else t }
def putS (g : Grp) (e : Ent) : Grp :=
  if e.ix < g.fi ∨ hasIx g.es e.ix = true then g else { g with es := g.es.filter (inR g.fi e.ix) ++ e :: g.es.filter (inR e.ix (MI + 1)) }
def fwdS (g : Grp) (p : Prt) : Grp :=
  let g1 := if p.mr then goneS g p.ix p.tm else g
  let g2 : Grp := if p.he then { g1 with ht := p.ht, hv := p.hv, hc := p.hc } else g1
  p.es.foldl putS g2
def doS (g : Grp) (p : Prt) : Grp :=
  if isPart p = true ∧ p.gr = g.id then
    if p.kd = 1 then { g with es := g.es.filter (inR g.fi ((p.es.getD 0 default).ix)) ++ p.es.filter (inR g.fi (MI + 1)) }
    else if p.kd = 2 then { g with ht := p.ht, hv := p.hv, hc := p.hc }
    else if p.kd = 3 then goneS g p.ix p.tm
    else if p.kd = 4 then goneS (if g.fi ≤ p.ix then { g with es := [] } else g) p.ix p.tm
    else if p.kd = 6 then fwdS g p
    else g
  else g
theorem okEnt_iff {e : Ent} : okEnt e = true ↔ (1 ≤ e.ix ∧ e.ix ≤ MI) ∧ (1 ≤ e.tm ∧ e.tm ≤ MI) ∧ (e.da.size : Int) ≤ 40 := by
  simp [okEnt, btw, and_assoc]
theorem okHead_iff {g : Grp} : okHead g = true ↔ (0 ≤ g.id ∧ g.id ≤ 999) ∧ (1 ≤ g.fi ∧ g.fi ≤ MI + 1) ∧ (0 ≤ g.tm ∧ g.tm ≤ MI) ∧ okHrd g.ht g.hv g.hc = true := by
  simp [okHead, btw, and_assoc]
theorem srt_len {l : List Ent} (h : l.Pairwise fun a b => a.ix < b.ix) : ∀ {lo : Int}, (∀ e ∈ l, lo ≤ e.ix ∧ e.ix ≤ MI) → 0 ≤ lo → (l.length : Int) ≤ MI - lo + 1 ∨ l = [] := by
  induction l with
  | nil => intro lo _ _; right; rfl
  | cons a l ih =>
    intro lo hb h0
    left
    have ha := hb a (List.mem_cons_self ..)
    obtain ⟨h1, h2⟩ := List.pairwise_cons.1 h
    rcases ih h2 (lo := lo + 1) (fun e he => ⟨by have := h1 e he; omega, (hb e (List.mem_cons_of_mem _ he)).2⟩) (by omega) with h3 | h3
    · simp only [List.length_cons]; omega
    · subst h3; simp only [List.length_cons, List.length_nil]; omega
theorem Spar.len {g : Grp} (h : Spar g) : (g.es.length : Int) ≤ MI := by
  rcases srt_len h.srt (lo := 1) (fun e he => (okEnt_iff.1 (h.ok e he)).1) (by omega) with h1 | h1
  · omega
  · rw [h1]; decide
theorem Spar.goneS {g : Grp} (h : Spar g) {i t : Int} (hi : i ≤ MI) (ht : 0 ≤ t ∧ t ≤ MI) : Spar (goneS g i t) := by
  unfold Ab.goneS
  split
  · exact h
  · have h0 := okHead_iff.1 h.hd
    refine ⟨?_, fun e he => h.ok e (List.mem_filter.1 he).1, fun e he => ?_, h.srt.filter _⟩
    · rw [okHead_iff]
      refine ⟨h0.1, ⟨by show 1 ≤ i + 1; omega, by show i + 1 ≤ MI + 1; omega⟩, ?_, h0.2.2.2⟩
      show 0 ≤ (if t = 0 then termOf g.es i else t) ∧ (if t = 0 then termOf g.es i else t) ≤ MI
      split
      · unfold termOf
        split
        · exact ⟨Int.le_refl _, by decide⟩
        · next e l he =>
          have : e ∈ g.es := (List.mem_filter.1 (by rw [he]; exact List.mem_cons_self ..)).1
          have := (okEnt_iff.1 (h.ok e this)).2.1
          omega
      · exact ht
    · have := (List.mem_filter.1 he).2
      simp [inR] at this
      exact this.1
theorem Spar.putS {g : Grp} (h : Spar g) {e : Ent} (he : okEnt e = true) : Spar (putS g e) := by
  unfold Ab.putS
  split
  · exact h
  · next hc =>
    have h0 := okEnt_iff.1 he
    have hc1 : g.fi ≤ e.ix := by omega
    have hc2 : ∀ x ∈ g.es, x.ix ≠ e.ix := fun x hx hxe => hc (.inr (by simp only [hasIx, List.any_eq_true]; exact ⟨x, hx, by simp [hxe]⟩))
    refine ⟨h.hd, fun x hx => ?_, fun x hx => ?_, ?_⟩
    · rcases List.mem_append.1 hx with hx | hx
      · exact h.ok x (List.mem_filter.1 hx).1
      · rcases List.mem_cons.1 hx with rfl | hx
        · exact he
        · exact h.ok x (List.mem_filter.1 hx).1
    · rcases List.mem_append.1 hx with hx | hx
      · exact h.fi x (List.mem_filter.1 hx).1
      · rcases List.mem_cons.1 hx with rfl | hx
        · exact hc1
        · exact h.fi x (List.mem_filter.1 hx).1
    · rw [List.pairwise_append, List.pairwise_cons]
      refine ⟨h.srt.filter _, ⟨fun x hx => ?_, h.srt.filter _⟩, fun x hx y hy => ?_⟩
      · have h1 := List.mem_filter.1 hx
        have := hc2 x h1.1
        have h2 : e.ix ≤ x.ix ∧ x.ix < MI + 1 := by simpa [inR] using h1.2
        omega
      · have h1 := (List.mem_filter.1 hx).2
        have h2 : g.fi ≤ x.ix ∧ x.ix < e.ix := by simpa [inR] using h1
        rcases List.mem_cons.1 hy with rfl | hy
        · exact h2.2
        · have h3 : e.ix ≤ y.ix ∧ y.ix < MI + 1 := by simpa [inR] using (List.mem_filter.1 hy).2
          omega
theorem Spar.puts {g : Grp} (h : Spar g) {l : List Ent} (hl : ∀ e ∈ l, okEnt e = true) : Spar (l.foldl Ab.putS g) := by
  induction l generalizing g with
  | nil => exact h
  | cons e l ih => exact ih (h.putS (hl e (List.mem_cons_self ..))) (fun x hx => hl x (List.mem_cons_of_mem _ hx))
theorem rising_ok {l : List Ent} {d : Bool} (h : rising l d = true) : (∀ e ∈ l, okEnt e = true) ∧ (l.Pairwise fun a b => a.ix < b.ix) ∧ (l.length : Int) ≤ 6 := by
  simp only [rising, Bool.and_eq_true, decide_eq_true_eq, List.all_eq_true, List.mem_range, riseAt] at h
  obtain ⟨h1, h2⟩ := h
  have g : ∀ j, j < l.length → l.getD j default = l[j]! := fun j hj => by simp [hj]
  refine ⟨fun e he => ?_, ?_, h2⟩
  · obtain ⟨j, hj, rfl⟩ := List.getElem_of_mem he
    have := (h1 j hj).1
    rwa [List.getD_eq_getElem?_getD, List.getElem?_eq_getElem hj] at this
  · have step : ∀ j (hj : j + 1 < l.length), l[j].ix < l[j + 1].ix := fun j hj => by
      have := (h1 (j + 1) hj).2
      rw [List.getD_eq_getElem?_getD, List.getD_eq_getElem?_getD, List.getElem?_eq_getElem hj, List.getElem?_eq_getElem (by omega)] at this
      simp at this
      exact this.1
    rw [List.pairwise_iff_getElem]
    intro i j hi hj hij
    obtain ⟨d, rfl⟩ : ∃ d, j = i + 1 + d := ⟨j - i - 1, by omega⟩
    clear hij
    induction d with
    | zero => exact step i hj
    | succ d ih => exact Int.lt_trans (ih (by omega)) (step (i + 1 + d) hj)
theorem okHrd_of {p : Prt} (h : isPart p = true) (hk : p.kd = 2 ∨ p.kd = 6) : okHrd p.ht p.hv p.hc = true := by
  simp only [isPart, Bool.and_eq_true] at h
  obtain ⟨_, h⟩ := h
  rcases hk with hk | hk
  · rw [hk] at h; simpa using h
  · rw [hk] at h; simp at h; exact h.2
theorem Spar.doS {g : Grp} (h : Spar g) (p : Prt) : Spar (doS g p) := by
  unfold Ab.doS
  have h0 := okHead_iff.1 h.hd
  split
  · next hc =>
    obtain ⟨hp, hg⟩ := hc
    have hp' := hp
    simp only [isPart, Bool.and_eq_true] at hp'
    obtain ⟨_, hk⟩ := hp'
    split
    · next h1 =>
      simp [h1] at hk
      obtain ⟨e1, e2, e3⟩ := rising_ok hk.2
      refine ⟨h.hd, fun e he => ?_, fun e he => ?_, ?_⟩
      · rcases List.mem_append.1 he with he | he
        · exact h.ok e (List.mem_filter.1 he).1
        · exact e1 e (List.mem_filter.1 he).1
      · rcases List.mem_append.1 he with he | he
        · exact h.fi e (List.mem_filter.1 he).1
        · have := (List.mem_filter.1 he).2; simp [inR] at this; exact this.1
      · rw [List.pairwise_append]
        refine ⟨h.srt.filter _, e2.filter _, fun x hx y hy => ?_⟩
        have h2 : g.fi ≤ x.ix ∧ x.ix < (p.es.getD 0 default).ix := by simpa [inR] using (List.mem_filter.1 hx).2
        have hy := (List.mem_filter.1 hy).1
        obtain ⟨j, hj, rfl⟩ := List.getElem_of_mem hy
        have h3 : p.es.getD 0 default = p.es[0] := by simp [show 0 < p.es.length by omega]
        rw [h3] at h2
        by_cases hj0 : j = 0
        · subst hj0; exact h2.2
        · have := List.pairwise_iff_getElem.1 e2 0 j (by omega) hj (by omega); omega
    split
    · next h1 h2 =>
      exact ⟨by rw [okHead_iff]; exact ⟨h0.1, h0.2.1, h0.2.2.1, okHrd_of hp (.inl h2)⟩, h.ok, h.fi, h.srt⟩
    split
    · next h1 h2 h3 =>
      simp [h3, okMrk, btw] at hk
      exact h.goneS (by omega) (by omega)
    split
    · next h1 h2 h3 h4 =>
      simp [h4, okMrk, btw] at hk
      refine Spar.goneS ?_ (by omega) (by omega)
      split
      · exact ⟨h.hd, by simp, by simp, by simp⟩
      · exact h
    split
    · next h1 h2 h3 h4 h5 =>
      have hh := okHrd_of hp (.inr h5)
      simp [h5] at hk
      obtain ⟨⟨⟨_, k1⟩, k2⟩, _⟩ := hk
      unfold fwdS
      refine Spar.puts ?_ (rising_ok k1).1
      have hg : Spar (if p.mr then Ab.goneS g p.ix p.tm else g) := by
        split
        · next hm =>
          rcases k2 with k2 | k2
          · simp [hm] at k2
          · simp [okMrk, btw] at k2
            exact h.goneS (by omega) (by omega)
        · exact h
      generalize (if p.mr then Ab.goneS g p.ix p.tm else g) = g1 at hg
      split
      · have h0 := okHead_iff.1 hg.hd
        exact ⟨by rw [okHead_iff]; exact ⟨h0.1, h0.2.1, h0.2.2.1, hh⟩, hg.ok, hg.fi, hg.srt⟩
      · exact hg
    · exact h
  · exact h
end Go.Ab
end
section
namespace Go.Ab
set_option linter.unusedVariables false
structure Mut (F F' : List Nat) (s s' : AState) : Prop where
  n : s.n ≤ s'.n
  keep : ∀ x, x < s.n → x ∉ F → s'.get x = s.get x
  own : ∀ x ∈ F', x ∈ F ∨ s.n ≤ x
theorem Mut.trans {F F1 F2 : List Nat} {s s1 s2 : AState} (h : Mut F F1 s s1) (k : Mut F1 F2 s1 s2) : Mut F F2 s s2 :=
  ⟨Nat.le_trans h.n k.n, fun x hx hn => (k.keep x (Nat.lt_of_lt_of_le hx h.n) fun hm => by
    rcases h.own x hm with h1 | h1
    · exact hn h1
    · omega).trans (h.keep x hx hn), fun x hx => by
    rcases k.own x hx with h1 | h1
    · exact h.own x h1
    · exact .inr (Nat.le_trans h.n h1)⟩
theorem Mut.grows {F : List Nat} {s s' : AState} (h : Grows s s') : Mut F F s s' := ⟨h.n, fun x hx _ => h.get hx, fun _ h => .inl h⟩
theorem Mut.new {F : List Nat} {s s' : AState} (h : Grows s s') (hF : ∀ x ∈ F, s.n ≤ x) : Mut [] F s s' := ⟨h.n, fun x hx _ => h.get hx, fun x h => .inr (hF x h)⟩
theorem Mut.more {F F' : List Nat} {s s' : AState} (h : Mut F F' s s') (G : List Nat) : Mut (F ++ G) (F' ++ G) s s' :=
  ⟨h.n, fun x hx hn => h.keep x hx (fun hm => hn (List.mem_append.2 (.inl hm))), fun x hx => by
    rcases List.mem_append.1 hx with h1 | h1
    · exact (h.own x h1).imp (fun h => List.mem_append.2 (.inl h)) id
    · exact .inl (List.mem_append.2 (.inr h1))⟩
theorem Mut.get {F F' G : List Nat} {s s' : AState} (h : Mut F F' s s') (hd : ∀ x ∈ G, x ∉ F) (hl : ∀ x ∈ G, x < s.n) : ∀ x ∈ G, s'.get x = s.get x := fun x hx => h.keep x (hl x hx) (hd x hx)
theorem Mut.apart {F F' G : List Nat} {s s' : AState} (h : Mut F F' s s') (hd : ∀ x ∈ G, x ∉ F) (hl : ∀ x ∈ G, x < s.n) : ∀ x ∈ G, x ∉ F' := fun x hx hm => by
  rcases h.own x hm with h1 | h1
  · exact hd x hx h1
  · have := hl x hx; omega
structure LogV where
  g : Grp
  sp : List (Int × Plc)
def logC (g : Grp) (tk : Tok) (mb : Nat) : List AV := [.v (.int .i64 g.id), .v (.int .i64 g.fi), .v (.int .i64 g.tm), .v (.int .i64 g.ht), .v (.int .i64 g.hv), .v (.int .i64 g.hc), .sl (g.es.map Ent.av) tk, .m mb]
def LogAt (s : AState) (lb : Nat) (v : LogV) (F : List Nat) : Prop :=
  ∃ (tk : Tok) (mb : Nat) (A : List (Int × Plc)), F = [lb, mb] ∧ s.get lb = .cells (logC v.g tk mb) ∧ s.get mb = .map (encM Plc.av A) ∧ Rep A v.sp
theorem LogAt.lt {s : AState} {lb : Nat} {v : LogV} {F : List Nat} (h : LogAt s lb v F) : ∀ x ∈ F, x < s.n := by
  obtain ⟨tk, mb, A, rfl, h1, h2, h3⟩ := h
  intro x hx
  simp only [List.mem_cons, List.not_mem_nil, or_false] at hx
  rcases hx with rfl | rfl
  · exact AState.lt_of_get h1 (by simp)
  · exact AState.lt_of_get h2 (by simp)
theorem LogAt.nodup {s : AState} {lb : Nat} {v : LogV} {F : List Nat} (h : LogAt s lb v F) : F.Nodup := by
  obtain ⟨tk, mb, A, rfl, h1, h2, h3⟩ := h
  simp only [List.nodup_cons, List.mem_singleton, List.not_mem_nil, not_false_eq_true, List.nodup_nil, and_true]
  rintro rfl
  rw [h1] at h2; cases h2
theorem LogAt.keep {s s' : AState} {lb : Nat} {v : LogV} {F : List Nat} (h : LogAt s lb v F) (k : ∀ x ∈ F, s'.get x = s.get x) : LogAt s' lb v F := by
  obtain ⟨tk, mb, A, rfl, h1, h2, h3⟩ := h
  exact ⟨tk, mb, A, rfl, (k _ (by simp)).trans h1, (k _ (by simp)).trans h2, h3⟩
def newG (id : Int) : Grp := ⟨id, 1, 0, 0, 0, 0, []⟩
theorem newG_spar {id : Int} (h : 0 ≤ id ∧ id ≤ 999) : Spar (newG id) := by
  refine ⟨?_, by simp [newG], by simp [newG], by simp [newG]⟩
  have hMI := MI_eq
  rw [okHead_iff]
  refine ⟨h, ⟨by show (1 : Int) ≤ 1; omega, by show (1 : Int) ≤ MI + 1; omega⟩, ⟨by show (0 : Int) ≤ 0; omega, by show (0 : Int) ≤ MI; omega⟩, ?_⟩
  show okHrd 0 0 0 = true
  decide
def broughtS (p : Prt) (e : Ent) : Bool := (decide (p.kd = 1) || decide (p.kd = 6)) && p.es.any fun x => decide (e = x)
def marksS (p : Prt) (old now : Grp) : Bool :=
  if p.kd = 3 ∨ p.kd = 4 then !decide (now.fi = old.fi) else if p.kd = 6 then p.mr && decide (p.ix = now.fi - 1) && decide (p.tm = now.tm) else false
def okDo (g : Grp) (p : Prt) : Bool := isPart p && decide (p.gr = g.id) && !decide (p.kd = 5)
section
variable (set : List (Int × Plc) → Int → Plc → List (Int × Plc)) (look : Int → Option Plc) (p : Prt) (at_ : Plc)
def nx0 (k : Int) (c : List (Int × Plc)) : List (Int × Plc) := match look k with | some x => set c k x | none => c
def nx1 (c : List (Int × Plc)) (e : Ent) : List (Int × Plc) := if broughtS p e = true then set (set c e.ix ((look e.ix).getD ⟨0, 0⟩)) e.ix at_ else set c e.ix ((look e.ix).getD ⟨0, 0⟩)
def nxI (es : List Ent) : List (Int × Plc) := es.foldl (nx1 set look p at_) (nx0 set look 0 (nx0 set look (-1) []))
def nxH (c : List (Int × Plc)) : List (Int × Plc) := if p.kd = 2 ∨ p.he = true then set c (-1) at_ else c
def nxM (old now : Grp) (c : List (Int × Plc)) : List (Int × Plc) := if marksS p old now = true then set c 0 at_ else c
def nextW (old now : Grp) : List (Int × Plc) := nxM set p at_ old now (nxH set p at_ (nxI set look p at_ now.es))
end
theorem nextW_rep {look look' : Int → Option Plc} (hl : ∀ k, look k = look' k) (p : Prt) (at_ : Plc) (old now : Grp) : Rep (nextW setM look p at_ old now) (nextW putL look' p at_ old now) := by
  obtain rfl : look = look' := funext hl
  have h0 : ∀ {k : Int} {A B : List (Int × Plc)}, Rep A B → Rep (nx0 setM look k A) (nx0 putL look k B) := fun h => by
    unfold nx0; split
    · exact h.set _ _
    · exact h
  have h1 : ∀ {e : Ent} {A B : List (Int × Plc)}, Rep A B → Rep (nx1 setM look p at_ A e) (nx1 putL look p at_ B e) := fun h => by
    unfold nx1; split
    · exact (h.set _ _).set _ _
    · exact h.set _ _
  have hI : Rep (nxI setM look p at_ now.es) (nxI putL look p at_ now.es) := by
    unfold nxI
    generalize now.es = es
    have := h0 (k := 0) (h0 (k := -1) Rep.nil)
    generalize nx0 setM look 0 (nx0 setM look (-1) []) = A at this
    generalize nx0 putL look 0 (nx0 putL look (-1) []) = B at this
    induction es generalizing A B with
    | nil => exact this
    | cons e es ih => exact ih _ _ (h1 this)
  unfold nextW
  generalize nxI setM look p at_ now.es = A at hI
  generalize nxI putL look p at_ now.es = B at hI
  have hH : Rep (nxH setM p at_ A) (nxH putL p at_ B) := by
    unfold nxH; split
    · exact hI.set _ _
    · exact hI
  unfold nxM; split
  · exact hH.set _ _
  · exact hH
def logDo (v : LogV) (p : Prt) (at_ : Plc) : LogV := if okDo v.g p = true then ⟨doS v.g p, nextW putL (lk v.sp) p at_ v.g (doS v.g p)⟩ else v
theorem logDo_spar {v : LogV} (h : Spar v.g) (p : Prt) (at_ : Plc) : Spar (logDo v p at_).g := by
  unfold logDo; split
  · exact h.doS p
  · exact h
end Go.Ab
end
section
namespace Go.Ab
set_option linter.unusedVariables false
theorem Mut.moreL {F F' : List Nat} {s s' : AState} (h : Mut F F' s s') (G : List Nat) : Mut (G ++ F) (G ++ F') s s' :=
  ⟨h.n, fun x hx hn => h.keep x hx (fun hm => hn (List.mem_append.2 (.inr hm))), fun x hx => by
    rcases List.mem_append.1 hx with h1 | h1
    · exact .inl (List.mem_append.2 (.inl h1))
    · exact (h.own x h1).imp (fun h => List.mem_append.2 (.inr h)) id⟩
theorem Mut.sub {F F' G : List Nat} {s s' : AState} (h : Mut F F' s s') (hG : ∀ x ∈ G, x ∈ F') : Mut F G s s' := ⟨h.n, h.keep, fun x hx => h.own x (hG x hx)⟩
theorem nodup_app {F F' G : List Nat} {s s' : AState} (h : Mut F F' s s') (h1 : F'.Nodup) (h2 : G.Nodup) (hd : ∀ x ∈ G, x ∉ F) (hl : ∀ x ∈ G, x < s.n) : (F' ++ G).Nodup := by
  rw [List.nodup_append]
  exact ⟨h1, h2, fun a ha b hb e => h.apart hd hl b hb (e ▸ ha)⟩
theorem nodup_app' {F F' G : List Nat} {s s' : AState} (h : Mut F F' s s') (h1 : F'.Nodup) (h2 : G.Nodup) (hd : ∀ x ∈ G, x ∉ F) (hl : ∀ x ∈ G, x < s.n) : (G ++ F').Nodup := by
  rw [List.nodup_append]
  exact ⟨h2, h1, fun a ha b hb e => h.apart hd hl a ha (e ▸ hb)⟩
def LogsAt (s : AState) : List (Int × Nat) → List (Int × LogV) → List Nat → Prop
  | [], [], F => F = []
  | x :: B, y :: M, F => x.1 = y.1 ∧ ∃ F1 F2, F = F1 ++ F2 ∧ LogAt s x.2 y.2 F1 ∧ LogsAt s B M F2
  | _, _, _ => False
theorem LogsAt.keys {s : AState} : ∀ {B : List (Int × Nat)} {M : List (Int × LogV)} {F : List Nat}, LogsAt s B M F → B.map (·.1) = M.map (·.1)
  | [], [], _, _ => rfl
  | x :: B, y :: M, _, ⟨h, F1, F2, _, _, h2⟩ => by rw [List.map_cons, List.map_cons, h, LogsAt.keys h2]
theorem LogsAt.len {s : AState} {B : List (Int × Nat)} {M : List (Int × LogV)} {F : List Nat} (h : LogsAt s B M F) : B.length = M.length := by
  have := congrArg List.length h.keys; simpa using this
theorem LogsAt.lt {s : AState} : ∀ {B : List (Int × Nat)} {M : List (Int × LogV)} {F : List Nat}, LogsAt s B M F → ∀ x ∈ F, x < s.n
  | [], [], _, h => by intro x hx; rw [show _ = [] from h] at hx; cases hx
  | x :: B, y :: M, _, ⟨h, F1, F2, e, h1, h2⟩ => by
    subst e; intro z hz
    rcases List.mem_append.1 hz with hz | hz
    · exact h1.lt z hz
    · exact LogsAt.lt h2 z hz
theorem LogsAt.keep {s s' : AState} : ∀ {B : List (Int × Nat)} {M : List (Int × LogV)} {F : List Nat}, LogsAt s B M F → (∀ x ∈ F, s'.get x = s.get x) → LogsAt s' B M F
  | [], [], _, h, _ => h
  | x :: B, y :: M, _, ⟨h, F1, F2, e, h1, h2⟩, k => by
    subst e
    exact ⟨h, F1, F2, rfl, h1.keep fun z hz => k z (List.mem_append.2 (.inl hz)), LogsAt.keep h2 fun z hz => k z (List.mem_append.2 (.inr hz))⟩
theorem LogsAt.no {s : AState} {B : List (Int × Nat)} {M : List (Int × LogV)} {F : List Nat} (h : LogsAt s B M F) (i : Int) : lk B i = none ↔ lk M i = none := by
  rw [lk_none, lk_none, h.keys]
theorem LogsAt.focus {s : AState} {i : Int} {lb : Nat} : ∀ {B : List (Int × Nat)} {M : List (Int × LogV)} {F : List Nat}, LogsAt s B M F → Srt M → F.Nodup → lk B i = some lb →
    ∃ v Fi, lk M i = some v ∧ LogAt s lb v Fi ∧ (∀ x ∈ Fi, x ∈ F) ∧ ∀ (s' : AState) (v' : LogV) (Fi' : List Nat), LogAt s' lb v' Fi' → Mut Fi Fi' s s' → ∃ F', LogsAt s' B (putL M i v') F' ∧ Mut F F' s s' ∧ F'.Nodup
  | [], [], _, _, _, _, h => by cases h
  | x :: B, y :: M, _, ⟨hk, F1, F2, e, h1, h2⟩, hS, hn, h => by
    subst e
    obtain ⟨hn1, hn2, hn3⟩ := List.nodup_append.1 hn
    have hd : ∀ z ∈ F2, z ∉ F1 := fun z hz hz' => hn3 z hz' z hz rfl
    have hd' : ∀ z ∈ F1, z ∉ F2 := fun z hz hz' => hn3 z hz z hz' rfl
    have hl2 := LogsAt.lt h2
    rw [lk_cons] at h
    by_cases e : i = x.1
    · rw [if_pos e] at h
      obtain rfl : x.2 = lb := by simpa using h
      refine ⟨y.2, F1, by rw [lk_cons, if_pos (by rw [e, hk])], h1, fun z hz => List.mem_append.2 (.inl hz), fun s' v' Fi' g1 g2 => ?_⟩
      refine ⟨Fi' ++ F2, ?_, g2.more F2, nodup_app g2 g1.nodup hn2 hd hl2⟩
      have e2 : putL (y :: M) i v' = (i, v') :: M := by unfold putL; rw [if_neg (by rw [e, hk]; exact Key.irrefl _), if_pos (by rw [e, hk])]
      rw [e2]
      exact ⟨e.symm, Fi', F2, rfl, g1, h2.keep (g2.get hd hl2)⟩
    · rw [if_neg e] at h
      obtain ⟨hS1, hS2⟩ := List.pairwise_cons.1 hS
      obtain ⟨v, Fi, k1, k2, k3, k4⟩ := LogsAt.focus h2 hS2 hn2 h
      refine ⟨v, Fi, by rw [lk_cons, if_neg (by rw [← hk]; exact e)]; exact k1, k2, fun z hz => List.mem_append.2 (.inr (k3 z hz)), fun s' v' Fi' g1 g2 => ?_⟩
      obtain ⟨F', q1, q2, q3⟩ := k4 s' v' Fi' g1 g2
      refine ⟨F1 ++ F', ?_, q2.moreL F1, nodup_app' q2 q3 hn1 hd' h1.lt⟩
      have hlt := hS1 _ (lk_mem k1)
      have e2 : putL (y :: M) i v' = y :: putL M i v' := by
        rw [putL, if_neg (Key.asymm hlt), if_neg (by rw [← hk]; exact e)]
      rw [e2]
      exact ⟨hk, F1, F', rfl, h1.keep (q2.get hd' h1.lt), q1⟩
theorem LogsAt.add {s s' : AState} {i : Int} {lb : Nat} {v : LogV} {Fi : List Nat} (hL : LogAt s' lb v Fi) (hm : Mut [] Fi s s') : ∀ {B : List (Int × Nat)} {M : List (Int × LogV)} {F : List Nat}, LogsAt s B M F → F.Nodup → lk B i = none →
    ∃ F', LogsAt s' (putL B i lb) (putL M i v) F' ∧ Mut F F' s s' ∧ F'.Nodup
  | [], [], _, h, _, _ => by
    obtain rfl := (h : _ = [])
    exact ⟨Fi ++ [], ⟨rfl, Fi, [], rfl, hL, rfl⟩, by simpa using hm, by simpa using hL.nodup⟩
  | x :: B, y :: M, F, ⟨hk, F1, F2, e, h1, h2⟩, hn, h => by
    subst e
    have hlt0 : ∀ z ∈ F1 ++ F2, z < s.n := fun z hz => (List.mem_append.1 hz).elim (h1.lt z) (LogsAt.lt h2 z)
    have hnot : ∀ z ∈ F1 ++ F2, z ∉ ([] : List Nat) := fun z _ hz => by cases hz
    rw [lk_cons] at h
    by_cases e : i = x.1
    · rw [if_pos e] at h; cases h
    · rw [if_neg e] at h
      by_cases hlt : Key.lt i x.1
      · refine ⟨Fi ++ (F1 ++ F2), ?_, ?_, nodup_app hm hL.nodup hn hnot hlt0⟩
        · have e1 : putL (x :: B) i lb = (i, lb) :: x :: B := by rw [putL, if_pos hlt]
          have e2 : putL (y :: M) i v = (i, v) :: y :: M := by rw [putL, if_pos (by rw [← hk]; exact hlt)]
          rw [e1, e2]
          refine ⟨rfl, Fi, F1 ++ F2, rfl, hL, hk, F1, F2, rfl, ?_⟩
          have k := hm.get hnot hlt0
          exact ⟨h1.keep fun z hz => k z (List.mem_append.2 (.inl hz)), h2.keep fun z hz => k z (List.mem_append.2 (.inr hz))⟩
        · have := hm.more (F1 ++ F2)
          simpa using this
      · obtain ⟨hn1, hn2, hn3⟩ := List.nodup_append.1 hn
        have hd' : ∀ z ∈ F1, z ∉ F2 := fun z hz hz' => hn3 z hz z hz' rfl
        obtain ⟨F', q1, q2, q3⟩ := LogsAt.add hL hm h2 hn2 h
        refine ⟨F1 ++ F', ?_, q2.moreL F1, nodup_app' q2 q3 hn1 hd' h1.lt⟩
        have e1 : putL (x :: B) i lb = x :: putL B i lb := by rw [putL, if_neg hlt, if_neg e]
        have e2 : putL (y :: M) i v = y :: putL M i v := by rw [putL, if_neg (by rw [← hk]; exact hlt), if_neg (by rw [← hk]; exact e)]
        rw [e1, e2]
        exact ⟨hk, F1, F', rfl, h1.keep (q2.get hd' h1.lt), q1⟩
theorem LogsAt.drop {s : AState} (i : Int) : ∀ {B : List (Int × Nat)} {M : List (Int × LogV)} {F : List Nat}, LogsAt s B M F → F.Nodup → ∃ F', LogsAt s (delL B i) (delL M i) F' ∧ F'.Sublist F
  | [], [], F, h, _ => ⟨F, h, List.Sublist.refl _⟩
  | x :: B, y :: M, F, ⟨hk, F1, F2, e, h1, h2⟩, hn => by
    subst e
    obtain ⟨hn1, hn2, hn3⟩ := List.nodup_append.1 hn
    obtain ⟨F', q1, q2⟩ := LogsAt.drop i h2 hn2
    unfold delL at q1 ⊢
    by_cases e : x.1 = i
    · refine ⟨F', ?_, q2.trans (List.sublist_append_right ..)⟩
      rw [List.filter_cons_of_neg (by simp [e]), List.filter_cons_of_neg (by simp [← hk, e])]
      exact q1
    · refine ⟨F1 ++ F', ?_, (List.Sublist.refl F1).append q2⟩
      rw [List.filter_cons_of_pos (by simp [e]), List.filter_cons_of_pos (by simp [← hk, e])]
      exact ⟨hk, F1, F', rfl, h1, q1⟩
theorem LogsAt.at {s : AState} {i : Int} {lb : Nat} : ∀ {B : List (Int × Nat)} {M : List (Int × LogV)} {F : List Nat}, LogsAt s B M F → lk B i = some lb → ∃ v Fi, lk M i = some v ∧ LogAt s lb v Fi ∧ ∀ x ∈ Fi, x ∈ F
  | [], [], _, _, h => by cases h
  | x :: B, y :: M, _, ⟨hk, F1, F2, e, h1, h2⟩, h => by
    subst e
    rw [lk_cons] at h
    by_cases e : i = x.1
    · rw [if_pos e] at h
      obtain rfl : x.2 = lb := by simpa using h
      exact ⟨y.2, F1, by rw [lk_cons, if_pos (by rw [e, hk])], h1, fun z hz => List.mem_append.2 (.inl hz)⟩
    · rw [if_neg e] at h
      obtain ⟨v, Fi, k1, k2, k3⟩ := LogsAt.at h2 h
      exact ⟨v, Fi, by rw [lk_cons, if_neg (by rw [← hk]; exact e)]; exact k1, k2, fun z hz => List.mem_append.2 (.inr (k3 z hz))⟩
theorem LogsAt.nth {s : AState} : ∀ {B : List (Int × Nat)} {M : List (Int × LogV)} {F : List Nat}, LogsAt s B M F → ∀ {k : Nat} (h1 : k < B.length) (h2 : k < M.length), B[k].1 = M[k].1 ∧ ∃ Fi, LogAt s B[k].2 M[k].2 Fi ∧ ∀ x ∈ Fi, x ∈ F
  | x :: B, y :: M, _, ⟨hk, F1, F2, e, h1, h2⟩, k, i1, i2 => by
    subst e
    cases k with
    | zero => exact ⟨hk, F1, h1, fun z hz => List.mem_append.2 (.inl hz)⟩
    | succ k =>
      obtain ⟨g1, Fi, g2, g3⟩ := LogsAt.nth h2 (k := k) (by simpa using i1) (by simpa using i2)
      exact ⟨g1, Fi, g2, fun z hz => List.mem_append.2 (.inr (g3 z hz))⟩
def ptr (b : Nat) : AV := .p b 0
def LedAt (s : AState) (b : Nat) (M : List (Int × LogV)) (F : List Nat) : Prop :=
  ∃ (mb : Nat) (A B : List (Int × Nat)) (F' : List Nat), F = b :: mb :: F' ∧ s.get b = .cells [.m mb] ∧ s.get mb = .map (encM ptr A) ∧ Rep A B ∧ LogsAt s B M F' ∧ F.Nodup
theorem LedAt.lt {s : AState} {b : Nat} {M : List (Int × LogV)} {F : List Nat} (h : LedAt s b M F) : ∀ x ∈ F, x < s.n := by
  obtain ⟨mb, A, B, F', rfl, h1, h2, h3, h4, h5⟩ := h
  intro x hx
  rcases List.mem_cons.1 hx with rfl | hx
  · exact AState.lt_of_get h1 (by simp)
  rcases List.mem_cons.1 hx with rfl | hx
  · exact AState.lt_of_get h2 (by simp)
  · exact h4.lt x hx
theorem LedAt.mem {s : AState} {b : Nat} {M : List (Int × LogV)} {F : List Nat} (h : LedAt s b M F) : b ∈ F := by
  obtain ⟨mb, A, B, F', rfl, h1, h2, h3, h4, h5⟩ := h; simp
theorem LedAt.keep {s s' : AState} {b : Nat} {M : List (Int × LogV)} {F : List Nat} (h : LedAt s b M F) (k : ∀ x ∈ F, s'.get x = s.get x) : LedAt s' b M F := by
  obtain ⟨mb, A, B, F', rfl, h1, h2, h3, h4, h5⟩ := h
  exact ⟨mb, A, B, F', rfl, (k _ (by simp)).trans h1, (k _ (by simp)).trans h2, h3, h4.keep fun x hx => k x (by simp [hx]), h5⟩
theorem srt_keys {κ β γ : Type} [DecidableEq κ] [Key κ] {a : List (κ × β)} {b : List (κ × γ)} (h : a.map (·.1) = b.map (·.1)) (ha : Srt a) : Srt b := by
  have h1 : (a.map (·.1)).Pairwise Key.lt := List.pairwise_map.2 ha
  rw [h] at h1
  exact List.pairwise_map.1 h1
theorem LedAt.srt {s : AState} {b : Nat} {M : List (Int × LogV)} {F : List Nat} (h : LedAt s b M F) : Srt M := by
  obtain ⟨mb, A, B, F', rfl, h1, h2, h3, h4, h5⟩ := h
  exact srt_keys h4.keys h3.srt
def doP (at_ : Plc) (M : List (Int × LogV)) (p : Prt) : List (Int × LogV) :=
  if isPart p = true then (if p.kd = 5 then delL M p.gr else putL M p.gr (logDo ((lk M p.gr).getD ⟨newG p.gr, []⟩) p at_)) else M
def doL (M : List (Int × LogV)) (l : List Prt) (at_ : Plc) : List (Int × LogV) := l.foldl (doP at_) M
def grpsL (M : List (Int × LogV)) : List Grp := M.map (·.2.g)
def spotsM (M : List (Int × LogV)) : List Spt := M.flatMap fun x => x.2.sp.map fun y => ⟨x.2.g.id, y.1, y.2.sg, y.2.at_⟩
def zeroG : Grp := ⟨0, 0, 0, 0, 0, 0, []⟩
def takeL (M O : List (Int × LogV)) : List (Int × LogV) := O.foldl (fun M x => if (lk M x.1).isSome then M else putL M x.1 x.2) M
structure VOk (i : Int) (v : LogV) : Prop where
  id : v.g.id = i
  rng : 0 ≤ i ∧ i ≤ 999
  g : Spar v.g
  srt : Srt v.sp
  key : ∀ x ∈ v.sp, x.1 = -1 ∨ x.1 = 0 ∨ ∃ e ∈ v.g.es, x.1 = e.ix
  has : ∀ e ∈ v.g.es, ∃ x ∈ v.sp, x.1 = e.ix
def MOk (M : List (Int × LogV)) : Prop := Srt M ∧ ∀ x ∈ M, VOk x.1 x.2
end Go.Ab
end
section
namespace Go.Ab
set_option linter.unusedVariables false
section
variable {α : Type} (le ne : α → Bool) (g : α)
def insStep (st : Bool × List α) (x : α) : Bool × List α :=
  let o := if st.1 = false ∧ le x = true then st.2 ++ [g] else st.2
  (st.1 || le x, if ne x = true then o ++ [x] else o)
def insRun (l : List α) : Bool × List α := l.foldl (insStep le ne g) (false, [])
def insEnd (g : α) (st : Bool × List α) : List α := if st.1 = true then st.2 else st.2 ++ [g]
def insL (l : List α) : List α := insEnd g (insRun le ne g l)
theorem insRun_snoc {l : List α} {j : Nat} (h : j < l.length) : insRun le ne g (l.take (j + 1)) = insStep le ne g (insRun le ne g (l.take j)) l[j] := by
  have e : l.take (j + 1) = l.take j ++ [l[j]] := (List.take_append_getElem h).symm
  rw [e]; simp only [insRun, List.foldl_append]; rfl
theorem insRun_len (l : List α) (j : Nat) : (insRun le ne g (l.take j)).2.length ≤ j + 1 ∧ ((insRun le ne g (l.take j)).1 = false → (insRun le ne g (l.take j)).2.length ≤ j) := by
  induction j with
  | zero => simp [insRun]
  | succ j ih =>
    by_cases h : j < l.length
    · rw [insRun_snoc le ne g h]
      unfold insStep
      cases h1 : (insRun le ne g (l.take j)).1 <;> cases h2 : le l[j] <;> cases h3 : ne l[j] <;> simp [h1] at ih ⊢ <;> omega
    · rw [List.take_of_length_le (by omega)] at ih ⊢
      exact ⟨by omega, fun h => by have := ih.2 h; omega⟩
def insR : List α → List α
  | [] => [g]
  | x :: l => if le x = true then g :: (x :: l).filter ne else if ne x = true then x :: insR l else insR l
theorem ins_done (l out : List α) : l.foldl (insStep le ne g) (true, out) = (true, out ++ l.filter ne) := by
  induction l generalizing out with
  | nil => simp
  | cons x l ih =>
    simp only [List.foldl_cons]
    have : insStep le ne g (true, out) x = (true, if ne x = true then out ++ [x] else out) := by simp [insStep]
    rw [this]
    cases h : ne x <;> simp [h, ih]
theorem ins_eq (l : List α) : insL le ne g l = insR le ne g l := by
  have key : ∀ (l out : List α), insEnd g (l.foldl (insStep le ne g) (false, out)) = out ++ insR le ne g l := by
    intro l
    induction l with
    | nil => intro out; simp [insR, insEnd]
    | cons x l ih =>
      intro out
      simp only [List.foldl_cons]
      cases h1 : le x with
      | true =>
        have : insStep le ne g (false, out) x = (true, if ne x = true then (out ++ [g]) ++ [x] else out ++ [g]) := by simp [insStep, h1]
        rw [this, ins_done]
        cases h2 : ne x <;> simp [insR, insEnd, h1, h2]
      | false =>
        have : insStep le ne g (false, out) x = (false, if ne x = true then out ++ [x] else out) := by simp [insStep, h1]
        rw [this, ih]
        cases h2 : ne x <;> simp [insR, h1, h2]
  exact key l []
end
def withS (l : List Grp) (g : Grp) : List Grp := insL (fun x => decide (g.id ≤ x.id)) (fun x => !decide (x.id = g.id)) g l
def lessS (a b : Spt) : Bool := decide (a.gr < b.gr) || decide (a.gr = b.gr) && decide (a.ix < b.ix)
def layS (l : List Spt) (s : Spt) : List Spt := insL (fun x => !lessS x s) (fun x => !decide (x.gr = s.gr) || !decide (x.ix = s.ix)) s l
def keepS (id : Int) (x : Grp) (there : Bool) (s : Spt) : Bool := !decide (s.gr = id) || there && (decide (s.ix ≤ 0) || hasIx x.es s.ix)
def lhas (g : Grp) (e : Ent) : Bool := match g.es.find? (fun x => decide (x.ix = e.ix)) with | some x => decide (x = e) | none => false
def getG (L : List Grp) (i : Int) : Option Grp := L.find? fun g => decide (g.id = i)
def refMark (p : Prt) (was now : Grp) : Bool := (decide (p.kd = 3) || decide (p.kd = 4)) && !decide (now.fi = was.fi) || p.mr && decide (now.fi - 1 = p.ix) && decide (now.tm = p.tm)
def refS (at_ : Plc) (p : Prt) (was now : Grp) (S : List Spt) : List Spt :=
  let S1 := S.filter (keepS p.gr now true)
  let S2 := p.es.foldl (fun S e => if lhas now e = true then layS S ⟨p.gr, e.ix, at_.sg, at_.at_⟩ else S) S1
  let S3 := if p.kd = 2 ∨ p.he = true then layS S2 ⟨p.gr, -1, at_.sg, at_.at_⟩ else S2
  if refMark p was now = true then layS S3 ⟨p.gr, 0, at_.sg, at_.at_⟩ else S3
def refP (at_ : Plc) (x : List Grp × List Spt) (p : Prt) : List Grp × List Spt :=
  if isPart p = true then
    if p.kd = 5 then (x.1.filter fun g => !decide (g.id = p.gr), x.2.filter (keepS p.gr zeroG false))
    else (withS x.1 (doS ((getG x.1 p.gr).getD (newG p.gr)) p), refS at_ p ((getG x.1 p.gr).getD (newG p.gr)) (doS ((getG x.1 p.gr).getD (newG p.gr)) p) x.2)
  else x
def RefAt (s : AState) (b : Nat) (L : List Grp) (S : List Spt) : Prop := ∃ tk1 tk2, s.get b = .cells [.sl (L.map Grp.av) tk1, .sl (S.map Spt.av) tk2]
end Go.Ab
end
section
namespace Go.Proofs.YtmpoeamfcienoaaGreat
open Go.Ab
set_option linter.unusedVariables false
set_option linter.unusedSimpArgs false
set_option maxRecDepth 100000
set_option maxHeartbeats 2000000
theorem ct_slices_Values_Entry {xs : List AV} {s : AState} : Gives prog F_slices_Values_Entry [.sl xs .no] s (.f (.func F_slices_Values_Entry_1) [] [.p s.n 0]) (s.alloc (.cells [.sl xs .no])) := by
  refine runs_e h_slices_Values_Entry (Nat.le_of_ble_eq_true rfl) ?_
  refine st0 ?_
  exact ret_ok rfl ⟨rfl, rfl⟩
theorem it_slices_Values_Entry (es : List Ent) (b : Nat) (hlen : es.length < 9223372036854775808) : Iter prog F_slices_Values_Entry_1 [] [.p b 0] (es.map fun e => [e.av]) (fun s => s.get b = .cells [.sl (es.map Ent.av) .no]) := by
  intro l s I J hp ha hj hy h0
  refine runs_e h_slices_Values_Entry_1 (Nat.le_of_ble_eq_true rfl) ?_
  refine st1 (hp 0 s h0) ?_
  refine loop_ok [0, 5, 6, 7] (fun m a s1 => ∃ j : Nat, j + m = es.length ∧ I j s1 ∧ a = { t := den 16 [(0, .y l), (5, .sl (es.map Ent.av) .no), (6, .v (.int .i64 es.length)), (7, .v (.int .i64 j))], d := [] }) es.length ?_ ?_
  · exact ⟨0, by simp, h0, by simp⟩
  · rintro m a s1 ⟨j, hjm, hI, rfl⟩
    by_cases hlt : j < es.length
    · have hw : IntKind.wrap .i64 ((j : Int) + 1) = ((j + 1 : Nat) : Int) := by rw [wrap_i64 (by omega) (by omega)]; omega
      repeat (first | simp -dsimp -implicitDefEqProofs (disch := first | omega | (simp <;> omega) | fail) [hlt] | ((with_reducible first | apply m_1 | apply m_0); (focus ((conv => lhs; simp -dsimp -implicitDefEqProofs (disch := first | omega | (simp <;> omega) | fail) [hlt]); done))) | ((with_reducible first | apply i_T | apply g_T); (focus (simp -dsimp -implicitDefEqProofs (disch := first | omega | (simp <;> omega) | fail) [hlt]; done))) | ((with_reducible first | apply i_F | apply g_F); (focus (simp -dsimp -implicitDefEqProofs (disch := first | omega | (simp <;> omega) | fail) [hlt]; done))))
      have hy' := hy j (by simpa using hlt) _ (ha _ _ (.cells es[j].cells) hI)
      simp only [List.getElem_map] at hy'
      refine yr0 (hy') ?_
      rintro _ s2 (⟨rfl, hI2⟩ | ⟨rfl, hJ⟩)
      · refine st1 hw ?_
        exact ⟨m - 1, by omega, j + 1, by omega, hI2, by simp⟩
      · refine st0 ?_
        exact ret_ok rfl (.inr hJ)
    · refine st1 hlt ?_
      have : j = es.length := by omega
      subst this
      exact end_ok rfl (.inl (by simpa using hI))
theorem ct_slices_Values_Part {xs : List AV} {s : AState} : Gives prog F_slices_Values_Part [.sl xs .no] s (.f (.func F_slices_Values_Part_1) [] [.p s.n 0]) (s.alloc (.cells [.sl xs .no])) := by
  refine runs_e h_slices_Values_Part (Nat.le_of_ble_eq_true rfl) ?_
  refine st0 ?_
  exact ret_ok rfl ⟨rfl, rfl⟩
theorem it_slices_Values_Part (es : List Prt) (b : Nat) (hlen : es.length < 9223372036854775808) : Iter prog F_slices_Values_Part_1 [] [.p b 0] (es.map fun e => [e.av]) (fun s => s.get b = .cells [.sl (es.map Prt.av) .no]) := by
  intro l s I J hp ha hj hy h0
  refine runs_e h_slices_Values_Part_1 (Nat.le_of_ble_eq_true rfl) ?_
  refine st1 (hp 0 s h0) ?_
  refine loop_ok [0, 5, 6, 7] (fun m a s1 => ∃ j : Nat, j + m = es.length ∧ I j s1 ∧ a = { t := den 16 [(0, .y l), (5, .sl (es.map Prt.av) .no), (6, .v (.int .i64 es.length)), (7, .v (.int .i64 j))], d := [] }) es.length ?_ ?_
  · exact ⟨0, by simp, h0, by simp⟩
  · rintro m a s1 ⟨j, hjm, hI, rfl⟩
    by_cases hlt : j < es.length
    · have hw : IntKind.wrap .i64 ((j : Int) + 1) = ((j + 1 : Nat) : Int) := by rw [wrap_i64 (by omega) (by omega)]; omega
      repeat (first | simp -dsimp -implicitDefEqProofs (disch := first | omega | (simp <;> omega) | fail) [hlt] | ((with_reducible first | apply m_1 | apply m_0); (focus ((conv => lhs; simp -dsimp -implicitDefEqProofs (disch := first | omega | (simp <;> omega) | fail) [hlt]); done))) | ((with_reducible first | apply i_T | apply g_T); (focus (simp -dsimp -implicitDefEqProofs (disch := first | omega | (simp <;> omega) | fail) [hlt]; done))) | ((with_reducible first | apply i_F | apply g_F); (focus (simp -dsimp -implicitDefEqProofs (disch := first | omega | (simp <;> omega) | fail) [hlt]; done))))
      have hy' := hy j (by simpa using hlt) _ (ha _ _ (.cells es[j].cells) hI)
      simp only [List.getElem_map] at hy'
      refine yr0 (hy') ?_
      rintro _ s2 (⟨rfl, hI2⟩ | ⟨rfl, hJ⟩)
      · refine st1 hw ?_
        exact ⟨m - 1, by omega, j + 1, by omega, hI2, by simp⟩
      · refine st0 ?_
        exact ret_ok rfl (.inr hJ)
    · refine st1 hlt ?_
      have : j = es.length := by omega
      subst this
      exact end_ok rfl (.inl (by simpa using hI))
theorem ct_slices_Values_Group {xs : List AV} {s : AState} : Gives prog F_slices_Values_Group [.sl xs .no] s (.f (.func F_slices_Values_Group_1) [] [.p s.n 0]) (s.alloc (.cells [.sl xs .no])) := by
  refine runs_e h_slices_Values_Group (Nat.le_of_ble_eq_true rfl) ?_
  refine st0 ?_
  exact ret_ok rfl ⟨rfl, rfl⟩
theorem it_slices_Values_Group (es : List Grp) (b : Nat) (hlen : es.length < 9223372036854775808) : Iter prog F_slices_Values_Group_1 [] [.p b 0] (es.map fun e => [e.av]) (fun s => s.get b = .cells [.sl (es.map Grp.av) .no]) := by
  intro l s I J hp ha hj hy h0
  refine runs_e h_slices_Values_Group_1 (Nat.le_of_ble_eq_true rfl) ?_
  refine st1 (hp 0 s h0) ?_
  refine loop_ok [0, 5, 6, 7] (fun m a s1 => ∃ j : Nat, j + m = es.length ∧ I j s1 ∧ a = { t := den 16 [(0, .y l), (5, .sl (es.map Grp.av) .no), (6, .v (.int .i64 es.length)), (7, .v (.int .i64 j))], d := [] }) es.length ?_ ?_
  · exact ⟨0, by simp, h0, by simp⟩
  · rintro m a s1 ⟨j, hjm, hI, rfl⟩
    by_cases hlt : j < es.length
    · have hw : IntKind.wrap .i64 ((j : Int) + 1) = ((j + 1 : Nat) : Int) := by rw [wrap_i64 (by omega) (by omega)]; omega
      repeat (first | simp -dsimp -implicitDefEqProofs (disch := first | omega | (simp <;> omega) | fail) [hlt] | ((with_reducible first | apply m_1 | apply m_0); (focus ((conv => lhs; simp -dsimp -implicitDefEqProofs (disch := first | omega | (simp <;> omega) | fail) [hlt]); done))) | ((with_reducible first | apply i_T | apply g_T); (focus (simp -dsimp -implicitDefEqProofs (disch := first | omega | (simp <;> omega) | fail) [hlt]; done))) | ((with_reducible first | apply i_F | apply g_F); (focus (simp -dsimp -implicitDefEqProofs (disch := first | omega | (simp <;> omega) | fail) [hlt]; done))))
      have hy' := hy j (by simpa using hlt) _ (ha _ _ (.cells es[j].cells) hI)
      simp only [List.getElem_map] at hy'
      refine yr0 (hy') ?_
      rintro _ s2 (⟨rfl, hI2⟩ | ⟨rfl, hJ⟩)
      · refine st1 hw ?_
        exact ⟨m - 1, by omega, j + 1, by omega, hI2, by simp⟩
      · refine st0 ?_
        exact ret_ok rfl (.inr hJ)
    · refine st1 hlt ?_
      have : j = es.length := by omega
      subst this
      exact end_ok rfl (.inl (by simpa using hI))
theorem rn_slices_AppendSeq_Entry {g : FuncId} {fs caps : List AV} {es : List Ent} {Pre : AState → Prop} (hit : Iter prog g fs caps (es.map fun e => [e.av]) Pre) {s : AState} (hpre : ∀ s', Grows s s' → Pre s')
    (hlen : es.length * 32 ≤ 140737488355328) :
    Runs (compCode prog) prog F_slices_AppendSeq_Entry [.sl [] .zero, .f (.func g) fs caps] s (fun x s' => ∃ tk, x = .sl (es.map Ent.av) tk ∧ May s.n s' (es.map Ent.av) tk ∧ Grows s s') := by
  refine runs_e h_slices_AppendSeq_Entry (Nat.le_of_ble_eq_true rfl) ?_
  refine st0 ?_
  refine w_rangeG (α := Tok) (β := Unit) (m := es.length) (by simp) hit (by simp) (by simp) (fun k tk => s.alloc (.cells [.sl ((es.map Ent.av).take k) tk])) (fun k tk s' => May (s.n + 3) s' ((es.map Ent.av).take k) tk) (fun _ _ => s) (fun _ _ _ => False) .zero
    (by simp) (fun s' h => trivial) ?_ (fun k a s' o h => h.alloc o) (fun _ _ _ _ h => h) ?_ ?_ (fun _ _ _ _ _ h => h.elim)
  · intro k a s' _ h1 h2
    exact hpre _ (((Grows.refl s).alloc _).trans h2)
  · intro LR LB LJ _ k hk tk g' h1 hm
    have hk' : k < es.length := by simpa using hk
    refine st0 ?_
    refine o_app (B := ((s.alloc (.cells [.sl ((es.map Ent.av).take k) tk])).alloc .defd).alloc LB) (N := s.n + 3) (by simp) (by simp; exact ⟨rfl, rfl⟩) ⟨_, allocs_snoc _ _ _⟩ (by simp) (by simp; omega) ((hm.swap (by simp) (by simp)).alloc _) rfl (by simp) (by simp) (by simp; omega) (by simp; omega) ?_
    intro g2 tk2 hm2 _ _
    refine st0 ?_
    refine ⟨tk2, by simp, ?_, ?_⟩
    · rw [take_snoc hk']; exact ⟨_, rfl⟩
    · rw [take_snoc hk']; exact hm2.swap (by simp) (by simp)
  · intro LR tk g' h1 hm
    rw [List.take_of_length_le (by simp)] at *
    refine st0 ?_
    refine ret_okD (by simp) (by simp) (by simp; rfl) ⟨tk, rfl, ?_, ?_⟩
    · simp only [killAll, List.foldl]
      simp
      exact (hm.swap (by simp) (by simp)).low (by omega)
    · simp only [killAll, List.foldl]
      simp
      exact ((((Grows.refl s).alloc _).alloc _).alloc _).allocs _
theorem rn_slices_Collect_Entry {g : FuncId} {fs caps : List AV} {es : List Ent} {Pre : AState → Prop} (hit : Iter prog g fs caps (es.map fun e => [e.av]) Pre) {s : AState} (hpre : ∀ s', Grows s s' → Pre s')
    (hlen : es.length * 32 ≤ 140737488355328) :
    Runs (compCode prog) prog F_slices_Collect_Entry [.f (.func g) fs caps] s (fun x s' => ∃ tk, x = .sl (es.map Ent.av) tk ∧ May s.n s' (es.map Ent.av) tk ∧ Grows s s') := by
  refine runs_e h_slices_Collect_Entry (Nat.le_of_ble_eq_true rfl) ?_
  refine st0 ?_
  refine rn0 (rn_slices_AppendSeq_Entry hit hpre hlen) ?_
  rintro _ s' ⟨tk, rfl, h1, h2⟩
  refine st0 ?_
  exact ret_ok rfl ⟨tk, rfl, h1, h2⟩
end Go.Proofs.YtmpoeamfcienoaaGreat
end
