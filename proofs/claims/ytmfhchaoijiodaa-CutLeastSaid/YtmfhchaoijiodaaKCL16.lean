/- Going on. -/
import Derived.Test.YtmfhchaoijiodaaProg
import Derived.KernelRfl
import Derived.Test.YtmfhchaoijiodaaKCL15
section
namespace Go.Proofs.Ytmfhchaoijiodaa
open Go.Ab
noncomputable abbrev prog : Program := Try.prog
abbrev F_ladelaw26_CutLeast : Nat := 3
abbrev F_ladelaw26_known : Nat := 7
abbrev F_many_New : Nat := 8
abbrev F_cut_After : Nat := 9
abbrev F_cut_Fits : Nat := 10
abbrev F_many_Many_All : Nat := 11
abbrev F_many_Many_Do : Nat := 13
abbrev F_ladelaw7_app : Nat := 14
abbrev F_many_Many_Settle : Nat := 16
abbrev F_cut_states : Nat := 18
abbrev F_slices_EqualFunc_Group : Nat := 19
abbrev F_group_Same : Nat := 20
abbrev F_slices_Values_int : Nat := 21
abbrev F_slices_Sorted_int : Nat := 22
abbrev F_maps_Keys_Group : Nat := 23
abbrev F_many_copied : Nat := 24
abbrev F_many_Many_Copy : Nat := 25
abbrev F_many_Many_tried : Nat := 28
abbrev F_slices_Clone_Entry : Nat := 29
abbrev F_part_Is : Nat := 30
abbrev F_many_Many_one : Nat := 31
abbrev F_many_settled : Nat := 32
abbrev F_cut_states_1 : Nat := 33
abbrev F_slices_Equal_Entry : Nat := 34
abbrev F_slices_Values_int_1 : Nat := 35
abbrev F_maps_Keys_Group_1 : Nat := 38
abbrev F_maps_Clone_Group : Nat := 39
abbrev F_many_Many_wrong : Nat := 43
abbrev F_slices_Values_Part : Nat := 44
abbrev F_part_between : Nat := 45
abbrev F_part_Same : Nat := 46
abbrev F_part_core : Nat := 47
abbrev F_part_rising : Nat := 48
abbrev F_part_IsHard : Nat := 49
abbrev F_part_isMark : Nat := 50
abbrev F_group_New : Nat := 51
abbrev F_group_Do : Nat := 52
abbrev F_group_Within : Nat := 53
abbrev F_part_IsEntry : Nat := 60
abbrev F_many_Many_wrong_1 : Nat := 62
abbrev F_slices_ContainsFunc_Part : Nat := 63
abbrev F_record_Bytes : Nat := 64
abbrev F_slices_Values_Part_1 : Nat := 65
abbrev F_group_Check : Nat := 66
abbrev F_slices_Collect_Entry : Nat := 67
abbrev F_group_at : Nat := 68
abbrev F_group_gone : Nat := 69
abbrev F_group_fits : Nat := 70
abbrev F_group_Within_1 : Nat := 71
abbrev F_slices_IndexFunc_Part : Nat := 84
abbrev F_record_Is : Nat := 85
abbrev F_frame_Wrap : Nat := 86
abbrev F_record_held : Nat := 87
abbrev F_group_Last : Nat := 88
abbrev F_slices_AppendSeq_Entry : Nat := 89
abbrev F_code_Fixed : Nat := 96
abbrev F_crc_Of : Nat := 97
abbrev F_code_Put : Nat := 98
abbrev F_part_Bytes : Nat := 99
abbrev F_crc_More : Nat := 101
abbrev F_code_septets : Nat := 102
abbrev F_part_flags : Nat := 103
abbrev F_part_numbers : Nat := 104
abbrev F_code_Text : Nat := 105
abbrev F_crc_steps : Nat := 106
abbrev F_code_septets_1 : Nat := 107
abbrev F_part_numbers_1 : Nat := 108
abbrev F_crc_steps_1 : Nat := 109
end Go.Proofs.Ytmfhchaoijiodaa
end
section
namespace Go.Proofs.Ytmfhchaoijiodaa
open Go.Ab
set_option maxRecDepth 100000
def A_ladelaw26_CutLeast : AFn := .mk 77 [.tmp 4] (
 .seq (.region [
   ⟨some 4, .mov (.c (.v (.bool false))), none⟩])
 (.seq (.seq (.region [
   ⟨some 14, .call (.c (.f (.func F_ladelaw26_known) [] [])) [], none⟩,
   ⟨some 15, .un .not (.t 14), none⟩])
 (.cond (.t 15)
  (.seq (.region [
    ⟨some 4, .mov (.c (.v (.bool false))), none⟩])
  (.ret))
  (.skip)))
 (.seq (.region [
   ⟨some 16, .call (.c (.f (.func F_many_New) [] [])) [], none⟩,
   ⟨some 5, .mov (.t 16), none⟩])
 (.seq (.region [
   ⟨some 6, .mov (.c (.sl [] .zero)), none⟩])
 (.seq (.region [
   ⟨some 17, .mov (.t 0), none⟩,
   ⟨some 18, .bin .rem (.t 17) (.c (.v (.int .u8 10))), none⟩,
   ⟨some 19, .conv .i64 (.t 18), none⟩,
   ⟨some 20, .bin .add (.t 19) (.c (.v (.int .i64 1))), none⟩,
   ⟨some 7, .mov (.t 20), none⟩])
 (.seq (.seq (.region [
   ⟨some 8, .mov (.c (.v (.int .i64 0))), none⟩])
 (.block 0 (.loop (.seq (.seq (.region [
     ⟨some 21, .mov (.t 8), none⟩,
     ⟨some 22, .mov (.t 7), none⟩,
     ⟨some 23, .bin .lss (.t 21) (.t 22), none⟩])
   (.cond (.t 23)
    (.skip)
    (.exit 0)))
   (.seq (.block 1 (.region [
      ⟨some 26, .mov (.t 6), none⟩,
      ⟨some 27, .build [(.v (.int .i64 0)), (.v (.int .i64 0)), (.sl [] .zero), (.v (.int .i64 0)), (.v (.int .i64 0)), (.v (.int .i64 0)), (.v (.int .i64 0)), (.v (.int .i64 0)), (.v (.bool false)), (.v (.bool false))] [(0, 1, (.c (.v (.int .i64 3)))), (1, 1, (.c (.v (.int .i64 2))))], none⟩,
      ⟨some 28, .bsl 10 [(.t 27)], none⟩,
      ⟨some 29, .build [(.v (.int .i64 0)), (.v (.int .i64 0)), (.sl [] .zero), (.v (.int .i64 0)), (.v (.int .i64 0)), (.v (.int .i64 0)), (.v (.int .i64 0)), (.v (.int .i64 0)), (.v (.bool false)), (.v (.bool false))] [(0, 1, (.c (.v (.int .i64 4)))), (1, 1, (.c (.v (.int .i64 5))))], none⟩,
      ⟨some 30, .bsl 10 [(.t 29)], none⟩,
      ⟨some 31, .build [(.v (.int .i64 0)), (.v (.int .i64 0)), (.sl [] .zero), (.v (.int .i64 0)), (.v (.int .i64 0)), (.v (.int .i64 0)), (.v (.int .i64 0)), (.v (.int .i64 0)), (.v (.bool false)), (.v (.bool false))] [(0, 1, (.c (.v (.int .i64 3)))), (1, 1, (.c (.v (.int .i64 5))))], none⟩,
      ⟨some 32, .bsl 10 [(.t 31)], none⟩,
      ⟨some 33, .bsl 1 [(.t 28), (.t 30), (.t 32)], none⟩,
      ⟨some 34, .append 1 24 (.t 26) (.t 33), none⟩,
      ⟨some 6, .mov (.t 34), none⟩]))
   (.region [
     ⟨some 24, .mov (.t 8), none⟩,
     ⟨some 25, .bin .add (.t 24) (.c (.v (.int .i64 1))), none⟩,
     ⟨some 8, .mov (.t 25), none⟩]))))))
 (.seq (.region [
   ⟨some 35, .mov (.t 1), none⟩,
   ⟨some 36, .conv .i64 (.t 35), none⟩,
   ⟨some 37, .mov (.t 7), none⟩,
   ⟨some 38, .bin .mul (.c (.v (.int .i64 3))) (.t 37), none⟩,
   ⟨some 39, .bin .add (.t 38) (.c (.v (.int .i64 1))), none⟩,
   ⟨some 40, .bin .rem (.t 36) (.t 39), none⟩,
   ⟨some 9, .mov (.t 40), none⟩])
 (.seq (.region [
   ⟨some 41, .mov (.t 5), none⟩,
   ⟨some 42, .mov (.t 6), none⟩,
   ⟨some 43, .mov (.t 9), none⟩,
   ⟨some 44, .call (.c (.f (.func F_cut_After) [] [])) [(.t 41), (.t 42), (.t 43)], none⟩,
   ⟨some 10, .mov (.t 44), none⟩])
 (.seq (.seq (.region [
   ⟨some 45, .mov (.t 10), none⟩,
   ⟨some 46, .eqa false .ptr (.t 45) (.c (.v (.pointer none))), none⟩])
 (.cond (.t 46)
  (.seq (.region [
    ⟨some 4, .mov (.c (.v (.bool false))), none⟩])
  (.ret))
  (.skip)))
 (.seq (.region [
   ⟨some 11, .mov (.c (.v (.int .i64 0))), none⟩])
 (.seq (.seq (.region [
   ⟨some 47, .mov (.t 9), none⟩,
   ⟨some 48, .bin .rem (.t 47) (.c (.v (.int .i64 3))), none⟩,
   ⟨some 49, .bin .neq (.t 48) (.c (.v (.int .i64 0))), none⟩])
 (.cond (.t 49)
  (.region [
    ⟨some 11, .mov (.c (.v (.int .i64 1))), none⟩])
  (.skip)))
 (.seq (.region [
   ⟨some 51, .mov (.t 10), none⟩,
   ⟨some 52, .call (.c (.f (.func F_many_Many_All) [] [])) [(.t 51)], none⟩,
   ⟨some 53, .mov (.t 5), none⟩,
   ⟨some 54, .mov (.t 6), none⟩,
   ⟨some 55, .call (.c (.f (.func F_cut_Fits) [] [])) [(.t 52), (.t 53), (.t 54)], none⟩,
   ⟨some 50, .mov (.t 55), none⟩,
   ⟨some 56, .extract 0 (.t 50), none⟩,
   ⟨some 57, .extract 1 (.t 50), none⟩,
   ⟨some 12, .mov (.t 56), none⟩,
   ⟨some 13, .mov (.t 57), none⟩])
 (.seq (.region [
   ⟨some 58, .mov (.t 13), none⟩,
   ⟨some 59, .mov (.t 58), none⟩,
   ⟨some 60, .mov (.t 12), some (59, true)⟩,
   ⟨some 61, .mov (.t 11), some (59, true)⟩,
   ⟨some 62, .bin .eql (.t 60) (.t 61), some (59, true)⟩,
   ⟨some 63, .pick (.t 59) (.t 62) (.c (.v (.bool false))), none⟩,
   ⟨some 64, .mov (.t 63), none⟩,
   ⟨some 65, .mov (.t 10), some (64, true)⟩,
   ⟨some 66, .call (.c (.f (.func F_many_Many_All) [] [])) [(.t 65)], some (64, true)⟩,
   ⟨some 67, .len .sl (.t 66), some (64, true)⟩,
   ⟨some 68, .mov (.t 11), some (64, true)⟩,
   ⟨some 69, .bin .eql (.t 67) (.t 68), some (64, true)⟩,
   ⟨some 70, .pick (.t 64) (.t 69) (.c (.v (.bool false))), none⟩,
   ⟨some 71, .mov (.t 70), none⟩,
   ⟨some 72, .mov (.t 5), some (71, true)⟩,
   ⟨some 73, .call (.c (.f (.func F_many_Many_All) [] [])) [(.t 72)], some (71, true)⟩,
   ⟨some 74, .len .sl (.t 73), some (71, true)⟩,
   ⟨some 75, .bin .eql (.t 74) (.c (.v (.int .i64 0))), some (71, true)⟩,
   ⟨some 76, .pick (.t 71) (.t 75) (.c (.v (.bool false))), none⟩,
   ⟨some 4, .mov (.t 76), none⟩])
 (.ret))))))))))))))
theorem h_ladelaw26_CutLeast : (prog.funcs[F_ladelaw26_CutLeast]?).bind (compFn prog) = some A_ladelaw26_CutLeast := by kernel_rfl
def A_ladelaw26_known : AFn := .mk 60 [.tmp 0] (
 .seq (.region [
   ⟨some 0, .mov (.c (.v (.bool false))), none⟩])
 (.seq (.region [
   ⟨some 8, .build [(.v (.int .i64 0)), (.v (.int .i64 0)), (.sl [] .zero), (.v (.int .i64 0)), (.v (.int .i64 0)), (.v (.int .i64 0)), (.v (.int .i64 0)), (.v (.int .i64 0)), (.v (.bool false)), (.v (.bool false))] [(0, 1, (.c (.v (.int .i64 1)))), (1, 1, (.c (.v (.int .i64 2))))], none⟩,
   ⟨some 9, .bsl 10 [(.t 8)], none⟩,
   ⟨some 10, .build [(.v (.int .i64 0)), (.v (.int .i64 0)), (.sl [] .zero), (.v (.int .i64 0)), (.v (.int .i64 0)), (.v (.int .i64 0)), (.v (.int .i64 0)), (.v (.int .i64 0)), (.v (.bool false)), (.v (.bool false))] [(0, 1, (.c (.v (.int .i64 2)))), (1, 1, (.c (.v (.int .i64 2))))], none⟩,
   ⟨some 11, .bsl 10 [(.t 10)], none⟩,
   ⟨some 12, .bsl 1 [(.t 9), (.t 11)], none⟩,
   ⟨some 1, .mov (.t 12), none⟩])
 (.seq (.region [
   ⟨some 13, .call (.c (.f (.func F_many_New) [] [])) [], none⟩,
   ⟨some 2, .mov (.t 13), none⟩])
 (.seq (.region [
   ⟨some 14, .mov (.t 2), none⟩,
   ⟨some 15, .mov (.t 1), none⟩,
   ⟨some 16, .call (.c (.f (.func F_cut_After) [] [])) [(.t 14), (.t 15), (.c (.v (.int .i64 1)))], none⟩,
   ⟨some 3, .mov (.t 16), none⟩])
 (.seq (.seq (.region [
   ⟨some 17, .mov (.t 3), none⟩,
   ⟨some 18, .eqa false .ptr (.t 17) (.c (.v (.pointer none))), none⟩,
   ⟨some 19, .mov (.t 18), none⟩,
   ⟨some 20, .mov (.t 3), some (19, false)⟩,
   ⟨some 21, .call (.c (.f (.func F_many_Many_All) [] [])) [(.t 20)], some (19, false)⟩,
   ⟨some 22, .len .sl (.t 21), some (19, false)⟩,
   ⟨some 23, .bin .neq (.t 22) (.c (.v (.int .i64 1))), some (19, false)⟩,
   ⟨some 24, .pick (.t 19) (.c (.v (.bool true))) (.t 23), none⟩,
   ⟨some 25, .mov (.t 24), none⟩,
   ⟨some 26, .mov (.t 2), some (25, false)⟩,
   ⟨some 27, .call (.c (.f (.func F_many_Many_All) [] [])) [(.t 26)], some (25, false)⟩,
   ⟨some 28, .len .sl (.t 27), some (25, false)⟩,
   ⟨some 29, .bin .neq (.t 28) (.c (.v (.int .i64 0))), some (25, false)⟩,
   ⟨some 30, .pick (.t 25) (.c (.v (.bool true))) (.t 29), none⟩])
 (.cond (.t 30)
  (.seq (.region [
    ⟨some 0, .mov (.c (.v (.bool false))), none⟩])
  (.ret))
  (.skip)))
 (.seq (.region [
   ⟨some 32, .mov (.t 3), none⟩,
   ⟨some 33, .call (.c (.f (.func F_many_Many_All) [] [])) [(.t 32)], none⟩,
   ⟨some 34, .mov (.t 2), none⟩,
   ⟨some 35, .mov (.t 1), none⟩,
   ⟨some 36, .call (.c (.f (.func F_cut_Fits) [] [])) [(.t 33), (.t 34), (.t 35)], none⟩,
   ⟨some 31, .mov (.t 36), none⟩,
   ⟨some 37, .extract 0 (.t 31), none⟩,
   ⟨some 38, .extract 1 (.t 31), none⟩,
   ⟨some 4, .mov (.t 37), none⟩,
   ⟨some 5, .mov (.t 38), none⟩])
 (.seq (.region [
   ⟨some 40, .build [(.v (.int .i64 0)), (.v (.int .i64 0)), (.v (.int .i64 0)), (.v (.int .i64 0)), (.v (.int .i64 0)), (.v (.int .i64 0)), (.sl [] .zero)] [(0, 1, (.c (.v (.int .i64 9)))), (1, 1, (.c (.v (.int .i64 1))))], none⟩,
   ⟨some 41, .bsl 7 [(.t 40)], none⟩,
   ⟨some 42, .mov (.t 2), none⟩,
   ⟨some 43, .mov (.t 1), none⟩,
   ⟨some 44, .call (.c (.f (.func F_cut_Fits) [] [])) [(.t 41), (.t 42), (.t 43)], none⟩,
   ⟨some 39, .mov (.t 44), none⟩,
   ⟨some 45, .extract 0 (.t 39), none⟩,
   ⟨some 46, .extract 1 (.t 39), none⟩,
   ⟨some 6, .mov (.t 45), none⟩,
   ⟨some 7, .mov (.t 46), none⟩])
 (.seq (.region [
   ⟨some 47, .mov (.t 5), none⟩,
   ⟨some 48, .mov (.t 47), none⟩,
   ⟨some 49, .mov (.t 4), some (48, true)⟩,
   ⟨some 50, .bin .eql (.t 49) (.c (.v (.int .i64 1))), some (48, true)⟩,
   ⟨some 51, .pick (.t 48) (.t 50) (.c (.v (.bool false))), none⟩,
   ⟨some 52, .mov (.t 51), none⟩,
   ⟨some 53, .mov (.t 7), some (52, true)⟩,
   ⟨some 54, .un .not (.t 53), some (52, true)⟩,
   ⟨some 55, .pick (.t 52) (.t 54) (.c (.v (.bool false))), none⟩,
   ⟨some 56, .mov (.t 55), none⟩,
   ⟨some 57, .mov (.t 6), some (56, true)⟩,
   ⟨some 58, .bin .eql (.t 57) (.c (.v (.int .i64 (-1)))), some (56, true)⟩,
   ⟨some 59, .pick (.t 56) (.t 58) (.c (.v (.bool false))), none⟩,
   ⟨some 0, .mov (.t 59), none⟩])
 (.ret)))))))))
theorem h_ladelaw26_known : (prog.funcs[F_ladelaw26_known]?).bind (compFn prog) = some A_ladelaw26_known := by kernel_rfl
def A_many_New : AFn := .mk 4 [.tmp 0] (
 .seq (.region [
   ⟨some 0, .mov (.c (.v (.pointer none))), none⟩])
 (.seq (.region [
   ⟨some 1, .mkmap, none⟩,
   ⟨some 2, .build [(.v (.map none))] [(0, 1, (.t 1))], none⟩,
   ⟨some 3, .box (.t 2), none⟩,
   ⟨some 0, .mov (.t 3), none⟩])
 (.ret)))
theorem h_many_New : (prog.funcs[F_many_New]?).bind (compFn prog) = some A_many_New := by kernel_rfl
def A_cut_After : AFn := .mk 21 [.tmp 6] (
 .seq (.region [
   ⟨some 5, .box (.t 2), none⟩,
   ⟨some 6, .mov (.c (.v (.pointer none))), none⟩])
 (.seq (.region [
   ⟨some 10, .mov (.t 0), none⟩,
   ⟨some 7, .alloc [(.v (.pointer none))], none⟩,
   ⟨none, .store 1 (.t 7) (.t 10), none⟩])
 (.seq (.seq (.region [
   ⟨some 11, .mov (.t 0), none⟩,
   ⟨some 12, .mov (.t 1), none⟩,
   ⟨some 13, .call (.c (.f (.func F_cut_states) [] [])) [(.t 11), (.t 12)], none⟩])
 (.block 0 (.range (.t 13) [14, 15]
   (.seq (.region [
     ⟨some 8, .mov (.t 14), none⟩])
   (.region [
     ⟨some 9, .mov (.t 15), none⟩]))
   (.block 1 (.seq (.region [
      ⟨some 16, .mov (.t 9), none⟩,
      ⟨none, .store 1 (.t 7) (.t 16), none⟩])
    (.seq (.region [
      ⟨some 17, .mov (.t 8), none⟩,
      ⟨some 18, .load false 1 (.t 5), none⟩,
      ⟨some 19, .bin .geq (.t 17) (.t 18), none⟩])
    (.cond (.t 19)
     (.exit 0)
     (.skip))))))))
 (.seq (.region [
   ⟨some 20, .load false 1 (.t 7), none⟩,
   ⟨some 6, .mov (.t 20), none⟩])
 (.ret)))))
theorem h_cut_After : (prog.funcs[F_cut_After]?).bind (compFn prog) = some A_cut_After := by kernel_rfl
def A_cut_Fits : AFn := .mk 20 [.cell false 1 6, .cell false 1 7] (
 .seq (.region [
   ⟨some 3, .box (.t 0), none⟩,
   ⟨some 6, .alloc [(.v (.int .i64 0))], none⟩,
   ⟨some 7, .alloc [(.v (.bool false))], none⟩])
 (.seq (.seq (.region [
   ⟨some 10, .mov (.t 1), none⟩,
   ⟨some 11, .mov (.t 2), none⟩,
   ⟨some 12, .call (.c (.f (.func F_cut_states) [] [])) [(.t 10), (.t 11)], none⟩])
 (.block 0 (.range (.t 12) [13, 14]
   (.seq (.region [
     ⟨some 8, .mov (.t 13), none⟩])
   (.region [
     ⟨some 9, .mov (.t 14), none⟩]))
   (.block 1 (.seq (.draw (
      ⟨⟨some 15, .load false 1 (.t 3), none⟩, false, true, []⟩ ::
      ⟨⟨some 16, .mov (.t 9), none⟩, false, false, []⟩ ::
      ⟨⟨some 17, .call (.c (.f (.func F_many_Many_All) [] [])) [(.t 16)], none⟩, true, false, [⟨some 15, .load false 1 (.t 3), none⟩]⟩ ::
      ⟨⟨some 18, .call (.c (.f (.func F_slices_EqualFunc_Group) [] [])) [(.t 15), (.t 17), (.c (.f (.func F_group_Same) [] []))], none⟩, true, false, []⟩ ::
      []))
    (.cond (.t 18)
     (.seq (.region [
       ⟨some 19, .mov (.t 8), none⟩,
       ⟨none, .store 1 (.t 6) (.t 19), none⟩,
       ⟨none, .store 1 (.t 7) (.c (.v (.bool true))), none⟩])
     (.ret))
     (.skip)))))))
 (.seq (.region [
   ⟨none, .store 1 (.t 6) (.c (.v (.int .i64 (-1)))), none⟩,
   ⟨none, .store 1 (.t 7) (.c (.v (.bool false))), none⟩])
 (.ret))))
theorem h_cut_Fits : (prog.funcs[F_cut_Fits]?).bind (compFn prog) = some A_cut_Fits := by kernel_rfl
def A_many_Many_All : AFn := .mk 24 [.tmp 2] (
 .seq (.region [
   ⟨some 1, .box (.t 0), none⟩,
   ⟨some 2, .mov (.c (.sl [] .zero)), none⟩])
 (.seq (.region [
   ⟨some 3, .alloc [(.sl [] .zero)], none⟩])
 (.seq (.seq (.region [
   ⟨some 5, .load false 1 (.t 1), none⟩,
   ⟨some 6, .nilck (.t 5), none⟩,
   ⟨some 7, .fld 0 (.t 6), none⟩,
   ⟨some 8, .load false 1 (.t 7), none⟩,
   ⟨some 9, .call (.c (.f (.func F_maps_Keys_Group) [] [])) [(.t 8)], none⟩,
   ⟨some 10, .call (.c (.f (.func F_slices_Sorted_int) [] [])) [(.t 9)], none⟩,
   ⟨some 11, .call (.c (.f (.func F_slices_Values_int) [] [])) [(.t 10)], none⟩])
 (.block 0 (.range (.t 11) [12]
   (.region [
     ⟨some 4, .mov (.t 12), none⟩])
   (.block 1 (.draw (
      ⟨⟨some 13, .load false 1 (.t 3), none⟩, false, true, []⟩ ::
      ⟨⟨some 14, .load false 1 (.t 1), none⟩, false, false, []⟩ ::
      ⟨⟨some 15, .nilck (.t 14), none⟩, false, false, []⟩ ::
      ⟨⟨some 16, .fld 0 (.t 15), none⟩, false, false, []⟩ ::
      ⟨⟨some 17, .load false 1 (.t 16), none⟩, false, false, []⟩ ::
      ⟨⟨some 18, .mov (.t 4), none⟩, false, false, []⟩ ::
      ⟨⟨some 19, .lookup .int (.agg [(.v (.int .i64 0)), (.v (.int .i64 0)), (.v (.int .i64 0)), (.v (.int .i64 0)), (.v (.int .i64 0)), (.v (.int .i64 0)), (.sl [] .zero)]) false (.t 17) (.t 18), none⟩, false, false, []⟩ ::
      ⟨⟨some 20, .call (.c (.f (.func F_many_copied) [] [])) [(.t 19)], none⟩, true, false, [⟨some 13, .load false 1 (.t 3), none⟩]⟩ ::
      ⟨⟨some 21, .bsl 7 [(.t 20)], none⟩, false, false, []⟩ ::
      ⟨⟨some 22, .append 7 72 (.t 13) (.t 21), none⟩, true, false, []⟩ ::
      ⟨⟨none, .store 1 (.t 3) (.t 22), none⟩, true, false, []⟩ ::
      []))))))
 (.seq (.region [
   ⟨some 23, .load false 1 (.t 3), none⟩,
   ⟨some 2, .mov (.t 23), none⟩])
 (.ret)))))
theorem h_many_Many_All : (prog.funcs[F_many_Many_All]?).bind (compFn prog) = some A_many_Many_All := by kernel_rfl
def A_many_Many_Do : AFn := .mk 23 [.tmp 4] (
 .seq (.region [
   ⟨some 4, .mov (.c (.v (.int .i64 0))), none⟩])
 (.seq (.region [
   ⟨some 8, .mov (.t 0), none⟩,
   ⟨some 9, .mov (.t 1), none⟩,
   ⟨some 10, .call (.c (.f (.func F_many_Many_tried) [] [])) [(.t 8), (.t 9)], none⟩,
   ⟨some 7, .mov (.t 10), none⟩,
   ⟨some 11, .extract 0 (.t 7), none⟩,
   ⟨some 12, .extract 1 (.t 7), none⟩,
   ⟨some 5, .mov (.t 11), none⟩,
   ⟨some 6, .mov (.t 12), none⟩])
 (.seq (.seq (.region [
   ⟨some 13, .mov (.t 6), none⟩,
   ⟨some 14, .bin .eql (.t 13) (.c (.v (.int .i64 0))), none⟩])
 (.cond (.t 14)
  (.region [
    ⟨some 15, .mov (.t 0), none⟩,
    ⟨some 16, .mov (.t 5), none⟩,
    ⟨some 17, .nilck (.t 16), none⟩,
    ⟨some 18, .fld 0 (.t 17), none⟩,
    ⟨some 19, .load false 1 (.t 18), none⟩,
    ⟨some 20, .nilck (.t 15), none⟩,
    ⟨some 21, .fld 0 (.t 20), none⟩,
    ⟨none, .store 1 (.t 21) (.t 19), none⟩])
  (.skip)))
 (.seq (.region [
   ⟨some 22, .mov (.t 6), none⟩,
   ⟨some 4, .mov (.t 22), none⟩])
 (.ret)))))
theorem h_many_Many_Do : (prog.funcs[F_many_Many_Do]?).bind (compFn prog) = some A_many_Many_Do := by kernel_rfl
def A_ladelaw7_app : AFn := .mk 13 [.cell true 10 6] (
 .seq (.region [
   ⟨some 6, .alloc [(.v (.int .i64 0)), (.v (.int .i64 0)), (.sl [] .zero), (.v (.int .i64 0)), (.v (.int .i64 0)), (.v (.int .i64 0)), (.v (.int .i64 0)), (.v (.int .i64 0)), (.v (.bool false)), (.v (.bool false))], none⟩])
 (.seq (.region [
   ⟨some 7, .mov (.t 0), none⟩,
   ⟨some 8, .mov (.t 1), none⟩,
   ⟨some 9, .mov (.t 2), none⟩,
   ⟨some 10, .build [(.v (.int .i64 0)), (.v (.int .i64 0)), (.v (.string ⟨#[]⟩))] [(0, 1, (.t 8)), (1, 1, (.c (.v (.int .i64 3)))), (2, 1, (.t 9))], none⟩,
   ⟨some 11, .bsl 3 [(.t 10)], none⟩,
   ⟨some 12, .build [(.v (.int .i64 0)), (.v (.int .i64 0)), (.sl [] .zero), (.v (.int .i64 0)), (.v (.int .i64 0)), (.v (.int .i64 0)), (.v (.int .i64 0)), (.v (.int .i64 0)), (.v (.bool false)), (.v (.bool false))] [(0, 1, (.t 7)), (1, 1, (.c (.v (.int .i64 1)))), (2, 1, (.t 11))], none⟩,
   ⟨none, .store 10 (.t 6) (.t 12), none⟩])
 (.ret)))
theorem h_ladelaw7_app : (prog.funcs[F_ladelaw7_app]?).bind (compFn prog) = some A_ladelaw7_app := by kernel_rfl
def A_many_Many_Settle : AFn := .mk 65 [.tmp 4] (
 .seq (.region [
   ⟨some 4, .mov (.c (.sl [] .zero)), none⟩])
 (.seq (.region [
   ⟨some 10, .mov (.t 0), none⟩,
   ⟨some 11, .call (.c (.f (.func F_many_Many_Copy) [] [])) [(.t 10)], none⟩,
   ⟨some 5, .mov (.t 11), none⟩])
 (.seq (.region [
   ⟨some 12, .mov (.t 1), none⟩,
   ⟨some 13, .len .sl (.t 12), none⟩,
   ⟨some 14, .mksl [(.v (.int .i64 0)), (.v (.int .i64 0)), (.sl [] .zero), (.v (.int .i64 0)), (.v (.int .i64 0)), (.v (.int .i64 0)), (.v (.int .i64 0)), (.v (.int .i64 0)), (.v (.bool false)), (.v (.bool false))] 88 (.t 13), none⟩,
   ⟨some 6, .mov (.t 14), none⟩])
 (.seq (.seq (.region [
   ⟨some 15, .mov (.t 1), none⟩,
   ⟨some 16, .len .sl (.t 15), none⟩,
   ⟨some 17, .mov (.c (.v (.int .i64 0))), none⟩])
 (.block 0 (.loop (.seq (.region [
     ⟨some 18, .bin .lss (.t 17) (.t 16), none⟩])
   (.seq (.cond (.t 18)
    (.skip)
    (.exit 0))
   (.seq (.block 1 (.seq (.region [
      ⟨some 19, .mov (.t 17), none⟩,
      ⟨some 20, .idxp 10 (.t 15) (.t 17), none⟩,
      ⟨some 21, .load true 10 (.t 20), none⟩,
      ⟨some 8, .alloc [(.v (.int .i64 0)), (.v (.int .i64 0)), (.sl [] .zero), (.v (.int .i64 0)), (.v (.int .i64 0)), (.v (.int .i64 0)), (.v (.int .i64 0)), (.v (.int .i64 0)), (.v (.bool false)), (.v (.bool false))], none⟩,
      ⟨some 7, .mov (.t 19), none⟩,
      ⟨none, .store 10 (.t 8) (.t 21), none⟩])
    (.seq (.region [
      ⟨some 22, .mov (.t 6), none⟩,
      ⟨some 23, .mov (.t 7), none⟩,
      ⟨some 24, .load true 10 (.t 8), none⟩,
      ⟨some 25, .idxp 10 (.t 22) (.t 23), none⟩,
      ⟨none, .store 10 (.t 25) (.t 24), none⟩])
    (.seq (.region [
      ⟨some 26, .mov (.t 6), none⟩,
      ⟨some 27, .mov (.t 7), none⟩,
      ⟨some 28, .fld 2 (.t 8), none⟩,
      ⟨some 29, .load false 1 (.t 28), none⟩,
      ⟨some 30, .call (.c (.f (.func F_slices_Clone_Entry) [] [])) [(.t 29)], none⟩,
      ⟨some 31, .idxp 10 (.t 26) (.t 27), none⟩,
      ⟨some 32, .fld 2 (.t 31), none⟩,
      ⟨none, .store 1 (.t 32) (.t 30), none⟩])
    (.seq (.draw (
      ⟨⟨some 33, .mov (.t 5), none⟩, false, true, []⟩ ::
      ⟨⟨some 34, .nilck (.t 33), none⟩, false, true, []⟩ ::
      ⟨⟨some 35, .fld 0 (.t 34), none⟩, false, true, []⟩ ::
      ⟨⟨some 36, .load false 1 (.t 35), none⟩, false, true, []⟩ ::
      ⟨⟨some 37, .fld 0 (.t 8), none⟩, false, true, []⟩ ::
      ⟨⟨some 38, .load false 1 (.t 37), none⟩, false, true, []⟩ ::
      ⟨⟨some 39, .lookup .int (.agg [(.v (.int .i64 0)), (.v (.int .i64 0)), (.v (.int .i64 0)), (.v (.int .i64 0)), (.v (.int .i64 0)), (.v (.int .i64 0)), (.sl [] .zero)]) false (.t 36) (.t 38), none⟩, false, true, []⟩ ::
      ⟨⟨some 9, .alloc [(.v (.int .i64 0)), (.v (.int .i64 0)), (.v (.int .i64 0)), (.v (.int .i64 0)), (.v (.int .i64 0)), (.v (.int .i64 0)), (.sl [] .zero)], none⟩, true, false, [⟨some 39, .lookup .int (.agg [(.v (.int .i64 0)), (.v (.int .i64 0)), (.v (.int .i64 0)), (.v (.int .i64 0)), (.v (.int .i64 0)), (.v (.int .i64 0)), (.sl [] .zero)]) false (.t 36) (.t 38), none⟩, ⟨some 38, .load false 1 (.t 37), none⟩, ⟨some 36, .load false 1 (.t 35), none⟩]⟩ ::
      ⟨⟨none, .store 7 (.t 9) (.t 39), none⟩, true, false, []⟩ ::
      []))
    (.seq (.seq (.region [
      ⟨some 40, .load true 10 (.t 8), none⟩,
      ⟨some 41, .call (.c (.f (.func F_part_Is) [] [])) [(.t 40)], none⟩,
      ⟨some 42, .un .not (.t 41), none⟩,
      ⟨some 43, .mov (.t 42), none⟩,
      ⟨some 44, .fld 1 (.t 8), some (43, false)⟩,
      ⟨some 45, .load false 1 (.t 44), some (43, false)⟩,
      ⟨some 46, .bin .eql (.t 45) (.c (.v (.int .i64 6))), some (43, false)⟩,
      ⟨some 47, .pick (.t 43) (.c (.v (.bool true))) (.t 46), none⟩,
      ⟨some 48, .mov (.t 47), none⟩,
      ⟨some 49, .mov (.t 5), some (48, false)⟩,
      ⟨some 50, .load true 10 (.t 8), some (48, false)⟩,
      ⟨some 51, .call (.c (.f (.func F_many_Many_one) [] [])) [(.t 49), (.t 50)], some (48, false)⟩,
      ⟨some 52, .bin .neq (.t 51) (.c (.v (.int .i64 0))), some (48, false)⟩,
      ⟨some 53, .pick (.t 48) (.c (.v (.bool true))) (.t 52), none⟩])
    (.cond (.t 53)
     (.exit 1)
     (.skip)))
    (.region [
      ⟨some 54, .mov (.t 6), none⟩,
      ⟨some 55, .mov (.t 7), none⟩,
      ⟨some 56, .load true 7 (.t 9), none⟩,
      ⟨some 57, .mov (.t 6), none⟩,
      ⟨some 58, .mov (.t 7), none⟩,
      ⟨some 59, .idxp 10 (.t 57) (.t 58), none⟩,
      ⟨some 60, .load true 10 (.t 59), none⟩,
      ⟨some 61, .call (.c (.f (.func F_many_settled) [] [])) [(.t 56), (.t 60)], none⟩,
      ⟨some 62, .idxp 10 (.t 54) (.t 55), none⟩,
      ⟨none, .store 10 (.t 62) (.t 61), none⟩])))))))
   (.region [
     ⟨some 63, .bin .add (.t 17) (.c (.v (.int .i64 1))), none⟩,
     ⟨some 17, .mov (.t 63), none⟩])))))))
 (.seq (.region [
   ⟨some 64, .mov (.t 6), none⟩,
   ⟨some 4, .mov (.t 64), none⟩])
 (.ret))))))
theorem h_many_Many_Settle : (prog.funcs[F_many_Many_Settle]?).bind (compFn prog) = some A_many_Many_Settle := by kernel_rfl
def A_cut_states : AFn := .mk 6 [.tmp 4] (
 .seq (.region [
   ⟨some 2, .box (.t 0), none⟩,
   ⟨some 3, .box (.t 1), none⟩,
   ⟨some 4, .mov (.c (.v .nilFunc)), none⟩])
 (.seq (.region [
   ⟨some 5, .mkf (.func F_cut_states_1) [] [(.t 2), (.t 3)], none⟩,
   ⟨some 4, .mov (.t 5), none⟩])
 (.ret)))
theorem h_cut_states : (prog.funcs[F_cut_states]?).bind (compFn prog) = some A_cut_states := by kernel_rfl
end Go.Proofs.Ytmfhchaoijiodaa
end
section
namespace Go.Proofs.Ytmfhchaoijiodaa
open Go.Ab
set_option maxRecDepth 100000
def A_slices_EqualFunc_Group : AFn := .mk 32 [.tmp 6] (
 .seq (.region [
   ⟨some 6, .mov (.c (.v (.bool false))), none⟩])
 (.seq (.seq (.region [
   ⟨some 10, .mov (.t 0), none⟩,
   ⟨some 11, .len .sl (.t 10), none⟩,
   ⟨some 12, .mov (.t 1), none⟩,
   ⟨some 13, .len .sl (.t 12), none⟩,
   ⟨some 14, .bin .neq (.t 11) (.t 13), none⟩])
 (.cond (.t 14)
  (.seq (.region [
    ⟨some 6, .mov (.c (.v (.bool false))), none⟩])
  (.ret))
  (.skip)))
 (.seq (.seq (.region [
   ⟨some 15, .mov (.t 0), none⟩,
   ⟨some 16, .len .sl (.t 15), none⟩,
   ⟨some 17, .mov (.c (.v (.int .i64 0))), none⟩])
 (.block 0 (.loop (.seq (.region [
     ⟨some 18, .bin .lss (.t 17) (.t 16), none⟩])
   (.seq (.cond (.t 18)
    (.skip)
    (.exit 0))
   (.seq (.block 1 (.seq (.region [
      ⟨some 19, .mov (.t 17), none⟩,
      ⟨some 20, .idxp 7 (.t 15) (.t 17), none⟩,
      ⟨some 21, .load true 7 (.t 20), none⟩,
      ⟨some 8, .alloc [(.v (.int .i64 0)), (.v (.int .i64 0)), (.v (.int .i64 0)), (.v (.int .i64 0)), (.v (.int .i64 0)), (.v (.int .i64 0)), (.sl [] .zero)], none⟩,
      ⟨some 7, .mov (.t 19), none⟩,
      ⟨none, .store 7 (.t 8) (.t 21), none⟩])
    (.seq (.region [
      ⟨some 22, .mov (.t 1), none⟩,
      ⟨some 23, .mov (.t 7), none⟩,
      ⟨some 24, .idxp 7 (.t 22) (.t 23), none⟩,
      ⟨some 25, .load true 7 (.t 24), none⟩,
      ⟨some 9, .alloc [(.v (.int .i64 0)), (.v (.int .i64 0)), (.v (.int .i64 0)), (.v (.int .i64 0)), (.v (.int .i64 0)), (.v (.int .i64 0)), (.sl [] .zero)], none⟩,
      ⟨none, .store 7 (.t 9) (.t 25), none⟩])
    (.seq (.region [
      ⟨some 26, .mov (.t 2), none⟩,
      ⟨some 27, .load true 7 (.t 8), none⟩,
      ⟨some 28, .load true 7 (.t 9), none⟩,
      ⟨some 29, .call (.t 26) [(.t 27), (.t 28)], none⟩,
      ⟨some 30, .un .not (.t 29), none⟩])
    (.cond (.t 30)
     (.seq (.region [
       ⟨some 6, .mov (.c (.v (.bool false))), none⟩])
     (.ret))
     (.skip))))))
   (.region [
     ⟨some 31, .bin .add (.t 17) (.c (.v (.int .i64 1))), none⟩,
     ⟨some 17, .mov (.t 31), none⟩])))))))
 (.seq (.region [
   ⟨some 6, .mov (.c (.v (.bool true))), none⟩])
 (.ret)))))
theorem h_slices_EqualFunc_Group : (prog.funcs[F_slices_EqualFunc_Group]?).bind (compFn prog) = some A_slices_EqualFunc_Group := by kernel_rfl
def A_group_Same : AFn := .mk 38 [.tmp 4] (
 .seq (.region [
   ⟨some 2, .box (.t 0), none⟩,
   ⟨some 3, .box (.t 1), none⟩,
   ⟨some 4, .mov (.c (.v (.bool false))), none⟩])
 (.seq (.region [
   ⟨some 5, .fld 0 (.t 2), none⟩,
   ⟨some 6, .load false 1 (.t 5), none⟩,
   ⟨some 7, .fld 0 (.t 3), none⟩,
   ⟨some 8, .load false 1 (.t 7), none⟩,
   ⟨some 9, .bin .eql (.t 6) (.t 8), none⟩,
   ⟨some 10, .mov (.t 9), none⟩,
   ⟨some 11, .fld 1 (.t 2), some (10, true)⟩,
   ⟨some 12, .load false 1 (.t 11), some (10, true)⟩,
   ⟨some 13, .fld 1 (.t 3), some (10, true)⟩,
   ⟨some 14, .load false 1 (.t 13), some (10, true)⟩,
   ⟨some 15, .bin .eql (.t 12) (.t 14), some (10, true)⟩,
   ⟨some 16, .pick (.t 10) (.t 15) (.c (.v (.bool false))), none⟩,
   ⟨some 17, .mov (.t 16), none⟩,
   ⟨some 18, .fld 2 (.t 2), some (17, true)⟩,
   ⟨some 19, .load false 1 (.t 18), some (17, true)⟩,
   ⟨some 20, .fld 2 (.t 3), some (17, true)⟩,
   ⟨some 21, .load false 1 (.t 20), some (17, true)⟩,
   ⟨some 22, .bin .eql (.t 19) (.t 21), some (17, true)⟩,
   ⟨some 23, .pick (.t 17) (.t 22) (.c (.v (.bool false))), none⟩,
   ⟨some 24, .mov (.t 23), none⟩,
   ⟨some 25, .fld 3 (.t 2), some (24, true)⟩,
   ⟨some 26, .load true 3 (.t 25), some (24, true)⟩,
   ⟨some 27, .fld 3 (.t 3), some (24, true)⟩,
   ⟨some 28, .load true 3 (.t 27), some (24, true)⟩,
   ⟨some 29, .eqa false (.agg [.i, .i, .i]) (.t 26) (.t 28), some (24, true)⟩,
   ⟨some 30, .pick (.t 24) (.t 29) (.c (.v (.bool false))), none⟩,
   ⟨some 31, .mov (.t 30), none⟩,
   ⟨some 32, .fld 6 (.t 2), some (31, true)⟩,
   ⟨some 33, .load false 1 (.t 32), some (31, true)⟩,
   ⟨some 34, .fld 6 (.t 3), some (31, true)⟩,
   ⟨some 35, .load false 1 (.t 34), some (31, true)⟩,
   ⟨some 36, .call (.c (.f (.func F_slices_Equal_Entry) [] [])) [(.t 33), (.t 35)], some (31, true)⟩,
   ⟨some 37, .pick (.t 31) (.t 36) (.c (.v (.bool false))), none⟩,
   ⟨some 4, .mov (.t 37), none⟩])
 (.ret)))
theorem h_group_Same : (prog.funcs[F_group_Same]?).bind (compFn prog) = some A_group_Same := by kernel_rfl
def A_slices_Values_int : AFn := .mk 4 [.tmp 2] (
 .seq (.region [
   ⟨some 1, .box (.t 0), none⟩,
   ⟨some 2, .mov (.c (.v .nilFunc)), none⟩])
 (.seq (.region [
   ⟨some 3, .mkf (.func F_slices_Values_int_1) [] [(.t 1)], none⟩,
   ⟨some 2, .mov (.t 3), none⟩])
 (.ret)))
theorem h_slices_Values_int : (prog.funcs[F_slices_Values_int]?).bind (compFn prog) = some A_slices_Values_int := by kernel_rfl
def A_maps_Keys_Group : AFn := .mk 4 [.tmp 2] (
 .seq (.region [
   ⟨some 1, .box (.t 0), none⟩,
   ⟨some 2, .mov (.c (.v .nilFunc)), none⟩])
 (.seq (.region [
   ⟨some 3, .mkf (.func F_maps_Keys_Group_1) [] [(.t 1)], none⟩,
   ⟨some 2, .mov (.t 3), none⟩])
 (.ret)))
theorem h_maps_Keys_Group : (prog.funcs[F_maps_Keys_Group]?).bind (compFn prog) = some A_maps_Keys_Group := by kernel_rfl
def A_many_copied : AFn := .mk 8 [.cell true 7 2] (
 .seq (.region [
   ⟨some 1, .box (.t 0), none⟩,
   ⟨some 2, .alloc [(.v (.int .i64 0)), (.v (.int .i64 0)), (.v (.int .i64 0)), (.v (.int .i64 0)), (.v (.int .i64 0)), (.v (.int .i64 0)), (.sl [] .zero)], none⟩])
 (.seq (.region [
   ⟨some 3, .fld 6 (.t 1), none⟩,
   ⟨some 4, .load false 1 (.t 3), none⟩,
   ⟨some 5, .call (.c (.f (.func F_slices_Clone_Entry) [] [])) [(.t 4)], none⟩,
   ⟨some 6, .fld 6 (.t 1), none⟩,
   ⟨none, .store 1 (.t 6) (.t 5), none⟩])
 (.seq (.region [
   ⟨some 7, .load true 7 (.t 1), none⟩,
   ⟨none, .store 7 (.t 2) (.t 7), none⟩])
 (.ret))))
theorem h_many_copied : (prog.funcs[F_many_copied]?).bind (compFn prog) = some A_many_copied := by kernel_rfl
def A_many_Many_Copy : AFn := .mk 10 [.tmp 2] (
 .seq (.region [
   ⟨some 2, .mov (.c (.v (.pointer none))), none⟩])
 (.seq (.region [
   ⟨some 3, .mov (.t 0), none⟩,
   ⟨some 4, .nilck (.t 3), none⟩,
   ⟨some 5, .fld 0 (.t 4), none⟩,
   ⟨some 6, .load false 1 (.t 5), none⟩,
   ⟨some 7, .call (.c (.f (.func F_maps_Clone_Group) [] [])) [(.t 6)], none⟩,
   ⟨some 8, .build [(.v (.map none))] [(0, 1, (.t 7))], none⟩,
   ⟨some 9, .box (.t 8), none⟩,
   ⟨some 2, .mov (.t 9), none⟩])
 (.ret)))
theorem h_many_Many_Copy : (prog.funcs[F_many_Many_Copy]?).bind (compFn prog) = some A_many_Many_Copy := by kernel_rfl
def A_many_Many_tried : AFn := .mk 28 [.cell false 1 4, .cell false 1 5] (
 .seq (.region [
   ⟨some 4, .alloc [(.v (.pointer none))], none⟩,
   ⟨some 5, .alloc [(.v (.int .i64 0))], none⟩])
 (.seq (.seq (.region [
   ⟨some 10, .mov (.t 0), none⟩,
   ⟨some 11, .mov (.t 1), none⟩,
   ⟨some 12, .call (.c (.f (.func F_many_Many_wrong) [] [])) [(.t 10), (.t 11)], none⟩,
   ⟨some 6, .mov (.t 12), none⟩])
 (.seq (.region [
   ⟨some 13, .mov (.t 6), none⟩,
   ⟨some 14, .bin .neq (.t 13) (.c (.v (.int .i64 0))), none⟩])
 (.cond (.t 14)
  (.seq (.region [
    ⟨some 15, .mov (.t 6), none⟩,
    ⟨none, .store 1 (.t 4) (.c (.v (.pointer none))), none⟩,
    ⟨none, .store 1 (.t 5) (.t 15), none⟩])
  (.ret))
  (.skip))))
 (.seq (.region [
   ⟨some 16, .mov (.t 0), none⟩,
   ⟨some 17, .call (.c (.f (.func F_many_Many_Copy) [] [])) [(.t 16)], none⟩,
   ⟨some 7, .alloc [(.v (.pointer none))], none⟩,
   ⟨none, .store 1 (.t 7) (.t 17), none⟩])
 (.seq (.seq (.region [
   ⟨some 18, .mov (.t 1), none⟩,
   ⟨some 19, .call (.c (.f (.func F_slices_Values_Part) [] [])) [(.t 18)], none⟩])
 (.block 0 (.range (.t 19) [20]
   (.region [
     ⟨some 8, .alloc [(.v (.int .i64 0)), (.v (.int .i64 0)), (.sl [] .zero), (.v (.int .i64 0)), (.v (.int .i64 0)), (.v (.int .i64 0)), (.v (.int .i64 0)), (.v (.int .i64 0)), (.v (.bool false)), (.v (.bool false))], none⟩,
     ⟨none, .store 10 (.t 8) (.t 20), none⟩])
   (.block 1 (.seq (.region [
      ⟨some 21, .load false 1 (.t 7), none⟩,
      ⟨some 22, .load true 10 (.t 8), none⟩,
      ⟨some 23, .call (.c (.f (.func F_many_Many_one) [] [])) [(.t 21), (.t 22)], none⟩,
      ⟨some 9, .mov (.t 23), none⟩])
    (.seq (.region [
      ⟨some 24, .mov (.t 9), none⟩,
      ⟨some 25, .bin .neq (.t 24) (.c (.v (.int .i64 0))), none⟩])
    (.cond (.t 25)
     (.seq (.region [
       ⟨some 26, .mov (.t 9), none⟩,
       ⟨none, .store 1 (.t 4) (.c (.v (.pointer none))), none⟩,
       ⟨none, .store 1 (.t 5) (.t 26), none⟩])
     (.ret))
     (.skip))))))))
 (.seq (.region [
   ⟨some 27, .load false 1 (.t 7), none⟩,
   ⟨none, .store 1 (.t 4) (.t 27), none⟩,
   ⟨none, .store 1 (.t 5) (.c (.v (.int .i64 0))), none⟩])
 (.ret))))))
theorem h_many_Many_tried : (prog.funcs[F_many_Many_tried]?).bind (compFn prog) = some A_many_Many_tried := by kernel_rfl
def A_slices_Clone_Entry : AFn := .mk 8 [.tmp 2] (
 .seq (.region [
   ⟨some 2, .mov (.c (.sl [] .zero)), none⟩])
 (.seq (.seq (.region [
   ⟨some 3, .mov (.t 0), none⟩,
   ⟨some 4, .isnil false (.t 3), none⟩])
 (.cond (.t 4)
  (.seq (.region [
    ⟨some 2, .mov (.c (.sl [] .zero)), none⟩])
  (.ret))
  (.skip)))
 (.seq (.region [
   ⟨some 5, .bsl 3 [], none⟩,
   ⟨some 6, .mov (.t 0), none⟩,
   ⟨some 7, .append 3 32 (.t 5) (.t 6), none⟩,
   ⟨some 2, .mov (.t 7), none⟩])
 (.ret))))
theorem h_slices_Clone_Entry : (prog.funcs[F_slices_Clone_Entry]?).bind (compFn prog) = some A_slices_Clone_Entry := by kernel_rfl
def A_part_Is : AFn := .mk 87 [.tmp 2] (
 .seq (.region [
   ⟨some 1, .box (.t 0), none⟩,
   ⟨some 2, .mov (.c (.v (.bool false))), none⟩])
 (.seq (.seq (.draw (
   ⟨⟨some 4, .fld 0 (.t 1), none⟩, false, false, []⟩ ::
   ⟨⟨some 5, .load false 1 (.t 4), none⟩, false, false, []⟩ ::
   ⟨⟨some 6, .call (.c (.f (.func F_part_between) [] [])) [(.t 5), (.c (.v (.int .i64 0))), (.c (.v (.int .i64 999)))], none⟩, true, false, []⟩ ::
   ⟨⟨some 7, .un .not (.t 6), none⟩, false, false, []⟩ ::
   ⟨⟨some 8, .mov (.t 7), none⟩, false, false, []⟩ ::
   ⟨⟨some 9, .load true 10 (.t 1), some (8, false)⟩, false, true, []⟩ ::
   ⟨⟨some 10, .load true 10 (.t 1), some (8, false)⟩, false, false, []⟩ ::
   ⟨⟨some 11, .call (.c (.f (.func F_part_core) [] [])) [(.t 10)], some (8, false)⟩, true, false, [⟨some 9, .load true 10 (.t 1), some (8, false)⟩]⟩ ::
   ⟨⟨some 12, .call (.c (.f (.func F_part_Same) [] [])) [(.t 9), (.t 11)], some (8, false)⟩, true, false, []⟩ ::
   ⟨⟨some 13, .un .not (.t 12), some (8, false)⟩, false, false, []⟩ ::
   ⟨⟨some 14, .pick (.t 8) (.c (.v (.bool true))) (.t 13), none⟩, false, false, []⟩ ::
   []))
 (.cond (.t 14)
  (.seq (.region [
    ⟨some 2, .mov (.c (.v (.bool false))), none⟩])
  (.ret))
  (.skip)))
 (.seq (.seq (.region [
   ⟨some 15, .fld 1 (.t 1), none⟩,
   ⟨some 16, .load false 1 (.t 15), none⟩])
 (.block 0 (.seq (.region [
    ⟨some 18, .bin .eql (.t 16) (.c (.v (.int .i64 1))), none⟩,
    ⟨some 17, .mov (.t 18), none⟩])
  (.cond (.t 17)
   (.seq (.region [
     ⟨some 19, .fld 2 (.t 1), none⟩,
     ⟨some 20, .load false 1 (.t 19), none⟩,
     ⟨some 21, .len .sl (.t 20), none⟩,
     ⟨some 22, .bin .gtr (.t 21) (.c (.v (.int .i64 0))), none⟩,
     ⟨some 23, .mov (.t 22), none⟩,
     ⟨some 24, .fld 2 (.t 1), some (23, true)⟩,
     ⟨some 25, .load false 1 (.t 24), some (23, true)⟩,
     ⟨some 26, .call (.c (.f (.func F_part_rising) [] [])) [(.t 25), (.c (.v (.bool true)))], some (23, true)⟩,
     ⟨some 27, .pick (.t 23) (.t 26) (.c (.v (.bool false))), none⟩,
     ⟨some 2, .mov (.t 27), none⟩])
   (.ret))
   (.seq (.region [
     ⟨some 29, .bin .eql (.t 16) (.c (.v (.int .i64 2))), none⟩,
     ⟨some 28, .mov (.t 29), none⟩])
   (.cond (.t 28)
    (.seq (.region [
      ⟨some 30, .fld 3 (.t 1), none⟩,
      ⟨some 31, .load true 3 (.t 30), none⟩,
      ⟨some 32, .call (.c (.f (.func F_part_IsHard) [] [])) [(.t 31)], none⟩,
      ⟨some 2, .mov (.t 32), none⟩])
    (.ret))
    (.seq (.region [
      ⟨some 34, .bin .eql (.t 16) (.c (.v (.int .i64 3))), none⟩,
      ⟨some 33, .mov (.t 34), none⟩])
    (.cond (.t 33)
     (.seq (.region [
       ⟨some 35, .fld 6 (.t 1), none⟩,
       ⟨some 36, .load false 1 (.t 35), none⟩,
       ⟨some 37, .fld 7 (.t 1), none⟩,
       ⟨some 38, .load false 1 (.t 37), none⟩,
       ⟨some 39, .call (.c (.f (.func F_part_isMark) [] [])) [(.t 36), (.t 38), (.c (.v (.int .i64 0)))], none⟩,
       ⟨some 2, .mov (.t 39), none⟩])
     (.ret))
     (.seq (.region [
       ⟨some 41, .bin .eql (.t 16) (.c (.v (.int .i64 4))), none⟩,
       ⟨some 40, .mov (.t 41), none⟩])
     (.cond (.t 40)
      (.seq (.region [
        ⟨some 42, .fld 6 (.t 1), none⟩,
        ⟨some 43, .load false 1 (.t 42), none⟩,
        ⟨some 44, .fld 7 (.t 1), none⟩,
        ⟨some 45, .load false 1 (.t 44), none⟩,
        ⟨some 46, .call (.c (.f (.func F_part_isMark) [] [])) [(.t 43), (.t 45), (.c (.v (.int .i64 1)))], none⟩,
        ⟨some 2, .mov (.t 46), none⟩])
      (.ret))
      (.seq (.region [
        ⟨some 48, .bin .eql (.t 16) (.c (.v (.int .i64 6))), none⟩,
        ⟨some 47, .mov (.t 48), none⟩])
      (.cond (.t 47)
       (.seq (.region [
         ⟨some 49, .fld 8 (.t 1), none⟩,
         ⟨some 50, .load false 1 (.t 49), none⟩,
         ⟨some 51, .mov (.t 50), none⟩,
         ⟨some 52, .fld 9 (.t 1), some (51, false)⟩,
         ⟨some 53, .load false 1 (.t 52), some (51, false)⟩,
         ⟨some 54, .pick (.t 51) (.c (.v (.bool true))) (.t 53), none⟩,
         ⟨some 55, .mov (.t 54), none⟩,
         ⟨some 56, .fld 2 (.t 1), some (55, false)⟩,
         ⟨some 57, .load false 1 (.t 56), some (55, false)⟩,
         ⟨some 58, .len .sl (.t 57), some (55, false)⟩,
         ⟨some 59, .bin .gtr (.t 58) (.c (.v (.int .i64 0))), some (55, false)⟩,
         ⟨some 60, .pick (.t 55) (.c (.v (.bool true))) (.t 59), none⟩,
         ⟨some 3, .mov (.t 60), none⟩])
       (.seq (.region [
         ⟨some 61, .mov (.t 3), none⟩,
         ⟨some 62, .mov (.t 61), none⟩,
         ⟨some 63, .fld 2 (.t 1), some (62, true)⟩,
         ⟨some 64, .load false 1 (.t 63), some (62, true)⟩,
         ⟨some 65, .call (.c (.f (.func F_part_rising) [] [])) [(.t 64), (.c (.v (.bool false)))], some (62, true)⟩,
         ⟨some 66, .pick (.t 62) (.t 65) (.c (.v (.bool false))), none⟩,
         ⟨some 67, .mov (.t 66), none⟩,
         ⟨some 68, .fld 8 (.t 1), some (67, true)⟩,
         ⟨some 69, .load false 1 (.t 68), some (67, true)⟩,
         ⟨some 70, .un .not (.t 69), some (67, true)⟩,
         ⟨some 71, .mov (.t 70), some (67, true)⟩,
         ⟨some 72, .fld 6 (.t 1), some (71, false)⟩,
         ⟨some 73, .load false 1 (.t 72), some (71, false)⟩,
         ⟨some 74, .fld 7 (.t 1), some (71, false)⟩,
         ⟨some 75, .load false 1 (.t 74), some (71, false)⟩,
         ⟨some 76, .call (.c (.f (.func F_part_isMark) [] [])) [(.t 73), (.t 75), (.c (.v (.int .i64 1)))], some (71, false)⟩,
         ⟨some 77, .pick (.t 71) (.c (.v (.bool true))) (.t 76), some (67, true)⟩,
         ⟨some 78, .pick (.t 67) (.t 77) (.c (.v (.bool false))), none⟩,
         ⟨some 79, .mov (.t 78), none⟩,
         ⟨some 80, .fld 3 (.t 1), some (79, true)⟩,
         ⟨some 81, .load true 3 (.t 80), some (79, true)⟩,
         ⟨some 82, .call (.c (.f (.func F_part_IsHard) [] [])) [(.t 81)], some (79, true)⟩,
         ⟨some 83, .pick (.t 79) (.t 82) (.c (.v (.bool false))), none⟩,
         ⟨some 2, .mov (.t 83), none⟩])
       (.ret)))
       (.skip)))))))))))))
 (.seq (.region [
   ⟨some 84, .fld 1 (.t 1), none⟩,
   ⟨some 85, .load false 1 (.t 84), none⟩,
   ⟨some 86, .bin .eql (.t 85) (.c (.v (.int .i64 5))), none⟩,
   ⟨some 2, .mov (.t 86), none⟩])
 (.ret)))))
theorem h_part_Is : (prog.funcs[F_part_Is]?).bind (compFn prog) = some A_part_Is := by kernel_rfl
def A_many_Many_one : AFn := .mk 64 [.tmp 4] (
 .seq (.region [
   ⟨some 3, .box (.t 1), none⟩,
   ⟨some 4, .mov (.c (.v (.int .i64 0))), none⟩])
 (.seq (.draw (
   ⟨⟨some 10, .mov (.t 0), none⟩, false, true, []⟩ ::
   ⟨⟨some 11, .nilck (.t 10), none⟩, false, true, []⟩ ::
   ⟨⟨some 12, .fld 0 (.t 11), none⟩, false, true, []⟩ ::
   ⟨⟨some 13, .load false 1 (.t 12), none⟩, false, true, []⟩ ::
   ⟨⟨some 14, .fld 0 (.t 3), none⟩, false, true, []⟩ ::
   ⟨⟨some 15, .load false 1 (.t 14), none⟩, false, true, []⟩ ::
   ⟨⟨some 16, .lookup .int (.agg [(.v (.int .i64 0)), (.v (.int .i64 0)), (.v (.int .i64 0)), (.v (.int .i64 0)), (.v (.int .i64 0)), (.v (.int .i64 0)), (.sl [] .zero)]) true (.t 13) (.t 15), none⟩, false, true, []⟩ ::
   ⟨⟨some 9, .mov (.t 16), none⟩, false, true, []⟩ ::
   ⟨⟨some 17, .extract 0 (.t 9), none⟩, false, true, []⟩ ::
   ⟨⟨some 18, .extract 1 (.t 9), none⟩, false, true, []⟩ ::
   ⟨⟨some 5, .alloc [(.v (.int .i64 0)), (.v (.int .i64 0)), (.v (.int .i64 0)), (.v (.int .i64 0)), (.v (.int .i64 0)), (.v (.int .i64 0)), (.sl [] .zero)], none⟩, true, false, [⟨some 16, .lookup .int (.agg [(.v (.int .i64 0)), (.v (.int .i64 0)), (.v (.int .i64 0)), (.v (.int .i64 0)), (.v (.int .i64 0)), (.v (.int .i64 0)), (.sl [] .zero)]) true (.t 13) (.t 15), none⟩, ⟨some 15, .load false 1 (.t 14), none⟩, ⟨some 13, .load false 1 (.t 12), none⟩]⟩ ::
   ⟨⟨none, .store 7 (.t 5) (.t 17), none⟩, true, false, []⟩ ::
   ⟨⟨some 6, .mov (.t 18), none⟩, false, false, []⟩ ::
   []))
 (.seq (.block 0 (.seq (.region [
    ⟨some 20, .mov (.t 6), none⟩,
    ⟨some 21, .un .not (.t 20), none⟩,
    ⟨some 22, .mov (.t 21), none⟩,
    ⟨some 23, .fld 1 (.t 3), some (22, true)⟩,
    ⟨some 24, .load false 1 (.t 23), some (22, true)⟩,
    ⟨some 25, .bin .eql (.t 24) (.c (.v (.int .i64 3))), some (22, true)⟩,
    ⟨some 26, .mov (.t 25), some (22, true)⟩,
    ⟨some 27, .fld 1 (.t 3), some (26, false)⟩,
    ⟨some 28, .load false 1 (.t 27), some (26, false)⟩,
    ⟨some 29, .bin .eql (.t 28) (.c (.v (.int .i64 5))), some (26, false)⟩,
    ⟨some 30, .pick (.t 26) (.c (.v (.bool true))) (.t 29), some (22, true)⟩,
    ⟨some 31, .pick (.t 22) (.t 30) (.c (.v (.bool false))), none⟩,
    ⟨some 19, .mov (.t 31), none⟩])
  (.cond (.t 19)
   (.seq (.region [
     ⟨some 4, .mov (.c (.v (.int .i64 13))), none⟩])
   (.ret))
   (.seq (.region [
     ⟨some 33, .fld 1 (.t 3), none⟩,
     ⟨some 34, .load false 1 (.t 33), none⟩,
     ⟨some 35, .bin .eql (.t 34) (.c (.v (.int .i64 5))), none⟩,
     ⟨some 32, .mov (.t 35), none⟩])
   (.cond (.t 32)
    (.seq (.region [
      ⟨some 36, .mov (.t 0), none⟩,
      ⟨some 37, .nilck (.t 36), none⟩,
      ⟨some 38, .fld 0 (.t 37), none⟩,
      ⟨some 39, .load false 1 (.t 38), none⟩,
      ⟨some 40, .fld 0 (.t 3), none⟩,
      ⟨some 41, .load false 1 (.t 40), none⟩,
      ⟨none, .mapdel .int (.t 39) (.t 41), none⟩])
    (.seq (.region [
      ⟨some 4, .mov (.c (.v (.int .i64 0))), none⟩])
    (.ret)))
    (.seq (.region [
      ⟨some 43, .mov (.t 6), none⟩,
      ⟨some 44, .un .not (.t 43), none⟩,
      ⟨some 42, .mov (.t 44), none⟩])
    (.cond (.t 42)
     (.region [
       ⟨some 45, .fld 0 (.t 3), none⟩,
       ⟨some 46, .load false 1 (.t 45), none⟩,
       ⟨some 47, .call (.c (.f (.func F_group_New) [] [])) [(.t 46)], none⟩,
       ⟨none, .store 7 (.t 5) (.t 47), none⟩])
     (.skip))))))))
 (.seq (.region [
   ⟨some 49, .load true 7 (.t 5), none⟩,
   ⟨some 50, .load true 10 (.t 3), none⟩,
   ⟨some 51, .call (.c (.f (.func F_group_Do) [] [])) [(.t 49), (.t 50)], none⟩,
   ⟨some 48, .mov (.t 51), none⟩,
   ⟨some 52, .extract 0 (.t 48), none⟩,
   ⟨some 53, .extract 1 (.t 48), none⟩,
   ⟨some 7, .alloc [(.v (.int .i64 0)), (.v (.int .i64 0)), (.v (.int .i64 0)), (.v (.int .i64 0)), (.v (.int .i64 0)), (.v (.int .i64 0)), (.sl [] .zero)], none⟩,
   ⟨none, .store 7 (.t 7) (.t 52), none⟩,
   ⟨some 8, .mov (.t 53), none⟩])
 (.seq (.seq (.region [
   ⟨some 54, .mov (.t 8), none⟩,
   ⟨some 55, .bin .eql (.t 54) (.c (.v (.int .i64 0))), none⟩])
 (.cond (.t 55)
  (.region [
    ⟨some 56, .mov (.t 0), none⟩,
    ⟨some 57, .nilck (.t 56), none⟩,
    ⟨some 58, .fld 0 (.t 57), none⟩,
    ⟨some 59, .load false 1 (.t 58), none⟩,
    ⟨some 60, .fld 0 (.t 3), none⟩,
    ⟨some 61, .load false 1 (.t 60), none⟩,
    ⟨some 62, .load true 7 (.t 7), none⟩,
    ⟨none, .mapset .int (.t 59) (.t 61) (.t 62), none⟩])
  (.skip)))
 (.seq (.region [
   ⟨some 63, .mov (.t 8), none⟩,
   ⟨some 4, .mov (.t 63), none⟩])
 (.ret)))))))
theorem h_many_Many_one : (prog.funcs[F_many_Many_one]?).bind (compFn prog) = some A_many_Many_one := by kernel_rfl
def A_many_settled : AFn := .mk 32 [.cell true 10 4] (
 .seq (.region [
   ⟨some 2, .box (.t 0), none⟩,
   ⟨some 3, .box (.t 1), none⟩,
   ⟨some 4, .alloc [(.v (.int .i64 0)), (.v (.int .i64 0)), (.sl [] .zero), (.v (.int .i64 0)), (.v (.int .i64 0)), (.v (.int .i64 0)), (.v (.int .i64 0)), (.v (.int .i64 0)), (.v (.bool false)), (.v (.bool false))], none⟩])
 (.seq (.seq (.region [
   ⟨some 6, .load true 7 (.t 2), none⟩,
   ⟨some 7, .fld 6 (.t 3), none⟩,
   ⟨some 8, .load false 1 (.t 7), none⟩,
   ⟨some 9, .fld 6 (.t 3), none⟩,
   ⟨some 10, .load false 1 (.t 9), none⟩,
   ⟨some 11, .bin .add (.t 10) (.c (.v (.int .i64 1))), none⟩,
   ⟨some 12, .call (.c (.f (.func F_group_Within) [] [])) [(.t 6), (.t 8), (.t 11)], none⟩])
 (.block 0 (.range (.t 12) [13]
   (.region [
     ⟨some 5, .alloc [(.v (.int .i64 0)), (.v (.int .i64 0)), (.v (.string ⟨#[]⟩))], none⟩,
     ⟨none, .store 3 (.t 5) (.t 13), none⟩])
   (.block 1 (.seq (.seq (.region [
      ⟨some 14, .fld 1 (.t 3), none⟩,
      ⟨some 15, .load false 1 (.t 14), none⟩,
      ⟨some 16, .bin .eql (.t 15) (.c (.v (.int .i64 3))), none⟩])
    (.cond (.t 16)
     (.region [
       ⟨some 17, .fld 1 (.t 5), none⟩,
       ⟨some 18, .load false 1 (.t 17), none⟩,
       ⟨some 19, .fld 7 (.t 3), none⟩,
       ⟨none, .store 1 (.t 19) (.t 18), none⟩])
     (.skip)))
    (.seq (.region [
      ⟨some 20, .fld 1 (.t 3), none⟩,
      ⟨some 21, .load false 1 (.t 20), none⟩,
      ⟨some 22, .bin .eql (.t 21) (.c (.v (.int .i64 4))), none⟩,
      ⟨some 23, .mov (.t 22), none⟩,
      ⟨some 24, .fld 7 (.t 3), some (23, true)⟩,
      ⟨some 25, .load false 1 (.t 24), some (23, true)⟩,
      ⟨some 26, .fld 1 (.t 5), some (23, true)⟩,
      ⟨some 27, .load false 1 (.t 26), some (23, true)⟩,
      ⟨some 28, .bin .eql (.t 25) (.t 27), some (23, true)⟩,
      ⟨some 29, .pick (.t 23) (.t 28) (.c (.v (.bool false))), none⟩])
    (.cond (.t 29)
     (.region [
       ⟨some 30, .fld 1 (.t 3), none⟩,
       ⟨none, .store 1 (.t 30) (.c (.v (.int .i64 3))), none⟩])
     (.skip))))))))
 (.seq (.region [
   ⟨some 31, .load true 10 (.t 3), none⟩,
   ⟨none, .store 10 (.t 4) (.t 31), none⟩])
 (.ret))))
theorem h_many_settled : (prog.funcs[F_many_settled]?).bind (compFn prog) = some A_many_settled := by kernel_rfl
def A_cut_states_1 : AFn := .mk 28 [] (
 .seq (.region [
   ⟨some 6, .load false 1 (.t 1), none⟩,
   ⟨some 7, .call (.c (.f (.func F_many_Many_Copy) [] [])) [(.t 6)], none⟩,
   ⟨some 4, .mov (.t 7), none⟩])
 (.seq (.region [
   ⟨some 5, .mov (.c (.v (.int .i64 0))), none⟩])
 (.block 0 (.loop (.seq (.seq (.region [
     ⟨some 8, .mov (.t 0), none⟩,
     ⟨some 9, .mov (.t 5), none⟩,
     ⟨some 10, .mov (.t 4), none⟩,
     ⟨some 11, .call (.t 8) [(.t 9), (.t 10)], none⟩,
     ⟨some 12, .mov (.t 11), none⟩,
     ⟨some 13, .mov (.t 5), some (12, true)⟩,
     ⟨some 14, .load false 1 (.t 2), some (12, true)⟩,
     ⟨some 15, .len .sl (.t 14), some (12, true)⟩,
     ⟨some 16, .bin .lss (.t 13) (.t 15), some (12, true)⟩,
     ⟨some 17, .pick (.t 12) (.t 16) (.c (.v (.bool false))), none⟩])
   (.cond (.t 17)
    (.skip)
    (.exit 0)))
   (.seq (.block 1 (.seq (.region [
      ⟨some 20, .mov (.t 4), none⟩,
      ⟨some 21, .call (.c (.f (.func F_many_Many_Copy) [] [])) [(.t 20)], none⟩,
      ⟨some 4, .mov (.t 21), none⟩])
    (.region [
      ⟨some 22, .mov (.t 4), none⟩,
      ⟨some 23, .load false 1 (.t 2), none⟩,
      ⟨some 24, .mov (.t 5), none⟩,
      ⟨some 25, .idxp 1 (.t 23) (.t 24), none⟩,
      ⟨some 26, .load false 1 (.t 25), none⟩,
      ⟨some 27, .call (.c (.f (.func F_many_Many_Do) [] [])) [(.t 22), (.t 26)], none⟩])))
   (.region [
     ⟨some 18, .mov (.t 5), none⟩,
     ⟨some 19, .bin .add (.t 18) (.c (.v (.int .i64 1))), none⟩,
     ⟨some 5, .mov (.t 19), none⟩])))))))
theorem h_cut_states_1 : (prog.funcs[F_cut_states_1]?).bind (compFn prog) = some A_cut_states_1 := by kernel_rfl
def A_slices_Equal_Entry : AFn := .mk 26 [.tmp 4] (
 .seq (.region [
   ⟨some 4, .mov (.c (.v (.bool false))), none⟩])
 (.seq (.seq (.region [
   ⟨some 6, .mov (.t 0), none⟩,
   ⟨some 7, .len .sl (.t 6), none⟩,
   ⟨some 8, .mov (.t 1), none⟩,
   ⟨some 9, .len .sl (.t 8), none⟩,
   ⟨some 10, .bin .neq (.t 7) (.t 9), none⟩])
 (.cond (.t 10)
  (.seq (.region [
    ⟨some 4, .mov (.c (.v (.bool false))), none⟩])
  (.ret))
  (.skip)))
 (.seq (.seq (.region [
   ⟨some 11, .mov (.t 0), none⟩,
   ⟨some 12, .len .sl (.t 11), none⟩,
   ⟨some 13, .mov (.c (.v (.int .i64 0))), none⟩])
 (.block 0 (.loop (.seq (.region [
     ⟨some 14, .bin .lss (.t 13) (.t 12), none⟩])
   (.seq (.cond (.t 14)
    (.skip)
    (.exit 0))
   (.seq (.block 1 (.seq (.region [
      ⟨some 15, .mov (.t 13), none⟩,
      ⟨some 5, .mov (.t 15), none⟩])
    (.seq (.region [
      ⟨some 16, .mov (.t 0), none⟩,
      ⟨some 17, .mov (.t 5), none⟩,
      ⟨some 18, .idxp 3 (.t 16) (.t 17), none⟩,
      ⟨some 19, .load true 3 (.t 18), none⟩,
      ⟨some 20, .mov (.t 1), none⟩,
      ⟨some 21, .mov (.t 5), none⟩,
      ⟨some 22, .idxp 3 (.t 20) (.t 21), none⟩,
      ⟨some 23, .load true 3 (.t 22), none⟩,
      ⟨some 24, .eqa true (.agg [.i, .i, .s]) (.t 19) (.t 23), none⟩])
    (.cond (.t 24)
     (.seq (.region [
       ⟨some 4, .mov (.c (.v (.bool false))), none⟩])
     (.ret))
     (.skip)))))
   (.region [
     ⟨some 25, .bin .add (.t 13) (.c (.v (.int .i64 1))), none⟩,
     ⟨some 13, .mov (.t 25), none⟩])))))))
 (.seq (.region [
   ⟨some 4, .mov (.c (.v (.bool true))), none⟩])
 (.ret)))))
theorem h_slices_Equal_Entry : (prog.funcs[F_slices_Equal_Entry]?).bind (compFn prog) = some A_slices_Equal_Entry := by kernel_rfl
def A_slices_Values_int_1 : AFn := .mk 16 [] (
 .seq (.region [
   ⟨some 5, .load false 1 (.t 1), none⟩,
   ⟨some 6, .len .sl (.t 5), none⟩,
   ⟨some 7, .mov (.c (.v (.int .i64 0))), none⟩])
 (.block 0 (.loop (.seq (.region [
     ⟨some 8, .bin .lss (.t 7) (.t 6), none⟩])
   (.seq (.cond (.t 8)
    (.skip)
    (.exit 0))
   (.seq (.block 1 (.seq (.region [
      ⟨some 9, .idxp 1 (.t 5) (.t 7), none⟩,
      ⟨some 10, .load false 1 (.t 9), none⟩,
      ⟨some 4, .mov (.t 10), none⟩])
    (.seq (.region [
      ⟨some 11, .mov (.t 0), none⟩,
      ⟨some 12, .mov (.t 4), none⟩,
      ⟨some 13, .call (.t 11) [(.t 12)], none⟩,
      ⟨some 14, .un .not (.t 13), none⟩])
    (.cond (.t 14)
     (.ret)
     (.skip)))))
   (.region [
     ⟨some 15, .bin .add (.t 7) (.c (.v (.int .i64 1))), none⟩,
     ⟨some 7, .mov (.t 15), none⟩])))))))
theorem h_slices_Values_int_1 : (prog.funcs[F_slices_Values_int_1]?).bind (compFn prog) = some A_slices_Values_int_1 := by kernel_rfl
def A_many_Many_wrong : AFn := .mk 31 [.tmp 4] (
 .seq (.region [
   ⟨some 4, .mov (.c (.v (.int .i64 0))), none⟩])
 (.seq (.region [
   ⟨some 5, .mov (.c (.f (.func F_many_Many_wrong_1) [] [])), none⟩])
 (.seq (.seq (.region [
   ⟨some 8, .mov (.t 1), none⟩,
   ⟨some 9, .len .sl (.t 8), none⟩,
   ⟨some 10, .bin .eql (.t 9) (.c (.v (.int .i64 0))), none⟩,
   ⟨some 11, .mov (.t 10), none⟩,
   ⟨some 12, .mov (.t 1), some (11, false)⟩,
   ⟨some 13, .len .sl (.t 12), some (11, false)⟩,
   ⟨some 14, .bin .gtr (.t 13) (.c (.v (.int .i64 4))), some (11, false)⟩,
   ⟨some 15, .pick (.t 11) (.c (.v (.bool true))) (.t 14), none⟩,
   ⟨some 16, .mov (.t 15), none⟩,
   ⟨some 17, .mov (.t 1), some (16, false)⟩,
   ⟨some 18, .mov (.t 5), some (16, false)⟩,
   ⟨some 19, .call (.c (.f (.func F_slices_ContainsFunc_Part) [] [])) [(.t 17), (.t 18)], some (16, false)⟩,
   ⟨some 20, .pick (.t 16) (.c (.v (.bool true))) (.t 19), none⟩])
 (.cond (.t 20)
  (.seq (.region [
    ⟨some 4, .mov (.c (.v (.int .i64 11))), none⟩])
  (.ret))
  (.skip)))
 (.seq (.seq (.region [
   ⟨some 22, .mov (.t 0), none⟩,
   ⟨some 23, .mov (.t 1), none⟩,
   ⟨some 24, .call (.c (.f (.func F_many_Many_Settle) [] [])) [(.t 22), (.t 23)], none⟩,
   ⟨some 25, .build [(.v (.int .i64 0)), (.sl [] .zero)] [(0, 1, (.c (.v (.int .i64 1125899906842624)))), (1, 1, (.t 24))], none⟩,
   ⟨some 26, .call (.c (.f (.func F_record_Bytes) [] [])) [(.t 25)], none⟩,
   ⟨some 21, .mov (.t 26), none⟩,
   ⟨some 27, .extract 0 (.t 21), none⟩,
   ⟨some 28, .extract 1 (.t 21), none⟩,
   ⟨some 6, .mov (.t 27), none⟩,
   ⟨some 7, .mov (.t 28), none⟩])
 (.seq (.region [
   ⟨some 29, .mov (.t 7), none⟩,
   ⟨some 30, .bin .neq (.t 29) (.c (.v (.int .i64 0))), none⟩])
 (.cond (.t 30)
  (.seq (.region [
    ⟨some 4, .mov (.c (.v (.int .i64 12))), none⟩])
  (.ret))
  (.skip))))
 (.seq (.region [
   ⟨some 4, .mov (.c (.v (.int .i64 0))), none⟩])
 (.ret))))))
theorem h_many_Many_wrong : (prog.funcs[F_many_Many_wrong]?).bind (compFn prog) = some A_many_Many_wrong := by kernel_rfl
def A_slices_Values_Part : AFn := .mk 4 [.tmp 2] (
 .seq (.region [
   ⟨some 1, .box (.t 0), none⟩,
   ⟨some 2, .mov (.c (.v .nilFunc)), none⟩])
 (.seq (.region [
   ⟨some 3, .mkf (.func F_slices_Values_Part_1) [] [(.t 1)], none⟩,
   ⟨some 2, .mov (.t 3), none⟩])
 (.ret)))
theorem h_slices_Values_Part : (prog.funcs[F_slices_Values_Part]?).bind (compFn prog) = some A_slices_Values_Part := by kernel_rfl
def A_part_between : AFn := .mk 15 [.tmp 6] (
 .seq (.region [
   ⟨some 6, .mov (.c (.v (.bool false))), none⟩])
 (.seq (.region [
   ⟨some 7, .mov (.t 0), none⟩,
   ⟨some 8, .mov (.t 1), none⟩,
   ⟨some 9, .bin .geq (.t 7) (.t 8), none⟩,
   ⟨some 10, .mov (.t 9), none⟩,
   ⟨some 11, .mov (.t 0), some (10, true)⟩,
   ⟨some 12, .mov (.t 2), some (10, true)⟩,
   ⟨some 13, .bin .leq (.t 11) (.t 12), some (10, true)⟩,
   ⟨some 14, .pick (.t 10) (.t 13) (.c (.v (.bool false))), none⟩,
   ⟨some 6, .mov (.t 14), none⟩])
 (.ret)))
theorem h_part_between : (prog.funcs[F_part_between]?).bind (compFn prog) = some A_part_between := by kernel_rfl
def A_part_Same : AFn := .mk 59 [.tmp 4] (
 .seq (.region [
   ⟨some 2, .box (.t 0), none⟩,
   ⟨some 3, .box (.t 1), none⟩,
   ⟨some 4, .mov (.c (.v (.bool false))), none⟩])
 (.seq (.region (
   ⟨some 5, .fld 0 (.t 2), none⟩ ::
   ⟨some 6, .load false 1 (.t 5), none⟩ ::
   ⟨some 7, .fld 0 (.t 3), none⟩ ::
   ⟨some 8, .load false 1 (.t 7), none⟩ ::
   ⟨some 9, .bin .eql (.t 6) (.t 8), none⟩ ::
   ⟨some 10, .mov (.t 9), none⟩ ::
   ⟨some 11, .fld 1 (.t 2), some (10, true)⟩ ::
   ⟨some 12, .load false 1 (.t 11), some (10, true)⟩ ::
   ⟨some 13, .fld 1 (.t 3), some (10, true)⟩ ::
   ⟨some 14, .load false 1 (.t 13), some (10, true)⟩ ::
   ⟨some 15, .bin .eql (.t 12) (.t 14), some (10, true)⟩ ::
   ⟨some 16, .pick (.t 10) (.t 15) (.c (.v (.bool false))), none⟩ ::
   ⟨some 17, .mov (.t 16), none⟩ ::
   ⟨some 18, .fld 2 (.t 2), some (17, true)⟩ ::
   ⟨some 19, .load false 1 (.t 18), some (17, true)⟩ ::
   ⟨some 20, .fld 2 (.t 3), some (17, true)⟩ ::
   ⟨some 21, .load false 1 (.t 20), some (17, true)⟩ ::
   ⟨some 22, .call (.c (.f (.func F_slices_Equal_Entry) [] [])) [(.t 19), (.t 21)], some (17, true)⟩ ::
   ⟨some 23, .pick (.t 17) (.t 22) (.c (.v (.bool false))), none⟩ ::
   ⟨some 24, .mov (.t 23), none⟩ ::
   ⟨some 25, .fld 3 (.t 2), some (24, true)⟩ ::
   ⟨some 26, .load true 3 (.t 25), some (24, true)⟩ ::
   ⟨some 27, .fld 3 (.t 3), some (24, true)⟩ ::
   ⟨some 28, .load true 3 (.t 27), some (24, true)⟩ ::
   ⟨some 29, .eqa false (.agg [.i, .i, .i]) (.t 26) (.t 28), some (24, true)⟩ ::
   ⟨some 30, .pick (.t 24) (.t 29) (.c (.v (.bool false))), none⟩ ::
   ⟨some 31, .mov (.t 30), none⟩ ::
   ⟨some 32, .fld 6 (.t 2), some (31, true)⟩ ::
   ⟨some 33, .load false 1 (.t 32), some (31, true)⟩ ::
   ⟨some 34, .fld 6 (.t 3), some (31, true)⟩ ::
   ⟨some 35, .load false 1 (.t 34), some (31, true)⟩ ::
   ⟨some 36, .bin .eql (.t 33) (.t 35), some (31, true)⟩ ::
   ⟨some 37, .pick (.t 31) (.t 36) (.c (.v (.bool false))), none⟩ ::
   ⟨some 38, .mov (.t 37), none⟩ ::
   ⟨some 39, .fld 7 (.t 2), some (38, true)⟩ ::
   ⟨some 40, .load false 1 (.t 39), some (38, true)⟩ ::
   ⟨some 41, .fld 7 (.t 3), some (38, true)⟩ ::
   ⟨some 42, .load false 1 (.t 41), some (38, true)⟩ ::
   ⟨some 43, .bin .eql (.t 40) (.t 42), some (38, true)⟩ ::
   ⟨some 44, .pick (.t 38) (.t 43) (.c (.v (.bool false))), none⟩ ::
   ⟨some 45, .mov (.t 44), none⟩ ::
   ⟨some 46, .fld 8 (.t 2), some (45, true)⟩ ::
   ⟨some 47, .load false 1 (.t 46), some (45, true)⟩ ::
   ⟨some 48, .fld 8 (.t 3), some (45, true)⟩ ::
   ⟨some 49, .load false 1 (.t 48), some (45, true)⟩ ::
   ⟨some 50, .eqa false .bool (.t 47) (.t 49), some (45, true)⟩ ::
   ⟨some 51, .pick (.t 45) (.t 50) (.c (.v (.bool false))), none⟩ ::
   ⟨some 52, .mov (.t 51), none⟩ ::
   ⟨some 53, .fld 9 (.t 2), some (52, true)⟩ ::
   ⟨some 54, .load false 1 (.t 53), some (52, true)⟩ ::
   ⟨some 55, .fld 9 (.t 3), some (52, true)⟩ ::
   ⟨some 56, .load false 1 (.t 55), some (52, true)⟩ ::
   ⟨some 57, .eqa false .bool (.t 54) (.t 56), some (52, true)⟩ ::
   ⟨some 58, .pick (.t 52) (.t 57) (.c (.v (.bool false))), none⟩ ::
   ⟨some 4, .mov (.t 58), none⟩ ::
   []))
 (.ret)))
theorem h_part_Same : (prog.funcs[F_part_Same]?).bind (compFn prog) = some A_part_Same := by kernel_rfl
def A_part_core : AFn := .mk 55 [.cell true 10 2] (
 .seq (.region [
   ⟨some 1, .box (.t 0), none⟩,
   ⟨some 2, .alloc [(.v (.int .i64 0)), (.v (.int .i64 0)), (.sl [] .zero), (.v (.int .i64 0)), (.v (.int .i64 0)), (.v (.int .i64 0)), (.v (.int .i64 0)), (.v (.int .i64 0)), (.v (.bool false)), (.v (.bool false))], none⟩])
 (.seq (.region [
   ⟨some 4, .fld 0 (.t 1), none⟩,
   ⟨some 5, .load false 1 (.t 4), none⟩,
   ⟨some 6, .fld 1 (.t 1), none⟩,
   ⟨some 7, .load false 1 (.t 6), none⟩,
   ⟨some 8, .build [(.v (.int .i64 0)), (.v (.int .i64 0)), (.sl [] .zero), (.v (.int .i64 0)), (.v (.int .i64 0)), (.v (.int .i64 0)), (.v (.int .i64 0)), (.v (.int .i64 0)), (.v (.bool false)), (.v (.bool false))] [(0, 1, (.t 5)), (1, 1, (.t 7))], none⟩,
   ⟨some 3, .alloc [(.v (.int .i64 0)), (.v (.int .i64 0)), (.sl [] .zero), (.v (.int .i64 0)), (.v (.int .i64 0)), (.v (.int .i64 0)), (.v (.int .i64 0)), (.v (.int .i64 0)), (.v (.bool false)), (.v (.bool false))], none⟩,
   ⟨none, .store 10 (.t 3) (.t 8), none⟩])
 (.seq (.seq (.region [
   ⟨some 9, .fld 1 (.t 1), none⟩,
   ⟨some 10, .load false 1 (.t 9), none⟩])
 (.block 0 (.seq (.region [
    ⟨some 12, .bin .eql (.t 10) (.c (.v (.int .i64 1))), none⟩,
    ⟨some 11, .mov (.t 12), none⟩])
  (.cond (.t 11)
   (.region [
     ⟨some 13, .fld 2 (.t 1), none⟩,
     ⟨some 14, .load false 1 (.t 13), none⟩,
     ⟨some 15, .fld 2 (.t 3), none⟩,
     ⟨none, .store 1 (.t 15) (.t 14), none⟩])
   (.seq (.region [
     ⟨some 17, .bin .eql (.t 10) (.c (.v (.int .i64 2))), none⟩,
     ⟨some 16, .mov (.t 17), none⟩])
   (.cond (.t 16)
    (.region [
      ⟨some 18, .fld 3 (.t 1), none⟩,
      ⟨some 19, .load true 3 (.t 18), none⟩,
      ⟨some 20, .fld 3 (.t 3), none⟩,
      ⟨none, .store 3 (.t 20) (.t 19), none⟩])
    (.seq (.seq (.region [
      ⟨some 22, .bin .eql (.t 10) (.c (.v (.int .i64 3))), none⟩,
      ⟨some 21, .mov (.t 22), none⟩])
    (.cond (.t 21)
     (.skip)
     (.region [
       ⟨some 23, .bin .eql (.t 10) (.c (.v (.int .i64 4))), none⟩,
       ⟨some 21, .mov (.t 23), none⟩])))
    (.cond (.t 21)
     (.draw (
       ⟨⟨some 24, .fld 6 (.t 1), none⟩, false, false, []⟩ ::
       ⟨⟨some 25, .load false 1 (.t 24), none⟩, false, false, []⟩ ::
       ⟨⟨some 26, .fld 7 (.t 1), none⟩, false, true, []⟩ ::
       ⟨⟨some 27, .load false 1 (.t 26), none⟩, false, true, []⟩ ::
       ⟨⟨some 28, .fld 6 (.t 3), none⟩, false, false, []⟩ ::
       ⟨⟨none, .store 1 (.t 28) (.t 25), none⟩, true, false, [⟨some 27, .load false 1 (.t 26), none⟩]⟩ ::
       ⟨⟨some 29, .fld 7 (.t 3), none⟩, false, false, []⟩ ::
       ⟨⟨none, .store 1 (.t 29) (.t 27), none⟩, true, false, []⟩ ::
       []))
     (.seq (.region [
       ⟨some 31, .bin .eql (.t 10) (.c (.v (.int .i64 6))), none⟩,
       ⟨some 30, .mov (.t 31), none⟩])
     (.cond (.t 30)
      (.seq (.draw (
        ⟨⟨some 32, .fld 2 (.t 1), none⟩, false, false, []⟩ ::
        ⟨⟨some 33, .load false 1 (.t 32), none⟩, false, false, []⟩ ::
        ⟨⟨some 34, .fld 8 (.t 1), none⟩, false, true, []⟩ ::
        ⟨⟨some 35, .load false 1 (.t 34), none⟩, false, true, []⟩ ::
        ⟨⟨some 36, .fld 9 (.t 1), none⟩, false, true, []⟩ ::
        ⟨⟨some 37, .load false 1 (.t 36), none⟩, false, true, []⟩ ::
        ⟨⟨some 38, .fld 2 (.t 3), none⟩, false, false, []⟩ ::
        ⟨⟨none, .store 1 (.t 38) (.t 33), none⟩, true, false, [⟨some 37, .load false 1 (.t 36), none⟩, ⟨some 35, .load false 1 (.t 34), none⟩]⟩ ::
        ⟨⟨some 39, .fld 8 (.t 3), none⟩, false, false, []⟩ ::
        ⟨⟨none, .store 1 (.t 39) (.t 35), none⟩, true, false, [⟨some 37, .load false 1 (.t 36), none⟩]⟩ ::
        ⟨⟨some 40, .fld 9 (.t 3), none⟩, false, false, []⟩ ::
        ⟨⟨none, .store 1 (.t 40) (.t 37), none⟩, true, false, []⟩ ::
        []))
      (.seq (.seq (.region [
        ⟨some 41, .fld 8 (.t 1), none⟩,
        ⟨some 42, .load false 1 (.t 41), none⟩])
      (.cond (.t 42)
       (.draw (
         ⟨⟨some 43, .fld 6 (.t 1), none⟩, false, false, []⟩ ::
         ⟨⟨some 44, .load false 1 (.t 43), none⟩, false, false, []⟩ ::
         ⟨⟨some 45, .fld 7 (.t 1), none⟩, false, true, []⟩ ::
         ⟨⟨some 46, .load false 1 (.t 45), none⟩, false, true, []⟩ ::
         ⟨⟨some 47, .fld 6 (.t 3), none⟩, false, false, []⟩ ::
         ⟨⟨none, .store 1 (.t 47) (.t 44), none⟩, true, false, [⟨some 46, .load false 1 (.t 45), none⟩]⟩ ::
         ⟨⟨some 48, .fld 7 (.t 3), none⟩, false, false, []⟩ ::
         ⟨⟨none, .store 1 (.t 48) (.t 46), none⟩, true, false, []⟩ ::
         []))
       (.skip)))
      (.seq (.region [
        ⟨some 49, .fld 9 (.t 1), none⟩,
        ⟨some 50, .load false 1 (.t 49), none⟩])
      (.cond (.t 50)
       (.region [
         ⟨some 51, .fld 3 (.t 1), none⟩,
         ⟨some 52, .load true 3 (.t 51), none⟩,
         ⟨some 53, .fld 3 (.t 3), none⟩,
         ⟨none, .store 3 (.t 53) (.t 52), none⟩])
       (.skip)))))
      (.skip)))))))))))
 (.seq (.region [
   ⟨some 54, .load true 10 (.t 3), none⟩,
   ⟨none, .store 10 (.t 2) (.t 54), none⟩])
 (.ret)))))
theorem h_part_core : (prog.funcs[F_part_core]?).bind (compFn prog) = some A_part_core := by kernel_rfl
def A_part_rising : AFn := .mk 51 [.tmp 4] (
 .seq (.region [
   ⟨some 4, .mov (.c (.v (.bool false))), none⟩])
 (.seq (.seq (.region [
   ⟨some 7, .mov (.t 0), none⟩,
   ⟨some 8, .len .sl (.t 7), none⟩,
   ⟨some 9, .mov (.c (.v (.int .i64 0))), none⟩])
 (.block 0 (.loop (.seq (.region [
     ⟨some 10, .bin .lss (.t 9) (.t 8), none⟩])
   (.seq (.cond (.t 10)
    (.skip)
    (.exit 0))
   (.seq (.block 1 (.seq (.region [
      ⟨some 11, .mov (.t 9), none⟩,
      ⟨some 12, .idxp 3 (.t 7) (.t 9), none⟩,
      ⟨some 13, .load true 3 (.t 12), none⟩,
      ⟨some 6, .alloc [(.v (.int .i64 0)), (.v (.int .i64 0)), (.v (.string ⟨#[]⟩))], none⟩,
      ⟨some 5, .mov (.t 11), none⟩,
      ⟨none, .store 3 (.t 6) (.t 13), none⟩])
    (.seq (.region [
      ⟨some 14, .load true 3 (.t 6), none⟩,
      ⟨some 15, .call (.c (.f (.func F_part_IsEntry) [] [])) [(.t 14)], none⟩,
      ⟨some 16, .un .not (.t 15), none⟩,
      ⟨some 17, .mov (.t 16), none⟩,
      ⟨some 18, .mov (.t 5), some (17, false)⟩,
      ⟨some 19, .bin .gtr (.t 18) (.c (.v (.int .i64 0))), some (17, false)⟩,
      ⟨some 20, .mov (.t 19), some (17, false)⟩,
      ⟨some 21, .fld 0 (.t 6), some (20, true)⟩,
      ⟨some 22, .load false 1 (.t 21), some (20, true)⟩,
      ⟨some 23, .mov (.t 0), some (20, true)⟩,
      ⟨some 24, .mov (.t 5), some (20, true)⟩,
      ⟨some 25, .bin .sub (.t 24) (.c (.v (.int .i64 1))), some (20, true)⟩,
      ⟨some 26, .idxp 3 (.t 23) (.t 25), some (20, true)⟩,
      ⟨some 27, .fld 0 (.t 26), some (20, true)⟩,
      ⟨some 28, .load false 1 (.t 27), some (20, true)⟩,
      ⟨some 29, .bin .leq (.t 22) (.t 28), some (20, true)⟩,
      ⟨some 30, .mov (.t 29), some (20, true)⟩,
      ⟨some 31, .mov (.t 1), some (30, false)⟩,
      ⟨some 32, .mov (.t 31), some (30, false)⟩,
      ⟨some 33, .fld 0 (.t 6), some (32, true)⟩,
      ⟨some 34, .load false 1 (.t 33), some (32, true)⟩,
      ⟨some 35, .mov (.t 0), some (32, true)⟩,
      ⟨some 36, .mov (.t 5), some (32, true)⟩,
      ⟨some 37, .bin .sub (.t 36) (.c (.v (.int .i64 1))), some (32, true)⟩,
      ⟨some 38, .idxp 3 (.t 35) (.t 37), some (32, true)⟩,
      ⟨some 39, .fld 0 (.t 38), some (32, true)⟩,
      ⟨some 40, .load false 1 (.t 39), some (32, true)⟩,
      ⟨some 41, .bin .add (.t 40) (.c (.v (.int .i64 1))), some (32, true)⟩,
      ⟨some 42, .bin .neq (.t 34) (.t 41), some (32, true)⟩,
      ⟨some 43, .pick (.t 32) (.t 42) (.c (.v (.bool false))), some (30, false)⟩,
      ⟨some 44, .pick (.t 30) (.c (.v (.bool true))) (.t 43), some (20, true)⟩,
      ⟨some 45, .pick (.t 20) (.t 44) (.c (.v (.bool false))), some (17, false)⟩,
      ⟨some 46, .pick (.t 17) (.c (.v (.bool true))) (.t 45), none⟩])
    (.cond (.t 46)
     (.seq (.region [
       ⟨some 4, .mov (.c (.v (.bool false))), none⟩])
     (.ret))
     (.skip)))))
   (.region [
     ⟨some 47, .bin .add (.t 9) (.c (.v (.int .i64 1))), none⟩,
     ⟨some 9, .mov (.t 47), none⟩])))))))
 (.seq (.region [
   ⟨some 48, .mov (.t 0), none⟩,
   ⟨some 49, .len .sl (.t 48), none⟩,
   ⟨some 50, .bin .leq (.t 49) (.c (.v (.int .i64 6))), none⟩,
   ⟨some 4, .mov (.t 50), none⟩])
 (.ret))))
theorem h_part_rising : (prog.funcs[F_part_rising]?).bind (compFn prog) = some A_part_rising := by kernel_rfl
def A_part_IsHard : AFn := .mk 16 [.tmp 2] (
 .seq (.region [
   ⟨some 1, .box (.t 0), none⟩,
   ⟨some 2, .mov (.c (.v (.bool false))), none⟩])
 (.seq (.region [
   ⟨some 3, .fld 0 (.t 1), none⟩,
   ⟨some 4, .load false 1 (.t 3), none⟩,
   ⟨some 5, .call (.c (.f (.func F_part_between) [] [])) [(.t 4), (.c (.v (.int .i64 0))), (.c (.v (.int .i64 1099511627776)))], none⟩,
   ⟨some 6, .mov (.t 5), none⟩,
   ⟨some 7, .fld 1 (.t 1), some (6, true)⟩,
   ⟨some 8, .load false 1 (.t 7), some (6, true)⟩,
   ⟨some 9, .call (.c (.f (.func F_part_between) [] [])) [(.t 8), (.c (.v (.int .i64 0))), (.c (.v (.int .i64 1000)))], some (6, true)⟩,
   ⟨some 10, .pick (.t 6) (.t 9) (.c (.v (.bool false))), none⟩,
   ⟨some 11, .mov (.t 10), none⟩,
   ⟨some 12, .fld 2 (.t 1), some (11, true)⟩,
   ⟨some 13, .load false 1 (.t 12), some (11, true)⟩,
   ⟨some 14, .call (.c (.f (.func F_part_between) [] [])) [(.t 13), (.c (.v (.int .i64 0))), (.c (.v (.int .i64 1099511627776)))], some (11, true)⟩,
   ⟨some 15, .pick (.t 11) (.t 14) (.c (.v (.bool false))), none⟩,
   ⟨some 2, .mov (.t 15), none⟩])
 (.ret)))
theorem h_part_IsHard : (prog.funcs[F_part_IsHard]?).bind (compFn prog) = some A_part_IsHard := by kernel_rfl
def A_part_isMark : AFn := .mk 14 [.tmp 6] (
 .seq (.region [
   ⟨some 6, .mov (.c (.v (.bool false))), none⟩])
 (.seq (.region [
   ⟨some 7, .mov (.t 0), none⟩,
   ⟨some 8, .call (.c (.f (.func F_part_between) [] [])) [(.t 7), (.c (.v (.int .i64 1))), (.c (.v (.int .i64 1099511627776)))], none⟩,
   ⟨some 9, .mov (.t 8), none⟩,
   ⟨some 10, .mov (.t 1), some (9, true)⟩,
   ⟨some 11, .mov (.t 2), some (9, true)⟩,
   ⟨some 12, .call (.c (.f (.func F_part_between) [] [])) [(.t 10), (.t 11), (.c (.v (.int .i64 1099511627776)))], some (9, true)⟩,
   ⟨some 13, .pick (.t 9) (.t 12) (.c (.v (.bool false))), none⟩,
   ⟨some 6, .mov (.t 13), none⟩])
 (.ret)))
theorem h_part_isMark : (prog.funcs[F_part_isMark]?).bind (compFn prog) = some A_part_isMark := by kernel_rfl
def A_group_New : AFn := .mk 5 [.cell true 7 2] (
 .seq (.region [
   ⟨some 2, .alloc [(.v (.int .i64 0)), (.v (.int .i64 0)), (.v (.int .i64 0)), (.v (.int .i64 0)), (.v (.int .i64 0)), (.v (.int .i64 0)), (.sl [] .zero)], none⟩])
 (.seq (.region [
   ⟨some 3, .mov (.t 0), none⟩,
   ⟨some 4, .build [(.v (.int .i64 0)), (.v (.int .i64 0)), (.v (.int .i64 0)), (.v (.int .i64 0)), (.v (.int .i64 0)), (.v (.int .i64 0)), (.sl [] .zero)] [(0, 1, (.t 3)), (1, 1, (.c (.v (.int .i64 1))))], none⟩,
   ⟨none, .store 7 (.t 2) (.t 4), none⟩])
 (.ret)))
theorem h_group_New : (prog.funcs[F_group_New]?).bind (compFn prog) = some A_group_New := by kernel_rfl
end Go.Proofs.Ytmfhchaoijiodaa
end
section
namespace Go.Proofs.Ytmfhchaoijiodaa
open Go.Ab
set_option maxRecDepth 100000
def A_group_Do : AFn := .mk 71 [.cell true 7 4, .tmp 5] (
 .seq (.region [
   ⟨some 2, .box (.t 0), none⟩,
   ⟨some 3, .box (.t 1), none⟩,
   ⟨some 4, .alloc [(.v (.int .i64 0)), (.v (.int .i64 0)), (.v (.int .i64 0)), (.v (.int .i64 0)), (.v (.int .i64 0)), (.v (.int .i64 0)), (.sl [] .zero)], none⟩,
   ⟨some 5, .mov (.c (.v (.int .i64 0))), none⟩])
 (.seq (.seq (.region [
   ⟨some 9, .load true 7 (.t 2), none⟩,
   ⟨some 10, .load true 10 (.t 3), none⟩,
   ⟨some 11, .call (.c (.f (.func F_group_Check) [] [])) [(.t 9), (.t 10)], none⟩,
   ⟨some 6, .mov (.t 11), none⟩])
 (.seq (.region [
   ⟨some 12, .mov (.t 6), none⟩,
   ⟨some 13, .bin .neq (.t 12) (.c (.v (.int .i64 0))), none⟩])
 (.cond (.t 13)
  (.seq (.region [
    ⟨some 14, .load true 7 (.t 2), none⟩,
    ⟨some 15, .mov (.t 6), none⟩,
    ⟨none, .store 7 (.t 4) (.t 14), none⟩,
    ⟨some 5, .mov (.t 15), none⟩])
  (.ret))
  (.skip))))
 (.seq (.seq (.region [
   ⟨some 16, .fld 1 (.t 3), none⟩,
   ⟨some 17, .load false 1 (.t 16), none⟩])
 (.block 0 (.seq (.region [
    ⟨some 19, .bin .eql (.t 17) (.c (.v (.int .i64 1))), none⟩,
    ⟨some 18, .mov (.t 19), none⟩])
  (.cond (.t 18)
   (.draw (
     ⟨⟨some 20, .load true 7 (.t 2), none⟩, false, false, []⟩ ::
     ⟨⟨some 21, .fld 1 (.t 2), none⟩, false, false, []⟩ ::
     ⟨⟨some 22, .load false 1 (.t 21), none⟩, false, false, []⟩ ::
     ⟨⟨some 23, .fld 2 (.t 3), none⟩, false, false, []⟩ ::
     ⟨⟨some 24, .load false 1 (.t 23), none⟩, false, false, []⟩ ::
     ⟨⟨some 25, .idxp 3 (.t 24) (.c (.v (.int .i64 0))), none⟩, false, false, []⟩ ::
     ⟨⟨some 26, .fld 0 (.t 25), none⟩, false, false, []⟩ ::
     ⟨⟨some 27, .load false 1 (.t 26), none⟩, false, false, []⟩ ::
     ⟨⟨some 30, .fld 2 (.t 3), none⟩, false, true, []⟩ ::
     ⟨⟨some 31, .load false 1 (.t 30), none⟩, false, true, []⟩ ::
     ⟨⟨some 28, .call (.c (.f (.func F_group_Within) [] [])) [(.t 20), (.t 22), (.t 27)], none⟩, true, false, [⟨some 31, .load false 1 (.t 30), none⟩]⟩ ::
     ⟨⟨some 29, .call (.c (.f (.func F_slices_Collect_Entry) [] [])) [(.t 28)], none⟩, true, false, [⟨some 31, .load false 1 (.t 30), none⟩]⟩ ::
     ⟨⟨some 32, .append 3 32 (.t 29) (.t 31), none⟩, true, false, []⟩ ::
     ⟨⟨some 33, .fld 6 (.t 2), none⟩, false, false, []⟩ ::
     ⟨⟨none, .store 1 (.t 33) (.t 32), none⟩, true, false, []⟩ ::
     []))
   (.seq (.region [
     ⟨some 35, .bin .eql (.t 17) (.c (.v (.int .i64 2))), none⟩,
     ⟨some 34, .mov (.t 35), none⟩])
   (.cond (.t 34)
    (.region [
      ⟨some 36, .fld 3 (.t 3), none⟩,
      ⟨some 37, .load true 3 (.t 36), none⟩,
      ⟨some 38, .fld 3 (.t 2), none⟩,
      ⟨none, .store 3 (.t 38) (.t 37), none⟩])
    (.seq (.region [
      ⟨some 40, .bin .eql (.t 17) (.c (.v (.int .i64 3))), none⟩,
      ⟨some 39, .mov (.t 40), none⟩])
    (.cond (.t 39)
     (.seq (.region [
       ⟨some 42, .load true 7 (.t 2), none⟩,
       ⟨some 43, .fld 6 (.t 3), none⟩,
       ⟨some 44, .load false 1 (.t 43), none⟩,
       ⟨some 45, .call (.c (.f (.func F_group_at) [] [])) [(.t 42), (.t 44)], none⟩,
       ⟨some 41, .mov (.t 45), none⟩,
       ⟨some 46, .extract 0 (.t 41), none⟩,
       ⟨some 47, .extract 1 (.t 41), none⟩,
       ⟨some 7, .alloc [(.v (.int .i64 0)), (.v (.int .i64 0)), (.v (.string ⟨#[]⟩))], none⟩,
       ⟨none, .store 3 (.t 7) (.t 46), none⟩,
       ⟨some 8, .mov (.t 47), none⟩])
     (.region [
       ⟨some 48, .load true 7 (.t 2), none⟩,
       ⟨some 49, .fld 6 (.t 3), none⟩,
       ⟨some 50, .load false 1 (.t 49), none⟩,
       ⟨some 51, .fld 1 (.t 7), none⟩,
       ⟨some 52, .load false 1 (.t 51), none⟩,
       ⟨some 53, .call (.c (.f (.func F_group_gone) [] [])) [(.t 48), (.t 50), (.t 52)], none⟩,
       ⟨none, .store 7 (.t 2) (.t 53), none⟩]))
     (.seq (.region [
       ⟨some 55, .bin .eql (.t 17) (.c (.v (.int .i64 4))), none⟩,
       ⟨some 54, .mov (.t 55), none⟩])
     (.cond (.t 54)
      (.seq (.seq (.region [
        ⟨some 56, .load true 7 (.t 2), none⟩,
        ⟨some 57, .fld 6 (.t 3), none⟩,
        ⟨some 58, .load false 1 (.t 57), none⟩,
        ⟨some 59, .fld 7 (.t 3), none⟩,
        ⟨some 60, .load false 1 (.t 59), none⟩,
        ⟨some 61, .call (.c (.f (.func F_group_fits) [] [])) [(.t 56), (.t 58), (.t 60)], none⟩,
        ⟨some 62, .un .not (.t 61), none⟩])
      (.cond (.t 62)
       (.region [
         ⟨some 63, .fld 6 (.t 2), none⟩,
         ⟨none, .store 1 (.t 63) (.c (.sl [] .zero)), none⟩])
       (.skip)))
      (.region [
        ⟨some 64, .load true 7 (.t 2), none⟩,
        ⟨some 65, .fld 6 (.t 3), none⟩,
        ⟨some 66, .load false 1 (.t 65), none⟩,
        ⟨some 67, .fld 7 (.t 3), none⟩,
        ⟨some 68, .load false 1 (.t 67), none⟩,
        ⟨some 69, .call (.c (.f (.func F_group_gone) [] [])) [(.t 64), (.t 66), (.t 68)], none⟩,
        ⟨none, .store 7 (.t 2) (.t 69), none⟩]))
      (.skip)))))))))))
 (.seq (.region [
   ⟨some 70, .load true 7 (.t 2), none⟩,
   ⟨none, .store 7 (.t 4) (.t 70), none⟩,
   ⟨some 5, .mov (.c (.v (.int .i64 0))), none⟩])
 (.ret)))))
theorem h_group_Do : (prog.funcs[F_group_Do]?).bind (compFn prog) = some A_group_Do := by kernel_rfl
def A_group_Within : AFn := .mk 8 [.tmp 6] (
 .seq (.region [
   ⟨some 3, .box (.t 0), none⟩,
   ⟨some 4, .box (.t 1), none⟩,
   ⟨some 5, .box (.t 2), none⟩,
   ⟨some 6, .mov (.c (.v .nilFunc)), none⟩])
 (.seq (.region [
   ⟨some 7, .mkf (.func F_group_Within_1) [] [(.t 3), (.t 4), (.t 5)], none⟩,
   ⟨some 6, .mov (.t 7), none⟩])
 (.ret)))
theorem h_group_Within : (prog.funcs[F_group_Within]?).bind (compFn prog) = some A_group_Within := by kernel_rfl
def A_part_IsEntry : AFn := .mk 17 [.tmp 2] (
 .seq (.region [
   ⟨some 1, .box (.t 0), none⟩,
   ⟨some 2, .mov (.c (.v (.bool false))), none⟩])
 (.seq (.region [
   ⟨some 3, .fld 0 (.t 1), none⟩,
   ⟨some 4, .load false 1 (.t 3), none⟩,
   ⟨some 5, .call (.c (.f (.func F_part_between) [] [])) [(.t 4), (.c (.v (.int .i64 1))), (.c (.v (.int .i64 1099511627776)))], none⟩,
   ⟨some 6, .mov (.t 5), none⟩,
   ⟨some 7, .fld 1 (.t 1), some (6, true)⟩,
   ⟨some 8, .load false 1 (.t 7), some (6, true)⟩,
   ⟨some 9, .call (.c (.f (.func F_part_between) [] [])) [(.t 8), (.c (.v (.int .i64 1))), (.c (.v (.int .i64 1099511627776)))], some (6, true)⟩,
   ⟨some 10, .pick (.t 6) (.t 9) (.c (.v (.bool false))), none⟩,
   ⟨some 11, .mov (.t 10), none⟩,
   ⟨some 12, .fld 2 (.t 1), some (11, true)⟩,
   ⟨some 13, .load false 1 (.t 12), some (11, true)⟩,
   ⟨some 14, .len .str (.t 13), some (11, true)⟩,
   ⟨some 15, .bin .leq (.t 14) (.c (.v (.int .i64 40))), some (11, true)⟩,
   ⟨some 16, .pick (.t 11) (.t 15) (.c (.v (.bool false))), none⟩,
   ⟨some 2, .mov (.t 16), none⟩])
 (.ret)))
theorem h_part_IsEntry : (prog.funcs[F_part_IsEntry]?).bind (compFn prog) = some A_part_IsEntry := by kernel_rfl
def A_many_Many_wrong_1 : AFn := .mk 11 [.tmp 2] (
 .seq (.region [
   ⟨some 1, .box (.t 0), none⟩,
   ⟨some 2, .mov (.c (.v (.bool false))), none⟩])
 (.seq (.region [
   ⟨some 3, .load true 10 (.t 1), none⟩,
   ⟨some 4, .call (.c (.f (.func F_part_Is) [] [])) [(.t 3)], none⟩,
   ⟨some 5, .un .not (.t 4), none⟩,
   ⟨some 6, .mov (.t 5), none⟩,
   ⟨some 7, .fld 1 (.t 1), some (6, false)⟩,
   ⟨some 8, .load false 1 (.t 7), some (6, false)⟩,
   ⟨some 9, .bin .eql (.t 8) (.c (.v (.int .i64 6))), some (6, false)⟩,
   ⟨some 10, .pick (.t 6) (.c (.v (.bool true))) (.t 9), none⟩,
   ⟨some 2, .mov (.t 10), none⟩])
 (.ret)))
theorem h_many_Many_wrong_1 : (prog.funcs[F_many_Many_wrong_1]?).bind (compFn prog) = some A_many_Many_wrong_1 := by kernel_rfl
def A_slices_ContainsFunc_Part : AFn := .mk 9 [.tmp 4] (
 .seq (.region [
   ⟨some 4, .mov (.c (.v (.bool false))), none⟩])
 (.seq (.region [
   ⟨some 5, .mov (.t 0), none⟩,
   ⟨some 6, .mov (.t 1), none⟩,
   ⟨some 7, .call (.c (.f (.func F_slices_IndexFunc_Part) [] [])) [(.t 5), (.t 6)], none⟩,
   ⟨some 8, .bin .geq (.t 7) (.c (.v (.int .i64 0))), none⟩,
   ⟨some 4, .mov (.t 8), none⟩])
 (.ret)))
theorem h_slices_ContainsFunc_Part : (prog.funcs[F_slices_ContainsFunc_Part]?).bind (compFn prog) = some A_slices_ContainsFunc_Part := by kernel_rfl
def A_record_Bytes : AFn := .mk 12 [.tmp 2, .tmp 3] (
 .seq (.region [
   ⟨some 1, .box (.t 0), none⟩,
   ⟨some 2, .mov (.c (.v (.string ⟨#[]⟩))), none⟩,
   ⟨some 3, .mov (.c (.v (.int .i64 0))), none⟩])
 (.seq (.seq (.region [
   ⟨some 4, .load true 2 (.t 1), none⟩,
   ⟨some 5, .call (.c (.f (.func F_record_Is) [] [])) [(.t 4)], none⟩,
   ⟨some 6, .un .not (.t 5), none⟩])
 (.cond (.t 6)
  (.seq (.region [
    ⟨some 2, .mov (.c (.v (.string ⟨#[]⟩))), none⟩,
    ⟨some 3, .mov (.c (.v (.int .i64 11))), none⟩])
  (.ret))
  (.skip)))
 (.seq (.region [
   ⟨some 7, .load true 2 (.t 1), none⟩,
   ⟨some 8, .call (.c (.f (.func F_record_held) [] [])) [(.t 7)], none⟩,
   ⟨some 9, .call (.c (.f (.func F_frame_Wrap) [] [])) [(.t 8)], none⟩,
   ⟨some 10, .extract 0 (.t 9), none⟩,
   ⟨some 11, .extract 1 (.t 9), none⟩,
   ⟨some 2, .mov (.t 10), none⟩,
   ⟨some 3, .mov (.t 11), none⟩])
 (.ret))))
theorem h_record_Bytes : (prog.funcs[F_record_Bytes]?).bind (compFn prog) = some A_record_Bytes := by kernel_rfl
def A_slices_Values_Part_1 : AFn := .mk 16 [] (
 .seq (.region [
   ⟨some 5, .load false 1 (.t 1), none⟩,
   ⟨some 6, .len .sl (.t 5), none⟩,
   ⟨some 7, .mov (.c (.v (.int .i64 0))), none⟩])
 (.block 0 (.loop (.seq (.region [
     ⟨some 8, .bin .lss (.t 7) (.t 6), none⟩])
   (.seq (.cond (.t 8)
    (.skip)
    (.exit 0))
   (.seq (.block 1 (.seq (.region [
      ⟨some 9, .idxp 10 (.t 5) (.t 7), none⟩,
      ⟨some 10, .load true 10 (.t 9), none⟩,
      ⟨some 4, .alloc [(.v (.int .i64 0)), (.v (.int .i64 0)), (.sl [] .zero), (.v (.int .i64 0)), (.v (.int .i64 0)), (.v (.int .i64 0)), (.v (.int .i64 0)), (.v (.int .i64 0)), (.v (.bool false)), (.v (.bool false))], none⟩,
      ⟨none, .store 10 (.t 4) (.t 10), none⟩])
    (.seq (.region [
      ⟨some 11, .mov (.t 0), none⟩,
      ⟨some 12, .load true 10 (.t 4), none⟩,
      ⟨some 13, .call (.t 11) [(.t 12)], none⟩,
      ⟨some 14, .un .not (.t 13), none⟩])
    (.cond (.t 14)
     (.ret)
     (.skip)))))
   (.region [
     ⟨some 15, .bin .add (.t 7) (.c (.v (.int .i64 1))), none⟩,
     ⟨some 7, .mov (.t 15), none⟩])))))))
theorem h_slices_Values_Part_1 : (prog.funcs[F_slices_Values_Part_1]?).bind (compFn prog) = some A_slices_Values_Part_1 := by kernel_rfl
def A_group_Check : AFn := .mk 84 [.tmp 4] (
 .seq (.region [
   ⟨some 2, .box (.t 0), none⟩,
   ⟨some 3, .box (.t 1), none⟩,
   ⟨some 4, .mov (.c (.v (.int .i64 0))), none⟩])
 (.seq (.seq (.region [
   ⟨some 7, .load true 10 (.t 3), none⟩,
   ⟨some 8, .call (.c (.f (.func F_part_Is) [] [])) [(.t 7)], none⟩,
   ⟨some 9, .un .not (.t 8), none⟩,
   ⟨some 10, .mov (.t 9), none⟩,
   ⟨some 11, .fld 1 (.t 3), some (10, false)⟩,
   ⟨some 12, .load false 1 (.t 11), some (10, false)⟩,
   ⟨some 13, .bin .eql (.t 12) (.c (.v (.int .i64 6))), some (10, false)⟩,
   ⟨some 14, .pick (.t 10) (.c (.v (.bool true))) (.t 13), none⟩,
   ⟨some 15, .mov (.t 14), none⟩,
   ⟨some 16, .fld 1 (.t 3), some (15, false)⟩,
   ⟨some 17, .load false 1 (.t 16), some (15, false)⟩,
   ⟨some 18, .bin .eql (.t 17) (.c (.v (.int .i64 5))), some (15, false)⟩,
   ⟨some 19, .pick (.t 15) (.c (.v (.bool true))) (.t 18), none⟩,
   ⟨some 20, .mov (.t 19), none⟩,
   ⟨some 21, .fld 0 (.t 3), some (20, false)⟩,
   ⟨some 22, .load false 1 (.t 21), some (20, false)⟩,
   ⟨some 23, .fld 0 (.t 2), some (20, false)⟩,
   ⟨some 24, .load false 1 (.t 23), some (20, false)⟩,
   ⟨some 25, .bin .neq (.t 22) (.t 24), some (20, false)⟩,
   ⟨some 26, .pick (.t 20) (.c (.v (.bool true))) (.t 25), none⟩])
 (.cond (.t 26)
  (.seq (.region [
    ⟨some 4, .mov (.c (.v (.int .i64 11))), none⟩])
  (.ret))
  (.skip)))
 (.seq (.seq (.region [
   ⟨some 27, .fld 1 (.t 3), none⟩,
   ⟨some 28, .load false 1 (.t 27), none⟩])
 (.block 0 (.seq (.region [
    ⟨some 30, .bin .eql (.t 28) (.c (.v (.int .i64 1))), none⟩,
    ⟨some 29, .mov (.t 30), none⟩])
  (.cond (.t 29)
   (.seq (.region [
     ⟨some 31, .fld 2 (.t 3), none⟩,
     ⟨some 32, .load false 1 (.t 31), none⟩,
     ⟨some 33, .idxp 3 (.t 32) (.c (.v (.int .i64 0))), none⟩,
     ⟨some 34, .fld 0 (.t 33), none⟩,
     ⟨some 35, .load false 1 (.t 34), none⟩,
     ⟨some 5, .mov (.t 35), none⟩])
   (.block 1 (.seq (.region [
      ⟨some 37, .mov (.t 5), none⟩,
      ⟨some 38, .fld 1 (.t 2), none⟩,
      ⟨some 39, .load false 1 (.t 38), none⟩,
      ⟨some 40, .bin .lss (.t 37) (.t 39), none⟩,
      ⟨some 36, .mov (.t 40), none⟩])
    (.cond (.t 36)
     (.seq (.region [
       ⟨some 4, .mov (.c (.v (.int .i64 15))), none⟩])
     (.ret))
     (.seq (.region [
       ⟨some 42, .mov (.t 5), none⟩,
       ⟨some 43, .bin .sub (.t 42) (.c (.v (.int .i64 1))), none⟩,
       ⟨some 44, .load true 7 (.t 2), none⟩,
       ⟨some 45, .call (.c (.f (.func F_group_Last) [] [])) [(.t 44)], none⟩,
       ⟨some 46, .bin .gtr (.t 43) (.t 45), none⟩,
       ⟨some 41, .mov (.t 46), none⟩])
     (.cond (.t 41)
      (.seq (.region [
        ⟨some 4, .mov (.c (.v (.int .i64 14))), none⟩])
      (.ret))
      (.skip)))))))
   (.seq (.seq (.region [
     ⟨some 48, .bin .eql (.t 28) (.c (.v (.int .i64 3))), none⟩,
     ⟨some 47, .mov (.t 48), none⟩])
   (.cond (.t 47)
    (.skip)
    (.region [
      ⟨some 49, .bin .eql (.t 28) (.c (.v (.int .i64 4))), none⟩,
      ⟨some 47, .mov (.t 49), none⟩])))
   (.cond (.t 47)
    (.seq (.region [
      ⟨some 50, .fld 1 (.t 3), none⟩,
      ⟨some 51, .load false 1 (.t 50), none⟩,
      ⟨some 52, .bin .eql (.t 51) (.c (.v (.int .i64 3))), none⟩,
      ⟨some 6, .mov (.t 52), none⟩])
    (.block 2 (.seq (.region [
       ⟨some 54, .fld 6 (.t 3), none⟩,
       ⟨some 55, .load false 1 (.t 54), none⟩,
       ⟨some 56, .fld 1 (.t 2), none⟩,
       ⟨some 57, .load false 1 (.t 56), none⟩,
       ⟨some 58, .bin .lss (.t 55) (.t 57), none⟩,
       ⟨some 53, .mov (.t 58), none⟩])
     (.cond (.t 53)
      (.seq (.region [
        ⟨some 4, .mov (.c (.v (.int .i64 15))), none⟩])
      (.ret))
      (.seq (.draw (
        ⟨⟨some 60, .mov (.t 6), none⟩, false, false, []⟩ ::
        ⟨⟨some 61, .mov (.t 60), none⟩, false, false, []⟩ ::
        ⟨⟨some 62, .fld 6 (.t 3), some (61, true)⟩, false, true, []⟩ ::
        ⟨⟨some 63, .load false 1 (.t 62), some (61, true)⟩, false, true, []⟩ ::
        ⟨⟨some 64, .load true 7 (.t 2), some (61, true)⟩, false, false, []⟩ ::
        ⟨⟨some 65, .call (.c (.f (.func F_group_Last) [] [])) [(.t 64)], some (61, true)⟩, true, false, [⟨some 63, .load false 1 (.t 62), some (61, true)⟩]⟩ ::
        ⟨⟨some 66, .bin .gtr (.t 63) (.t 65), some (61, true)⟩, false, false, []⟩ ::
        ⟨⟨some 67, .pick (.t 61) (.t 66) (.c (.v (.bool false))), none⟩, false, false, []⟩ ::
        ⟨⟨some 59, .mov (.t 67), none⟩, false, false, []⟩ ::
        []))
      (.cond (.t 59)
       (.seq (.region [
         ⟨some 4, .mov (.c (.v (.int .i64 16))), none⟩])
       (.ret))
       (.seq (.region [
         ⟨some 69, .mov (.t 6), none⟩,
         ⟨some 70, .mov (.t 69), none⟩,
         ⟨some 71, .fld 7 (.t 3), some (70, true)⟩,
         ⟨some 72, .load false 1 (.t 71), some (70, true)⟩,
         ⟨some 73, .bin .neq (.t 72) (.c (.v (.int .i64 0))), some (70, true)⟩,
         ⟨some 74, .pick (.t 70) (.t 73) (.c (.v (.bool false))), none⟩,
         ⟨some 75, .mov (.t 74), none⟩,
         ⟨some 76, .load true 7 (.t 2), some (75, true)⟩,
         ⟨some 77, .fld 6 (.t 3), some (75, true)⟩,
         ⟨some 78, .load false 1 (.t 77), some (75, true)⟩,
         ⟨some 79, .fld 7 (.t 3), some (75, true)⟩,
         ⟨some 80, .load false 1 (.t 79), some (75, true)⟩,
         ⟨some 81, .call (.c (.f (.func F_group_fits) [] [])) [(.t 76), (.t 78), (.t 80)], some (75, true)⟩,
         ⟨some 82, .un .not (.t 81), some (75, true)⟩,
         ⟨some 83, .pick (.t 75) (.t 82) (.c (.v (.bool false))), none⟩,
         ⟨some 68, .mov (.t 83), none⟩])
       (.cond (.t 68)
        (.seq (.region [
          ⟨some 4, .mov (.c (.v (.int .i64 11))), none⟩])
        (.ret))
        (.skip)))))))))
    (.skip)))))))
 (.seq (.region [
   ⟨some 4, .mov (.c (.v (.int .i64 0))), none⟩])
 (.ret)))))
theorem h_group_Check : (prog.funcs[F_group_Check]?).bind (compFn prog) = some A_group_Check := by kernel_rfl
def A_slices_Collect_Entry : AFn := .mk 5 [.tmp 2] (
 .seq (.region [
   ⟨some 2, .mov (.c (.sl [] .zero)), none⟩])
 (.seq (.region [
   ⟨some 3, .mov (.t 0), none⟩,
   ⟨some 4, .call (.c (.f (.func F_slices_AppendSeq_Entry) [] [])) [(.c (.sl [] .zero)), (.t 3)], none⟩,
   ⟨some 2, .mov (.t 4), none⟩])
 (.ret)))
theorem h_slices_Collect_Entry : (prog.funcs[F_slices_Collect_Entry]?).bind (compFn prog) = some A_slices_Collect_Entry := by kernel_rfl
def A_group_at : AFn := .mk 15 [.cell true 3 4, .cell false 1 5] (
 .seq (.region [
   ⟨some 2, .box (.t 0), none⟩,
   ⟨some 4, .alloc [(.v (.int .i64 0)), (.v (.int .i64 0)), (.v (.string ⟨#[]⟩))], none⟩,
   ⟨some 5, .alloc [(.v (.bool false))], none⟩])
 (.seq (.seq (.region [
   ⟨some 7, .load true 7 (.t 2), none⟩,
   ⟨some 8, .mov (.t 1), none⟩,
   ⟨some 9, .mov (.t 1), none⟩,
   ⟨some 10, .bin .add (.t 9) (.c (.v (.int .i64 1))), none⟩,
   ⟨some 11, .call (.c (.f (.func F_group_Within) [] [])) [(.t 7), (.t 8), (.t 10)], none⟩])
 (.block 0 (.range (.t 11) [12]
   (.region [
     ⟨some 6, .alloc [(.v (.int .i64 0)), (.v (.int .i64 0)), (.v (.string ⟨#[]⟩))], none⟩,
     ⟨none, .store 3 (.t 6) (.t 12), none⟩])
   (.block 1 (.seq (.region [
      ⟨some 13, .load true 3 (.t 6), none⟩,
      ⟨none, .store 3 (.t 4) (.t 13), none⟩,
      ⟨none, .store 1 (.t 5) (.c (.v (.bool true))), none⟩])
    (.ret))))))
 (.seq (.region [
   ⟨some 14, .build [(.v (.int .i64 0)), (.v (.int .i64 0)), (.v (.string ⟨#[]⟩))] [], none⟩,
   ⟨none, .store 3 (.t 4) (.t 14), none⟩,
   ⟨none, .store 1 (.t 5) (.c (.v (.bool false))), none⟩])
 (.ret))))
theorem h_group_at : (prog.funcs[F_group_at]?).bind (compFn prog) = some A_group_at := by kernel_rfl
def A_group_gone : AFn := .mk 19 [.cell true 7 6] (
 .seq (.region [
   ⟨some 3, .box (.t 0), none⟩,
   ⟨some 6, .alloc [(.v (.int .i64 0)), (.v (.int .i64 0)), (.v (.int .i64 0)), (.v (.int .i64 0)), (.v (.int .i64 0)), (.v (.int .i64 0)), (.sl [] .zero)], none⟩])
 (.seq (.region [
   ⟨some 7, .load true 7 (.t 3), none⟩,
   ⟨some 8, .mov (.t 1), none⟩,
   ⟨some 9, .bin .add (.t 8) (.c (.v (.int .i64 1))), none⟩,
   ⟨some 10, .call (.c (.f (.func F_group_Within) [] [])) [(.t 7), (.t 9), (.c (.v (.int .i64 1099511627777)))], none⟩,
   ⟨some 11, .call (.c (.f (.func F_slices_Collect_Entry) [] [])) [(.t 10)], none⟩,
   ⟨some 12, .fld 6 (.t 3), none⟩,
   ⟨none, .store 1 (.t 12) (.t 11), none⟩])
 (.seq (.region [
   ⟨some 13, .mov (.t 1), none⟩,
   ⟨some 14, .bin .add (.t 13) (.c (.v (.int .i64 1))), none⟩,
   ⟨some 15, .mov (.t 2), none⟩,
   ⟨some 16, .fld 1 (.t 3), none⟩,
   ⟨none, .store 1 (.t 16) (.t 14), none⟩,
   ⟨some 17, .fld 2 (.t 3), none⟩,
   ⟨none, .store 1 (.t 17) (.t 15), none⟩])
 (.seq (.region [
   ⟨some 18, .load true 7 (.t 3), none⟩,
   ⟨none, .store 7 (.t 6) (.t 18), none⟩])
 (.ret)))))
theorem h_group_gone : (prog.funcs[F_group_gone]?).bind (compFn prog) = some A_group_gone := by kernel_rfl
def A_group_fits : AFn := .mk 22 [.tmp 6] (
 .seq (.region [
   ⟨some 3, .box (.t 0), none⟩,
   ⟨some 6, .mov (.c (.v (.bool false))), none⟩])
 (.seq (.region [
   ⟨some 10, .load true 7 (.t 3), none⟩,
   ⟨some 11, .mov (.t 1), none⟩,
   ⟨some 12, .call (.c (.f (.func F_group_at) [] [])) [(.t 10), (.t 11)], none⟩,
   ⟨some 9, .mov (.t 12), none⟩,
   ⟨some 13, .extract 0 (.t 9), none⟩,
   ⟨some 14, .extract 1 (.t 9), none⟩,
   ⟨some 7, .alloc [(.v (.int .i64 0)), (.v (.int .i64 0)), (.v (.string ⟨#[]⟩))], none⟩,
   ⟨none, .store 3 (.t 7) (.t 13), none⟩,
   ⟨some 8, .mov (.t 14), none⟩])
 (.seq (.region [
   ⟨some 15, .mov (.t 8), none⟩,
   ⟨some 16, .mov (.t 15), none⟩,
   ⟨some 17, .fld 1 (.t 7), some (16, true)⟩,
   ⟨some 18, .load false 1 (.t 17), some (16, true)⟩,
   ⟨some 19, .mov (.t 2), some (16, true)⟩,
   ⟨some 20, .bin .eql (.t 18) (.t 19), some (16, true)⟩,
   ⟨some 21, .pick (.t 16) (.t 20) (.c (.v (.bool false))), none⟩,
   ⟨some 6, .mov (.t 21), none⟩])
 (.ret))))
theorem h_group_fits : (prog.funcs[F_group_fits]?).bind (compFn prog) = some A_group_fits := by kernel_rfl
def A_group_Within_1 : AFn := .mk 31 [] (
 .seq (.region [
   ⟨some 7, .fld 6 (.t 1), none⟩,
   ⟨some 8, .load false 1 (.t 7), none⟩,
   ⟨some 9, .len .sl (.t 8), none⟩,
   ⟨some 10, .mov (.c (.v (.int .i64 0))), none⟩])
 (.block 0 (.loop (.seq (.region [
     ⟨some 11, .bin .lss (.t 10) (.t 9), none⟩])
   (.seq (.cond (.t 11)
    (.skip)
    (.exit 0))
   (.seq (.block 1 (.seq (.region [
      ⟨some 12, .idxp 3 (.t 8) (.t 10), none⟩,
      ⟨some 13, .load true 3 (.t 12), none⟩,
      ⟨some 6, .alloc [(.v (.int .i64 0)), (.v (.int .i64 0)), (.v (.string ⟨#[]⟩))], none⟩,
      ⟨none, .store 3 (.t 6) (.t 13), none⟩])
    (.seq (.region [
      ⟨some 14, .fld 0 (.t 6), none⟩,
      ⟨some 15, .load false 1 (.t 14), none⟩,
      ⟨some 16, .load false 1 (.t 2), none⟩,
      ⟨some 17, .bin .geq (.t 15) (.t 16), none⟩,
      ⟨some 18, .mov (.t 17), none⟩,
      ⟨some 19, .fld 0 (.t 6), some (18, true)⟩,
      ⟨some 20, .load false 1 (.t 19), some (18, true)⟩,
      ⟨some 21, .load false 1 (.t 3), some (18, true)⟩,
      ⟨some 22, .bin .lss (.t 20) (.t 21), some (18, true)⟩,
      ⟨some 23, .pick (.t 18) (.t 22) (.c (.v (.bool false))), none⟩,
      ⟨some 24, .mov (.t 23), none⟩,
      ⟨some 25, .mov (.t 0), some (24, true)⟩,
      ⟨some 26, .load true 3 (.t 6), some (24, true)⟩,
      ⟨some 27, .call (.t 25) [(.t 26)], some (24, true)⟩,
      ⟨some 28, .un .not (.t 27), some (24, true)⟩,
      ⟨some 29, .pick (.t 24) (.t 28) (.c (.v (.bool false))), none⟩])
    (.cond (.t 29)
     (.ret)
     (.skip)))))
   (.region [
     ⟨some 30, .bin .add (.t 10) (.c (.v (.int .i64 1))), none⟩,
     ⟨some 10, .mov (.t 30), none⟩])))))))
theorem h_group_Within_1 : (prog.funcs[F_group_Within_1]?).bind (compFn prog) = some A_group_Within_1 := by kernel_rfl
def A_slices_IndexFunc_Part : AFn := .mk 19 [.tmp 4] (
 .seq (.region [
   ⟨some 4, .mov (.c (.v (.int .i64 0))), none⟩])
 (.seq (.seq (.region [
   ⟨some 6, .mov (.t 0), none⟩,
   ⟨some 7, .len .sl (.t 6), none⟩,
   ⟨some 8, .mov (.c (.v (.int .i64 0))), none⟩])
 (.block 0 (.loop (.seq (.region [
     ⟨some 9, .bin .lss (.t 8) (.t 7), none⟩])
   (.seq (.cond (.t 9)
    (.skip)
    (.exit 0))
   (.seq (.block 1 (.seq (.region [
      ⟨some 10, .mov (.t 8), none⟩,
      ⟨some 5, .mov (.t 10), none⟩])
    (.seq (.region [
      ⟨some 11, .mov (.t 1), none⟩,
      ⟨some 12, .mov (.t 0), none⟩,
      ⟨some 13, .mov (.t 5), none⟩,
      ⟨some 14, .idxp 10 (.t 12) (.t 13), none⟩,
      ⟨some 15, .load true 10 (.t 14), none⟩,
      ⟨some 16, .call (.t 11) [(.t 15)], none⟩])
    (.cond (.t 16)
     (.seq (.region [
       ⟨some 17, .mov (.t 5), none⟩,
       ⟨some 4, .mov (.t 17), none⟩])
     (.ret))
     (.skip)))))
   (.region [
     ⟨some 18, .bin .add (.t 8) (.c (.v (.int .i64 1))), none⟩,
     ⟨some 8, .mov (.t 18), none⟩])))))))
 (.seq (.region [
   ⟨some 4, .mov (.c (.v (.int .i64 (-1)))), none⟩])
 (.ret))))
theorem h_slices_IndexFunc_Part : (prog.funcs[F_slices_IndexFunc_Part]?).bind (compFn prog) = some A_slices_IndexFunc_Part := by kernel_rfl
def A_record_Is : AFn := .mk 45 [.cell false 1 2] (
 .seq (.region [
   ⟨some 1, .box (.t 0), none⟩,
   ⟨some 2, .alloc [(.v (.bool false))], none⟩])
 (.seq (.seq (.region [
   ⟨some 5, .fld 0 (.t 1), none⟩,
   ⟨some 6, .load false 1 (.t 5), none⟩,
   ⟨some 7, .bin .lss (.t 6) (.c (.v (.int .i64 1))), none⟩,
   ⟨some 8, .mov (.t 7), none⟩,
   ⟨some 9, .fld 0 (.t 1), some (8, false)⟩,
   ⟨some 10, .load false 1 (.t 9), some (8, false)⟩,
   ⟨some 11, .bin .gtr (.t 10) (.c (.v (.int .i64 1125899906842624))), some (8, false)⟩,
   ⟨some 12, .pick (.t 8) (.c (.v (.bool true))) (.t 11), none⟩,
   ⟨some 13, .mov (.t 12), none⟩,
   ⟨some 14, .fld 1 (.t 1), some (13, false)⟩,
   ⟨some 15, .load false 1 (.t 14), some (13, false)⟩,
   ⟨some 16, .len .sl (.t 15), some (13, false)⟩,
   ⟨some 17, .bin .lss (.t 16) (.c (.v (.int .i64 1))), some (13, false)⟩,
   ⟨some 18, .pick (.t 13) (.c (.v (.bool true))) (.t 17), none⟩,
   ⟨some 19, .mov (.t 18), none⟩,
   ⟨some 20, .fld 1 (.t 1), some (19, false)⟩,
   ⟨some 21, .load false 1 (.t 20), some (19, false)⟩,
   ⟨some 22, .len .sl (.t 21), some (19, false)⟩,
   ⟨some 23, .bin .gtr (.t 22) (.c (.v (.int .i64 4))), some (19, false)⟩,
   ⟨some 24, .pick (.t 19) (.c (.v (.bool true))) (.t 23), none⟩])
 (.cond (.t 24)
  (.seq (.region [
    ⟨none, .store 1 (.t 2) (.c (.v (.bool false))), none⟩])
  (.ret))
  (.skip)))
 (.seq (.region [
   ⟨some 25, .fld 1 (.t 1), none⟩,
   ⟨some 26, .load false 1 (.t 25), none⟩,
   ⟨some 27, .idxp 10 (.t 26) (.c (.v (.int .i64 0))), none⟩,
   ⟨some 28, .fld 1 (.t 27), none⟩,
   ⟨some 29, .load false 1 (.t 28), none⟩,
   ⟨some 30, .bin .eql (.t 29) (.c (.v (.int .i64 6))), none⟩,
   ⟨some 3, .alloc [(.v (.bool false))], none⟩,
   ⟨none, .store 1 (.t 3) (.t 30), none⟩])
 (.seq (.seq (.region [
   ⟨some 31, .fld 1 (.t 1), none⟩,
   ⟨some 32, .load false 1 (.t 31), none⟩,
   ⟨some 33, .call (.c (.f (.func F_slices_Values_Part) [] [])) [(.t 32)], none⟩])
 (.block 0 (.range (.t 33) [34]
   (.region [
     ⟨some 4, .alloc [(.v (.int .i64 0)), (.v (.int .i64 0)), (.sl [] .zero), (.v (.int .i64 0)), (.v (.int .i64 0)), (.v (.int .i64 0)), (.v (.int .i64 0)), (.v (.int .i64 0)), (.v (.bool false)), (.v (.bool false))], none⟩,
     ⟨none, .store 10 (.t 4) (.t 34), none⟩])
   (.block 1 (.seq (.region [
      ⟨some 35, .load true 10 (.t 4), none⟩,
      ⟨some 36, .call (.c (.f (.func F_part_Is) [] [])) [(.t 35)], none⟩,
      ⟨some 37, .un .not (.t 36), none⟩,
      ⟨some 38, .mov (.t 37), none⟩,
      ⟨some 39, .fld 1 (.t 4), some (38, false)⟩,
      ⟨some 40, .load false 1 (.t 39), some (38, false)⟩,
      ⟨some 41, .bin .eql (.t 40) (.c (.v (.int .i64 6))), some (38, false)⟩,
      ⟨some 42, .load false 1 (.t 3), some (38, false)⟩,
      ⟨some 43, .eqa true .bool (.t 41) (.t 42), some (38, false)⟩,
      ⟨some 44, .pick (.t 38) (.c (.v (.bool true))) (.t 43), none⟩])
    (.cond (.t 44)
     (.seq (.region [
       ⟨none, .store 1 (.t 2) (.c (.v (.bool false))), none⟩])
     (.ret))
     (.skip)))))))
 (.seq (.region [
   ⟨none, .store 1 (.t 2) (.c (.v (.bool true))), none⟩])
 (.ret))))))
theorem h_record_Is : (prog.funcs[F_record_Is]?).bind (compFn prog) = some A_record_Is := by kernel_rfl
def A_frame_Wrap : AFn := .mk 27 [.tmp 2, .tmp 3] (
 .seq (.region [
   ⟨some 2, .mov (.c (.v (.string ⟨#[]⟩))), none⟩,
   ⟨some 3, .mov (.c (.v (.int .i64 0))), none⟩])
 (.seq (.block 0 (.seq (.region [
    ⟨some 6, .mov (.t 0), none⟩,
    ⟨some 7, .bin .eql (.t 6) (.c (.v (.string ⟨#[]⟩))), none⟩,
    ⟨some 5, .mov (.t 7), none⟩])
  (.cond (.t 5)
   (.seq (.region [
     ⟨some 2, .mov (.c (.v (.string ⟨#[]⟩))), none⟩,
     ⟨some 3, .mov (.c (.v (.int .i64 11))), none⟩])
   (.ret))
   (.seq (.region [
     ⟨some 9, .mov (.t 0), none⟩,
     ⟨some 10, .len .str (.t 9), none⟩,
     ⟨some 11, .bin .gtr (.t 10) (.c (.v (.int .i64 2000))), none⟩,
     ⟨some 8, .mov (.t 11), none⟩])
   (.cond (.t 8)
    (.seq (.region [
      ⟨some 2, .mov (.c (.v (.string ⟨#[]⟩))), none⟩,
      ⟨some 3, .mov (.c (.v (.int .i64 12))), none⟩])
    (.ret))
    (.skip))))))
 (.seq (.region [
   ⟨some 12, .mov (.t 0), none⟩,
   ⟨some 13, .len .str (.t 12), none⟩,
   ⟨some 14, .conv .u32 (.t 13), none⟩,
   ⟨some 4, .mov (.t 14), none⟩])
 (.seq (.region [
   ⟨some 15, .mov (.t 4), none⟩,
   ⟨some 16, .call (.c (.f (.func F_code_Fixed) [] [])) [(.t 15)], none⟩,
   ⟨some 17, .mov (.t 4), none⟩,
   ⟨some 18, .un .xor (.t 17), none⟩,
   ⟨some 19, .call (.c (.f (.func F_code_Fixed) [] [])) [(.t 18)], none⟩,
   ⟨some 20, .bin .add (.t 16) (.t 19), none⟩,
   ⟨some 21, .mov (.t 0), none⟩,
   ⟨some 22, .bin .add (.t 20) (.t 21), none⟩,
   ⟨some 23, .mov (.t 0), none⟩,
   ⟨some 24, .call (.c (.f (.func F_crc_Of) [] [])) [(.t 23)], none⟩,
   ⟨some 25, .call (.c (.f (.func F_code_Fixed) [] [])) [(.t 24)], none⟩,
   ⟨some 26, .bin .add (.t 22) (.t 25), none⟩,
   ⟨some 2, .mov (.t 26), none⟩,
   ⟨some 3, .mov (.c (.v (.int .i64 0))), none⟩])
 (.ret)))))
theorem h_frame_Wrap : (prog.funcs[F_frame_Wrap]?).bind (compFn prog) = some A_frame_Wrap := by kernel_rfl
def A_record_held : AFn := .mk 28 [.tmp 2] (
 .seq (.region [
   ⟨some 1, .box (.t 0), none⟩,
   ⟨some 2, .mov (.c (.v (.string ⟨#[]⟩))), none⟩])
 (.seq (.draw (
   ⟨⟨some 7, .fld 0 (.t 1), none⟩, false, true, []⟩ ::
   ⟨⟨some 8, .load false 1 (.t 7), none⟩, false, true, []⟩ ::
   ⟨⟨some 9, .call (.c (.f (.func F_code_Put) [] [])) [(.t 8)], none⟩, false, true, []⟩ ::
   ⟨⟨some 10, .fld 1 (.t 1), none⟩, false, true, []⟩ ::
   ⟨⟨some 11, .load false 1 (.t 10), none⟩, false, true, []⟩ ::
   ⟨⟨some 12, .len .sl (.t 11), none⟩, false, true, []⟩ ::
   ⟨⟨some 13, .call (.c (.f (.func F_code_Put) [] [])) [(.t 12)], none⟩, false, true, []⟩ ::
   ⟨⟨some 14, .bin .add (.t 9) (.t 13), none⟩, false, true, []⟩ ::
   ⟨⟨some 3, .alloc [(.v (.string ⟨#[]⟩))], none⟩, true, false, [⟨some 13, .call (.c (.f (.func F_code_Put) [] [])) [(.t 12)], none⟩, ⟨some 11, .load false 1 (.t 10), none⟩, ⟨some 9, .call (.c (.f (.func F_code_Put) [] [])) [(.t 8)], none⟩, ⟨some 8, .load false 1 (.t 7), none⟩]⟩ ::
   ⟨⟨none, .store 1 (.t 3) (.t 14), none⟩, true, false, []⟩ ::
   []))
 (.seq (.seq (.region [
   ⟨some 15, .fld 1 (.t 1), none⟩,
   ⟨some 16, .load false 1 (.t 15), none⟩,
   ⟨some 17, .call (.c (.f (.func F_slices_Values_Part) [] [])) [(.t 16)], none⟩])
 (.block 0 (.range (.t 17) [18]
   (.region [
     ⟨some 4, .alloc [(.v (.int .i64 0)), (.v (.int .i64 0)), (.sl [] .zero), (.v (.int .i64 0)), (.v (.int .i64 0)), (.v (.int .i64 0)), (.v (.int .i64 0)), (.v (.int .i64 0)), (.v (.bool false)), (.v (.bool false))], none⟩,
     ⟨none, .store 10 (.t 4) (.t 18), none⟩])
   (.block 1 (.seq (.region [
      ⟨some 20, .load true 10 (.t 4), none⟩,
      ⟨some 21, .call (.c (.f (.func F_part_Bytes) [] [])) [(.t 20)], none⟩,
      ⟨some 19, .mov (.t 21), none⟩,
      ⟨some 22, .extract 0 (.t 19), none⟩,
      ⟨some 23, .extract 1 (.t 19), none⟩,
      ⟨some 5, .mov (.t 22), none⟩,
      ⟨some 6, .mov (.t 23), none⟩])
    (.region [
      ⟨some 24, .load false 1 (.t 3), none⟩,
      ⟨some 25, .mov (.t 5), none⟩,
      ⟨some 26, .bin .add (.t 24) (.t 25), none⟩,
      ⟨none, .store 1 (.t 3) (.t 26), none⟩]))))))
 (.seq (.region [
   ⟨some 27, .load false 1 (.t 3), none⟩,
   ⟨some 2, .mov (.t 27), none⟩])
 (.ret)))))
theorem h_record_held : (prog.funcs[F_record_held]?).bind (compFn prog) = some A_record_held := by kernel_rfl
def A_group_Last : AFn := .mk 19 [.tmp 2] (
 .seq (.region [
   ⟨some 1, .box (.t 0), none⟩,
   ⟨some 2, .mov (.c (.v (.int .i64 0))), none⟩])
 (.seq (.seq (.region [
   ⟨some 3, .fld 6 (.t 1), none⟩,
   ⟨some 4, .load false 1 (.t 3), none⟩,
   ⟨some 5, .len .sl (.t 4), none⟩,
   ⟨some 6, .bin .eql (.t 5) (.c (.v (.int .i64 0))), none⟩])
 (.cond (.t 6)
  (.seq (.region [
    ⟨some 7, .fld 1 (.t 1), none⟩,
    ⟨some 8, .load false 1 (.t 7), none⟩,
    ⟨some 9, .bin .sub (.t 8) (.c (.v (.int .i64 1))), none⟩,
    ⟨some 2, .mov (.t 9), none⟩])
  (.ret))
  (.skip)))
 (.seq (.region [
   ⟨some 10, .fld 6 (.t 1), none⟩,
   ⟨some 11, .load false 1 (.t 10), none⟩,
   ⟨some 12, .fld 6 (.t 1), none⟩,
   ⟨some 13, .load false 1 (.t 12), none⟩,
   ⟨some 14, .len .sl (.t 13), none⟩,
   ⟨some 15, .bin .sub (.t 14) (.c (.v (.int .i64 1))), none⟩,
   ⟨some 16, .idxp 3 (.t 11) (.t 15), none⟩,
   ⟨some 17, .fld 0 (.t 16), none⟩,
   ⟨some 18, .load false 1 (.t 17), none⟩,
   ⟨some 2, .mov (.t 18), none⟩])
 (.ret))))
theorem h_group_Last : (prog.funcs[F_group_Last]?).bind (compFn prog) = some A_group_Last := by kernel_rfl
def A_slices_AppendSeq_Entry : AFn := .mk 13 [.tmp 4] (
 .seq (.region [
   ⟨some 2, .box (.t 0), none⟩,
   ⟨some 4, .mov (.c (.sl [] .zero)), none⟩])
 (.seq (.seq (.region [
   ⟨some 6, .mov (.t 1), none⟩])
 (.block 0 (.range (.t 6) [7]
   (.region [
     ⟨some 5, .alloc [(.v (.int .i64 0)), (.v (.int .i64 0)), (.v (.string ⟨#[]⟩))], none⟩,
     ⟨none, .store 3 (.t 5) (.t 7), none⟩])
   (.block 1 (.region [
      ⟨some 8, .load false 1 (.t 2), none⟩,
      ⟨some 9, .load true 3 (.t 5), none⟩,
      ⟨some 10, .bsl 3 [(.t 9)], none⟩,
      ⟨some 11, .append 3 32 (.t 8) (.t 10), none⟩,
      ⟨none, .store 1 (.t 2) (.t 11), none⟩])))))
 (.seq (.region [
   ⟨some 12, .load false 1 (.t 2), none⟩,
   ⟨some 4, .mov (.t 12), none⟩])
 (.ret))))
theorem h_slices_AppendSeq_Entry : (prog.funcs[F_slices_AppendSeq_Entry]?).bind (compFn prog) = some A_slices_AppendSeq_Entry := by kernel_rfl
def A_code_Fixed : AFn := .mk 22 [.tmp 2] (
 .seq (.region [
   ⟨some 2, .mov (.c (.v (.string ⟨#[]⟩))), none⟩])
 (.seq (.region [
   ⟨some 5, .mksl [(.v (.int .u8 0))] 1 (.c (.v (.int .i64 4))), none⟩,
   ⟨some 3, .mov (.t 5), none⟩])
 (.seq (.seq (.region [
   ⟨some 6, .mov (.t 3), none⟩,
   ⟨some 7, .len .sl (.t 6), none⟩,
   ⟨some 8, .mov (.c (.v (.int .i64 0))), none⟩])
 (.block 0 (.loop (.seq (.region [
     ⟨some 9, .bin .lss (.t 8) (.t 7), none⟩])
   (.seq (.cond (.t 9)
    (.skip)
    (.exit 0))
   (.seq (.block 1 (.seq (.region [
      ⟨some 10, .mov (.t 8), none⟩,
      ⟨some 4, .mov (.t 10), none⟩])
    (.region [
      ⟨some 11, .mov (.t 3), none⟩,
      ⟨some 12, .mov (.t 4), none⟩,
      ⟨some 13, .mov (.t 0), none⟩,
      ⟨some 14, .mov (.t 4), none⟩,
      ⟨some 15, .bin .mul (.c (.v (.int .i64 8))) (.t 14), none⟩,
      ⟨some 16, .bin .shr (.t 13) (.t 15), none⟩,
      ⟨some 17, .conv .u8 (.t 16), none⟩,
      ⟨some 18, .idxp 1 (.t 11) (.t 12), none⟩,
      ⟨none, .store 1 (.t 18) (.t 17), none⟩])))
   (.region [
     ⟨some 19, .bin .add (.t 8) (.c (.v (.int .i64 1))), none⟩,
     ⟨some 8, .mov (.t 19), none⟩])))))))
 (.seq (.region [
   ⟨some 20, .mov (.t 3), none⟩,
   ⟨some 21, .b2s (.t 20), none⟩,
   ⟨some 2, .mov (.t 21), none⟩])
 (.ret)))))
theorem h_code_Fixed : (prog.funcs[F_code_Fixed]?).bind (compFn prog) = some A_code_Fixed := by kernel_rfl
def A_crc_Of : AFn := .mk 5 [.tmp 2] (
 .seq (.region [
   ⟨some 2, .mov (.c (.v (.int .u32 0))), none⟩])
 (.seq (.region [
   ⟨some 3, .mov (.t 0), none⟩,
   ⟨some 4, .call (.c (.f (.func F_crc_More) [] [])) [(.c (.v (.int .u32 0))), (.t 3)], none⟩,
   ⟨some 2, .mov (.t 4), none⟩])
 (.ret)))
theorem h_crc_Of : (prog.funcs[F_crc_Of]?).bind (compFn prog) = some A_crc_Of := by kernel_rfl
def A_code_Put : AFn := .mk 21 [.tmp 2] (
 .seq (.region [
   ⟨some 2, .mov (.c (.v (.string ⟨#[]⟩))), none⟩])
 (.seq (.region [
   ⟨some 3, .alloc [(.sl [] .zero)], none⟩])
 (.seq (.seq (.region [
   ⟨some 6, .mov (.t 0), none⟩,
   ⟨some 7, .mm true [(.t 6), (.c (.v (.int .i64 0)))], none⟩,
   ⟨some 8, .conv .u64 (.t 7), none⟩,
   ⟨some 9, .call (.c (.f (.func F_code_septets) [] [])) [(.t 8)], none⟩])
 (.block 0 (.range (.t 9) [10, 11]
   (.seq (.region [
     ⟨some 4, .mov (.t 10), none⟩])
   (.region [
     ⟨some 5, .mov (.t 11), none⟩]))
   (.block 1 (.seq (.seq (.region [
      ⟨some 12, .mov (.t 5), none⟩])
    (.cond (.t 12)
     (.region [
       ⟨some 13, .mov (.t 4), none⟩,
       ⟨some 14, .bin .or (.t 13) (.c (.v (.int .u8 128))), none⟩,
       ⟨some 4, .mov (.t 14), none⟩])
     (.skip)))
    (.region [
      ⟨some 15, .load false 1 (.t 3), none⟩,
      ⟨some 16, .mov (.t 4), none⟩,
      ⟨some 17, .bsl 1 [(.t 16)], none⟩,
      ⟨some 18, .append 1 1 (.t 15) (.t 17), none⟩,
      ⟨none, .store 1 (.t 3) (.t 18), none⟩]))))))
 (.seq (.region [
   ⟨some 19, .load false 1 (.t 3), none⟩,
   ⟨some 20, .b2s (.t 19), none⟩,
   ⟨some 2, .mov (.t 20), none⟩])
 (.ret)))))
theorem h_code_Put : (prog.funcs[F_code_Put]?).bind (compFn prog) = some A_code_Put := by kernel_rfl
def A_part_Bytes : AFn := .mk 85 [.tmp 2, .tmp 3] (
 .seq (.region [
   ⟨some 1, .box (.t 0), none⟩,
   ⟨some 2, .mov (.c (.v (.string ⟨#[]⟩))), none⟩,
   ⟨some 3, .mov (.c (.v (.int .i64 0))), none⟩])
 (.seq (.seq (.region [
   ⟨some 8, .load true 10 (.t 1), none⟩,
   ⟨some 9, .call (.c (.f (.func F_part_Is) [] [])) [(.t 8)], none⟩,
   ⟨some 10, .un .not (.t 9), none⟩])
 (.cond (.t 10)
  (.seq (.region [
    ⟨some 2, .mov (.c (.v (.string ⟨#[]⟩))), none⟩,
    ⟨some 3, .mov (.c (.v (.int .i64 11))), none⟩])
  (.ret))
  (.skip)))
 (.seq (.draw (
   ⟨⟨some 11, .fld 0 (.t 1), none⟩, false, true, []⟩ ::
   ⟨⟨some 12, .load false 1 (.t 11), none⟩, false, true, []⟩ ::
   ⟨⟨some 13, .call (.c (.f (.func F_code_Put) [] [])) [(.t 12)], none⟩, false, true, []⟩ ::
   ⟨⟨some 14, .fld 1 (.t 1), none⟩, false, true, []⟩ ::
   ⟨⟨some 15, .load false 1 (.t 14), none⟩, false, true, []⟩ ::
   ⟨⟨some 16, .call (.c (.f (.func F_code_Put) [] [])) [(.t 15)], none⟩, false, true, []⟩ ::
   ⟨⟨some 17, .bin .add (.t 13) (.t 16), none⟩, false, true, []⟩ ::
   ⟨⟨some 4, .alloc [(.v (.string ⟨#[]⟩))], none⟩, true, false, [⟨some 16, .call (.c (.f (.func F_code_Put) [] [])) [(.t 15)], none⟩, ⟨some 15, .load false 1 (.t 14), none⟩, ⟨some 13, .call (.c (.f (.func F_code_Put) [] [])) [(.t 12)], none⟩, ⟨some 12, .load false 1 (.t 11), none⟩]⟩ ::
   ⟨⟨none, .store 1 (.t 4) (.t 17), none⟩, true, false, []⟩ ::
   []))
 (.seq (.seq (.region [
   ⟨some 18, .fld 1 (.t 1), none⟩,
   ⟨some 19, .load false 1 (.t 18), none⟩,
   ⟨some 20, .bin .eql (.t 19) (.c (.v (.int .i64 6))), none⟩])
 (.cond (.t 20)
  (.draw (
    ⟨⟨some 21, .load false 1 (.t 4), none⟩, false, true, []⟩ ::
    ⟨⟨some 22, .load true 10 (.t 1), none⟩, false, false, []⟩ ::
    ⟨⟨some 23, .call (.c (.f (.func F_part_flags) [] [])) [(.t 22)], none⟩, true, false, [⟨some 21, .load false 1 (.t 4), none⟩]⟩ ::
    ⟨⟨some 24, .call (.c (.f (.func F_code_Put) [] [])) [(.t 23)], none⟩, true, false, [⟨some 21, .load false 1 (.t 4), none⟩]⟩ ::
    ⟨⟨some 25, .bin .add (.t 21) (.t 24), none⟩, false, false, []⟩ ::
    ⟨⟨none, .store 1 (.t 4) (.t 25), none⟩, true, false, []⟩ ::
    []))
  (.skip)))
 (.seq (.seq (.region [
   ⟨some 26, .call (.c (.f (.func F_part_numbers) [] [])) [(.t 1)], none⟩])
 (.block 0 (.range (.t 26) [27]
   (.region [
     ⟨some 5, .mov (.t 27), none⟩])
   (.block 1 (.draw (
      ⟨⟨some 28, .load false 1 (.t 4), none⟩, false, true, []⟩ ::
      ⟨⟨some 29, .mov (.t 5), none⟩, false, false, []⟩ ::
      ⟨⟨some 30, .nilck (.t 29), none⟩, false, false, []⟩ ::
      ⟨⟨some 31, .load false 1 (.t 30), none⟩, false, false, []⟩ ::
      ⟨⟨some 32, .call (.c (.f (.func F_code_Put) [] [])) [(.t 31)], none⟩, true, false, [⟨some 28, .load false 1 (.t 4), none⟩]⟩ ::
      ⟨⟨some 33, .bin .add (.t 28) (.t 32), none⟩, false, false, []⟩ ::
      ⟨⟨none, .store 1 (.t 4) (.t 33), none⟩, true, false, []⟩ ::
      []))))))
 (.seq (.seq (.region [
   ⟨some 34, .fld 1 (.t 1), none⟩,
   ⟨some 35, .load false 1 (.t 34), none⟩])
 (.block 2 (.seq (.region [
    ⟨some 37, .bin .eql (.t 35) (.c (.v (.int .i64 1))), none⟩,
    ⟨some 36, .mov (.t 37), none⟩])
  (.cond (.t 36)
   (.draw (
     ⟨⟨some 38, .load false 1 (.t 4), none⟩, false, true, []⟩ ::
     ⟨⟨some 39, .fld 2 (.t 1), none⟩, false, false, []⟩ ::
     ⟨⟨some 40, .load false 1 (.t 39), none⟩, false, false, []⟩ ::
     ⟨⟨some 41, .len .sl (.t 40), none⟩, false, false, []⟩ ::
     ⟨⟨some 43, .fld 2 (.t 1), none⟩, false, true, []⟩ ::
     ⟨⟨some 44, .load false 1 (.t 43), none⟩, false, true, []⟩ ::
     ⟨⟨some 45, .idxp 3 (.t 44) (.c (.v (.int .i64 0))), none⟩, false, true, []⟩ ::
     ⟨⟨some 46, .fld 0 (.t 45), none⟩, false, true, []⟩ ::
     ⟨⟨some 47, .load false 1 (.t 46), none⟩, false, true, []⟩ ::
     ⟨⟨some 42, .call (.c (.f (.func F_code_Put) [] [])) [(.t 41)], none⟩, true, false, [⟨some 47, .load false 1 (.t 46), none⟩, ⟨some 44, .load false 1 (.t 43), none⟩, ⟨some 38, .load false 1 (.t 4), none⟩]⟩ ::
     ⟨⟨some 48, .call (.c (.f (.func F_code_Put) [] [])) [(.t 47)], none⟩, true, false, [⟨some 38, .load false 1 (.t 4), none⟩]⟩ ::
     ⟨⟨some 49, .bin .add (.t 42) (.t 48), none⟩, false, false, []⟩ ::
     ⟨⟨some 50, .bin .add (.t 38) (.t 49), none⟩, false, false, []⟩ ::
     ⟨⟨none, .store 1 (.t 4) (.t 50), none⟩, true, false, []⟩ ::
     []))
   (.seq (.region [
     ⟨some 52, .bin .eql (.t 35) (.c (.v (.int .i64 6))), none⟩,
     ⟨some 51, .mov (.t 52), none⟩])
   (.cond (.t 51)
    (.draw (
      ⟨⟨some 53, .load false 1 (.t 4), none⟩, false, true, []⟩ ::
      ⟨⟨some 54, .fld 2 (.t 1), none⟩, false, false, []⟩ ::
      ⟨⟨some 55, .load false 1 (.t 54), none⟩, false, false, []⟩ ::
      ⟨⟨some 56, .len .sl (.t 55), none⟩, false, false, []⟩ ::
      ⟨⟨some 57, .call (.c (.f (.func F_code_Put) [] [])) [(.t 56)], none⟩, true, false, [⟨some 53, .load false 1 (.t 4), none⟩]⟩ ::
      ⟨⟨some 58, .bin .add (.t 53) (.t 57), none⟩, false, false, []⟩ ::
      ⟨⟨none, .store 1 (.t 4) (.t 58), none⟩, true, false, []⟩ ::
      []))
    (.skip)))))))
 (.seq (.seq (.region [
   ⟨some 59, .fld 2 (.t 1), none⟩,
   ⟨some 60, .load false 1 (.t 59), none⟩,
   ⟨some 61, .len .sl (.t 60), none⟩,
   ⟨some 62, .mov (.c (.v (.int .i64 0))), none⟩])
 (.block 3 (.loop (.seq (.region [
     ⟨some 63, .bin .lss (.t 62) (.t 61), none⟩])
   (.seq (.cond (.t 63)
    (.skip)
    (.exit 3))
   (.seq (.block 4 (.seq (.region [
      ⟨some 64, .idxp 3 (.t 60) (.t 62), none⟩,
      ⟨some 65, .load true 3 (.t 64), none⟩,
      ⟨some 7, .alloc [(.v (.int .i64 0)), (.v (.int .i64 0)), (.v (.string ⟨#[]⟩))], none⟩,
      ⟨none, .store 3 (.t 7) (.t 65), none⟩])
    (.seq (.seq (.region [
      ⟨some 66, .fld 1 (.t 1), none⟩,
      ⟨some 67, .load false 1 (.t 66), none⟩,
      ⟨some 68, .bin .eql (.t 67) (.c (.v (.int .i64 6))), none⟩])
    (.cond (.t 68)
     (.draw (
       ⟨⟨some 69, .load false 1 (.t 4), none⟩, false, true, []⟩ ::
       ⟨⟨some 70, .fld 0 (.t 7), none⟩, false, false, []⟩ ::
       ⟨⟨some 71, .load false 1 (.t 70), none⟩, false, false, []⟩ ::
       ⟨⟨some 72, .call (.c (.f (.func F_code_Put) [] [])) [(.t 71)], none⟩, true, false, [⟨some 69, .load false 1 (.t 4), none⟩]⟩ ::
       ⟨⟨some 73, .bin .add (.t 69) (.t 72), none⟩, false, false, []⟩ ::
       ⟨⟨none, .store 1 (.t 4) (.t 73), none⟩, true, false, []⟩ ::
       []))
     (.skip)))
    (.draw (
      ⟨⟨some 74, .load false 1 (.t 4), none⟩, false, true, []⟩ ::
      ⟨⟨some 75, .fld 1 (.t 7), none⟩, false, false, []⟩ ::
      ⟨⟨some 76, .load false 1 (.t 75), none⟩, false, false, []⟩ ::
      ⟨⟨some 78, .fld 2 (.t 7), none⟩, false, true, []⟩ ::
      ⟨⟨some 79, .load false 1 (.t 78), none⟩, false, true, []⟩ ::
      ⟨⟨some 77, .call (.c (.f (.func F_code_Put) [] [])) [(.t 76)], none⟩, true, false, [⟨some 79, .load false 1 (.t 78), none⟩, ⟨some 74, .load false 1 (.t 4), none⟩]⟩ ::
      ⟨⟨some 80, .call (.c (.f (.func F_code_Text) [] [])) [(.t 79)], none⟩, true, false, [⟨some 74, .load false 1 (.t 4), none⟩]⟩ ::
      ⟨⟨some 81, .bin .add (.t 77) (.t 80), none⟩, false, false, []⟩ ::
      ⟨⟨some 82, .bin .add (.t 74) (.t 81), none⟩, false, false, []⟩ ::
      ⟨⟨none, .store 1 (.t 4) (.t 82), none⟩, true, false, []⟩ ::
      [])))))
   (.region [
     ⟨some 83, .bin .add (.t 62) (.c (.v (.int .i64 1))), none⟩,
     ⟨some 62, .mov (.t 83), none⟩])))))))
 (.seq (.region [
   ⟨some 84, .load false 1 (.t 4), none⟩,
   ⟨some 2, .mov (.t 84), none⟩,
   ⟨some 3, .mov (.c (.v (.int .i64 0))), none⟩])
 (.ret)))))))))
theorem h_part_Bytes : (prog.funcs[F_part_Bytes]?).bind (compFn prog) = some A_part_Bytes := by kernel_rfl
def A_crc_More : AFn := .mk 27 [.tmp 4] (
 .seq (.region [
   ⟨some 2, .box (.t 0), none⟩,
   ⟨some 4, .mov (.c (.v (.int .u32 0))), none⟩])
 (.seq (.region [
   ⟨some 8, .load false 1 (.t 2), none⟩,
   ⟨some 9, .un .xor (.t 8), none⟩,
   ⟨none, .store 1 (.t 2) (.t 9), none⟩])
 (.seq (.seq (.region [
   ⟨some 10, .mov (.t 1), none⟩,
   ⟨some 11, .s2b (.t 10), none⟩,
   ⟨some 12, .len .sl (.t 11), none⟩,
   ⟨some 13, .mov (.c (.v (.int .i64 0))), none⟩])
 (.block 0 (.loop (.seq (.region [
     ⟨some 14, .bin .lss (.t 13) (.t 12), none⟩])
   (.seq (.cond (.t 14)
    (.skip)
    (.exit 0))
   (.seq (.block 1 (.seq (.region [
      ⟨some 15, .idxp 1 (.t 11) (.t 13), none⟩,
      ⟨some 16, .load false 1 (.t 15), none⟩,
      ⟨some 6, .mov (.t 16), none⟩])
    (.seq (.region [
      ⟨some 17, .load false 1 (.t 2), none⟩,
      ⟨some 18, .mov (.t 6), none⟩,
      ⟨some 19, .conv .u32 (.t 18), none⟩,
      ⟨some 20, .bin .xor (.t 17) (.t 19), none⟩,
      ⟨some 21, .call (.c (.f (.func F_crc_steps) [] [])) [(.t 20)], none⟩])
    (.block 2 (.range (.t 21) [22]
      (.region [
        ⟨some 7, .mov (.t 22), none⟩])
      (.block 3 (.region [
         ⟨some 23, .mov (.t 7), none⟩,
         ⟨none, .store 1 (.t 2) (.t 23), none⟩])))))))
   (.region [
     ⟨some 24, .bin .add (.t 13) (.c (.v (.int .i64 1))), none⟩,
     ⟨some 13, .mov (.t 24), none⟩])))))))
 (.seq (.region [
   ⟨some 25, .load false 1 (.t 2), none⟩,
   ⟨some 26, .un .xor (.t 25), none⟩,
   ⟨some 4, .mov (.t 26), none⟩])
 (.ret)))))
theorem h_crc_More : (prog.funcs[F_crc_More]?).bind (compFn prog) = some A_crc_More := by kernel_rfl
def A_code_septets : AFn := .mk 4 [.tmp 2] (
 .seq (.region [
   ⟨some 1, .box (.t 0), none⟩,
   ⟨some 2, .mov (.c (.v .nilFunc)), none⟩])
 (.seq (.region [
   ⟨some 3, .mkf (.func F_code_septets_1) [] [(.t 1)], none⟩,
   ⟨some 2, .mov (.t 3), none⟩])
 (.ret)))
theorem h_code_septets : (prog.funcs[F_code_septets]?).bind (compFn prog) = some A_code_septets := by kernel_rfl
def A_part_flags : AFn := .mk 13 [.tmp 2] (
 .seq (.region [
   ⟨some 1, .box (.t 0), none⟩,
   ⟨some 2, .mov (.c (.v (.int .i64 0))), none⟩])
 (.seq (.region [
   ⟨some 3, .mov (.c (.v (.int .i64 0))), none⟩])
 (.seq (.seq (.region [
   ⟨some 4, .fld 8 (.t 1), none⟩,
   ⟨some 5, .load false 1 (.t 4), none⟩])
 (.cond (.t 5)
  (.region [
    ⟨some 6, .mov (.t 3), none⟩,
    ⟨some 7, .bin .or (.t 6) (.c (.v (.int .i64 1))), none⟩,
    ⟨some 3, .mov (.t 7), none⟩])
  (.skip)))
 (.seq (.seq (.region [
   ⟨some 8, .fld 9 (.t 1), none⟩,
   ⟨some 9, .load false 1 (.t 8), none⟩])
 (.cond (.t 9)
  (.region [
    ⟨some 10, .mov (.t 3), none⟩,
    ⟨some 11, .bin .or (.t 10) (.c (.v (.int .i64 2))), none⟩,
    ⟨some 3, .mov (.t 11), none⟩])
  (.skip)))
 (.seq (.region [
   ⟨some 12, .mov (.t 3), none⟩,
   ⟨some 2, .mov (.t 12), none⟩])
 (.ret))))))
theorem h_part_flags : (prog.funcs[F_part_flags]?).bind (compFn prog) = some A_part_flags := by kernel_rfl
def A_part_numbers : AFn := .mk 4 [.tmp 2] (
 .seq (.region [
   ⟨some 1, .box (.t 0), none⟩,
   ⟨some 2, .mov (.c (.v .nilFunc)), none⟩])
 (.seq (.region [
   ⟨some 3, .mkf (.func F_part_numbers_1) [] [(.t 1)], none⟩,
   ⟨some 2, .mov (.t 3), none⟩])
 (.ret)))
theorem h_part_numbers : (prog.funcs[F_part_numbers]?).bind (compFn prog) = some A_part_numbers := by kernel_rfl
def A_code_Text : AFn := .mk 8 [.tmp 2] (
 .seq (.region [
   ⟨some 2, .mov (.c (.v (.string ⟨#[]⟩))), none⟩])
 (.seq (.region [
   ⟨some 3, .mov (.t 0), none⟩,
   ⟨some 4, .len .str (.t 3), none⟩,
   ⟨some 5, .call (.c (.f (.func F_code_Put) [] [])) [(.t 4)], none⟩,
   ⟨some 6, .mov (.t 0), none⟩,
   ⟨some 7, .bin .add (.t 5) (.t 6), none⟩,
   ⟨some 2, .mov (.t 7), none⟩])
 (.ret)))
theorem h_code_Text : (prog.funcs[F_code_Text]?).bind (compFn prog) = some A_code_Text := by kernel_rfl
def A_crc_steps : AFn := .mk 4 [.tmp 2] (
 .seq (.region [
   ⟨some 1, .box (.t 0), none⟩,
   ⟨some 2, .mov (.c (.v .nilFunc)), none⟩])
 (.seq (.region [
   ⟨some 3, .mkf (.func F_crc_steps_1) [] [(.t 1)], none⟩,
   ⟨some 2, .mov (.t 3), none⟩])
 (.ret)))
theorem h_crc_steps : (prog.funcs[F_crc_steps]?).bind (compFn prog) = some A_crc_steps := by kernel_rfl
def A_code_septets_1 : AFn := .mk 17 [] (
 .seq (.block 0 (.loop (.seq (.seq (.region [
     ⟨some 3, .load false 1 (.t 1), none⟩,
     ⟨some 4, .bin .geq (.t 3) (.c (.v (.int .u64 128))), none⟩])
   (.cond (.t 4)
    (.skip)
    (.exit 0)))
   (.seq (.block 1 (.seq (.region [
      ⟨some 7, .mov (.t 0), none⟩,
      ⟨some 8, .load false 1 (.t 1), none⟩,
      ⟨some 9, .conv .u8 (.t 8), none⟩,
      ⟨some 10, .bin .andNot (.t 9) (.c (.v (.int .u8 128))), none⟩,
      ⟨some 11, .call (.t 7) [(.t 10), (.c (.v (.bool true)))], none⟩,
      ⟨some 12, .un .not (.t 11), none⟩])
    (.cond (.t 12)
     (.ret)
     (.skip))))
   (.region [
     ⟨some 5, .load false 1 (.t 1), none⟩,
     ⟨some 6, .bin .shr (.t 5) (.c (.v (.int .u64 7))), none⟩,
     ⟨none, .store 1 (.t 1) (.t 6), none⟩])))))
 (.region [
   ⟨some 13, .mov (.t 0), none⟩,
   ⟨some 14, .load false 1 (.t 1), none⟩,
   ⟨some 15, .conv .u8 (.t 14), none⟩,
   ⟨some 16, .call (.t 13) [(.t 15), (.c (.v (.bool false)))], none⟩]))
theorem h_code_septets_1 : (prog.funcs[F_code_septets_1]?).bind (compFn prog) = some A_code_septets_1 := by kernel_rfl
def A_part_numbers_1 : AFn := .mk 72 [] (
 .seq (.region [
   ⟨some 4, .load false 1 (.t 1), none⟩,
   ⟨some 5, .nilck (.t 4), none⟩,
   ⟨some 6, .fld 1 (.t 5), none⟩,
   ⟨some 7, .load false 1 (.t 6), none⟩,
   ⟨some 8, .bin .eql (.t 7) (.c (.v (.int .i64 3))), none⟩,
   ⟨some 9, .mov (.t 8), none⟩,
   ⟨some 10, .load false 1 (.t 1), some (9, false)⟩,
   ⟨some 11, .nilck (.t 10), some (9, false)⟩,
   ⟨some 12, .fld 1 (.t 11), some (9, false)⟩,
   ⟨some 13, .load false 1 (.t 12), some (9, false)⟩,
   ⟨some 14, .bin .eql (.t 13) (.c (.v (.int .i64 4))), some (9, false)⟩,
   ⟨some 15, .pick (.t 9) (.c (.v (.bool true))) (.t 14), none⟩,
   ⟨some 16, .mov (.t 15), none⟩,
   ⟨some 17, .load false 1 (.t 1), some (16, false)⟩,
   ⟨some 18, .nilck (.t 17), some (16, false)⟩,
   ⟨some 19, .fld 8 (.t 18), some (16, false)⟩,
   ⟨some 20, .load false 1 (.t 19), some (16, false)⟩,
   ⟨some 21, .pick (.t 16) (.c (.v (.bool true))) (.t 20), none⟩,
   ⟨some 3, .mov (.t 21), none⟩])
 (.seq (.seq (.region [
   ⟨some 22, .mov (.t 3), none⟩,
   ⟨some 23, .mov (.t 22), none⟩,
   ⟨some 24, .mov (.t 0), some (23, true)⟩,
   ⟨some 25, .load false 1 (.t 1), some (23, true)⟩,
   ⟨some 26, .nilck (.t 25), some (23, true)⟩,
   ⟨some 27, .fld 6 (.t 26), some (23, true)⟩,
   ⟨some 28, .call (.t 24) [(.t 27)], some (23, true)⟩,
   ⟨some 29, .un .not (.t 28), some (23, true)⟩,
   ⟨some 30, .mov (.t 29), some (23, true)⟩,
   ⟨some 31, .mov (.t 0), some (30, false)⟩,
   ⟨some 32, .load false 1 (.t 1), some (30, false)⟩,
   ⟨some 33, .nilck (.t 32), some (30, false)⟩,
   ⟨some 34, .fld 7 (.t 33), some (30, false)⟩,
   ⟨some 35, .call (.t 31) [(.t 34)], some (30, false)⟩,
   ⟨some 36, .un .not (.t 35), some (30, false)⟩,
   ⟨some 37, .pick (.t 30) (.c (.v (.bool true))) (.t 36), some (23, true)⟩,
   ⟨some 38, .pick (.t 23) (.t 37) (.c (.v (.bool false))), none⟩])
 (.cond (.t 38)
  (.ret)
  (.skip)))
 (.seq (.region [
   ⟨some 39, .load false 1 (.t 1), none⟩,
   ⟨some 40, .nilck (.t 39), none⟩,
   ⟨some 41, .fld 1 (.t 40), none⟩,
   ⟨some 42, .load false 1 (.t 41), none⟩,
   ⟨some 43, .bin .eql (.t 42) (.c (.v (.int .i64 2))), none⟩,
   ⟨some 44, .mov (.t 43), none⟩,
   ⟨some 45, .load false 1 (.t 1), some (44, false)⟩,
   ⟨some 46, .nilck (.t 45), some (44, false)⟩,
   ⟨some 47, .fld 9 (.t 46), some (44, false)⟩,
   ⟨some 48, .load false 1 (.t 47), some (44, false)⟩,
   ⟨some 49, .pick (.t 44) (.c (.v (.bool true))) (.t 48), none⟩,
   ⟨some 50, .mov (.t 49), none⟩,
   ⟨some 51, .mov (.t 0), some (50, true)⟩,
   ⟨some 52, .load false 1 (.t 1), some (50, true)⟩,
   ⟨some 53, .nilck (.t 52), some (50, true)⟩,
   ⟨some 54, .fld 3 (.t 53), some (50, true)⟩,
   ⟨some 55, .fld 0 (.t 54), some (50, true)⟩,
   ⟨some 56, .call (.t 51) [(.t 55)], some (50, true)⟩,
   ⟨some 57, .pick (.t 50) (.t 56) (.c (.v (.bool false))), none⟩,
   ⟨some 58, .mov (.t 57), none⟩,
   ⟨some 59, .mov (.t 0), some (58, true)⟩,
   ⟨some 60, .load false 1 (.t 1), some (58, true)⟩,
   ⟨some 61, .nilck (.t 60), some (58, true)⟩,
   ⟨some 62, .fld 3 (.t 61), some (58, true)⟩,
   ⟨some 63, .fld 1 (.t 62), some (58, true)⟩,
   ⟨some 64, .call (.t 59) [(.t 63)], some (58, true)⟩,
   ⟨some 65, .pick (.t 58) (.t 64) (.c (.v (.bool false))), none⟩])
 (.cond (.t 65)
  (.region [
    ⟨some 66, .mov (.t 0), none⟩,
    ⟨some 67, .load false 1 (.t 1), none⟩,
    ⟨some 68, .nilck (.t 67), none⟩,
    ⟨some 69, .fld 3 (.t 68), none⟩,
    ⟨some 70, .fld 2 (.t 69), none⟩,
    ⟨some 71, .call (.t 66) [(.t 70)], none⟩])
  (.skip)))))
theorem h_part_numbers_1 : (prog.funcs[F_part_numbers_1]?).bind (compFn prog) = some A_part_numbers_1 := by kernel_rfl
end Go.Proofs.Ytmfhchaoijiodaa
end
section
namespace Go.Proofs.Ytmfhchaoijiodaa
open Go.Ab
set_option maxRecDepth 100000
def A_crc_steps_1 : AFn := .mk 19 [] (
 .seq (.region [
   ⟨some 4, .mov (.c (.v (.int .i64 0))), none⟩])
 (.block 0 (.loop (.seq (.region [
     ⟨some 5, .bin .lss (.t 4) (.c (.v (.int .i64 8))), none⟩])
   (.seq (.cond (.t 5)
    (.skip)
    (.exit 0))
   (.seq (.block 1 (.seq (.region [
      ⟨some 6, .load false 1 (.t 1), none⟩,
      ⟨some 7, .bin .and (.t 6) (.c (.v (.int .u32 1))), none⟩,
      ⟨some 3, .mov (.t 7), none⟩])
    (.seq (.region [
      ⟨some 8, .load false 1 (.t 1), none⟩,
      ⟨some 9, .bin .shr (.t 8) (.c (.v (.int .u64 1))), none⟩,
      ⟨none, .store 1 (.t 1) (.t 9), none⟩])
    (.seq (.seq (.region [
      ⟨some 10, .mov (.t 3), none⟩,
      ⟨some 11, .bin .eql (.t 10) (.c (.v (.int .u32 1))), none⟩])
    (.cond (.t 11)
     (.region [
       ⟨some 12, .load false 1 (.t 1), none⟩,
       ⟨some 13, .bin .xor (.t 12) (.c (.v (.int .u32 2197175160))), none⟩,
       ⟨none, .store 1 (.t 1) (.t 13), none⟩])
     (.skip)))
    (.seq (.region [
      ⟨some 14, .mov (.t 0), none⟩,
      ⟨some 15, .load false 1 (.t 1), none⟩,
      ⟨some 16, .call (.t 14) [(.t 15)], none⟩,
      ⟨some 17, .un .not (.t 16), none⟩])
    (.cond (.t 17)
     (.ret)
     (.skip)))))))
   (.region [
     ⟨some 18, .bin .add (.t 4) (.c (.v (.int .i64 1))), none⟩,
     ⟨some 4, .mov (.t 18), none⟩])))))))
theorem h_crc_steps_1 : (prog.funcs[F_crc_steps_1]?).bind (compFn prog) = some A_crc_steps_1 := by kernel_rfl
end Go.Proofs.Ytmfhchaoijiodaa
end
section
namespace Go.Ab
open Go.RowKit
set_option linter.unusedVariables false
variable {P : Program}
def IterM (P : Program) (g : FuncId) (fs caps : List AV) (b : Nat) (xs : List (List AV)) (u : Nat → AV) (v0 : AV) : Prop :=
  ∀ (l : Nat) (s : AState) (I : Nat → AV → AState → Prop) (J : AState → Prop),
    (∀ k x s, I k x s → s.get b = .cells [x]) → (∀ k x y s, I k x s → I k y (s.set b (.cells [y]))) → (∀ k x s o, I k x s → I k x (s.alloc o)) → (∀ s o, J s → J (s.alloc o)) →
    (∀ k (hk : k < xs.length) s, I k (u k) s → YRuns (compCode P) P l xs[k] s (fun r s' => (r = .v (.bool true) ∧ I (k + 1) (u k) s') ∨ (r = .v (.bool false) ∧ J s'))) →
    I 0 v0 s → Runs (compCode P) P g (fs ++ [.y l] ++ caps) s (fun _ s' => (∃ x, I xs.length x s') ∨ J s')
theorem m_mks {cmp : Code → Option ACode} {d n : Nat} {e : List (Nat × AV)} {s : AState} {r : List AOper} {K : List AV → AState → Prop} {bytes : Nat} {zs : List AV} {lx : Arg} {kd : IntKind} {mm : Int} (hx : lx.ev (den n e) = .v (.int kd mm)) (h : 0 ≤ mm ∧ mm * bytes ≤ 140737488355328 ∧ mm ≤ 4611686018427387904)
    (hk : AOps cmp P r K (den n ((d, .ms s.n 0 mm.toNat) :: e)) (s.alloc (.cells (List.replicate mm.toNat zs).flatten))) : Lops cmp P ⟨some d, .mksl zs bytes lx, none⟩ r K n e s .a := o_mksl hx h hk
theorem AState.set_set (s : AState) (b : Nat) (o o' : AObj) : (s.set b o).set b o' = s.set b o' := by
  unfold AState.set
  congr 1
  funext x
  by_cases h : x = b <;> simp [h]
section
variable {f : Arg} {ps : List Nat} {asg body : ACode} {Q : Exit → AAct → AState → Prop} {d : List Nat} {s : AState} {g : FuncId} {fs caps : List AV} {xs : List (List AV)} {n : Nat} {e : List (Nat × AV)} {b : Nat} {u : Nat → AV} {v0 : AV}
theorem w_rangeM (hf : f.ev (den n e) = .f (.func g) fs caps) (hit : IterM P g fs caps b xs u v0) (hps : ∀ x ∈ xs, x.length = ps.length) {m : Nat} (hm : xs.length = m) (I : Nat → AV → AState → Prop) (J : AJump → AState → Prop)
    (h0 : ∀ LR, I 0 v0 ((s.alloc .defd).alloc LR)) (hb : b < s.n)
    (hg : ∀ k x s', I k x s' → s'.get b = .cells [x]) (hs : ∀ k x y s', s.n + 2 ≤ s'.n → I k x s' → I k y (s'.set b (.cells [y])))
    (hA : ∀ k x s' o, s.n + 2 ≤ s'.n → I k x s' → I k x (s'.alloc o)) (hJ : ∀ j s' o, s.n + 2 ≤ s'.n → J j s' → J j (s'.alloc o))
    (hr : ∀ LR LB LJ, IsLoop LB s.n → LR ≠ .dead → ∀ k (hk : k < xs.length) s', s'.get s.n = .defd → s'.get (s.n + 1) = LR → s.n + 1 < s'.n → I k (u k) s' →
      wp P (some (s.n + 1)) asg (roundA P (s.n + 1) LR LB LJ body (FinS (some s.n) (s.n + 1) LR LJ (I (k + 1) (u k)) J)) { t := den n ((ps.zip xs[k]).reverse ++ e), d := [] } s')
    (hn : ∀ s' x, s'.get s.n = .defd → s.n + 1 < s'.n → I m x s' → Q .normal { t := den n e, d := s.n :: d } (s'.set (s.n + 1) .dead))
    (hq : ∀ j s', s'.get s.n = .defd → s.n + 1 < s'.n → J j s' → Q j.exitOf { t := den n e, d := s.n :: d } (s'.set (s.n + 1) .dead)) :
    Lwp P none (.range f ps asg body) Q { t := den n e, d := d } s .a := by
  subst hm
  have lt : ∀ {s' : AState} {o : AObj}, s'.get (s.n + 1) = o → o ≠ .dead → s.n + 1 < s'.n := fun h1 h2 => AState.lt_of_get h1 h2
  refine ⟨g, fs, caps, hf, ?_⟩
  refine Runs.mono (hit (s.n + 1) _ (fun k x s' => s'.get s.n = .defd ∧ s'.get (s.n + 1) = .loop .ready none (den n e) ps asg body s.n ∧ I k x s')
    (fun s' => ∃ j, s'.get s.n = .defd ∧ s'.get (s.n + 1) = .loop .done (some j) (den n e) ps asg body s.n ∧ J j s') ?_ ?_ ?_ ?_ ?_ ?_) ?_
  · rintro k x s' ⟨h1, h2, h3⟩; exact hg k x s' h3
  · rintro k x y s' ⟨h1, h2, h3⟩
    have := lt h2 (by simp)
    exact ⟨by rw [AState.get_set_ne _ _ (by omega)]; exact h1, by rw [AState.get_set_ne _ _ (by omega)]; exact h2, hs k x y s' (by omega) h3⟩
  · rintro k x s' o ⟨h1, h2, h3⟩
    have := lt h2 (by simp)
    exact ⟨by rw [get_alloc_ne (by omega)]; exact h1, by rw [get_alloc_ne (by omega)]; exact h2, hA k x s' o (by omega) h3⟩
  · rintro s' o ⟨j, h1, h2, h3⟩
    have := lt h2 (by simp)
    exact ⟨j, by rw [get_alloc_ne (by omega)]; exact h1, by rw [get_alloc_ne (by omega)]; exact h2, hJ j s' o (by omega) h3⟩
  · rintro k hk s' ⟨h1, h2, h3⟩
    have hR : Round P (s.n + 1) ps asg body (den n e) s.n xs[k] (fun j s'' => match j with
        | none => s''.get s.n = .defd ∧ s''.get (s.n + 1) = .loop .ready none (den n e) ps asg body s.n ∧ I (k + 1) (u k) s''
        | some j => s''.get s.n = .defd ∧ s''.get (s.n + 1) = .loop .done (some j) (den n e) ps asg body s.n ∧ J j s'') s' := by
      unfold Round
      rw [fillT_den]
      refine wp_mono ?_ (hr _ (.loop .busy none (den n e) ps asg body s.n) (fun j => .loop .done (some j) (den n e) ps asg body s.n) ⟨_, _, _, _, _, _, rfl⟩ (by simp) k hk s' h1 h2 (lt h2 (by simp)) h3)
      rintro e' a1 s1 ⟨rfl, k2, k3⟩
      refine ⟨rfl, k2, wp_mono ?_ k3⟩
      rintro e' a2 s2 ⟨m1, m2⟩
      refine ⟨m1, ?_⟩
      cases e' with
      | normal => exact ⟨m2.1 _ rfl, m2.2⟩
      | ret => exact ⟨m2.1 _ rfl, m2.2⟩
      | exit i => exact ⟨m2.1 _ rfl, m2.2⟩
      | goto i => exact ⟨m2.1 _ rfl, m2.2⟩
      | panic _ => exact m2
      | outgrown => exact m2
    exact hR.yruns h2 (hps _ (List.getElem_mem hk)) (fun s'' h => .inl ⟨rfl, h⟩) (fun j s'' h => .inr ⟨rfl, j, h⟩)
  · exact ⟨by rw [get_alloc_ne (by simp)]; simp, get_alloc_eq (by simp), h0 _⟩
  · rintro x s' (⟨y, h1, h2, h3⟩ | ⟨j, h1, h2, h3⟩)
    · exact ⟨_, _, h2, by simp, hn s' y h1 (lt h2 (by simp)) h3⟩
    · exact ⟨_, _, h2, by simp, hq j s' h1 (lt h2 (by simp)) h3⟩
end
end Go.Ab
end
section
namespace Go.Ab
set_option linter.unusedVariables false
def lowC (c : Int) : Bool := IntKind.wrap .u32 ((((c % 2 ^ IntKind.u32.bits).toNat &&& 1 % 2 ^ IntKind.u32.bits : Nat)) : Int) == 1
def halfC (c : Int) : Int := c.fdiv (2 ^ min 1 IntKind.u32.bits)
def polyC (c : Int) : Int := IntKind.wrap .u32 (((c % 2 ^ IntKind.u32.bits).toNat ^^^ 2197175160 % 2 ^ IntKind.u32.bits : Nat) : Int)
def crcS (c : Int) : Int := if lowC c = true then polyC (halfC c) else halfC c
def crcN (c : Int) : Nat → Int
  | 0 => c
  | k + 1 => crcS (crcN c k)
end Go.Ab
namespace Go.Proofs.Ytmfhchaoijiodaa
open Go.Ab
set_option linter.unusedVariables false
set_option linter.unusedSimpArgs false
set_option maxRecDepth 100000
set_option maxHeartbeats 1000000
theorem ct_crc_steps {c : Int} {s : AState} : Gives prog F_crc_steps [.v (.int .u32 c)] s (.f (.func F_crc_steps_1) [] [.p s.n 0]) (s.alloc (.cells [.v (.int .u32 c)])) := by
  refine runs_e h_crc_steps (Nat.le_of_ble_eq_true rfl) ?_
  refine st0 ?_
  exact ret_ok rfl ⟨rfl, rfl⟩
theorem it_crc_steps {c : Int} {b : Nat} : IterM prog F_crc_steps_1 [] [.p b 0] b ((List.range 8).map fun k => [.v (.int .u32 (crcN c (k + 1)))]) (fun k => .v (.int .u32 (crcN c (k + 1)))) (.v (.int .u32 c)) := by
  intro l s I J hg hs ha hj hy h0
  refine runs_e h_crc_steps_1 (Nat.le_of_ble_eq_true rfl) ?_
  refine st0 ?_
  refine loop_ok [0, 1, 4] (fun m a s1 => ∃ k : Nat, k + m = 8 ∧ I k (.v (.int .u32 (crcN c k))) s1 ∧ a = { t := den 19 [(0, .y l), (1, .p b 0), (4, .v (.int .i64 k))], d := [] }) 8 ?_ ?_
  · exact ⟨0, by simp, h0, by simp⟩
  rintro m a s1 ⟨k, hkm, hI, rfl⟩
  by_cases hlt : k < 8
  · have hw : IntKind.wrap .i64 ((k : Int) + 1) = ((k + 1 : Nat) : Int) := by rw [wrap_i64 (by omega) (by omega)]; omega
    have hlt' : (k : Int) < 8 := by omega
    have hb := hg _ _ _ hI
    have hbn := AState.lt_of_get hb (by simp)
    have hy' := hy k (by simpa using hlt) _ (hs _ _ (.v (.int .u32 (crcN c (k + 1)))) _ hI)
    have e1 : crcN c (k + 1) = crcS (crcN c k) := rfl
    rw [e1] at hy'
    simp only [List.getElem_map, List.getElem_range, e1] at hy'
    have hS : ∀ o o', (s1.set b o).set b o' = s1.set b o' := fun o o' => AState.set_set _ _ _ _
    cases hl : lowC (crcN c k) with
    | true =>
      have e2 : crcS (crcN c k) = polyC (halfC (crcN c k)) := by unfold crcS; rw [if_pos hl]
      rw [e2] at hy'
      unfold lowC at hl
      unfold polyC halfC at hy'
      refine st4 hlt' hb hl hS ?_
      refine yr0 (hy') ?_
      rintro _ s2 (⟨rfl, hI2⟩ | ⟨rfl, hJ⟩)
      · refine st1 hw ?_
        exact ⟨m - 1, by omega, k + 1, by omega, by rw [e1, e2]; exact hI2, by simp⟩
      · refine st0 ?_
        exact ret_ok rfl (.inr hJ)
    | false =>
      have e2 : crcS (crcN c k) = halfC (crcN c k) := by unfold crcS; rw [if_neg (by simp [hl])]
      rw [e2] at hy'
      unfold lowC at hl
      unfold halfC at hy'
      refine st4 hlt' hb hl hS ?_
      refine yr0 (hy') ?_
      rintro _ s2 (⟨rfl, hI2⟩ | ⟨rfl, hJ⟩)
      · refine st1 hw ?_
        exact ⟨m - 1, by omega, k + 1, by omega, by rw [e1, e2]; exact hI2, by simp⟩
      · refine st0 ?_
        exact ret_ok rfl (.inr hJ)
  · have hk8 : k = 8 := by omega
    subst hk8
    refine st0 ?_
    exact end_ok rfl (.inl ⟨_, hI⟩)
end Go.Proofs.Ytmfhchaoijiodaa
end
section
namespace Go.Ab
set_option linter.unusedVariables false
def xorC (a b : Int) : Int := IntKind.wrap .u32 (((a % 2 ^ IntKind.u32.bits).toNat ^^^ (b % 2 ^ IntKind.u32.bits).toNat : Nat) : Int)
def notC (c : Int) : Int := IntKind.wrap .u32 ((((if IntKind.u32.signed = true then -1 else IntKind.u32.max) % 2 ^ IntKind.u32.bits).toNat ^^^ (c % 2 ^ IntKind.u32.bits).toNat : Nat) : Int)
def crcL (c : Int) (l : List UInt8) : Int := l.foldl (fun c x => crcN (xorC c (IntKind.wrap .u32 (x.toNat : Int))) 8) c
theorem crcL_snoc {c : Int} {l : List UInt8} {j : Nat} (h : j < l.length) : crcL c (l.take (j + 1)) = crcN (xorC (crcL c (l.take j)) (IntKind.wrap .u32 (l[j].toNat : Int))) 8 := by
  have e : l.take (j + 1) = l.take j ++ [l[j]] := (List.take_append_getElem h).symm
  rw [e]; simp only [crcL, List.foldl_append]; rfl
def crcMoreS (c : Int) (b : ByteArray) : Int := notC (crcL (notC c) b.data.toList)
def crcOfS (b : ByteArray) : Int := crcMoreS 0 b
structure MoI (s s1 : AState) (cp c0 : Int) (D : List Nat) (k : Nat) (x : AV) (s' : AState) : Prop where
  g : Grows s s'
  c : s'.get s.n = .cells [.v (.int .u32 (if k = 0 then cp else crcN c0 k))]
  b : s'.get s1.n = .cells [x]
  d : Dfs (s.n + 1) s' D
  lt : ∀ y ∈ D, y < s1.n
  n : s1.n + 3 ≤ s'.n
end Go.Ab
namespace Go.Proofs.Ytmfhchaoijiodaa
open Go.Ab
set_option linter.unusedVariables false
set_option linter.unusedSimpArgs false
set_option maxRecDepth 100000
set_option maxHeartbeats 1000000
theorem ct_crc_More {c : Int} {b : ByteArray} {s : AState} (hb : b.data.toList.length < 9223372036854775808) : Gives prog F_crc_More [.v (.int .u32 c), .v (.string b)] s (.v (.int .u32 (crcMoreS c b))) s := by
  refine Runs.gives' (runs_e h_crc_More (Nat.le_of_ble_eq_true rfl) ?_) (.v _)
  obtain ⟨L, hL⟩ : ∃ L, L = b.data.toList := ⟨_, rfl⟩
  unfold crcMoreS
  rw [← hL] at hb ⊢
  have hbl : (bytesOf b).length = L.length := by simp [bytesOf, hL]
  have fin : ∀ (e : List (Nat × AV)) (D : List Nat) (s' : AState), Ab.get e 4 = .v (.int .u32 (notC (crcL (notC c) L))) → Grows s s' → Dfs (s.n + 1) s' D → fnQ [ARes.tmp 4] (fun x s' => Grows s s' ∧ x.le (.v (.int .u32 (notC (crcL (notC c) L))))) .ret { t := den 27 e, d := D } s' := fun e D s' h1 h2 h3 =>
    ret_okD (fun x hx => (h3.1 x hx).2) h3.2 (xs := [.v (.int .u32 (notC (crcL (notC c) L)))]) (by simp [evRess, evRes, den, h1]) ⟨killAll_grows h2 (by omega) h3, .refl _⟩
  repeat (first | simp -dsimp -implicitDefEqProofs (disch := first | omega | (simp <;> omega) | fail) | ((with_reducible first | apply m_1 | apply m_0); (focus ((conv => lhs; simp -dsimp -implicitDefEqProofs (disch := first | omega | (simp <;> omega) | fail)); done))) | ((with_reducible first | apply i_T | apply g_T); (focus (simp -dsimp -implicitDefEqProofs (disch := first | omega | (simp <;> omega) | fail); done))) | ((with_reducible first | apply i_F | apply g_F); (focus (simp -dsimp -implicitDefEqProofs (disch := first | omega | (simp <;> omega) | fail); done))))
  have hn : ∀ c, IntKind.wrap .u32 ((((if IntKind.u32.signed = true then -1 else IntKind.u32.max) % 2 ^ IntKind.u32.bits).toNat ^^^ (c % 2 ^ IntKind.u32.bits).toNat : Nat) : Int) = notC c := fun c => rfl
  rw [hn]
  refine loop_ok [2, 11, 12, 13] (fun m a s1 => ∃ (i : Nat) (D : List Nat), i + m = L.length ∧ Grows s s1 ∧ s1.get s.n = .cells [.v (.int .u32 (crcL (notC c) (L.take i)))] ∧ Dfs (s.n + 1) s1 D ∧
    a = { t := den 27 [(2, .p s.n 0), (11, .sl (bytesOf b) .no), (12, .v (.int .i64 L.length)), (13, .v (.int .i64 i))], d := D }) L.length ?_ ?_
  · exact ⟨0, [], by simp, (Grows.refl _).alloc _, by simp [crcL], .nil _ _, by simp [hbl]⟩
  rintro m a s1 ⟨i, D, him, hg, hc, hD, rfl⟩
  have hn1 : s.n < s1.n := AState.lt_of_get hc (by simp)
  by_cases hlt : i < L.length
  · have hw : IntKind.wrap .i64 ((i : Int) + 1) = (i : Int) + 1 := wrap_i64 (by omega) (by omega)
    have hlb : i < (bytesOf b).length := by omega
    have hge : (bytesOf b)[i] = .v (.int .u8 (L[i].toNat : Int)) := by simp [bytesOf, hL]
    have hsn := crcL_snoc (c := notC c) hlt
    generalize crcL (notC c) (L.take i) = cp at hc hsn
    have hx : IntKind.wrap .u32 (((cp % 2 ^ IntKind.u32.bits).toNat ^^^ (IntKind.wrap .u32 (L[i].toNat : Int) % 2 ^ IntKind.u32.bits).toNat : Nat) : Int) = xorC cp (IntKind.wrap .u32 (L[i].toNat : Int)) := rfl
    repeat (first | simp -dsimp -implicitDefEqProofs (disch := first | omega | (simp <;> omega) | fail) [hlt, hlb, hge, hc, hx] | ((with_reducible first | apply m_1 | apply m_0); (focus ((conv => lhs; simp -dsimp -implicitDefEqProofs (disch := first | omega | (simp <;> omega) | fail) [hlt, hlb, hge, hc, hx]); done))) | ((with_reducible first | apply i_T | apply g_T); (focus (simp -dsimp -implicitDefEqProofs (disch := first | omega | (simp <;> omega) | fail) [hlt, hlb, hge, hc, hx]; done))) | ((with_reducible first | apply i_F | apply g_F); (focus (simp -dsimp -implicitDefEqProofs (disch := first | omega | (simp <;> omega) | fail) [hlt, hlb, hge, hc, hx]; done))))
    refine gv (ct_crc_steps (c := xorC cp (IntKind.wrap .u32 (L[i].toNat : Int)))) ?_
    refine st0 ?_
    generalize xorC cp (IntKind.wrap .u32 (L[i].toNat : Int)) = c0 at hsn ⊢
    have hsz : (s1.alloc (.cells [.v (.int .u32 c0)])).n = s1.n + 1 := by simp
    have hlD := fun x hx => hD.lt (x := x) hx
    refine w_rangeM (m := 8) (by simp) (it_crc_steps (c := c0) (b := s1.n)) (by intro x hx; obtain ⟨k, _, rfl⟩ := List.mem_map.1 hx; rfl) (by simp) (fun k x s' => MoI s s1 cp c0 D k x s') (fun j s' => False) ?_ ?_ ?_ ?_ ?_ ?_ ?_ ?_ ?_
    · intro LR
      refine ⟨((hg.alloc _).alloc _).alloc _, dz1 hc, dz0, hD.ext (Grows.ext ((((Grows.refl _).alloc _).alloc _).alloc _)), hlD, by simp⟩
    · simp
    · rintro k x s' ⟨h1, h2, h3, h4, h5, h6⟩; exact h3
    · rintro k x y s' hn ⟨h1, h2, h3, h4, h5, h6⟩
      exact ⟨h1.set _ (by omega) (by omega), dz1 h2, dz0, ⟨fun z hz => ⟨(h4.1 z hz).1, by have := h5 z hz; simp (disch := first | omega | (simp <;> omega) | fail) [(h4.1 z hz).2]⟩, h4.2⟩, h5, by simpa using h6⟩
    · rintro k x s' o hn ⟨h1, h2, h3, h4, h5, h6⟩
      exact ⟨h1.alloc _, dz1 h2, dz1 h3, h4.ext (AState.ext_alloc _ _), h5, by simp; omega⟩
    · intro j s' o hn h; exact h.elim
    · intro LR LB LJ hLB hLR k hk s' hd hLL hln hI
      have hk' : k < 8 := by simpa using hk
      obtain ⟨h1, h2, h3, h4, h5, h6⟩ := hI
      simp only [hsz, List.getElem_map, List.getElem_range, List.zip_cons_cons, List.zip_nil_right, List.reverse_cons, List.reverse_nil, List.nil_append, List.cons_append] at hd hLL hln ⊢
      repeat (first | simp -dsimp -implicitDefEqProofs (disch := first | omega | (simp <;> omega) | fail) [hLL, h2] | ((with_reducible first | apply m_1 | apply m_0); (focus ((conv => lhs; simp -dsimp -implicitDefEqProofs (disch := first | omega | (simp <;> omega) | fail) [hLL, h2]); done))) | ((with_reducible first | apply i_T | apply g_T); (focus (simp -dsimp -implicitDefEqProofs (disch := first | omega | (simp <;> omega) | fail) [hLL, h2]; done))) | ((with_reducible first | apply i_F | apply g_F); (focus (simp -dsimp -implicitDefEqProofs (disch := first | omega | (simp <;> omega) | fail) [hLL, h2]; done))))
      refine fins_n (fun d hd' => by cases hd'; simp (disch := first | omega | (simp <;> omega) | fail) [hd]) (dz0) ⟨?_, dz0, dz1 h3, ⟨fun z hz => ⟨(h4.1 z hz).1, by have := h5 z hz; have := (h4.1 z hz).1; simp (disch := first | omega | (simp <;> omega) | fail) [(h4.1 z hz).2]⟩, h4.2⟩, h5, by simpa using h6⟩
      repeat (first | exact h1 | refine Grows.set ?_ _ (by omega) (by first | omega | (simp; omega)))
    · rintro s' x hd hln ⟨h1, h2, h3, h4, h5, h6⟩
      simp only [hsz] at hd hln ⊢
      rw [if_neg (by omega)] at h2
      refine st1 hw ?_
      refine ⟨m - 1, by omega, i + 1, (s1.n + 1) :: D, by omega, ?_, ?_, ?_, by simp⟩
      · exact h1.set _ (by omega) (by omega)
      · rw [hsn]; simp (disch := first | omega | (simp <;> omega) | fail) [h2]
      · exact Dfs.cons ⟨fun z hz => ⟨(h4.1 z hz).1, by have := h5 z hz; simp (disch := first | omega | (simp <;> omega) | fail) [(h4.1 z hz).2]⟩, h4.2⟩ (by omega) (by simp (disch := first | omega | (simp <;> omega) | fail) [hd]) fun y hy e => by have := h5 y hy; omega
    · rintro j s' _ _ h; exact h.elim
  · have hie : i = L.length := by omega
    subst hie
    rw [List.take_length] at hc
    refine st2 hc hn ?_
    exact fin _ _ _ (by simp) hg hD
theorem ct_crc_Of {b : ByteArray} {s : AState} (hb : b.data.toList.length < 9223372036854775808) : Gives prog F_crc_Of [.v (.string b)] s (.v (.int .u32 (crcOfS b))) s := by
  refine Runs.gives (runs_e h_crc_Of (Nat.le_of_ble_eq_true rfl) ?_) (.v _)
  refine st0 ?_
  refine gv (ct_crc_More (c := 0) hb) ?_
  refine st0 ?_
  exact ret_ok rfl ⟨⟨Nat.le_refl _, fun x hx => .inl rfl⟩, .refl _⟩
end Go.Proofs.Ytmfhchaoijiodaa
end
section
namespace Go.Ab
set_option linter.unusedVariables false
def cntS (n : Nat) : Nat := if h : n < 128 then 0 else cntS (n / 128) + 1
termination_by n
decreasing_by omega
theorem cntS_lt {n : Nat} : ∀ {k : Nat}, k < cntS n → 128 ≤ n / 128 ^ k := by
  induction n using Nat.strongRecOn with
  | _ n ih =>
    intro k hk
    unfold cntS at hk
    split at hk
    · omega
    · next h =>
      cases k with
      | zero => simp; omega
      | succ k =>
        have := ih (n / 128) (by omega) (k := k) (by omega)
        rw [Nat.div_div_eq_div_mul] at this
        rw [Nat.pow_succ, Nat.mul_comm]; exact this
theorem cntS_end (n : Nat) : n / 128 ^ cntS n < 128 := by
  induction n using Nat.strongRecOn with
  | _ n ih =>
    unfold cntS
    split
    · next h => simp; exact h
    · next h =>
      have := ih (n / 128) (by omega)
      rw [Nat.div_div_eq_div_mul] at this
      rw [Nat.pow_succ, Nat.mul_comm]; exact this
def nthS (n k : Nat) : Int := ((n / 128 ^ k : Nat) : Int)
theorem nthS_succ (n k : Nat) : nthS n (k + 1) = (nthS n k).fdiv (2 ^ min 7 IntKind.u64.bits) := by
  have e : (2 : Int) ^ min 7 IntKind.u64.bits = ((128 : Nat) : Int) := rfl
  rw [e, Int.fdiv_eq_ediv_of_nonneg _ (by omega)]
  unfold nthS
  rw [Nat.pow_succ, ← Nat.div_div_eq_div_mul]
  rfl
end Go.Ab
namespace Go.Proofs.Ytmfhchaoijiodaa
open Go.Ab
set_option linter.unusedVariables false
set_option linter.unusedSimpArgs false
set_option maxRecDepth 100000
set_option maxHeartbeats 1000000
def fixAt (n : Int) (i : Nat) : Int := IntKind.wrap .u8 (n.fdiv (2 ^ min (8 * i) IntKind.u32.bits))
def fixS (n : Int) : ByteArray := strOfNums [fixAt n 0, fixAt n 1, fixAt n 2, fixAt n 3]
theorem ct_code_Fixed {n : Int} {s : AState} : Gives prog F_code_Fixed [.v (.int .u32 n)] s (.v (.string (fixS n))) s := by
  refine Runs.gives' (runs_e h_code_Fixed (Nat.le_of_ble_eq_true rfl) ?_) (.v _)
  repeat (first | simp -dsimp -implicitDefEqProofs (disch := first | omega | (simp <;> omega) | fail) | ((with_reducible first | apply m_1 | apply m_0); (focus ((conv => lhs; simp -dsimp -implicitDefEqProofs (disch := first | omega | (simp <;> omega) | fail)); done))) | ((with_reducible first | apply i_T | apply g_T); (focus (simp -dsimp -implicitDefEqProofs (disch := first | omega | (simp <;> omega) | fail); done))) | ((with_reducible first | apply i_F | apply g_F); (focus (simp -dsimp -implicitDefEqProofs (disch := first | omega | (simp <;> omega) | fail); done))))
  refine m_mks (kd := .i64) (mm := 4) (by simp) (by omega) ?_
  repeat (first | simp -dsimp -implicitDefEqProofs (disch := first | omega | (simp <;> omega) | fail) | ((with_reducible first | apply m_1 | apply m_0); (focus ((conv => lhs; simp -dsimp -implicitDefEqProofs (disch := first | omega | (simp <;> omega) | fail)); done))) | ((with_reducible first | apply i_T | apply g_T); (focus (simp -dsimp -implicitDefEqProofs (disch := first | omega | (simp <;> omega) | fail); done))) | ((with_reducible first | apply i_F | apply g_F); (focus (simp -dsimp -implicitDefEqProofs (disch := first | omega | (simp <;> omega) | fail); done))))
  refine loop_ok [0, 3, 7, 8] (fun m a s1 => ∃ i : Nat, i + m = 4 ∧ Grows s s1 ∧ s1.get s.n = .cells [.v (.int .u8 (if 0 < i then fixAt n 0 else 0)), .v (.int .u8 (if 1 < i then fixAt n 1 else 0)), .v (.int .u8 (if 2 < i then fixAt n 2 else 0)), .v (.int .u8 (if 3 < i then fixAt n 3 else 0))] ∧
    a = { t := den 22 [(0, .v (.int .u32 n)), (3, .ms s.n 0 4), (7, .v (.int .i64 4)), (8, .v (.int .i64 i))], d := [] }) 4 ?_ ?_
  · exact ⟨0, by simp, (Grows.refl _).alloc _, by simp, by simp⟩
  rintro m a s1 ⟨i, him, hg, hc, rfl⟩
  have hn1 : s.n < s1.n := AState.lt_of_get hc (by simp)
  by_cases h4 : i = 4
  · subst h4
    simp at hc
    repeat (first | simp -dsimp -implicitDefEqProofs (disch := first | omega | (simp <;> omega) | fail) [hc, numsOf] | ((with_reducible first | apply m_1 | apply m_0); (focus ((conv => lhs; simp -dsimp -implicitDefEqProofs (disch := first | omega | (simp <;> omega) | fail) [hc, numsOf]); done))) | ((with_reducible first | apply i_T | apply g_T); (focus (simp -dsimp -implicitDefEqProofs (disch := first | omega | (simp <;> omega) | fail) [hc, numsOf]; done))) | ((with_reducible first | apply i_F | apply g_F); (focus (simp -dsimp -implicitDefEqProofs (disch := first | omega | (simp <;> omega) | fail) [hc, numsOf]; done))))
    refine ret_ok rfl ⟨hg, ?_⟩
    simp [retVal, fixS]; exact .refl _
  have w8 : IntKind.wrap .i64 8 = 8 := by decide
  have w16 : IntKind.wrap .i64 16 = 16 := by decide
  have w24 : IntKind.wrap .i64 24 = 24 := by decide
  rcases (show i = 0 ∨ i = 1 ∨ i = 2 ∨ i = 3 by omega) with rfl | rfl | rfl | rfl
  · simp at hc
    repeat (first | simp -dsimp -implicitDefEqProofs (disch := first | omega | (simp <;> omega) | fail) [hc, w8, w16, w24] | ((with_reducible first | apply m_1 | apply m_0); (focus ((conv => lhs; simp -dsimp -implicitDefEqProofs (disch := first | omega | (simp <;> omega) | fail) [hc, w8, w16, w24]); done))) | ((with_reducible first | apply i_T | apply g_T); (focus (simp -dsimp -implicitDefEqProofs (disch := first | omega | (simp <;> omega) | fail) [hc, w8, w16, w24]; done))) | ((with_reducible first | apply i_F | apply g_F); (focus (simp -dsimp -implicitDefEqProofs (disch := first | omega | (simp <;> omega) | fail) [hc, w8, w16, w24]; done))))
    exact ⟨m - 1, by omega, 1, by omega, hg.set _ (Nat.le_refl _) hn1, by rw [AState.get_set_same _ _ hn1]; simp [fixAt], by simp⟩
  · simp at hc
    refine st4 hc w8 w16 w24 ?_
    exact ⟨m - 1, by omega, 2, by omega, hg.set _ (Nat.le_refl _) hn1, by rw [AState.get_set_same _ _ hn1]; simp [fixAt], by simp⟩
  · simp at hc
    refine st4 hc w8 w16 w24 ?_
    exact ⟨m - 1, by omega, 3, by omega, hg.set _ (Nat.le_refl _) hn1, by rw [AState.get_set_same _ _ hn1]; simp [fixAt], by simp⟩
  · simp at hc
    refine st4 hc w8 w16 w24 ?_
    exact ⟨m - 1, by omega, 4, by omega, hg.set _ (Nat.le_refl _) hn1, by rw [AState.get_set_same _ _ hn1]; simp [fixAt], by simp⟩
theorem ct_code_septets {n : Int} {s : AState} : Gives prog F_code_septets [.v (.int .u64 n)] s (.f (.func F_code_septets_1) [] [.p s.n 0]) (s.alloc (.cells [.v (.int .u64 n)])) := by
  refine runs_e h_code_septets (Nat.le_of_ble_eq_true rfl) ?_
  refine st0 ?_
  exact ret_ok rfl ⟨rfl, rfl⟩
def lo7 (b : Int) : Int := IntKind.wrap .u8 (((b % 2 ^ IntKind.u8.bits).toNat &&& 2 ^ IntKind.u8.bits - 1 - 128 % 2 ^ IntKind.u8.bits : Nat) : Int)
def sepX (n : Nat) : List (List AV) := ((List.range (cntS n)).map fun k => [.v (.int .u8 (lo7 (IntKind.wrap .u8 (nthS n k)))), .v (.bool true)]) ++ [[.v (.int .u8 (IntKind.wrap .u8 (nthS n (cntS n)))), .v (.bool false)]]
theorem it_code_septets {n : Nat} {b : Nat} : IterM prog F_code_septets_1 [] [.p b 0] b (sepX n) (fun k => .v (.int .u64 (nthS n k))) (.v (.int .u64 (nthS n 0))) := by
  intro l s I J hg hs ha hj hy h0
  refine runs_e h_code_septets_1 (Nat.le_of_ble_eq_true rfl) ?_
  repeat (first | simp -dsimp -implicitDefEqProofs (disch := first | omega | (simp <;> omega) | fail) | ((with_reducible first | apply m_1 | apply m_0); (focus ((conv => lhs; simp -dsimp -implicitDefEqProofs (disch := first | omega | (simp <;> omega) | fail)); done))) | ((with_reducible first | apply i_T | apply g_T); (focus (simp -dsimp -implicitDefEqProofs (disch := first | omega | (simp <;> omega) | fail); done))) | ((with_reducible first | apply i_F | apply g_F); (focus (simp -dsimp -implicitDefEqProofs (disch := first | omega | (simp <;> omega) | fail); done))))
  refine loop_ok [0, 1] (fun m a s1 => ∃ k : Nat, k + m = cntS n ∧ I k (.v (.int .u64 (nthS n k))) s1 ∧ a = { t := den 17 [(0, .y l), (1, .p b 0)], d := [] }) (cntS n) ?_ ?_
  · exact ⟨0, by simp, h0, by simp⟩
  rintro m a s1 ⟨k, hkm, hI, rfl⟩
  have hb := hg _ _ _ hI
  have hbn := AState.lt_of_get hb (by simp)
  have hlen : (sepX n).length = cntS n + 1 := by simp [sepX]
  have hy' := hy k (by omega) _ hI
  by_cases hlt : k < cntS n
  · have h1 : ¬ nthS n k < 128 := by have := cntS_lt hlt; unfold nthS; omega
    have h1' : (128 : Int) ≤ nthS n k := by omega
    have hx : (sepX n)[k]'(by omega) = [.v (.int .u8 (lo7 (IntKind.wrap .u8 (nthS n k)))), .v (.bool true)] := by
      unfold sepX; rw [List.getElem_append_left (by simpa using hlt)]; simp
    rw [hx] at hy'
    have hsc := nthS_succ n k
    unfold lo7 at hy'
    repeat (first | simp -dsimp -implicitDefEqProofs (disch := first | omega | (simp <;> omega) | fail) [hb, h1'] | ((with_reducible first | apply m_1 | apply m_0); (focus ((conv => lhs; simp -dsimp -implicitDefEqProofs (disch := first | omega | (simp <;> omega) | fail) [hb, h1']); done))) | ((with_reducible first | apply i_T | apply g_T); (focus (simp -dsimp -implicitDefEqProofs (disch := first | omega | (simp <;> omega) | fail) [hb, h1']; done))) | ((with_reducible first | apply i_F | apply g_F); (focus (simp -dsimp -implicitDefEqProofs (disch := first | omega | (simp <;> omega) | fail) [hb, h1']; done))))
    refine yru (hy') (by first | rfl | (simp; done)) ?_
    rintro _ s2 (⟨rfl, hI2⟩ | ⟨rfl, hJ⟩)
    · have hb2 := hg _ _ _ hI2
      have hbn2 := AState.lt_of_get hb2 (by simp)
      repeat (first | simp -dsimp -implicitDefEqProofs (disch := first | omega | (simp <;> omega) | fail) [hb2] | ((with_reducible first | apply m_1 | apply m_0); (focus ((conv => lhs; simp -dsimp -implicitDefEqProofs (disch := first | omega | (simp <;> omega) | fail) [hb2]); done))) | ((with_reducible first | apply i_T | apply g_T); (focus (simp -dsimp -implicitDefEqProofs (disch := first | omega | (simp <;> omega) | fail) [hb2]; done))) | ((with_reducible first | apply i_F | apply g_F); (focus (simp -dsimp -implicitDefEqProofs (disch := first | omega | (simp <;> omega) | fail) [hb2]; done))))
      refine ⟨m - 1, by omega, k + 1, by omega, ?_, by simp⟩
      rw [hsc]; exact hs _ _ _ _ hI2
    · repeat (first | simp -dsimp -implicitDefEqProofs (disch := first | omega | (simp <;> omega) | fail) | ((with_reducible first | apply m_1 | apply m_0); (focus ((conv => lhs; simp -dsimp -implicitDefEqProofs (disch := first | omega | (simp <;> omega) | fail)); done))) | ((with_reducible first | apply i_T | apply g_T); (focus (simp -dsimp -implicitDefEqProofs (disch := first | omega | (simp <;> omega) | fail); done))) | ((with_reducible first | apply i_F | apply g_F); (focus (simp -dsimp -implicitDefEqProofs (disch := first | omega | (simp <;> omega) | fail); done))))
      exact ret_ok rfl (.inr hJ)
  · have hk : k = cntS n := by omega
    subst hk
    have h1 : ¬ (128 : Int) ≤ nthS n (cntS n) := by have := cntS_end n; unfold nthS; omega
    have hx : (sepX n)[cntS n]'(by omega) = [.v (.int .u8 (IntKind.wrap .u8 (nthS n (cntS n)))), .v (.bool false)] := by
      unfold sepX; rw [List.getElem_append_right (by simp)]; simp
    rw [hx] at hy'
    refine st2 hb h1 ?_
    refine yr0 (hy') ?_
    rintro _ s2 (⟨rfl, hI2⟩ | ⟨rfl, hJ⟩)
    · refine st0 ?_
      exact end_ok rfl (.inl ⟨_, by rw [hlen]; exact hI2⟩)
    · refine st0 ?_
      exact end_ok rfl (.inr hJ)
end Go.Proofs.Ytmfhchaoijiodaa
end
section
namespace Go.Ab
set_option linter.unusedVariables false
def orM (b : Int) : Int := IntKind.wrap .u8 (((b % 2 ^ IntKind.u8.bits).toNat ||| 128 % 2 ^ IntKind.u8.bits : Nat) : Int)
def u8 (b : Int) : AV := .v (.int .u8 b)
theorem numsOf_u8 (l : List Int) : numsOf (l.map u8) = some l := by
  induction l with
  | nil => rfl
  | cons a l ih => simp only [List.map_cons, u8, numsOf] at ih ⊢; rw [ih]; rfl
end Go.Ab
namespace Go.Proofs.Ytmfhchaoijiodaa
open Go.Ab
set_option linter.unusedVariables false
set_option linter.unusedSimpArgs false
set_option maxRecDepth 100000
set_option maxHeartbeats 1000000
def putB (n : Nat) (k : Nat) : Int := if k < cntS n then orM (lo7 (IntKind.wrap .u8 (nthS n k))) else IntKind.wrap .u8 (nthS n (cntS n))
def putN (n : Nat) : List Int := (List.range (cntS n + 1)).map (putB n)
def putS (n : Int) : ByteArray := strOfNums (putN n.toNat)
def putA (n k : Nat) : List AV := (List.range k).map fun j => u8 (putB n j)
theorem putA_snoc (n k : Nat) : putA n (k + 1) = putA n k ++ [u8 (putB n k)] := by unfold putA; rw [List.range_succ, List.map_append]; rfl
theorem putA_len (n k : Nat) : (putA n k).length = k := by simp [putA]
theorem putA_nums (n : Nat) : numsOf (putA n (cntS n + 1)) = some (putN n) := by
  have := numsOf_u8 (putN n)
  unfold putN at this ⊢
  rw [List.map_map] at this
  exact this
theorem putA_head (n k : Nat) : headK 1 (putA n k) = true := head_map (f := fun j => u8 (putB n j)) (fun _ => .int _ _) _
structure PutI (s : AState) (n : Nat) (k : Nat) (x : AV) (s' : AState) : Prop where
  g : Grows s s'
  m : ∃ tk, s'.get s.n = .cells [.sl (putA n k) tk] ∧ May (s.n + 4) s' (putA n k) tk
  b : s'.get (s.n + 1) = .cells [x]
  n : s.n + 4 ≤ s'.n
theorem sepX_lt {n k : Nat} (h : k < cntS n) (h' : k < (sepX n).length := by simp [sepX]; omega) : (sepX n)[k] = [.v (.int .u8 (lo7 (IntKind.wrap .u8 (nthS n k)))), .v (.bool true)] := by
  simp only [sepX]; rw [List.getElem_append_left (by simpa using h)]; simp
theorem sepX_last {n : Nat} (h' : cntS n < (sepX n).length := by simp [sepX]) : (sepX n)[cntS n] = [.v (.int .u8 (IntKind.wrap .u8 (nthS n (cntS n)))), .v (.bool false)] := by
  simp only [sepX]; rw [List.getElem_append_right (by simp)]; simp
theorem nthS_zero (n : Nat) : nthS n 0 = n := by simp [nthS]
theorem cntS_small {k : Nat} : ∀ {n : Nat}, n < 128 ^ (k + 1) → cntS n ≤ k := by
  induction k with
  | zero => intro n h; unfold cntS; rw [dif_pos (by simpa using h)]; omega
  | succ k ih =>
    intro n h
    unfold cntS
    split
    · omega
    · have := ih (n := n / 128) (by rw [Nat.pow_succ] at h; omega)
      omega
theorem ct_code_Put {n : Int} {s : AState} (h0 : 0 ≤ n) (h1 : n < 9223372036854775808) : Gives prog F_code_Put [.v (.int .i64 n)] s (.v (.string (putS n))) s := by
  refine Runs.gives' (runs_e h_code_Put (Nat.le_of_ble_eq_true rfl) ?_) (.v _)
  obtain ⟨m, rfl⟩ : ∃ m : Nat, n = m := ⟨n.toNat, by omega⟩
  have hmx : (if (m : Int) < 0 then (0 : Int) else m) = m := if_neg (by omega)
  have hw : IntKind.wrap .u64 (m : Int) = nthS m 0 := by
    have e : IntKind.u64.wrap (m : Int) = (m : Int) % 18446744073709551616 := by simp [IntKind.wrap, IntKind.bits, IntKind.signed]
    rw [nthS_zero, e]; omega
  have h128 : (128 : Nat) ^ (9 + 1) = 1180591620717411303424 := by decide
  have hcm : cntS m ≤ 9 := cntS_small (k := 9) (by omega)
  repeat (first | simp -dsimp -implicitDefEqProofs (disch := first | omega | (simp <;> omega) | fail) [hmx, hw] | ((with_reducible first | apply m_1 | apply m_0); (focus ((conv => lhs; simp -dsimp -implicitDefEqProofs (disch := first | omega | (simp <;> omega) | fail) [hmx, hw]); done))) | ((with_reducible first | apply i_T | apply g_T); (focus (simp -dsimp -implicitDefEqProofs (disch := first | omega | (simp <;> omega) | fail) [hmx, hw]; done))) | ((with_reducible first | apply i_F | apply g_F); (focus (simp -dsimp -implicitDefEqProofs (disch := first | omega | (simp <;> omega) | fail) [hmx, hw]; done))))
  refine gv (ct_code_septets (n := nthS m 0)) ?_
  repeat (first | simp -dsimp -implicitDefEqProofs (disch := first | omega | (simp <;> omega) | fail) | ((with_reducible first | apply m_1 | apply m_0); (focus ((conv => lhs; simp -dsimp -implicitDefEqProofs (disch := first | omega | (simp <;> omega) | fail)); done))) | ((with_reducible first | apply i_T | apply g_T); (focus (simp -dsimp -implicitDefEqProofs (disch := first | omega | (simp <;> omega) | fail); done))) | ((with_reducible first | apply i_F | apply g_F); (focus (simp -dsimp -implicitDefEqProofs (disch := first | omega | (simp <;> omega) | fail); done))))
  have hxl : (sepX m).length = cntS m + 1 := by simp [sepX]
  refine w_rangeM (m := cntS m + 1) (by simp) (it_code_septets (n := m) (b := s.n + 1)) (by intro x hx; unfold sepX at hx; rcases List.mem_append.1 hx with h | h; obtain ⟨k, _, rfl⟩ := List.mem_map.1 h; rfl; simp at h; subst h; rfl) hxl (PutI s m) (fun j s' => False) ?_ ?_ ?_ ?_ ?_ ?_ ?_ ?_ ?_
  · intro LR
    exact ⟨((((Grows.refl _).alloc _).alloc _).alloc _).alloc _, ⟨.zero, by simp (disch := first | omega | (simp <;> omega) | fail) [putA], trivial⟩, by simp (disch := first | omega | (simp <;> omega) | fail), by simp⟩
  · simp
  · rintro k x s' ⟨h1, h2, h3, h4⟩; exact h3
  · rintro k x y s' hn ⟨h1, ⟨tk, h2, h2'⟩, h3, h4⟩
    exact ⟨h1.set _ (by omega) (by omega), ⟨tk, by simp (disch := first | omega | (simp <;> omega) | fail) [h2], h2'.set _ (by omega)⟩, dz0, by simpa using h4⟩
  · rintro k x s' o hn ⟨h1, ⟨tk, h2, h2'⟩, h3, h4⟩
    exact ⟨h1.alloc _, ⟨tk, dz1 h2, h2'.alloc _⟩, dz1 h3, by simp; omega⟩
  · intro j s' o hn h; exact h.elim
  · intro LR LB LJ hLB hLR k hk s' hd hLL hln hI
    obtain ⟨h1, ⟨tk, h2, h2'⟩, h3, h4⟩ := hI
    simp at hd hLL hln
    have hk' : k ≤ cntS m := by omega
    by_cases hlt : k < cntS m
    · have hx : (sepX m)[k] = [.v (.int .u8 (lo7 (IntKind.wrap .u8 (nthS m k)))), .v (.bool true)] := sepX_lt hlt
      have hp : putB m k = orM (lo7 (IntKind.wrap .u8 (nthS m k))) := if_pos hlt
      rw [hx]
      have ho : IntKind.wrap .u8 (((lo7 (IntKind.wrap .u8 (nthS m k)) % 2 ^ IntKind.u8.bits).toNat ||| 128 % 2 ^ IntKind.u8.bits : Nat) : Int) = putB m k := by rw [hp]; rfl
      simp only [List.zip_cons_cons, List.zip_nil_right, List.reverse_cons, List.reverse_nil, List.nil_append, List.cons_append]
      refine st3 hLL h2 ho ?_
      refine m_app (xs := putA m k) (tk := tk) (ys := [u8 (putB m k)]) (t2 := .zero) (B := s) (N := s.n + 4) (by simp) (by simp [u8]) (h1.set _ (by omega) (by omega)) (by omega) (by simpa using h4) (h2'.set _ (by omega)) (putA_head _ _) rfl (by simp [putA_len]; omega) (by simp [putA_len]; omega) ?_
      intro s6 tk2 hg6 hm6 hlow hext
      have hn6 := hext.1
      simp at hn6
      rw [show putA m k ++ [u8 (putB m k)].map AV.strip = putA m (k + 1) from (putA_snoc m k).symm] at hm6 ⊢
      have c0 : s6.get s.n = .cells [.sl (putA m k) tk] := by rw [hlow _ (by omega)]; simp (disch := first | omega | (simp <;> omega) | fail) [h2]
      have c1 : s6.get (s.n + 1) = .cells [.v (.int .u64 (nthS m k))] := by rw [hlow _ (by omega)]; simp (disch := first | omega | (simp <;> omega) | fail) [h3]
      have c2 : s6.get (s.n + 2) = .defd := by rw [hlow _ (by omega)]; simp (disch := first | omega | (simp <;> omega) | fail) [hd]
      have c3 : s6.get (s.n + 3) = LB := by rw [hlow _ (by omega)]; simp (disch := first | omega | (simp <;> omega) | fail)
      clear hlow hext
      refine st2 c0 c3 ?_
      refine fins_n (fun d hd' => by cases hd'; simp (disch := first | omega | (simp <;> omega) | fail) [c2]) (dz0) ⟨(hg6.set _ (Nat.le_refl _) (by omega)).set _ (by omega) (by simp; omega), ⟨tk2, dz0, (hm6.set _ (by omega)).set _ (by omega)⟩, dz1 c1, by simp; omega⟩
    · have hke : k = cntS m := by omega
      subst hke
      have hx : (sepX m)[cntS m] = [.v (.int .u8 (IntKind.wrap .u8 (nthS m (cntS m)))), .v (.bool false)] := sepX_last
      have hp : IntKind.wrap .u8 (nthS m (cntS m)) = putB m (cntS m) := (if_neg (by omega)).symm
      rw [hx, hp]
      simp only [List.zip_cons_cons, List.zip_nil_right, List.reverse_cons, List.reverse_nil, List.nil_append, List.cons_append]
      generalize cntS m = k at *
      repeat (first | simp -dsimp -implicitDefEqProofs (disch := first | omega | (simp <;> omega) | fail) [hLL, h2] | ((with_reducible first | apply m_1 | apply m_0); (focus ((conv => lhs; simp -dsimp -implicitDefEqProofs (disch := first | omega | (simp <;> omega) | fail) [hLL, h2]); done))) | ((with_reducible first | apply i_T | apply g_T); (focus (simp -dsimp -implicitDefEqProofs (disch := first | omega | (simp <;> omega) | fail) [hLL, h2]; done))) | ((with_reducible first | apply i_F | apply g_F); (focus (simp -dsimp -implicitDefEqProofs (disch := first | omega | (simp <;> omega) | fail) [hLL, h2]; done))))
      refine m_app (xs := putA m k) (tk := tk) (ys := [u8 (putB m k)]) (t2 := .zero) (B := s) (N := s.n + 4) (by simp) (by simp [u8]) (h1.set _ (by omega) (by omega)) (by omega) (by simpa using h4) (h2'.set _ (by omega)) (putA_head _ _) rfl (by simp [putA_len]; omega) (by simp [putA_len]; omega) ?_
      intro s6 tk2 hg6 hm6 hlow hext
      have hn6 := hext.1
      simp at hn6
      rw [show putA m k ++ [u8 (putB m k)].map AV.strip = putA m (k + 1) from (putA_snoc m k).symm] at hm6 ⊢
      have c0 : s6.get s.n = .cells [.sl (putA m k) tk] := by rw [hlow _ (by omega)]; simp (disch := first | omega | (simp <;> omega) | fail) [h2]
      have c1 : s6.get (s.n + 1) = .cells [.v (.int .u64 (nthS m k))] := by rw [hlow _ (by omega)]; simp (disch := first | omega | (simp <;> omega) | fail) [h3]
      have c2 : s6.get (s.n + 2) = .defd := by rw [hlow _ (by omega)]; simp (disch := first | omega | (simp <;> omega) | fail) [hd]
      have c3 : s6.get (s.n + 3) = LB := by rw [hlow _ (by omega)]; simp (disch := first | omega | (simp <;> omega) | fail)
      clear hlow hext
      repeat (first | simp -dsimp -implicitDefEqProofs (disch := first | omega | (simp <;> omega) | fail) [c0, c3] | ((with_reducible first | apply m_1 | apply m_0); (focus ((conv => lhs; simp -dsimp -implicitDefEqProofs (disch := first | omega | (simp <;> omega) | fail) [c0, c3]); done))) | ((with_reducible first | apply i_T | apply g_T); (focus (simp -dsimp -implicitDefEqProofs (disch := first | omega | (simp <;> omega) | fail) [c0, c3]; done))) | ((with_reducible first | apply i_F | apply g_F); (focus (simp -dsimp -implicitDefEqProofs (disch := first | omega | (simp <;> omega) | fail) [c0, c3]; done))))
      refine fins_n (fun d hd' => by cases hd'; simp (disch := first | omega | (simp <;> omega) | fail) [c2]) (dz0) ⟨(hg6.set _ (Nat.le_refl _) (by omega)).set _ (by omega) (by simp; omega), ⟨tk2, dz0, (hm6.set _ (by omega)).set _ (by omega)⟩, dz1 c1, by simp; omega⟩
  · rintro s' x hd hln ⟨h1, ⟨tk, h2, h2'⟩, h3, h4⟩
    simp at hd hln
    have hnum := putA_nums m
    repeat (first | simp -dsimp -implicitDefEqProofs (disch := first | omega | (simp <;> omega) | fail) [h2, hnum] | ((with_reducible first | apply m_1 | apply m_0); (focus ((conv => lhs; simp -dsimp -implicitDefEqProofs (disch := first | omega | (simp <;> omega) | fail) [h2, hnum]); done))) | ((with_reducible first | apply i_T | apply g_T); (focus (simp -dsimp -implicitDefEqProofs (disch := first | omega | (simp <;> omega) | fail) [h2, hnum]; done))) | ((with_reducible first | apply i_F | apply g_F); (focus (simp -dsimp -implicitDefEqProofs (disch := first | omega | (simp <;> omega) | fail) [h2, hnum]; done))))
    have hD : Dfs (s.n + 1) (s'.set (s.n + 3) .dead) [s.n + 2] := Dfs.cons (.nil _ _) (by omega) (by simp (disch := first | omega | (simp <;> omega) | fail) [hd]) (by simp)
    exact ret_okD (fun x hx => (hD.1 x hx).2) hD.2 (xs := [.v (.string (putS m))]) (by simp [evRess, evRes, den, putS]) ⟨killAll_grows (h1.set _ (by omega) (by omega)) (by omega) hD, .refl _⟩
  · rintro j s' _ _ h; exact h.elim
theorem strOfNums_size (l : List Int) : (strOfNums l).size = l.length := by simp [strOfNums, ByteArray.size]
theorem putS_size {n : Int} (h1 : n < 72057594037927936) : (putS n).size ≤ 8 := by
  unfold putS
  rw [strOfNums_size]
  have := cntS_small (k := 7) (n := n.toNat) (by have : (128 : Nat) ^ (7 + 1) = 72057594037927936 := by decide
                                                 omega)
  simp [putN]; omega
def textS (b : ByteArray) : ByteArray := putS (b.size : Nat) ++ b
theorem ba_app (a b : ByteArray) : (a ++ b).size = a.size + b.size := by simp
theorem textS_size {b : ByteArray} (h : b.size < 10000000) : (textS b).size ≤ 8 + b.size := by
  have := putS_size (n := ((b.size : Nat) : Int)) (by omega)
  unfold textS; rw [ba_app]; omega
theorem ct_code_Text {b : ByteArray} {s : AState} (hb : b.size < 10000000) : Gives prog F_code_Text [.v (.string b)] s (.v (.string (textS b))) s := by
  refine Runs.gives' (runs_e h_code_Text (Nat.le_of_ble_eq_true rfl) ?_) (.v _)
  have hz := putS_size (n := ((b.size : Nat) : Int)) (by omega)
  have hz' : ((putS (b.size : Nat)).size : Int) + (b.size : Int) ≤ 9223372036854775807 := by omega
  repeat (first | simp -dsimp -implicitDefEqProofs (disch := first | omega | (simp <;> omega) | fail) | ((with_reducible first | apply m_1 | apply m_0); (focus ((conv => lhs; simp -dsimp -implicitDefEqProofs (disch := first | omega | (simp <;> omega) | fail)); done))) | ((with_reducible first | apply i_T | apply g_T); (focus (simp -dsimp -implicitDefEqProofs (disch := first | omega | (simp <;> omega) | fail); done))) | ((with_reducible first | apply i_F | apply g_F); (focus (simp -dsimp -implicitDefEqProofs (disch := first | omega | (simp <;> omega) | fail); done))))
  refine giv (ct_code_Put (n := ((b.size : Nat) : Int)) (by omega) (by omega)) (by first | (simp; done) | rfl | (simp; rfl)) ?_
  repeat (first | simp -dsimp -implicitDefEqProofs (disch := first | omega | (simp <;> omega) | fail) [hz'] | ((with_reducible first | apply m_1 | apply m_0); (focus ((conv => lhs; simp -dsimp -implicitDefEqProofs (disch := first | omega | (simp <;> omega) | fail) [hz']); done))) | ((with_reducible first | apply i_T | apply g_T); (focus (simp -dsimp -implicitDefEqProofs (disch := first | omega | (simp <;> omega) | fail) [hz']; done))) | ((with_reducible first | apply i_F | apply g_F); (focus (simp -dsimp -implicitDefEqProofs (disch := first | omega | (simp <;> omega) | fail) [hz']; done))))
  exact ret_ok rfl ⟨.refl _, .refl _⟩
end Go.Proofs.Ytmfhchaoijiodaa
end
section
namespace Go.Proofs.Ytmfhchaoijiodaa
open Go.Ab
set_option linter.unusedVariables false
set_option linter.unusedSimpArgs false
set_option maxRecDepth 100000
set_option maxHeartbeats 1000000
def wrapS (b : ByteArray) : ByteArray := fixS (IntKind.wrap .u32 (b.size : Nat)) ++ fixS (notC (IntKind.wrap .u32 (b.size : Nat))) ++ b ++ fixS (crcOfS b)
theorem fixS_size (n : Int) : (fixS n).size = 4 := strOfNums_size _
theorem ct_frame_Wrap {b : ByteArray} {s : AState} (h0 : 0 < b.size) (hb : b.size ≤ 2000) : Gives prog F_frame_Wrap [.v (.string b)] s (.tup [.v (.string (wrapS b)), .v (.int .i64 0)]) s := by
  refine Runs.gives' (runs_e h_frame_Wrap (Nat.le_of_ble_eq_true rfl) ?_) (Flat.tup (by simp; exact ⟨.v _, .v _⟩))
  have hl : b.data.toList.length < 9223372036854775808 := by
    have e : b.data.toList.length = b.size := rfl
    omega
  have hne : ¬ b = ⟨#[]⟩ := by
    intro h; subst h; exact absurd h0 (by decide)
  have hgt : ¬ (2000 : Int) < (b.size : Int) := by omega
  have hn : ∀ c, IntKind.wrap .u32 ((((if IntKind.u32.signed = true then -1 else IntKind.u32.max) % 2 ^ IntKind.u32.bits).toNat ^^^ (c % 2 ^ IntKind.u32.bits).toNat : Nat) : Int) = notC c := fun c => rfl
  have f1 := fixS_size (IntKind.wrap .u32 (b.size : Nat))
  have f2 := fixS_size (notC (IntKind.wrap .u32 (b.size : Nat)))
  have f3 := fixS_size (crcOfS b)
  repeat (first | simp -dsimp -implicitDefEqProofs (disch := first | omega | (simp <;> omega) | fail) [hne, hgt] | ((with_reducible first | apply m_1 | apply m_0); (focus ((conv => lhs; simp -dsimp -implicitDefEqProofs (disch := first | omega | (simp <;> omega) | fail) [hne, hgt]); done))) | ((with_reducible first | apply i_T | apply g_T); (focus (simp -dsimp -implicitDefEqProofs (disch := first | omega | (simp <;> omega) | fail) [hne, hgt]; done))) | ((with_reducible first | apply i_F | apply g_F); (focus (simp -dsimp -implicitDefEqProofs (disch := first | omega | (simp <;> omega) | fail) [hne, hgt]; done))))
  refine giv (ct_code_Fixed (n := IntKind.wrap .u32 (b.size : Nat))) (by first | (simp; done) | rfl | (simp; rfl)) ?_
  repeat (first | simp -dsimp -implicitDefEqProofs (disch := first | omega | (simp <;> omega) | fail) [hn] | ((with_reducible first | apply m_1 | apply m_0); (focus ((conv => lhs; simp -dsimp -implicitDefEqProofs (disch := first | omega | (simp <;> omega) | fail) [hn]); done))) | ((with_reducible first | apply i_T | apply g_T); (focus (simp -dsimp -implicitDefEqProofs (disch := first | omega | (simp <;> omega) | fail) [hn]; done))) | ((with_reducible first | apply i_F | apply g_F); (focus (simp -dsimp -implicitDefEqProofs (disch := first | omega | (simp <;> omega) | fail) [hn]; done))))
  refine giv (ct_code_Fixed (n := notC (IntKind.wrap .u32 (b.size : Nat)))) (by first | (simp; done) | rfl | (simp; rfl)) ?_
  have e2 : (8 : Int) + (b.size : Int) ≤ 9223372036854775807 := by omega
  have e3 : (8 : Int) + (b.size : Int) + 4 ≤ 9223372036854775807 := by omega
  repeat (first | simp -dsimp -implicitDefEqProofs (disch := first | omega | (simp <;> omega) | fail) [f1, f2, e2] | ((with_reducible first | apply m_1 | apply m_0); (focus ((conv => lhs; simp -dsimp -implicitDefEqProofs (disch := first | omega | (simp <;> omega) | fail) [f1, f2, e2]); done))) | ((with_reducible first | apply i_T | apply g_T); (focus (simp -dsimp -implicitDefEqProofs (disch := first | omega | (simp <;> omega) | fail) [f1, f2, e2]; done))) | ((with_reducible first | apply i_F | apply g_F); (focus (simp -dsimp -implicitDefEqProofs (disch := first | omega | (simp <;> omega) | fail) [f1, f2, e2]; done))))
  refine giv (ct_crc_Of hl) (by first | (simp; done) | rfl | (simp; rfl)) ?_
  refine st0 ?_
  refine gv (ct_code_Fixed (n := crcOfS b)) ?_
  refine st4 f1 f2 f3 e3 ?_
  exact ret_ok rfl ⟨.refl _, .refl _⟩
end Go.Proofs.Ytmfhchaoijiodaa
end
section
namespace Go.Ab
set_option linter.unusedVariables false
abbrev MI : Int := 1099511627776
def btw (n lo hi : Int) : Bool := decide (lo ≤ n) && decide (n ≤ hi)
def okEnt (e : Ent) : Bool := btw e.ix 1 MI && btw e.tm 1 MI && decide ((e.da.size : Int) ≤ 40)
def okHrd (t v c : Int) : Bool := btw t 0 MI && btw v 0 1000 && btw c 0 MI
def okMrk (ix tm least : Int) : Bool := btw ix 1 MI && btw tm least MI
def riseAt (l : List Ent) (dense : Bool) (j : Nat) : Bool :=
  okEnt (l.getD j default) && !(decide (0 < j) && (decide ((l.getD j default).ix ≤ (l.getD (j - 1) default).ix) || dense && !decide ((l.getD j default).ix = (l.getD (j - 1) default).ix + 1)))
def rising (l : List Ent) (dense : Bool) : Bool := ((List.range l.length).all (riseAt l dense)) && decide ((l.length : Int) ≤ 6)
def core (p : Prt) : Prt :=
  let o : Prt := { gr := p.gr, kd := p.kd, es := [], ht := 0, hv := 0, hc := 0, ix := 0, tm := 0, mr := false, he := false }
  if p.kd = 1 then { o with es := p.es }
  else if p.kd = 2 then { o with ht := p.ht, hv := p.hv, hc := p.hc }
  else if p.kd = 3 ∨ p.kd = 4 then { o with ix := p.ix, tm := p.tm }
  else if p.kd = 6 then { o with es := p.es, mr := p.mr, he := p.he, ix := if p.mr then p.ix else 0, tm := if p.mr then p.tm else 0, ht := if p.he then p.ht else 0, hv := if p.he then p.hv else 0, hc := if p.he then p.hc else 0 }
  else o
def isPart (p : Prt) : Bool :=
  btw p.gr 0 999 && decide (p = core p) &&
  (if p.kd = 1 then !p.es.isEmpty && rising p.es true
   else if p.kd = 2 then okHrd p.ht p.hv p.hc
   else if p.kd = 3 then okMrk p.ix p.tm 0
   else if p.kd = 4 then okMrk p.ix p.tm 1
   else if p.kd = 6 then (p.mr || p.he || !p.es.isEmpty) && rising p.es false && (!p.mr || okMrk p.ix p.tm 1) && okHrd p.ht p.hv p.hc
   else decide (p.kd = 5))
end Go.Ab
end
section
namespace Go.Proofs.Ytmfhchaoijiodaa
open Go.Ab
set_option linter.unusedVariables false
set_option linter.unusedSimpArgs false
set_option maxRecDepth 100000
set_option maxHeartbeats 4000000
theorem ct_part_between {n lo hi : Int} {s : AState} : Gives prog F_part_between [.v (.int .i64 n), .v (.int .i64 lo), .v (.int .i64 hi)] s (.v (.bool (btw n lo hi))) s := by
  refine runs_e h_part_between (Nat.le_of_ble_eq_true rfl) ?_
  repeat' (first | refine sa0 ?_ | ((with_reducible first | apply s_split | apply s_gsplit) <;> (intro hb; have hb' := hb; try simp only [decide_eq_true_eq, decide_eq_false_iff_not, beq_iff_eq, beq_eq_false_iff_ne, bne_iff_ne, bne_eq_false_iff_eq, ne_eq, Bool.not_true, Bool.not_false, Bool.not_eq_true', Bool.not_eq_false', Bool.and_eq_true, Bool.or_eq_true, Bool.or_eq_false_iff] at hb; try simp at hb')))
  all_goals exact ret_ok rfl ⟨by simp [btw, *], rfl⟩
theorem ct_part_IsEntry {x : Ent} {s : AState} : Gives prog F_part_IsEntry [x.av] s (.v (.bool (okEnt x))) s := by
  refine Runs.gives' (runs_e h_part_IsEntry (Nat.le_of_ble_eq_true rfl) ?_) (.v _)
  repeat' (first | refine sa0c1 @ct_part_between ?_ | ((with_reducible first | apply s_split | apply s_gsplit) <;> (intro hb; have hb' := hb; try simp only [decide_eq_true_eq, decide_eq_false_iff_not, beq_iff_eq, beq_eq_false_iff_ne, bne_iff_ne, bne_eq_false_iff_eq, ne_eq, Bool.not_true, Bool.not_false, Bool.not_eq_true', Bool.not_eq_false', Bool.and_eq_true, Bool.or_eq_true, Bool.or_eq_false_iff] at hb; try simp at hb')))
  all_goals refine ret_ok rfl ⟨(Grows.refl _).alloc _, ?_⟩; simp [okEnt, *, AV.le.refl]
theorem ct_part_IsHard {x : Hrd} {s : AState} : Gives prog F_part_IsHard [x.av] s (.v (.bool (okHrd x.ht x.hv x.hc))) s := by
  refine Runs.gives' (runs_e h_part_IsHard (Nat.le_of_ble_eq_true rfl) ?_) (.v _)
  repeat' (first | refine sa0c1 @ct_part_between ?_ | ((with_reducible first | apply s_split | apply s_gsplit) <;> (intro hb; have hb' := hb; try simp only [decide_eq_true_eq, decide_eq_false_iff_not, beq_iff_eq, beq_eq_false_iff_ne, bne_iff_ne, bne_eq_false_iff_eq, ne_eq, Bool.not_true, Bool.not_false, Bool.not_eq_true', Bool.not_eq_false', Bool.and_eq_true, Bool.or_eq_true, Bool.or_eq_false_iff] at hb; try simp at hb')))
  all_goals refine ret_ok rfl ⟨(Grows.refl _).alloc _, ?_⟩; simp [okHrd, *, AV.le.refl]
theorem ct_part_IsHardE {a b c : Int} {s : AState} : Gives prog F_part_IsHard [.agg [.v (.int .i64 a), .v (.int .i64 b), .v (.int .i64 c)]] s (.v (.bool (okHrd a b c))) s := ct_part_IsHard (x := ⟨a, b, c⟩)
theorem ct_part_isMark {ix tm least : Int} {s : AState} : Gives prog F_part_isMark [.v (.int .i64 ix), .v (.int .i64 tm), .v (.int .i64 least)] s (.v (.bool (okMrk ix tm least))) s := by
  refine runs_e h_part_isMark (Nat.le_of_ble_eq_true rfl) ?_
  repeat' (first | refine sa0c1 @ct_part_between ?_ | ((with_reducible first | apply s_split | apply s_gsplit) <;> (intro hb; have hb' := hb; try simp only [decide_eq_true_eq, decide_eq_false_iff_not, beq_iff_eq, beq_eq_false_iff_ne, bne_iff_ne, bne_eq_false_iff_eq, ne_eq, Bool.not_true, Bool.not_false, Bool.not_eq_true', Bool.not_eq_false', Bool.and_eq_true, Bool.or_eq_true, Bool.or_eq_false_iff] at hb; try simp at hb')))
  all_goals exact ret_ok rfl ⟨by simp [okMrk, *], rfl⟩
theorem ct_slices_Equal_Entry {l m : List Ent} {s : AState} (hl : (l.length : Int) < 9223372036854775808) : Gives prog F_slices_Equal_Entry [.sl (l.map Ent.av) .no, .sl (m.map Ent.av) .no] s (.v (.bool (decide (l = m)))) s := by
  refine runs_e h_slices_Equal_Entry (Nat.le_of_ble_eq_true rfl) ?_
  by_cases hlen : l.length = m.length
  · rw [← all_eq hlen]
    have hI : (m.length : Int) = l.length := by omega
    refine st1 hI ?_
    refine loop_ok [0, 1, 12, 13] (fun k a s1 => s1 = s ∧ ∃ i : Nat, i + k = l.length ∧ ((List.range i).all fun i => decide (l.getD i default = m.getD i default)) = true ∧ a = { t := den 26 [(0, .sl (l.map Ent.av) .no), (1, .sl (m.map Ent.av) .no), (12, .v (.int .i64 l.length)), (13, .v (.int .i64 i))], d := [] }) l.length ?_ ?_
    · exact ⟨rfl, 0, by simp, rfl, by simp⟩
    · rintro k a _ ⟨rfl, i, hik, hall, rfl⟩
      by_cases hlt : i < l.length
      · have hlt2 : i < m.length := by omega
        have hw : IntKind.wrap .i64 ((i : Int) + 1) = ((i + 1 : Nat) : Int) := by rw [wrap_i64 (by omega) (by omega)]; omega
        have e1 : l.getD i default = l[i] := by simp [hlt]
        have e2 : m.getD i default = m[i] := by simp [hlt2]
        by_cases he : l[i] = m[i]
        · repeat (first | simp -dsimp -implicitDefEqProofs (disch := first | omega | (simp <;> omega) | fail) [hlt, hlt2, he, hw] | ((with_reducible first | apply m_1 | apply m_0); (focus ((conv => lhs; simp -dsimp -implicitDefEqProofs (disch := first | omega | (simp <;> omega) | fail) [hlt, hlt2, he, hw]); done))) | ((with_reducible first | apply i_T | apply g_T); (focus (simp -dsimp -implicitDefEqProofs (disch := first | omega | (simp <;> omega) | fail) [hlt, hlt2, he, hw]; done))) | ((with_reducible first | apply i_F | apply g_F); (focus (simp -dsimp -implicitDefEqProofs (disch := first | omega | (simp <;> omega) | fail) [hlt, hlt2, he, hw]; done))))
          exact ⟨k - 1, by omega, rfl, i + 1, by omega, all_step hall (by simp only [e1, e2]; simp [he]), by simp⟩
        · repeat (first | simp -dsimp -implicitDefEqProofs (disch := first | omega | (simp <;> omega) | fail) [hlt, hlt2, he] | ((with_reducible first | apply m_1 | apply m_0); (focus ((conv => lhs; simp -dsimp -implicitDefEqProofs (disch := first | omega | (simp <;> omega) | fail) [hlt, hlt2, he]); done))) | ((with_reducible first | apply i_T | apply g_T); (focus (simp -dsimp -implicitDefEqProofs (disch := first | omega | (simp <;> omega) | fail) [hlt, hlt2, he]; done))) | ((with_reducible first | apply i_F | apply g_F); (focus (simp -dsimp -implicitDefEqProofs (disch := first | omega | (simp <;> omega) | fail) [hlt, hlt2, he]; done))))
          refine ret_ok rfl ⟨?_, rfl⟩
          rw [all_stop hlt (by simp only [e1, e2]; simp [he])]; rfl
      · refine st1 hlt ?_
        have : i = l.length := by omega
        subst this
        exact ret_ok rfl ⟨by rw [hall]; rfl, rfl⟩
  · have hI : ¬ (l.length : Int) = m.length := by omega
    refine st1 hI ?_
    refine ret_ok rfl ⟨?_, rfl⟩
    have : ¬ l = m := fun e => hlen (by rw [e])
    simp [this]
theorem ct_part_rising {l : List Ent} {dense : Bool} {s : AState} (hl : (l.length : Int) < 9223372036854775808) :
    Gives prog F_part_rising [.sl (l.map Ent.av) .no, .v (.bool dense)] s (.v (.bool (rising l dense))) s := by
  refine Runs.gives' (runs_e h_part_rising (Nat.le_of_ble_eq_true rfl) ?_) (.v _)
  unfold rising
  repeat (first | simp -dsimp -implicitDefEqProofs (disch := first | omega | (simp <;> omega) | fail) | ((with_reducible first | apply m_1 | apply m_0); (focus ((conv => lhs; simp -dsimp -implicitDefEqProofs (disch := first | omega | (simp <;> omega) | fail)); done))) | ((with_reducible first | apply i_T | apply g_T); (focus (simp -dsimp -implicitDefEqProofs (disch := first | omega | (simp <;> omega) | fail); done))) | ((with_reducible first | apply i_F | apply g_F); (focus (simp -dsimp -implicitDefEqProofs (disch := first | omega | (simp <;> omega) | fail); done))))
  refine loop_ok [0, 1, 7, 8, 9] (fun k a s1 => Grows s s1 ∧ ∃ i : Nat, i + k = l.length ∧ ((List.range i).all (riseAt l dense)) = true ∧ a = { t := den 51 [(0, .sl (l.map Ent.av) .no), (1, .v (.bool dense)), (7, .sl (l.map Ent.av) .no), (8, .v (.int .i64 l.length)), (9, .v (.int .i64 i))], d := [] }) l.length ?_ ?_
  · exact ⟨.refl _, 0, by simp, rfl, by simp⟩
  · rintro k a s1 ⟨hg, i, hik, hall, rfl⟩
    by_cases hlt : i < l.length
    · have hw : IntKind.wrap .i64 ((i : Int) + 1) = ((i + 1 : Nat) : Int) := by rw [wrap_i64 (by omega) (by omega)]; omega
      have e1 : l.getD i default = l[i] := by simp [hlt]
      by_cases h0 : i = 0
      · subst h0
        repeat' (first | simp -dsimp -implicitDefEqProofs (disch := first | omega | (simp <;> omega) | fail) [*] | ((with_reducible first | apply m_1 | apply m_0); (focus ((conv => lhs; simp -dsimp -implicitDefEqProofs (disch := first | omega | (simp <;> omega) | fail) [*]); done))) | ((with_reducible apply giv); (case hAR => ((conv => lhs; simp -dsimp -implicitDefEqProofs (disch := first | omega | (simp <;> omega) | fail) [*]); done)); (case hCT => (first | (apply ct_part_IsEntry <;> first | assumption | omega | decide)))) | ((with_reducible first | apply i_T | apply g_T); (focus (simp -dsimp -implicitDefEqProofs (disch := first | omega | (simp <;> omega) | fail) [*]; done))) | ((with_reducible first | apply i_F | apply g_F); (focus (simp -dsimp -implicitDefEqProofs (disch := first | omega | (simp <;> omega) | fail) [*]; done))) | ((with_reducible first | apply s_split | apply s_gsplit) <;> (intro hb; have hb' := hb; try simp only [decide_eq_true_eq, decide_eq_false_iff_not, beq_iff_eq, beq_eq_false_iff_ne, bne_iff_ne, bne_eq_false_iff_eq, ne_eq, Bool.not_true, Bool.not_false, Bool.not_eq_true', Bool.not_eq_false', Bool.and_eq_true, Bool.or_eq_true, Bool.or_eq_false_iff] at hb; try simp at hb')))
        all_goals first
          | exact ⟨k - 1, by omega, (by first | exact hg | exact hg.alloc _), 1, by omega, all_step hall (by simp only [riseAt, e1]; simp [*]), by simp⟩
          | (refine ret_ok rfl ⟨(by first | exact hg | exact hg.alloc _), ?_⟩; rw [all_stop hlt (by simp only [riseAt, e1]; simp [*])]; exact AV.le.refl _)
      · obtain ⟨j, hij⟩ : ∃ j, i = j + 1 := ⟨i - 1, by omega⟩
        have hw2 : IntKind.wrap .i64 ((i : Int) - 1) = (j : Int) := by rw [wrap_i64 (by omega) (by omega)]; omega
        have hj : j < l.length := by omega
        have hpos : (0 : Int) < i := by omega
        have hpos' : 0 < i := by omega
        have e2 : l.getD (i - 1) default = l[j] := by simp [hj, hij]
        have hwx : IntKind.wrap .i64 (l[j].ix + 1) = l[j].ix + 1 := by
          have := List.all_eq_true.1 hall j (by simp; omega)
          simp only [riseAt, show l.getD j default = l[j] by simp [hj], Bool.and_eq_true, okEnt, btw, MI, decide_eq_true_eq] at this
          exact wrap_i64 (by omega) (by omega)
        clear hij
        repeat' (first | refine sa0c1 @ct_part_IsEntry ?_ | ((with_reducible first | apply s_split | apply s_gsplit) <;> (intro hb; have hb' := hb; try simp only [decide_eq_true_eq, decide_eq_false_iff_not, beq_iff_eq, beq_eq_false_iff_ne, bne_iff_ne, bne_eq_false_iff_eq, ne_eq, Bool.not_true, Bool.not_false, Bool.not_eq_true', Bool.not_eq_false', Bool.and_eq_true, Bool.or_eq_true, Bool.or_eq_false_iff] at hb; try simp at hb')))
        all_goals first
          | exact ⟨k - 1, by omega, (by first | exact hg | exact hg.alloc _), i + 1, by omega, all_step hall (by simp only [riseAt, e1, e2]; simp [*] <;> omega), by simp⟩
          | (refine ret_ok rfl ⟨(by first | exact hg | exact hg.alloc _), ?_⟩; rw [all_stop hlt (by simp only [riseAt, e1, e2]; simp [*])]; exact AV.le.refl _)
    · refine st1 hlt ?_
      have : i = l.length := by omega
      subst this
      refine ret_ok rfl ⟨hg, ?_⟩
      rw [hall]; simp [AV.le.refl]
theorem ct_part_core {p : Prt} {s : AState} : Gives prog F_part_core [p.av] s (core p).av s := by
  refine Runs.gives' (runs_e h_part_core (Nat.le_of_ble_eq_true rfl) ?_) (core p).row.flat
  repeat' (first | refine se0 ?_ | ((with_reducible first | apply s_split | apply s_gsplit | apply s_dsplit) <;> (intro hb; have hb' := hb; try simp only [decide_eq_true_eq, decide_eq_false_iff_not, beq_iff_eq, beq_eq_false_iff_ne, bne_iff_ne, bne_eq_false_iff_eq, ne_eq, Bool.not_true, Bool.not_false, Bool.not_eq_true', Bool.not_eq_false', Bool.and_eq_true, Bool.or_eq_true, Bool.or_eq_false_iff] at hb; try simp at hb')))
  all_goals
    (first | apply ret_ok | apply end_ok); (focus ((conv => lhs; simp (disch := first | omega | (simp <;> omega) | fail)); done)); simp only [retVal]
    refine ⟨(((Grows.refl _).alloc _).alloc _).alloc _, ?_⟩
    exact (AV.le_strip _).trans (Prt.le_of (by simp [Prt.cells, core, *]))
theorem ct_part_Same {a b : Prt} {s : AState} (hl : (a.es.length : Int) < 9223372036854775808) : Gives prog F_part_Same [a.av, b.av] s (.v (.bool (decide (a = b)))) s := by
  refine Runs.gives' (runs_e h_part_Same (Nat.le_of_ble_eq_true rfl) ?_) (.v _)
  repeat' (first | simp -dsimp -implicitDefEqProofs (disch := first | omega | (simp <;> omega) | fail) [*] | ((with_reducible first | apply m_1 | apply m_0); (focus ((conv => lhs; simp -dsimp -implicitDefEqProofs (disch := first | omega | (simp <;> omega) | fail) [*]); done))) | ((with_reducible apply giv); (case hAR => ((conv => lhs; simp -dsimp -implicitDefEqProofs (disch := first | omega | (simp <;> omega) | fail) [*]); done)); (case hCT => (first | (apply ct_slices_Equal_Entry <;> first | assumption | omega | decide)))) | ((with_reducible first | apply i_T | apply g_T); (focus (simp -dsimp -implicitDefEqProofs (disch := first | omega | (simp <;> omega) | fail) [*]; done))) | ((with_reducible first | apply i_F | apply g_F); (focus (simp -dsimp -implicitDefEqProofs (disch := first | omega | (simp <;> omega) | fail) [*]; done))) | ((with_reducible first | apply s_split | apply s_gsplit) <;> (intro hb; have hb' := hb; try simp only [decide_eq_true_eq, decide_eq_false_iff_not, beq_iff_eq, beq_eq_false_iff_ne, bne_iff_ne, bne_eq_false_iff_eq, ne_eq, Bool.not_true, Bool.not_false, Bool.not_eq_true', Bool.not_eq_false', Bool.and_eq_true, Bool.or_eq_true, Bool.or_eq_false_iff] at hb; try simp at hb')))
  all_goals
    refine ret_ok rfl ⟨((Grows.refl _).alloc _).alloc _, le_bool ?_⟩
    first | (simp [Prt.ext_iff, *]; done) | (rw [Bool.eq_iff_iff]; simp [Prt.ext_iff, *] <;> grind)
end Go.Proofs.Ytmfhchaoijiodaa
end
section
namespace Go.Proofs.Ytmfhchaoijiodaa
open Go.Ab
set_option linter.unusedVariables false
set_option linter.unusedSimpArgs false
set_option maxRecDepth 100000
set_option maxHeartbeats 8000000
def isCore (p : Prt) : Bool := decide (p = core p)
theorem ct_part_SameCore {p : Prt} {s : AState} (hl : (p.es.length : Int) < 9223372036854775808) : Gives prog F_part_Same [p.av, (core p).av] s (.v (.bool (isCore p))) s := ct_part_Same hl
theorem ct_part_Is {p : Prt} {s : AState} (hl : (p.es.length : Int) < 9223372036854775808) : Gives prog F_part_Is [p.av] s (.v (.bool (isPart p))) s := by
  refine Runs.gives' (runs_e h_part_Is (Nat.le_of_ble_eq_true rfl) ?_) (.v _)
  repeat' (first | simp -dsimp -implicitDefEqProofs (disch := first | omega | (simp <;> omega) | fail) [*] | (with_reducible apply m_draw) | ((with_reducible refine ⟨m_op ?_, ?_⟩); (focus (simp -dsimp -implicitDefEqProofs (disch := first | omega | (simp <;> omega) | fail) [*]; done))) | ((with_reducible first | apply m_d1 rfl | apply m_dE | apply m_dE0); (focus ((conv => lhs; simp -dsimp -implicitDefEqProofs (disch := first | omega | (simp <;> omega) | fail) [*]); done))) | ((with_reducible apply givQ); (case hAR => ((conv => lhs; simp -dsimp -implicitDefEqProofs (disch := first | omega | (simp <;> omega) | fail) [*]); done)); (case hCT => intro _ _; (first | (apply ct_part_between <;> first | assumption | omega | decide) | (apply ct_part_core <;> first | assumption | omega | decide) | (apply ct_part_SameCore <;> first | assumption | omega | decide) | (apply ct_part_rising <;> first | assumption | omega | decide) | (apply ct_part_isMark <;> first | assumption | omega | decide) | (apply ct_part_IsHardE <;> first | assumption | omega | decide)))) | ((with_reducible first | apply m_1 | apply m_0); (focus ((conv => lhs; simp -dsimp -implicitDefEqProofs (disch := first | omega | (simp <;> omega) | fail) [*]); done))) | ((with_reducible apply giv); (case hAR => ((conv => lhs; simp -dsimp -implicitDefEqProofs (disch := first | omega | (simp <;> omega) | fail) [*]); done)); (case hCT => (first | (apply ct_part_between <;> first | assumption | omega | decide) | (apply ct_part_core <;> first | assumption | omega | decide) | (apply ct_part_SameCore <;> first | assumption | omega | decide) | (apply ct_part_rising <;> first | assumption | omega | decide) | (apply ct_part_isMark <;> first | assumption | omega | decide) | (apply ct_part_IsHardE <;> first | assumption | omega | decide)))) | ((with_reducible first | apply i_T | apply g_T | apply h_T); (focus (simp -dsimp -implicitDefEqProofs (disch := first | omega | (simp <;> omega) | fail) [*]; done))) | ((with_reducible first | apply i_F | apply g_F | apply h_F); (focus (simp -dsimp -implicitDefEqProofs (disch := first | omega | (simp <;> omega) | fail) [*]; done))) | ((with_reducible first | apply s_split | apply s_gsplit | apply s_dsplit) <;> (intro hb; have hb' := hb; try simp only [decide_eq_true_eq, decide_eq_false_iff_not, beq_iff_eq, beq_eq_false_iff_ne, bne_iff_ne, bne_eq_false_iff_eq, ne_eq, Bool.not_true, Bool.not_false, Bool.not_eq_true', Bool.not_eq_false', Bool.and_eq_true, Bool.or_eq_true, Bool.or_eq_false_iff] at hb; try simp at hb')))
  all_goals
    (first | apply ret_ok | apply end_ok); (focus ((conv => lhs; simp (disch := first | omega | (simp <;> omega) | fail)); done)); simp only [retVal]
    refine ⟨(Grows.refl _).alloc _, le_bool ?_⟩
    rw [isPart]; try rw [← isCore]
    first | (simp [*]; done) | (simp [core, Prt.ext_iff, *]; done) | (simp [core, Prt.ext_iff, *]; grind) | (rw [Bool.eq_iff_iff]; simp [core, Prt.ext_iff, okMrk, *]; done) | (rw [Bool.eq_iff_iff]; simp [core, Prt.ext_iff, okMrk, *]; grind [okHrd, btw]) | (rw [Bool.eq_iff_iff]; simp [core, Prt.ext_iff, *]; intro h1 h2 h3; rw [h1, h2, h3]; decide)
end Go.Proofs.Ytmfhchaoijiodaa
end
section
namespace Go.Ab
def ACode.nx : ACode → ACode
  | .seq _ y => y
  | x => x
end Go.Ab
end
section
namespace Go.Ab
set_option linter.unusedVariables false
def flagsS (p : Prt) : Int := (if p.mr = true then 1 else 0) + (if p.he = true then 2 else 0)
def numsA (kd : Int) (mr : Bool) : List Nat := if kd = 3 ∨ kd = 4 ∨ mr = true then [6, 7] else []
def numsB (kd : Int) (he : Bool) : List Nat := if kd = 2 ∨ he = true then [3, 4, 5] else []
def numsP (kd : Int) (mr he : Bool) : List Nat := numsA kd mr ++ numsB kd he
end Go.Ab
namespace Go.Proofs.Ytmfhchaoijiodaa
open Go.Ab
set_option linter.unusedVariables false
set_option linter.unusedSimpArgs false
set_option maxRecDepth 100000
set_option maxHeartbeats 1000000
theorem ct_part_flags {p : Prt} {s : AState} : Gives prog F_part_flags [p.av] s (.v (.int .i64 (flagsS p))) s := by
  refine Runs.gives' (runs_e h_part_flags (Nat.le_of_ble_eq_true rfl) ?_) (.v _)
  have w1 : ∀ a b : Int, binV .or (.int .i64 a) (.int .i64 b) = some (.int .i64 (IntKind.wrap .i64 (((a % 2 ^ IntKind.i64.bits).toNat ||| (b % 2 ^ IntKind.i64.bits).toNat : Nat) : Int))) := fun a b => rfl
  unfold flagsS
  cases hm : p.mr <;> cases hh : p.he
  · refine st2 hm hh ?_
    exact ret_ok rfl ⟨(Grows.refl _).alloc _, .refl _⟩
  · refine st2 hm hh ?_
    exact ret_ok rfl ⟨(Grows.refl _).alloc _, .refl _⟩
  · refine st2 hm hh ?_
    exact ret_ok rfl ⟨(Grows.refl _).alloc _, .refl _⟩
  · refine st2 hm hh ?_
    exact ret_ok rfl ⟨(Grows.refl _).alloc _, .refl _⟩
theorem ct_part_numbers {a : Nat} {s : AState} : Gives prog F_part_numbers [.p a 0] s (.f (.func F_part_numbers_1) [] [.p s.n 0]) (s.alloc (.cells [.p a 0])) := by
  refine runs_e h_part_numbers (Nat.le_of_ble_eq_true rfl) ?_
  refine st0 ?_
  exact ret_ok rfl ⟨rfl, rfl⟩
def PreN (b a : Nat) (kd : Int) (mr he : Bool) (s : AState) : Prop := s.get b = .cells [.p a 0] ∧ ∃ c0 c2 c3 c4 c5 c6 c7, s.get a = .cells [c0, .v (.int .i64 kd), c2, c3, c4, c5, c6, c7, .v (.bool mr), .v (.bool he)]
def pnT : ACode := A_part_numbers_1.body.nx.nx
theorem pn_B {P : AState → Prop} {l b a : Nat} {kd : Int} {mr he : Bool} {s : AState} {I : Nat → AState → Prop} {J : AState → Prop} {e : List (Nat × AV)} {k : Nat} (g0 : Ab.get e 0 = .y l) (g1 : Ab.get e 1 = .p b 0)
    (hp : ∀ k s, I k s → PreN b a kd mr he s) (hk : k + (numsB kd he).length = (numsP kd mr he).length)
    (hy : ∀ k (hk : k < ((numsP kd mr he).map fun o => [AV.p a o]).length) s, I k s → YRuns (compCode prog) prog l ((numsP kd mr he).map fun o => [AV.p a o])[k] s (fun r s' => (r = .v (.bool true) ∧ I (k + 1) s') ∨ (r = .v (.bool false) ∧ J s')))
    (hI : I k s) : wp prog none pnT (fnQ [] (fun _ s' => I (numsP kd mr he).length s' ∨ J s')) { t := den 72 e, d := [] } s := by
  have hlen : (numsP kd mr he).length = (numsA kd mr).length + (numsB kd he).length := by simp [numsP]
  have hget : ∀ j (hj : j < (numsB kd he).length), (numsP kd mr he)[k + j]? = some (numsB kd he)[j] := fun j hj => by
    have : k = (numsA kd mr).length := by omega
    unfold numsP
    rw [List.getElem?_append_right (by omega), this, Nat.add_sub_cancel_left, List.getElem?_eq_getElem hj]
  have hyj : ∀ j (hj : j < (numsB kd he).length) s, I (k + j) s → YRuns (compCode prog) prog l [AV.p a (numsB kd he)[j]] s (fun r s' => (r = .v (.bool true) ∧ I (k + j + 1) s') ∨ (r = .v (.bool false) ∧ J s')) := fun j hj s hI => by
    have h1 : k + j < (numsP kd mr he).length := by omega
    have h2 := hy (k + j) (by simpa using h1) s hI
    have h3 := hget j hj
    rw [List.getElem?_eq_getElem h1] at h3
    injection h3 with h3
    simpa only [List.getElem_map, h3] using h2
  obtain ⟨p1, c0, c2, c3, c4, c5, c6, c7, p2⟩ := hp _ _ hI
  by_cases hc : kd = 2 ∨ he = true
  · have hB : numsB kd he = [3, 4, 5] := if_pos hc
    simp only [hB] at hyj hk hlen
    simp only [List.length_cons, List.length_nil] at hk hlen hyj
    have y0 := hyj 0 (by omega)
    have y1 := hyj 1 (by omega)
    have y2 := hyj 2 (by omega)
    simp only [List.getElem_cons_zero, List.getElem_cons_succ, Nat.add_zero] at y0 y1 y2
    simp only [pnT, A_part_numbers_1, ACode.nx]
    obtain ⟨h2, hf⟩ | ⟨h2, hf⟩ : ((kd == 2) = true ∧ True) ∨ ((kd == 2) = false ∧ he = true) := by
      by_cases h : kd = 2
      · exact .inl ⟨by simpa using h, trivial⟩
      · exact .inr ⟨by simpa using h, hc.resolve_left h⟩
    · refine st6 g0 g1 p1 p2 h2 hf ?_
      refine yr0 (y0 s hI) ?_
      rintro _ s2 (⟨rfl, hI2⟩ | ⟨rfl, hJ⟩)
      · obtain ⟨q1, d0, d2, d3, d4, d5, d6, d7, q2⟩ := hp _ _ hI2
        refine st4 g0 g1 q1 q2 ?_
        refine yr0 (y1 s2 hI2) ?_
        rintro _ s3 (⟨rfl, hI3⟩ | ⟨rfl, hJ⟩)
        · obtain ⟨r1, e0, e2, e3, e4, e5, e6, e7, r2⟩ := hp _ _ hI3
          refine st4 g0 g1 r1 r2 ?_
          refine yr0 (y2 s3 hI3) ?_
          rintro _ s4 (⟨rfl, hI4⟩ | ⟨rfl, hJ⟩)
          · refine st0 ?_
            exact end_ok rfl (.inl (by rw [← hk]; exact hI4))
          · refine st0 ?_
            exact end_ok rfl (.inr hJ)
        · refine st0 ?_
          exact end_ok rfl (.inr hJ)
      · refine st0 ?_
        exact end_ok rfl (.inr hJ)
    · refine st6 g0 g1 p1 p2 h2 hf ?_
      refine yr0 (y0 s hI) ?_
      rintro _ s2 (⟨rfl, hI2⟩ | ⟨rfl, hJ⟩)
      · obtain ⟨q1, d0, d2, d3, d4, d5, d6, d7, q2⟩ := hp _ _ hI2
        refine st4 g0 g1 q1 q2 ?_
        refine yr0 (y1 s2 hI2) ?_
        rintro _ s3 (⟨rfl, hI3⟩ | ⟨rfl, hJ⟩)
        · obtain ⟨r1, e0, e2, e3, e4, e5, e6, e7, r2⟩ := hp _ _ hI3
          refine st4 g0 g1 r1 r2 ?_
          refine yr0 (y2 s3 hI3) ?_
          rintro _ s4 (⟨rfl, hI4⟩ | ⟨rfl, hJ⟩)
          · refine st0 ?_
            exact end_ok rfl (.inl (by rw [← hk]; exact hI4))
          · refine st0 ?_
            exact end_ok rfl (.inr hJ)
        · refine st0 ?_
          exact end_ok rfl (.inr hJ)
      · refine st0 ?_
        exact end_ok rfl (.inr hJ)
  · have hB : numsB kd he = [] := if_neg hc
    simp only [hB, List.length_nil, Nat.add_zero] at hk
    have h2 : (kd == 2) = false := by simpa using fun h => hc (.inl h)
    have hf : he = false := by simpa using fun h => hc (.inr h)
    simp only [pnT, A_part_numbers_1, ACode.nx]
    refine st6 g0 g1 p1 p2 h2 hf ?_
    exact end_ok rfl (.inl (by rw [← hk]; exact hI))
theorem it_part_numbers {b a : Nat} {kd : Int} {mr he : Bool} : Iter prog F_part_numbers_1 [] [.p b 0] ((numsP kd mr he).map fun o => [.p a o]) (PreN b a kd mr he) := by
  intro l s I J hp ha hj hy h0
  refine runs_e h_part_numbers_1 (Nat.le_of_ble_eq_true rfl) ?_
  obtain ⟨T, hT⟩ : ∃ T, T = pnT := ⟨_, rfl⟩
  have hT2 := hT
  simp only [pnT, A_part_numbers_1, ACode.nx] at hT2
  rw [← hT2]
  clear hT2
  have hB := fun {s e k} => pn_B (P := fun _ => True) (l := l) (b := b) (a := a) (kd := kd) (mr := mr) (he := he) (s := s) (I := I) (J := J) (e := e) (k := k)
  rw [← hT] at hB
  have hlen : (numsP kd mr he).length = (numsA kd mr).length + (numsB kd he).length := by simp [numsP]
  rw [List.length_map]
  obtain ⟨p1, c0, c2, c3, c4, c5, c6, c7, p2⟩ := hp _ _ h0
  by_cases hc : kd = 3 ∨ kd = 4 ∨ mr = true
  · have hA : numsA kd mr = [6, 7] := if_pos hc
    have y0 := hy 0 (by rw [List.length_map, hlen, hA]; simp <;> omega)
    have y1 := hy 1 (by rw [List.length_map, hlen, hA]; simp <;> omega)
    simp only [List.getElem_map, numsP, hA, List.cons_append, List.getElem_cons_zero, List.getElem_cons_succ] at y0 y1
    obtain ⟨h2, hf⟩ | ⟨h2, hf⟩ | ⟨h2, hf⟩ : ((kd == 3) = true ∧ True) ∨ ((kd == 3) = false ∧ (kd == 4) = true) ∨ ((kd == 3) = false ∧ (kd == 4) = false ∧ mr = true) := by
      by_cases h : kd = 3
      · exact .inl ⟨by simpa using h, trivial⟩
      · by_cases h' : kd = 4
        · exact .inr (.inl ⟨by simpa using h, by simpa using h'⟩)
        · exact .inr (.inr ⟨by simpa using h, by simpa using h', (hc.resolve_left h).resolve_left h'⟩)
    · refine st4 p1 p2 h2 hf ?_
      refine yr0 (y0 s h0) ?_
      rintro _ s2 (⟨rfl, hI2⟩ | ⟨rfl, hJ⟩)
      · obtain ⟨q1, d0, d2, d3, d4, d5, d6, d7, q2⟩ := hp _ _ hI2
        refine st2 q1 q2 ?_
        refine yr0 (y1 s2 hI2) ?_
        rintro _ s3 (⟨rfl, hI3⟩ | ⟨rfl, hJ⟩)
        · refine st0 ?_
          exact hB (by simp) (by simp) hp (by rw [hlen, hA]; simp <;> omega) hy hI3
        · refine st0 ?_
          exact ret_ok rfl (.inr hJ)
      · refine st0 ?_
        exact ret_ok rfl (.inr hJ)
    · refine st4 p1 p2 h2 hf ?_
      refine yr0 (y0 s h0) ?_
      rintro _ s2 (⟨rfl, hI2⟩ | ⟨rfl, hJ⟩)
      · obtain ⟨q1, d0, d2, d3, d4, d5, d6, d7, q2⟩ := hp _ _ hI2
        refine st2 q1 q2 ?_
        refine yr0 (y1 s2 hI2) ?_
        rintro _ s3 (⟨rfl, hI3⟩ | ⟨rfl, hJ⟩)
        · refine st0 ?_
          exact hB (by simp) (by simp) hp (by rw [hlen, hA]; simp <;> omega) hy hI3
        · refine st0 ?_
          exact ret_ok rfl (.inr hJ)
      · refine st0 ?_
        exact ret_ok rfl (.inr hJ)
    · refine st5 p1 p2 h2 hf.1 hf.2 ?_
      refine yr0 (y0 s h0) ?_
      rintro _ s2 (⟨rfl, hI2⟩ | ⟨rfl, hJ⟩)
      · obtain ⟨q1, d0, d2, d3, d4, d5, d6, d7, q2⟩ := hp _ _ hI2
        refine st2 q1 q2 ?_
        refine yr0 (y1 s2 hI2) ?_
        rintro _ s3 (⟨rfl, hI3⟩ | ⟨rfl, hJ⟩)
        · refine st0 ?_
          exact hB (by simp) (by simp) hp (by rw [hlen, hA]; simp <;> omega) hy hI3
        · refine st0 ?_
          exact ret_ok rfl (.inr hJ)
      · refine st0 ?_
        exact ret_ok rfl (.inr hJ)
  · have hA : numsA kd mr = [] := if_neg hc
    have h2 : (kd == 3) = false := by simpa using fun h => hc (.inl h)
    have h3 : (kd == 4) = false := by simpa using fun h => hc (.inr (.inl h))
    have hf : mr = false := by simpa using fun h => hc (.inr (.inr h))
    subst hf
    refine st4 p1 p2 h2 h3 ?_
    refine hB ?_ ?_ hp (by rw [hlen, hA]; simp) hy h0 <;> first | rfl | simp
end Go.Proofs.Ytmfhchaoijiodaa
end
section
namespace Go.Ab
set_option linter.unusedVariables false
theorem MI_eq : MI = 1099511627776 := rfl
def inR (lo hi : Int) (e : Ent) : Bool := decide (lo ≤ e.ix) && decide (e.ix < hi)
def okHead (g : Grp) : Bool := btw g.id 0 999 && btw g.fi 1 (MI + 1) && btw g.tm 0 MI && okHrd g.ht g.hv g.hc
structure Spar (g : Grp) : Prop where
  hd : okHead g = true
  ok : ∀ e ∈ g.es, okEnt e = true
  fi : ∀ e ∈ g.es, g.fi ≤ e.ix
  srt : g.es.Pairwise fun a b => a.ix < b.ix
def hasIx (l : List Ent) (i : Int) : Bool := l.any fun e => decide (e.ix = i)
def putS (g : Grp) (e : Ent) : Grp :=
  if e.ix < g.fi ∨ hasIx g.es e.ix = true then g else { g with es := g.es.filter (inR g.fi e.ix) ++ e :: g.es.filter (inR e.ix (MI + 1)) }
theorem okEnt_iff {e : Ent} : okEnt e = true ↔ (1 ≤ e.ix ∧ e.ix ≤ MI) ∧ (1 ≤ e.tm ∧ e.tm ≤ MI) ∧ (e.da.size : Int) ≤ 40 := by
  simp [okEnt, btw, and_assoc]
theorem okHead_iff {g : Grp} : okHead g = true ↔ (0 ≤ g.id ∧ g.id ≤ 999) ∧ (1 ≤ g.fi ∧ g.fi ≤ MI + 1) ∧ (0 ≤ g.tm ∧ g.tm ≤ MI) ∧ okHrd g.ht g.hv g.hc = true := by
  simp [okHead, btw, and_assoc]
theorem srt_len {l : List Ent} (h : l.Pairwise fun a b => a.ix < b.ix) : ∀ {lo : Int}, (∀ e ∈ l, lo ≤ e.ix ∧ e.ix ≤ MI) → 0 ≤ lo → (l.length : Int) ≤ MI - lo + 1 ∨ l = [] := by
  induction l with
  | nil => intro lo _ _; right; rfl
  | cons a l ih =>
    intro lo hb h0
    left
    have ha := hb a (List.mem_cons_self ..)
    obtain ⟨h1, h2⟩ := List.pairwise_cons.1 h
    rcases ih h2 (lo := lo + 1) (fun e he => ⟨by have := h1 e he; omega, (hb e (List.mem_cons_of_mem _ he)).2⟩) (by omega) with h3 | h3
    · simp only [List.length_cons]; omega
    · subst h3; simp only [List.length_cons, List.length_nil]; omega
theorem Spar.len {g : Grp} (h : Spar g) : (g.es.length : Int) ≤ MI := by
  rcases srt_len h.srt (lo := 1) (fun e he => (okEnt_iff.1 (h.ok e he)).1) (by omega) with h1 | h1
  · omega
  · rw [h1]; decide
theorem rising_ok {l : List Ent} {d : Bool} (h : rising l d = true) : (∀ e ∈ l, okEnt e = true) ∧ (l.Pairwise fun a b => a.ix < b.ix) ∧ (l.length : Int) ≤ 6 := by
  simp only [rising, Bool.and_eq_true, decide_eq_true_eq, List.all_eq_true, List.mem_range, riseAt] at h
  obtain ⟨h1, h2⟩ := h
  have g : ∀ j, j < l.length → l.getD j default = l[j]! := fun j hj => by simp [hj]
  refine ⟨fun e he => ?_, ?_, h2⟩
  · obtain ⟨j, hj, rfl⟩ := List.getElem_of_mem he
    have := (h1 j hj).1
    rwa [List.getD_eq_getElem?_getD, List.getElem?_eq_getElem hj] at this
  · have step : ∀ j (hj : j + 1 < l.length), l[j].ix < l[j + 1].ix := fun j hj => by
      have := (h1 (j + 1) hj).2
      rw [List.getD_eq_getElem?_getD, List.getD_eq_getElem?_getD, List.getElem?_eq_getElem hj, List.getElem?_eq_getElem (by omega)] at this
      simp at this
      exact this.1
    rw [List.pairwise_iff_getElem]
    intro i j hi hj hij
    obtain ⟨d, rfl⟩ : ∃ d, j = i + 1 + d := ⟨j - i - 1, by omega⟩
    clear hij
    induction d with
    | zero => exact step i hj
    | succ d ih => exact Int.lt_trans (ih (by omega)) (step (i + 1 + d) hj)
theorem okHrd_of {p : Prt} (h : isPart p = true) (hk : p.kd = 2 ∨ p.kd = 6) : okHrd p.ht p.hv p.hc = true := by
  simp only [isPart, Bool.and_eq_true] at h
  obtain ⟨_, h⟩ := h
  rcases hk with hk | hk
  · rw [hk] at h; simpa using h
  · rw [hk] at h; simp at h; exact h.2
end Go.Ab
end
section
namespace Go.Proofs.Ytmfhchaoijiodaa
open Go.Ab
set_option linter.unusedVariables false
set_option linter.unusedSimpArgs false
set_option maxRecDepth 100000
set_option maxHeartbeats 2000000
theorem ct_slices_Values_Part {xs : List AV} {s : AState} : Gives prog F_slices_Values_Part [.sl xs .no] s (.f (.func F_slices_Values_Part_1) [] [.p s.n 0]) (s.alloc (.cells [.sl xs .no])) := by
  refine runs_e h_slices_Values_Part (Nat.le_of_ble_eq_true rfl) ?_
  refine st0 ?_
  exact ret_ok rfl ⟨rfl, rfl⟩
theorem it_slices_Values_Part (es : List Prt) (b : Nat) (hlen : es.length < 9223372036854775808) : Iter prog F_slices_Values_Part_1 [] [.p b 0] (es.map fun e => [e.av]) (fun s => s.get b = .cells [.sl (es.map Prt.av) .no]) := by
  intro l s I J hp ha hj hy h0
  refine runs_e h_slices_Values_Part_1 (Nat.le_of_ble_eq_true rfl) ?_
  refine st1 (hp 0 s h0) ?_
  refine loop_ok [0, 5, 6, 7] (fun m a s1 => ∃ j : Nat, j + m = es.length ∧ I j s1 ∧ a = { t := den 16 [(0, .y l), (5, .sl (es.map Prt.av) .no), (6, .v (.int .i64 es.length)), (7, .v (.int .i64 j))], d := [] }) es.length ?_ ?_
  · exact ⟨0, by simp, h0, by simp⟩
  · rintro m a s1 ⟨j, hjm, hI, rfl⟩
    by_cases hlt : j < es.length
    · have hw : IntKind.wrap .i64 ((j : Int) + 1) = ((j + 1 : Nat) : Int) := by rw [wrap_i64 (by omega) (by omega)]; omega
      repeat (first | simp -dsimp -implicitDefEqProofs (disch := first | omega | (simp <;> omega) | fail) [hlt] | ((with_reducible first | apply m_1 | apply m_0); (focus ((conv => lhs; simp -dsimp -implicitDefEqProofs (disch := first | omega | (simp <;> omega) | fail) [hlt]); done))) | ((with_reducible first | apply i_T | apply g_T); (focus (simp -dsimp -implicitDefEqProofs (disch := first | omega | (simp <;> omega) | fail) [hlt]; done))) | ((with_reducible first | apply i_F | apply g_F); (focus (simp -dsimp -implicitDefEqProofs (disch := first | omega | (simp <;> omega) | fail) [hlt]; done))))
      have hy' := hy j (by simpa using hlt) _ (ha _ _ (.cells es[j].cells) hI)
      simp only [List.getElem_map] at hy'
      refine yr0 (hy') ?_
      rintro _ s2 (⟨rfl, hI2⟩ | ⟨rfl, hJ⟩)
      · refine st1 hw ?_
        exact ⟨m - 1, by omega, j + 1, by omega, hI2, by simp⟩
      · refine st0 ?_
        exact ret_ok rfl (.inr hJ)
    · refine st1 hlt ?_
      have : j = es.length := by omega
      subst this
      exact end_ok rfl (.inl (by simpa using hI))
theorem rn_slices_AppendSeq_Entry {g : FuncId} {fs caps : List AV} {es : List Ent} {Pre : AState → Prop} (hit : Iter prog g fs caps (es.map fun e => [e.av]) Pre) {s : AState} (hpre : ∀ s', Grows s s' → Pre s')
    (hlen : es.length * 32 ≤ 140737488355328) :
    Runs (compCode prog) prog F_slices_AppendSeq_Entry [.sl [] .zero, .f (.func g) fs caps] s (fun x s' => ∃ tk, x = .sl (es.map Ent.av) tk ∧ May s.n s' (es.map Ent.av) tk ∧ Grows s s') := by
  refine runs_e h_slices_AppendSeq_Entry (Nat.le_of_ble_eq_true rfl) ?_
  refine st0 ?_
  refine w_rangeG (α := Tok) (β := Unit) (m := es.length) (by simp) hit (by simp) (by simp) (fun k tk => s.alloc (.cells [.sl ((es.map Ent.av).take k) tk])) (fun k tk s' => May (s.n + 3) s' ((es.map Ent.av).take k) tk) (fun _ _ => s) (fun _ _ _ => False) .zero
    (by simp) (fun s' h => trivial) ?_ (fun k a s' o h => h.alloc o) (fun _ _ _ _ h => h) ?_ ?_ (fun _ _ _ _ _ h => h.elim)
  · intro k a s' _ h1 h2
    exact hpre _ (((Grows.refl s).alloc _).trans h2)
  · intro LR LB LJ _ k hk tk g' h1 hm
    have hk' : k < es.length := by simpa using hk
    refine st0 ?_
    refine o_app (B := ((s.alloc (.cells [.sl ((es.map Ent.av).take k) tk])).alloc .defd).alloc LB) (N := s.n + 3) (by simp) (by simp; exact ⟨rfl, rfl⟩) ⟨_, allocs_snoc _ _ _⟩ (by simp) (by simp; omega) ((hm.swap (by simp) (by simp)).alloc _) rfl (by simp) (by simp) (by simp; omega) (by simp; omega) ?_
    intro g2 tk2 hm2 _ _
    refine st0 ?_
    refine ⟨tk2, by simp, ?_, ?_⟩
    · rw [take_snoc hk']; exact ⟨_, rfl⟩
    · rw [take_snoc hk']; exact hm2.swap (by simp) (by simp)
  · intro LR tk g' h1 hm
    rw [List.take_of_length_le (by simp)] at *
    refine st0 ?_
    refine ret_okD (by simp) (by simp) (by simp; rfl) ⟨tk, rfl, ?_, ?_⟩
    · simp only [killAll, List.foldl]
      simp
      exact (hm.swap (by simp) (by simp)).low (by omega)
    · simp only [killAll, List.foldl]
      simp
      exact ((((Grows.refl s).alloc _).alloc _).alloc _).allocs _
theorem rn_slices_Collect_Entry {g : FuncId} {fs caps : List AV} {es : List Ent} {Pre : AState → Prop} (hit : Iter prog g fs caps (es.map fun e => [e.av]) Pre) {s : AState} (hpre : ∀ s', Grows s s' → Pre s')
    (hlen : es.length * 32 ≤ 140737488355328) :
    Runs (compCode prog) prog F_slices_Collect_Entry [.f (.func g) fs caps] s (fun x s' => ∃ tk, x = .sl (es.map Ent.av) tk ∧ May s.n s' (es.map Ent.av) tk ∧ Grows s s') := by
  refine runs_e h_slices_Collect_Entry (Nat.le_of_ble_eq_true rfl) ?_
  refine st0 ?_
  refine rn0 (rn_slices_AppendSeq_Entry hit hpre hlen) ?_
  rintro _ s' ⟨tk, rfl, h1, h2⟩
  refine st0 ?_
  exact ret_ok rfl ⟨tk, rfl, h1, h2⟩
theorem ct_slices_Collect_Entry {g : FuncId} {fs caps : List AV} {es : List Ent} {Pre : AState → Prop} (hit : Iter prog g fs caps (es.map fun e => [e.av]) Pre) {s : AState} (hpre : ∀ s', Grows s s' → Pre s')
    (hlen : es.length * 32 ≤ 140737488355328) : Gives prog F_slices_Collect_Entry [.f (.func g) fs caps] s (.sl (es.map Ent.av) .no) s :=
  Runs.gives' ((rn_slices_Collect_Entry hit hpre hlen).mono (by rintro _ s' ⟨tk, rfl, h1, h2⟩; exact ⟨h2, AV.le_no _ _⟩)) (flat_sl Ent.row _)
end Go.Proofs.Ytmfhchaoijiodaa
end
section
namespace Go.Proofs.Ytmfhchaoijiodaa
open Go.Ab
set_option linter.unusedVariables false
set_option linter.unusedSimpArgs false
set_option maxRecDepth 100000
set_option maxHeartbeats 4000000
theorem ct_group_Within {g : Grp} {lo hi : Int} {s : AState} : Gives prog F_group_Within [g.av, .v (.int .i64 lo), .v (.int .i64 hi)] s
    (.f (.func F_group_Within_1) [] [.p s.n 0, .p (s.n + 1) 0, .p (s.n + 2) 0]) (((s.alloc (.cells g.cells)).alloc (.cells [.v (.int .i64 lo)])).alloc (.cells [.v (.int .i64 hi)])) := by
  refine runs_e h_group_Within (Nat.le_of_ble_eq_true rfl) ?_
  refine st0 ?_
  exact ret_ok rfl ⟨rfl, rfl⟩
theorem it_group_Within {g : Grp} {lo hi : Int} {b1 b2 b3 : Nat} (hlen : (g.es.length : Int) < 9223372036854775808) :
    Iter prog F_group_Within_1 [] [.p b1 0, .p b2 0, .p b3 0] ((g.es.filter (inR lo hi)).map fun e => [e.av])
      (fun s => s.get b1 = .cells g.cells ∧ s.get b2 = .cells [.v (.int .i64 lo)] ∧ s.get b3 = .cells [.v (.int .i64 hi)]) := by
  intro l s I J hp ha hj hy h0
  obtain ⟨p1, p2, p3⟩ := hp 0 s h0
  refine runs_e h_group_Within_1 (Nat.le_of_ble_eq_true rfl) ?_
  refine st1 p1 ?_
  refine loop_ok [0, 1, 2, 3, 8, 9, 10] (fun m a s1 => ∃ j : Nat, j + m = g.es.length ∧ I ((g.es.take j).filter (inR lo hi)).length s1 ∧ a = { t := den 31 [(0, .y l), (1, .p b1 0), (2, .p b2 0), (3, .p b3 0), (8, .sl (g.es.map Ent.av) .no), (9, .v (.int .i64 g.es.length)), (10, .v (.int .i64 j))], d := [] }) g.es.length ?_ ?_
  · exact ⟨0, by simp, by simpa using h0, by simp⟩
  · rintro m a s1 ⟨j, hjm, hI, rfl⟩
    by_cases hlt : j < g.es.length
    · obtain ⟨e1, e2, e3⟩ := hp _ s1 hI
      have hw : IntKind.wrap .i64 ((j : Int) + 1) = (j : Int) + 1 := wrap_i64 (by omega) (by omega)
      have n2 := AState.lt_of_get e2 (by simp)
      have n3 := AState.lt_of_get e3 (by simp)
      by_cases h1 : lo ≤ g.es[j].ix
      · by_cases h2 : g.es[j].ix < hi
        · have hm : inR lo hi g.es[j] = true := by simp [inR, h1, h2]
          repeat (first | simp -dsimp -implicitDefEqProofs (disch := first | omega | (simp <;> omega) | fail) [hlt, e2, e3, h1, h2] | ((with_reducible first | apply m_1 | apply m_0); (focus ((conv => lhs; simp -dsimp -implicitDefEqProofs (disch := first | omega | (simp <;> omega) | fail) [hlt, e2, e3, h1, h2]); done))) | ((with_reducible first | apply i_T | apply g_T); (focus (simp -dsimp -implicitDefEqProofs (disch := first | omega | (simp <;> omega) | fail) [hlt, e2, e3, h1, h2]; done))) | ((with_reducible first | apply i_F | apply g_F); (focus (simp -dsimp -implicitDefEqProofs (disch := first | omega | (simp <;> omega) | fail) [hlt, e2, e3, h1, h2]; done))))
          obtain ⟨hk, hg⟩ := fget (p := inR lo hi) hlt hm
          have hy' := hy _ (by simpa using hk) _ (ha _ _ (.cells g.es[j].cells) hI)
          simp only [List.getElem_map, hg] at hy'
          refine yr0 (hy') ?_
          rintro _ s2 (⟨rfl, hI2⟩ | ⟨rfl, hJ⟩)
          · refine st0 ?_
            refine ⟨m - 1, by omega, j + 1, by omega, ?_, by simp [hw]⟩
            rw [ftake hlt, if_pos hm]; simpa using hI2
          · refine st0 ?_
            exact ret_ok rfl (.inr hJ)
        · have hm : inR lo hi g.es[j] = false := by simp [inR, h2]
          repeat (first | simp -dsimp -implicitDefEqProofs (disch := first | omega | (simp <;> omega) | fail) [hlt, e2, e3, h1, h2] | ((with_reducible first | apply m_1 | apply m_0); (focus ((conv => lhs; simp -dsimp -implicitDefEqProofs (disch := first | omega | (simp <;> omega) | fail) [hlt, e2, e3, h1, h2]); done))) | ((with_reducible first | apply i_T | apply g_T); (focus (simp -dsimp -implicitDefEqProofs (disch := first | omega | (simp <;> omega) | fail) [hlt, e2, e3, h1, h2]; done))) | ((with_reducible first | apply i_F | apply g_F); (focus (simp -dsimp -implicitDefEqProofs (disch := first | omega | (simp <;> omega) | fail) [hlt, e2, e3, h1, h2]; done))))
          refine ⟨m - 1, by omega, j + 1, by omega, ?_, by simp [hw]⟩
          rw [ftake hlt, if_neg (by simp [hm])]; simpa using ha _ _ (.cells g.es[j].cells) hI
      · have hm : inR lo hi g.es[j] = false := by simp [inR, h1]
        repeat (first | simp -dsimp -implicitDefEqProofs (disch := first | omega | (simp <;> omega) | fail) [hlt, e2, e3, h1] | ((with_reducible first | apply m_1 | apply m_0); (focus ((conv => lhs; simp -dsimp -implicitDefEqProofs (disch := first | omega | (simp <;> omega) | fail) [hlt, e2, e3, h1]); done))) | ((with_reducible first | apply i_T | apply g_T); (focus (simp -dsimp -implicitDefEqProofs (disch := first | omega | (simp <;> omega) | fail) [hlt, e2, e3, h1]; done))) | ((with_reducible first | apply i_F | apply g_F); (focus (simp -dsimp -implicitDefEqProofs (disch := first | omega | (simp <;> omega) | fail) [hlt, e2, e3, h1]; done))))
        refine ⟨m - 1, by omega, j + 1, by omega, ?_, by simp [hw]⟩
        rw [ftake hlt, if_neg (by simp [hm])]; simpa using ha _ _ (.cells g.es[j].cells) hI
    · refine st1 hlt ?_
      have : j = g.es.length := by omega
      subst this
      exact end_ok rfl (.inl (by simpa using hI))
end Go.Proofs.Ytmfhchaoijiodaa
end
section
namespace Go.Proofs.Ytmfhchaoijiodaa
open Go.Ab
set_option linter.unusedVariables false
set_option linter.unusedSimpArgs false
set_option maxRecDepth 100000
set_option maxHeartbeats 4000000
def idxS {α : Type} (p : α → Bool) (l : List α) : Int := match l.findIdx? p with | some i => (i : Int) | none => -1
theorem idxS_none {α : Type} {p : α → Bool} {l : List α} (h : ∀ x ∈ l, p x = false) : idxS p l = -1 := by
  unfold idxS
  rw [List.findIdx?_eq_none_iff.2 h]
theorem idxS_some {α : Type} {p : α → Bool} {l : List α} {i : Nat} (hi : i < l.length) (h : ∀ j (hj : j < i), p l[j] = false) (hp : p l[i] = true) : idxS p l = i := by
  unfold idxS
  rw [List.findIdx?_eq_some_iff_getElem.2 ⟨hi, hp, fun j hj => by simp [h j hj]⟩]
theorem idxS_any {α : Type} (p : α → Bool) (l : List α) : decide (0 ≤ idxS p l) = l.any p := by
  unfold idxS
  cases h : l.findIdx? p with
  | none =>
    have h1 := List.findIdx?_eq_none_iff.1 h
    have : l.any p = false := by rw [List.any_eq_false]; intro x hx; simp [h1 x hx]
    rw [this]; decide
  | some i =>
    obtain ⟨hi, hp, _⟩ := List.findIdx?_eq_some_iff_getElem.1 h
    have : l.any p = true := List.any_eq_true.2 ⟨_, List.getElem_mem hi, hp⟩
    rw [this]; simp
theorem ct_slices_IndexFunc_Part {g : FuncId} {fs caps : List AV} {l : List Prt} {p : Prt → Bool} {s : AState} (hlen : (l.length : Int) < 9223372036854775808) (hg : ∀ e ∈ l, Gives prog g (fs ++ [e.av] ++ caps) s (.v (.bool (p e))) s)
    (hs1 : fs.map AV.strip = fs := by rfl) (hs2 : caps.map AV.strip = caps := by rfl) :
    Gives prog F_slices_IndexFunc_Part [.sl (l.map Prt.av) .no, .f (.func g) fs caps] s (.v (.int .i64 (idxS p l))) s := by
  refine runs_e h_slices_IndexFunc_Part (Nat.le_of_ble_eq_true rfl) ?_
  refine st0 ?_
  refine loop_ok [0, 1, 7, 8] (fun k a s1 => s = s1 ∧ ∃ i : Nat, i + k = l.length ∧ (∀ j (hj : j < i) (hj' : j < l.length), p l[j] = false) ∧ a = { t := den 19 [(0, .sl (l.map Prt.av) .no), (1, .f (.func g) fs caps), (7, .v (.int .i64 l.length)), (8, .v (.int .i64 i))], d := [] }) l.length ?_ ?_
  · exact ⟨rfl, 0, by simp, fun j hj => by omega, by simp⟩
  rintro k a _ ⟨rfl, i, hik, hno, rfl⟩
  by_cases hlt : i < l.length
  · have hw : IntKind.wrap .i64 ((i : Int) + 1) = (i : Int) + 1 := wrap_i64 (by omega) (by omega)
    repeat (first | simp -dsimp -implicitDefEqProofs (disch := first | omega | (simp <;> omega) | fail) [hlt] | ((with_reducible first | apply m_1 | apply m_0); (focus ((conv => lhs; simp -dsimp -implicitDefEqProofs (disch := first | omega | (simp <;> omega) | fail) [hlt]); done))) | ((with_reducible first | apply i_T | apply g_T); (focus (simp -dsimp -implicitDefEqProofs (disch := first | omega | (simp <;> omega) | fail) [hlt]; done))) | ((with_reducible first | apply i_F | apply g_F); (focus (simp -dsimp -implicitDefEqProofs (disch := first | omega | (simp <;> omega) | fail) [hlt]; done))))
    refine giv (hg l[i] (List.getElem_mem hlt)) ?_ ?_
    · simp [hs1, hs2]
    cases hp : p l[i] with
    | true =>
      refine st0 ?_
      exact ret_ok rfl ⟨by rw [idxS_some hlt (fun j hj => hno j hj (by omega)) hp]; rfl, rfl⟩
    | false =>
      refine st0 ?_
      refine ⟨k - 1, by omega, rfl, i + 1, by omega, fun j hj hj' => ?_, by simp [hw]⟩
      by_cases e : j = i
      · subst e; exact hp
      · exact hno j (by omega) hj'
  · refine st1 hlt ?_
    exact ret_ok rfl ⟨by rw [idxS_none (fun x hx => by obtain ⟨j, hj, rfl⟩ := List.getElem_of_mem hx; exact hno j (by omega) hj)]; rfl, rfl⟩
theorem ct_slices_ContainsFunc_Part {g : FuncId} {fs caps : List AV} {l : List Prt} {p : Prt → Bool} {s : AState} (hlen : (l.length : Int) < 9223372036854775808) (hg : ∀ e ∈ l, Gives prog g (fs ++ [e.av] ++ caps) s (.v (.bool (p e))) s) (hs1 : fs.map AV.strip = fs := by rfl) (hs2 : caps.map AV.strip = caps := by rfl) :
    Gives prog F_slices_ContainsFunc_Part [.sl (l.map Prt.av) .no, .f (.func g) fs caps] s (.v (.bool (l.any p))) s := by
  refine runs_e h_slices_ContainsFunc_Part (Nat.le_of_ble_eq_true rfl) ?_
  refine st0 ?_
  refine gv (ct_slices_IndexFunc_Part (l := l) (g := g) (fs := fs) (caps := caps) (p := p) hlen hg hs1 hs2) ?_
  have h := idxS_any p l
  by_cases h0 : 0 ≤ idxS p l
  · rw [decide_eq_true h0] at h
    refine st1 h0 ?_
    exact ret_ok rfl ⟨by rw [← h]; rfl, rfl⟩
  · rw [decide_eq_false h0] at h
    refine st1 h0 ?_
    exact ret_ok rfl ⟨by rw [← h]; rfl, rfl⟩
end Go.Proofs.Ytmfhchaoijiodaa
end
section
namespace Go.Proofs.Ytmfhchaoijiodaa
open Go.Ab
set_option linter.unusedVariables false
set_option linter.unusedSimpArgs false
set_option maxRecDepth 100000
set_option maxHeartbeats 4000000
def dense (g : Grp) : Bool := (List.range g.es.length).all fun j : Nat => decide ((g.es.getD j default).ix = g.fi + (j : Int))
end Go.Proofs.Ytmfhchaoijiodaa
end
section
namespace Go.Proofs.Ytmfhchaoijiodaa
open Go.Ab
set_option linter.unusedVariables false
set_option linter.unusedSimpArgs false
set_option maxRecDepth 100000
set_option maxHeartbeats 4000000
theorem ct_group_Same {a b : Grp} {s : AState} (hl : (a.es.length : Int) < 9223372036854775808) : Gives prog F_group_Same [a.av, b.av] s (.v (.bool (decide (a = b)))) s := by
  refine Runs.gives' (runs_e h_group_Same (Nat.le_of_ble_eq_true rfl) ?_) (.v _)
  repeat' (first | simp -dsimp -implicitDefEqProofs (disch := first | omega | (simp <;> omega) | fail) [*] | ((with_reducible first | apply m_1 | apply m_0); (focus ((conv => lhs; simp -dsimp -implicitDefEqProofs (disch := first | omega | (simp <;> omega) | fail) [*]); done))) | ((with_reducible apply giv); (case hAR => ((conv => lhs; simp -dsimp -implicitDefEqProofs (disch := first | omega | (simp <;> omega) | fail) [*]); done)); (case hCT => (first | (apply ct_slices_Equal_Entry <;> first | assumption | omega | decide)))) | ((with_reducible first | apply i_T | apply g_T); (focus (simp -dsimp -implicitDefEqProofs (disch := first | omega | (simp <;> omega) | fail) [*]; done))) | ((with_reducible first | apply i_F | apply g_F); (focus (simp -dsimp -implicitDefEqProofs (disch := first | omega | (simp <;> omega) | fail) [*]; done))) | ((with_reducible first | apply s_split | apply s_gsplit) <;> (intro hb; have hb' := hb; try simp only [decide_eq_true_eq, decide_eq_false_iff_not, beq_iff_eq, beq_eq_false_iff_ne, bne_iff_ne, bne_eq_false_iff_eq, ne_eq, Bool.not_true, Bool.not_false, Bool.not_eq_true', Bool.not_eq_false', Bool.and_eq_true, Bool.or_eq_true, Bool.or_eq_false_iff] at hb; try simp at hb')))
  all_goals refine ret_ok (by simp; rfl) ⟨((Grows.refl _).alloc _).alloc _, ?_⟩
  all_goals simp only [retVal]
  all_goals first
    | (rw [show decide (a = b) = false by first | (simp [Grp.ext_iff, *]; done) | (rw [decide_eq_false_iff_not, Grp.ext_iff]; grind)]; simp [*, AV.le.refl]; done)
    | (simp [Grp.ext_iff, *, AV.le.refl]; done)
end Go.Proofs.Ytmfhchaoijiodaa
end
section
namespace Go.Ab
set_option linter.unusedVariables false
structure Mut (F F' : List Nat) (s s' : AState) : Prop where
  n : s.n ≤ s'.n
  keep : ∀ x, x < s.n → x ∉ F → s'.get x = s.get x
  own : ∀ x ∈ F', x ∈ F ∨ s.n ≤ x
def newG (id : Int) : Grp := ⟨id, 1, 0, 0, 0, 0, []⟩
theorem newG_spar {id : Int} (h : 0 ≤ id ∧ id ≤ 999) : Spar (newG id) := by
  refine ⟨?_, by simp [newG], by simp [newG], by simp [newG]⟩
  have hMI := MI_eq
  rw [okHead_iff]
  refine ⟨h, ⟨by show (1 : Int) ≤ 1; omega, by show (1 : Int) ≤ MI + 1; omega⟩, ⟨by show (0 : Int) ≤ 0; omega, by show (0 : Int) ≤ MI; omega⟩, ?_⟩
  show okHrd 0 0 0 = true
  decide
end Go.Ab
end
section
namespace Go.Proofs.Ytmfhchaoijiodaa
open Go.Ab
set_option linter.unusedVariables false
set_option linter.unusedSimpArgs false
set_option maxRecDepth 100000
set_option maxHeartbeats 4000000
theorem ct_group_New {id : Int} {s : AState} : Gives prog F_group_New [.v (.int .i64 id)] s (newG id).av s := by
  refine Runs.gives' (runs_e h_group_New (Nat.le_of_ble_eq_true rfl) ?_) (Grp.row _).flat
  refine st0 ?_
  first
    | exact ret_ok (by simp; rfl) ⟨Grows.refl _, (AV.le_strip _).trans (by simp [Grp.av, Grp.cells, newG, retVal]; exact .refl _)⟩
    | exact ret_ok (by simp; rfl) ⟨(Grows.refl _).alloc _, (AV.le_strip _).trans (by simp [Grp.av, Grp.cells, newG, retVal]; exact .refl _)⟩
theorem beq_dec (a b : Int) : (a == b) = decide (a = b) := by by_cases h : a = b <;> simp [h]
end Go.Proofs.Ytmfhchaoijiodaa
end
section
namespace Go.Ab
set_option linter.unusedVariables false
def zeroE : Ent := ⟨0, 0, ⟨#[]⟩⟩
def lastG (g : Grp) : Int := if g.es.length = 0 then g.fi - 1 else (g.es.getD (g.es.length - 1) zeroE).ix
def atS (l : List Ent) (i : Int) : Option Ent := (l.filter (inR i (i + 1))).head?
def fitsG (g : Grp) (i t : Int) : Bool := match atS g.es i with | some e => decide (e.tm = t) | none => false
def firstP (p : Prt) : Int := (p.es.getD 0 default).ix
def chkG (g : Grp) (p : Prt) : Int :=
  if isPart p = false ∨ p.kd = 6 ∨ p.kd = 5 ∨ ¬ p.gr = g.id then 11
  else if p.kd = 1 then (if firstP p < g.fi then 15 else if lastG g < firstP p - 1 then 14 else 0)
  else if p.kd = 3 then (if p.ix < g.fi then 15 else if lastG g < p.ix then 16 else if ¬ p.tm = 0 ∧ fitsG g p.ix p.tm = false then 11 else 0)
  else if p.kd = 4 then (if p.ix < g.fi then 15 else 0)
  else 0
def goneG (g : Grp) (i t : Int) : Grp := { g with es := g.es.filter (inR (i + 1) (MI + 1)), fi := i + 1, tm := t }
def doG (g : Grp) (p : Prt) : Grp :=
  if p.kd = 1 then { g with es := g.es.filter (inR g.fi (firstP p)) ++ p.es }
  else if p.kd = 2 then { g with ht := p.ht, hv := p.hv, hc := p.hc }
  else if p.kd = 3 then goneG g p.ix ((atS g.es p.ix).getD zeroE).tm
  else if p.kd = 4 then goneG (if fitsG g p.ix p.tm = true then g else { g with es := [] }) p.ix p.tm
  else g
def runG (g : Grp) (p : Prt) : Grp := if chkG g p = 0 then doG g p else g
theorem lastG_bd {g : Grp} (h : Spar g) : 0 ≤ lastG g ∧ lastG g ≤ MI := by
  have h0 := (okHead_iff.1 h.hd).2.1
  unfold lastG
  split
  · omega
  · next hl =>
    rw [List.getD_eq_getElem?_getD, List.getElem?_eq_getElem (by omega)]
    have := okEnt_iff.1 (h.ok _ (List.getElem_mem (show g.es.length - 1 < g.es.length by omega)))
    simp only [Option.getD_some]
    omega
structure AtI (s : AState) (g : Grp) (i : Int) (k : Nat) (s' : AState) : Prop where
  b1 : s'.get (s.n + 3) = .cells g.cells
  b2 : s'.get (s.n + 4) = .cells [.v (.int .i64 i)]
  b3 : s'.get (s.n + 5) = .cells [.v (.int .i64 (i + 1))]
  c1 : s'.get (s.n + 1) = .cells zeroE.cells
  c2 : s'.get (s.n + 2) = .cells [.v (.bool false)]
  n : s.n + 8 ≤ s'.n
  old : ∀ x, x < s.n → s'.get x = s.get x
  z : k = 0
structure AtJ (s : AState) (g : Grp) (i : Int) (j : AJump) (s' : AState) : Prop where
  j : j = .ret
  e : ∃ e, atS g.es i = some e ∧ s'.get (s.n + 1) = .cells e.cells
  c2 : s'.get (s.n + 2) = .cells [.v (.bool true)]
  n : s.n + 8 ≤ s'.n
  old : ∀ x, x < s.n → s'.get x = s.get x
end Go.Ab
namespace Go.Proofs.Ytmfhchaoijiodaa
open Go.Ab
set_option linter.unusedVariables false
set_option linter.unusedSimpArgs false
set_option maxRecDepth 100000
set_option maxHeartbeats 1000000
theorem ct_group_Last {g : Grp} {s : AState} (h : Spar g) : Gives prog F_group_Last [g.av] s (.v (.int .i64 (lastG g))) s := by
  have hl := h.len
  have hMI := MI_eq
  have h0 := (okHead_iff.1 h.hd).2.1
  refine Runs.gives' (runs_e h_group_Last (Nat.le_of_ble_eq_true rfl) ?_) (.v _)
  unfold lastG
  by_cases hz : g.es.length = 0
  · have w1 : IntKind.wrap .i64 (g.fi - 1) = g.fi - 1 := wrap_i64 (by omega) (by omega)
    have hz2 : g.es = [] := List.eq_nil_of_length_eq_zero hz
    refine st2 hz2 w1 ?_
    refine ret_ok rfl ⟨(Grows.refl _).alloc _, ?_⟩
    simp [retVal, hz2]; exact .refl _
  · obtain ⟨k, hk⟩ : ∃ k, g.es.length = k + 1 := ⟨g.es.length - 1, by omega⟩
    have w1 : IntKind.wrap .i64 ((k : Int) + 1 - 1) = (k : Int) := by rw [wrap_i64 (by omega) (by omega)]; omega
    have w2 : IntKind.wrap .i64 (k : Int) = (k : Int) := wrap_i64 (by omega) (by omega)
    have hlt : k < g.es.length := by omega
    have hne : ¬ ((k : Int) + 1 = 0) := by omega
    have hne2 : ¬ g.es = [] := fun e => by rw [e] at hk; simp at hk
    repeat (first | simp -dsimp -implicitDefEqProofs (disch := first | omega | (simp <;> omega) | fail) [hk, w1, w2, hlt, hne, hne2] | ((with_reducible first | apply m_1 | apply m_0); (focus ((conv => lhs; simp -dsimp -implicitDefEqProofs (disch := first | omega | (simp <;> omega) | fail) [hk, w1, w2, hlt, hne, hne2]); done))) | ((with_reducible first | apply i_T | apply g_T); (focus (simp -dsimp -implicitDefEqProofs (disch := first | omega | (simp <;> omega) | fail) [hk, w1, w2, hlt, hne, hne2]; done))) | ((with_reducible first | apply i_F | apply g_F); (focus (simp -dsimp -implicitDefEqProofs (disch := first | omega | (simp <;> omega) | fail) [hk, w1, w2, hlt, hne, hne2]; done))))
    refine ret_ok rfl ⟨(Grows.refl _).alloc _, ?_⟩
    simp [retVal, hk, hlt]; exact .refl _
theorem ct_group_at {g : Grp} {i : Int} {s : AState} (hl : (g.es.length : Int) < 9223372036854775808) (hi : -9223372036854775808 ≤ i ∧ i < 9223372036854775807) :
    Gives prog F_group_at [g.av, .v (.int .i64 i)] s (.tup [((atS g.es i).getD zeroE).av, .v (.bool (atS g.es i).isSome)]) s := by
  refine Runs.gives (runs_e h_group_at (Nat.le_of_ble_eq_true rfl) ?_) (Flat.tup (by simp; exact ⟨(Ent.row _).flat, .v _⟩))
  have w1 : IntKind.wrap .i64 (i + 1) = i + 1 := wrap_i64 (by omega) (by omega)
  refine st1 w1 ?_
  refine gv (ct_group_Within (g := g) (lo := i) (hi := i + 1)) ?_
  refine st0 ?_
  have hit := it_group_Within (g := g) (lo := i) (hi := i + 1) (b1 := s.n + 3) (b2 := s.n + 4) (b3 := s.n + 5) hl
  have hsn : ((((((s.alloc (.cells g.cells)).alloc (.cells [.v (.int .i64 0), .v (.int .i64 0), .v (.string ⟨#[]⟩)])).alloc (.cells [.v (.bool false)])).alloc (.cells g.cells)).alloc (.cells [.v (.int .i64 i)])).alloc (.cells [.v (.int .i64 (i + 1))])).n = s.n + 6 := by simp
  refine w_rangeS (m := (g.es.filter (inR i (i + 1))).length) (by simp) hit (by intro x hx; obtain ⟨p, _, rfl⟩ := List.mem_map.1 hx; rfl) (by simp) (fun k s' => AtI s g i k s') (fun j s' => AtJ s g i j s') ?_ ?_ ?_ ?_ ?_ ?_ ?_
  · intro LR
    exact ⟨dz0, dz0, dz0, by simp (disch := first | omega | (simp <;> omega) | fail) [Ent.cells, zeroE], dz0, by simp, fun x hx => dz0, rfl⟩
  · intro k s' hI; exact ⟨hI.b1, hI.b2, hI.b3⟩
  · rintro k s' o hn ⟨b1, b2, b3, c1, c2, n, old, z⟩
    exact ⟨dz1 b1, dz1 b2, dz1 b3, dz1 c1, dz1 c2, by simp; omega, fun x hx => dz1 (old x hx), z⟩
  · rintro j s' o hn ⟨rfl, ⟨e, he, c1⟩, c2, n, old⟩
    exact ⟨rfl, ⟨e, he, dz1 c1⟩, dz1 c2, by simp; omega, fun x hx => dz1 (old x hx)⟩
  · intro LR LB LJ hLB hLR k hk s' hd hLL hln hI
    obtain ⟨b1, b2, b3, c1, c2, n, old, rfl⟩ := hI
    have hk' : 0 < (g.es.filter (inR i (i + 1))).length := by simpa using hk
    have hA : atS g.es i = some (g.es.filter (inR i (i + 1)))[0] := by unfold atS; rw [List.head?_eq_getElem?, List.getElem?_eq_getElem hk']
    simp only [hsn, List.getElem_map, List.zip_cons_cons, List.zip_nil_right, List.reverse_cons, List.reverse_nil, List.nil_append, List.cons_append] at hd hLL hln ⊢
    unfold Ent.cells zeroE at c1
    refine st3 hLL c1 c2 ?_
    refine fins_j (fun d hd' => by cases hd'; simp (disch := first | omega | (simp <;> omega) | fail) [hd]) (dz0) ⟨rfl, ⟨_, hA, dz0⟩, dz0, by simp; omega, fun x hx => dz1 (old x hx)⟩
  · rintro s' hd hln ⟨b1, b2, b3, c1, c2, n, old, z⟩
    have hA : atS g.es i = none := by unfold atS; rw [List.eq_nil_of_length_eq_zero z]; rfl
    simp only [hsn] at *
    unfold Ent.cells zeroE at c1
    refine st2 c1 c2 ?_
    refine ret_okD (by simp (disch := first | omega | (simp <;> omega) | fail) [hd]) (by simp) (by simp (disch := first | omega | (simp <;> omega) | fail) [killAll]; rfl) ⟨⟨by simp [killAll]; omega, fun x hx => .inl ?_⟩, ?_⟩
    · simp (disch := first | omega | (simp <;> omega) | fail) [killAll, old x hx]
    · rw [hA]; simp [retVal, zeroE, Ent.av, Ent.cells]; exact .refl _
  · rintro j s' hd hln ⟨rfl, ⟨e, he, c1⟩, c2, n, old⟩
    simp only [hsn] at *
    repeat (first | simp -dsimp -implicitDefEqProofs (disch := first | omega | (simp <;> omega) | fail) [AJump.exitOf, c1, c2] | ((with_reducible first | apply m_1 | apply m_0); (focus ((conv => lhs; simp -dsimp -implicitDefEqProofs (disch := first | omega | (simp <;> omega) | fail) [AJump.exitOf, c1, c2]); done))) | ((with_reducible first | apply i_T | apply g_T); (focus (simp -dsimp -implicitDefEqProofs (disch := first | omega | (simp <;> omega) | fail) [AJump.exitOf, c1, c2]; done))) | ((with_reducible first | apply i_F | apply g_F); (focus (simp -dsimp -implicitDefEqProofs (disch := first | omega | (simp <;> omega) | fail) [AJump.exitOf, c1, c2]; done))))
    refine ret_okD (by simp (disch := first | omega | (simp <;> omega) | fail) [hd]) (by simp) (by simp (disch := first | omega | (simp <;> omega) | fail) [killAll, c1, c2]; rfl) ⟨⟨by simp [killAll]; omega, fun x hx => .inl ?_⟩, ?_⟩
    · simp (disch := first | omega | (simp <;> omega) | fail) [killAll, old x hx]
    · rw [he]; simp [retVal]; exact .refl _
theorem ct_group_fits {g : Grp} {i t : Int} {s : AState} (hl : (g.es.length : Int) < 9223372036854775808) (hi : -9223372036854775808 ≤ i ∧ i < 9223372036854775807) :
    Gives prog F_group_fits [g.av, .v (.int .i64 i), .v (.int .i64 t)] s (.v (.bool (fitsG g i t))) s := by
  refine Runs.gives' (runs_e h_group_fits (Nat.le_of_ble_eq_true rfl) ?_) (.v _)
  refine st0 ?_
  refine gv (ct_group_at (g := g) (i := i) hl hi) ?_
  unfold fitsG
  cases atS g.es i with
  | none =>
    refine st0 ?_
    exact ret_ok (by simp; rfl) ⟨((Grows.refl _).alloc _).alloc _, .refl _⟩
  | some e =>
    by_cases ht : e.tm = t
    · refine st1 ht ?_
      refine ret_ok (by simp; rfl) ⟨((Grows.refl _).alloc _).alloc _, ?_⟩
      simp [retVal, ht]; exact .refl _
    · refine st1 ht ?_
      refine ret_ok (by simp; rfl) ⟨((Grows.refl _).alloc _).alloc _, ?_⟩
      simp [retVal, ht]; first | exact .refl _ | (rw [beq_dec]; simp [ht]; exact .refl _)
end Go.Proofs.Ytmfhchaoijiodaa
end
section
namespace Go.Ab
set_option linter.unusedVariables false
theorem firstP_bd {p : Prt} (h : isPart p = true) (hk : p.kd = 1) : 0 < p.es.length ∧ p.es.length ≤ 6 ∧ 1 ≤ firstP p ∧ firstP p ≤ MI ∧ firstP p = (p.es.getD 0 default).ix := by
  simp only [isPart, Bool.and_eq_true] at h
  obtain ⟨_, h⟩ := h
  rw [if_pos hk] at h
  simp only [Bool.and_eq_true, Bool.not_eq_true', List.isEmpty_eq_false_iff] at h
  obtain ⟨h1, h2⟩ := h
  obtain ⟨e1, _, e3⟩ := rising_ok h2
  have hl : 0 < p.es.length := List.length_pos_iff.2 h1
  have := okEnt_iff.1 (e1 _ (List.getElem_mem hl))
  unfold firstP
  rw [List.getD_eq_getElem?_getD, List.getElem?_eq_getElem hl]
  simp only [Option.getD_some]
  exact ⟨hl, by omega, by omega, by omega, trivial⟩
theorem mark_bd {p : Prt} (h : isPart p = true) (hk : p.kd = 3 ∨ p.kd = 4) : (1 ≤ p.ix ∧ p.ix ≤ MI) ∧ 0 ≤ p.tm ∧ p.tm ≤ MI := by
  simp only [isPart, Bool.and_eq_true] at h
  obtain ⟨_, h⟩ := h
  rcases hk with hk | hk
  · simp [hk, okMrk, btw] at h; omega
  · simp [hk, okMrk, btw] at h; omega
end Go.Ab
namespace Go.Proofs.Ytmfhchaoijiodaa
open Go.Ab
set_option linter.unusedVariables false
set_option linter.unusedSimpArgs false
set_option maxRecDepth 100000
set_option maxHeartbeats 1000000
theorem ct_group_Check {g : Grp} {p : Prt} {s : AState} (h : Spar g) (hp : (p.es.length : Int) < 9223372036854775808) : Gives prog F_group_Check [g.av, p.av] s (.v (.int .i64 (chkG g p))) s := by
  have hl := h.len
  have hMI := MI_eq
  have h0 := (okHead_iff.1 h.hd).2.1
  have hla := lastG_bd h
  refine Runs.gives' (runs_e h_group_Check (Nat.le_of_ble_eq_true rfl) ?_) (.v _)
  have fin : ∀ (e : List (Nat × AV)) (n : Int), Ab.get e 4 = .v (.int .i64 n) → n = chkG g p → fnQ [ARes.tmp 4] (fun x s' => Grows s s' ∧ x.le (.v (.int .i64 (chkG g p)))) .ret { t := den 84 e, d := [] } ((s.alloc (.cells g.cells)).alloc (.cells p.cells)) := fun e n h1 h2 =>
    ret_ok (xs := [.v (.int .i64 n)]) (by simp [evRess, evRes, den, h1]) ⟨((Grows.refl _).alloc _).alloc _, by rw [h2]; exact .refl _⟩
  repeat (first | simp -dsimp -implicitDefEqProofs (disch := first | omega | (simp <;> omega) | fail) | ((with_reducible first | apply m_1 | apply m_0); (focus ((conv => lhs; simp -dsimp -implicitDefEqProofs (disch := first | omega | (simp <;> omega) | fail)); done))) | ((with_reducible first | apply i_T | apply g_T); (focus (simp -dsimp -implicitDefEqProofs (disch := first | omega | (simp <;> omega) | fail); done))) | ((with_reducible first | apply i_F | apply g_F); (focus (simp -dsimp -implicitDefEqProofs (disch := first | omega | (simp <;> omega) | fail); done))))
  refine giv (ct_part_Is (p := p) hp) (by first | (simp; done) | rfl | (simp; rfl)) ?_
  cases hip : isPart p with
  | false =>
    repeat (first | simp -dsimp -implicitDefEqProofs (disch := first | omega | (simp <;> omega) | fail) | ((with_reducible first | apply m_1 | apply m_0); (focus ((conv => lhs; simp -dsimp -implicitDefEqProofs (disch := first | omega | (simp <;> omega) | fail)); done))) | ((with_reducible first | apply i_T | apply g_T); (focus (simp -dsimp -implicitDefEqProofs (disch := first | omega | (simp <;> omega) | fail); done))) | ((with_reducible first | apply i_F | apply g_F); (focus (simp -dsimp -implicitDefEqProofs (disch := first | omega | (simp <;> omega) | fail); done))))
    exact fin _ 11 (by simp) (by unfold chkG; simp [hip])
  | true =>
  by_cases k6 : p.kd = 6
  · repeat (first | simp -dsimp -implicitDefEqProofs (disch := first | omega | (simp <;> omega) | fail) [k6] | ((with_reducible first | apply m_1 | apply m_0); (focus ((conv => lhs; simp -dsimp -implicitDefEqProofs (disch := first | omega | (simp <;> omega) | fail) [k6]); done))) | ((with_reducible first | apply i_T | apply g_T); (focus (simp -dsimp -implicitDefEqProofs (disch := first | omega | (simp <;> omega) | fail) [k6]; done))) | ((with_reducible first | apply i_F | apply g_F); (focus (simp -dsimp -implicitDefEqProofs (disch := first | omega | (simp <;> omega) | fail) [k6]; done))))
    exact fin _ 11 (by simp) (by unfold chkG; simp [k6])
  by_cases k5 : p.kd = 5
  · repeat (first | simp -dsimp -implicitDefEqProofs (disch := first | omega | (simp <;> omega) | fail) [k6, k5] | ((with_reducible first | apply m_1 | apply m_0); (focus ((conv => lhs; simp -dsimp -implicitDefEqProofs (disch := first | omega | (simp <;> omega) | fail) [k6, k5]); done))) | ((with_reducible first | apply i_T | apply g_T); (focus (simp -dsimp -implicitDefEqProofs (disch := first | omega | (simp <;> omega) | fail) [k6, k5]; done))) | ((with_reducible first | apply i_F | apply g_F); (focus (simp -dsimp -implicitDefEqProofs (disch := first | omega | (simp <;> omega) | fail) [k6, k5]; done))))
    exact fin _ 11 (by simp) (by unfold chkG; simp [k5])
  by_cases kg : p.gr = g.id
  case neg =>
    repeat (first | simp -dsimp -implicitDefEqProofs (disch := first | omega | (simp <;> omega) | fail) [k6, k5, kg] | ((with_reducible first | apply m_1 | apply m_0); (focus ((conv => lhs; simp -dsimp -implicitDefEqProofs (disch := first | omega | (simp <;> omega) | fail) [k6, k5, kg]); done))) | ((with_reducible first | apply i_T | apply g_T); (focus (simp -dsimp -implicitDefEqProofs (disch := first | omega | (simp <;> omega) | fail) [k6, k5, kg]; done))) | ((with_reducible first | apply i_F | apply g_F); (focus (simp -dsimp -implicitDefEqProofs (disch := first | omega | (simp <;> omega) | fail) [k6, k5, kg]; done))))
    exact fin _ 11 (by simp) (by unfold chkG; simp [kg])
  have hno : ¬ (isPart p = false ∨ p.kd = 6 ∨ p.kd = 5 ∨ ¬ p.gr = g.id) := by simp [hip, k6, k5, kg]
  unfold chkG at fin ⊢
  rw [if_neg hno] at fin ⊢
  by_cases k1 : p.kd = 1
  · obtain ⟨b1, b2, b3, b4, b5⟩ := firstP_bd hip k1
    have hf : p.es[0].ix = firstP p := by rw [b5, List.getD_eq_getElem?_getD, List.getElem?_eq_getElem b1]; rfl
    have w1 : IntKind.wrap .i64 (firstP p - 1) = firstP p - 1 := wrap_i64 (by omega) (by omega)
    rw [if_pos k1] at fin ⊢
    by_cases c1 : firstP p < g.fi
    · repeat (first | simp -dsimp -implicitDefEqProofs (disch := first | omega | (simp <;> omega) | fail) [k1, k5, k6, kg, b1, hf, c1] | ((with_reducible first | apply m_1 | apply m_0); (focus ((conv => lhs; simp -dsimp -implicitDefEqProofs (disch := first | omega | (simp <;> omega) | fail) [k1, k5, k6, kg, b1, hf, c1]); done))) | ((with_reducible first | apply i_T | apply g_T); (focus (simp -dsimp -implicitDefEqProofs (disch := first | omega | (simp <;> omega) | fail) [k1, k5, k6, kg, b1, hf, c1]; done))) | ((with_reducible first | apply i_F | apply g_F); (focus (simp -dsimp -implicitDefEqProofs (disch := first | omega | (simp <;> omega) | fail) [k1, k5, k6, kg, b1, hf, c1]; done))))
      exact fin _ 15 (by simp) (by rw [if_pos c1])
    · repeat (first | simp -dsimp -implicitDefEqProofs (disch := first | omega | (simp <;> omega) | fail) [k1, k5, k6, kg, b1, hf, c1, w1] | ((with_reducible first | apply m_1 | apply m_0); (focus ((conv => lhs; simp -dsimp -implicitDefEqProofs (disch := first | omega | (simp <;> omega) | fail) [k1, k5, k6, kg, b1, hf, c1, w1]); done))) | ((with_reducible first | apply i_T | apply g_T); (focus (simp -dsimp -implicitDefEqProofs (disch := first | omega | (simp <;> omega) | fail) [k1, k5, k6, kg, b1, hf, c1, w1]; done))) | ((with_reducible first | apply i_F | apply g_F); (focus (simp -dsimp -implicitDefEqProofs (disch := first | omega | (simp <;> omega) | fail) [k1, k5, k6, kg, b1, hf, c1, w1]; done))))
      refine giv (ct_group_Last h) (by first | (simp; done) | rfl | (simp; rfl)) ?_
      by_cases c2 : lastG g < firstP p - 1
      · repeat (first | simp -dsimp -implicitDefEqProofs (disch := first | omega | (simp <;> omega) | fail) [c2] | ((with_reducible first | apply m_1 | apply m_0); (focus ((conv => lhs; simp -dsimp -implicitDefEqProofs (disch := first | omega | (simp <;> omega) | fail) [c2]); done))) | ((with_reducible first | apply i_T | apply g_T); (focus (simp -dsimp -implicitDefEqProofs (disch := first | omega | (simp <;> omega) | fail) [c2]; done))) | ((with_reducible first | apply i_F | apply g_F); (focus (simp -dsimp -implicitDefEqProofs (disch := first | omega | (simp <;> omega) | fail) [c2]; done))))
        exact fin _ 14 (by simp) (by rw [if_neg c1, if_pos c2])
      · repeat (first | simp -dsimp -implicitDefEqProofs (disch := first | omega | (simp <;> omega) | fail) [c2] | ((with_reducible first | apply m_1 | apply m_0); (focus ((conv => lhs; simp -dsimp -implicitDefEqProofs (disch := first | omega | (simp <;> omega) | fail) [c2]); done))) | ((with_reducible first | apply i_T | apply g_T); (focus (simp -dsimp -implicitDefEqProofs (disch := first | omega | (simp <;> omega) | fail) [c2]; done))) | ((with_reducible first | apply i_F | apply g_F); (focus (simp -dsimp -implicitDefEqProofs (disch := first | omega | (simp <;> omega) | fail) [c2]; done))))
        exact fin _ 0 (by simp) (by rw [if_neg c1, if_neg c2])
  rw [if_neg k1] at fin ⊢
  by_cases k3 : p.kd = 3
  · obtain ⟨b1, b2⟩ := mark_bd hip (.inl k3)
    rw [if_pos k3] at fin ⊢
    by_cases c1 : p.ix < g.fi
    · repeat (first | simp -dsimp -implicitDefEqProofs (disch := first | omega | (simp <;> omega) | fail) [k1, k3, k5, k6, kg, c1] | ((with_reducible first | apply m_1 | apply m_0); (focus ((conv => lhs; simp -dsimp -implicitDefEqProofs (disch := first | omega | (simp <;> omega) | fail) [k1, k3, k5, k6, kg, c1]); done))) | ((with_reducible first | apply i_T | apply g_T); (focus (simp -dsimp -implicitDefEqProofs (disch := first | omega | (simp <;> omega) | fail) [k1, k3, k5, k6, kg, c1]; done))) | ((with_reducible first | apply i_F | apply g_F); (focus (simp -dsimp -implicitDefEqProofs (disch := first | omega | (simp <;> omega) | fail) [k1, k3, k5, k6, kg, c1]; done))))
      exact fin _ 15 (by simp) (by rw [if_pos c1])
    · repeat (first | simp -dsimp -implicitDefEqProofs (disch := first | omega | (simp <;> omega) | fail) [k1, k3, k5, k6, kg, c1] | (with_reducible apply m_draw) | ((with_reducible refine ⟨m_op ?_, ?_⟩); (focus (simp -dsimp -implicitDefEqProofs (disch := first | omega | (simp <;> omega) | fail) [k1, k3, k5, k6, kg, c1]; done))) | ((with_reducible first | apply m_d1 rfl | apply m_dE | apply m_dE0); (focus ((conv => lhs; simp -dsimp -implicitDefEqProofs (disch := first | omega | (simp <;> omega) | fail) [k1, k3, k5, k6, kg, c1]); done))) | ((with_reducible first | apply m_1 | apply m_0); (focus ((conv => lhs; simp -dsimp -implicitDefEqProofs (disch := first | omega | (simp <;> omega) | fail) [k1, k3, k5, k6, kg, c1]); done))) | ((with_reducible first | apply i_T | apply g_T | apply h_T); (focus (simp -dsimp -implicitDefEqProofs (disch := first | omega | (simp <;> omega) | fail) [k1, k3, k5, k6, kg, c1]; done))) | ((with_reducible first | apply i_F | apply g_F | apply h_F); (focus (simp -dsimp -implicitDefEqProofs (disch := first | omega | (simp <;> omega) | fail) [k1, k3, k5, k6, kg, c1]; done))))
      refine giv (ct_group_Last h) (by first | (simp; done) | rfl | (simp; rfl)) ?_
      by_cases c2 : lastG g < p.ix
      · repeat (first | simp -dsimp -implicitDefEqProofs (disch := first | omega | (simp <;> omega) | fail) [k3, c2] | (with_reducible apply m_draw) | ((with_reducible refine ⟨m_op ?_, ?_⟩); (focus (simp -dsimp -implicitDefEqProofs (disch := first | omega | (simp <;> omega) | fail) [k3, c2]; done))) | ((with_reducible first | apply m_d1 rfl | apply m_dE | apply m_dE0); (focus ((conv => lhs; simp -dsimp -implicitDefEqProofs (disch := first | omega | (simp <;> omega) | fail) [k3, c2]); done))) | ((with_reducible first | apply m_1 | apply m_0); (focus ((conv => lhs; simp -dsimp -implicitDefEqProofs (disch := first | omega | (simp <;> omega) | fail) [k3, c2]); done))) | ((with_reducible first | apply i_T | apply g_T | apply h_T); (focus (simp -dsimp -implicitDefEqProofs (disch := first | omega | (simp <;> omega) | fail) [k3, c2]; done))) | ((with_reducible first | apply i_F | apply g_F | apply h_F); (focus (simp -dsimp -implicitDefEqProofs (disch := first | omega | (simp <;> omega) | fail) [k3, c2]; done))))
        repeat (first | simp -dsimp -implicitDefEqProofs (disch := first | omega | (simp <;> omega) | fail) | ((with_reducible first | apply m_1 | apply m_0); (focus ((conv => lhs; simp -dsimp -implicitDefEqProofs (disch := first | omega | (simp <;> omega) | fail)); done))) | ((with_reducible first | apply i_T | apply g_T); (focus (simp -dsimp -implicitDefEqProofs (disch := first | omega | (simp <;> omega) | fail); done))) | ((with_reducible first | apply i_F | apply g_F); (focus (simp -dsimp -implicitDefEqProofs (disch := first | omega | (simp <;> omega) | fail); done))))
        exact fin _ 16 (by simp) (by rw [if_neg c1, if_pos c2])
      · repeat (first | simp -dsimp -implicitDefEqProofs (disch := first | omega | (simp <;> omega) | fail) [k3, c2] | (with_reducible apply m_draw) | ((with_reducible refine ⟨m_op ?_, ?_⟩); (focus (simp -dsimp -implicitDefEqProofs (disch := first | omega | (simp <;> omega) | fail) [k3, c2]; done))) | ((with_reducible first | apply m_d1 rfl | apply m_dE | apply m_dE0); (focus ((conv => lhs; simp -dsimp -implicitDefEqProofs (disch := first | omega | (simp <;> omega) | fail) [k3, c2]); done))) | ((with_reducible first | apply m_1 | apply m_0); (focus ((conv => lhs; simp -dsimp -implicitDefEqProofs (disch := first | omega | (simp <;> omega) | fail) [k3, c2]); done))) | ((with_reducible first | apply i_T | apply g_T | apply h_T); (focus (simp -dsimp -implicitDefEqProofs (disch := first | omega | (simp <;> omega) | fail) [k3, c2]; done))) | ((with_reducible first | apply i_F | apply g_F | apply h_F); (focus (simp -dsimp -implicitDefEqProofs (disch := first | omega | (simp <;> omega) | fail) [k3, c2]; done))))
        by_cases c3 : p.tm = 0
        · repeat (first | simp -dsimp -implicitDefEqProofs (disch := first | omega | (simp <;> omega) | fail) [c3] | ((with_reducible first | apply m_1 | apply m_0); (focus ((conv => lhs; simp -dsimp -implicitDefEqProofs (disch := first | omega | (simp <;> omega) | fail) [c3]); done))) | ((with_reducible first | apply i_T | apply g_T); (focus (simp -dsimp -implicitDefEqProofs (disch := first | omega | (simp <;> omega) | fail) [c3]; done))) | ((with_reducible first | apply i_F | apply g_F); (focus (simp -dsimp -implicitDefEqProofs (disch := first | omega | (simp <;> omega) | fail) [c3]; done))))
          exact fin _ 0 (by simp) (by rw [if_neg c1, if_neg c2, if_neg (fun h => h.1 c3)])
        · have c4 : (p.tm != 0) = true := by simpa using c3
          repeat (first | simp -dsimp -implicitDefEqProofs (disch := first | omega | (simp <;> omega) | fail) [c3, c4] | ((with_reducible first | apply m_1 | apply m_0); (focus ((conv => lhs; simp -dsimp -implicitDefEqProofs (disch := first | omega | (simp <;> omega) | fail) [c3, c4]); done))) | ((with_reducible first | apply i_T | apply g_T); (focus (simp -dsimp -implicitDefEqProofs (disch := first | omega | (simp <;> omega) | fail) [c3, c4]; done))) | ((with_reducible first | apply i_F | apply g_F); (focus (simp -dsimp -implicitDefEqProofs (disch := first | omega | (simp <;> omega) | fail) [c3, c4]; done))))
          refine giv (ct_group_fits (g := g) (i := p.ix) (t := p.tm) (by omega) (by omega)) (by first | (simp; done) | rfl | (simp; rfl)) ?_
          revert fin
          cases hft : fitsG g p.ix p.tm with
          | false =>
            intro fin
            repeat (first | simp -dsimp -implicitDefEqProofs (disch := first | omega | (simp <;> omega) | fail) [c4] | ((with_reducible first | apply m_1 | apply m_0); (focus ((conv => lhs; simp -dsimp -implicitDefEqProofs (disch := first | omega | (simp <;> omega) | fail) [c4]); done))) | ((with_reducible first | apply i_T | apply g_T); (focus (simp -dsimp -implicitDefEqProofs (disch := first | omega | (simp <;> omega) | fail) [c4]; done))) | ((with_reducible first | apply i_F | apply g_F); (focus (simp -dsimp -implicitDefEqProofs (disch := first | omega | (simp <;> omega) | fail) [c4]; done))))
            exact fin _ 11 (by simp) (by rw [if_neg c1, if_neg c2, if_pos ⟨c3, rfl⟩])
          | true =>
            intro fin
            repeat (first | simp -dsimp -implicitDefEqProofs (disch := first | omega | (simp <;> omega) | fail) [c4] | ((with_reducible first | apply m_1 | apply m_0); (focus ((conv => lhs; simp -dsimp -implicitDefEqProofs (disch := first | omega | (simp <;> omega) | fail) [c4]); done))) | ((with_reducible first | apply i_T | apply g_T); (focus (simp -dsimp -implicitDefEqProofs (disch := first | omega | (simp <;> omega) | fail) [c4]; done))) | ((with_reducible first | apply i_F | apply g_F); (focus (simp -dsimp -implicitDefEqProofs (disch := first | omega | (simp <;> omega) | fail) [c4]; done))))
            exact fin _ 0 (by simp) (by rw [if_neg c1, if_neg c2, if_neg (fun h => by cases h.2)])
  rw [if_neg k3] at fin ⊢
  by_cases k4 : p.kd = 4
  · obtain ⟨b1, b2⟩ := mark_bd hip (.inr k4)
    rw [if_pos k4] at fin ⊢
    by_cases c1 : p.ix < g.fi
    · refine st7 k1 k3 k4 k5 k6 kg c1 ?_
      exact fin _ 15 (by simp) (by rw [if_pos c1])
    · refine sd7 k1 k3 k4 k5 k6 kg c1 ?_
      refine st0 ?_
      exact fin _ 0 (by simp) (by rw [if_neg c1])
  · rw [if_neg k4] at fin ⊢
    refine st6 k1 k3 k4 k5 k6 kg ?_
    exact fin _ 0 (by simp) rfl
theorem ct_group_gone {g : Grp} {i t : Int} {s : AState} (hl : (g.es.length : Int) * 32 ≤ 140737488355328) (hi : -9223372036854775808 ≤ i ∧ i < 9223372036854775807) :
    Gives prog F_group_gone [g.av, .v (.int .i64 i), .v (.int .i64 t)] s (goneG g i t).av s := by
  refine Runs.gives' (runs_e h_group_gone (Nat.le_of_ble_eq_true rfl) ?_) (Grp.row _).flat
  have w1 : IntKind.wrap .i64 (i + 1) = i + 1 := wrap_i64 (by omega) (by omega)
  have hMI := MI_eq
  have hfl := List.length_filter_le (inR (i + 1) (MI + 1)) g.es
  refine st1 w1 ?_
  refine gv (ct_group_Within (g := g) (lo := i + 1) (hi := 1099511627777)) ?_
  refine st0 ?_
  have e1 : (1099511627777 : Int) = MI + 1 := rfl
  rw [e1]
  refine gv (ct_slices_Collect_Entry (it_group_Within (g := g) (lo := i + 1) (hi := MI + 1) (b1 := s.n + 2) (b2 := s.n + 3) (b3 := s.n + 4) (by omega)) (fun s' h => ⟨(h.get (by simp)).trans (dz0), (h.get (by simp)).trans (dz0), (h.get (by simp)).trans (dz0)⟩) (by omega)) ?_
  refine st1 w1 ?_
  refine ret_ok (by simp; rfl) ⟨?_, ?_⟩
  · repeat (first | exact Grows.refl _ | with_reducible apply Grows.alloc | refine Grows.set ?_ _ (by omega) (by simp; omega))
  · simp [retVal, goneG, Grp.av, Grp.cells]; exact .refl _
end Go.Proofs.Ytmfhchaoijiodaa
end
