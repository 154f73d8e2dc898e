/- Going on. -/
import Derived.Shelf.SlGeneric
import Derived.Ground.GgzProg
import Derived.Ground.SlgmProg
import Derived.Ground.SlmcProg
import Derived.Shelf.SlIterI.Nil
import Derived.Shelf.SlMaps.Clone
import Derived.Shelf.SortM.Plain
import Derived.Shelf.SortM.SortNone
import Derived.Test.YtmpoeamfcienoaaGreatKJT16
section
namespace Go.Proofs
open Go.Shelf
def Tryz.sh_slices_Sorted_int_ren : Go.Shelf.Ren := ⟨fun | 6 => 91 | 8 => 126 | 9 => 127 | 11 => 141 | 13 => 143 | 12 => 142 | 23 => 157 | 24 => 158 | 14 => 148 | 15 => 149 | 16 => 150 | 17 => 151 | 18 => 152 | 19 => 153 | 20 => 154 | 21 => 155 | 22 => 156 | 25 => 160 | 26 => 161 | 27 => 162 | 28 => 163 | 29 => 164 | 30 => 165 | 31 => 166 | n => n, fun | 26 => 3 | 28 => 154 | 24 => 65 | 0 => 0 | 3 => 3 | 37 => 181 | 48 => 194 | 50 => 196 | 4 => 4 | 40 => 186 | 39 => 185 | 45 => 191 | 5 => 5 | 9 => 9 | 51 => 198 | 55 => 202 | 57 => 204 | 58 => 205 | 33 => 72 | n => n, fun | n => n⟩
theorem Tryz.sh_slices_Sorted_int : Go.Proofs.SlLaysZI.n6 Tryz.prog Tryz.sh_slices_Sorted_int_ren := {
  mixed := by kernel_rfl
  f6 := ⟨Tryz.f91.name, by decide, Tryz.func91.trans (congrArg some (by kernel_rfl))⟩
  f8 := ⟨Tryz.f126.name, by decide, Tryz.func126.trans (congrArg some (by kernel_rfl))⟩
  f11 := ⟨Tryz.f141.name, by decide, Tryz.func141.trans (congrArg some (by kernel_rfl))⟩
  t0 := Tryz.underlying0
  a0 := Tryz.isAgg0
  z0 := Tryz.sizeOf0
  v0 := Tryz.zeroValue0
  t24 := Tryz.underlying65
  a24 := Tryz.isAgg65
  z24 := Tryz.sizeOf65
  v24 := Tryz.zeroValue65
  t26 := Tryz.underlying3
  a26 := Tryz.isAgg3
  z26 := Tryz.sizeOf3
  v26 := Tryz.zeroValue3
  t28 := Tryz.underlying154
  a28 := Tryz.isAgg154
  z28 := Tryz.sizeOf154
  v28 := Tryz.zeroValue154
  i26 := by kernel_rfl }
def Tryz.sh_maps_Keys_Log_ren : Go.Shelf.Ren := ⟨fun | 7 => 92 | 10 => 128 | n => n, fun | 23 => 85 | 26 => 3 | 3 => 91 | 28 => 154 | 0 => 0 | 27 => 153 | 33 => 72 | 4 => 4 | n => n, fun | n => n⟩
theorem Tryz.sh_maps_Keys_Log : Go.Proofs.SlLaysZI.n7 Tryz.prog Tryz.sh_maps_Keys_Log_ren := {
  mixed := by kernel_rfl
  f7 := ⟨Tryz.f92.name, by decide, Tryz.func92.trans (congrArg some (by kernel_rfl))⟩
  f10 := ⟨Tryz.f128.name, by decide, Tryz.func128.trans (congrArg some (by kernel_rfl))⟩
  t0 := Tryz.underlying0
  a0 := Tryz.isAgg0
  z0 := Tryz.sizeOf0
  v0 := Tryz.zeroValue0
  t4 := Tryz.underlying4
  a4 := Tryz.isAgg4
  z4 := Tryz.sizeOf4
  v4 := Tryz.zeroValue4
  t23 := Tryz.underlying85
  a23 := Tryz.isAgg85
  z23 := Tryz.sizeOf85
  v23 := Tryz.zeroValue85
  t26 := Tryz.underlying3
  a26 := Tryz.isAgg3
  z26 := Tryz.sizeOf3
  v26 := Tryz.zeroValue3
  t27 := Tryz.underlying153
  a27 := Tryz.isAgg153
  z27 := Tryz.sizeOf153
  v27 := Tryz.zeroValue153
  t28 := Tryz.underlying154
  a28 := Tryz.isAgg154
  z28 := Tryz.sizeOf154
  v28 := Tryz.zeroValue154
  t33 := Tryz.underlying72
  a33 := Tryz.isAgg72
  z33 := Tryz.sizeOf72
  v33 := Tryz.zeroValue72 }
def Tryz.sh_maps_Keys_Place_ren : Go.Shelf.Ren := ⟨fun | 7 => 95 | 10 => 130 | n => n, fun | 23 => 133 | 26 => 3 | 3 => 24 | 28 => 154 | 0 => 0 | 27 => 153 | 33 => 72 | 4 => 4 | n => n, fun | n => n⟩
theorem Tryz.sh_maps_Keys_Place : Go.Proofs.SlLaysZI.n7 Tryz.prog Tryz.sh_maps_Keys_Place_ren := {
  mixed := by kernel_rfl
  f7 := ⟨Tryz.f95.name, by decide, Tryz.func95.trans (congrArg some (by kernel_rfl))⟩
  f10 := ⟨Tryz.f130.name, by decide, Tryz.func130.trans (congrArg some (by kernel_rfl))⟩
  t0 := Tryz.underlying0
  a0 := Tryz.isAgg0
  z0 := Tryz.sizeOf0
  v0 := Tryz.zeroValue0
  t4 := Tryz.underlying4
  a4 := Tryz.isAgg4
  z4 := Tryz.sizeOf4
  v4 := Tryz.zeroValue4
  t23 := Tryz.underlying133
  a23 := Tryz.isAgg133
  z23 := Tryz.sizeOf133
  v23 := Tryz.zeroValue133
  t26 := Tryz.underlying3
  a26 := Tryz.isAgg3
  z26 := Tryz.sizeOf3
  v26 := Tryz.zeroValue3
  t27 := Tryz.underlying153
  a27 := Tryz.isAgg153
  z27 := Tryz.sizeOf153
  v27 := Tryz.zeroValue153
  t28 := Tryz.underlying154
  a28 := Tryz.isAgg154
  z28 := Tryz.sizeOf154
  v28 := Tryz.zeroValue154
  t33 := Tryz.underlying72
  a33 := Tryz.isAgg72
  z33 := Tryz.sizeOf72
  v33 := Tryz.zeroValue72 }
def Tryz.sh_maps_Clone_Place_ren : Go.Shelf.Ren := ⟨fun | 5 => 125 | 7 => 140 | n => n, fun | 23 => 133 | 25 => 3 | 3 => 24 | 4 => 4 | 20 => 20 | n => n, fun | n => n⟩
theorem Tryz.sh_maps_Clone_Place : Go.Proofs.SlLaysW.n5 Tryz.prog Tryz.sh_maps_Clone_Place_ren := {
  mixed := by kernel_rfl
  f5 := ⟨Tryz.f125.name, by decide, Tryz.func125.trans (congrArg some (by kernel_rfl))⟩
  f7 := Tryz.func140.trans (congrArg some (by kernel_rfl))
  t4 := Tryz.underlying4
  a4 := Tryz.isAgg4
  z4 := Tryz.sizeOf4
  v4 := Tryz.zeroValue4
  t20 := Tryz.underlying20
  a20 := Tryz.isAgg20
  z20 := Tryz.sizeOf20
  v20 := Tryz.zeroValue20
  t23 := Tryz.underlying133
  a23 := Tryz.isAgg133
  z23 := Tryz.sizeOf133
  v23 := Tryz.zeroValue133 }
def Tryz.sh_slices_Sort_int_ren : Go.Shelf.Ren := ⟨fun | 5 => 127 | 8 => 143 | 7 => 142 | 19 => 157 | 20 => 158 | 10 => 148 | 11 => 149 | 12 => 150 | 13 => 151 | 14 => 152 | 15 => 153 | 16 => 154 | 17 => 155 | 18 => 156 | 30 => 160 | 31 => 161 | 32 => 162 | 33 => 163 | 34 => 164 | 35 => 165 | 40 => 166 | n => n, fun | 23 => 65 | 25 => 3 | 3 => 3 | 32 => 181 | 22 => 65 | 0 => 0 | 44 => 194 | 46 => 196 | 4 => 4 | 36 => 186 | 35 => 185 | 41 => 191 | 5 => 5 | 9 => 9 | 53 => 198 | 57 => 202 | 63 => 204 | 64 => 205 | n => n, fun | n => n⟩
theorem Tryz.sh_slices_Sort_int : Go.Proofs.SlLaysM.n5 Tryz.prog Tryz.sh_slices_Sort_int_ren := {
  mixed := by kernel_rfl
  f5 := ⟨Tryz.f127.name, by decide, Tryz.func127.trans (congrArg some (by kernel_rfl))⟩
  f7 := ⟨Tryz.f142.name, by decide, Tryz.func142.trans (congrArg some (by kernel_rfl))⟩
  f8 := Tryz.func143.trans (congrArg some (by kernel_rfl))
  f10 := ⟨Tryz.f148.name, by decide, Tryz.func148.trans (congrArg some (by kernel_rfl))⟩
  f11 := ⟨Tryz.f149.name, by decide, Tryz.func149.trans (congrArg some (by kernel_rfl))⟩
  f12 := ⟨Tryz.f150.name, by decide, Tryz.func150.trans (congrArg some (by kernel_rfl))⟩
  f13 := ⟨Tryz.f151.name, by decide, Tryz.func151.trans (congrArg some (by kernel_rfl))⟩
  f14 := ⟨Tryz.f152.name, by decide, Tryz.func152.trans (congrArg some (by kernel_rfl))⟩
  f15 := ⟨Tryz.f153.name, by decide, Tryz.func153.trans (congrArg some (by kernel_rfl))⟩
  f16 := ⟨Tryz.f154.name, by decide, Tryz.func154.trans (congrArg some (by kernel_rfl))⟩
  f17 := ⟨Tryz.f155.name, by decide, Tryz.func155.trans (congrArg some (by kernel_rfl))⟩
  f18 := ⟨Tryz.f156.name, by decide, Tryz.func156.trans (congrArg some (by kernel_rfl))⟩
  f19 := Tryz.func157.trans (congrArg some (by kernel_rfl))
  f20 := Tryz.func158.trans (congrArg some (by kernel_rfl))
  f30 := ⟨Tryz.f160.name, by decide, Tryz.func160.trans (congrArg some (by kernel_rfl))⟩
  f31 := Tryz.func161.trans (congrArg some (by kernel_rfl))
  f32 := Tryz.func162.trans (congrArg some (by kernel_rfl))
  f33 := ⟨Tryz.f163.name, by decide, Tryz.func163.trans (congrArg some (by kernel_rfl))⟩
  f34 := ⟨Tryz.f164.name, by decide, Tryz.func164.trans (congrArg some (by kernel_rfl))⟩
  f35 := ⟨Tryz.f165.name, by decide, Tryz.func165.trans (congrArg some (by kernel_rfl))⟩
  f40 := ⟨Tryz.f166.name, by decide, Tryz.func166.trans (congrArg some (by kernel_rfl))⟩
  t0 := Tryz.underlying0
  a0 := Tryz.isAgg0
  z0 := Tryz.sizeOf0
  v0 := Tryz.zeroValue0
  t3 := Tryz.underlying3
  a3 := Tryz.isAgg3
  z3 := Tryz.sizeOf3
  v3 := Tryz.zeroValue3
  t4 := Tryz.underlying4
  a4 := Tryz.isAgg4
  z4 := Tryz.sizeOf4
  v4 := Tryz.zeroValue4
  t5 := Tryz.underlying5
  a5 := Tryz.isAgg5
  z5 := Tryz.sizeOf5
  v5 := Tryz.zeroValue5
  t9 := Tryz.underlying9
  a9 := Tryz.isAgg9
  z9 := Tryz.sizeOf9
  v9 := Tryz.zeroValue9
  t22 := Tryz.underlying65
  a22 := Tryz.isAgg65
  z22 := Tryz.sizeOf65
  v22 := Tryz.zeroValue65
  t23 := Tryz.underlying65
  a23 := Tryz.isAgg65
  z23 := Tryz.sizeOf65
  v23 := Tryz.zeroValue65
  t25 := Tryz.underlying3
  a25 := Tryz.isAgg3
  z25 := Tryz.sizeOf3
  v25 := Tryz.zeroValue3
  t32 := Tryz.underlying181
  a32 := Tryz.isAgg181
  z32 := Tryz.sizeOf181
  v32 := Tryz.zeroValue181
  t35 := Tryz.underlying185
  a35 := Tryz.isAgg185
  z35 := Tryz.sizeOf185
  v35 := Tryz.zeroValue185
  t36 := Tryz.underlying186
  a36 := Tryz.isAgg186
  z36 := Tryz.sizeOf186
  v36 := Tryz.zeroValue186
  t41 := Tryz.underlying191
  a41 := Tryz.isAgg191
  z41 := Tryz.sizeOf191
  v41 := Tryz.zeroValue191
  t44 := Tryz.underlying194
  a44 := Tryz.isAgg194
  z44 := Tryz.sizeOf194
  v44 := Tryz.zeroValue194
  t46 := Tryz.underlying196
  a46 := Tryz.isAgg196
  z46 := Tryz.sizeOf196
  v46 := Tryz.zeroValue196
  t53 := Tryz.underlying198
  a53 := Tryz.isAgg198
  z53 := Tryz.sizeOf198
  v53 := Tryz.zeroValue198
  t57 := Tryz.underlying202
  a57 := Tryz.isAgg202
  z57 := Tryz.sizeOf202
  v57 := Tryz.zeroValue202
  t63 := Tryz.underlying204
  a63 := Tryz.isAgg204
  z63 := Tryz.sizeOf204
  v63 := Tryz.zeroValue204
  t64 := Tryz.underlying205
  a64 := Tryz.isAgg205
  z64 := Tryz.sizeOf205
  v64 := Tryz.zeroValue205 }
end Go.Proofs
end
section
namespace Go.Proofs.YtmpoeamfcienoaaGreat
open Go.Ab Go.Maps
set_option linter.unusedVariables false
set_option linter.unusedSimpArgs false
set_option maxRecDepth 100000
set_option maxHeartbeats 4000000
theorem sortsI (m : Nat) : AnyZI.SortsIn Tryz.prog Tryz.sh_slices_Sorted_int_ren Fence.wide m :=
  ⟨fun blk off cap ss W hH hblk hsz => callsIn_wide.2 (AnyM.slices_Sort_int Tryz.sh_slices_Sort_int blk off cap ss W hH hblk hsz),
   fun p cap W => callsIn_wide.2 (AnyM.slices_Sort_int_none Tryz.sh_slices_Sort_int p cap W)⟩
theorem ct_sorted_Place {β : Type} {s : AState} {cb b : Nat} {enc : β → AV} {A B : List (Int × β)} (hcb : s.get cb = .cells [.m b]) (hb : s.get b = .map (encM enc A)) (hAB : Rep A B)
    (hw : ∀ x ∈ B, -9223372036854775808 ≤ x.1 ∧ x.1 < 9223372036854775808) (hlen : B.length * 8 ≤ 140737488355328) :
    Gives prog F_slices_Sorted_int [.f (.func F_maps_Keys_Place_1) [] [.p cb 0]] s (.sl ((B.map (·.1)).map fun n => .v (.int .i64 n)) .no) s := by
  refine Runs.sorted (kt := Tryz.sh_maps_Keys_Place_ren.t 26) (T := Tryz.sh_slices_Sorted_int_ren.t 26) (enters_of Tryz.func91 (by kernel_rfl) rfl) hcb hb hAB hw Tryz.sh_maps_Keys_Place.t26 hlen ?_
  intro w Bm r D0 hc hlt hown hsz
  have hseq := AnyZI.keys_gives (ρ := Tryz.sh_maps_Keys_Place_ren) { Tryz.sh_maps_Keys_Place with } Fence.wide 2 trivial rfl (by omega) Bm r _ D0 w hlt hc hown
  have := AnyZI.sorted_in Tryz.sh_slices_Sorted_int Fence.wide 5 trivial trivial trivial trivial rfl (by omega) (sortsI _) (enters_of Tryz.func127 (by kernel_rfl) rfl) F_maps_Keys_Place_1 #[.pointer (some ⟨Bm, 0, none⟩)] trivial (enters_of Tryz.func130 (by kernel_rfl) rfl) _ (Maps.size D0)
    (by have e : maxLen = 9223372036854775807 := rfl; omega) (by omega) w hseq
  exact (callsIn_wide (n := 5)).1 this
theorem ct_maps_Keys_Place {b : Nat} {s : AState} : Gives prog F_maps_Keys_Place [.m b] s (.f (.func F_maps_Keys_Place_1) [] [.p s.n 0]) (s.alloc (.cells [.m b])) := by
  refine runs_e h_maps_Keys_Place (Nat.le_of_ble_eq_true rfl) ?_
  refine st0 ?_
  exact ret_ok rfl ⟨rfl, rfl⟩
theorem ct_sorted_Log {β : Type} {s : AState} {cb b : Nat} {enc : β → AV} {A B : List (Int × β)} (hcb : s.get cb = .cells [.m b]) (hb : s.get b = .map (encM enc A)) (hAB : Rep A B)
    (hw : ∀ x ∈ B, -9223372036854775808 ≤ x.1 ∧ x.1 < 9223372036854775808) (hlen : B.length * 8 ≤ 140737488355328) :
    Gives prog F_slices_Sorted_int [.f (.func F_maps_Keys_Log_1) [] [.p cb 0]] s (.sl ((B.map (·.1)).map fun n => .v (.int .i64 n)) .no) s := by
  refine Runs.sorted (kt := Tryz.sh_maps_Keys_Log_ren.t 26) (T := Tryz.sh_slices_Sorted_int_ren.t 26) (enters_of Tryz.func91 (by kernel_rfl) rfl) hcb hb hAB hw Tryz.sh_maps_Keys_Log.t26 hlen ?_
  intro w Bm r D0 hc hlt hown hsz
  have hseq := AnyZI.keys_gives (ρ := Tryz.sh_maps_Keys_Log_ren) { Tryz.sh_maps_Keys_Log with } Fence.wide 2 trivial rfl (by omega) Bm r _ D0 w hlt hc hown
  have := AnyZI.sorted_in Tryz.sh_slices_Sorted_int Fence.wide 5 trivial trivial trivial trivial rfl (by omega) (sortsI _) (enters_of Tryz.func127 (by kernel_rfl) rfl) F_maps_Keys_Log_1 #[.pointer (some ⟨Bm, 0, none⟩)] trivial (enters_of Tryz.func128 (by kernel_rfl) rfl) _ (Maps.size D0)
    (by have e : maxLen = 9223372036854775807 := rfl; omega) (by omega) w hseq
  exact (callsIn_wide (n := 5)).1 this
theorem ct_maps_Keys_Log {b : Nat} {s : AState} : Gives prog F_maps_Keys_Log [.m b] s (.f (.func F_maps_Keys_Log_1) [] [.p s.n 0]) (s.alloc (.cells [.m b])) := by
  refine runs_e h_maps_Keys_Log (Nat.le_of_ble_eq_true rfl) ?_
  refine st0 ?_
  exact ret_ok rfl ⟨rfl, rfl⟩
theorem ct_maps_Clone_Place {κ β : Type} [DecidableEq κ] [KE κ] {s : AState} {b : Nat} {enc : β → AV} {A : List (κ × β)} (hb : s.get b = .map (encM enc A)) : Gives prog F_maps_Clone_Place [.m b] s (.m s.n) (s.alloc (.map (encM enc A))) :=
  Runs.clone (enters_of Tryz.func125 (by kernel_rfl) rfl) hb fun w r es clock h => AnyW.maps_Clone Tryz.sh_maps_Clone_Place r es clock w h
theorem ct_slices_Clone_Entry {es : List Ent} {s : AState} (hlen : es.length * 32 ≤ 140737488355328) : Gives prog F_slices_Clone_Entry [.sl (es.map Ent.av) .no] s (.sl (es.map Ent.av) .no) s := by
  refine Runs.gives' (runs_e h_slices_Clone_Entry (Nat.le_of_ble_eq_true rfl) ?_) (flat_sl Ent.row _)
  refine st0 ?_
  refine i_N (fun hne => ?_) (fun hne b => ?_)
  · refine st0 ?_
    refine m_app (xs := []) (tk := .zero) (B := s) (N := s.n) (by simp) (by simp; exact ⟨rfl, rfl⟩) (Grows.refl s) (Nat.le_refl _) (Nat.le_refl _) trivial (by simp) (by simp) (by simp; omega) (by simp; omega) ?_
    intro s' tk2 hg hm _ _
    refine st0 ?_
    exact ret_ok rfl ⟨hg, by simpa using AV.le_no _ _⟩
  · have : es = [] := by simpa using hne
    subst this
    cases b
    · refine st0 ?_
      exact ret_ok rfl ⟨Grows.refl _, AV.le_no _ _⟩
    · refine st0 ?_
      exact ret_ok rfl ⟨Grows.refl _, AV.le_no _ _⟩
end Go.Proofs.YtmpoeamfcienoaaGreat
end
section
namespace Go.Proofs.YtmpoeamfcienoaaGreat
open Go.Ab
set_option linter.unusedVariables false
set_option linter.unusedSimpArgs false
set_option maxRecDepth 100000
set_option maxHeartbeats 4000000
def Ones (xs : List AV) : Prop := ∀ x ∈ xs, x.cells = [x] ∧ x.one = true ∧ x.strip = x
theorem Ones.ints {k : IntKind} (l : List Int) : Ones (l.map fun n => .v (.int k n)) := by intro x hx; obtain ⟨n, _, rfl⟩ := List.mem_map.1 hx; exact ⟨rfl, rfl, rfl⟩
theorem Ones.ptrs (l : List Nat) : Ones (l.map fun n => .p n 0) := by intro x hx; obtain ⟨n, _, rfl⟩ := List.mem_map.1 hx; exact ⟨rfl, rfl, rfl⟩
theorem ct_slices_Values_int {xs : List AV} {s : AState} : Gives prog F_slices_Values_int [.sl xs .no] s (.f (.func F_slices_Values_int_1) [] [.p s.n 0]) (s.alloc (.cells [.sl xs .no])) := by
  refine runs_e h_slices_Values_int (Nat.le_of_ble_eq_true rfl) ?_
  refine st0 ?_
  exact ret_ok rfl ⟨rfl, rfl⟩
theorem it_slices_Values_int (xs : List AV) (hx : Ones xs) (b : Nat) (hlen : xs.length < 9223372036854775808) : Iter prog F_slices_Values_int_1 [] [.p b 0] (xs.map fun e => [e]) (fun s => s.get b = .cells [.sl xs .no]) := by
  intro l s I J hp ha hj hy h0
  refine runs_e h_slices_Values_int_1 (Nat.le_of_ble_eq_true rfl) ?_
  refine st1 (hp 0 s h0) ?_
  refine loop_ok [0, 5, 6, 7] (fun m a s1 => ∃ j : Nat, j + m = xs.length ∧ I j s1 ∧ a = { t := den 16 [(0, .y l), (5, .sl xs .no), (6, .v (.int .i64 xs.length)), (7, .v (.int .i64 j))], d := [] }) xs.length ?_ ?_
  · exact ⟨0, by simp, h0, by simp⟩
  · rintro m a s1 ⟨j, hjm, hI, rfl⟩
    by_cases hlt : j < xs.length
    · have hw : IntKind.wrap .i64 ((j : Int) + 1) = ((j + 1 : Nat) : Int) := by rw [wrap_i64 (by omega) (by omega)]; omega
      obtain ⟨hc, ho, _⟩ := hx _ (List.getElem_mem hlt)
      refine st3 hlt hc ho ?_
      have hy' := hy j (by simpa using hlt) _ hI
      simp only [List.getElem_map] at hy'
      refine yr0 (hy') ?_
      rintro _ s2 (⟨rfl, hI2⟩ | ⟨rfl, hJ⟩)
      · refine st1 hw ?_
        exact ⟨m - 1, by omega, j + 1, by omega, hI2, by simp⟩
      · refine st0 ?_
        exact ret_ok rfl (.inr hJ)
    · refine st1 hlt ?_
      have : j = xs.length := by omega
      subst this
      exact end_ok rfl (.inl (by simpa using hI))
theorem ct_slices_Values_Ledger {xs : List AV} {s : AState} : Gives prog F_slices_Values_Ledger [.sl xs .no] s (.f (.func F_slices_Values_Ledger_1) [] [.p s.n 0]) (s.alloc (.cells [.sl xs .no])) := by
  refine runs_e h_slices_Values_Ledger (Nat.le_of_ble_eq_true rfl) ?_
  refine st0 ?_
  exact ret_ok rfl ⟨rfl, rfl⟩
theorem it_slices_Values_Ledger (xs : List AV) (hx : Ones xs) (b : Nat) (hlen : xs.length < 9223372036854775808) : Iter prog F_slices_Values_Ledger_1 [] [.p b 0] (xs.map fun e => [e]) (fun s => s.get b = .cells [.sl xs .no]) := by
  intro l s I J hp ha hj hy h0
  refine runs_e h_slices_Values_Ledger_1 (Nat.le_of_ble_eq_true rfl) ?_
  refine st1 (hp 0 s h0) ?_
  refine loop_ok [0, 5, 6, 7] (fun m a s1 => ∃ j : Nat, j + m = xs.length ∧ I j s1 ∧ a = { t := den 16 [(0, .y l), (5, .sl xs .no), (6, .v (.int .i64 xs.length)), (7, .v (.int .i64 j))], d := [] }) xs.length ?_ ?_
  · exact ⟨0, by simp, h0, by simp⟩
  · rintro m a s1 ⟨j, hjm, hI, rfl⟩
    by_cases hlt : j < xs.length
    · have hw : IntKind.wrap .i64 ((j : Int) + 1) = ((j + 1 : Nat) : Int) := by rw [wrap_i64 (by omega) (by omega)]; omega
      obtain ⟨hc, ho, _⟩ := hx _ (List.getElem_mem hlt)
      refine st3 hlt hc ho ?_
      have hy' := hy j (by simpa using hlt) _ hI
      simp only [List.getElem_map] at hy'
      refine yr0 (hy') ?_
      rintro _ s2 (⟨rfl, hI2⟩ | ⟨rfl, hJ⟩)
      · refine st1 hw ?_
        exact ⟨m - 1, by omega, j + 1, by omega, hI2, by simp⟩
      · refine st0 ?_
        exact ret_ok rfl (.inr hJ)
    · refine st1 hlt ?_
      have : j = xs.length := by omega
      subst this
      exact end_ok rfl (.inl (by simpa using hI))
end Go.Proofs.YtmpoeamfcienoaaGreat
end
section
namespace Go.Ab
def spotsL (v : LogV) : List Spt := v.sp.map fun x => ⟨v.g.id, x.1, x.2.sg, x.2.at_⟩
end Go.Ab
namespace Go.Proofs.YtmpoeamfcienoaaGreat
open Go.Ab
set_option linter.unusedVariables false
set_option linter.unusedSimpArgs false
set_option maxRecDepth 100000
set_option maxHeartbeats 8000000
theorem ct_place_Log_Group {lb : Nat} {v : LogV} {F : List Nat} {s : AState} (hL : LogAt s lb v F) (hl : v.g.es.length * 32 ≤ 140737488355328) : Gives prog F_place_Log_Group [.p lb 0] s v.g.av s := by
  have hlt := hL.lt
  obtain ⟨tk, mb, A, rfl, h1, h2, h3⟩ := hL
  have hlb : lb < s.n := hlt lb (by simp)
  unfold logC at h1
  refine Runs.gives' (runs_e h_place_Log_Group (Nat.le_of_ble_eq_true rfl) ?_) (Grp.row _).flat
  refine st1 h1 ?_
  refine gv (ct_slices_Clone_Entry (es := v.g.es) hl) ?_
  refine st0 ?_
  exact ret_ok (by simp; rfl) ⟨((Grows.refl _).alloc _).alloc _, (AV.le_strip _).trans (by simp [Grp.av, Grp.cells, retVal]; exact .refl _)⟩
theorem rn_place_Log_Copy {lb : Nat} {v : LogV} {F : List Nat} {s : AState} (hL : LogAt s lb v F) :
    Runs (compCode prog) prog F_place_Log_Copy [.p lb 0] s (fun x s' => ∃ lb' F', x = .p lb' 0 ∧ LogAt s' lb' v F' ∧ Grows s s' ∧ ∀ x ∈ F', s.n ≤ x) := by
  have hlt := hL.lt
  obtain ⟨tk, mb, A, rfl, h1, h2, h3⟩ := hL
  have hlb : lb < s.n := hlt lb (by simp)
  unfold logC at h1
  refine runs_e h_place_Log_Copy (Nat.le_of_ble_eq_true rfl) ?_
  refine sd1 h1 ?_
  refine gv (ct_maps_Clone_Place h2) ?_
  refine ⟨m_ext (AState.ext_alloc _ _), ?_⟩
  refine sd1 h1 ?_
  refine ret_ok rfl ⟨s.n + 1, [s.n + 1, s.n], rfl, ⟨tk, s.n, A, rfl, ?_, ?_, h3⟩, ((Grows.refl s).alloc _).alloc _, by simp⟩
  · simp [logC]
  · simp (disch := first | omega | (simp <;> omega) | fail)
theorem ct_place_Log_Spots {lb : Nat} {v : LogV} {F : List Nat} {s : AState} (hL : LogAt s lb v F) (hk : ∀ x ∈ v.sp, -9223372036854775808 ≤ x.1 ∧ x.1 < 9223372036854775808) (hlen : v.sp.length * 32 ≤ 140737488355328) :
    Gives prog F_place_Log_Spots [.p lb 0] s (.sl ((spotsL v).map Spt.av) .no) s := by
  have hlt := hL.lt
  obtain ⟨tk, mb, A, rfl, h1, h2, h3⟩ := hL
  have hlb : lb < s.n := hlt lb (by simp)
  have hmb : mb < s.n := hlt mb (by simp)
  unfold logC at h1
  refine Runs.gives' (runs_e h_place_Log_Spots (Nat.le_of_ble_eq_true rfl) ?_) (flat_sl Spt.row _)
  refine st1 h1 ?_
  refine gv (ct_maps_Keys_Place) ?_
  refine st0 ?_
  refine giv (ct_sorted_Place (cb := s.n + 1 + 1) (b := mb) (enc := Plc.av) (A := A) (B := v.sp) (dz0) (dz1 h2) h3 hk (by omega)) (by simp) ?_
  refine st0 ?_
  refine gv (ct_slices_Values_int (xs := (v.sp.map (·.1)).map fun n => .v (.int .i64 n))) ?_
  refine st0 ?_
  have hit := it_slices_Values_int ((v.sp.map (·.1)).map fun n => .v (.int .i64 n)) (.ints _) (s.n + 1 + 1 + 1) (by simp; omega)
  refine w_rangeG (α := Tok) (β := Unit) (m := v.sp.length) (by simp) hit (by intro x hx; obtain ⟨p, _, rfl⟩ := List.mem_map.1 hx; rfl) (by simp) (fun k tk => (((s.alloc (.cells [.p lb 0])).alloc (.cells [.sl (((spotsL v).map Spt.av).take k) tk])).alloc (.cells [.m mb])).alloc (.cells [.sl ((v.sp.map (·.1)).map fun n => .v (.int .i64 n)) .no]))
    (fun k tk s' => May (s.n + 6) s' (((spotsL v).map Spt.av).take k) tk) (fun _ _ => s) (fun _ _ _ => False) .zero (by simp) (fun s' h => trivial) ?_ (fun k a s' o h => h.alloc o) (fun _ _ _ _ h => h) ?_ ?_ (fun _ _ _ _ _ h => h.elim)
  · intro k a s' _ h1 hg
    refine (hg.get (by simp)).trans ?_
    exact get_alloc_eq (by simp)
  · rintro LR LB LJ _ k hkk tk1 g' h1' hm
    have hk' : k < v.sp.length := by simpa using hkk
    have hTk : ((spotsL v).map Spt.av).take (k + 1) = ((spotsL v).map Spt.av).take k ++ [Spt.av ⟨v.g.id, v.sp[k].1, v.sp[k].2.sg, v.sp[k].2.at_⟩] := by
      have hk2 : k < (spotsL v).length := by simpa [spotsL] using hk'
      rw [take_snoc hk2]; simp [spotsL]
    refine st1 h1 ?_
    refine m_look (κ := Int) (A := A) (k := v.sp[k].1) (b := mb) (enc := Plc.av) (by simp) (dz1 h2) (by simp; rfl) ?_
    have hlk : lk A v.sp[k].1 = some v.sp[k].2 := by rw [h3.lk]; exact h3.srt.lk_mem (List.getElem_mem hk')
    have hlv : lkV Plc.av A v.sp[k].1 (.agg [.v (.int .i64 0), .v (.int .i64 0)]) false = v.sp[k].2.av := by unfold lkV; rw [hlk]; rfl
    rw [hlv]
    have hlS : (spotsL v).length = v.sp.length := by simp [spotsL]
    repeat (first | simp -dsimp -implicitDefEqProofs (disch := first | omega | (simp <;> omega) | fail) [Plc.cells] | ((with_reducible first | apply m_1 | apply m_0); (focus ((conv => lhs; simp -dsimp -implicitDefEqProofs (disch := first | omega | (simp <;> omega) | fail) [Plc.cells]); done))) | ((with_reducible first | apply i_T | apply g_T); (focus (simp -dsimp -implicitDefEqProofs (disch := first | omega | (simp <;> omega) | fail) [Plc.cells]; done))) | ((with_reducible first | apply i_F | apply g_F); (focus (simp -dsimp -implicitDefEqProofs (disch := first | omega | (simp <;> omega) | fail) [Plc.cells]; done))))
    refine m_app (xs := ((spotsL v).map Spt.av).take k) (tk := tk1) (ys := [Spt.av ⟨v.g.id, v.sp[k].1, v.sp[k].2.sg, v.sp[k].2.at_⟩]) (t2 := .zero) (B := _) (N := s.n + 6)
      (by simp) (by simp; rfl) ⟨g', rfl⟩ (by simp) (by simp) (hm.swap (by simp) (by simp)) (by rw [← List.map_take]; exact head_map Spt.row _) (by simp) (by simp; omega) (by simp; omega) ?_
    rintro s' tk2 hg2 hm2 _ _
    obtain ⟨g2, rfl⟩ := hg2
    refine st0 ?_
    refine ⟨tk2, by simp, ?_, ?_⟩
    · rw [hTk]; simp; exact ⟨_, rfl⟩
    · rw [hTk]; exact (by simpa using hm2 : May _ _ _ _).swap (by simp) (by simp)
  · rintro LR tk1 g2 h1' hm
    rw [List.take_of_length_le (by simp [spotsL])] at *
    refine st0 ?_
    refine ret_okD (by simp) (by simp) (by simp; rfl) ⟨?_, by simp [retVal]; exact AV.le_no _ _⟩
    simp only [killAll, List.foldl]
    simp
    exact (((((Grows.refl s).alloc _).alloc _).alloc _).alloc _).alloc _ |>.alloc _ |>.allocs _
end Go.Proofs.YtmpoeamfcienoaaGreat
end
section
namespace Go.Proofs.YtmpoeamfcienoaaGreat
open Go.Ab
set_option linter.unusedVariables false
set_option linter.unusedSimpArgs false
set_option maxRecDepth 100000
set_option maxHeartbeats 8000000
theorem rn_ledger_New {s : AState} : Runs (compCode prog) prog F_ledger_New [] s (fun x s' => ∃ b F, x = .p b 0 ∧ LedAt s' b [] F ∧ Grows s s' ∧ ∀ x ∈ F, s.n ≤ x) := by
  refine runs_e h_ledger_New (Nat.le_of_ble_eq_true rfl) ?_
  refine st0 ?_
  refine ret_ok rfl ⟨s.n + 1, [s.n + 1, s.n], rfl, ⟨s.n, [], [], [], rfl, by simp, ?_, .nil, rfl, by simp⟩, ((Grows.refl s).alloc _).alloc _, by simp⟩
  simp (disch := first | omega | (simp <;> omega) | fail)
theorem ct_ledger_Ledger_logs {b : Nat} {s : AState} : Gives prog F_ledger_Ledger_logs [.p b 0] s (.f (.func F_ledger_Ledger_logs_1) [] [.p s.n 0]) (s.alloc (.cells [.p b 0])) := by
  refine runs_e h_ledger_Ledger_logs (Nat.le_of_ble_eq_true rfl) ?_
  refine st0 ?_
  exact ret_ok rfl ⟨rfl, rfl⟩
def pairA (B : List (Int × Nat)) : List (List AV) := B.map fun x => [.v (.int .i64 x.1), .p x.2 0]
def LogsPre (cb b mb : Nat) (A : List (Int × Nat)) (s : AState) : Prop := s.get cb = .cells [.p b 0] ∧ s.get b = .cells [.m mb] ∧ s.get mb = .map (encM ptr A)
theorem it_ledger_Ledger_logs {cb b mb : Nat} {A B : List (Int × Nat)} (hAB : Rep A B) (hw : ∀ x ∈ B, -9223372036854775808 ≤ x.1 ∧ x.1 < 9223372036854775808) (hlen : B.length * 8 ≤ 140737488355328) :
    Iter prog F_ledger_Ledger_logs_1 [] [.p cb 0] (pairA B) (LogsPre cb b mb A) := by
  intro l s I J hp ha hj hy h0
  refine runs_e h_ledger_Ledger_logs_1 (Nat.le_of_ble_eq_true rfl) ?_
  obtain ⟨p1, p2, p3⟩ := hp 0 s h0
  have l1 := AState.lt_of_get p1 (by simp)
  have l2 := AState.lt_of_get p2 (by simp)
  have l3 := AState.lt_of_get p3 (by simp)
  refine st2 p1 p2 ?_
  refine gv (ct_maps_Keys_Log) ?_
  refine st0 ?_
  refine giv (ct_sorted_Log (cb := s.n) (b := mb) (enc := ptr) (A := A) (B := B) (by simp) (dz1 p3) hAB hw hlen) (by simp) ?_
  have h1 := ha _ _ (.cells [.m mb]) h0
  generalize s.alloc (.cells [.m mb]) = s at h1 ⊢
  refine st0 ?_
  refine loop_ok [0, 1, 10, 11, 12] (fun m a s1 => ∃ j : Nat, j + m = B.length ∧ I j s1 ∧ a = { t := den 27 [(0, .y l), (1, .p cb 0), (10, .sl ((B.map (·.1)).map fun n => .v (.int .i64 n)) .no), (11, .v (.int .i64 B.length)), (12, .v (.int .i64 j))], d := [] }) B.length ?_ ?_
  · exact ⟨0, by simp, h1, by simp⟩
  · rintro m a s1 ⟨j, hjm, hI, rfl⟩
    obtain ⟨p1, p2, p3⟩ := hp j s1 hI
    by_cases hlt : j < B.length
    · have hw : IntKind.wrap .i64 ((j : Int) + 1) = ((j + 1 : Nat) : Int) := by rw [wrap_i64 (by omega) (by omega)]; omega
      repeat (first | simp -dsimp -implicitDefEqProofs (disch := first | omega | (simp <;> omega) | fail) [hlt, p1, p2] | ((with_reducible first | apply m_1 | apply m_0); (focus ((conv => lhs; simp -dsimp -implicitDefEqProofs (disch := first | omega | (simp <;> omega) | fail) [hlt, p1, p2]); done))) | ((with_reducible first | apply i_T | apply g_T); (focus (simp -dsimp -implicitDefEqProofs (disch := first | omega | (simp <;> omega) | fail) [hlt, p1, p2]; done))) | ((with_reducible first | apply i_F | apply g_F); (focus (simp -dsimp -implicitDefEqProofs (disch := first | omega | (simp <;> omega) | fail) [hlt, p1, p2]; done))))
      refine m_look (κ := Int) (A := A) (k := B[j].1) (b := mb) (enc := ptr) (by simp) p3 (by simp; rfl) ?_
      have hlk : lk A B[j].1 = some B[j].2 := by rw [hAB.lk]; exact hAB.srt.lk_mem (List.getElem_mem hlt)
      have hlv : lkV ptr A B[j].1 (.v (.pointer none)) false = .p B[j].2 0 := by unfold lkV; rw [hlk]; rfl
      rw [hlv]
      refine st0 ?_
      have hy' := hy j (by simpa [pairA] using hlt) _ hI
      simp only [pairA, List.getElem_map] at hy'
      refine yr0 (hy') ?_
      rintro _ s2 (⟨rfl, hI2⟩ | ⟨rfl, hJ⟩)
      · refine st1 hw ?_
        exact ⟨m - 1, by omega, j + 1, by omega, hI2, by simp⟩
      · refine st0 ?_
        exact ret_ok rfl (.inr hJ)
    · refine st1 hlt ?_
      have : j = B.length := by omega
      subst this
      exact end_ok rfl (.inl (by simpa [pairA] using hI))
end Go.Proofs.YtmpoeamfcienoaaGreat
end
section
namespace Go.Ab
def GOk (M : List (Int × LogV)) : Prop := ∀ x ∈ M, Spar x.2.g
theorem GOk.doP {M : List (Int × LogV)} (h : GOk M) (at_ : Plc) (p : Prt) : GOk (doP at_ M p) := by
  unfold Ab.doP
  split
  · next hp =>
    split
    · intro x hx; exact h x (List.mem_filter.1 hx).1
    · intro x hx
      rcases put_mem hx with rfl | hx
      · refine logDo_spar ?_ p at_
        cases hl : lk M p.gr with
        | none =>
          refine newG_spar ?_
          simp only [isPart, Bool.and_eq_true] at hp
          have := hp.1.1
          simpa [btw] using this
        | some v => exact h _ (lk_mem hl)
      · exact h x hx
  · exact h
theorem GOk.doL {M : List (Int × LogV)} (h : GOk M) (l : List Prt) (at_ : Plc) : GOk (doL M l at_) := by
  unfold Ab.doL
  induction l generalizing M with
  | nil => exact h
  | cons p l ih => exact ih (h.doP at_ p)
theorem doL_snoc {M : List (Int × LogV)} {l : List Prt} {at_ : Plc} {k : Nat} (h : k < l.length) : doL M (l.take (k + 1)) at_ = doP at_ (doL M (l.take k) at_) l[k] := by
  unfold doL; rw [List.take_succ_eq_append_getElem h, List.foldl_append]; rfl
structure DoI (s : AState) (b : Nat) (M : List (Int × LogV)) (F : List Nat) (l : List Prt) (at_ : Plc) (s' : AState) : Prop where
  b1 : s'.get s.n = .cells [.p b 0]
  b2 : s'.get (s.n + 1) = .cells at_.cells
  b3 : s'.get (s.n + 2) = .cells [.sl (l.map Prt.av) .no]
  n : s.n + 5 ≤ s'.n
  led : ∃ F', LedAt s' b M F' ∧ Mut F F' s s' ∧ ∀ x ∈ F', x < s.n ∨ s.n + 5 ≤ x
theorem DoI.keep {s : AState} {b : Nat} {M : List (Int × LogV)} {F : List Nat} {l : List Prt} {at_ : Plc} {s' s2 : AState} (h : DoI s b M F l at_ s') (hn : s'.n ≤ s2.n) (hk : ∀ x, x < s'.n → x ≠ s.n + 4 → s2.get x = s'.get x) : DoI s b M F l at_ s2 := by
  obtain ⟨h1, h2, h3, h4, F', h5, h6, h7⟩ := h
  have hF := h5.lt
  refine ⟨by rw [hk _ (by omega) (by omega)]; exact h1, by rw [hk _ (by omega) (by omega)]; exact h2, by rw [hk _ (by omega) (by omega)]; exact h3, by omega, F', h5.keep fun x hx => hk x (hF x hx) (by have := h7 x hx; omega), ⟨by have := h6.n; omega, fun x hx hn => (hk x (by have := h6.n; omega) (by omega)).trans (h6.keep x hx hn), h6.own⟩, h7⟩
end Go.Ab
namespace Go.Proofs.YtmpoeamfcienoaaGreat
open Go.Ab
set_option linter.unusedVariables false
set_option linter.unusedSimpArgs false
set_option maxRecDepth 100000
set_option maxHeartbeats 8000000
theorem rn_ledger_Ledger_Do {b : Nat} {M : List (Int × LogV)} {F : List Nat} {l : List Prt} {at_ : Plc} {s : AState} (hL : LedAt s b M F) (hM : GOk M) (hl : (l.length : Int) < 9223372036854775808) (he : ∀ p ∈ l, (p.es.length : Int) < 9223372036854775808) :
    Runs (compCode prog) prog F_ledger_Ledger_Do [.p b 0, .sl (l.map Prt.av) .no, at_.av] s (fun _ s' => ∃ F', LedAt s' b (doL M l at_) F' ∧ Mut F F' s s') := by
  have hlt := hL.lt
  have hb : b < s.n := hlt b hL.mem
  refine runs_e h_ledger_Ledger_Do (Nat.le_of_ble_eq_true rfl) ?_
  refine st0 ?_
  refine gv (ct_slices_Values_Part (xs := l.map Prt.av)) ?_
  refine st0 ?_
  have hit := it_slices_Values_Part l (s.n + 1 + 1) (by omega)
  refine w_rangeS (m := l.length) (by simp) hit (by intro x hx; obtain ⟨p, _, rfl⟩ := List.mem_map.1 hx; rfl) (by simp) (fun k s' => DoI s b (doL M (l.take k) at_) F l at_ s') (fun _ _ => False) ?_ ?_ ?_ ?_ ?_ ?_ ?_
  · intro LR
    refine ⟨dz0, dz0, dz0, by simp, F, hL.keep fun x hx => by have := hlt x hx; simp (disch := first | omega | (simp <;> omega) | fail), .grows ?_, fun x hx => .inl (hlt x hx)⟩
    exact (((((Grows.refl s).alloc _).alloc _).alloc _).alloc _).alloc _
  · intro k s' h; exact h.b3
  · intro k s' o hn h
    exact h.keep (by simp) fun x hx _ => get_alloc_ne (by omega)
  · intro j s' o hn h; exact h
  · intro LR LB LJ hLB hLR k hk s' hd hLL hln hI
    have hk' : k < l.length := by simpa using hk
    have hsn : (((s.alloc (.cells [.p b 0])).alloc (.cells at_.cells)).alloc (.cells [.sl (l.map Prt.av) .no])).n = s.n + 3 := by simp
    have hGk := hM.doL (l.take k) at_
    rw [doL_snoc hk']
    generalize doL M (l.take k) at_ = M1 at hI hGk ⊢
    have hpe := he _ (List.getElem_mem hk')
    simp only [List.getElem_map] at *
    generalize l[k] = p at hpe ⊢
    have hI2 := hI
    obtain ⟨h1, h2, h3, h4, F', h5, h6, h7⟩ := hI
    simp only [hsn] at *
    refine st3 h1 h2 hLL ?_
    have k1 : DoI s b M1 F l at_ ((s'.set (s.n + 4) LB).alloc (.cells p.cells)) := hI2.keep (by simp) fun x hx hn => dz1 hn
    have k2 : ((s'.set (s.n + 4) LB).alloc (.cells p.cells)).get (s.n + 4) = LB := dz0
    have k3 : ((s'.set (s.n + 4) LB).alloc (.cells p.cells)).get s'.n = .cells p.cells := by simp
    have k4 : ((s'.set (s.n + 4) LB).alloc (.cells p.cells)).get (s.n + 3) = .defd := by simp (disch := first | omega | (simp <;> omega) | fail) [hd]
    have k5 : ((s'.set (s.n + 4) LB).alloc (.cells p.cells)).n = s'.n + 1 := by simp
    have hsl : s.n + 5 ≤ s'.n := h4
    generalize s'.n = n6 at k3 k5 hsl ⊢
    generalize (s'.set (s.n + 4) LB).alloc (.cells p.cells) = s1 at k1 k2 k3 k4 k5 ⊢
    clear hI2 h1 h2 h3 h4 h5 h6 h7 hd hLL hln
    have close : ∀ s2, s2.get (s.n + 3) = .defd → DoI s b (doP at_ M1 p) F l at_ s2 → Lfi (FinS (some (s.n + 3)) (s.n + 3 + 1) LR LJ (DoI s b (doP at_ M1 p) F l at_) fun _ _ => False) none (s2.set (s.n + 3 + 1) LR) .a := fun s2 g1 g2 => by
      have := g2.n
      exact fins_n (fun d hd => by cases hd; simp (disch := first | omega | (simp <;> omega) | fail) [g1]) (dz0) (g2.keep (by simp) fun x hx hn => dz1 hn)
    obtain ⟨h1, h2, h3, h4, F1, h5, h6, h7⟩ := k1
    have hF1 := h5.lt
    refine gv (ct_part_Is (p := p) hpe) ?_
    cases hp : isPart p with
    | false =>
      refine st2 hp k2 ?_
      refine close s1 k4 ?_
      have : doP at_ M1 p = M1 := by unfold doP; rw [hp]; rfl
      rw [this]
      exact ⟨h1, h2, h3, h4, F1, h5, h6, h7⟩
    | true =>
      have h5' := h5
      obtain ⟨mb, A, B, G, rfl, e1, e2, e3, e4, e5⟩ := h5
      have hb1 : b < s1.n := hF1 b (by simp)
      have hmb1 : mb < s1.n := hF1 mb (by simp)
      have hmb2 : mb < s.n ∨ s.n + 5 ≤ mb := h7 mb (by simp)
      by_cases hk5 : p.kd = 5
      · have hdo : doP at_ M1 p = delL M1 p.gr := by unfold doP; rw [hp, if_pos hk5]; rfl
        refine st5 hp k3 hk5 h1 e1 ?_
        refine m_mdel0 (κ := Int) (A := A) (k := p.gr) (b := mb) (enc := ptr) (by simp) e2 (by simp; rfl) ?_
        have hne : mb ≠ s.n + 4 := by omega
        refine st2 k2 hne ?_
        obtain ⟨G', q1, q2⟩ := e4.drop p.gr (List.nodup_cons.1 (List.nodup_cons.1 e5).2).2
        refine close _ (dz1 k4) ?_
        rw [hdo]
        have hmbG : mb ∉ G := (List.nodup_cons.1 (List.nodup_cons.1 e5).2).1
        have hbmb : b ≠ mb := fun e => (List.nodup_cons.1 e5).1 (by simp [e])
        have hin : ∀ x ∈ b :: mb :: G', x ∈ b :: mb :: G := fun x hx => by
          rcases List.mem_cons.1 hx with rfl | hx
          · simp
          rcases List.mem_cons.1 hx with rfl | hx
          · simp
          · simp [q2.subset hx]
        refine ⟨dz1 h1, dz1 h2, dz1 h3, by simpa using h4, b :: mb :: G', ⟨mb, _, _, G', rfl, dz2 e1 hbmb, dz0, e3.del p.gr, q1.keep fun x hx => ?_, ?_⟩, ⟨by simpa using h6.n, fun x hx hn => ?_, fun x hx => h6.own x (hin x hx)⟩, fun x hx => h7 x (hin x hx)⟩
        · exact AState.get_set_ne _ _ (fun e => hmbG (by rw [← e]; exact q2.subset hx))
        · exact List.Nodup.sublist ((q2.cons_cons mb).cons_cons b) e5
        · rw [AState.get_set_ne _ _ (fun e => ?_)]
          · exact h6.keep x hx hn
          · subst e
            rcases h6.own x (by simp) with h | h
            · exact hn h
            · omega
      · have hdo : doP at_ M1 p = putL M1 p.gr (logDo ((lk M1 p.gr).getD ⟨newG p.gr, []⟩) p at_) := by unfold doP; rw [hp, if_neg hk5]; rfl
        have hmbG : mb ∉ G := (List.nodup_cons.1 (List.nodup_cons.1 e5).2).1
        have hbG : b ∉ G := fun h => (List.nodup_cons.1 e5).1 (by simp [h])
        have hbmb : b ≠ mb := fun e => (List.nodup_cons.1 e5).1 (by simp [e])
        have hGn : G.Nodup := (List.nodup_cons.1 (List.nodup_cons.1 e5).2).2
        have hSM : Srt M1 := h5'.srt
        refine st5 hp k3 hk5 h1 e1 ?_
        refine m_look (κ := Int) (A := A) (k := p.gr) (b := mb) (enc := ptr) (by simp) e2 (by simp; rfl) ?_
        cases hl : lk A p.gr with
        | some lb =>
          have hlv : lkV ptr A p.gr (.v (.pointer none)) false = .p lb 0 := by unfold lkV; rw [hl]; rfl
          rw [hlv]
          refine st3 k3 h1 e1 ?_
          refine m_look (κ := Int) (A := A) (k := p.gr) (b := mb) (enc := ptr) (by simp) e2 (by simp; rfl) ?_
          rw [hlv]
          refine st2 k3 h2 ?_
          obtain ⟨v, Fi, f1, f2, f3, f4⟩ := e4.focus hSM hGn (by rw [← e3.lk]; exact hl)
          refine run (rn_place_Log_Do (p := p) (at_ := at_) f2 (hGk _ (lk_mem f1)) hpe) (by simp) ?_
          rintro _ s2 ⟨Fi', g1, g2⟩
          obtain ⟨G', q1, q2, q3⟩ := f4 s2 _ _ g1 g2
          have hno : ∀ x, x < s1.n → s.n ≤ x → x < s.n + 5 → x ∉ Fi := fun x _ h8 h9 hx => by have := h7 x (by simp [f3 x hx]); omega
          have j2 : s2.get (s.n + 3 + 1) = LB := (g2.keep _ (by omega) (hno _ (by omega) (by omega) (by omega))).trans k2
          refine st1 j2 ?_
          refine close s2 ((g2.keep _ (by omega) (hno _ (by omega) (by omega) (by omega))).trans k4) ?_
          rw [hdo, f1]
          have q2' := q2.moreL [b, mb]
          have hb2 : s2.get b = s1.get b := q2.keep b hb1 hbG
          have hmb3 : s2.get mb = s1.get mb := q2.keep mb hmb1 hmbG
          have hG' := q2.apart (G := [b, mb]) (by simp [hbG, hmbG]) (by simp [hb1, hmb1])
          have kk : ∀ x, s.n ≤ x → x < s.n + 3 → s2.get x = s1.get x := fun x h8 h9 => g2.keep x (by omega) (hno x (by omega) (by omega) (by omega))
          refine ⟨(kk _ (by omega) (by omega)).trans h1, (kk _ (by omega) (by omega)).trans h2, (kk _ (by omega) (by omega)).trans h3, by have := g2.n; omega, b :: mb :: G', ⟨mb, A, B, G', rfl, hb2.trans e1, hmb3.trans e2, e3, q1, ?_⟩, h6.trans q2', fun x hx => ?_⟩
          · rw [List.nodup_cons, List.nodup_cons]
            exact ⟨by simp [hbmb, hG' b (by simp)], hG' mb (by simp), q3⟩
          · rcases q2'.own x hx with h8 | h8
            · exact h7 x h8
            · exact .inr (by omega)
        | none =>
          have hlv : lkV ptr A p.gr (.v (.pointer none)) false = .v (.pointer none) := by unfold lkV; rw [hl]; rfl
          rw [hlv]
          refine sd3 k3 h1 e1 ?_
          refine run (rn_place_New (id := p.gr)) (by simp) ?_
          rintro _ s2 ⟨lb, rfl, g1, g2, g3⟩
          refine ⟨m_ext g3.ext, ?_⟩
          refine sd0 ?_
          have gn := g3.n
          have gk := fun x (h : x < s1.n) => g3.get h
          refine q_mset (κ := Int) (A := A) (k := p.gr) (v := lb) (b := mb) (enc := ptr) (by simp) ((gk mb hmb1).trans e2) (by simp; rfl) (by simp [ptr]) ?_
          have hlb : lb < s2.n := g1.lt lb (by simp)
          obtain ⟨G2, r1, r2, r3⟩ := e4.add (i := p.gr) g1 (.new g3 (by simp; omega)) hGn (by rw [← e3.lk]; exact hl)
          have hg2 : ∀ x ∈ G2, x ∉ [b, mb] := fun x hx hm => r2.apart (G := [b, mb]) (by simp [hbG, hmbG]) (by simp [hb1, hmb1]) x hm hx
          have hmn6 : mb ≠ n6 := by rintro rfl; rw [k3] at e2; cases e2
          have m1 : (s2.set mb (.map (encM ptr (setM A p.gr lb)))).get (s.n + 3 + 1) = LB := dz2 gk k2
          have m2 : (s2.set mb (.map (encM ptr (setM A p.gr lb)))).get n6 = .cells p.cells := dz2 gk k3
          have m3 : (s2.set mb (.map (encM ptr (setM A p.gr lb)))).get s.n = .cells [.p b 0] := dz2 gk h1
          have m4 : (s2.set mb (.map (encM ptr (setM A p.gr lb)))).get (s.n + 1) = .cells at_.cells := dz2 gk h2
          have m5 : (s2.set mb (.map (encM ptr (setM A p.gr lb)))).get b = .cells [.m mb] := dz3 gk e1 hbmb
          have m6 : (s2.set mb (.map (encM ptr (setM A p.gr lb)))).get mb = .map (encM ptr (setM A p.gr lb)) := dz0
          have m7 : (s2.set mb (.map (encM ptr (setM A p.gr lb)))).get (s.n + 2) = .cells [.sl (l.map Prt.av) .no] := dz2 gk h3
          have m8 : (s2.set mb (.map (encM ptr (setM A p.gr lb)))).get (s.n + 3) = .defd := dz2 gk k4
          have m9 : ∀ x, x < s1.n → x ≠ mb → (s2.set mb (.map (encM ptr (setM A p.gr lb)))).get x = s1.get x := fun x hx hn => by rw [AState.get_set_ne _ _ hn]; exact gk x hx
          have m10 : (s2.set mb (.map (encM ptr (setM A p.gr lb)))).n = s2.n := rfl
          have r4 : LogsAt (s2.set mb (.map (encM ptr (setM A p.gr lb)))) (putL B p.gr lb) (putL M1 p.gr ⟨newG p.gr, []⟩) G2 := r1.keep fun x hx => AState.get_set_ne _ _ (fun e => hg2 x hx (by simp [e]))
          generalize s2.set mb (.map (encM ptr (setM A p.gr lb))) = s3 at m1 m2 m3 m4 m5 m6 m7 m8 m9 m10 r4 ⊢
          refine sd0 ?_
          refine st3 m3 m5 m2 ?_
          refine m_look (κ := Int) (A := setM A p.gr lb) (k := p.gr) (b := mb) (enc := ptr) (by simp) m6 (by simp; rfl) ?_
          have hlv : lkV ptr (setM A p.gr lb) p.gr (.v (.pointer none)) false = .p lb 0 := by unfold lkV; rw [lk_setM, if_pos rfl]; rfl
          rw [hlv]
          refine st2 m2 m4 ?_
          have e3' := e3.set p.gr lb
          have hlb2 : lk (putL B p.gr lb) p.gr = some lb := by rw [lk_put, if_pos rfl]
          obtain ⟨v, Fi, f1, f2, f3, f4⟩ := r4.focus (hSM.put _ _) r3 hlb2
          rw [lk_put, if_pos rfl] at f1
          obtain rfl : (⟨newG p.gr, []⟩ : LogV) = v := by simpa using f1
          have hsp : Spar (newG p.gr) := newG_spar (by simp only [isPart, Bool.and_eq_true] at hp; simpa [btw] using hp.1.1)
          refine run (rn_place_Log_Do (p := p) (at_ := at_) f2 hsp hpe) (by simp) ?_
          rintro _ s4 ⟨Fi', t1, t2⟩
          obtain ⟨G', q1, q2, q3⟩ := f4 s4 _ _ t1 t2
          have hFo : ∀ x ∈ G2, x < s.n ∨ s.n + 5 ≤ x := fun x hx => by
            rcases r2.own x hx with h8 | h8
            · exact h7 x (by simp [h8])
            · exact .inr (by omega)
          have hno : ∀ x, x < s3.n → s.n ≤ x → x < s.n + 5 → x ∉ Fi := fun x _ h8 h9 hx => by have := hFo x (f3 x hx); omega
          have j2 : s4.get (s.n + 3 + 1) = LB := (t2.keep _ (by omega) (hno _ (by omega) (by omega) (by omega))).trans m1
          refine st1 j2 ?_
          refine close s4 ((t2.keep _ (by omega) (hno _ (by omega) (by omega) (by omega))).trans m8) ?_
          have hdo2 : doP at_ M1 p = putL (putL M1 p.gr ⟨newG p.gr, []⟩) p.gr (logDo ⟨newG p.gr, []⟩ p at_) := by
            have hlM : lk M1 p.gr = none := (e4.no p.gr).1 (by rw [← e3.lk]; exact hl)
            rw [hdo, hlM]
            refine Srt.ext (hSM.put _ _) ((hSM.put _ _).put _ _) fun k => ?_
            rw [lk_put, lk_put, lk_put]
            split <;> rfl
          rw [hdo2]
          have hbG2 : b ∉ G2 := fun h => hg2 b h (by simp)
          have hmbG2 : mb ∉ G2 := fun h => hg2 mb h (by simp)
          have hb2 : s4.get b = s3.get b := q2.keep b (by omega) hbG2
          have hmb3 : s4.get mb = s3.get mb := q2.keep mb (by omega) hmbG2
          have hG' := q2.apart (G := [b, mb]) (by simp [hbG2, hmbG2]) (by simp; omega)
          have kk : ∀ x, s.n ≤ x → x < s.n + 3 → s4.get x = s3.get x := fun x h8 h9 => t2.keep x (by omega) (hno x (by omega) (by omega) (by omega))
          have q5 : Mut (b :: mb :: G) (b :: mb :: G') s1 s4 := by
            refine ⟨by have := t2.n; omega, fun x hx hn => ?_, fun x hx => ?_⟩
            · have hn' : x ≠ b ∧ x ≠ mb ∧ x ∉ G := by simpa using hn
              refine (q2.keep x (by omega) (fun hm => ?_)).trans (m9 x hx hn'.2.1)
              rcases r2.own x hm with h8 | h8
              · exact hn'.2.2 h8
              · omega
            · rcases List.mem_cons.1 hx with rfl | hx
              · exact .inl (by simp)
              rcases List.mem_cons.1 hx with rfl | hx
              · exact .inl (by simp)
              rcases q2.own x hx with h8 | h8
              · rcases r2.own x h8 with h9 | h9
                · exact .inl (by simp [h9])
                · exact .inr h9
              · exact .inr (by omega)
          refine ⟨(kk _ (by omega) (by omega)).trans m3, (kk _ (by omega) (by omega)).trans m4, (kk _ (by omega) (by omega)).trans m7, by have := t2.n; omega, b :: mb :: G', ⟨mb, _, _, G', rfl, hb2.trans m5, hmb3.trans m6, e3', q1, ?_⟩, h6.trans q5, fun x hx => ?_⟩
          · rw [List.nodup_cons, List.nodup_cons]
            exact ⟨by simp [hbmb, hG' b (by simp)], hG' mb (by simp), q3⟩
          · rcases q5.own x hx with h8 | h8
            · exact h7 x h8
            · exact .inr (by omega)
  · intro s' hd hln hI
    rw [List.take_length] at hI
    have hsn : (((s.alloc (.cells [.p b 0])).alloc (.cells at_.cells)).alloc (.cells [.sl (l.map Prt.av) .no])).n = s.n + 3 := by simp
    simp only [hsn] at *
    refine st0 ?_
    refine end_okD ?_ ?_ rfl ?_
    · simp (disch := first | omega | (simp <;> omega) | fail) [hd]
    · simp
    obtain ⟨h1, h2, h3, h4, F', h5, h6, h7⟩ := hI
    have hF := h5.lt
    have hk : ∀ x, x < s'.n → (x < s.n ∨ s.n + 5 ≤ x) → (killAll [s.n + 3] (s'.set (s.n + 3 + 1) .dead)).get x = s'.get x := fun x hx h8 => by
      simp only [killAll, List.foldl]
      rw [AState.get_set_ne _ _ (by omega), AState.get_set_ne _ _ (by omega)]
    exact ⟨F', h5.keep fun x hx => hk x (hF x hx) (h7 x hx), ⟨by simpa [killAll] using h6.n, fun x hx hn => (hk x (by have := h6.n; omega) (.inl hx)).trans (h6.keep x hx hn), h6.own⟩⟩
  · intro j s' _ _ h; exact h.elim
end Go.Proofs.YtmpoeamfcienoaaGreat
end
section
namespace Go.Ab
set_option linter.unusedVariables false
structure TellI (s : AState) (b : Nat) (l : List AV) (s' : AState) : Prop where
  b0 : ∃ tk, s'.get s.n = .cells [.sl l tk] ∧ May (s.n + 4) s' l tk
  b1 : s'.get (s.n + 1) = .cells [.p b 0]
  n : s.n + 4 ≤ s'.n
  old : ∀ x, x < s.n → s'.get x = s.get x
theorem TellI.alloc {s : AState} {b : Nat} {l : List AV} {s' : AState} (h : TellI s b l s') (o : AObj) : TellI s b l (s'.alloc o) := by
  obtain ⟨⟨tk, g1, g2⟩, b1, n, old⟩ := h
  exact ⟨⟨tk, dz1 g1, g2.alloc o⟩, dz1 b1, by simp; omega, fun x hx => dz1 (old x hx)⟩
structure Small (M : List (Int × LogV)) : Prop where
  len : M.length ≤ 1000000
  es : ∀ x ∈ M, x.2.g.es.length * 32 ≤ 140737488355328
  sp : (spotsM M).length * 32 ≤ 140737488355328
theorem LogsAt.pre {s : AState} {B : List (Int × Nat)} {M : List (Int × LogV)} {F : List Nat} (h : LogsAt s B M F) (hM : MOk M) : ∀ x ∈ B, -9223372036854775808 ≤ x.1 ∧ x.1 < 9223372036854775808 := fun x hx => by
  have : x.1 ∈ M.map (·.1) := by rw [← h.keys]; exact List.mem_map_of_mem hx
  obtain ⟨y, hy, e⟩ := List.mem_map.1 this
  have := (hM.2 y hy).rng
  omega
theorem MOk.gok {M : List (Int × LogV)} (hM : MOk M) : GOk M := fun x hx => (hM.2 x hx).g
theorem spots_le {M : List (Int × LogV)} {x : Int × LogV} (hx : x ∈ M) : x.2.sp.length ≤ (spotsM M).length := by
  induction M with
  | nil => cases hx
  | cons y M ih =>
    simp only [spotsM, List.flatMap_cons, List.length_append, List.length_map] at ih ⊢
    rcases List.mem_cons.1 hx with rfl | hx
    · omega
    · have := ih hx; omega
theorem VOk.keys {i : Int} {v : LogV} (h : VOk i v) : ∀ x ∈ v.sp, -1 ≤ x.1 ∧ x.1 ≤ MI := fun x hx => by
  have hMI := MI_eq
  rcases h.key x hx with h1 | h1 | ⟨e, he, h1⟩
  · omega
  · omega
  · have := (okEnt_iff.1 (h.g.ok e he)).1; omega
theorem grps_le (M : List (Int × LogV)) (k : Nat) : (grpsL (M.take k)).length ≤ (grpsL M).length := by simp [grpsL]; omega
theorem spots_take (M : List (Int × LogV)) (k : Nat) : (spotsM (M.take k)).length ≤ (spotsM M).length := by
  have h := congrArg (fun l => (spotsM l).length) (List.take_append_drop k M)
  simp only [spotsM, List.flatMap_append, List.length_append] at h ⊢
  omega
theorem grps_snoc {M : List (Int × LogV)} {k : Nat} (h : k < M.length) : grpsL (M.take (k + 1)) = grpsL (M.take k) ++ [M[k].2.g] := by
  have e : M.take (k + 1) = M.take k ++ [M[k]] := (List.take_append_getElem h).symm
  rw [e]; simp only [grpsL, List.map_append, List.map_cons, List.map_nil]
theorem spots_snoc {M : List (Int × LogV)} {k : Nat} (h : k < M.length) : spotsM (M.take (k + 1)) = spotsM (M.take k) ++ spotsL M[k].2 := by
  have e : M.take (k + 1) = M.take k ++ [M[k]] := (List.take_append_getElem h).symm
  rw [e]; simp only [spotsM, spotsL, List.flatMap_append, List.flatMap_cons, List.flatMap_nil, List.append_nil]
end Go.Ab
namespace Go.Proofs.YtmpoeamfcienoaaGreat
open Go.Ab
set_option linter.unusedVariables false
set_option linter.unusedSimpArgs false
set_option maxRecDepth 100000
set_option maxHeartbeats 8000000
theorem ct_ledger_Ledger_Groups {b : Nat} {M : List (Int × LogV)} {F : List Nat} {s : AState} (hL : LedAt s b M F) (hM : MOk M) (hS : Small M) : Gives prog F_ledger_Ledger_Groups [.p b 0] s (.sl ((grpsL M).map Grp.av) .no) s := by
  have hlt := hL.lt
  have hb : b < s.n := hlt b hL.mem
  obtain ⟨hS1, hS2, hS3⟩ := hS
  obtain ⟨mb, A, B, F', rfl, e1, e2, e3, e4, e5⟩ := hL
  have hmb : mb < s.n := hlt mb (by simp)
  have hlB := e4.len
  have hMI := MI_eq
  have hsn : ((s.alloc (.cells [.sl [] .zero])).alloc (.cells [.p b 0])).n = s.n + 2 := by simp
  refine Runs.gives (runs_e h_ledger_Ledger_Groups (Nat.le_of_ble_eq_true rfl) ?_) (flat_sl Grp.row _)
  refine st0 ?_
  refine gv (ct_ledger_Ledger_logs (b := b)) ?_
  refine st0 ?_
  have hit := it_ledger_Ledger_logs (cb := s.n + 1) (b := b) (mb := mb) e3 (e4.pre hM) (by omega)
  have hTl := grps_le M
  have hbig : (grpsL M).length * 72 ≤ 140737488355328 := by simp only [grpsL, List.length_map]; omega
  refine w_rangeS (m := M.length) (by simp) hit (by intro x hx; obtain ⟨p, _, rfl⟩ := List.mem_map.1 hx; rfl) (by simp [pairA, hlB]) (fun k s' => TellI s b ((grpsL (M.take k)).map Grp.av) s') (fun _ _ => False) ?_ ?_ ?_ ?_ ?_ ?_ ?_
  · intro LR
    exact ⟨⟨.zero, by simp (disch := first | omega | (simp <;> omega) | fail) [grpsL, spotsM], trivial⟩, dz0, by simp, fun x hx => dz0⟩
  · intro k s' h; exact ⟨h.b1, (h.old b hb).trans e1, (h.old mb hmb).trans e2⟩
  · intro k s' o hn h; exact h.alloc o
  · intro j s' o hn h; exact h
  · intro LR LB LJ hLB hLR k hk s' hd hLL hln hI
    have hkB : k < B.length := by simpa [pairA] using hk
    have hk' : k < M.length := by omega
    obtain ⟨⟨tk, g1, g2⟩, b1, n, old⟩ := hI
    obtain ⟨-, Fi, f1, f2⟩ := e4.nth hkB hk'
    have f3 : LogAt (s'.set (s.n + 2 + 1) LB) B[k].2 M[k].2 Fi := f1.keep fun x hx => by
      have := hlt x (by simp [f2 x hx])
      simp (disch := first | omega | (simp <;> omega) | fail) [old x this]
    have hok := hM.2 _ (List.getElem_mem hk')
    have hTs := hTl (k + 1)
    have hTk : grpsL (M.take (k + 1)) = grpsL (M.take k) ++ [M[k].2.g] := grps_snoc hk'
    simp only [hsn, pairA, List.getElem_map, List.zip_cons_cons, List.zip_nil_right, List.reverse_cons, List.reverse_nil, List.nil_append, List.cons_append] at hd hLL hln ⊢
    refine sd2 hLL g1 ?_
    refine gv (ct_place_Log_Group f3 (hS2 _ (List.getElem_mem hk'))) ?_
    refine sd2 hLL g1 ?_
    refine q_appS (xs := (grpsL (M.take k)).map Grp.av) (tk := tk) (ys := ([M[k].2.g]).map Grp.av) (t2 := .zero) (N := s.n + 4) (by simp) (by simp) (by simp; omega) (g2.set _ (by omega)) (head_map Grp.row _) (by simp) (by have := congrArg List.length hTk; simp only [List.length_append, List.length_map] at this ⊢; omega) (by have := congrArg List.length hTk; simp only [List.length_append, List.length_map] at this ⊢; omega) ?_
    intro s2 tk2 hm2 hlow hext
    have k0 : s2.get s.n = .cells [.sl ((grpsL (M.take k)).map Grp.av) tk] := by rw [hlow _ (by omega)]; simp (disch := first | omega | (simp <;> omega) | fail) [g1]
    have k1 : s2.get (s.n + 1) = .cells [.p b 0] := by rw [hlow _ (by omega)]; simp (disch := first | omega | (simp <;> omega) | fail) [b1]
    have k2 : s2.get (s.n + 2) = .defd := by rw [hlow _ (by omega)]; simp (disch := first | omega | (simp <;> omega) | fail) [hd]
    have k3 : s2.get (s.n + 2 + 1) = LB := by rw [hlow _ (by omega)]; simp (disch := first | omega | (simp <;> omega) | fail)
    have k4 : ∀ x, x < s.n → s2.get x = s.get x := fun x hx => by rw [hlow _ (by omega)]; simp (disch := first | omega | (simp <;> omega) | fail) [old x hx]
    have hn2 : s.n + 4 ≤ s2.n := by have := hext.1; simp at this; omega
    clear hext hlow
    refine sd1 k0 ?_
    refine st2 k0 k3 ?_
    refine fins_n (fun d hd => by cases hd; simp (disch := first | omega | (simp <;> omega) | fail) [k2]) (dz0) ⟨⟨tk2, dz1 hTk, ?_⟩, dz1 k1, by simpa using hn2, fun x hx => dz1 (k4 x hx)⟩
    rw [hTk]
    simpa using (hm2.set _ (by omega)).set _ (by omega)
  · rintro s' hd hln ⟨⟨tk, g1, g2⟩, b1, n, old⟩
    rw [List.take_length] at g1 g2
    simp only [hsn] at hd hln ⊢
    refine st1 g1 ?_
    refine ret_okD ?_ ?_ rfl ⟨⟨?_, fun x hx => .inl ?_⟩, AV.le_no _ _⟩
    · simp (disch := first | omega | (simp <;> omega) | fail) [hd]
    · simp
    · simp [killAll]; omega
    · simp (disch := first | omega | (simp <;> omega) | fail) [killAll, old x hx]
  · intro j s' _ _ h; exact h.elim
theorem ct_ledger_Ledger_Spots {b : Nat} {M : List (Int × LogV)} {F : List Nat} {s : AState} (hL : LedAt s b M F) (hM : MOk M) (hS : Small M) : Gives prog F_ledger_Ledger_Spots [.p b 0] s (.sl ((spotsM M).map Spt.av) .no) s := by
  have hlt := hL.lt
  have hb : b < s.n := hlt b hL.mem
  obtain ⟨hS1, hS2, hS3⟩ := hS
  obtain ⟨mb, A, B, F', rfl, e1, e2, e3, e4, e5⟩ := hL
  have hmb : mb < s.n := hlt mb (by simp)
  have hlB := e4.len
  have hMI := MI_eq
  have hsn : ((s.alloc (.cells [.sl [] .zero])).alloc (.cells [.p b 0])).n = s.n + 2 := by simp
  refine Runs.gives (runs_e h_ledger_Ledger_Spots (Nat.le_of_ble_eq_true rfl) ?_) (flat_sl Spt.row _)
  refine st0 ?_
  refine gv (ct_ledger_Ledger_logs (b := b)) ?_
  refine st0 ?_
  have hit := it_ledger_Ledger_logs (cb := s.n + 1) (b := b) (mb := mb) e3 (e4.pre hM) (by omega)
  have hTl := spots_take M
  have hbig : (spotsM M).length * 32 ≤ 140737488355328 := hS3
  refine w_rangeS (m := M.length) (by simp) hit (by intro x hx; obtain ⟨p, _, rfl⟩ := List.mem_map.1 hx; rfl) (by simp [pairA, hlB]) (fun k s' => TellI s b ((spotsM (M.take k)).map Spt.av) s') (fun _ _ => False) ?_ ?_ ?_ ?_ ?_ ?_ ?_
  · intro LR
    exact ⟨⟨.zero, by simp (disch := first | omega | (simp <;> omega) | fail) [grpsL, spotsM], trivial⟩, dz0, by simp, fun x hx => dz0⟩
  · intro k s' h; exact ⟨h.b1, (h.old b hb).trans e1, (h.old mb hmb).trans e2⟩
  · intro k s' o hn h; exact h.alloc o
  · intro j s' o hn h; exact h
  · intro LR LB LJ hLB hLR k hk s' hd hLL hln hI
    have hkB : k < B.length := by simpa [pairA] using hk
    have hk' : k < M.length := by omega
    obtain ⟨⟨tk, g1, g2⟩, b1, n, old⟩ := hI
    obtain ⟨-, Fi, f1, f2⟩ := e4.nth hkB hk'
    have f3 : LogAt (s'.set (s.n + 2 + 1) LB) B[k].2 M[k].2 Fi := f1.keep fun x hx => by
      have := hlt x (by simp [f2 x hx])
      simp (disch := first | omega | (simp <;> omega) | fail) [old x this]
    have hok := hM.2 _ (List.getElem_mem hk')
    have hTs := hTl (k + 1)
    have hTk : spotsM (M.take (k + 1)) = spotsM (M.take k) ++ spotsL M[k].2 := spots_snoc hk'
    simp only [hsn, pairA, List.getElem_map, List.zip_cons_cons, List.zip_nil_right, List.reverse_cons, List.reverse_nil, List.nil_append, List.cons_append] at hd hLL hln ⊢
    refine sd2 hLL g1 ?_
    refine gv (ct_place_Log_Spots f3 (fun x hx => by have := hok.keys x hx; omega) (by have := spots_le (List.getElem_mem hk'); omega)) ?_
    refine sd2 hLL g1 ?_
    refine q_appS (xs := (spotsM (M.take k)).map Spt.av) (tk := tk) (ys := (spotsL M[k].2).map Spt.av) (t2 := .no) (N := s.n + 4) (by simp) (by simp) (by simp; omega) (g2.set _ (by omega)) (head_map Spt.row _) (by simp) (by have := congrArg List.length hTk; simp only [List.length_append, List.length_map] at this ⊢; omega) (by have := congrArg List.length hTk; simp only [List.length_append, List.length_map] at this ⊢; omega) ?_
    intro s2 tk2 hm2 hlow hext
    have k0 : s2.get s.n = .cells [.sl ((spotsM (M.take k)).map Spt.av) tk] := by rw [hlow _ (by omega)]; simp (disch := first | omega | (simp <;> omega) | fail) [g1]
    have k1 : s2.get (s.n + 1) = .cells [.p b 0] := by rw [hlow _ (by omega)]; simp (disch := first | omega | (simp <;> omega) | fail) [b1]
    have k2 : s2.get (s.n + 2) = .defd := by rw [hlow _ (by omega)]; simp (disch := first | omega | (simp <;> omega) | fail) [hd]
    have k3 : s2.get (s.n + 2 + 1) = LB := by rw [hlow _ (by omega)]; simp (disch := first | omega | (simp <;> omega) | fail)
    have k4 : ∀ x, x < s.n → s2.get x = s.get x := fun x hx => by rw [hlow _ (by omega)]; simp (disch := first | omega | (simp <;> omega) | fail) [old x hx]
    have hn2 : s.n + 4 ≤ s2.n := by have := hext.1; simp at this; omega
    clear hext hlow
    refine sd1 k0 ?_
    refine st2 k0 k3 ?_
    refine fins_n (fun d hd => by cases hd; simp (disch := first | omega | (simp <;> omega) | fail) [k2]) (dz0) ⟨⟨tk2, dz1 hTk, ?_⟩, dz1 k1, by simpa using hn2, fun x hx => dz1 (k4 x hx)⟩
    rw [hTk]
    simpa using (hm2.set _ (by omega)).set _ (by omega)
  · rintro s' hd hln ⟨⟨tk, g1, g2⟩, b1, n, old⟩
    rw [List.take_length] at g1 g2
    simp only [hsn] at hd hln ⊢
    refine st1 g1 ?_
    refine ret_okD ?_ ?_ rfl ⟨⟨?_, fun x hx => .inl ?_⟩, AV.le_no _ _⟩
    · simp (disch := first | omega | (simp <;> omega) | fail) [hd]
    · simp
    · simp [killAll]; omega
    · simp (disch := first | omega | (simp <;> omega) | fail) [killAll, old x hx]
  · intro j s' _ _ h; exact h.elim
end Go.Proofs.YtmpoeamfcienoaaGreat
end
section
namespace Go.Ab
structure TakI (s : AState) (b b2 : Nat) (M : List (Int × LogV)) (F : List Nat) (s' : AState) : Prop where
  b0 : s'.get s.n = .cells [.p b 0]
  b1 : s'.get (s.n + 1) = .cells [.p b2 0]
  n : s.n + 4 ≤ s'.n
  led : ∃ F', LedAt s' b M F' ∧ Mut F F' s s' ∧ ∀ x ∈ F', x < s.n ∨ s.n + 4 ≤ x
theorem TakI.keep {s : AState} {b b2 : Nat} {M : List (Int × LogV)} {F : List Nat} {s' s2 : AState} (h : TakI s b b2 M F s') (hn : s'.n ≤ s2.n) (hk : ∀ x, x < s'.n → x ≠ s.n + 3 → s2.get x = s'.get x) : TakI s b b2 M F s2 := by
  obtain ⟨h1, h2, h4, F', h5, h6, h7⟩ := h
  have hF := h5.lt
  refine ⟨(hk _ (by omega) (by omega)).trans h1, (hk _ (by omega) (by omega)).trans h2, by omega, F', h5.keep fun x hx => hk x (hF x hx) ?_, ⟨by have := h6.n; omega, fun x hx hn => (hk x (by have := h6.n; omega) (by omega)).trans (h6.keep x hx hn), h6.own⟩, h7⟩
  have := h7 x hx; omega
theorem AV.le_tup2 {x y x' y' : AV} (h : x.le x') (k : y.le y') : (AV.tup [x, y]).le (.tup [x', y']) := fun c v r => by
  cases r with
  | tup _ vs h0 hh =>
    refine .tup _ vs h0 fun j hj => ?_
    have := hh j hj
    match j, hj with
    | 0, _ => exact h _ _ this
    | 1, _ => exact k _ _ this
theorem takeL_snoc {M O : List (Int × LogV)} {k : Nat} (h : k < O.length) : takeL M (O.take (k + 1)) = if (lk (takeL M (O.take k)) O[k].1).isSome then takeL M (O.take k) else putL (takeL M (O.take k)) O[k].1 O[k].2 := by
  have e : O.take (k + 1) = O.take k ++ [O[k]] := (List.take_append_getElem h).symm
  rw [e]; simp only [takeL, List.foldl_append]; rfl
end Go.Ab
namespace Go.Proofs.YtmpoeamfcienoaaGreat
open Go.Ab
set_option linter.unusedVariables false
set_option linter.unusedSimpArgs false
set_option maxRecDepth 100000
set_option maxHeartbeats 1000000
theorem ct_ledger_Ledger_Get {b : Nat} {M : List (Int × LogV)} {F : List Nat} {i : Int} {s : AState} (hL : LedAt s b M F) (hS : Small M) :
    Gives prog F_ledger_Ledger_Get [.p b 0, .v (.int .i64 i)] s (.tup [(((lk M i).map (·.g)).getD zeroG).av, .v (.bool (lk M i).isSome)]) s := by
  have hlt := hL.lt
  have hb : b < s.n := hlt b hL.mem
  obtain ⟨mb, A, B, F', rfl, e1, e2, e3, e4, e5⟩ := hL
  have hmb : mb < s.n := hlt mb (by simp)
  refine Runs.gives' (runs_e h_ledger_Ledger_Get (Nat.le_of_ble_eq_true rfl) ?_) (Flat.tup (by simp; exact ⟨(Grp.row _).flat, .v _⟩))
  refine st1 e1 ?_
  refine m_look (κ := Int) (A := A) (k := i) (b := mb) (enc := ptr) (by simp) (dz1 e2) (by simp; rfl) ?_
  cases hl : lk A i with
  | none =>
    have hlv : lkV ptr A i (.v (.pointer none)) true = .tup [.v (.pointer none), .v (.bool false)] := by unfold lkV; rw [hl]; rfl
    rw [hlv]
    have hlM : lk M i = none := (e4.no i).1 (by rw [← e3.lk]; exact hl)
    rw [hlM]
    refine st0 ?_
    refine ret_ok (by simp; rfl) ⟨?_, ?_⟩
    · exact (Grows.refl s).alloc _
    · exact AV.le_tup2 ((AV.le_strip _).trans (by simp [Grp.av, Grp.cells, zeroG]; exact .refl _)) (.refl _)
  | some lb =>
    have hlv : lkV ptr A i (.v (.pointer none)) true = .tup [.p lb 0, .v (.bool true)] := by unfold lkV; rw [hl]; rfl
    rw [hlv]
    obtain ⟨v, Fi, f1, f2, f3⟩ := e4.at (by rw [← e3.lk]; exact hl)
    rw [f1]
    refine st0 ?_
    have f4 := f2.keep (s' := s.alloc (.cells [.v (.int .i64 0), .v (.int .i64 0), .v (.int .i64 0), .v (.int .i64 0), .v (.int .i64 0), .v (.int .i64 0), .sl [] .zero])) fun x hx => get_alloc_ne (by have := hlt x (by simp [f3 x hx]); omega)
    refine gv (ct_place_Log_Group f4 (hS.es (i, v) (lk_mem f1))) ?_
    refine st0 ?_
    refine ret_ok (by simp; rfl) ⟨(Grows.refl s).alloc _, ?_⟩
    exact .refl _
theorem rn_ledger_Ledger_Take {b b2 : Nat} {M M2 : List (Int × LogV)} {F F2 : List Nat} {s : AState} (hL : LedAt s b M F) (hL2 : LedAt s b2 M2 F2) (hd : ∀ x ∈ F2, x ∉ F) (hM2 : MOk M2) (hS2 : M2.length ≤ 1000000) :
    Runs (compCode prog) prog F_ledger_Ledger_Take [.p b 0, .p b2 0] s (fun _ s' => ∃ F', LedAt s' b (takeL M M2) F' ∧ Mut F F' s s') := by
  have hlt := hL.lt
  have hlt2 := hL2.lt
  have hb : b < s.n := hlt b hL.mem
  have hb2 : b2 < s.n := hlt2 b2 hL2.mem
  have hL2' := hL2
  obtain ⟨mb2, A2, B2, F2', rfl, d1, d2, d3, d4, d5⟩ := hL2
  have hmb2 : mb2 < s.n := hlt2 mb2 (by simp)
  have hlB := d4.len
  have hsn : ((s.alloc (.cells [.p b 0])).alloc (.cells [.p b2 0])).n = s.n + 2 := by simp
  refine runs_e h_ledger_Ledger_Take (Nat.le_of_ble_eq_true rfl) ?_
  refine st0 ?_
  refine gv (ct_ledger_Ledger_logs (b := b2)) ?_
  refine st0 ?_
  have hit := it_ledger_Ledger_logs (cb := s.n + 1) (b := b2) (mb := mb2) d3 (d4.pre hM2) (by omega)
  refine w_rangeS (m := M2.length) (by simp) hit (by intro x hx; obtain ⟨p, _, rfl⟩ := List.mem_map.1 hx; rfl) (by simp [pairA, hlB]) (fun k s' => TakI s b b2 (takeL M (M2.take k)) F s') (fun _ _ => False) ?_ ?_ ?_ ?_ ?_ ?_ ?_
  · intro LR
    refine ⟨dz0, dz0, by simp, F, hL.keep fun x hx => by have := hlt x hx; simp (disch := first | omega | (simp <;> omega) | fail), .grows ?_, fun x hx => .inl (hlt x hx)⟩
    exact ((((Grows.refl s).alloc _).alloc _).alloc _).alloc _
  · rintro k s' ⟨h1, h2, h4, F', h5, h6, h7⟩; exact ⟨h2, (h6.keep b2 hb2 (hd b2 (by simp))).trans d1, (h6.keep mb2 hmb2 (hd mb2 (by simp))).trans d2⟩
  · intro k s' o hn h
    exact h.keep (by simp) fun x hx _ => get_alloc_ne (by omega)
  · intro j s' o hn h; exact h
  · intro LR LB LJ hLB hLR k hk s' hdd hLL hln hI
    have hkB : k < B2.length := by simpa [pairA] using hk
    have hk' : k < M2.length := by omega
    rw [takeL_snoc hk']
    obtain ⟨hk1, Fi, f1, f2⟩ := d4.nth hkB hk'
    generalize takeL M (M2.take k) = M1 at hI ⊢
    simp only [hsn, pairA, List.getElem_map, List.zip_cons_cons, List.zip_nil_right, List.reverse_cons, List.reverse_nil, List.nil_append, List.cons_append] at hdd hLL hln ⊢
    rw [hk1]
    generalize hx : M2[k].1 = i at hk1 ⊢
    generalize hy : M2[k].2 = v at f1 ⊢
    generalize B2[k].2 = lb2 at f1 ⊢
    have f3 : LogAt (s'.set (s.n + 2 + 1) LB) lb2 v Fi := f1.keep fun x hx => by
      have := hlt2 x (by simp [f2 x hx])
      obtain ⟨h1, h2, h4, F', h5, h6, h7⟩ := hI
      simp (disch := first | omega | (simp <;> omega) | fail) [h6.keep x this (hd x (by simp [f2 x hx]))]
    have hI2 : TakI s b b2 M1 F (s'.set (s.n + 2 + 1) LB) := hI.keep (by simp) fun x hx hn => dz1 hn
    obtain ⟨h1, h2, h4, F', h5, h6, h7⟩ := hI2
    have k2 : (s'.set (s.n + 2 + 1) LB).get (s.n + 2 + 1) = LB := dz0
    have k4 : (s'.set (s.n + 2 + 1) LB).get (s.n + 2) = .defd := dz1 hdd
    have h5' := h5
    have hF1 := h5.lt
    obtain ⟨mb, A, B, G, rfl, e1, e2, e3, e4, e5⟩ := h5
    have e1s : s'.get b = .cells [.m mb] := by rw [← e1, AState.get_set_ne _ _ (by have := h6.own b (by simp); omega)]
    have h1s := hI.b0
    refine st3 hLL h1s e1s ?_
    clear h1s e1s hI hLL hdd hln
    generalize s'.set (s.n + 2 + 1) LB = s1 at k2 k4 f3 h1 h2 h4 h5' h6 hF1 e1 e2 e4 ⊢
    have hb1 : b < s1.n := hF1 b (by simp)
    have hmb1 : mb < s1.n := hF1 mb (by simp)
    have hmbG : mb ∉ G := (List.nodup_cons.1 (List.nodup_cons.1 e5).2).1
    have hbG : b ∉ G := fun h => (List.nodup_cons.1 e5).1 (by simp [h])
    have hbmb : b ≠ mb := fun e => (List.nodup_cons.1 e5).1 (by simp [e])
    have hGn : G.Nodup := (List.nodup_cons.1 (List.nodup_cons.1 e5).2).2
    have hSM : Srt M1 := h5'.srt
    have close : ∀ M3 s2, s2.get (s.n + 2) = .defd → TakI s b b2 M3 F s2 → Lfi (FinS (some (s.n + 2)) (s.n + 2 + 1) LR LJ (TakI s b b2 M3 F) fun _ _ => False) none (s2.set (s.n + 2 + 1) LR) .a := fun M3 s2 g1 g2 => by
      have := g2.n
      exact fins_n (fun d hd => by cases hd; simp (disch := first | omega | (simp <;> omega) | fail) [g1]) (dz0) (g2.keep (by simp) fun x hx hn => dz1 hn)
    have hlk : (lk M1 i).isSome = (lk A i).isSome := by
      have := e4.no i
      rw [← e3.lk] at this
      cases h1 : lk A i <;> cases h2 : lk M1 i <;> simp_all
    rw [hlk]
    refine m_look (κ := Int) (A := A) (k := i) (b := mb) (enc := ptr) (by simp) e2 (by simp; rfl) ?_
    cases hl : lk A i with
    | some lb =>
      have hlv : lkV ptr A i (.v (.pointer none)) false = .p lb 0 := by unfold lkV; rw [hl]; rfl
      rw [hlv]
      refine st1 k2 ?_
      exact close _ s1 k4 ⟨h1, h2, h4, _, h5', h6, h7⟩
    | none =>
      have hlv : lkV ptr A i (.v (.pointer none)) false = .v (.pointer none) := by unfold lkV; rw [hl]; rfl
      rw [hlv]
      refine sd2 h1 e1 ?_
      refine run (rn_place_Log_Copy f3) (by simp) ?_
      rintro _ s2 ⟨lb, Fi', rfl, g1, g2, g3⟩
      refine ⟨m_ext g2.ext, ?_⟩
      refine sd0 ?_
      have gn := g2.n
      have gk := fun x (h : x < s1.n) => g2.get h
      refine q_mset (κ := Int) (A := A) (k := i) (v := lb) (b := mb) (enc := ptr) (by simp) ((gk mb hmb1).trans e2) (by simp; rfl) (by simp [ptr]) ?_
      obtain ⟨G2, r1, r2, r3⟩ := e4.add (i := i) g1 (.new g2 g3) hGn (by rw [← e3.lk]; exact hl)
      have hg2 : ∀ x ∈ G2, x ∉ [b, mb] := fun x hx hm => r2.apart (G := [b, mb]) (by simp [hbG, hmbG]) (by simp [hb1, hmb1]) x hm hx
      have r4 : LogsAt (s2.set mb (.map (encM ptr (setM A i lb)))) (putL B i lb) (putL M1 i v) G2 := r1.keep fun x hx => AState.get_set_ne _ _ (fun e => hg2 x hx (by simp [e]))
      have j2 : (s2.set mb (.map (encM ptr (setM A i lb)))).get (s.n + 2 + 1) = LB := by
        have := h7 mb (by simp)
        simp (disch := first | omega | (simp <;> omega) | fail) [gk, k2]
      refine sd0 ?_
      refine st1 j2 ?_
      have hmb2 := h7 mb (by simp)
      have m9 : ∀ x, x < s1.n → x ≠ mb → (s2.set mb (.map (encM ptr (setM A i lb)))).get x = s1.get x := fun x hx hn => by rw [AState.get_set_ne _ _ hn]; exact gk x hx
      have m6 : (s2.set mb (.map (encM ptr (setM A i lb)))).get mb = .map (encM ptr (setM A i lb)) := dz0
      have m10 : (s2.set mb (.map (encM ptr (setM A i lb)))).n = s2.n := rfl
      generalize s2.set mb (.map (encM ptr (setM A i lb))) = s3 at m6 m9 m10 r4 j2 ⊢
      refine close _ s3 ((m9 _ (by omega) (by omega)).trans k4) ?_
      have q5 : Mut (b :: mb :: G) (b :: mb :: G2) s1 s3 := by
        refine ⟨by omega, fun x hx hn => m9 x hx (fun e => hn (by simp [e])), fun x hx => ?_⟩
        rcases List.mem_cons.1 hx with rfl | hx
        · exact .inl (by simp)
        rcases List.mem_cons.1 hx with rfl | hx
        · exact .inl (by simp)
        rcases r2.own x hx with h8 | h8
        · exact .inl (by simp [h8])
        · exact .inr h8
      refine ⟨(m9 _ (by omega) (by omega)).trans h1, (m9 _ (by omega) (by omega)).trans h2, by omega, b :: mb :: G2, ⟨mb, _, _, G2, rfl, (m9 _ hb1 hbmb).trans e1, m6, e3.set i lb, r4, ?_⟩, h6.trans q5, fun x hx => ?_⟩
      · rw [List.nodup_cons, List.nodup_cons]
        exact ⟨by simp [hbmb]; exact fun h => hg2 b h (by simp), fun h => hg2 mb h (by simp), r3⟩
      · rcases q5.own x hx with h8 | h8
        · exact h7 x h8
        · exact .inr (by omega)
  · rintro s' hdd hln hI
    rw [List.take_length] at hI
    simp only [hsn] at hdd hln ⊢
    refine st0 ?_
    refine end_okD ?_ ?_ rfl ?_
    · simp (disch := first | omega | (simp <;> omega) | fail) [hdd]
    · simp
    obtain ⟨h1, h2, h4, F', h5, h6, h7⟩ := hI
    have hF := h5.lt
    have hk : ∀ x, x < s'.n → (x < s.n ∨ s.n + 4 ≤ x) → (killAll [s.n + 2] (s'.set (s.n + 2 + 1) .dead)).get x = s'.get x := fun x hx h8 => by
      simp only [killAll, List.foldl]
      rw [AState.get_set_ne _ _ (by omega), AState.get_set_ne _ _ (by omega)]
    exact ⟨F', h5.keep fun x hx => hk x (hF x hx) (h7 x hx), ⟨by simpa [killAll] using h6.n, fun x hx hn => (hk x (by have := h6.n; omega) (.inl hx)).trans (h6.keep x hx hn), h6.own⟩⟩
  · intro j s' _ _ h; exact h.elim
end Go.Proofs.YtmpoeamfcienoaaGreat
end
section
namespace Go.Ab
theorem srt_snoc {β : Type} {A : List (Int × β)} {i : Int} {v : β} (h : ∀ x ∈ A, x.1 < i) : putL A i v = A ++ [(i, v)] := by
  induction A with
  | nil => rfl
  | cons x A ih =>
    have hx := h x (by simp)
    rw [putL, if_neg (by show ¬ i < x.1; omega), if_neg (by omega), ih (fun y hy => h y (by simp [hy]))]; rfl
theorem takeL_nil {M : List (Int × LogV)} (hS : Srt M) : takeL [] M = M := by
  have h : ∀ k, k ≤ M.length → takeL [] (M.take k) = M.take k := by
    intro k
    induction k with
    | zero => intro _; simp [takeL]
    | succ k ih =>
      intro hk
      have hk' : k < M.length := hk
      rw [takeL_snoc hk', ih (by omega)]
      have hlt : ∀ x ∈ M.take k, x.1 < M[k].1 := fun x hx => by
        obtain ⟨j, hj, rfl⟩ := List.getElem_of_mem hx
        simp only [List.length_take] at hj
        rw [List.getElem_take]
        exact List.pairwise_iff_getElem.1 hS j k (by omega) hk' (by omega)
      rw [if_neg, srt_snoc hlt]
      · exact List.take_append_getElem hk'
      · have : lk (M.take k) M[k].1 = none := lk_none1.2 fun x hx e => by have := hlt x hx; omega
        rw [this]; simp
  have := h M.length (Nat.le_refl _)
  simpa using this
end Go.Ab
end
section
namespace Go.Proofs.YtmpoeamfcienoaaGreat
open Go.Ab
set_option linter.unusedVariables false
set_option linter.unusedSimpArgs false
set_option maxRecDepth 100000
set_option maxHeartbeats 1000000
theorem ct_laderef7_Without {l : List Grp} {i : Int} {s : AState} (hlen : (l.length : Int) * 72 ≤ 140737488355328) :
    Gives prog F_laderef7_Without [.sl (l.map Grp.av) .no, .v (.int .i64 i)] s (.sl ((l.filter fun g => !decide (g.id = i)).map Grp.av) .no) s := by
  refine Runs.gives' (runs_e h_laderef7_Without (Nat.le_of_ble_eq_true rfl) ?_) (flat_sl Grp.row _)
  refine st0 ?_
  refine loop_ok [0, 1, 5, 6] (fun r a s1 => ∃ (j : Nat) (tk : Tok), j + r = l.length ∧ Grows s s1 ∧ May s.n s1 (((l.take j).filter fun g => !decide (g.id = i)).map Grp.av) tk ∧ a = { t := den 28 [(0, .sl (l.map Grp.av) .no), (1, .v (.int .i64 i)), (5, .sl (((l.take j).filter fun g => !decide (g.id = i)).map Grp.av) tk), (6, .v (.int .i64 j))], d := [] }) l.length ?_ ?_
  · exact ⟨0, .zero, by simp, Grows.refl _, trivial, by simp⟩
  rintro r a s1 ⟨j, tk, hir, hg, hm, rfl⟩
  by_cases hlt : j < l.length
  · have w3 : IntKind.wrap .i64 ((j : Int) + 1) = (j : Int) + 1 := wrap_i64 (by omega) (by omega)
    have hsn := filt_snoc (p := fun g : Grp => !decide (g.id = i)) hlt
    have hfl := List.length_filter_le (fun g : Grp => !decide (g.id = i)) (l.take j)
    have htl : (l.take j).length ≤ j := by simp; omega
    by_cases hp : l[j].id = i
    · repeat (first | simp -dsimp -implicitDefEqProofs (disch := first | omega | (simp <;> omega) | fail) [hlt, hp] | ((with_reducible first | apply m_1 | apply m_0); (focus ((conv => lhs; simp -dsimp -implicitDefEqProofs (disch := first | omega | (simp <;> omega) | fail) [hlt, hp]); done))) | ((with_reducible first | apply i_T | apply g_T); (focus (simp -dsimp -implicitDefEqProofs (disch := first | omega | (simp <;> omega) | fail) [hlt, hp]; done))) | ((with_reducible first | apply i_F | apply g_F); (focus (simp -dsimp -implicitDefEqProofs (disch := first | omega | (simp <;> omega) | fail) [hlt, hp]; done))))
      refine ⟨r - 1, by omega, j + 1, tk, by omega, hg, ?_, ?_⟩
      · rw [hsn]; simpa [hp] using hm
      · rw [hsn]; simp [hp, w3]
    · repeat (first | simp -dsimp -implicitDefEqProofs (disch := first | omega | (simp <;> omega) | fail) [hlt, hp] | ((with_reducible first | apply m_1 | apply m_0); (focus ((conv => lhs; simp -dsimp -implicitDefEqProofs (disch := first | omega | (simp <;> omega) | fail) [hlt, hp]); done))) | ((with_reducible first | apply i_T | apply g_T); (focus (simp -dsimp -implicitDefEqProofs (disch := first | omega | (simp <;> omega) | fail) [hlt, hp]; done))) | ((with_reducible first | apply i_F | apply g_F); (focus (simp -dsimp -implicitDefEqProofs (disch := first | omega | (simp <;> omega) | fail) [hlt, hp]; done))))
      refine m_app (xs := ((l.take j).filter fun g => !decide (g.id = i)).map Grp.av) (tk := tk) (ys := [l[j].av]) (t2 := .zero) (B := s) (N := s.n) (by simp) (by simp) hg (Nat.le_refl _) hg.n hm (head_map Grp.row _) (by simp) (by simp at hfl ⊢; omega) (by simp at hfl ⊢; omega) ?_
      intro s2 tk2 hg2 hm2 _ _
      refine st0 ?_
      refine ⟨r - 1, by omega, j + 1, tk2, by omega, hg2, ?_, ?_⟩
      · rw [hsn]; simpa [hp] using hm2
      · rw [hsn]; simp [hp, w3]
  have : j = l.length := by omega
  subst this
  rw [List.take_length] at hm ⊢
  refine st1 hlt ?_
  exact ret_ok rfl ⟨hg, AV.le_no _ _⟩
theorem ct_laderef7_Many_At {b : Nat} {l : List Grp} {tk : Tok} {i : Int} {s : AState} (hb : s.get b = .cells [.sl (l.map Grp.av) tk]) (hlen : (l.length : Int) < 9223372036854775808) :
    Gives prog F_laderef7_Many_At [.p b 0, .v (.int .i64 i)] s (.v (.int .i64 (idxS (fun g => decide (g.id = i)) l))) s := by
  refine runs_e h_laderef7_Many_At (Nat.le_of_ble_eq_true rfl) ?_
  refine st0 ?_
  refine loop_ok [0, 1, 5] (fun k a s1 => s = s1 ∧ ∃ j : Nat, j + k = l.length ∧ (∀ x (hx : x < j) (hx' : x < l.length), decide (l[x].id = i) = false) ∧ a = { t := den 26 [(0, .p b 0), (1, .v (.int .i64 i)), (5, .v (.int .i64 j))], d := [] }) l.length ?_ ?_
  · exact ⟨rfl, 0, by simp, fun j hj => by omega, by simp⟩
  rintro k a _ ⟨rfl, j, hik, hno, rfl⟩
  by_cases hlt : j < l.length
  · have hw : IntKind.wrap .i64 ((j : Int) + 1) = (j : Int) + 1 := wrap_i64 (by omega) (by omega)
    by_cases he : l[j].id = i
    · repeat (first | simp -dsimp -implicitDefEqProofs (disch := first | omega | (simp <;> omega) | fail) [hlt, hb, he] | ((with_reducible first | apply m_1 | apply m_0); (focus ((conv => lhs; simp -dsimp -implicitDefEqProofs (disch := first | omega | (simp <;> omega) | fail) [hlt, hb, he]); done))) | ((with_reducible first | apply i_T | apply g_T); (focus (simp -dsimp -implicitDefEqProofs (disch := first | omega | (simp <;> omega) | fail) [hlt, hb, he]; done))) | ((with_reducible first | apply i_F | apply g_F); (focus (simp -dsimp -implicitDefEqProofs (disch := first | omega | (simp <;> omega) | fail) [hlt, hb, he]; done))))
      refine ret_ok rfl ⟨?_, rfl⟩
      rw [idxS_some hlt (fun x hx => hno x hx (by omega)) (by simp [he])]; rfl
    · repeat (first | simp -dsimp -implicitDefEqProofs (disch := first | omega | (simp <;> omega) | fail) [hlt, hb, he] | ((with_reducible first | apply m_1 | apply m_0); (focus ((conv => lhs; simp -dsimp -implicitDefEqProofs (disch := first | omega | (simp <;> omega) | fail) [hlt, hb, he]); done))) | ((with_reducible first | apply i_T | apply g_T); (focus (simp -dsimp -implicitDefEqProofs (disch := first | omega | (simp <;> omega) | fail) [hlt, hb, he]; done))) | ((with_reducible first | apply i_F | apply g_F); (focus (simp -dsimp -implicitDefEqProofs (disch := first | omega | (simp <;> omega) | fail) [hlt, hb, he]; done))))
      refine ⟨k - 1, by omega, rfl, j + 1, by omega, fun x hx hx' => ?_, by simp [hw]⟩
      by_cases e : x = j
      · subst e; simp [he]
      · exact hno x (by omega) hx'
  · refine st2 hlt hb ?_
    refine ret_ok rfl ⟨?_, rfl⟩
    rw [idxS_none (fun x hx => by obtain ⟨y, hy, rfl⟩ := List.getElem_of_mem hx; exact hno y (by omega) hy)]; rfl
theorem ct_laderef7_Many_Get {b : Nat} {l : List Grp} {tk : Tok} {i : Int} {s : AState} (hb : s.get b = .cells [.sl (l.map Grp.av) tk]) (hlen : (l.length : Int) < 9223372036854775808) :
    Gives prog F_laderef7_Many_Get [.p b 0, .v (.int .i64 i)] s (.tup [((getG l i).getD zeroG).av, .v (.bool (getG l i).isSome)]) s := by
  have hbn := AState.lt_of_get hb (by simp)
  refine Runs.gives' (runs_e h_laderef7_Many_Get (Nat.le_of_ble_eq_true rfl) ?_) (Flat.tup (by simp; exact ⟨(Grp.row _).flat, .v _⟩))
  refine st0 ?_
  refine gv (ct_laderef7_Many_At (b := b) (l := l) (tk := tk) (i := i) (dz1 hb) hlen) ?_
  cases h : l.findIdx? fun g => decide (g.id = i) with
  | none =>
    have hI : idxS (fun g : Grp => decide (g.id = i)) l = -1 := by unfold idxS; rw [h]
    have hG : getG l i = none := List.find?_eq_none.2 fun x hx => by have := List.findIdx?_eq_none_iff.1 h x hx; simpa using this
    rw [hI, hG]
    refine st0 ?_
    refine ret_ok (by simp; rfl) ⟨(Grows.refl s).alloc _, ?_⟩
    exact AV.le_tup2 ((AV.le_strip _).trans (by simp [Grp.av, Grp.cells, zeroG]; exact .refl _)) (.refl _)
  | some k =>
    have hI : idxS (fun g : Grp => decide (g.id = i)) l = k := by unfold idxS; rw [h]
    obtain ⟨hk, hp, hno⟩ := List.findIdx?_eq_some_iff_getElem.1 h
    have hG : getG l i = some l[k] := by
      unfold getG
      rw [List.find?_eq_some_iff_getElem]
      exact ⟨hp, k, hk, rfl, fun j hj => by have := hno j hj; simpa using this⟩
    rw [hI, hG]
    repeat (first | simp -dsimp -implicitDefEqProofs (disch := first | omega | (simp <;> omega) | fail) [hb, hk] | ((with_reducible first | apply m_1 | apply m_0); (focus ((conv => lhs; simp -dsimp -implicitDefEqProofs (disch := first | omega | (simp <;> omega) | fail) [hb, hk]); done))) | ((with_reducible first | apply i_T | apply g_T); (focus (simp -dsimp -implicitDefEqProofs (disch := first | omega | (simp <;> omega) | fail) [hb, hk]; done))) | ((with_reducible first | apply i_F | apply g_F); (focus (simp -dsimp -implicitDefEqProofs (disch := first | omega | (simp <;> omega) | fail) [hb, hk]; done))))
    refine ret_ok (by simp; rfl) ⟨(Grows.refl s).alloc _, .refl _⟩
theorem ct_laderef13_less {a b : Spt} {s : AState} : Gives prog F_laderef13_less [a.av, b.av] s (.v (.bool (lessS a b))) s := by
  refine Runs.gives' (runs_e h_laderef13_less (Nat.le_of_ble_eq_true rfl) ?_) (.v _)
  repeat' (first | refine sa0 ?_ | ((with_reducible first | apply s_split | apply s_gsplit) <;> (intro hb; have hb' := hb; try simp only [decide_eq_true_eq, decide_eq_false_iff_not, beq_iff_eq, beq_eq_false_iff_ne, bne_iff_ne, bne_eq_false_iff_eq, ne_eq, Bool.not_true, Bool.not_false, Bool.not_eq_true', Bool.not_eq_false', Bool.and_eq_true, Bool.or_eq_true, Bool.or_eq_false_iff] at hb; try simp at hb')))
  all_goals
    refine ret_ok (by simp; rfl) ⟨((Grows.refl s).alloc _).alloc _, ?_⟩
    simp [retVal, lessS, AV.le.refl, *]
end Go.Proofs.YtmpoeamfcienoaaGreat
end
section
namespace Go.Proofs.YtmpoeamfcienoaaGreat
open Go.Ab
set_option linter.unusedVariables false
set_option linter.unusedSimpArgs false
set_option maxRecDepth 100000
set_option maxHeartbeats 1000000
theorem ct_laderef7_With {l : List Grp} {g : Grp} {s : AState} (hlen : ((l.length : Int) + 1) * 72 ≤ 140737488355328) :
    Gives prog F_laderef7_With [.sl (l.map Grp.av) .no, g.av] s (.sl ((withS l g).map Grp.av) .no) s := by
  refine Runs.gives' (runs_e h_laderef7_With (Nat.le_of_ble_eq_true rfl) ?_) (flat_sl Grp.row _)
  refine st0 ?_
  generalize hle : (fun x : Grp => decide (g.id ≤ x.id)) = le
  generalize hne : (fun x : Grp => !decide (x.id = g.id)) = ne
  refine loop_ok [0, 3, 5, 6, 7] (fun r a s1 => ∃ (j : Nat) (tk : Tok) (dn : Bool) (out : List Grp), j + r = l.length ∧ insRun le ne g (l.take j) = (dn, out) ∧ Grows (s.alloc (.cells g.cells)) s1 ∧ May (s.n + 1) s1 (out.map Grp.av) tk ∧ a = { t := den 52 [(0, .sl (l.map Grp.av) .no), (3, .p s.n 0), (5, .sl (out.map Grp.av) tk), (6, .v (.bool dn)), (7, .v (.int .i64 j))], d := [] }) l.length ?_ ?_
  · exact ⟨0, .zero, false, [], by simp, rfl, Grows.refl _, trivial, by simp⟩
  rintro r a s1 ⟨j, tk, dn, out, hir, hS, hg, hm, rfl⟩
  have b0 : s1.get s.n = .cells g.cells := (hg.get (by simp)).trans (get_alloc_eq rfl)
  have hN : s.n + 1 ≤ s1.n := by have := hg.n; simpa using this
  obtain ⟨hln, hln2⟩ := insRun_len le ne g l j
  rw [hS] at hln hln2
  simp only at hln hln2
  by_cases hlt : j < l.length
  · have w3 : IntKind.wrap .i64 ((j : Int) + 1) = (j : Int) + 1 := wrap_i64 (by omega) (by omega)
    have hst := insRun_snoc le ne g hlt
    rw [hS] at hst
    have h2' : ne l[j] = !decide (l[j].id = g.id) := by rw [← hne]
    have h1' : le l[j] = decide (g.id ≤ l[j].id) := by rw [← hle]
    clear hS
    by_cases hx : dn = false ∧ g.id ≤ l[j].id
    · obtain ⟨rfl, h1⟩ := hx
      have hln2 := hln2 rfl
      repeat (first | simp -dsimp -implicitDefEqProofs (disch := first | omega | (simp <;> omega) | fail) [b0, hlt, h1] | ((with_reducible first | apply m_1 | apply m_0); (focus ((conv => lhs; simp -dsimp -implicitDefEqProofs (disch := first | omega | (simp <;> omega) | fail) [b0, hlt, h1]); done))) | ((with_reducible first | apply i_T | apply g_T); (focus (simp -dsimp -implicitDefEqProofs (disch := first | omega | (simp <;> omega) | fail) [b0, hlt, h1]; done))) | ((with_reducible first | apply i_F | apply g_F); (focus (simp -dsimp -implicitDefEqProofs (disch := first | omega | (simp <;> omega) | fail) [b0, hlt, h1]; done))))
      refine m_app (xs := out.map Grp.av) (tk := tk) (ys := [g.av]) (t2 := .zero) (B := s.alloc (.cells g.cells)) (N := s.n + 1) (by simp) (by simp) hg (by simp) hN hm (head_map Grp.row _) (by simp) (by simp; omega) (by simp; omega) ?_
      intro s2 tk2 hg2 hm2 _ _
      have b0 : s2.get s.n = .cells g.cells := (hg2.get (by simp)).trans (get_alloc_eq rfl)
      have hN : s.n + 1 ≤ s2.n := by have := hg2.n; simpa using this
      by_cases h2 : l[j].id = g.id
      · repeat (first | simp -dsimp -implicitDefEqProofs (disch := first | omega | (simp <;> omega) | fail) [b0, hlt, h2] | ((with_reducible first | apply m_1 | apply m_0); (focus ((conv => lhs; simp -dsimp -implicitDefEqProofs (disch := first | omega | (simp <;> omega) | fail) [b0, hlt, h2]); done))) | ((with_reducible first | apply i_T | apply g_T); (focus (simp -dsimp -implicitDefEqProofs (disch := first | omega | (simp <;> omega) | fail) [b0, hlt, h2]; done))) | ((with_reducible first | apply i_F | apply g_F); (focus (simp -dsimp -implicitDefEqProofs (disch := first | omega | (simp <;> omega) | fail) [b0, hlt, h2]; done))))
        exact ⟨r - 1, by omega, j + 1, tk2, true, out ++ [g], by omega, by rw [hst]; simp [insStep, h1, h1', h2', h2], hg2, by simpa using hm2, by simp [w3]⟩
      · repeat (first | simp -dsimp -implicitDefEqProofs (disch := first | omega | (simp <;> omega) | fail) [b0, hlt, h2] | ((with_reducible first | apply m_1 | apply m_0); (focus ((conv => lhs; simp -dsimp -implicitDefEqProofs (disch := first | omega | (simp <;> omega) | fail) [b0, hlt, h2]); done))) | ((with_reducible first | apply i_T | apply g_T); (focus (simp -dsimp -implicitDefEqProofs (disch := first | omega | (simp <;> omega) | fail) [b0, hlt, h2]; done))) | ((with_reducible first | apply i_F | apply g_F); (focus (simp -dsimp -implicitDefEqProofs (disch := first | omega | (simp <;> omega) | fail) [b0, hlt, h2]; done))))
        refine m_app (xs := out.map Grp.av ++ [g.av]) (tk := tk2) (ys := [l[j].av]) (t2 := .zero) (B := s.alloc (.cells g.cells)) (N := s.n + 1) (by simp) (by simp) hg2 (by simp) hN (by simpa using hm2) (by have := head_map (f := Grp.av) Grp.row (out ++ [g]); simpa using this) (by simp) (by simp; omega) (by simp; omega) ?_
        intro s3 tk3 hg3 hm3 _ _
        refine st0 ?_
        exact ⟨r - 1, by omega, j + 1, tk3, true, out ++ [g] ++ [l[j]], by omega, by rw [hst]; simp [insStep, h1, h1', h2', h2], hg3, by simpa using hm3, by simp [w3]⟩
    · have hst' : insRun le ne g (l.take (j + 1)) = (dn, if ne l[j] = true then out ++ [l[j]] else out) := by
        rw [hst]
        cases dn with
        | true => simp [insStep]
        | false =>
          have h1 : le l[j] = false := by rw [h1', decide_eq_false_iff_not]; exact fun h => hx ⟨rfl, h⟩
          simp [insStep, h1]
      clear hst
      by_cases h2 : l[j].id = g.id
      · cases dn with
        | true =>
          repeat (first | simp -dsimp -implicitDefEqProofs (disch := first | omega | (simp <;> omega) | fail) [b0, hlt, h2] | ((with_reducible first | apply m_1 | apply m_0); (focus ((conv => lhs; simp -dsimp -implicitDefEqProofs (disch := first | omega | (simp <;> omega) | fail) [b0, hlt, h2]); done))) | ((with_reducible first | apply i_T | apply g_T); (focus (simp -dsimp -implicitDefEqProofs (disch := first | omega | (simp <;> omega) | fail) [b0, hlt, h2]; done))) | ((with_reducible first | apply i_F | apply g_F); (focus (simp -dsimp -implicitDefEqProofs (disch := first | omega | (simp <;> omega) | fail) [b0, hlt, h2]; done))))
          exact ⟨r - 1, by omega, j + 1, tk, true, out, by omega, by rw [hst']; simp [h2', h2], hg, hm, by simp [w3]⟩
        | false =>
          exact absurd ⟨rfl, by omega⟩ hx
      · cases dn with
        | true =>
          repeat (first | simp -dsimp -implicitDefEqProofs (disch := first | omega | (simp <;> omega) | fail) [b0, hlt, h2] | ((with_reducible first | apply m_1 | apply m_0); (focus ((conv => lhs; simp -dsimp -implicitDefEqProofs (disch := first | omega | (simp <;> omega) | fail) [b0, hlt, h2]); done))) | ((with_reducible first | apply i_T | apply g_T); (focus (simp -dsimp -implicitDefEqProofs (disch := first | omega | (simp <;> omega) | fail) [b0, hlt, h2]; done))) | ((with_reducible first | apply i_F | apply g_F); (focus (simp -dsimp -implicitDefEqProofs (disch := first | omega | (simp <;> omega) | fail) [b0, hlt, h2]; done))))
          refine m_app (xs := out.map Grp.av) (tk := tk) (ys := [l[j].av]) (t2 := .zero) (B := s.alloc (.cells g.cells)) (N := s.n + 1) (by simp) (by simp) hg (by simp) hN hm (head_map Grp.row _) (by simp) (by simp; omega) (by simp; omega) ?_
          intro s3 tk3 hg3 hm3 _ _
          refine st0 ?_
          exact ⟨r - 1, by omega, j + 1, tk3, true, out ++ [l[j]], by omega, by rw [hst']; simp [h2', h2], hg3, by simpa using hm3, by simp [w3]⟩
        | false =>
          have h1 : ¬ g.id ≤ l[j].id := fun h => hx ⟨rfl, h⟩
          repeat (first | simp -dsimp -implicitDefEqProofs (disch := first | omega | (simp <;> omega) | fail) [b0, hlt, h2, h1] | ((with_reducible first | apply m_1 | apply m_0); (focus ((conv => lhs; simp -dsimp -implicitDefEqProofs (disch := first | omega | (simp <;> omega) | fail) [b0, hlt, h2, h1]); done))) | ((with_reducible first | apply i_T | apply g_T); (focus (simp -dsimp -implicitDefEqProofs (disch := first | omega | (simp <;> omega) | fail) [b0, hlt, h2, h1]; done))) | ((with_reducible first | apply i_F | apply g_F); (focus (simp -dsimp -implicitDefEqProofs (disch := first | omega | (simp <;> omega) | fail) [b0, hlt, h2, h1]; done))))
          refine m_app (xs := out.map Grp.av) (tk := tk) (ys := [l[j].av]) (t2 := .zero) (B := s.alloc (.cells g.cells)) (N := s.n + 1) (by simp) (by simp) hg (by simp) hN hm (head_map Grp.row _) (by simp) (by simp; omega) (by simp; omega) ?_
          intro s3 tk3 hg3 hm3 _ _
          refine st0 ?_
          exact ⟨r - 1, by omega, j + 1, tk3, false, out ++ [l[j]], by omega, by rw [hst']; simp [h2', h2], hg3, by simpa using hm3, by simp [w3]⟩
  have : j = l.length := by omega
  subst this
  rw [List.take_length] at hS
  have hfin : withS l g = insEnd g (dn, out) := by unfold withS insL; rw [hle, hne, hS]
  rw [hfin]
  cases dn with
  | true =>
    refine st1 hlt ?_
    exact ret_ok rfl ⟨((Grows.refl s).alloc _).trans hg, AV.le_no _ _⟩
  | false =>
    have hln2 := hln2 rfl
    refine st2 hlt b0 ?_
    refine m_app (xs := out.map Grp.av) (tk := tk) (ys := [g.av]) (t2 := .zero) (B := s.alloc (.cells g.cells)) (N := s.n + 1) (by simp) (by simp) hg (by simp) hN hm (head_map Grp.row _) (by simp) (by simp; omega) (by simp; omega) ?_
    intro s2 tk2 hg2 hm2 _ _
    refine st0 ?_
    exact ret_ok rfl ⟨((Grows.refl s).alloc _).trans hg2, by simpa [insEnd, retVal] using AV.le_no _ _⟩
theorem rn_laderef13_Ledger_lay {b : Nat} {L : List Grp} {l : List Spt} {t1 t2 : Tok} {x : Spt} {s : AState} (hb : s.get b = .cells [.sl (L.map Grp.av) t1, .sl (l.map Spt.av) t2]) (hlen : ((l.length : Int) + 1) * 32 ≤ 140737488355328) :
    Runs (compCode prog) prog F_laderef13_Ledger_lay [.p b 0, x.av] s (fun _ s' => ∃ tk, s'.get b = .cells [.sl (L.map Grp.av) t1, .sl ((layS l x).map Spt.av) tk] ∧ Mut [b] [b] s s') := by
  have hbn := AState.lt_of_get hb (by simp)
  refine runs_e h_laderef13_Ledger_lay (Nat.le_of_ble_eq_true rfl) ?_
  refine st0 ?_
  generalize hle : (fun y : Spt => !lessS y x) = le
  generalize hne : (fun y : Spt => !decide (y.gr = x.gr) || !decide (y.ix = x.ix)) = ne
  have fin : ∀ {s1 : AState} {out : List AV} {tk : Tok}, Grows (s.alloc (.cells x.cells)) s1 → Mut [b] [b] s (s1.set b (.cells [.sl (L.map Grp.av) t1, .sl out tk])) := fun hg => by
    refine ⟨by have := hg.n; simp at this ⊢; omega, fun y hy hn => ?_, fun y hy => .inl hy⟩
    rw [AState.get_set_ne _ _ (by simpa using hn), hg.get (by simp; omega), get_alloc_ne (by omega)]
  refine loop_ok [0, 3, 4, 5, 6] (fun r a s1 => ∃ (j : Nat) (tk : Tok) (dn : Bool) (out : List Spt), j + r = l.length ∧ insRun le ne x (l.take j) = (dn, out) ∧ Grows (s.alloc (.cells x.cells)) s1 ∧ May (s.n + 1) s1 (out.map Spt.av) tk ∧ a = { t := den 78 [(0, .p b 0), (3, .p s.n 0), (4, .sl (out.map Spt.av) tk), (5, .v (.bool dn)), (6, .v (.int .i64 j))], d := [] }) l.length ?_ ?_
  · exact ⟨0, .zero, false, [], by simp, rfl, Grows.refl _, trivial, by simp⟩
  rintro r a s1 ⟨j, tk, dn, out, hir, hS, hg, hm, rfl⟩
  have b0 : s1.get s.n = .cells x.cells := (hg.get (by simp)).trans (get_alloc_eq rfl)
  have hb1 : s1.get b = .cells [.sl (L.map Grp.av) t1, .sl (l.map Spt.av) t2] := ((hg.get (by simp; omega)).trans (get_alloc_ne (by omega))).trans hb
  have hN : s.n + 1 ≤ s1.n := by have := hg.n; simpa using this
  obtain ⟨hln, hln2⟩ := insRun_len le ne x l j
  rw [hS] at hln hln2
  simp only at hln hln2
  by_cases hlt : j < l.length
  · have w3 : IntKind.wrap .i64 ((j : Int) + 1) = (j : Int) + 1 := wrap_i64 (by omega) (by omega)
    have hst := insRun_snoc le ne x hlt
    rw [hS] at hst
    have h2' : ne l[j] = (!decide (l[j].gr = x.gr) || !decide (l[j].ix = x.ix)) := by rw [← hne]
    have h1' : le l[j] = !lessS l[j] x := by rw [← hle]
    clear hS
    by_cases hx : dn = false ∧ lessS l[j] x = false
    · obtain ⟨rfl, h1⟩ := hx
      have hln2 := hln2 rfl
      repeat (first | simp -dsimp -implicitDefEqProofs (disch := first | omega | (simp <;> omega) | fail) [b0, hb1, hlt] | ((with_reducible first | apply m_1 | apply m_0); (focus ((conv => lhs; simp -dsimp -implicitDefEqProofs (disch := first | omega | (simp <;> omega) | fail) [b0, hb1, hlt]); done))) | ((with_reducible first | apply i_T | apply g_T); (focus (simp -dsimp -implicitDefEqProofs (disch := first | omega | (simp <;> omega) | fail) [b0, hb1, hlt]; done))) | ((with_reducible first | apply i_F | apply g_F); (focus (simp -dsimp -implicitDefEqProofs (disch := first | omega | (simp <;> omega) | fail) [b0, hb1, hlt]; done))))
      refine gv (ct_laderef13_less (a := l[j]) (b := x)) ?_
      refine st4 b0 hb1 hlt h1 ?_
      refine m_app (xs := out.map Spt.av) (tk := tk) (ys := [x.av]) (t2 := .zero) (B := s.alloc (.cells x.cells)) (N := s.n + 1) (by simp) (by simp) hg (by simp) hN hm (head_map Spt.row _) (by simp) (by simp; omega) (by simp; omega) ?_
      intro s2 tk2 hg2 hm2 _ _
      have b0 : s2.get s.n = .cells x.cells := (hg2.get (by simp)).trans (get_alloc_eq rfl)
      have hb1 : s2.get b = .cells [.sl (L.map Grp.av) t1, .sl (l.map Spt.av) t2] := ((hg2.get (by simp; omega)).trans (get_alloc_ne (by omega))).trans hb
      have hN : s.n + 1 ≤ s2.n := by have := hg2.n; simpa using this
      by_cases h2 : l[j].gr = x.gr
      · by_cases h3 : l[j].ix = x.ix
        · repeat (first | simp -dsimp -implicitDefEqProofs (disch := first | omega | (simp <;> omega) | fail) [b0, hb1, hlt, h2, h3] | ((with_reducible first | apply m_1 | apply m_0); (focus ((conv => lhs; simp -dsimp -implicitDefEqProofs (disch := first | omega | (simp <;> omega) | fail) [b0, hb1, hlt, h2, h3]); done))) | ((with_reducible first | apply i_T | apply g_T); (focus (simp -dsimp -implicitDefEqProofs (disch := first | omega | (simp <;> omega) | fail) [b0, hb1, hlt, h2, h3]; done))) | ((with_reducible first | apply i_F | apply g_F); (focus (simp -dsimp -implicitDefEqProofs (disch := first | omega | (simp <;> omega) | fail) [b0, hb1, hlt, h2, h3]; done))))
          exact ⟨r - 1, by omega, j + 1, tk2, true, out ++ [x], by omega, by rw [hst]; simp [insStep, h1, h1', h2', h2, h3], hg2, by simpa using hm2, by simp [w3]⟩
        · repeat (first | simp -dsimp -implicitDefEqProofs (disch := first | omega | (simp <;> omega) | fail) [b0, hb1, hlt, h2, h3] | ((with_reducible first | apply m_1 | apply m_0); (focus ((conv => lhs; simp -dsimp -implicitDefEqProofs (disch := first | omega | (simp <;> omega) | fail) [b0, hb1, hlt, h2, h3]); done))) | ((with_reducible first | apply i_T | apply g_T); (focus (simp -dsimp -implicitDefEqProofs (disch := first | omega | (simp <;> omega) | fail) [b0, hb1, hlt, h2, h3]; done))) | ((with_reducible first | apply i_F | apply g_F); (focus (simp -dsimp -implicitDefEqProofs (disch := first | omega | (simp <;> omega) | fail) [b0, hb1, hlt, h2, h3]; done))))
          refine m_app (xs := out.map Spt.av ++ [x.av]) (tk := tk2) (ys := [l[j].av]) (t2 := .zero) (B := s.alloc (.cells x.cells)) (N := s.n + 1) (by simp) (by simp) hg2 (by simp) hN (by simpa using hm2) (by have := head_map (f := Spt.av) Spt.row (out ++ [x]); simpa using this) (by simp) (by simp; omega) (by simp; omega) ?_
          intro s3 tk3 hg3 hm3 _ _
          refine st0 ?_
          exact ⟨r - 1, by omega, j + 1, tk3, true, out ++ [x] ++ [l[j]], by omega, by rw [hst]; simp [insStep, h1, h1', h2', h2, h3], hg3, by simpa using hm3, by simp [w3]⟩
      · repeat (first | simp -dsimp -implicitDefEqProofs (disch := first | omega | (simp <;> omega) | fail) [b0, hb1, hlt, h2] | ((with_reducible first | apply m_1 | apply m_0); (focus ((conv => lhs; simp -dsimp -implicitDefEqProofs (disch := first | omega | (simp <;> omega) | fail) [b0, hb1, hlt, h2]); done))) | ((with_reducible first | apply i_T | apply g_T); (focus (simp -dsimp -implicitDefEqProofs (disch := first | omega | (simp <;> omega) | fail) [b0, hb1, hlt, h2]; done))) | ((with_reducible first | apply i_F | apply g_F); (focus (simp -dsimp -implicitDefEqProofs (disch := first | omega | (simp <;> omega) | fail) [b0, hb1, hlt, h2]; done))))
        refine m_app (xs := out.map Spt.av ++ [x.av]) (tk := tk2) (ys := [l[j].av]) (t2 := .zero) (B := s.alloc (.cells x.cells)) (N := s.n + 1) (by simp) (by simp) hg2 (by simp) hN (by simpa using hm2) (by have := head_map (f := Spt.av) Spt.row (out ++ [x]); simpa using this) (by simp) (by simp; omega) (by simp; omega) ?_
        intro s3 tk3 hg3 hm3 _ _
        refine st0 ?_
        exact ⟨r - 1, by omega, j + 1, tk3, true, out ++ [x] ++ [l[j]], by omega, by rw [hst]; simp [insStep, h1, h1', h2', h2], hg3, by simpa using hm3, by simp [w3]⟩
    · have hst' : insRun le ne x (l.take (j + 1)) = (dn, if ne l[j] = true then out ++ [l[j]] else out) := by
        rw [hst]
        cases dn with
        | true => simp [insStep]
        | false =>
          have h1 : le l[j] = false := by
            rw [h1']
            cases h : lessS l[j] x with
            | true => rfl
            | false => exact absurd ⟨rfl, h⟩ hx
          simp [insStep, h1]
      clear hst
      by_cases h2 : l[j].gr = x.gr
      · by_cases h3 : l[j].ix = x.ix
        · cases dn with
          | true =>
            repeat (first | simp -dsimp -implicitDefEqProofs (disch := first | omega | (simp <;> omega) | fail) [b0, hb1, hlt, h2, h3] | ((with_reducible first | apply m_1 | apply m_0); (focus ((conv => lhs; simp -dsimp -implicitDefEqProofs (disch := first | omega | (simp <;> omega) | fail) [b0, hb1, hlt, h2, h3]); done))) | ((with_reducible first | apply i_T | apply g_T); (focus (simp -dsimp -implicitDefEqProofs (disch := first | omega | (simp <;> omega) | fail) [b0, hb1, hlt, h2, h3]; done))) | ((with_reducible first | apply i_F | apply g_F); (focus (simp -dsimp -implicitDefEqProofs (disch := first | omega | (simp <;> omega) | fail) [b0, hb1, hlt, h2, h3]; done))))
            exact ⟨r - 1, by omega, j + 1, tk, true, out, by omega, by rw [hst']; simp [h2', h2, h3], hg, hm, by simp [w3]⟩
          | false =>
            exact absurd ⟨rfl, by simp [lessS, h2, h3]⟩ hx
        · cases dn with
          | true =>
            repeat (first | simp -dsimp -implicitDefEqProofs (disch := first | omega | (simp <;> omega) | fail) [b0, hb1, hlt, h2, h3] | ((with_reducible first | apply m_1 | apply m_0); (focus ((conv => lhs; simp -dsimp -implicitDefEqProofs (disch := first | omega | (simp <;> omega) | fail) [b0, hb1, hlt, h2, h3]); done))) | ((with_reducible first | apply i_T | apply g_T); (focus (simp -dsimp -implicitDefEqProofs (disch := first | omega | (simp <;> omega) | fail) [b0, hb1, hlt, h2, h3]; done))) | ((with_reducible first | apply i_F | apply g_F); (focus (simp -dsimp -implicitDefEqProofs (disch := first | omega | (simp <;> omega) | fail) [b0, hb1, hlt, h2, h3]; done))))
            refine m_app (xs := out.map Spt.av) (tk := tk) (ys := [l[j].av]) (t2 := .zero) (B := s.alloc (.cells x.cells)) (N := s.n + 1) (by simp) (by simp) hg (by simp) hN hm (head_map Spt.row _) (by simp) (by simp; omega) (by simp; omega) ?_
            intro s3 tk3 hg3 hm3 _ _
            refine st0 ?_
            exact ⟨r - 1, by omega, j + 1, tk3, true, out ++ [l[j]], by omega, by rw [hst']; simp [h2', h2, h3], hg3, by simpa using hm3, by simp [w3]⟩
          | false =>
            have h1 : lessS l[j] x = true := by
              cases h : lessS l[j] x with
              | true => rfl
              | false => exact absurd ⟨rfl, h⟩ hx
            repeat (first | simp -dsimp -implicitDefEqProofs (disch := first | omega | (simp <;> omega) | fail) [b0, hb1, hlt] | ((with_reducible first | apply m_1 | apply m_0); (focus ((conv => lhs; simp -dsimp -implicitDefEqProofs (disch := first | omega | (simp <;> omega) | fail) [b0, hb1, hlt]); done))) | ((with_reducible first | apply i_T | apply g_T); (focus (simp -dsimp -implicitDefEqProofs (disch := first | omega | (simp <;> omega) | fail) [b0, hb1, hlt]; done))) | ((with_reducible first | apply i_F | apply g_F); (focus (simp -dsimp -implicitDefEqProofs (disch := first | omega | (simp <;> omega) | fail) [b0, hb1, hlt]; done))))
            refine gv (ct_laderef13_less (a := l[j]) (b := x)) ?_
            repeat (first | simp -dsimp -implicitDefEqProofs (disch := first | omega | (simp <;> omega) | fail) [b0, hb1, hlt, h1, h2, h3] | ((with_reducible first | apply m_1 | apply m_0); (focus ((conv => lhs; simp -dsimp -implicitDefEqProofs (disch := first | omega | (simp <;> omega) | fail) [b0, hb1, hlt, h1, h2, h3]); done))) | ((with_reducible first | apply i_T | apply g_T); (focus (simp -dsimp -implicitDefEqProofs (disch := first | omega | (simp <;> omega) | fail) [b0, hb1, hlt, h1, h2, h3]; done))) | ((with_reducible first | apply i_F | apply g_F); (focus (simp -dsimp -implicitDefEqProofs (disch := first | omega | (simp <;> omega) | fail) [b0, hb1, hlt, h1, h2, h3]; done))))
            refine m_app (xs := out.map Spt.av) (tk := tk) (ys := [l[j].av]) (t2 := .zero) (B := s.alloc (.cells x.cells)) (N := s.n + 1) (by simp) (by simp) hg (by simp) hN hm (head_map Spt.row _) (by simp) (by simp; omega) (by simp; omega) ?_
            intro s3 tk3 hg3 hm3 _ _
            refine st0 ?_
            exact ⟨r - 1, by omega, j + 1, tk3, false, out ++ [l[j]], by omega, by rw [hst']; simp [h2', h2, h3], hg3, by simpa using hm3, by simp [w3]⟩
      · cases dn with
        | true =>
          repeat (first | simp -dsimp -implicitDefEqProofs (disch := first | omega | (simp <;> omega) | fail) [b0, hb1, hlt, h2] | ((with_reducible first | apply m_1 | apply m_0); (focus ((conv => lhs; simp -dsimp -implicitDefEqProofs (disch := first | omega | (simp <;> omega) | fail) [b0, hb1, hlt, h2]); done))) | ((with_reducible first | apply i_T | apply g_T); (focus (simp -dsimp -implicitDefEqProofs (disch := first | omega | (simp <;> omega) | fail) [b0, hb1, hlt, h2]; done))) | ((with_reducible first | apply i_F | apply g_F); (focus (simp -dsimp -implicitDefEqProofs (disch := first | omega | (simp <;> omega) | fail) [b0, hb1, hlt, h2]; done))))
          refine m_app (xs := out.map Spt.av) (tk := tk) (ys := [l[j].av]) (t2 := .zero) (B := s.alloc (.cells x.cells)) (N := s.n + 1) (by simp) (by simp) hg (by simp) hN hm (head_map Spt.row _) (by simp) (by simp; omega) (by simp; omega) ?_
          intro s3 tk3 hg3 hm3 _ _
          refine st0 ?_
          exact ⟨r - 1, by omega, j + 1, tk3, true, out ++ [l[j]], by omega, by rw [hst']; simp [h2', h2], hg3, by simpa using hm3, by simp [w3]⟩
        | false =>
          have h1 : lessS l[j] x = true := by
            cases h : lessS l[j] x with
            | true => rfl
            | false => exact absurd ⟨rfl, h⟩ hx
          repeat (first | simp -dsimp -implicitDefEqProofs (disch := first | omega | (simp <;> omega) | fail) [b0, hb1, hlt] | ((with_reducible first | apply m_1 | apply m_0); (focus ((conv => lhs; simp -dsimp -implicitDefEqProofs (disch := first | omega | (simp <;> omega) | fail) [b0, hb1, hlt]); done))) | ((with_reducible first | apply i_T | apply g_T); (focus (simp -dsimp -implicitDefEqProofs (disch := first | omega | (simp <;> omega) | fail) [b0, hb1, hlt]; done))) | ((with_reducible first | apply i_F | apply g_F); (focus (simp -dsimp -implicitDefEqProofs (disch := first | omega | (simp <;> omega) | fail) [b0, hb1, hlt]; done))))
          refine gv (ct_laderef13_less (a := l[j]) (b := x)) ?_
          repeat (first | simp -dsimp -implicitDefEqProofs (disch := first | omega | (simp <;> omega) | fail) [b0, hb1, hlt, h1, h2] | ((with_reducible first | apply m_1 | apply m_0); (focus ((conv => lhs; simp -dsimp -implicitDefEqProofs (disch := first | omega | (simp <;> omega) | fail) [b0, hb1, hlt, h1, h2]); done))) | ((with_reducible first | apply i_T | apply g_T); (focus (simp -dsimp -implicitDefEqProofs (disch := first | omega | (simp <;> omega) | fail) [b0, hb1, hlt, h1, h2]; done))) | ((with_reducible first | apply i_F | apply g_F); (focus (simp -dsimp -implicitDefEqProofs (disch := first | omega | (simp <;> omega) | fail) [b0, hb1, hlt, h1, h2]; done))))
          refine m_app (xs := out.map Spt.av) (tk := tk) (ys := [l[j].av]) (t2 := .zero) (B := s.alloc (.cells x.cells)) (N := s.n + 1) (by simp) (by simp) hg (by simp) hN hm (head_map Spt.row _) (by simp) (by simp; omega) (by simp; omega) ?_
          intro s3 tk3 hg3 hm3 _ _
          refine st0 ?_
          exact ⟨r - 1, by omega, j + 1, tk3, false, out ++ [l[j]], by omega, by rw [hst']; simp [h2', h2], hg3, by simpa using hm3, by simp [w3]⟩
  have : j = l.length := by omega
  subst this
  rw [List.take_length] at hS
  have hfin : layS l x = insEnd x (dn, out) := by unfold layS insL; rw [hle, hne, hS]
  rw [hfin]
  cases dn with
  | true =>
    refine st2 hlt hb1 ?_
    exact end_ok rfl ⟨tk, by simp (disch := first | omega | (simp <;> omega) | fail) [insEnd], fin hg⟩
  | false =>
    have hln2 := hln2 rfl
    refine st3 hlt b0 hb1 ?_
    refine m_app (xs := out.map Spt.av) (tk := tk) (ys := [x.av]) (t2 := .zero) (B := s.alloc (.cells x.cells)) (N := s.n + 1) (by simp) (by simp) hg (by simp) hN hm (head_map Spt.row _) (by simp) (by simp; omega) (by simp; omega) ?_
    intro s2 tk2 hg2 hm2 _ _
    have hb1 : s2.get b = .cells [.sl (L.map Grp.av) t1, .sl (l.map Spt.av) t2] := ((hg2.get (by simp; omega)).trans (get_alloc_ne (by omega))).trans hb
    refine st1 hb1 ?_
    have hbs := AState.lt_of_get hb1 (by simp)
    exact end_ok rfl ⟨tk2, by simp (disch := first | omega | (simp <;> omega) | fail) [insEnd], fin hg2⟩
end Go.Proofs.YtmpoeamfcienoaaGreat
end
section
namespace Go.Proofs.YtmpoeamfcienoaaGreat
open Go.Ab
set_option linter.unusedVariables false
set_option linter.unusedSimpArgs false
set_option maxRecDepth 100000
set_option maxHeartbeats 1000000
theorem rn_laderef13_Ledger_clear {b : Nat} {L : List Grp} {l : List Spt} {t1 t2 : Tok} {id : Int} {g : Grp} {th : Bool} {s : AState} (hb : s.get b = .cells [.sl (L.map Grp.av) t1, .sl (l.map Spt.av) t2]) (hlen : (l.length : Int) * 32 ≤ 140737488355328) (hgl : (g.es.length : Int) < 9223372036854775808) :
    Runs (compCode prog) prog F_laderef13_Ledger_clear [.p b 0, .v (.int .i64 id), g.av, .v (.bool th)] s (fun _ s' => ∃ tk, s'.get b = .cells [.sl (L.map Grp.av) t1, .sl ((l.filter (keepS id g th)).map Spt.av) tk] ∧ Mut [b] [b] s s') := by
  have hbn := AState.lt_of_get hb (by simp)
  refine runs_e h_laderef13_Ledger_clear (Nat.le_of_ble_eq_true rfl) ?_
  refine st0 ?_
  have fin : ∀ {s1 : AState} {out : List AV} {tk : Tok}, Grows (s.alloc (.cells g.cells)) s1 → Mut [b] [b] s (s1.set b (.cells [.sl (L.map Grp.av) t1, .sl out tk])) := fun hg => by
    refine ⟨by have := hg.n; simp at this ⊢; omega, fun y hy hn => ?_, fun y hy => .inl hy⟩
    rw [AState.get_set_ne _ _ (by simpa using hn), hg.get (by simp; omega), get_alloc_ne (by omega)]
  refine loop_ok [0, 1, 3, 6, 8, 9] (fun r a s1 => ∃ (j : Nat) (tk : Tok), j + r = l.length ∧ Grows (s.alloc (.cells g.cells)) s1 ∧ May (s.n + 1) s1 (((l.take j).filter (keepS id g th)).map Spt.av) tk ∧ a = { t := den 54 [(0, .p b 0), (1, .v (.int .i64 id)), (3, .v (.bool th)), (6, .p s.n 0), (8, .sl (((l.take j).filter (keepS id g th)).map Spt.av) tk), (9, .v (.int .i64 j))], d := [] }) l.length ?_ ?_
  · exact ⟨0, .zero, by simp, Grows.refl _, trivial, by simp⟩
  rintro r a s1 ⟨j, tk, hir, hg, hm, rfl⟩
  have b0 : s1.get s.n = .cells g.cells := (hg.get (by simp)).trans (get_alloc_eq rfl)
  have hb1 : s1.get b = .cells [.sl (L.map Grp.av) t1, .sl (l.map Spt.av) t2] := ((hg.get (by simp; omega)).trans (get_alloc_ne (by omega))).trans hb
  have hN : s.n + 1 ≤ s1.n := by have := hg.n; simpa using this
  by_cases hlt : j < l.length
  · have w3 : IntKind.wrap .i64 ((j : Int) + 1) = (j : Int) + 1 := wrap_i64 (by omega) (by omega)
    have hsn := filt_snoc (p := keepS id g th) hlt
    have hfl := List.length_filter_le (keepS id g th) (l.take j)
    have htl : (l.take j).length ≤ j := by simp; omega
    have hany := idxS_any (fun e : Ent => decide (e.ix = l[j].ix)) g.es
    by_cases h1 : l[j].gr = id
    · cases th with
      | false =>
        have hk : keepS id g false l[j] = false := by simp [keepS, h1]
        repeat (first | simp -dsimp -implicitDefEqProofs (disch := first | omega | (simp <;> omega) | fail) [b0, hb1, hlt, h1] | ((with_reducible first | apply m_1 | apply m_0); (focus ((conv => lhs; simp -dsimp -implicitDefEqProofs (disch := first | omega | (simp <;> omega) | fail) [b0, hb1, hlt, h1]); done))) | ((with_reducible first | apply i_T | apply g_T); (focus (simp -dsimp -implicitDefEqProofs (disch := first | omega | (simp <;> omega) | fail) [b0, hb1, hlt, h1]; done))) | ((with_reducible first | apply i_F | apply g_F); (focus (simp -dsimp -implicitDefEqProofs (disch := first | omega | (simp <;> omega) | fail) [b0, hb1, hlt, h1]; done))))
        exact ⟨r - 1, by omega, j + 1, tk, by omega, hg.alloc _, by rw [hsn, hk]; simpa using hm.alloc _, by rw [hsn, hk]; simp [w3]⟩
      | true =>
        by_cases h2 : l[j].ix ≤ 0
        · have hk : keepS id g true l[j] = true := by simp [keepS, h1, h2]
          repeat (first | simp -dsimp -implicitDefEqProofs (disch := first | omega | (simp <;> omega) | fail) [b0, hb1, hlt, h1, h2] | ((with_reducible first | apply m_1 | apply m_0); (focus ((conv => lhs; simp -dsimp -implicitDefEqProofs (disch := first | omega | (simp <;> omega) | fail) [b0, hb1, hlt, h1, h2]); done))) | ((with_reducible first | apply i_T | apply g_T); (focus (simp -dsimp -implicitDefEqProofs (disch := first | omega | (simp <;> omega) | fail) [b0, hb1, hlt, h1, h2]; done))) | ((with_reducible first | apply i_F | apply g_F); (focus (simp -dsimp -implicitDefEqProofs (disch := first | omega | (simp <;> omega) | fail) [b0, hb1, hlt, h1, h2]; done))))
          refine m_app (xs := ((l.take j).filter (keepS id g _)).map Spt.av) (tk := tk) (ys := [l[j].av]) (t2 := .zero) (B := s.alloc (.cells g.cells)) (N := s.n + 1) (by simp) (by simp) (hg.alloc _) (by simp) (by simp; omega) (hm.alloc _) (head_map Spt.row _) (by simp) (by simp at hfl ⊢; omega) (by simp at hfl ⊢; omega) ?_
          intro s3 tk3 hg3 hm3 _ _
          refine st0 ?_
          exact ⟨r - 1, by omega, j + 1, tk3, by omega, hg3, by rw [hsn, hk]; simpa using hm3, by rw [hsn, hk]; simp [w3]⟩
        · repeat (first | simp -dsimp -implicitDefEqProofs (disch := first | omega | (simp <;> omega) | fail) [b0, hb1, hlt, h1, h2] | ((with_reducible first | apply m_1 | apply m_0); (focus ((conv => lhs; simp -dsimp -implicitDefEqProofs (disch := first | omega | (simp <;> omega) | fail) [b0, hb1, hlt, h1, h2]); done))) | ((with_reducible first | apply i_T | apply g_T); (focus (simp -dsimp -implicitDefEqProofs (disch := first | omega | (simp <;> omega) | fail) [b0, hb1, hlt, h1, h2]; done))) | ((with_reducible first | apply i_F | apply g_F); (focus (simp -dsimp -implicitDefEqProofs (disch := first | omega | (simp <;> omega) | fail) [b0, hb1, hlt, h1, h2]; done))))
          refine gv (ct_laderef6_At (g := g) (i := l[j].ix) hgl) ?_
          by_cases h3 : 0 ≤ idxS (fun e : Ent => decide (e.ix = l[j].ix)) g.es
          · have hk : keepS id g true l[j] = true := by rw [decide_eq_true h3] at hany; simp only [keepS, hasIx, ← hany]; simp
            refine st6 b0 hb1 hlt h1 h2 h3 ?_
            refine m_app (xs := ((l.take j).filter (keepS id g _)).map Spt.av) (tk := tk) (ys := [l[j].av]) (t2 := .zero) (B := s.alloc (.cells g.cells)) (N := s.n + 1) (by simp) (by simp) (hg.alloc _) (by simp) (by simp; omega) (hm.alloc _) (head_map Spt.row _) (by simp) (by simp at hfl ⊢; omega) (by simp at hfl ⊢; omega) ?_
            intro s3 tk3 hg3 hm3 _ _
            refine st0 ?_
            exact ⟨r - 1, by omega, j + 1, tk3, by omega, hg3, by rw [hsn, hk]; simpa using hm3, by rw [hsn, hk]; simp [w3]⟩
          · have hk : keepS id g true l[j] = false := by rw [decide_eq_false h3] at hany; simp only [keepS, hasIx, ← hany]; simp [h1, h2]
            refine st6 b0 hb1 hlt h1 h2 h3 ?_
            exact ⟨r - 1, by omega, j + 1, tk, by omega, hg.alloc _, by rw [hsn, hk]; simpa using hm.alloc _, by rw [hsn, hk]; simp [w3]⟩
    · have hk : keepS id g th l[j] = true := by simp [keepS, h1]
      repeat (first | simp -dsimp -implicitDefEqProofs (disch := first | omega | (simp <;> omega) | fail) [b0, hb1, hlt, h1] | ((with_reducible first | apply m_1 | apply m_0); (focus ((conv => lhs; simp -dsimp -implicitDefEqProofs (disch := first | omega | (simp <;> omega) | fail) [b0, hb1, hlt, h1]); done))) | ((with_reducible first | apply i_T | apply g_T); (focus (simp -dsimp -implicitDefEqProofs (disch := first | omega | (simp <;> omega) | fail) [b0, hb1, hlt, h1]; done))) | ((with_reducible first | apply i_F | apply g_F); (focus (simp -dsimp -implicitDefEqProofs (disch := first | omega | (simp <;> omega) | fail) [b0, hb1, hlt, h1]; done))))
      refine m_app (xs := ((l.take j).filter (keepS id g _)).map Spt.av) (tk := tk) (ys := [l[j].av]) (t2 := .zero) (B := s.alloc (.cells g.cells)) (N := s.n + 1) (by simp) (by simp) (hg.alloc _) (by simp) (by simp; omega) (hm.alloc _) (head_map Spt.row _) (by simp) (by simp at hfl ⊢; omega) (by simp at hfl ⊢; omega) ?_
      intro s3 tk3 hg3 hm3 _ _
      refine st0 ?_
      exact ⟨r - 1, by omega, j + 1, tk3, by omega, hg3, by rw [hsn, hk]; simpa using hm3, by rw [hsn, hk]; simp [w3]⟩
  have : j = l.length := by omega
  subst this
  rw [List.take_length] at hm ⊢
  have hbs := AState.lt_of_get hb1 (by simp)
  refine st2 hlt hb1 ?_
  exact end_ok rfl ⟨tk, dz0, fin hg⟩
end Go.Proofs.YtmpoeamfcienoaaGreat
end
section
namespace Go.Ab
def ACode.tl : ACode → ACode
  | .seq _ y => y
  | x => x
theorem layS_len (S : List Spt) (x : Spt) : (layS S x).length ≤ S.length + 1 := by
  have h := insRun_len (fun y : Spt => !lessS y x) (fun y : Spt => !decide (y.gr = x.gr) || !decide (y.ix = x.ix)) x S S.length
  rw [List.take_length] at h
  unfold layS insL insEnd
  split
  · exact h.1
  · next hn => have := h.2 (by simpa using hn); simp; omega
structure PartI (s : AState) (b : Nat) (p : Prt) (at_ : Plc) (was now : Grp) (L : List Grp) (S : List Spt) (s1 : AState) : Prop where
  rb : ∃ t1 t2, s1.get b = .cells [.sl (L.map Grp.av) t1, .sl (S.map Spt.av) t2]
  c0 : s1.get s.n = .cells p.cells
  c1 : s1.get (s.n + 1) = .cells at_.cells
  c3 : s1.get (s.n + 3) = .cells was.cells
  c4 : s1.get (s.n + 4) = .cells now.cells
  n : s.n + 5 ≤ s1.n
  old : ∀ x, x < s.n → x ≠ b → s1.get x = s.get x
theorem PartI.step {s : AState} {b : Nat} {p : Prt} {at_ : Plc} {was now : Grp} {L L' : List Grp} {S S' : List Spt} {s1 s2 : AState} (h : PartI s b p at_ was now L S s1) (hb : b < s.n) (hm : Mut [b] [b] s1 s2)
    (hr : ∃ t1 t2, s2.get b = .cells [.sl (L'.map Grp.av) t1, .sl (S'.map Spt.av) t2]) : PartI s b p at_ was now L' S' s2 := by
  obtain ⟨rb, c0, c1, c3, c4, n, old⟩ := h
  have k : ∀ x, x < s1.n → x ≠ b → s2.get x = s1.get x := fun x hx hn => hm.keep x hx (by simpa using hn)
  exact ⟨hr, (k _ (by omega) (by omega)).trans c0, (k _ (by omega) (by omega)).trans c1, (k _ (by omega) (by omega)).trans c3, (k _ (by omega) (by omega)).trans c4, by have := hm.n; omega, fun x hx hn => (k _ (by omega) hn).trans (old x hx hn)⟩
theorem PartI.mut {s : AState} {b : Nat} {p : Prt} {at_ : Plc} {was now : Grp} {L : List Grp} {S : List Spt} {s1 : AState} (h : PartI s b p at_ was now L S s1) : Mut [b] [b] s s1 :=
  ⟨by have := h.n; omega, fun x hx hn => h.old x hx (by simpa using hn), fun x hx => .inl hx⟩
end Go.Ab
namespace Go.Proofs.YtmpoeamfcienoaaGreat
open Go.Ab
set_option linter.unusedVariables false
set_option linter.unusedSimpArgs false
set_option maxRecDepth 100000
set_option maxHeartbeats 1000000
theorem rn_laderef13_Ledger_Part {b : Nat} {L : List Grp} {S : List Spt} {p : Prt} {at_ : Plc} {s : AState} (hR : RefAt s b L S) (hL : ∀ g ∈ L, Spar g) (hl1 : ((L.length : Int) + 1) * 72 ≤ 140737488355328) (hl2 : ((S.length : Int) + p.es.length + 2) * 32 ≤ 140737488355328) :
    Runs (compCode prog) prog F_laderef13_Ledger_Part [.p b 0, p.av, at_.av] s (fun _ s' => RefAt s' b (refP at_ (L, S) p).1 (refP at_ (L, S) p).2 ∧ Mut [b] [b] s s') := by
  obtain ⟨t1, t2, hb⟩ := hR
  have hbn := AState.lt_of_get hb (by simp)
  have hpe : (p.es.length : Int) < 9223372036854775808 := by omega
  refine runs_e h_laderef13_Ledger_Part (Nat.le_of_ble_eq_true rfl) ?_
  refine st0 ?_
  refine gv (ct_laderef4_Is (p := p) hpe) ?_
  cases hp : isPart p with
  | false =>
    refine st0 ?_
    refine ret_ok rfl ⟨?_, ?_⟩
    · refine ⟨t1, t2, ?_⟩
      simp (disch := first | omega | (simp <;> omega) | fail) [refP, hp, hb]
    · exact .grows (((Grows.refl s).alloc _).alloc _)
  | true =>
  by_cases hk5 : p.kd = 5
  · refine st2 hb hk5 ?_
    refine gv (ct_laderef7_Without (l := L) (i := p.gr) (by omega)) ?_
    refine st1 hb ?_
    refine run (Runs.strip (args := [.p b 0, .v (.int .i64 p.gr), .agg [.v (.int .i64 0), .v (.int .i64 0), .v (.int .i64 0), .v (.int .i64 0), .v (.int .i64 0), .v (.int .i64 0), .sl [] .zero], .v (.bool false)]) (rn_laderef13_Ledger_clear (b := b) (L := L.filter fun g => !decide (g.id = p.gr)) (l := S) (t1 := .no) (t2 := t2) (id := p.gr) (g := zeroG) (th := false) (dz0) (by omega) (by simp [zeroG]))) rfl ?_
    rintro _ s2 ⟨tk, k1, k2⟩
    refine st0 ?_
    refine ret_ok rfl ⟨⟨.no, tk, by simp [refP, hp, hk5, k1]⟩, .trans ?_ k2⟩
    refine ⟨by simp; omega, fun y hy hn => ?_, fun y hy => .inl hy⟩
    have : y ≠ b := by simpa using hn
    simp (disch := first | omega | (simp <;> omega) | fail) [this]
  · obtain ⟨T, hT⟩ : ∃ T, T = A_laderef13_Ledger_Part.body.tl.tl.tl.tl.tl.tl := ⟨_, rfl⟩
    simp only [A_laderef13_Ledger_Part, ACode.tl] at hT
    rw [← hT]
    refine st2 hb hk5 ?_
    refine gv (ct_laderef7_Many_Get (b := s.n + 1 + 1) (l := L) (tk := t1) (i := p.gr) (dz0) (by omega)) ?_
    have hpg : 0 ≤ p.gr ∧ p.gr ≤ 999 := by simp only [isPart, Bool.and_eq_true] at hp; simpa [btw] using hp.1.1
    have hwas : Spar ((getG L p.gr).getD (newG p.gr)) := by
      cases h : getG L p.gr with
      | none => exact newG_spar hpg
      | some g => exact hL g (List.mem_of_find?_eq_some h)
    have tail : ∀ (was : Grp) (e : List (Nat × AV)) (s1 : AState), was = (getG L p.gr).getD (newG p.gr) → Ab.get e 0 = .p b 0 → Ab.get e 4 = .p s.n 0 → Ab.get e 5 = .p (s.n + 1) 0 → Ab.get e 7 = .p (s.n + 3) 0 → s1.n = s.n + 4 →
        (∀ x, x < s.n → s1.get x = s.get x) → s1.get s.n = .cells p.cells → s1.get (s.n + 1) = .cells at_.cells → s1.get (s.n + 3) = .cells was.cells →
        wp prog none T (fnQ [] fun _ s' => RefAt s' b (refP at_ (L, S) p).1 (refP at_ (L, S) p).2 ∧ Mut [b] [b] s s') { t := den 163 e, d := [] } s1 := by
      intro was e s1 hw g0 g4 g5 g7 hn1 hold c0 c1 c3
      rw [← hw] at hwas
      have hnow := hwas.doS p
      have hR : refP at_ (L, S) p = (withS L (doS was p), refS at_ p was (doS was p) S) := by simp only [refP]; rw [if_pos hp, if_neg hk5, ← hw]
      rw [hR]
      clear hR hw
      have hb1 : s1.get b = .cells [.sl (L.map Grp.av) t1, .sl (S.map Spt.av) t2] := (hold b hbn).trans hb
      obtain ⟨T2, hT2⟩ : ∃ T2, T2 = T.tl.tl.tl.tl := ⟨_, rfl⟩
      rw [hT] at hT2 ⊢
      simp only [ACode.tl] at hT2
      rw [← hT2]
      have hMI := MI_eq
      have hfl := hnow.len
      refine st6 g0 g4 g5 g7 c0 c3 ?_
      refine gv (ct_laderef6_Loose (p := p) hwas hpe) ?_
      generalize doS was p = now at hnow hfl ⊢
      refine st4 g0 g4 hn1 hb1 ?_
      refine gv (ct_laderef7_With (l := L) (g := now) hl1) ?_
      refine st5 g0 g4 hn1 hb1 c0 ?_
      refine run (rn_laderef13_Ledger_clear (b := b) (L := withS L now) (l := S) (t1 := .no) (t2 := t2) (id := p.gr) (g := now) (th := true) ?_ (by omega) (by omega)) (by simp) ?_
      · simp (disch := first | omega | (simp <;> omega) | fail)
      rintro _ s2 ⟨tk, k1, k2⟩
      have hP : PartI s b p at_ was now (withS L now) (S.filter (keepS p.gr now true)) s2 := by
        have h0 : PartI s b p at_ was now (withS L now) S ((s1.set b (.cells [.sl ((withS L now).map Grp.av) .no, .sl (S.map Spt.av) t2])).alloc (.cells now.cells)) := by
          have z1 : s.n ≠ b := by omega
          have z2 : s.n + 1 ≠ b := by omega
          have z3 : s.n + 3 ≠ b := by omega
          exact ⟨⟨.no, t2, dz0⟩, dz2 c0 z1, dz2 c1 z2, dz2 c3 z3, dz1 hn1, by simp; omega, fun x hx hn => dz2 (hold x hx) hn⟩
        exact h0.step hbn k2 ⟨_, _, k1⟩
      clear k1 k2
      have hQ : ∀ s', PartI s b p at_ was now (withS L now) (refS at_ p was now S) s' → RefAt s' b (withS L now, refS at_ p was now S).1 (withS L now, refS at_ p was now S).2 ∧ Mut [b] [b] s s' := fun s' h => ⟨h.rb, h.mut⟩
      generalize hQd : (fun (_ : AV) s' => RefAt s' b (withS L now, refS at_ p was now S).1 (withS L now, refS at_ p was now S).2 ∧ Mut [b] [b] s s') = Q
      have hQ : ∀ x s', PartI s b p at_ was now (withS L now) (refS at_ p was now S) s' → Q x s' := fun x s' h => by rw [← hQd]; exact hQ s' h
      clear hQd
      unfold refS at hQ
      simp only at hQ
      have hS1 : (S.filter (keepS p.gr now true)).length ≤ S.length := List.length_filter_le ..
      generalize S.filter (keepS p.gr now true) = S1 at hP hQ hS1
      have tail2 : ∀ (S2 : List Spt) (e : List (Nat × AV)) (s3 : AState), S2.length ≤ S.length + p.es.length → PartI s b p at_ was now (withS L now) S2 s3 →
          (∀ x s', PartI s b p at_ was now (withS L now) (if refMark p was now = true then layS (if p.kd = 2 ∨ p.he = true then layS S2 ⟨p.gr, -1, at_.sg, at_.at_⟩ else S2) ⟨p.gr, 0, at_.sg, at_.at_⟩ else (if p.kd = 2 ∨ p.he = true then layS S2 ⟨p.gr, -1, at_.sg, at_.at_⟩ else S2)) s' → Q x s') →
          Ab.get e 0 = .p b 0 → Ab.get e 4 = .p s.n 0 → Ab.get e 5 = .p (s.n + 1) 0 → Ab.get e 7 = .p (s.n + 3) 0 → Ab.get e 9 = .p (s.n + 4) 0 →
          wp prog none T2 (fnQ [] Q) { t := den 163 e, d := [] } s3 := by
        intro S2 e s3 hlen hP hQ g0 g4 g5 g7 g9
        obtain ⟨T3, hT3⟩ : ∃ T3, T3 = T2.tl := ⟨_, rfl⟩
        rw [hT2] at hT3 ⊢
        simp only [ACode.tl] at hT3
        rw [← hT3]
        have hfi := okHead_iff.1 hnow.hd
        have hw1 : IntKind.wrap .i64 (now.fi - 1) = now.fi - 1 := wrap_i64 (by omega) (by omega)
        have tail3 : ∀ (S3 : List Spt) (e : List (Nat × AV)) (s3 : AState), S3.length ≤ S.length + p.es.length + 1 → PartI s b p at_ was now (withS L now) S3 s3 →
            (∀ x s', PartI s b p at_ was now (withS L now) (if refMark p was now = true then layS S3 ⟨p.gr, 0, at_.sg, at_.at_⟩ else S3) s' → Q x s') →
            Ab.get e 0 = .p b 0 → Ab.get e 4 = .p s.n 0 → Ab.get e 5 = .p (s.n + 1) 0 → Ab.get e 7 = .p (s.n + 3) 0 → Ab.get e 9 = .p (s.n + 4) 0 →
            wp prog none T3 (fnQ [] Q) { t := den 163 e, d := [] } s3 := by
          intro S3 e s3 hlen hP hQ g0 g4 g5 g7 g9
          rw [hT3]
          obtain ⟨⟨u1, u2, rb⟩, d0, d1, d3, d4, dn, dold⟩ := id hP
          have fin0 : refMark p was now = false → ∀ {t : List AV}, fnQ [] Q .normal { t := t, d := [] } s3 := fun h t => end_ok rfl (hQ _ _ (by rw [h]; exact hP))
          have fin1 : refMark p was now = true → Runs (compCode prog) prog F_laderef13_Ledger_lay [.p b 0, (⟨p.gr, 0, at_.sg, at_.at_⟩ : Spt).av] s3 (fun _ s' => ∀ {t : List AV}, fnQ [] Q .normal { t := t, d := [] } s') := fun h =>
            (rn_laderef13_Ledger_lay (b := b) (L := withS L now) (l := S3) (t1 := u1) (t2 := u2) (x := ⟨p.gr, 0, at_.sg, at_.at_⟩) rb (by omega)).mono (by
              rintro _ s4 ⟨tk, m1, m2⟩ t
              exact end_ok rfl (hQ _ _ (by rw [h]; exact hP.step hbn m2 ⟨_, _, m1⟩)))
          generalize hmk : refMark p was now = mk at fin0 fin1
          unfold refMark at hmk
          clear hQ hP hT hT2 hT3 hnow hfl hwas hfi hL hS1 hb1 hold c0 c1 c3 hb
          by_cases a1 : p.kd = 3 ∨ p.kd = 4
          · by_cases a2 : now.fi = was.fi
            · cases a4 : p.mr with
              | false =>
                have hf := @fin0 (by rw [← hmk]; simp [a2, a4])
                clear fin0 fin1 hmk
                rcases a1 with a1 | a1
                · repeat (first | simp -dsimp -implicitDefEqProofs (disch := first | omega | (simp <;> omega) | fail) [g0, g4, g5, g7, g9, d0, d1, d3, d4, a1, a2, a4] | ((with_reducible first | apply m_1 | apply m_0); (focus ((conv => lhs; simp -dsimp -implicitDefEqProofs (disch := first | omega | (simp <;> omega) | fail) [g0, g4, g5, g7, g9, d0, d1, d3, d4, a1, a2, a4]); done))) | ((with_reducible first | apply i_T | apply g_T); (focus (simp -dsimp -implicitDefEqProofs (disch := first | omega | (simp <;> omega) | fail) [g0, g4, g5, g7, g9, d0, d1, d3, d4, a1, a2, a4]; done))) | ((with_reducible first | apply i_F | apply g_F); (focus (simp -dsimp -implicitDefEqProofs (disch := first | omega | (simp <;> omega) | fail) [g0, g4, g5, g7, g9, d0, d1, d3, d4, a1, a2, a4]; done))))
                  exact hf
                · repeat (first | simp -dsimp -implicitDefEqProofs (disch := first | omega | (simp <;> omega) | fail) [g0, g4, g5, g7, g9, d0, d1, d3, d4, a1, a2, a4] | ((with_reducible first | apply m_1 | apply m_0); (focus ((conv => lhs; simp -dsimp -implicitDefEqProofs (disch := first | omega | (simp <;> omega) | fail) [g0, g4, g5, g7, g9, d0, d1, d3, d4, a1, a2, a4]); done))) | ((with_reducible first | apply i_T | apply g_T); (focus (simp -dsimp -implicitDefEqProofs (disch := first | omega | (simp <;> omega) | fail) [g0, g4, g5, g7, g9, d0, d1, d3, d4, a1, a2, a4]; done))) | ((with_reducible first | apply i_F | apply g_F); (focus (simp -dsimp -implicitDefEqProofs (disch := first | omega | (simp <;> omega) | fail) [g0, g4, g5, g7, g9, d0, d1, d3, d4, a1, a2, a4]; done))))
                  exact hf
              | true =>
                have hw1' := hw1
                rw [a2] at hw1'
                rcases a1 with a1 | a1
                · by_cases a5 : now.fi - 1 = p.ix
                  · have a5' := a5
                    rw [a2] at a5'
                    have hw2 : IntKind.wrap .i64 p.ix = p.ix := by rw [← a5]; exact hw1
                    by_cases a6 : now.tm = p.tm
                    · have hf := fin1 (by rw [← hmk]; simp [a2, a4, a1, a5, a5', a6])
                      repeat (first | simp -dsimp -implicitDefEqProofs (disch := first | omega | (simp <;> omega) | fail) [g0, g4, g5, g7, g9, d0, d1, d3, d4, hw1, hw2, hw1', a2, a4, a1, a5, a5', a6] | ((with_reducible first | apply m_1 | apply m_0); (focus ((conv => lhs; simp -dsimp -implicitDefEqProofs (disch := first | omega | (simp <;> omega) | fail) [g0, g4, g5, g7, g9, d0, d1, d3, d4, hw1, hw2, hw1', a2, a4, a1, a5, a5', a6]); done))) | ((with_reducible first | apply i_T | apply g_T); (focus (simp -dsimp -implicitDefEqProofs (disch := first | omega | (simp <;> omega) | fail) [g0, g4, g5, g7, g9, d0, d1, d3, d4, hw1, hw2, hw1', a2, a4, a1, a5, a5', a6]; done))) | ((with_reducible first | apply i_F | apply g_F); (focus (simp -dsimp -implicitDefEqProofs (disch := first | omega | (simp <;> omega) | fail) [g0, g4, g5, g7, g9, d0, d1, d3, d4, hw1, hw2, hw1', a2, a4, a1, a5, a5', a6]; done))))
                      refine run hf (by simp [Spt.av, Spt.cells, Plc.cells]) ?_
                      intro _ s4 hk
                      refine st0 ?_
                      exact hk
                    · have hf := @fin0 (by rw [← hmk]; simp [a2, a4, a1, a5, a5', a6])
                      repeat (first | simp -dsimp -implicitDefEqProofs (disch := first | omega | (simp <;> omega) | fail) [g0, g4, g5, g7, g9, d0, d1, d3, d4, hw1, hw2, hw1', a2, a4, a1, a5, a5', a6] | ((with_reducible first | apply m_1 | apply m_0); (focus ((conv => lhs; simp -dsimp -implicitDefEqProofs (disch := first | omega | (simp <;> omega) | fail) [g0, g4, g5, g7, g9, d0, d1, d3, d4, hw1, hw2, hw1', a2, a4, a1, a5, a5', a6]); done))) | ((with_reducible first | apply i_T | apply g_T); (focus (simp -dsimp -implicitDefEqProofs (disch := first | omega | (simp <;> omega) | fail) [g0, g4, g5, g7, g9, d0, d1, d3, d4, hw1, hw2, hw1', a2, a4, a1, a5, a5', a6]; done))) | ((with_reducible first | apply i_F | apply g_F); (focus (simp -dsimp -implicitDefEqProofs (disch := first | omega | (simp <;> omega) | fail) [g0, g4, g5, g7, g9, d0, d1, d3, d4, hw1, hw2, hw1', a2, a4, a1, a5, a5', a6]; done))))
                      exact hf
                  · have a5' := a5
                    rw [a2] at a5'
                    have hf := @fin0 (by rw [← hmk]; simp [a2, a4, a1, a5'])
                    repeat (first | simp -dsimp -implicitDefEqProofs (disch := first | omega | (simp <;> omega) | fail) [g0, g4, g5, g7, g9, d0, d1, d3, d4, hw1, hw1', a2, a4, a1, a5, a5'] | ((with_reducible first | apply m_1 | apply m_0); (focus ((conv => lhs; simp -dsimp -implicitDefEqProofs (disch := first | omega | (simp <;> omega) | fail) [g0, g4, g5, g7, g9, d0, d1, d3, d4, hw1, hw1', a2, a4, a1, a5, a5']); done))) | ((with_reducible first | apply i_T | apply g_T); (focus (simp -dsimp -implicitDefEqProofs (disch := first | omega | (simp <;> omega) | fail) [g0, g4, g5, g7, g9, d0, d1, d3, d4, hw1, hw1', a2, a4, a1, a5, a5']; done))) | ((with_reducible first | apply i_F | apply g_F); (focus (simp -dsimp -implicitDefEqProofs (disch := first | omega | (simp <;> omega) | fail) [g0, g4, g5, g7, g9, d0, d1, d3, d4, hw1, hw1', a2, a4, a1, a5, a5']; done))))
                    exact hf
                · by_cases a5 : now.fi - 1 = p.ix
                  · have a5' := a5
                    rw [a2] at a5'
                    have hw2 : IntKind.wrap .i64 p.ix = p.ix := by rw [← a5]; exact hw1
                    by_cases a6 : now.tm = p.tm
                    · have hf := fin1 (by rw [← hmk]; simp [a2, a4, a1, a5, a5', a6])
                      repeat (first | simp -dsimp -implicitDefEqProofs (disch := first | omega | (simp <;> omega) | fail) [g0, g4, g5, g7, g9, d0, d1, d3, d4, hw1, hw2, hw1', a2, a4, a1, a5, a5', a6] | ((with_reducible first | apply m_1 | apply m_0); (focus ((conv => lhs; simp -dsimp -implicitDefEqProofs (disch := first | omega | (simp <;> omega) | fail) [g0, g4, g5, g7, g9, d0, d1, d3, d4, hw1, hw2, hw1', a2, a4, a1, a5, a5', a6]); done))) | ((with_reducible first | apply i_T | apply g_T); (focus (simp -dsimp -implicitDefEqProofs (disch := first | omega | (simp <;> omega) | fail) [g0, g4, g5, g7, g9, d0, d1, d3, d4, hw1, hw2, hw1', a2, a4, a1, a5, a5', a6]; done))) | ((with_reducible first | apply i_F | apply g_F); (focus (simp -dsimp -implicitDefEqProofs (disch := first | omega | (simp <;> omega) | fail) [g0, g4, g5, g7, g9, d0, d1, d3, d4, hw1, hw2, hw1', a2, a4, a1, a5, a5', a6]; done))))
                      refine run hf (by simp [Spt.av, Spt.cells, Plc.cells]) ?_
                      intro _ s4 hk
                      refine st0 ?_
                      exact hk
                    · have hf := @fin0 (by rw [← hmk]; simp [a2, a4, a1, a5, a5', a6])
                      repeat (first | simp -dsimp -implicitDefEqProofs (disch := first | omega | (simp <;> omega) | fail) [g0, g4, g5, g7, g9, d0, d1, d3, d4, hw1, hw2, hw1', a2, a4, a1, a5, a5', a6] | ((with_reducible first | apply m_1 | apply m_0); (focus ((conv => lhs; simp -dsimp -implicitDefEqProofs (disch := first | omega | (simp <;> omega) | fail) [g0, g4, g5, g7, g9, d0, d1, d3, d4, hw1, hw2, hw1', a2, a4, a1, a5, a5', a6]); done))) | ((with_reducible first | apply i_T | apply g_T); (focus (simp -dsimp -implicitDefEqProofs (disch := first | omega | (simp <;> omega) | fail) [g0, g4, g5, g7, g9, d0, d1, d3, d4, hw1, hw2, hw1', a2, a4, a1, a5, a5', a6]; done))) | ((with_reducible first | apply i_F | apply g_F); (focus (simp -dsimp -implicitDefEqProofs (disch := first | omega | (simp <;> omega) | fail) [g0, g4, g5, g7, g9, d0, d1, d3, d4, hw1, hw2, hw1', a2, a4, a1, a5, a5', a6]; done))))
                      exact hf
                  · have a5' := a5
                    rw [a2] at a5'
                    have hf := @fin0 (by rw [← hmk]; simp [a2, a4, a1, a5'])
                    repeat (first | simp -dsimp -implicitDefEqProofs (disch := first | omega | (simp <;> omega) | fail) [g0, g4, g5, g7, g9, d0, d1, d3, d4, hw1, hw1', a2, a4, a1, a5, a5'] | ((with_reducible first | apply m_1 | apply m_0); (focus ((conv => lhs; simp -dsimp -implicitDefEqProofs (disch := first | omega | (simp <;> omega) | fail) [g0, g4, g5, g7, g9, d0, d1, d3, d4, hw1, hw1', a2, a4, a1, a5, a5']); done))) | ((with_reducible first | apply i_T | apply g_T); (focus (simp -dsimp -implicitDefEqProofs (disch := first | omega | (simp <;> omega) | fail) [g0, g4, g5, g7, g9, d0, d1, d3, d4, hw1, hw1', a2, a4, a1, a5, a5']; done))) | ((with_reducible first | apply i_F | apply g_F); (focus (simp -dsimp -implicitDefEqProofs (disch := first | omega | (simp <;> omega) | fail) [g0, g4, g5, g7, g9, d0, d1, d3, d4, hw1, hw1', a2, a4, a1, a5, a5']; done))))
                    exact hf
            · have hf := fin1 (by rw [← hmk]; rcases a1 with a1 | a1 <;> simp [a1, a2])
              clear fin0 fin1 hmk
              rcases a1 with a1 | a1
              · repeat (first | simp -dsimp -implicitDefEqProofs (disch := first | omega | (simp <;> omega) | fail) [g0, g4, g5, g7, g9, d0, d1, d3, d4, a1, a2] | ((with_reducible first | apply m_1 | apply m_0); (focus ((conv => lhs; simp -dsimp -implicitDefEqProofs (disch := first | omega | (simp <;> omega) | fail) [g0, g4, g5, g7, g9, d0, d1, d3, d4, a1, a2]); done))) | ((with_reducible first | apply i_T | apply g_T); (focus (simp -dsimp -implicitDefEqProofs (disch := first | omega | (simp <;> omega) | fail) [g0, g4, g5, g7, g9, d0, d1, d3, d4, a1, a2]; done))) | ((with_reducible first | apply i_F | apply g_F); (focus (simp -dsimp -implicitDefEqProofs (disch := first | omega | (simp <;> omega) | fail) [g0, g4, g5, g7, g9, d0, d1, d3, d4, a1, a2]; done))))
                refine run hf (by simp [Spt.av, Spt.cells, Plc.cells]) ?_
                intro _ s4 hk
                refine st0 ?_
                exact hk
              · repeat (first | simp -dsimp -implicitDefEqProofs (disch := first | omega | (simp <;> omega) | fail) [g0, g4, g5, g7, g9, d0, d1, d3, d4, a1, a2] | ((with_reducible first | apply m_1 | apply m_0); (focus ((conv => lhs; simp -dsimp -implicitDefEqProofs (disch := first | omega | (simp <;> omega) | fail) [g0, g4, g5, g7, g9, d0, d1, d3, d4, a1, a2]); done))) | ((with_reducible first | apply i_T | apply g_T); (focus (simp -dsimp -implicitDefEqProofs (disch := first | omega | (simp <;> omega) | fail) [g0, g4, g5, g7, g9, d0, d1, d3, d4, a1, a2]; done))) | ((with_reducible first | apply i_F | apply g_F); (focus (simp -dsimp -implicitDefEqProofs (disch := first | omega | (simp <;> omega) | fail) [g0, g4, g5, g7, g9, d0, d1, d3, d4, a1, a2]; done))))
                refine run hf (by simp [Spt.av, Spt.cells, Plc.cells]) ?_
                intro _ s4 hk
                refine st0 ?_
                exact hk
          · have a3 : ¬ p.kd = 3 := fun h => a1 (.inl h)
            have a3' : ¬ p.kd = 4 := fun h => a1 (.inr h)
            cases a4 : p.mr with
            | false =>
              have hf := @fin0 (by rw [← hmk]; simp [a3, a3', a4])
              repeat (first | simp -dsimp -implicitDefEqProofs (disch := first | omega | (simp <;> omega) | fail) [g0, g4, g5, g7, g9, d0, d1, d3, d4, a3, a3', a4] | ((with_reducible first | apply m_1 | apply m_0); (focus ((conv => lhs; simp -dsimp -implicitDefEqProofs (disch := first | omega | (simp <;> omega) | fail) [g0, g4, g5, g7, g9, d0, d1, d3, d4, a3, a3', a4]); done))) | ((with_reducible first | apply i_T | apply g_T); (focus (simp -dsimp -implicitDefEqProofs (disch := first | omega | (simp <;> omega) | fail) [g0, g4, g5, g7, g9, d0, d1, d3, d4, a3, a3', a4]; done))) | ((with_reducible first | apply i_F | apply g_F); (focus (simp -dsimp -implicitDefEqProofs (disch := first | omega | (simp <;> omega) | fail) [g0, g4, g5, g7, g9, d0, d1, d3, d4, a3, a3', a4]; done))))
              exact hf
            | true =>
              by_cases a5 : now.fi - 1 = p.ix
              · have hw2 : IntKind.wrap .i64 p.ix = p.ix := by rw [← a5]; exact hw1
                by_cases a6 : now.tm = p.tm
                · have hf := fin1 (by rw [← hmk]; simp [a3, a3', a4, a5, a6])
                  repeat (first | simp -dsimp -implicitDefEqProofs (disch := first | omega | (simp <;> omega) | fail) [g0, g4, g5, g7, g9, d0, d1, d3, d4, hw1, hw2, a3, a3', a4, a5, a6] | ((with_reducible first | apply m_1 | apply m_0); (focus ((conv => lhs; simp -dsimp -implicitDefEqProofs (disch := first | omega | (simp <;> omega) | fail) [g0, g4, g5, g7, g9, d0, d1, d3, d4, hw1, hw2, a3, a3', a4, a5, a6]); done))) | ((with_reducible first | apply i_T | apply g_T); (focus (simp -dsimp -implicitDefEqProofs (disch := first | omega | (simp <;> omega) | fail) [g0, g4, g5, g7, g9, d0, d1, d3, d4, hw1, hw2, a3, a3', a4, a5, a6]; done))) | ((with_reducible first | apply i_F | apply g_F); (focus (simp -dsimp -implicitDefEqProofs (disch := first | omega | (simp <;> omega) | fail) [g0, g4, g5, g7, g9, d0, d1, d3, d4, hw1, hw2, a3, a3', a4, a5, a6]; done))))
                  refine run hf (by simp [Spt.av, Spt.cells, Plc.cells]) ?_
                  intro _ s4 hk
                  refine st0 ?_
                  exact hk
                · have hf := @fin0 (by rw [← hmk]; simp [a3, a3', a4, a5, a6])
                  repeat (first | simp -dsimp -implicitDefEqProofs (disch := first | omega | (simp <;> omega) | fail) [g0, g4, g5, g7, g9, d0, d1, d3, d4, hw1, hw2, a3, a3', a4, a5, a6] | ((with_reducible first | apply m_1 | apply m_0); (focus ((conv => lhs; simp -dsimp -implicitDefEqProofs (disch := first | omega | (simp <;> omega) | fail) [g0, g4, g5, g7, g9, d0, d1, d3, d4, hw1, hw2, a3, a3', a4, a5, a6]); done))) | ((with_reducible first | apply i_T | apply g_T); (focus (simp -dsimp -implicitDefEqProofs (disch := first | omega | (simp <;> omega) | fail) [g0, g4, g5, g7, g9, d0, d1, d3, d4, hw1, hw2, a3, a3', a4, a5, a6]; done))) | ((with_reducible first | apply i_F | apply g_F); (focus (simp -dsimp -implicitDefEqProofs (disch := first | omega | (simp <;> omega) | fail) [g0, g4, g5, g7, g9, d0, d1, d3, d4, hw1, hw2, a3, a3', a4, a5, a6]; done))))
                  exact hf
              · have hf := @fin0 (by rw [← hmk]; simp [a3, a3', a4, a5])
                repeat (first | simp -dsimp -implicitDefEqProofs (disch := first | omega | (simp <;> omega) | fail) [g0, g4, g5, g7, g9, d0, d1, d3, d4, hw1, a3, a3', a4, a5] | ((with_reducible first | apply m_1 | apply m_0); (focus ((conv => lhs; simp -dsimp -implicitDefEqProofs (disch := first | omega | (simp <;> omega) | fail) [g0, g4, g5, g7, g9, d0, d1, d3, d4, hw1, a3, a3', a4, a5]); done))) | ((with_reducible first | apply i_T | apply g_T); (focus (simp -dsimp -implicitDefEqProofs (disch := first | omega | (simp <;> omega) | fail) [g0, g4, g5, g7, g9, d0, d1, d3, d4, hw1, a3, a3', a4, a5]; done))) | ((with_reducible first | apply i_F | apply g_F); (focus (simp -dsimp -implicitDefEqProofs (disch := first | omega | (simp <;> omega) | fail) [g0, g4, g5, g7, g9, d0, d1, d3, d4, hw1, a3, a3', a4, a5]; done))))
                exact hf
        obtain ⟨⟨u1, u2, rb⟩, d0, d1, d3, d4, dn, dold⟩ := id hP
        have hlay : p.kd = 2 ∨ p.he = true → Runs (compCode prog) prog F_laderef13_Ledger_lay [.p b 0, (⟨p.gr, -1, at_.sg, at_.at_⟩ : Spt).av] s3 (fun _ s' => ∀ (e : List (Nat × AV)), Ab.get e 0 = .p b 0 → Ab.get e 4 = .p s.n 0 → Ab.get e 5 = .p (s.n + 1) 0 → Ab.get e 7 = .p (s.n + 3) 0 → Ab.get e 9 = .p (s.n + 4) 0 →
            wp prog none T3 (fnQ [] Q) { t := den 163 e, d := [] } s') := fun h =>
          (rn_laderef13_Ledger_lay (b := b) (L := withS L now) (l := S2) (t1 := u1) (t2 := u2) (x := ⟨p.gr, -1, at_.sg, at_.at_⟩) rb (by omega)).mono (by
            rintro _ s4 ⟨tk, m1, m2⟩ e g0 g4 g5 g7 g9
            exact tail3 (layS S2 ⟨p.gr, -1, at_.sg, at_.at_⟩) e s4 (by have := layS_len S2 ⟨p.gr, -1, at_.sg, at_.at_⟩; omega) (hP.step hbn m2 ⟨_, _, m1⟩) (by simp only [if_pos h] at hQ; exact hQ) g0 g4 g5 g7 g9)
        by_cases h1 : p.kd = 2
        · refine st8 g0 g4 g5 g7 g9 d0 d1 h1 ?_
          refine run (hlay (.inl h1)) (by simp [Spt.av, Spt.cells, Plc.cells]) ?_
          intro _ s4 hk
          refine st0 ?_
          exact hk _ (by simp [g0]) (by simp [g4]) (by simp [g5]) (by simp [g7]) (by simp [g9])
        · cases h2 : p.he with
          | true =>
            refine st9 g0 g4 g5 g7 g9 d0 d1 h1 h2 ?_
            refine run (hlay (.inr h2)) (by simp [Spt.av, Spt.cells, Plc.cells]) ?_
            intro _ s4 hk
            refine st0 ?_
            exact hk _ (by simp [g0]) (by simp [g4]) (by simp [g5]) (by simp [g7]) (by simp [g9])
          | false =>
            refine st9 g0 g4 g5 g7 g9 d0 d1 h1 h2 ?_
            have hn : ¬ (p.kd = 2 ∨ p.he = true) := by simp [h1, h2]
            simp only [if_neg hn] at hQ
            exact tail3 S2 _ s3 (by omega) hP hQ (by simp [g0]) (by simp [g4]) (by simp [g5]) (by simp [g7]) (by simp [g9])
      refine st0 ?_
      refine loop_ok [0, 4, 5, 7, 9, 10] (fun r a s3 => ∃ (j : Nat) (S2 : List Spt), j + r = p.es.length ∧ S2 = (p.es.take j).foldl (fun S e => if lhas now e = true then layS S ⟨p.gr, e.ix, at_.sg, at_.at_⟩ else S) S1 ∧ S2.length ≤ S.length + j ∧ PartI s b p at_ was now (withS L now) S2 s3 ∧
        a = { t := den 163 [(0, .p b 0), (4, .p s.n 0), (5, .p (s.n + 1) 0), (7, .p (s.n + 3) 0), (9, .p (s.n + 4) 0), (10, .v (.int .i64 j))], d := [] }) p.es.length ?_ ?_
      · exact ⟨0, S1, by simp, rfl, by omega, hP, by simp [g0, g4, g5, g7]⟩
      rintro r a s3 ⟨j, S2, hir, hS2, hlen, hP, rfl⟩
      have hP' := hP
      obtain ⟨⟨u1, u2, rb⟩, d0, d1, d3, d4, dn, dold⟩ := hP'
      by_cases hlt : j < p.es.length
      · have w3 : IntKind.wrap .i64 ((j : Int) + 1) = (j : Int) + 1 := wrap_i64 (by omega) (by omega)
        have hsn : (p.es.take (j + 1)).foldl (fun S e => if lhas now e = true then layS S ⟨p.gr, e.ix, at_.sg, at_.at_⟩ else S) S1 = if lhas now p.es[j] = true then layS S2 ⟨p.gr, p.es[j].ix, at_.sg, at_.at_⟩ else S2 := by
          have e : p.es.take (j + 1) = p.es.take j ++ [p.es[j]] := (List.take_append_getElem hlt).symm
          rw [e, List.foldl_append, ← hS2]; rfl
        clear hS2
        repeat (first | simp -dsimp -implicitDefEqProofs (disch := first | omega | (simp <;> omega) | fail) [d0, d4, hlt] | ((with_reducible first | apply m_1 | apply m_0); (focus ((conv => lhs; simp -dsimp -implicitDefEqProofs (disch := first | omega | (simp <;> omega) | fail) [d0, d4, hlt]); done))) | ((with_reducible first | apply i_T | apply g_T); (focus (simp -dsimp -implicitDefEqProofs (disch := first | omega | (simp <;> omega) | fail) [d0, d4, hlt]; done))) | ((with_reducible first | apply i_F | apply g_F); (focus (simp -dsimp -implicitDefEqProofs (disch := first | omega | (simp <;> omega) | fail) [d0, d4, hlt]; done))))
        refine gv (ct_laderef6_At (g := now) (i := p.es[j].ix) (by omega)) ?_
        cases hfi : now.es.findIdx? fun e => decide (e.ix = p.es[j].ix) with
        | none =>
          have hI : idxS (fun e : Ent => decide (e.ix = p.es[j].ix)) now.es = -1 := by unfold idxS; rw [hfi]
          have hF : lhas now p.es[j] = false := by
            have : now.es.find? (fun x => decide (x.ix = p.es[j].ix)) = none := List.find?_eq_none.2 fun x hx => by have := List.findIdx?_eq_none_iff.1 hfi x hx; simpa using this
            unfold lhas; rw [this]
          rw [hI]
          refine st0 ?_
          exact ⟨r - 1, by omega, j + 1, S2, by omega, by rw [hsn, hF]; rfl, by omega, hP, by simp [w3]⟩
        | some k =>
          have hI : idxS (fun e : Ent => decide (e.ix = p.es[j].ix)) now.es = k := by unfold idxS; rw [hfi]
          obtain ⟨hk, hpk, hno⟩ := List.findIdx?_eq_some_iff_getElem.1 hfi
          have hF : lhas now p.es[j] = decide (now.es[k] = p.es[j]) := by
            have : now.es.find? (fun x => decide (x.ix = p.es[j].ix)) = some now.es[k] := by
              rw [List.find?_eq_some_iff_getElem]
              exact ⟨hpk, k, hk, rfl, fun j hj => by have := hno j hj; simpa using this⟩
            unfold lhas; rw [this]
          rw [hI]
          by_cases he : now.es[k] = p.es[j]
          · repeat (first | simp -dsimp -implicitDefEqProofs (disch := first | omega | (simp <;> omega) | fail) [d0, d1, d4, hlt, hk, he] | ((with_reducible first | apply m_1 | apply m_0); (focus ((conv => lhs; simp -dsimp -implicitDefEqProofs (disch := first | omega | (simp <;> omega) | fail) [d0, d1, d4, hlt, hk, he]); done))) | ((with_reducible first | apply i_T | apply g_T); (focus (simp -dsimp -implicitDefEqProofs (disch := first | omega | (simp <;> omega) | fail) [d0, d1, d4, hlt, hk, he]; done))) | ((with_reducible first | apply i_F | apply g_F); (focus (simp -dsimp -implicitDefEqProofs (disch := first | omega | (simp <;> omega) | fail) [d0, d1, d4, hlt, hk, he]; done))))
            refine run (rn_laderef13_Ledger_lay (b := b) (L := withS L now) (l := S2) (t1 := u1) (t2 := u2) (x := ⟨p.gr, p.es[j].ix, at_.sg, at_.at_⟩) rb (by omega)) (by simp [Spt.av, Spt.cells, Plc.cells]) ?_
            rintro _ s4 ⟨tk4, m1, m2⟩
            refine st0 ?_
            exact ⟨r - 1, by omega, j + 1, _, by omega, by rw [hsn, hF]; simp [he], by have := layS_len S2 ⟨p.gr, p.es[j].ix, at_.sg, at_.at_⟩; omega, hP.step hbn m2 ⟨_, _, m1⟩, by simp [w3]⟩
          · repeat (first | simp -dsimp -implicitDefEqProofs (disch := first | omega | (simp <;> omega) | fail) [d0, d1, d4, hlt, hk, he] | ((with_reducible first | apply m_1 | apply m_0); (focus ((conv => lhs; simp -dsimp -implicitDefEqProofs (disch := first | omega | (simp <;> omega) | fail) [d0, d1, d4, hlt, hk, he]); done))) | ((with_reducible first | apply i_T | apply g_T); (focus (simp -dsimp -implicitDefEqProofs (disch := first | omega | (simp <;> omega) | fail) [d0, d1, d4, hlt, hk, he]; done))) | ((with_reducible first | apply i_F | apply g_F); (focus (simp -dsimp -implicitDefEqProofs (disch := first | omega | (simp <;> omega) | fail) [d0, d1, d4, hlt, hk, he]; done))))
            exact ⟨r - 1, by omega, j + 1, S2, by omega, by rw [hsn, hF]; simp [he], by omega, hP, by simp [w3]⟩
      have : j = p.es.length := by omega
      subst this
      rw [List.take_length] at hS2
      refine st2 hlt d0 ?_
      refine tail2 S2 _ s3 hlen hP ?_ rfl rfl rfl rfl rfl
      rw [hS2]; exact hQ
    cases hG : getG L p.gr with
    | none =>
      refine st2 hG hb ?_
      refine gv (ct_laderef6_New (id := p.gr)) ?_
      refine st0 ?_
      refine tail (newG p.gr) _ _ (by rw [hG]; rfl) rfl rfl rfl rfl rfl ?_ ?_ ?_ ?_
      · intro x hx; simp (disch := first | omega | (simp <;> omega) | fail)
      all_goals simp (disch := first | omega | (simp <;> omega) | fail)
    | some was =>
      refine st2 hG hb ?_
      refine tail was _ _ (by rw [hG]; rfl) rfl rfl rfl rfl rfl ?_ ?_ ?_ ?_
      · intro x hx; simp (disch := first | omega | (simp <;> omega) | fail)
      all_goals simp (disch := first | omega | (simp <;> omega) | fail)
end Go.Proofs.YtmpoeamfcienoaaGreat
end
section
namespace Go.Ab
def refL (at_ : Plc) (x : List Grp × List Spt) (l : List Prt) : List Grp × List Spt := l.foldl (refP at_) x
def wtL (l : List Prt) : Nat := (l.map fun p => p.es.length + 2).sum
theorem withS_len (l : List Grp) (g : Grp) : (withS l g).length ≤ l.length + 1 := by
  have h := insRun_len (fun x : Grp => decide (g.id ≤ x.id)) (fun x : Grp => !decide (x.id = g.id)) g l l.length
  rw [List.take_length] at h
  unfold withS insL insEnd
  split
  · exact h.1
  · next hn => have := h.2 (by simpa using hn); simp; omega
theorem ins_mem {α : Type} (le ne : α → Bool) (g : α) {l : List α} {x : α} (h : x ∈ insL le ne g l) : x = g ∨ x ∈ l := by
  rw [ins_eq] at h
  induction l with
  | nil => simp [insR] at h; exact .inl h
  | cons y l ih =>
    unfold insR at h
    split at h
    · rcases List.mem_cons.1 h with rfl | h
      · exact .inl rfl
      · exact .inr (List.mem_filter.1 h).1
    split at h
    · rcases List.mem_cons.1 h with rfl | h
      · exact .inr (by simp)
      · exact (ih h).imp id (by intro h; simp [h])
    · exact (ih h).imp id (by intro h; simp [h])
theorem refS_len (at_ : Plc) (p : Prt) (was now : Grp) (S : List Spt) : (refS at_ p was now S).length ≤ S.length + (p.es.length + 2) := by
  have h1 : (S.filter (keepS p.gr now true)).length ≤ S.length := List.length_filter_le ..
  have h2 : ∀ (es : List Ent) (S : List Spt), (es.foldl (fun S e => if lhas now e = true then layS S ⟨p.gr, e.ix, at_.sg, at_.at_⟩ else S) S).length ≤ S.length + es.length := by
    intro es
    induction es with
    | nil => intro S; simp
    | cons e es ih =>
      intro S
      rw [List.foldl_cons]
      refine Nat.le_trans (ih _) ?_
      have := layS_len S ⟨p.gr, e.ix, at_.sg, at_.at_⟩
      split <;> simp <;> omega
  have h3 := h2 p.es (S.filter (keepS p.gr now true))
  unfold refS
  simp only
  generalize p.es.foldl (fun S e => if lhas now e = true then layS S ⟨p.gr, e.ix, at_.sg, at_.at_⟩ else S) (S.filter (keepS p.gr now true)) = S2 at h3 ⊢
  have h4 := layS_len S2 ⟨p.gr, -1, at_.sg, at_.at_⟩
  have h5 := layS_len S2 ⟨p.gr, 0, at_.sg, at_.at_⟩
  have h6 := layS_len (layS S2 ⟨p.gr, -1, at_.sg, at_.at_⟩) ⟨p.gr, 0, at_.sg, at_.at_⟩
  split <;> split <;> omega
theorem getG_spar {L : List Grp} (hL : ∀ g ∈ L, Spar g) {p : Prt} (hp : isPart p = true) : Spar ((getG L p.gr).getD (newG p.gr)) := by
  have hpg : 0 ≤ p.gr ∧ p.gr ≤ 999 := by simp only [isPart, Bool.and_eq_true] at hp; simpa [btw] using hp.1.1
  cases h : getG L p.gr with
  | none => exact newG_spar hpg
  | some g => exact hL g (List.mem_of_find?_eq_some h)
theorem refP_ok (at_ : Plc) (x : List Grp × List Spt) (p : Prt) (h : ∀ g ∈ x.1, Spar g) : (∀ g ∈ (refP at_ x p).1, Spar g) ∧ (refP at_ x p).1.length ≤ x.1.length + 1 ∧ (refP at_ x p).2.length ≤ x.2.length + (p.es.length + 2) := by
  unfold refP
  split
  · next hp =>
    split
    · exact ⟨fun g hg => h g (List.mem_filter.1 hg).1, Nat.le_succ_of_le (List.length_filter_le ..), Nat.le_trans (List.length_filter_le ..) (by omega)⟩
    · refine ⟨fun g hg => ?_, withS_len _ _, refS_len _ _ _ _ _⟩
      rcases ins_mem _ _ _ hg with rfl | hg
      · exact (getG_spar h hp).doS p
      · exact h g hg
  · exact ⟨h, by omega, by omega⟩
theorem refL_snoc {at_ : Plc} {x : List Grp × List Spt} {l : List Prt} {k : Nat} (h : k < l.length) : refL at_ x (l.take (k + 1)) = refP at_ (refL at_ x (l.take k)) l[k] := by
  have e : l.take (k + 1) = l.take k ++ [l[k]] := (List.take_append_getElem h).symm
  rw [e, refL, List.foldl_append]; rfl
end Go.Ab
namespace Go.Proofs.YtmpoeamfcienoaaGreat
open Go.Ab
set_option linter.unusedVariables false
set_option linter.unusedSimpArgs false
set_option maxRecDepth 100000
set_option maxHeartbeats 1000000
theorem rn_laderef13_Ledger_Do {b : Nat} {L : List Grp} {S : List Spt} {l : List Prt} {at_ : Plc} {s : AState} (hR : RefAt s b L S) (hL : ∀ g ∈ L, Spar g) (hl1 : ((L.length : Int) + l.length) * 72 ≤ 140737488355328) (hl2 : ((S.length : Int) + wtL l) * 32 ≤ 140737488355328) :
    Runs (compCode prog) prog F_laderef13_Ledger_Do [.p b 0, .sl (l.map Prt.av) .no, at_.av] s (fun _ s' => RefAt s' b (refL at_ (L, S) l).1 (refL at_ (L, S) l).2 ∧ Mut [b] [b] s s') := by
  have hbn : b < s.n := by obtain ⟨t1, t2, hb⟩ := hR; exact AState.lt_of_get hb (by simp)
  refine runs_e h_laderef13_Ledger_Do (Nat.le_of_ble_eq_true rfl) ?_
  refine st0 ?_
  have hW : ∀ j, wtL (l.take j) ≤ wtL l := fun j => by
    have h := congrArg wtL (List.take_append_drop j l)
    unfold wtL at h ⊢
    rw [List.map_append, List.sum_append] at h
    omega
  refine loop_ok [0, 1, 5, 6] (fun r a s1 => ∃ j : Nat, j + r = l.length ∧ RefAt s1 b (refL at_ (L, S) (l.take j)).1 (refL at_ (L, S) (l.take j)).2 ∧ Mut [b] [b] s s1 ∧ s1.get s.n = .cells at_.cells ∧ s.n < s1.n ∧
      (∀ g ∈ (refL at_ (L, S) (l.take j)).1, Spar g) ∧ (refL at_ (L, S) (l.take j)).1.length ≤ L.length + j ∧ (refL at_ (L, S) (l.take j)).2.length ≤ S.length + wtL (l.take j) ∧
      a = { t := den 20 [(0, .p b 0), (1, .sl (l.map Prt.av) .no), (5, .p s.n 0), (6, .v (.int .i64 j))], d := [] }) l.length ?_ ?_
  · obtain ⟨t1, t2, hb⟩ := hR
    exact ⟨0, by simp, ⟨t1, t2, by simp (disch := first | omega | (simp <;> omega) | fail) [hb, refL]⟩, .grows ((Grows.refl s).alloc _), by simp, by simp, hL, by simp [refL], by simp [refL, wtL], by simp⟩
  rintro r a s1 ⟨j, hir, hR1, hm1, c5, hn1, hL1, hz1, hz2, rfl⟩
  by_cases hlt : j < l.length
  · have w3 : IntKind.wrap .i64 ((j : Int) + 1) = (j : Int) + 1 := wrap_i64 (by omega) (by omega)
    have hsn := refL_snoc (at_ := at_) (x := (L, S)) hlt
    have hok := refP_ok at_ (refL at_ (L, S) (l.take j)) l[j] hL1
    have hws : wtL (l.take (j + 1)) = wtL (l.take j) + (l[j].es.length + 2) := by
      have e : l.take (j + 1) = l.take j ++ [l[j]] := (List.take_append_getElem hlt).symm
      rw [e]; simp only [wtL, List.map_append, List.sum_append, List.map_cons, List.map_nil]; simp
    have hW1 := hW (j + 1)
    have hsn1 : (refL at_ (L, S) (l.take j)) = ((refL at_ (L, S) (l.take j)).1, (refL at_ (L, S) (l.take j)).2) := rfl
    generalize (refL at_ (L, S) (l.take j)) = X at hsn hok hR1 hL1 hz1 hz2
    obtain ⟨X1, X2⟩ := X
    simp only at hR1 hL1 hz1 hz2
    repeat (first | simp -dsimp -implicitDefEqProofs (disch := first | omega | (simp <;> omega) | fail) [hlt, c5] | ((with_reducible first | apply m_1 | apply m_0); (focus ((conv => lhs; simp -dsimp -implicitDefEqProofs (disch := first | omega | (simp <;> omega) | fail) [hlt, c5]); done))) | ((with_reducible first | apply i_T | apply g_T); (focus (simp -dsimp -implicitDefEqProofs (disch := first | omega | (simp <;> omega) | fail) [hlt, c5]; done))) | ((with_reducible first | apply i_F | apply g_F); (focus (simp -dsimp -implicitDefEqProofs (disch := first | omega | (simp <;> omega) | fail) [hlt, c5]; done))))
    refine run (rn_laderef13_Ledger_Part (b := b) (p := l[j]) (at_ := at_) hR1 hL1 (by omega) (by omega)) (by simp) ?_
    rintro _ s2 ⟨k1, k2⟩
    refine st0 ?_
    rw [← hsn] at k1 hok
    exact ⟨r - 1, by omega, j + 1, by omega, k1, hm1.trans k2, (k2.keep _ hn1 (by simp; omega)).trans c5, by have := k2.n; omega, hok.1, by have := hok.2.1; simp only at this ⊢; omega, by have := hok.2.2; simp only at this ⊢; omega, by simp [w3]⟩
  have : j = l.length := by omega
  subst this
  rw [List.take_length] at hR1
  refine st1 hlt ?_
  exact end_ok rfl ⟨hR1, hm1⟩
end Go.Proofs.YtmpoeamfcienoaaGreat
end
section
namespace Go.Ab
set_option linter.unusedVariables false
set_option linter.unusedSimpArgs false
theorem ins_put {α β κ : Type} [DecidableEq κ] [Key κ] (key : α → κ) (val : α → β) (le ne : α → Bool) (g : α) (hle : ∀ x, le x = !decide (Key.lt (key x) (key g))) (hne : ∀ x, ne x = !decide (key x = key g)) :
    ∀ {l : List α}, Srt (l.map fun x => (key x, val x)) → (insL le ne g l).map (fun x => (key x, val x)) = putL (l.map fun x => (key x, val x)) (key g) (val g) := by
  intro l h
  rw [ins_eq]
  induction l with
  | nil => rfl
  | cons x l ih =>
    rw [List.map_cons] at h
    obtain ⟨h1, h2⟩ := List.pairwise_cons.1 h
    unfold insR
    rw [hle, hne, List.map_cons, putL]
    by_cases a : Key.lt (key x) (key g)
    · rw [if_neg (by simp [a]), if_pos (by simp [Key.ne a]), if_neg (Key.asymm a), if_neg (Key.ne a).symm, List.map_cons, ih h2]
    · rw [if_pos (by simp [a])]
      have hrest : ∀ y ∈ l, Key.lt (key x) (key y) := fun y hy => h1 _ (List.mem_map_of_mem hy)
      by_cases b : key x = key g
      · rw [if_neg (by rw [b]; exact Key.irrefl _), if_pos b.symm]
        rw [List.filter_cons_of_neg (by rw [hne]; simp [b])]
        have : l.filter ne = l := List.filter_eq_self.2 fun y hy => by rw [hne]; have := Key.ne (hrest y hy); rw [b] at this; simp [Ne.symm this]
        rw [this, List.map_cons]
      · have hlt : Key.lt (key g) (key x) := Key.tri a b
        rw [if_pos hlt]
        have : (x :: l).filter ne = x :: l := List.filter_eq_self.2 fun y hy => by
          rw [hne]
          rcases List.mem_cons.1 hy with rfl | hy
          · simp [b]
          · have := Key.ne (Key.trans hlt (hrest y hy)); simp [Ne.symm this]
        rw [this, List.map_cons, List.map_cons]
def spK (s : Spt) : (Int × Int) × Plc := ((s.gr, s.ix), ⟨s.sg, s.at_⟩)
def ofK (x : (Int × Int) × Plc) : Spt := ⟨x.1.1, x.1.2, x.2.sg, x.2.at_⟩
def kv (S : List Spt) : List ((Int × Int) × Plc) := S.map spK
theorem ofK_kv (S : List Spt) : (kv S).map ofK = S := by
  unfold kv; rw [List.map_map]
  have : ofK ∘ spK = id := rfl
  rw [this, List.map_id]
theorem kv_inj {a b : List Spt} (h : kv a = kv b) : a = b := by rw [← ofK_kv a, h, ofK_kv]
theorem kv_lay {S : List Spt} {x : Spt} (h : Srt (kv S)) : kv (layS S x) = putL (kv S) (x.gr, x.ix) ⟨x.sg, x.at_⟩ := by
  refine ins_put (fun s : Spt => (s.gr, s.ix)) (fun s => (⟨s.sg, s.at_⟩ : Plc)) _ _ x (fun y => ?_) (fun y => ?_) h
  · have : decide (Key.lt (y.gr, y.ix) (x.gr, x.ix)) = lessS y x := by
      unfold lessS
      have e : Key.lt (y.gr, y.ix) (x.gr, x.ix) ↔ y.gr < x.gr ∨ y.gr = x.gr ∧ y.ix < x.ix := Iff.rfl
      have e3 : decide (Key.lt (y.gr, y.ix) (x.gr, x.ix)) = decide (y.gr < x.gr ∨ y.gr = x.gr ∧ y.ix < x.ix) := decide_eq_decide.2 e
      rw [e3]
      by_cases h1 : y.gr < x.gr <;> by_cases h2 : y.gr = x.gr <;> by_cases h3 : y.ix < x.ix <;> simp [h1, h2, h3]
    rw [this]
  · by_cases h1 : y.gr = x.gr <;> by_cases h2 : y.ix = x.ix <;> simp [h1, h2]
def keepK (id : Int) (x : Grp) (there : Bool) (k : Int × Int) : Bool := !decide (k.1 = id) || there && (decide (k.2 ≤ 0) || hasIx x.es k.2)
theorem kv_keep (id : Int) (x : Grp) (th : Bool) (S : List Spt) : kv (S.filter (keepS id x th)) = (kv S).filter fun y => keepK id x th y.1 := by
  unfold kv
  rw [List.filter_map]
  rfl
theorem lk_spots {M : List (Int × LogV)} (hM : MOk M) (g i : Int) : lk (kv (spotsM M)) (g, i) = (lk M g).bind fun v => lk v.sp i := by
  induction M with
  | nil => rfl
  | cons x M ih =>
    obtain ⟨h1, h2⟩ := hM
    obtain ⟨h3, h4⟩ := List.pairwise_cons.1 h1
    have ih := ih ⟨h4, fun y hy => h2 y (by simp [hy])⟩
    have hid := (h2 x (by simp)).id
    have e : kv (spotsM (x :: M)) = (x.2.sp.map fun y => ((x.1, y.1), y.2)) ++ kv (spotsM M) := by
      simp only [kv, spotsM, List.flatMap_cons, List.map_append, List.map_map]
      congr 1
      apply List.map_congr_left
      intro y _
      simp [spK, hid]
    rw [e, lk_append, ih, lk_cons]
    have e2 : ∀ (sp : List (Int × Plc)), lk (sp.map fun y => ((x.1, y.1), y.2)) (g, i) = if g = x.1 then lk sp i else none := by
      intro sp
      induction sp with
      | nil => simp
      | cons y sp ih2 =>
        rw [List.map_cons, lk_cons, ih2, lk_cons]
        by_cases a : g = x.1 <;> by_cases b : i = y.1 <;> simp [a, b]
    rw [e2]
    by_cases a : g = x.1
    · rw [if_pos a, if_pos a]
      have : lk M g = none := lk_none1.2 fun y hy e => by have := h3 y hy; rw [e, a] at this; exact Key.irrefl _ this
      rw [this]; simp
    · rw [if_neg a, if_neg a]; rfl
theorem spots_srt {M : List (Int × LogV)} (hM : MOk M) : Srt (kv (spotsM M)) := by
  induction M with
  | nil => exact List.Pairwise.nil
  | cons x M ih =>
    obtain ⟨h1, h2⟩ := hM
    obtain ⟨h3, h4⟩ := List.pairwise_cons.1 h1
    have ih := ih ⟨h4, fun y hy => h2 y (by simp [hy])⟩
    have hx := h2 x (by simp)
    simp only [kv, spotsM, List.flatMap_cons, List.map_append] at ih ⊢
    refine List.pairwise_append.2 ⟨?_, ih, ?_⟩
    · rw [List.pairwise_map, List.pairwise_map]
      exact hx.srt.imp fun h => .inr ⟨rfl, h⟩
    · intro a ha b hb
      obtain ⟨a1, ha1, rfl⟩ := List.mem_map.1 ha
      obtain ⟨a2, ha2, rfl⟩ := List.mem_map.1 ha1
      obtain ⟨b1, hb1, rfl⟩ := List.mem_map.1 hb
      obtain ⟨b2, hb2, hb3⟩ := List.mem_flatMap.1 hb1
      obtain ⟨b3, hb4, rfl⟩ := List.mem_map.1 hb3
      refine .inl ?_
      show x.2.g.id < b2.2.g.id
      rw [hx.id, (h2 b2 (by simp [hb2])).id]
      exact h3 b2 hb2
def kvG (L : List Grp) : List (Int × Grp) := L.map fun g => (g.id, g)
theorem kvG_inj {a b : List Grp} (h : kvG a = kvG b) : a = b := by
  have e : ∀ L, (kvG L).map (·.2) = L := fun L => by unfold kvG; rw [List.map_map]; exact List.map_id _
  rw [← e a, h, e]
theorem kvG_M {M : List (Int × LogV)} (hM : ∀ x ∈ M, x.2.g.id = x.1) : kvG (grpsL M) = M.map fun x => (x.1, x.2.g) := by
  unfold kvG grpsL
  rw [List.map_map]
  exact List.map_congr_left fun x hx => by simp [hM x hx]
theorem getG_lk (L : List Grp) (i : Int) : getG L i = lk (kvG L) i := by
  induction L with
  | nil => rfl
  | cons g L ih =>
    show (g :: L).find? (fun g => decide (g.id = i)) = lk ((g.id, g) :: kvG L) i
    rw [lk_cons, List.find?_cons, ← ih]
    by_cases h : g.id = i
    · simp [h]
    · have : ¬ i = g.id := fun e => h e.symm
      simp [h, this, getG]
theorem getG_M {M : List (Int × LogV)} (hM : ∀ x ∈ M, x.2.g.id = x.1) (i : Int) : getG (grpsL M) i = (lk M i).map (·.g) := by
  rw [getG_lk, kvG_M hM, lk_map (fun v : LogV => v.g)]
theorem put_ids {M : List (Int × LogV)} (hM : ∀ x ∈ M, x.2.g.id = x.1) {i : Int} {v : LogV} (hv : v.g.id = i) : ∀ x ∈ putL M i v, x.2.g.id = x.1 := fun x hx => by
  rcases put_mem hx with rfl | hx
  · exact hv
  · exact hM x hx
theorem with_M {M : List (Int × LogV)} (hS : Srt M) (hM : ∀ x ∈ M, x.2.g.id = x.1) {v : LogV} : withS (grpsL M) v.g = grpsL (putL M v.g.id v) := by
  apply kvG_inj
  have hS1 : Srt (kvG (grpsL M)) := by rw [kvG_M hM]; exact hS.map fun v => v.g
  have e1 : kvG (withS (grpsL M) v.g) = putL (kvG (grpsL M)) v.g.id v.g := by
    refine ins_put (fun g : Grp => g.id) (fun g => g) _ _ v.g (fun y => ?_) (fun y => rfl) hS1
    have : Key.lt y.id v.g.id ↔ y.id < v.g.id := Iff.rfl
    by_cases h : y.id < v.g.id
    · simp [this, h]
    · simp [this, h]; omega
  rw [e1, kvG_M (put_ids hM rfl)]
  refine Srt.ext (hS1.put _ _) ((hS.put _ _).map fun v => v.g) fun k => ?_
  rw [lk_put, lk_map (fun v : LogV => v.g), lk_put, kvG_M hM, lk_map (fun v : LogV => v.g)]
  split <;> rfl
theorem del_M {M : List (Int × LogV)} (hM : ∀ x ∈ M, x.2.g.id = x.1) (i : Int) : (grpsL M).filter (fun g => !decide (g.id = i)) = grpsL (delL M i) := by
  unfold grpsL delL
  rw [List.filter_map]
  congr 1
  exact List.filter_congr fun x hx => by simp [hM x hx]
end Go.Ab
end
section
namespace Go.Ab
set_option linter.unusedVariables false
set_option linter.unusedSimpArgs false
theorem part_core {p : Prt} (h : isPart p = true) : p = core p := by
  simp only [isPart, Bool.and_eq_true, decide_eq_true_eq] at h; exact h.1.2
theorem part_es {p : Prt} (h : isPart p = true) (h1 : p.kd ≠ 1) (h6 : p.kd ≠ 6) : p.es = [] := by
  have e := congrArg Prt.es (part_core h)
  unfold core at e
  simp only at e
  rw [if_neg h1] at e
  split at e
  · exact e
  split at e
  · exact e
  first | exact e | (split at e <;> first | exact e | exact absurd ‹_› h6)
theorem part_mr {p : Prt} (h : isPart p = true) (h6 : p.kd ≠ 6) : p.mr = false := by
  have e := congrArg Prt.mr (part_core h)
  unfold core at e
  simp only at e
  split at e
  · exact e
  split at e
  · exact e
  split at e
  · exact e
  first | exact e | (split at e <;> first | exact e | exact absurd ‹_› h6)
theorem part_gr {p : Prt} (h : isPart p = true) : 0 ≤ p.gr ∧ p.gr ≤ 999 := by
  simp only [isPart, Bool.and_eq_true] at h; simpa [btw] using h.1.1
theorem marks_ref {p : Prt} (h : isPart p = true) (was now : Grp) : refMark p was now = marksS p was now := by
  unfold refMark marksS
  by_cases h3 : p.kd = 3 ∨ p.kd = 4
  · rw [if_pos h3]
    have h6 : p.kd ≠ 6 := by omega
    rw [part_mr h h6]
    have : (decide (p.kd = 3) || decide (p.kd = 4)) = true := by simpa using h3
    rw [this]; simp
  · rw [if_neg h3]
    have : (decide (p.kd = 3) || decide (p.kd = 4)) = false := by simpa using h3
    rw [this]
    by_cases h6 : p.kd = 6
    · rw [if_pos h6]
      have e1 : decide (now.fi - 1 = p.ix) = decide (p.ix = now.fi - 1) := decide_eq_decide.2 ⟨Eq.symm, Eq.symm⟩
      have e2 : decide (now.tm = p.tm) = decide (p.tm = now.tm) := decide_eq_decide.2 ⟨Eq.symm, Eq.symm⟩
      rw [e1, e2]; simp
    · rw [if_neg h6, part_mr h h6]; simp
theorem put_sub {g : Grp} {e x : Ent} (h : x ∈ (putS g e).es) : x ∈ g.es ∨ x = e := by
  unfold putS at h
  split at h
  · exact .inl h
  · simp only [List.mem_append, List.mem_cons, List.mem_filter] at h
    rcases h with h | h | h
    · exact .inl h.1
    · exact .inr h
    · exact .inl h.1
theorem puts_sub {l : List Ent} {g : Grp} {x : Ent} (h : x ∈ (l.foldl putS g).es) : x ∈ g.es ∨ x ∈ l := by
  induction l generalizing g with
  | nil => exact .inl h
  | cons e l ih =>
    rcases ih h with h | h
    · rcases put_sub h with h | h
      · exact .inl h
      · exact .inr (by simp [h])
    · exact .inr (by simp [h])
theorem gone_sub {g : Grp} {i t : Int} {x : Ent} (h : x ∈ (goneS g i t).es) : x ∈ g.es := by
  unfold goneS at h
  split at h
  · exact h
  · exact (List.mem_filter.1 h).1
theorem doS_sub {g : Grp} {p : Prt} {x : Ent} (h : x ∈ (doS g p).es) : x ∈ g.es ∨ x ∈ p.es := by
  unfold doS at h
  split at h
  · split at h
    · simp only [List.mem_append, List.mem_filter] at h
      exact h.imp And.left And.left
    split at h
    · exact .inl h
    split at h
    · exact .inl (gone_sub h)
    split at h
    · have := gone_sub h
      split at this
      · cases this
      · exact .inl this
    split at h
    · unfold fwdS at h
      simp only at h
      rcases puts_sub h with h | h
      · left
        split at h <;> split at h <;> first | exact gone_sub h | exact h
      · exact .inr h
    · exact .inl h
  · exact .inl h
theorem doS_id (g : Grp) (p : Prt) : (doS g p).id = g.id := by
  have h1 : ∀ (g : Grp) i t, (goneS g i t).id = g.id := fun g i t => by unfold goneS; split <;> rfl
  have h2 : ∀ (l : List Ent) (g : Grp), (l.foldl putS g).id = g.id := fun l => by
    induction l with
    | nil => intro g; rfl
    | cons e l ih => intro g; rw [List.foldl_cons, ih]; unfold putS; split <;> rfl
  unfold doS
  split
  · split
    · rfl
    split
    · rfl
    split
    · exact h1 _ _ _
    split
    · rw [h1]; split <;> rfl
    split
    · unfold fwdS; rw [h2]; split <;> split <;> first | rfl | exact h1 _ _ _
    · rfl
  · rfl
section
variable {look : Int → Option Plc} {p : Prt} {at_ : Plc}
theorem lk_nx0 (k : Int) (c : List (Int × Plc)) (i : Int) : lk (nx0 putL look k c) i = if i = k then (match look k with | some x => some x | none => lk c i) else lk c i := by
  unfold nx0
  cases look k with
  | none => simp
  | some x => simp [lk_put]
theorem lk_nx1s : ∀ {es : List Ent} (c : List (Int × Plc)) (i : Int), (es.Pairwise fun a b => a.ix < b.ix) →
    lk (es.foldl (nx1 putL look p at_) c) i = match es.find? (fun e => decide (e.ix = i)) with | some e => some (if broughtS p e = true then at_ else (look i).getD ⟨0, 0⟩) | none => lk c i
  | [], c, i, _ => rfl
  | e :: es, c, i, h => by
    obtain ⟨h1, h2⟩ := List.pairwise_cons.1 h
    rw [List.foldl_cons, lk_nx1s _ _ h2, List.find?_cons]
    have hc : lk (nx1 putL look p at_ c e) i = if i = e.ix then some (if broughtS p e = true then at_ else (look e.ix).getD ⟨0, 0⟩) else lk c i := by
      unfold nx1
      split
      · rw [lk_put, lk_put]; by_cases a : i = e.ix <;> simp [a]
      · rw [lk_put]
    by_cases a : e.ix = i
    · have : es.find? (fun e => decide (e.ix = i)) = none := List.find?_eq_none.2 fun x hx => by have := h1 x hx; simp; omega
      rw [this]
      simp only [hc, a]
      simp [a]
    · have : ¬ i = e.ix := fun e => a e.symm
      rw [hc, if_neg this]
      simp [a]
theorem lk_next (old now : Grp) (i : Int) (h : now.es.Pairwise fun a b => a.ix < b.ix) :
    lk (nextW putL look p at_ old now) i = if marksS p old now = true ∧ i = 0 then some at_ else if (p.kd = 2 ∨ p.he = true) ∧ i = -1 then some at_ else
      match now.es.find? (fun e => decide (e.ix = i)) with | some e => some (if broughtS p e = true then at_ else (look i).getD ⟨0, 0⟩) | none => if i = 0 ∨ i = -1 then look i else none := by
  unfold nextW
  have hI : lk (nxI putL look p at_ now.es) i = match now.es.find? (fun e => decide (e.ix = i)) with | some e => some (if broughtS p e = true then at_ else (look i).getD ⟨0, 0⟩) | none => if i = 0 ∨ i = -1 then look i else none := by
    unfold nxI
    rw [lk_nx1s _ _ h, lk_nx0, lk_nx0]
    cases now.es.find? (fun e => decide (e.ix = i)) with
    | some e => rfl
    | none =>
      by_cases a : i = 0
      · subst a; cases look 0 <;> simp
      · by_cases b : i = -1
        · subst b; cases look (-1) <;> simp
        · simp [a, b]
  unfold nxM nxH
  by_cases hm : marksS p old now = true
  · rw [if_pos hm, lk_put]
    by_cases a : i = 0
    · simp [hm, a]
    · rw [if_neg a, if_neg (fun h : marksS p old now = true ∧ i = 0 => a h.2)]
      by_cases hh : p.kd = 2 ∨ p.he = true
      · rw [if_pos hh, lk_put]
        by_cases b : i = -1
        · simp [hh, b]
        · rw [if_neg b, if_neg (fun h : (p.kd = 2 ∨ p.he = true) ∧ i = -1 => b h.2)]; exact hI
      · rw [if_neg hh, if_neg (fun h : (p.kd = 2 ∨ p.he = true) ∧ i = -1 => hh h.1)]; exact hI
  · rw [if_neg hm, if_neg (fun h : marksS p old now = true ∧ i = 0 => hm h.1)]
    by_cases hh : p.kd = 2 ∨ p.he = true
    · rw [if_pos hh, lk_put]
      by_cases b : i = -1
      · simp [hh, b]
      · rw [if_neg b, if_neg (fun h : (p.kd = 2 ∨ p.he = true) ∧ i = -1 => b h.2)]; exact hI
    · rw [if_neg hh, if_neg (fun h : (p.kd = 2 ∨ p.he = true) ∧ i = -1 => hh h.1)]; exact hI
end
theorem next_srt (look : Int → Option Plc) (p : Prt) (at_ : Plc) (old now : Grp) : Srt (nextW putL look p at_ old now) := (nextW_rep (look := look) (look' := look) (fun _ => rfl) p at_ old now).srt
theorem srt_lay {S : List Spt} (h : Srt (kv S)) (x : Spt) : Srt (kv (layS S x)) := by rw [kv_lay h]; exact h.put _ _
theorem lk_lay {S : List Spt} (h : Srt (kv S)) (x : Spt) (k : Int × Int) : lk (kv (layS S x)) k = if k = (x.gr, x.ix) then some ⟨x.sg, x.at_⟩ else lk (kv S) k := by rw [kv_lay h, lk_put]
theorem lk_lays {now : Grp} {gr : Int} {at_ : Plc} : ∀ (es : List Ent) {S : List Spt}, Srt (kv S) → Srt (kv (es.foldl (fun S e => if lhas now e = true then layS S ⟨gr, e.ix, at_.sg, at_.at_⟩ else S) S)) ∧
    ∀ i, lk (kv (es.foldl (fun S e => if lhas now e = true then layS S ⟨gr, e.ix, at_.sg, at_.at_⟩ else S) S)) (gr, i) = (if es.any (fun e => lhas now e && decide (e.ix = i)) = true then some at_ else lk (kv S) (gr, i))
  | [], S, h => ⟨h, fun i => rfl⟩
  | e :: es, S, h => by
    rw [List.foldl_cons]
    cases hl : lhas now e with
    | false =>
      rw [if_neg (by simp)]
      obtain ⟨k1, k2⟩ := lk_lays es h
      exact ⟨k1, fun i => by rw [k2, List.any_cons, hl]; simp⟩
    | true =>
      rw [if_pos rfl]
      obtain ⟨k1, k2⟩ := lk_lays es (srt_lay h ⟨gr, e.ix, at_.sg, at_.at_⟩)
      refine ⟨k1, fun i => ?_⟩
      rw [k2, List.any_cons, hl, lk_lay h]
      by_cases a : e.ix = i
      · subst a; simp
      · have : ¬ i = e.ix := fun e => a e.symm
        simp [a, this]
theorem lk_lays_other {now : Grp} {gr : Int} {at_ : Plc} : ∀ (es : List Ent) {S : List Spt}, Srt (kv S) → ∀ g i, g ≠ gr →
    lk (kv (es.foldl (fun S e => if lhas now e = true then layS S ⟨gr, e.ix, at_.sg, at_.at_⟩ else S) S)) (g, i) = lk (kv S) (g, i)
  | [], S, h => fun _ _ _ => rfl
  | e :: es, S, h => fun g i hg => by
    rw [List.foldl_cons]
    cases hl : lhas now e with
    | false => rw [if_neg (by simp)]; exact lk_lays_other es h g i hg
    | true =>
      rw [if_pos rfl, lk_lays_other es (srt_lay h _) g i hg, lk_lay h]
      simp [hg]
theorem refS_srt (at_ : Plc) (p : Prt) (was now : Grp) {S : List Spt} (h : Srt (kv S)) : Srt (kv (refS at_ p was now S)) := by
  unfold refS
  have h1 : Srt (kv (S.filter (keepS p.gr now true))) := by rw [kv_keep]; exact h.filter _
  have h2 := (lk_lays (now := now) (gr := p.gr) (at_ := at_) p.es h1).1
  simp only
  split <;> split
  · exact srt_lay (srt_lay h2 _) _
  · exact srt_lay h2 _
  · exact srt_lay h2 _
  · exact h2
theorem lk_refS (at_ : Plc) (p : Prt) (was now : Grp) {S : List Spt} (h : Srt (kv S)) (g i : Int) : lk (kv (refS at_ p was now S)) (g, i) =
    if g = p.gr then (if refMark p was now = true ∧ i = 0 then some at_ else if (p.kd = 2 ∨ p.he = true) ∧ i = -1 then some at_ else
      if p.es.any (fun e => lhas now e && decide (e.ix = i)) = true then some at_ else if i ≤ 0 ∨ hasIx now.es i = true then lk (kv S) (g, i) else none) else lk (kv S) (g, i) := by
  have h1 : Srt (kv (S.filter (keepS p.gr now true))) := by rw [kv_keep]; exact h.filter _
  have hk : lk (kv (S.filter (keepS p.gr now true))) (g, i) = if keepK p.gr now true (g, i) = true then lk (kv S) (g, i) else none := by rw [kv_keep, lk_filter]
  obtain ⟨h2, k2⟩ := lk_lays (now := now) (gr := p.gr) (at_ := at_) p.es h1
  have k3 := lk_lays_other (now := now) (gr := p.gr) (at_ := at_) p.es h1 g i
  unfold refS
  simp only
  generalize p.es.foldl (fun S e => if lhas now e = true then layS S ⟨p.gr, e.ix, at_.sg, at_.at_⟩ else S) (S.filter (keepS p.gr now true)) = S2 at h2 k2 k3 ⊢
  have key : lk (kv (if refMark p was now = true then layS (if p.kd = 2 ∨ p.he = true then layS S2 ⟨p.gr, -1, at_.sg, at_.at_⟩ else S2) ⟨p.gr, 0, at_.sg, at_.at_⟩ else if p.kd = 2 ∨ p.he = true then layS S2 ⟨p.gr, -1, at_.sg, at_.at_⟩ else S2)) (g, i) =
      if refMark p was now = true ∧ (g, i) = (p.gr, 0) then some at_ else if (p.kd = 2 ∨ p.he = true) ∧ (g, i) = (p.gr, -1) then some at_ else lk (kv S2) (g, i) := by
    by_cases hm : refMark p was now = true <;> by_cases hh : p.kd = 2 ∨ p.he = true
    · rw [if_pos hm, if_pos hh, lk_lay (srt_lay h2 _), lk_lay h2]
      by_cases a : (g, i) = (p.gr, 0) <;> by_cases b : (g, i) = (p.gr, -1) <;> simp [hm, hh, a, b]
    · rw [if_pos hm, if_neg hh, lk_lay h2]
      by_cases a : (g, i) = (p.gr, 0) <;> simp [hm, hh, a]
    · rw [if_neg hm, if_pos hh, lk_lay h2]
      by_cases b : (g, i) = (p.gr, -1) <;> simp [hm, hh, b]
    · rw [if_neg hm, if_neg hh]
      simp [hm, hh]
  rw [key]
  by_cases hg : g = p.gr
  · subst hg
    rw [k2, hk]
    simp [keepK]
  · rw [k3 hg, hk]
    simp [hg, keepK]
end Go.Ab
end
section
namespace Go.Ab
set_option linter.unusedVariables false
set_option linter.unusedSimpArgs false
theorem has_of {es : List Ent} (h : es.Pairwise fun a b => a.ix < b.ix) {i : Int} {e : Ent} (he : e ∈ es) (hi : e.ix = i) : es.find? (fun e => decide (e.ix = i)) = some e := by
  induction es with
  | nil => cases he
  | cons x es ih =>
    obtain ⟨h1, h2⟩ := List.pairwise_cons.1 h
    rw [List.find?_cons]
    rcases List.mem_cons.1 he with rfl | he
    · simp [hi]
    · have := h1 e he
      have hx : ¬ x.ix = i := by omega
      simp only [hx, decide_false]
      exact ih h2 he
theorem hasIx_find (es : List Ent) (i : Int) : hasIx es i = (es.find? fun e => decide (e.ix = i)).isSome := by
  unfold hasIx; rw [Bool.eq_iff_iff, List.find?_isSome, List.any_eq_true]
theorem VOk.new {id : Int} (h : 0 ≤ id ∧ id ≤ 999) : VOk id ⟨newG id, []⟩ := ⟨rfl, h, newG_spar h, .nil, by simp, by simp [newG]⟩
theorem VOk.do {i : Int} {v : LogV} (h : VOk i v) (p : Prt) (at_ : Plc) : VOk i (logDo v p at_) := by
  unfold logDo
  split
  case isFalse => exact h
  case isTrue hok =>
    have hS := h.g.doS p
    refine ⟨by rw [doS_id]; exact h.id, h.rng, hS, next_srt _ _ _ _ _, fun x hx => ?_, fun e he => ?_⟩
    · have hl := (next_srt (lk v.sp) p at_ v.g (doS v.g p)).lk_mem hx
      rw [lk_next _ _ _ hS.srt] at hl
      split at hl
      · next hc => exact .inr (.inl hc.2)
      split at hl
      · next hc => exact .inl hc.2
      split at hl
      · next e hf =>
        have := List.find?_some hf
        exact .inr (.inr ⟨e, List.mem_of_find?_eq_some hf, by simpa using (by simpa using this : e.ix = x.1).symm⟩)
      split at hl
      · next hc => rcases hc with hc | hc
                   · exact .inr (.inl hc)
                   · exact .inl hc
      · cases hl
    · have hl := lk_next (look := lk v.sp) (p := p) (at_ := at_) v.g (doS v.g p) e.ix hS.srt
      have hpos := (okEnt_iff.1 (hS.ok e he)).1
      rw [if_neg (fun hc => by have := hc.2; omega), if_neg (fun hc => by have := hc.2; omega), has_of hS.srt he rfl] at hl
      exact ⟨_, lk_mem hl, rfl⟩
theorem MOk.at {M : List (Int × LogV)} (hM : MOk M) {i : Int} (hi : 0 ≤ i ∧ i ≤ 999) : VOk i ((lk M i).getD ⟨newG i, []⟩) := by
  cases h : lk M i with
  | none => exact .new hi
  | some v => exact hM.2 _ (lk_mem h)
theorem MOk.doP {M : List (Int × LogV)} (hM : MOk M) (at_ : Plc) (p : Prt) : MOk (doP at_ M p) := by
  unfold Ab.doP
  split
  · next hp =>
    split
    · exact ⟨hM.1.del _, fun x hx => hM.2 x (List.mem_filter.1 hx).1⟩
    · refine ⟨hM.1.put _ _, fun x hx => ?_⟩
      rcases put_mem hx with rfl | hx
      · exact (hM.at (part_gr hp)).do p at_
      · exact hM.2 x hx
  · exact hM
theorem ref_doP {M : List (Int × LogV)} (hM : MOk M) (at_ : Plc) (p : Prt) : refP at_ (grpsL M, spotsM M) p = (grpsL (doP at_ M p), spotsM (doP at_ M p)) := by
  have hM' := hM.doP at_ p
  have hid : ∀ x ∈ M, x.2.g.id = x.1 := fun x hx => (hM.2 x hx).id
  have hS := spots_srt hM
  have hS' := spots_srt hM'
  unfold refP
  by_cases hp : isPart p = true
  · rw [if_pos hp]
    by_cases hk5 : p.kd = 5
    · rw [if_pos hk5]
      have hd : doP at_ M p = delL M p.gr := by unfold doP; rw [if_pos hp, if_pos hk5]
      rw [hd] at hM' hS' ⊢
      refine Prod.ext (del_M hid _) (kv_inj ?_)
      refine Srt.ext (by rw [kv_keep]; exact hS.filter _) hS' fun k => ?_
      obtain ⟨g, i⟩ := k
      simp only
      rw [kv_keep, lk_filter, lk_spots hM, lk_spots hM', lk_del]
      by_cases hg : g = p.gr <;> simp [keepK, hg]
    · rw [if_neg hk5]
      have hd : doP at_ M p = putL M p.gr (logDo ((lk M p.gr).getD ⟨newG p.gr, []⟩) p at_) := by unfold doP; rw [if_pos hp, if_neg hk5]
      have hv := hM.at (part_gr hp)
      have hw : (getG (grpsL M) p.gr).getD (newG p.gr) = ((lk M p.gr).getD ⟨newG p.gr, []⟩).g := by
        rw [getG_M hid]; cases lk M p.gr <;> rfl
      have hold : ∀ i, (lk M p.gr).bind (fun v => lk v.sp i) = lk ((lk M p.gr).getD ⟨newG p.gr, []⟩).sp i := fun i => by cases lk M p.gr <;> rfl
      rw [hd] at hM' hS' ⊢
      simp only
      rw [hw]
      generalize (lk M p.gr).getD ⟨newG p.gr, []⟩ = v at hv hold hM' hS' ⊢
      have hlog : logDo v p at_ = ⟨doS v.g p, nextW putL (lk v.sp) p at_ v.g (doS v.g p)⟩ := by
        unfold logDo; rw [if_pos]; unfold okDo; simp [hp, hv.id, hk5]
      have hN := hv.g.doS p
      have hsub : ∀ e ∈ (doS v.g p).es, e ∈ v.g.es ∨ e ∈ p.es := fun e he => doS_sub he
      have hgid : (doS v.g p).id = p.gr := by rw [doS_id]; exact hv.id
      rw [hlog] at hM' hS' ⊢
      have hW := with_M hM.1 hid (v := ⟨doS v.g p, nextW putL (lk v.sp) p at_ v.g (doS v.g p)⟩)
      simp only [hgid] at hW
      refine Prod.ext hW (kv_inj ?_)
      have hmr := marks_ref hp v.g (doS v.g p)
      refine Srt.ext (refS_srt _ _ _ _ hS) hS' fun k => ?_
      obtain ⟨g, i⟩ := k
      rw [lk_refS _ _ _ _ hS, lk_spots hM', lk_put, lk_spots hM]
      by_cases hg : g = p.gr
      · subst hg
        rw [if_pos rfl, if_pos rfl, hold, hmr]
        simp only [Option.bind_some]
        rw [lk_next _ _ _ hN.srt]
        generalize hnow : doS v.g p = now at hN hsub ⊢
        split
        · rfl
        split
        · rfl
        have hposE : ∀ e ∈ now.es, 1 ≤ e.ix := fun e he => (okEnt_iff.1 (hN.ok e he)).1.1
        have hlh : ∀ e ∈ p.es, (lhas now e && decide (e.ix = i)) = true ↔ e ∈ now.es ∧ e.ix = i := fun e he => by
          rw [Bool.and_eq_true, decide_eq_true_eq]
          refine and_congr_left fun hi => ?_
          unfold lhas
          constructor
          · intro h
            split at h
            · next x hx =>
              have : x = e := by simpa using h
              subst this
              exact List.mem_of_find?_eq_some hx
            · cases h
          · intro h
            rw [has_of hN.srt h rfl]
            simp
        cases hf : now.es.find? (fun e => decide (e.ix = i)) with
        | none =>
          have hno : p.es.any (fun e => lhas now e && decide (e.ix = i)) = false := by
            rw [List.any_eq_false]
            intro e he h
            obtain ⟨h1, h2⟩ := (hlh e he).1 h
            have := List.find?_eq_none.1 hf e h1
            simp [h2] at this
          rw [hno, hasIx_find, hf]
          by_cases h0 : i = 0 ∨ i = -1
          · rw [if_neg (by simp), if_pos (.inl (by omega)), if_pos h0]
          · rw [if_neg (by simp), if_neg h0]
            by_cases hi : i ≤ 0
            · rw [if_pos (.inl hi)]
              cases hl : lk v.sp i with
              | none => rfl
              | some x =>
                rcases hv.key _ (lk_mem hl) with h | h | ⟨e, he, h⟩
                · exact absurd (.inr h) h0
                · exact absurd (.inl h) h0
                · have := (okEnt_iff.1 (hv.g.ok e he)).1.1
                  simp only at h; omega
            · rw [if_neg (by simp; omega)]
        | some e =>
          have he := List.mem_of_find?_eq_some hf
          have hi : e.ix = i := by simpa using List.find?_some hf
          have h1 := hposE e he
          have hbr : p.es.any (fun e => lhas now e && decide (e.ix = i)) = broughtS p e := by
            unfold broughtS
            by_cases hk : p.kd = 1 ∨ p.kd = 6
            · have hk' : (decide (p.kd = 1) || decide (p.kd = 6)) = true := by simpa using hk
              rw [hk', Bool.true_and, Bool.eq_iff_iff, List.any_eq_true, List.any_eq_true]
              constructor
              · rintro ⟨x, hx, h⟩
                obtain ⟨h2, h3⟩ := (hlh x hx).1 h
                have := has_of hN.srt h2 h3
                rw [hf] at this
                exact ⟨x, hx, by simpa using this⟩
              · rintro ⟨x, hx, h⟩
                have : e = x := by simpa using h
                subst this
                exact ⟨e, hx, (hlh e hx).2 ⟨he, hi⟩⟩
            · rw [part_es hp (fun h => hk (.inl h)) (fun h => hk (.inr h))]; simp
          rw [hbr, hasIx_find, hf]
          simp only [Option.isSome_some, or_true, if_true]
          cases hb : broughtS p e with
          | true => simp
          | false =>
            simp only [if_false, Bool.false_eq_true]
            have hin : e ∈ v.g.es := by
              rcases hsub e he with h | h
              · exact h
              · exfalso
                have hk : p.kd = 1 ∨ p.kd = 6 := by
                  by_cases h1 : p.kd = 1
                  · exact .inl h1
                  by_cases h6 : p.kd = 6
                  · exact .inr h6
                  rw [part_es hp h1 h6] at h; cases h
                have hk' : (decide (p.kd = 1) || decide (p.kd = 6)) = true := by simpa using hk
                unfold broughtS at hb
                rw [hk', Bool.true_and, List.any_eq_false] at hb
                exact hb e h (by simp)
            obtain ⟨x, hx, hxi⟩ := hv.has e hin
            have : lk v.sp i = some x.2 := hv.srt.lk_mem (by rw [← hi, ← hxi]; exact hx)
            rw [this]; rfl
      · rw [if_neg hg, if_neg hg]
  · rw [if_neg hp]
    have hd : doP at_ M p = M := by unfold doP; rw [if_neg hp]
    rw [hd]
theorem MOk.doL {M : List (Int × LogV)} (hM : MOk M) (l : List Prt) (at_ : Plc) : MOk (doL M l at_) := by
  unfold Ab.doL
  induction l generalizing M with
  | nil => exact hM
  | cons p l ih => exact ih (hM.doP at_ p)
theorem ref_doL {M : List (Int × LogV)} (hM : MOk M) (l : List Prt) (at_ : Plc) : refL at_ (grpsL M, spotsM M) l = (grpsL (doL M l at_), spotsM (doL M l at_)) := by
  unfold refL doL
  induction l generalizing M with
  | nil => rfl
  | cons p l ih => rw [List.foldl_cons, List.foldl_cons, ref_doP hM, ih (hM.doP at_ p)]
end Go.Ab
end
section
namespace Go.Ab
open Go.RowKit Go.Proofs
set_option linter.unusedVariables false
set_option linter.unusedSimpArgs false
@[ext] structure Stp where
  l : List Prt
  sg : Int
  at_ : Int
  deriving DecidableEq, Inhabited
end Go.Ab
end
section
namespace Go.Proofs.YtmpoeamfcienoaaGreat
open Go.Ab
set_option linter.unusedVariables false
set_option linter.unusedSimpArgs false
set_option maxRecDepth 100000
set_option maxHeartbeats 4000000
def fewPart (p : Prt) : Bool := ((List.range p.es.length).all fun j => !decide ((60 : Int) < ((p.es.getD j default).da.size : Int))) && decide ((p.es.length : Int) ≤ 8)
def fewParts (l : List Prt) : Bool := ((List.range l.length).all fun j => fewPart (l.getD j default)) && decide ((l.length : Int) ≤ 6)
theorem ct_ladelaw14_fewPart {x : Prt} {s : AState} (hl : (x.es.length : Int) < 9223372036854775808)  : Gives prog F_ladelaw14_fewPart [x.av] s (.v (.bool (fewPart x))) s := by
  refine Runs.gives' (runs_e h_ladelaw14_fewPart (Nat.le_of_ble_eq_true rfl) ?_) (.v _)
  unfold fewPart
  refine st0 ?_
  refine loop_ok [0, 1, 3] (fun k a s1 => Grows (s.alloc (.cells x.cells)) s1 ∧ ∃ i : Nat, i + k = x.es.length ∧ ((List.range i).all (fun j => !decide ((60 : Int) < ((x.es.getD j default).da.size : Int)))) = true ∧ a = { t := den 23 [(0, x.av), (1, .p s.n 0), (3, .v (.int .i64 i))], d := [] }) x.es.length ?_ ?_
  · exact ⟨.refl _, 0, by simp, rfl, by simp⟩
  · rintro k a s1 ⟨hg, i, hik, hall, rfl⟩
    by_cases hlt : i < x.es.length
    · have e1 : x.es.getD i default = x.es[i] := by simp [hlt]
      have hG := trivial
      have hG2 := trivial
      have hw : IntKind.wrap .i64 ((i : Int) + 1) = (i : Int) + 1 := wrap_i64 (by omega) (by omega)
      have hgb := hg.get (b := s.n)
      try simp at hgb
      clear hl
      repeat' (first | refine sa0 ?_ | ((with_reducible first | apply s_split | apply s_gsplit) <;> (intro hb; have hb' := hb; try simp only [decide_eq_true_eq, decide_eq_false_iff_not, beq_iff_eq, beq_eq_false_iff_ne, bne_iff_ne, bne_eq_false_iff_eq, ne_eq, Bool.not_true, Bool.not_false, Bool.not_eq_true', Bool.not_eq_false', Bool.and_eq_true, Bool.or_eq_true, Bool.or_eq_false_iff] at hb; try simp at hb')))
      all_goals first
        | exact ⟨k - 1, by omega, (by first | exact hg | exact hg.alloc _), i + 1, by omega, all_step hall (by simp only [e1]; simp [*]), by simp [hw]⟩
        | (refine ret_ok rfl ⟨((Grows.refl _).alloc _).trans hg, ?_⟩; rw [all_stop hlt (by simp only [e1]; simp [*])]; exact AV.le.refl _)
    · have hgb := hg.get (b := s.n)
      try simp at hgb
      refine st2 hlt hgb ?_
      have : i = x.es.length := by omega
      subst this
      refine ret_ok rfl ⟨((Grows.refl _).alloc _).trans hg, ?_⟩
      rw [hall]; simp [AV.le.refl]
theorem ct_ladelaw14_fewParts {x : List Prt} {s : AState} (hl : (x.length : Int) < 9223372036854775808) (hes : ∀ p ∈ x, (p.es.length : Int) < 9223372036854775808) : Gives prog F_ladelaw14_fewParts [.sl (x.map Prt.av) .no] s (.v (.bool (fewParts x))) s := by
  refine Runs.gives' (runs_e h_ladelaw14_fewParts (Nat.le_of_ble_eq_true rfl) ?_) (.v _)
  unfold fewParts
  refine st0 ?_
  refine loop_ok [0, 3] (fun k a s1 => Grows (s) s1 ∧ ∃ i : Nat, i + k = x.length ∧ ((List.range i).all (fun j => fewPart (x.getD j default))) = true ∧ a = { t := den 19 [(0, .sl (x.map Prt.av) .no), (3, .v (.int .i64 i))], d := [] }) x.length ?_ ?_
  · exact ⟨.refl _, 0, by simp, rfl, by simp⟩
  · rintro k a s1 ⟨hg, i, hik, hall, rfl⟩
    by_cases hlt : i < x.length
    · have e1 : x.getD i default = x[i] := by simp [hlt]
      have hG := hes _ (List.getElem_mem hlt)
      have hG2 := trivial
      have hw : IntKind.wrap .i64 ((i : Int) + 1) = (i : Int) + 1 := wrap_i64 (by omega) (by omega)
      have hgb := hg.get (b := s.n)
      try simp at hgb
      clear hl hes
      repeat' (first | simp -dsimp -implicitDefEqProofs (disch := first | omega | (simp <;> omega) | fail) [*] | ((with_reducible first | apply m_1 | apply m_0); (focus ((conv => lhs; simp -dsimp -implicitDefEqProofs (disch := first | omega | (simp <;> omega) | fail) [*]); done))) | ((with_reducible apply giv); (case hAR => ((conv => lhs; simp -dsimp -implicitDefEqProofs (disch := first | omega | (simp <;> omega) | fail) [*]); done)); (case hCT => (first | (apply ct_ladelaw14_fewPart <;> first | assumption | omega | decide)))) | ((with_reducible first | apply i_T | apply g_T); (focus (simp -dsimp -implicitDefEqProofs (disch := first | omega | (simp <;> omega) | fail) [*]; done))) | ((with_reducible first | apply i_F | apply g_F); (focus (simp -dsimp -implicitDefEqProofs (disch := first | omega | (simp <;> omega) | fail) [*]; done))) | ((with_reducible first | apply s_split | apply s_gsplit) <;> (intro hb; have hb' := hb; try simp only [decide_eq_true_eq, decide_eq_false_iff_not, beq_iff_eq, beq_eq_false_iff_ne, bne_iff_ne, bne_eq_false_iff_eq, ne_eq, Bool.not_true, Bool.not_false, Bool.not_eq_true', Bool.not_eq_false', Bool.and_eq_true, Bool.or_eq_true, Bool.or_eq_false_iff] at hb; try simp at hb')))
      all_goals first
        | exact ⟨k - 1, by omega, (by first | exact hg | exact hg.alloc _), i + 1, by omega, all_step hall (by simp only [e1]; simp [*]), by simp [hw]⟩
        | (refine ret_ok rfl ⟨hg, ?_⟩; rw [all_stop hlt (by simp only [e1]; simp [*])]; exact AV.le.refl _)
    · have hgb := hg.get (b := s.n)
      try simp at hgb
      refine st2 hlt hgb ?_
      have : i = x.length := by omega
      subst this
      refine ret_ok rfl ⟨hg, ?_⟩
      rw [hall]; simp [AV.le.refl]
theorem ct_ladelaw20_fewPart {x : Prt} {s : AState} (hl : (x.es.length : Int) < 9223372036854775808)  : Gives prog F_ladelaw20_fewPart [x.av] s (.v (.bool (fewPart x))) s := by
  refine Runs.gives' (runs_e h_ladelaw20_fewPart (Nat.le_of_ble_eq_true rfl) ?_) (.v _)
  unfold fewPart
  refine st0 ?_
  refine loop_ok [0, 1, 3] (fun k a s1 => Grows (s.alloc (.cells x.cells)) s1 ∧ ∃ i : Nat, i + k = x.es.length ∧ ((List.range i).all (fun j => !decide ((60 : Int) < ((x.es.getD j default).da.size : Int)))) = true ∧ a = { t := den 23 [(0, x.av), (1, .p s.n 0), (3, .v (.int .i64 i))], d := [] }) x.es.length ?_ ?_
  · exact ⟨.refl _, 0, by simp, rfl, by simp⟩
  · rintro k a s1 ⟨hg, i, hik, hall, rfl⟩
    by_cases hlt : i < x.es.length
    · have e1 : x.es.getD i default = x.es[i] := by simp [hlt]
      have hG := trivial
      have hG2 := trivial
      have hw : IntKind.wrap .i64 ((i : Int) + 1) = (i : Int) + 1 := wrap_i64 (by omega) (by omega)
      have hgb := hg.get (b := s.n)
      try simp at hgb
      clear hl
      repeat' (first | simp -dsimp -implicitDefEqProofs (disch := first | omega | (simp <;> omega) | fail) [*] | ((with_reducible first | apply m_1 | apply m_0); (focus ((conv => lhs; simp -dsimp -implicitDefEqProofs (disch := first | omega | (simp <;> omega) | fail) [*]); done))) | ((with_reducible first | apply i_T | apply g_T); (focus (simp -dsimp -implicitDefEqProofs (disch := first | omega | (simp <;> omega) | fail) [*]; done))) | ((with_reducible first | apply i_F | apply g_F); (focus (simp -dsimp -implicitDefEqProofs (disch := first | omega | (simp <;> omega) | fail) [*]; done))) | ((with_reducible first | apply s_split | apply s_gsplit) <;> (intro hb; have hb' := hb; try simp only [decide_eq_true_eq, decide_eq_false_iff_not, beq_iff_eq, beq_eq_false_iff_ne, bne_iff_ne, bne_eq_false_iff_eq, ne_eq, Bool.not_true, Bool.not_false, Bool.not_eq_true', Bool.not_eq_false', Bool.and_eq_true, Bool.or_eq_true, Bool.or_eq_false_iff] at hb; try simp at hb')))
      all_goals first
        | exact ⟨k - 1, by omega, (by first | exact hg | exact hg.alloc _), i + 1, by omega, all_step hall (by simp only [e1]; simp [*]), by simp [hw]⟩
        | (refine ret_ok rfl ⟨((Grows.refl _).alloc _).trans hg, ?_⟩; rw [all_stop hlt (by simp only [e1]; simp [*])]; exact AV.le.refl _)
    · have hgb := hg.get (b := s.n)
      try simp at hgb
      refine st2 hlt hgb ?_
      have : i = x.es.length := by omega
      subst this
      refine ret_ok rfl ⟨((Grows.refl _).alloc _).trans hg, ?_⟩
      rw [hall]; simp [AV.le.refl]
theorem ct_ladelaw20_fewParts {x : List Prt} {s : AState} (hl : (x.length : Int) < 9223372036854775808) (hes : ∀ p ∈ x, (p.es.length : Int) < 9223372036854775808) : Gives prog F_ladelaw20_fewParts [.sl (x.map Prt.av) .no] s (.v (.bool (fewParts x))) s := by
  refine Runs.gives' (runs_e h_ladelaw20_fewParts (Nat.le_of_ble_eq_true rfl) ?_) (.v _)
  unfold fewParts
  refine st0 ?_
  refine loop_ok [0, 3] (fun k a s1 => Grows (s) s1 ∧ ∃ i : Nat, i + k = x.length ∧ ((List.range i).all (fun j => fewPart (x.getD j default))) = true ∧ a = { t := den 19 [(0, .sl (x.map Prt.av) .no), (3, .v (.int .i64 i))], d := [] }) x.length ?_ ?_
  · exact ⟨.refl _, 0, by simp, rfl, by simp⟩
  · rintro k a s1 ⟨hg, i, hik, hall, rfl⟩
    by_cases hlt : i < x.length
    · have e1 : x.getD i default = x[i] := by simp [hlt]
      have hG := hes _ (List.getElem_mem hlt)
      have hG2 := trivial
      have hw : IntKind.wrap .i64 ((i : Int) + 1) = (i : Int) + 1 := wrap_i64 (by omega) (by omega)
      have hgb := hg.get (b := s.n)
      try simp at hgb
      clear hl hes
      repeat' (first | simp -dsimp -implicitDefEqProofs (disch := first | omega | (simp <;> omega) | fail) [*] | ((with_reducible first | apply m_1 | apply m_0); (focus ((conv => lhs; simp -dsimp -implicitDefEqProofs (disch := first | omega | (simp <;> omega) | fail) [*]); done))) | ((with_reducible apply giv); (case hAR => ((conv => lhs; simp -dsimp -implicitDefEqProofs (disch := first | omega | (simp <;> omega) | fail) [*]); done)); (case hCT => (first | (apply ct_ladelaw20_fewPart <;> first | assumption | omega | decide)))) | ((with_reducible first | apply i_T | apply g_T); (focus (simp -dsimp -implicitDefEqProofs (disch := first | omega | (simp <;> omega) | fail) [*]; done))) | ((with_reducible first | apply i_F | apply g_F); (focus (simp -dsimp -implicitDefEqProofs (disch := first | omega | (simp <;> omega) | fail) [*]; done))) | ((with_reducible first | apply s_split | apply s_gsplit) <;> (intro hb; have hb' := hb; try simp only [decide_eq_true_eq, decide_eq_false_iff_not, beq_iff_eq, beq_eq_false_iff_ne, bne_iff_ne, bne_eq_false_iff_eq, ne_eq, Bool.not_true, Bool.not_false, Bool.not_eq_true', Bool.not_eq_false', Bool.and_eq_true, Bool.or_eq_true, Bool.or_eq_false_iff] at hb; try simp at hb')))
      all_goals first
        | exact ⟨k - 1, by omega, (by first | exact hg | exact hg.alloc _), i + 1, by omega, all_step hall (by simp only [e1]; simp [*]), by simp [hw]⟩
        | (refine ret_ok rfl ⟨hg, ?_⟩; rw [all_stop hlt (by simp only [e1]; simp [*])]; exact AV.le.refl _)
    · have hgb := hg.get (b := s.n)
      try simp at hgb
      refine st2 hlt hgb ?_
      have : i = x.length := by omega
      subst this
      refine ret_ok rfl ⟨hg, ?_⟩
      rw [hall]; simp [AV.le.refl]
theorem fewParts_len {l : List Prt} (h : fewParts l = true) : l.length ≤ 6 ∧ (∀ p ∈ l, p.es.length ≤ 8) := by
  simp only [fewParts, Bool.and_eq_true, decide_eq_true_eq, List.all_eq_true, List.mem_range] at h
  refine ⟨by omega, fun p hp => ?_⟩
  obtain ⟨j, hj, rfl⟩ := List.getElem_of_mem hp
  have := h.1 j hj
  rw [List.getD_eq_getElem?_getD, List.getElem?_eq_getElem hj] at this
  simp only [fewPart, Bool.and_eq_true, decide_eq_true_eq, Option.getD_some] at this
  omega
theorem wt_few {l : List Prt} (h1 : l.length ≤ 6) (h2 : ∀ p ∈ l, p.es.length ≤ 8) : wtL l ≤ 60 := by
  have : ∀ l : List Prt, (∀ p ∈ l, p.es.length ≤ 8) → wtL l ≤ l.length * 10 := by
    intro l
    induction l with
    | nil => intro _; simp [wtL]
    | cons p l ih =>
      intro h
      have h1 := ih fun q hq => h q (by simp [hq])
      have h2 := h p (by simp)
      simp only [wtL, List.map_cons, List.sum_cons, List.length_cons] at h1 ⊢
      omega
  have := this l h2
  omega
end Go.Proofs.YtmpoeamfcienoaaGreat
end
section
namespace Go.Ab
set_option linter.unusedVariables false
theorem srt_len2 {α : Type} : ∀ {l : List (Int × α)} {lo hi : Int}, Srt l → (∀ x ∈ l, lo ≤ x.1 ∧ x.1 ≤ hi) → lo ≤ hi + 1 → (l.length : Int) ≤ hi - lo + 1
  | [], lo, hi, _, _, h => by simp; omega
  | x :: l, lo, hi, hs, hr, h => by
    obtain ⟨h1, h2⟩ := List.pairwise_cons.1 hs
    have hx := hr x (by simp)
    have := srt_len2 (lo := x.1 + 1) (hi := hi) h2 (fun y hy => ⟨by have : x.1 < y.1 := h1 y hy; omega, (hr y (by simp [hy])).2⟩) (by omega)
    simp only [List.length_cons]; omega
theorem MOk.len {M : List (Int × LogV)} (h : MOk M) : M.length ≤ 1000 := by
  have := srt_len2 (lo := 0) (hi := 999) h.1 (fun x hx => (h.2 x hx).rng) (by omega)
  omega
theorem MOk.nil : MOk [] := ⟨.nil, by simp⟩
theorem MOk.small {M : List (Int × LogV)} (h : MOk M) (hs : (spotsM M).length ≤ 4000000000) : Small M :=
  ⟨by have := h.len; omega, fun x hx => by have := (h.2 x hx).g.len; have := MI_eq; omega, by omega⟩
theorem refL_len {x : List Grp × List Spt} {at_ : Plc} {l : List Prt} (h : ∀ g ∈ x.1, Spar g) : (refL at_ x l).2.length ≤ x.2.length + wtL l := by
  induction l generalizing x with
  | nil => simp [refL, wtL]
  | cons p l ih =>
    have h1 := refP_ok at_ x p h
    have h2 := ih h1.1
    have : wtL (p :: l) = p.es.length + 2 + wtL l := by simp [wtL]
    have e : refL at_ x (p :: l) = refL at_ (refP at_ x p) l := rfl
    rw [e]; omega
theorem grps_spar {M : List (Int × LogV)} (h : MOk M) : ∀ g ∈ grpsL M, Spar g := fun g hg => by obtain ⟨x, hx, rfl⟩ := List.mem_map.1 hg; exact h.gok x hx
theorem spots_doL {M : List (Int × LogV)} (h : MOk M) (l : List Prt) (at_ : Plc) : (spotsM (doL M l at_)).length ≤ (spotsM M).length + wtL l := by
  have := refL_len (x := (grpsL M, spotsM M)) (at_ := at_) (l := l) (grps_spar h)
  rw [ref_doL h] at this
  exact this
section
variable {P : Program} {g : FuncId} {args : List AV} {s : AState} {R K : AV → AState → Prop}
theorem runS (h : Runs (compCode P) P g (args.map AV.strip) s R) (k : ∀ x s', R x s' → K x s') : Lruns (compCode P) P g args s K .a := run (Runs.strip h) rfl k
end
end Go.Ab
end
section
namespace Go.Ab
set_option linter.unusedVariables false
set_option linter.unusedSimpArgs false
theorem spots_of {M N : List (Int × LogV)} (hM : MOk M) (hN : MOk N) (k : Int) (h : ∀ g, lk N g = if g = k then lk M k else none) : spotsM N = (spotsM M).filter fun s => decide (s.gr = k) := by
  apply kv_inj
  have e : kv ((spotsM M).filter fun s => decide (s.gr = k)) = (kv (spotsM M)).filter fun y => decide (y.1.1 = k) := by
    unfold kv; rw [List.filter_map]; rfl
  rw [e]
  refine (spots_srt hN).ext ((spots_srt hM).filter _) fun x => ?_
  obtain ⟨g, i⟩ := x
  rw [lk_spots hN, lk_filter _ (fun y : Int × Int => decide (y.1 = k)), lk_spots hM, h]
  by_cases e : g = k
  · subst e; simp
  · simp [e]
theorem lk_takeL (O : List (Int × LogV)) (hO : (O.map (·.1)).Nodup) (g : Int) : ∀ (M : List (Int × LogV)), lk (takeL M O) g = (lk M g).or (lk O g) := by
  unfold takeL
  induction O with
  | nil => intro M; rw [List.foldl_nil]; cases lk M g <;> rfl
  | cons x O ih =>
    intro M
    simp only [List.map_cons, List.nodup_cons] at hO
    rw [List.foldl_cons, ih hO.2, lk_cons]
    by_cases e : g = x.1
    · have hn : lk O g = none := lk_none.2 (by rw [e]; exact hO.1)
      rw [if_pos e, hn]
      cases h : lk M x.1 with
      | none => rw [if_neg (by simp), lk_put, if_pos e, e, h]; rfl
      | some v => rw [if_pos (by simp), e, h]; rfl
    · rw [if_neg e]
      split
      · rfl
      · rw [lk_put, if_neg e]
theorem MOk.takeL {M O : List (Int × LogV)} (hM : MOk M) (hO : MOk O) : MOk (takeL M O) := by
  unfold Ab.takeL
  have key : ∀ (l : List (Int × LogV)), (∀ x ∈ l, VOk x.1 x.2) → ∀ M, MOk M → MOk (l.foldl (fun M x => if (lk M x.1).isSome then M else putL M x.1 x.2) M) := by
    intro l
    induction l with
    | nil => intro _ M h; exact h
    | cons x l ih =>
      intro hl M hM
      rw [List.foldl_cons]
      refine ih (fun y hy => hl y (by simp [hy])) _ ?_
      split
      · exact hM
      · refine ⟨hM.1.put _ _, fun y hy => ?_⟩
        rcases put_mem hy with rfl | hy
        · exact hl x (by simp)
        · exact hM.2 y hy
  exact key O hO.2 M hM
def joinL (l : List (List (Int × LogV))) : List (Int × LogV) := l.foldl takeL []
theorem MOk.nil' : MOk [] := ⟨.nil, by simp⟩
theorem MOk.joinL {l : List (List (Int × LogV))} (h : ∀ M ∈ l, MOk M) : MOk (joinL l) := by
  unfold Ab.joinL
  have key : ∀ (l : List (List (Int × LogV))), (∀ M ∈ l, MOk M) → ∀ M, MOk M → MOk (l.foldl Ab.takeL M) := by
    intro l
    induction l with
    | nil => intro _ M h; exact h
    | cons x l ih => intro hl M hM; exact ih (fun y hy => hl y (by simp [hy])) _ (hM.takeL (hl x (by simp)))
  exact key l h [] .nil'
theorem joinL_snoc {l : List (List (Int × LogV))} {j : Nat} (h : j < l.length) : joinL (l.take (j + 1)) = takeL (joinL (l.take j)) l[j] := by
  have e : l.take (j + 1) = l.take j ++ [l[j]] := (List.take_append_getElem h).symm
  rw [e, joinL, List.foldl_append]; rfl
end Go.Ab
end
section
namespace Go.Ab
set_option linter.unusedVariables false
def LedsAll (s : AState) (bs : List Nat) (Ms : List (List (Int × LogV))) : Prop := bs.length = Ms.length ∧ ∀ i (h : i < bs.length) (h' : i < Ms.length), ∃ F, LedAt s bs[i] Ms[i] F ∧ ∀ x ∈ F, x < s.n
theorem LedsAll.keep {s s' : AState} {bs : List Nat} {Ms : List (List (Int × LogV))} (h : LedsAll s bs Ms) (hn : s.n ≤ s'.n) (k : ∀ x, x < s.n → s'.get x = s.get x) : LedsAll s' bs Ms :=
  ⟨h.1, fun i h1 h2 => by obtain ⟨F, hF, hl⟩ := h.2 i h1 h2; exact ⟨F, hF.keep fun x hx => k x (hl x hx), fun x hx => by have := hl x hx; omega⟩⟩
structure JnI (s : AState) (b : Nat) (z : AV) (M : List (Int × LogV)) (F : List Nat) (s' : AState) : Prop where
  b0 : s'.get s.n = .cells [.p b 0]
  b1 : s'.get (s.n + 1) = .cells [z]
  n : s.n + 4 ≤ s'.n
  led : ∃ F', LedAt s' b M F' ∧ Mut F F' s s' ∧ ∀ x ∈ F', x < s.n ∨ s.n + 4 ≤ x
theorem JnI.keep {s : AState} {b : Nat} {z : AV} {M : List (Int × LogV)} {F : List Nat} {s' s2 : AState} (h : JnI s b z M F s') (hn : s'.n ≤ s2.n) (hk : ∀ x, x < s'.n → x ≠ s.n + 3 → s2.get x = s'.get x) : JnI s b z M F s2 := by
  obtain ⟨h1, h2, h4, F', h5, h6, h7⟩ := h
  have hF := h5.lt
  refine ⟨(hk _ (by omega) (by omega)).trans h1, (hk _ (by omega) (by omega)).trans h2, by omega, F', h5.keep fun x hx => hk x (hF x hx) ?_, ⟨by have := h6.n; omega, fun x hx hn => (hk x (by have := h6.n; omega) (by omega)).trans (h6.keep x hx hn), h6.own⟩, h7⟩
  have := h7 x hx; omega
end Go.Ab
namespace Go.Proofs.YtmpoeamfcienoaaGreat
open Go.Ab
set_option linter.unusedVariables false
set_option linter.unusedSimpArgs false
set_option maxRecDepth 100000
set_option maxHeartbeats 1000000
theorem rn_join_Of {bs : List Nat} {Ms : List (List (Int × LogV))} {s : AState} (hB : LedsAll s bs Ms) (hM : ∀ M ∈ Ms, MOk M) (hl : bs.length ≤ 1000000) :
    Runs (compCode prog) prog F_join_Of [.sl (bs.map fun n => .p n 0) .no] s (fun x s' => ∃ b F, x = .p b 0 ∧ LedAt s' b (joinL Ms) F ∧ Mut [] F s s') := by
  refine runs_e h_join_Of (Nat.le_of_ble_eq_true rfl) ?_
  refine st0 ?_
  refine rn0 (rn_ledger_New) ?_
  rintro _ s1 ⟨b, F0, rfl, h1, h2, h3⟩
  refine st0 ?_
  refine gv (ct_slices_Values_Ledger (xs := bs.map fun n => .p n 0)) ?_
  refine st0 ?_
  have hit := it_slices_Values_Ledger (bs.map fun n => .p n 0) (.ptrs _) (s1.n + 1) (by simp; omega)
  have hsn : ((s1.alloc (.cells [.p b 0])).alloc (.cells [.sl (bs.map fun n => .p n 0) .no])).n = s1.n + 2 := by simp
  have hlt := h1.lt
  have hn1 := h2.n
  refine w_rangeS (m := bs.length) (by simp) hit (by intro x hx; obtain ⟨p, _, rfl⟩ := List.mem_map.1 hx; rfl) (by simp) (fun k s' => JnI s1 b (.sl (bs.map fun n => .p n 0) .no) (joinL (Ms.take k)) F0 s') (fun _ _ => False) ?_ ?_ ?_ ?_ ?_ ?_ ?_
  · intro LR
    exact ⟨dz0, dz0, by simp, F0, h1.keep fun x hx => by have := hlt x hx; simp (disch := first | omega | (simp <;> omega) | fail), .grows (((((Grows.refl s1).alloc _).alloc _).alloc _).alloc _), fun x hx => .inl (hlt x hx)⟩
  · intro k s' h; exact h.b1
  · intro k s' o hn h; exact h.keep (by simp) fun x hx _ => get_alloc_ne (by omega)
  · intro j s' o hn h; exact h
  · intro LR LB LJ hLB hLR k hk s' hdd hLL hln hI
    have hk' : k < bs.length := by simpa using hk
    have hkM : k < Ms.length := by have := hB.1; omega
    rw [joinL_snoc hkM]
    generalize joinL (Ms.take k) = M1 at hI ⊢
    simp only [hsn, List.getElem_map, List.zip_cons_cons, List.zip_nil_right, List.reverse_cons, List.reverse_nil, List.nil_append, List.cons_append] at hdd hLL hln ⊢
    obtain ⟨Fs, hs1, hs2⟩ := hB.2 k hk' hkM
    have hI2 : JnI s1 b (.sl (bs.map fun n => .p n 0) .no) M1 F0 (s'.set (s1.n + 2 + 1) LB) := hI.keep (by simp) fun x hx hn => dz1 hn
    have hb0 := hI.b0
    obtain ⟨g1, g2, g4, F', g5, g6, g7⟩ := hI2
    have k2 : (s'.set (s1.n + 2 + 1) LB).get (s1.n + 2 + 1) = LB := dz0
    have k4 : (s'.set (s1.n + 2 + 1) LB).get (s1.n + 2) = .defd := dz1 hdd
    have hF1 := g5.lt
    have hsrc : LedAt (s'.set (s1.n + 2 + 1) LB) bs[k] Ms[k] Fs := hs1.keep fun x hx => by
      have h8 := hs2 x hx
      have h9 : x ∉ F0 := fun hm => by have := h3 x hm; omega
      rw [g6.keep x (by omega) h9, h2.get h8]
    have hdis : ∀ x ∈ Fs, x ∉ F' := fun x hx hm => by
      have h8 := hs2 x hx
      rcases g6.own x hm with h9 | h9
      · have := h3 x h9; omega
      · omega
    refine st2 hLL hb0 ?_
    clear hI hLL hdd hln hb0
    generalize s'.set (s1.n + 2 + 1) LB = s4 at k2 k4 g1 g2 g4 g5 g6 hF1 hsrc ⊢
    refine run (rn_ledger_Ledger_Take g5 hsrc hdis (hM _ (List.getElem_mem hkM)) (by have := (hM _ (List.getElem_mem hkM)).len; omega)) (by simp) ?_
    rintro _ s5 ⟨F5, j1, j2⟩
    have jn := j2.n
    have jk : ∀ x, x < s4.n → x ∉ F' → s5.get x = s4.get x := fun x hx hn => j2.keep x hx hn
    have n0 : ∀ x, s1.n ≤ x → x < s1.n + 4 → x ∉ F' := fun x h8 h9 hm => by have := g7 x hm; omega
    refine st1 ((jk _ (by omega) (n0 (s1.n + 2 + 1) (by omega) (by omega))).trans k2) ?_
    refine fins_n (fun d hd => by cases hd; rw [AState.get_set_ne _ _ (by omega)]; exact (jk _ (by omega) (n0 _ (by omega) (by omega))).trans k4) (dz0) ?_
    have h5 : JnI s1 b (.sl (bs.map fun n => .p n 0) .no) (takeL M1 Ms[k]) F0 s5 := ⟨(jk _ (by omega) (n0 _ (by omega) (by omega))).trans g1, (jk _ (by omega) (n0 _ (by omega) (by omega))).trans g2, by omega, F5, j1, g6.trans j2, fun x hx => by
      rcases j2.own x hx with h8 | h8
      · exact g7 x h8
      · exact .inr (by omega)⟩
    exact h5.keep (by simp) fun x hx hn => dz1 hn
  · rintro s' hdd hln hI
    rw [List.take_of_length_le (by have := hB.1; omega)] at hI
    simp only [hsn] at hdd hln ⊢
    obtain ⟨g1, g2, g4, F', g5, g6, g7⟩ := hI
    have hF1 := g5.lt
    refine st1 g1 ?_
    have hk : ∀ x, x < s'.n → (x < s1.n ∨ s1.n + 4 ≤ x) → (killAll [s1.n + 2] (s'.set (s1.n + 2 + 1) .dead)).get x = s'.get x := fun x hx h8 => by
      simp only [killAll, List.foldl]
      rw [AState.get_set_ne _ _ (by omega), AState.get_set_ne _ _ (by omega)]
    refine ret_okD ?_ ?_ rfl ⟨b, F', rfl, g5.keep fun x hx => hk x (hF1 x hx) (g7 x hx), ?_⟩
    · simp (disch := first | omega | (simp <;> omega) | fail) [hdd]
    · simp
    refine ⟨by simp [killAll]; omega, fun x hx _ => ?_, fun x hx => .inr ?_⟩
    · rw [hk x (by have := g6.n; omega) (by omega), g6.keep x (by omega) (fun hm => by have := h3 x hm; omega), h2.get hx]
    · rcases g6.own x hx with h8 | h8
      · exact h3 x h8
      · omega
  · intro j s' _ _ h; exact h.elim
end Go.Proofs.YtmpoeamfcienoaaGreat
end
section
namespace Go.Ab
set_option linter.unusedVariables false
def bln (b : Bool) : AV := .v (.bool b)
def idsM (M : List (Int × LogV)) : List Int := (grpsL M).map Grp.id
def idsA (Ms : List (List (Int × LogV))) : List Int := Ms.flatMap idsM
structure AptI (s : AState) (z : AV) (P : List Int) (s' : AState) : Prop where
  mp : ∃ A : List (Int × Bool), s'.get (s.n + 1) = .map (encM bln A) ∧ ∀ i, lk A i = if i ∈ P then some true else none
  c0 : s'.get s.n = .cells [.v (.bool false)]
  c2 : s'.get (s.n + 2) = .cells [.m (s.n + 1)]
  c3 : s'.get (s.n + 3) = .cells [z]
  nd : P.Nodup
  n : s.n + 6 ≤ s'.n
  old : ∀ x, x < s.n → s'.get x = s.get x
theorem AptI.keep {s : AState} {z : AV} {P : List Int} {s' s2 : AState} (h : AptI s z P s') (hn : s'.n ≤ s2.n) (hk : ∀ x, x < s'.n → x ≠ s.n + 5 → s2.get x = s'.get x) : AptI s z P s2 := by
  obtain ⟨⟨A, m1, m2⟩, c0, c2, c3, nd, n, old⟩ := h
  exact ⟨⟨A, (hk _ (by omega) (by omega)).trans m1, m2⟩, (hk _ (by omega) (by omega)).trans c0, (hk _ (by omega) (by omega)).trans c2, (hk _ (by omega) (by omega)).trans c3, nd, by omega, fun x hx => (hk _ (by omega) (by omega)).trans (old x hx)⟩
structure AptJ (s : AState) (Ms : List (List (Int × LogV))) (j : AJump) (s' : AState) : Prop where
  j : j = .ret
  c0 : s'.get s.n = .cells [.v (.bool false)]
  nd : ¬ (idsA Ms).Nodup
  n : s.n + 6 ≤ s'.n
  old : ∀ x, x < s.n → s'.get x = s.get x
theorem AptJ.keep {s : AState} {Ms : List (List (Int × LogV))} {j : AJump} {s' s2 : AState} (h : AptJ s Ms j s') (hn : s'.n ≤ s2.n) (hk : ∀ x, x ≤ s.n → s2.get x = s'.get x) : AptJ s Ms j s2 := by
  obtain ⟨e, c0, nd, n, old⟩ := h
  exact ⟨e, (hk _ (Nat.le_refl _)).trans c0, nd, by omega, fun x hx => (hk _ (by omega)).trans (old x hx)⟩
structure AptK (s : AState) (z : AV) (P : List Int) (c : Nat) (zc : AV) (LB : AObj) (s' : AState) : Prop where
  i : AptI s z P s'
  cc : s'.get c = .cells [zc]
  l : s'.get (s.n + 5) = LB
  d : s'.get (s.n + 4) = .defd
  n : c + 1 < s'.n
structure AptL (s : AState) (Ms : List (List (Int × LogV))) (LB : AObj) (j : AJump) (s' : AState) : Prop where
  i : AptJ s Ms j s'
  l : s'.get (s.n + 5) = LB
  d : s'.get (s.n + 4) = .defd
theorem idsA_split {Ms : List (List (Int × LogV))} {k m : Nat} (hk : k < Ms.length) (hm : m < (idsM Ms[k]).length) : ∃ R, idsA Ms = (idsA (Ms.take k) ++ (idsM Ms[k]).take m) ++ (idsM Ms[k])[m] :: R := by
  have e : Ms = Ms.take k ++ Ms[k] :: Ms.drop (k + 1) := by rw [List.getElem_cons_drop]; simp
  have e2 : idsM Ms[k] = (idsM Ms[k]).take m ++ (idsM Ms[k])[m] :: (idsM Ms[k]).drop (m + 1) := by rw [List.getElem_cons_drop]; simp
  refine ⟨(idsM Ms[k]).drop (m + 1) ++ idsA (Ms.drop (k + 1)), ?_⟩
  have e3 : idsA Ms = idsA (Ms.take k) ++ (idsM Ms[k] ++ idsA (Ms.drop (k + 1))) := by
    have := congrArg idsA e
    rw [this]; simp only [idsA, List.flatMap_append, List.flatMap_cons]
  rw [e3, List.append_assoc]
  congr 1
  exact (congrArg (· ++ idsA (Ms.drop (k + 1))) e2).trans (by rw [List.append_assoc, List.cons_append])
theorem idsA_snoc {Ms : List (List (Int × LogV))} {k : Nat} (h : k < Ms.length) : idsA (Ms.take (k + 1)) = idsA (Ms.take k) ++ idsM Ms[k] := by
  have e : Ms.take (k + 1) = Ms.take k ++ [Ms[k]] := (List.take_append_getElem h).symm
  rw [e]; simp only [idsA, List.flatMap_append, List.flatMap_cons, List.flatMap_nil, List.append_nil]
end Go.Ab
namespace Go.Proofs.YtmpoeamfcienoaaGreat
open Go.Ab
set_option linter.unusedVariables false
set_option linter.unusedSimpArgs false
set_option maxRecDepth 100000
set_option maxHeartbeats 1000000
theorem ct_join_Apart {bs : List Nat} {Ms : List (List (Int × LogV))} {s : AState} (hB : LedsAll s bs Ms) (hM : ∀ M ∈ Ms, MOk M) (hsm : ∀ M ∈ Ms, Small M) (hl : bs.length ≤ 1000000) :
    Gives prog F_join_Apart [.sl (bs.map fun n => .p n 0) .no] s (.v (.bool (decide (idsA Ms).Nodup))) s := by
  refine Runs.gives (runs_e h_join_Apart (Nat.le_of_ble_eq_true rfl) ?_) (.v _)
  refine st0 ?_
  refine gv (ct_slices_Values_Ledger (xs := bs.map fun n => .p n 0)) ?_
  refine st0 ?_
  have hit := it_slices_Values_Ledger (bs.map fun n => .p n 0) (.ptrs _) (s.n + 3) (by simp; omega)
  have hlB := hB.1
  have hsn : ((((s.alloc (.cells [.v (.bool false)])).alloc (.map [])).alloc (.cells [.m (s.n + 1)])).alloc (.cells [.sl (bs.map fun n => .p n 0) .no])).n = s.n + 4 := by simp
  refine w_rangeS (m := bs.length) (by simp) hit (by intro x hx; obtain ⟨p, _, rfl⟩ := List.mem_map.1 hx; rfl) (by simp) (fun k s' => AptI s (.sl (bs.map fun n => .p n 0) .no) (idsA (Ms.take k)) s') (fun j s' => AptJ s Ms j s') ?_ ?_ ?_ ?_ ?_ ?_ ?_
  · intro LR
    exact ⟨⟨[], by simp (disch := first | omega | (simp <;> omega) | fail) [encM], fun i => by simp [idsA, lk]⟩, dz0, dz0, dz0, by simp [idsA], by simp, fun x hx => dz0⟩
  · intro k s' h; exact h.c3
  · intro k s' o hn h; exact h.keep (by simp) fun x hx _ => get_alloc_ne (by omega)
  · intro j s' o hn h; exact h.keep (by simp) fun x hx => get_alloc_ne (by have := h.n; omega)
  · intro LR LB LJ hLB hLR k hkk s' hdd hLL hln hI
    have hk : k < bs.length := by simpa using hkk
    have hkM : k < Ms.length := by omega
    rw [idsA_snoc hkM]
    have hspl := fun m hm => idsA_split (m := m) hkM hm
    generalize idsA (Ms.take k) = P at hI hspl ⊢
    simp only [hsn, List.getElem_map, List.zip_cons_cons, List.zip_nil_right, List.reverse_cons, List.reverse_nil, List.nil_append, List.cons_append] at hdd hLL hln ⊢
    obtain ⟨Fs, hs1, hs2⟩ := hB.2 k hk hkM
    have oM := hM _ (List.getElem_mem hkM)
    have sM := hsm _ (List.getElem_mem hkM)
    have hlen := sM.len
    have hI2 : AptI s (.sl (bs.map fun n => .p n 0) .no) P (s'.set (s.n + 4 + 1) LB) := hI.keep (by simp) fun x hx hn => dz1 hn
    have k2 : (s'.set (s.n + 4 + 1) LB).get (s.n + 4 + 1) = LB := dz0
    have k4 : (s'.set (s.n + 4 + 1) LB).get (s.n + 4) = .defd := dz1 hdd
    refine st1 hLL ?_
    clear hI hLL hdd hln
    generalize s'.set (s.n + 4 + 1) LB = s4 at k2 k4 hI2 ⊢
    refine gv (ct_ledger_Ledger_Groups (hs1.keep fun x hx => hI2.old x (hs2 x hx)) oM sM) ?_
    refine st0 ?_
    refine gv (ct_slices_Values_Group (xs := (grpsL Ms[k]).map Grp.av)) ?_
    refine st0 ?_
    have hn4 := hI2.n
    have hgl : (grpsL Ms[k]).length < 9223372036854775808 := by simp only [grpsL, List.length_map]; omega
    have hit2 := it_slices_Values_Group (grpsL Ms[k]) s4.n hgl
    have hil : (idsM Ms[k]).length = (grpsL Ms[k]).length := by simp [idsM]
    refine w_rangeSI (l0 := s.n + 4 + 1) (LO := LB) (dz1 k2) hLB (m := (grpsL Ms[k]).length) (by simp) hit2 (by intro x hx; obtain ⟨p, _, rfl⟩ := List.mem_map.1 hx; rfl) (by simp)
      (fun m s2 => AptK s (.sl (bs.map fun n => .p n 0) .no) (P ++ (idsM Ms[k]).take m) s4.n (.sl ((grpsL Ms[k]).map Grp.av) .no) LB s2) (fun j s2 => AptL s Ms LB j s2) ?_ ?_ ?_ ?_ ?_ ?_ ?_
    · intro LR2
      exact ⟨by rw [List.take_zero, List.append_nil]; exact hI2.keep (by simp; omega) fun x hx hn => dz0, dz0, dz1 k2, dz1 k4, by simp⟩
    · intro m s2 h; exact h.cc
    · rintro m s2 o hn ⟨h1, h2, h3, h4, h5⟩
      exact ⟨h1.keep (by simp) fun x hx _ => get_alloc_ne (by omega), by rw [get_alloc_ne (by omega)]; exact h2, by rw [get_alloc_ne (by omega)]; exact h3, by rw [get_alloc_ne (by omega)]; exact h4, by simp; omega⟩
    · rintro j s2 o hn ⟨h1, h2, h3⟩
      have := h1.n
      exact ⟨h1.keep (by simp) fun x hx => get_alloc_ne (by omega), by rw [get_alloc_ne (by omega)]; exact h2, by rw [get_alloc_ne (by omega)]; exact h3⟩
    · intro LR2 LB2 LJ2 hLB2 hLR2 m hmm s2 hLL2 hln2 hK
      have hm : m < (grpsL Ms[k]).length := by simpa using hmm
      have hmi : m < (idsM Ms[k]).length := by omega
      obtain ⟨R, hR⟩ := hspl m hmi
      have hid : (idsM Ms[k])[m] = (grpsL Ms[k])[m].id := by simp [idsM]
      have htk : (idsM Ms[k]).take (m + 1) = (idsM Ms[k]).take m ++ [(grpsL Ms[k])[m].id] := by rw [← hid]; exact (List.take_append_getElem hmi).symm
      rw [hid] at hR
      rw [htk, ← List.append_assoc]
      generalize P ++ (idsM Ms[k]).take m = P2 at hK hR ⊢
      have hc5 : s4.n + 1 < s2.n := hK.n
      simp only [List.getElem_map, AState.n_alloc, List.zip_cons_cons, List.zip_nil_right, List.reverse_cons, List.reverse_nil, List.nil_append, List.cons_append] at hLL2 hln2 ⊢
      obtain ⟨⟨⟨A, a1, a2⟩, c0, c2, c3, nd, n, old⟩, cc, kl, kd, kn⟩ := hK
      refine st2 hLL2 c2 ?_
      generalize hg : (grpsL Ms[k])[m] = g at hR ⊢
      have q0 : ((s2.set (s4.n + 1) LB2).alloc (.cells g.cells)).get s.n = _ := (by simp (disch := first | omega | (simp <;> omega) | fail) : _ = s2.get s.n).trans c0
      have q1 : ((s2.set (s4.n + 1) LB2).alloc (.cells g.cells)).get (s.n + 1) = _ := (by simp (disch := first | omega | (simp <;> omega) | fail) : _ = s2.get (s.n + 1)).trans a1
      have q2 : ((s2.set (s4.n + 1) LB2).alloc (.cells g.cells)).get (s.n + 2) = _ := (by simp (disch := first | omega | (simp <;> omega) | fail) : _ = s2.get (s.n + 2)).trans c2
      have q3 : ((s2.set (s4.n + 1) LB2).alloc (.cells g.cells)).get (s.n + 3) = _ := (by simp (disch := first | omega | (simp <;> omega) | fail) : _ = s2.get (s.n + 3)).trans c3
      have q4 : ((s2.set (s4.n + 1) LB2).alloc (.cells g.cells)).get (s.n + 4) = _ := (by simp (disch := first | omega | (simp <;> omega) | fail) : _ = s2.get (s.n + 4)).trans kd
      have q5 : ((s2.set (s4.n + 1) LB2).alloc (.cells g.cells)).get (s.n + 5) = _ := (by simp (disch := first | omega | (simp <;> omega) | fail) : _ = s2.get (s.n + 5)).trans kl
      have q6 : ((s2.set (s4.n + 1) LB2).alloc (.cells g.cells)).get s4.n = _ := (by simp (disch := first | omega | (simp <;> omega) | fail) : _ = s2.get s4.n).trans cc
      have q7 : ((s2.set (s4.n + 1) LB2).alloc (.cells g.cells)).get (s4.n + 1) = LB2 := dz0
      have q8 : ((s2.set (s4.n + 1) LB2).alloc (.cells g.cells)).get s2.n = .cells g.cells := dz0
      have q9 : ∀ x, x < s.n → ((s2.set (s4.n + 1) LB2).alloc (.cells g.cells)).get x = s.get x := fun x hx => (by simp (disch := first | omega | (simp <;> omega) | fail) : _ = s2.get x).trans (old x hx)
      have qn : ((s2.set (s4.n + 1) LB2).alloc (.cells g.cells)).n = s2.n + 1 := by simp
      generalize (s2.set (s4.n + 1) LB2).alloc (.cells g.cells) = s3 at q0 q1 q2 q3 q4 q5 q6 q7 q8 q9 qn ⊢
      refine m_look (κ := Int) (A := A) (k := g.id) (b := s.n + 1) (enc := bln) (by simp) q1 (by simp; rfl) ?_
      have hlv : lkV bln A g.id (.v (.bool false)) false = .v (.bool (decide (g.id ∈ P2))) := by
        unfold lkV; rw [a2]
        by_cases h : g.id ∈ P2 <;> simp [h, bln]
      rw [hlv]
      by_cases hin : g.id ∈ P2
      · have hnd : ¬ (idsA Ms).Nodup := fun h => by
          rw [hR] at h
          exact (List.nodup_append.1 h).2.2 _ hin _ (by simp) rfl
        refine st3 hin q0 q7 ?_
        refine fins_j (fun d hd => by cases hd) (dz0) ⟨⟨rfl, dz1 q0, hnd, by simp; omega, fun x hx => dz1 (q9 x hx)⟩, dz1 q5, dz1 q4⟩
      · refine st3 hin q2 q8 ?_
        refine m_mset (κ := Int) (A := A) (k := g.id) (v := true) (b := s.n + 1) (enc := bln) (by simp) q1 (by simp; rfl) (by simp [bln]) ?_
        refine st1 q7 ?_
        refine fins_n (fun d hd => by cases hd) (dz0) ⟨⟨⟨setM A g.id true, dz0, fun i => ?_⟩, dz1 q0, dz1 q2, dz1 q3, ?_, by simp; omega, fun x hx => dz1 (q9 x hx)⟩, dz1 q6, dz1 q5, dz1 q4, by simp; omega⟩
        · rw [lk_setM, a2]
          by_cases e : i = g.id
          · simp [e]
          · simp [e]
        · rw [List.nodup_append]
          exact ⟨nd, by simp, fun a ha b hb e => by simp at hb; rw [e, hb] at ha; exact hin ha⟩
    · intro s2 hln2 hK
      rw [List.take_of_length_le (by omega)] at hK
      obtain ⟨h1, h2, h3, h4, h5⟩ := hK
      refine st1 h3 ?_
      have hn1 := h1.n
      refine fins_n (fun d hd => by cases hd; simp (disch := first | omega | (simp <;> omega) | fail) [h4]) (dz0) ?_
      obtain ⟨⟨A, a1, a2⟩, c0, c2, c3, nd, n, old⟩ := h1
      exact ⟨⟨A, dz1 a1, a2⟩, dz1 c0, dz1 c2, dz1 c3, nd, by simpa using n, fun x hx => dz1 (old x hx)⟩
    · rintro j s2 hln2 ⟨h1, h2, h3⟩
      obtain ⟨rfl, c0, nd, n, old⟩ := h1
      simp only [AJump.exitOf]
      refine st1 h2 ?_
      refine fins_j (fun d hd => by cases hd; simp (disch := first | omega | (simp <;> omega) | fail) [h3]) (dz0) ⟨rfl, dz1 c0, nd, by simpa using n, fun x hx => dz1 (old x hx)⟩
  · rintro s' hdd hln hI
    rw [List.take_of_length_le (by omega)] at hI
    simp only [hsn] at hdd hln ⊢
    obtain ⟨⟨A, a1, a2⟩, c0, c2, c3, nd, n, old⟩ := hI
    refine st1 c0 ?_
    refine ret_okD (dz1 hdd) (by simp) (by simp (disch := first | omega | (simp <;> omega) | fail) [killAll]; rfl) ⟨⟨by simp [killAll]; omega, fun x hx => .inl ?_⟩, ?_⟩
    · simp (disch := first | omega | (simp <;> omega) | fail) [killAll, old x hx]
    · simp [retVal, nd]; exact .refl _
  · rintro j s' hdd hln hJ
    obtain ⟨rfl, c0, nd, n, old⟩ := hJ
    simp only [hsn, AJump.exitOf] at hdd hln ⊢
    refine st1 c0 ?_
    refine ret_okD (dz1 hdd) (by simp) (by simp (disch := first | omega | (simp <;> omega) | fail) [killAll, c0]; rfl) ⟨⟨by simp [killAll]; omega, fun x hx => .inl ?_⟩, ?_⟩
    · simp (disch := first | omega | (simp <;> omega) | fail) [killAll, old x hx]
    · simp [retVal, nd]; exact .refl _
end Go.Proofs.YtmpoeamfcienoaaGreat
end
section
namespace Go.Ab
set_option linter.unusedVariables false
set_option linter.unusedSimpArgs false
abbrev Led := List (Int × LogV)
def isN (P : Led) (g : Grp) : Bool := (lk P g.id).isNone
def jtG (P : Led) (L : List Grp) : List Grp := L.filter (isN P)
def jtS (P : Led) (S : List Spt) (L : List Grp) : List Spt := (jtG P L).flatMap fun g => S.filter fun s => decide (s.gr = g.id)
theorem take_succ' {α : Type} {l : List α} {j : Nat} (h : j < l.length) : l.take (j + 1) = l.take j ++ [l[j]] := (List.take_append_getElem h).symm
theorem jtG_snoc {P : Led} {L : List Grp} {j : Nat} (h : j < L.length) : jtG P (L.take (j + 1)) = jtG P (L.take j) ++ if isN P L[j] = true then [L[j]] else [] := by
  rw [take_succ' h]; unfold jtG; rw [List.filter_append]; cases hn : isN P L[j] <;> simp [hn]
theorem jtS_snoc {P : Led} {S : List Spt} {L : List Grp} {j : Nat} (h : j < L.length) : jtS P S (L.take (j + 1)) = jtS P S (L.take j) ++ if isN P L[j] = true then S.filter (fun s => decide (s.gr = L[j].id)) else [] := by
  unfold jtS; rw [jtG_snoc h, List.flatMap_append]; cases hn : isN P L[j] <;> simp
theorem isN_any {P : Led} (hP : MOk P) (g : Grp) : (grpsL P).any (fun x => decide (x.id = g.id)) = !isN P g := by
  unfold isN
  cases h : lk P g.id with
  | none =>
    have := lk_none1.1 h
    simp only [Option.isNone_none, Bool.not_true, List.any_eq_false, decide_eq_true_eq]
    intro x hx
    obtain ⟨y, hy, rfl⟩ := List.mem_map.1 hx
    rw [(hP.2 y hy).id]; exact this y hy
  | some v =>
    have hm := lk_mem h
    simp only [Option.isNone_some, Bool.not_false, List.any_eq_true, decide_eq_true_eq]
    exact ⟨v.g, List.mem_map.2 ⟨_, hm, rfl⟩, (hP.2 _ hm).id⟩
theorem put_perm {k : Int} {v : LogV} : ∀ {M : Led}, lk M k = none → (putL M k v).Perm ((k, v) :: M)
  | [], _ => .refl _
  | x :: M, h => by
    rw [lk_cons] at h
    by_cases e : k = x.1
    · rw [if_pos e] at h; cases h
    · rw [if_neg e] at h
      unfold putL
      split
      · exact .refl _
      · exact ((put_perm h).cons x).trans (.swap ..)
theorem take_perm : ∀ {O : Led} {M : Led}, (O.map (·.1)).Nodup → (takeL M O).Perm (M ++ O.filter fun x => (lk M x.1).isNone)
  | [], M, _ => by simp [takeL]
  | x :: O, M, h => by
    simp only [List.map_cons, List.nodup_cons] at h
    have e : takeL M (x :: O) = takeL (if (lk M x.1).isSome then M else putL M x.1 x.2) O := rfl
    rw [e]
    cases hl : lk M x.1 with
    | some v =>
      rw [if_pos (by simp), List.filter_cons_of_neg (by simp [hl])]
      exact take_perm h.2
    | none =>
      rw [if_neg (by simp), List.filter_cons_of_pos (by simp [hl])]
      refine (take_perm h.2).trans ?_
      have e2 : (O.filter fun y => (lk (putL M x.1 x.2) y.1).isNone) = O.filter fun y => (lk M y.1).isNone := List.filter_congr fun y hy => by
        rw [lk_put, if_neg]
        intro e; exact h.1 (List.mem_map.2 ⟨y, hy, e⟩)
      rw [e2]
      refine ((put_perm hl).append_right _).trans ?_
      exact List.perm_middle.symm
theorem spotsM_len (M : Led) : (spotsM M).length = (M.map fun x => x.2.sp.length).sum := by
  unfold spotsM
  induction M with
  | nil => rfl
  | cons x M ih => rw [List.flatMap_cons, List.length_append, ih]; simp
theorem spots_one {Q : Led} (hQ : MOk Q) {x : Int × LogV} (hx : x ∈ Q) : ((spotsM Q).filter fun s => decide (s.gr = x.1)).length = x.2.sp.length := by
  have h1 : MOk [x] := ⟨List.pairwise_singleton _ _, fun y hy => by obtain rfl := List.mem_singleton.1 hy; exact hQ.2 _ hx⟩
  have := spots_of hQ h1 x.1 fun g => by
    rw [lk_cons]
    by_cases e : g = x.1
    · rw [if_pos e, if_pos e, hQ.1.lk_mem hx]
    · rw [if_neg e, if_neg e]; rfl
  rw [← this]
  simp [spotsM]
theorem jtG_eq {P Q : Led} (hQ : MOk Q) : jtG P (grpsL Q) = grpsL (Q.filter fun x => (lk P x.1).isNone) := by
  unfold jtG grpsL
  rw [List.filter_map]
  congr 1
  exact List.filter_congr fun x hx => by simp only [Function.comp, isN]; rw [(hQ.2 x hx).id]
theorem jt_len {P Q : Led} (hP : MOk P) (hQ : MOk Q) : (grpsL (takeL P Q)).length = (grpsL P).length + (jtG P (grpsL Q)).length ∧
    (spotsM (takeL P Q)).length = (spotsM P).length + (jtS P (spotsM Q) (grpsL Q)).length := by
  have hp := take_perm (M := P) (O := Q) hQ.1.nodup
  refine ⟨?_, ?_⟩
  · rw [jtG_eq hQ]
    have := hp.length_eq
    simpa [grpsL] using this
  · have h1 := (hp.map fun x => x.2.sp.length).sum_nat
    rw [spotsM_len, h1, spotsM_len, List.map_append, List.sum_append]
    congr 1
    unfold jtS
    rw [jtG_eq hQ]
    have key : ∀ l : Led, (∀ x ∈ l, x ∈ Q) → (l.map fun x => x.2.sp.length).sum = ((grpsL l).flatMap fun g => (spotsM Q).filter fun s => decide (s.gr = g.id)).length := by
      intro l
      induction l with
      | nil => intro _; rfl
      | cons x l ih =>
        intro h
        have hx := h x (by simp)
        have e := spots_one hQ hx
        have hi := (hQ.2 x hx).id
        rw [List.map_cons, List.sum_cons, ih fun y hy => h y (by simp [hy])]
        unfold grpsL
        rw [List.map_cons, List.flatMap_cons, List.length_append]
        rw [hi, e]
    exact key _ fun x hx => (List.mem_filter.1 hx).1
theorem jt_apart {P Q : Led} (hP : MOk P) (hQ : MOk Q) : decide (idsA [P, Q]).Nodup = (grpsL Q).all (isN P) := by
  have e : ∀ {M : Led}, MOk M → idsM M = M.map (·.1) := fun hM => by
    unfold idsM grpsL; rw [List.map_map]
    exact List.map_congr_left fun x hx => (hM.2 x hx).id
  have e1 : idsA [P, Q] = P.map (·.1) ++ Q.map (·.1) := by simp [idsA, e hP, e hQ]
  rw [e1, Bool.eq_iff_iff, decide_eq_true_eq, List.nodup_append, List.all_eq_true]
  constructor
  · rintro ⟨_, _, h⟩ g hg
    obtain ⟨y, hy, rfl⟩ := List.mem_map.1 hg
    unfold isN
    rw [Option.isNone_iff_eq_none, (hQ.2 y hy).id, lk_none]
    intro hm
    exact h _ hm _ (List.mem_map.2 ⟨y, hy, rfl⟩) rfl
  · intro h
    refine ⟨hP.1.nodup, hQ.1.nodup, fun a ha b hb e => ?_⟩
    subst e
    obtain ⟨y, hy, rfl⟩ := List.mem_map.1 hb
    have := h y.2.g (List.mem_map.2 ⟨y, hy, rfl⟩)
    unfold isN at this
    rw [Option.isNone_iff_eq_none, (hQ.2 y hy).id, lk_none] at this
    exact this ha
theorem jt_getP {P Q : Led} (hP : MOk P) (hQ : MOk Q) {g : Grp} (h : g ∈ grpsL P) : (lk (takeL P Q) g.id).map (·.g) = some g := by
  obtain ⟨x, hx, rfl⟩ := List.mem_map.1 h
  rw [lk_takeL _ hQ.1.nodup, (hP.2 x hx).id, hP.1.lk_mem hx]; rfl
theorem jt_getQ {P Q : Led} (hP : MOk P) (hQ : MOk Q) {g : Grp} (h : g ∈ jtG P (grpsL Q)) : (lk (takeL P Q) g.id).map (·.g) = some g := by
  obtain ⟨h1, h2⟩ := List.mem_filter.1 h
  obtain ⟨x, hx, rfl⟩ := List.mem_map.1 h1
  unfold isN at h2
  rw [Option.isNone_iff_eq_none] at h2
  rw [lk_takeL _ hQ.1.nodup, h2, (hQ.2 x hx).id, hQ.1.lk_mem hx]; rfl
end Go.Ab
end
section
namespace Go.Ab
set_option linter.unusedVariables false
section
variable {P : Program} {cmp : Code → Option ACode}
theorem m_app2 {K : List AV → AState → Prop} {n : Nat} {e : List (Nat × AV)} {s B : AState} {d c bytes N : Nat} {sx sy : Arg} {xs ys zs : List AV} {tk t2 tz : Tok} {r : List AOper} (hx : sx.ev (den n e) = .sl xs tk) (hy : sy.ev (den n e) = .sl ys t2)
    (hB : Grows B s) (hN : B.n ≤ N) (hN2 : N ≤ s.n) (hm : May N s xs tk) (hz : May N s zs tz) (hd : ∀ t, tz = .own t → tk ≠ .own t) (hne : ys.isEmpty = false) (h1 : headK c xs = true) (h2 : ys.all (okRow c) = true) (h3 : (xs.length + ys.length) * bytes ≤ 140737488355328) (h4 : xs.length + ys.length ≤ 4611686018427387904)
    (hk : ∀ s' tk2, Grows B s' → May N s' (xs ++ ys.map AV.strip) tk2 → May N s' zs tz → (∀ t, tz = .own t → tk2 ≠ .own t) → AOps cmp P r K (den n ((d, .sl (xs ++ ys.map AV.strip) tk2) :: e)) s') : Lops cmp P ⟨some d, .append c bytes sx sy, none⟩ r K n e s .a := by
  have he := exec_append (a := den n e) hx hy hm hne h1 h2 h3 h4
  have hm2 := hm.new (ys := ys.map AV.strip) (by cases ys <;> simp_all) hN2
  have hz2 : May N ((eat s tk).alloc .tok) zs tz := by
    cases tz with
    | own t =>
      obtain ⟨z1, z2, z3⟩ := hz
      have ht := AState.lt_of_get z1 (by simp)
      refine ⟨?_, z2, z3⟩
      rw [get_alloc_ne (by simp; omega)]
      cases tk with
      | own u => simp only [eat]; rw [AState.get_set_ne _ _ (fun e => hd t rfl (by rw [e]))]; exact z1
      | _ => exact z1
    | _ => exact hz
  refine o_one (x := _) rfl (by simp only [stepE]; exact he) (hk _ _ ((hB.eat hm hN).alloc .tok) hm2 hz2 ?_)
  rintro t rfl h
  cases h
  have := AState.lt_of_get hz.1 (by simp)
  omega
end
structure JtI (s0 : AState) (m bx by_ bp bq b6 : Nat) (P Q : Led) (F G : List Nat) (at_ : Plc) (s : AState) : Prop where
  lx : LedAt s bx P F
  ly : LedAt s by_ Q G
  rp : RefAt s bp (grpsL P) (spotsM P)
  rq : RefAt s bq (grpsL Q) (spotsM Q)
  c6 : s.get b6 = .cells at_.cells
  nm : s0.n ≤ m ∧ m ≤ s.n
  fF : ∀ x ∈ F, x < m
  fG : ∀ x ∈ G, x < m
  f6 : bp < m ∧ bq < m ∧ b6 < m
  old : ∀ x, x < s0.n → s.get x = s0.get x
theorem JtI.keep {s0 : AState} {m bx by_ bp bq b6 : Nat} {P Q : Led} {F G : List Nat} {at_ : Plc} {s s' : AState} (h : JtI s0 m bx by_ bp bq b6 P Q F G at_ s) (hn : s.n ≤ s'.n) (hk : ∀ x, x < m → s'.get x = s.get x) : JtI s0 m bx by_ bp bq b6 P Q F G at_ s' := by
  obtain ⟨lx, ly, ⟨t1, t2, rp⟩, ⟨t3, t4, rq⟩, c6, nm, fF, fG, f6, old⟩ := h
  exact ⟨lx.keep fun x hx => hk x (fF x hx), ly.keep fun x hx => hk x (fG x hx), ⟨t1, t2, (hk _ f6.1).trans rp⟩, ⟨t3, t4, (hk _ f6.2.1).trans rq⟩, (hk _ f6.2.2).trans c6, by omega, fF, fG, f6, fun x hx => (hk x (by omega)).trans (old x hx)⟩
theorem JtI.grows {s0 : AState} {m bx by_ bp bq b6 : Nat} {P Q : Led} {F G : List Nat} {at_ : Plc} {s s' : AState} (h : JtI s0 m bx by_ bp bq b6 P Q F G at_ s) (g : Grows s s') : JtI s0 m bx by_ bp bq b6 P Q F G at_ s' :=
  h.keep g.n fun x hx => g.get (by have := h.nm; omega)
def kJ : List Prt := [⟨7, 2, [], 77, 0, 0, 0, 0, false, false⟩]
end Go.Ab
namespace Go.Proofs.YtmpoeamfcienoaaGreat
open Go.Ab
set_option linter.unusedVariables false
set_option linter.unusedSimpArgs false
set_option maxRecDepth 100000
set_option maxHeartbeats 1000000
def jtB : ACode := A_ladelaw20_JoinTwice.body.tl.tl.tl.tl.tl.tl.tl.tl.tl
def jtC : ACode := jtB.tl.tl.tl.tl
def jtL : ACode := jtC.tl.tl
def jtM : ACode := jtL.tl
def jtN : ACode := jtM.tl
abbrev jtQ (s0 : AState) : Exit → AAct → AState → Prop := fnQ [ARes.tmp 8] (fun x s' => s0.sub s' ∧ x.le (.v (.bool true)))
section
variable {e : List (Nat × AV)} {s0 s : AState} {m bx by_ bp bq b6 bg : Nat} {P Q M : Led} {F G Fg : List Nat} {at_ : Plc}
theorem jt_N (g6 : Ab.get e 6 = .p b6 0) (g9 : Ab.get e 9 = .p bx 0) (g10 : Ab.get e 10 = .p by_ 0) (g11 : Ab.get e 11 = .p bp 0) (g12 : Ab.get e 12 = .p bq 0) (g20 : Ab.get e 20 = .p bg 0)
    (hI : JtI s0 m bx by_ bp bq b6 P Q F G at_ s) (hg : LedAt s bg M Fg) (hap : ∀ x ∈ Fg, m ≤ x) (okP : MOk P) (okQ : MOk Q) (okM : MOk M) (smP : Small P) (smQ : Small Q) :
    wp prog none jtN (jtQ s0) { t := den 285 e, d := [] } s := by
  simp only [jtN, jtM, jtL, jtC, jtB, A_ladelaw20_JoinTwice, ACode.tl]
  have zP1 := smP.len
  have zP2 := smP.sp
  have zQ1 := smQ.len
  have c6 := hI.c6
  have lg : ∀ {M : Led}, MOk M → ((grpsL M).length : Int) < 9223372036854775808 := fun h => by have := h.len; simp only [grpsL, List.length_map]; omega
  have le : ∀ {M : Led}, MOk M → ∀ g ∈ grpsL M, (g.es.length : Int) < 9223372036854775808 := fun h g hg => by have := (grps_spar h g hg).len; have := MI_eq; omega
  refine st3 g6 g20 c6 ?_
  refine runS (rn_ledger_Ledger_Do (l := kJ) (at_ := at_) hg okM.gok (by decide) (by decide)) ?_
  rintro _ s1 ⟨F1, a1, a2⟩
  have hI1 := hI.keep a2.n fun x hx => a2.keep x (by have := hI.nm; omega) fun hm => by have := hap x hm; omega
  obtain ⟨lx, ly, ⟨t1, t2, rp⟩, ⟨t3, t4, rq⟩, -, nm, -, -, -, old⟩ := hI1
  refine sd6 g9 g10 g11 g12 rp rq ?_
  refine gv (ct_ledger_Ledger_Groups lx okP smP) ?_
  refine sd6 g9 g10 g11 g12 rp rq ?_
  refine gv (ct_laderef6_SameAll (l := grpsL P) (m := grpsL P) (lg okP) (le okP)) ?_
  refine sd6 g9 g10 g11 g12 rp rq ?_
  refine gv (ct_ledger_Ledger_Groups ly okQ smQ) ?_
  refine sd6 g9 g10 g11 g12 rp rq ?_
  refine gv (ct_laderef6_SameAll (l := grpsL Q) (m := grpsL Q) (lg okQ) (le okQ)) ?_
  refine sd6 g9 g10 g11 g12 rp rq ?_
  refine gv (ct_ledger_Ledger_Spots lx okP smP) ?_
  refine sd6 g9 g10 g11 g12 rp rq ?_
  refine gv (ct_laderef13_SameSpots (l := spotsM P) (m := spotsM P) (by omega)) ?_
  refine sd0 ?_
  exact ret_ok (by simp; rfl) ⟨⟨by omega, fun x hx => .inl (old x hx).symm⟩, .refl _⟩
theorem jt_M {GL : List Grp} {tk : Tok} (g6 : Ab.get e 6 = .p b6 0) (g9 : Ab.get e 9 = .p bx 0) (g10 : Ab.get e 10 = .p by_ 0) (g11 : Ab.get e 11 = .p bp 0) (g12 : Ab.get e 12 = .p bq 0) (g20 : Ab.get e 20 = .p bg 0) (g14 : Ab.get e 14 = .sl (GL.map Grp.av) tk)
    (hGL : GL.length ≤ 1000) (hGm : ∀ g ∈ GL, (lk M g.id).map (·.g) = some g) (hes : ∀ g ∈ GL, (g.es.length : Int) < 9223372036854775808)
    (hI : JtI s0 m bx by_ bp bq b6 P Q F G at_ s) (hg : LedAt s bg M Fg) (hap : ∀ x ∈ Fg, m ≤ x) (okP : MOk P) (okQ : MOk Q) (okM : MOk M) (smP : Small P) (smQ : Small Q) (smM : Small M) :
    wp prog none jtM (jtQ s0) { t := den 285 e, d := [] } s := by
  obtain ⟨T, hT⟩ : ∃ T, T = jtN := ⟨_, rfl⟩
  have hT2 := hT
  simp only [jtN, jtM, jtL, jtC, jtB, A_ladelaw20_JoinTwice, ACode.tl] at hT2
  simp only [jtM, jtL, jtC, jtB, A_ladelaw20_JoinTwice, ACode.tl]
  rw [← hT2]
  clear hT2
  have hlF := hg.lt
  refine st0 ?_
  refine loop_ok [6, 9, 10, 11, 12, 14, 20, 24] (fun r a s1 => Grows s s1 ∧ ∃ j : Nat, j + r = GL.length ∧ a = { t := den 285 [(6, .p b6 0), (9, .p bx 0), (10, .p by_ 0), (11, .p bp 0), (12, .p bq 0), (14, .sl (GL.map Grp.av) tk), (20, .p bg 0), (24, .v (.int .i64 j))], d := [] }) GL.length ?_ ?_
  · exact ⟨.refl _, 0, by simp, by simp [g6, g9, g10, g11, g12, g14, g20]⟩
  rintro r a s1 ⟨hgr, j, hjr, rfl⟩
  by_cases hlt : j < GL.length
  · have w3 : IntKind.wrap .i64 ((j : Int) + 1) = (j : Int) + 1 := wrap_i64 (by omega) (by omega)
    have hx := List.getElem_mem hlt
    have h1 := hGm _ hx
    have h2 : (lk M GL[j].id).isSome = true := by have := congrArg Option.isSome h1; simpa using this
    repeat (first | simp -dsimp -implicitDefEqProofs (disch := first | omega | (simp <;> omega) | fail) [hlt] | ((with_reducible first | apply m_1 | apply m_0); (focus ((conv => lhs; simp -dsimp -implicitDefEqProofs (disch := first | omega | (simp <;> omega) | fail) [hlt]); done))) | ((with_reducible first | apply i_T | apply g_T); (focus (simp -dsimp -implicitDefEqProofs (disch := first | omega | (simp <;> omega) | fail) [hlt]; done))) | ((with_reducible first | apply i_F | apply g_F); (focus (simp -dsimp -implicitDefEqProofs (disch := first | omega | (simp <;> omega) | fail) [hlt]; done))))
    refine gv (ct_ledger_Ledger_Get (i := GL[j].id) (hg.keep fun x hx => hgr.get (hlF x hx)) smM) ?_
    rw [h1, h2]
    repeat (first | simp -dsimp -implicitDefEqProofs (disch := first | omega | (simp <;> omega) | fail) [hlt] | ((with_reducible first | apply m_1 | apply m_0); (focus ((conv => lhs; simp -dsimp -implicitDefEqProofs (disch := first | omega | (simp <;> omega) | fail) [hlt]); done))) | ((with_reducible first | apply i_T | apply g_T); (focus (simp -dsimp -implicitDefEqProofs (disch := first | omega | (simp <;> omega) | fail) [hlt]; done))) | ((with_reducible first | apply i_F | apply g_F); (focus (simp -dsimp -implicitDefEqProofs (disch := first | omega | (simp <;> omega) | fail) [hlt]; done))))
    refine gv (ct_laderef6_Same (a := GL[j]) (b := GL[j]) (hes _ hx)) ?_
    refine st0 ?_
    exact ⟨r - 1, by omega, hgr.alloc _, j + 1, by omega, by simp [w3]⟩
  · refine st1 hlt ?_
    rw [hT]
    exact jt_N (by simp) (by simp) (by simp) (by simp) (by simp) (by simp) (hI.grows hgr) (hg.keep fun x hx => hgr.get (hlF x hx)) hap okP okQ okM smP smQ
theorem jt_L {GL : List Grp} {tk : Tok} (g6 : Ab.get e 6 = .p b6 0) (g9 : Ab.get e 9 = .p bx 0) (g10 : Ab.get e 10 = .p by_ 0) (g11 : Ab.get e 11 = .p bp 0) (g12 : Ab.get e 12 = .p bq 0) (g20 : Ab.get e 20 = .p bg 0) (g14 : Ab.get e 14 = .sl (GL.map Grp.av) tk)
    (hGL : GL.length ≤ 1000) (hGm : ∀ g ∈ GL, (lk M g.id).map (·.g) = some g) (hPm : ∀ g ∈ grpsL P, (lk M g.id).map (·.g) = some g) (hes : ∀ g ∈ GL, (g.es.length : Int) < 9223372036854775808)
    (hI : JtI s0 m bx by_ bp bq b6 P Q F G at_ s) (hg : LedAt s bg M Fg) (hap : ∀ x ∈ Fg, m ≤ x) (okP : MOk P) (okQ : MOk Q) (okM : MOk M) (smP : Small P) (smQ : Small Q) (smM : Small M) :
    wp prog none jtL (jtQ s0) { t := den 285 e, d := [] } s := by
  obtain ⟨T, hT⟩ : ∃ T, T = jtM := ⟨_, rfl⟩
  have hT2 := hT
  simp only [jtM, jtL, jtC, jtB, A_ladelaw20_JoinTwice, ACode.tl] at hT2
  simp only [jtL, jtC, jtB, A_ladelaw20_JoinTwice, ACode.tl]
  rw [← hT2]
  clear hT2
  have hlF := hg.lt
  have hPl : (grpsL P).length ≤ 1000 := by have := okP.len; simpa [grpsL] using this
  have hle : ∀ g ∈ grpsL P, (g.es.length : Int) < 9223372036854775808 := fun g hg => by have := (grps_spar okP g hg).len; have := MI_eq; omega
  refine st0 ?_
  refine loop_ok [6, 9, 10, 11, 12, 14, 20, 21] (fun r a s1 => Grows s s1 ∧ ∃ j : Nat, j + r = (grpsL P).length ∧ a = { t := den 285 [(6, .p b6 0), (9, .p bx 0), (10, .p by_ 0), (11, .p bp 0), (12, .p bq 0), (14, .sl (GL.map Grp.av) tk), (20, .p bg 0), (21, .v (.int .i64 j))], d := [] }) (grpsL P).length ?_ ?_
  · exact ⟨.refl _, 0, by simp, by simp [g6, g9, g10, g11, g12, g14, g20]⟩
  rintro r a s1 ⟨hgr, j, hjr, rfl⟩
  have hI1 := hI.grows hgr
  obtain ⟨t1, t2, rp⟩ := hI1.rp
  by_cases hlt : j < (grpsL P).length
  · have w3 : IntKind.wrap .i64 ((j : Int) + 1) = (j : Int) + 1 := wrap_i64 (by omega) (by omega)
    have hx := List.getElem_mem hlt
    have h1 := hPm _ hx
    have h2 : (lk M (grpsL P)[j].id).isSome = true := by have := congrArg Option.isSome h1; simpa using this
    repeat (first | simp -dsimp -implicitDefEqProofs (disch := first | omega | (simp <;> omega) | fail) [hlt, rp] | ((with_reducible first | apply m_1 | apply m_0); (focus ((conv => lhs; simp -dsimp -implicitDefEqProofs (disch := first | omega | (simp <;> omega) | fail) [hlt, rp]); done))) | ((with_reducible first | apply i_T | apply g_T); (focus (simp -dsimp -implicitDefEqProofs (disch := first | omega | (simp <;> omega) | fail) [hlt, rp]; done))) | ((with_reducible first | apply i_F | apply g_F); (focus (simp -dsimp -implicitDefEqProofs (disch := first | omega | (simp <;> omega) | fail) [hlt, rp]; done))))
    refine gv (ct_ledger_Ledger_Get (i := (grpsL P)[j].id) (hg.keep fun x hx => hgr.get (hlF x hx)) smM) ?_
    rw [h1, h2]
    have hbp : bp < s1.n := AState.lt_of_get rp (by simp)
    repeat (first | simp -dsimp -implicitDefEqProofs (disch := first | omega | (simp <;> omega) | fail) [hlt, rp] | ((with_reducible first | apply m_1 | apply m_0); (focus ((conv => lhs; simp -dsimp -implicitDefEqProofs (disch := first | omega | (simp <;> omega) | fail) [hlt, rp]); done))) | ((with_reducible first | apply i_T | apply g_T); (focus (simp -dsimp -implicitDefEqProofs (disch := first | omega | (simp <;> omega) | fail) [hlt, rp]; done))) | ((with_reducible first | apply i_F | apply g_F); (focus (simp -dsimp -implicitDefEqProofs (disch := first | omega | (simp <;> omega) | fail) [hlt, rp]; done))))
    refine gv (ct_laderef6_Same (a := (grpsL P)[j]) (b := (grpsL P)[j]) (hle _ hx)) ?_
    refine st0 ?_
    exact ⟨r - 1, by omega, hgr.alloc _, j + 1, by omega, by simp [w3]⟩
  · refine st2 hlt rp ?_
    rw [hT]
    exact jt_M (GL := GL) (tk := tk) (by simp) (by simp) (by simp) (by simp) (by simp) (by simp) (by simp) hGL hGm hes hI1 (hg.keep fun x hx => hgr.get (hlF x hx)) hap okP okQ okM smP smQ smM
end
end Go.Proofs.YtmpoeamfcienoaaGreat
end
section
namespace Go.Ab
set_option linter.unusedVariables false
theorem takeL_nil' {P : Led} (h : MOk P) : takeL [] P = P := takeL_nil h.1
theorem jtS_len (P : Led) (S : List Spt) (L : List Grp) : (jtS P S L).length ≤ L.length * S.length := by
  unfold jtS jtG
  induction L with
  | nil => simp
  | cons g L ih =>
    rw [List.length_cons, Nat.succ_mul]
    cases h : isN P g with
    | false => rw [List.filter_cons_of_neg (by simp [h])]; omega
    | true =>
      rw [List.filter_cons_of_pos h, List.flatMap_cons, List.length_append]
      have := List.length_filter_le (fun s : Spt => decide (s.gr = g.id)) S
      omega
theorem jtG_len (P : Led) (L : List Grp) : (jtG P L).length ≤ L.length := List.length_filter_le _ _
theorem ftake' {α : Type} {p : α → Bool} {l : List α} {q : Nat} (h : q < l.length) : (l.take (q + 1)).filter p = (l.take q).filter p ++ if p l[q] = true then [l[q]] else [] := by
  rw [take_succ' h, List.filter_append]; cases hp : p l[q] <;> simp [hp]
theorem any_snoc {α : Type} {p : α → Bool} {l : List α} {q : Nat} (h : q < l.length) : (l.take (q + 1)).any p = ((l.take q).any p || p l[q]) := by
  rw [take_succ' h, List.any_append]; simp
theorem alls_snoc {α : Type} {p : α → Bool} {l : List α} {q : Nat} (h : q < l.length) : (l.take (q + 1)).all p = ((l.take q).all p && p l[q]) := by
  rw [take_succ' h, List.all_append]; simp
end Go.Ab
namespace Go.Proofs.YtmpoeamfcienoaaGreat
open Go.Ab
set_option linter.unusedVariables false
set_option linter.unusedSimpArgs false
set_option maxRecDepth 100000
set_option maxHeartbeats 1000000
section
variable {e : List (Nat × AV)} {s0 s : AState} {bx by_ bp bq b6 : Nat} {P Q : Led} {F G : List Nat} {at_ : Plc}
theorem jt_C {tk tk2 : Tok} (g6 : Ab.get e 6 = .p b6 0) (g9 : Ab.get e 9 = .p bx 0) (g10 : Ab.get e 10 = .p by_ 0) (g11 : Ab.get e 11 = .p bp 0) (g12 : Ab.get e 12 = .p bq 0)
    (g13 : Ab.get e 13 = .v (.bool ((grpsL Q).all (isN P)))) (g14 : Ab.get e 14 = .sl ((jtG P (grpsL Q)).map Grp.av) tk) (g15 : Ab.get e 15 = .sl ((jtS P (spotsM Q) (grpsL Q)).map Spt.av) tk2)
    (hI : JtI s0 s.n bx by_ bp bq b6 P Q F G at_ s) (okP : MOk P) (okQ : MOk Q) (sP : (spotsM P).length ≤ 60) (sQ : (spotsM Q).length ≤ 60) :
    wp prog none jtC (jtQ s0) { t := den 285 e, d := [] } s := by
  obtain ⟨T, hT⟩ : ∃ T, T = jtL := ⟨_, rfl⟩
  have hT2 := hT
  simp only [jtL, jtC, jtB, A_ladelaw20_JoinTwice, ACode.tl] at hT2
  simp only [jtC, jtB, A_ladelaw20_JoinTwice, ACode.tl]
  rw [← hT2]
  clear hT2
  have smP := okP.small (by omega)
  have smQ := okQ.small (by omega)
  have okM := okP.takeL okQ
  obtain ⟨l1, l2⟩ := jt_len okP okQ
  have jl := jtS_len P (spotsM Q) (grpsL Q)
  have jg := jtG_len P (grpsL Q)
  have lP : (grpsL P).length ≤ 1000 := by have := okP.len; simpa [grpsL] using this
  have lQ : (grpsL Q).length ≤ 1000 := by have := okQ.len; simpa [grpsL] using this
  have jl2 : (jtS P (spotsM Q) (grpsL Q)).length ≤ 60000 := Nat.le_trans jl (Nat.mul_le_mul lQ sQ)
  have smM : Small (takeL P Q) := okM.small (by omega)
  have hall : LedsAll s [bx, by_] [P, Q] := ⟨rfl, fun i h h' => by
    match i, h, h' with
    | 0, _, _ => exact ⟨F, hI.lx, fun x hx => hI.fF x hx⟩
    | 1, _, _ => exact ⟨G, hI.ly, fun x hx => hI.fG x hx⟩⟩
  have hok : ∀ M ∈ [P, Q], MOk M := by intro M hM; simp at hM; rcases hM with rfl | rfl <;> assumption
  have hsm : ∀ M ∈ [P, Q], Small M := by intro M hM; simp at hM; rcases hM with rfl | rfl <;> assumption
  repeat (first | simp -dsimp -implicitDefEqProofs (disch := first | omega | (simp <;> omega) | fail) [g9, g10] | ((with_reducible first | apply m_1 | apply m_0); (focus ((conv => lhs; simp -dsimp -implicitDefEqProofs (disch := first | omega | (simp <;> omega) | fail) [g9, g10]); done))) | ((with_reducible first | apply i_T | apply g_T); (focus (simp -dsimp -implicitDefEqProofs (disch := first | omega | (simp <;> omega) | fail) [g9, g10]; done))) | ((with_reducible first | apply i_F | apply g_F); (focus (simp -dsimp -implicitDefEqProofs (disch := first | omega | (simp <;> omega) | fail) [g9, g10]; done))))
  refine runS (rn_join_Of (bs := [bx, by_]) (Ms := [P, Q]) hall hok (by simp)) ?_
  rintro _ s1 ⟨bg, Fg, rfl, h1, m1⟩
  have ej : joinL [P, Q] = takeL P Q := by
    show takeL (takeL [] P) Q = _
    rw [takeL_nil' okP]
  rw [ej] at h1
  have hI1 := hI.keep m1.n fun x hx => m1.keep x hx (by simp)
  have hap : ∀ x ∈ Fg, s.n ≤ x := fun x hx => by
    rcases m1.own x hx with h | h
    · cases h
    · exact h
  have hall1 : LedsAll s1 [bx, by_] [P, Q] := hall.keep m1.n fun x hx => m1.keep x hx (by simp)
  obtain ⟨t1, t2, rp⟩ := hI1.rp
  have w1 : IntKind.wrap .i64 (((grpsL P).length : Int) + ((jtG P (grpsL Q)).length : Int)) = ((grpsL (takeL P Q)).length : Int) := by rw [l1, wrap_i64 (by omega) (by omega)]; omega
  have w2 : IntKind.wrap .i64 (((spotsM P).length : Int) + ((jtS P (spotsM Q) (grpsL Q)).length : Int)) = ((spotsM (takeL P Q)).length : Int) := by rw [l2, wrap_i64 (by omega) (by omega)]; omega
  refine sd4 g9 g10 g11 g13 ?_
  refine gv (ct_join_Apart (bs := [bx, by_]) (Ms := [P, Q]) hall1 hok hsm (by simp)) ?_
  rw [jt_apart okP okQ]
  refine sd7 g9 g10 g11 g13 g14 rp w1 ?_
  refine gv (ct_ledger_Ledger_Groups h1 okM smM) ?_
  refine sd8 g9 g10 g11 g14 g15 rp w1 w2 ?_
  refine gv (ct_ledger_Ledger_Spots h1 okM smM) ?_
  refine sd8 g9 g10 g11 g14 g15 rp w1 w2 ?_
  refine st0 ?_
  rw [hT]
  exact jt_L (GL := jtG P (grpsL Q)) (tk := tk) (by simp [g6]) (by simp [g9]) (by simp [g10]) (by simp [g11]) (by simp [g12]) (by simp) (by simp [g14]) (by omega) (fun g hg => jt_getQ okP okQ hg) (fun g hg => jt_getP okP okQ hg)
    (fun g hg => by have := (grps_spar okQ g (List.mem_filter.1 hg).1).len; have := MI_eq; omega) hI1 h1 hap okP okQ okM smP smQ smM
theorem jt_B (g6 : Ab.get e 6 = .p b6 0) (g9 : Ab.get e 9 = .p bx 0) (g10 : Ab.get e 10 = .p by_ 0) (g11 : Ab.get e 11 = .p bp 0) (g12 : Ab.get e 12 = .p bq 0)
    (hI : JtI s0 s.n bx by_ bp bq b6 P Q F G at_ s) (okP : MOk P) (okQ : MOk Q) (sP : (spotsM P).length ≤ 60) (sQ : (spotsM Q).length ≤ 60) :
    wp prog none jtB (jtQ s0) { t := den 285 e, d := [] } s := by
  obtain ⟨T, hT⟩ : ∃ T, T = jtC := ⟨_, rfl⟩
  have hT2 := hT
  simp only [jtC, jtB, A_ladelaw20_JoinTwice, ACode.tl] at hT2
  simp only [jtB, A_ladelaw20_JoinTwice, ACode.tl]
  rw [← hT2]
  clear hT2
  have lP : (grpsL P).length ≤ 1000 := by have := okP.len; simpa [grpsL] using this
  have lQ : (grpsL Q).length ≤ 1000 := by have := okQ.len; simpa [grpsL] using this
  repeat (first | simp -dsimp -implicitDefEqProofs (disch := first | omega | (simp <;> omega) | fail) | ((with_reducible first | apply m_1 | apply m_0); (focus ((conv => lhs; simp -dsimp -implicitDefEqProofs (disch := first | omega | (simp <;> omega) | fail)); done))) | ((with_reducible first | apply i_T | apply g_T); (focus (simp -dsimp -implicitDefEqProofs (disch := first | omega | (simp <;> omega) | fail); done))) | ((with_reducible first | apply i_F | apply g_F); (focus (simp -dsimp -implicitDefEqProofs (disch := first | omega | (simp <;> omega) | fail); done))))
  refine loop_ok [6, 9, 10, 11, 12, 13, 14, 15, 16] (fun r a s1 => ∃ (i : Nat) (tk tk2 : Tok), i + r = (grpsL Q).length ∧ Grows s s1 ∧ May s.n s1 ((jtG P ((grpsL Q).take i)).map Grp.av) tk ∧ May s.n s1 ((jtS P (spotsM Q) ((grpsL Q).take i)).map Spt.av) tk2 ∧ (∀ t, tk2 = .own t → tk ≠ .own t) ∧
    a = { t := den 285 [(6, .p b6 0), (9, .p bx 0), (10, .p by_ 0), (11, .p bp 0), (12, .p bq 0), (13, .v (.bool (((grpsL Q).take i).all (isN P)))), (14, .sl ((jtG P ((grpsL Q).take i)).map Grp.av) tk), (15, .sl ((jtS P (spotsM Q) ((grpsL Q).take i)).map Spt.av) tk2), (16, .v (.int .i64 i))], d := [] }) (grpsL Q).length ?_ ?_
  · exact ⟨0, .zero, .zero, by simp, .refl _, trivial, trivial, by simp, by simp [g6, g9, g10, g11, g12, jtG, jtS]⟩
  rintro r a s1 ⟨i, tk, tk2, hir, hgr, hm1, hm2, hdd, rfl⟩
  have hI1 := hI.grows hgr
  obtain ⟨t1, t2, rp⟩ := hI1.rp
  obtain ⟨t3, t4, rq⟩ := hI1.rq
  have hbq := hI.f6.2.1
  by_cases hlt : i < (grpsL Q).length
  · have w3 : IntKind.wrap .i64 ((i : Int) + 1) = (i : Int) + 1 := wrap_i64 (by omega) (by omega)
    have jg := jtG_len P ((grpsL Q).take i)
    have jl := jtS_len P (spotsM Q) ((grpsL Q).take i)
    have lt2 : ((grpsL Q).take i).length ≤ 1000 := by simp; omega
    have jl2 : (jtS P (spotsM Q) ((grpsL Q).take i)).length ≤ 60000 := Nat.le_trans jl (Nat.mul_le_mul lt2 sQ)
    have e1 := jtG_snoc (P := P) hlt
    have e2 := jtS_snoc (P := P) (S := spotsM Q) hlt
    have e3 := alls_snoc (p := isN P) hlt
    have hany := isN_any okP (grpsL Q)[i]
    repeat (first | simp -dsimp -implicitDefEqProofs (disch := first | omega | (simp <;> omega) | fail) [hlt, rq] | ((with_reducible first | apply m_1 | apply m_0); (focus ((conv => lhs; simp -dsimp -implicitDefEqProofs (disch := first | omega | (simp <;> omega) | fail) [hlt, rq]); done))) | ((with_reducible first | apply i_T | apply g_T); (focus (simp -dsimp -implicitDefEqProofs (disch := first | omega | (simp <;> omega) | fail) [hlt, rq]; done))) | ((with_reducible first | apply i_F | apply g_F); (focus (simp -dsimp -implicitDefEqProofs (disch := first | omega | (simp <;> omega) | fail) [hlt, rq]; done))))
    refine loop_ok [6, 9, 10, 11, 12, 13, 14, 15, 16, 17, 18] (fun r2 a s2 => ∃ k : Nat, k + r2 = (grpsL P).length ∧ s1 = s2 ∧
      a = { t := den 285 [(6, .p b6 0), (9, .p bx 0), (10, .p by_ 0), (11, .p bp 0), (12, .p bq 0), (13, .v (.bool (((grpsL Q).take i).all (isN P)))), (14, .sl ((jtG P ((grpsL Q).take i)).map Grp.av) tk), (15, .sl ((jtS P (spotsM Q) ((grpsL Q).take i)).map Spt.av) tk2), (16, .v (.int .i64 i)), (17, .v (.bool (((grpsL P).take k).any fun x => decide (x.id = (grpsL Q)[i].id)))), (18, .v (.int .i64 k))], d := [] }) (grpsL P).length ?_ ?_
    · exact ⟨0, by simp, rfl, by simp⟩
    rintro r2 a s2 ⟨k, hkr, rfl, rfl⟩
    by_cases hkt : k < (grpsL P).length
    · have w4 : IntKind.wrap .i64 ((k : Int) + 1) = (k : Int) + 1 := wrap_i64 (by omega) (by omega)
      have e4 := any_snoc (p := fun x : Grp => decide (x.id = (grpsL Q)[i].id)) hkt
      cases hb : ((grpsL P).take k).any fun x => decide (x.id = (grpsL Q)[i].id) with
      | true =>
        repeat (first | simp -dsimp -implicitDefEqProofs (disch := first | omega | (simp <;> omega) | fail) [hkt, rp] | ((with_reducible first | apply m_1 | apply m_0); (focus ((conv => lhs; simp -dsimp -implicitDefEqProofs (disch := first | omega | (simp <;> omega) | fail) [hkt, rp]); done))) | ((with_reducible first | apply i_T | apply g_T); (focus (simp -dsimp -implicitDefEqProofs (disch := first | omega | (simp <;> omega) | fail) [hkt, rp]; done))) | ((with_reducible first | apply i_F | apply g_F); (focus (simp -dsimp -implicitDefEqProofs (disch := first | omega | (simp <;> omega) | fail) [hkt, rp]; done))))
        exact ⟨r2 - 1, by omega, k + 1, by omega, rfl, by rw [e4, hb]; simp [w4]⟩
      | false =>
        by_cases hq : (grpsL P)[k].id = (grpsL Q)[i].id
        · repeat (first | simp -dsimp -implicitDefEqProofs (disch := first | omega | (simp <;> omega) | fail) [hkt, hlt, rp, rq, hq] | ((with_reducible first | apply m_1 | apply m_0); (focus ((conv => lhs; simp -dsimp -implicitDefEqProofs (disch := first | omega | (simp <;> omega) | fail) [hkt, hlt, rp, rq, hq]); done))) | ((with_reducible first | apply i_T | apply g_T); (focus (simp -dsimp -implicitDefEqProofs (disch := first | omega | (simp <;> omega) | fail) [hkt, hlt, rp, rq, hq]; done))) | ((with_reducible first | apply i_F | apply g_F); (focus (simp -dsimp -implicitDefEqProofs (disch := first | omega | (simp <;> omega) | fail) [hkt, hlt, rp, rq, hq]; done))))
          exact ⟨r2 - 1, by omega, k + 1, by omega, rfl, by rw [e4, hb]; simp [w4, hq]⟩
        · have hq2 : ((grpsL P)[k].id == (grpsL Q)[i].id) = false := by simpa using hq
          repeat (first | simp -dsimp -implicitDefEqProofs (disch := first | omega | (simp <;> omega) | fail) [hkt, hlt, rp, rq, hq, hq2] | ((with_reducible first | apply m_1 | apply m_0); (focus ((conv => lhs; simp -dsimp -implicitDefEqProofs (disch := first | omega | (simp <;> omega) | fail) [hkt, hlt, rp, rq, hq, hq2]); done))) | ((with_reducible first | apply i_T | apply g_T); (focus (simp -dsimp -implicitDefEqProofs (disch := first | omega | (simp <;> omega) | fail) [hkt, hlt, rp, rq, hq, hq2]; done))) | ((with_reducible first | apply i_F | apply g_F); (focus (simp -dsimp -implicitDefEqProofs (disch := first | omega | (simp <;> omega) | fail) [hkt, hlt, rp, rq, hq, hq2]; done))))
          exact ⟨r2 - 1, by omega, k + 1, by omega, rfl, by rw [e4, hb]; simp [w4, hq]⟩
    have hke : k = (grpsL P).length := by omega
    subst hke
    rw [List.take_length, hany]
    cases hn : isN P (grpsL Q)[i] with
    | false =>
      rw [if_neg (by simp [hn]), List.append_nil] at e1 e2
      rw [hn, Bool.and_false] at e3
      cases hal : ((grpsL Q).take i).all (isN P) <;>
      · repeat (first | simp -dsimp -implicitDefEqProofs (disch := first | omega | (simp <;> omega) | fail) [hkt, rp] | ((with_reducible first | apply m_1 | apply m_0); (focus ((conv => lhs; simp -dsimp -implicitDefEqProofs (disch := first | omega | (simp <;> omega) | fail) [hkt, rp]); done))) | ((with_reducible first | apply i_T | apply g_T); (focus (simp -dsimp -implicitDefEqProofs (disch := first | omega | (simp <;> omega) | fail) [hkt, rp]; done))) | ((with_reducible first | apply i_F | apply g_F); (focus (simp -dsimp -implicitDefEqProofs (disch := first | omega | (simp <;> omega) | fail) [hkt, rp]; done))))
        exact ⟨r - 1, by omega, i + 1, tk, tk2, by omega, hgr, by rw [e1]; exact hm1, by rw [e2]; exact hm2, hdd, by rw [e1, e2, e3]; simp [w3]⟩
    | true =>
      rw [if_pos hn] at e1 e2
      rw [hn, Bool.and_true] at e3
      have goal : ∀ (b : Bool), ((grpsL Q).take i).all (isN P) = b → True := fun _ _ => trivial
      clear goal
      cases hal : ((grpsL Q).take i).all (isN P) <;>
      · repeat (first | simp -dsimp -implicitDefEqProofs (disch := first | omega | (simp <;> omega) | fail) [hkt, hlt, rp, rq] | ((with_reducible first | apply m_1 | apply m_0); (focus ((conv => lhs; simp -dsimp -implicitDefEqProofs (disch := first | omega | (simp <;> omega) | fail) [hkt, hlt, rp, rq]); done))) | ((with_reducible first | apply i_T | apply g_T); (focus (simp -dsimp -implicitDefEqProofs (disch := first | omega | (simp <;> omega) | fail) [hkt, hlt, rp, rq]; done))) | ((with_reducible first | apply i_F | apply g_F); (focus (simp -dsimp -implicitDefEqProofs (disch := first | omega | (simp <;> omega) | fail) [hkt, hlt, rp, rq]; done))))
        refine m_app2 (xs := (jtG P ((grpsL Q).take i)).map Grp.av) (tk := tk) (ys := [(grpsL Q)[i].av]) (t2 := .zero) (B := s) (N := s.n) (zs := (jtS P (spotsM Q) ((grpsL Q).take i)).map Spt.av) (tz := tk2) (by simp) (by simp) hgr (Nat.le_refl _) hgr.n hm1 hm2 hdd (by simp) (head_map Grp.row _) (by simp) (by simp; omega) (by simp; omega) ?_
        intro s3 tk3 hg3 hm3 hz3 hd3
        repeat (first | simp -dsimp -implicitDefEqProofs (disch := first | omega | (simp <;> omega) | fail) | ((with_reducible first | apply m_1 | apply m_0); (focus ((conv => lhs; simp -dsimp -implicitDefEqProofs (disch := first | omega | (simp <;> omega) | fail)); done))) | ((with_reducible first | apply i_T | apply g_T); (focus (simp -dsimp -implicitDefEqProofs (disch := first | omega | (simp <;> omega) | fail); done))) | ((with_reducible first | apply i_F | apply g_F); (focus (simp -dsimp -implicitDefEqProofs (disch := first | omega | (simp <;> omega) | fail); done))))
        refine loop_ok [6, 9, 10, 11, 12, 13, 14, 15, 16, 19] (fun r3 a s4 => ∃ (q : Nat) (tk4 : Tok), q + r3 = (spotsM Q).length ∧ Grows s s4 ∧ May s.n s4 (((jtS P (spotsM Q) ((grpsL Q).take i)) ++ ((spotsM Q).take q).filter fun x => decide (x.gr = (grpsL Q)[i].id)).map Spt.av) tk4 ∧ May s.n s4 ((jtG P ((grpsL Q).take i)).map Grp.av ++ [(grpsL Q)[i].av]) tk3 ∧ (∀ t, tk3 = .own t → tk4 ≠ .own t) ∧
          a = { t := den 285 [(6, .p b6 0), (9, .p bx 0), (10, .p by_ 0), (11, .p bp 0), (12, .p bq 0), (13, .v (.bool (((grpsL Q).take i).all (isN P)))), (14, .sl ((jtG P ((grpsL Q).take i)).map Grp.av ++ [(grpsL Q)[i].av]) tk3), (15, .sl (((jtS P (spotsM Q) ((grpsL Q).take i)) ++ ((spotsM Q).take q).filter fun x => decide (x.gr = (grpsL Q)[i].id)).map Spt.av) tk4), (16, .v (.int .i64 i)), (19, .v (.int .i64 q))], d := [] }) (spotsM Q).length ?_ ?_
        · exact ⟨0, tk2, by simp, hg3, by simpa using hz3, by simpa using hm3, fun t h1 h2 => hd3 t h2 h1, by simp [hal]⟩
        rintro r3 a s4 ⟨q, tk4, hqr, hg4, hm4, hz4, hd4, rfl⟩
        have hI4 := hI.grows hg4
        obtain ⟨t5, t6, rq4⟩ := hI4.rq
        by_cases hqt : q < (spotsM Q).length
        · have w5 : IntKind.wrap .i64 ((q : Int) + 1) = (q : Int) + 1 := wrap_i64 (by omega) (by omega)
          have hfl : (((spotsM Q).take q).filter fun x => decide (x.gr = (grpsL Q)[i].id)).length ≤ q := Nat.le_trans (List.length_filter_le _ _) (by simp; omega)
          have hft := ftake' (p := fun x : Spt => decide (x.gr = (grpsL Q)[i].id)) hqt
          by_cases hg : (spotsM Q)[q].gr = (grpsL Q)[i].id
          · rw [if_pos (by simpa using hg)] at hft
            repeat (first | simp -dsimp -implicitDefEqProofs (disch := first | omega | (simp <;> omega) | fail) [hlt, hqt, rq4, hg] | ((with_reducible first | apply m_1 | apply m_0); (focus ((conv => lhs; simp -dsimp -implicitDefEqProofs (disch := first | omega | (simp <;> omega) | fail) [hlt, hqt, rq4, hg]); done))) | ((with_reducible first | apply i_T | apply g_T); (focus (simp -dsimp -implicitDefEqProofs (disch := first | omega | (simp <;> omega) | fail) [hlt, hqt, rq4, hg]; done))) | ((with_reducible first | apply i_F | apply g_F); (focus (simp -dsimp -implicitDefEqProofs (disch := first | omega | (simp <;> omega) | fail) [hlt, hqt, rq4, hg]; done))))
            refine m_app2 (xs := ((jtS P (spotsM Q) ((grpsL Q).take i)) ++ ((spotsM Q).take q).filter fun x => decide (x.gr = (grpsL Q)[i].id)).map Spt.av) (tk := tk4) (ys := [(spotsM Q)[q].av]) (t2 := .zero) (B := s) (N := s.n) (zs := (jtG P ((grpsL Q).take i)).map Grp.av ++ [(grpsL Q)[i].av]) (tz := tk3) (by simp) (by simp) hg4 (Nat.le_refl _) hg4.n hm4 hz4 hd4 (by simp) (head_map Spt.row _) (by simp) (by simp; omega) (by simp; omega) ?_
            intro s5 tk5 hg5 hm5 hz5 hd5
            repeat (first | simp -dsimp -implicitDefEqProofs (disch := first | omega | (simp <;> omega) | fail) | ((with_reducible first | apply m_1 | apply m_0); (focus ((conv => lhs; simp -dsimp -implicitDefEqProofs (disch := first | omega | (simp <;> omega) | fail)); done))) | ((with_reducible first | apply i_T | apply g_T); (focus (simp -dsimp -implicitDefEqProofs (disch := first | omega | (simp <;> omega) | fail); done))) | ((with_reducible first | apply i_F | apply g_F); (focus (simp -dsimp -implicitDefEqProofs (disch := first | omega | (simp <;> omega) | fail); done))))
            refine ⟨r3 - 1, by omega, q + 1, tk5, by omega, hg5, ?_, hz5, hd5, ?_⟩
            · rw [hft]; simpa using hm5
            · rw [hft]; simp [w5]
          · rw [if_neg (by simpa using hg), List.append_nil] at hft
            repeat (first | simp -dsimp -implicitDefEqProofs (disch := first | omega | (simp <;> omega) | fail) [hlt, hqt, rq4, hg] | ((with_reducible first | apply m_1 | apply m_0); (focus ((conv => lhs; simp -dsimp -implicitDefEqProofs (disch := first | omega | (simp <;> omega) | fail) [hlt, hqt, rq4, hg]); done))) | ((with_reducible first | apply i_T | apply g_T); (focus (simp -dsimp -implicitDefEqProofs (disch := first | omega | (simp <;> omega) | fail) [hlt, hqt, rq4, hg]; done))) | ((with_reducible first | apply i_F | apply g_F); (focus (simp -dsimp -implicitDefEqProofs (disch := first | omega | (simp <;> omega) | fail) [hlt, hqt, rq4, hg]; done))))
            exact ⟨r3 - 1, by omega, q + 1, tk4, by omega, hg4, by rw [hft]; exact hm4, hz4, hd4, by rw [hft]; simp [w5]⟩
        have hqe : q = (spotsM Q).length := by omega
        subst hqe
        rw [List.take_length] at hm4 ⊢
        repeat (first | simp -dsimp -implicitDefEqProofs (disch := first | omega | (simp <;> omega) | fail) [hqt, rq4] | ((with_reducible first | apply m_1 | apply m_0); (focus ((conv => lhs; simp -dsimp -implicitDefEqProofs (disch := first | omega | (simp <;> omega) | fail) [hqt, rq4]); done))) | ((with_reducible first | apply i_T | apply g_T); (focus (simp -dsimp -implicitDefEqProofs (disch := first | omega | (simp <;> omega) | fail) [hqt, rq4]; done))) | ((with_reducible first | apply i_F | apply g_F); (focus (simp -dsimp -implicitDefEqProofs (disch := first | omega | (simp <;> omega) | fail) [hqt, rq4]; done))))
        exact ⟨r - 1, by omega, i + 1, tk3, tk4, by omega, hg4, by rw [e1]; simpa using hz4, by rw [e2]; exact hm4, fun t h1 h2 => hd4 t h2 h1, by rw [e1, e2, e3]; simp [w3, hal]⟩
  · have hie : i = (grpsL Q).length := by omega
    subst hie
    rw [List.take_length] at *
    repeat (first | simp -dsimp -implicitDefEqProofs (disch := first | omega | (simp <;> omega) | fail) [hlt, rq] | ((with_reducible first | apply m_1 | apply m_0); (focus ((conv => lhs; simp -dsimp -implicitDefEqProofs (disch := first | omega | (simp <;> omega) | fail) [hlt, rq]); done))) | ((with_reducible first | apply i_T | apply g_T); (focus (simp -dsimp -implicitDefEqProofs (disch := first | omega | (simp <;> omega) | fail) [hlt, rq]; done))) | ((with_reducible first | apply i_F | apply g_F); (focus (simp -dsimp -implicitDefEqProofs (disch := first | omega | (simp <;> omega) | fail) [hlt, rq]; done))))
    rw [hT]
    have hn := hgr.n
    refine jt_C (s0 := s0) (bx := bx) (by_ := by_) (bp := bp) (bq := bq) (b6 := b6) (P := P) (Q := Q) (F := F) (G := G) (at_ := at_) (tk := tk) (tk2 := tk2) (by simp) (by simp) (by simp) (by simp) (by simp) (by simp) (by simp) (by simp) ?_ okP okQ sP sQ
    obtain ⟨lx, ly, rp', rq', c6, nm, fF, fG, f6, old⟩ := hI1
    exact ⟨lx, ly, rp', rq', c6, by omega, fun x hx => by have := fF x hx; omega, fun x hx => by have := fG x hx; omega, by omega, old⟩
end
end Go.Proofs.YtmpoeamfcienoaaGreat
end
