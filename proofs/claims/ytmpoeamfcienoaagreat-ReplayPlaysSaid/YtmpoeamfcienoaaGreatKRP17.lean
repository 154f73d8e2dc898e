/- Going on. -/
import Derived.Shelf.SlGeneric
import Derived.Ground.GgzProg
import Derived.Ground.SlgmProg
import Derived.Ground.SlmcProg
import Derived.Shelf.SlIterI.Nil
import Derived.Shelf.SlMaps.Clone
import Derived.Shelf.SortM.Plain
import Derived.Shelf.SortM.SortNone
import Derived.Test.YtmpoeamfcienoaaGreatKRP16
section
namespace Go.Proofs
open Go.Shelf
def Tryz.sh_slices_Sorted_int_ren : Go.Shelf.Ren := ⟨fun | 6 => 91 | 8 => 126 | 9 => 127 | 11 => 141 | 13 => 143 | 12 => 142 | 23 => 157 | 24 => 158 | 14 => 148 | 15 => 149 | 16 => 150 | 17 => 151 | 18 => 152 | 19 => 153 | 20 => 154 | 21 => 155 | 22 => 156 | 25 => 160 | 26 => 161 | 27 => 162 | 28 => 163 | 29 => 164 | 30 => 165 | 31 => 166 | n => n, fun | 26 => 3 | 28 => 154 | 24 => 65 | 0 => 0 | 3 => 3 | 37 => 181 | 48 => 194 | 50 => 196 | 4 => 4 | 40 => 186 | 39 => 185 | 45 => 191 | 5 => 5 | 9 => 9 | 51 => 198 | 55 => 202 | 57 => 204 | 58 => 205 | 33 => 72 | n => n, fun | n => n⟩
theorem Tryz.sh_slices_Sorted_int : Go.Proofs.SlLaysZI.n6 Tryz.prog Tryz.sh_slices_Sorted_int_ren := {
  mixed := by kernel_rfl
  f6 := ⟨Tryz.f91.name, by decide, Tryz.func91.trans (congrArg some (by kernel_rfl))⟩
  f8 := ⟨Tryz.f126.name, by decide, Tryz.func126.trans (congrArg some (by kernel_rfl))⟩
  f11 := ⟨Tryz.f141.name, by decide, Tryz.func141.trans (congrArg some (by kernel_rfl))⟩
  t0 := Tryz.underlying0
  a0 := Tryz.isAgg0
  z0 := Tryz.sizeOf0
  v0 := Tryz.zeroValue0
  t24 := Tryz.underlying65
  a24 := Tryz.isAgg65
  z24 := Tryz.sizeOf65
  v24 := Tryz.zeroValue65
  t26 := Tryz.underlying3
  a26 := Tryz.isAgg3
  z26 := Tryz.sizeOf3
  v26 := Tryz.zeroValue3
  t28 := Tryz.underlying154
  a28 := Tryz.isAgg154
  z28 := Tryz.sizeOf154
  v28 := Tryz.zeroValue154
  i26 := by kernel_rfl }
def Tryz.sh_maps_Keys_Log_ren : Go.Shelf.Ren := ⟨fun | 7 => 92 | 10 => 128 | n => n, fun | 23 => 85 | 26 => 3 | 3 => 91 | 28 => 154 | 0 => 0 | 27 => 153 | 33 => 72 | 4 => 4 | n => n, fun | n => n⟩
theorem Tryz.sh_maps_Keys_Log : Go.Proofs.SlLaysZI.n7 Tryz.prog Tryz.sh_maps_Keys_Log_ren := {
  mixed := by kernel_rfl
  f7 := ⟨Tryz.f92.name, by decide, Tryz.func92.trans (congrArg some (by kernel_rfl))⟩
  f10 := ⟨Tryz.f128.name, by decide, Tryz.func128.trans (congrArg some (by kernel_rfl))⟩
  t0 := Tryz.underlying0
  a0 := Tryz.isAgg0
  z0 := Tryz.sizeOf0
  v0 := Tryz.zeroValue0
  t4 := Tryz.underlying4
  a4 := Tryz.isAgg4
  z4 := Tryz.sizeOf4
  v4 := Tryz.zeroValue4
  t23 := Tryz.underlying85
  a23 := Tryz.isAgg85
  z23 := Tryz.sizeOf85
  v23 := Tryz.zeroValue85
  t26 := Tryz.underlying3
  a26 := Tryz.isAgg3
  z26 := Tryz.sizeOf3
  v26 := Tryz.zeroValue3
  t27 := Tryz.underlying153
  a27 := Tryz.isAgg153
  z27 := Tryz.sizeOf153
  v27 := Tryz.zeroValue153
  t28 := Tryz.underlying154
  a28 := Tryz.isAgg154
  z28 := Tryz.sizeOf154
  v28 := Tryz.zeroValue154
  t33 := Tryz.underlying72
  a33 := Tryz.isAgg72
  z33 := Tryz.sizeOf72
  v33 := Tryz.zeroValue72 }
def Tryz.sh_maps_Keys_Place_ren : Go.Shelf.Ren := ⟨fun | 7 => 95 | 10 => 130 | n => n, fun | 23 => 133 | 26 => 3 | 3 => 24 | 28 => 154 | 0 => 0 | 27 => 153 | 33 => 72 | 4 => 4 | n => n, fun | n => n⟩
theorem Tryz.sh_maps_Keys_Place : Go.Proofs.SlLaysZI.n7 Tryz.prog Tryz.sh_maps_Keys_Place_ren := {
  mixed := by kernel_rfl
  f7 := ⟨Tryz.f95.name, by decide, Tryz.func95.trans (congrArg some (by kernel_rfl))⟩
  f10 := ⟨Tryz.f130.name, by decide, Tryz.func130.trans (congrArg some (by kernel_rfl))⟩
  t0 := Tryz.underlying0
  a0 := Tryz.isAgg0
  z0 := Tryz.sizeOf0
  v0 := Tryz.zeroValue0
  t4 := Tryz.underlying4
  a4 := Tryz.isAgg4
  z4 := Tryz.sizeOf4
  v4 := Tryz.zeroValue4
  t23 := Tryz.underlying133
  a23 := Tryz.isAgg133
  z23 := Tryz.sizeOf133
  v23 := Tryz.zeroValue133
  t26 := Tryz.underlying3
  a26 := Tryz.isAgg3
  z26 := Tryz.sizeOf3
  v26 := Tryz.zeroValue3
  t27 := Tryz.underlying153
  a27 := Tryz.isAgg153
  z27 := Tryz.sizeOf153
  v27 := Tryz.zeroValue153
  t28 := Tryz.underlying154
  a28 := Tryz.isAgg154
  z28 := Tryz.sizeOf154
  v28 := Tryz.zeroValue154
  t33 := Tryz.underlying72
  a33 := Tryz.isAgg72
  z33 := Tryz.sizeOf72
  v33 := Tryz.zeroValue72 }
def Tryz.sh_slices_Sort_int_ren : Go.Shelf.Ren := ⟨fun | 5 => 127 | 8 => 143 | 7 => 142 | 19 => 157 | 20 => 158 | 10 => 148 | 11 => 149 | 12 => 150 | 13 => 151 | 14 => 152 | 15 => 153 | 16 => 154 | 17 => 155 | 18 => 156 | 30 => 160 | 31 => 161 | 32 => 162 | 33 => 163 | 34 => 164 | 35 => 165 | 40 => 166 | n => n, fun | 23 => 65 | 25 => 3 | 3 => 3 | 32 => 181 | 22 => 65 | 0 => 0 | 44 => 194 | 46 => 196 | 4 => 4 | 36 => 186 | 35 => 185 | 41 => 191 | 5 => 5 | 9 => 9 | 53 => 198 | 57 => 202 | 63 => 204 | 64 => 205 | n => n, fun | n => n⟩
theorem Tryz.sh_slices_Sort_int : Go.Proofs.SlLaysM.n5 Tryz.prog Tryz.sh_slices_Sort_int_ren := {
  mixed := by kernel_rfl
  f5 := ⟨Tryz.f127.name, by decide, Tryz.func127.trans (congrArg some (by kernel_rfl))⟩
  f7 := ⟨Tryz.f142.name, by decide, Tryz.func142.trans (congrArg some (by kernel_rfl))⟩
  f8 := Tryz.func143.trans (congrArg some (by kernel_rfl))
  f10 := ⟨Tryz.f148.name, by decide, Tryz.func148.trans (congrArg some (by kernel_rfl))⟩
  f11 := ⟨Tryz.f149.name, by decide, Tryz.func149.trans (congrArg some (by kernel_rfl))⟩
  f12 := ⟨Tryz.f150.name, by decide, Tryz.func150.trans (congrArg some (by kernel_rfl))⟩
  f13 := ⟨Tryz.f151.name, by decide, Tryz.func151.trans (congrArg some (by kernel_rfl))⟩
  f14 := ⟨Tryz.f152.name, by decide, Tryz.func152.trans (congrArg some (by kernel_rfl))⟩
  f15 := ⟨Tryz.f153.name, by decide, Tryz.func153.trans (congrArg some (by kernel_rfl))⟩
  f16 := ⟨Tryz.f154.name, by decide, Tryz.func154.trans (congrArg some (by kernel_rfl))⟩
  f17 := ⟨Tryz.f155.name, by decide, Tryz.func155.trans (congrArg some (by kernel_rfl))⟩
  f18 := ⟨Tryz.f156.name, by decide, Tryz.func156.trans (congrArg some (by kernel_rfl))⟩
  f19 := Tryz.func157.trans (congrArg some (by kernel_rfl))
  f20 := Tryz.func158.trans (congrArg some (by kernel_rfl))
  f30 := ⟨Tryz.f160.name, by decide, Tryz.func160.trans (congrArg some (by kernel_rfl))⟩
  f31 := Tryz.func161.trans (congrArg some (by kernel_rfl))
  f32 := Tryz.func162.trans (congrArg some (by kernel_rfl))
  f33 := ⟨Tryz.f163.name, by decide, Tryz.func163.trans (congrArg some (by kernel_rfl))⟩
  f34 := ⟨Tryz.f164.name, by decide, Tryz.func164.trans (congrArg some (by kernel_rfl))⟩
  f35 := ⟨Tryz.f165.name, by decide, Tryz.func165.trans (congrArg some (by kernel_rfl))⟩
  f40 := ⟨Tryz.f166.name, by decide, Tryz.func166.trans (congrArg some (by kernel_rfl))⟩
  t0 := Tryz.underlying0
  a0 := Tryz.isAgg0
  z0 := Tryz.sizeOf0
  v0 := Tryz.zeroValue0
  t3 := Tryz.underlying3
  a3 := Tryz.isAgg3
  z3 := Tryz.sizeOf3
  v3 := Tryz.zeroValue3
  t4 := Tryz.underlying4
  a4 := Tryz.isAgg4
  z4 := Tryz.sizeOf4
  v4 := Tryz.zeroValue4
  t5 := Tryz.underlying5
  a5 := Tryz.isAgg5
  z5 := Tryz.sizeOf5
  v5 := Tryz.zeroValue5
  t9 := Tryz.underlying9
  a9 := Tryz.isAgg9
  z9 := Tryz.sizeOf9
  v9 := Tryz.zeroValue9
  t22 := Tryz.underlying65
  a22 := Tryz.isAgg65
  z22 := Tryz.sizeOf65
  v22 := Tryz.zeroValue65
  t23 := Tryz.underlying65
  a23 := Tryz.isAgg65
  z23 := Tryz.sizeOf65
  v23 := Tryz.zeroValue65
  t25 := Tryz.underlying3
  a25 := Tryz.isAgg3
  z25 := Tryz.sizeOf3
  v25 := Tryz.zeroValue3
  t32 := Tryz.underlying181
  a32 := Tryz.isAgg181
  z32 := Tryz.sizeOf181
  v32 := Tryz.zeroValue181
  t35 := Tryz.underlying185
  a35 := Tryz.isAgg185
  z35 := Tryz.sizeOf185
  v35 := Tryz.zeroValue185
  t36 := Tryz.underlying186
  a36 := Tryz.isAgg186
  z36 := Tryz.sizeOf186
  v36 := Tryz.zeroValue186
  t41 := Tryz.underlying191
  a41 := Tryz.isAgg191
  z41 := Tryz.sizeOf191
  v41 := Tryz.zeroValue191
  t44 := Tryz.underlying194
  a44 := Tryz.isAgg194
  z44 := Tryz.sizeOf194
  v44 := Tryz.zeroValue194
  t46 := Tryz.underlying196
  a46 := Tryz.isAgg196
  z46 := Tryz.sizeOf196
  v46 := Tryz.zeroValue196
  t53 := Tryz.underlying198
  a53 := Tryz.isAgg198
  z53 := Tryz.sizeOf198
  v53 := Tryz.zeroValue198
  t57 := Tryz.underlying202
  a57 := Tryz.isAgg202
  z57 := Tryz.sizeOf202
  v57 := Tryz.zeroValue202
  t63 := Tryz.underlying204
  a63 := Tryz.isAgg204
  z63 := Tryz.sizeOf204
  v63 := Tryz.zeroValue204
  t64 := Tryz.underlying205
  a64 := Tryz.isAgg205
  z64 := Tryz.sizeOf205
  v64 := Tryz.zeroValue205 }
end Go.Proofs
end
section
namespace Go.Proofs.YtmpoeamfcienoaaGreat
open Go.Ab Go.Maps
set_option linter.unusedVariables false
set_option linter.unusedSimpArgs false
set_option maxRecDepth 100000
set_option maxHeartbeats 4000000
theorem sortsI (m : Nat) : AnyZI.SortsIn Tryz.prog Tryz.sh_slices_Sorted_int_ren Fence.wide m :=
  ⟨fun blk off cap ss W hH hblk hsz => callsIn_wide.2 (AnyM.slices_Sort_int Tryz.sh_slices_Sort_int blk off cap ss W hH hblk hsz),
   fun p cap W => callsIn_wide.2 (AnyM.slices_Sort_int_none Tryz.sh_slices_Sort_int p cap W)⟩
theorem ct_sorted_Place {β : Type} {s : AState} {cb b : Nat} {enc : β → AV} {A B : List (Int × β)} (hcb : s.get cb = .cells [.m b]) (hb : s.get b = .map (encM enc A)) (hAB : Rep A B)
    (hw : ∀ x ∈ B, -9223372036854775808 ≤ x.1 ∧ x.1 < 9223372036854775808) (hlen : B.length * 8 ≤ 140737488355328) :
    Gives prog F_slices_Sorted_int [.f (.func F_maps_Keys_Place_1) [] [.p cb 0]] s (.sl ((B.map (·.1)).map fun n => .v (.int .i64 n)) .no) s := by
  refine Runs.sorted (kt := Tryz.sh_maps_Keys_Place_ren.t 26) (T := Tryz.sh_slices_Sorted_int_ren.t 26) (enters_of Tryz.func91 (by kernel_rfl) rfl) hcb hb hAB hw Tryz.sh_maps_Keys_Place.t26 hlen ?_
  intro w Bm r D0 hc hlt hown hsz
  have hseq := AnyZI.keys_gives (ρ := Tryz.sh_maps_Keys_Place_ren) { Tryz.sh_maps_Keys_Place with } Fence.wide 2 trivial rfl (by omega) Bm r _ D0 w hlt hc hown
  have := AnyZI.sorted_in Tryz.sh_slices_Sorted_int Fence.wide 5 trivial trivial trivial trivial rfl (by omega) (sortsI _) (enters_of Tryz.func127 (by kernel_rfl) rfl) F_maps_Keys_Place_1 #[.pointer (some ⟨Bm, 0, none⟩)] trivial (enters_of Tryz.func130 (by kernel_rfl) rfl) _ (Maps.size D0)
    (by have e : maxLen = 9223372036854775807 := rfl; omega) (by omega) w hseq
  exact (callsIn_wide (n := 5)).1 this
theorem ct_maps_Keys_Place {b : Nat} {s : AState} : Gives prog F_maps_Keys_Place [.m b] s (.f (.func F_maps_Keys_Place_1) [] [.p s.n 0]) (s.alloc (.cells [.m b])) := by
  refine runs_e h_maps_Keys_Place (Nat.le_of_ble_eq_true rfl) ?_
  refine st0 ?_
  exact ret_ok rfl ⟨rfl, rfl⟩
theorem ct_sorted_Log {β : Type} {s : AState} {cb b : Nat} {enc : β → AV} {A B : List (Int × β)} (hcb : s.get cb = .cells [.m b]) (hb : s.get b = .map (encM enc A)) (hAB : Rep A B)
    (hw : ∀ x ∈ B, -9223372036854775808 ≤ x.1 ∧ x.1 < 9223372036854775808) (hlen : B.length * 8 ≤ 140737488355328) :
    Gives prog F_slices_Sorted_int [.f (.func F_maps_Keys_Log_1) [] [.p cb 0]] s (.sl ((B.map (·.1)).map fun n => .v (.int .i64 n)) .no) s := by
  refine Runs.sorted (kt := Tryz.sh_maps_Keys_Log_ren.t 26) (T := Tryz.sh_slices_Sorted_int_ren.t 26) (enters_of Tryz.func91 (by kernel_rfl) rfl) hcb hb hAB hw Tryz.sh_maps_Keys_Log.t26 hlen ?_
  intro w Bm r D0 hc hlt hown hsz
  have hseq := AnyZI.keys_gives (ρ := Tryz.sh_maps_Keys_Log_ren) { Tryz.sh_maps_Keys_Log with } Fence.wide 2 trivial rfl (by omega) Bm r _ D0 w hlt hc hown
  have := AnyZI.sorted_in Tryz.sh_slices_Sorted_int Fence.wide 5 trivial trivial trivial trivial rfl (by omega) (sortsI _) (enters_of Tryz.func127 (by kernel_rfl) rfl) F_maps_Keys_Log_1 #[.pointer (some ⟨Bm, 0, none⟩)] trivial (enters_of Tryz.func128 (by kernel_rfl) rfl) _ (Maps.size D0)
    (by have e : maxLen = 9223372036854775807 := rfl; omega) (by omega) w hseq
  exact (callsIn_wide (n := 5)).1 this
theorem ct_maps_Keys_Log {b : Nat} {s : AState} : Gives prog F_maps_Keys_Log [.m b] s (.f (.func F_maps_Keys_Log_1) [] [.p s.n 0]) (s.alloc (.cells [.m b])) := by
  refine runs_e h_maps_Keys_Log (Nat.le_of_ble_eq_true rfl) ?_
  refine st0 ?_
  exact ret_ok rfl ⟨rfl, rfl⟩
theorem ct_slices_Clone_Entry {es : List Ent} {s : AState} (hlen : es.length * 32 ≤ 140737488355328) : Gives prog F_slices_Clone_Entry [.sl (es.map Ent.av) .no] s (.sl (es.map Ent.av) .no) s := by
  refine Runs.gives' (runs_e h_slices_Clone_Entry (Nat.le_of_ble_eq_true rfl) ?_) (flat_sl Ent.row _)
  refine st0 ?_
  refine i_N (fun hne => ?_) (fun hne b => ?_)
  · refine st0 ?_
    refine m_app (xs := []) (tk := .zero) (B := s) (N := s.n) (by simp) (by simp; exact ⟨rfl, rfl⟩) (Grows.refl s) (Nat.le_refl _) (Nat.le_refl _) trivial (by simp) (by simp) (by simp; omega) (by simp; omega) ?_
    intro s' tk2 hg hm _ _
    refine st0 ?_
    exact ret_ok rfl ⟨hg, by simpa using AV.le_no _ _⟩
  · have : es = [] := by simpa using hne
    subst this
    cases b
    · refine st0 ?_
      exact ret_ok rfl ⟨Grows.refl _, AV.le_no _ _⟩
    · refine st0 ?_
      exact ret_ok rfl ⟨Grows.refl _, AV.le_no _ _⟩
end Go.Proofs.YtmpoeamfcienoaaGreat
end
section
namespace Go.Proofs.YtmpoeamfcienoaaGreat
open Go.Ab
set_option linter.unusedVariables false
set_option linter.unusedSimpArgs false
set_option maxRecDepth 100000
set_option maxHeartbeats 4000000
def Ones (xs : List AV) : Prop := ∀ x ∈ xs, x.cells = [x] ∧ x.one = true ∧ x.strip = x
theorem Ones.ints {k : IntKind} (l : List Int) : Ones (l.map fun n => .v (.int k n)) := by intro x hx; obtain ⟨n, _, rfl⟩ := List.mem_map.1 hx; exact ⟨rfl, rfl, rfl⟩
theorem ct_slices_Values_int {xs : List AV} {s : AState} : Gives prog F_slices_Values_int [.sl xs .no] s (.f (.func F_slices_Values_int_1) [] [.p s.n 0]) (s.alloc (.cells [.sl xs .no])) := by
  refine runs_e h_slices_Values_int (Nat.le_of_ble_eq_true rfl) ?_
  refine st0 ?_
  exact ret_ok rfl ⟨rfl, rfl⟩
theorem it_slices_Values_int (xs : List AV) (hx : Ones xs) (b : Nat) (hlen : xs.length < 9223372036854775808) : Iter prog F_slices_Values_int_1 [] [.p b 0] (xs.map fun e => [e]) (fun s => s.get b = .cells [.sl xs .no]) := by
  intro l s I J hp ha hj hy h0
  refine runs_e h_slices_Values_int_1 (Nat.le_of_ble_eq_true rfl) ?_
  refine st1 (hp 0 s h0) ?_
  refine loop_ok [0, 5, 6, 7] (fun m a s1 => ∃ j : Nat, j + m = xs.length ∧ I j s1 ∧ a = { t := den 16 [(0, .y l), (5, .sl xs .no), (6, .v (.int .i64 xs.length)), (7, .v (.int .i64 j))], d := [] }) xs.length ?_ ?_
  · exact ⟨0, by simp, h0, by simp⟩
  · rintro m a s1 ⟨j, hjm, hI, rfl⟩
    by_cases hlt : j < xs.length
    · have hw : IntKind.wrap .i64 ((j : Int) + 1) = ((j + 1 : Nat) : Int) := by rw [wrap_i64 (by omega) (by omega)]; omega
      obtain ⟨hc, ho, _⟩ := hx _ (List.getElem_mem hlt)
      refine st3 hlt hc ho ?_
      have hy' := hy j (by simpa using hlt) _ hI
      simp only [List.getElem_map] at hy'
      refine yr0 (hy') ?_
      rintro _ s2 (⟨rfl, hI2⟩ | ⟨rfl, hJ⟩)
      · refine st1 hw ?_
        exact ⟨m - 1, by omega, j + 1, by omega, hI2, by simp⟩
      · refine st0 ?_
        exact ret_ok rfl (.inr hJ)
    · refine st1 hlt ?_
      have : j = xs.length := by omega
      subst this
      exact end_ok rfl (.inl (by simpa using hI))
theorem ct_slices_Values_uint8 {xs : List AV} {s : AState} : Gives prog F_slices_Values_uint8 [.sl xs .no] s (.f (.func F_slices_Values_uint8_1) [] [.p s.n 0]) (s.alloc (.cells [.sl xs .no])) := by
  refine runs_e h_slices_Values_uint8 (Nat.le_of_ble_eq_true rfl) ?_
  refine st0 ?_
  exact ret_ok rfl ⟨rfl, rfl⟩
theorem it_slices_Values_uint8 (xs : List AV) (hx : Ones xs) (b : Nat) (hlen : xs.length < 9223372036854775808) : Iter prog F_slices_Values_uint8_1 [] [.p b 0] (xs.map fun e => [e]) (fun s => s.get b = .cells [.sl xs .no]) := by
  intro l s I J hp ha hj hy h0
  refine runs_e h_slices_Values_uint8_1 (Nat.le_of_ble_eq_true rfl) ?_
  refine st1 (hp 0 s h0) ?_
  refine loop_ok [0, 5, 6, 7] (fun m a s1 => ∃ j : Nat, j + m = xs.length ∧ I j s1 ∧ a = { t := den 16 [(0, .y l), (5, .sl xs .no), (6, .v (.int .i64 xs.length)), (7, .v (.int .i64 j))], d := [] }) xs.length ?_ ?_
  · exact ⟨0, by simp, h0, by simp⟩
  · rintro m a s1 ⟨j, hjm, hI, rfl⟩
    by_cases hlt : j < xs.length
    · have hw : IntKind.wrap .i64 ((j : Int) + 1) = ((j + 1 : Nat) : Int) := by rw [wrap_i64 (by omega) (by omega)]; omega
      obtain ⟨hc, ho, _⟩ := hx _ (List.getElem_mem hlt)
      refine st3 hlt hc ho ?_
      have hy' := hy j (by simpa using hlt) _ hI
      simp only [List.getElem_map] at hy'
      refine yr0 (hy') ?_
      rintro _ s2 (⟨rfl, hI2⟩ | ⟨rfl, hJ⟩)
      · refine st1 hw ?_
        exact ⟨m - 1, by omega, j + 1, by omega, hI2, by simp⟩
      · refine st0 ?_
        exact ret_ok rfl (.inr hJ)
    · refine st1 hlt ?_
      have : j = xs.length := by omega
      subst this
      exact end_ok rfl (.inl (by simpa using hI))
end Go.Proofs.YtmpoeamfcienoaaGreat
end
section
namespace Go.Ab
def spotsL (v : LogV) : List Spt := v.sp.map fun x => ⟨v.g.id, x.1, x.2.sg, x.2.at_⟩
end Go.Ab
namespace Go.Proofs.YtmpoeamfcienoaaGreat
open Go.Ab
set_option linter.unusedVariables false
set_option linter.unusedSimpArgs false
set_option maxRecDepth 100000
set_option maxHeartbeats 8000000
theorem ct_place_Log_Group {lb : Nat} {v : LogV} {F : List Nat} {s : AState} (hL : LogAt s lb v F) (hl : v.g.es.length * 32 ≤ 140737488355328) : Gives prog F_place_Log_Group [.p lb 0] s v.g.av s := by
  have hlt := hL.lt
  obtain ⟨tk, mb, A, rfl, h1, h2, h3⟩ := hL
  have hlb : lb < s.n := hlt lb (by simp)
  unfold logC at h1
  refine Runs.gives' (runs_e h_place_Log_Group (Nat.le_of_ble_eq_true rfl) ?_) (Grp.row _).flat
  refine st1 h1 ?_
  refine gv (ct_slices_Clone_Entry (es := v.g.es) hl) ?_
  refine st0 ?_
  exact ret_ok (by simp; rfl) ⟨((Grows.refl _).alloc _).alloc _, (AV.le_strip _).trans (by simp [Grp.av, Grp.cells, retVal]; exact .refl _)⟩
theorem ct_place_Log_Spots {lb : Nat} {v : LogV} {F : List Nat} {s : AState} (hL : LogAt s lb v F) (hk : ∀ x ∈ v.sp, -9223372036854775808 ≤ x.1 ∧ x.1 < 9223372036854775808) (hlen : v.sp.length * 32 ≤ 140737488355328) :
    Gives prog F_place_Log_Spots [.p lb 0] s (.sl ((spotsL v).map Spt.av) .no) s := by
  have hlt := hL.lt
  obtain ⟨tk, mb, A, rfl, h1, h2, h3⟩ := hL
  have hlb : lb < s.n := hlt lb (by simp)
  have hmb : mb < s.n := hlt mb (by simp)
  unfold logC at h1
  refine Runs.gives' (runs_e h_place_Log_Spots (Nat.le_of_ble_eq_true rfl) ?_) (flat_sl Spt.row _)
  refine st1 h1 ?_
  refine gv (ct_maps_Keys_Place) ?_
  refine st0 ?_
  refine giv (ct_sorted_Place (cb := s.n + 1 + 1) (b := mb) (enc := Plc.av) (A := A) (B := v.sp) (dz0) (dz1 h2) h3 hk (by omega)) (by simp) ?_
  refine st0 ?_
  refine gv (ct_slices_Values_int (xs := (v.sp.map (·.1)).map fun n => .v (.int .i64 n))) ?_
  refine st0 ?_
  have hit := it_slices_Values_int ((v.sp.map (·.1)).map fun n => .v (.int .i64 n)) (.ints _) (s.n + 1 + 1 + 1) (by simp; omega)
  refine w_rangeG (α := Tok) (β := Unit) (m := v.sp.length) (by simp) hit (by intro x hx; obtain ⟨p, _, rfl⟩ := List.mem_map.1 hx; rfl) (by simp) (fun k tk => (((s.alloc (.cells [.p lb 0])).alloc (.cells [.sl (((spotsL v).map Spt.av).take k) tk])).alloc (.cells [.m mb])).alloc (.cells [.sl ((v.sp.map (·.1)).map fun n => .v (.int .i64 n)) .no]))
    (fun k tk s' => May (s.n + 6) s' (((spotsL v).map Spt.av).take k) tk) (fun _ _ => s) (fun _ _ _ => False) .zero (by simp) (fun s' h => trivial) ?_ (fun k a s' o h => h.alloc o) (fun _ _ _ _ h => h) ?_ ?_ (fun _ _ _ _ _ h => h.elim)
  · intro k a s' _ h1 hg
    refine (hg.get (by simp)).trans ?_
    exact get_alloc_eq (by simp)
  · rintro LR LB LJ _ k hkk tk1 g' h1' hm
    have hk' : k < v.sp.length := by simpa using hkk
    have hTk : ((spotsL v).map Spt.av).take (k + 1) = ((spotsL v).map Spt.av).take k ++ [Spt.av ⟨v.g.id, v.sp[k].1, v.sp[k].2.sg, v.sp[k].2.at_⟩] := by
      have hk2 : k < (spotsL v).length := by simpa [spotsL] using hk'
      rw [take_snoc hk2]; simp [spotsL]
    refine st1 h1 ?_
    refine m_look (κ := Int) (A := A) (k := v.sp[k].1) (b := mb) (enc := Plc.av) (by simp) (dz1 h2) (by simp; rfl) ?_
    have hlk : lk A v.sp[k].1 = some v.sp[k].2 := by rw [h3.lk]; exact h3.srt.lk_mem (List.getElem_mem hk')
    have hlv : lkV Plc.av A v.sp[k].1 (.agg [.v (.int .i64 0), .v (.int .i64 0)]) false = v.sp[k].2.av := by unfold lkV; rw [hlk]; rfl
    rw [hlv]
    have hlS : (spotsL v).length = v.sp.length := by simp [spotsL]
    repeat (first | simp -dsimp -implicitDefEqProofs (disch := first | omega | (simp <;> omega) | fail) [Plc.cells] | ((with_reducible first | apply m_1 | apply m_0); (focus ((conv => lhs; simp -dsimp -implicitDefEqProofs (disch := first | omega | (simp <;> omega) | fail) [Plc.cells]); done))) | ((with_reducible first | apply i_T | apply g_T); (focus (simp -dsimp -implicitDefEqProofs (disch := first | omega | (simp <;> omega) | fail) [Plc.cells]; done))) | ((with_reducible first | apply i_F | apply g_F); (focus (simp -dsimp -implicitDefEqProofs (disch := first | omega | (simp <;> omega) | fail) [Plc.cells]; done))))
    refine m_app (xs := ((spotsL v).map Spt.av).take k) (tk := tk1) (ys := [Spt.av ⟨v.g.id, v.sp[k].1, v.sp[k].2.sg, v.sp[k].2.at_⟩]) (t2 := .zero) (B := _) (N := s.n + 6)
      (by simp) (by simp; rfl) ⟨g', rfl⟩ (by simp) (by simp) (hm.swap (by simp) (by simp)) (by rw [← List.map_take]; exact head_map Spt.row _) (by simp) (by simp; omega) (by simp; omega) ?_
    rintro s' tk2 hg2 hm2 _ _
    obtain ⟨g2, rfl⟩ := hg2
    refine st0 ?_
    refine ⟨tk2, by simp, ?_, ?_⟩
    · rw [hTk]; simp; exact ⟨_, rfl⟩
    · rw [hTk]; exact (by simpa using hm2 : May _ _ _ _).swap (by simp) (by simp)
  · rintro LR tk1 g2 h1' hm
    rw [List.take_of_length_le (by simp [spotsL])] at *
    refine st0 ?_
    refine ret_okD (by simp) (by simp) (by simp; rfl) ⟨?_, by simp [retVal]; exact AV.le_no _ _⟩
    simp only [killAll, List.foldl]
    simp
    exact (((((Grows.refl s).alloc _).alloc _).alloc _).alloc _).alloc _ |>.alloc _ |>.allocs _
end Go.Proofs.YtmpoeamfcienoaaGreat
end
section
namespace Go.Proofs.YtmpoeamfcienoaaGreat
open Go.Ab
set_option linter.unusedVariables false
set_option linter.unusedSimpArgs false
set_option maxRecDepth 100000
set_option maxHeartbeats 8000000
theorem rn_ledger_New {s : AState} : Runs (compCode prog) prog F_ledger_New [] s (fun x s' => ∃ b F, x = .p b 0 ∧ LedAt s' b [] F ∧ Grows s s' ∧ ∀ x ∈ F, s.n ≤ x) := by
  refine runs_e h_ledger_New (Nat.le_of_ble_eq_true rfl) ?_
  refine st0 ?_
  refine ret_ok rfl ⟨s.n + 1, [s.n + 1, s.n], rfl, ⟨s.n, [], [], [], rfl, by simp, ?_, .nil, rfl, by simp⟩, ((Grows.refl s).alloc _).alloc _, by simp⟩
  simp (disch := first | omega | (simp <;> omega) | fail)
theorem ct_ledger_Ledger_logs {b : Nat} {s : AState} : Gives prog F_ledger_Ledger_logs [.p b 0] s (.f (.func F_ledger_Ledger_logs_1) [] [.p s.n 0]) (s.alloc (.cells [.p b 0])) := by
  refine runs_e h_ledger_Ledger_logs (Nat.le_of_ble_eq_true rfl) ?_
  refine st0 ?_
  exact ret_ok rfl ⟨rfl, rfl⟩
def pairA (B : List (Int × Nat)) : List (List AV) := B.map fun x => [.v (.int .i64 x.1), .p x.2 0]
def LogsPre (cb b mb : Nat) (A : List (Int × Nat)) (s : AState) : Prop := s.get cb = .cells [.p b 0] ∧ s.get b = .cells [.m mb] ∧ s.get mb = .map (encM ptr A)
theorem it_ledger_Ledger_logs {cb b mb : Nat} {A B : List (Int × Nat)} (hAB : Rep A B) (hw : ∀ x ∈ B, -9223372036854775808 ≤ x.1 ∧ x.1 < 9223372036854775808) (hlen : B.length * 8 ≤ 140737488355328) :
    Iter prog F_ledger_Ledger_logs_1 [] [.p cb 0] (pairA B) (LogsPre cb b mb A) := by
  intro l s I J hp ha hj hy h0
  refine runs_e h_ledger_Ledger_logs_1 (Nat.le_of_ble_eq_true rfl) ?_
  obtain ⟨p1, p2, p3⟩ := hp 0 s h0
  have l1 := AState.lt_of_get p1 (by simp)
  have l2 := AState.lt_of_get p2 (by simp)
  have l3 := AState.lt_of_get p3 (by simp)
  refine st2 p1 p2 ?_
  refine gv (ct_maps_Keys_Log) ?_
  refine st0 ?_
  refine giv (ct_sorted_Log (cb := s.n) (b := mb) (enc := ptr) (A := A) (B := B) (by simp) (dz1 p3) hAB hw hlen) (by simp) ?_
  have h1 := ha _ _ (.cells [.m mb]) h0
  generalize s.alloc (.cells [.m mb]) = s at h1 ⊢
  refine st0 ?_
  refine loop_ok [0, 1, 10, 11, 12] (fun m a s1 => ∃ j : Nat, j + m = B.length ∧ I j s1 ∧ a = { t := den 27 [(0, .y l), (1, .p cb 0), (10, .sl ((B.map (·.1)).map fun n => .v (.int .i64 n)) .no), (11, .v (.int .i64 B.length)), (12, .v (.int .i64 j))], d := [] }) B.length ?_ ?_
  · exact ⟨0, by simp, h1, by simp⟩
  · rintro m a s1 ⟨j, hjm, hI, rfl⟩
    obtain ⟨p1, p2, p3⟩ := hp j s1 hI
    by_cases hlt : j < B.length
    · have hw : IntKind.wrap .i64 ((j : Int) + 1) = ((j + 1 : Nat) : Int) := by rw [wrap_i64 (by omega) (by omega)]; omega
      repeat (first | simp -dsimp -implicitDefEqProofs (disch := first | omega | (simp <;> omega) | fail) [hlt, p1, p2] | ((with_reducible first | apply m_1 | apply m_0); (focus ((conv => lhs; simp -dsimp -implicitDefEqProofs (disch := first | omega | (simp <;> omega) | fail) [hlt, p1, p2]); done))) | ((with_reducible first | apply i_T | apply g_T); (focus (simp -dsimp -implicitDefEqProofs (disch := first | omega | (simp <;> omega) | fail) [hlt, p1, p2]; done))) | ((with_reducible first | apply i_F | apply g_F); (focus (simp -dsimp -implicitDefEqProofs (disch := first | omega | (simp <;> omega) | fail) [hlt, p1, p2]; done))))
      refine m_look (κ := Int) (A := A) (k := B[j].1) (b := mb) (enc := ptr) (by simp) p3 (by simp; rfl) ?_
      have hlk : lk A B[j].1 = some B[j].2 := by rw [hAB.lk]; exact hAB.srt.lk_mem (List.getElem_mem hlt)
      have hlv : lkV ptr A B[j].1 (.v (.pointer none)) false = .p B[j].2 0 := by unfold lkV; rw [hlk]; rfl
      rw [hlv]
      refine st0 ?_
      have hy' := hy j (by simpa [pairA] using hlt) _ hI
      simp only [pairA, List.getElem_map] at hy'
      refine yr0 (hy') ?_
      rintro _ s2 (⟨rfl, hI2⟩ | ⟨rfl, hJ⟩)
      · refine st1 hw ?_
        exact ⟨m - 1, by omega, j + 1, by omega, hI2, by simp⟩
      · refine st0 ?_
        exact ret_ok rfl (.inr hJ)
    · refine st1 hlt ?_
      have : j = B.length := by omega
      subst this
      exact end_ok rfl (.inl (by simpa [pairA] using hI))
end Go.Proofs.YtmpoeamfcienoaaGreat
end
section
namespace Go.Ab
def GOk (M : List (Int × LogV)) : Prop := ∀ x ∈ M, Spar x.2.g
theorem GOk.doP {M : List (Int × LogV)} (h : GOk M) (at_ : Plc) (p : Prt) : GOk (doP at_ M p) := by
  unfold Ab.doP
  split
  · next hp =>
    split
    · intro x hx; exact h x (List.mem_filter.1 hx).1
    · intro x hx
      rcases put_mem hx with rfl | hx
      · refine logDo_spar ?_ p at_
        cases hl : lk M p.gr with
        | none =>
          refine newG_spar ?_
          simp only [isPart, Bool.and_eq_true] at hp
          have := hp.1.1
          simpa [btw] using this
        | some v => exact h _ (lk_mem hl)
      · exact h x hx
  · exact h
theorem GOk.doL {M : List (Int × LogV)} (h : GOk M) (l : List Prt) (at_ : Plc) : GOk (doL M l at_) := by
  unfold Ab.doL
  induction l generalizing M with
  | nil => exact h
  | cons p l ih => exact ih (h.doP at_ p)
theorem doL_snoc {M : List (Int × LogV)} {l : List Prt} {at_ : Plc} {k : Nat} (h : k < l.length) : doL M (l.take (k + 1)) at_ = doP at_ (doL M (l.take k) at_) l[k] := by
  unfold doL; rw [List.take_succ_eq_append_getElem h, List.foldl_append]; rfl
structure DoI (s : AState) (b : Nat) (M : List (Int × LogV)) (F : List Nat) (l : List Prt) (at_ : Plc) (s' : AState) : Prop where
  b1 : s'.get s.n = .cells [.p b 0]
  b2 : s'.get (s.n + 1) = .cells at_.cells
  b3 : s'.get (s.n + 2) = .cells [.sl (l.map Prt.av) .no]
  n : s.n + 5 ≤ s'.n
  led : ∃ F', LedAt s' b M F' ∧ Mut F F' s s' ∧ ∀ x ∈ F', x < s.n ∨ s.n + 5 ≤ x
theorem DoI.keep {s : AState} {b : Nat} {M : List (Int × LogV)} {F : List Nat} {l : List Prt} {at_ : Plc} {s' s2 : AState} (h : DoI s b M F l at_ s') (hn : s'.n ≤ s2.n) (hk : ∀ x, x < s'.n → x ≠ s.n + 4 → s2.get x = s'.get x) : DoI s b M F l at_ s2 := by
  obtain ⟨h1, h2, h3, h4, F', h5, h6, h7⟩ := h
  have hF := h5.lt
  refine ⟨by rw [hk _ (by omega) (by omega)]; exact h1, by rw [hk _ (by omega) (by omega)]; exact h2, by rw [hk _ (by omega) (by omega)]; exact h3, by omega, F', h5.keep fun x hx => hk x (hF x hx) (by have := h7 x hx; omega), ⟨by have := h6.n; omega, fun x hx hn => (hk x (by have := h6.n; omega) (by omega)).trans (h6.keep x hx hn), h6.own⟩, h7⟩
end Go.Ab
namespace Go.Proofs.YtmpoeamfcienoaaGreat
open Go.Ab
set_option linter.unusedVariables false
set_option linter.unusedSimpArgs false
set_option maxRecDepth 100000
set_option maxHeartbeats 8000000
theorem rn_ledger_Ledger_Do {b : Nat} {M : List (Int × LogV)} {F : List Nat} {l : List Prt} {at_ : Plc} {s : AState} (hL : LedAt s b M F) (hM : GOk M) (hl : (l.length : Int) < 9223372036854775808) (he : ∀ p ∈ l, (p.es.length : Int) < 9223372036854775808) :
    Runs (compCode prog) prog F_ledger_Ledger_Do [.p b 0, .sl (l.map Prt.av) .no, at_.av] s (fun _ s' => ∃ F', LedAt s' b (doL M l at_) F' ∧ Mut F F' s s') := by
  have hlt := hL.lt
  have hb : b < s.n := hlt b hL.mem
  refine runs_e h_ledger_Ledger_Do (Nat.le_of_ble_eq_true rfl) ?_
  refine st0 ?_
  refine gv (ct_slices_Values_Part (xs := l.map Prt.av)) ?_
  refine st0 ?_
  have hit := it_slices_Values_Part l (s.n + 1 + 1) (by omega)
  refine w_rangeS (m := l.length) (by simp) hit (by intro x hx; obtain ⟨p, _, rfl⟩ := List.mem_map.1 hx; rfl) (by simp) (fun k s' => DoI s b (doL M (l.take k) at_) F l at_ s') (fun _ _ => False) ?_ ?_ ?_ ?_ ?_ ?_ ?_
  · intro LR
    refine ⟨dz0, dz0, dz0, by simp, F, hL.keep fun x hx => by have := hlt x hx; simp (disch := first | omega | (simp <;> omega) | fail), .grows ?_, fun x hx => .inl (hlt x hx)⟩
    exact (((((Grows.refl s).alloc _).alloc _).alloc _).alloc _).alloc _
  · intro k s' h; exact h.b3
  · intro k s' o hn h
    exact h.keep (by simp) fun x hx _ => get_alloc_ne (by omega)
  · intro j s' o hn h; exact h
  · intro LR LB LJ hLB hLR k hk s' hd hLL hln hI
    have hk' : k < l.length := by simpa using hk
    have hsn : (((s.alloc (.cells [.p b 0])).alloc (.cells at_.cells)).alloc (.cells [.sl (l.map Prt.av) .no])).n = s.n + 3 := by simp
    have hGk := hM.doL (l.take k) at_
    rw [doL_snoc hk']
    generalize doL M (l.take k) at_ = M1 at hI hGk ⊢
    have hpe := he _ (List.getElem_mem hk')
    simp only [List.getElem_map] at *
    generalize l[k] = p at hpe ⊢
    have hI2 := hI
    obtain ⟨h1, h2, h3, h4, F', h5, h6, h7⟩ := hI
    simp only [hsn] at *
    refine st3 h1 h2 hLL ?_
    have k1 : DoI s b M1 F l at_ ((s'.set (s.n + 4) LB).alloc (.cells p.cells)) := hI2.keep (by simp) fun x hx hn => dz1 hn
    have k2 : ((s'.set (s.n + 4) LB).alloc (.cells p.cells)).get (s.n + 4) = LB := dz0
    have k3 : ((s'.set (s.n + 4) LB).alloc (.cells p.cells)).get s'.n = .cells p.cells := by simp
    have k4 : ((s'.set (s.n + 4) LB).alloc (.cells p.cells)).get (s.n + 3) = .defd := by simp (disch := first | omega | (simp <;> omega) | fail) [hd]
    have k5 : ((s'.set (s.n + 4) LB).alloc (.cells p.cells)).n = s'.n + 1 := by simp
    have hsl : s.n + 5 ≤ s'.n := h4
    generalize s'.n = n6 at k3 k5 hsl ⊢
    generalize (s'.set (s.n + 4) LB).alloc (.cells p.cells) = s1 at k1 k2 k3 k4 k5 ⊢
    clear hI2 h1 h2 h3 h4 h5 h6 h7 hd hLL hln
    have close : ∀ s2, s2.get (s.n + 3) = .defd → DoI s b (doP at_ M1 p) F l at_ s2 → Lfi (FinS (some (s.n + 3)) (s.n + 3 + 1) LR LJ (DoI s b (doP at_ M1 p) F l at_) fun _ _ => False) none (s2.set (s.n + 3 + 1) LR) .a := fun s2 g1 g2 => by
      have := g2.n
      exact fins_n (fun d hd => by cases hd; simp (disch := first | omega | (simp <;> omega) | fail) [g1]) (dz0) (g2.keep (by simp) fun x hx hn => dz1 hn)
    obtain ⟨h1, h2, h3, h4, F1, h5, h6, h7⟩ := k1
    have hF1 := h5.lt
    refine gv (ct_part_Is (p := p) hpe) ?_
    cases hp : isPart p with
    | false =>
      refine st2 hp k2 ?_
      refine close s1 k4 ?_
      have : doP at_ M1 p = M1 := by unfold doP; rw [hp]; rfl
      rw [this]
      exact ⟨h1, h2, h3, h4, F1, h5, h6, h7⟩
    | true =>
      have h5' := h5
      obtain ⟨mb, A, B, G, rfl, e1, e2, e3, e4, e5⟩ := h5
      have hb1 : b < s1.n := hF1 b (by simp)
      have hmb1 : mb < s1.n := hF1 mb (by simp)
      have hmb2 : mb < s.n ∨ s.n + 5 ≤ mb := h7 mb (by simp)
      by_cases hk5 : p.kd = 5
      · have hdo : doP at_ M1 p = delL M1 p.gr := by unfold doP; rw [hp, if_pos hk5]; rfl
        refine st5 hp k3 hk5 h1 e1 ?_
        refine m_mdel0 (κ := Int) (A := A) (k := p.gr) (b := mb) (enc := ptr) (by simp) e2 (by simp; rfl) ?_
        have hne : mb ≠ s.n + 4 := by omega
        refine st2 k2 hne ?_
        obtain ⟨G', q1, q2⟩ := e4.drop p.gr (List.nodup_cons.1 (List.nodup_cons.1 e5).2).2
        refine close _ (dz1 k4) ?_
        rw [hdo]
        have hmbG : mb ∉ G := (List.nodup_cons.1 (List.nodup_cons.1 e5).2).1
        have hbmb : b ≠ mb := fun e => (List.nodup_cons.1 e5).1 (by simp [e])
        have hin : ∀ x ∈ b :: mb :: G', x ∈ b :: mb :: G := fun x hx => by
          rcases List.mem_cons.1 hx with rfl | hx
          · simp
          rcases List.mem_cons.1 hx with rfl | hx
          · simp
          · simp [q2.subset hx]
        refine ⟨dz1 h1, dz1 h2, dz1 h3, by simpa using h4, b :: mb :: G', ⟨mb, _, _, G', rfl, dz2 e1 hbmb, dz0, e3.del p.gr, q1.keep fun x hx => ?_, ?_⟩, ⟨by simpa using h6.n, fun x hx hn => ?_, fun x hx => h6.own x (hin x hx)⟩, fun x hx => h7 x (hin x hx)⟩
        · exact AState.get_set_ne _ _ (fun e => hmbG (by rw [← e]; exact q2.subset hx))
        · exact List.Nodup.sublist ((q2.cons_cons mb).cons_cons b) e5
        · rw [AState.get_set_ne _ _ (fun e => ?_)]
          · exact h6.keep x hx hn
          · subst e
            rcases h6.own x (by simp) with h | h
            · exact hn h
            · omega
      · have hdo : doP at_ M1 p = putL M1 p.gr (logDo ((lk M1 p.gr).getD ⟨newG p.gr, []⟩) p at_) := by unfold doP; rw [hp, if_neg hk5]; rfl
        have hmbG : mb ∉ G := (List.nodup_cons.1 (List.nodup_cons.1 e5).2).1
        have hbG : b ∉ G := fun h => (List.nodup_cons.1 e5).1 (by simp [h])
        have hbmb : b ≠ mb := fun e => (List.nodup_cons.1 e5).1 (by simp [e])
        have hGn : G.Nodup := (List.nodup_cons.1 (List.nodup_cons.1 e5).2).2
        have hSM : Srt M1 := h5'.srt
        refine st5 hp k3 hk5 h1 e1 ?_
        refine m_look (κ := Int) (A := A) (k := p.gr) (b := mb) (enc := ptr) (by simp) e2 (by simp; rfl) ?_
        cases hl : lk A p.gr with
        | some lb =>
          have hlv : lkV ptr A p.gr (.v (.pointer none)) false = .p lb 0 := by unfold lkV; rw [hl]; rfl
          rw [hlv]
          refine st3 k3 h1 e1 ?_
          refine m_look (κ := Int) (A := A) (k := p.gr) (b := mb) (enc := ptr) (by simp) e2 (by simp; rfl) ?_
          rw [hlv]
          refine st2 k3 h2 ?_
          obtain ⟨v, Fi, f1, f2, f3, f4⟩ := e4.focus hSM hGn (by rw [← e3.lk]; exact hl)
          refine run (rn_place_Log_Do (p := p) (at_ := at_) f2 (hGk _ (lk_mem f1)) hpe) (by simp) ?_
          rintro _ s2 ⟨Fi', g1, g2⟩
          obtain ⟨G', q1, q2, q3⟩ := f4 s2 _ _ g1 g2
          have hno : ∀ x, x < s1.n → s.n ≤ x → x < s.n + 5 → x ∉ Fi := fun x _ h8 h9 hx => by have := h7 x (by simp [f3 x hx]); omega
          have j2 : s2.get (s.n + 3 + 1) = LB := (g2.keep _ (by omega) (hno _ (by omega) (by omega) (by omega))).trans k2
          refine st1 j2 ?_
          refine close s2 ((g2.keep _ (by omega) (hno _ (by omega) (by omega) (by omega))).trans k4) ?_
          rw [hdo, f1]
          have q2' := q2.moreL [b, mb]
          have hb2 : s2.get b = s1.get b := q2.keep b hb1 hbG
          have hmb3 : s2.get mb = s1.get mb := q2.keep mb hmb1 hmbG
          have hG' := q2.apart (G := [b, mb]) (by simp [hbG, hmbG]) (by simp [hb1, hmb1])
          have kk : ∀ x, s.n ≤ x → x < s.n + 3 → s2.get x = s1.get x := fun x h8 h9 => g2.keep x (by omega) (hno x (by omega) (by omega) (by omega))
          refine ⟨(kk _ (by omega) (by omega)).trans h1, (kk _ (by omega) (by omega)).trans h2, (kk _ (by omega) (by omega)).trans h3, by have := g2.n; omega, b :: mb :: G', ⟨mb, A, B, G', rfl, hb2.trans e1, hmb3.trans e2, e3, q1, ?_⟩, h6.trans q2', fun x hx => ?_⟩
          · rw [List.nodup_cons, List.nodup_cons]
            exact ⟨by simp [hbmb, hG' b (by simp)], hG' mb (by simp), q3⟩
          · rcases q2'.own x hx with h8 | h8
            · exact h7 x h8
            · exact .inr (by omega)
        | none =>
          have hlv : lkV ptr A p.gr (.v (.pointer none)) false = .v (.pointer none) := by unfold lkV; rw [hl]; rfl
          rw [hlv]
          refine sd3 k3 h1 e1 ?_
          refine run (rn_place_New (id := p.gr)) (by simp) ?_
          rintro _ s2 ⟨lb, rfl, g1, g2, g3⟩
          refine ⟨m_ext g3.ext, ?_⟩
          refine sd0 ?_
          have gn := g3.n
          have gk := fun x (h : x < s1.n) => g3.get h
          refine q_mset (κ := Int) (A := A) (k := p.gr) (v := lb) (b := mb) (enc := ptr) (by simp) ((gk mb hmb1).trans e2) (by simp; rfl) (by simp [ptr]) ?_
          have hlb : lb < s2.n := g1.lt lb (by simp)
          obtain ⟨G2, r1, r2, r3⟩ := e4.add (i := p.gr) g1 (.new g3 (by simp; omega)) hGn (by rw [← e3.lk]; exact hl)
          have hg2 : ∀ x ∈ G2, x ∉ [b, mb] := fun x hx hm => r2.apart (G := [b, mb]) (by simp [hbG, hmbG]) (by simp [hb1, hmb1]) x hm hx
          have hmn6 : mb ≠ n6 := by rintro rfl; rw [k3] at e2; cases e2
          have m1 : (s2.set mb (.map (encM ptr (setM A p.gr lb)))).get (s.n + 3 + 1) = LB := dz2 gk k2
          have m2 : (s2.set mb (.map (encM ptr (setM A p.gr lb)))).get n6 = .cells p.cells := dz2 gk k3
          have m3 : (s2.set mb (.map (encM ptr (setM A p.gr lb)))).get s.n = .cells [.p b 0] := dz2 gk h1
          have m4 : (s2.set mb (.map (encM ptr (setM A p.gr lb)))).get (s.n + 1) = .cells at_.cells := dz2 gk h2
          have m5 : (s2.set mb (.map (encM ptr (setM A p.gr lb)))).get b = .cells [.m mb] := dz3 gk e1 hbmb
          have m6 : (s2.set mb (.map (encM ptr (setM A p.gr lb)))).get mb = .map (encM ptr (setM A p.gr lb)) := dz0
          have m7 : (s2.set mb (.map (encM ptr (setM A p.gr lb)))).get (s.n + 2) = .cells [.sl (l.map Prt.av) .no] := dz2 gk h3
          have m8 : (s2.set mb (.map (encM ptr (setM A p.gr lb)))).get (s.n + 3) = .defd := dz2 gk k4
          have m9 : ∀ x, x < s1.n → x ≠ mb → (s2.set mb (.map (encM ptr (setM A p.gr lb)))).get x = s1.get x := fun x hx hn => by rw [AState.get_set_ne _ _ hn]; exact gk x hx
          have m10 : (s2.set mb (.map (encM ptr (setM A p.gr lb)))).n = s2.n := rfl
          have r4 : LogsAt (s2.set mb (.map (encM ptr (setM A p.gr lb)))) (putL B p.gr lb) (putL M1 p.gr ⟨newG p.gr, []⟩) G2 := r1.keep fun x hx => AState.get_set_ne _ _ (fun e => hg2 x hx (by simp [e]))
          generalize s2.set mb (.map (encM ptr (setM A p.gr lb))) = s3 at m1 m2 m3 m4 m5 m6 m7 m8 m9 m10 r4 ⊢
          refine sd0 ?_
          refine st3 m3 m5 m2 ?_
          refine m_look (κ := Int) (A := setM A p.gr lb) (k := p.gr) (b := mb) (enc := ptr) (by simp) m6 (by simp; rfl) ?_
          have hlv : lkV ptr (setM A p.gr lb) p.gr (.v (.pointer none)) false = .p lb 0 := by unfold lkV; rw [lk_setM, if_pos rfl]; rfl
          rw [hlv]
          refine st2 m2 m4 ?_
          have e3' := e3.set p.gr lb
          have hlb2 : lk (putL B p.gr lb) p.gr = some lb := by rw [lk_put, if_pos rfl]
          obtain ⟨v, Fi, f1, f2, f3, f4⟩ := r4.focus (hSM.put _ _) r3 hlb2
          rw [lk_put, if_pos rfl] at f1
          obtain rfl : (⟨newG p.gr, []⟩ : LogV) = v := by simpa using f1
          have hsp : Spar (newG p.gr) := newG_spar (by simp only [isPart, Bool.and_eq_true] at hp; simpa [btw] using hp.1.1)
          refine run (rn_place_Log_Do (p := p) (at_ := at_) f2 hsp hpe) (by simp) ?_
          rintro _ s4 ⟨Fi', t1, t2⟩
          obtain ⟨G', q1, q2, q3⟩ := f4 s4 _ _ t1 t2
          have hFo : ∀ x ∈ G2, x < s.n ∨ s.n + 5 ≤ x := fun x hx => by
            rcases r2.own x hx with h8 | h8
            · exact h7 x (by simp [h8])
            · exact .inr (by omega)
          have hno : ∀ x, x < s3.n → s.n ≤ x → x < s.n + 5 → x ∉ Fi := fun x _ h8 h9 hx => by have := hFo x (f3 x hx); omega
          have j2 : s4.get (s.n + 3 + 1) = LB := (t2.keep _ (by omega) (hno _ (by omega) (by omega) (by omega))).trans m1
          refine st1 j2 ?_
          refine close s4 ((t2.keep _ (by omega) (hno _ (by omega) (by omega) (by omega))).trans m8) ?_
          have hdo2 : doP at_ M1 p = putL (putL M1 p.gr ⟨newG p.gr, []⟩) p.gr (logDo ⟨newG p.gr, []⟩ p at_) := by
            have hlM : lk M1 p.gr = none := (e4.no p.gr).1 (by rw [← e3.lk]; exact hl)
            rw [hdo, hlM]
            refine Srt.ext (hSM.put _ _) ((hSM.put _ _).put _ _) fun k => ?_
            rw [lk_put, lk_put, lk_put]
            split <;> rfl
          rw [hdo2]
          have hbG2 : b ∉ G2 := fun h => hg2 b h (by simp)
          have hmbG2 : mb ∉ G2 := fun h => hg2 mb h (by simp)
          have hb2 : s4.get b = s3.get b := q2.keep b (by omega) hbG2
          have hmb3 : s4.get mb = s3.get mb := q2.keep mb (by omega) hmbG2
          have hG' := q2.apart (G := [b, mb]) (by simp [hbG2, hmbG2]) (by simp; omega)
          have kk : ∀ x, s.n ≤ x → x < s.n + 3 → s4.get x = s3.get x := fun x h8 h9 => t2.keep x (by omega) (hno x (by omega) (by omega) (by omega))
          have q5 : Mut (b :: mb :: G) (b :: mb :: G') s1 s4 := by
            refine ⟨by have := t2.n; omega, fun x hx hn => ?_, fun x hx => ?_⟩
            · have hn' : x ≠ b ∧ x ≠ mb ∧ x ∉ G := by simpa using hn
              refine (q2.keep x (by omega) (fun hm => ?_)).trans (m9 x hx hn'.2.1)
              rcases r2.own x hm with h8 | h8
              · exact hn'.2.2 h8
              · omega
            · rcases List.mem_cons.1 hx with rfl | hx
              · exact .inl (by simp)
              rcases List.mem_cons.1 hx with rfl | hx
              · exact .inl (by simp)
              rcases q2.own x hx with h8 | h8
              · rcases r2.own x h8 with h9 | h9
                · exact .inl (by simp [h9])
                · exact .inr h9
              · exact .inr (by omega)
          refine ⟨(kk _ (by omega) (by omega)).trans m3, (kk _ (by omega) (by omega)).trans m4, (kk _ (by omega) (by omega)).trans m7, by have := t2.n; omega, b :: mb :: G', ⟨mb, _, _, G', rfl, hb2.trans m5, hmb3.trans m6, e3', q1, ?_⟩, h6.trans q5, fun x hx => ?_⟩
          · rw [List.nodup_cons, List.nodup_cons]
            exact ⟨by simp [hbmb, hG' b (by simp)], hG' mb (by simp), q3⟩
          · rcases q5.own x hx with h8 | h8
            · exact h7 x h8
            · exact .inr (by omega)
  · intro s' hd hln hI
    rw [List.take_length] at hI
    have hsn : (((s.alloc (.cells [.p b 0])).alloc (.cells at_.cells)).alloc (.cells [.sl (l.map Prt.av) .no])).n = s.n + 3 := by simp
    simp only [hsn] at *
    refine st0 ?_
    refine end_okD ?_ ?_ rfl ?_
    · simp (disch := first | omega | (simp <;> omega) | fail) [hd]
    · simp
    obtain ⟨h1, h2, h3, h4, F', h5, h6, h7⟩ := hI
    have hF := h5.lt
    have hk : ∀ x, x < s'.n → (x < s.n ∨ s.n + 5 ≤ x) → (killAll [s.n + 3] (s'.set (s.n + 3 + 1) .dead)).get x = s'.get x := fun x hx h8 => by
      simp only [killAll, List.foldl]
      rw [AState.get_set_ne _ _ (by omega), AState.get_set_ne _ _ (by omega)]
    exact ⟨F', h5.keep fun x hx => hk x (hF x hx) (h7 x hx), ⟨by simpa [killAll] using h6.n, fun x hx hn => (hk x (by have := h6.n; omega) (.inl hx)).trans (h6.keep x hx hn), h6.own⟩⟩
  · intro j s' _ _ h; exact h.elim
end Go.Proofs.YtmpoeamfcienoaaGreat
end
section
namespace Go.Ab
set_option linter.unusedVariables false
structure TellI (s : AState) (b : Nat) (l : List AV) (s' : AState) : Prop where
  b0 : ∃ tk, s'.get s.n = .cells [.sl l tk] ∧ May (s.n + 4) s' l tk
  b1 : s'.get (s.n + 1) = .cells [.p b 0]
  n : s.n + 4 ≤ s'.n
  old : ∀ x, x < s.n → s'.get x = s.get x
theorem TellI.alloc {s : AState} {b : Nat} {l : List AV} {s' : AState} (h : TellI s b l s') (o : AObj) : TellI s b l (s'.alloc o) := by
  obtain ⟨⟨tk, g1, g2⟩, b1, n, old⟩ := h
  exact ⟨⟨tk, dz1 g1, g2.alloc o⟩, dz1 b1, by simp; omega, fun x hx => dz1 (old x hx)⟩
structure Small (M : List (Int × LogV)) : Prop where
  len : M.length ≤ 1000000
  es : ∀ x ∈ M, x.2.g.es.length * 32 ≤ 140737488355328
  sp : (spotsM M).length * 32 ≤ 140737488355328
theorem LogsAt.pre {s : AState} {B : List (Int × Nat)} {M : List (Int × LogV)} {F : List Nat} (h : LogsAt s B M F) (hM : MOk M) : ∀ x ∈ B, -9223372036854775808 ≤ x.1 ∧ x.1 < 9223372036854775808 := fun x hx => by
  have : x.1 ∈ M.map (·.1) := by rw [← h.keys]; exact List.mem_map_of_mem hx
  obtain ⟨y, hy, e⟩ := List.mem_map.1 this
  have := (hM.2 y hy).rng
  omega
theorem MOk.gok {M : List (Int × LogV)} (hM : MOk M) : GOk M := fun x hx => (hM.2 x hx).g
theorem spots_le {M : List (Int × LogV)} {x : Int × LogV} (hx : x ∈ M) : x.2.sp.length ≤ (spotsM M).length := by
  induction M with
  | nil => cases hx
  | cons y M ih =>
    simp only [spotsM, List.flatMap_cons, List.length_append, List.length_map] at ih ⊢
    rcases List.mem_cons.1 hx with rfl | hx
    · omega
    · have := ih hx; omega
theorem VOk.keys {i : Int} {v : LogV} (h : VOk i v) : ∀ x ∈ v.sp, -1 ≤ x.1 ∧ x.1 ≤ MI := fun x hx => by
  have hMI := MI_eq
  rcases h.key x hx with h1 | h1 | ⟨e, he, h1⟩
  · omega
  · omega
  · have := (okEnt_iff.1 (h.g.ok e he)).1; omega
theorem grps_le (M : List (Int × LogV)) (k : Nat) : (grpsL (M.take k)).length ≤ (grpsL M).length := by simp [grpsL]; omega
theorem spots_take (M : List (Int × LogV)) (k : Nat) : (spotsM (M.take k)).length ≤ (spotsM M).length := by
  have h := congrArg (fun l => (spotsM l).length) (List.take_append_drop k M)
  simp only [spotsM, List.flatMap_append, List.length_append] at h ⊢
  omega
theorem grps_snoc {M : List (Int × LogV)} {k : Nat} (h : k < M.length) : grpsL (M.take (k + 1)) = grpsL (M.take k) ++ [M[k].2.g] := by
  have e : M.take (k + 1) = M.take k ++ [M[k]] := (List.take_append_getElem h).symm
  rw [e]; simp only [grpsL, List.map_append, List.map_cons, List.map_nil]
theorem spots_snoc {M : List (Int × LogV)} {k : Nat} (h : k < M.length) : spotsM (M.take (k + 1)) = spotsM (M.take k) ++ spotsL M[k].2 := by
  have e : M.take (k + 1) = M.take k ++ [M[k]] := (List.take_append_getElem h).symm
  rw [e]; simp only [spotsM, spotsL, List.flatMap_append, List.flatMap_cons, List.flatMap_nil, List.append_nil]
end Go.Ab
namespace Go.Proofs.YtmpoeamfcienoaaGreat
open Go.Ab
set_option linter.unusedVariables false
set_option linter.unusedSimpArgs false
set_option maxRecDepth 100000
set_option maxHeartbeats 8000000
theorem ct_ledger_Ledger_Groups {b : Nat} {M : List (Int × LogV)} {F : List Nat} {s : AState} (hL : LedAt s b M F) (hM : MOk M) (hS : Small M) : Gives prog F_ledger_Ledger_Groups [.p b 0] s (.sl ((grpsL M).map Grp.av) .no) s := by
  have hlt := hL.lt
  have hb : b < s.n := hlt b hL.mem
  obtain ⟨hS1, hS2, hS3⟩ := hS
  obtain ⟨mb, A, B, F', rfl, e1, e2, e3, e4, e5⟩ := hL
  have hmb : mb < s.n := hlt mb (by simp)
  have hlB := e4.len
  have hMI := MI_eq
  have hsn : ((s.alloc (.cells [.sl [] .zero])).alloc (.cells [.p b 0])).n = s.n + 2 := by simp
  refine Runs.gives (runs_e h_ledger_Ledger_Groups (Nat.le_of_ble_eq_true rfl) ?_) (flat_sl Grp.row _)
  refine st0 ?_
  refine gv (ct_ledger_Ledger_logs (b := b)) ?_
  refine st0 ?_
  have hit := it_ledger_Ledger_logs (cb := s.n + 1) (b := b) (mb := mb) e3 (e4.pre hM) (by omega)
  have hTl := grps_le M
  have hbig : (grpsL M).length * 72 ≤ 140737488355328 := by simp only [grpsL, List.length_map]; omega
  refine w_rangeS (m := M.length) (by simp) hit (by intro x hx; obtain ⟨p, _, rfl⟩ := List.mem_map.1 hx; rfl) (by simp [pairA, hlB]) (fun k s' => TellI s b ((grpsL (M.take k)).map Grp.av) s') (fun _ _ => False) ?_ ?_ ?_ ?_ ?_ ?_ ?_
  · intro LR
    exact ⟨⟨.zero, by simp (disch := first | omega | (simp <;> omega) | fail) [grpsL, spotsM], trivial⟩, dz0, by simp, fun x hx => dz0⟩
  · intro k s' h; exact ⟨h.b1, (h.old b hb).trans e1, (h.old mb hmb).trans e2⟩
  · intro k s' o hn h; exact h.alloc o
  · intro j s' o hn h; exact h
  · intro LR LB LJ hLB hLR k hk s' hd hLL hln hI
    have hkB : k < B.length := by simpa [pairA] using hk
    have hk' : k < M.length := by omega
    obtain ⟨⟨tk, g1, g2⟩, b1, n, old⟩ := hI
    obtain ⟨-, Fi, f1, f2⟩ := e4.nth hkB hk'
    have f3 : LogAt (s'.set (s.n + 2 + 1) LB) B[k].2 M[k].2 Fi := f1.keep fun x hx => by
      have := hlt x (by simp [f2 x hx])
      simp (disch := first | omega | (simp <;> omega) | fail) [old x this]
    have hok := hM.2 _ (List.getElem_mem hk')
    have hTs := hTl (k + 1)
    have hTk : grpsL (M.take (k + 1)) = grpsL (M.take k) ++ [M[k].2.g] := grps_snoc hk'
    simp only [hsn, pairA, List.getElem_map, List.zip_cons_cons, List.zip_nil_right, List.reverse_cons, List.reverse_nil, List.nil_append, List.cons_append] at hd hLL hln ⊢
    refine sd2 hLL g1 ?_
    refine gv (ct_place_Log_Group f3 (hS2 _ (List.getElem_mem hk'))) ?_
    refine sd2 hLL g1 ?_
    refine q_appS (xs := (grpsL (M.take k)).map Grp.av) (tk := tk) (ys := ([M[k].2.g]).map Grp.av) (t2 := .zero) (N := s.n + 4) (by simp) (by simp) (by simp; omega) (g2.set _ (by omega)) (head_map Grp.row _) (by simp) (by have := congrArg List.length hTk; simp only [List.length_append, List.length_map] at this ⊢; omega) (by have := congrArg List.length hTk; simp only [List.length_append, List.length_map] at this ⊢; omega) ?_
    intro s2 tk2 hm2 hlow hext
    have k0 : s2.get s.n = .cells [.sl ((grpsL (M.take k)).map Grp.av) tk] := by rw [hlow _ (by omega)]; simp (disch := first | omega | (simp <;> omega) | fail) [g1]
    have k1 : s2.get (s.n + 1) = .cells [.p b 0] := by rw [hlow _ (by omega)]; simp (disch := first | omega | (simp <;> omega) | fail) [b1]
    have k2 : s2.get (s.n + 2) = .defd := by rw [hlow _ (by omega)]; simp (disch := first | omega | (simp <;> omega) | fail) [hd]
    have k3 : s2.get (s.n + 2 + 1) = LB := by rw [hlow _ (by omega)]; simp (disch := first | omega | (simp <;> omega) | fail)
    have k4 : ∀ x, x < s.n → s2.get x = s.get x := fun x hx => by rw [hlow _ (by omega)]; simp (disch := first | omega | (simp <;> omega) | fail) [old x hx]
    have hn2 : s.n + 4 ≤ s2.n := by have := hext.1; simp at this; omega
    clear hext hlow
    refine sd1 k0 ?_
    refine st2 k0 k3 ?_
    refine fins_n (fun d hd => by cases hd; simp (disch := first | omega | (simp <;> omega) | fail) [k2]) (dz0) ⟨⟨tk2, dz1 hTk, ?_⟩, dz1 k1, by simpa using hn2, fun x hx => dz1 (k4 x hx)⟩
    rw [hTk]
    simpa using (hm2.set _ (by omega)).set _ (by omega)
  · rintro s' hd hln ⟨⟨tk, g1, g2⟩, b1, n, old⟩
    rw [List.take_length] at g1 g2
    simp only [hsn] at hd hln ⊢
    refine st1 g1 ?_
    refine ret_okD ?_ ?_ rfl ⟨⟨?_, fun x hx => .inl ?_⟩, AV.le_no _ _⟩
    · simp (disch := first | omega | (simp <;> omega) | fail) [hd]
    · simp
    · simp [killAll]; omega
    · simp (disch := first | omega | (simp <;> omega) | fail) [killAll, old x hx]
  · intro j s' _ _ h; exact h.elim
theorem ct_ledger_Ledger_Spots {b : Nat} {M : List (Int × LogV)} {F : List Nat} {s : AState} (hL : LedAt s b M F) (hM : MOk M) (hS : Small M) : Gives prog F_ledger_Ledger_Spots [.p b 0] s (.sl ((spotsM M).map Spt.av) .no) s := by
  have hlt := hL.lt
  have hb : b < s.n := hlt b hL.mem
  obtain ⟨hS1, hS2, hS3⟩ := hS
  obtain ⟨mb, A, B, F', rfl, e1, e2, e3, e4, e5⟩ := hL
  have hmb : mb < s.n := hlt mb (by simp)
  have hlB := e4.len
  have hMI := MI_eq
  have hsn : ((s.alloc (.cells [.sl [] .zero])).alloc (.cells [.p b 0])).n = s.n + 2 := by simp
  refine Runs.gives (runs_e h_ledger_Ledger_Spots (Nat.le_of_ble_eq_true rfl) ?_) (flat_sl Spt.row _)
  refine st0 ?_
  refine gv (ct_ledger_Ledger_logs (b := b)) ?_
  refine st0 ?_
  have hit := it_ledger_Ledger_logs (cb := s.n + 1) (b := b) (mb := mb) e3 (e4.pre hM) (by omega)
  have hTl := spots_take M
  have hbig : (spotsM M).length * 32 ≤ 140737488355328 := hS3
  refine w_rangeS (m := M.length) (by simp) hit (by intro x hx; obtain ⟨p, _, rfl⟩ := List.mem_map.1 hx; rfl) (by simp [pairA, hlB]) (fun k s' => TellI s b ((spotsM (M.take k)).map Spt.av) s') (fun _ _ => False) ?_ ?_ ?_ ?_ ?_ ?_ ?_
  · intro LR
    exact ⟨⟨.zero, by simp (disch := first | omega | (simp <;> omega) | fail) [grpsL, spotsM], trivial⟩, dz0, by simp, fun x hx => dz0⟩
  · intro k s' h; exact ⟨h.b1, (h.old b hb).trans e1, (h.old mb hmb).trans e2⟩
  · intro k s' o hn h; exact h.alloc o
  · intro j s' o hn h; exact h
  · intro LR LB LJ hLB hLR k hk s' hd hLL hln hI
    have hkB : k < B.length := by simpa [pairA] using hk
    have hk' : k < M.length := by omega
    obtain ⟨⟨tk, g1, g2⟩, b1, n, old⟩ := hI
    obtain ⟨-, Fi, f1, f2⟩ := e4.nth hkB hk'
    have f3 : LogAt (s'.set (s.n + 2 + 1) LB) B[k].2 M[k].2 Fi := f1.keep fun x hx => by
      have := hlt x (by simp [f2 x hx])
      simp (disch := first | omega | (simp <;> omega) | fail) [old x this]
    have hok := hM.2 _ (List.getElem_mem hk')
    have hTs := hTl (k + 1)
    have hTk : spotsM (M.take (k + 1)) = spotsM (M.take k) ++ spotsL M[k].2 := spots_snoc hk'
    simp only [hsn, pairA, List.getElem_map, List.zip_cons_cons, List.zip_nil_right, List.reverse_cons, List.reverse_nil, List.nil_append, List.cons_append] at hd hLL hln ⊢
    refine sd2 hLL g1 ?_
    refine gv (ct_place_Log_Spots f3 (fun x hx => by have := hok.keys x hx; omega) (by have := spots_le (List.getElem_mem hk'); omega)) ?_
    refine sd2 hLL g1 ?_
    refine q_appS (xs := (spotsM (M.take k)).map Spt.av) (tk := tk) (ys := (spotsL M[k].2).map Spt.av) (t2 := .no) (N := s.n + 4) (by simp) (by simp) (by simp; omega) (g2.set _ (by omega)) (head_map Spt.row _) (by simp) (by have := congrArg List.length hTk; simp only [List.length_append, List.length_map] at this ⊢; omega) (by have := congrArg List.length hTk; simp only [List.length_append, List.length_map] at this ⊢; omega) ?_
    intro s2 tk2 hm2 hlow hext
    have k0 : s2.get s.n = .cells [.sl ((spotsM (M.take k)).map Spt.av) tk] := by rw [hlow _ (by omega)]; simp (disch := first | omega | (simp <;> omega) | fail) [g1]
    have k1 : s2.get (s.n + 1) = .cells [.p b 0] := by rw [hlow _ (by omega)]; simp (disch := first | omega | (simp <;> omega) | fail) [b1]
    have k2 : s2.get (s.n + 2) = .defd := by rw [hlow _ (by omega)]; simp (disch := first | omega | (simp <;> omega) | fail) [hd]
    have k3 : s2.get (s.n + 2 + 1) = LB := by rw [hlow _ (by omega)]; simp (disch := first | omega | (simp <;> omega) | fail)
    have k4 : ∀ x, x < s.n → s2.get x = s.get x := fun x hx => by rw [hlow _ (by omega)]; simp (disch := first | omega | (simp <;> omega) | fail) [old x hx]
    have hn2 : s.n + 4 ≤ s2.n := by have := hext.1; simp at this; omega
    clear hext hlow
    refine sd1 k0 ?_
    refine st2 k0 k3 ?_
    refine fins_n (fun d hd => by cases hd; simp (disch := first | omega | (simp <;> omega) | fail) [k2]) (dz0) ⟨⟨tk2, dz1 hTk, ?_⟩, dz1 k1, by simpa using hn2, fun x hx => dz1 (k4 x hx)⟩
    rw [hTk]
    simpa using (hm2.set _ (by omega)).set _ (by omega)
  · rintro s' hd hln ⟨⟨tk, g1, g2⟩, b1, n, old⟩
    rw [List.take_length] at g1 g2
    simp only [hsn] at hd hln ⊢
    refine st1 g1 ?_
    refine ret_okD ?_ ?_ rfl ⟨⟨?_, fun x hx => .inl ?_⟩, AV.le_no _ _⟩
    · simp (disch := first | omega | (simp <;> omega) | fail) [hd]
    · simp
    · simp [killAll]; omega
    · simp (disch := first | omega | (simp <;> omega) | fail) [killAll, old x hx]
  · intro j s' _ _ h; exact h.elim
end Go.Proofs.YtmpoeamfcienoaaGreat
end
section
namespace Go.Ab
theorem AV.le_tup2 {x y x' y' : AV} (h : x.le x') (k : y.le y') : (AV.tup [x, y]).le (.tup [x', y']) := fun c v r => by
  cases r with
  | tup _ vs h0 hh =>
    refine .tup _ vs h0 fun j hj => ?_
    have := hh j hj
    match j, hj with
    | 0, _ => exact h _ _ this
    | 1, _ => exact k _ _ this
end Go.Ab
end
section
namespace Go.Proofs.YtmpoeamfcienoaaGreat
open Go.Ab
set_option linter.unusedVariables false
set_option linter.unusedSimpArgs false
set_option maxRecDepth 100000
set_option maxHeartbeats 1000000
theorem ct_laderef7_Without {l : List Grp} {i : Int} {s : AState} (hlen : (l.length : Int) * 72 ≤ 140737488355328) :
    Gives prog F_laderef7_Without [.sl (l.map Grp.av) .no, .v (.int .i64 i)] s (.sl ((l.filter fun g => !decide (g.id = i)).map Grp.av) .no) s := by
  refine Runs.gives' (runs_e h_laderef7_Without (Nat.le_of_ble_eq_true rfl) ?_) (flat_sl Grp.row _)
  refine st0 ?_
  refine loop_ok [0, 1, 5, 6] (fun r a s1 => ∃ (j : Nat) (tk : Tok), j + r = l.length ∧ Grows s s1 ∧ May s.n s1 (((l.take j).filter fun g => !decide (g.id = i)).map Grp.av) tk ∧ a = { t := den 28 [(0, .sl (l.map Grp.av) .no), (1, .v (.int .i64 i)), (5, .sl (((l.take j).filter fun g => !decide (g.id = i)).map Grp.av) tk), (6, .v (.int .i64 j))], d := [] }) l.length ?_ ?_
  · exact ⟨0, .zero, by simp, Grows.refl _, trivial, by simp⟩
  rintro r a s1 ⟨j, tk, hir, hg, hm, rfl⟩
  by_cases hlt : j < l.length
  · have w3 : IntKind.wrap .i64 ((j : Int) + 1) = (j : Int) + 1 := wrap_i64 (by omega) (by omega)
    have hsn := filt_snoc (p := fun g : Grp => !decide (g.id = i)) hlt
    have hfl := List.length_filter_le (fun g : Grp => !decide (g.id = i)) (l.take j)
    have htl : (l.take j).length ≤ j := by simp; omega
    by_cases hp : l[j].id = i
    · repeat (first | simp -dsimp -implicitDefEqProofs (disch := first | omega | (simp <;> omega) | fail) [hlt, hp] | ((with_reducible first | apply m_1 | apply m_0); (focus ((conv => lhs; simp -dsimp -implicitDefEqProofs (disch := first | omega | (simp <;> omega) | fail) [hlt, hp]); done))) | ((with_reducible first | apply i_T | apply g_T); (focus (simp -dsimp -implicitDefEqProofs (disch := first | omega | (simp <;> omega) | fail) [hlt, hp]; done))) | ((with_reducible first | apply i_F | apply g_F); (focus (simp -dsimp -implicitDefEqProofs (disch := first | omega | (simp <;> omega) | fail) [hlt, hp]; done))))
      refine ⟨r - 1, by omega, j + 1, tk, by omega, hg, ?_, ?_⟩
      · rw [hsn]; simpa [hp] using hm
      · rw [hsn]; simp [hp, w3]
    · repeat (first | simp -dsimp -implicitDefEqProofs (disch := first | omega | (simp <;> omega) | fail) [hlt, hp] | ((with_reducible first | apply m_1 | apply m_0); (focus ((conv => lhs; simp -dsimp -implicitDefEqProofs (disch := first | omega | (simp <;> omega) | fail) [hlt, hp]); done))) | ((with_reducible first | apply i_T | apply g_T); (focus (simp -dsimp -implicitDefEqProofs (disch := first | omega | (simp <;> omega) | fail) [hlt, hp]; done))) | ((with_reducible first | apply i_F | apply g_F); (focus (simp -dsimp -implicitDefEqProofs (disch := first | omega | (simp <;> omega) | fail) [hlt, hp]; done))))
      refine m_app (xs := ((l.take j).filter fun g => !decide (g.id = i)).map Grp.av) (tk := tk) (ys := [l[j].av]) (t2 := .zero) (B := s) (N := s.n) (by simp) (by simp) hg (Nat.le_refl _) hg.n hm (head_map Grp.row _) (by simp) (by simp at hfl ⊢; omega) (by simp at hfl ⊢; omega) ?_
      intro s2 tk2 hg2 hm2 _ _
      refine st0 ?_
      refine ⟨r - 1, by omega, j + 1, tk2, by omega, hg2, ?_, ?_⟩
      · rw [hsn]; simpa [hp] using hm2
      · rw [hsn]; simp [hp, w3]
  have : j = l.length := by omega
  subst this
  rw [List.take_length] at hm ⊢
  refine st1 hlt ?_
  exact ret_ok rfl ⟨hg, AV.le_no _ _⟩
theorem ct_laderef7_Many_At {b : Nat} {l : List Grp} {tk : Tok} {i : Int} {s : AState} (hb : s.get b = .cells [.sl (l.map Grp.av) tk]) (hlen : (l.length : Int) < 9223372036854775808) :
    Gives prog F_laderef7_Many_At [.p b 0, .v (.int .i64 i)] s (.v (.int .i64 (idxS (fun g => decide (g.id = i)) l))) s := by
  refine runs_e h_laderef7_Many_At (Nat.le_of_ble_eq_true rfl) ?_
  refine st0 ?_
  refine loop_ok [0, 1, 5] (fun k a s1 => s = s1 ∧ ∃ j : Nat, j + k = l.length ∧ (∀ x (hx : x < j) (hx' : x < l.length), decide (l[x].id = i) = false) ∧ a = { t := den 26 [(0, .p b 0), (1, .v (.int .i64 i)), (5, .v (.int .i64 j))], d := [] }) l.length ?_ ?_
  · exact ⟨rfl, 0, by simp, fun j hj => by omega, by simp⟩
  rintro k a _ ⟨rfl, j, hik, hno, rfl⟩
  by_cases hlt : j < l.length
  · have hw : IntKind.wrap .i64 ((j : Int) + 1) = (j : Int) + 1 := wrap_i64 (by omega) (by omega)
    by_cases he : l[j].id = i
    · repeat (first | simp -dsimp -implicitDefEqProofs (disch := first | omega | (simp <;> omega) | fail) [hlt, hb, he] | ((with_reducible first | apply m_1 | apply m_0); (focus ((conv => lhs; simp -dsimp -implicitDefEqProofs (disch := first | omega | (simp <;> omega) | fail) [hlt, hb, he]); done))) | ((with_reducible first | apply i_T | apply g_T); (focus (simp -dsimp -implicitDefEqProofs (disch := first | omega | (simp <;> omega) | fail) [hlt, hb, he]; done))) | ((with_reducible first | apply i_F | apply g_F); (focus (simp -dsimp -implicitDefEqProofs (disch := first | omega | (simp <;> omega) | fail) [hlt, hb, he]; done))))
      refine ret_ok rfl ⟨?_, rfl⟩
      rw [idxS_some hlt (fun x hx => hno x hx (by omega)) (by simp [he])]; rfl
    · repeat (first | simp -dsimp -implicitDefEqProofs (disch := first | omega | (simp <;> omega) | fail) [hlt, hb, he] | ((with_reducible first | apply m_1 | apply m_0); (focus ((conv => lhs; simp -dsimp -implicitDefEqProofs (disch := first | omega | (simp <;> omega) | fail) [hlt, hb, he]); done))) | ((with_reducible first | apply i_T | apply g_T); (focus (simp -dsimp -implicitDefEqProofs (disch := first | omega | (simp <;> omega) | fail) [hlt, hb, he]; done))) | ((with_reducible first | apply i_F | apply g_F); (focus (simp -dsimp -implicitDefEqProofs (disch := first | omega | (simp <;> omega) | fail) [hlt, hb, he]; done))))
      refine ⟨k - 1, by omega, rfl, j + 1, by omega, fun x hx hx' => ?_, by simp [hw]⟩
      by_cases e : x = j
      · subst e; simp [he]
      · exact hno x (by omega) hx'
  · refine st2 hlt hb ?_
    refine ret_ok rfl ⟨?_, rfl⟩
    rw [idxS_none (fun x hx => by obtain ⟨y, hy, rfl⟩ := List.getElem_of_mem hx; exact hno y (by omega) hy)]; rfl
theorem ct_laderef7_Many_Get {b : Nat} {l : List Grp} {tk : Tok} {i : Int} {s : AState} (hb : s.get b = .cells [.sl (l.map Grp.av) tk]) (hlen : (l.length : Int) < 9223372036854775808) :
    Gives prog F_laderef7_Many_Get [.p b 0, .v (.int .i64 i)] s (.tup [((getG l i).getD zeroG).av, .v (.bool (getG l i).isSome)]) s := by
  have hbn := AState.lt_of_get hb (by simp)
  refine Runs.gives' (runs_e h_laderef7_Many_Get (Nat.le_of_ble_eq_true rfl) ?_) (Flat.tup (by simp; exact ⟨(Grp.row _).flat, .v _⟩))
  refine st0 ?_
  refine gv (ct_laderef7_Many_At (b := b) (l := l) (tk := tk) (i := i) (dz1 hb) hlen) ?_
  cases h : l.findIdx? fun g => decide (g.id = i) with
  | none =>
    have hI : idxS (fun g : Grp => decide (g.id = i)) l = -1 := by unfold idxS; rw [h]
    have hG : getG l i = none := List.find?_eq_none.2 fun x hx => by have := List.findIdx?_eq_none_iff.1 h x hx; simpa using this
    rw [hI, hG]
    refine st0 ?_
    refine ret_ok (by simp; rfl) ⟨(Grows.refl s).alloc _, ?_⟩
    exact AV.le_tup2 ((AV.le_strip _).trans (by simp [Grp.av, Grp.cells, zeroG]; exact .refl _)) (.refl _)
  | some k =>
    have hI : idxS (fun g : Grp => decide (g.id = i)) l = k := by unfold idxS; rw [h]
    obtain ⟨hk, hp, hno⟩ := List.findIdx?_eq_some_iff_getElem.1 h
    have hG : getG l i = some l[k] := by
      unfold getG
      rw [List.find?_eq_some_iff_getElem]
      exact ⟨hp, k, hk, rfl, fun j hj => by have := hno j hj; simpa using this⟩
    rw [hI, hG]
    repeat (first | simp -dsimp -implicitDefEqProofs (disch := first | omega | (simp <;> omega) | fail) [hb, hk] | ((with_reducible first | apply m_1 | apply m_0); (focus ((conv => lhs; simp -dsimp -implicitDefEqProofs (disch := first | omega | (simp <;> omega) | fail) [hb, hk]); done))) | ((with_reducible first | apply i_T | apply g_T); (focus (simp -dsimp -implicitDefEqProofs (disch := first | omega | (simp <;> omega) | fail) [hb, hk]; done))) | ((with_reducible first | apply i_F | apply g_F); (focus (simp -dsimp -implicitDefEqProofs (disch := first | omega | (simp <;> omega) | fail) [hb, hk]; done))))
    refine ret_ok (by simp; rfl) ⟨(Grows.refl s).alloc _, .refl _⟩
theorem ct_laderef13_less {a b : Spt} {s : AState} : Gives prog F_laderef13_less [a.av, b.av] s (.v (.bool (lessS a b))) s := by
  refine Runs.gives' (runs_e h_laderef13_less (Nat.le_of_ble_eq_true rfl) ?_) (.v _)
  repeat' (first | refine sa0 ?_ | ((with_reducible first | apply s_split | apply s_gsplit) <;> (intro hb; have hb' := hb; try simp only [decide_eq_true_eq, decide_eq_false_iff_not, beq_iff_eq, beq_eq_false_iff_ne, bne_iff_ne, bne_eq_false_iff_eq, ne_eq, Bool.not_true, Bool.not_false, Bool.not_eq_true', Bool.not_eq_false', Bool.and_eq_true, Bool.or_eq_true, Bool.or_eq_false_iff] at hb; try simp at hb')))
  all_goals
    refine ret_ok (by simp; rfl) ⟨((Grows.refl s).alloc _).alloc _, ?_⟩
    simp [retVal, lessS, AV.le.refl, *]
end Go.Proofs.YtmpoeamfcienoaaGreat
end
section
namespace Go.Proofs.YtmpoeamfcienoaaGreat
open Go.Ab
set_option linter.unusedVariables false
set_option linter.unusedSimpArgs false
set_option maxRecDepth 100000
set_option maxHeartbeats 1000000
theorem ct_laderef7_With {l : List Grp} {g : Grp} {s : AState} (hlen : ((l.length : Int) + 1) * 72 ≤ 140737488355328) :
    Gives prog F_laderef7_With [.sl (l.map Grp.av) .no, g.av] s (.sl ((withS l g).map Grp.av) .no) s := by
  refine Runs.gives' (runs_e h_laderef7_With (Nat.le_of_ble_eq_true rfl) ?_) (flat_sl Grp.row _)
  refine st0 ?_
  generalize hle : (fun x : Grp => decide (g.id ≤ x.id)) = le
  generalize hne : (fun x : Grp => !decide (x.id = g.id)) = ne
  refine loop_ok [0, 3, 5, 6, 7] (fun r a s1 => ∃ (j : Nat) (tk : Tok) (dn : Bool) (out : List Grp), j + r = l.length ∧ insRun le ne g (l.take j) = (dn, out) ∧ Grows (s.alloc (.cells g.cells)) s1 ∧ May (s.n + 1) s1 (out.map Grp.av) tk ∧ a = { t := den 52 [(0, .sl (l.map Grp.av) .no), (3, .p s.n 0), (5, .sl (out.map Grp.av) tk), (6, .v (.bool dn)), (7, .v (.int .i64 j))], d := [] }) l.length ?_ ?_
  · exact ⟨0, .zero, false, [], by simp, rfl, Grows.refl _, trivial, by simp⟩
  rintro r a s1 ⟨j, tk, dn, out, hir, hS, hg, hm, rfl⟩
  have b0 : s1.get s.n = .cells g.cells := (hg.get (by simp)).trans (get_alloc_eq rfl)
  have hN : s.n + 1 ≤ s1.n := by have := hg.n; simpa using this
  obtain ⟨hln, hln2⟩ := insRun_len le ne g l j
  rw [hS] at hln hln2
  simp only at hln hln2
  by_cases hlt : j < l.length
  · have w3 : IntKind.wrap .i64 ((j : Int) + 1) = (j : Int) + 1 := wrap_i64 (by omega) (by omega)
    have hst := insRun_snoc le ne g hlt
    rw [hS] at hst
    have h2' : ne l[j] = !decide (l[j].id = g.id) := by rw [← hne]
    have h1' : le l[j] = decide (g.id ≤ l[j].id) := by rw [← hle]
    clear hS
    by_cases hx : dn = false ∧ g.id ≤ l[j].id
    · obtain ⟨rfl, h1⟩ := hx
      have hln2 := hln2 rfl
      repeat (first | simp -dsimp -implicitDefEqProofs (disch := first | omega | (simp <;> omega) | fail) [b0, hlt, h1] | ((with_reducible first | apply m_1 | apply m_0); (focus ((conv => lhs; simp -dsimp -implicitDefEqProofs (disch := first | omega | (simp <;> omega) | fail) [b0, hlt, h1]); done))) | ((with_reducible first | apply i_T | apply g_T); (focus (simp -dsimp -implicitDefEqProofs (disch := first | omega | (simp <;> omega) | fail) [b0, hlt, h1]; done))) | ((with_reducible first | apply i_F | apply g_F); (focus (simp -dsimp -implicitDefEqProofs (disch := first | omega | (simp <;> omega) | fail) [b0, hlt, h1]; done))))
      refine m_app (xs := out.map Grp.av) (tk := tk) (ys := [g.av]) (t2 := .zero) (B := s.alloc (.cells g.cells)) (N := s.n + 1) (by simp) (by simp) hg (by simp) hN hm (head_map Grp.row _) (by simp) (by simp; omega) (by simp; omega) ?_
      intro s2 tk2 hg2 hm2 _ _
      have b0 : s2.get s.n = .cells g.cells := (hg2.get (by simp)).trans (get_alloc_eq rfl)
      have hN : s.n + 1 ≤ s2.n := by have := hg2.n; simpa using this
      by_cases h2 : l[j].id = g.id
      · repeat (first | simp -dsimp -implicitDefEqProofs (disch := first | omega | (simp <;> omega) | fail) [b0, hlt, h2] | ((with_reducible first | apply m_1 | apply m_0); (focus ((conv => lhs; simp -dsimp -implicitDefEqProofs (disch := first | omega | (simp <;> omega) | fail) [b0, hlt, h2]); done))) | ((with_reducible first | apply i_T | apply g_T); (focus (simp -dsimp -implicitDefEqProofs (disch := first | omega | (simp <;> omega) | fail) [b0, hlt, h2]; done))) | ((with_reducible first | apply i_F | apply g_F); (focus (simp -dsimp -implicitDefEqProofs (disch := first | omega | (simp <;> omega) | fail) [b0, hlt, h2]; done))))
        exact ⟨r - 1, by omega, j + 1, tk2, true, out ++ [g], by omega, by rw [hst]; simp [insStep, h1, h1', h2', h2], hg2, by simpa using hm2, by simp [w3]⟩
      · repeat (first | simp -dsimp -implicitDefEqProofs (disch := first | omega | (simp <;> omega) | fail) [b0, hlt, h2] | ((with_reducible first | apply m_1 | apply m_0); (focus ((conv => lhs; simp -dsimp -implicitDefEqProofs (disch := first | omega | (simp <;> omega) | fail) [b0, hlt, h2]); done))) | ((with_reducible first | apply i_T | apply g_T); (focus (simp -dsimp -implicitDefEqProofs (disch := first | omega | (simp <;> omega) | fail) [b0, hlt, h2]; done))) | ((with_reducible first | apply i_F | apply g_F); (focus (simp -dsimp -implicitDefEqProofs (disch := first | omega | (simp <;> omega) | fail) [b0, hlt, h2]; done))))
        refine m_app (xs := out.map Grp.av ++ [g.av]) (tk := tk2) (ys := [l[j].av]) (t2 := .zero) (B := s.alloc (.cells g.cells)) (N := s.n + 1) (by simp) (by simp) hg2 (by simp) hN (by simpa using hm2) (by have := head_map (f := Grp.av) Grp.row (out ++ [g]); simpa using this) (by simp) (by simp; omega) (by simp; omega) ?_
        intro s3 tk3 hg3 hm3 _ _
        refine st0 ?_
        exact ⟨r - 1, by omega, j + 1, tk3, true, out ++ [g] ++ [l[j]], by omega, by rw [hst]; simp [insStep, h1, h1', h2', h2], hg3, by simpa using hm3, by simp [w3]⟩
    · have hst' : insRun le ne g (l.take (j + 1)) = (dn, if ne l[j] = true then out ++ [l[j]] else out) := by
        rw [hst]
        cases dn with
        | true => simp [insStep]
        | false =>
          have h1 : le l[j] = false := by rw [h1', decide_eq_false_iff_not]; exact fun h => hx ⟨rfl, h⟩
          simp [insStep, h1]
      clear hst
      by_cases h2 : l[j].id = g.id
      · cases dn with
        | true =>
          repeat (first | simp -dsimp -implicitDefEqProofs (disch := first | omega | (simp <;> omega) | fail) [b0, hlt, h2] | ((with_reducible first | apply m_1 | apply m_0); (focus ((conv => lhs; simp -dsimp -implicitDefEqProofs (disch := first | omega | (simp <;> omega) | fail) [b0, hlt, h2]); done))) | ((with_reducible first | apply i_T | apply g_T); (focus (simp -dsimp -implicitDefEqProofs (disch := first | omega | (simp <;> omega) | fail) [b0, hlt, h2]; done))) | ((with_reducible first | apply i_F | apply g_F); (focus (simp -dsimp -implicitDefEqProofs (disch := first | omega | (simp <;> omega) | fail) [b0, hlt, h2]; done))))
          exact ⟨r - 1, by omega, j + 1, tk, true, out, by omega, by rw [hst']; simp [h2', h2], hg, hm, by simp [w3]⟩
        | false =>
          exact absurd ⟨rfl, by omega⟩ hx
      · cases dn with
        | true =>
          repeat (first | simp -dsimp -implicitDefEqProofs (disch := first | omega | (simp <;> omega) | fail) [b0, hlt, h2] | ((with_reducible first | apply m_1 | apply m_0); (focus ((conv => lhs; simp -dsimp -implicitDefEqProofs (disch := first | omega | (simp <;> omega) | fail) [b0, hlt, h2]); done))) | ((with_reducible first | apply i_T | apply g_T); (focus (simp -dsimp -implicitDefEqProofs (disch := first | omega | (simp <;> omega) | fail) [b0, hlt, h2]; done))) | ((with_reducible first | apply i_F | apply g_F); (focus (simp -dsimp -implicitDefEqProofs (disch := first | omega | (simp <;> omega) | fail) [b0, hlt, h2]; done))))
          refine m_app (xs := out.map Grp.av) (tk := tk) (ys := [l[j].av]) (t2 := .zero) (B := s.alloc (.cells g.cells)) (N := s.n + 1) (by simp) (by simp) hg (by simp) hN hm (head_map Grp.row _) (by simp) (by simp; omega) (by simp; omega) ?_
          intro s3 tk3 hg3 hm3 _ _
          refine st0 ?_
          exact ⟨r - 1, by omega, j + 1, tk3, true, out ++ [l[j]], by omega, by rw [hst']; simp [h2', h2], hg3, by simpa using hm3, by simp [w3]⟩
        | false =>
          have h1 : ¬ g.id ≤ l[j].id := fun h => hx ⟨rfl, h⟩
          repeat (first | simp -dsimp -implicitDefEqProofs (disch := first | omega | (simp <;> omega) | fail) [b0, hlt, h2, h1] | ((with_reducible first | apply m_1 | apply m_0); (focus ((conv => lhs; simp -dsimp -implicitDefEqProofs (disch := first | omega | (simp <;> omega) | fail) [b0, hlt, h2, h1]); done))) | ((with_reducible first | apply i_T | apply g_T); (focus (simp -dsimp -implicitDefEqProofs (disch := first | omega | (simp <;> omega) | fail) [b0, hlt, h2, h1]; done))) | ((with_reducible first | apply i_F | apply g_F); (focus (simp -dsimp -implicitDefEqProofs (disch := first | omega | (simp <;> omega) | fail) [b0, hlt, h2, h1]; done))))
          refine m_app (xs := out.map Grp.av) (tk := tk) (ys := [l[j].av]) (t2 := .zero) (B := s.alloc (.cells g.cells)) (N := s.n + 1) (by simp) (by simp) hg (by simp) hN hm (head_map Grp.row _) (by simp) (by simp; omega) (by simp; omega) ?_
          intro s3 tk3 hg3 hm3 _ _
          refine st0 ?_
          exact ⟨r - 1, by omega, j + 1, tk3, false, out ++ [l[j]], by omega, by rw [hst']; simp [h2', h2], hg3, by simpa using hm3, by simp [w3]⟩
  have : j = l.length := by omega
  subst this
  rw [List.take_length] at hS
  have hfin : withS l g = insEnd g (dn, out) := by unfold withS insL; rw [hle, hne, hS]
  rw [hfin]
  cases dn with
  | true =>
    refine st1 hlt ?_
    exact ret_ok rfl ⟨((Grows.refl s).alloc _).trans hg, AV.le_no _ _⟩
  | false =>
    have hln2 := hln2 rfl
    refine st2 hlt b0 ?_
    refine m_app (xs := out.map Grp.av) (tk := tk) (ys := [g.av]) (t2 := .zero) (B := s.alloc (.cells g.cells)) (N := s.n + 1) (by simp) (by simp) hg (by simp) hN hm (head_map Grp.row _) (by simp) (by simp; omega) (by simp; omega) ?_
    intro s2 tk2 hg2 hm2 _ _
    refine st0 ?_
    exact ret_ok rfl ⟨((Grows.refl s).alloc _).trans hg2, by simpa [insEnd, retVal] using AV.le_no _ _⟩
theorem rn_laderef13_Ledger_lay {b : Nat} {L : List Grp} {l : List Spt} {t1 t2 : Tok} {x : Spt} {s : AState} (hb : s.get b = .cells [.sl (L.map Grp.av) t1, .sl (l.map Spt.av) t2]) (hlen : ((l.length : Int) + 1) * 32 ≤ 140737488355328) :
    Runs (compCode prog) prog F_laderef13_Ledger_lay [.p b 0, x.av] s (fun _ s' => ∃ tk, s'.get b = .cells [.sl (L.map Grp.av) t1, .sl ((layS l x).map Spt.av) tk] ∧ Mut [b] [b] s s') := by
  have hbn := AState.lt_of_get hb (by simp)
  refine runs_e h_laderef13_Ledger_lay (Nat.le_of_ble_eq_true rfl) ?_
  refine st0 ?_
  generalize hle : (fun y : Spt => !lessS y x) = le
  generalize hne : (fun y : Spt => !decide (y.gr = x.gr) || !decide (y.ix = x.ix)) = ne
  have fin : ∀ {s1 : AState} {out : List AV} {tk : Tok}, Grows (s.alloc (.cells x.cells)) s1 → Mut [b] [b] s (s1.set b (.cells [.sl (L.map Grp.av) t1, .sl out tk])) := fun hg => by
    refine ⟨by have := hg.n; simp at this ⊢; omega, fun y hy hn => ?_, fun y hy => .inl hy⟩
    rw [AState.get_set_ne _ _ (by simpa using hn), hg.get (by simp; omega), get_alloc_ne (by omega)]
  refine loop_ok [0, 3, 4, 5, 6] (fun r a s1 => ∃ (j : Nat) (tk : Tok) (dn : Bool) (out : List Spt), j + r = l.length ∧ insRun le ne x (l.take j) = (dn, out) ∧ Grows (s.alloc (.cells x.cells)) s1 ∧ May (s.n + 1) s1 (out.map Spt.av) tk ∧ a = { t := den 78 [(0, .p b 0), (3, .p s.n 0), (4, .sl (out.map Spt.av) tk), (5, .v (.bool dn)), (6, .v (.int .i64 j))], d := [] }) l.length ?_ ?_
  · exact ⟨0, .zero, false, [], by simp, rfl, Grows.refl _, trivial, by simp⟩
  rintro r a s1 ⟨j, tk, dn, out, hir, hS, hg, hm, rfl⟩
  have b0 : s1.get s.n = .cells x.cells := (hg.get (by simp)).trans (get_alloc_eq rfl)
  have hb1 : s1.get b = .cells [.sl (L.map Grp.av) t1, .sl (l.map Spt.av) t2] := ((hg.get (by simp; omega)).trans (get_alloc_ne (by omega))).trans hb
  have hN : s.n + 1 ≤ s1.n := by have := hg.n; simpa using this
  obtain ⟨hln, hln2⟩ := insRun_len le ne x l j
  rw [hS] at hln hln2
  simp only at hln hln2
  by_cases hlt : j < l.length
  · have w3 : IntKind.wrap .i64 ((j : Int) + 1) = (j : Int) + 1 := wrap_i64 (by omega) (by omega)
    have hst := insRun_snoc le ne x hlt
    rw [hS] at hst
    have h2' : ne l[j] = (!decide (l[j].gr = x.gr) || !decide (l[j].ix = x.ix)) := by rw [← hne]
    have h1' : le l[j] = !lessS l[j] x := by rw [← hle]
    clear hS
    by_cases hx : dn = false ∧ lessS l[j] x = false
    · obtain ⟨rfl, h1⟩ := hx
      have hln2 := hln2 rfl
      repeat (first | simp -dsimp -implicitDefEqProofs (disch := first | omega | (simp <;> omega) | fail) [b0, hb1, hlt] | ((with_reducible first | apply m_1 | apply m_0); (focus ((conv => lhs; simp -dsimp -implicitDefEqProofs (disch := first | omega | (simp <;> omega) | fail) [b0, hb1, hlt]); done))) | ((with_reducible first | apply i_T | apply g_T); (focus (simp -dsimp -implicitDefEqProofs (disch := first | omega | (simp <;> omega) | fail) [b0, hb1, hlt]; done))) | ((with_reducible first | apply i_F | apply g_F); (focus (simp -dsimp -implicitDefEqProofs (disch := first | omega | (simp <;> omega) | fail) [b0, hb1, hlt]; done))))
      refine gv (ct_laderef13_less (a := l[j]) (b := x)) ?_
      refine st4 b0 hb1 hlt h1 ?_
      refine m_app (xs := out.map Spt.av) (tk := tk) (ys := [x.av]) (t2 := .zero) (B := s.alloc (.cells x.cells)) (N := s.n + 1) (by simp) (by simp) hg (by simp) hN hm (head_map Spt.row _) (by simp) (by simp; omega) (by simp; omega) ?_
      intro s2 tk2 hg2 hm2 _ _
      have b0 : s2.get s.n = .cells x.cells := (hg2.get (by simp)).trans (get_alloc_eq rfl)
      have hb1 : s2.get b = .cells [.sl (L.map Grp.av) t1, .sl (l.map Spt.av) t2] := ((hg2.get (by simp; omega)).trans (get_alloc_ne (by omega))).trans hb
      have hN : s.n + 1 ≤ s2.n := by have := hg2.n; simpa using this
      by_cases h2 : l[j].gr = x.gr
      · by_cases h3 : l[j].ix = x.ix
        · repeat (first | simp -dsimp -implicitDefEqProofs (disch := first | omega | (simp <;> omega) | fail) [b0, hb1, hlt, h2, h3] | ((with_reducible first | apply m_1 | apply m_0); (focus ((conv => lhs; simp -dsimp -implicitDefEqProofs (disch := first | omega | (simp <;> omega) | fail) [b0, hb1, hlt, h2, h3]); done))) | ((with_reducible first | apply i_T | apply g_T); (focus (simp -dsimp -implicitDefEqProofs (disch := first | omega | (simp <;> omega) | fail) [b0, hb1, hlt, h2, h3]; done))) | ((with_reducible first | apply i_F | apply g_F); (focus (simp -dsimp -implicitDefEqProofs (disch := first | omega | (simp <;> omega) | fail) [b0, hb1, hlt, h2, h3]; done))))
          exact ⟨r - 1, by omega, j + 1, tk2, true, out ++ [x], by omega, by rw [hst]; simp [insStep, h1, h1', h2', h2, h3], hg2, by simpa using hm2, by simp [w3]⟩
        · repeat (first | simp -dsimp -implicitDefEqProofs (disch := first | omega | (simp <;> omega) | fail) [b0, hb1, hlt, h2, h3] | ((with_reducible first | apply m_1 | apply m_0); (focus ((conv => lhs; simp -dsimp -implicitDefEqProofs (disch := first | omega | (simp <;> omega) | fail) [b0, hb1, hlt, h2, h3]); done))) | ((with_reducible first | apply i_T | apply g_T); (focus (simp -dsimp -implicitDefEqProofs (disch := first | omega | (simp <;> omega) | fail) [b0, hb1, hlt, h2, h3]; done))) | ((with_reducible first | apply i_F | apply g_F); (focus (simp -dsimp -implicitDefEqProofs (disch := first | omega | (simp <;> omega) | fail) [b0, hb1, hlt, h2, h3]; done))))
          refine m_app (xs := out.map Spt.av ++ [x.av]) (tk := tk2) (ys := [l[j].av]) (t2 := .zero) (B := s.alloc (.cells x.cells)) (N := s.n + 1) (by simp) (by simp) hg2 (by simp) hN (by simpa using hm2) (by have := head_map (f := Spt.av) Spt.row (out ++ [x]); simpa using this) (by simp) (by simp; omega) (by simp; omega) ?_
          intro s3 tk3 hg3 hm3 _ _
          refine st0 ?_
          exact ⟨r - 1, by omega, j + 1, tk3, true, out ++ [x] ++ [l[j]], by omega, by rw [hst]; simp [insStep, h1, h1', h2', h2, h3], hg3, by simpa using hm3, by simp [w3]⟩
      · repeat (first | simp -dsimp -implicitDefEqProofs (disch := first | omega | (simp <;> omega) | fail) [b0, hb1, hlt, h2] | ((with_reducible first | apply m_1 | apply m_0); (focus ((conv => lhs; simp -dsimp -implicitDefEqProofs (disch := first | omega | (simp <;> omega) | fail) [b0, hb1, hlt, h2]); done))) | ((with_reducible first | apply i_T | apply g_T); (focus (simp -dsimp -implicitDefEqProofs (disch := first | omega | (simp <;> omega) | fail) [b0, hb1, hlt, h2]; done))) | ((with_reducible first | apply i_F | apply g_F); (focus (simp -dsimp -implicitDefEqProofs (disch := first | omega | (simp <;> omega) | fail) [b0, hb1, hlt, h2]; done))))
        refine m_app (xs := out.map Spt.av ++ [x.av]) (tk := tk2) (ys := [l[j].av]) (t2 := .zero) (B := s.alloc (.cells x.cells)) (N := s.n + 1) (by simp) (by simp) hg2 (by simp) hN (by simpa using hm2) (by have := head_map (f := Spt.av) Spt.row (out ++ [x]); simpa using this) (by simp) (by simp; omega) (by simp; omega) ?_
        intro s3 tk3 hg3 hm3 _ _
        refine st0 ?_
        exact ⟨r - 1, by omega, j + 1, tk3, true, out ++ [x] ++ [l[j]], by omega, by rw [hst]; simp [insStep, h1, h1', h2', h2], hg3, by simpa using hm3, by simp [w3]⟩
    · have hst' : insRun le ne x (l.take (j + 1)) = (dn, if ne l[j] = true then out ++ [l[j]] else out) := by
        rw [hst]
        cases dn with
        | true => simp [insStep]
        | false =>
          have h1 : le l[j] = false := by
            rw [h1']
            cases h : lessS l[j] x with
            | true => rfl
            | false => exact absurd ⟨rfl, h⟩ hx
          simp [insStep, h1]
      clear hst
      by_cases h2 : l[j].gr = x.gr
      · by_cases h3 : l[j].ix = x.ix
        · cases dn with
          | true =>
            repeat (first | simp -dsimp -implicitDefEqProofs (disch := first | omega | (simp <;> omega) | fail) [b0, hb1, hlt, h2, h3] | ((with_reducible first | apply m_1 | apply m_0); (focus ((conv => lhs; simp -dsimp -implicitDefEqProofs (disch := first | omega | (simp <;> omega) | fail) [b0, hb1, hlt, h2, h3]); done))) | ((with_reducible first | apply i_T | apply g_T); (focus (simp -dsimp -implicitDefEqProofs (disch := first | omega | (simp <;> omega) | fail) [b0, hb1, hlt, h2, h3]; done))) | ((with_reducible first | apply i_F | apply g_F); (focus (simp -dsimp -implicitDefEqProofs (disch := first | omega | (simp <;> omega) | fail) [b0, hb1, hlt, h2, h3]; done))))
            exact ⟨r - 1, by omega, j + 1, tk, true, out, by omega, by rw [hst']; simp [h2', h2, h3], hg, hm, by simp [w3]⟩
          | false =>
            exact absurd ⟨rfl, by simp [lessS, h2, h3]⟩ hx
        · cases dn with
          | true =>
            repeat (first | simp -dsimp -implicitDefEqProofs (disch := first | omega | (simp <;> omega) | fail) [b0, hb1, hlt, h2, h3] | ((with_reducible first | apply m_1 | apply m_0); (focus ((conv => lhs; simp -dsimp -implicitDefEqProofs (disch := first | omega | (simp <;> omega) | fail) [b0, hb1, hlt, h2, h3]); done))) | ((with_reducible first | apply i_T | apply g_T); (focus (simp -dsimp -implicitDefEqProofs (disch := first | omega | (simp <;> omega) | fail) [b0, hb1, hlt, h2, h3]; done))) | ((with_reducible first | apply i_F | apply g_F); (focus (simp -dsimp -implicitDefEqProofs (disch := first | omega | (simp <;> omega) | fail) [b0, hb1, hlt, h2, h3]; done))))
            refine m_app (xs := out.map Spt.av) (tk := tk) (ys := [l[j].av]) (t2 := .zero) (B := s.alloc (.cells x.cells)) (N := s.n + 1) (by simp) (by simp) hg (by simp) hN hm (head_map Spt.row _) (by simp) (by simp; omega) (by simp; omega) ?_
            intro s3 tk3 hg3 hm3 _ _
            refine st0 ?_
            exact ⟨r - 1, by omega, j + 1, tk3, true, out ++ [l[j]], by omega, by rw [hst']; simp [h2', h2, h3], hg3, by simpa using hm3, by simp [w3]⟩
          | false =>
            have h1 : lessS l[j] x = true := by
              cases h : lessS l[j] x with
              | true => rfl
              | false => exact absurd ⟨rfl, h⟩ hx
            repeat (first | simp -dsimp -implicitDefEqProofs (disch := first | omega | (simp <;> omega) | fail) [b0, hb1, hlt] | ((with_reducible first | apply m_1 | apply m_0); (focus ((conv => lhs; simp -dsimp -implicitDefEqProofs (disch := first | omega | (simp <;> omega) | fail) [b0, hb1, hlt]); done))) | ((with_reducible first | apply i_T | apply g_T); (focus (simp -dsimp -implicitDefEqProofs (disch := first | omega | (simp <;> omega) | fail) [b0, hb1, hlt]; done))) | ((with_reducible first | apply i_F | apply g_F); (focus (simp -dsimp -implicitDefEqProofs (disch := first | omega | (simp <;> omega) | fail) [b0, hb1, hlt]; done))))
            refine gv (ct_laderef13_less (a := l[j]) (b := x)) ?_
            repeat (first | simp -dsimp -implicitDefEqProofs (disch := first | omega | (simp <;> omega) | fail) [b0, hb1, hlt, h1, h2, h3] | ((with_reducible first | apply m_1 | apply m_0); (focus ((conv => lhs; simp -dsimp -implicitDefEqProofs (disch := first | omega | (simp <;> omega) | fail) [b0, hb1, hlt, h1, h2, h3]); done))) | ((with_reducible first | apply i_T | apply g_T); (focus (simp -dsimp -implicitDefEqProofs (disch := first | omega | (simp <;> omega) | fail) [b0, hb1, hlt, h1, h2, h3]; done))) | ((with_reducible first | apply i_F | apply g_F); (focus (simp -dsimp -implicitDefEqProofs (disch := first | omega | (simp <;> omega) | fail) [b0, hb1, hlt, h1, h2, h3]; done))))
            refine m_app (xs := out.map Spt.av) (tk := tk) (ys := [l[j].av]) (t2 := .zero) (B := s.alloc (.cells x.cells)) (N := s.n + 1) (by simp) (by simp) hg (by simp) hN hm (head_map Spt.row _) (by simp) (by simp; omega) (by simp; omega) ?_
            intro s3 tk3 hg3 hm3 _ _
            refine st0 ?_
            exact ⟨r - 1, by omega, j + 1, tk3, false, out ++ [l[j]], by omega, by rw [hst']; simp [h2', h2, h3], hg3, by simpa using hm3, by simp [w3]⟩
      · cases dn with
        | true =>
          repeat (first | simp -dsimp -implicitDefEqProofs (disch := first | omega | (simp <;> omega) | fail) [b0, hb1, hlt, h2] | ((with_reducible first | apply m_1 | apply m_0); (focus ((conv => lhs; simp -dsimp -implicitDefEqProofs (disch := first | omega | (simp <;> omega) | fail) [b0, hb1, hlt, h2]); done))) | ((with_reducible first | apply i_T | apply g_T); (focus (simp -dsimp -implicitDefEqProofs (disch := first | omega | (simp <;> omega) | fail) [b0, hb1, hlt, h2]; done))) | ((with_reducible first | apply i_F | apply g_F); (focus (simp -dsimp -implicitDefEqProofs (disch := first | omega | (simp <;> omega) | fail) [b0, hb1, hlt, h2]; done))))
          refine m_app (xs := out.map Spt.av) (tk := tk) (ys := [l[j].av]) (t2 := .zero) (B := s.alloc (.cells x.cells)) (N := s.n + 1) (by simp) (by simp) hg (by simp) hN hm (head_map Spt.row _) (by simp) (by simp; omega) (by simp; omega) ?_
          intro s3 tk3 hg3 hm3 _ _
          refine st0 ?_
          exact ⟨r - 1, by omega, j + 1, tk3, true, out ++ [l[j]], by omega, by rw [hst']; simp [h2', h2], hg3, by simpa using hm3, by simp [w3]⟩
        | false =>
          have h1 : lessS l[j] x = true := by
            cases h : lessS l[j] x with
            | true => rfl
            | false => exact absurd ⟨rfl, h⟩ hx
          repeat (first | simp -dsimp -implicitDefEqProofs (disch := first | omega | (simp <;> omega) | fail) [b0, hb1, hlt] | ((with_reducible first | apply m_1 | apply m_0); (focus ((conv => lhs; simp -dsimp -implicitDefEqProofs (disch := first | omega | (simp <;> omega) | fail) [b0, hb1, hlt]); done))) | ((with_reducible first | apply i_T | apply g_T); (focus (simp -dsimp -implicitDefEqProofs (disch := first | omega | (simp <;> omega) | fail) [b0, hb1, hlt]; done))) | ((with_reducible first | apply i_F | apply g_F); (focus (simp -dsimp -implicitDefEqProofs (disch := first | omega | (simp <;> omega) | fail) [b0, hb1, hlt]; done))))
          refine gv (ct_laderef13_less (a := l[j]) (b := x)) ?_
          repeat (first | simp -dsimp -implicitDefEqProofs (disch := first | omega | (simp <;> omega) | fail) [b0, hb1, hlt, h1, h2] | ((with_reducible first | apply m_1 | apply m_0); (focus ((conv => lhs; simp -dsimp -implicitDefEqProofs (disch := first | omega | (simp <;> omega) | fail) [b0, hb1, hlt, h1, h2]); done))) | ((with_reducible first | apply i_T | apply g_T); (focus (simp -dsimp -implicitDefEqProofs (disch := first | omega | (simp <;> omega) | fail) [b0, hb1, hlt, h1, h2]; done))) | ((with_reducible first | apply i_F | apply g_F); (focus (simp -dsimp -implicitDefEqProofs (disch := first | omega | (simp <;> omega) | fail) [b0, hb1, hlt, h1, h2]; done))))
          refine m_app (xs := out.map Spt.av) (tk := tk) (ys := [l[j].av]) (t2 := .zero) (B := s.alloc (.cells x.cells)) (N := s.n + 1) (by simp) (by simp) hg (by simp) hN hm (head_map Spt.row _) (by simp) (by simp; omega) (by simp; omega) ?_
          intro s3 tk3 hg3 hm3 _ _
          refine st0 ?_
          exact ⟨r - 1, by omega, j + 1, tk3, false, out ++ [l[j]], by omega, by rw [hst']; simp [h2', h2], hg3, by simpa using hm3, by simp [w3]⟩
  have : j = l.length := by omega
  subst this
  rw [List.take_length] at hS
  have hfin : layS l x = insEnd x (dn, out) := by unfold layS insL; rw [hle, hne, hS]
  rw [hfin]
  cases dn with
  | true =>
    refine st2 hlt hb1 ?_
    exact end_ok rfl ⟨tk, by simp (disch := first | omega | (simp <;> omega) | fail) [insEnd], fin hg⟩
  | false =>
    have hln2 := hln2 rfl
    refine st3 hlt b0 hb1 ?_
    refine m_app (xs := out.map Spt.av) (tk := tk) (ys := [x.av]) (t2 := .zero) (B := s.alloc (.cells x.cells)) (N := s.n + 1) (by simp) (by simp) hg (by simp) hN hm (head_map Spt.row _) (by simp) (by simp; omega) (by simp; omega) ?_
    intro s2 tk2 hg2 hm2 _ _
    have hb1 : s2.get b = .cells [.sl (L.map Grp.av) t1, .sl (l.map Spt.av) t2] := ((hg2.get (by simp; omega)).trans (get_alloc_ne (by omega))).trans hb
    refine st1 hb1 ?_
    have hbs := AState.lt_of_get hb1 (by simp)
    exact end_ok rfl ⟨tk2, by simp (disch := first | omega | (simp <;> omega) | fail) [insEnd], fin hg2⟩
end Go.Proofs.YtmpoeamfcienoaaGreat
end
section
namespace Go.Proofs.YtmpoeamfcienoaaGreat
open Go.Ab
set_option linter.unusedVariables false
set_option linter.unusedSimpArgs false
set_option maxRecDepth 100000
set_option maxHeartbeats 1000000
theorem rn_laderef13_Ledger_clear {b : Nat} {L : List Grp} {l : List Spt} {t1 t2 : Tok} {id : Int} {g : Grp} {th : Bool} {s : AState} (hb : s.get b = .cells [.sl (L.map Grp.av) t1, .sl (l.map Spt.av) t2]) (hlen : (l.length : Int) * 32 ≤ 140737488355328) (hgl : (g.es.length : Int) < 9223372036854775808) :
    Runs (compCode prog) prog F_laderef13_Ledger_clear [.p b 0, .v (.int .i64 id), g.av, .v (.bool th)] s (fun _ s' => ∃ tk, s'.get b = .cells [.sl (L.map Grp.av) t1, .sl ((l.filter (keepS id g th)).map Spt.av) tk] ∧ Mut [b] [b] s s') := by
  have hbn := AState.lt_of_get hb (by simp)
  refine runs_e h_laderef13_Ledger_clear (Nat.le_of_ble_eq_true rfl) ?_
  refine st0 ?_
  have fin : ∀ {s1 : AState} {out : List AV} {tk : Tok}, Grows (s.alloc (.cells g.cells)) s1 → Mut [b] [b] s (s1.set b (.cells [.sl (L.map Grp.av) t1, .sl out tk])) := fun hg => by
    refine ⟨by have := hg.n; simp at this ⊢; omega, fun y hy hn => ?_, fun y hy => .inl hy⟩
    rw [AState.get_set_ne _ _ (by simpa using hn), hg.get (by simp; omega), get_alloc_ne (by omega)]
  refine loop_ok [0, 1, 3, 6, 8, 9] (fun r a s1 => ∃ (j : Nat) (tk : Tok), j + r = l.length ∧ Grows (s.alloc (.cells g.cells)) s1 ∧ May (s.n + 1) s1 (((l.take j).filter (keepS id g th)).map Spt.av) tk ∧ a = { t := den 54 [(0, .p b 0), (1, .v (.int .i64 id)), (3, .v (.bool th)), (6, .p s.n 0), (8, .sl (((l.take j).filter (keepS id g th)).map Spt.av) tk), (9, .v (.int .i64 j))], d := [] }) l.length ?_ ?_
  · exact ⟨0, .zero, by simp, Grows.refl _, trivial, by simp⟩
  rintro r a s1 ⟨j, tk, hir, hg, hm, rfl⟩
  have b0 : s1.get s.n = .cells g.cells := (hg.get (by simp)).trans (get_alloc_eq rfl)
  have hb1 : s1.get b = .cells [.sl (L.map Grp.av) t1, .sl (l.map Spt.av) t2] := ((hg.get (by simp; omega)).trans (get_alloc_ne (by omega))).trans hb
  have hN : s.n + 1 ≤ s1.n := by have := hg.n; simpa using this
  by_cases hlt : j < l.length
  · have w3 : IntKind.wrap .i64 ((j : Int) + 1) = (j : Int) + 1 := wrap_i64 (by omega) (by omega)
    have hsn := filt_snoc (p := keepS id g th) hlt
    have hfl := List.length_filter_le (keepS id g th) (l.take j)
    have htl : (l.take j).length ≤ j := by simp; omega
    have hany := idxS_any (fun e : Ent => decide (e.ix = l[j].ix)) g.es
    by_cases h1 : l[j].gr = id
    · cases th with
      | false =>
        have hk : keepS id g false l[j] = false := by simp [keepS, h1]
        repeat (first | simp -dsimp -implicitDefEqProofs (disch := first | omega | (simp <;> omega) | fail) [b0, hb1, hlt, h1] | ((with_reducible first | apply m_1 | apply m_0); (focus ((conv => lhs; simp -dsimp -implicitDefEqProofs (disch := first | omega | (simp <;> omega) | fail) [b0, hb1, hlt, h1]); done))) | ((with_reducible first | apply i_T | apply g_T); (focus (simp -dsimp -implicitDefEqProofs (disch := first | omega | (simp <;> omega) | fail) [b0, hb1, hlt, h1]; done))) | ((with_reducible first | apply i_F | apply g_F); (focus (simp -dsimp -implicitDefEqProofs (disch := first | omega | (simp <;> omega) | fail) [b0, hb1, hlt, h1]; done))))
        exact ⟨r - 1, by omega, j + 1, tk, by omega, hg.alloc _, by rw [hsn, hk]; simpa using hm.alloc _, by rw [hsn, hk]; simp [w3]⟩
      | true =>
        by_cases h2 : l[j].ix ≤ 0
        · have hk : keepS id g true l[j] = true := by simp [keepS, h1, h2]
          repeat (first | simp -dsimp -implicitDefEqProofs (disch := first | omega | (simp <;> omega) | fail) [b0, hb1, hlt, h1, h2] | ((with_reducible first | apply m_1 | apply m_0); (focus ((conv => lhs; simp -dsimp -implicitDefEqProofs (disch := first | omega | (simp <;> omega) | fail) [b0, hb1, hlt, h1, h2]); done))) | ((with_reducible first | apply i_T | apply g_T); (focus (simp -dsimp -implicitDefEqProofs (disch := first | omega | (simp <;> omega) | fail) [b0, hb1, hlt, h1, h2]; done))) | ((with_reducible first | apply i_F | apply g_F); (focus (simp -dsimp -implicitDefEqProofs (disch := first | omega | (simp <;> omega) | fail) [b0, hb1, hlt, h1, h2]; done))))
          refine m_app (xs := ((l.take j).filter (keepS id g _)).map Spt.av) (tk := tk) (ys := [l[j].av]) (t2 := .zero) (B := s.alloc (.cells g.cells)) (N := s.n + 1) (by simp) (by simp) (hg.alloc _) (by simp) (by simp; omega) (hm.alloc _) (head_map Spt.row _) (by simp) (by simp at hfl ⊢; omega) (by simp at hfl ⊢; omega) ?_
          intro s3 tk3 hg3 hm3 _ _
          refine st0 ?_
          exact ⟨r - 1, by omega, j + 1, tk3, by omega, hg3, by rw [hsn, hk]; simpa using hm3, by rw [hsn, hk]; simp [w3]⟩
        · repeat (first | simp -dsimp -implicitDefEqProofs (disch := first | omega | (simp <;> omega) | fail) [b0, hb1, hlt, h1, h2] | ((with_reducible first | apply m_1 | apply m_0); (focus ((conv => lhs; simp -dsimp -implicitDefEqProofs (disch := first | omega | (simp <;> omega) | fail) [b0, hb1, hlt, h1, h2]); done))) | ((with_reducible first | apply i_T | apply g_T); (focus (simp -dsimp -implicitDefEqProofs (disch := first | omega | (simp <;> omega) | fail) [b0, hb1, hlt, h1, h2]; done))) | ((with_reducible first | apply i_F | apply g_F); (focus (simp -dsimp -implicitDefEqProofs (disch := first | omega | (simp <;> omega) | fail) [b0, hb1, hlt, h1, h2]; done))))
          refine gv (ct_laderef6_At (g := g) (i := l[j].ix) hgl) ?_
          by_cases h3 : 0 ≤ idxS (fun e : Ent => decide (e.ix = l[j].ix)) g.es
          · have hk : keepS id g true l[j] = true := by rw [decide_eq_true h3] at hany; simp only [keepS, hasIx, ← hany]; simp
            refine st6 b0 hb1 hlt h1 h2 h3 ?_
            refine m_app (xs := ((l.take j).filter (keepS id g _)).map Spt.av) (tk := tk) (ys := [l[j].av]) (t2 := .zero) (B := s.alloc (.cells g.cells)) (N := s.n + 1) (by simp) (by simp) (hg.alloc _) (by simp) (by simp; omega) (hm.alloc _) (head_map Spt.row _) (by simp) (by simp at hfl ⊢; omega) (by simp at hfl ⊢; omega) ?_
            intro s3 tk3 hg3 hm3 _ _
            refine st0 ?_
            exact ⟨r - 1, by omega, j + 1, tk3, by omega, hg3, by rw [hsn, hk]; simpa using hm3, by rw [hsn, hk]; simp [w3]⟩
          · have hk : keepS id g true l[j] = false := by rw [decide_eq_false h3] at hany; simp only [keepS, hasIx, ← hany]; simp [h1, h2]
            refine st6 b0 hb1 hlt h1 h2 h3 ?_
            exact ⟨r - 1, by omega, j + 1, tk, by omega, hg.alloc _, by rw [hsn, hk]; simpa using hm.alloc _, by rw [hsn, hk]; simp [w3]⟩
    · have hk : keepS id g th l[j] = true := by simp [keepS, h1]
      repeat (first | simp -dsimp -implicitDefEqProofs (disch := first | omega | (simp <;> omega) | fail) [b0, hb1, hlt, h1] | ((with_reducible first | apply m_1 | apply m_0); (focus ((conv => lhs; simp -dsimp -implicitDefEqProofs (disch := first | omega | (simp <;> omega) | fail) [b0, hb1, hlt, h1]); done))) | ((with_reducible first | apply i_T | apply g_T); (focus (simp -dsimp -implicitDefEqProofs (disch := first | omega | (simp <;> omega) | fail) [b0, hb1, hlt, h1]; done))) | ((with_reducible first | apply i_F | apply g_F); (focus (simp -dsimp -implicitDefEqProofs (disch := first | omega | (simp <;> omega) | fail) [b0, hb1, hlt, h1]; done))))
      refine m_app (xs := ((l.take j).filter (keepS id g _)).map Spt.av) (tk := tk) (ys := [l[j].av]) (t2 := .zero) (B := s.alloc (.cells g.cells)) (N := s.n + 1) (by simp) (by simp) (hg.alloc _) (by simp) (by simp; omega) (hm.alloc _) (head_map Spt.row _) (by simp) (by simp at hfl ⊢; omega) (by simp at hfl ⊢; omega) ?_
      intro s3 tk3 hg3 hm3 _ _
      refine st0 ?_
      exact ⟨r - 1, by omega, j + 1, tk3, by omega, hg3, by rw [hsn, hk]; simpa using hm3, by rw [hsn, hk]; simp [w3]⟩
  have : j = l.length := by omega
  subst this
  rw [List.take_length] at hm ⊢
  have hbs := AState.lt_of_get hb1 (by simp)
  refine st2 hlt hb1 ?_
  exact end_ok rfl ⟨tk, dz0, fin hg⟩
end Go.Proofs.YtmpoeamfcienoaaGreat
end
section
namespace Go.Ab
def ACode.tl : ACode → ACode
  | .seq _ y => y
  | x => x
theorem layS_len (S : List Spt) (x : Spt) : (layS S x).length ≤ S.length + 1 := by
  have h := insRun_len (fun y : Spt => !lessS y x) (fun y : Spt => !decide (y.gr = x.gr) || !decide (y.ix = x.ix)) x S S.length
  rw [List.take_length] at h
  unfold layS insL insEnd
  split
  · exact h.1
  · next hn => have := h.2 (by simpa using hn); simp; omega
structure PartI (s : AState) (b : Nat) (p : Prt) (at_ : Plc) (was now : Grp) (L : List Grp) (S : List Spt) (s1 : AState) : Prop where
  rb : ∃ t1 t2, s1.get b = .cells [.sl (L.map Grp.av) t1, .sl (S.map Spt.av) t2]
  c0 : s1.get s.n = .cells p.cells
  c1 : s1.get (s.n + 1) = .cells at_.cells
  c3 : s1.get (s.n + 3) = .cells was.cells
  c4 : s1.get (s.n + 4) = .cells now.cells
  n : s.n + 5 ≤ s1.n
  old : ∀ x, x < s.n → x ≠ b → s1.get x = s.get x
theorem PartI.step {s : AState} {b : Nat} {p : Prt} {at_ : Plc} {was now : Grp} {L L' : List Grp} {S S' : List Spt} {s1 s2 : AState} (h : PartI s b p at_ was now L S s1) (hb : b < s.n) (hm : Mut [b] [b] s1 s2)
    (hr : ∃ t1 t2, s2.get b = .cells [.sl (L'.map Grp.av) t1, .sl (S'.map Spt.av) t2]) : PartI s b p at_ was now L' S' s2 := by
  obtain ⟨rb, c0, c1, c3, c4, n, old⟩ := h
  have k : ∀ x, x < s1.n → x ≠ b → s2.get x = s1.get x := fun x hx hn => hm.keep x hx (by simpa using hn)
  exact ⟨hr, (k _ (by omega) (by omega)).trans c0, (k _ (by omega) (by omega)).trans c1, (k _ (by omega) (by omega)).trans c3, (k _ (by omega) (by omega)).trans c4, by have := hm.n; omega, fun x hx hn => (k _ (by omega) hn).trans (old x hx hn)⟩
theorem PartI.mut {s : AState} {b : Nat} {p : Prt} {at_ : Plc} {was now : Grp} {L : List Grp} {S : List Spt} {s1 : AState} (h : PartI s b p at_ was now L S s1) : Mut [b] [b] s s1 :=
  ⟨by have := h.n; omega, fun x hx hn => h.old x hx (by simpa using hn), fun x hx => .inl hx⟩
end Go.Ab
namespace Go.Proofs.YtmpoeamfcienoaaGreat
open Go.Ab
set_option linter.unusedVariables false
set_option linter.unusedSimpArgs false
set_option maxRecDepth 100000
set_option maxHeartbeats 1000000
theorem rn_laderef13_Ledger_Part {b : Nat} {L : List Grp} {S : List Spt} {p : Prt} {at_ : Plc} {s : AState} (hR : RefAt s b L S) (hL : ∀ g ∈ L, Spar g) (hl1 : ((L.length : Int) + 1) * 72 ≤ 140737488355328) (hl2 : ((S.length : Int) + p.es.length + 2) * 32 ≤ 140737488355328) :
    Runs (compCode prog) prog F_laderef13_Ledger_Part [.p b 0, p.av, at_.av] s (fun _ s' => RefAt s' b (refP at_ (L, S) p).1 (refP at_ (L, S) p).2 ∧ Mut [b] [b] s s') := by
  obtain ⟨t1, t2, hb⟩ := hR
  have hbn := AState.lt_of_get hb (by simp)
  have hpe : (p.es.length : Int) < 9223372036854775808 := by omega
  refine runs_e h_laderef13_Ledger_Part (Nat.le_of_ble_eq_true rfl) ?_
  refine st0 ?_
  refine gv (ct_laderef4_Is (p := p) hpe) ?_
  cases hp : isPart p with
  | false =>
    refine st0 ?_
    refine ret_ok rfl ⟨?_, ?_⟩
    · refine ⟨t1, t2, ?_⟩
      simp (disch := first | omega | (simp <;> omega) | fail) [refP, hp, hb]
    · exact .grows (((Grows.refl s).alloc _).alloc _)
  | true =>
  by_cases hk5 : p.kd = 5
  · refine st2 hb hk5 ?_
    refine gv (ct_laderef7_Without (l := L) (i := p.gr) (by omega)) ?_
    refine st1 hb ?_
    refine run (Runs.strip (args := [.p b 0, .v (.int .i64 p.gr), .agg [.v (.int .i64 0), .v (.int .i64 0), .v (.int .i64 0), .v (.int .i64 0), .v (.int .i64 0), .v (.int .i64 0), .sl [] .zero], .v (.bool false)]) (rn_laderef13_Ledger_clear (b := b) (L := L.filter fun g => !decide (g.id = p.gr)) (l := S) (t1 := .no) (t2 := t2) (id := p.gr) (g := zeroG) (th := false) (dz0) (by omega) (by simp [zeroG]))) rfl ?_
    rintro _ s2 ⟨tk, k1, k2⟩
    refine st0 ?_
    refine ret_ok rfl ⟨⟨.no, tk, by simp [refP, hp, hk5, k1]⟩, .trans ?_ k2⟩
    refine ⟨by simp; omega, fun y hy hn => ?_, fun y hy => .inl hy⟩
    have : y ≠ b := by simpa using hn
    simp (disch := first | omega | (simp <;> omega) | fail) [this]
  · obtain ⟨T, hT⟩ : ∃ T, T = A_laderef13_Ledger_Part.body.tl.tl.tl.tl.tl.tl := ⟨_, rfl⟩
    simp only [A_laderef13_Ledger_Part, ACode.tl] at hT
    rw [← hT]
    refine st2 hb hk5 ?_
    refine gv (ct_laderef7_Many_Get (b := s.n + 1 + 1) (l := L) (tk := t1) (i := p.gr) (dz0) (by omega)) ?_
    have hpg : 0 ≤ p.gr ∧ p.gr ≤ 999 := by simp only [isPart, Bool.and_eq_true] at hp; simpa [btw] using hp.1.1
    have hwas : Spar ((getG L p.gr).getD (newG p.gr)) := by
      cases h : getG L p.gr with
      | none => exact newG_spar hpg
      | some g => exact hL g (List.mem_of_find?_eq_some h)
    have tail : ∀ (was : Grp) (e : List (Nat × AV)) (s1 : AState), was = (getG L p.gr).getD (newG p.gr) → Ab.get e 0 = .p b 0 → Ab.get e 4 = .p s.n 0 → Ab.get e 5 = .p (s.n + 1) 0 → Ab.get e 7 = .p (s.n + 3) 0 → s1.n = s.n + 4 →
        (∀ x, x < s.n → s1.get x = s.get x) → s1.get s.n = .cells p.cells → s1.get (s.n + 1) = .cells at_.cells → s1.get (s.n + 3) = .cells was.cells →
        wp prog none T (fnQ [] fun _ s' => RefAt s' b (refP at_ (L, S) p).1 (refP at_ (L, S) p).2 ∧ Mut [b] [b] s s') { t := den 163 e, d := [] } s1 := by
      intro was e s1 hw g0 g4 g5 g7 hn1 hold c0 c1 c3
      rw [← hw] at hwas
      have hnow := hwas.doS p
      have hR : refP at_ (L, S) p = (withS L (doS was p), refS at_ p was (doS was p) S) := by simp only [refP]; rw [if_pos hp, if_neg hk5, ← hw]
      rw [hR]
      clear hR hw
      have hb1 : s1.get b = .cells [.sl (L.map Grp.av) t1, .sl (S.map Spt.av) t2] := (hold b hbn).trans hb
      obtain ⟨T2, hT2⟩ : ∃ T2, T2 = T.tl.tl.tl.tl := ⟨_, rfl⟩
      rw [hT] at hT2 ⊢
      simp only [ACode.tl] at hT2
      rw [← hT2]
      have hMI := MI_eq
      have hfl := hnow.len
      refine st6 g0 g4 g5 g7 c0 c3 ?_
      refine gv (ct_laderef6_Loose (p := p) hwas hpe) ?_
      generalize doS was p = now at hnow hfl ⊢
      refine st4 g0 g4 hn1 hb1 ?_
      refine gv (ct_laderef7_With (l := L) (g := now) hl1) ?_
      refine st5 g0 g4 hn1 hb1 c0 ?_
      refine run (rn_laderef13_Ledger_clear (b := b) (L := withS L now) (l := S) (t1 := .no) (t2 := t2) (id := p.gr) (g := now) (th := true) ?_ (by omega) (by omega)) (by simp) ?_
      · simp (disch := first | omega | (simp <;> omega) | fail)
      rintro _ s2 ⟨tk, k1, k2⟩
      have hP : PartI s b p at_ was now (withS L now) (S.filter (keepS p.gr now true)) s2 := by
        have h0 : PartI s b p at_ was now (withS L now) S ((s1.set b (.cells [.sl ((withS L now).map Grp.av) .no, .sl (S.map Spt.av) t2])).alloc (.cells now.cells)) := by
          have z1 : s.n ≠ b := by omega
          have z2 : s.n + 1 ≠ b := by omega
          have z3 : s.n + 3 ≠ b := by omega
          exact ⟨⟨.no, t2, dz0⟩, dz2 c0 z1, dz2 c1 z2, dz2 c3 z3, dz1 hn1, by simp; omega, fun x hx hn => dz2 (hold x hx) hn⟩
        exact h0.step hbn k2 ⟨_, _, k1⟩
      clear k1 k2
      have hQ : ∀ s', PartI s b p at_ was now (withS L now) (refS at_ p was now S) s' → RefAt s' b (withS L now, refS at_ p was now S).1 (withS L now, refS at_ p was now S).2 ∧ Mut [b] [b] s s' := fun s' h => ⟨h.rb, h.mut⟩
      generalize hQd : (fun (_ : AV) s' => RefAt s' b (withS L now, refS at_ p was now S).1 (withS L now, refS at_ p was now S).2 ∧ Mut [b] [b] s s') = Q
      have hQ : ∀ x s', PartI s b p at_ was now (withS L now) (refS at_ p was now S) s' → Q x s' := fun x s' h => by rw [← hQd]; exact hQ s' h
      clear hQd
      unfold refS at hQ
      simp only at hQ
      have hS1 : (S.filter (keepS p.gr now true)).length ≤ S.length := List.length_filter_le ..
      generalize S.filter (keepS p.gr now true) = S1 at hP hQ hS1
      have tail2 : ∀ (S2 : List Spt) (e : List (Nat × AV)) (s3 : AState), S2.length ≤ S.length + p.es.length → PartI s b p at_ was now (withS L now) S2 s3 →
          (∀ x s', PartI s b p at_ was now (withS L now) (if refMark p was now = true then layS (if p.kd = 2 ∨ p.he = true then layS S2 ⟨p.gr, -1, at_.sg, at_.at_⟩ else S2) ⟨p.gr, 0, at_.sg, at_.at_⟩ else (if p.kd = 2 ∨ p.he = true then layS S2 ⟨p.gr, -1, at_.sg, at_.at_⟩ else S2)) s' → Q x s') →
          Ab.get e 0 = .p b 0 → Ab.get e 4 = .p s.n 0 → Ab.get e 5 = .p (s.n + 1) 0 → Ab.get e 7 = .p (s.n + 3) 0 → Ab.get e 9 = .p (s.n + 4) 0 →
          wp prog none T2 (fnQ [] Q) { t := den 163 e, d := [] } s3 := by
        intro S2 e s3 hlen hP hQ g0 g4 g5 g7 g9
        obtain ⟨T3, hT3⟩ : ∃ T3, T3 = T2.tl := ⟨_, rfl⟩
        rw [hT2] at hT3 ⊢
        simp only [ACode.tl] at hT3
        rw [← hT3]
        have hfi := okHead_iff.1 hnow.hd
        have hw1 : IntKind.wrap .i64 (now.fi - 1) = now.fi - 1 := wrap_i64 (by omega) (by omega)
        have tail3 : ∀ (S3 : List Spt) (e : List (Nat × AV)) (s3 : AState), S3.length ≤ S.length + p.es.length + 1 → PartI s b p at_ was now (withS L now) S3 s3 →
            (∀ x s', PartI s b p at_ was now (withS L now) (if refMark p was now = true then layS S3 ⟨p.gr, 0, at_.sg, at_.at_⟩ else S3) s' → Q x s') →
            Ab.get e 0 = .p b 0 → Ab.get e 4 = .p s.n 0 → Ab.get e 5 = .p (s.n + 1) 0 → Ab.get e 7 = .p (s.n + 3) 0 → Ab.get e 9 = .p (s.n + 4) 0 →
            wp prog none T3 (fnQ [] Q) { t := den 163 e, d := [] } s3 := by
          intro S3 e s3 hlen hP hQ g0 g4 g5 g7 g9
          rw [hT3]
          obtain ⟨⟨u1, u2, rb⟩, d0, d1, d3, d4, dn, dold⟩ := id hP
          have fin0 : refMark p was now = false → ∀ {t : List AV}, fnQ [] Q .normal { t := t, d := [] } s3 := fun h t => end_ok rfl (hQ _ _ (by rw [h]; exact hP))
          have fin1 : refMark p was now = true → Runs (compCode prog) prog F_laderef13_Ledger_lay [.p b 0, (⟨p.gr, 0, at_.sg, at_.at_⟩ : Spt).av] s3 (fun _ s' => ∀ {t : List AV}, fnQ [] Q .normal { t := t, d := [] } s') := fun h =>
            (rn_laderef13_Ledger_lay (b := b) (L := withS L now) (l := S3) (t1 := u1) (t2 := u2) (x := ⟨p.gr, 0, at_.sg, at_.at_⟩) rb (by omega)).mono (by
              rintro _ s4 ⟨tk, m1, m2⟩ t
              exact end_ok rfl (hQ _ _ (by rw [h]; exact hP.step hbn m2 ⟨_, _, m1⟩)))
          generalize hmk : refMark p was now = mk at fin0 fin1
          unfold refMark at hmk
          clear hQ hP hT hT2 hT3 hnow hfl hwas hfi hL hS1 hb1 hold c0 c1 c3 hb
          by_cases a1 : p.kd = 3 ∨ p.kd = 4
          · by_cases a2 : now.fi = was.fi
            · cases a4 : p.mr with
              | false =>
                have hf := @fin0 (by rw [← hmk]; simp [a2, a4])
                clear fin0 fin1 hmk
                rcases a1 with a1 | a1
                · repeat (first | simp -dsimp -implicitDefEqProofs (disch := first | omega | (simp <;> omega) | fail) [g0, g4, g5, g7, g9, d0, d1, d3, d4, a1, a2, a4] | ((with_reducible first | apply m_1 | apply m_0); (focus ((conv => lhs; simp -dsimp -implicitDefEqProofs (disch := first | omega | (simp <;> omega) | fail) [g0, g4, g5, g7, g9, d0, d1, d3, d4, a1, a2, a4]); done))) | ((with_reducible first | apply i_T | apply g_T); (focus (simp -dsimp -implicitDefEqProofs (disch := first | omega | (simp <;> omega) | fail) [g0, g4, g5, g7, g9, d0, d1, d3, d4, a1, a2, a4]; done))) | ((with_reducible first | apply i_F | apply g_F); (focus (simp -dsimp -implicitDefEqProofs (disch := first | omega | (simp <;> omega) | fail) [g0, g4, g5, g7, g9, d0, d1, d3, d4, a1, a2, a4]; done))))
                  exact hf
                · repeat (first | simp -dsimp -implicitDefEqProofs (disch := first | omega | (simp <;> omega) | fail) [g0, g4, g5, g7, g9, d0, d1, d3, d4, a1, a2, a4] | ((with_reducible first | apply m_1 | apply m_0); (focus ((conv => lhs; simp -dsimp -implicitDefEqProofs (disch := first | omega | (simp <;> omega) | fail) [g0, g4, g5, g7, g9, d0, d1, d3, d4, a1, a2, a4]); done))) | ((with_reducible first | apply i_T | apply g_T); (focus (simp -dsimp -implicitDefEqProofs (disch := first | omega | (simp <;> omega) | fail) [g0, g4, g5, g7, g9, d0, d1, d3, d4, a1, a2, a4]; done))) | ((with_reducible first | apply i_F | apply g_F); (focus (simp -dsimp -implicitDefEqProofs (disch := first | omega | (simp <;> omega) | fail) [g0, g4, g5, g7, g9, d0, d1, d3, d4, a1, a2, a4]; done))))
                  exact hf
              | true =>
                have hw1' := hw1
                rw [a2] at hw1'
                rcases a1 with a1 | a1
                · by_cases a5 : now.fi - 1 = p.ix
                  · have a5' := a5
                    rw [a2] at a5'
                    have hw2 : IntKind.wrap .i64 p.ix = p.ix := by rw [← a5]; exact hw1
                    by_cases a6 : now.tm = p.tm
                    · have hf := fin1 (by rw [← hmk]; simp [a2, a4, a1, a5, a5', a6])
                      repeat (first | simp -dsimp -implicitDefEqProofs (disch := first | omega | (simp <;> omega) | fail) [g0, g4, g5, g7, g9, d0, d1, d3, d4, hw1, hw2, hw1', a2, a4, a1, a5, a5', a6] | ((with_reducible first | apply m_1 | apply m_0); (focus ((conv => lhs; simp -dsimp -implicitDefEqProofs (disch := first | omega | (simp <;> omega) | fail) [g0, g4, g5, g7, g9, d0, d1, d3, d4, hw1, hw2, hw1', a2, a4, a1, a5, a5', a6]); done))) | ((with_reducible first | apply i_T | apply g_T); (focus (simp -dsimp -implicitDefEqProofs (disch := first | omega | (simp <;> omega) | fail) [g0, g4, g5, g7, g9, d0, d1, d3, d4, hw1, hw2, hw1', a2, a4, a1, a5, a5', a6]; done))) | ((with_reducible first | apply i_F | apply g_F); (focus (simp -dsimp -implicitDefEqProofs (disch := first | omega | (simp <;> omega) | fail) [g0, g4, g5, g7, g9, d0, d1, d3, d4, hw1, hw2, hw1', a2, a4, a1, a5, a5', a6]; done))))
                      refine run hf (by simp [Spt.av, Spt.cells, Plc.cells]) ?_
                      intro _ s4 hk
                      refine st0 ?_
                      exact hk
                    · have hf := @fin0 (by rw [← hmk]; simp [a2, a4, a1, a5, a5', a6])
                      repeat (first | simp -dsimp -implicitDefEqProofs (disch := first | omega | (simp <;> omega) | fail) [g0, g4, g5, g7, g9, d0, d1, d3, d4, hw1, hw2, hw1', a2, a4, a1, a5, a5', a6] | ((with_reducible first | apply m_1 | apply m_0); (focus ((conv => lhs; simp -dsimp -implicitDefEqProofs (disch := first | omega | (simp <;> omega) | fail) [g0, g4, g5, g7, g9, d0, d1, d3, d4, hw1, hw2, hw1', a2, a4, a1, a5, a5', a6]); done))) | ((with_reducible first | apply i_T | apply g_T); (focus (simp -dsimp -implicitDefEqProofs (disch := first | omega | (simp <;> omega) | fail) [g0, g4, g5, g7, g9, d0, d1, d3, d4, hw1, hw2, hw1', a2, a4, a1, a5, a5', a6]; done))) | ((with_reducible first | apply i_F | apply g_F); (focus (simp -dsimp -implicitDefEqProofs (disch := first | omega | (simp <;> omega) | fail) [g0, g4, g5, g7, g9, d0, d1, d3, d4, hw1, hw2, hw1', a2, a4, a1, a5, a5', a6]; done))))
                      exact hf
                  · have a5' := a5
                    rw [a2] at a5'
                    have hf := @fin0 (by rw [← hmk]; simp [a2, a4, a1, a5'])
                    repeat (first | simp -dsimp -implicitDefEqProofs (disch := first | omega | (simp <;> omega) | fail) [g0, g4, g5, g7, g9, d0, d1, d3, d4, hw1, hw1', a2, a4, a1, a5, a5'] | ((with_reducible first | apply m_1 | apply m_0); (focus ((conv => lhs; simp -dsimp -implicitDefEqProofs (disch := first | omega | (simp <;> omega) | fail) [g0, g4, g5, g7, g9, d0, d1, d3, d4, hw1, hw1', a2, a4, a1, a5, a5']); done))) | ((with_reducible first | apply i_T | apply g_T); (focus (simp -dsimp -implicitDefEqProofs (disch := first | omega | (simp <;> omega) | fail) [g0, g4, g5, g7, g9, d0, d1, d3, d4, hw1, hw1', a2, a4, a1, a5, a5']; done))) | ((with_reducible first | apply i_F | apply g_F); (focus (simp -dsimp -implicitDefEqProofs (disch := first | omega | (simp <;> omega) | fail) [g0, g4, g5, g7, g9, d0, d1, d3, d4, hw1, hw1', a2, a4, a1, a5, a5']; done))))
                    exact hf
                · by_cases a5 : now.fi - 1 = p.ix
                  · have a5' := a5
                    rw [a2] at a5'
                    have hw2 : IntKind.wrap .i64 p.ix = p.ix := by rw [← a5]; exact hw1
                    by_cases a6 : now.tm = p.tm
                    · have hf := fin1 (by rw [← hmk]; simp [a2, a4, a1, a5, a5', a6])
                      repeat (first | simp -dsimp -implicitDefEqProofs (disch := first | omega | (simp <;> omega) | fail) [g0, g4, g5, g7, g9, d0, d1, d3, d4, hw1, hw2, hw1', a2, a4, a1, a5, a5', a6] | ((with_reducible first | apply m_1 | apply m_0); (focus ((conv => lhs; simp -dsimp -implicitDefEqProofs (disch := first | omega | (simp <;> omega) | fail) [g0, g4, g5, g7, g9, d0, d1, d3, d4, hw1, hw2, hw1', a2, a4, a1, a5, a5', a6]); done))) | ((with_reducible first | apply i_T | apply g_T); (focus (simp -dsimp -implicitDefEqProofs (disch := first | omega | (simp <;> omega) | fail) [g0, g4, g5, g7, g9, d0, d1, d3, d4, hw1, hw2, hw1', a2, a4, a1, a5, a5', a6]; done))) | ((with_reducible first | apply i_F | apply g_F); (focus (simp -dsimp -implicitDefEqProofs (disch := first | omega | (simp <;> omega) | fail) [g0, g4, g5, g7, g9, d0, d1, d3, d4, hw1, hw2, hw1', a2, a4, a1, a5, a5', a6]; done))))
                      refine run hf (by simp [Spt.av, Spt.cells, Plc.cells]) ?_
                      intro _ s4 hk
                      refine st0 ?_
                      exact hk
                    · have hf := @fin0 (by rw [← hmk]; simp [a2, a4, a1, a5, a5', a6])
                      repeat (first | simp -dsimp -implicitDefEqProofs (disch := first | omega | (simp <;> omega) | fail) [g0, g4, g5, g7, g9, d0, d1, d3, d4, hw1, hw2, hw1', a2, a4, a1, a5, a5', a6] | ((with_reducible first | apply m_1 | apply m_0); (focus ((conv => lhs; simp -dsimp -implicitDefEqProofs (disch := first | omega | (simp <;> omega) | fail) [g0, g4, g5, g7, g9, d0, d1, d3, d4, hw1, hw2, hw1', a2, a4, a1, a5, a5', a6]); done))) | ((with_reducible first | apply i_T | apply g_T); (focus (simp -dsimp -implicitDefEqProofs (disch := first | omega | (simp <;> omega) | fail) [g0, g4, g5, g7, g9, d0, d1, d3, d4, hw1, hw2, hw1', a2, a4, a1, a5, a5', a6]; done))) | ((with_reducible first | apply i_F | apply g_F); (focus (simp -dsimp -implicitDefEqProofs (disch := first | omega | (simp <;> omega) | fail) [g0, g4, g5, g7, g9, d0, d1, d3, d4, hw1, hw2, hw1', a2, a4, a1, a5, a5', a6]; done))))
                      exact hf
                  · have a5' := a5
                    rw [a2] at a5'
                    have hf := @fin0 (by rw [← hmk]; simp [a2, a4, a1, a5'])
                    repeat (first | simp -dsimp -implicitDefEqProofs (disch := first | omega | (simp <;> omega) | fail) [g0, g4, g5, g7, g9, d0, d1, d3, d4, hw1, hw1', a2, a4, a1, a5, a5'] | ((with_reducible first | apply m_1 | apply m_0); (focus ((conv => lhs; simp -dsimp -implicitDefEqProofs (disch := first | omega | (simp <;> omega) | fail) [g0, g4, g5, g7, g9, d0, d1, d3, d4, hw1, hw1', a2, a4, a1, a5, a5']); done))) | ((with_reducible first | apply i_T | apply g_T); (focus (simp -dsimp -implicitDefEqProofs (disch := first | omega | (simp <;> omega) | fail) [g0, g4, g5, g7, g9, d0, d1, d3, d4, hw1, hw1', a2, a4, a1, a5, a5']; done))) | ((with_reducible first | apply i_F | apply g_F); (focus (simp -dsimp -implicitDefEqProofs (disch := first | omega | (simp <;> omega) | fail) [g0, g4, g5, g7, g9, d0, d1, d3, d4, hw1, hw1', a2, a4, a1, a5, a5']; done))))
                    exact hf
            · have hf := fin1 (by rw [← hmk]; rcases a1 with a1 | a1 <;> simp [a1, a2])
              clear fin0 fin1 hmk
              rcases a1 with a1 | a1
              · repeat (first | simp -dsimp -implicitDefEqProofs (disch := first | omega | (simp <;> omega) | fail) [g0, g4, g5, g7, g9, d0, d1, d3, d4, a1, a2] | ((with_reducible first | apply m_1 | apply m_0); (focus ((conv => lhs; simp -dsimp -implicitDefEqProofs (disch := first | omega | (simp <;> omega) | fail) [g0, g4, g5, g7, g9, d0, d1, d3, d4, a1, a2]); done))) | ((with_reducible first | apply i_T | apply g_T); (focus (simp -dsimp -implicitDefEqProofs (disch := first | omega | (simp <;> omega) | fail) [g0, g4, g5, g7, g9, d0, d1, d3, d4, a1, a2]; done))) | ((with_reducible first | apply i_F | apply g_F); (focus (simp -dsimp -implicitDefEqProofs (disch := first | omega | (simp <;> omega) | fail) [g0, g4, g5, g7, g9, d0, d1, d3, d4, a1, a2]; done))))
                refine run hf (by simp [Spt.av, Spt.cells, Plc.cells]) ?_
                intro _ s4 hk
                refine st0 ?_
                exact hk
              · repeat (first | simp -dsimp -implicitDefEqProofs (disch := first | omega | (simp <;> omega) | fail) [g0, g4, g5, g7, g9, d0, d1, d3, d4, a1, a2] | ((with_reducible first | apply m_1 | apply m_0); (focus ((conv => lhs; simp -dsimp -implicitDefEqProofs (disch := first | omega | (simp <;> omega) | fail) [g0, g4, g5, g7, g9, d0, d1, d3, d4, a1, a2]); done))) | ((with_reducible first | apply i_T | apply g_T); (focus (simp -dsimp -implicitDefEqProofs (disch := first | omega | (simp <;> omega) | fail) [g0, g4, g5, g7, g9, d0, d1, d3, d4, a1, a2]; done))) | ((with_reducible first | apply i_F | apply g_F); (focus (simp -dsimp -implicitDefEqProofs (disch := first | omega | (simp <;> omega) | fail) [g0, g4, g5, g7, g9, d0, d1, d3, d4, a1, a2]; done))))
                refine run hf (by simp [Spt.av, Spt.cells, Plc.cells]) ?_
                intro _ s4 hk
                refine st0 ?_
                exact hk
          · have a3 : ¬ p.kd = 3 := fun h => a1 (.inl h)
            have a3' : ¬ p.kd = 4 := fun h => a1 (.inr h)
            cases a4 : p.mr with
            | false =>
              have hf := @fin0 (by rw [← hmk]; simp [a3, a3', a4])
              repeat (first | simp -dsimp -implicitDefEqProofs (disch := first | omega | (simp <;> omega) | fail) [g0, g4, g5, g7, g9, d0, d1, d3, d4, a3, a3', a4] | ((with_reducible first | apply m_1 | apply m_0); (focus ((conv => lhs; simp -dsimp -implicitDefEqProofs (disch := first | omega | (simp <;> omega) | fail) [g0, g4, g5, g7, g9, d0, d1, d3, d4, a3, a3', a4]); done))) | ((with_reducible first | apply i_T | apply g_T); (focus (simp -dsimp -implicitDefEqProofs (disch := first | omega | (simp <;> omega) | fail) [g0, g4, g5, g7, g9, d0, d1, d3, d4, a3, a3', a4]; done))) | ((with_reducible first | apply i_F | apply g_F); (focus (simp -dsimp -implicitDefEqProofs (disch := first | omega | (simp <;> omega) | fail) [g0, g4, g5, g7, g9, d0, d1, d3, d4, a3, a3', a4]; done))))
              exact hf
            | true =>
              by_cases a5 : now.fi - 1 = p.ix
              · have hw2 : IntKind.wrap .i64 p.ix = p.ix := by rw [← a5]; exact hw1
                by_cases a6 : now.tm = p.tm
                · have hf := fin1 (by rw [← hmk]; simp [a3, a3', a4, a5, a6])
                  repeat (first | simp -dsimp -implicitDefEqProofs (disch := first | omega | (simp <;> omega) | fail) [g0, g4, g5, g7, g9, d0, d1, d3, d4, hw1, hw2, a3, a3', a4, a5, a6] | ((with_reducible first | apply m_1 | apply m_0); (focus ((conv => lhs; simp -dsimp -implicitDefEqProofs (disch := first | omega | (simp <;> omega) | fail) [g0, g4, g5, g7, g9, d0, d1, d3, d4, hw1, hw2, a3, a3', a4, a5, a6]); done))) | ((with_reducible first | apply i_T | apply g_T); (focus (simp -dsimp -implicitDefEqProofs (disch := first | omega | (simp <;> omega) | fail) [g0, g4, g5, g7, g9, d0, d1, d3, d4, hw1, hw2, a3, a3', a4, a5, a6]; done))) | ((with_reducible first | apply i_F | apply g_F); (focus (simp -dsimp -implicitDefEqProofs (disch := first | omega | (simp <;> omega) | fail) [g0, g4, g5, g7, g9, d0, d1, d3, d4, hw1, hw2, a3, a3', a4, a5, a6]; done))))
                  refine run hf (by simp [Spt.av, Spt.cells, Plc.cells]) ?_
                  intro _ s4 hk
                  refine st0 ?_
                  exact hk
                · have hf := @fin0 (by rw [← hmk]; simp [a3, a3', a4, a5, a6])
                  repeat (first | simp -dsimp -implicitDefEqProofs (disch := first | omega | (simp <;> omega) | fail) [g0, g4, g5, g7, g9, d0, d1, d3, d4, hw1, hw2, a3, a3', a4, a5, a6] | ((with_reducible first | apply m_1 | apply m_0); (focus ((conv => lhs; simp -dsimp -implicitDefEqProofs (disch := first | omega | (simp <;> omega) | fail) [g0, g4, g5, g7, g9, d0, d1, d3, d4, hw1, hw2, a3, a3', a4, a5, a6]); done))) | ((with_reducible first | apply i_T | apply g_T); (focus (simp -dsimp -implicitDefEqProofs (disch := first | omega | (simp <;> omega) | fail) [g0, g4, g5, g7, g9, d0, d1, d3, d4, hw1, hw2, a3, a3', a4, a5, a6]; done))) | ((with_reducible first | apply i_F | apply g_F); (focus (simp -dsimp -implicitDefEqProofs (disch := first | omega | (simp <;> omega) | fail) [g0, g4, g5, g7, g9, d0, d1, d3, d4, hw1, hw2, a3, a3', a4, a5, a6]; done))))
                  exact hf
              · have hf := @fin0 (by rw [← hmk]; simp [a3, a3', a4, a5])
                repeat (first | simp -dsimp -implicitDefEqProofs (disch := first | omega | (simp <;> omega) | fail) [g0, g4, g5, g7, g9, d0, d1, d3, d4, hw1, a3, a3', a4, a5] | ((with_reducible first | apply m_1 | apply m_0); (focus ((conv => lhs; simp -dsimp -implicitDefEqProofs (disch := first | omega | (simp <;> omega) | fail) [g0, g4, g5, g7, g9, d0, d1, d3, d4, hw1, a3, a3', a4, a5]); done))) | ((with_reducible first | apply i_T | apply g_T); (focus (simp -dsimp -implicitDefEqProofs (disch := first | omega | (simp <;> omega) | fail) [g0, g4, g5, g7, g9, d0, d1, d3, d4, hw1, a3, a3', a4, a5]; done))) | ((with_reducible first | apply i_F | apply g_F); (focus (simp -dsimp -implicitDefEqProofs (disch := first | omega | (simp <;> omega) | fail) [g0, g4, g5, g7, g9, d0, d1, d3, d4, hw1, a3, a3', a4, a5]; done))))
                exact hf
        obtain ⟨⟨u1, u2, rb⟩, d0, d1, d3, d4, dn, dold⟩ := id hP
        have hlay : p.kd = 2 ∨ p.he = true → Runs (compCode prog) prog F_laderef13_Ledger_lay [.p b 0, (⟨p.gr, -1, at_.sg, at_.at_⟩ : Spt).av] s3 (fun _ s' => ∀ (e : List (Nat × AV)), Ab.get e 0 = .p b 0 → Ab.get e 4 = .p s.n 0 → Ab.get e 5 = .p (s.n + 1) 0 → Ab.get e 7 = .p (s.n + 3) 0 → Ab.get e 9 = .p (s.n + 4) 0 →
            wp prog none T3 (fnQ [] Q) { t := den 163 e, d := [] } s') := fun h =>
          (rn_laderef13_Ledger_lay (b := b) (L := withS L now) (l := S2) (t1 := u1) (t2 := u2) (x := ⟨p.gr, -1, at_.sg, at_.at_⟩) rb (by omega)).mono (by
            rintro _ s4 ⟨tk, m1, m2⟩ e g0 g4 g5 g7 g9
            exact tail3 (layS S2 ⟨p.gr, -1, at_.sg, at_.at_⟩) e s4 (by have := layS_len S2 ⟨p.gr, -1, at_.sg, at_.at_⟩; omega) (hP.step hbn m2 ⟨_, _, m1⟩) (by simp only [if_pos h] at hQ; exact hQ) g0 g4 g5 g7 g9)
        by_cases h1 : p.kd = 2
        · refine st8 g0 g4 g5 g7 g9 d0 d1 h1 ?_
          refine run (hlay (.inl h1)) (by simp [Spt.av, Spt.cells, Plc.cells]) ?_
          intro _ s4 hk
          refine st0 ?_
          exact hk _ (by simp [g0]) (by simp [g4]) (by simp [g5]) (by simp [g7]) (by simp [g9])
        · cases h2 : p.he with
          | true =>
            refine st9 g0 g4 g5 g7 g9 d0 d1 h1 h2 ?_
            refine run (hlay (.inr h2)) (by simp [Spt.av, Spt.cells, Plc.cells]) ?_
            intro _ s4 hk
            refine st0 ?_
            exact hk _ (by simp [g0]) (by simp [g4]) (by simp [g5]) (by simp [g7]) (by simp [g9])
          | false =>
            refine st9 g0 g4 g5 g7 g9 d0 d1 h1 h2 ?_
            have hn : ¬ (p.kd = 2 ∨ p.he = true) := by simp [h1, h2]
            simp only [if_neg hn] at hQ
            exact tail3 S2 _ s3 (by omega) hP hQ (by simp [g0]) (by simp [g4]) (by simp [g5]) (by simp [g7]) (by simp [g9])
      refine st0 ?_
      refine loop_ok [0, 4, 5, 7, 9, 10] (fun r a s3 => ∃ (j : Nat) (S2 : List Spt), j + r = p.es.length ∧ S2 = (p.es.take j).foldl (fun S e => if lhas now e = true then layS S ⟨p.gr, e.ix, at_.sg, at_.at_⟩ else S) S1 ∧ S2.length ≤ S.length + j ∧ PartI s b p at_ was now (withS L now) S2 s3 ∧
        a = { t := den 163 [(0, .p b 0), (4, .p s.n 0), (5, .p (s.n + 1) 0), (7, .p (s.n + 3) 0), (9, .p (s.n + 4) 0), (10, .v (.int .i64 j))], d := [] }) p.es.length ?_ ?_
      · exact ⟨0, S1, by simp, rfl, by omega, hP, by simp [g0, g4, g5, g7]⟩
      rintro r a s3 ⟨j, S2, hir, hS2, hlen, hP, rfl⟩
      have hP' := hP
      obtain ⟨⟨u1, u2, rb⟩, d0, d1, d3, d4, dn, dold⟩ := hP'
      by_cases hlt : j < p.es.length
      · have w3 : IntKind.wrap .i64 ((j : Int) + 1) = (j : Int) + 1 := wrap_i64 (by omega) (by omega)
        have hsn : (p.es.take (j + 1)).foldl (fun S e => if lhas now e = true then layS S ⟨p.gr, e.ix, at_.sg, at_.at_⟩ else S) S1 = if lhas now p.es[j] = true then layS S2 ⟨p.gr, p.es[j].ix, at_.sg, at_.at_⟩ else S2 := by
          have e : p.es.take (j + 1) = p.es.take j ++ [p.es[j]] := (List.take_append_getElem hlt).symm
          rw [e, List.foldl_append, ← hS2]; rfl
        clear hS2
        repeat (first | simp -dsimp -implicitDefEqProofs (disch := first | omega | (simp <;> omega) | fail) [d0, d4, hlt] | ((with_reducible first | apply m_1 | apply m_0); (focus ((conv => lhs; simp -dsimp -implicitDefEqProofs (disch := first | omega | (simp <;> omega) | fail) [d0, d4, hlt]); done))) | ((with_reducible first | apply i_T | apply g_T); (focus (simp -dsimp -implicitDefEqProofs (disch := first | omega | (simp <;> omega) | fail) [d0, d4, hlt]; done))) | ((with_reducible first | apply i_F | apply g_F); (focus (simp -dsimp -implicitDefEqProofs (disch := first | omega | (simp <;> omega) | fail) [d0, d4, hlt]; done))))
        refine gv (ct_laderef6_At (g := now) (i := p.es[j].ix) (by omega)) ?_
        cases hfi : now.es.findIdx? fun e => decide (e.ix = p.es[j].ix) with
        | none =>
          have hI : idxS (fun e : Ent => decide (e.ix = p.es[j].ix)) now.es = -1 := by unfold idxS; rw [hfi]
          have hF : lhas now p.es[j] = false := by
            have : now.es.find? (fun x => decide (x.ix = p.es[j].ix)) = none := List.find?_eq_none.2 fun x hx => by have := List.findIdx?_eq_none_iff.1 hfi x hx; simpa using this
            unfold lhas; rw [this]
          rw [hI]
          refine st0 ?_
          exact ⟨r - 1, by omega, j + 1, S2, by omega, by rw [hsn, hF]; rfl, by omega, hP, by simp [w3]⟩
        | some k =>
          have hI : idxS (fun e : Ent => decide (e.ix = p.es[j].ix)) now.es = k := by unfold idxS; rw [hfi]
          obtain ⟨hk, hpk, hno⟩ := List.findIdx?_eq_some_iff_getElem.1 hfi
          have hF : lhas now p.es[j] = decide (now.es[k] = p.es[j]) := by
            have : now.es.find? (fun x => decide (x.ix = p.es[j].ix)) = some now.es[k] := by
              rw [List.find?_eq_some_iff_getElem]
              exact ⟨hpk, k, hk, rfl, fun j hj => by have := hno j hj; simpa using this⟩
            unfold lhas; rw [this]
          rw [hI]
          by_cases he : now.es[k] = p.es[j]
          · repeat (first | simp -dsimp -implicitDefEqProofs (disch := first | omega | (simp <;> omega) | fail) [d0, d1, d4, hlt, hk, he] | ((with_reducible first | apply m_1 | apply m_0); (focus ((conv => lhs; simp -dsimp -implicitDefEqProofs (disch := first | omega | (simp <;> omega) | fail) [d0, d1, d4, hlt, hk, he]); done))) | ((with_reducible first | apply i_T | apply g_T); (focus (simp -dsimp -implicitDefEqProofs (disch := first | omega | (simp <;> omega) | fail) [d0, d1, d4, hlt, hk, he]; done))) | ((with_reducible first | apply i_F | apply g_F); (focus (simp -dsimp -implicitDefEqProofs (disch := first | omega | (simp <;> omega) | fail) [d0, d1, d4, hlt, hk, he]; done))))
            refine run (rn_laderef13_Ledger_lay (b := b) (L := withS L now) (l := S2) (t1 := u1) (t2 := u2) (x := ⟨p.gr, p.es[j].ix, at_.sg, at_.at_⟩) rb (by omega)) (by simp [Spt.av, Spt.cells, Plc.cells]) ?_
            rintro _ s4 ⟨tk4, m1, m2⟩
            refine st0 ?_
            exact ⟨r - 1, by omega, j + 1, _, by omega, by rw [hsn, hF]; simp [he], by have := layS_len S2 ⟨p.gr, p.es[j].ix, at_.sg, at_.at_⟩; omega, hP.step hbn m2 ⟨_, _, m1⟩, by simp [w3]⟩
          · repeat (first | simp -dsimp -implicitDefEqProofs (disch := first | omega | (simp <;> omega) | fail) [d0, d1, d4, hlt, hk, he] | ((with_reducible first | apply m_1 | apply m_0); (focus ((conv => lhs; simp -dsimp -implicitDefEqProofs (disch := first | omega | (simp <;> omega) | fail) [d0, d1, d4, hlt, hk, he]); done))) | ((with_reducible first | apply i_T | apply g_T); (focus (simp -dsimp -implicitDefEqProofs (disch := first | omega | (simp <;> omega) | fail) [d0, d1, d4, hlt, hk, he]; done))) | ((with_reducible first | apply i_F | apply g_F); (focus (simp -dsimp -implicitDefEqProofs (disch := first | omega | (simp <;> omega) | fail) [d0, d1, d4, hlt, hk, he]; done))))
            exact ⟨r - 1, by omega, j + 1, S2, by omega, by rw [hsn, hF]; simp [he], by omega, hP, by simp [w3]⟩
      have : j = p.es.length := by omega
      subst this
      rw [List.take_length] at hS2
      refine st2 hlt d0 ?_
      refine tail2 S2 _ s3 hlen hP ?_ rfl rfl rfl rfl rfl
      rw [hS2]; exact hQ
    cases hG : getG L p.gr with
    | none =>
      refine st2 hG hb ?_
      refine gv (ct_laderef6_New (id := p.gr)) ?_
      refine st0 ?_
      refine tail (newG p.gr) _ _ (by rw [hG]; rfl) rfl rfl rfl rfl rfl ?_ ?_ ?_ ?_
      · intro x hx; simp (disch := first | omega | (simp <;> omega) | fail)
      all_goals simp (disch := first | omega | (simp <;> omega) | fail)
    | some was =>
      refine st2 hG hb ?_
      refine tail was _ _ (by rw [hG]; rfl) rfl rfl rfl rfl rfl ?_ ?_ ?_ ?_
      · intro x hx; simp (disch := first | omega | (simp <;> omega) | fail)
      all_goals simp (disch := first | omega | (simp <;> omega) | fail)
end Go.Proofs.YtmpoeamfcienoaaGreat
end
section
namespace Go.Ab
def refL (at_ : Plc) (x : List Grp × List Spt) (l : List Prt) : List Grp × List Spt := l.foldl (refP at_) x
def wtL (l : List Prt) : Nat := (l.map fun p => p.es.length + 2).sum
theorem withS_len (l : List Grp) (g : Grp) : (withS l g).length ≤ l.length + 1 := by
  have h := insRun_len (fun x : Grp => decide (g.id ≤ x.id)) (fun x : Grp => !decide (x.id = g.id)) g l l.length
  rw [List.take_length] at h
  unfold withS insL insEnd
  split
  · exact h.1
  · next hn => have := h.2 (by simpa using hn); simp; omega
theorem ins_mem {α : Type} (le ne : α → Bool) (g : α) {l : List α} {x : α} (h : x ∈ insL le ne g l) : x = g ∨ x ∈ l := by
  rw [ins_eq] at h
  induction l with
  | nil => simp [insR] at h; exact .inl h
  | cons y l ih =>
    unfold insR at h
    split at h
    · rcases List.mem_cons.1 h with rfl | h
      · exact .inl rfl
      · exact .inr (List.mem_filter.1 h).1
    split at h
    · rcases List.mem_cons.1 h with rfl | h
      · exact .inr (by simp)
      · exact (ih h).imp id (by intro h; simp [h])
    · exact (ih h).imp id (by intro h; simp [h])
theorem refS_len (at_ : Plc) (p : Prt) (was now : Grp) (S : List Spt) : (refS at_ p was now S).length ≤ S.length + (p.es.length + 2) := by
  have h1 : (S.filter (keepS p.gr now true)).length ≤ S.length := List.length_filter_le ..
  have h2 : ∀ (es : List Ent) (S : List Spt), (es.foldl (fun S e => if lhas now e = true then layS S ⟨p.gr, e.ix, at_.sg, at_.at_⟩ else S) S).length ≤ S.length + es.length := by
    intro es
    induction es with
    | nil => intro S; simp
    | cons e es ih =>
      intro S
      rw [List.foldl_cons]
      refine Nat.le_trans (ih _) ?_
      have := layS_len S ⟨p.gr, e.ix, at_.sg, at_.at_⟩
      split <;> simp <;> omega
  have h3 := h2 p.es (S.filter (keepS p.gr now true))
  unfold refS
  simp only
  generalize p.es.foldl (fun S e => if lhas now e = true then layS S ⟨p.gr, e.ix, at_.sg, at_.at_⟩ else S) (S.filter (keepS p.gr now true)) = S2 at h3 ⊢
  have h4 := layS_len S2 ⟨p.gr, -1, at_.sg, at_.at_⟩
  have h5 := layS_len S2 ⟨p.gr, 0, at_.sg, at_.at_⟩
  have h6 := layS_len (layS S2 ⟨p.gr, -1, at_.sg, at_.at_⟩) ⟨p.gr, 0, at_.sg, at_.at_⟩
  split <;> split <;> omega
theorem getG_spar {L : List Grp} (hL : ∀ g ∈ L, Spar g) {p : Prt} (hp : isPart p = true) : Spar ((getG L p.gr).getD (newG p.gr)) := by
  have hpg : 0 ≤ p.gr ∧ p.gr ≤ 999 := by simp only [isPart, Bool.and_eq_true] at hp; simpa [btw] using hp.1.1
  cases h : getG L p.gr with
  | none => exact newG_spar hpg
  | some g => exact hL g (List.mem_of_find?_eq_some h)
theorem refP_ok (at_ : Plc) (x : List Grp × List Spt) (p : Prt) (h : ∀ g ∈ x.1, Spar g) : (∀ g ∈ (refP at_ x p).1, Spar g) ∧ (refP at_ x p).1.length ≤ x.1.length + 1 ∧ (refP at_ x p).2.length ≤ x.2.length + (p.es.length + 2) := by
  unfold refP
  split
  · next hp =>
    split
    · exact ⟨fun g hg => h g (List.mem_filter.1 hg).1, Nat.le_succ_of_le (List.length_filter_le ..), Nat.le_trans (List.length_filter_le ..) (by omega)⟩
    · refine ⟨fun g hg => ?_, withS_len _ _, refS_len _ _ _ _ _⟩
      rcases ins_mem _ _ _ hg with rfl | hg
      · exact (getG_spar h hp).doS p
      · exact h g hg
  · exact ⟨h, by omega, by omega⟩
theorem refL_snoc {at_ : Plc} {x : List Grp × List Spt} {l : List Prt} {k : Nat} (h : k < l.length) : refL at_ x (l.take (k + 1)) = refP at_ (refL at_ x (l.take k)) l[k] := by
  have e : l.take (k + 1) = l.take k ++ [l[k]] := (List.take_append_getElem h).symm
  rw [e, refL, List.foldl_append]; rfl
end Go.Ab
namespace Go.Proofs.YtmpoeamfcienoaaGreat
open Go.Ab
set_option linter.unusedVariables false
set_option linter.unusedSimpArgs false
set_option maxRecDepth 100000
set_option maxHeartbeats 1000000
theorem rn_laderef13_Ledger_Do {b : Nat} {L : List Grp} {S : List Spt} {l : List Prt} {at_ : Plc} {s : AState} (hR : RefAt s b L S) (hL : ∀ g ∈ L, Spar g) (hl1 : ((L.length : Int) + l.length) * 72 ≤ 140737488355328) (hl2 : ((S.length : Int) + wtL l) * 32 ≤ 140737488355328) :
    Runs (compCode prog) prog F_laderef13_Ledger_Do [.p b 0, .sl (l.map Prt.av) .no, at_.av] s (fun _ s' => RefAt s' b (refL at_ (L, S) l).1 (refL at_ (L, S) l).2 ∧ Mut [b] [b] s s') := by
  have hbn : b < s.n := by obtain ⟨t1, t2, hb⟩ := hR; exact AState.lt_of_get hb (by simp)
  refine runs_e h_laderef13_Ledger_Do (Nat.le_of_ble_eq_true rfl) ?_
  refine st0 ?_
  have hW : ∀ j, wtL (l.take j) ≤ wtL l := fun j => by
    have h := congrArg wtL (List.take_append_drop j l)
    unfold wtL at h ⊢
    rw [List.map_append, List.sum_append] at h
    omega
  refine loop_ok [0, 1, 5, 6] (fun r a s1 => ∃ j : Nat, j + r = l.length ∧ RefAt s1 b (refL at_ (L, S) (l.take j)).1 (refL at_ (L, S) (l.take j)).2 ∧ Mut [b] [b] s s1 ∧ s1.get s.n = .cells at_.cells ∧ s.n < s1.n ∧
      (∀ g ∈ (refL at_ (L, S) (l.take j)).1, Spar g) ∧ (refL at_ (L, S) (l.take j)).1.length ≤ L.length + j ∧ (refL at_ (L, S) (l.take j)).2.length ≤ S.length + wtL (l.take j) ∧
      a = { t := den 20 [(0, .p b 0), (1, .sl (l.map Prt.av) .no), (5, .p s.n 0), (6, .v (.int .i64 j))], d := [] }) l.length ?_ ?_
  · obtain ⟨t1, t2, hb⟩ := hR
    exact ⟨0, by simp, ⟨t1, t2, by simp (disch := first | omega | (simp <;> omega) | fail) [hb, refL]⟩, .grows ((Grows.refl s).alloc _), by simp, by simp, hL, by simp [refL], by simp [refL, wtL], by simp⟩
  rintro r a s1 ⟨j, hir, hR1, hm1, c5, hn1, hL1, hz1, hz2, rfl⟩
  by_cases hlt : j < l.length
  · have w3 : IntKind.wrap .i64 ((j : Int) + 1) = (j : Int) + 1 := wrap_i64 (by omega) (by omega)
    have hsn := refL_snoc (at_ := at_) (x := (L, S)) hlt
    have hok := refP_ok at_ (refL at_ (L, S) (l.take j)) l[j] hL1
    have hws : wtL (l.take (j + 1)) = wtL (l.take j) + (l[j].es.length + 2) := by
      have e : l.take (j + 1) = l.take j ++ [l[j]] := (List.take_append_getElem hlt).symm
      rw [e]; simp only [wtL, List.map_append, List.sum_append, List.map_cons, List.map_nil]; simp
    have hW1 := hW (j + 1)
    have hsn1 : (refL at_ (L, S) (l.take j)) = ((refL at_ (L, S) (l.take j)).1, (refL at_ (L, S) (l.take j)).2) := rfl
    generalize (refL at_ (L, S) (l.take j)) = X at hsn hok hR1 hL1 hz1 hz2
    obtain ⟨X1, X2⟩ := X
    simp only at hR1 hL1 hz1 hz2
    repeat (first | simp -dsimp -implicitDefEqProofs (disch := first | omega | (simp <;> omega) | fail) [hlt, c5] | ((with_reducible first | apply m_1 | apply m_0); (focus ((conv => lhs; simp -dsimp -implicitDefEqProofs (disch := first | omega | (simp <;> omega) | fail) [hlt, c5]); done))) | ((with_reducible first | apply i_T | apply g_T); (focus (simp -dsimp -implicitDefEqProofs (disch := first | omega | (simp <;> omega) | fail) [hlt, c5]; done))) | ((with_reducible first | apply i_F | apply g_F); (focus (simp -dsimp -implicitDefEqProofs (disch := first | omega | (simp <;> omega) | fail) [hlt, c5]; done))))
    refine run (rn_laderef13_Ledger_Part (b := b) (p := l[j]) (at_ := at_) hR1 hL1 (by omega) (by omega)) (by simp) ?_
    rintro _ s2 ⟨k1, k2⟩
    refine st0 ?_
    rw [← hsn] at k1 hok
    exact ⟨r - 1, by omega, j + 1, by omega, k1, hm1.trans k2, (k2.keep _ hn1 (by simp; omega)).trans c5, by have := k2.n; omega, hok.1, by have := hok.2.1; simp only at this ⊢; omega, by have := hok.2.2; simp only at this ⊢; omega, by simp [w3]⟩
  have : j = l.length := by omega
  subst this
  rw [List.take_length] at hR1
  refine st1 hlt ?_
  exact end_ok rfl ⟨hR1, hm1⟩
end Go.Proofs.YtmpoeamfcienoaaGreat
end
section
namespace Go.Ab
set_option linter.unusedVariables false
set_option linter.unusedSimpArgs false
theorem ins_put {α β κ : Type} [DecidableEq κ] [Key κ] (key : α → κ) (val : α → β) (le ne : α → Bool) (g : α) (hle : ∀ x, le x = !decide (Key.lt (key x) (key g))) (hne : ∀ x, ne x = !decide (key x = key g)) :
    ∀ {l : List α}, Srt (l.map fun x => (key x, val x)) → (insL le ne g l).map (fun x => (key x, val x)) = putL (l.map fun x => (key x, val x)) (key g) (val g) := by
  intro l h
  rw [ins_eq]
  induction l with
  | nil => rfl
  | cons x l ih =>
    rw [List.map_cons] at h
    obtain ⟨h1, h2⟩ := List.pairwise_cons.1 h
    unfold insR
    rw [hle, hne, List.map_cons, putL]
    by_cases a : Key.lt (key x) (key g)
    · rw [if_neg (by simp [a]), if_pos (by simp [Key.ne a]), if_neg (Key.asymm a), if_neg (Key.ne a).symm, List.map_cons, ih h2]
    · rw [if_pos (by simp [a])]
      have hrest : ∀ y ∈ l, Key.lt (key x) (key y) := fun y hy => h1 _ (List.mem_map_of_mem hy)
      by_cases b : key x = key g
      · rw [if_neg (by rw [b]; exact Key.irrefl _), if_pos b.symm]
        rw [List.filter_cons_of_neg (by rw [hne]; simp [b])]
        have : l.filter ne = l := List.filter_eq_self.2 fun y hy => by rw [hne]; have := Key.ne (hrest y hy); rw [b] at this; simp [Ne.symm this]
        rw [this, List.map_cons]
      · have hlt : Key.lt (key g) (key x) := Key.tri a b
        rw [if_pos hlt]
        have : (x :: l).filter ne = x :: l := List.filter_eq_self.2 fun y hy => by
          rw [hne]
          rcases List.mem_cons.1 hy with rfl | hy
          · simp [b]
          · have := Key.ne (Key.trans hlt (hrest y hy)); simp [Ne.symm this]
        rw [this, List.map_cons, List.map_cons]
def spK (s : Spt) : (Int × Int) × Plc := ((s.gr, s.ix), ⟨s.sg, s.at_⟩)
def ofK (x : (Int × Int) × Plc) : Spt := ⟨x.1.1, x.1.2, x.2.sg, x.2.at_⟩
def kv (S : List Spt) : List ((Int × Int) × Plc) := S.map spK
theorem ofK_kv (S : List Spt) : (kv S).map ofK = S := by
  unfold kv; rw [List.map_map]
  have : ofK ∘ spK = id := rfl
  rw [this, List.map_id]
theorem kv_inj {a b : List Spt} (h : kv a = kv b) : a = b := by rw [← ofK_kv a, h, ofK_kv]
theorem kv_lay {S : List Spt} {x : Spt} (h : Srt (kv S)) : kv (layS S x) = putL (kv S) (x.gr, x.ix) ⟨x.sg, x.at_⟩ := by
  refine ins_put (fun s : Spt => (s.gr, s.ix)) (fun s => (⟨s.sg, s.at_⟩ : Plc)) _ _ x (fun y => ?_) (fun y => ?_) h
  · have : decide (Key.lt (y.gr, y.ix) (x.gr, x.ix)) = lessS y x := by
      unfold lessS
      have e : Key.lt (y.gr, y.ix) (x.gr, x.ix) ↔ y.gr < x.gr ∨ y.gr = x.gr ∧ y.ix < x.ix := Iff.rfl
      have e3 : decide (Key.lt (y.gr, y.ix) (x.gr, x.ix)) = decide (y.gr < x.gr ∨ y.gr = x.gr ∧ y.ix < x.ix) := decide_eq_decide.2 e
      rw [e3]
      by_cases h1 : y.gr < x.gr <;> by_cases h2 : y.gr = x.gr <;> by_cases h3 : y.ix < x.ix <;> simp [h1, h2, h3]
    rw [this]
  · by_cases h1 : y.gr = x.gr <;> by_cases h2 : y.ix = x.ix <;> simp [h1, h2]
def keepK (id : Int) (x : Grp) (there : Bool) (k : Int × Int) : Bool := !decide (k.1 = id) || there && (decide (k.2 ≤ 0) || hasIx x.es k.2)
theorem kv_keep (id : Int) (x : Grp) (th : Bool) (S : List Spt) : kv (S.filter (keepS id x th)) = (kv S).filter fun y => keepK id x th y.1 := by
  unfold kv
  rw [List.filter_map]
  rfl
theorem lk_spots {M : List (Int × LogV)} (hM : MOk M) (g i : Int) : lk (kv (spotsM M)) (g, i) = (lk M g).bind fun v => lk v.sp i := by
  induction M with
  | nil => rfl
  | cons x M ih =>
    obtain ⟨h1, h2⟩ := hM
    obtain ⟨h3, h4⟩ := List.pairwise_cons.1 h1
    have ih := ih ⟨h4, fun y hy => h2 y (by simp [hy])⟩
    have hid := (h2 x (by simp)).id
    have e : kv (spotsM (x :: M)) = (x.2.sp.map fun y => ((x.1, y.1), y.2)) ++ kv (spotsM M) := by
      simp only [kv, spotsM, List.flatMap_cons, List.map_append, List.map_map]
      congr 1
      apply List.map_congr_left
      intro y _
      simp [spK, hid]
    rw [e, lk_append, ih, lk_cons]
    have e2 : ∀ (sp : List (Int × Plc)), lk (sp.map fun y => ((x.1, y.1), y.2)) (g, i) = if g = x.1 then lk sp i else none := by
      intro sp
      induction sp with
      | nil => simp
      | cons y sp ih2 =>
        rw [List.map_cons, lk_cons, ih2, lk_cons]
        by_cases a : g = x.1 <;> by_cases b : i = y.1 <;> simp [a, b]
    rw [e2]
    by_cases a : g = x.1
    · rw [if_pos a, if_pos a]
      have : lk M g = none := lk_none1.2 fun y hy e => by have := h3 y hy; rw [e, a] at this; exact Key.irrefl _ this
      rw [this]; simp
    · rw [if_neg a, if_neg a]; rfl
theorem spots_srt {M : List (Int × LogV)} (hM : MOk M) : Srt (kv (spotsM M)) := by
  induction M with
  | nil => exact List.Pairwise.nil
  | cons x M ih =>
    obtain ⟨h1, h2⟩ := hM
    obtain ⟨h3, h4⟩ := List.pairwise_cons.1 h1
    have ih := ih ⟨h4, fun y hy => h2 y (by simp [hy])⟩
    have hx := h2 x (by simp)
    simp only [kv, spotsM, List.flatMap_cons, List.map_append] at ih ⊢
    refine List.pairwise_append.2 ⟨?_, ih, ?_⟩
    · rw [List.pairwise_map, List.pairwise_map]
      exact hx.srt.imp fun h => .inr ⟨rfl, h⟩
    · intro a ha b hb
      obtain ⟨a1, ha1, rfl⟩ := List.mem_map.1 ha
      obtain ⟨a2, ha2, rfl⟩ := List.mem_map.1 ha1
      obtain ⟨b1, hb1, rfl⟩ := List.mem_map.1 hb
      obtain ⟨b2, hb2, hb3⟩ := List.mem_flatMap.1 hb1
      obtain ⟨b3, hb4, rfl⟩ := List.mem_map.1 hb3
      refine .inl ?_
      show x.2.g.id < b2.2.g.id
      rw [hx.id, (h2 b2 (by simp [hb2])).id]
      exact h3 b2 hb2
def kvG (L : List Grp) : List (Int × Grp) := L.map fun g => (g.id, g)
theorem kvG_inj {a b : List Grp} (h : kvG a = kvG b) : a = b := by
  have e : ∀ L, (kvG L).map (·.2) = L := fun L => by unfold kvG; rw [List.map_map]; exact List.map_id _
  rw [← e a, h, e]
theorem kvG_M {M : List (Int × LogV)} (hM : ∀ x ∈ M, x.2.g.id = x.1) : kvG (grpsL M) = M.map fun x => (x.1, x.2.g) := by
  unfold kvG grpsL
  rw [List.map_map]
  exact List.map_congr_left fun x hx => by simp [hM x hx]
theorem getG_lk (L : List Grp) (i : Int) : getG L i = lk (kvG L) i := by
  induction L with
  | nil => rfl
  | cons g L ih =>
    show (g :: L).find? (fun g => decide (g.id = i)) = lk ((g.id, g) :: kvG L) i
    rw [lk_cons, List.find?_cons, ← ih]
    by_cases h : g.id = i
    · simp [h]
    · have : ¬ i = g.id := fun e => h e.symm
      simp [h, this, getG]
theorem getG_M {M : List (Int × LogV)} (hM : ∀ x ∈ M, x.2.g.id = x.1) (i : Int) : getG (grpsL M) i = (lk M i).map (·.g) := by
  rw [getG_lk, kvG_M hM, lk_map (fun v : LogV => v.g)]
theorem put_ids {M : List (Int × LogV)} (hM : ∀ x ∈ M, x.2.g.id = x.1) {i : Int} {v : LogV} (hv : v.g.id = i) : ∀ x ∈ putL M i v, x.2.g.id = x.1 := fun x hx => by
  rcases put_mem hx with rfl | hx
  · exact hv
  · exact hM x hx
theorem with_M {M : List (Int × LogV)} (hS : Srt M) (hM : ∀ x ∈ M, x.2.g.id = x.1) {v : LogV} : withS (grpsL M) v.g = grpsL (putL M v.g.id v) := by
  apply kvG_inj
  have hS1 : Srt (kvG (grpsL M)) := by rw [kvG_M hM]; exact hS.map fun v => v.g
  have e1 : kvG (withS (grpsL M) v.g) = putL (kvG (grpsL M)) v.g.id v.g := by
    refine ins_put (fun g : Grp => g.id) (fun g => g) _ _ v.g (fun y => ?_) (fun y => rfl) hS1
    have : Key.lt y.id v.g.id ↔ y.id < v.g.id := Iff.rfl
    by_cases h : y.id < v.g.id
    · simp [this, h]
    · simp [this, h]; omega
  rw [e1, kvG_M (put_ids hM rfl)]
  refine Srt.ext (hS1.put _ _) ((hS.put _ _).map fun v => v.g) fun k => ?_
  rw [lk_put, lk_map (fun v : LogV => v.g), lk_put, kvG_M hM, lk_map (fun v : LogV => v.g)]
  split <;> rfl
theorem del_M {M : List (Int × LogV)} (hM : ∀ x ∈ M, x.2.g.id = x.1) (i : Int) : (grpsL M).filter (fun g => !decide (g.id = i)) = grpsL (delL M i) := by
  unfold grpsL delL
  rw [List.filter_map]
  congr 1
  exact List.filter_congr fun x hx => by simp [hM x hx]
end Go.Ab
end
section
namespace Go.Ab
set_option linter.unusedVariables false
set_option linter.unusedSimpArgs false
theorem part_core {p : Prt} (h : isPart p = true) : p = core p := by
  simp only [isPart, Bool.and_eq_true, decide_eq_true_eq] at h; exact h.1.2
theorem part_es {p : Prt} (h : isPart p = true) (h1 : p.kd ≠ 1) (h6 : p.kd ≠ 6) : p.es = [] := by
  have e := congrArg Prt.es (part_core h)
  unfold core at e
  simp only at e
  rw [if_neg h1] at e
  split at e
  · exact e
  split at e
  · exact e
  first | exact e | (split at e <;> first | exact e | exact absurd ‹_› h6)
theorem part_mr {p : Prt} (h : isPart p = true) (h6 : p.kd ≠ 6) : p.mr = false := by
  have e := congrArg Prt.mr (part_core h)
  unfold core at e
  simp only at e
  split at e
  · exact e
  split at e
  · exact e
  split at e
  · exact e
  first | exact e | (split at e <;> first | exact e | exact absurd ‹_› h6)
theorem part_gr {p : Prt} (h : isPart p = true) : 0 ≤ p.gr ∧ p.gr ≤ 999 := by
  simp only [isPart, Bool.and_eq_true] at h; simpa [btw] using h.1.1
theorem marks_ref {p : Prt} (h : isPart p = true) (was now : Grp) : refMark p was now = marksS p was now := by
  unfold refMark marksS
  by_cases h3 : p.kd = 3 ∨ p.kd = 4
  · rw [if_pos h3]
    have h6 : p.kd ≠ 6 := by omega
    rw [part_mr h h6]
    have : (decide (p.kd = 3) || decide (p.kd = 4)) = true := by simpa using h3
    rw [this]; simp
  · rw [if_neg h3]
    have : (decide (p.kd = 3) || decide (p.kd = 4)) = false := by simpa using h3
    rw [this]
    by_cases h6 : p.kd = 6
    · rw [if_pos h6]
      have e1 : decide (now.fi - 1 = p.ix) = decide (p.ix = now.fi - 1) := decide_eq_decide.2 ⟨Eq.symm, Eq.symm⟩
      have e2 : decide (now.tm = p.tm) = decide (p.tm = now.tm) := decide_eq_decide.2 ⟨Eq.symm, Eq.symm⟩
      rw [e1, e2]; simp
    · rw [if_neg h6, part_mr h h6]; simp
theorem put_sub {g : Grp} {e x : Ent} (h : x ∈ (putS g e).es) : x ∈ g.es ∨ x = e := by
  unfold putS at h
  split at h
  · exact .inl h
  · simp only [List.mem_append, List.mem_cons, List.mem_filter] at h
    rcases h with h | h | h
    · exact .inl h.1
    · exact .inr h
    · exact .inl h.1
theorem puts_sub {l : List Ent} {g : Grp} {x : Ent} (h : x ∈ (l.foldl putS g).es) : x ∈ g.es ∨ x ∈ l := by
  induction l generalizing g with
  | nil => exact .inl h
  | cons e l ih =>
    rcases ih h with h | h
    · rcases put_sub h with h | h
      · exact .inl h
      · exact .inr (by simp [h])
    · exact .inr (by simp [h])
theorem gone_sub {g : Grp} {i t : Int} {x : Ent} (h : x ∈ (goneS g i t).es) : x ∈ g.es := by
  unfold goneS at h
  split at h
  · exact h
  · exact (List.mem_filter.1 h).1
theorem doS_sub {g : Grp} {p : Prt} {x : Ent} (h : x ∈ (doS g p).es) : x ∈ g.es ∨ x ∈ p.es := by
  unfold doS at h
  split at h
  · split at h
    · simp only [List.mem_append, List.mem_filter] at h
      exact h.imp And.left And.left
    split at h
    · exact .inl h
    split at h
    · exact .inl (gone_sub h)
    split at h
    · have := gone_sub h
      split at this
      · cases this
      · exact .inl this
    split at h
    · unfold fwdS at h
      simp only at h
      rcases puts_sub h with h | h
      · left
        split at h <;> split at h <;> first | exact gone_sub h | exact h
      · exact .inr h
    · exact .inl h
  · exact .inl h
theorem doS_id (g : Grp) (p : Prt) : (doS g p).id = g.id := by
  have h1 : ∀ (g : Grp) i t, (goneS g i t).id = g.id := fun g i t => by unfold goneS; split <;> rfl
  have h2 : ∀ (l : List Ent) (g : Grp), (l.foldl putS g).id = g.id := fun l => by
    induction l with
    | nil => intro g; rfl
    | cons e l ih => intro g; rw [List.foldl_cons, ih]; unfold putS; split <;> rfl
  unfold doS
  split
  · split
    · rfl
    split
    · rfl
    split
    · exact h1 _ _ _
    split
    · rw [h1]; split <;> rfl
    split
    · unfold fwdS; rw [h2]; split <;> split <;> first | rfl | exact h1 _ _ _
    · rfl
  · rfl
section
variable {look : Int → Option Plc} {p : Prt} {at_ : Plc}
theorem lk_nx0 (k : Int) (c : List (Int × Plc)) (i : Int) : lk (nx0 putL look k c) i = if i = k then (match look k with | some x => some x | none => lk c i) else lk c i := by
  unfold nx0
  cases look k with
  | none => simp
  | some x => simp [lk_put]
theorem lk_nx1s : ∀ {es : List Ent} (c : List (Int × Plc)) (i : Int), (es.Pairwise fun a b => a.ix < b.ix) →
    lk (es.foldl (nx1 putL look p at_) c) i = match es.find? (fun e => decide (e.ix = i)) with | some e => some (if broughtS p e = true then at_ else (look i).getD ⟨0, 0⟩) | none => lk c i
  | [], c, i, _ => rfl
  | e :: es, c, i, h => by
    obtain ⟨h1, h2⟩ := List.pairwise_cons.1 h
    rw [List.foldl_cons, lk_nx1s _ _ h2, List.find?_cons]
    have hc : lk (nx1 putL look p at_ c e) i = if i = e.ix then some (if broughtS p e = true then at_ else (look e.ix).getD ⟨0, 0⟩) else lk c i := by
      unfold nx1
      split
      · rw [lk_put, lk_put]; by_cases a : i = e.ix <;> simp [a]
      · rw [lk_put]
    by_cases a : e.ix = i
    · have : es.find? (fun e => decide (e.ix = i)) = none := List.find?_eq_none.2 fun x hx => by have := h1 x hx; simp; omega
      rw [this]
      simp only [hc, a]
      simp [a]
    · have : ¬ i = e.ix := fun e => a e.symm
      rw [hc, if_neg this]
      simp [a]
theorem lk_next (old now : Grp) (i : Int) (h : now.es.Pairwise fun a b => a.ix < b.ix) :
    lk (nextW putL look p at_ old now) i = if marksS p old now = true ∧ i = 0 then some at_ else if (p.kd = 2 ∨ p.he = true) ∧ i = -1 then some at_ else
      match now.es.find? (fun e => decide (e.ix = i)) with | some e => some (if broughtS p e = true then at_ else (look i).getD ⟨0, 0⟩) | none => if i = 0 ∨ i = -1 then look i else none := by
  unfold nextW
  have hI : lk (nxI putL look p at_ now.es) i = match now.es.find? (fun e => decide (e.ix = i)) with | some e => some (if broughtS p e = true then at_ else (look i).getD ⟨0, 0⟩) | none => if i = 0 ∨ i = -1 then look i else none := by
    unfold nxI
    rw [lk_nx1s _ _ h, lk_nx0, lk_nx0]
    cases now.es.find? (fun e => decide (e.ix = i)) with
    | some e => rfl
    | none =>
      by_cases a : i = 0
      · subst a; cases look 0 <;> simp
      · by_cases b : i = -1
        · subst b; cases look (-1) <;> simp
        · simp [a, b]
  unfold nxM nxH
  by_cases hm : marksS p old now = true
  · rw [if_pos hm, lk_put]
    by_cases a : i = 0
    · simp [hm, a]
    · rw [if_neg a, if_neg (fun h : marksS p old now = true ∧ i = 0 => a h.2)]
      by_cases hh : p.kd = 2 ∨ p.he = true
      · rw [if_pos hh, lk_put]
        by_cases b : i = -1
        · simp [hh, b]
        · rw [if_neg b, if_neg (fun h : (p.kd = 2 ∨ p.he = true) ∧ i = -1 => b h.2)]; exact hI
      · rw [if_neg hh, if_neg (fun h : (p.kd = 2 ∨ p.he = true) ∧ i = -1 => hh h.1)]; exact hI
  · rw [if_neg hm, if_neg (fun h : marksS p old now = true ∧ i = 0 => hm h.1)]
    by_cases hh : p.kd = 2 ∨ p.he = true
    · rw [if_pos hh, lk_put]
      by_cases b : i = -1
      · simp [hh, b]
      · rw [if_neg b, if_neg (fun h : (p.kd = 2 ∨ p.he = true) ∧ i = -1 => b h.2)]; exact hI
    · rw [if_neg hh, if_neg (fun h : (p.kd = 2 ∨ p.he = true) ∧ i = -1 => hh h.1)]; exact hI
end
theorem next_srt (look : Int → Option Plc) (p : Prt) (at_ : Plc) (old now : Grp) : Srt (nextW putL look p at_ old now) := (nextW_rep (look := look) (look' := look) (fun _ => rfl) p at_ old now).srt
theorem srt_lay {S : List Spt} (h : Srt (kv S)) (x : Spt) : Srt (kv (layS S x)) := by rw [kv_lay h]; exact h.put _ _
theorem lk_lay {S : List Spt} (h : Srt (kv S)) (x : Spt) (k : Int × Int) : lk (kv (layS S x)) k = if k = (x.gr, x.ix) then some ⟨x.sg, x.at_⟩ else lk (kv S) k := by rw [kv_lay h, lk_put]
theorem lk_lays {now : Grp} {gr : Int} {at_ : Plc} : ∀ (es : List Ent) {S : List Spt}, Srt (kv S) → Srt (kv (es.foldl (fun S e => if lhas now e = true then layS S ⟨gr, e.ix, at_.sg, at_.at_⟩ else S) S)) ∧
    ∀ i, lk (kv (es.foldl (fun S e => if lhas now e = true then layS S ⟨gr, e.ix, at_.sg, at_.at_⟩ else S) S)) (gr, i) = (if es.any (fun e => lhas now e && decide (e.ix = i)) = true then some at_ else lk (kv S) (gr, i))
  | [], S, h => ⟨h, fun i => rfl⟩
  | e :: es, S, h => by
    rw [List.foldl_cons]
    cases hl : lhas now e with
    | false =>
      rw [if_neg (by simp)]
      obtain ⟨k1, k2⟩ := lk_lays es h
      exact ⟨k1, fun i => by rw [k2, List.any_cons, hl]; simp⟩
    | true =>
      rw [if_pos rfl]
      obtain ⟨k1, k2⟩ := lk_lays es (srt_lay h ⟨gr, e.ix, at_.sg, at_.at_⟩)
      refine ⟨k1, fun i => ?_⟩
      rw [k2, List.any_cons, hl, lk_lay h]
      by_cases a : e.ix = i
      · subst a; simp
      · have : ¬ i = e.ix := fun e => a e.symm
        simp [a, this]
theorem lk_lays_other {now : Grp} {gr : Int} {at_ : Plc} : ∀ (es : List Ent) {S : List Spt}, Srt (kv S) → ∀ g i, g ≠ gr →
    lk (kv (es.foldl (fun S e => if lhas now e = true then layS S ⟨gr, e.ix, at_.sg, at_.at_⟩ else S) S)) (g, i) = lk (kv S) (g, i)
  | [], S, h => fun _ _ _ => rfl
  | e :: es, S, h => fun g i hg => by
    rw [List.foldl_cons]
    cases hl : lhas now e with
    | false => rw [if_neg (by simp)]; exact lk_lays_other es h g i hg
    | true =>
      rw [if_pos rfl, lk_lays_other es (srt_lay h _) g i hg, lk_lay h]
      simp [hg]
theorem refS_srt (at_ : Plc) (p : Prt) (was now : Grp) {S : List Spt} (h : Srt (kv S)) : Srt (kv (refS at_ p was now S)) := by
  unfold refS
  have h1 : Srt (kv (S.filter (keepS p.gr now true))) := by rw [kv_keep]; exact h.filter _
  have h2 := (lk_lays (now := now) (gr := p.gr) (at_ := at_) p.es h1).1
  simp only
  split <;> split
  · exact srt_lay (srt_lay h2 _) _
  · exact srt_lay h2 _
  · exact srt_lay h2 _
  · exact h2
theorem lk_refS (at_ : Plc) (p : Prt) (was now : Grp) {S : List Spt} (h : Srt (kv S)) (g i : Int) : lk (kv (refS at_ p was now S)) (g, i) =
    if g = p.gr then (if refMark p was now = true ∧ i = 0 then some at_ else if (p.kd = 2 ∨ p.he = true) ∧ i = -1 then some at_ else
      if p.es.any (fun e => lhas now e && decide (e.ix = i)) = true then some at_ else if i ≤ 0 ∨ hasIx now.es i = true then lk (kv S) (g, i) else none) else lk (kv S) (g, i) := by
  have h1 : Srt (kv (S.filter (keepS p.gr now true))) := by rw [kv_keep]; exact h.filter _
  have hk : lk (kv (S.filter (keepS p.gr now true))) (g, i) = if keepK p.gr now true (g, i) = true then lk (kv S) (g, i) else none := by rw [kv_keep, lk_filter]
  obtain ⟨h2, k2⟩ := lk_lays (now := now) (gr := p.gr) (at_ := at_) p.es h1
  have k3 := lk_lays_other (now := now) (gr := p.gr) (at_ := at_) p.es h1 g i
  unfold refS
  simp only
  generalize p.es.foldl (fun S e => if lhas now e = true then layS S ⟨p.gr, e.ix, at_.sg, at_.at_⟩ else S) (S.filter (keepS p.gr now true)) = S2 at h2 k2 k3 ⊢
  have key : lk (kv (if refMark p was now = true then layS (if p.kd = 2 ∨ p.he = true then layS S2 ⟨p.gr, -1, at_.sg, at_.at_⟩ else S2) ⟨p.gr, 0, at_.sg, at_.at_⟩ else if p.kd = 2 ∨ p.he = true then layS S2 ⟨p.gr, -1, at_.sg, at_.at_⟩ else S2)) (g, i) =
      if refMark p was now = true ∧ (g, i) = (p.gr, 0) then some at_ else if (p.kd = 2 ∨ p.he = true) ∧ (g, i) = (p.gr, -1) then some at_ else lk (kv S2) (g, i) := by
    by_cases hm : refMark p was now = true <;> by_cases hh : p.kd = 2 ∨ p.he = true
    · rw [if_pos hm, if_pos hh, lk_lay (srt_lay h2 _), lk_lay h2]
      by_cases a : (g, i) = (p.gr, 0) <;> by_cases b : (g, i) = (p.gr, -1) <;> simp [hm, hh, a, b]
    · rw [if_pos hm, if_neg hh, lk_lay h2]
      by_cases a : (g, i) = (p.gr, 0) <;> simp [hm, hh, a]
    · rw [if_neg hm, if_pos hh, lk_lay h2]
      by_cases b : (g, i) = (p.gr, -1) <;> simp [hm, hh, b]
    · rw [if_neg hm, if_neg hh]
      simp [hm, hh]
  rw [key]
  by_cases hg : g = p.gr
  · subst hg
    rw [k2, hk]
    simp [keepK]
  · rw [k3 hg, hk]
    simp [hg, keepK]
end Go.Ab
end
section
namespace Go.Ab
set_option linter.unusedVariables false
set_option linter.unusedSimpArgs false
theorem has_of {es : List Ent} (h : es.Pairwise fun a b => a.ix < b.ix) {i : Int} {e : Ent} (he : e ∈ es) (hi : e.ix = i) : es.find? (fun e => decide (e.ix = i)) = some e := by
  induction es with
  | nil => cases he
  | cons x es ih =>
    obtain ⟨h1, h2⟩ := List.pairwise_cons.1 h
    rw [List.find?_cons]
    rcases List.mem_cons.1 he with rfl | he
    · simp [hi]
    · have := h1 e he
      have hx : ¬ x.ix = i := by omega
      simp only [hx, decide_false]
      exact ih h2 he
theorem hasIx_find (es : List Ent) (i : Int) : hasIx es i = (es.find? fun e => decide (e.ix = i)).isSome := by
  unfold hasIx; rw [Bool.eq_iff_iff, List.find?_isSome, List.any_eq_true]
theorem VOk.new {id : Int} (h : 0 ≤ id ∧ id ≤ 999) : VOk id ⟨newG id, []⟩ := ⟨rfl, h, newG_spar h, .nil, by simp, by simp [newG]⟩
theorem VOk.do {i : Int} {v : LogV} (h : VOk i v) (p : Prt) (at_ : Plc) : VOk i (logDo v p at_) := by
  unfold logDo
  split
  case isFalse => exact h
  case isTrue hok =>
    have hS := h.g.doS p
    refine ⟨by rw [doS_id]; exact h.id, h.rng, hS, next_srt _ _ _ _ _, fun x hx => ?_, fun e he => ?_⟩
    · have hl := (next_srt (lk v.sp) p at_ v.g (doS v.g p)).lk_mem hx
      rw [lk_next _ _ _ hS.srt] at hl
      split at hl
      · next hc => exact .inr (.inl hc.2)
      split at hl
      · next hc => exact .inl hc.2
      split at hl
      · next e hf =>
        have := List.find?_some hf
        exact .inr (.inr ⟨e, List.mem_of_find?_eq_some hf, by simpa using (by simpa using this : e.ix = x.1).symm⟩)
      split at hl
      · next hc => rcases hc with hc | hc
                   · exact .inr (.inl hc)
                   · exact .inl hc
      · cases hl
    · have hl := lk_next (look := lk v.sp) (p := p) (at_ := at_) v.g (doS v.g p) e.ix hS.srt
      have hpos := (okEnt_iff.1 (hS.ok e he)).1
      rw [if_neg (fun hc => by have := hc.2; omega), if_neg (fun hc => by have := hc.2; omega), has_of hS.srt he rfl] at hl
      exact ⟨_, lk_mem hl, rfl⟩
theorem MOk.at {M : List (Int × LogV)} (hM : MOk M) {i : Int} (hi : 0 ≤ i ∧ i ≤ 999) : VOk i ((lk M i).getD ⟨newG i, []⟩) := by
  cases h : lk M i with
  | none => exact .new hi
  | some v => exact hM.2 _ (lk_mem h)
theorem MOk.doP {M : List (Int × LogV)} (hM : MOk M) (at_ : Plc) (p : Prt) : MOk (doP at_ M p) := by
  unfold Ab.doP
  split
  · next hp =>
    split
    · exact ⟨hM.1.del _, fun x hx => hM.2 x (List.mem_filter.1 hx).1⟩
    · refine ⟨hM.1.put _ _, fun x hx => ?_⟩
      rcases put_mem hx with rfl | hx
      · exact (hM.at (part_gr hp)).do p at_
      · exact hM.2 x hx
  · exact hM
theorem ref_doP {M : List (Int × LogV)} (hM : MOk M) (at_ : Plc) (p : Prt) : refP at_ (grpsL M, spotsM M) p = (grpsL (doP at_ M p), spotsM (doP at_ M p)) := by
  have hM' := hM.doP at_ p
  have hid : ∀ x ∈ M, x.2.g.id = x.1 := fun x hx => (hM.2 x hx).id
  have hS := spots_srt hM
  have hS' := spots_srt hM'
  unfold refP
  by_cases hp : isPart p = true
  · rw [if_pos hp]
    by_cases hk5 : p.kd = 5
    · rw [if_pos hk5]
      have hd : doP at_ M p = delL M p.gr := by unfold doP; rw [if_pos hp, if_pos hk5]
      rw [hd] at hM' hS' ⊢
      refine Prod.ext (del_M hid _) (kv_inj ?_)
      refine Srt.ext (by rw [kv_keep]; exact hS.filter _) hS' fun k => ?_
      obtain ⟨g, i⟩ := k
      simp only
      rw [kv_keep, lk_filter, lk_spots hM, lk_spots hM', lk_del]
      by_cases hg : g = p.gr <;> simp [keepK, hg]
    · rw [if_neg hk5]
      have hd : doP at_ M p = putL M p.gr (logDo ((lk M p.gr).getD ⟨newG p.gr, []⟩) p at_) := by unfold doP; rw [if_pos hp, if_neg hk5]
      have hv := hM.at (part_gr hp)
      have hw : (getG (grpsL M) p.gr).getD (newG p.gr) = ((lk M p.gr).getD ⟨newG p.gr, []⟩).g := by
        rw [getG_M hid]; cases lk M p.gr <;> rfl
      have hold : ∀ i, (lk M p.gr).bind (fun v => lk v.sp i) = lk ((lk M p.gr).getD ⟨newG p.gr, []⟩).sp i := fun i => by cases lk M p.gr <;> rfl
      rw [hd] at hM' hS' ⊢
      simp only
      rw [hw]
      generalize (lk M p.gr).getD ⟨newG p.gr, []⟩ = v at hv hold hM' hS' ⊢
      have hlog : logDo v p at_ = ⟨doS v.g p, nextW putL (lk v.sp) p at_ v.g (doS v.g p)⟩ := by
        unfold logDo; rw [if_pos]; unfold okDo; simp [hp, hv.id, hk5]
      have hN := hv.g.doS p
      have hsub : ∀ e ∈ (doS v.g p).es, e ∈ v.g.es ∨ e ∈ p.es := fun e he => doS_sub he
      have hgid : (doS v.g p).id = p.gr := by rw [doS_id]; exact hv.id
      rw [hlog] at hM' hS' ⊢
      have hW := with_M hM.1 hid (v := ⟨doS v.g p, nextW putL (lk v.sp) p at_ v.g (doS v.g p)⟩)
      simp only [hgid] at hW
      refine Prod.ext hW (kv_inj ?_)
      have hmr := marks_ref hp v.g (doS v.g p)
      refine Srt.ext (refS_srt _ _ _ _ hS) hS' fun k => ?_
      obtain ⟨g, i⟩ := k
      rw [lk_refS _ _ _ _ hS, lk_spots hM', lk_put, lk_spots hM]
      by_cases hg : g = p.gr
      · subst hg
        rw [if_pos rfl, if_pos rfl, hold, hmr]
        simp only [Option.bind_some]
        rw [lk_next _ _ _ hN.srt]
        generalize hnow : doS v.g p = now at hN hsub ⊢
        split
        · rfl
        split
        · rfl
        have hposE : ∀ e ∈ now.es, 1 ≤ e.ix := fun e he => (okEnt_iff.1 (hN.ok e he)).1.1
        have hlh : ∀ e ∈ p.es, (lhas now e && decide (e.ix = i)) = true ↔ e ∈ now.es ∧ e.ix = i := fun e he => by
          rw [Bool.and_eq_true, decide_eq_true_eq]
          refine and_congr_left fun hi => ?_
          unfold lhas
          constructor
          · intro h
            split at h
            · next x hx =>
              have : x = e := by simpa using h
              subst this
              exact List.mem_of_find?_eq_some hx
            · cases h
          · intro h
            rw [has_of hN.srt h rfl]
            simp
        cases hf : now.es.find? (fun e => decide (e.ix = i)) with
        | none =>
          have hno : p.es.any (fun e => lhas now e && decide (e.ix = i)) = false := by
            rw [List.any_eq_false]
            intro e he h
            obtain ⟨h1, h2⟩ := (hlh e he).1 h
            have := List.find?_eq_none.1 hf e h1
            simp [h2] at this
          rw [hno, hasIx_find, hf]
          by_cases h0 : i = 0 ∨ i = -1
          · rw [if_neg (by simp), if_pos (.inl (by omega)), if_pos h0]
          · rw [if_neg (by simp), if_neg h0]
            by_cases hi : i ≤ 0
            · rw [if_pos (.inl hi)]
              cases hl : lk v.sp i with
              | none => rfl
              | some x =>
                rcases hv.key _ (lk_mem hl) with h | h | ⟨e, he, h⟩
                · exact absurd (.inr h) h0
                · exact absurd (.inl h) h0
                · have := (okEnt_iff.1 (hv.g.ok e he)).1.1
                  simp only at h; omega
            · rw [if_neg (by simp; omega)]
        | some e =>
          have he := List.mem_of_find?_eq_some hf
          have hi : e.ix = i := by simpa using List.find?_some hf
          have h1 := hposE e he
          have hbr : p.es.any (fun e => lhas now e && decide (e.ix = i)) = broughtS p e := by
            unfold broughtS
            by_cases hk : p.kd = 1 ∨ p.kd = 6
            · have hk' : (decide (p.kd = 1) || decide (p.kd = 6)) = true := by simpa using hk
              rw [hk', Bool.true_and, Bool.eq_iff_iff, List.any_eq_true, List.any_eq_true]
              constructor
              · rintro ⟨x, hx, h⟩
                obtain ⟨h2, h3⟩ := (hlh x hx).1 h
                have := has_of hN.srt h2 h3
                rw [hf] at this
                exact ⟨x, hx, by simpa using this⟩
              · rintro ⟨x, hx, h⟩
                have : e = x := by simpa using h
                subst this
                exact ⟨e, hx, (hlh e hx).2 ⟨he, hi⟩⟩
            · rw [part_es hp (fun h => hk (.inl h)) (fun h => hk (.inr h))]; simp
          rw [hbr, hasIx_find, hf]
          simp only [Option.isSome_some, or_true, if_true]
          cases hb : broughtS p e with
          | true => simp
          | false =>
            simp only [if_false, Bool.false_eq_true]
            have hin : e ∈ v.g.es := by
              rcases hsub e he with h | h
              · exact h
              · exfalso
                have hk : p.kd = 1 ∨ p.kd = 6 := by
                  by_cases h1 : p.kd = 1
                  · exact .inl h1
                  by_cases h6 : p.kd = 6
                  · exact .inr h6
                  rw [part_es hp h1 h6] at h; cases h
                have hk' : (decide (p.kd = 1) || decide (p.kd = 6)) = true := by simpa using hk
                unfold broughtS at hb
                rw [hk', Bool.true_and, List.any_eq_false] at hb
                exact hb e h (by simp)
            obtain ⟨x, hx, hxi⟩ := hv.has e hin
            have : lk v.sp i = some x.2 := hv.srt.lk_mem (by rw [← hi, ← hxi]; exact hx)
            rw [this]; rfl
      · rw [if_neg hg, if_neg hg]
  · rw [if_neg hp]
    have hd : doP at_ M p = M := by unfold doP; rw [if_neg hp]
    rw [hd]
theorem MOk.doL {M : List (Int × LogV)} (hM : MOk M) (l : List Prt) (at_ : Plc) : MOk (doL M l at_) := by
  unfold Ab.doL
  induction l generalizing M with
  | nil => exact hM
  | cons p l ih => exact ih (hM.doP at_ p)
theorem ref_doL {M : List (Int × LogV)} (hM : MOk M) (l : List Prt) (at_ : Plc) : refL at_ (grpsL M, spotsM M) l = (grpsL (doL M l at_), spotsM (doL M l at_)) := by
  unfold refL doL
  induction l generalizing M with
  | nil => rfl
  | cons p l ih => rw [List.foldl_cons, List.foldl_cons, ref_doP hM, ih (hM.doP at_ p)]
end Go.Ab
end
section
namespace Go.Ab
open Go.RowKit Go.Proofs
set_option linter.unusedVariables false
set_option linter.unusedSimpArgs false
@[ext] structure Stp where
  l : List Prt
  sg : Int
  at_ : Int
  deriving DecidableEq, Inhabited
end Go.Ab
end
section
namespace Go.Proofs.YtmpoeamfcienoaaGreat
open Go.Ab
set_option linter.unusedVariables false
set_option linter.unusedSimpArgs false
set_option maxRecDepth 100000
set_option maxHeartbeats 4000000
def fewPart (p : Prt) : Bool := ((List.range p.es.length).all fun j => !decide ((60 : Int) < ((p.es.getD j default).da.size : Int))) && decide ((p.es.length : Int) ≤ 8)
def fewParts (l : List Prt) : Bool := ((List.range l.length).all fun j => fewPart (l.getD j default)) && decide ((l.length : Int) ≤ 6)
def fewFound (l : List Fnd) : Bool := ((List.range l.length).all fun j => fewParts (l.getD j default).ps) && decide ((l.length : Int) ≤ 30)
theorem ct_ladelaw14_fewPart {x : Prt} {s : AState} (hl : (x.es.length : Int) < 9223372036854775808)  : Gives prog F_ladelaw14_fewPart [x.av] s (.v (.bool (fewPart x))) s := by
  refine Runs.gives' (runs_e h_ladelaw14_fewPart (Nat.le_of_ble_eq_true rfl) ?_) (.v _)
  unfold fewPart
  refine st0 ?_
  refine loop_ok [0, 1, 3] (fun k a s1 => Grows (s.alloc (.cells x.cells)) s1 ∧ ∃ i : Nat, i + k = x.es.length ∧ ((List.range i).all (fun j => !decide ((60 : Int) < ((x.es.getD j default).da.size : Int)))) = true ∧ a = { t := den 23 [(0, x.av), (1, .p s.n 0), (3, .v (.int .i64 i))], d := [] }) x.es.length ?_ ?_
  · exact ⟨.refl _, 0, by simp, rfl, by simp⟩
  · rintro k a s1 ⟨hg, i, hik, hall, rfl⟩
    by_cases hlt : i < x.es.length
    · have e1 : x.es.getD i default = x.es[i] := by simp [hlt]
      have hG := trivial
      have hG2 := trivial
      have hw : IntKind.wrap .i64 ((i : Int) + 1) = (i : Int) + 1 := wrap_i64 (by omega) (by omega)
      have hgb := hg.get (b := s.n)
      try simp at hgb
      clear hl
      repeat' (first | refine sa0 ?_ | ((with_reducible first | apply s_split | apply s_gsplit) <;> (intro hb; have hb' := hb; try simp only [decide_eq_true_eq, decide_eq_false_iff_not, beq_iff_eq, beq_eq_false_iff_ne, bne_iff_ne, bne_eq_false_iff_eq, ne_eq, Bool.not_true, Bool.not_false, Bool.not_eq_true', Bool.not_eq_false', Bool.and_eq_true, Bool.or_eq_true, Bool.or_eq_false_iff] at hb; try simp at hb')))
      all_goals first
        | exact ⟨k - 1, by omega, (by first | exact hg | exact hg.alloc _), i + 1, by omega, all_step hall (by simp only [e1]; simp [*]), by simp [hw]⟩
        | (refine ret_ok rfl ⟨((Grows.refl _).alloc _).trans hg, ?_⟩; rw [all_stop hlt (by simp only [e1]; simp [*])]; exact AV.le.refl _)
    · have hgb := hg.get (b := s.n)
      try simp at hgb
      refine st2 hlt hgb ?_
      have : i = x.es.length := by omega
      subst this
      refine ret_ok rfl ⟨((Grows.refl _).alloc _).trans hg, ?_⟩
      rw [hall]; simp [AV.le.refl]
theorem ct_ladelaw14_fewParts {x : List Prt} {s : AState} (hl : (x.length : Int) < 9223372036854775808) (hes : ∀ p ∈ x, (p.es.length : Int) < 9223372036854775808) : Gives prog F_ladelaw14_fewParts [.sl (x.map Prt.av) .no] s (.v (.bool (fewParts x))) s := by
  refine Runs.gives' (runs_e h_ladelaw14_fewParts (Nat.le_of_ble_eq_true rfl) ?_) (.v _)
  unfold fewParts
  refine st0 ?_
  refine loop_ok [0, 3] (fun k a s1 => Grows (s) s1 ∧ ∃ i : Nat, i + k = x.length ∧ ((List.range i).all (fun j => fewPart (x.getD j default))) = true ∧ a = { t := den 19 [(0, .sl (x.map Prt.av) .no), (3, .v (.int .i64 i))], d := [] }) x.length ?_ ?_
  · exact ⟨.refl _, 0, by simp, rfl, by simp⟩
  · rintro k a s1 ⟨hg, i, hik, hall, rfl⟩
    by_cases hlt : i < x.length
    · have e1 : x.getD i default = x[i] := by simp [hlt]
      have hG := hes _ (List.getElem_mem hlt)
      have hG2 := trivial
      have hw : IntKind.wrap .i64 ((i : Int) + 1) = (i : Int) + 1 := wrap_i64 (by omega) (by omega)
      have hgb := hg.get (b := s.n)
      try simp at hgb
      clear hl hes
      repeat' (first | simp -dsimp -implicitDefEqProofs (disch := first | omega | (simp <;> omega) | fail) [*] | ((with_reducible first | apply m_1 | apply m_0); (focus ((conv => lhs; simp -dsimp -implicitDefEqProofs (disch := first | omega | (simp <;> omega) | fail) [*]); done))) | ((with_reducible apply giv); (case hAR => ((conv => lhs; simp -dsimp -implicitDefEqProofs (disch := first | omega | (simp <;> omega) | fail) [*]); done)); (case hCT => (first | (apply ct_ladelaw14_fewPart <;> first | assumption | omega | decide)))) | ((with_reducible first | apply i_T | apply g_T); (focus (simp -dsimp -implicitDefEqProofs (disch := first | omega | (simp <;> omega) | fail) [*]; done))) | ((with_reducible first | apply i_F | apply g_F); (focus (simp -dsimp -implicitDefEqProofs (disch := first | omega | (simp <;> omega) | fail) [*]; done))) | ((with_reducible first | apply s_split | apply s_gsplit) <;> (intro hb; have hb' := hb; try simp only [decide_eq_true_eq, decide_eq_false_iff_not, beq_iff_eq, beq_eq_false_iff_ne, bne_iff_ne, bne_eq_false_iff_eq, ne_eq, Bool.not_true, Bool.not_false, Bool.not_eq_true', Bool.not_eq_false', Bool.and_eq_true, Bool.or_eq_true, Bool.or_eq_false_iff] at hb; try simp at hb')))
      all_goals first
        | exact ⟨k - 1, by omega, (by first | exact hg | exact hg.alloc _), i + 1, by omega, all_step hall (by simp only [e1]; simp [*]), by simp [hw]⟩
        | (refine ret_ok rfl ⟨hg, ?_⟩; rw [all_stop hlt (by simp only [e1]; simp [*])]; exact AV.le.refl _)
    · have hgb := hg.get (b := s.n)
      try simp at hgb
      refine st2 hlt hgb ?_
      have : i = x.length := by omega
      subst this
      refine ret_ok rfl ⟨hg, ?_⟩
      rw [hall]; simp [AV.le.refl]
theorem ct_ladelaw19_fewPart {x : Prt} {s : AState} (hl : (x.es.length : Int) < 9223372036854775808)  : Gives prog F_ladelaw19_fewPart [x.av] s (.v (.bool (fewPart x))) s := by
  refine Runs.gives' (runs_e h_ladelaw19_fewPart (Nat.le_of_ble_eq_true rfl) ?_) (.v _)
  unfold fewPart
  refine st0 ?_
  refine loop_ok [0, 1, 3] (fun k a s1 => Grows (s.alloc (.cells x.cells)) s1 ∧ ∃ i : Nat, i + k = x.es.length ∧ ((List.range i).all (fun j => !decide ((60 : Int) < ((x.es.getD j default).da.size : Int)))) = true ∧ a = { t := den 23 [(0, x.av), (1, .p s.n 0), (3, .v (.int .i64 i))], d := [] }) x.es.length ?_ ?_
  · exact ⟨.refl _, 0, by simp, rfl, by simp⟩
  · rintro k a s1 ⟨hg, i, hik, hall, rfl⟩
    by_cases hlt : i < x.es.length
    · have e1 : x.es.getD i default = x.es[i] := by simp [hlt]
      have hG := trivial
      have hG2 := trivial
      have hw : IntKind.wrap .i64 ((i : Int) + 1) = (i : Int) + 1 := wrap_i64 (by omega) (by omega)
      have hgb := hg.get (b := s.n)
      try simp at hgb
      clear hl
      repeat' (first | simp -dsimp -implicitDefEqProofs (disch := first | omega | (simp <;> omega) | fail) [*] | ((with_reducible first | apply m_1 | apply m_0); (focus ((conv => lhs; simp -dsimp -implicitDefEqProofs (disch := first | omega | (simp <;> omega) | fail) [*]); done))) | ((with_reducible first | apply i_T | apply g_T); (focus (simp -dsimp -implicitDefEqProofs (disch := first | omega | (simp <;> omega) | fail) [*]; done))) | ((with_reducible first | apply i_F | apply g_F); (focus (simp -dsimp -implicitDefEqProofs (disch := first | omega | (simp <;> omega) | fail) [*]; done))) | ((with_reducible first | apply s_split | apply s_gsplit) <;> (intro hb; have hb' := hb; try simp only [decide_eq_true_eq, decide_eq_false_iff_not, beq_iff_eq, beq_eq_false_iff_ne, bne_iff_ne, bne_eq_false_iff_eq, ne_eq, Bool.not_true, Bool.not_false, Bool.not_eq_true', Bool.not_eq_false', Bool.and_eq_true, Bool.or_eq_true, Bool.or_eq_false_iff] at hb; try simp at hb')))
      all_goals first
        | exact ⟨k - 1, by omega, (by first | exact hg | exact hg.alloc _), i + 1, by omega, all_step hall (by simp only [e1]; simp [*]), by simp [hw]⟩
        | (refine ret_ok rfl ⟨((Grows.refl _).alloc _).trans hg, ?_⟩; rw [all_stop hlt (by simp only [e1]; simp [*])]; exact AV.le.refl _)
    · have hgb := hg.get (b := s.n)
      try simp at hgb
      refine st2 hlt hgb ?_
      have : i = x.es.length := by omega
      subst this
      refine ret_ok rfl ⟨((Grows.refl _).alloc _).trans hg, ?_⟩
      rw [hall]; simp [AV.le.refl]
theorem ct_ladelaw19_fewParts {x : List Prt} {s : AState} (hl : (x.length : Int) < 9223372036854775808) (hes : ∀ p ∈ x, (p.es.length : Int) < 9223372036854775808) : Gives prog F_ladelaw19_fewParts [.sl (x.map Prt.av) .no] s (.v (.bool (fewParts x))) s := by
  refine Runs.gives' (runs_e h_ladelaw19_fewParts (Nat.le_of_ble_eq_true rfl) ?_) (.v _)
  unfold fewParts
  refine st0 ?_
  refine loop_ok [0, 3] (fun k a s1 => Grows (s) s1 ∧ ∃ i : Nat, i + k = x.length ∧ ((List.range i).all (fun j => fewPart (x.getD j default))) = true ∧ a = { t := den 19 [(0, .sl (x.map Prt.av) .no), (3, .v (.int .i64 i))], d := [] }) x.length ?_ ?_
  · exact ⟨.refl _, 0, by simp, rfl, by simp⟩
  · rintro k a s1 ⟨hg, i, hik, hall, rfl⟩
    by_cases hlt : i < x.length
    · have e1 : x.getD i default = x[i] := by simp [hlt]
      have hG := hes _ (List.getElem_mem hlt)
      have hG2 := trivial
      have hw : IntKind.wrap .i64 ((i : Int) + 1) = (i : Int) + 1 := wrap_i64 (by omega) (by omega)
      have hgb := hg.get (b := s.n)
      try simp at hgb
      clear hl hes
      repeat' (first | simp -dsimp -implicitDefEqProofs (disch := first | omega | (simp <;> omega) | fail) [*] | ((with_reducible first | apply m_1 | apply m_0); (focus ((conv => lhs; simp -dsimp -implicitDefEqProofs (disch := first | omega | (simp <;> omega) | fail) [*]); done))) | ((with_reducible apply giv); (case hAR => ((conv => lhs; simp -dsimp -implicitDefEqProofs (disch := first | omega | (simp <;> omega) | fail) [*]); done)); (case hCT => (first | (apply ct_ladelaw19_fewPart <;> first | assumption | omega | decide)))) | ((with_reducible first | apply i_T | apply g_T); (focus (simp -dsimp -implicitDefEqProofs (disch := first | omega | (simp <;> omega) | fail) [*]; done))) | ((with_reducible first | apply i_F | apply g_F); (focus (simp -dsimp -implicitDefEqProofs (disch := first | omega | (simp <;> omega) | fail) [*]; done))) | ((with_reducible first | apply s_split | apply s_gsplit) <;> (intro hb; have hb' := hb; try simp only [decide_eq_true_eq, decide_eq_false_iff_not, beq_iff_eq, beq_eq_false_iff_ne, bne_iff_ne, bne_eq_false_iff_eq, ne_eq, Bool.not_true, Bool.not_false, Bool.not_eq_true', Bool.not_eq_false', Bool.and_eq_true, Bool.or_eq_true, Bool.or_eq_false_iff] at hb; try simp at hb')))
      all_goals first
        | exact ⟨k - 1, by omega, (by first | exact hg | exact hg.alloc _), i + 1, by omega, all_step hall (by simp only [e1]; simp [*]), by simp [hw]⟩
        | (refine ret_ok rfl ⟨hg, ?_⟩; rw [all_stop hlt (by simp only [e1]; simp [*])]; exact AV.le.refl _)
    · have hgb := hg.get (b := s.n)
      try simp at hgb
      refine st2 hlt hgb ?_
      have : i = x.length := by omega
      subst this
      refine ret_ok rfl ⟨hg, ?_⟩
      rw [hall]; simp [AV.le.refl]
theorem ct_ladelaw19_fewFound {x : List Fnd} {s : AState} (hl : (x.length : Int) < 9223372036854775808) (hps : ∀ f ∈ x, (f.ps.length : Int) < 9223372036854775808) (hes : ∀ f ∈ x, ∀ p ∈ f.ps, (p.es.length : Int) < 9223372036854775808) : Gives prog F_ladelaw19_fewFound [.sl (x.map Fnd.av) .no] s (.v (.bool (fewFound x))) s := by
  refine Runs.gives' (runs_e h_ladelaw19_fewFound (Nat.le_of_ble_eq_true rfl) ?_) (.v _)
  unfold fewFound
  refine st0 ?_
  refine loop_ok [0, 3] (fun k a s1 => Grows (s) s1 ∧ ∃ i : Nat, i + k = x.length ∧ ((List.range i).all (fun j => fewParts (x.getD j default).ps)) = true ∧ a = { t := den 21 [(0, .sl (x.map Fnd.av) .no), (3, .v (.int .i64 i))], d := [] }) x.length ?_ ?_
  · exact ⟨.refl _, 0, by simp, rfl, by simp⟩
  · rintro k a s1 ⟨hg, i, hik, hall, rfl⟩
    by_cases hlt : i < x.length
    · have e1 : x.getD i default = x[i] := by simp [hlt]
      have hG := hps _ (List.getElem_mem hlt)
      have hG2 := hes _ (List.getElem_mem hlt)
      have hw : IntKind.wrap .i64 ((i : Int) + 1) = (i : Int) + 1 := wrap_i64 (by omega) (by omega)
      have hgb := hg.get (b := s.n)
      try simp at hgb
      clear hl hps hes
      repeat' (first | simp -dsimp -implicitDefEqProofs (disch := first | omega | (simp <;> omega) | fail) [*] | ((with_reducible first | apply m_1 | apply m_0); (focus ((conv => lhs; simp -dsimp -implicitDefEqProofs (disch := first | omega | (simp <;> omega) | fail) [*]); done))) | ((with_reducible apply giv); (case hAR => ((conv => lhs; simp -dsimp -implicitDefEqProofs (disch := first | omega | (simp <;> omega) | fail) [*]); done)); (case hCT => (first | (apply ct_ladelaw19_fewParts <;> first | assumption | omega | decide)))) | ((with_reducible first | apply i_T | apply g_T); (focus (simp -dsimp -implicitDefEqProofs (disch := first | omega | (simp <;> omega) | fail) [*]; done))) | ((with_reducible first | apply i_F | apply g_F); (focus (simp -dsimp -implicitDefEqProofs (disch := first | omega | (simp <;> omega) | fail) [*]; done))) | ((with_reducible first | apply s_split | apply s_gsplit) <;> (intro hb; have hb' := hb; try simp only [decide_eq_true_eq, decide_eq_false_iff_not, beq_iff_eq, beq_eq_false_iff_ne, bne_iff_ne, bne_eq_false_iff_eq, ne_eq, Bool.not_true, Bool.not_false, Bool.not_eq_true', Bool.not_eq_false', Bool.and_eq_true, Bool.or_eq_true, Bool.or_eq_false_iff] at hb; try simp at hb')))
      all_goals first
        | exact ⟨k - 1, by omega, (by first | exact hg | exact hg.alloc _), i + 1, by omega, all_step hall (by simp only [e1]; simp [*]), by simp [hw]⟩
        | (refine ret_ok rfl ⟨hg, ?_⟩; rw [all_stop hlt (by simp only [e1]; simp [*])]; exact AV.le.refl _)
    · have hgb := hg.get (b := s.n)
      try simp at hgb
      refine st2 hlt hgb ?_
      have : i = x.length := by omega
      subst this
      refine ret_ok rfl ⟨hg, ?_⟩
      rw [hall]; simp [AV.le.refl]
theorem fewParts_len {l : List Prt} (h : fewParts l = true) : l.length ≤ 6 ∧ (∀ p ∈ l, p.es.length ≤ 8) := by
  simp only [fewParts, Bool.and_eq_true, decide_eq_true_eq, List.all_eq_true, List.mem_range] at h
  refine ⟨by omega, fun p hp => ?_⟩
  obtain ⟨j, hj, rfl⟩ := List.getElem_of_mem hp
  have := h.1 j hj
  rw [List.getD_eq_getElem?_getD, List.getElem?_eq_getElem hj] at this
  simp only [fewPart, Bool.and_eq_true, decide_eq_true_eq, Option.getD_some] at this
  omega
theorem wt_few {l : List Prt} (h1 : l.length ≤ 6) (h2 : ∀ p ∈ l, p.es.length ≤ 8) : wtL l ≤ 60 := by
  have : ∀ l : List Prt, (∀ p ∈ l, p.es.length ≤ 8) → wtL l ≤ l.length * 10 := by
    intro l
    induction l with
    | nil => intro _; simp [wtL]
    | cons p l ih =>
      intro h
      have h1 := ih fun q hq => h q (by simp [hq])
      have h2 := h p (by simp)
      simp only [wtL, List.map_cons, List.sum_cons, List.length_cons] at h1 ⊢
      omega
  have := this l h2
  omega
end Go.Proofs.YtmpoeamfcienoaaGreat
end
section
namespace Go.Ab
set_option linter.unusedVariables false
theorem srt_len2 {α : Type} : ∀ {l : List (Int × α)} {lo hi : Int}, Srt l → (∀ x ∈ l, lo ≤ x.1 ∧ x.1 ≤ hi) → lo ≤ hi + 1 → (l.length : Int) ≤ hi - lo + 1
  | [], lo, hi, _, _, h => by simp; omega
  | x :: l, lo, hi, hs, hr, h => by
    obtain ⟨h1, h2⟩ := List.pairwise_cons.1 hs
    have hx := hr x (by simp)
    have := srt_len2 (lo := x.1 + 1) (hi := hi) h2 (fun y hy => ⟨by have : x.1 < y.1 := h1 y hy; omega, (hr y (by simp [hy])).2⟩) (by omega)
    simp only [List.length_cons]; omega
theorem MOk.len {M : List (Int × LogV)} (h : MOk M) : M.length ≤ 1000 := by
  have := srt_len2 (lo := 0) (hi := 999) h.1 (fun x hx => (h.2 x hx).rng) (by omega)
  omega
theorem MOk.small {M : List (Int × LogV)} (h : MOk M) (hs : (spotsM M).length ≤ 4000000000) : Small M :=
  ⟨by have := h.len; omega, fun x hx => by have := (h.2 x hx).g.len; have := MI_eq; omega, by omega⟩
theorem refL_len {x : List Grp × List Spt} {at_ : Plc} {l : List Prt} (h : ∀ g ∈ x.1, Spar g) : (refL at_ x l).2.length ≤ x.2.length + wtL l := by
  induction l generalizing x with
  | nil => simp [refL, wtL]
  | cons p l ih =>
    have h1 := refP_ok at_ x p h
    have h2 := ih h1.1
    have : wtL (p :: l) = p.es.length + 2 + wtL l := by simp [wtL]
    have e : refL at_ x (p :: l) = refL at_ (refP at_ x p) l := rfl
    rw [e]; omega
theorem grps_spar {M : List (Int × LogV)} (h : MOk M) : ∀ g ∈ grpsL M, Spar g := fun g hg => by obtain ⟨x, hx, rfl⟩ := List.mem_map.1 hg; exact h.gok x hx
theorem spots_doL {M : List (Int × LogV)} (h : MOk M) (l : List Prt) (at_ : Plc) : (spotsM (doL M l at_)).length ≤ (spotsM M).length + wtL l := by
  have := refL_len (x := (grpsL M, spotsM M)) (at_ := at_) (l := l) (grps_spar h)
  rw [ref_doL h] at this
  exact this
section
variable {P : Program} {g : FuncId} {args : List AV} {s : AState} {R K : AV → AState → Prop}
theorem runS (h : Runs (compCode P) P g (args.map AV.strip) s R) (k : ∀ x s', R x s' → K x s') : Lruns (compCode P) P g args s K .a := run (Runs.strip h) rfl k
end
def ACode.hd : ACode → ACode
  | .seq x _ => x
  | x => x
def ACode.inn : ACode → ACode
  | .block _ c => c
  | .loop c => c
  | x => x
def kA : List Prt := [⟨3, 2, [], 2, 0, 0, 0, 0, false, false⟩, ⟨1, 1, [⟨4, 1, ⟨#[]⟩⟩], 0, 0, 0, 0, 0, false, false⟩]
def kB : List Prt := [⟨1, 5, [], 0, 0, 0, 0, 0, false, false⟩]
def kM : List (Int × LogV) := doL [] kA ⟨1, 16⟩
def kN : List (Int × LogV) := doL kM kB ⟨2, 0⟩
end Go.Ab
end
section
namespace Go.Ab
theorem m_mksl {P : Program} {cmp : Code → Option ACode} {d n : Nat} {e : List (Nat × AV)} {s : AState} {r : List AOper} {K : List AV → AState → Prop} {bytes : Nat} {zs : List AV} {lx : Arg} {kd : IntKind} {mm : Int} (hx : lx.ev (den n e) = .v (.int kd mm)) (h : 0 ≤ mm ∧ mm * bytes ≤ 140737488355328 ∧ mm ≤ 4611686018427387904)
    (hk : AOps cmp P r K (den n ((d, .ms s.n 0 mm.toNat) :: e)) (s.alloc (.cells (List.replicate mm.toNat zs).flatten))) : Lops cmp P ⟨some d, .mksl zs bytes lx, none⟩ r K n e s .a := o_mksl hx h hk
end Go.Ab
namespace Go.Proofs.YtmpoeamfcienoaaGreat
open Go.Ab
set_option linter.unusedVariables false
set_option linter.unusedSimpArgs false
set_option maxRecDepth 100000
set_option maxHeartbeats 1000000
def held (n : Int) : Int := if n < 1 then 1 else if 64 < n then 64 else n
def ofG (g n : Int) : Int := (if g < 0 then 0 else g).tmod (held n)
theorem held_pos (n : Int) : 1 ≤ held n ∧ held n ≤ 64 := by unfold held; split <;> (try split) <;> omega
theorem held_ne (n : Int) : held n ≠ 0 := by have := held_pos n; omega
theorem held_held (n : Int) : held (held n) = held n := by unfold held; split <;> (try split) <;> (try split) <;> (try split) <;> omega
theorem ofG_held (g n : Int) : ofG g (held n) = ofG g n := by unfold ofG; rw [held_held]
theorem ct_shard_held {n : Int} {s : AState} : Gives prog F_shard_held [.v (.int .i64 n)] s (.v (.int .i64 (held n))) s := by
  refine runs_e h_shard_held (Nat.le_of_ble_eq_true rfl) ?_
  refine st0 ?_
  refine ret_ok rfl ⟨?_, rfl⟩
  simp [held]; split <;> split <;> (try split) <;> (try omega)
theorem ct_shard_Of {g n : Int} {s : AState} : Gives prog F_shard_Of [.v (.int .i64 g), .v (.int .i64 n)] s (.v (.int .i64 (ofG g n))) s := by
  refine runs_e h_shard_Of (Nat.le_of_ble_eq_true rfl) ?_
  refine st1c1 @ct_shard_held held_ne ?_
  refine ret_ok rfl ⟨?_, rfl⟩
  have e : (if 0 < g then g else 0) = (if g < 0 then 0 else g) := by split <;> split <;> omega
  simp [ofG, e]
theorem ct_laderef18_Shards {n : Int} {s : AState} : Gives prog F_laderef18_Shards [.v (.int .i64 n)] s (.v (.int .i64 (held n))) s := by
  refine runs_e h_laderef18_Shards (Nat.le_of_ble_eq_true rfl) ?_
  refine st0 ?_
  refine ret_ok rfl ⟨?_, rfl⟩
  simp [held]; split <;> split <;> (try split) <;> (try omega)
theorem ct_laderef18_Of {g n : Int} {s : AState} : Gives prog F_laderef18_Of [.v (.int .i64 g), .v (.int .i64 n)] s (.v (.int .i64 (ofG g n))) s := by
  refine runs_e h_laderef18_Of (Nat.le_of_ble_eq_true rfl) ?_
  refine st1c1 @ct_laderef18_Shards held_ne ?_
  refine ret_ok rfl ⟨?_, rfl⟩
  have e : (if 0 < g then g else 0) = (if g < 0 then 0 else g) := by split <;> split <;> omega
  simp [ofG, e]
end Go.Proofs.YtmpoeamfcienoaaGreat
end
section
namespace Go.Proofs.YtmpoeamfcienoaaGreat
open Go.Ab
set_option linter.unusedVariables false
set_option linter.unusedSimpArgs false
set_option maxRecDepth 100000
set_option maxHeartbeats 4000000
def mineP (i n : Int) (p : Prt) : Bool := decide (ofG p.gr n = i)
theorem ct_shard_own {q i n : Int} {ps : List Prt} {s : AState} : Gives prog F_shard_own [.agg [.v (.int .i64 q), .sl (ps.map Prt.av) .no], .v (.int .i64 i), .v (.int .i64 n)] s
    (.f (.func F_shard_own_1) [] [.p s.n 0, .p (s.n + 2) 0, .p (s.n + 1) 0]) (((s.alloc (.cells [.v (.int .i64 q), .sl (ps.map Prt.av) .no])).alloc (.cells [.v (.int .i64 i)])).alloc (.cells [.v (.int .i64 n)])) := by
  refine runs_e h_shard_own (Nat.le_of_ble_eq_true rfl) ?_
  refine st0 ?_
  exact ret_ok rfl ⟨rfl, rfl⟩
theorem it_shard_own {q i n : Int} {ps : List Prt} {b1 b2 b3 : Nat} (hlen : (ps.length : Int) < 9223372036854775808) :
    Iter prog F_shard_own_1 [] [.p b1 0, .p b2 0, .p b3 0] ((ps.filter (mineP i n)).map fun p => [p.av])
      (fun s => s.get b1 = .cells [.v (.int .i64 q), .sl (ps.map Prt.av) .no] ∧ s.get b2 = .cells [.v (.int .i64 n)] ∧ s.get b3 = .cells [.v (.int .i64 i)]) := by
  intro l s I J hp ha hj hy h0
  obtain ⟨p1, p2, p3⟩ := hp 0 s h0
  refine runs_e h_shard_own_1 (Nat.le_of_ble_eq_true rfl) ?_
  refine st1 p1 ?_
  refine loop_ok [0, 2, 3, 8, 9, 10] (fun m a s1 => ∃ j : Nat, j + m = ps.length ∧ I ((ps.take j).filter (mineP i n)).length s1 ∧ a = { t := den 27 [(0, .y l), (2, .p b2 0), (3, .p b3 0), (8, .sl (ps.map Prt.av) .no), (9, .v (.int .i64 ps.length)), (10, .v (.int .i64 j))], d := [] }) ps.length ?_ ?_
  · exact ⟨0, by simp, by simpa using h0, by simp⟩
  · rintro m a s1 ⟨j, hjm, hI, rfl⟩
    by_cases hlt : j < ps.length
    · obtain ⟨e1, e2, e3⟩ := hp _ s1 hI
      have hw : IntKind.wrap .i64 ((j : Int) + 1) = (j : Int) + 1 := wrap_i64 (by omega) (by omega)
      have n2 := AState.lt_of_get e2 (by simp)
      have n3 := AState.lt_of_get e3 (by simp)
      by_cases hm : ofG ps[j].gr n = i
      · repeat (first | simp -dsimp -implicitDefEqProofs (disch := first | omega | (simp <;> omega) | fail) [hlt, e2, e3, hm] | (with_reducible apply m_draw) | ((with_reducible refine ⟨m_op ?_, ?_⟩); (focus (simp -dsimp -implicitDefEqProofs (disch := first | omega | (simp <;> omega) | fail) [hlt, e2, e3, hm]; done))) | ((with_reducible first | apply m_d1 rfl | apply m_dE | apply m_dE0); (focus ((conv => lhs; simp -dsimp -implicitDefEqProofs (disch := first | omega | (simp <;> omega) | fail) [hlt, e2, e3, hm]); done))) | ((with_reducible apply givQ); (case hAR => ((conv => lhs; simp -dsimp -implicitDefEqProofs (disch := first | omega | (simp <;> omega) | fail) [hlt, e2, e3, hm]); done)); (case hCT => intro _ _; (first | (apply ct_shard_Of <;> first | assumption | omega | decide)))) | ((with_reducible first | apply m_1 | apply m_0); (focus ((conv => lhs; simp -dsimp -implicitDefEqProofs (disch := first | omega | (simp <;> omega) | fail) [hlt, e2, e3, hm]); done))) | ((with_reducible apply giv); (case hAR => ((conv => lhs; simp -dsimp -implicitDefEqProofs (disch := first | omega | (simp <;> omega) | fail) [hlt, e2, e3, hm]); done)); (case hCT => (first | (apply ct_shard_Of <;> first | assumption | omega | decide)))) | ((with_reducible first | apply i_T | apply g_T | apply h_T); (focus (simp -dsimp -implicitDefEqProofs (disch := first | omega | (simp <;> omega) | fail) [hlt, e2, e3, hm]; done))) | ((with_reducible first | apply i_F | apply g_F | apply h_F); (focus (simp -dsimp -implicitDefEqProofs (disch := first | omega | (simp <;> omega) | fail) [hlt, e2, e3, hm]; done))))
        obtain ⟨hk, hg⟩ := fget (p := mineP i n) hlt (by simpa [mineP] using hm)
        have hy' := hy _ (by simpa using hk) _ (ha _ _ (.cells ps[j].cells) hI)
        simp only [List.getElem_map, hg] at hy'
        refine yr0 (hy') ?_
        rintro _ s2 (⟨rfl, hI2⟩ | ⟨rfl, hJ⟩)
        · refine sd0 ?_
          refine ⟨m - 1, by omega, j + 1, by omega, ?_, by simp [hw]⟩
          rw [ftake hlt, if_pos (by simpa [mineP] using hm)]; simpa using hI2
        · refine sd0 ?_
          exact ret_ok rfl (.inr hJ)
      · repeat (first | simp -dsimp -implicitDefEqProofs (disch := first | omega | (simp <;> omega) | fail) [hlt, e2, e3, hm] | (with_reducible apply m_draw) | ((with_reducible refine ⟨m_op ?_, ?_⟩); (focus (simp -dsimp -implicitDefEqProofs (disch := first | omega | (simp <;> omega) | fail) [hlt, e2, e3, hm]; done))) | ((with_reducible first | apply m_d1 rfl | apply m_dE | apply m_dE0); (focus ((conv => lhs; simp -dsimp -implicitDefEqProofs (disch := first | omega | (simp <;> omega) | fail) [hlt, e2, e3, hm]); done))) | ((with_reducible apply givQ); (case hAR => ((conv => lhs; simp -dsimp -implicitDefEqProofs (disch := first | omega | (simp <;> omega) | fail) [hlt, e2, e3, hm]); done)); (case hCT => intro _ _; (first | (apply ct_shard_Of <;> first | assumption | omega | decide)))) | ((with_reducible first | apply m_1 | apply m_0); (focus ((conv => lhs; simp -dsimp -implicitDefEqProofs (disch := first | omega | (simp <;> omega) | fail) [hlt, e2, e3, hm]); done))) | ((with_reducible apply giv); (case hAR => ((conv => lhs; simp -dsimp -implicitDefEqProofs (disch := first | omega | (simp <;> omega) | fail) [hlt, e2, e3, hm]); done)); (case hCT => (first | (apply ct_shard_Of <;> first | assumption | omega | decide)))) | ((with_reducible first | apply i_T | apply g_T | apply h_T); (focus (simp -dsimp -implicitDefEqProofs (disch := first | omega | (simp <;> omega) | fail) [hlt, e2, e3, hm]; done))) | ((with_reducible first | apply i_F | apply g_F | apply h_F); (focus (simp -dsimp -implicitDefEqProofs (disch := first | omega | (simp <;> omega) | fail) [hlt, e2, e3, hm]; done))))
        refine ⟨m - 1, by omega, j + 1, by omega, ?_, by simp [hw]⟩
        rw [ftake hlt, if_neg (by simpa [mineP] using hm)]; simpa using ha _ _ (.cells ps[j].cells) hI
    · refine st1 hlt ?_
      have : j = ps.length := by omega
      subst this
      exact end_ok rfl (.inl (by simpa using hI))
def pickF (i n : Int) (f : Fnd) : Fnd := { f with ps := f.ps.filter (mineP i n) }
def splitI (l : List Fnd) (i n : Int) : List Fnd := (l.map (pickF i n)).filter fun f => !f.ps.isEmpty
def split (l : List Fnd) (n : Int) : List (List Fnd) := (List.range (held n).toNat).map fun i : Nat => splitI l (i : Int) n
theorem mineP_held (i n : Int) : mineP i (held n) = mineP i n := by funext p; simp only [mineP, ofG_held]
theorem splitI_snoc {l : List Fnd} {i n : Int} {j : Nat} (h : j < l.length) : splitI (l.take (j + 1)) i n = splitI (l.take j) i n ++ (if (pickF i n l[j]).ps.isEmpty then [] else [pickF i n l[j]]) := by
  unfold splitI
  rw [List.take_succ_eq_append_getElem h, List.map_append, List.filter_append]
  congr 1
  by_cases e : (pickF i n l[j]).ps.isEmpty = true <;> simp [e]
theorem splitI_len (l : List Fnd) (i n : Int) : (splitI l i n).length ≤ l.length := by
  unfold splitI; exact Nat.le_trans (List.length_filter_le _ _) (by simp)
set_option maxHeartbeats 8000000 in
theorem rn_shard_Split {l : List Fnd} {n : Int} {s : AState} (hl : (l.length : Int) * 48 ≤ 140737488355328) (hps : ∀ f ∈ l, (f.ps.length : Int) * 88 ≤ 140737488355328) :
    Runs (compCode prog) prog F_shard_Split [.sl (l.map Fnd.av) .no, .v (.int .i64 n)] s (fun x s' => ∃ cs, x = .ms s.n 0 (held n).toNat ∧ Grows (s.alloc (.cells cs)) s' ∧ cs.length = (held n).toNat ∧
      ∀ i (h : i < cs.length), ∃ tk, cs[i] = .sl ((splitI l i n).map Fnd.av) tk) := by
  have hh := held_pos n
  obtain ⟨k, hk⟩ : ∃ k : Nat, (k : Int) = held n := ⟨(held n).toNat, by omega⟩
  have hkn : (held n).toNat = k := by omega
  have hk64 : (k : Int) ≤ 64 := by omega
  have hk0 : (0 : Int) ≤ held n := by omega
  have hkb : held n * 24 ≤ 140737488355328 ∧ held n ≤ 4611686018427387904 := by omega
  refine runs_e h_shard_Split (Nat.le_of_ble_eq_true rfl) ?_
  repeat (first | simp -dsimp -implicitDefEqProofs (disch := first | omega | (simp <;> omega) | fail) | ((with_reducible first | apply m_1 | apply m_0); (focus ((conv => lhs; simp -dsimp -implicitDefEqProofs (disch := first | omega | (simp <;> omega) | fail)); done))) | ((with_reducible apply giv); (case hAR => ((conv => lhs; simp -dsimp -implicitDefEqProofs (disch := first | omega | (simp <;> omega) | fail)); done)); (case hCT => (first | (apply ct_shard_held <;> first | assumption | omega | decide)))) | ((with_reducible first | apply i_T | apply g_T); (focus (simp -dsimp -implicitDefEqProofs (disch := first | omega | (simp <;> omega) | fail); done))) | ((with_reducible first | apply i_F | apply g_F); (focus (simp -dsimp -implicitDefEqProofs (disch := first | omega | (simp <;> omega) | fail); done))))
  refine m_mksl (kd := .i64) (mm := held n) (by simp) ⟨hk0, hkb⟩ ?_
  rw [hkn]
  have hfl : (List.replicate k [AV.sl [] Tok.zero]).flatten = List.replicate k (.sl [] .zero) := by simp
  rw [hfl]
  repeat (first | simp -dsimp -implicitDefEqProofs (disch := first | omega | (simp <;> omega) | fail) | ((with_reducible first | apply m_1 | apply m_0); (focus ((conv => lhs; simp -dsimp -implicitDefEqProofs (disch := first | omega | (simp <;> omega) | fail)); done))) | ((with_reducible first | apply i_T | apply g_T); (focus (simp -dsimp -implicitDefEqProofs (disch := first | omega | (simp <;> omega) | fail); done))) | ((with_reducible first | apply i_F | apply g_F); (focus (simp -dsimp -implicitDefEqProofs (disch := first | omega | (simp <;> omega) | fail); done))))
  refine loop_ok [0, 1, 5, 16, 17] (fun m a s1 => ∃ (i : Nat) (L : List AV) (ds : List Nat), i + m = k ∧ L.length = i ∧ (∀ j (h : j < L.length), ∃ tk, L[j] = .sl ((splitI l j n).map Fnd.av) tk) ∧
    Grows (s.alloc (.cells (L ++ List.replicate (k - i) (.sl [] .zero)))) s1 ∧ Dfs (s.n + 1) s1 ds ∧
    a = { t := den 65 [(0, .sl (l.map Fnd.av) .no), (1, .v (.int .i64 (held n))), (5, .ms s.n 0 k), (16, .v (.int .i64 k)), (17, .v (.int .i64 i))], d := ds }) k ?_ ?_
  · refine ⟨0, [], [], by simp, rfl, (fun j h => by simp at h), ?_, Dfs.nil _ _, by simp⟩
    simp [Grows.refl]
  · rintro m a s1 ⟨i, L, ds, him, hL, hdone, ⟨g, rfl⟩, hds, rfl⟩
    by_cases hlt : i < k
    · have hlt' : (i : Int) < k := by omega
      have hrep : List.replicate (k - i) (AV.sl [] .zero) = AV.sl [] .zero :: List.replicate (k - i - 1) (.sl [] .zero) := by
        rw [show k - i = (k - i - 1) + 1 by omega, List.replicate_succ]; simp
      rw [hrep] at hds ⊢
      generalize hR : List.replicate (k - i - 1) (AV.sl [] .zero) = Rr at hds ⊢
      have hRl : Rr.length = k - i - 1 := by rw [← hR]; simp
      have fd : ∀ x : AV, (L ++ x :: Rr).drop i = x :: Rr := fun x => drop_mid hL
      have ft : ∀ x : AV, (L ++ x :: Rr).take i = L := fun x => take_mid hL
      have fr : ∀ x : AV, (L ++ x :: Rr).drop (i + 1) = Rr := fun x => drop_mid1 hL
      have hmi := mineP_held (i : Int) n
      repeat (first | simp -dsimp -implicitDefEqProofs (disch := first | omega | (simp <;> omega) | fail) [hlt] | ((with_reducible first | apply m_1 | apply m_0); (focus ((conv => lhs; simp -dsimp -implicitDefEqProofs (disch := first | omega | (simp <;> omega) | fail) [hlt]); done))) | ((with_reducible first | apply i_T | apply g_T); (focus (simp -dsimp -implicitDefEqProofs (disch := first | omega | (simp <;> omega) | fail) [hlt]; done))) | ((with_reducible first | apply i_F | apply g_F); (focus (simp -dsimp -implicitDefEqProofs (disch := first | omega | (simp <;> omega) | fail) [hlt]; done))))
      refine loop_ok [0, 1, 5, 16, 17, 6, 20, 21, 22] (fun m2 a s1 => ∃ (j : Nat) (tk : Tok) (ds : List Nat), j + m2 = l.length ∧ Grows (s.alloc (.cells (L ++ .sl ((splitI (l.take j) i n).map Fnd.av) tk :: Rr))) s1 ∧
        May (s.n + 1) s1 ((splitI (l.take j) i n).map Fnd.av) tk ∧ Dfs (s.n + 1) s1 ds ∧
        a = { t := den 65 [(0, .sl (l.map Fnd.av) .no), (1, .v (.int .i64 (held n))), (5, .ms s.n 0 k), (16, .v (.int .i64 k)), (17, .v (.int .i64 i)), (6, .v (.int .i64 i)), (20, .sl (l.map Fnd.av) .no), (21, .v (.int .i64 l.length)), (22, .v (.int .i64 j))], d := ds }) l.length ?_ ?_
      · exact ⟨0, .zero, ds, by simp, by simp [splitI]; exact ⟨_, rfl⟩, trivial, hds, by simp⟩
      · clear hds ds g
        rintro m2 a s1 ⟨j, tk, ds, hjm, ⟨g, rfl⟩, hmay, hds, rfl⟩
        by_cases hj : j < l.length
        · have hj' : (j : Int) < l.length := by omega
          have hfl : (l[j].ps.length : Int) * 88 ≤ 140737488355328 := hps _ (List.getElem_mem hj)
          repeat (first | simp -dsimp -implicitDefEqProofs (disch := first | omega | (simp <;> omega) | fail) [hj] | ((with_reducible first | apply m_1 | apply m_0); (focus ((conv => lhs; simp -dsimp -implicitDefEqProofs (disch := first | omega | (simp <;> omega) | fail) [hj]); done))) | ((with_reducible apply giv); (case hAR => ((conv => lhs; simp -dsimp -implicitDefEqProofs (disch := first | omega | (simp <;> omega) | fail) [hj]); done)); (case hCT => (first | (apply ct_shard_own <;> first | assumption | omega | decide)))) | ((with_reducible first | apply i_T | apply g_T); (focus (simp -dsimp -implicitDefEqProofs (disch := first | omega | (simp <;> omega) | fail) [hj]; done))) | ((with_reducible first | apply i_F | apply g_F); (focus (simp -dsimp -implicitDefEqProofs (disch := first | omega | (simp <;> omega) | fail) [hj]; done))))
          generalize hS0 : allocs (s.alloc (.cells (L ++ .sl ((splitI (l.take j) i n).map Fnd.av) tk :: Rr))) g = S0 at hmay hds ⊢
          have hSn : s.n + 1 ≤ S0.n := by rw [← hS0]; simp
          have hnn : s.n + 1 + g.length = S0.n := by rw [← hS0]; simp [n_allocs]
          try simp only [hnn]
          have hg0 : S0.get s.n = .cells (L ++ .sl ((splitI (l.take j) i n).map Fnd.av) tk :: Rr) := by rw [← hS0]; simp
          have hit := it_shard_own (q := l[j].sq) (i := i) (n := held n) (ps := l[j].ps) (b1 := S0.n + 1 + 1) (b2 := S0.n + 1 + 1 + 2) (b3 := S0.n + 1 + 1 + 1) (by omega)
          have hfl2 : (l[j].ps.filter (mineP i (held n))).length ≤ l[j].ps.length := List.length_filter_le _ _
          generalize hfp : l[j].ps.filter (mineP i (held n)) = fp at hit hfl2
          refine w_rangeG (α := Tok) (β := Unit) (m := fp.length) (xs := fp.map fun p => [p.av]) (by simp) hit (by intro x hx; obtain ⟨p, _, rfl⟩ := List.mem_map.1 hx; rfl) (by simp)
            (fun kk tk => ((((S0.alloc (.cells l[j].cells)).alloc (.cells [.v (.int .i64 l[j].sq), .sl ((fp.map Prt.av).take kk) tk, .v (.int .i64 l[j].sg), .v (.int .i64 l[j].at_)])).alloc (.cells [.v (.int .i64 l[j].sq), .sl (l[j].ps.map Prt.av) .no])).alloc (.cells [.v (.int .i64 i)])).alloc (.cells [.v (.int .i64 (held n))]))
            (fun kk tk s' => May (S0.n + 7) s' ((fp.map Prt.av).take kk) tk) (fun _ _ => S0) (fun _ _ _ => False) .zero (by simp) (fun s' h => trivial) ?_ (fun _ _ _ o h => h.alloc o) (fun _ _ _ _ h => h) ?_ ?_ (fun _ _ _ _ _ h => h.elim)
          · intro kk a s' _ h1 hg
            refine ⟨?_, ?_, ?_⟩ <;> (refine (hg.get (by simp)).trans ?_; simp)
          · intro LR LB LJ _ kk hkk tk2 g2 h1 hm
            have hkk' : kk < fp.length := by simpa using hkk
            repeat (first | simp -dsimp -implicitDefEqProofs (disch := first | omega | (simp <;> omega) | fail) [hkk'] | ((with_reducible first | apply m_1 | apply m_0); (focus ((conv => lhs; simp -dsimp -implicitDefEqProofs (disch := first | omega | (simp <;> omega) | fail) [hkk']); done))) | ((with_reducible first | apply i_T | apply g_T); (focus (simp -dsimp -implicitDefEqProofs (disch := first | omega | (simp <;> omega) | fail) [hkk']; done))) | ((with_reducible first | apply i_F | apply g_F); (focus (simp -dsimp -implicitDefEqProofs (disch := first | omega | (simp <;> omega) | fail) [hkk']; done))))
            refine m_app (xs := (fp.map Prt.av).take kk) (tk := tk2) (ys := [fp[kk].av]) (t2 := .zero) (B := _) (N := S0.n + 7) (by simp) (by simp) ⟨_, allocs_snoc _ _ _⟩ (by simp) (by simp; omega) ((hm.swap (by simp) (by simp)).alloc _) (by simp) (by simp) (by simp; omega) (by simp; omega) ?_
            rintro _ tk3 ⟨g3, rfl⟩ hm3 _ _
            repeat (first | simp -dsimp -implicitDefEqProofs (disch := first | omega | (simp <;> omega) | fail) | ((with_reducible first | apply m_1 | apply m_0); (focus ((conv => lhs; simp -dsimp -implicitDefEqProofs (disch := first | omega | (simp <;> omega) | fail)); done))) | ((with_reducible first | apply i_T | apply g_T); (focus (simp -dsimp -implicitDefEqProofs (disch := first | omega | (simp <;> omega) | fail); done))) | ((with_reducible first | apply i_F | apply g_F); (focus (simp -dsimp -implicitDefEqProofs (disch := first | omega | (simp <;> omega) | fail); done))))
            refine ⟨tk3, by simp, ?_, ?_⟩
            · rw [take_snoc hkk']; exact ⟨_, rfl⟩
            · rw [take_snoc hkk']; exact hm3.swap (by simp) (by simp)
          · intro LR tk2 g2 h1 hm
            have htk : (fp.map Prt.av).take fp.length = fp.map Prt.av := List.take_of_length_le (by simp)
            rw [htk] at hm ⊢
            have hpk : (pickF i n l[j]).ps = fp := by rw [← hfp, hmi]; rfl
            have hDl : ∀ x ∈ ds, x < S0.n := fun x hx => hds.lt hx
            by_cases hfe : 0 < fp.length
            · repeat (first | simp -dsimp -implicitDefEqProofs (disch := first | omega | (simp <;> omega) | fail) [hfe, hlt, hg0, fd] | ((with_reducible first | apply m_1 | apply m_0); (focus ((conv => lhs; simp -dsimp -implicitDefEqProofs (disch := first | omega | (simp <;> omega) | fail) [hfe, hlt, hg0, fd]); done))) | ((with_reducible first | apply i_T | apply g_T); (focus (simp -dsimp -implicitDefEqProofs (disch := first | omega | (simp <;> omega) | fail) [hfe, hlt, hg0, fd]; done))) | ((with_reducible first | apply i_F | apply g_F); (focus (simp -dsimp -implicitDefEqProofs (disch := first | omega | (simp <;> omega) | fail) [hfe, hlt, hg0, fd]; done))))
              refine m_app (xs := (splitI (l.take j) i n).map Fnd.av) (tk := tk) (ys := [.agg [.v (.int .i64 l[j].sq), .sl (fp.map Prt.av) .no, .v (.int .i64 l[j].sg), .v (.int .i64 l[j].at_)]]) (t2 := .zero) (B := s.alloc (.cells (L ++ .sl ((splitI (l.take j) i n).map Fnd.av) tk :: Rr))) (N := s.n + 1) (by simp) (by simp) ?_ (by simp) (by simp; omega) (hmay.grows ?_) (by simp) (by simp) (by have := splitI_len (l.take j) i n; simp at this ⊢; omega) (by have := splitI_len (l.take j) i n; simp at this ⊢; omega) ?_
              · rw [← hS0]; (repeat (first | exact Grows.refl _ | with_reducible apply Grows.alloc | with_reducible apply Grows.allocs))
              · (repeat (first | exact Grows.refl _ | with_reducible apply Grows.alloc | with_reducible apply Grows.allocs))
              rintro _ tk3 ⟨g3, rfl⟩ hm3 _ hext
              refine st4 hlt ft fr hL ?_
              have e : splitI (l.take (j + 1)) i n = splitI (l.take j) i n ++ [pickF i n l[j]] := by
                rw [splitI_snoc hj, if_neg (by rw [hpk]; cases fp <;> simp_all)]
              have ef : (pickF i n l[j]).av = .agg [.v (.int .i64 l[j].sq), .sl (fp.map Prt.av) .no, .v (.int .i64 l[j].sg), .v (.int .i64 l[j].at_)] := by
                rw [← hpk]; rfl
              refine ⟨m2 - 1, by omega, j + 1, tk3, (S0.n + 5) :: ds, by omega, ?_, ?_, ?_, ?_⟩
              · rw [e, List.map_append, List.map_cons, ef]; exact ⟨_, rfl⟩
              · rw [e, List.map_append, List.map_cons, ef]; exact hm3.swap (by simp) (by simp)
              · refine Dfs.swap (X := s.alloc (.cells (L ++ .sl ((splitI (l.take j) i n).map Fnd.av) tk :: Rr))) (by simp) (by simp) ((Dfs.cons (hds.ext (Grows.ext ?_)) (by omega) (by simp) (fun y hy => by have := hDl y hy; omega)).ext hext)
                (repeat (first | exact Grows.refl _ | with_reducible apply Grows.alloc | with_reducible apply Grows.allocs))
              · simp
            · refine st1 hfe ?_
              have e : splitI (l.take (j + 1)) i n = splitI (l.take j) i n := by
                rw [splitI_snoc hj, if_pos (by rw [hpk]; cases fp <;> simp_all)]; simp
              refine ⟨m2 - 1, by omega, j + 1, tk, (S0.n + 5) :: ds, by omega, ?_, ?_, ?_, ?_⟩
              · rw [e, ← hS0]; (repeat (first | exact Grows.refl _ | with_reducible apply Grows.alloc | with_reducible apply Grows.allocs))
              · rw [e]; refine hmay.grows ?_; (repeat (first | exact Grows.refl _ | with_reducible apply Grows.alloc | with_reducible apply Grows.allocs))
              · refine Dfs.cons (hds.ext (Grows.ext ?_)) (by omega) (by simp) (fun y hy => by have := hDl y hy; omega)
                (repeat (first | exact Grows.refl _ | with_reducible apply Grows.alloc | with_reducible apply Grows.allocs))
              · simp
        · refine st1 hj ?_
          have : j = l.length := by omega
          subst this
          rw [List.take_length] at hds hmay ⊢
          refine ⟨m - 1, by omega, i + 1, L ++ [.sl ((splitI l i n).map Fnd.av) tk], ds, by omega, by simp [hL], ?_, ?_, ?_, by simp⟩
          · intro j' h'
            by_cases he : j' < L.length
            · rw [List.getElem_append_left he]; exact hdone j' he
            · have : j' = i := by simp at h'; omega
              subst this
              rw [List.getElem_append_right (by omega)]; exact ⟨tk, by simp [hL]⟩
          · rw [show k - (i + 1) = k - i - 1 by omega, hR]; simp; exact ⟨_, rfl⟩
          · exact hds
    · refine st1 (show ¬ (i : Int) < k by omega) ?_
      have : i = k := by omega
      subst this
      simp only [Nat.sub_self, List.replicate_zero, List.append_nil] at hds ⊢
      have hs : s.n ∉ ds := fun h => by have := (hds.1 _ h).1; omega
      refine ret_okD (fun x hx => (hds.1 x hx).2) hds.2 (by simp; rfl) ⟨L, rfl, ?_, hL, ?_⟩
      · exact killAll_grows ⟨_, rfl⟩ (by simp) hds
      · exact hdone
end Go.Proofs.YtmpoeamfcienoaaGreat
end
section
namespace Go.Proofs.YtmpoeamfcienoaaGreat
open Go.Ab
set_option linter.unusedVariables false
set_option linter.unusedSimpArgs false
set_option maxRecDepth 100000
set_option maxHeartbeats 8000000
theorem rn_laderef18_Split {l : List Fnd} {n : Int} {s : AState} (hl : (l.length : Int) * 48 ≤ 140737488355328) (hps : ∀ f ∈ l, (f.ps.length : Int) * 88 ≤ 140737488355328) :
    Runs (compCode prog) prog F_laderef18_Split [.sl (l.map Fnd.av) .no, .v (.int .i64 n)] s (fun x s' => ∃ cs, x = .ms s.n 0 (held n).toNat ∧ Grows (s.alloc (.cells cs)) s' ∧ cs.length = (held n).toNat ∧
      ∀ i (h : i < cs.length), ∃ tk, cs[i] = .sl ((splitI l i n).map Fnd.av) tk) := by
  have hh := held_pos n
  obtain ⟨k, hk⟩ : ∃ k : Nat, (k : Int) = held n := ⟨(held n).toNat, by omega⟩
  have hkn : (held n).toNat = k := by omega
  have hk64 : (k : Int) ≤ 64 := by omega
  have hk0 : (0 : Int) ≤ held n := by omega
  have hkb : held n * 24 ≤ 140737488355328 ∧ held n ≤ 4611686018427387904 := by omega
  refine runs_e h_laderef18_Split (Nat.le_of_ble_eq_true rfl) ?_
  refine st0c1 @ct_laderef18_Shards ?_
  refine m_mksl (kd := .i64) (mm := held n) (by simp) ⟨hk0, hkb⟩ ?_
  rw [hkn]
  have hfl : (List.replicate k [AV.sl [] Tok.zero]).flatten = List.replicate k (.sl [] .zero) := by simp
  rw [hfl]
  refine st0 ?_
  refine loop_ok [0, 1, 5, 6, 7] (fun m a s1 => ∃ (i : Nat) (L : List AV), i + m = k ∧ L.length = i ∧ (∀ j (h : j < L.length), ∃ tk, L[j] = .sl ((splitI l j n).map Fnd.av) tk) ∧
    Grows (s.alloc (.cells (L ++ List.replicate (k - i) (.sl [] .zero)))) s1 ∧
    a = { t := den 89 [(0, .sl (l.map Fnd.av) .no), (1, .v (.int .i64 n)), (5, .v (.int .i64 (held n))), (6, .ms s.n 0 k), (7, .v (.int .i64 i))], d := [] }) k ?_ ?_
  · refine ⟨0, [], by simp, rfl, (fun j h => by simp at h), ?_, by simp⟩
    simp [Grows.refl]
  · rintro m a s1 ⟨i, L, him, hL, hdone, ⟨g, rfl⟩, rfl⟩
    by_cases hlt : i < k
    · have hlt' : (i : Int) < held n := by omega
      have hrep : List.replicate (k - i) (AV.sl [] .zero) = AV.sl [] .zero :: List.replicate (k - i - 1) (.sl [] .zero) := by
        rw [show k - i = (k - i - 1) + 1 by omega, List.replicate_succ]; simp
      rw [hrep]
      generalize hR : List.replicate (k - i - 1) (AV.sl [] .zero) = Rr
      have hRl : Rr.length = k - i - 1 := by rw [← hR]; simp
      have fd : ∀ x : AV, (L ++ x :: Rr).drop i = x :: Rr := fun x => drop_mid hL
      have ft : ∀ x : AV, (L ++ x :: Rr).take i = L := fun x => take_mid hL
      have fr : ∀ x : AV, (L ++ x :: Rr).drop (i + 1) = Rr := fun x => drop_mid1 hL
      refine st1 hlt' ?_
      refine loop_ok [0, 1, 5, 6, 7, 8] (fun m2 a s1 => ∃ (j : Nat) (tk : Tok), j + m2 = l.length ∧ Grows (s.alloc (.cells (L ++ .sl ((splitI (l.take j) i n).map Fnd.av) tk :: Rr))) s1 ∧
        May (s.n + 1) s1 ((splitI (l.take j) i n).map Fnd.av) tk ∧
        a = { t := den 89 [(0, .sl (l.map Fnd.av) .no), (1, .v (.int .i64 n)), (5, .v (.int .i64 (held n))), (6, .ms s.n 0 k), (7, .v (.int .i64 i)), (8, .v (.int .i64 j))], d := [] }) l.length ?_ ?_
      · exact ⟨0, .zero, by simp, by simp [splitI]; exact ⟨_, rfl⟩, trivial, by simp⟩
      · clear g
        rintro m2 a s1 ⟨j, tk, hjm, ⟨g, rfl⟩, hmay, rfl⟩
        by_cases hj : j < l.length
        · have hfl : (l[j].ps.length : Int) * 88 ≤ 140737488355328 := hps _ (List.getElem_mem hj)
          generalize hS0 : allocs (s.alloc (.cells (L ++ .sl ((splitI (l.take j) i n).map Fnd.av) tk :: Rr))) g = S0 at hmay ⊢
          have hSn : s.n + 1 ≤ S0.n := by rw [← hS0]; simp
          have hg0 : S0.get s.n = .cells (L ++ .sl ((splitI (l.take j) i n).map Fnd.av) tk :: Rr) := by rw [← hS0]; simp
          repeat (first | simp -dsimp -implicitDefEqProofs (disch := first | omega | (simp <;> omega) | fail) [hj] | ((with_reducible first | apply m_1 | apply m_0); (focus ((conv => lhs; simp -dsimp -implicitDefEqProofs (disch := first | omega | (simp <;> omega) | fail) [hj]); done))) | ((with_reducible first | apply i_T | apply g_T); (focus (simp -dsimp -implicitDefEqProofs (disch := first | omega | (simp <;> omega) | fail) [hj]; done))) | ((with_reducible first | apply i_F | apply g_F); (focus (simp -dsimp -implicitDefEqProofs (disch := first | omega | (simp <;> omega) | fail) [hj]; done))))
          refine loop_ok [0, 1, 5, 6, 7, 8, 9, 10] (fun m3 a s1 => ∃ (q : Nat) (tk2 : Tok), q + m3 = l[j].ps.length ∧
            Grows (S0.alloc (.cells [.v (.int .i64 l[j].sq), .sl (((l[j].ps.take q).filter (mineP i n)).map Prt.av) tk2, .v (.int .i64 l[j].sg), .v (.int .i64 l[j].at_)])) s1 ∧
            May (S0.n + 1) s1 (((l[j].ps.take q).filter (mineP i n)).map Prt.av) tk2 ∧
            a = { t := den 89 [(0, .sl (l.map Fnd.av) .no), (1, .v (.int .i64 n)), (5, .v (.int .i64 (held n))), (6, .ms s.n 0 k), (7, .v (.int .i64 i)), (8, .v (.int .i64 j)), (9, .p S0.n 0), (10, .v (.int .i64 q))], d := [] }) l[j].ps.length ?_ ?_
          · exact ⟨0, .zero, by simp, (by simp; first | exact .refl _ | exact ⟨_, rfl⟩), trivial, by simp⟩
          · rintro m3 a s1 ⟨q, tk2, hq, ⟨g2, rfl⟩, hm2, rfl⟩
            by_cases hqt : q < l[j].ps.length
            · have hfl2 : ((l[j].ps.take q).filter (mineP i n)).length ≤ q := Nat.le_trans (List.length_filter_le _ _) (by simp <;> omega)
              by_cases hmn : ofG l[j].ps[q].gr n = i
              · repeat (first | simp -dsimp -implicitDefEqProofs (disch := first | omega | (simp <;> omega) | fail) [hj, hqt, hmn] | ((with_reducible first | apply m_1 | apply m_0); (focus ((conv => lhs; simp -dsimp -implicitDefEqProofs (disch := first | omega | (simp <;> omega) | fail) [hj, hqt, hmn]); done))) | ((with_reducible apply giv); (case hAR => ((conv => lhs; simp -dsimp -implicitDefEqProofs (disch := first | omega | (simp <;> omega) | fail) [hj, hqt, hmn]); done)); (case hCT => (first | (apply ct_laderef18_Of <;> first | assumption | omega | decide)))) | ((with_reducible first | apply i_T | apply g_T); (focus (simp -dsimp -implicitDefEqProofs (disch := first | omega | (simp <;> omega) | fail) [hj, hqt, hmn]; done))) | ((with_reducible first | apply i_F | apply g_F); (focus (simp -dsimp -implicitDefEqProofs (disch := first | omega | (simp <;> omega) | fail) [hj, hqt, hmn]; done))))
                refine m_app (B := _) (N := S0.n + 1) (by simp) (by first | (simp; done) | (simp; exact ⟨rfl, rfl⟩)) ⟨_, rfl⟩ (by simp) (by simp <;> omega) hm2 (by simp) (by simp) (by simp <;> omega) (by simp <;> omega) ?_
                rintro _ tk3 ⟨g3, rfl⟩ hm3 _ _
                refine st0 ?_
                refine ⟨m3 - 1, by omega, q + 1, tk3, by omega, ?_, ?_, by simp⟩
                · rw [ftake hqt, if_pos (by simpa [mineP] using hmn), List.map_append]; exact ⟨_, rfl⟩
                · rw [ftake hqt, if_pos (by simpa [mineP] using hmn), List.map_append]; exact hm3.swap (by simp) (by simp)
              · repeat (first | simp -dsimp -implicitDefEqProofs (disch := first | omega | (simp <;> omega) | fail) [hj, hqt, hmn] | ((with_reducible first | apply m_1 | apply m_0); (focus ((conv => lhs; simp -dsimp -implicitDefEqProofs (disch := first | omega | (simp <;> omega) | fail) [hj, hqt, hmn]); done))) | ((with_reducible apply giv); (case hAR => ((conv => lhs; simp -dsimp -implicitDefEqProofs (disch := first | omega | (simp <;> omega) | fail) [hj, hqt, hmn]); done)); (case hCT => (first | (apply ct_laderef18_Of <;> first | assumption | omega | decide)))) | ((with_reducible first | apply i_T | apply g_T); (focus (simp -dsimp -implicitDefEqProofs (disch := first | omega | (simp <;> omega) | fail) [hj, hqt, hmn]; done))) | ((with_reducible first | apply i_F | apply g_F); (focus (simp -dsimp -implicitDefEqProofs (disch := first | omega | (simp <;> omega) | fail) [hj, hqt, hmn]; done))))
                refine ⟨m3 - 1, by omega, q + 1, tk2, by omega, ?_, ?_, by simp⟩
                · rw [ftake hqt, if_neg (by simpa [mineP] using hmn), List.append_nil]; exact ⟨_, rfl⟩
                · rw [ftake hqt, if_neg (by simpa [mineP] using hmn), List.append_nil]; exact hm2
            · have hqe : q = l[j].ps.length := by omega
              rw [hqe, List.take_length] at hm2 ⊢
              have hfl2 : (l[j].ps.filter (mineP i n)).length ≤ l[j].ps.length := List.length_filter_le _ _
              have hpk : (pickF i n l[j]).ps = l[j].ps.filter (mineP i n) := rfl
              generalize hfp : l[j].ps.filter (mineP i n) = fp at hm2 hfl2 hpk ⊢
              by_cases hfe : 0 < fp.length
              · repeat (first | simp -dsimp -implicitDefEqProofs (disch := first | omega | (simp <;> omega) | fail) [hj, hfe, hlt, hg0, fd] | ((with_reducible first | apply m_1 | apply m_0); (focus ((conv => lhs; simp -dsimp -implicitDefEqProofs (disch := first | omega | (simp <;> omega) | fail) [hj, hfe, hlt, hg0, fd]); done))) | ((with_reducible first | apply i_T | apply g_T); (focus (simp -dsimp -implicitDefEqProofs (disch := first | omega | (simp <;> omega) | fail) [hj, hfe, hlt, hg0, fd]; done))) | ((with_reducible first | apply i_F | apply g_F); (focus (simp -dsimp -implicitDefEqProofs (disch := first | omega | (simp <;> omega) | fail) [hj, hfe, hlt, hg0, fd]; done))))
                refine m_app (B := s.alloc (.cells (L ++ .sl ((splitI (l.take j) i n).map Fnd.av) tk :: Rr))) (N := s.n + 1) (by simp) (by first | (simp; done) | (simp; exact ⟨rfl, rfl⟩)) ?_ (by simp) (by simp <;> omega) (hmay.grows ?_) (by simp) (by simp) (by have := splitI_len (l.take j) i n; simp at this ⊢; omega) (by have := splitI_len (l.take j) i n; simp at this ⊢; omega) ?_
                · rw [← hS0]; (repeat (first | exact Grows.refl _ | with_reducible apply Grows.alloc | with_reducible apply Grows.allocs))
                · (repeat (first | exact Grows.refl _ | with_reducible apply Grows.alloc | with_reducible apply Grows.allocs))
                rintro _ tk3 ⟨g3, rfl⟩ hm3 _ hext
                refine st4 hlt ft fr hL ?_
                have e : splitI (l.take (j + 1)) i n = splitI (l.take j) i n ++ [pickF i n l[j]] := by
                  rw [splitI_snoc hj, if_neg (by rw [hpk]; cases fp <;> simp_all)]
                have ef : (pickF i n l[j]).av = .agg [.v (.int .i64 l[j].sq), .sl (fp.map Prt.av) .no, .v (.int .i64 l[j].sg), .v (.int .i64 l[j].at_)] := by
                  rw [← hpk]; rfl
                refine ⟨m2 - 1, by omega, j + 1, tk3, by omega, ?_, ?_, ?_⟩
                · rw [e, List.map_append, List.map_cons, ef]; exact ⟨_, rfl⟩
                · rw [e, List.map_append, List.map_cons, ef]; exact hm3.swap (by simp) (by simp)
                · simp
              · repeat (first | simp -dsimp -implicitDefEqProofs (disch := first | omega | (simp <;> omega) | fail) [hj, hfe] | ((with_reducible first | apply m_1 | apply m_0); (focus ((conv => lhs; simp -dsimp -implicitDefEqProofs (disch := first | omega | (simp <;> omega) | fail) [hj, hfe]); done))) | ((with_reducible first | apply i_T | apply g_T); (focus (simp -dsimp -implicitDefEqProofs (disch := first | omega | (simp <;> omega) | fail) [hj, hfe]; done))) | ((with_reducible first | apply i_F | apply g_F); (focus (simp -dsimp -implicitDefEqProofs (disch := first | omega | (simp <;> omega) | fail) [hj, hfe]; done))))
                have e : splitI (l.take (j + 1)) i n = splitI (l.take j) i n := by
                  rw [splitI_snoc hj, if_pos (by rw [hpk]; cases fp <;> simp_all)]; simp
                refine ⟨m2 - 1, by omega, j + 1, tk, by omega, ?_, ?_, ?_⟩
                · rw [e, ← hS0]; (repeat (first | exact Grows.refl _ | with_reducible apply Grows.alloc | with_reducible apply Grows.allocs))
                · rw [e]; refine hmay.grows ?_; (repeat (first | exact Grows.refl _ | with_reducible apply Grows.alloc | with_reducible apply Grows.allocs))
                · simp
        · refine st1 hj ?_
          have : j = l.length := by omega
          subst this
          rw [List.take_length] at hmay ⊢
          refine ⟨m - 1, by omega, i + 1, L ++ [.sl ((splitI l i n).map Fnd.av) tk], by omega, by simp [hL], ?_, ?_, by simp⟩
          · intro j' h'
            by_cases he : j' < L.length
            · rw [List.getElem_append_left he]; exact hdone j' he
            · have : j' = i := by simp at h'; omega
              subst this
              rw [List.getElem_append_right (by omega)]; exact ⟨tk, by simp [hL]⟩
          · rw [show k - (i + 1) = k - i - 1 by omega, hR]; simp; exact ⟨_, rfl⟩
    · refine st1 (show ¬ (i : Int) < held n by omega) ?_
      have : i = k := by omega
      subst this
      try simp only [Nat.sub_self, List.replicate_zero, List.append_nil]
      exact ret_ok (by simp; rfl) ⟨L, rfl, ⟨_, rfl⟩, hL, hdone⟩
end Go.Proofs.YtmpoeamfcienoaaGreat
end
section
namespace Go.Ab
set_option linter.unusedVariables false
set_option linter.unusedSimpArgs false
def runL (M : List (Int × LogV)) (l : List (List Prt × Plc)) : List (Int × LogV) := l.foldl (fun M x => doL M x.1 x.2) M
theorem MOk.runL {M : List (Int × LogV)} (hM : MOk M) (l : List (List Prt × Plc)) : MOk (runL M l) := by
  unfold Ab.runL
  induction l generalizing M with
  | nil => exact hM
  | cons x l ih => exact ih (hM.doL _ _)
theorem MOk.nil' : MOk [] := ⟨.nil, by simp⟩
end Go.Ab
end
section
namespace Go.Ab
set_option linter.unusedVariables false
def LedsAll (s : AState) (bs : List Nat) (Ms : List (List (Int × LogV))) : Prop := bs.length = Ms.length ∧ ∀ i (h : i < bs.length) (h' : i < Ms.length), ∃ F, LedAt s bs[i] Ms[i] F ∧ ∀ x ∈ F, x < s.n
theorem LedsAll.keep {s s' : AState} {bs : List Nat} {Ms : List (List (Int × LogV))} (h : LedsAll s bs Ms) (hn : s.n ≤ s'.n) (k : ∀ x, x < s.n → s'.get x = s.get x) : LedsAll s' bs Ms :=
  ⟨h.1, fun i h1 h2 => by obtain ⟨F, hF, hl⟩ := h.2 i h1 h2; exact ⟨F, hF.keep fun x hx => k x (hl x hx), fun x hx => by have := hl x hx; omega⟩⟩
end Go.Ab
end
section
namespace Go.Ab
set_option linter.unusedVariables false
set_option linter.unusedSimpArgs false
def Live (s : AState) (F : List Nat) : Prop := ∀ x ∈ F, s.get x ≠ .dead ∧ s.get x ≠ .tok
theorem Live.ext {s s' : AState} {F : List Nat} (h : Live s F) (e : s.ext s') : ∀ x ∈ F, s'.get x = s.get x := fun x hx => e.2 x (h x hx).1 (h x hx).2
theorem LogAt.live {s : AState} {lb : Nat} {v : LogV} {F : List Nat} (h : LogAt s lb v F) : Live s F := by
  obtain ⟨tk, mb, A, rfl, h1, h2, h3⟩ := h
  intro x hx
  simp only [List.mem_cons, List.not_mem_nil, or_false] at hx
  rcases hx with rfl | rfl
  · rw [h1]; exact ⟨by simp, by simp⟩
  · rw [h2]; exact ⟨by simp, by simp⟩
theorem LogsAt.live {s : AState} : ∀ {B : List (Int × Nat)} {M : List (Int × LogV)} {F : List Nat}, LogsAt s B M F → Live s F
  | [], [], _, h => by intro x hx; rw [show _ = [] from h] at hx; cases hx
  | x :: B, y :: M, _, ⟨h, F1, F2, e, h1, h2⟩ => by
    subst e; intro z hz
    rcases List.mem_append.1 hz with hz | hz
    · exact h1.live z hz
    · exact LogsAt.live h2 z hz
theorem LedAt.live {s : AState} {b : Nat} {M : List (Int × LogV)} {F : List Nat} (h : LedAt s b M F) : Live s F := by
  obtain ⟨mb, A, B, F', rfl, h1, h2, h3, h4, h5⟩ := h
  intro x hx
  rcases List.mem_cons.1 hx with rfl | hx
  · rw [h1]; exact ⟨by simp, by simp⟩
  rcases List.mem_cons.1 hx with rfl | hx
  · rw [h2]; exact ⟨by simp, by simp⟩
  · exact h4.live x hx
def LedsAt (s : AState) : List Nat → List (List (Int × LogV)) → List Nat → Prop
  | [], [], F => F = []
  | b :: bs, M :: Ms, F => ∃ F1 F2, F = F1 ++ F2 ∧ LedAt s b M F1 ∧ LedsAt s bs Ms F2
  | _, _, _ => False
theorem LedsAt.len {s : AState} : ∀ {bs : List Nat} {Ms : List (List (Int × LogV))} {F : List Nat}, LedsAt s bs Ms F → bs.length = Ms.length
  | [], [], _, _ => rfl
  | b :: bs, M :: Ms, _, ⟨F1, F2, _, _, h⟩ => by simp [LedsAt.len h]
theorem LedsAt.lt {s : AState} : ∀ {bs : List Nat} {Ms : List (List (Int × LogV))} {F : List Nat}, LedsAt s bs Ms F → ∀ x ∈ F, x < s.n
  | [], [], _, h => by intro x hx; rw [show _ = [] from h] at hx; cases hx
  | b :: bs, M :: Ms, _, ⟨F1, F2, e, h1, h2⟩ => by
    subst e; intro z hz
    rcases List.mem_append.1 hz with hz | hz
    · exact h1.lt z hz
    · exact LedsAt.lt h2 z hz
theorem LedsAt.live {s : AState} : ∀ {bs : List Nat} {Ms : List (List (Int × LogV))} {F : List Nat}, LedsAt s bs Ms F → Live s F
  | [], [], _, h => by intro x hx; rw [show _ = [] from h] at hx; cases hx
  | b :: bs, M :: Ms, _, ⟨F1, F2, e, h1, h2⟩ => by
    subst e; intro z hz
    rcases List.mem_append.1 hz with hz | hz
    · exact h1.live z hz
    · exact LedsAt.live h2 z hz
theorem LedsAt.keep {s s' : AState} : ∀ {bs : List Nat} {Ms : List (List (Int × LogV))} {F : List Nat}, LedsAt s bs Ms F → (∀ x ∈ F, s'.get x = s.get x) → LedsAt s' bs Ms F
  | [], [], _, h, _ => h
  | b :: bs, M :: Ms, _, ⟨F1, F2, e, h1, h2⟩, k => by
    subst e
    exact ⟨F1, F2, rfl, h1.keep fun z hz => k z (List.mem_append.2 (.inl hz)), LedsAt.keep h2 fun z hz => k z (List.mem_append.2 (.inr hz))⟩
theorem LedsAt.all {s : AState} : ∀ {bs : List Nat} {Ms : List (List (Int × LogV))} {F : List Nat}, LedsAt s bs Ms F → LedsAll s bs Ms
  | [], [], _, _ => ⟨rfl, fun i h => absurd h (Nat.not_lt_zero _)⟩
  | b :: bs, M :: Ms, _, ⟨F1, F2, e, h1, h2⟩ => by
    have ih := LedsAt.all h2
    refine ⟨by simp [ih.1], fun i h h' => ?_⟩
    cases i with
    | zero => exact ⟨F1, h1, h1.lt⟩
    | succ i => exact ih.2 i (by simpa using h) (by simpa using h')
theorem LedsAt.snoc {s s' : AState} {b : Nat} {M : List (Int × LogV)} {Fi : List Nat} (hL : LedAt s' b M Fi) : ∀ {bs : List Nat} {Ms : List (List (Int × LogV))} {F : List Nat}, LedsAt s bs Ms F → (∀ x ∈ F, s'.get x = s.get x) → LedsAt s' (bs ++ [b]) (Ms ++ [M]) (F ++ Fi)
  | [], [], _, h, _ => by obtain rfl := (h : _ = []); exact ⟨Fi, [], by simp, hL, rfl⟩
  | b :: bs, M :: Ms, _, ⟨F1, F2, e, h1, h2⟩, k => by
    subst e
    exact ⟨F1, F2 ++ Fi, by simp, h1.keep fun z hz => k z (List.mem_append.2 (.inl hz)), LedsAt.snoc hL h2 fun z hz => k z (List.mem_append.2 (.inr hz))⟩
theorem LedsAt.focus {s : AState} : ∀ {bs : List Nat} {Ms : List (List (Int × LogV))} {F : List Nat}, LedsAt s bs Ms F → F.Nodup → ∀ {i : Nat} (h : i < bs.length) (h' : i < Ms.length),
    ∃ Fi, LedAt s bs[i] Ms[i] Fi ∧ (∀ x ∈ Fi, x ∈ F) ∧ ∀ (s' : AState) (M' : List (Int × LogV)) (Fi' : List Nat), LedAt s' bs[i] M' Fi' → Mut Fi Fi' s s' → ∃ F', LedsAt s' bs (Ms.set i M') F' ∧ Mut F F' s s' ∧ F'.Nodup
  | b :: bs, M :: Ms, _, ⟨F1, F2, e, h1, h2⟩, hn, i, hi, hi' => by
    subst e
    obtain ⟨hn1, hn2, hn3⟩ := List.nodup_append.1 hn
    have hd : ∀ z ∈ F2, z ∉ F1 := fun z hz hz' => hn3 z hz' z hz rfl
    have hd' : ∀ z ∈ F1, z ∉ F2 := fun z hz hz' => hn3 z hz z hz' rfl
    have hl2 := LedsAt.lt h2
    cases i with
    | zero =>
      refine ⟨F1, h1, fun z hz => List.mem_append.2 (.inl hz), fun s' M' Fi' g1 g2 => ?_⟩
      exact ⟨Fi' ++ F2, ⟨Fi', F2, rfl, g1, h2.keep (g2.get hd hl2)⟩, g2.more F2, nodup_app g2 g1.nodup hn2 hd hl2⟩
    | succ i =>
      obtain ⟨Fi, k1, k2, k3⟩ := LedsAt.focus h2 hn2 (i := i) (by simpa using hi) (by simpa using hi')
      refine ⟨Fi, k1, fun z hz => List.mem_append.2 (.inr (k2 z hz)), fun s' M' Fi' g1 g2 => ?_⟩
      obtain ⟨F', q1, q2, q3⟩ := k3 s' M' Fi' g1 g2
      exact ⟨F1 ++ F', ⟨F1, F', rfl, h1.keep (q2.get hd' h1.lt), q1⟩, q2.moreL F1, nodup_app' q2 q3 hn1 hd' h1.lt⟩
def RpAt (s : AState) (b : Nat) (L : List (List Fnd)) (Ms : List (List (Int × LogV))) (F : List Nat) : Prop :=
  ∃ (lb : Nat) (cs : List AV) (ps : List Nat) (tk : Tok) (F' : List Nat), F = b :: lb :: F' ∧ s.get b = .cells [.ms lb 0 L.length, .sl (ps.map ptr) tk] ∧ s.get lb = .cells cs ∧ cs.length = L.length ∧
    (∀ i (h : i < cs.length) (h' : i < L.length), ∃ t, cs[i] = .sl ((L[i]).map Fnd.av) t) ∧ LedsAt s ps Ms F' ∧ F.Nodup ∧ Ms.length = L.length
theorem RpAt.lt {s : AState} {b : Nat} {L : List (List Fnd)} {Ms : List (List (Int × LogV))} {F : List Nat} (h : RpAt s b L Ms F) : ∀ x ∈ F, x < s.n := by
  obtain ⟨lb, cs, ps, tk, F', rfl, h1, h2, h3, h4, h5, h6, h7⟩ := h
  intro x hx
  rcases List.mem_cons.1 hx with rfl | hx
  · exact AState.lt_of_get h1 (by simp)
  rcases List.mem_cons.1 hx with rfl | hx
  · exact AState.lt_of_get h2 (by simp)
  · exact h5.lt x hx
theorem RpAt.keep {s s' : AState} {b : Nat} {L : List (List Fnd)} {Ms : List (List (Int × LogV))} {F : List Nat} (h : RpAt s b L Ms F) (k : ∀ x ∈ F, s'.get x = s.get x) : RpAt s' b L Ms F := by
  obtain ⟨lb, cs, ps, tk, F', rfl, h1, h2, h3, h4, h5, h6, h7⟩ := h
  exact ⟨lb, cs, ps, tk, F', rfl, (k _ (by simp)).trans h1, (k _ (by simp)).trans h2, h3, h4, h5.keep fun x hx => k x (by simp [hx]), h6, h7⟩
structure NwI (s1 : AState) (b lb k j : Nat) (s3 : AState) (ps : List Nat) (tk : Tok) (F : List Nat) : Prop where
  c : s3.get b = .cells [.ms lb 0 k, .sl (ps.map ptr) tk]
  may : May (b + 1) s3 (ps.map ptr) tk
  leds : LedsAt s3 ps (List.replicate j []) F
  nd : F.Nodup
  hi : ∀ x ∈ F, b + 1 ≤ x
  n : b + 1 ≤ s3.n
  old : ∀ x, x < b → s3.get x = s1.get x
end Go.Ab
namespace Go.Proofs.YtmpoeamfcienoaaGreat
open Go.Ab
set_option linter.unusedVariables false
set_option linter.unusedSimpArgs false
set_option maxRecDepth 100000
set_option maxHeartbeats 1000000
theorem rn_replay_New {l : List Fnd} {n : Int} {s : AState} (hl : (l.length : Int) * 48 ≤ 140737488355328) (hps : ∀ f ∈ l, (f.ps.length : Int) * 88 ≤ 140737488355328) :
    Runs (compCode prog) prog F_replay_New [.sl (l.map Fnd.av) .no, .v (.int .i64 n)] s (fun x s' => ∃ b F, x = .p b 0 ∧ RpAt s' b (split l n) (List.replicate (held n).toNat []) F ∧ Mut [] F s s') := by
  have hh := held_pos n
  refine runs_e h_replay_New (Nat.le_of_ble_eq_true rfl) ?_
  repeat (first | simp -dsimp -implicitDefEqProofs (disch := first | omega | (simp <;> omega) | fail) | ((with_reducible first | apply m_1 | apply m_0); (focus ((conv => lhs; simp -dsimp -implicitDefEqProofs (disch := first | omega | (simp <;> omega) | fail)); done))) | ((with_reducible first | apply i_T | apply g_T); (focus (simp -dsimp -implicitDefEqProofs (disch := first | omega | (simp <;> omega) | fail); done))) | ((with_reducible first | apply i_F | apply g_F); (focus (simp -dsimp -implicitDefEqProofs (disch := first | omega | (simp <;> omega) | fail); done))))
  refine run (rn_shard_Split (l := l) (n := n) hl hps) (by first | (simp; done) | rfl | (simp; rfl)) ?_
  rintro _ s1 ⟨cs, rfl, hg, hcl, hcs⟩
  have hn1 := hg.n
  simp at hn1
  obtain ⟨k, hk⟩ : ∃ k : Nat, k = (held n).toNat := ⟨_, rfl⟩
  rw [← hk] at hcl ⊢
  have hk64 : k ≤ 64 := by omega
  repeat (first | simp -dsimp -implicitDefEqProofs (disch := first | omega | (simp <;> omega) | fail) | ((with_reducible first | apply m_1 | apply m_0); (focus ((conv => lhs; simp -dsimp -implicitDefEqProofs (disch := first | omega | (simp <;> omega) | fail)); done))) | ((with_reducible first | apply i_T | apply g_T); (focus (simp -dsimp -implicitDefEqProofs (disch := first | omega | (simp <;> omega) | fail); done))) | ((with_reducible first | apply i_F | apply g_F); (focus (simp -dsimp -implicitDefEqProofs (disch := first | omega | (simp <;> omega) | fail); done))))
  refine loop_ok [5, 15, 16] (fun r a s3 => ∃ (j : Nat) (ps : List Nat) (tk : Tok) (F : List Nat), j + r = k ∧ ps.length = j ∧ NwI s1 s1.n s.n k j s3 ps tk F ∧
    a = { t := den 30 [(5, .p s1.n 0), (15, .v (.int .i64 k)), (16, .v (.int .i64 j))], d := [] }) k ?_ ?_
  · exact ⟨0, [], .zero, [], by simp, rfl, ⟨by simp, trivial, rfl, List.nodup_nil, by simp, by simp, fun x hx => get_alloc_ne (by omega)⟩, by simp⟩
  rintro r a s3 ⟨j, ps, tk, F, hjr, hpl, ⟨c, may, leds, nd, hi, nn, old⟩, rfl⟩
  by_cases hlt : j < k
  · have w3 : IntKind.wrap .i64 ((j : Int) + 1) = (j : Int) + 1 := wrap_i64 (by omega) (by omega)
    have hlF := leds.lt
    repeat (first | simp -dsimp -implicitDefEqProofs (disch := first | omega | (simp <;> omega) | fail) [hlt, c] | (with_reducible apply m_draw) | ((with_reducible refine ⟨m_op ?_, ?_⟩); (focus (simp -dsimp -implicitDefEqProofs (disch := first | omega | (simp <;> omega) | fail) [hlt, c]; done))) | ((with_reducible first | apply m_d1 rfl | apply m_dE | apply m_dE0); (focus ((conv => lhs; simp -dsimp -implicitDefEqProofs (disch := first | omega | (simp <;> omega) | fail) [hlt, c]); done))) | ((with_reducible first | apply m_1 | apply m_0); (focus ((conv => lhs; simp -dsimp -implicitDefEqProofs (disch := first | omega | (simp <;> omega) | fail) [hlt, c]); done))) | ((with_reducible first | apply i_T | apply g_T | apply h_T); (focus (simp -dsimp -implicitDefEqProofs (disch := first | omega | (simp <;> omega) | fail) [hlt, c]; done))) | ((with_reducible first | apply i_F | apply g_F | apply h_F); (focus (simp -dsimp -implicitDefEqProofs (disch := first | omega | (simp <;> omega) | fail) [hlt, c]; done))))
    refine run (rn_ledger_New) (by first | (simp; done) | rfl | (simp; rfl)) ?_
    rintro _ s4 ⟨bl, F1, rfl, h1, h2, h3⟩
    refine ⟨m_ext h2.ext, ?_⟩
    repeat (first | simp -dsimp -implicitDefEqProofs (disch := first | omega | (simp <;> omega) | fail) | (with_reducible apply m_draw) | ((with_reducible refine ⟨m_op ?_, ?_⟩); (focus (simp -dsimp -implicitDefEqProofs (disch := first | omega | (simp <;> omega) | fail); done))) | ((with_reducible first | apply m_d1 rfl | apply m_dE | apply m_dE0); (focus ((conv => lhs; simp -dsimp -implicitDefEqProofs (disch := first | omega | (simp <;> omega) | fail)); done))) | ((with_reducible first | apply m_1 | apply m_0); (focus ((conv => lhs; simp -dsimp -implicitDefEqProofs (disch := first | omega | (simp <;> omega) | fail)); done))) | ((with_reducible first | apply i_T | apply g_T | apply h_T); (focus (simp -dsimp -implicitDefEqProofs (disch := first | omega | (simp <;> omega) | fail); done))) | ((with_reducible first | apply i_F | apply g_F | apply h_F); (focus (simp -dsimp -implicitDefEqProofs (disch := first | omega | (simp <;> omega) | fail); done))))
    refine q_appS (xs := ps.map ptr) (tk := tk) (ys := [.p bl 0]) (t2 := .zero) (N := s1.n + 1) (by simp) (by simp) (by have := h2.n; omega) (may.grows h2) (by cases ps <;> simp [headK, ptr, AV.cells]) (by simp) (by simp; omega) (by simp; omega) ?_
    intro s5 tk2 hm2 hlow hext
    have hn4 := h2.n
    have c4 : s4.get s1.n = _ := (h2.get (by omega)).trans c
    have c5 : s5.get s1.n = _ := (hlow _ (by omega)).trans c4
    have kF : ∀ x ∈ F, s5.get x = s3.get x := fun x hx => ((leds.keep fun y hy => h2.get (hlF y hy)).live.ext hext x hx).trans (h2.get (hlF x hx))
    have kF1 : ∀ x ∈ F1, s5.get x = s4.get x := h1.live.ext hext
    have hn5 := hext.1
    repeat (first | simp -dsimp -implicitDefEqProofs (disch := first | omega | (simp <;> omega) | fail) [c5] | (with_reducible apply m_draw) | ((with_reducible refine ⟨m_op ?_, ?_⟩); (focus (simp -dsimp -implicitDefEqProofs (disch := first | omega | (simp <;> omega) | fail) [c5]; done))) | ((with_reducible first | apply m_d1 rfl | apply m_dE | apply m_dE0); (focus ((conv => lhs; simp -dsimp -implicitDefEqProofs (disch := first | omega | (simp <;> omega) | fail) [c5]); done))) | ((with_reducible first | apply m_1 | apply m_0); (focus ((conv => lhs; simp -dsimp -implicitDefEqProofs (disch := first | omega | (simp <;> omega) | fail) [c5]); done))) | ((with_reducible first | apply i_T | apply g_T | apply h_T); (focus (simp -dsimp -implicitDefEqProofs (disch := first | omega | (simp <;> omega) | fail) [c5]; done))) | ((with_reducible first | apply i_F | apply g_F | apply h_F); (focus (simp -dsimp -implicitDefEqProofs (disch := first | omega | (simp <;> omega) | fail) [c5]; done))))
    refine ⟨r - 1, by omega, j + 1, ps ++ [bl], tk2, F ++ F1, by omega, by simp [hpl], ?_, by simp [w3]⟩
    have ne : ∀ x, s1.n + 1 ≤ x → x ≠ s1.n := fun x h => by omega
    refine ⟨by simp (disch := first | omega | (simp <;> omega) | fail) [ptr], by simpa [ptr] using hm2.set _ (by omega), ?_, ?_, fun x hx => ?_, by simp; omega, fun x hx => ?_⟩
    · rw [List.replicate_succ']
      exact LedsAt.snoc (h1.keep fun x hx => by rw [AState.get_set_ne _ _ (ne x (by have := h3 x hx; omega))]; exact kF1 x hx) leds fun x hx => by rw [AState.get_set_ne _ _ (ne x (hi x hx))]; exact kF x hx
    · rw [List.nodup_append]
      exact ⟨nd, h1.nodup, fun x hx y hy e => by have := hlF x hx; have := h3 y hy; omega⟩
    · rcases List.mem_append.1 hx with h | h
      · exact hi x h
      · have := h3 x h; omega
    · rw [AState.get_set_ne _ _ (by omega), hlow x (by omega), h2.get (by omega), old x hx]
  · have : j = k := by omega
    subst this
    have hsp : (split l n).length = j := by rw [hk]; simp [split]
    refine st1 hlt ?_
    have hlF := leds.lt
    refine ret_ok rfl ⟨s1.n, s1.n :: s.n :: F, rfl, ⟨s.n, cs, ps, tk, F, rfl, by rw [hsp]; exact c, ?_, by rw [hsp, hcl], fun i h h' => ?_, leds, ?_, by rw [hsp]; simp⟩, ?_⟩
    · rw [old _ (by omega), hg.get (by simp)]; simp
    · obtain ⟨t, e⟩ := hcs i h
      exact ⟨t, by rw [e]; simp [split]⟩
    · simp only [List.nodup_cons, List.mem_cons, not_or]
      exact ⟨⟨by omega, fun h => by have := hi _ h; omega⟩, fun h => by have := hi _ h; omega, nd⟩
    · refine ⟨by omega, fun x hx _ => ?_, fun x hx => .inr ?_⟩
      · rw [old _ (by omega), hg.get (by simp; omega)]; exact get_alloc_ne (by omega)
      · simp only [List.mem_cons] at hx
        rcases hx with rfl | rfl | h
        · omega
        · omega
        · have := hi x h; omega
end Go.Proofs.YtmpoeamfcienoaaGreat
end
section
namespace Go.Ab
set_option linter.unusedVariables false
set_option linter.unusedSimpArgs false
def nextF (L : List (List Fnd)) (i : Int) : Option (Fnd × List Fnd) := if i < 0 then none else match L[i.toNat]? with | some (f :: r) => some (f, r) | _ => none
def stepL (L : List (List Fnd)) (i : Int) : List (List Fnd) := match nextF L i with | some (_, r) => L.set i.toNat r | none => L
def stepM (L : List (List Fnd)) (Ms : List (List (Int × LogV))) (i : Int) : List (List (Int × LogV)) := match nextF L i with | some (f, _) => Ms.set i.toNat (doL (Ms.getD i.toNat []) f.ps ⟨f.sg, f.at_⟩) | none => Ms
def cntL (L : List (List Fnd)) : Nat := (L.map List.length).sum
def GsOk (Ms : List (List (Int × LogV))) : Prop := ∀ M ∈ Ms, MOk M
theorem GsOk.step {L : List (List Fnd)} {Ms : List (List (Int × LogV))} (h : GsOk Ms) (i : Int) : GsOk (stepM L Ms i) := by
  unfold stepM
  split
  · next f r hn =>
    intro M hM
    rcases List.mem_or_eq_of_mem_set hM with h1 | rfl
    · exact h M h1
    · refine MOk.doL ?_ _ _
      rw [List.getD_eq_getElem?_getD]
      cases e : Ms[i.toNat]? with
      | none => exact .nil'
      | some M => exact h M (List.mem_of_getElem? e)
  · exact h
theorem stepL_len (L : List (List Fnd)) (i : Int) : (stepL L i).length = L.length := by unfold stepL; split <;> simp
structure FewL (L : List (List Fnd)) : Prop where
  k : L.length ≤ 64
  n : ∀ l ∈ L, l.length ≤ 30
  p : ∀ l ∈ L, ∀ f ∈ l, f.ps.length ≤ 6
  e : ∀ l ∈ L, ∀ f ∈ l, ∀ p ∈ f.ps, p.es.length ≤ 8
theorem FewL.step {L : List (List Fnd)} (h : FewL L) (i : Int) : FewL (stepL L i) := by
  unfold stepL
  split
  · next f r hn =>
    have hL : (f :: r) ∈ L := by
      unfold nextF at hn
      split at hn
      · cases hn
      split at hn
      · next f' r' e => cases hn; exact List.mem_of_getElem? e
      · cases hn
    have key : ∀ l ∈ L.set i.toNat r, ∃ l' ∈ L, l.length ≤ l'.length ∧ ∀ x ∈ l, x ∈ l' := fun l hl => by
      rcases List.mem_or_eq_of_mem_set hl with h1 | rfl
      · exact ⟨l, h1, Nat.le_refl _, fun x hx => hx⟩
      · exact ⟨_, hL, by simp, fun x hx => by simp [hx]⟩
    refine ⟨by simpa using h.k, fun l hl => ?_, fun l hl f hf => ?_, fun l hl f hf p hp => ?_⟩ <;> obtain ⟨l', h1, h2, h3⟩ := key l hl
    · have := h.n l' h1; omega
    · exact h.p l' h1 f (h3 f hf)
    · exact h.e l' h1 f (h3 f hf) p hp
  · exact h
end Go.Ab
namespace Go.Proofs.YtmpoeamfcienoaaGreat
open Go.Ab
set_option linter.unusedVariables false
set_option linter.unusedSimpArgs false
set_option maxRecDepth 100000
set_option maxHeartbeats 1000000
theorem rn_replay_Replay_Step {b : Nat} {L : List (List Fnd)} {Ms : List (List (Int × LogV))} {F : List Nat} {i : Int} {s : AState} (hR : RpAt s b L Ms F) (hM : GsOk Ms) (hf : FewL L) :
    Runs (compCode prog) prog F_replay_Replay_Step [.p b 0, .v (.int .i64 i)] s (fun x s' => ∃ F', x = .v (.bool (nextF L i).isSome) ∧ RpAt s' b (stepL L i) (stepM L Ms i) F' ∧ Mut F F' s s') := by
  have hR' := hR
  have hlt := hR.lt
  have hk := hf.k
  obtain ⟨lb, cs, ps, tk, F', rfl, h1, h2, h3, h4, h5, h6, h7⟩ := hR
  have hb := hlt b (by simp)
  have hlb := hlt lb (by simp)
  have hpl := h5.len
  refine runs_e h_replay_Replay_Step (Nat.le_of_ble_eq_true rfl) ?_
  have stay : ∀ (h : nextF L i = none), ∃ F2, (.v (.bool false) : AV) = .v (.bool (nextF L i).isSome) ∧ RpAt s b (stepL L i) (stepM L Ms i) F2 ∧ Mut (b :: lb :: F') F2 s s := fun h => by
    refine ⟨b :: lb :: F', by rw [h]; rfl, ?_, .refl _ _⟩
    unfold stepL stepM; rw [h]; exact hR'
  by_cases hi : i < 0
  · have hn : nextF L i = none := by unfold nextF; rw [if_pos hi]
    repeat (first | simp -dsimp -implicitDefEqProofs (disch := first | omega | (simp <;> omega) | fail) [hi] | ((with_reducible first | apply m_1 | apply m_0); (focus ((conv => lhs; simp -dsimp -implicitDefEqProofs (disch := first | omega | (simp <;> omega) | fail) [hi]); done))) | ((with_reducible first | apply i_T | apply g_T); (focus (simp -dsimp -implicitDefEqProofs (disch := first | omega | (simp <;> omega) | fail) [hi]; done))) | ((with_reducible first | apply i_F | apply g_F); (focus (simp -dsimp -implicitDefEqProofs (disch := first | omega | (simp <;> omega) | fail) [hi]; done))))
    exact ret_ok rfl (stay hn)
  obtain ⟨m, rfl⟩ : ∃ m : Nat, i = m := ⟨i.toNat, by omega⟩
  by_cases hm : m < L.length
  · have hm2 : ¬ L.length ≤ m := by omega
    have hnx : nextF L m = match L[m] with | f :: r => some (f, r) | [] => none := by
      unfold nextF
      rw [if_neg hi, show (m : Int).toNat = m from rfl, List.getElem?_eq_getElem hm]
      cases L[m] <;> rfl
    obtain ⟨t, ht⟩ := h4 m (by omega) hm
    obtain ⟨A, c, B, hcs, hA⟩ : ∃ A c B, cs = A ++ c :: B ∧ A.length = m := ⟨cs.take m, cs[m], cs.drop (m + 1), by rw [List.getElem_cons_drop]; simp, by simp; omega⟩
    have hc : c = .sl ((L[m]).map Fnd.av) t := by
      rw [← ht]; simp [hcs, ← hA]
    have fd : ∀ x : AV, (A ++ x :: B).drop m = x :: B := fun x => drop_mid hA
    have ft : ∀ x : AV, (A ++ x :: B).take m = A := fun x => take_mid hA
    have fr : ∀ x : AV, (A ++ x :: B).drop (m + 1) = B := fun x => drop_mid1 hA
    rw [hcs, hc] at h2
    cases hL : L[m] with
    | nil =>
      rw [hL] at hnx h2
      repeat (first | simp -dsimp -implicitDefEqProofs (disch := first | omega | (simp <;> omega) | fail) [hi, hm, h1, h2, fd] | ((with_reducible first | apply m_1 | apply m_0); (focus ((conv => lhs; simp -dsimp -implicitDefEqProofs (disch := first | omega | (simp <;> omega) | fail) [hi, hm, h1, h2, fd]); done))) | ((with_reducible first | apply i_T | apply g_T); (focus (simp -dsimp -implicitDefEqProofs (disch := first | omega | (simp <;> omega) | fail) [hi, hm, h1, h2, fd]; done))) | ((with_reducible first | apply i_F | apply g_F); (focus (simp -dsimp -implicitDefEqProofs (disch := first | omega | (simp <;> omega) | fail) [hi, hm, h1, h2, fd]; done))))
      exact ret_ok rfl (stay hnx)
    | cons f r =>
      rw [hL] at hnx h2
      have hr0 : ((r.length : Int) + 1 == 0) = false := by simp; omega
      have hmp : m < ps.length := by omega
      have hr1 : (1 : Int) ≤ (r.length : Int) + 1 := by omega
      have hr2 : (r.map Fnd.av).take r.length = r.map Fnd.av := List.take_of_length_le (by simp)
      have hblb : b ≠ lb := fun e => (List.nodup_cons.1 h6).1 (by simp [e])
      have hptr : ∀ x, ptr x = .p x 0 := fun _ => rfl
      have hLm : (f :: r) ∈ L := by rw [← hL]; exact List.getElem_mem hm
      have hmM : m < Ms.length := by omega
      have hlbF : lb ∉ F' := (List.nodup_cons.1 (List.nodup_cons.1 h6).2).1
      have hbF : b ∉ F' := fun h => (List.nodup_cons.1 h6).1 (by simp [h])
      have hF' : ∀ x ∈ F', x < s.n := fun x hx => hlt x (by simp [hx])
      have hnF : F'.Nodup := (List.nodup_cons.1 (List.nodup_cons.1 h6).2).2
      repeat (first | simp -dsimp -implicitDefEqProofs (disch := first | omega | (simp <;> omega) | fail) [hi, hm, hm2, h1, h2, fd, ft, fr, hr0, hr1, hr2, hA, hmp, hptr] | ((with_reducible first | apply m_1 | apply m_0); (focus ((conv => lhs; simp -dsimp -implicitDefEqProofs (disch := first | omega | (simp <;> omega) | fail) [hi, hm, hm2, h1, h2, fd, ft, fr, hr0, hr1, hr2, hA, hmp, hptr]); done))) | ((with_reducible first | apply i_T | apply g_T); (focus (simp -dsimp -implicitDefEqProofs (disch := first | omega | (simp <;> omega) | fail) [hi, hm, hm2, h1, h2, fd, ft, fr, hr0, hr1, hr2, hA, hmp, hptr]; done))) | ((with_reducible first | apply i_F | apply g_F); (focus (simp -dsimp -implicitDefEqProofs (disch := first | omega | (simp <;> omega) | fail) [hi, hm, hm2, h1, h2, fd, ft, fr, hr0, hr1, hr2, hA, hmp, hptr]; done))))
      have h5' : LedsAt ((s.set lb (.cells (A ++ .sl (r.map Fnd.av) .no :: B))).alloc (.cells f.cells)) ps Ms F' := h5.keep fun x hx => by
        rw [get_alloc_ne (by have := hF' x hx; simp; omega), AState.get_set_ne _ _ (by rintro rfl; exact hlbF hx)]
      have hcl : (A ++ .sl (r.map Fnd.av) .no :: B).length = L.length := by rw [← h3, hcs]; simp
      obtain ⟨Fi, k1, k2, k3⟩ := h5'.focus hnF (i := m) hmp hmM
      refine run (rn_ledger_Ledger_Do (l := f.ps) (at_ := ⟨f.sg, f.at_⟩) k1 (hM _ (List.getElem_mem hmM)).gok (by have := hf.p _ hLm f (by simp); omega) (fun p hp => by have := hf.e _ hLm f (by simp) p hp; omega)) (by simp [Plc.av, Plc.cells]) ?_
      rintro _ s2 ⟨Fi', q1, q2⟩
      obtain ⟨F2, j1, j2, j3⟩ := k3 s2 _ Fi' q1 q2
      repeat (first | simp -dsimp -implicitDefEqProofs (disch := first | omega | (simp <;> omega) | fail) | ((with_reducible first | apply m_1 | apply m_0); (focus ((conv => lhs; simp -dsimp -implicitDefEqProofs (disch := first | omega | (simp <;> omega) | fail)); done))) | ((with_reducible first | apply i_T | apply g_T); (focus (simp -dsimp -implicitDefEqProofs (disch := first | omega | (simp <;> omega) | fail); done))) | ((with_reducible first | apply i_F | apply g_F); (focus (simp -dsimp -implicitDefEqProofs (disch := first | omega | (simp <;> omega) | fail); done))))
      have hn2 := j2.n
      simp at hn2
      have ap : ∀ x ∈ [b, lb], x ∉ F2 := j2.apart (by simp [hbF, hlbF]) (by simp; omega)
      have g1 : s2.get b = s.get b := by rw [j2.keep b (by simp; omega) hbF, get_alloc_ne (by simp; omega), AState.get_set_ne _ _ hblb]
      have g2 : s2.get lb = .cells (A ++ .sl (r.map Fnd.av) .no :: B) := by rw [j2.keep lb (by simp; omega) hlbF]; simp (disch := first | omega | (simp <;> omega) | fail)
      have e1 : stepL L m = L.set m r := by unfold stepL; rw [hnx]; rfl
      have e2 : stepM L Ms m = Ms.set m (doL Ms[m] f.ps ⟨f.sg, f.at_⟩) := by
        unfold stepM; rw [hnx]; show Ms.set m (doL (Ms.getD m []) _ _) = _
        rw [List.getD_eq_getElem?_getD, List.getElem?_eq_getElem hmM]; rfl
      rw [hnx, e1, e2]
      refine ret_ok rfl ⟨b :: lb :: F2, rfl, ⟨lb, _, ps, tk, F2, rfl, by rw [g1, h1]; simp, g2, by simp only [List.length_set]; exact hcl, fun i h h' => ?_, j1, ?_, by simp [h7]⟩, ?_⟩
      · by_cases hi2 : i = m
        · subst hi2
          exact ⟨.no, by simp [hA]⟩
        · have hi3 : i < L.length := by simpa using h'
          obtain ⟨t', e'⟩ := h4 i (by omega) hi3
          refine ⟨t', ?_⟩
          rw [List.getElem_set_ne (fun e => hi2 e.symm), ← e']
          have : ∀ (x y : AV) (h1 : i < (A ++ x :: B).length) (h2 : i < (A ++ y :: B).length), (A ++ x :: B)[i] = (A ++ y :: B)[i] := fun x y g1 g2 => by
            by_cases h : i < A.length
            · rw [List.getElem_append_left h, List.getElem_append_left h]
            · rw [List.getElem_append_right (by omega), List.getElem_append_right (by omega)]
              obtain ⟨d, hd⟩ : ∃ d, i - A.length = d + 1 := ⟨i - A.length - 1, by omega⟩
              simp only [hd, List.getElem_cons_succ]
          simp only [hcs]
          exact this _ _ _ _
      · simp only [List.nodup_cons, List.mem_cons, not_or]
        exact ⟨⟨hblb, ap b (by simp)⟩, ap lb (by simp), j3⟩
      · refine ⟨by omega, fun x hx hnx => ?_, fun x hx => ?_⟩
        · simp only [List.mem_cons, not_or] at hnx
          rw [j2.keep x (by simp; omega) hnx.2.2, get_alloc_ne (by simp; omega), AState.get_set_ne _ _ hnx.2.1]
        · simp only [List.mem_cons] at hx ⊢
          rcases hx with h | h | h
          · exact .inl (.inl h)
          · exact .inl (.inr (.inl h))
          · rcases j2.own x h with h8 | h8
            · exact .inl (.inr (.inr h8))
            · exact .inr (by simp at h8; omega)
  · have hn : nextF L m = none := by
      unfold nextF
      rw [if_neg hi, show (m : Int).toNat = m from rfl, List.getElem?_eq_none (by omega)]
    have hm2 : L.length ≤ m := by omega
    refine st3 hi hm2 h1 ?_
    exact ret_ok rfl (stay hn)
end Go.Proofs.YtmpoeamfcienoaaGreat
end
section
namespace Go.Ab
set_option linter.unusedVariables false
set_option linter.unusedSimpArgs false
structure LftI (s : AState) (n : Nat) (lb k : Nat) (s' : AState) : Prop where
  b0 : s'.get s.n = .cells [.v (.int .i64 n)]
  b1 : s'.get (s.n + 1) = .cells [.ms lb 0 k]
  n : s.n + 4 ≤ s'.n
  old : ∀ x, x < s.n → s'.get x = s.get x
theorem LftI.keep {s : AState} {n lb k : Nat} {s' s2 : AState} (h : LftI s n lb k s') (hn : s'.n ≤ s2.n) (hk : ∀ x, x < s'.n → x ≠ s.n + 3 → s2.get x = s'.get x) : LftI s n lb k s2 := by
  obtain ⟨b0, b1, n, old⟩ := h
  exact ⟨(hk _ (by omega) (by omega)).trans b0, (hk _ (by omega) (by omega)).trans b1, by omega, fun x hx => (hk _ (by omega) (by omega)).trans (old x hx)⟩
theorem cntL_snoc {L : List (List Fnd)} {k : Nat} (h : k < L.length) : cntL (L.take (k + 1)) = cntL (L.take k) + L[k].length := by
  have e : L.take (k + 1) = L.take k ++ [L[k]] := (List.take_append_getElem h).symm
  rw [e]; simp only [cntL, List.map_append, List.sum_append, List.map_cons, List.map_nil, List.sum_cons, List.sum_nil, Nat.add_zero]
theorem cntL_le (L : List (List Fnd)) (n : Nat) (h : ∀ l ∈ L, l.length ≤ n) : cntL L ≤ L.length * n := by
  induction L with
  | nil => simp [cntL]
  | cons l L ih =>
    have h1 := ih fun x hx => h x (by simp [hx])
    have h2 := h l (by simp)
    simp only [cntL, List.map_cons, List.sum_cons, List.length_cons, Nat.succ_mul] at h1 ⊢
    omega
end Go.Ab
namespace Go.Proofs.YtmpoeamfcienoaaGreat
open Go.Ab
set_option linter.unusedVariables false
set_option linter.unusedSimpArgs false
set_option maxRecDepth 100000
set_option maxHeartbeats 1000000
theorem rn_slices_Clone_Ledger {ps : List Nat} {tk0 : Tok} {s : AState} (hlen : ps.length * 8 ≤ 140737488355328) : Runs (compCode prog) prog F_slices_Clone_Ledger [.sl (ps.map fun n => .p n 0) tk0] s (fun x s' => ∃ tk, x = .sl (ps.map fun n => .p n 0) tk ∧ Grows s s') := by
  refine runs_e h_slices_Clone_Ledger (Nat.le_of_ble_eq_true rfl) ?_
  repeat (first | simp -dsimp -implicitDefEqProofs (disch := first | omega | (simp <;> omega) | fail) | ((with_reducible first | apply m_1 | apply m_0); (focus ((conv => lhs; simp -dsimp -implicitDefEqProofs (disch := first | omega | (simp <;> omega) | fail)); done))) | ((with_reducible first | apply i_T | apply g_T); (focus (simp -dsimp -implicitDefEqProofs (disch := first | omega | (simp <;> omega) | fail); done))) | ((with_reducible first | apply i_F | apply g_F); (focus (simp -dsimp -implicitDefEqProofs (disch := first | omega | (simp <;> omega) | fail); done))))
  refine i_N (fun hne => ?_) (fun hne b => ?_)
  · repeat (first | simp -dsimp -implicitDefEqProofs (disch := first | omega | (simp <;> omega) | fail) | ((with_reducible first | apply m_1 | apply m_0); (focus ((conv => lhs; simp -dsimp -implicitDefEqProofs (disch := first | omega | (simp <;> omega) | fail)); done))) | ((with_reducible first | apply i_T | apply g_T); (focus (simp -dsimp -implicitDefEqProofs (disch := first | omega | (simp <;> omega) | fail); done))) | ((with_reducible first | apply i_F | apply g_F); (focus (simp -dsimp -implicitDefEqProofs (disch := first | omega | (simp <;> omega) | fail); done))))
    refine m_app (xs := []) (tk := .zero) (ys := ps.map fun n => .p n 0) (t2 := tk0) (B := s) (N := s.n) (by simp) (by simp) (Grows.refl s) (Nat.le_refl _) (Nat.le_refl _) trivial (by simp) (List.all_eq_true.2 fun x hx => by obtain ⟨n, _, rfl⟩ := List.mem_map.1 hx; rfl) (by simp; omega) (by simp; omega) ?_
    intro s' tk2 hg hm _ _
    repeat (first | simp -dsimp -implicitDefEqProofs (disch := first | omega | (simp <;> omega) | fail) | ((with_reducible first | apply m_1 | apply m_0); (focus ((conv => lhs; simp -dsimp -implicitDefEqProofs (disch := first | omega | (simp <;> omega) | fail)); done))) | ((with_reducible first | apply i_T | apply g_T); (focus (simp -dsimp -implicitDefEqProofs (disch := first | omega | (simp <;> omega) | fail); done))) | ((with_reducible first | apply i_F | apply g_F); (focus (simp -dsimp -implicitDefEqProofs (disch := first | omega | (simp <;> omega) | fail); done))))
    exact ret_ok rfl ⟨tk2, by simp [retVal], hg⟩
  · have : ps = [] := by simpa using hne
    subst this
    cases b
    · refine st0 ?_
      exact ret_ok rfl ⟨_, rfl, Grows.refl _⟩
    · refine st0 ?_
      exact ret_ok rfl ⟨_, rfl, Grows.refl _⟩
theorem ct_slices_Values_lFound_ms {lb k : Nat} {s : AState} : Gives prog F_slices_Values_lFound [.ms lb 0 k] s (.f (.func F_slices_Values_lFound_1) [] [.p s.n 0]) (s.alloc (.cells [.ms lb 0 k])) := by
  refine runs_e h_slices_Values_lFound (Nat.le_of_ble_eq_true rfl) ?_
  refine st0 ?_
  exact ret_ok rfl ⟨rfl, rfl⟩
theorem it_slices_Values_lFound_ms (lb k : Nat) (cs : List AV) (hk : cs.length = k) (h1 : ∀ c ∈ cs, c.cells = [c] ∧ c.one = true) (b : Nat) (hlen : k < 9223372036854775808) :
    Iter prog F_slices_Values_lFound_1 [] [.p b 0] (cs.map fun e => [e]) (fun s => s.get b = .cells [.ms lb 0 k] ∧ s.get lb = .cells cs) := by
  intro l s I J hp ha hj hy h0
  refine runs_e h_slices_Values_lFound_1 (Nat.le_of_ble_eq_true rfl) ?_
  refine st1 ((hp 0 s h0).1) ?_
  refine loop_ok [0, 5, 6, 7] (fun m a s1 => ∃ j : Nat, j + m = k ∧ I j s1 ∧ a = { t := den 16 [(0, .y l), (5, .ms lb 0 k), (6, .v (.int .i64 k)), (7, .v (.int .i64 j))], d := [] }) k ?_ ?_
  · exact ⟨0, by simp, h0, by simp⟩
  · rintro m a s1 ⟨j, hjm, hI, rfl⟩
    by_cases hlt : j < k
    · have hw : IntKind.wrap .i64 ((j : Int) + 1) = ((j + 1 : Nat) : Int) := by rw [wrap_i64 (by omega) (by omega)]; omega
      have hj : j < cs.length := by omega
      obtain ⟨hc, ho⟩ := h1 _ (List.getElem_mem hj)
      have e1 := (hp j s1 hI).2
      obtain ⟨A, c, B, hcs, hA⟩ : ∃ A c B, cs = A ++ c :: B ∧ A.length = j := ⟨cs.take j, cs[j], cs.drop (j + 1), by rw [List.getElem_cons_drop]; simp, by simp; omega⟩
      have hcj : cs[j] = c := by simp [hcs, ← hA]
      rw [hcj] at hc ho
      rw [hcs] at e1
      have fd : (A ++ c :: B).drop j = c :: B := drop_mid hA
      have hy' := hy j (by simpa using hj) _ hI
      simp only [List.getElem_map, hcj] at hy'
      refine st5 hlt hc ho e1 fd ?_
      refine yr0 (hy') ?_
      rintro _ s2 (⟨rfl, hI2⟩ | ⟨rfl, hJ⟩)
      · refine st1 hw ?_
        exact ⟨m - 1, by omega, j + 1, by omega, hI2, by simp⟩
      · refine st0 ?_
        exact ret_ok rfl (.inr hJ)
    · refine st1 hlt ?_
      have : j = k := by omega
      subst this
      exact end_ok rfl (.inl (by simpa [hk] using hI))
theorem rn_replay_Replay_Ledgers {b : Nat} {L : List (List Fnd)} {Ms : List (List (Int × LogV))} {F : List Nat} {s : AState} (hR : RpAt s b L Ms F) (hk : L.length ≤ 64) :
    ∃ ps F', LedsAt s ps Ms F' ∧ (∀ x ∈ F', x ∈ F) ∧ Runs (compCode prog) prog F_replay_Replay_Ledgers [.p b 0] s (fun x s' => ∃ tk, x = .sl (ps.map fun n => .p n 0) tk ∧ Grows s s') := by
  obtain ⟨lb, cs, ps, tk, F', rfl, h1, h2, h3, h4, h5, h6, h7⟩ := hR
  have hpl := h5.len
  refine ⟨ps, F', h5, fun x hx => by simp [hx], runs_e h_replay_Replay_Ledgers (Nat.le_of_ble_eq_true rfl) ?_⟩
  have e : ps.map ptr = ps.map fun n => .p n 0 := rfl
  rw [e] at h1
  refine st1 h1 ?_
  refine rn0 (rn_slices_Clone_Ledger (ps := ps) (by omega)) ?_
  rintro _ s1 ⟨tk2, rfl, hg⟩
  refine st0 ?_
  exact ret_ok rfl ⟨tk2, rfl, hg⟩
theorem ct_replay_Replay_Left {b : Nat} {L : List (List Fnd)} {Ms : List (List (Int × LogV))} {F : List Nat} {s : AState} (hR : RpAt s b L Ms F) (hf : FewL L) : Gives prog F_replay_Replay_Left [.p b 0] s (.v (.int .i64 (cntL L))) s := by
  have hlt := hR.lt
  obtain ⟨lb, cs, ps, tk, F', rfl, h1, h2, h3, h4, h5, h6, h7⟩ := hR
  have hb := hlt b (by simp)
  have hlb := hlt lb (by simp)
  have hk := hf.k
  have hones : ∀ c ∈ cs, c.cells = [c] ∧ c.one = true := fun c hc => by
    obtain ⟨i, hi, rfl⟩ := List.getElem_of_mem hc
    obtain ⟨t, e⟩ := h4 i hi (by omega)
    rw [e]; exact ⟨rfl, rfl⟩
  refine Runs.gives (runs_e h_replay_Replay_Left (Nat.le_of_ble_eq_true rfl) ?_) (.v _)
  refine st1 h1 ?_
  refine gv (ct_slices_Values_lFound_ms (lb := lb) (k := L.length)) ?_
  refine st0 ?_
  have hit := it_slices_Values_lFound_ms lb L.length cs h3 hones (s.n + 1) (by omega)
  have hsn : ((s.alloc (.cells [.v (.int .i64 0)])).alloc (.cells [.ms lb 0 L.length])).n = s.n + 2 := by simp
  refine w_rangeS (m := L.length) (by simp) hit (by intro x hx; obtain ⟨p, _, rfl⟩ := List.mem_map.1 hx; rfl) (by simp [h3]) (fun k s' => LftI s (cntL (L.take k)) lb L.length s') (fun _ _ => False) ?_ ?_ ?_ ?_ ?_ ?_ ?_
  · intro LR
    exact ⟨by simp (disch := first | omega | (simp <;> omega) | fail) [cntL], dz0, by simp, fun x hx => dz0⟩
  · intro k s' h; exact ⟨h.b1, (h.old lb hlb).trans h2⟩
  · intro k s' o hn h; exact h.keep (by simp) fun x hx _ => get_alloc_ne (by omega)
  · intro j s' o hn h; exact h
  · intro LR LB LJ hLB hLR k hkk s' hdd hLL hln hI
    have hk' : k < cs.length := by simpa using hkk
    have hkL : k < L.length := by omega
    obtain ⟨t, e⟩ := h4 k hk' hkL
    rw [cntL_snoc hkL]
    have hc1 := cntL_le (L.take k) 30 (fun l hl => hf.n l (List.mem_of_mem_take hl))
    have hc2 := hf.n _ (List.getElem_mem hkL)
    simp only [List.length_take] at hc1
    generalize cntL (L.take k) = c0 at hI hc1 ⊢
    simp only [hsn, List.getElem_map, List.zip_cons_cons, List.zip_nil_right, List.reverse_cons, List.reverse_nil, List.nil_append, List.cons_append, e] at hdd hLL hln ⊢
    have hb0 := hI.b0
    have w4 : IntKind.wrap .i64 ((c0 : Int) + L[k].length) = ((c0 + L[k].length : Nat) : Int) := by rw [wrap_i64 (by omega) (by omega)]; omega
    have hne : s.n ≠ s.n + 2 + 1 := by omega
    refine st3 hLL hb0 w4 ?_
    refine fins_n (fun d hd => by cases hd; simp (disch := first | omega | (simp <;> omega) | fail) [hdd]) (dz0) ?_
    obtain ⟨b0, b1, n, old⟩ := hI
    exact ⟨dz0, dz1 b1, by simpa using n, fun x hx => dz1 (old x hx)⟩
  · rintro s' hdd hln ⟨b0, b1, n, old⟩
    rw [List.take_length] at b0
    simp only [hsn] at hdd hln ⊢
    refine st1 b0 ?_
    refine ret_okD ?_ ?_ rfl ⟨⟨?_, fun x hx => .inl ?_⟩, .refl _⟩
    · simp (disch := first | omega | (simp <;> omega) | fail) [hdd]
    · simp
    · simp [killAll]; omega
    · simp (disch := first | omega | (simp <;> omega) | fail) [killAll, old x hx]
  · intro j s' _ _ h; exact h.elim
end Go.Proofs.YtmpoeamfcienoaaGreat
end
